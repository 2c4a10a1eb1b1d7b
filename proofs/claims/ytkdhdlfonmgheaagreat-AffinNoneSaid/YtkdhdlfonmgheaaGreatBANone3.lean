/- Contracts of the functions that the statement reaches, and the plain laws over them; each theorem stands with its conditions. -/
import Derived.OpenShut
import Derived.Shelf.SlIterI.Nil
import Derived.Shelf.SortM.Plain
import Derived.Shelf.SortM.SortNone
import Derived.Test.YtkdhdlfonmgheaaGreatProg
import Derived.Test.YtkdhdlfonmgheaaGreatRows
import Derived.Test.YtkdhdlfonmgheaaGreatBANone2
namespace Go.Proofs.YtkdhdlfonmgheaaGreat
open Go aQ Go.Proofs.Tryz
theorem wz{B C:Nat->Prop}{w:J}{s x:ad}{ls xs:O Key}(m:bk B w s ls)(hx:ba C w x xs)(hd:∀q,C q->¬aC s q)(z:ls.length<=100000)(A:xs.length<=100000):
 ∃ (d:ad) (w':J),Sem.run ai (Builtin.append_ #[127,127] 127 #[s,x]) w=.ok d w'/\ba (λq=>B q\/C q\/w.heap.size<=q) w' d (ls++xs)/\ae (aC s) w w':=by
 have D:=ba.len hx;obtain⟨ts,h1,j,n,o⟩:=m;obtain⟨us,av,p,E,F,r⟩:=hx;have G:s.len=ls.length:=by have:=j.1;rw[dJ]at this;omega
 obtain⟨d,w',t,f,H,g,u⟩:=qJ.append (dK:=127) p j (wc us) I;refine⟨d,w',t,⟨ts++us,by simp[h1,av],?_,f.2.1,?_,λi v K=>?_⟩,g⟩
 .rw[fE];exact f.src
 .intro k c
  refine⟨?_,f.lt k c⟩;rcases u k c with h|h
  .exact .inl (n k h).1
  .exact .inr (.inr h)
 .rcases ei i ts.length with h|h
  .have l:i<ls.length:=by omega
   rw[pB h,pB l];obtain⟨a,b⟩:=o i h l;exact bo.aZ (bo.iY a g b) λk _ c=>.inl c
  .have y:i-ts.length<us.length:=by rw[cO]at v;omega
   have L:i-ls.length<xs.length:=by omega
   rw[rl h,rl I];have e:i-ls.length=i-ts.length:=by omega
   have a:=r (i-ts.length) y I;simp only[e];exact bo.aZ (bo.iY a g λk c=>hd k (a.2.2 k c).1) λk _ c=>.inr (.inl c)
theorem zO{B C:Nat->Prop}{w:J}{s x:ad}{ds es:O Nat}(d:cI B w s ds)(hx:cz C w x es)(j:ds.length<=100000)(l:es.length<=100000):
 ∃ (a:ad) (w':J),Sem.run ai (Builtin.append_ #[58,58] 58 #[s,x]) w=.ok a w'/\cz (λq=>B q\/C q\/w.heap.size<=q) w' a (ds++es)/\ae (aC s) w w':=by
 have m:=cz.len hx;obtain⟨h1,e⟩:=d;have n:s.len=ds.length:=by have:=h1.1;rw[oT]at this;omega
 obtain⟨a,w',f,b,o,g,i⟩:=qK.append (dK:=58) hx.1 h1 (zt es) I;refine⟨a,w',f,⟨?_,b.2.1,?_⟩,g⟩
 .have:fp ds++fp es=fp (ds++es):=by simp[fp]
  rw[this]at b;exact b.src
 .intro k c
  refine⟨?_,b.lt k c⟩;rcases i k c with h|h
  .exact .inl (e k h).1
  .exact .inr (.inr h)
def zP(pa b aG c:Nat)(key:ad)(G:J)(Q:Y->J->Prop):Prop:=
 bY (λR:J->Prop=>∃H:an,G.cell? pa=some (.bool H)/\((!H)=true->al (G.drew) λI=>∃K:Nat->Prop,¬K (Addr.add b 1).block/\∃k:ad,I.cell? (Addr.add b 1)=some (.slice k.a k.len k.cap)/\Calls ai 135 #[key] I λac l=>∃S:ad,ac=.returned S/\ae K I l/\al (l.alloc (.cells #[S] 48)) λT=>ae K l T/\∃U:ad,∃m:J,Sem.run ai (Builtin.append_ #[127,127] 127 #[k,.slice (some l.heap.size) 1 1]) T=.ok U m/\(∃u:Y,m.cell? (Addr.add b 1)=some u)/\m.frozen? (Addr.add b 1)=false/\al (m.setCell (Addr.add b 1) U) λaf=>R af)/\((!H)=false->R G)) (λ(L:J)=>∃n:ad,L.cell? (Addr.add b 1)=some (.slice n.a n.len n.cap)/\∃o:ad,L.cell? (Addr.add aG 1)=some (.slice o.a o.len o.cap)/\∃V:ad,∃p:J,Sem.run ai (Builtin.append_ #[127,127] 127 #[n,o]) L=.ok V p/\(∃u:Y,p.cell? (Addr.add b 1)=some u)/\p.frozen? (Addr.add b 1)=false/\al (p.setCell (Addr.add b 1) V) λM=>∃q:ad,M.cell? (Addr.add b 2)=some (.slice q.a q.len q.cap)/\∃r:ad,M.cell? (Addr.add aG 2)=some (.slice r.a r.len r.cap)/\∃W:ad,∃s:J,Sem.run ai (Builtin.append_ #[127,127] 127 #[q,r]) M=.ok W s/\(∃u:Y,s.cell? (Addr.add b 2)=some u)/\s.frozen? (Addr.add b 2)=false/\al (s.setCell (Addr.add b 2) W) λN=>∃t:ad,N.cell? (Addr.add b 3)=some (.slice t.a t.len t.cap)/\∃v:ad,N.cell? (Addr.add aG 3)=some (.slice v.a v.len v.cap)/\∃X:ad,∃w:J,Sem.run ai (Builtin.append_ #[58,58] 58 #[t,v]) N=.ok X w/\(∃u:Y,w.cell? (Addr.add b 3)=some u)/\w.frozen? (Addr.add b 3)=false/\al (w.setCell (Addr.add b 3) X) λe=>∃Z:an,e.cell? b=some (.bool Z)/\∃x:ad,e.cell? (Addr.add b 1)=some (.slice x.a x.len x.cap)/\∃y:ad,e.cell? (Addr.add b 2)=some (.slice y.a y.len y.cap)/\∃z:ad,e.cell? (Addr.add b 3)=some (.slice z.a z.len z.cap)/\Calls ai 203 #[.agg #[Z,x,y,z]] e λag d=>∃O:an,ag=.returned O/\((!O)=true->bj d c [false,(),(),()]/\(4:Nat)=4/\al (setCells d c 0 [false,(),(),()]) λf=>∃aa:an,f.cell? c=some (.bool aa)/\∃A:ad,f.cell? (Addr.add c 1)=some (.slice A.a A.len A.cap)/\∃B:ad,f.cell? (Addr.add c 2)=some (.slice B.a B.len B.cap)/\∃C:ad,f.cell? (Addr.add c 3)=some (.slice C.a C.len C.cap)/\Q (.tuple #[.agg #[aa,A,B,C],false]) f)/\((!O)=false->∃P:an,d.cell? b=some (.bool P)/\∃g:ad,d.cell? (Addr.add b 1)=some (.slice g.a g.len g.cap)/\∃h:ad,d.cell? (Addr.add b 2)=some (.slice h.a h.len h.cap)/\∃i:ad,d.cell? (Addr.add b 3)=some (.slice i.a i.len i.cap)/\bj d c [P,g,h,i]/\(4:Nat)=4/\al (setCells d c 0 [P,g,h,i]) λj=>∃ab:an,j.cell? c=some (.bool ab)/\∃D:ad,j.cell? (Addr.add c 1)=some (.slice D.a D.len D.cap)/\∃E:ad,j.cell? (Addr.add c 2)=some (.slice E.a E.len E.cap)/\∃F:ad,j.cell? (Addr.add c 3)=some (.slice F.a F.len F.cap)/\Q (.tuple #[.agg #[ab,D,E,F],true]) j))
theorem jF{lo pa d aG U:Nat}{key W t p ac ag ah:ad}{w b8:J}{a b:aB}{s:Key}{bF bT bw C:Nat->Prop}{aw:O Y}(a4:b8.cell? pa=some (.bool a.leaf))
 (ar:Var b8 d [a.leaf,W,t,p] 202) (ax:Var b8 aG [b.leaf,ac,ag,ah] 202)
 (j:eE lo b8 a W t p bF bT bw) (a5:bu C b8 b ac ag ah) (g:∀q,C q->lo<=q/\q<b8.heap.size/\q≠d/\q≠aG/\¬bF q/\¬bT q/\¬bw q) (F:∀q,bF q\/bT q\/bw q->q≠d/\q≠aG) (a6:lo<=d) (lb:lo<=aG) (ai:d≠aG)
 (a7:Var b8 U aw 202) (a9:aw.length=4) (bG:U<lo) (a_:w.heap.size<=U) (u:Src 1 b8 key (aA s)) (bH:s.length<=1000) (cE:Ext w b8) (hs:cu (dx a s b)) (az:a.leaf=b.leaf) (sa:cu a) (sb:cu b)
 (bM:a.keys.length<=10000) (bf:b.keys.length<=10000):zP pa d aG U key b8 (oX (dx a s b) w):=by
 unfold zP;have bI:=ar.lt;have bJ:=ax.lt;have aD:∀ {n:aB},cu n->n.keys.length<=10000->n.vals.length<=10000/\n.kids.length<=10001:=λ{n} h1 f=>by
  rcases h1 with h1|h1
  .rw[h1.len,h1.kids];exact⟨f,cZ _⟩
  .rw[h1.len,h1.vals];exact⟨cZ _,I⟩
 obtain⟨bK,bL⟩:=aD sa bM;obtain⟨kP,bN⟩:=aD sb bf;have aE:g0 lo b8 d a W t p bF bT bw:=⟨ar,j.keys,j.vals,j.kids,λq c=>⟨(j.bc q c).1,(j.bc q c).2.1,(F q (.inl c)).1,(j.bc q c).2.2⟩,λq c=>⟨(j.bv q c).1,(j.bv q c).2.1,(F q (.inr (.inl c))).1,(j.bv q c).2.2⟩,λq c=>⟨(j.aL q c).1,(j.aL q c).2,(F q (.inr (.inr c))).1⟩,a6⟩;refine kn (λw'=>∃ (K:ad) (X:Nat->Prop),g0 lo w' d ⟨a.leaf,if a.leaf then a.keys else a.keys++ [s],a.vals,a.kids⟩ K t p X bT bw/\ae (λq=>q=d\/bF q) b8 w'/\(∀q,X q->bF q\/b8.heap.size<=q)) (λq c=>⟨_,a4,λx=>?_,λx=>c _ ⟨W,bF,?_,.refl _ _,λq h=>.inl h⟩⟩) ?_
 .have x:a.leaf=false:=by simpa using x
  refine wu aE u I I λw' bb X h1 f H=>c _ ⟨bb,X,?_,f,H⟩;rw[if_neg (by rw[x];simp)];exact h1
 .have x:a.leaf=true:=by simpa using x
  rw[if_pos x];exact aE
 rintro w1 ⟨cX,ak,h1,L,aF⟩;have bO:=L.size;have aH:=ax.af L (by
  rintro(h|h)
  .exact ai h.symm
  .exact(F _ (.inl h)).2 rfl)
 have aI:=a5.af L λq c h=>by
  have:=g q c;rcases h with h|h
  .exact this.2.2.1 h
  .exact this.2.2.2.2.1 h
 have be:=a7.af L (by
  rintro(h|h)
  .omega
  .have:=(j.bc _ h).1;omega)
 have bg:Ext w w1:=Ext.dn cE L λq c=>by
  rcases c with h|h
  .omega
  .have:=(j.bc _ h).1;omega
 obtain⟨M,Z⟩:∃l,l=(if a.leaf then a.keys else a.keys++ [s]):=⟨_,rfl⟩;rw[←Z]at h1;have bP:M.length<=10001:=by
  rw[Z];split
  .omega
  .rw[cO];simp;omega
 obtain⟨bS,aT,a8,bd⟩:=bD h1.v;obtain⟨d0,d1,d2,d3⟩:=bD aH;have y:∀q,aC cX q->ak q:=λk u=>by obtain⟨ts,_,_,H,_⟩:=h1.keys;exact(H k u).1
 have al:∀q,aC t q->bT q:=λk u=>by obtain⟨ts,_,_,H,_⟩:=h1.vals;exact(H k u).1
 have aJ:∀q,aC p q->bw q:=λk u=>(h1.kids.2 k u).1;have aK:∀q,C q->¬aC cX q:=λq c h=>by
  rcases aF q (y q h) with f|f
  .exact(g q c).2.2.2.2.1 f
  .have:=(g q c).2.1;omega
 obtain⟨cJ,aj,N,P,r⟩:=wz h1.keys aI.keys aK (by show M.length<=_;omega) I;have aM:=h1.v.af r λh=>(h1.bc _ (y _ h)).2.2.1 rfl;obtain⟨R,S⟩:=ew aM (i:=1) (by simp);refine⟨cX,aT,ac,d1,cJ,aj,N,?_⟩;rw[ay,ay];refine⟨R,S,aY ?_⟩;obtain⟨m,am⟩:∃m,m=aj.setCell ⟨d,0+1,none⟩ cJ:=⟨_,rfl⟩;rw[←am];have aN:ae (λq=>q=d) aj m:=by rw[am];exact dN _ _ _ _
 have aO:Var m d [a.leaf,cJ,t,p] 202:=by rw[am];exact eu aM _
 have z:ae (λq=>q=d\/aC cX q) w1 m:=(r.mono λq _ h=>.inr h).trans (aN.mono λq _ h=>.inl h);have aP:=aH.af z (by
  rintro(h|h)
  .exact ai h.symm
  .rcases aF _ (y _ h) with f|f
   .exact(F _ (.inl f)).2 rfl
   .omega)
 have aQ:=aI.af z λq c h=>by
  rcases h with h|h
  .exact(g q c).2.2.1 h
  .exact aK q c h
 have bh:=bk.af h1.vals z λq c h=>by
  rcases h with h|h
  .exact(h1.bv q c).2.2.1 h
  .exact(h1.bc q (y q h)).2.2.2.1 c
 have bi:=cI.af h1.kids z λq c h=>by
  rcases h with h|h
  .exact(h1.aL q c).2.2 h
  .exact(h1.bc q (y q h)).2.2.2.2 c
 have bj:=be.af z (by
  rintro(h|h)
  .omega
  .have:=(h1.bc _ (y _ h)).1;omega)
 have bl:Ext w m:=Ext.dn bg z λq c=>by
  rcases c with h|h
  .omega
  .have:=(h1.bc _ (y _ h)).1;omega
 have bm:ba (λq=>(ak q\/C q\/w1.heap.size<=q)/\q≠d) m cJ (M++b.keys):=by
  have an:ba (λq=>(ak q\/C q\/w1.heap.size<=q)/\q≠d) aj cJ (M++b.keys):=ba.aZ P λq _ c=>⟨c,by
   rcases c with h|h|h
   .exact(h1.bc _ h).2.2.1
   .exact(g _ h).2.2.1
   .omega⟩
  exact ba.af an aN λq c h=>c.2 h
 obtain⟨bS,aT,a8,bd⟩:=bD aO;obtain⟨d0,d1,d2,d3⟩:=bD aP;have bQ:=z.size
 obtain⟨dk,aa,N,P,r⟩:=wz bh aQ.vals (λq c h=>(g q c).2.2.2.2.2.1 (al q h)) (by show a.vals.length<=_;omega) I;have aR:=aO.af r λh=>(h1.bv _ (al _ h)).2.2.1 rfl;obtain⟨R,S⟩:=ew aR (i:=2) (by simp);rw[ay]at a8 d2;refine⟨t,a8,ag,d2,dk,aa,N,?_⟩;rw[ay,ay];refine⟨R,S,aY ?_⟩;obtain⟨o,ao⟩:∃o,o=aa.setCell ⟨d,0+2,none⟩ dk:=⟨_,rfl⟩;rw[←ao];have aS:ae (λq=>q=d) aa o:=by rw[ao];exact dN _ _ _ _
 have aU:Var o d [a.leaf,cJ,dk,p] 202:=by rw[ao];exact eu aR _
 have A:ae (λq=>q=d\/bT q) m o:=(r.mono λq _ h=>.inr (al q h)).trans (aS.mono λq _ h=>.inl h);have bn:=aP.af A (by
  rintro(h|h)
  .exact ai h.symm
  .exact(F _ (.inr (.inl h))).2 rfl)
 have bo:=aQ.af A λq c h=>by
  rcases h with h|h
  .exact(g q c).2.2.1 h
  .exact(g q c).2.2.2.2.2.1 h
 have bp:=ba.af bm A λq c h=>by
  rcases h with h|h
  .exact c.2 h
  .rcases c.1 with f|f|f
   .exact(h1.bc _ f).2.2.2.1 h
   .exact(g _ f).2.2.2.2.2.1 h
   .have:=(h1.bv _ h).2.1;omega
 have bq:=cI.af bi A λq c h=>by
  rcases h with h|h
  .exact(h1.aL q c).2.2 h
  .exact(h1.bv q h).2.2.2 c
 have br:=bj.af A (by
  rintro(h|h)
  .omega
  .have:=(h1.bv _ h).1;omega)
 have bs:Ext w o:=Ext.dn bl A λq c=>by
  rcases c with h|h
  .omega
  .have:=(h1.bv _ h).1;omega
 have bt:ba (λq=>(bT q\/C q\/m.heap.size<=q)/\q≠d) o dk (a.vals++b.vals):=by
  have an:ba (λq=>(bT q\/C q\/m.heap.size<=q)/\q≠d) aa dk (a.vals++b.vals):=ba.aZ P λq _ c=>⟨c,by
   rcases c with h|h|h
   .exact(h1.bv _ h).2.2.1
   .exact(g _ h).2.2.1
   .omega⟩
  exact ba.af an aS λq c h=>c.2 h
 obtain⟨bS,aT,a8,bd⟩:=bD aU;obtain⟨d0,d1,d2,d3⟩:=bD bn;have bR:=A.size
 obtain⟨fz,ap,N,P,r⟩:=zO bq bo.kids (by show a.kids.length<=_;omega) I;have aV:=aU.af r λh=>(h1.aL _ (aJ _ h)).2.2 rfl;obtain⟨R,S⟩:=ew aV (i:=3) (by simp);rw[ay]at bd d3;refine⟨p,bd,ah,d3,fz,ap,N,?_⟩;rw[ay,ay];refine⟨R,S,aY ?_⟩;obtain⟨E,aq⟩:∃E,E=ap.setCell ⟨d,0+3,none⟩ fz:=⟨_,rfl⟩;rw[←aq];have aW:ae (λq=>q=d) ap E:=by rw[aq];exact dN _ _ _ _
 have aX:Var E d [a.leaf,cJ,dk,fz] 202:=by rw[aq];exact eu aV _
 have T:ae (λq=>q=d\/bw q) o E:=(r.mono λq _ h=>.inr (aJ q h)).trans (aW.mono λq _ h=>.inl h);have bx:=ba.af bp T λq c h=>by
  rcases h with h|h
  .exact c.2 h
  .rcases c.1 with f|f|f
   .exact(h1.bc _ f).2.2.2.2 h
   .exact(g _ f).2.2.2.2.2.2 h
   .have:=(h1.aL _ h).2.1;omega
 have bz:=ba.af bt T λq c h=>by
  rcases h with h|h
  .exact c.2 h
  .rcases c.1 with f|f|f
   .exact(h1.bv _ f).2.2.2 h
   .exact(g _ f).2.2.2.2.2.2 h
   .have:=(h1.aL _ h).2.1;omega
 have bA:=br.af T (by
  rintro(h|h)
  .omega
  .have:=(h1.aL _ h).1;omega)
 have bB:Ext w E:=Ext.dn bs T λq c=>by
  rcases c with h|h
  .omega
  .have:=(h1.aL _ h).1;omega
 have bU:=T.size;have a0:bu (λq=>lo<=q) E (dx a s b) cJ dk fz:=by
  have j8:dx a s b=⟨a.leaf,M++b.keys,a.vals++b.vals,a.kids++b.kids⟩:=by
   unfold dx
   cases G:a.leaf with
   |true=>
    have au:a.kids=[]:=by
     rcases sa with h|h
     .exact h.kids
     .have:=h.inner;rw[G]at this;cases this
    have kb:b.kids=[]:=by
     rcases sb with h|h
     .exact h.kids
     .have:=h.inner;rw[←az,G]at this;cases this
    rw[Z,G,au,kb];simp
   |false=>
    have au:a.vals=[]:=by
     rcases sa with h|h
     .have:=h.leaf;rw[G]at this;cases this
     .exact h.vals
    have kb:b.vals=[]:=by
     rcases sb with h|h
     .have:=h.leaf;rw[←az,G]at this;cases this
     .exact h.vals
    rw[Z,G,au,kb];simp
  rw[j8];refine⟨ba.aZ bx λq _ c=>?_,ba.aZ bz λq _ c=>?_,cz.aZ (cz.af (B:=λq=>(bw q\/C q\/o.heap.size<=q)/\q≠d) (cz.aZ P λq _ c=>⟨c,?_⟩) aW λq c h=>c.2 h) λq _ c=>?_⟩
  .rcases c.1 with h|h|h
   .exact(h1.bc _ h).1
   .exact(g _ h).1
   .omega
  .rcases c.1 with h|h|h
   .exact(h1.bv _ h).1
   .exact(g _ h).1
   .omega
  .rcases c with h|h|h
   .exact(h1.aL _ h).2.2
   .exact(g _ h).2.2.1
   .omega
  .rcases c.1 with h|h|h
   .exact(h1.aL _ h).1
   .exact(g _ h).1
   .omega
 obtain⟨bS,aT,a8,bd⟩:=bD aX;rw[ay]at aT a8 bd;have bV:(dx a s b).keys.length<=20001:=by
  unfold dx;split
  .show(a.keys++b.keys).length<=_;rw[cO];omega
  .show(a.keys++s::b.keys).length<=_;rw[cO,hO];omega
 have bW:(dx a s b).vals.length<=20001:=by
  unfold dx;split
  .show(a.vals++b.vals).length<=_;rw[cO];omega
  .simp
 have bX:(dx a s b).kids.length<=20002:=by
  unfold dx;split
  .simp
  .show(a.kids++b.kids).length<=_;rw[cO];omega
 have a1:(dx a s b).leaf=a.leaf:=zd
 repeat rw[ay]
 refine⟨_,bS,cJ,aT,dk,a8,fz,bd,?_⟩;have av:=jy a0 I I I;unfold c2 at av;rw[a1]at av;refine av.use ?_;rintro _ bY ⟨bZ,rfl,bC,ab⟩;have:=bC.2 hs;subst this;obtain⟨bS,aT,a8,bd⟩:=bD (aX.ext ab);rw[ay]at aT a8 bd;have a2:=iE a.leaf cJ dk fz (bA.ext ab) a9 (Q:=λbE K V D aj=>oX (dx a s b) w (.tuple #[.agg #[bE,K,V,D],true]) aj) λb0 a3=>⟨cJ,dk,fz,by unfold c2;rw[a1],((a0.ext ab).af a3 λq c e=>I).aZ λq _ c=>I,Ext.cy (bB.trans ab) a3 a_⟩
 repeat rw[ay]at a2
 exact⟨true,rfl,λh=>(by cases h),λ_=>⟨_,bS,cJ,aT,dk,a8,fz,bd,a2⟩⟩
theorem m5{be bg:Nat->Prop}{w:J}{a b:aB}{aJ aK aM aN aO aP key:ad}{s:Key}(a5:bu be w a aJ aK aM)(a6:bu bg w b aN aO aP)(aD:Src 1 w key (aA s))(Y:∀q,aC key q->q<w.heap.size)(Z:s.length<=1000)(sa:cu a)(sb:cu b)(W:a.leaf=b.leaf)(hs:cu (dx a s b))
 (bM:a.keys.length<=10000) (bf:b.keys.length<=10000):
 aH ai 282 #[c2 a aJ aK aM,key,c2 b aN aO aP] w (oX (dx a s b) w):=by
 have a7:∀ {n:aB},cu n->n.keys.length<=10000->n.vals.length<=10000/\n.kids.length<=10001:=λ{n} h1 R=>by
  rcases h1 with h1|h1
  .rw[h1.len,h1.kids];exact⟨R,cZ _⟩
  .rw[h1.len,h1.vals];exact⟨cZ _,I⟩
 obtain⟨bp,bq⟩:=a7 sa bM;obtain⟨kP,br⟩:=a7 sb bf;have aU:∀k∈a.keys,k.length<=100000:=λk aD=>by have:=(sa.keys.ok k aD).2;omega
 have ah:∀k∈b.keys,k.length<=100000:=λk aD=>by have:=(sb.keys.ok k aD).2;omega
 have aV:∀k∈a.vals,k.length<=100000:=λk aD=>by have:=sa.vals k aD;omega
 have ak:∀k∈b.vals,k.length<=100000:=λk aD=>by have:=sb.vals k aD;omega
 refine okF (ag.m5 a.leaf aJ aK aM key b.leaf aN aO aP) az.m5 func282 ?_;(delta ag.m5 z4 aX aa r1 b_ sm ao si sd gg bX bG se st sf mI;dsimp only);refine a_ (vs:=[a.leaf,aJ,aK,aM]) rfl λw1 a3 bh bs=>?_;refine a_ (vs:=[b.leaf,aN,aO,aP]) rfl λaj a4 a1 bt=>?_;refine a_ (vs:=[false,(),(),()]) rfl λbi bj aQ bw=>?_;have a9:=bh.trans (a1.trans aQ);obtain⟨bS,aT,a8,bd⟩:=bD (a3.ext (a1.trans aQ));refine⟨_,bS,aJ,aT,aK,a8,aM,bd,(jy (a5.ext a9) I I I).use ?_⟩;rintro _ bk ⟨cg,rfl,bl,aI⟩;have:=bl.2 sa;subst this;have ba:=a9.trans aI;obtain⟨d0,d1,d2,d3⟩:=bD (a4.ext (aQ.trans aI));refine⟨true,rfl,cC (λb w'=>b=false/\Ext bk w') (λq c=>⟨λh=>(by cases h),λ_=>⟨_,d0,aN,d1,aO,d2,aP,d3,(jy (a6.ext ba) I I I).use ?_⟩⟩) ?_⟩
 .rintro _ a2 ⟨bH,rfl,bm,aE⟩
  have:=bm.2 sb;subst this;exact⟨true,rfl,c _ _ ⟨rfl,aE⟩⟩
 rintro _ a2 ⟨rfl,aE⟩;have bn:=ba.trans aE;obtain⟨bS,aT,a8,bd⟩:=bD (a3.ext (a1.trans (aQ.trans (aI.trans aE))));obtain⟨d0,d1,d2,d3⟩:=bD (a4.ext (aQ.trans (aI.trans aE)));refine cC (λb w'=>b=false/\a2=w') (λq c=>⟨λh=>(by cases h),λ_=>⟨_,bS,_,d0,c _ _ ⟨by rw[W];simp,rfl⟩⟩⟩) ?_;rintro _ _ ⟨rfl,rfl⟩;have aW:=cL a2;have bb:=bn.trans aW;obtain⟨Q,aR⟩:∃Q,Q=a2.drew:=⟨_,rfl⟩;have X:Var Q w.heap.size [a.leaf,aJ,aK,aM] 202:=by rw[aR];exact(a3.ext (a1.trans (aQ.trans (aI.trans aE)))).ext aW
 have bo:Var Q w1.heap.size [b.leaf,aN,aO,aP] 202:=by rw[aR];exact(a4.ext (aQ.trans (aI.trans aE))).ext aW
 have ab:Var Q aj.heap.size [false,(),(),()] 202:=by rw[aR];exact(bj.ext (aI.trans aE)).ext aW
 have P:Ext w Q:=by rw[aR];exact bb
 have bx:bi.heap.size<=Q.heap.size:=by rw[aR];exact(aI.trans aE).size
 have a0:=a5.ext P;have al:=a6.ext P;have ac:=aD.ext P;obtain⟨lo,bz⟩:∃lo,lo=Q.heap.size:=⟨_,rfl⟩;rw[←aR];clear bS aT a8 bd d0 d1 d2 d3 aR bb aW;obtain⟨bS,aT,a8,bd⟩:=bD X;obtain⟨d0,d1,d2,d3⟩:=bD bo;refine⟨λh=>(by cases h),λ_=>aY ⟨λ_=>False,id,_,bS,aJ,aT,aK,a8,aM,bd,id,_,d0,aN,d1,aO,d2,aP,d3,?_⟩⟩;refine⟨?_,?_,?_⟩
 .refine(er a0 I I I aU aV).use ?_
  rintro _ L ⟨G,H,K,M,N,O,rfl,d,av⟩;refine⟨_,G,H,K,rfl,av,?_⟩;have s1:=av.size;refine⟨?_,?_,?_⟩
  .refine(er (al.ext av) I I I ah ak).use ?_
   rintro _ x ⟨r,t,u,aw,ax,ay,rfl,V,i⟩;refine⟨_,r,t,u,rfl,i,?_⟩;have s2:=i.size;refine⟨?_,?_⟩
   .refine a_ (vs:=[false,(),(),()]) rfl λv am g z3=>⟨g,?_⟩
    have an:=g.size;refine a_ (vs:=[false,(),(),()]) rfl λy ap f z4=>⟨f,?_⟩;have aq:=f.size;have z:=am.ext f;have S:=ap;refine⟨z.bV rfl (e6 _ _ _ _),rfl,cm z (us:=[a.leaf,G,H,K]) rfl rfl λar A cH t5=>?_⟩;have B:=S.af cH I;refine⟨B.bV rfl (e6 _ _ _ _),rfl,cm B (us:=[b.leaf,r,t,u]) rfl rfl λl D o t6=>?_⟩;obtain⟨p,E⟩:∃p,p=x.heap.size:=⟨_,rfl⟩;obtain⟨aG,F⟩:∃aG,aG=v.heap.size:=⟨_,rfl⟩;rw[←E]at A cH;rw[←F]at D o;rw[←E,←F];have j:ae (λq=>q=p\/q=aG) y l:=(cH.mono λq _ h=>.inl h).trans (o.mono λq _ h=>.inr h);have T:eE lo l a G H K M N O:=(((d.ext (i.trans (g.trans (f)))).af j λq _ _ c e=>by have au:Q.heap.size<=q/\q<L.heap.size:=(by rcases c with c|c|c;exact⟨(d.bc q c).1,(d.bc q c).2.1⟩;exact⟨(d.bv q c).1,(d.bv q c).2.1⟩;exact d.aL q c);omega).low I);have U:bu (λq=>L.heap.size<=q/\q<x.heap.size) l b r t u:=((V.at.aZ λq h1 R=>⟨R,h1⟩).ext (g.trans (f))).af j λq c e=>by omega
    have m:∀q,M q\/N q\/O q->Q.heap.size<=q/\q<L.heap.size:=λq c=>by
     rcases c with c|c|c
     .exact⟨(d.bc q c).1,(d.bc q c).2.1⟩
     .exact⟨(d.bv q c).1,(d.bv q c).2.1⟩
     .exact d.aL q c
    exact jF (lo:=lo) (b8:=l) (C:=λq=>L.heap.size<=q/\q<x.heap.size) ((X.ext (av.trans (i.trans (g.trans f)))).af j I).cell (A.af o I) D T U (λq c=>⟨I,I,I,I,λh=>(by have:=m q (.inl h);omega),λh=>(by have:=m q (.inr (.inl h));omega),λh=>(by have:=m q (.inr (.inr h));omega)⟩) (λq c=>(by have:=m q c;exact⟨I,I⟩)) I I I ((ab.ext (av.trans (i.trans (g.trans f)))).af j I) rfl I I ((ac.ext (av.trans (i.trans (g.trans f)))).af j λq c e=>(by have:=Y q c;have:=P.size;omega)) Z (Ext.dn (P.trans (av.trans (i.trans (g.trans f)))) j λq c=>I) hs W sa sb bM bf
   .refine a_ (vs:=[false,(),(),()]) rfl λv am g z3=>⟨g,?_⟩
    have an:=g.size;refine a_ (vs:=[false,(),(),()]) rfl λy ap f z4=>⟨f,?_⟩;have aq:=f.size;have z:=ap;have S:=am.ext f;refine⟨z.bV rfl (e6 _ _ _ _),rfl,cm z (us:=[a.leaf,G,H,K]) rfl rfl λar A cH t5=>?_⟩;have B:=S.af cH I;refine⟨B.bV rfl (e6 _ _ _ _),rfl,cm B (us:=[b.leaf,r,t,u]) rfl rfl λl D o t6=>?_⟩;obtain⟨p,E⟩:∃p,p=v.heap.size:=⟨_,rfl⟩;obtain⟨aG,F⟩:∃aG,aG=x.heap.size:=⟨_,rfl⟩;rw[←E]at A cH;rw[←F]at D o;rw[←E,←F];have j:ae (λq=>q=p\/q=aG) y l:=(cH.mono λq _ h=>.inl h).trans (o.mono λq _ h=>.inr h);have T:eE lo l a G H K M N O:=(((d.ext (i.trans (g.trans (f)))).af j λq _ _ c e=>by have au:Q.heap.size<=q/\q<L.heap.size:=(by rcases c with c|c|c;exact⟨(d.bc q c).1,(d.bc q c).2.1⟩;exact⟨(d.bv q c).1,(d.bv q c).2.1⟩;exact d.aL q c);omega).low I);have U:bu (λq=>L.heap.size<=q/\q<x.heap.size) l b r t u:=((V.at.aZ λq h1 R=>⟨R,h1⟩).ext (g.trans (f))).af j λq c e=>by omega
    have m:∀q,M q\/N q\/O q->Q.heap.size<=q/\q<L.heap.size:=λq c=>by
     rcases c with c|c|c
     .exact⟨(d.bc q c).1,(d.bc q c).2.1⟩
     .exact⟨(d.bv q c).1,(d.bv q c).2.1⟩
     .exact d.aL q c
    exact jF (lo:=lo) (b8:=l) (C:=λq=>L.heap.size<=q/\q<x.heap.size) ((X.ext (av.trans (i.trans (g.trans f)))).af j I).cell (A.af o I) D T U (λq c=>⟨I,I,I,I,λh=>(by have:=m q (.inl h);omega),λh=>(by have:=m q (.inr (.inl h));omega),λh=>(by have:=m q (.inr (.inr h));omega)⟩) (λq c=>(by have:=m q c;exact⟨I,I⟩)) I I I ((ab.ext (av.trans (i.trans (g.trans f)))).af j I) rfl I I ((ac.ext (av.trans (i.trans (g.trans f)))).af j λq c e=>(by have:=Y q c;have:=P.size;omega)) Z (Ext.dn (P.trans (av.trans (i.trans (g.trans f)))) j λq c=>I) hs W sa sb bM bf
  .refine a_ (vs:=[false,(),(),()]) rfl λx aF i fm=>⟨i,?_⟩
   have s2:=i.size;refine⟨?_,?_⟩
   .refine(er (al.ext (av.trans (i))) I I I ah ak).use ?_
    rintro _ v ⟨r,t,u,aw,ax,ay,rfl,V,g⟩;refine⟨_,r,t,u,rfl,g,?_⟩;have an:=g.size;refine a_ (vs:=[false,(),(),()]) rfl λy ap f z4=>⟨f,?_⟩;have aq:=f.size;have z:=aF.ext (g.trans (f));have S:=ap;refine⟨z.bV rfl (e6 _ _ _ _),rfl,cm z (us:=[a.leaf,G,H,K]) rfl rfl λar A cH t5=>?_⟩;have B:=S.af cH I;refine⟨B.bV rfl (e6 _ _ _ _),rfl,cm B (us:=[b.leaf,r,t,u]) rfl rfl λl D o t6=>?_⟩;obtain⟨p,E⟩:∃p,p=L.heap.size:=⟨_,rfl⟩;obtain⟨aG,F⟩:∃aG,aG=v.heap.size:=⟨_,rfl⟩;rw[←E]at A cH;rw[←F]at D o;rw[←E,←F];have j:ae (λq=>q=p\/q=aG) y l:=(cH.mono λq _ h=>.inl h).trans (o.mono λq _ h=>.inr h);have T:eE lo l a G H K M N O:=(((d.ext (i.trans (g.trans (f)))).af j λq _ _ c e=>by have au:Q.heap.size<=q/\q<L.heap.size:=(by rcases c with c|c|c;exact⟨(d.bc q c).1,(d.bc q c).2.1⟩;exact⟨(d.bv q c).1,(d.bv q c).2.1⟩;exact d.aL q c);omega).low I);have U:bu (λq=>x.heap.size<=q/\q<v.heap.size) l b r t u:=((V.at.aZ λq h1 R=>⟨R,h1⟩).ext f).af j λq c e=>by omega
    have m:∀q,M q\/N q\/O q->Q.heap.size<=q/\q<L.heap.size:=λq c=>by
     rcases c with c|c|c
     .exact⟨(d.bc q c).1,(d.bc q c).2.1⟩
     .exact⟨(d.bv q c).1,(d.bv q c).2.1⟩
     .exact d.aL q c
    exact jF (lo:=lo) (b8:=l) (C:=λq=>x.heap.size<=q/\q<v.heap.size) ((X.ext (av.trans (i.trans (g.trans f)))).af j I).cell (A.af o I) D T U (λq c=>⟨I,I,I,I,λh=>(by have:=m q (.inl h);omega),λh=>(by have:=m q (.inr (.inl h));omega),λh=>(by have:=m q (.inr (.inr h));omega)⟩) (λq c=>(by have:=m q c;exact⟨I,I⟩)) I I I ((ab.ext (av.trans (i.trans (g.trans f)))).af j I) rfl I I ((ac.ext (av.trans (i.trans (g.trans f)))).af j λq c e=>(by have:=Y q c;have:=P.size;omega)) Z (Ext.dn (P.trans (av.trans (i.trans (g.trans f)))) j λq c=>I) hs W sa sb bM bf
   .refine a_ (vs:=[false,(),(),()]) rfl λv am g z3=>⟨g,?_⟩
    have an:=g.size;refine(er (al.ext (av.trans (i.trans (g)))) I I I ah ak).use ?_;rintro _ y ⟨r,t,u,aw,ax,ay,rfl,V,f⟩;refine⟨_,r,t,u,rfl,f,?_⟩;have aq:=f.size;have z:=aF.ext (g.trans (f));have S:=am.ext f;refine⟨z.bV rfl (e6 _ _ _ _),rfl,cm z (us:=[a.leaf,G,H,K]) rfl rfl λar A cH t5=>?_⟩;have B:=S.af cH I;refine⟨B.bV rfl (e6 _ _ _ _),rfl,cm B (us:=[b.leaf,r,t,u]) rfl rfl λl D o t6=>?_⟩;obtain⟨p,E⟩:∃p,p=L.heap.size:=⟨_,rfl⟩;obtain⟨aG,F⟩:∃aG,aG=x.heap.size:=⟨_,rfl⟩;rw[←E]at A cH;rw[←F]at D o;rw[←E,←F];have j:ae (λq=>q=p\/q=aG) y l:=(cH.mono λq _ h=>.inl h).trans (o.mono λq _ h=>.inr h);have T:eE lo l a G H K M N O:=(((d.ext (i.trans (g.trans (f)))).af j λq _ _ c e=>by have au:Q.heap.size<=q/\q<L.heap.size:=(by rcases c with c|c|c;exact⟨(d.bc q c).1,(d.bc q c).2.1⟩;exact⟨(d.bv q c).1,(d.bv q c).2.1⟩;exact d.aL q c);omega).low I);have U:bu (λq=>v.heap.size<=q/\q<y.heap.size) l b r t u:=(V.at.aZ λq h1 R=>⟨R,h1⟩).af j λq c e=>by omega
    have m:∀q,M q\/N q\/O q->Q.heap.size<=q/\q<L.heap.size:=λq c=>by
     rcases c with c|c|c
     .exact⟨(d.bc q c).1,(d.bc q c).2.1⟩
     .exact⟨(d.bv q c).1,(d.bv q c).2.1⟩
     .exact d.aL q c
    exact jF (lo:=lo) (b8:=l) (C:=λq=>v.heap.size<=q/\q<y.heap.size) ((X.ext (av.trans (i.trans (g.trans f)))).af j I).cell (A.af o I) D T U (λq c=>⟨I,I,I,I,λh=>(by have:=m q (.inl h);omega),λh=>(by have:=m q (.inr (.inl h));omega),λh=>(by have:=m q (.inr (.inr h));omega)⟩) (λq c=>(by have:=m q c;exact⟨I,I⟩)) I I I ((ab.ext (av.trans (i.trans (g.trans f)))).af j I) rfl I I ((ac.ext (av.trans (i.trans (g.trans f)))).af j λq c e=>(by have:=Y q c;have:=P.size;omega)) Z (Ext.dn (P.trans (av.trans (i.trans (g.trans f)))) j λq c=>I) hs W sa sb bM bf
  .refine a_ (vs:=[false,(),(),()]) rfl λx aF i fm=>⟨i,?_⟩
   have s2:=i.size;refine⟨?_,?_⟩
   .refine(er (al.ext (av.trans (i))) I I I ah ak).use ?_
    rintro _ v ⟨r,t,u,aw,ax,ay,rfl,V,g⟩;refine⟨_,r,t,u,rfl,g,?_⟩;have an:=g.size;refine a_ (vs:=[false,(),(),()]) rfl λy ap f z4=>⟨f,?_⟩;have aq:=f.size;have z:=ap;have S:=aF.ext (g.trans (f));refine⟨z.bV rfl (e6 _ _ _ _),rfl,cm z (us:=[a.leaf,G,H,K]) rfl rfl λar A cH t5=>?_⟩;have B:=S.af cH I;refine⟨B.bV rfl (e6 _ _ _ _),rfl,cm B (us:=[b.leaf,r,t,u]) rfl rfl λl D o t6=>?_⟩;obtain⟨p,E⟩:∃p,p=v.heap.size:=⟨_,rfl⟩;obtain⟨aG,F⟩:∃aG,aG=L.heap.size:=⟨_,rfl⟩;rw[←E]at A cH;rw[←F]at D o;rw[←E,←F];have j:ae (λq=>q=p\/q=aG) y l:=(cH.mono λq _ h=>.inl h).trans (o.mono λq _ h=>.inr h);have T:eE lo l a G H K M N O:=(((d.ext (i.trans (g.trans (f)))).af j λq _ _ c e=>by have au:Q.heap.size<=q/\q<L.heap.size:=(by rcases c with c|c|c;exact⟨(d.bc q c).1,(d.bc q c).2.1⟩;exact⟨(d.bv q c).1,(d.bv q c).2.1⟩;exact d.aL q c);omega).low I);have U:bu (λq=>x.heap.size<=q/\q<v.heap.size) l b r t u:=((V.at.aZ λq h1 R=>⟨R,h1⟩).ext f).af j λq c e=>by omega
    have m:∀q,M q\/N q\/O q->Q.heap.size<=q/\q<L.heap.size:=λq c=>by
     rcases c with c|c|c
     .exact⟨(d.bc q c).1,(d.bc q c).2.1⟩
     .exact⟨(d.bv q c).1,(d.bv q c).2.1⟩
     .exact d.aL q c
    exact jF (lo:=lo) (b8:=l) (C:=λq=>x.heap.size<=q/\q<v.heap.size) ((X.ext (av.trans (i.trans (g.trans f)))).af j I).cell (A.af o I) D T U (λq c=>⟨I,I,I,I,λh=>(by have:=m q (.inl h);omega),λh=>(by have:=m q (.inr (.inl h));omega),λh=>(by have:=m q (.inr (.inr h));omega)⟩) (λq c=>(by have:=m q c;exact⟨I,I⟩)) I I I ((ab.ext (av.trans (i.trans (g.trans f)))).af j I) rfl I I ((ac.ext (av.trans (i.trans (g.trans f)))).af j λq c e=>(by have:=Y q c;have:=P.size;omega)) Z (Ext.dn (P.trans (av.trans (i.trans (g.trans f)))) j λq c=>I) hs W sa sb bM bf
   .refine a_ (vs:=[false,(),(),()]) rfl λv am g z3=>⟨g,?_⟩
    have an:=g.size;refine(er (al.ext (av.trans (i.trans (g)))) I I I ah ak).use ?_;rintro _ y ⟨r,t,u,aw,ax,ay,rfl,V,f⟩;refine⟨_,r,t,u,rfl,f,?_⟩;have aq:=f.size;have z:=am.ext f;have S:=aF.ext (g.trans (f));refine⟨z.bV rfl (e6 _ _ _ _),rfl,cm z (us:=[a.leaf,G,H,K]) rfl rfl λar A cH t5=>?_⟩;have B:=S.af cH I;refine⟨B.bV rfl (e6 _ _ _ _),rfl,cm B (us:=[b.leaf,r,t,u]) rfl rfl λl D o t6=>?_⟩;obtain⟨p,E⟩:∃p,p=x.heap.size:=⟨_,rfl⟩;obtain⟨aG,F⟩:∃aG,aG=L.heap.size:=⟨_,rfl⟩;rw[←E]at A cH;rw[←F]at D o;rw[←E,←F];have j:ae (λq=>q=p\/q=aG) y l:=(cH.mono λq _ h=>.inl h).trans (o.mono λq _ h=>.inr h);have T:eE lo l a G H K M N O:=(((d.ext (i.trans (g.trans (f)))).af j λq _ _ c e=>by have au:Q.heap.size<=q/\q<L.heap.size:=(by rcases c with c|c|c;exact⟨(d.bc q c).1,(d.bc q c).2.1⟩;exact⟨(d.bv q c).1,(d.bv q c).2.1⟩;exact d.aL q c);omega).low I);have U:bu (λq=>v.heap.size<=q/\q<y.heap.size) l b r t u:=(V.at.aZ λq h1 R=>⟨R,h1⟩).af j λq c e=>by omega
    have m:∀q,M q\/N q\/O q->Q.heap.size<=q/\q<L.heap.size:=λq c=>by
     rcases c with c|c|c
     .exact⟨(d.bc q c).1,(d.bc q c).2.1⟩
     .exact⟨(d.bv q c).1,(d.bv q c).2.1⟩
     .exact d.aL q c
    exact jF (lo:=lo) (b8:=l) (C:=λq=>v.heap.size<=q/\q<y.heap.size) ((X.ext (av.trans (i.trans (g.trans f)))).af j I).cell (A.af o I) D T U (λq c=>⟨I,I,I,I,λh=>(by have:=m q (.inl h);omega),λh=>(by have:=m q (.inr (.inl h));omega),λh=>(by have:=m q (.inr (.inr h));omega)⟩) (λq c=>(by have:=m q c;exact⟨I,I⟩)) I I I ((ab.ext (av.trans (i.trans (g.trans f)))).af j I) rfl I I ((ac.ext (av.trans (i.trans (g.trans f)))).af j λq c e=>(by have:=Y q c;have:=P.size;omega)) Z (Ext.dn (P.trans (av.trans (i.trans (g.trans f)))) j λq c=>I) hs W sa sb bM bf
 .refine a_ (vs:=[false,(),(),()]) rfl λL aS av iV=>⟨av,?_⟩
  have s1:=av.size;refine⟨?_,?_⟩
  .refine(er (a0.ext av) I I I aU aV).use ?_
   rintro _ x ⟨G,H,K,M,N,O,rfl,d,i⟩;refine⟨_,G,H,K,rfl,i,?_⟩;have s2:=i.size;refine⟨?_,?_⟩
   .refine(er (al.ext (av.trans (i))) I I I ah ak).use ?_
    rintro _ v ⟨r,t,u,aw,ax,ay,rfl,V,g⟩;refine⟨_,r,t,u,rfl,g,?_⟩;have an:=g.size;refine a_ (vs:=[false,(),(),()]) rfl λy ap f z4=>⟨f,?_⟩;have aq:=f.size;have z:=aS.ext (i.trans (g.trans (f)));have S:=ap;refine⟨z.bV rfl (e6 _ _ _ _),rfl,cm z (us:=[a.leaf,G,H,K]) rfl rfl λar A cH t5=>?_⟩;have B:=S.af cH I;refine⟨B.bV rfl (e6 _ _ _ _),rfl,cm B (us:=[b.leaf,r,t,u]) rfl rfl λl D o t6=>?_⟩;obtain⟨p,E⟩:∃p,p=Q.heap.size:=⟨_,rfl⟩;obtain⟨aG,F⟩:∃aG,aG=v.heap.size:=⟨_,rfl⟩;rw[←E]at A cH;rw[←F]at D o;rw[←E,←F];have j:ae (λq=>q=p\/q=aG) y l:=(cH.mono λq _ h=>.inl h).trans (o.mono λq _ h=>.inr h);have T:eE lo l a G H K M N O:=(((d.ext (g.trans (f))).af j λq _ _ c e=>by have au:L.heap.size<=q/\q<x.heap.size:=(by rcases c with c|c|c;exact⟨(d.bc q c).1,(d.bc q c).2.1⟩;exact⟨(d.bv q c).1,(d.bv q c).2.1⟩;exact d.aL q c);omega).low I);have U:bu (λq=>x.heap.size<=q/\q<v.heap.size) l b r t u:=((V.at.aZ λq h1 R=>⟨R,h1⟩).ext f).af j λq c e=>by omega
    have m:∀q,M q\/N q\/O q->L.heap.size<=q/\q<x.heap.size:=λq c=>by
     rcases c with c|c|c
     .exact⟨(d.bc q c).1,(d.bc q c).2.1⟩
     .exact⟨(d.bv q c).1,(d.bv q c).2.1⟩
     .exact d.aL q c
    exact jF (lo:=lo) (b8:=l) (C:=λq=>x.heap.size<=q/\q<v.heap.size) ((X.ext (av.trans (i.trans (g.trans f)))).af j I).cell (A.af o I) D T U (λq c=>⟨I,I,I,I,λh=>(by have:=m q (.inl h);omega),λh=>(by have:=m q (.inr (.inl h));omega),λh=>(by have:=m q (.inr (.inr h));omega)⟩) (λq c=>(by have:=m q c;exact⟨I,I⟩)) I I I ((ab.ext (av.trans (i.trans (g.trans f)))).af j I) rfl I I ((ac.ext (av.trans (i.trans (g.trans f)))).af j λq c e=>(by have:=Y q c;have:=P.size;omega)) Z (Ext.dn (P.trans (av.trans (i.trans (g.trans f)))) j λq c=>I) hs W sa sb bM bf
   .refine a_ (vs:=[false,(),(),()]) rfl λv am g z3=>⟨g,?_⟩
    have an:=g.size;refine(er (al.ext (av.trans (i.trans (g)))) I I I ah ak).use ?_;rintro _ y ⟨r,t,u,aw,ax,ay,rfl,V,f⟩;refine⟨_,r,t,u,rfl,f,?_⟩;have aq:=f.size;have z:=aS.ext (i.trans (g.trans (f)));have S:=am.ext f;refine⟨z.bV rfl (e6 _ _ _ _),rfl,cm z (us:=[a.leaf,G,H,K]) rfl rfl λar A cH t5=>?_⟩;have B:=S.af cH I;refine⟨B.bV rfl (e6 _ _ _ _),rfl,cm B (us:=[b.leaf,r,t,u]) rfl rfl λl D o t6=>?_⟩;obtain⟨p,E⟩:∃p,p=Q.heap.size:=⟨_,rfl⟩;obtain⟨aG,F⟩:∃aG,aG=x.heap.size:=⟨_,rfl⟩;rw[←E]at A cH;rw[←F]at D o;rw[←E,←F];have j:ae (λq=>q=p\/q=aG) y l:=(cH.mono λq _ h=>.inl h).trans (o.mono λq _ h=>.inr h);have T:eE lo l a G H K M N O:=(((d.ext (g.trans (f))).af j λq _ _ c e=>by have au:L.heap.size<=q/\q<x.heap.size:=(by rcases c with c|c|c;exact⟨(d.bc q c).1,(d.bc q c).2.1⟩;exact⟨(d.bv q c).1,(d.bv q c).2.1⟩;exact d.aL q c);omega).low I);have U:bu (λq=>v.heap.size<=q/\q<y.heap.size) l b r t u:=(V.at.aZ λq h1 R=>⟨R,h1⟩).af j λq c e=>by omega
    have m:∀q,M q\/N q\/O q->L.heap.size<=q/\q<x.heap.size:=λq c=>by
     rcases c with c|c|c
     .exact⟨(d.bc q c).1,(d.bc q c).2.1⟩
     .exact⟨(d.bv q c).1,(d.bv q c).2.1⟩
     .exact d.aL q c
    exact jF (lo:=lo) (b8:=l) (C:=λq=>v.heap.size<=q/\q<y.heap.size) ((X.ext (av.trans (i.trans (g.trans f)))).af j I).cell (A.af o I) D T U (λq c=>⟨I,I,I,I,λh=>(by have:=m q (.inl h);omega),λh=>(by have:=m q (.inr (.inl h));omega),λh=>(by have:=m q (.inr (.inr h));omega)⟩) (λq c=>(by have:=m q c;exact⟨I,I⟩)) I I I ((ab.ext (av.trans (i.trans (g.trans f)))).af j I) rfl I I ((ac.ext (av.trans (i.trans (g.trans f)))).af j λq c e=>(by have:=Y q c;have:=P.size;omega)) Z (Ext.dn (P.trans (av.trans (i.trans (g.trans f)))) j λq c=>I) hs W sa sb bM bf
  .refine a_ (vs:=[false,(),(),()]) rfl λx aF i fm=>⟨i,?_⟩
   have s2:=i.size;refine(er (a0.ext (av.trans (i))) I I I aU aV).use ?_;rintro _ v ⟨G,H,K,M,N,O,rfl,d,g⟩;refine⟨_,G,H,K,rfl,g,?_⟩;have an:=g.size;refine(er (al.ext (av.trans (i.trans (g)))) I I I ah ak).use ?_;rintro _ y ⟨r,t,u,aw,ax,ay,rfl,V,f⟩;refine⟨_,r,t,u,rfl,f,?_⟩;have aq:=f.size;have z:=aS.ext (i.trans (g.trans (f)));have S:=aF.ext (g.trans (f));refine⟨z.bV rfl (e6 _ _ _ _),rfl,cm z (us:=[a.leaf,G,H,K]) rfl rfl λar A cH t5=>?_⟩;have B:=S.af cH I;refine⟨B.bV rfl (e6 _ _ _ _),rfl,cm B (us:=[b.leaf,r,t,u]) rfl rfl λl D o t6=>?_⟩;obtain⟨p,E⟩:∃p,p=Q.heap.size:=⟨_,rfl⟩;obtain⟨aG,F⟩:∃aG,aG=L.heap.size:=⟨_,rfl⟩;rw[←E]at A cH;rw[←F]at D o;rw[←E,←F];have j:ae (λq=>q=p\/q=aG) y l:=(cH.mono λq _ h=>.inl h).trans (o.mono λq _ h=>.inr h);have T:eE lo l a G H K M N O:=(((d.ext f).af j λq _ _ c e=>by have au:x.heap.size<=q/\q<v.heap.size:=(by rcases c with c|c|c;exact⟨(d.bc q c).1,(d.bc q c).2.1⟩;exact⟨(d.bv q c).1,(d.bv q c).2.1⟩;exact d.aL q c);omega).low I);have U:bu (λq=>v.heap.size<=q/\q<y.heap.size) l b r t u:=(V.at.aZ λq h1 R=>⟨R,h1⟩).af j λq c e=>by omega
   have m:∀q,M q\/N q\/O q->x.heap.size<=q/\q<v.heap.size:=λq c=>by
    rcases c with c|c|c
    .exact⟨(d.bc q c).1,(d.bc q c).2.1⟩
    .exact⟨(d.bv q c).1,(d.bv q c).2.1⟩
    .exact d.aL q c
   exact jF (lo:=lo) (b8:=l) (C:=λq=>v.heap.size<=q/\q<y.heap.size) ((X.ext (av.trans (i.trans (g.trans f)))).af j I).cell (A.af o I) D T U (λq c=>⟨I,I,I,I,λh=>(by have:=m q (.inl h);omega),λh=>(by have:=m q (.inr (.inl h));omega),λh=>(by have:=m q (.inr (.inr h));omega)⟩) (λq c=>(by have:=m q c;exact⟨I,I⟩)) I I I ((ab.ext (av.trans (i.trans (g.trans f)))).af j I) rfl I I ((ac.ext (av.trans (i.trans (g.trans f)))).af j λq c e=>(by have:=Y q c;have:=P.size;omega)) Z (Ext.dn (P.trans (av.trans (i.trans (g.trans f)))) j λq c=>I) hs W sa sb bM bf
 .refine a_ (vs:=[false,(),(),()]) rfl λL aS av iV=>⟨av,?_⟩
  have s1:=av.size;refine⟨?_,?_⟩
  .refine(er (a0.ext av) I I I aU aV).use ?_
   rintro _ x ⟨G,H,K,M,N,O,rfl,d,i⟩;refine⟨_,G,H,K,rfl,i,?_⟩;have s2:=i.size;refine⟨?_,?_⟩
   .refine(er (al.ext (av.trans (i))) I I I ah ak).use ?_
    rintro _ v ⟨r,t,u,aw,ax,ay,rfl,V,g⟩;refine⟨_,r,t,u,rfl,g,?_⟩;have an:=g.size;refine a_ (vs:=[false,(),(),()]) rfl λy ap f z4=>⟨f,?_⟩;have aq:=f.size;have z:=ap;have S:=aS.ext (i.trans (g.trans (f)));refine⟨z.bV rfl (e6 _ _ _ _),rfl,cm z (us:=[a.leaf,G,H,K]) rfl rfl λar A cH t5=>?_⟩;have B:=S.af cH I;refine⟨B.bV rfl (e6 _ _ _ _),rfl,cm B (us:=[b.leaf,r,t,u]) rfl rfl λl D o t6=>?_⟩;obtain⟨p,E⟩:∃p,p=v.heap.size:=⟨_,rfl⟩;obtain⟨aG,F⟩:∃aG,aG=Q.heap.size:=⟨_,rfl⟩;rw[←E]at A cH;rw[←F]at D o;rw[←E,←F];have j:ae (λq=>q=p\/q=aG) y l:=(cH.mono λq _ h=>.inl h).trans (o.mono λq _ h=>.inr h);have T:eE lo l a G H K M N O:=(((d.ext (g.trans (f))).af j λq _ _ c e=>by have au:L.heap.size<=q/\q<x.heap.size:=(by rcases c with c|c|c;exact⟨(d.bc q c).1,(d.bc q c).2.1⟩;exact⟨(d.bv q c).1,(d.bv q c).2.1⟩;exact d.aL q c);omega).low I);have U:bu (λq=>x.heap.size<=q/\q<v.heap.size) l b r t u:=((V.at.aZ λq h1 R=>⟨R,h1⟩).ext f).af j λq c e=>by omega
    have m:∀q,M q\/N q\/O q->L.heap.size<=q/\q<x.heap.size:=λq c=>by
     rcases c with c|c|c
     .exact⟨(d.bc q c).1,(d.bc q c).2.1⟩
     .exact⟨(d.bv q c).1,(d.bv q c).2.1⟩
     .exact d.aL q c
    exact jF (lo:=lo) (b8:=l) (C:=λq=>x.heap.size<=q/\q<v.heap.size) ((X.ext (av.trans (i.trans (g.trans f)))).af j I).cell (A.af o I) D T U (λq c=>⟨I,I,I,I,λh=>(by have:=m q (.inl h);omega),λh=>(by have:=m q (.inr (.inl h));omega),λh=>(by have:=m q (.inr (.inr h));omega)⟩) (λq c=>(by have:=m q c;exact⟨I,I⟩)) I I I ((ab.ext (av.trans (i.trans (g.trans f)))).af j I) rfl I I ((ac.ext (av.trans (i.trans (g.trans f)))).af j λq c e=>(by have:=Y q c;have:=P.size;omega)) Z (Ext.dn (P.trans (av.trans (i.trans (g.trans f)))) j λq c=>I) hs W sa sb bM bf
   .refine a_ (vs:=[false,(),(),()]) rfl λv am g z3=>⟨g,?_⟩
    have an:=g.size;refine(er (al.ext (av.trans (i.trans (g)))) I I I ah ak).use ?_;rintro _ y ⟨r,t,u,aw,ax,ay,rfl,V,f⟩;refine⟨_,r,t,u,rfl,f,?_⟩;have aq:=f.size;have z:=am.ext f;have S:=aS.ext (i.trans (g.trans (f)));refine⟨z.bV rfl (e6 _ _ _ _),rfl,cm z (us:=[a.leaf,G,H,K]) rfl rfl λar A cH t5=>?_⟩;have B:=S.af cH I;refine⟨B.bV rfl (e6 _ _ _ _),rfl,cm B (us:=[b.leaf,r,t,u]) rfl rfl λl D o t6=>?_⟩;obtain⟨p,E⟩:∃p,p=x.heap.size:=⟨_,rfl⟩;obtain⟨aG,F⟩:∃aG,aG=Q.heap.size:=⟨_,rfl⟩;rw[←E]at A cH;rw[←F]at D o;rw[←E,←F];have j:ae (λq=>q=p\/q=aG) y l:=(cH.mono λq _ h=>.inl h).trans (o.mono λq _ h=>.inr h);have T:eE lo l a G H K M N O:=(((d.ext (g.trans (f))).af j λq _ _ c e=>by have au:L.heap.size<=q/\q<x.heap.size:=(by rcases c with c|c|c;exact⟨(d.bc q c).1,(d.bc q c).2.1⟩;exact⟨(d.bv q c).1,(d.bv q c).2.1⟩;exact d.aL q c);omega).low I);have U:bu (λq=>v.heap.size<=q/\q<y.heap.size) l b r t u:=(V.at.aZ λq h1 R=>⟨R,h1⟩).af j λq c e=>by omega
    have m:∀q,M q\/N q\/O q->L.heap.size<=q/\q<x.heap.size:=λq c=>by
     rcases c with c|c|c
     .exact⟨(d.bc q c).1,(d.bc q c).2.1⟩
     .exact⟨(d.bv q c).1,(d.bv q c).2.1⟩
     .exact d.aL q c
    exact jF (lo:=lo) (b8:=l) (C:=λq=>v.heap.size<=q/\q<y.heap.size) ((X.ext (av.trans (i.trans (g.trans f)))).af j I).cell (A.af o I) D T U (λq c=>⟨I,I,I,I,λh=>(by have:=m q (.inl h);omega),λh=>(by have:=m q (.inr (.inl h));omega),λh=>(by have:=m q (.inr (.inr h));omega)⟩) (λq c=>(by have:=m q c;exact⟨I,I⟩)) I I I ((ab.ext (av.trans (i.trans (g.trans f)))).af j I) rfl I I ((ac.ext (av.trans (i.trans (g.trans f)))).af j λq c e=>(by have:=Y q c;have:=P.size;omega)) Z (Ext.dn (P.trans (av.trans (i.trans (g.trans f)))) j λq c=>I) hs W sa sb bM bf
  .refine a_ (vs:=[false,(),(),()]) rfl λx aF i fm=>⟨i,?_⟩
   have s2:=i.size;refine(er (a0.ext (av.trans (i))) I I I aU aV).use ?_;rintro _ v ⟨G,H,K,M,N,O,rfl,d,g⟩;refine⟨_,G,H,K,rfl,g,?_⟩;have an:=g.size;refine(er (al.ext (av.trans (i.trans (g)))) I I I ah ak).use ?_;rintro _ y ⟨r,t,u,aw,ax,ay,rfl,V,f⟩;refine⟨_,r,t,u,rfl,f,?_⟩;have aq:=f.size;have z:=aF.ext (g.trans (f));have S:=aS.ext (i.trans (g.trans (f)));refine⟨z.bV rfl (e6 _ _ _ _),rfl,cm z (us:=[a.leaf,G,H,K]) rfl rfl λar A cH t5=>?_⟩;have B:=S.af cH I;refine⟨B.bV rfl (e6 _ _ _ _),rfl,cm B (us:=[b.leaf,r,t,u]) rfl rfl λl D o t6=>?_⟩;obtain⟨p,E⟩:∃p,p=L.heap.size:=⟨_,rfl⟩;obtain⟨aG,F⟩:∃aG,aG=Q.heap.size:=⟨_,rfl⟩;rw[←E]at A cH;rw[←F]at D o;rw[←E,←F];have j:ae (λq=>q=p\/q=aG) y l:=(cH.mono λq _ h=>.inl h).trans (o.mono λq _ h=>.inr h);have T:eE lo l a G H K M N O:=(((d.ext f).af j λq _ _ c e=>by have au:x.heap.size<=q/\q<v.heap.size:=(by rcases c with c|c|c;exact⟨(d.bc q c).1,(d.bc q c).2.1⟩;exact⟨(d.bv q c).1,(d.bv q c).2.1⟩;exact d.aL q c);omega).low I);have U:bu (λq=>v.heap.size<=q/\q<y.heap.size) l b r t u:=(V.at.aZ λq h1 R=>⟨R,h1⟩).af j λq c e=>by omega
   have m:∀q,M q\/N q\/O q->x.heap.size<=q/\q<v.heap.size:=λq c=>by
    rcases c with c|c|c
    .exact⟨(d.bc q c).1,(d.bc q c).2.1⟩
    .exact⟨(d.bv q c).1,(d.bv q c).2.1⟩
    .exact d.aL q c
   exact jF (lo:=lo) (b8:=l) (C:=λq=>v.heap.size<=q/\q<y.heap.size) ((X.ext (av.trans (i.trans (g.trans f)))).af j I).cell (A.af o I) D T U (λq c=>⟨I,I,I,I,λh=>(by have:=m q (.inl h);omega),λh=>(by have:=m q (.inr (.inl h));omega),λh=>(by have:=m q (.inr (.inr h));omega)⟩) (λq c=>(by have:=m q c;exact⟨I,I⟩)) I I I ((ab.ext (av.trans (i.trans (g.trans f)))).af j I) rfl I I ((ac.ext (av.trans (i.trans (g.trans f)))).af j λq c e=>(by have:=Y q c;have:=P.size;omega)) Z (Ext.dn (P.trans (av.trans (i.trans (g.trans f)))) j λq c=>I) hs W sa sb bM bf
section
variable {α:Type}{c:α->O Y}{sz:Nat}
def cc(c:α->O Y)(l:O α):O Y:=(l.map c).flatten
theorem qN(l m:O α):cc c (l++m)=cc c l++cc c m:=by simp[cc]
theorem qO(x:α)(l:O α):cc c (x::l)=c x++cc c l:=rfl
theorem h3:∀ (l:O α),(∀x∈l,(c x).length=sz)->(cc c l).length=l.length*sz
 | [],_=>by simp[cc]
 |x::l,h=>by
  rw[qO,cO,h x (by simp),h3 l λy a=>h y (by simp[a]),hO,iL];omega
theorem Em{l:O α}{i:Nat}(h:i<l.length):l=l.take i++l[i]::l.drop (i+1):=by rw[←mf h,gb]
theorem wA{l:O α}(hc:∀x∈l,(c x).length=sz){i:Nat}(h:i<l.length):(cc c l).take (i*sz)=cc c (l.take i)/\(cc c l).drop (i*sz)=c l[i]++cc c (l.drop (i+1)):=by
 have a:(cc c (l.take i)).length=i*sz:=by
  rw[h3 _ λx hx=>hc x (eS hx),cN,jm I]
 have e:cc c l=cc c (l.take i)++(c l[i]++cc c (l.drop (i+1))):=by
  conv=>lhs;rw[Em h]
  rw[qN,qO]
 rw[e];exact⟨k5 a,drop_left' a⟩
theorem zQ{l:O α}(hc:∀x∈l,(c x).length=sz){i:Nat}(h:i<l.length):((cc c l).drop (i*sz)).take sz=c l[i]:=by
 rw[(wA hc h).2];exact k5 (hc _ (cK h))
theorem wB{l:O α}(hc:∀x∈l,(c x).length=sz){i j:Nat}(h:i<l.length)(a:j<sz):(cc c l)[i*sz+j]? =(c l[i])[j]? :=by
 rw[←zQ hc h,List.getElem?_take_of_lt a,q7]
theorem zR{l:O α}(hc:∀x∈l,(c x).length=sz){i:Nat}(h:i<l.length)(x:α):(cc c l).take (i*sz)++c x++(cc c l).drop (i*sz+sz)=cc c (l.set i x):=by
 have h1:=wA hc h;have a:(cc c l).drop (i*sz+sz)=cc c (l.drop (i+1)):=by
  rw[←jl,h1.2];exact drop_left' (hc _ (cK h))
 rw[h1.1,a,List.set_eq_take_append_cons_drop,if_pos h,qN,qO,c0]
theorem En{l:O α}(hc:∀x∈l,(c x).length=sz){i j:Nat}(h:i<l.length)(a:j<sz){x:α}{v:Y}(hx:c x=(c l[i]).set j v):(cc c l).set (i*sz+j) v=cc c (l.set i x):=by
 have b:(c l[i]).length=sz:=hc _ (cK h);have h1:=wA hc h;have e:cc c l=cc c (l.take i)++(c l[i]++cc c (l.drop (i+1))):=by
  conv=>lhs;rw[←gb (i*sz) (cc c l),h1.1,h1.2]
 have d:(cc c (l.take i)).length=i*sz:=by
  rw[h3 _ λx hx=>hc x (eS hx),cN,jm I]
 rw[e,List.set_append_right _ _ I,show i*sz+j-(cc c (l.take i)).length=j from I,List.set_append_left _ _ I,←hx,List.set_eq_take_append_cons_drop,if_pos h,qN,qO]
end
section
variable {α:Type} [DecidableEq α] {P:Program}{w:J}{gI ko T:TypeId}{enc:α->Y}{r:Nat}{M:O (α×Y)}{k:α}{v:Y}
theorem Eo(f:lF P gI enc)(j:P.underlying T=some (.map gI ko))(h:ed w r enc M)(l:∀v,(k,v)∉M)(v:Y):
 ∃w1:J,(Instr.mapUpdate T (.map (some r)) (enc k) v).run P w=.ok () w1/\ae (λq=>q=r) w w1/\w1.heap.size=w.heap.size/\ed w1 r enc ((k,v)::M):=by
 have aK:=h.lt;obtain⟨L,c,h,h1,m,n,g⟩:=h;have i:=yF h1 l;have hf:=f.find L k w;rw[vm i]at hf;refine⟨g8 w r (.map ((L.map (dR enc)).toArray.push ⟨enc k,v,c⟩) (c+1)),?_,p9 _ _ _,rV _ _ _,L++ [(k,v,c)],c+1,?_,?_,?_,?_,?_⟩
 .simp only[Instr.mapUpdate,Sem.run_bind,cW j,Result.andThen,kV h,Sem.run_pure,f.check,hf,vo h]
 .rw[rW aK]
  simp[dR]
 .rw[fE]
  have:([(k,v,c)]:O (α×Y×Nat)).map kT=[(k,v)]:=rfl;rw[this];exact(pz).trans (List.Perm.cons _ h1)
 .rw[fE,List.nodup_append]
  refine⟨m,by simp,λa e b d=>?_⟩;obtain⟨x,hx,rfl⟩:=e9.1 e;simp only[gF,List.map_nil,fh]at d;subst d;exact i x hx
 .rw[fE,List.nodup_append]
  refine⟨n,by simp,λa e b d=>?_⟩;obtain⟨x,hx,rfl⟩:=e9.1 e;simp only[gF,List.map_nil,fh]at d;subst d;have:=g x hx;omega
 .intro x hx
  rcases cM.1 hx with hx|hx
  .have:=g x hx;omega
  .rw[fh.1 hx];show c<c+1;omega
theorem Ep(c:lF P gI enc)(i:P.underlying T=some (.map gI ko))(h:ed w r enc ((k,v)::M))(b:Y):
 ∃w1:J,(Instr.mapUpdate T (.map (some r)) (enc k) b).run P w=.ok () w1/\ae (λq=>q=r) w w1/\w1.heap.size=w.heap.size/\ed w1 r enc ((k,b)::M):=by
 have aK:=h.lt;obtain⟨n,bn,bI,a,f,h,h1,g,j,d,_⟩:=h.split;have hf:=c.find (bn++(k,v,a)::bI) k w;rw[vn (yE g),cS]at hf;have hg:((bn++(k,v,a)::bI).map (dR enc)).toArray[bn.length]? =some ⟨enc k,v,a⟩:=by simp[dR]
 have l:((bn++(k,v,a)::bI).map (dR enc)).toArray.modify bn.length (λe=>{e with key:=enc k,val:=b})=((bn++(k,b,a)::bI).map (dR enc)).toArray:=by
  apply Array.toList_inj.1;rw[Array.toList_modify,fE,gF];have:=yD (λe=>{e with key:=enc k,val:=b}) (dR enc (k,v,a)) (bI.map (dR enc)) (bn.map (dR enc));rw[dJ]at this;rw[this];simp[dR]
 refine⟨g8 w r (.map ((bn++(k,b,a)::bI).map (dR enc)).toArray f),?_,p9 _ _ _,rV _ _ _,bn++(k,b,a)::bI,f,rW aK _,?_,?_,?_,?_⟩
 .simp only[Instr.mapUpdate,Sem.run_bind,cW i,Result.andThen,kV h,Sem.run_pure,c.check,hf,hg,kh,Option.getD_some,Instr.keyThatStays,c.bits,if_true,vo h,l]
 .rw[fE,gF]
  rw[fE]at h1;exact lk.trans (h1.cons _)
 .simpa using g
 .simpa using j
 .intro x hx
  rcases cM.1 hx with hx|hx
  .exact d x (by simp[hx])
  .rcases c8.1 hx with rfl|hx
   .exact d (k,v,a) (by simp)
   .exact d x (by simp[hx])
end
abbrev c7:=O UInt8
structure gS where
 i:Nat
 s:ad
 hF:O c7
structure a6 where
 d:Nat
 lb:Nat
 mr:Nat
 b7:O Int
 bx:O c7
 waits:O gS
 writes:Int
 aR:Nat
 bC:Nat->an
 dY:Nat->O c7
 r1:an
def gS.e(x:gS):Int×Y:=((x.i:Int),x.s)
def a6.c(D:a6):O Y:=D.b7.map (.int .i64)++ [.slice (some ⟨D.lb,0,none⟩) D.bx.length D.bx.length,.map (some D.mr),.int .i64 D.writes]
def a6.n(D:a6):Nat:=D.bx.length
abbrev encZ:Int->Y:=λn=>n
theorem o0:lF ai 3 encZ:=lF.int (by kernel_rfl)
theorem l0:Tryz.prog.underlying 137=some (.map 3 136):=by kernel_rfl
theorem zS:(Tryz.prog.info? 136).bind (·.zero)=some (.slice none 0 0):=by kernel_rfl
theorem ua{P:Program}{T:TypeId}{z:Y}(h:(P.info? T).bind (·.zero)=some z):∃i,P.info? T=some i/\i.zero=some z:=by
 cases hi:P.info? T with
 |none=>rw[hi]at h;cases h
 |some i=>rw[hi]at h;exact⟨i,rfl,h⟩
def cd(D:a6)(q:Nat):Prop:=q=D.d\/q=D.lb\/q=D.mr\/∃x∈D.waits,aC x.s q
structure c4(w:J)(D:a6):Prop where
 v:Var w D.d D.c 141
 l:bh w D.lb (cc aA D.bx).toArray 182
 m:ed w D.mr encZ (D.waits.map gS.e)
 ws:∀x∈D.waits,aW 256 182 w x.s (cc aA x.hF)
 wn:∀x∈D.waits,x.hF≠ []/\x.i<D.n/\x.hF.length<=D.aR
 sl:∀s∈D.bx,s.length=256
 l1:∀x∈D.waits,∀s∈x.hF,s.length=256
 bM:16<=D.n
 bf:D.n<=1600
 f4:D.b7.length=4
 fr:∀x∈D.b7, -1<=x/\x<=9223372036854775807
 a1:D.d≠D.lb/\D.d≠D.mr/\D.lb≠D.mr
 a2:∀x∈D.waits,¬aC x.s D.d/\¬aC x.s D.lb/\¬aC x.s D.mr
 a3:∀x∈D.waits,∀y∈D.waits,x.i≠y.i->∀q,aC x.s q->¬aC y.s q
 r:D.r1=true->D.b7.getD 1 0= -1
theorem Er{b7:O Int}{k:Nat}{x:Int}(a:b7.length=4)(h:b7.getD 1 0= -1)(hx:k=1->x= -1):(b7.set k x).getD 1 0= -1:=by
 rw[fK]at h⊢;by_cases e:k=1
 .subst e
  rw[List.getElem?_set_self I,hx rfl];rfl
 .rw[List.getElem?_set_ne e];exact h
section
variable {w w':J}{D:a6}
theorem c4.af{W:Nat->Prop}(h:c4 w D)(hc:ae W w w')(a:∀q,cd D q->¬W q):c4 w' D:=
 ⟨h.v.af hc (a _ (.inl rfl)),bh.af h.l hc (a _ (.inr (.inl rfl))),h.m.af hc (a _ (.inr (.inr (.inl rfl)))),λx hx=>(h.ws x hx).af hc λq b=>a q (.inr (.inr (.inr ⟨x,hx,b⟩))),h.wn,h.sl,h.l1,h.bM,h.bf,h.f4,h.fr,h.a1,h.a2,h.a3,h.r⟩
theorem c4.ext(h:c4 w D)(hc:Ext w w'):c4 w' D:=h.af hc λ_ _ h=>h
theorem c4.lt(h:c4 w D){q:Nat}(a:cd D q):q<w.heap.size:=by
 rcases a with rfl|rfl|rfl|⟨x,hx,a⟩
 .exact h.v.lt
 .exact bh.lt h.l
 .exact h.m.lt
 .exact(h.ws x hx).lt q a
theorem c4.Es(h:c4 w D){k:Nat}(a:k<4):w.cell? ⟨D.d,k,none⟩=some (.int .i64 (D.b7.getD k 0)):=by
 rw[h.v.cell];unfold a6.c;have:=h.f4;rw[List.getElem?_append_left (by rw[dJ];omega),lp,dI I,eX I];rfl
theorem c4.e1(h:c4 w D):w.cell? (Addr.add ⟨D.d,0,none⟩ 4)=some (.slice (some ⟨D.lb,0,none⟩) D.bx.length D.bx.length):=by
 rw[ay,h.v.cell];unfold a6.c;have:=h.f4;rw[g4 (by rw[dJ];omega),dJ,this];rfl
theorem c4.cH(h:c4 w D):w.cell? (Addr.add ⟨D.d,0,none⟩ 5)=some (.map (some D.mr)):=by
 rw[ay,h.v.cell];unfold a6.c;have:=h.f4;rw[g4 (by rw[dJ];omega),dJ,this];rfl
theorem c4.wC(h:c4 w D):D.c.length=7:=by
 unfold a6.c;have:=h.f4;simp;omega
def a6.now(D:a6)(i:Nat):c7:=match D.waits.find? λx=>x.i==i with
 |some x=>x.hF.getLastD []
 |none=>D.bx.getD i []
theorem Et{α:Type}{l:O α}{d:α}(h:l≠ []):l.getLastD d∈l:=by
 cases l with
 |nil=>exact absurd rfl h
 |cons a l=>
  rw[List.getLastD_cons];rw[←List.getLast_eq_getLastD];exact List.getLast_mem h
theorem c4.qP(h:c4 w D){i:Nat}(hi:i<D.n):(D.now i).length=256:=by
 unfold a6.now
 cases hf:D.waits.find? λx=>x.i==i with
 |some x=>
  have hx:=iy hf;exact h.l1 x hx _ (Et (h.wn x hx).1)
 |none=>
  have a:i<D.bx.length:=hi;rw[show(match (none:aq gS) with|some x=>x.hF.getLastD []|none=>D.bx.getD i [])=D.bx.getD i [] from rfl,eX a];exact h.sl _ (cK _)
theorem uc(h:c4 w D):aH ai 72 #[.pointer (some D.d)] w (λv w'=>v=D.n/\w=w'):=by
 refine okF (ag.sG (some D.d)) az.sG func72 ?_;(delta ag.sG ao r1;dsimp only);exact⟨λh=>(by cases h),λ_=>⟨_,rfl,⟨some D.lb,D.bx.length,D.bx.length⟩,h.e1,rfl,rfl⟩⟩
theorem zT(h:c4 w D)(i:Int):aH ai 108 #[.pointer (some D.d),i] w (λv w'=>v=.bool (decide (0<=i/\i<D.n))/\w=w'):=by
 refine okF (ag.sR (some D.d) i) az.sR func108 ?_;(delta ag.sR ao r1;dsimp only);refine cC (λb w'=>b=decide (0<=i/\i<D.n)/\w=w') (λq c=>⟨λa=>⟨_,rfl,⟨some D.lb,D.bx.length,D.bx.length⟩,h.e1,c _ _ ⟨?_,rfl⟩⟩,λa=>c _ _ ⟨?_,rfl⟩⟩) ?_
 .have a:0<=i:=by simpa using a
  rw[fD,cx,cx];exact⟨λh=>⟨a,h⟩,λh=>h.2⟩
 .have a:¬0<=i:=by simpa using a
  rw[jq (λh=>a h.1)]
 .rintro _ _ ⟨rfl,rfl⟩
  exact⟨rfl,rfl⟩
end
def f_(f:Int):an×Int:=if f= -1 then (false, -1) else if f=0 then (true, -1) else (false,f-1)
theorem Eu{f:Int}(h: -1<=f/\f<=9223372036854775807): -1<=(f_ f).2/\(f_ f).2<=9223372036854775807:=by
 unfold f_;split
 .exact⟨by decide,by decide⟩
 .split
  .exact⟨by decide,by decide⟩
  .show -1<=f-1/\f-1<=_;omega
def a6.cn(D:a6)(k:Nat):a6:={D with b7:=D.b7.set k (f_ (D.b7.getD k 0)).2}
def a6.fA(D:a6)(k:Nat):an:=(f_ (D.b7.getD k 0)).1
theorem wD{w:J}{D:a6}(h:c4 w D){k:Nat}(s:k<4):
 aH ai 136 #[.pointer (some ⟨D.d,0,none⟩),.int .i64 ((k:Nat):Int)] w (λv w'=>v=.bool (D.fA k)/\c4 w' (D.cn k)/\ae (λq=>q=D.d) w w'/\w'.heap.size=w.heap.size):=by
 have hf:=h.Es s;have j:=h.f4;have t: -1<=D.b7.getD k 0/\D.b7.getD k 0<=9223372036854775807:=by rw[eX I];exact h.fr _ (cK _)
 have n:∀ (w1:J),c4 w1 D->c4 (w1.setCell ⟨D.d,k,none⟩ (.int .i64 (f_ (D.b7.getD k 0)).2)) (D.cn k):=by
  intro w1 h1;have hc:=dN w1 D.d k (.int .i64 (f_ (D.b7.getD k 0)).2);have o:=eu h1.v (i:=k) (.int .i64 (f_ (D.b7.getD k 0)).2);have e:D.c.set k (.int .i64 (f_ (D.b7.getD k 0)).2)=(D.cn k).c:=by
   unfold a6.c a6.cn;rw[List.set_append_left _ _ (by rw[dJ];omega),←List.map_set]
  rw[e]at o;refine⟨o,bh.af h1.l hc (λe=>h.a1.1 e.symm),h1.m.af hc (λe=>h.a1.2.1 e.symm),λx hx=>(h1.ws x hx).af hc λq u e=>(h.a2 x hx).1 (by subst e;exact u),h.wn,h.sl,h.l1,h.bM,h.bf,by show(D.b7.set k _).length=4;rw[dg];exact j,λx hx=>?_,h.a1,h.a2,h.a3,λp=>Er j (h.r p) λe=>by subst e;rw[h.r p];rfl⟩;rcases lq hx with hx|rfl
  .exact h.fr x hx
  .exact Eu t
 have g:Addr.add ⟨D.d,0,none⟩ (Int.toNat ((k:Nat):Int)*1)=⟨D.d,k,none⟩:=by rw[dQ,fJ,ay,cS]
 refine okF (ag.sY (some ⟨D.d,0,none⟩) ((k:Nat):Int)) az.sY func136 ?_;(delta ag.sY aE ao st au;dsimp only);refine⟨_,rfl,⟨I,by show(k:Int)<4;omega⟩,D.b7.getD k 0,by rw[g];exact hf,λh1=>?_,λh1=>⟨λa=>⟨_,rfl,⟨I,by show(k:Int)<4;omega⟩,?_⟩,λa=>aY ⟨_,rfl,⟨I,by show(k:Int)<4;omega⟩,id,_,by rw[g];exact hf,_,rfl,⟨I,by show(k:Int)<4;omega⟩,?_⟩⟩⟩
 .have h1:D.b7.getD k 0= -1:=by simpa using h1
  have b:D.fA k=false:=by unfold a6.fA f_;rw[if_pos h1]
  have f:D.cn k=D:=by
   unfold a6.cn f_;rw[if_pos h1];have:D.b7.set k (-1)=D.b7:=by
    rw[←h1,eX I];exact List.set_getElem_self _
   rw[this]
  rw[b,f];exact⟨rfl,h,.refl _ _,rfl⟩
 .have h1:D.b7.getD k 0≠ -1:=by simpa using h1
  have a:D.b7.getD k 0=0:=by simpa using a
  have hs:=ew h.v (i:=k) (by rw[h.wC];omega);have b:D.fA k=true:=by unfold a6.fA f_;rw[if_neg h1,if_pos a]
  have f:(f_ (D.b7.getD k 0)).2= -1:=by unfold f_;rw[if_neg h1,if_pos a]
  have:=n w h;rw[f]at this;rw[g,b];exact⟨hs.1,hs.2,aY ⟨rfl,this,dN _ _ _ _,by simp[World.setCell]⟩⟩
 .have h1:D.b7.getD k 0≠ -1:=by simpa using h1
  have a:D.b7.getD k 0≠0:=by simpa using a
  have hd:=h.ext (cL w);have hs:=ew hd.v (i:=k) (by rw[h.wC];omega);have b:D.fA k=false:=by unfold a6.fA f_;rw[if_neg h1,if_neg a]
  have f:(f_ (D.b7.getD k 0)).2=D.b7.getD k 0-1:=by unfold f_;rw[if_neg h1,if_neg a]
  have:=n w.drew hd;rw[f]at this;rw[g,b,bB I I];exact⟨hs.1,hs.2,aY ⟨rfl,this,(ae.cP (cL w)).trans (dN _ _ _ _),by simp[World.setCell]⟩⟩
def a6.dF(D:a6)(i:Nat):O c7:=match D.waits.find? λx=>x.i==i with
 |some x=>x.hF
 |none=> []
theorem wE(D:a6)(h:∀x∈D.waits,x.hF≠ [])(i:Nat):D.now i=if D.dF i=[] then D.bx.getD i [] else (D.dF i).getLastD []:=by
 unfold a6.now a6.dF
 cases hf:D.waits.find? λx=>x.i==i with
 |some x=>
  have hx:=iy hf;simp only;rw[if_neg (h x hx)]
 |none=>simp
def a6.calm(D:a6)(k:Nat):Prop:=(D.b7.getD 1 0= -1\/(k:Int)<=D.b7.getD 1 0)/\(D.b7.getD 2 0= -1\/(k:Int)<=D.b7.getD 2 0)
def a6.ja(D:a6):Int->Prop:=λn=>(∀j,D.bC j=true)->D.writes=n
def a6.ro(D:a6):Prop:=∀i,D.bC i=true
def a6.key(D:a6):(O c7×(Nat->an)×(Nat->O c7)×(Int->Prop)×an)×Int:=((D.bx,D.bC,D.dY,D.ja,D.r1),D.b7.getD 3 0)
theorem cV{W V:Nat->Prop}{w w' c:J}(h1:ae W w w')(a:ae V w' c)(h:∀q,q<w.heap.size->V q->W q):ae W w c:=
 ⟨a.os.trans h1.os,a.tape.trans h1.tape,a.output.trans h1.output,eo h1.size a.size,λk b cF=>(a.block k (ft b h1.size) λd=>cF (h k b d)).trans (h1.block k b cF)⟩
theorem gp{D:a6}{k l:Nat}(h:D.calm k)(a:l<=k):D.calm l:=⟨h.1.imp id λh=>I,h.2.imp id λh=>I⟩
theorem iG{D:a6}{k m:Nat}(d:k=1\/k=2)(f:D.b7.length=4)(h:D.calm (m+1)):(D.cn k).calm m/\D.fA k=false:=by
 obtain⟨h1,a⟩:=h;have kk:1<D.b7.length:=by omega
 have e:2<D.b7.length:=by omega
 rcases d with rfl|rfl
 .have b:(D.cn 1).b7.getD 1 0=(f_ (D.b7.getD 1 0)).2:=by
   show(D.b7.set 1 _).getD 1 0=_;rw[eX (by rw[dg];omega),g5]
  have c:(D.cn 1).b7.getD 2 0=D.b7.getD 2 0:=by
   show(D.b7.set 1 _).getD 2 0=_;rw[eX (by rw[dg];omega),eY I,eX e]
  unfold a6.calm a6.fA;rw[b,c];unfold f_;rcases h1 with h1|h1
  .rw[if_pos h1]
   exact⟨⟨.inl rfl,a.imp id λh=>I⟩,rfl⟩
  .rw[if_neg I,if_neg I]
   exact⟨⟨.inr (by show(m:Int)<=_-1;omega),a.imp id λh=>I⟩,rfl⟩
 .have b:(D.cn 2).b7.getD 2 0=(f_ (D.b7.getD 2 0)).2:=by
   show(D.b7.set 2 _).getD 2 0=_;rw[eX (by rw[dg];omega),g5]
  have c:(D.cn 2).b7.getD 1 0=D.b7.getD 1 0:=by
   show(D.b7.set 2 _).getD 1 0=_;rw[eX (by rw[dg];omega),eY I,eX kk]
  unfold a6.calm a6.fA;rw[b,c];unfold f_;rcases a with a|a
  .rw[if_pos a]
   exact⟨⟨h1.imp id λh=>I,.inl rfl⟩,rfl⟩
  .rw[if_neg I,if_neg I]
   exact⟨⟨h1.imp id λh=>I,.inr (by show(m:Int)<=_-1;omega)⟩,rfl⟩
theorem o1(D:a6){k:Nat}(a:k=1\/k=2):(D.cn k).key=D.key:=by
 unfold a6.key a6.cn;rcases a with rfl|rfl<;>simp[fK]<;>rfl
theorem zU{sz:Nat}{w:J}{s:ad}{α:Type}{c:α->O Y}{l:O α}(h:Src sz w s (cc c l))(hc:∀x∈l,(c x).length=sz)(e:0<sz){i:Nat}(hi:i<l.length):
 s.len=l.length/\∃A,s.a=some A/\bz w (A.add (i*sz)) 0 sz=some (c l[i]):=by
 have b:s.len=l.length:=by
  have:=h.len;rw[h3 l hc]at this;exact(Nat.eq_of_mul_eq_mul_right e this).symm
 refine⟨b,?_⟩
 cases d:s.a with
 |none=>
  have:=congrArg List.length (h.nil d);rw[h3 l hc,lr]at this;have:l.length*sz≠0:=Nat.mul_ne_zero I I;omega
 |some A=>
  refine⟨A,rfl,?_⟩;have f:i*sz+sz<=s.len*sz:=by
   rw[b,←Nat.succ_mul];exact nD _ hi
  rw[yK (h.rd A d) f,zQ hc hi]
def o2:O Y:=aA (List.replicate 256 0)
def wF(D:a6)(i:Nat)(w:J)(v:Y)(w':J):Prop:=v=.agg (aA (D.now i)).toArray/\Ext w w'
theorem zV{w:J}{D:a6}(h:c4 w D){i:Nat}(hi:i<D.n)(R:D.aR<=1000000000):
 aH ai 137 #[.pointer (some D.d),i] w (wF D i w):=by
 have S:=h.bf;have f:=h.qP hi;refine okF (ag.sZ (some D.d) (i:Int)) az.sZ func137 ?_;(delta ag.sZ r9 ao au vz aa r1 r6;dsimp only);refine a_ (vs:=o2) (by kernel_rfl) λw1 g u _=>?_;have hd:=h.ext u;refine⟨_,rfl,some D.mr,hd.cH,?_⟩;have y:o2.length=256:=by rw[o2,dj,lu]
 have fin:∀ (K:O Y->J->Prop),(∀a,Ext w a->K (aA (D.now i)) a)->bj w1 w.heap.size (Array.toList (aA (D.now i)).toArray)/\Array.size (aA (D.now i)).toArray=256/\al (setCells w1 w.heap.size 0 (Array.toList (aA (D.now i)).toArray)) λa=>∃b:O Y,bz a w.heap.size 0 256=some b/\K b a:=by
  intro K E;refine⟨g.bV (by rw[pE,dj,f,y]) (by rw[pE];exact j0 _),by simp[dj,f],cm g (us:=aA (D.now i)) (by rw[dj,f,y]) rfl λa F G _=>⟨_,F.rd (by rw[dj,f]),E a (Ext.cy u G (bm _))⟩⟩
 cases hf:D.waits.find? λx=>x.i==i with
 |some x=>
  have hx:=iy hf;have H:x.i=i:=by
   have:=jo hf;exact eq_of_beq this
  have j:=hd.m.yG o0 l0 (k:=(i:Int)) (v:=x.s) (e9.2 ⟨x,hx,by unfold gS.e;rw[H]⟩) false;have L:=(h.wn x hx).1;have hlen:0<x.hF.length:=List.length_pos_iff.2 L;have T:=(h.wn x hx).2.2;obtain⟨z,A,ar,p⟩:=zU (hd.ws x hx).src (λs hs=>by rw[dj];exact h.l1 x hx s hs) (by decide) (i:=x.hF.length-1) I;have q:D.now i=x.hF[x.hF.length-1]'I:=by
   unfold a6.now;rw[hf];show x.hF.getLastD []=_;rw[List.getLastD_eq_getLast?,List.getLast?_eq_getElem?,dI I];rfl
  refine⟨x.s,w1,j,λ_=>⟨A,ar,?_⟩,λr=>?_⟩
  .rw[z,bB (n:=(x.hF.length:Int)-1) I I]
   have M:Int.toNat ((x.hF.length:Int)-1)=x.hF.length-1:=by omega
   rw[M];refine⟨⟨I,I⟩,_,p,?_⟩;rw[←q];exact fin (λb a=>wF D i w (.agg b.toArray) a) λa t=>⟨rfl,t⟩
  .have:=cT r
   omega
 |none=>
  obtain⟨U,h1,N⟩:=ua zS;have j:=hd.m.yH o0 l0 (k:=(i:Int)) h1 N (λv g=>by
   obtain⟨x,hx,he⟩:=e9.1 g;have P:=jn.1 hf x hx;unfold gS.e at he;simp only[Prod.mk.injEq]at he;apply P;have:x.i=i:=by omega
   rw[this];simp) false
  have B:i<D.bx.length:=hi;have q:D.now i=D.bx[i]:=by
   unfold a6.now;rw[hf];exact eX B
  have Q:Src 256 w1 ⟨some D.lb,D.bx.length,D.bx.length⟩ (cc aA D.bx):=by
   have C:=h3 (c:=aA) (sz:=256) D.bx λs hs=>by rw[dj];exact h.sl s hs
   have:=bh.rY (sz:=256) (o:=0) (n:=D.bx.length) (cap:=D.bx.length) hd.l (by simp[C]);rw[ix,pE,dH (by rw[C];exact bm _)]at this;exact this
  obtain⟨z,A,ar,p⟩:=zU Q (λs hs=>by rw[dj];exact h.sl s hs) (by decide) B;refine⟨⟨none,0,0⟩,w1,j,λr=>by simp at r,λ_=>⟨_,rfl,_,hd.e1,A,ar,⟨I,by show(i:Int)<(D.bx.length:Int);omega⟩,_,p,?_⟩⟩;rw[←q];exact fin (λb a=>wF D i w (.agg b.toArray) a) λa t=>⟨rfl,t⟩
def Ev(D:a6)(i:Nat)(w:J)(v:Y)(w':J):Prop:=
 c4 w' (D.cn 1)/\ae (λq=>q=D.d) w w'/\
  ((D.fA 1=true/\v=.tuple #[(),(3:Int)])\/
   (D.fA 1=false/\∃s:ad,v=.tuple #[s,(0:Int)]/\bo (λq=>w.heap.size<=q) w' s (D.now i)))
theorem Ew{w:J}{D:a6}(h:c4 w D){i:Nat}(hi:i<D.n)(x:D.aR<=1000000000):
 aH ai 114 #[.pointer (some D.d),i] w (Ev D i w):=by
 refine okF (ag.sS (some D.d) (i:Int)) az.sS func114 ?_;delta ag.sS b_ ao jY r9 aa;refine(zT h _).use ?_;rintro _ _ ⟨rfl,rfl⟩;refine⟨_,rfl,λa=>?_,λ_=>⟨_,rfl,(wD h (k:=1) (by decide)).use ?_⟩⟩
 .have a:¬(0<=(i:Int)/\(i:Int)<D.n):=by simpa using a
  omega
 rintro _ aj ⟨rfl,b,j,z⟩;refine⟨_,rfl,λa=>⟨b,j,.inl ⟨a,rfl⟩⟩,λa=>(zV b (i:=i) hi x).use ?_⟩;rintro _ m ⟨rfl,g⟩;have f:=h.qP hi;refine⟨_,rfl,a_ (vs:=o2) (by kernel_rfl) λB p r C=>⟨p.bV (by rw[pE,dj];show(D.now i).length=_;rw[f,o2,dj,lu]) (by rw[pE];exact j0 _),by rw[rm,dj];exact f,cm p (us:=aA (D.now i)) (by rw[dj,f,o2,dj,lu]) rfl λE s t F=>?_⟩⟩;have G:=g.size;have aK:D.d<aj.heap.size:=b.v.lt;refine⟨(b.ext (g.trans r)).af t (λq u e=>by have:=b.lt u;omega),cV (j.trans (ae.cP (g.trans r))) t λq u e=>I,.inr ⟨a,⟨some m.heap.size,256,256⟩,rfl,?_,bm _,λk y=>?_⟩⟩
 .have:=s.tB (o:=0) (n:=256) (c:=256) (l:=D.now i) (by rw[dj,f];decide) (by rw[ix,dH (by rw[dj,f];decide)])
  exact this
 .obtain⟨A,ar,rfl⟩:=y
  cases ar;have:=s.lt;exact⟨by show w.heap.size<=m.heap.size;omega,this⟩
theorem zW:∀ (l:O Y) (k:Nat) (a:Array Y),(l.zipIdx k).foldl (λcs (p:Y×Nat)=>cs.setIfInBounds p.2 p.1) a=fT a k l
 | [],_,_=>rfl
 |v::l,k,a=>by
  rw[List.zipIdx_cons,List.foldl_cons]
  exact zW l (k+1) (a.setIfInBounds k v)
theorem zX{P:Program}{T e:TypeId}{d:TypeDesc}{i:TypeInfo}{z:Y}{sz:Nat}{cs:Array Y}(w:J)(h1:P.underlying T=some (.slice e))(f:P.underlying e=some d)(g:P.cellsOf e=sz)(hi:P.info? e=some i)(h:i.zero=some z)(a:cs.size=sz)(q:sz≠0)(r:sz<=16777216):
 Sem.run P (Instr.buildSlice T 1 #[(0,.agg cs)]) w=.ok (.slice (some w.heap.size) 1 1) (w.alloc (.cells cs e)):=by
 have b:=gH (P:=P) (w:=w) f;rw[g]at b;have k:Instr.fill (λi=>some (i*sz,sz)) ((Array.range (1*sz)).map λx=>z.cells[x%z.cells.size]!) [(0,.agg cs)]=some cs:=by
  have hc:(Value.agg cs).cells=cs:=rfl;rw[Instr.fill];simp only[hc];rw[if_neg (by simp[a]),Instr.fill];rw[←Array.foldl_toList,Array.toList_zipIdx];have e:(λ(cs:Array Y) (x:Y×Nat)=>match x with|(c,j)=>cs.setIfInBounds (0*sz+j) c)=λcs (p:Y×Nat)=>cs.setIfInBounds p.2 p.1:=by
   funext cs x;obtain⟨c,j⟩:=x;simp
  rw[e,zW]
  congr 1
  apply Array.toList_inj.1;rw[lG _ _ _ (by simp[a])];simp[a]
 have l:=mo (w:=w) hi;have m:¬(1*sz>2^24):=by
  have:(2:Nat)^24=16777216:=rfl;omega
 have n:¬(1*sz=0):=by omega
 have o:Instr.fill (λi=>some (i*sz,sz)) ((Array.range (1*sz)).map λx=>z.cells[x%z.cells.size]!) (#[(0,Value.agg cs)]:Array (Nat×Y)).toList=some cs:=k;simp only[Instr.buildSlice,Sem.run_bind,cW h1,b,Result.andThen,m,n,if_false,zeroValue,l,h,Sem.run_pure,o];simp[newRow,newObj,Sem.run]
theorem zY(w:J)(l:c7)(a:l.length=256):
 Sem.run ai (Instr.buildSlice 136 1 #[(0,.agg (aA l).toArray)]) w=.ok (.slice (some w.heap.size) 1 1) (w.alloc (.cells (aA l).toArray 182)):=by
 have h:((Tryz.prog.info? 182).bind (·.zero)).isSome=true:=by kernel_rfl
 obtain⟨z,b⟩:=nz.1 h;obtain⟨i,hi,c⟩:=ua b;exact zX (d:=.array 256 5) (sz:=256) w (by kernel_rfl) (by kernel_rfl) (by kernel_rfl) hi c (by rw[rm,dj,a]) (by decide) (by decide)
theorem Ex:ic ai 136 182 256 256:=⟨by kernel_rfl⟩
def a6.put(D:a6)(i:Nat)(s:ad)(l:c7):a6:=
 {D.cn 2 with waits:=⟨i,s,D.dF i++ [l]⟩::D.waits.filter (λx=>x.i !=i),writes:=IntKind.wrap .i64 (D.writes+1),aR:=D.aR+1}
theorem zZ{D:a6}{i j:Nat}(h:j≠i):(D.waits.filter λx=>x.i !=i).find? (λx=>x.i==j)=D.waits.find? λx=>x.i==j:=by
 rw[List.find?_filter]
 congr 1
 funext x;by_cases e:x.i=j
 .rw[e];simp[h]
 .simp[e]
theorem z1(D:a6)(i:Nat)(s:ad)(l:c7)(j:Nat):(D.put i s l).dF j=if j=i then D.dF i++ [l] else D.dF j:=by
 unfold a6.dF a6.put;by_cases h:j=i
 .subst h
  simp[a6.dF]
 .rw[if_neg h]
  simp only;rw[List.find?_cons_of_neg (by simp;omega),zZ h]
theorem nk(D:a6)(i:Nat)(s:ad)(l:c7)(j:Nat):(D.put i s l).now j=if j=i then l else D.now j:=by
 unfold a6.now a6.put;by_cases h:j=i
 .subst h
  simp
 .rw[if_neg h]
  simp only;rw[List.find?_cons_of_neg (by simp;omega),zZ h];rfl
def z2(D:a6)(i:Nat)(l:c7)(w:J)(v:Y)(w':J):Prop:=
 (D.fA 2=true/\v=.int .i64 3/\c4 w' (D.cn 2)/\ae (λq=>q=D.d) w w')\/
 (D.fA 2=false/\v=.int .i64 0/\∃s:ad,c4 w' (D.put i s l)/\ae (cd D) w w'/\∀q,aC s q->cd D q\/w.heap.size<=q)
theorem ud{w:J}{D:a6}{b:ad}{l:c7}(h:c4 w D){i:Nat}(hi:i<D.n)(bi:D.aR<=1000000000)(aa:Src 1 w b (aA l))(L:l.length=256)(hd:∀q,aC b q->¬cd D q):
 aH ai 75 #[.pointer (some ⟨D.d,0,none⟩),.int .i64 ((i:Nat):Int),.slice b.a b.len b.cap] w (z2 D i l w):=by
 have aF:=len8 aa;have bj:=h.bf;refine okF (ag.sI (some ⟨D.d,0,none⟩) ((i:Nat):Int) b) az.sI func75 ?_;(delta ag.sI b_ ao vv aE st au;dsimp only);refine(zT h _).use ?_;rintro _ _ ⟨rfl,rfl⟩;have aV:decide (0<=(i:Int)/\(i:Int)<D.n)=true:=dU ⟨I,I⟩;refine⟨_,rfl,λh1=>?_,λ_=>⟨_,rfl,(wD h (k:=2) (by decide)).use ?_⟩⟩
 .rw[aV,aF,L]at h1
  simp at h1
 rintro _ aj ⟨rfl,H,ab,bk⟩;refine⟨_,rfl,λac=>.inl ⟨ac,rfl,H,ab⟩,λac=>aY ?_⟩;obtain⟨p,hold⟩:∃p:ad,(match D.waits.find? λx=>x.i==i with|some x=>x.s|none=>⟨none,0,0⟩)=p:=⟨_,rfl⟩;have z:=H.ext (cL aj);have aX:Src 1 aj.drew b (aA l):=(aa.af ab λq f e=>hd q f (.inl e)).ext (cL aj)
 have aZ:aW 256 182 aj.drew p (cc aA (D.dF i))/\(∀q,aC p q->cd D q/\q≠D.d/\q≠D.lb/\q≠D.mr)/\(∀x∈D.waits,x.i≠i->∀q,aC x.s q->¬aC p q)/\(D.dF i).length<=D.aR/\(∀s∈D.dF i,s.length=256)/\
  ∀w':J,ed w' D.mr encZ (D.waits.map gS.e)->Sem.run ai (Instr.lookup 137 (.map (some D.mr)) (.int .i64 ((i:Nat):Int)) false) w'=.ok (.slice p.a p.len p.cap) w':=by
  cases hf:D.waits.find? λx=>x.i==i with
  |some x=>
   rw[hf]at hold;have hold:x.s=p:=hold;subst hold;have hx:=iy hf;have V:x.i=i:=by
    have:=jo hf;exact eq_of_beq this
   have e:D.dF i=x.hF:=by unfold a6.dF;rw[hf]
   rw[e];refine⟨z.ws x hx,λq f=>⟨.inr (.inr (.inr ⟨x,hx,f⟩)),λe=>(h.a2 x hx).1 (e▸f),λe=>(h.a2 x hx).2.1 (e▸f),λe=>(h.a2 x hx).2.2 (e▸f)⟩,λy t B=>h.a3 y t x hx I,(h.wn x hx).2.2,h.l1 x hx,λw' M=>M.yG o0 l0 (k:=(i:Int)) (v:=.slice x.s.a x.s.len x.s.cap) (e9.2 ⟨x,hx,by unfold gS.e;rw[V]⟩) false⟩
  |none=>
   rw[hf]at hold;have hold:(⟨none,0,0⟩:ad)=p:=hold;subst hold;have e:D.dF i=[]:=by unfold a6.dF;rw[hf]
   rw[e];obtain⟨bl,h1,N⟩:=ua zS;refine⟨aW.none _ _ _,λq f=>(g7 q f).elim,λx _ _ q _ f=>(g7 q f).elim,cZ _,λs hs=>(by cases hs),λw' M=>M.yH o0 l0 (k:=(i:Int)) h1 N (λv ak=>?_) false⟩;obtain⟨x,hx,he⟩:=e9.1 ak;have a0:=jn.1 hf x hx;unfold gS.e at he;simp only[Prod.mk.injEq]at he;apply a0;have:x.i=i:=by omega
   rw[this];simp
 obtain⟨aG,C,aI,bm,aJ,aK⟩:=aZ;obtain⟨A,ar,a4⟩:∃A,b.a=some A/\bz aj.drew A 0 256=some (aA l):=by
  cases aL:b.a with
  |none=>
   have:=congrArg List.length (aa.nil aL);rw[dj,L]at this
   cases this
  |some A=>
   refine⟨A,rfl,?_⟩;have:=aX.rd A aL;rwa[aF,L]at this
 have a5:¬aC p A.block:=λf=>hd _ ⟨A,ar,rfl⟩ (C _ f).1
 have aM:∀E:J,Ext aj.drew E->∃ (g:ad) (j:J),Sem.run ai (Builtin.append_ #[136,136] 136 #[.slice p.a p.len p.cap,.slice (some ⟨E.heap.size,0,none⟩) 1 1]) (E.alloc (.cells (aA l).toArray 182))=.ok (.slice g.a g.len g.cap) j/\
  aW 256 182 j g (cc aA (D.dF i++ [l]))/\ae (aC p) E j/\(∀k,aC g k->aC p k\/E.heap.size<=k)/\ae (aC p) (E.alloc (.cells (aA l).toArray 182)) j:=by
  intro E a7;have hlen:p.len=(D.dF i).length:=by
   have:=aG.1;rw[h3 (c:=aA) (sz:=256) _ λs hs=>by rw[dj];exact aJ s hs]at this;omega
  have am:=dE E (.cells (aA l).toArray 182);obtain⟨g,j,av,G,F,O,P⟩:=Ex.append (dK:=136) (x:=⟨some ⟨E.heap.size,0,none⟩,1,1⟩) (Src.new (T:=182) E (aA l) 1 (by rw[dj,L])) (aG.ext (a7.trans am)) (j0 l) (by rw[hlen];show(2*(_+1)+1000)*256<=_;omega);refine⟨g,j,av,?_,(ae.cP am).trans O,λk a8=>(P k a8).imp id λh=>?_,O⟩
  .rw[qN]
   have:cc aA [l]=aA l:=by simp[cc]
   rw[this];exact G
  .have:=am.size;omega
 have aN:∀ (j:J) (g:ad),ed j D.mr encZ (D.waits.map gS.e)->∃o:J,Sem.run ai (Instr.mapUpdate 137 (.map (some D.mr)) (.int .i64 ((i:Nat):Int)) (.slice g.a g.len g.cap)) j=.ok () o/\ae (λq=>q=D.mr) j o/\
  ed o D.mr encZ ((gS.mk i g (D.dF i++ [l])::D.waits.filter λx=>x.i !=i).map gS.e):=by
  intro j g M;have an:=M.keys;rw[nF]at an
  cases hf:D.waits.find? λx=>x.i==i with
  |some x=>
   have hx:=iy hf;have V:x.i=i:=by
    have:=jo hf;exact eq_of_beq this
   obtain⟨bn,bI,he⟩:=List.append_of_mem hx;have B:∀y∈bn++bI,y.i≠i:=by
    intro y t e;rw[he,fE,gF]at an;have h1:=(lk.nodup_iff).1 an;rw[List.nodup_cons]at h1;apply h1.1;rw[←fE];refine e9.2 ⟨y,t,?_⟩;show((y.i:Nat):Int)=((x.i:Nat):Int);omega
   have ap:D.waits.filter (λx=>x.i !=i)=bn++bI:=by
    rw[he,kJ,List.filter_cons_of_neg (by simp[V])];rw[kI.2 λy t=>by have:=B y (iN _ t);simpa using this,kI.2 λy t=>by have:=B y (g3 _ t);simpa using this]
   have a9:(D.waits.map gS.e).Perm (((i:Int),.slice x.s.a x.s.len x.s.cap)::(bn++bI).map gS.e):=by
    rw[he,fE,gF,fE];have:x.e=((i:Int),.slice x.s.a x.s.len x.s.cap):=by unfold gS.e;rw[V]
    rw[this];exact lk
   obtain⟨o,av,G,_,F⟩:=Ep o0 l0 (M.perm a9) (.slice g.a g.len g.cap);refine⟨o,av,G,?_⟩;rw[ap];exact F
  |none=>
   have B:∀y∈D.waits,y.i≠i:=λy t e=>by
    have:=jn.1 hf y t;rw[e]at this;simp at this
   have ap:D.waits.filter (λx=>x.i !=i)=D.waits:=kI.2 λy t=>by simpa using B y t
   obtain⟨o,av,G,_,F⟩:=Eo o0 l0 (k:=(i:Int)) M (λv ak=>by
    obtain⟨x,hx,he⟩:=e9.1 ak;unfold gS.e at he;simp only[Prod.mk.injEq]at he;exact B x hx I) (.slice g.a g.len g.cap)
   refine⟨o,av,G,?_⟩;rw[ap];exact F
 have fin:∀ (j o:J) (g:ad),ae (aC p) aj.drew j->aW 256 182 j g (cc aA (D.dF i++ [l]))->(∀k,aC g k->aC p k\/aj.drew.heap.size<=k)->ae (λq=>q=D.mr) j o->ed o D.mr encZ ((gS.mk i g (D.dF i++ [l])::D.waits.filter λx=>x.i !=i).map gS.e)->
  ∃aO:ah,(some ⟨D.d,0,none⟩:aq ah)=some aO/\∃n24:Int,o.cell? (aO.add 6)=some (.int .i64 n24)/\∃W:ah,(some ⟨D.d,0,none⟩:aq ah)=some W/\(∃u:Y,o.cell? (W.add 6)=some u)/\o.frozen? (W.add 6)=false/\al (o.setCell (W.add 6) (.int .i64 (IntKind.wrap .i64 (n24+1)))) λa_=>z2 D i l w (.int .i64 0) a_:=by
  intro j o g X ba aw aP bb;have bc:=z.v.af X λf=>(C _ f).2.1 rfl;have ax:Var o D.d (D.cn 2).c 141:=bc.af aP h.a1.2.1;have hlen:(D.cn 2).c.length=7:=H.wC;obtain⟨s1,s2⟩:=ew ax (i:=6) (by rw[hlen];decide);have aQ:o.cell? (Addr.add ⟨D.d,0,none⟩ 6)=some (.int .i64 D.writes):=by
   rw[ay,cS,ax.cell];unfold a6.c;have:=H.f4;rw[g4 (by rw[dJ];omega),dJ,this];rfl
  rw[ay,cS]at aQ;refine⟨_,rfl,D.writes,by rw[ay,cS];exact aQ,_,rfl,by rw[ay,cS];exact s1,by rw[ay,cS];exact s2,?_⟩;rw[ay,cS];have aS:=dN o D.d 6 (.int .i64 (IntKind.wrap .i64 (D.writes+1)));have aT:=eu ax (i:=6) (.int .i64 (IntKind.wrap .i64 (D.writes+1)));have bd:(D.cn 2).c.set 6 (.int .i64 (IntKind.wrap .i64 (D.writes+1)))=(D.put i g l).c:=by
   have be:=H.f4;have Q:(D.put i g l).c=(D.cn 2).b7.map (.int .i64)++ [.slice (some ⟨D.lb,0,none⟩) D.bx.length D.bx.length,.map (some D.mr),.int .i64 (IntKind.wrap .i64 (D.writes+1))]:=rfl;have R:(D.cn 2).c=(D.cn 2).b7.map (.int .i64)++ [.slice (some ⟨D.lb,0,none⟩) D.bx.length D.bx.length,.map (some D.mr),.int .i64 D.writes]:=rfl;rw[Q,R,List.set_append_right _ _ (by rw[dJ];omega),dJ,be];rfl
  rw[bd]at aT;have Z:ae (λq=>q=D.mr\/q=D.d) j (o.setCell ⟨D.d,6,none⟩ (.int .i64 (IntKind.wrap .i64 (D.writes+1)))):=(aP.mono λq _ e=>.inl e).trans (aS.mono λq _ e=>.inr e);have S:∀q,aC g q->q≠D.d/\q≠D.lb/\q≠D.mr:=λq f=>by
   have bo:=z.lt (q:=D.d) (.inl rfl);have bp:=z.lt (q:=D.lb) (.inr (.inl rfl));have bq:=z.lt (q:=D.mr) (.inr (.inr (.inl rfl)));rcases aw q f with h1|h1
   .exact(C q h1).2
   .exact⟨I,I,I⟩
  have K:∀x∈D.waits.filter (λx=>x.i !=i),x∈D.waits/\x.i≠i:=λx hx=>by
   obtain⟨h1,N⟩:=gE.1 hx;exact⟨h1,by simpa using N⟩
  refine aY (.inr ⟨ac,rfl,g,⟨aT,?_,?_,?_,?_,h.sl,?_,h.bM,h.bf,H.f4,H.fr,h.a1,?_,?_,H.r⟩,?_,?_⟩)
  .exact bh.af (bh.af z.l X λf=>(C _ f).2.2.1 rfl) Z (by
    rintro(e|e)
    .exact h.a1.2.2 e
    .exact h.a1.1 e.symm)
  .exact bb.af aS (λe=>h.a1.2.1 e.symm)
  .intro x hx
   rcases c8.1 hx with rfl|hx
   .exact ba.af Z λq f=>by
     rintro(e|e)
     .exact(S q f).2.2 e
     .exact(S q f).1 e
   .obtain⟨h1,N⟩:=K x hx
    refine((z.ws x h1).af X λq f=>aI x h1 N q f).af Z λq f=>?_;rintro(e|e)
    .exact(h.a2 x h1).2.2 (e▸f)
    .exact(h.a2 x h1).1 (e▸f)
  .intro x hx
   rcases c8.1 hx with rfl|hx
   .refine⟨by simp,hi,?_⟩
    show(D.dF i++ [l]).length<=D.aR+1;rw[cO,h9];omega
   .obtain⟨h1,N⟩:=K x hx
    have:=h.wn x h1;exact⟨this.1,this.2.1,Nat.le_succ_of_le this.2.2⟩
  .intro x hx
   rcases c8.1 hx with rfl|hx
   .intro s hs
    rcases cM.1 hs with hs|hs
    .exact aJ s hs
    .rw[fh.1 hs];exact L
   .exact h.l1 x (K x hx).1
  .intro x hx
   rcases c8.1 hx with rfl|hx
   .exact⟨λf=>(S _ f).1 rfl,λf=>(S _ f).2.1 rfl,λf=>(S _ f).2.2 rfl⟩
   .exact h.a2 x (K x hx).1
  .have aU:∀y∈D.waits,y.i≠i->∀q,aC y.s q->¬aC g q:=λy t B q f U=>by
    rcases aw q U with h1|h1
    .exact aI y t B q f h1
    .have:=(z.ws y t).lt q f;omega
   intro x hx y t B q f U;rcases c8.1 hx with rfl|hx
   .rcases c8.1 t with rfl|t
    .exact B rfl
    .exact aU y (K y t).1 (λe=>B e.symm) q U f
   .rcases c8.1 t with rfl|t
    .exact aU x (K x hx).1 B q f U
    .exact h.a3 x (K x hx).1 y (K y t).1 B q f U
  .refine((ab.mono λq _ e=>.inl e).trans ((ae.cP (cL aj)).trans (X.mono λq _ f=>(C q f).1))).trans (Z.mono λq _ f=>?_)
   rcases f with e|e
   .exact .inr (.inr (.inl e))
   .exact .inl e
  .intro q f
   rcases aw q f with h1|h1
   .exact .inl (C q h1).1
   .have:aj.drew.heap.size=aj.heap.size:=rfl
    exact .inr I
 refine⟨aC p,_,rfl,λf=>(C _ f).2.1 rfl,some D.mr,z.cH,_,rfl,λf=>(C _ f).2.1 rfl,some D.mr,z.cH,I,A,ar,a5,_,a4,⟨?_,?_⟩⟩
 .obtain⟨g,j,av,G,F,O,P⟩:=aM aj.drew (.refl _ _)
  have aB:=z.m.af F λf=>(C _ f).2.2.2 rfl;obtain⟨o,Q,R,aD⟩:=aN j g aB;exact⟨p,_,aK _ z.m,.refl _ _,⟨some ⟨aj.drew.heap.size,0,none⟩,1,1⟩,_,zY _ l L,ae.cP (dE _ _),g,j,av,P,o,Q,fin j o g F G O R aD⟩
 .obtain⟨g,j,av,G,F,O,P⟩:=aM aj.drew (.refl _ _)
  have bg:=z.m.ext (dE aj.drew (.cells (aA l).toArray 182));have aB:=z.m.af F λf=>(C _ f).2.2.2 rfl;obtain⟨o,Q,R,aD⟩:=aN j g aB;exact⟨⟨some ⟨aj.drew.heap.size,0,none⟩,1,1⟩,_,zY _ l L,ae.cP (dE _ _),p,_,aK _ bg,.refl _ _,g,j,av,P,o,Q,fin j o g F G O R aD⟩
theorem Ey{P:Program}{e:TypeId}{v:Y}{sz:Nat}(a:((P.info? e).bind (·.zero)).map (·.cells)=some (List.replicate sz v).toArray)(hc:P.cellsOf e=sz)(hs:0<sz)(n:Nat):gx P e n=(List.replicate (n*sz) v).toArray:=by
 unfold gx;rw[hc]
 cases hi:(P.info? e).bind (·.zero) with
 |none=>rw[hi]at a;cases a
 |some z=>
  rw[hi]at a;simp only[kh,Option.some.injEq]at a;simp only[Option.getD_some];apply Array.ext
  .simp
  .intro i h1 b
   have c:n*sz≠0:=by
    intro h;simp[h]at b
   simp only[c,if_false,a,Array.getElem_map,Array.getElem_range];have aK:i%sz<sz:=hN _ hs;simp[aK]
theorem Ez(m n:Nat):cc aA (List.replicate n (List.replicate m 0))=List.replicate (n*m) (.int .u8 0):=by
 induction n with
 |zero=>simp[cc]
 |succ n a=>
  rw[List.replicate_succ,qO,a,iL,Nat.one_mul,Nat.add_comm];have e:aA (List.replicate m 0)=List.replicate m (Value.int .u8 0):=by simp[aA]
  rw[e,List.replicate_append_replicate]
def gT:c7:=List.replicate 256 0
theorem EA(n:Nat):gx ai 182 n=(cc aA (List.replicate n gT)).toArray:=by
 unfold gT;rw[Ez];exact Ey (by kernel_rfl) (by kernel_rfl) (by decide) n
def o3(n d lb mr:Nat):a6:=⟨d,lb,mr,[-1, -1, -1, -1],List.replicate n gT,[],0,0,λ_=>false,λ_=> [],true⟩
theorem EB{w:J}{b:Nat}{vs:O Y}{T:TypeId}(h:Var w b vs T)(g:4<=vs.length):
 aH ai 69 #[.pointer (some b)] w (λv w'=>v=.tuple #[]/\Var w' b (List.replicate 4 (.int .i64 (-1))++vs.drop 4) T/\ae (λq=>q=b) w w'/\w'.heap.size=w.heap.size):=by
 refine okF (ag.sF (some b)) az.sF func69 ?_;(delta ag.sF ao st au;dsimp only);refine⟨λi w'=>∃j:Nat,i=j/\j<=4/\Var w' b (List.replicate j (.int .i64 (-1))++vs.drop j) T/\ae (λq=>q=b) w w'/\w'.heap.size=w.heap.size,λi _=>((4:Int)-i).toNat,⟨0,rfl,I,h,.refl _ _,rfl⟩,?_⟩;rintro _ w1 ⟨j,rfl,k,c,hc,f⟩;refine⟨λaK=>?_,λd=>?_⟩
 .have aK:j<4:=by have:=cw aK;omega
  have a:Addr.add b (Int.toNat (j:Int)*1)=⟨b,j,none⟩:=by rw[dQ,fJ,ay,cS]
  obtain⟨s1,s2⟩:=ew c (i:=j) (by simp;omega);rw[bB (n:=(j:Int)+1) I I];refine⟨_,rfl,⟨I,by show(j:Int)<4;omega⟩,by rw[a];exact s1,by rw[a];exact s2,aY ⟨⟨j+1,I,I,?_,?_,?_⟩,?_⟩⟩
  .have:=eu c (i:=j) (.int .i64 (-1))
   rw[a];have e:(List.replicate j (Value.int .i64 (-1))++vs.drop j).set j (.int .i64 (-1))=List.replicate (j+1) (.int .i64 (-1))++vs.drop (j+1):=by
    rw[List.set_append_right _ _ (by simp),lu,nB,mf (show j<vs.length from I),List.set_cons_zero,List.replicate_succ',c0];rfl
   rwa[e]at this
  .rw[a];exact hc.trans (dN _ _ _ _)
  .rw[a];simpa[World.setCell] using f
  .show((4:Int)-((j:Int)+1)).toNat<((4:Int)-(j:Int)).toNat
   omega
 .have d:j=4:=by have:=cT d;omega
  subst d;exact⟨rfl,c,hc,f⟩
theorem oa{n:Nat}(h1:16<=n)(k:n<=1600)(w:J):
 aH ai 18 #[.int .i64 ((n:Nat):Int)] w (λv w'=>∃d lb mr:Nat,v=.tuple #[.pointer (some ⟨d,0,none⟩),.int .i64 0]/\c4 w' (o3 n d lb mr)/\Ext w w'/\∀q,cd (o3 n d lb mr) q->w.heap.size<=q):=by
 refine okF (ag.oa ((n:Nat):Int)) az.oa func18 ?_;delta ag.oa ao jx aa fV;refine⟨λh=>?_,λ_=>⟨⟨I,I,I,I⟩,?_⟩⟩
 .simp only[h8,cx]at h;omega
 rw[EA,dQ];have g:=bh.new w (cc aA (List.replicate n gT)).toArray 182;have i:=dE w (.cells (cc aA (List.replicate n gT)).toArray 182);have l:=qH w (.cells (cc aA (List.replicate n gT)).toArray 182);obtain⟨w1,m⟩:∃w1,w1=w.alloc (.cells (cc aA (List.replicate n gT)).toArray 182):=⟨_,rfl⟩;rw[←m]at g i l⊢;obtain⟨av,j⟩:=ed.make (P:=ai) (enc:=encZ) 137 w1;have a:=dE w1 (.map #[] 0);have o:=qH w1 (.map #[] 0);obtain⟨aj,p⟩:∃aj,aj=w1.alloc (.map #[] 0):=⟨_,rfl⟩;rw[←p]at av j a o;refine aY ⟨some w1.heap.size,aj,av,#[.int .i64 0,.int .i64 0,.int .i64 0,.int .i64 0,.slice (some ⟨w.heap.size,0,none⟩) n n,.map (some w1.heap.size),.int .i64 0],by kernel_rfl,a_ (vs:=[.int .i64 0,.int .i64 0,.int .i64 0,.int .i64 0,.slice (some ⟨w.heap.size,0,none⟩) n n,.map (some w1.heap.size),.int .i64 0]) rfl λu r b y=>⟨_,rfl,(EB r (by show 4<=7;decide)).use ?_⟩⟩;rintro _ z ⟨rfl,t,f,A⟩;refine⟨rfl,aj.heap.size,w.heap.size,w1.heap.size,rfl,⟨?_,?_,?_,λx hx=>(by cases hx),λx hx=>(by cases hx),λs hs=>?_,λx hx=>(by cases hx),?_,?_,rfl,λx hx=>?_,?_,λx hx=>(by cases hx),λx hx=>(by cases hx),λ_=>rfl⟩,Ext.cy (i.trans (a.trans b)) f I,?_⟩
 .have e:(o3 n aj.heap.size w.heap.size w1.heap.size).c=List.replicate 4 (.int .i64 (-1))++ [Value.int .i64 0,.int .i64 0,.int .i64 0,.int .i64 0,.slice (some ⟨w.heap.size,0,none⟩) n n,.map (some w1.heap.size),.int .i64 0].drop 4:=by
   unfold a6.c o3;simp
  rw[e];exact t
 .exact bh.af ((g.ext a).ext b) f (by show¬w.heap.size=aj.heap.size;omega)
 .exact(j.ext b).af f I
 .rw[uH hs,gT,lu]
 .show 16<=(List.replicate n gT).length;simpa using h1
 .show(List.replicate n gT).length<=1600;simpa using k
 .have:x= -1:=by
   simp[o3]at hx;exact hx
  subst this;exact⟨by decide,by decide⟩
 .exact⟨by show aj.heap.size≠w.heap.size;omega,by show aj.heap.size≠w1.heap.size;omega,by show w.heap.size≠w1.heap.size;omega⟩
 .rintro q (rfl|rfl|rfl|⟨x,hx,_⟩)
  .show w.heap.size<=aj.heap.size;omega
  .exact bm _
  .show w.heap.size<=w1.heap.size;omega
  .cases hx
structure en where
 root:Nat
 aI:Nat
 map:Nat
 clock:Nat
 da:Nat
 keys:Nat
 deriving DecidableEq
def z6:en:=⟨0,0,0,0,0,0⟩
def en.c(u:en):O Y:=[u.root,u.aI,u.map,.int .u64 (u.clock:Nat),.int .u64 (u.da:Nat),u.keys]
structure l2(u:en):Prop where
 root:u.root<4294967296
 aI:u.aI<256
 map:u.map<4294967296
 clock:u.clock<18446744073709551616
 da:u.da<18446744073709551616
 keys:u.keys<4294967296
def gq(u:en)(n:Nat):O UInt8:=[]++bE u.root 4++bE u.aI 1++bE u.map 4++bE n 4++bE u.clock 8++bE u.da 8++bE u.keys 4
def o4(b:O UInt8):en:=⟨dr b 0 4,dr b 4 1,dr b 5 4,dr b 13 8,dr b 21 8,dr b 29 4⟩
def l3(u:en)(n:Nat):Prop:=(u.root=0↔u.aI=0)/\u.aI<=12/\u.root<n/\u.map<n/\2<=u.map/\n<=1600
instance G9(u:en)(n:Nat):Decidable (l3 u n):=by unfold l3;infer_instance
def qQ(no:Int)(l:O UInt8):Except Int (en×Nat×Nat):=match fe no l with
 | .error e=>.error e
 | .ok p=>if p.kind≠3\/p.body.length≠33 then .error 4 else if l3 (o4 p.body) (dr p.body 9 4) then .ok (o4 p.body,dr p.body 9 4,p.gen) else .error 4
theorem z7(u:en)(n:Nat):(gq u n).length=33:=by simp[gq,dw]
theorem EC{u:en}{n:Nat}(h:l2 u)(c:n<4294967296):o4 (gq u n)=u/\dr (gq u n) 9 4=n:=by
 have e:∀ {k x m:Nat} (a b:O UInt8),gq u n=a++(bE x k++b)->a.length=m->x<256^k->dr (gq u n) m k=x:=λa b he d hx=>by rw[he];exact qG d hx
 have f:=h.keys;refine⟨?_,e (bE u.root 4++bE u.aI 1++bE u.map 4) (bE u.clock 8++(bE u.da 8++bE u.keys 4)) (by simp[gq]) (by simp[dw]) c⟩;unfold o4;rw[e (m:=0) [] (bE u.aI 1++(bE u.map 4++(bE n 4++(bE u.clock 8++(bE u.da 8++bE u.keys 4))))) (by simp[gq]) rfl h.root,
  e (bE u.root 4) (bE u.map 4++(bE n 4++(bE u.clock 8++(bE u.da 8++bE u.keys 4)))) (by simp[gq]) (by simp[dw]) h.aI,
  e (bE u.root 4++bE u.aI 1) (bE n 4++(bE u.clock 8++(bE u.da 8++bE u.keys 4))) (by simp[gq]) (by simp[dw]) h.map,
  e (bE u.root 4++bE u.aI 1++bE u.map 4++bE n 4) (bE u.da 8++bE u.keys 4) (by simp[gq]) (by simp[dw]) h.clock,
  e (bE u.root 4++bE u.aI 1++bE u.map 4++bE n 4++bE u.clock 8) (bE u.keys 4) (by simp[gq]) (by simp[dw]) h.da,
  e (bE u.root 4++bE u.aI 1++bE u.map 4++bE n 4++bE u.clock 8++bE u.da 8) [] (by simp[gq]) (by simp[dw]) f]
def h4(u:en)(n gen:Nat):il:=⟨3,gen,gq u n⟩
theorem wG{u:en}{n gen:Nat}(hg:gen<18446744073709551616):lX (h4 u n gen):=⟨(by decide:1<=3),(by decide:3<=4),hg,by show(gq u n).length<=232;rw[z7];decide⟩
theorem z8{u:en}{n gen no:Nat}(h:l2 u)(hu:l3 u n)(hg:gen<18446744073709551616)(a:no<1600):qQ no (dX no (h4 u n gen))=.ok (u,n,gen):=by
 unfold qQ;rw[tN a (wG hg)];have b:n<4294967296:=by have:=hu.2.2.2.2.2;omega
 obtain⟨h1,c⟩:=EC h b;show(if (3:Nat)≠3\/(gq u n).length≠33 then _ else if l3 (o4 (gq u n)) (dr (gq u n) 9 4) then Except.ok (o4 (gq u n),dr (gq u n) 9 4,gen) else _)=_;rw[h1,c,if_neg (by rw[z7];simp),if_pos hu]
section
variable {w w':J}{h:Nat}{vs:O Y}{u:en}
theorem en.plain(u:en):∀v∈u.c,Plain v:=by
 intro v a;simp only[en.c,c8,fi,fu]at a;rcases a with rfl|rfl|rfl|rfl|rfl|rfl<;>trivial
theorem o5(a:Var w h u.c 104){K:Int->Int->Int->Int->Int->Int->Prop}(d:K (u.root:Nat) (u.aI:Nat) (u.map:Nat) (u.clock:Nat) (u.da:Nat) (u.keys:Nat)):
 ∃bM:Int,w.cell? h=some (.int .i64 bM)/\∃bf:Int,w.cell? (Addr.add h 1)=some (.int .i64 bf)/\∃b:Int,w.cell? (Addr.add h 2)=some (.int .i64 b)/\
  ∃cp:Int,w.cell? (Addr.add h 3)=some (.int .u64 cp)/\∃n5:Int,w.cell? (Addr.add h 4)=some (.int .u64 n5)/\∃n6:Int,w.cell? (Addr.add h 5)=some (.int .i64 n6)/\K bM bf b cp n5 n6:=
 ⟨_,a.cell,_,by rw[ay];exact a.cell,_,by rw[ay];exact a.cell,_,by rw[ay];exact a.cell,_,by rw[ay];exact a.cell,_,by rw[ay];exact a.cell,d⟩
theorem z_(a:Var w h vs 104)(b:vs.length=6)(u:en){K:J->Prop}(d:∀aj,Var aj h u.c 104->ae (λq=>q=h) w aj->aj.heap.size=w.heap.size->K aj):
 bj w h [u.root,u.aI,u.map,.int .u64 (u.clock:Nat),.int .u64 (u.da:Nat),u.keys]/\(6:Nat)=6/\
  al (setCells w h 0 [u.root,u.aI,u.map,.int .u64 (u.clock:Nat),.int .u64 (u.da:Nat),u.keys]) K:=
 ⟨a.bV (by rw[b];rfl) u.plain,rfl,cm a (us:=u.c) (by rw[b];rfl) rfl λaj e hc f=>d aj e hc f⟩
end
theorem oo{w:J}{u:en}(h:l2 u){n:Nat}(r:n<4294967296):aH ai 138 #[.agg u.c.toArray,n] w (λv w'=>∃s:ad,v=s/\aW 1 5 w' s (aA (gq u n))/\Ext w w'/\gh w s):=by
 have h1:=h.root;have T:=h.aI;have t:=h.map;have U:=h.clock;have V:=h.da;have y:=h.keys;have a:∀ {x:Nat},x<4294967296->IntKind.wrap .u64 (x:Int)=(x:Int):=λ{x} hx=>fU I I;refine okF (ag.oo (u.root:Nat) (u.aI:Nat) (u.map:Nat) (u.clock:Nat) (u.da:Nat) (u.keys:Nat) (n:Nat)) az.oo func138 ?_;(delta ag.oo aE aa bG b4;dsimp only);refine a_ (vs:=u.c) rfl λw1 b z W=>⟨_,b.cell,?_⟩;rw[a h1];refine(fX (s:=⟨none,0,0⟩) (l:=[]) (aW.none 1 5 w1).src (cZ _) (n:=u.root) I (by decide)).use ?_;rintro _ aj ⟨s2,rfl,A,d,X⟩;have e:=b.ext d;refine⟨s2,rfl,_,by rw[ay];exact e.cell,?_⟩;rw[a (x:=u.aI) I];refine(fX A.src (by simp[dw]) (n:=u.aI) I (by decide)).use ?_;rintro _ Y ⟨B,rfl,C,f,Z⟩;have g:=e.ext f;refine⟨B,rfl,_,by rw[ay];exact g.cell,?_⟩;rw[a t];refine(fX C.src (by simp[dw]) (n:=u.map) I (by decide)).use ?_;rintro _ ab ⟨D,rfl,E,i,ac⟩;have F:=g.ext i;refine⟨D,rfl,?_⟩;rw[a r];refine(fX E.src (by simp[dw]) (n:=n) I (by decide)).use ?_;rintro _ ae ⟨G,rfl,H,j,af⟩;have k:=F.ext j;refine⟨G,rfl,_,by rw[ay];exact k.cell,?_⟩;refine(fX H.src (by simp[dw]) (n:=u.clock) I (by decide)).use ?_;rintro _ ah ⟨K,rfl,L,m,ak⟩;have o:=k.ext m;refine⟨K,rfl,_,by rw[ay];exact o.cell,?_⟩;refine(fX L.src (by simp[dw]) (n:=u.da) I (by decide)).use ?_;rintro _ al ⟨M,rfl,N,p,am⟩;have O:=o.ext p;refine⟨M,rfl,_,by rw[ay];exact O.cell,?_⟩;rw[a y];refine(fX N.src (by simp[dw]) (n:=u.keys) I (by decide)).use ?_;rintro _ an ⟨dM,rfl,P,Q,R⟩;have cE:=Ext.trans (Ext.trans (Ext.trans (Ext.trans (Ext.trans (Ext.trans z d) f) i) j) m) p;refine⟨dM,rfl,dM,rfl,P,Ext.trans cE Q,λq S=>?_⟩;have:=R q S;have:=cE.size;omega
end Go.Proofs.YtkdhdlfonmgheaaGreat
namespace Go.Proofs.YtkdhdlfonmgheaaGreat
open Go Go.Proofs Go.Shelf
def ED:Go.Shelf.Ren:=⟨λ |5=>153|8=>213|7=>212|19=>264|20=>265|10=>255|11=>256|12=>257|13=>258|14=>259|15=>260|16=>261|17=>262|18=>263|30=>286|31=>287|32=>288|33=>289|34=>290|35=>291|40=>297|n=>n,λ |23=>58|25=>3|3=>3|32=>101|22=>58|0=>0|44=>219|46=>27|4=>4|36=>340|35=>339|41=>175|5=>5|9=>9|53=>364|57=>367|63=>371|64=>234|n=>n,λ |n=>n⟩
theorem Aa:Go.Proofs.SlLaysM.n5 Tryz.prog ED:={
 mixed:=by kernel_rfl
 f5:=⟨Tryz.f153.name,by decide,Tryz.func153.trans (congrArg some (by kernel_rfl))⟩
 f7:=⟨Tryz.f212.name,by decide,Tryz.func212.trans (congrArg some (by kernel_rfl))⟩
 f8:=Tryz.func213.trans (congrArg some (by kernel_rfl))
 f10:=⟨Tryz.f255.name,by decide,Tryz.func255.trans (congrArg some (by kernel_rfl))⟩
 f11:=⟨Tryz.f256.name,by decide,Tryz.func256.trans (congrArg some (by kernel_rfl))⟩
 f12:=⟨Tryz.f257.name,by decide,Tryz.func257.trans (congrArg some (by kernel_rfl))⟩
 f13:=⟨Tryz.f258.name,by decide,Tryz.func258.trans (congrArg some (by kernel_rfl))⟩
 f14:=⟨Tryz.f259.name,by decide,Tryz.func259.trans (congrArg some (by kernel_rfl))⟩
 f15:=⟨Tryz.f260.name,by decide,Tryz.func260.trans (congrArg some (by kernel_rfl))⟩
 f16:=⟨Tryz.f261.name,by decide,Tryz.func261.trans (congrArg some (by kernel_rfl))⟩
 f17:=⟨Tryz.f262.name,by decide,Tryz.func262.trans (congrArg some (by kernel_rfl))⟩
 f18:=⟨Tryz.f263.name,by decide,Tryz.func263.trans (congrArg some (by kernel_rfl))⟩
 f19:=Tryz.func264.trans (congrArg some (by kernel_rfl))
 f20:=Tryz.func265.trans (congrArg some (by kernel_rfl))
 f30:=⟨Tryz.f286.name,by decide,Tryz.func286.trans (congrArg some (by kernel_rfl))⟩
 f31:=Tryz.func287.trans (congrArg some (by kernel_rfl))
 f32:=Tryz.func288.trans (congrArg some (by kernel_rfl))
 f33:=⟨Tryz.f289.name,by decide,Tryz.func289.trans (congrArg some (by kernel_rfl))⟩
 f34:=⟨Tryz.f290.name,by decide,Tryz.func290.trans (congrArg some (by kernel_rfl))⟩
 f35:=⟨Tryz.f291.name,by decide,Tryz.func291.trans (congrArg some (by kernel_rfl))⟩
 f40:=⟨Tryz.f297.name,by decide,Tryz.func297.trans (congrArg some (by kernel_rfl))⟩
 t0:=Tryz.underlying0
 a0:=Tryz.isAgg0
 z0:=Tryz.sizeOf0
 v0:=Tryz.zeroValue0
 t3:=Tryz.underlying3
 a3:=Tryz.isAgg3
 z3:=Tryz.sizeOf3
 v3:=Tryz.zeroValue3
 t4:=Tryz.underlying4
 a4:=Tryz.isAgg4
 z4:=Tryz.sizeOf4
 v4:=Tryz.zeroValue4
 t5:=Tryz.underlying5
 a5:=Tryz.isAgg5
 z5:=Tryz.sizeOf5
 v5:=Tryz.zeroValue5
 t9:=Tryz.underlying9
 a9:=Tryz.isAgg9
 z9:=Tryz.sizeOf9
 v9:=Tryz.zeroValue9
 t22:=Tryz.underlying58
 a22:=Tryz.isAgg58
 z22:=Tryz.sizeOf58
 v22:=Tryz.zeroValue58
 t23:=Tryz.underlying58
 a23:=Tryz.isAgg58
 z23:=Tryz.sizeOf58
 v23:=Tryz.zeroValue58
 t25:=Tryz.underlying3
 a25:=Tryz.isAgg3
 z25:=Tryz.sizeOf3
 v25:=Tryz.zeroValue3
 t32:=Tryz.underlying101
 a32:=Tryz.isAgg101
 z32:=Tryz.sizeOf101
 v32:=Tryz.zeroValue101
 t35:=Tryz.underlying339
 a35:=Tryz.isAgg339
 z35:=Tryz.sizeOf339
 v35:=Tryz.zeroValue339
 t36:=Tryz.underlying340
 a36:=Tryz.isAgg340
 z36:=Tryz.sizeOf340
 v36:=Tryz.zeroValue340
 t41:=Tryz.underlying175
 a41:=Tryz.isAgg175
 z41:=Tryz.sizeOf175
 v41:=Tryz.zeroValue175
 t44:=Tryz.underlying219
 a44:=Tryz.isAgg219
 z44:=Tryz.sizeOf219
 v44:=Tryz.zeroValue219
 t46:=Tryz.underlying27
 a46:=Tryz.isAgg27
 z46:=Tryz.sizeOf27
 v46:=Tryz.zeroValue27
 t53:=Tryz.underlying364
 a53:=Tryz.isAgg364
 z53:=Tryz.sizeOf364
 v53:=Tryz.zeroValue364
 t57:=Tryz.underlying367
 a57:=Tryz.isAgg367
 z57:=Tryz.sizeOf367
 v57:=Tryz.zeroValue367
 t63:=Tryz.underlying371
 a63:=Tryz.isAgg371
 z63:=Tryz.sizeOf371
 v63:=Tryz.zeroValue371
 t64:=Tryz.underlying234
 a64:=Tryz.isAgg234
 z64:=Tryz.sizeOf234
 v64:=Tryz.zeroValue234}
end Go.Proofs.YtkdhdlfonmgheaaGreat
namespace Go.Proofs.YtkdhdlfonmgheaaGreat
open Go aQ Go.Proofs.Tryz
theorem EE{w:J}{b n:Nat}{c:Array Y}{T:TypeId}{os:Array Obj}{zs:O Int}(h:bh w b c T)(g:zs.length<=c.size):
 ∃c':Array Y,bh (Go.Sort.grow (Go.Sort.putRow (Value.int .i64) (Go.Sort.ahead w n) b 0 zs.toArray) os) b c' T/\c'.size=c.size/\c'.toList.take zs.length=zs.map encZ/\ae (λq=>q=b) w (Go.Sort.grow (Go.Sort.putRow (Value.int .i64) (Go.Sort.ahead w n) b 0 zs.toArray) os):=by
 have aK:=h.lt;have d:∀k,k<w.heap.size->(Go.Sort.grow (Go.Sort.putRow (Value.int .i64) (Go.Sort.ahead w n) b 0 zs.toArray) os).heap[k]? =(w.heap.modify b (Go.Sort.onCells (Go.Sort.putCells (Value.int .i64) 0 zs.toArray)))[k]? :=λk a=>by
  show((w.heap.modify b _)++os)[k]? =_;rw[Array.getElem?_append_left (by simpa using a)]
 refine⟨Go.Sort.putCells (Value.int .i64) 0 zs.toArray c,?_,by simp[Go.Sort.putCells],?_,rfl,rfl,rfl,?_,λk a f=>?_⟩
 .unfold bh at h⊢
  rw[d b aK,q6,if_pos rfl,h];rfl
 .apply List.ext_getElem?
  intro i;rw[ra];split
  .rename_i hi
   rw[Array.getElem?_toList,Go.Sort.putCells,Array.getElem?_mapIdx,Array.getElem?_eq_getElem I,kh,if_pos ⟨cZ _,by simpa using hi⟩,lp,dI hi];simp[hi]
  .rename_i hi
   rw[mi (by simpa using hi)]
 .show w.heap.size<=((w.heap.modify b _)++os).size
  simp
 .rw[d k a,q6,if_neg (λe=>f e.symm)]
theorem EF{w:J}{s:ad}{zs:O Int}(h:aW 1 3 w s (zs.map encZ))(G:zs.length<=1000000):
 aH ai 153 #[s] w (λv w'=>v=.tuple #[]/\ae (aC s) w w'/\∃ys:O Int,aW 1 3 w' s (ys.map encZ)/\ys.Perm zs/\ys.Pairwise λa b=>a<=b):=by
 have H:s.len=zs.length:=by have:=h.1;rw[dJ]at this;omega
 rcases mj zs.length with h0|h0
 .have hd:zs=[]:=nC.1 h0
  have e:s.len=0:=by omega
  rw[e];refine Calls.mono (AnyM.slices_Sort_int_none Aa s.a s.cap w) ?_;rintro _ _ ⟨rfl,rfl⟩;exact⟨_,rfl,rfl,.refl _ _,[],by rw[hd]at h;exact h,by rw[hd],List.Pairwise.nil⟩
 obtain⟨h1,k,u,z⟩:=h;rcases z with ⟨_,f⟩|⟨b,c,g,d,A,B⟩
 .omega
 have C:Go.Sort.Holds (Value.int .i64) w b 0 zs.toArray:=λj D=>by
  have m:j<zs.length:=by simpa using D
  refine⟨?_,bh.frozen d _ rfl⟩;rw[d.cell,cS];have e:=congrArg (λl=>l[j]?) B;simp only[ra,lp,dI m,kh]at e;rw[if_pos I,Array.getElem?_toList]at e;rw[e];simp[m]
 have E:=AnyM.slices_Sort_int Aa b 0 s.cap zs w C d.lt I;rw[g];have e:s.len=zs.length:=by omega
 rw[e];refine Calls.mono E ?_;rintro _ w' ⟨rfl,n,os,rfl⟩;obtain⟨c',av,o,p,r⟩:=EE (n:=n) (os:=os) (zs:=zs.mergeSort λx y=>decide (x<=y)) d (by rw[List.length_mergeSort];omega);have i:=List.mergeSort_perm zs λx y=>decide (x<=y);have t:(zs.mergeSort λx y=>decide (x<=y)).Pairwise λa b=>decide (a<=b)=true:=List.pairwise_mergeSort (λa b c h1 k=>by simp only[cx]at*;omega) (λa b=>by simp only[h8,cx];omega) zs;generalize (zs.mergeSort λx y=>decide (x<=y))=ys at av o p r i t;refine⟨_,rfl,rfl,r.mono λq _ e=>⟨b,g,e.symm⟩,ys,?_,i,t.imp λh=>cw h⟩;have F:=i.length_eq;have f:=aW.mk' (sz:=1) (n:=s.len) (cap:=s.cap) av (vs:=ys.map encZ) (by rw[dJ];omega) k u (by rw[o];exact A) (by rw[fJ,e,←F];exact p);rw[←g]at f;exact f
def j9(a cg bH b c d e f:an):Nat:=
 a.toNat+2*cg.toNat+4*bH.toNat+8*b.toNat+16*c.toNat+32*d.toNat+64*e.toNat+128*f.toNat
def byteOf(f:Nat->an)(i:Nat):Nat:=j9 (f (8*i)) (f (8*i+1)) (f (8*i+2)) (f (8*i+3)) (f (8*i+4)) (f (8*i+5)) (f (8*i+6)) (f (8*i+7))
theorem EG:∀a cg bH b c d e f:an,j9 a cg bH b c d e f<256:=by decide+kernel
theorem EH:∀a cg bH b c d e f:an,
 (j9 a cg bH b c d e f).testBit 0=a/\(j9 a cg bH b c d e f).testBit 1=cg/\(j9 a cg bH b c d e f).testBit 2=bH/\(j9 a cg bH b c d e f).testBit 3=b/\
 (j9 a cg bH b c d e f).testBit 4=c/\(j9 a cg bH b c d e f).testBit 5=d/\(j9 a cg bH b c d e f).testBit 6=e/\(j9 a cg bH b c d e f).testBit 7=f:=by decide+kernel
theorem jG(f:Nat->an)(i:Nat):byteOf f i<256:=EG _ _ _ _ _ _ _ _
theorem nm(f:Nat->an)(i j:Nat)(a:j<8):(byteOf f i).testBit j=f (8*i+j):=by
 obtain⟨h0,h1,b,c,d,e,g,h⟩:=EH (f (8*i)) (f (8*i+1)) (f (8*i+2)) (f (8*i+3)) (f (8*i+4)) (f (8*i+5)) (f (8*i+6)) (f (8*i+7));have:j=0\/j=1\/j=2\/j=3\/j=4\/j=5\/j=6\/j=7:=by omega
 unfold byteOf;rcases this with rfl|rfl|rfl|rfl|rfl|rfl|rfl|rfl<;>assumption
theorem EI{x y:Nat}(hx:x<256)(b:y<256)(h:∀j,j<8->x.testBit j=y.testBit j):x=y:=by
 apply Nat.eq_of_testBit_eq;intro j;by_cases a:j<8
 .exact h j a
 .have p:256<=2^j:=by
   have:=ri (n:=2) I (by omega:8<=j);simpa using this
  rw[Nat.testBit_lt_two_pow I,Nat.testBit_lt_two_pow I]
theorem wH(f:Nat->an)(i x:Nat)(hx:x<256)(h:∀j,j<8->x.testBit j=f (8*i+j)):x=byteOf f i:=
 EI hx (jG f i) λj a=>by rw[h j a,nm f i j a]
def dc(f:Nat->an)(k:Nat)(b:an):Nat->an:=λi=>if i=k then b else f i
theorem EJ:∀x:Nat,x<256->∀j:Nat,j<8->(h_ .u8 (Int.fdiv (x:Int) (2^(min (Int.toNat (j:Int)) 8))) 1==1)=x.testBit j:=by decide+kernel
theorem EK:∀x:Nat,x<256->∀j:Nat,j<8->ly .u8 (x:Int) (IntKind.wrap .u8 (1*2^(min (Int.toNat (j:Int)) 8)))=((x|||2^j:Nat):Int):=by decide+kernel
theorem EL:∀x:Nat,x<256->∀j:Nat,j<8->xF .u8 (x:Int) (IntKind.wrap .u8 (1*2^(min (Int.toNat (j:Int)) 8)))=((x&&&(255-2^j):Nat):Int):=by decide+kernel
theorem wI:∀x:Nat,x<256->∀y:Nat,y<256->x|||y<256:=λ_ hx _ a=>Nat.or_lt_two_pow (n:=8) hx a
theorem EM:∀j:Nat,j<8->∀k:Nat,k<8->(255-2^j).testBit k=(k !=j):=by decide+kernel
theorem EN(x y:Nat)(hx:x<256)(a:y<256):ly .u8 (x:Int) (y:Int)=((x|||y:Nat):Int):=by
 have h:=wI x hx y a;have e:(BitVec.ofInt 8 (x:Int)|||BitVec.ofInt 8 (y:Int)).toNat=x|||y:=by
  simp only[BitVec.ofInt_natCast,BitVec.toNat_or,BitVec.toNat_ofNat];rw[iM (by simpa using hx),iM (by simpa using a)]
 show IntKind.wrap .u8 (((BitVec.ofInt 8 (x:Int)|||BitVec.ofInt 8 (y:Int)).toNat:Nat):Int)=_;rw[e];have:((x|||y:Nat):Int)%256=((x|||y:Nat):Int):=Int.emod_eq_of_lt I I;simp[IntKind.wrap,IntKind.signed,IntKind.bits,this]
theorem EO(k:Nat):8*(k/8)+k%8=k:=Nat.div_add_mod k 8
theorem EP(f:Nat->an)(k:Nat):byteOf f (k/8)|||2^(k%8)=byteOf (dc f k true) (k/8):=by
 refine wH _ _ _ (wI _ (jG _ _) _ ?_) λj b=>?_
 .have:k%8<8:=hN _ I
  have:=Nat.pow_lt_pow_right (a:=2) I this;simpa using this
 .rw[lg,nm _ _ _ b,po,dc]
  by_cases h:8*(k/8)+j=k
  .rw[if_pos h]
   have:k%8=j:=by omega
   simp[this]
  .rw[if_neg h]
   have:¬k%8=j:=by omega
   simp[this]
theorem ER(f:Nat->an)(k:Nat):byteOf f (k/8)&&&(255-2^(k%8))=byteOf (dc f k false) (k/8):=by
 refine wH _ _ _ (Nat.lt_of_le_of_lt Nat.and_le_left (jG _ _)) λj a=>?_;rw[Nat.testBit_and,nm _ _ _ a,EM _ (hN _ I) _ a,dc];by_cases h:8*(k/8)+j=k
 .rw[if_pos h]
  have:j=k%8:=by omega
  simp[this]
 .rw[if_neg h]
  have:¬j=k%8:=by omega
  simp[this]
theorem ES(f:Nat->an)(k i:Nat)(b:an)(h:i≠k/8):byteOf (dc f k b) i=byteOf f i:=by
 have e:∀j,j<8->dc f k b (8*i+j)=f (8*i+j):=λj a=>by
  unfold dc;rw[if_neg];omega
 unfold byteOf;rw[e 1 I,e 2 I,e 3 I,e 4 I,e 5 I,e 6 I,e 7 I];have:=e 0 I;simp only[kf]at this;rw[this]
def eI(f:Nat->an)(m:Nat):O Y:=(List.range m).map λi=>.int .u8 (byteOf f i)
theorem wJ(f:Nat->an)(m:Nat):(eI f m).length=m:=by simp[eI]
theorem nn(f:Nat->an){m i:Nat}(h:i<m):(eI f m)[i]? =some (.int .u8 (byteOf f i)):=by simp[eI,h]
theorem Ab(f:Nat->an)(k m:Nat)(b:an):(eI f m).set (k/8) (.int .u8 (byteOf (dc f k b) (k/8)))=eI (dc f k b) m:=by
 apply List.ext_getElem?;intro i;rw[List.getElem?_set];by_cases hi:i<m
 .rw[nn (dc f k b) hi]
  by_cases h:k/8=i
  .subst h
   simp[wJ,hi]
  .rw[if_neg h,nn _ hi,ES f k i b I]
 .have h1:(eI (dc f k b) m)[i]? =none:=by simp[eI];omega
  have a:(eI f m)[i]? =none:=by simp[eI];omega
  rw[h1,a];split
  .simp[wJ];omega
  .rfl
theorem Ac(k:Nat):Int.tdiv (k:Int) 8=((k/8:Nat):Int):=by
 rw[Int.tdiv_eq_ediv_of_nonneg I];omega
theorem wK(k:Nat):Int.tmod (k:Int) 8=((k%8:Nat):Int):=by
 rw[rn I];omega
theorem wL{k:Nat}(h:k<=9223372036854775807):IntKind.wrap .i64 (Int.tdiv (k:Int) 8)=((k/8:Nat):Int):=by
 rw[Ac,bB I I]
theorem Ad{s:ad}{b:Nat}(h:s.a=some ⟨b,0,none⟩):aC s b:=⟨_,h,rfl⟩
theorem qR{w:J}{s:ad}{f:Nat->an}{m k:Nat}(h:aW 1 5 w s (eI f m))(a:k/8<m)(d:k<=9223372036854775807):
 aH ai 214 #[s,k] w (λv w'=>v=.bool (f k)/\w=w'):=by
 refine okF (ag.td s k) az.td func214 ?_;(delta ag.td aL au ee;dsimp only);obtain⟨b,c,e,g,i,hi,j,hc,_⟩:=h.cell (nn f a);refine⟨by decide,_,e,?_⟩;rw[wL d,wK];refine⟨⟨I,I⟩,(byteOf f (k/8):Int),?_,by decide,I,?_,rfl⟩
 .rw[fJ,dQ,ay,cS];exact hc
 .rw[EJ _ (jG _ _) _ (hN _ I),nm _ _ _ (hN _ I),EO]
theorem Ae{w:J}{s:ad}{f:Nat->an}{m k:Nat}(h:aW 1 5 w s (eI f m))(e:k/8<m)(g:k<=9223372036854775807):
 aH ai 130 #[s,k] w (λv w'=>v=.tuple #[]/\aW 1 5 w' s (eI (dc f k true) m)/\ae (aC s) w w'):=by
 refine okF (ag.sV s k) az.sV func130 ?_;(delta ag.sV al aL au ee st;dsimp only);obtain⟨b,c,d,i,l,hi,n,hc,_⟩:=h.cell (nn f e);have a:(Addr.mk b 0 none).add (Int.toNat ((k/8:Nat):Int)*1)=⟨b,k/8,none⟩:=by rw[fJ,dQ,ay,cS]
 rw[wL g,wK];refine⟨by decide,_,d,⟨I,I⟩,by simp,(byteOf f (k/8):Int),by rw[a];exact hc,by decide,I,_,d,⟨I,I⟩,⟨_,by rw[a];exact hc⟩,by rw[a];exact i.drew.frozen _ rfl,rfl,?_,?_⟩
 .rw[a,EK _ (jG _ _) _ (hN _ I),EP,←Ab]
  have j:aW 1 5 w.drew s (eI f m):=h.af (W:=λ_=>False) (ae.drew (.refl _ _)) (λ_ _ h=>h);exact j.set d _
 .rw[a]
  exact ae.set (ae.drew (.refl _ _)) (λ_=>Ad d) _
theorem ET{w:J}{s:ad}{f:Nat->an}{m k:Nat}(h:aW 1 5 w s (eI f m))(e:k/8<m)(g:k<=9223372036854775807):
 aH ai 219 #[s,k] w (λv w'=>v=.tuple #[]/\aW 1 5 w' s (eI (dc f k false) m)/\ae (aC s) w w'):=by
 refine okF (ag.te s k) az.te func219 ?_;(delta ag.te al aL au ee st;dsimp only);obtain⟨b,c,d,i,l,hi,n,hc,_⟩:=h.cell (nn f e);have a:(Addr.mk b 0 none).add (Int.toNat ((k/8:Nat):Int)*1)=⟨b,k/8,none⟩:=by rw[fJ,dQ,ay,cS]
 rw[wL g,wK];refine⟨by decide,_,d,⟨I,I⟩,by simp,(byteOf f (k/8):Int),by rw[a];exact hc,by decide,I,_,d,⟨I,I⟩,⟨_,by rw[a];exact hc⟩,by rw[a];exact i.drew.frozen _ rfl,rfl,?_,?_⟩
 .rw[a,EL _ (jG _ _) _ (hN _ I),ER,←Ab]
  have j:aW 1 5 w.drew s (eI f m):=h.af (W:=λ_=>False) (ae.drew (.refl _ _)) (λ_ _ h=>h);exact j.set d _
 .rw[a]
  exact ae.set (ae.drew (.refl _ _)) (λ_=>Ad d) _
structure eJ(w:J)(b n:Nat)(f g:Nat->an)(s1 s2:ad):Prop where
 b3:bh w b #[n,s1,s2] 218
 now:aW 1 5 w s1 (eI f ((n+7)/8))
 sure:aW 1 5 w s2 (eI g ((n+7)/8))
 d1:∀k,aC s1 k->k≠b/\¬aC s2 k
 d2:∀k,aC s2 k->k≠b
 bM:1<=n
 bf:n<=1600
 pf:∀i,n<=i->f i=false
 dd:∀i,n<=i->g i=false
def ff(b:Nat)(s1 s2:ad)(k:Nat):Prop:=k=b\/aC s1 k\/aC s2 k
section
variable {w w':J}{b n:Nat}{f g:Nat->an}{s1 s2:ad}
theorem eJ.af{W:Nat->Prop}(h:eJ w b n f g s1 s2)(hc:ae W w w')(a:∀k,ff b s1 s2 k->¬W k):eJ w' b n f g s1 s2:=
 ⟨h.b3.af hc (a b (.inl rfl)),h.now.af hc λk c=>a k (.inr (.inl c)),h.sure.af hc λk c=>a k (.inr (.inr c)),h.d1,h.d2,h.bM,h.bf,h.pf,h.dd⟩
theorem eJ.ext(h:eJ w b n f g s1 s2)(hc:Ext w w'):eJ w' b n f g s1 s2:=h.af hc λ_ _ h=>h
theorem eJ.lt(h:eJ w b n f g s1 s2):∀k,ff b s1 s2 k->k<w.heap.size:=by
 rintro k (rfl|a|a)
 .exact h.b3.lt
 .exact h.now.lt k a
 .exact h.sure.lt k a
theorem eJ.bS(h:eJ w b n f g s1 s2):w.cell? b=some (.int .i64 n):=by rw[h.b3.cell];rfl
theorem eJ.aT(h:eJ w b n f g s1 s2):w.cell? ((Addr.mk b 0 none).add 1)=some (.slice s1.a s1.len s1.cap):=by rw[ay,h.b3.cell];rfl
theorem eJ.a8(h:eJ w b n f g s1 s2):w.cell? ((Addr.mk b 0 none).add 2)=some (.slice s2.a s2.len s2.cap):=by rw[ay,h.b3.cell];rfl
theorem EU(h:eJ w b n f g s1 s2){k:Nat}(a:k<n):
 aH ai 217 #[.pointer (some b),k] w (λv w'=>v=.bool (f k||g k)/\w=w'):=by
 have c:=h.bf;refine ag.CU _ k w _ ?_;(delta ag.qs r1 b_ ao;dsimp only);refine⟨_,rfl,s1,h.aT,(qR h.now (k:=k) I I).use ?_⟩;rintro _ _ ⟨rfl,rfl⟩;refine⟨_,rfl,⟨λhf=>⟨by rw[hf];rfl,rfl⟩,λhf=>⟨_,rfl,s2,h.a8,(qR h.sure (k:=k) I I).use ?_⟩⟩⟩;rintro _ _ ⟨rfl,rfl⟩;exact⟨_,rfl,by rw[hf];rfl,rfl⟩
theorem Af(h:eJ w b n f g s1 s2)(k:Int):
 aH ai 218 #[.pointer (some b),k] w (λv w'=>v=.bool (decide (0<=k)&&decide (k<n))/\w=w'):=by
 refine ag.CV _ k w _ ?_;(delta ag.qt ao aE;dsimp only);refine⟨?_⟩;refine⟨λh1=>⟨_,rfl,n,h.bS,?_,rfl⟩,λh1=>⟨?_,rfl⟩⟩
 .have:0<=k:=by simpa using h1
  simp[this]
 .have:¬0<=k:=by simpa using h1
  simp[this]
def firstFree(t:Nat->an)(n:Nat):aq Nat:=(List.range n).find? λi=> !t i
theorem EV{t:Nat->an}{n k:Nat}(e:k<n)(ht:t k=false)(c:∀i,i<k->t i=true):firstFree t n=some k:=by
 unfold firstFree;rw[List.find?_eq_some_iff_append];refine⟨by simp[ht],List.range k,(List.range' (k+1) (n-(k+1))),?_,λa d=>?_⟩
 .have b:=List.range'_append (s:=0) (m:=k) (n:=n-(k+1)+1) (step:=1)
  rw[q8,q8,←List.range'_succ];rw[Nat.one_mul,cS]at b;rw[b]
  congr 1
  omega
 .simp[c a (ji.1 d)]
theorem EW{t:Nat->an}{n:Nat}(b:∀i,i<n->t i=true):firstFree t n=none:=by
 unfold firstFree;rw[jn];intro a c;simp[b a (ji.1 c)]
theorem Ag{t:Nat->an}{n k:Nat}(h:firstFree t n=some k):k<n/\t k=false/\∀i,i<k->t i=true:=by
 unfold firstFree at h;obtain⟨h1,b,lb,a,e⟩:=List.find?_eq_some_iff_append.1 h;have f:k<n:=ji.1 (by rw[a];simp);refine⟨f,by simpa using h1,λi hi=>?_⟩;have hlen:b.length=k:=by
  have c:(List.range n)[b.length]? =some k:=by rw[a];simp
  rw[List.getElem?_range (by
   have:=congrArg List.length a;simp at this;omega)]at c
  simpa using c
 have d:(List.range n)[i]? =some i:=List.getElem?_range I;rw[a,List.getElem?_append_left I]at d;have:=e i (List.mem_of_getElem? d);simpa using this
theorem EX{t:Nat->an}{n:Nat}(h:firstFree t n=none):∀i,i<n->t i=true:=by
 unfold firstFree at h;rw[jn]at h;intro i hi;have:=h i (ji.2 hi);simpa using this
def EY(o:aq Nat):Y:=
 match o with
 |some k=>.tuple #[.int .i64 (k:Int),(0:Int)]
 |none=>.tuple #[.int .i64 (-1),(2:Int)]
def EZ(o:aq Nat)(f:Nat->an):Nat->an:=
 match o with
 |some k=>dc f k true
 |none=>f
theorem Ah{f:Nat->an}{n k:Nat}{x:an}(h:∀i,n<=i->f i=false)(a:k<n):∀i,n<=i->dc f k x i=false:=λi hi=>by
 unfold dc
 rw[if_neg I]
 exact h i hi
theorem Ai(h:eJ w b n f g s1 s2):
 aH ai 160 #[.pointer (some b)] w (λv w'=>v=EY (firstFree (λi=>f i||g i) n)/\eJ w' b n (EZ (firstFree (λi=>f i||g i) n) f) g s1 s2/\ae (ff b s1 s2) w w'):=by
 have r:=h.bf;refine ag.CM _ w _ ?_;(delta ag.qn ao aE b_ r1 fV au;dsimp only);refine⟨λh1=>by simp at h1,λ_=>⟨_,rfl,n,h.bS,λi w'=>∃k:Nat,i=k/\k<=n/\w=w'/\∀j,j<k->(f j||g j)=true,λi _=>(n-i).toNat,⟨0,rfl,I,rfl,λj l=>I⟩,?_⟩⟩;rintro _ _ ⟨k,rfl,a,rfl,d⟩;refine⟨λaK=>(EU h (k:=k) (by simpa using aK)).use ?_,λm=>?_⟩
 .have c:k<n:=by simpa using aK
  rintro _ _ ⟨rfl,rfl⟩;refine⟨_,rfl,λht=>⟨_,rfl,s1,h.aT,(Ae h.now (k:=k) I I).use ?_⟩,λht=>?_⟩
  .rintro _ w' ⟨rfl,o,hc⟩
   have e:(f k||g k)=false:=by simpa using ht
   have p:=EV (t:=λi=>f i||g i) c e d;rw[p];refine⟨rfl,rfl,⟨h.b3.af hc λq=>(h.d1 b q).1 rfl,o,h.sure.af hc λk a h1=>(h.d1 k h1).2 a,h.d1,h.d2,h.bM,h.bf,Ah h.pf c,h.dd⟩,hc.mono λk _ a=>.inr (.inl a)⟩
  .have e:(f k||g k)=true:=by cases hx:(f k||g k)<;>simp[hx]at ht⊢
   rw[bB I I];refine⟨⟨k+1,I,I,rfl,λj l=>?_⟩,(show((n:Int)-((k:Int)+1)).toNat<((n:Int)-(k:Int)).toNat from I)⟩;rcases ei j k with h1|h1
   .exact d j h1
   .have:j=k:=by omega
    subst this;exact e
 .have c:k=n:=by
   have:¬(k:Int)<n:=by simpa using m
   omega
  subst c;rw[EW d];exact⟨rfl,h,.refl _ _⟩
def ue(f:Nat->an)(n:Nat)(k:Int):Int:=if 0<=k/\k<n then (if f k.toNat then 0 else 6) else 1
def l4(f:Nat->an)(n:Nat)(k:Int):Nat->an:=if 0<=k/\k<n then dc f k.toNat false else f
theorem E0{f:Nat->an}{k:Nat}{x:an}(h:f k=x):dc f k x=f:=by
 funext i;unfold dc;split
 .rename_i hi;rw[hi,h]
 .rfl
theorem Aj(h:eJ w b n f g s1 s2)(k:Int):
 aH ai 161 #[.pointer (some b),k] w (λv w'=>v=.int .i64 (ue f n k)/\eJ w' b n (l4 f n k) g s1 s2/\ae (ff b s1 s2) w w'):=by
 have o:=h.bf;refine ag.CN _ k w _ ?_;(delta ag.qo b_ ao r1 fV;dsimp only);refine(Af h k).use ?_;rintro _ _ ⟨rfl,rfl⟩;refine⟨_,rfl,λh1=>?_,λh1=>?_⟩
 .have:¬(0<=k/\k<n):=by
   rintro⟨a,e⟩;simp[a,e]at h1
  exact⟨by rw[ue,if_neg this],by rw[l4,if_neg this];exact h,.refl _ _⟩
 .have c:0<=k/\k<n:=by simpa using h1
  obtain⟨m,rfl⟩:=uI c.1;have i:m<n:=by omega
  refine⟨_,rfl,s1,h.aT,(qR h.now (k:=m) I I).use ?_⟩;rintro _ _ ⟨rfl,rfl⟩;refine⟨_,rfl,λa=>?_,λa=>⟨_,rfl,s1,h.aT,(ET h.now (k:=m) I I).use ?_⟩⟩
  .have hf:f m=false:=by simpa using a
   refine⟨by rw[ue,if_pos c,dQ,hf];rfl,?_,.refl _ _⟩;rw[l4,if_pos c,dQ,E0 hf];exact h
  .rintro _ w' ⟨rfl,j,hc⟩
   have hf:f m=true:=by simpa using a
   refine⟨rfl,by rw[ue,if_pos c,dQ,hf];rfl,?_,hc.mono λk _ d=>.inr (.inl d)⟩;rw[l4,if_pos c,dQ];exact⟨h.b3.af hc λl=>(h.d1 b l).1 rfl,j,h.sure.af hc λk d h1=>(h.d1 k h1).2 d,h.d1,h.d2,h.bM,h.bf,Ah h.pf i,h.dd⟩
theorem E1(h:eJ w b n f g s1 s2)(k:Int):
 aH ai 246 #[.pointer (some b),k] w (λv w'=>v=.bool (decide (0<=k)&&decide (k<n)&&f k.toNat&& !(g k.toNat))/\w=w'):=by
 have d:=h.bf;refine ag.CZ _ k w _ ?_;(delta ag.qu b_ ao r1;dsimp only);refine(Af h k).use ?_;rintro _ _ ⟨rfl,rfl⟩;refine⟨_,rfl,⟨λh1=>?_,λh1=>⟨(λh=>by cases h),λ_=>⟨by rw[h1];rfl,rfl⟩⟩⟩⟩;have c:0<=k/\k<n:=by simpa using h1
 obtain⟨m,rfl⟩:=uI c.1;refine⟨_,rfl,s1,h.aT,(qR h.now (k:=m) I I).use ?_⟩;rintro _ _ ⟨rfl,rfl⟩;refine⟨_,rfl,λa=>⟨_,rfl,s2,h.a8,(qR h.sure (k:=m) I I).use ?_⟩,λa=>⟨by rw[h1,dQ,a];rfl,rfl⟩⟩;rintro _ _ ⟨rfl,rfl⟩;exact⟨_,rfl,by rw[h1,dQ,a];rfl,rfl⟩
end
theorem E2:ic ai 215 5 1 1:=⟨by kernel_rfl⟩
theorem E3:ic ai 48 5 1 1:=⟨by kernel_rfl⟩
theorem E4(n:Nat):gx ai 5 n=(List.replicate n (.int .u8 0)).toArray:=yp (by kernel_rfl) (by kernel_rfl) n
theorem wM(f:Nat->an)(m:Nat):∀v∈eI f m,Plain v:=by
 intro v a;obtain⟨i,_,rfl⟩:=e9.1 a;trivial
theorem Ak{w:J}{s:ad}{xs:O Y}(h:Src 1 w s xs)(d:∀v∈xs,Plain v)(j:s.len<=1000000):
 aH ai 194 #[s] w (λv w'=>∃b:ad,v=b/\aW 1 5 w' b xs/\Ext w w'/\∀k,aC b k->w.heap.size<=k):=by
 refine okF (ag.so s) az.so func194 ?_;delta ag.so al ao aa;refine⟨λc=>?_,λ_=>?_⟩
 .have c:s.a=none:=by simpa using c
  rw[h.nil c];exact⟨⟨none,0,0⟩,rfl,aW.none _ _ _,.refl _ _,λk e=>(g7 k e).elim⟩
 .obtain⟨b,w',h1,f,l,g,i,_⟩:=E2.clone (dK:=215) h d I
  exact⟨b,w',h1,b,rfl,f,g,i⟩
theorem E5{w:J}{s:ad}{xs:O Y}(h:Src 1 w s xs)(d:∀v∈xs,Plain v)(j:s.len<=1000000):
 aH ai 135 #[s] w (λv w'=>∃b:ad,v=b/\aW 1 5 w' b xs/\Ext w w'/\∀k,aC b k->w.heap.size<=k):=by
 refine okF (ag.mJ s) az.mJ func135 ?_;delta ag.mJ al ao aa;refine⟨λc=>?_,λ_=>?_⟩
 .have c:s.a=none:=by simpa using c
  rw[h.nil c];exact⟨⟨none,0,0⟩,rfl,aW.none _ _ _,.refl _ _,λk e=>(g7 k e).elim⟩
 .obtain⟨b,w',h1,f,l,g,i,_⟩:=E3.clone (dK:=48) h d I
  exact⟨b,w',h1,b,rfl,f,g,i⟩
section
variable {w w':J}{b n:Nat}{f g:Nat->an}{s1 s2:ad}
theorem qS{T:TypeId}{m:Nat}(h:aW 1 T w s1 (eI f m)):s1.len=m:=by
 have:=h.1;rw[wJ]at this;omega
theorem Al{m:Nat}{u:Y}(c:bh w b #[n,s1,u] 218)(h1:aW 1 5 w s1 (eI f m))(hd:∀k,aC s1 k->k≠b)(g:m<=1000000):
 aH ai 131 #[.pointer (some b)] w (λv w'=>v=.tuple #[]/\∃a:ad,bh w' b #[n,s1,a] 218/\
  aW 1 5 w' s1 (eI f m)/\aW 1 5 w' a (eI f m)/\ae (λk=>k=b) w w'/\∀k,aC a k->w.heap.size<=k):=by
 refine ag.CH _ w _ ?_;(delta ag.qj al ao r1 bG st;dsimp only);refine⟨λ_=>⟨_,rfl,s1,by rw[ay,c.cell];rfl,(Ak h1.src (wM f m) (by rw[qS h1];exact g)).use ?_⟩,λh=>by simp at h⟩;rintro _ aj ⟨a,rfl,i,hx,hf⟩;have d:=c.ext hx;have j:∀k,aC a k->k≠b:=λk l e=>by have:=hf k l;have:=c.lt;omega
 refine⟨a,rfl,_,rfl,⟨_,by rw[ay,d.cell];rfl⟩,d.frozen _ rfl,rfl,a,?_,?_,?_,?_,hf⟩
 .rw[ay];exact d.set 2 _
 .exact(h1.ext hx).af (W:=λk=>k=b) (ae.set (.refl _ _) (λ_=>by rw[ay]) _) hd
 .exact i.af (W:=λk=>k=b) (ae.set (.refl _ _) (λ_=>by rw[ay]) _) j
 .exact(ae.cP hx).set (λ_=>by rw[ay]) _
theorem E6(h:eJ w b n f g s1 s2):
 aH ai 131 #[.pointer (some b)] w (λv w'=>v=.tuple #[]/\∃c:ad,eJ w' b n f f s1 c/\ae (ff b s1 s2) w w'/\∀k,ff b s1 c k->ff b s1 s2 k\/w.heap.size<=k):=by
 have o:=h.bf;refine(Al h.b3 h.now (λk a=>(h.d1 k a).1) I).mono ?_;rintro _ w' ⟨rfl,c,h1,i,j,l,d⟩;refine⟨rfl,c,⟨h1,i,j,λk a=>⟨(h.d1 k a).1,λm=>?_⟩,λk a e=>?_,h.bM,h.bf,h.pf,h.pf⟩,l.mono λk _ a=>.inl a,λk a=>?_⟩
 .have:=d k m;have:=h.now.lt k a;omega
 .have:=d k a;have:=h.b3.lt;omega
 .rcases a with rfl|a|a
  .exact .inl (.inl rfl)
  .exact .inl (.inr (.inl a))
  .exact .inr (d k a)
theorem E7(h:eJ w b n f g s1 s2):
 aH ai 144 #[.pointer (some b)] w (λv w'=>v=.tuple #[]/\∃c:ad,eJ w' b n g g c s2/\ae (ff b s1 s2) w w'/\∀k,ff b c s2 k->ff b s1 s2 k\/w.heap.size<=k):=by
 have m:=h.bf;refine ag.CI _ w _ ?_;(delta ag.qk al ao r1 bG st;dsimp only);refine⟨λ_=>⟨_,rfl,s2,h.a8,(Ak h.sure.src (wM g _) (by rw[qS h.sure];omega)).use ?_⟩,λh=>by simp at h⟩;rintro _ aj ⟨c,rfl,j,hx,hf⟩;have d:=h.b3.ext hx;have i:∀k,aC c k->k≠b:=λk a e=>by have:=hf k a;have:=h.b3.lt;omega
 refine⟨c,rfl,_,rfl,⟨_,by rw[ay,d.cell];rfl⟩,d.frozen _ rfl,rfl,c,⟨?_,?_,?_,λk a=>⟨i k a,λl=>?_⟩,h.d2,h.bM,h.bf,h.dd,h.dd⟩,?_,λk a=>?_⟩
 .rw[ay];exact d.set 1 _
 .exact j.af (W:=λk=>k=b) (ae.set (.refl _ _) (λ_=>by rw[ay]) _) i
 .exact(h.sure.ext hx).af (W:=λk=>k=b) (ae.set (.refl _ _) (λ_=>by rw[ay]) _) h.d2
 .have:=hf k a;have:=h.sure.lt k l;omega
 .exact(ae.cP hx).set (λ_=>by rw[ay];exact .inl rfl) _
 .rcases a with rfl|a|a
  .exact .inl (.inl rfl)
  .exact .inr (hf k a)
  .exact .inl (.inr (.inr a))
def o6(x:Nat):Nat:=(x.testBit 0).toNat+(x.testBit 1).toNat+(x.testBit 2).toNat+(x.testBit 3).toNat+(x.testBit 4).toNat+(x.testBit 5).toNat+(x.testBit 6).toNat+(x.testBit 7).toNat
def ey(t:Nat->an):Nat->Nat
 |0=>0
 |k+1=>ey t k+(t k).toNat
theorem l5(t:Nat->an):∀k,ey t k<=k
 |0=>bm _
 |k+1=>by have:=l5 t k;have:=Bool.toNat_le (t k);simp only[ey];omega
theorem E8(t:Nat->an)(i:Nat):ey t (8*(i+1))=ey t (8*i)+o6 (byteOf t i):=by
 have h:∀j,j<8->(byteOf t i).testBit j=t (8*i+j):=λj a=>nm t i j a;unfold o6;rw[h 0 I,h 1 I,h 2 I,h 3 I,h 4 I,h 5 I,h 6 I,h 7 I];show ey t (8*i+7+1)=_;simp only[ey,kf];omega
theorem Am(t:Nat->an)(n:Nat)(h:∀i,n<=i->t i=false):∀k,ey t (n+k)=ey t n
 |0=>rfl
 |k+1=>by
  have:=Am t n h k
  show ey t (n+k)+(t (n+k)).toNat=_
  rw[this,h (n+k) I]
  rfl
theorem E9:∀x:Nat,x<256->(uR (ByteArray.mk #[0,1,1,2,1,2,2,3,1,2,2,3,2,3,3,4,1,2,2,3,2,3,3,4,2,3,3,4,3,4,4,5,1,2,2,3,2,3,3,4,2,3,3,4,3,4,4,5,2,3,3,4,3,4,4,5,3,4,4,5,4,5,5,6,1,2,2,3,2,3,3,4,2,3,3,4,3,4,4,5,2,3,3,4,3,4,4,5,3,4,4,5,4,5,5,6,2,3,3,4,3,4,4,5,3,4,4,5,4,5,5,6,3,4,4,5,4,5,5,6,4,5,5,6,5,6,6,7,1,2,2,3,2,3,3,4,2,3,3,4,3,4,4,5,2,3,3,4,3,4,4,5,3,4,4,5,4,5,5,6,2,3,3,4,3,4,4,5,3,4,4,5,4,5,5,6,3,4,4,5,4,5,5,6,4,5,5,6,5,6,6,7,2,3,3,4,3,4,4,5,3,4,4,5,4,5,5,6,3,4,4,5,4,5,5,6,4,5,5,6,5,6,6,7,3,4,4,5,4,5,5,6,4,5,5,6,5,6,6,7,4,5,5,6,5,6,6,7,5,6,6,7,6,7,7,8]) x).map (·.toNat)=some (o6 x):=by decide+kernel
theorem An(x:Nat):o6 x<=8:=by
 unfold o6;have h:∀b:an,b.toNat<=1:=Bool.toNat_le;have:=h (x.testBit 0);have:=h (x.testBit 1);have:=h (x.testBit 2);have:=h (x.testBit 3);have:=h (x.testBit 4);have:=h (x.testBit 5);have:=h (x.testBit 6);have:=h (x.testBit 7);omega
theorem E_(w:J)(x:Nat)(hx:x<256):aH ai 202 #[.int .u8 x] w (λv w'=>v=.int .i64 (o6 x)/\w=w'):=by
 refine okF (ag.sq x) az.sq func202 ?_;delta ag.sq au;have h:=E9 x hx;refine⟨I,?_⟩
 cases a:uR _ x with
 |none=>rw[a]at h;cases h
 |some y=>
  rw[a]at h;simp only[kh,Option.some.injEq]at h;refine⟨y,a,?_,rfl⟩;rw[h,bB I (by have:=An x;omega)]
theorem Fa(f g:Nat->an)(i:Nat):byteOf f i|||byteOf g i=byteOf (λk=>f k||g k) i:=
 wH _ _ _ (wI _ (jG _ _) _ (jG _ _)) λj a=>by rw[lg,nm _ _ _ a,nm _ _ _ a]
theorem wN(h:eJ w b n f g s1 s2):
 aH ai 148 #[.pointer (some b)] w (λv w'=>v=.int .i64 ((n:Int)-ey (λi=>f i||g i) n)/\Ext w w'):=by
 have p:=h.bf;have q:=qS h.now;have s:=qS h.sure;refine ag.CJ _ w _ ?_;(delta ag.ql al ao aE r1 aL ee b9 au;dsimp only);refine⟨λh1=>by simp at h1,λ_=>⟨_,rfl,n,h.bS,_,rfl,s1,h.aT,λr i w'=>∃k:Nat,i=k/\k<=s1.len/\Ext w w'/\r=(n:Int)-ey (λi=>f i||g i) (8*k),λ_ i _=>((s1.len:Int)-i).toNat,⟨0,rfl,I,.refl _ _,by simp[ey]⟩,?_⟩⟩;rintro _ _ w1 ⟨k,rfl,t,hx,rfl⟩;refine⟨λaK=>?_,λc=>?_⟩
 .have d:k<s1.len:=by simpa using aK
  have h1:=h.ext hx.drew;obtain⟨cg,aT,j,u,_,_,_,l,_⟩:=h1.now.cell (nn f (i:=k) I);obtain⟨bH,a8,m,x,_,_,_,o,_⟩:=h1.sure.cell (nn g (i:=k) I);have a:∀b:Nat,(Addr.mk b 0 none).add (Int.toNat (k:Int)*1)=⟨b,k,none⟩:=λb=>by rw[fJ,dQ,ay,cS]
  refine⟨λ_=>False,_,rfl,by simp,s1,h1.aT,_,j,I,by simp,_,by rw[a];exact l,_,rfl,by simp,s2,h1.a8,_,m,I,by simp,_,by rw[a];exact o,?_⟩;rw[EN _ _ (jG _ _) (jG _ _),Fa];refine(E_ _ _ (jG _ _)).use ?_;rintro _ _ ⟨rfl,rfl⟩;have:=An (byteOf (λi=>f i||g i) k);have:=l5 (λi=>f i||g i) (8*k);refine⟨_,rfl,.refl _ _,?_⟩;rw[bB (n:=(n:Int)-_-_) I I,bB (n:=(k:Int)+1) I I];exact⟨⟨k+1,I,I,hx.drew,by rw[E8];omega⟩,(show((s1.len:Int)-((k:Int)+1)).toNat<((s1.len:Int)-(k:Int)).toNat from I)⟩
 .have d:k=s1.len:=by
   have:¬(k:Int)<s1.len:=by simpa using c
   omega
  refine⟨?_,hx⟩;have e:8*k=n+(8*k-n):=by omega
  rw[e,Am _ _ (λi hi=>by simp[h.pf i hi,h.dd i hi])]
theorem Ao(h:eJ w b n f g s1 s2):
 aH ai 74 #[.pointer (some b)] w (λv w'=>∃s:ad,v=s/\aW 1 5 w' s (eI f ((n+7)/8))/\Ext w w'/\∀k,aC s k->w.heap.size<=k):=by
 have c:=h.bf;refine ag.CB _ w _ ?_;(delta ag.qh ao r1 bG;dsimp only);refine⟨λh1=>by simp at h1,λ_=>⟨_,rfl,s1,h.aT,(E5 h.now.src (wM f _) (by rw[qS h.now];omega)).use ?_⟩⟩;rintro _ aj ⟨s,rfl,a,hx,hf⟩;exact⟨s,rfl,s,rfl,a,hx,hf⟩
end
theorem Fb(w:J)(n:Int):aH ai 128 #[n] w (λv w'=>v=.bool (decide (1<=n/\n<=1600))/\w=w'):=by
 refine okF (ag.sT n) az.sT func128 ?_;unfold ag.sT;refine⟨?_,rfl⟩;simp[Bool.decide_and]
theorem Fc(w:J)(n:Nat)(a:n<=1600):aH ai 129 #[n] w (λv w'=>v=.int .i64 (((n+7)/8:Nat):Int)/\w=w'):=by
 refine okF (ag.sU n) az.sU func129 ?_;delta ag.sU au;refine⟨by decide,?_,rfl⟩;rw[bB (n:=(n:Int)+8) I I,bB (n:=(n:Int)+8-1) I I,show(n:Int)+8-1=((n+7:Nat):Int) from I,Ac,bB I I]
theorem Fe(m:Nat):eI (λi=>decide (i<0)) m=List.replicate m (.int .u8 0):=by
 apply rh
 .simp[eI]
 .intro i h1 a
  simp[eI,byteOf,j9]
theorem Ff(j:Nat):dc (λi=>decide (i<j)) j true=λi=>decide (i<j+1):=by
 funext i;unfold dc;split
 .rename_i h;simp[h]
 .rename_i h;simp;omega
theorem og(w:J)(n first:Int):
 aH ai 71 #[.int .i64 n,.int .i64 first] w (λv w'=>(¬(1<=n/\n<=1600/\0<=first/\first<=n)/\v=.tuple #[.pointer none,.int .i64 1]/\w=w')\/
  (1<=n/\n<=1600/\0<=first/\first<=n/\∃b s1 s2,v=.tuple #[.pointer (some ⟨b,0,none⟩),.int .i64 0]/\eJ w' b n.toNat (λi=>decide (i<first.toNat)) (λi=>decide (i<first.toNat)) s1 s2/\Ext w w'/\∀k,ff b s1 s2 k->w.heap.size<=k)):=by
 refine okF (ag.og n first) az.og func71 ?_;(delta ag.og al b_ ao b9 jx aa r1 fV au;dsimp only);refine(Fb w n).use ?_;rintro _ _ ⟨rfl,rfl⟩;refine⟨_,rfl,λh=>.inl ⟨λhc=>?_,rfl,rfl⟩,λh=>?_⟩
 .simp at h;omega
 simp at h;obtain⟨⟨⟨F,G⟩,H⟩,K⟩:=h;obtain⟨n,rfl⟩:=uI (by omega:0<=n);obtain⟨first,rfl⟩:=uI (by omega:0<=first);refine(Fc w n I).use ?_;rintro _ _ ⟨rfl,rfl⟩;refine⟨_,rfl,I,?_⟩;simp only[dQ];rw[E4];obtain⟨m,f⟩:∃m,m=(n+7)/8:=⟨_,rfl⟩;rw[←f];have l:=aW.new (sz:=1) (T:=5) w (List.replicate m (.int .u8 0)) m (by simp) (by show m<=2^63-1;omega);rw[←Fe]at l⊢;have ar:Ext w (w.alloc (.cells (eI (λi=>decide (i<0)) m).toArray 5)):=ae.alloc (.refl _ _) _;generalize s:w.alloc (.cells (eI (λi=>decide (i<0)) m).toArray 5)=w1 at*;have L:w1.heap.size=w.heap.size+1:=by rw[←s];simp
 have t:=bh.new w1 #[.int .i64 (n:Int),.slice (some ⟨w.heap.size,0,none⟩) m m,.slice none 0 0] 218;have u:=ae.alloc ar (.cells #[.int .i64 (n:Int),.slice (some ⟨w.heap.size,0,none⟩) m m,.slice none 0 0] 218);have x:=l.ext (ae.alloc (.refl _ w1) (.cells #[.int .i64 (n:Int),.slice (some ⟨w.heap.size,0,none⟩) m m,.slice none 0 0] 218));refine⟨λi w'=>∃j:Nat,i=j/\j<=first/\Ext w w'/\bh w' w1.heap.size #[.int .i64 (n:Int),.slice (some ⟨w.heap.size,0,none⟩) m m,.slice none 0 0] 218/\
  aW 1 5 w' ⟨some ⟨w.heap.size,0,none⟩,m,m⟩ (eI (λi=>decide (i<j)) m),λi _=>((first:Int)-i).toNat,⟨0,rfl,I,u,t,x⟩,?_⟩
 rintro _ aj ⟨j,rfl,M,hx,d,o⟩;refine⟨λaK=>?_,λy=>?_⟩
 .have p:j<first:=by simpa using aK
  refine⟨_,rfl,⟨some ⟨w.heap.size,0,none⟩,m,m⟩,by rw[ay,d.cell];rfl,(Ae o (k:=j) I I).use ?_⟩;rintro _ z ⟨rfl,q,hc⟩;rw[Ff]at q;rw[bB I I];refine⟨rfl,⟨j+1,I,I,?_,d.af hc ?_,q⟩,(show((first:Int)-((j:Int)+1)).toNat<((first:Int)-(j:Int)).toNat from I)⟩
  .exact((ae.cP hx).trans hc).mono λk a c=>by rw[nZ]at c;simp at c;omega
  .intro c
   rw[nZ]at c;simp at c;omega
 .have p:j=first:=by
   have:¬(j:Int)<first:=by simpa using y
   omega
  subst p;have r:∀i,n<=i->decide (i<j)=false:=λi hi=>by simp;omega
  refine(Al d o (λk a e=>?_) I).use ?_
  .rw[nZ]at a
   simp at a;omega
  rintro _ z ⟨rfl,A,h1,B,C,D,g⟩;have N:=d.lt;refine⟨rfl,.inr ⟨I,I,I,I,w1.heap.size,⟨some ⟨w.heap.size,0,none⟩,m,m⟩,A,rfl,⟨h1,?_,?_,λk a=>⟨λe=>?_,λE=>?_⟩,λk a e=>?_,I,I,r,r⟩,?_,?_⟩⟩
  .simp only[←f];exact B
  .simp only[←f];exact C
  .rw[nZ]at a
   simp at a;omega
  .rw[nZ]at a
   simp at a;have:=g k E;omega
  .have:=g k a
   omega
  .exact((ae.cP hx).trans D).mono λk a e=>by omega
  .rintro k (rfl|a|a)
   .omega
   .rw[nZ]at a
    simp at a;omega
   .have:=g k a
    have:=hx.size;omega
structure Fr where
 full:an
 fg:an
 used:an
 no:Int
 pins:Int
 b:ad
 l:c7
def Fr.c(f:Fr):O Y:=[f.full,f.fg,f.used,f.no,f.pins,f.b]
def du:Fr:=⟨false,false,false,0,0,⟨none,0,0⟩,[]⟩
structure bN where
 c:Nat
 aV:Nat
 ak:O Fr
 hand:Nat
 D:a6
def cR(C:bN)(q:Nat):Prop:=q=C.c\/q=C.aV\/cd C.D q
structure eP(w:J)(C:bN):Prop where
 v:Var w C.c [.pointer (some C.D.d),.slice (some C.aV) C.ak.length C.ak.length,C.hand] 281
 f:bh w C.aV (cc Fr.c C.ak).toArray 288
 dev:c4 w C.D
 cr:8<=C.ak.length
 cq:C.ak.length<=64
 hd:C.hand<C.ak.length
 a1:C.c≠C.aV/\¬cd C.D C.c/\¬cd C.D C.aV
structure Ap(X:Nat->Prop)(w:J)(C:bN)(f:Fr)(no:Nat):Prop where
 num:f.no=no
 lt:no<C.D.n
 G_:bo (λq=>¬cR C q/\¬X q) w f.b f.l
 len:f.l.length=256
 clean:f.fg=false->f.l=C.D.now no
 bC:C.D.bC no=true->f.fg=false
 two:2<=no
structure fO(X:Nat->Prop)(w:J)(C:bN):Prop where
 pins:∀f∈C.ak,f.pins=0
 ok:∀f∈C.ak,f.full=true->∃no:Nat,Ap X w C f no
 un:∀ (i j:Nat) (hi:i<C.ak.length) (a:j<C.ak.length),(C.ak[i]).full=true->(C.ak[j]).full=true->(C.ak[i]).no=(C.ak[j]).no->i=j
 eK:∀q,X q->q<w.heap.size/\¬cR C q
 kz:∀j,C.D.bC j=true->C.D.dF j=C.D.dY j
def jH(aw D:a6):Prop:=aw.n=D.n/\(∀j,aw.bC j=true->D.bC j=true)/\∀j,aw.bC j=true->aw.dF j=aw.dY j
theorem fO.qT{X:Nat->Prop}{w:J}{C:bN}(h:fO X w C):jH C.D C.D:=⟨rfl,λ_ h=>h,h.kz⟩
theorem fO.cn{X:Nat->Prop}{w:J}{C:bN}(h:fO X w C)(k:Nat):jH (C.D.cn k) C.D:=⟨rfl,λ_ h=>h,h.kz⟩
structure dC(X:Nat->Prop)(w:J)(C:bN):Prop where
 raw:eP w C
 inv:fO X w C
def bN.view(C:bN)(no:Nat):c7:=match C.ak.find? λf=>f.full&&f.no==(no:Int) with
 |some f=>f.l
 |none=>C.D.now no
theorem Fr.bK(f:Fr):f.c.length=6:=rfl
theorem uf(l:O Fr):∀x∈l,(Fr.c x).length=6:=λx _=>rfl
section
variable {w w':J}{C:bN}{X:Nat->Prop}
theorem eP.lt(h:eP w C){q:Nat}(a:cR C q):q<w.heap.size:=by
 rcases a with rfl|rfl|a
 .exact h.v.lt
 .exact bh.lt h.f
 .exact h.dev.lt a
theorem eP.af{W:Nat->Prop}(h:eP w C)(hc:ae W w w')(a:∀q,cR C q->¬W q):eP w' C:=
 ⟨h.v.af hc (a _ (.inl rfl)),bh.af h.f hc (a _ (.inr (.inl rfl))),h.dev.af hc λq b=>a q (.inr (.inr b)),h.cr,h.cq,h.hd,h.a1⟩
theorem eP.ext(h:eP w C)(hc:Ext w w'):eP w' C:=h.af hc λ_ _ h=>h
theorem fO.af{W:Nat->Prop}(h:fO X w C)(hc:ae W w w')(b:∀q,W q->cR C q\/X q):fO X w' C:=
 ⟨h.pins,λf hf c=>by
  obtain⟨no,av,d,e,g,i,j,k⟩:=h.ok f hf c
  exact⟨no,av,d,bo.af e hc λq a l=>by
   rcases b q l with h1|h1
   .exact a.1 h1
   .exact a.2 h1,g,i,j,k⟩,h.un,λq a=>⟨ft (h.eK q a).1 hc.size,(h.eK q a).2⟩,h.kz⟩
theorem dC.af{W:Nat->Prop}(h:dC X w C)(hc:ae W w w')(b:∀q,W q->X q):dC X w' C:=
 ⟨h.raw.af hc λq c a=>(h.inv.eK q (b q a)).2 c,h.inv.af hc λq a=>.inr (b q a)⟩
theorem dC.ext(h:dC X w C)(hc:Ext w w'):dC X w' C:=h.af hc λ_ h=>h.elim
theorem qU(aV i:Nat):Addr.add aV (Int.toNat (i:Int)*6)=⟨aV,i*6,none⟩:=by rw[dQ,ay,cS]
theorem eP.cells(h:eP w C):w.cell? C.c=some (.pointer (some C.D.d))/\w.cell? (Addr.add C.c 1)=some (.slice (some C.aV) C.ak.length C.ak.length)/\w.cell? (Addr.add C.c 2)=some (.int .i64 C.hand):=by
 rw[ay,ay];exact⟨h.v.cell,h.v.cell,h.v.cell⟩
theorem jb{w:J}{aV:Nat}{fs:O Fr}{T:TypeId}(h:bh w aV (cc Fr.c fs).toArray T){i j:Nat}(hi:i<fs.length)(a:j<6):w.cell? ⟨aV,i*6+j,none⟩=((fs[i]).c)[j]? :=by
 rw[bh.cell h];simp only[q_];exact wB (uf fs) hi a
theorem l6{w:J}{aV:Nat}{fs:O Fr}{T:TypeId}(h:bh w aV (cc Fr.c fs).toArray T){i j:Nat}(hi:i<fs.length)(a:j<6){v:Y}(b:Fr)(hf:b.c=(fs[i]).c.set j v):
 (∃u:Y,w.cell? ⟨aV,i*6+j,none⟩=some u)/\w.frozen? ⟨aV,i*6+j,none⟩=false/\bh (w.setCell ⟨aV,i*6+j,none⟩ v) aV (cc Fr.c (fs.set i b)).toArray T/\ae (λq=>q=aV) w (w.setCell ⟨aV,i*6+j,none⟩ v):=by
 refine⟨⟨((fs[i]).c)[j]'(by rw[Fr.bK];exact a),by rw[jb h hi a,dI (by rw[Fr.bK];exact a)]⟩,bh.frozen h _ rfl,?_,dN _ _ _ _⟩;have:=eu (vs:=cc Fr.c fs) h (i:=i*6+j) v;rw[En (uf fs) hi a hf]at this;exact this
theorem wO{w:J}{aV:Nat}{fs:O Fr}{T:TypeId}(h:bh w aV (cc Fr.c fs).toArray T){i:Nat}(hi:i<fs.length)(a:Fr):
 bj w ⟨aV,i*6,none⟩ a.c/\bh (setCells w ⟨aV,i*6,none⟩ 0 a.c) aV (cc Fr.c (fs.set i a)).toArray T/\ae (λq=>q=aV) w (setCells w ⟨aV,i*6,none⟩ 0 a.c):=by
 have f:=h3 (c:=Fr.c) fs (uf fs);have d:i*6+a.c.length<=(cc Fr.c fs).toArray.size:=by
  rw[rm,f,Fr.bK];omega
 refine⟨bh.bV h _ _ d ?_,?_,ae.jX (.refl _ _) _ 0⟩
 .intro v b
  unfold Fr.c at b;simp only[c8,fi,fu]at b;rcases b with rfl|rfl|rfl|rfl|rfl|rfl<;>trivial
 .have h0:=bh.lH (o:=i*6) h a.c
  have e:fT (cc Fr.c fs).toArray (i*6) a.c=(cc Fr.c (fs.set i a)).toArray:=by
   have h1:=lG a.c (cc Fr.c fs).toArray (i*6) d;have g:=zR (uf fs) hi a;have j:a.c.length=6:=rfl;rw[j]at h1;have k:(fT (cc Fr.c fs).toArray (i*6) a.c).toList=cc Fr.c (fs.set i a):=h1.trans g;rw[←k]
  rw[e]at h0;exact h0
theorem Aq(h:eP w C)(no:Int):aH ai 220 #[.pointer (some C.c),no] w (λv w'=>v=.bool (decide (0<=no/\no<C.D.n))/\w=w'):=by
 refine okF (ag.tf (some C.c) no) az.tf func220 ?_;delta ag.tf ao b9;refine cC (λb w'=>b=decide (0<=no/\no<C.D.n)/\w=w') (λq d=>⟨λa=>⟨_,rfl,_,h.cells.1,(uc h.dev).use ?_⟩,λa=>d _ _ ⟨?_,rfl⟩⟩) ?_
 .rintro _ _ ⟨rfl,rfl⟩
  have a:0<=no:=by simpa using a
  refine⟨_,rfl,d _ _ ⟨?_,rfl⟩⟩;rw[fD,cx,cx];exact⟨λh=>⟨a,h⟩,λh=>h.2⟩
 .have a:¬0<=no:=by simpa using a
  rw[jq (λh=>a h.1)]
 .rintro _ _ ⟨rfl,rfl⟩
  exact⟨rfl,rfl⟩
def AtR(C:bN)(no:Int)(v:Y):Prop:=
 (∃ (i:Nat) (hi:i<C.ak.length),v=.pointer (some ⟨C.aV,i*6,none⟩)/\(C.ak[i]).full=true/\(C.ak[i]).no=no)\/
 (v=.pointer none/\∀f∈C.ak,f.full=true->f.no≠no)
theorem ug(h:eP w C)(no:Int):aH ai 201 #[.pointer (some C.c),no] w (λv w'=>AtR C no v/\w=w'):=by
 obtain⟨bS,aT,a8⟩:=h.cells;have d:=h.cq;refine okF (ag.tb (some C.c) no) az.tb func201 ?_;(delta ag.tb ao r1 aL aX aE au;dsimp only);refine⟨λh=>(by cases h),λ_=>⟨_,rfl,⟨some C.aV,C.ak.length,C.ak.length⟩,aT,λi w'=>∃j:Nat,i=j/\j<=C.ak.length/\w=w'/\∀ (k:Nat) (d:k<C.ak.length),k<j->(C.ak[k]).full=true->(C.ak[k]).no≠no,λi _=>((C.ak.length:Int)-i).toNat,⟨0,rfl,cZ _,rfl,λk _ h=>I⟩,?_⟩⟩;rintro _ _ ⟨j,rfl,s,rfl,g⟩;refine⟨λaK=>?_,λe=>?_⟩
 .have aK:(j:Int)<(C.ak.length:Int):=cw aK
  have aK:j<C.ak.length:=by omega
  refine⟨_,rfl,⟨some C.aV,C.ak.length,C.ak.length⟩,aT,_,rfl,⟨I,by show(j:Int)<(C.ak.length:Int);omega⟩,_,rfl,?_⟩;rw[qU];have f0:=jb h.f aK (j:=0) (by decide);have f3:=jb h.f aK (j:=3) (by decide);refine⟨(C.ak[j]).full,f0,cC (λb w'=>w=w'/\(b=true↔((C.ak[j]).full=true/\(C.ak[j]).no=no))) (λq l=>⟨λa=>⟨_,rfl,(C.ak[j]).no,by rw[ay];exact f3,l _ _ ⟨rfl,?_⟩⟩,λa=>l _ _ ⟨rfl,?_⟩⟩) ?_⟩
  .rw[jj]
   exact⟨λh=>⟨a,h⟩,λh=>h.2⟩
  .rw[a]
   exact⟨λh=>(by cases h),λh=>(by cases h.1)⟩
  rintro b w' ⟨rfl,a⟩;refine⟨λh1=>⟨.inl ⟨j,aK,rfl,(a.1 h1).1,(a.1 h1).2⟩,rfl⟩,λh1=>?_⟩;rw[bB (n:=(j:Int)+1) I I];refine⟨⟨j+1,I,I,rfl,λk d t m=>?_⟩,?_⟩
  .rcases ei k j with o|o
   .exact g k d o m
   .have:k=j:=by omega
    subst this;intro p;rw[a.2 ⟨m,p⟩]at h1;cases h1
  .show((C.ak.length:Int)-((j:Int)+1)).toNat<((C.ak.length:Int)-(j:Int)).toNat
   omega
 .have e:j=C.ak.length:=by
   have:¬((j:Int)<(C.ak.length:Int)):=cT e;omega
  subst e;refine⟨.inr ⟨rfl,λf hf r=>?_⟩,rfl⟩;obtain⟨k,d,rfl⟩:=e3 hf;exact g k d d r
theorem Fg(h:eP w C):aH ai 267 #[.pointer (some C.c)] w (λv w'=>((∃ (i:Nat) (hi:i<C.ak.length),v=.pointer (some ⟨C.aV,i*6,none⟩)/\(C.ak[i]).full=false)\/(v=.pointer none/\∀f∈C.ak,f.full=true))/\w=w'):=by
 obtain⟨bS,aT,a8⟩:=h.cells;have a:=h.cq;refine okF (ag.tn (some C.c)) az.tn func267 ?_;(delta ag.tn r1 ao aL aX au;dsimp only);refine⟨_,rfl,⟨some C.aV,C.ak.length,C.ak.length⟩,aT,λi w'=>∃j:Nat,i=j/\j<=C.ak.length/\w=w'/\∀ (k:Nat) (a:k<C.ak.length),k<j->(C.ak[k]).full=true,λi _=>((C.ak.length:Int)-i).toNat,⟨0,rfl,cZ _,rfl,λk _ h=>I⟩,?_⟩;rintro _ _ ⟨j,rfl,l,rfl,e⟩;refine⟨λaK=>?_,λb=>?_⟩
 .have aK:(j:Int)<(C.ak.length:Int):=cw aK
  have aK:j<C.ak.length:=by omega
  have f0:=jb h.f aK (j:=0) (by decide);refine⟨_,rfl,⟨some C.aV,C.ak.length,C.ak.length⟩,aT,_,rfl,⟨I,by show(j:Int)<(C.ak.length:Int);omega⟩,(C.ak[j]).full,by rw[qU];exact f0,λd=>⟨_,rfl,⟨some C.aV,C.ak.length,C.ak.length⟩,aT,_,rfl,⟨I,by show(j:Int)<(C.ak.length:Int);omega⟩,.inl ⟨j,aK,by rw[qU],by simpa using d⟩,rfl⟩,λd=>?_⟩;rw[bB (n:=(j:Int)+1) I I];refine⟨⟨j+1,I,I,rfl,λk a m=>?_⟩,?_⟩
  .rcases ei k j with g|g
   .exact e k a g
   .have:k=j:=by omega
    subst this;simpa using d
  .show((C.ak.length:Int)-((j:Int)+1)).toNat<((C.ak.length:Int)-(j:Int)).toNat
   omega
 .have b:j=C.ak.length:=by
   have:¬((j:Int)<(C.ak.length:Int)):=cT b;omega
  subst b;refine⟨.inr ⟨rfl,λf hf=>?_⟩,rfl⟩;obtain⟨k,a,rfl⟩:=e3 hf;exact e k a a
def gU(fs gs:O Fr):Prop:=gs.length=fs.length/\∀ (i:Nat) (h1:i<fs.length) (a:i<gs.length),gs[i]={fs[i] with used:=(gs[i]).used}
theorem gU.refl(fs:O Fr):gU fs fs:=⟨rfl,λi h1 a=>rfl⟩
theorem gU.set{fs gs:O Fr}(h:gU fs gs){i:Nat}(hi:i<gs.length)(u:an):gU fs (gs.set i {gs[i] with used:=u}):=by
 refine⟨by rw[dg];exact h.1,λj h1 a=>?_⟩;rw[pt];split
 .rename_i e
  subst e;have:=h.2 i h1 hi;rw[this]
 .exact h.2 j h1 _
theorem Fh(h:eP w C)(B:∀f∈C.ak,f.pins=0):aH ai 268 #[.pointer (some C.c)] w (λv w'=>∃ (i:Nat) (gs:O Fr) (hd:Nat),i<C.ak.length/\v=.pointer (some ⟨C.aV,i*6,none⟩)/\gU C.ak gs/\eP w' {C with ak:=gs,hand:=hd}/\ae (λq=>q=C.c\/q=C.aV) w w'):=by
 obtain⟨bS,aT,a8⟩:=h.cells;have R:=h.cr;have S:=h.cq;have D:=h.hd;refine okF (ag.tp (some C.c)) az.tp func268 ?_;(delta ag.tp aE r1 ao au aL aX st;dsimp only);refine⟨_,rfl,_,a8,_,rfl,⟨some C.aV,C.ak.length,C.ak.length⟩,aT,λat' i w'=>∃ (s:Nat) (gs:O Fr),i=s/\s<=C.ak.length/\at'=(((C.hand+s)%C.ak.length:Nat):Int)/\gU C.ak gs/\eP w' {C with ak:=gs}/\ae (λq=>q=C.c\/q=C.aV) w w'/\∀ (t:Nat) (hx:(C.hand+t)%C.ak.length<gs.length),t<s->(gs[(C.hand+t)%C.ak.length]).used=false,
  λ_ i _=>(2*(C.ak.length:Int)-i).toNat,⟨0,C.ak,rfl,cZ _,by rw[kf,iM D],gU.refl _,h,.refl _ _,λt _ h=>I⟩,?_⟩
 rintro _ _ w1 ⟨s,gs,rfl,hs,rfl,m,b,hc,r⟩;have u:gs.length=C.ak.length:=m.1;obtain⟨i,hi⟩:∃i,i=(C.hand+s)%C.ak.length:=⟨_,rfl⟩;have d:i<gs.length:=by rw[hi,u];exact hN _ I
 rw[←hi];obtain⟨d0,d1,d2⟩:=b.cells;have d1:w1.cell? (Addr.add C.c 1)=some (.slice (some C.aV) gs.length gs.length):=d1;have hf:bh w1 C.aV (cc Fr.c gs).toArray 288:=b.f;rw[bB (n:=2*(C.ak.length:Int)) I I];have E:IntKind.wrap .i64 ((i:Int)+1)=((i+1:Nat):Int):=by rw[bB I I];rfl
 have x:Int.tmod ((i+1:Nat):Int) (gs.length:Int)=(((i+1)%gs.length:Nat):Int):=by
  rw[rn I];rfl
 have F:(i+1)%gs.length=(C.hand+(s+1))%C.ak.length:=by
  rw[hi,u,Nat.mod_add_mod];rfl
 refine⟨λaK=>?_,λG=>?_⟩
 .refine cC (λa w'=>a=(((C.hand+(s+1))%C.ak.length:Nat):Int)/\∃g:O Fr,s+1<=C.ak.length/\gU C.ak g/\eP w' {C with ak:=g}/\ae (λq=>q=C.c\/q=C.aV) w w'/\∀ (t:Nat) (hx:(C.hand+t)%C.ak.length<g.length),t<s+1->(g[(C.hand+t)%C.ak.length]).used=false) (λq k=>⟨_,rfl,⟨some C.aV,gs.length,gs.length⟩,d1,_,rfl,⟨I,by show(i:Int)<(gs.length:Int);omega⟩,_,rfl,⟨some C.aV,gs.length,gs.length⟩,d1,by show(gs.length:Int)≠0;omega,_,rfl,?_⟩) ?_
  .rw[qU,E]
   have f4:=jb hf d (j:=4) (by decide);have f2:=jb hf d (j:=2) (by decide);have H:(gs[i]).pins=0:=by
    have h1:=m.2 i I d;have l:(gs[i]).pins=(C.ak[i]'I).pins:=by rw[h1]
    rw[l];exact B _ (cK _)
   refine⟨(gs[i]).pins,by rw[ay];exact f4,λy=>?_,λ_=>⟨_,rfl,(gs[i]).used,by rw[ay];exact f2,λhu=>⟨_,rfl,?_⟩,λhu=>⟨_,rfl,?_⟩⟩⟩
   .rw[H]at y;simp at y
   .have J:s<C.ak.length:=by
     rcases ei s C.ak.length with h1|h1
     .exact h1
     .have es:s=C.ak.length:=by omega
      have z:(C.hand+0)%C.ak.length=i:=by rw[hi,es,Nat.add_mod_right];rfl
      have l:=r 0 (by rw[z];exact d) I;have o:(gs[i]).used=false:=by
       have e:gs[(C.hand+0)%C.ak.length]'(by rw[z];exact d)=gs[i]:=by congr 1
       rw[←e];exact l
      rw[o]at hu;cases hu
    obtain⟨av,K,L,p⟩:=l6 hf d (j:=2) (by decide) (v:=false) {gs[i] with used:=false} rfl;rw[ay];refine⟨av,K,aY (k _ _ ⟨by rw[x,F],gs.set i {gs[i] with used:=false},J,m.set d false,?_,hc.trans (p.mono λq _ e=>.inr e),λt hx ht=>?_⟩)⟩
    .have M:=b.v.af p h.a1.1
     refine⟨?_,L,b.dev.af p (λq k e=>h.a1.2.2 (e▸k)),?_,?_,?_,h.a1⟩
     .show Var _ _ [_,.slice (some C.aV) (gs.set i _).length (gs.set i _).length,_] _
      rw[dg];exact M
     .show 8<=(gs.set i _).length;rw[dg];omega
     .show(gs.set i _).length<=64;rw[dg];omega
     .show C.hand<(gs.set i _).length;rw[dg];omega
    .rw[pt]
     split
     .rfl
     .rename_i N
      rcases ei t s with h1|h1
      .exact r t _ h1
      .have:t=s:=by omega
       subst this;exact absurd hi N
   .obtain⟨s1,s2⟩:=ew b.v (i:=2) (by simp)
    rw[ay,x];refine⟨s1,s2,aY ⟨i,gs,(i+1)%gs.length,I,rfl,m,?_,hc.trans ((dN _ _ _ _).mono λq _ e=>.inl e)⟩⟩;have A:=dN w1 C.c 2 (.int .i64 (((i+1)%gs.length:Nat):Int));refine⟨eu b.v (i:=2) (.int .i64 (((i+1)%gs.length:Nat):Int)),bh.af hf A (λe=>h.a1.1 e.symm),b.dev.af A (λq k e=>h.a1.2.1 (e▸k)),b.cr,b.cq,?_,h.a1⟩;exact hN _ I
  .rintro a w' ⟨rfl,g,h1,l,o,P,Q⟩
   rw[bB (n:=(s:Int)+1) I I];refine⟨⟨s+1,g,I,h1,rfl,l,o,P,Q⟩,?_⟩;show(2*(C.ak.length:Int)-((s:Int)+1)).toNat<(2*(C.ak.length:Int)-(s:Int)).toNat;omega
 .have:=cT G
  omega
end
structure dO(C aD:bN)(w w':J)(k:Nat):Prop where
 c:aD.c=C.c
 d:aD.D.d=C.D.d
 len:aD.ak.length=C.ak.length
 bx:aD.D.key=C.D.key
 aR:aD.D.aR<=C.D.aR+k
 calm:∀m,C.D.calm (m+k)->aD.D.calm m
 af:ae (cR C) w w'
 de:∀q,cR aD q->cR C q\/w.heap.size<=q
theorem dO.refl(C:bN)(w:J):dO C C w w 0:=⟨rfl,rfl,rfl,rfl,bm _,λ_ h=>h,.refl _ _,λ_ h=>.inl h⟩
theorem dO.ext{w w':J}(C:bN)(h:Ext w w'):dO C C w w' 0:=⟨rfl,rfl,rfl,rfl,bm _,λ_ h=>h,ae.cP h,λ_ h=>.inl h⟩
theorem dO.trans{C aD b:bN}{w w' e:J}{k l:Nat}(h1:dO C aD w w' k)(a:dO aD b w' e l):dO C b w e (k+l):=by
 have hs:=h1.af.size;refine⟨a.c.trans h1.c,a.d.trans h1.d,a.len.trans h1.len,a.bx.trans h1.bx,by have:=h1.aR;have:=a.aR;omega,λm g=>a.calm m (h1.calm (m+l) (by rw[show m+l+k=m+(k+l) from I];exact g)),cV h1.af a.af λq f h=>(h1.de q h).resolve_right I,λq f=>?_⟩;rcases a.de q f with h|h
 .exact h1.de q h
 .exact .inr I
theorem dO.mono{C aD:bN}{w w':J}{k l:Nat}(h:dO C aD w w' k)(b:k<=l):dO C aD w w' l:=
 ⟨h.c,h.d,h.len,h.bx,by have:=h.aR;omega,λm a=>h.calm m (gp a I),h.af,h.de⟩
theorem dO.bC{C aD:bN}{w w':J}{k:Nat}(h:dO C aD w w' k):aD.D.bC=C.D.bC:=congrArg (λk:(O c7×(Nat->an)×(Nat->O c7)×(Int->Prop)×an)×Int=>k.1.2.1) h.bx
theorem dO.l7{C aD:bN}{w w':J}{k:Nat}(h:dO C aD w w' k):aD.D.bC=C.D.bC/\aD.D.dY=C.D.dY:=⟨h.bC,congrArg (λk:(O c7×(Nat->an)×(Nat->O c7)×(Int->Prop)×an)×Int=>k.1.2.2.1) h.bx⟩
theorem dO.n{C aD:bN}{w w':J}{k:Nat}(h:dO C aD w w' k):aD.D.n=C.D.n:=congrArg (λk:(O c7×(Nat->an)×(Nat->O c7)×(Int->Prop)×an)×Int=>k.1.1.length) h.bx
section
variable {w w':J}{C:bN}{X:Nat->Prop}
theorem k8{fs:O Fr}{D:a6}{c aV hd:Nat}(un:∀ (i j:Nat) (hi:i<fs.length) (d:j<fs.length),(fs[i]).full=true->(fs[j]).full=true->(fs[i]).no=(fs[j]).no->i=j){i:Nat}(hi:i<fs.length){no:Nat}(hf:(fs[i]).full=true)(e:(fs[i]).no=no):(bN.mk c aV fs hd D).view no=(fs[i]).l:=by
 unfold bN.view
 cases a:fs.find? λf=>f.full&&f.no==(no:Int) with
 |none=>
  have:=jn.1 a _ (cK hi);simp[hf,e]at this
 |some f=>
  have g:=iy a;have b:=jo a;simp only[dt,jj]at b;obtain⟨j,d,rfl⟩:=e3 g;have:=un i j hi d hf b.1 (by rw[e,b.2]);subst this;simp only
theorem l8{fs:O Fr}{D:a6}{c aV hd:Nat}{no:Nat}(h:∀f∈fs,f.full=true->f.no≠no):(bN.mk c aV fs hd D).view no=D.now no:=by
 unfold bN.view
 cases b:fs.find? λf=>f.full&&f.no==(no:Int) with
 |none=>rfl
 |some f=>
  have d:=iy b;have a:=jo b;simp only[dt,jj]at a;exact absurd a.2 (h f d a.1)
theorem qV(D:a6)(k i:Nat):(D.cn k).now i=D.now i:=rfl
theorem bo.re{B b:Nat->Prop}{w w':J}{t:ad}{l:Key}{V:Nat->Prop}(h:bo B w t l)(hc:ae V w w')(c:∀q,q<w.heap.size->B q->¬V q)(d:∀q,q<w.heap.size->B q->b q):bo b w' t l:=
 ⟨h.1.af hc λq a=>c q (h.2.2 q a).2 (h.2.2 q a).1,h.2.1,λq a=>⟨d q (h.2.2 q a).2 (h.2.2 q a).1,ft (h.2.2 q a).2 hc.size⟩⟩
theorem qW{gs:O Fr}{hd:Nat}{aw:a6}{V:Nat->Prop}(h:fO X w C)(hs:gU C.ak gs)(hc:ae V w w')(e5:∀q,q<w.heap.size->V q->cR C q)(m:jH aw C.D)(u:∀i,aw.now i=C.D.now i)(v:∀q,cd aw q->cd C.D q\/w.heap.size<=q):fO X w' {C with ak:=gs,hand:=hd,D:=aw}:=by
 have x:=hc.size;have r:∀q,q<w.heap.size->cR {C with ak:=gs,hand:=hd,D:=aw} q->cR C q:=λq a hf=>by
  rcases hf with h1|h1|h1
  .exact .inl h1
  .exact .inr (.inl h1)
  .exact .inr (.inr ((v q h1).resolve_right I))
 have g:∀ (i:Nat) (hi:i<gs.length),∃c:i<C.ak.length,gs[i]={C.ak[i] with used:=(gs[i]).used}:=λi hi=>⟨by rw[←hs.1];exact hi,hs.2 i (by rw[←hs.1];exact hi) hi⟩;refine⟨λf hf=>?_,λf hf y=>?_,λi j hi z h1 A B=>?_,λq a=>⟨ft (h.eK q a).1 x,λhf=>(h.eK q a).2 (r q (h.eK q a).1 hf)⟩,m.2.2⟩
 .obtain⟨i,hi,rfl⟩:=e3 hf
  obtain⟨c,e⟩:=g i hi;have:(gs[i]).pins=(C.ak[i]).pins:=by rw[e]
  rw[this];exact h.pins _ (cK c)
 .obtain⟨i,hi,rfl⟩:=e3 hf
  obtain⟨c,e⟩:=g i hi;have n:(gs[i]).full=(C.ak[i]).full:=by rw[e]
  have o:(gs[i]).no=(C.ak[i]).no:=by rw[e]
  have p:(gs[i]).b=(C.ak[i]).b:=by rw[e]
  have d:(gs[i]).l=(C.ak[i]).l:=by rw[e]
  have s:(gs[i]).fg=(C.ak[i]).fg:=by rw[e]
  obtain⟨no,av,E,F,G,H,J,K⟩:=h.ok _ (cK c) (by rw[←n];exact y);refine⟨no,by rw[o];exact av,by rw[m.1];exact E,?_,by rw[d];exact G,λhd=>by rw[d,u];exact H (by rw[←s];exact hd),λhs=>by rw[s];exact J (m.2.1 _ hs),K⟩;rw[p,d];exact bo.re F hc (λq a k L=>k.1 (e5 q a L)) λq a k=>⟨λhf=>k.1 (r q a hf),k.2⟩
 .obtain⟨c,e⟩:=g i hi
  obtain⟨M,t⟩:=g j z;have n:(gs[i]).full=(C.ak[i]).full:=by rw[e]
  have o:(gs[i]).no=(C.ak[i]).no:=by rw[e]
  have p:(gs[j]).full=(C.ak[j]).full:=by rw[t]
  have d:(gs[j]).no=(C.ak[j]).no:=by rw[t]
  exact h.un i j c M (by rw[←n];exact h1) (by rw[←p];exact A) (by rw[←o,←d];exact B)
theorem qX{gs:O Fr}{hd:Nat}{aw:a6}(h:fO X w C)(hs:gU C.ak gs)(s:∀i,aw.now i=C.D.now i)(no:Nat):(bN.mk C.c C.aV gs hd aw).view no=C.view no:=by
 have g:∀ (i:Nat) (hi:i<gs.length),∃k:i<C.ak.length,gs[i]={C.ak[i] with used:=(gs[i]).used}:=λi hi=>⟨by rw[←hs.1];exact hi,hs.2 i (by rw[←hs.1];exact hi) hi⟩;by_cases hex:∃ (i:Nat) (hi:i<C.ak.length),(C.ak[i]).full=true/\(C.ak[i]).no=no
 .obtain⟨i,hi,h1,d⟩:=hex
  have o:i<gs.length:=by rw[hs.1];exact hi
  obtain⟨k,e⟩:=g i o;have m:(gs[i]).full=(C.ak[i]).full:=by rw[e]
  have n:(gs[i]).no=(C.ak[i]).no:=by rw[e]
  have t:(gs[i]).l=(C.ak[i]).l:=by rw[e]
  have u:∀ (i j:Nat) (hi:i<gs.length) (B:j<gs.length),(gs[i]).full=true->(gs[j]).full=true->(gs[i]).no=(gs[j]).no->i=j:=by
   intro a b v x cr cq y;obtain⟨z,p⟩:=g a v;obtain⟨A,q⟩:=g b x;have f1:(gs[a]).full=(C.ak[a]).full:=by rw[p]
   have f2:(gs[a]).no=(C.ak[a]).no:=by rw[p]
   have f3:(gs[b]).full=(C.ak[b]).full:=by rw[q]
   have f4:(gs[b]).no=(C.ak[b]).no:=by rw[q]
   exact h.un a b z A (by rw[←f1];exact cr) (by rw[←f3];exact cq) (by rw[←f2,←f4];exact y)
  rw[k8 u o (by rw[m];exact h1) (by rw[n];exact d),t];exact(k8 (fs:=C.ak) (D:=C.D) (c:=C.c) (aV:=C.aV) (hd:=C.hand) h.un hi h1 d).symm
 .have r:∀f∈C.ak,f.full=true->f.no≠no:=λf hf h1 d=>by
   obtain⟨i,hi,rfl⟩:=e3 hf;exact hex ⟨i,hi,h1,d⟩
  have e:C.view no=C.D.now no:=l8 (fs:=C.ak) (D:=C.D) (c:=C.c) (aV:=C.aV) (hd:=C.hand) r;rw[e,←s];refine l8 λf hf h1 d=>?_;obtain⟨i,hi,rfl⟩:=e3 hf;obtain⟨k,e⟩:=g i hi;have m:(gs[i]).full=(C.ak[i]).full:=by rw[e]
  have n:(gs[i]).no=(C.ak[i]).no:=by rw[e]
  exact r _ (cK k) (by rw[←m];exact h1) (by rw[←n];exact d)
theorem wP{i:Nat}(hi:i<C.ak.length){aw:a6}{V:Nat->Prop}(h:fO X w C)(hc:ae V w w')(e5:∀q,q<w.heap.size->V q->cR C q)(m:jH aw C.D)
 (u:∀j:Nat,((C.ak[i]).full=true->(C.ak[i]).no≠j)->aw.now j=C.D.now j) (v:∀q,cd aw q->cd C.D q\/w.heap.size<=q) (f0:Fr) (n:f0.full=false) (x:f0.pins=0):fO X w' {C with ak:=C.ak.set i f0,D:=aw}:=by
 have y:=hc.size;have p:∀q,q<w.heap.size->cR {C with ak:=C.ak.set i f0,D:=aw} q->cR C q:=λq c hf=>by
  rcases hf with h1|h1|h1
  .exact .inl h1
  .exact .inr (.inl h1)
  .exact .inr (.inr ((v q h1).resolve_right I))
 refine⟨λf hf=>?_,λf hf d=>?_,λa b z g h1 l o=>?_,λq c=>⟨ft (h.eK q c).1 y,λhf=>(h.eK q c).2 (p q (h.eK q c).1 hf)⟩,m.2.2⟩
 .rcases lq hf with hf|rfl
  .exact h.pins f hf
  .exact x
 .obtain⟨k,A,rfl⟩:=e3 hf
  have r:k<C.ak.length:=by simpa using A
  by_cases e:i=k
  .subst e
   simp only[g5]at d;rw[n]at d;cases d
  .simp only[eY e]at d⊢
   obtain⟨no,av,B,E,F,G,H,J⟩:=h.ok _ (cK r) d;refine⟨no,av,by rw[m.1];exact B,bo.re E hc (λq c g K=>g.1 (e5 q c K)) λq c g=>⟨λhf=>g.1 (p q c hf),g.2⟩,F,λhd=>?_,λhs=>H (m.2.1 _ hs),J⟩;show _=aw.now no;rw[u no λL he=>e (h.un i k hi r L d (by rw[he,av]))];exact G hd
 .have M:a<C.ak.length:=by simpa using z
  have N:b<C.ak.length:=by simpa using g
  by_cases s:i=a
  .subst s
   simp only[g5]at h1;rw[n]at h1;cases h1
  by_cases t:i=b
  .subst t
   simp only[g5]at l;rw[n]at l;cases l
  simp only[eY s]at h1 o;simp only[eY t]at l o;exact h.un a b M N h1 l o
theorem Ar{i:Nat}(hi:i<C.ak.length){aw:a6}{hd:Nat}(h:fO X w C)(y:(C.ak[i]).full=true->∀j:Nat,(C.ak[i]).no=j->aw.now j=(C.ak[i]).l)(z:∀j:Nat,((C.ak[i]).full=true->(C.ak[i]).no≠j)->aw.now j=C.D.now j)(f0:Fr)(n:f0.full=false)(no:Nat):
 (bN.mk C.c C.aV (C.ak.set i f0) hd aw).view no=C.view no:=by
 by_cases hex:∃ (k:Nat) (m:k<C.ak.length),(C.ak[k]).full=true/\(C.ak[k]).no=no
 .obtain⟨k,m,h1,d⟩:=hex
  have p:=k8 (fs:=C.ak) (D:=C.D) (c:=C.c) (aV:=C.aV) (hd:=C.hand) h.un m h1 d;have p:C.view no=(C.ak[k]).l:=p;rw[p];by_cases e:i=k
  .subst e
   rw[←y h1 no d];refine l8 λf hf av u=>?_;obtain⟨a,o,rfl⟩:=e3 hf;have q:a<C.ak.length:=by simpa using o
   by_cases g:i=a
   .subst g
    simp only[g5]at av;rw[n]at av;cases av
   .simp only[eY g]at av u
    exact g (h.un i a hi q h1 av (by rw[d,u]))
  .have A:k<(C.ak.set i f0).length:=by simpa using m
   have r:(C.ak.set i f0)[k]=C.ak[k]:=eY e _;have B:∀ (a b:Nat) (o:a<(C.ak.set i f0).length) (v:b<(C.ak.set i f0).length),((C.ak.set i f0)[a]).full=true->((C.ak.set i f0)[b]).full=true->((C.ak.set i f0)[a]).no=((C.ak.set i f0)[b]).no->a=b:=by
    intro a b o v h1 d s;have q:a<C.ak.length:=by simpa using o
    have E:b<C.ak.length:=by simpa using v
    by_cases g:i=a
    .subst g
     simp only[g5]at h1;rw[n]at h1;cases h1
    by_cases x:i=b
    .subst x
     simp only[g5]at d;rw[n]at d;cases d
    simp only[eY g]at h1 s;simp only[eY x]at d s;exact h.un a b q E h1 d s
   rw[k8 B A (by rw[r];exact h1) (by rw[r];exact d),r]
 .have t:∀f∈C.ak,f.full=true->f.no≠no:=λf hf h1 d=>by
   obtain⟨k,m,rfl⟩:=e3 hf;exact hex ⟨k,m,h1,d⟩
  have e:C.view no=C.D.now no:=l8 (fs:=C.ak) (D:=C.D) (c:=C.c) (aV:=C.aV) (hd:=C.hand) t;rw[e,←z no λh1 d=>t _ (cK hi) h1 d];refine l8 λf hf h1 d=>?_;rcases lq hf with hf|rfl
  .exact t f hf h1 d
  .rw[n]at h1;cases h1
theorem As{X:Nat->Prop}{w:J}{C:bN}(h:fO X w C){no:Nat}{s:ad}{l:c7}(hs:¬C.D.bC no=true):jH (C.D.put no s l) C.D:=
 ⟨rfl,λ_ h=>h,λj a=>by
  have a:C.D.bC j=true:=a
  rw[z1,if_neg λe=>hs (by rw[←e];exact a)];exact h.kz j a⟩
theorem Au(D:a6){no:Nat}{s:ad}{l:c7}(hs:¬D.bC no=true):(D.put no s l).key=D.key:=by
 have h1:=o1 D (k:=2) (.inr rfl);unfold a6.key at h1⊢;have b:(D.put no s l).ja=D.ja:=by
  funext n;exact propext ⟨λ_ h=>absurd (h no) hs,λ_ h=>absurd (h no) hs⟩
 rw[b];have a:=congrArg Prod.snd h1;show((D.bx,D.bC,D.dY,D.ja,D.r1),(D.cn 2).b7.getD 3 0)=_;have a:(D.cn 2).b7.getD 3 0=D.b7.getD 3 0:=a;rw[a]
def Av(X:Nat->Prop)(C:bN)(w:J)(v:Y)(w':J):Prop:=
 ∃aD:bN,dC X w' aD/\dO C aD w w' 1/\aD.aV=C.aV/\(∀j,aD.view j=C.view j)/\(∀f∈aD.ak,f.full=true->∃g∈C.ak,g.full=true/\g.no=f.no)/\
  ((∃ (i:Nat) (hi:i<aD.ak.length),v=.tuple #[.pointer (some ⟨C.aV,i*6,none⟩),(0:Int)]/\(aD.ak[i]).full=false/\((aD.ak[i]).pins=0))\/
   (v=.tuple #[.pointer none,(3:Int)]/\¬C.D.calm 1))
theorem Aw(h:dC X w C)(au:C.D.aR<=1000000000):aH ai 221 #[.pointer (some C.c)] w (Av X C w):=by
 have U:=h.raw;refine okF (ag.tg (some C.c)) az.tg func221 ?_;(delta ag.tg g9 ao aX aE r1 b9;dsimp only);refine(Fg U).use ?_;rintro _ _ ⟨he,rfl⟩;rcases he with ⟨i,hi,rfl,hf⟩|⟨rfl,ax⟩
 .exact⟨_,rfl,λ_=>⟨C,h,(dO.refl C w).mono (cZ _),rfl,λ_=>rfl,λf hf H=>⟨f,hf,H,rfl⟩,.inl ⟨i,hi,rfl,hf,h.inv.pins _ (cK hi)⟩⟩,λh=>(by cases h)⟩
 refine⟨_,rfl,λh=>(by cases h),λ_=>(Fh U h.inv.pins).use ?_⟩;rintro _ w1 ⟨i,gs,hd,hi,rfl,z,r,aA⟩;have W:i<gs.length:=by rw[z.1];exact hi
 have L:ae (cR C) w w1:=aA.mono λq _ n=>by
  rcases n with n|n
  .exact .inl n
  .exact .inr (.inl n)
 have E:=qW (hd:=hd) (aw:=C.D) h.inv z L (λq _ h=>h) h.inv.qT (λ_=>rfl) λq n=>.inl n;have P:=qX (hd:=hd) (aw:=C.D) h.inv z λ_=>rfl;obtain⟨a,F⟩:∃a:bN,a={C with ak:=gs,hand:=hd}:=⟨_,rfl⟩;have E:fO X w1 a:=by rw[F];exact E
 have r:eP w1 a:=by rw[F];exact r
 have P:∀no,a.view no=C.view no:=by rw[F];exact P
 have Y:∀q,cR a q↔cR C q:=by rw[F];exact λq=>Iff.rfl
 have o:a.D=C.D:=by rw[F]
 have p:a.c=C.c/\a.aV=C.aV:=by rw[F];exact⟨rfl,rfl⟩
 have I:a.ak=gs:=by rw[F]
 have A:i<a.ak.length:=by rw[I];exact W
 have R:(a.ak[i]).full=true:=by
  have e:=z.2 i hi W;have:(gs[i]).full=(C.ak[i]).full:=by rw[e]
  simp only[I];rw[this];exact ax _ (cK hi)
 have Z:∀f∈a.ak,f.full=true->∃g∈C.ak,g.full=true/\g.no=f.no:=by
  rw[I];intro f hf H;obtain⟨k,aa,rfl⟩:=e3 hf;have ab:k<C.ak.length:=by rw[←z.1];exact aa
  have e:=z.2 k ab aa;have aB:(gs[k]).full=(C.ak[k]).full:=by rw[e]
  have aC:(gs[k]).no=(C.ak[k]).no:=by rw[e]
  exact⟨C.ak[k],cK ab,by rw[←aB];exact H,aC.symm⟩
 obtain⟨no,av,aD,ac,aF,aG,aI⟩:=E.ok _ (cK A) R;have f1:=jb r.f A (j:=1) (by decide)
 have fin:∀ (aj:J) (aw:a6),ae (cR C) w1 aj->eP aj {a with D:=aw}->dO C {a with D:=aw} w aj 1->jH aw C.D->(∀j:Nat,(a.ak[i]).no≠j->aw.now j=C.D.now j)->(∀j:Nat,(a.ak[i]).no=j->aw.now j=(a.ak[i]).l)->(∀q,cd aw q->cd C.D q\/w1.heap.size<=q)->
  ∃S:ah,(some ⟨C.aV,i*6,none⟩:aq ah)=some S/\bj aj S [false,false,false,(0:Int),(0:Int),()]/\(6:Nat)=6/\al (setCells aj S 0 [false,false,false,(0:Int),(0:Int),()]) λaJ=>Av X C w (.tuple #[.pointer (some ⟨C.aV,i*6,none⟩),(0:Int)]) aJ:=by
  intro aj aw aK t B aL ad aM K;have aN:bh aj a.aV (cc Fr.c a.ak).toArray 288:=t.f;obtain⟨s1,s2,M⟩:=wO aN A du;rw[p.2]at s1 s2 M;have aO:fO X (setCells aj ⟨C.aV,i*6,none⟩ 0 du.c) {a with ak:=a.ak.set i du,D:=aw}:=by
   refine wP (V:=cR C) (w:=w1) A E (aK.trans (M.mono λq _ e=>.inr (.inl e))) (λq _ n=>(Y q).2 n) (by rw[o];exact aL) (λj u=>by rw[o];exact ad j λe=>u R e) (λq n=>by rw[o];exact K q n) du rfl rfl
  have aP:=t.v;refine⟨_,rfl,s1,rfl,aY ⟨{a with ak:=a.ak.set i du,D:=aw},⟨?_,aO⟩,?_,p.2,λj=>?_,λf hf H=>?_,.inl ⟨i,by show i<(a.ak.set i du).length;rw[dg];exact A,rfl,by simp[du],by simp[du]⟩⟩⟩
  .have aQ:a.c≠C.aV:=by have:=t.a1.1;rw[←p.2];exact this
   refine⟨?_,by show bh _ a.aV _ _;rw[p.2];exact s2,t.dev.af M (λq n e=>t.a1.2.2 (by rw[show({a with D:=aw}:bN).aV=a.aV from rfl,p.2,←e];exact n)),?_,?_,?_,t.a1⟩
   .have:=aP.af M aQ
    show Var _ _ [_,.slice _ (a.ak.set i du).length (a.ak.set i du).length,_] _;rw[dg];exact this
   .show 8<=(a.ak.set i du).length;rw[dg];exact t.cr
   .show(a.ak.set i du).length<=64;rw[dg];exact t.cq
   .show a.hand<(a.ak.set i du).length;rw[dg];exact t.hd
  .refine⟨B.c,B.d,by show(a.ak.set i du).length=_;rw[dg];exact B.len,B.bx,B.aR,B.calm,B.af.trans (M.mono λq _ e=>.inr (.inl e)),B.de⟩
  .rw[←P]
   exact Ar A E (λ_ j u=>aM j u) (λj u=>by rw[o];exact ad j λe=>u R e) du rfl j
  .rcases lq hf with hf|rfl
   .exact Z f hf H
   .cases H
 refine⟨_,rfl,λh=>(by cases h),λ_=>kn (λaj=>∃aw:a6,ae (cR C) w1 aj/\eP aj {a with D:=aw}/\dO C {a with D:=aw} w aj 1/\jH aw C.D/\(∀j:Nat,(a.ak[i]).no≠j->aw.now j=C.D.now j)/\(∀j:Nat,(a.ak[i]).no=j->aw.now j=(a.ak[i]).l)/\(∀q,cd aw q->cd C.D q\/w1.heap.size<=q)) (λq n=>⟨_,rfl,(a.ak[i]).fg,?_,λaS=>?_,λaT=>n _ ⟨C.D,.refl _ _,?_,?_,h.inv.qT,λ_ _=>rfl,λj u=>?_,λq h=>.inl h⟩⟩) ?_⟩
 .rw[ay,←p.2];exact f1
 .
  have Q:=cL w1;have y:=r.ext Q;obtain⟨am,_,_⟩:=y.cells;rw[p.1,o]at am;have f3:=jb y.f A (j:=3) (by decide);have f5:=jb y.f A (j:=5) (by decide);rw[p.2]at f3 f5;refine aY ⟨_,rfl,id,_,am,_,rfl,id,(no:Int),?_,_,rfl,id,(a.ak[i]).b,by rw[ay];exact f5,?_⟩
  .rw[ay,f3]
   show some (Value.int .i64 (a.ak[i]).no)=_;rw[av]
  have aU:c4 w1.drew C.D:=by rw[←o];exact y.dev
  have an:¬C.D.bC no=true:=λhs=>by
   have:=aI (by rw[o];exact hs);rw[aS]at this;cases this
  refine(ud aU (i:=no) (by rw[←o];exact aD) au (ac.1.ext Q) aF λq n hf=>(ac.2.2 q n).1.1 (.inr (.inr (by rw[o];exact hf)))).use ?_;rintro a8 aj aW;rcases aW with ⟨ap,rfl,T,G⟩|⟨ap,rfl,s,T,G,aZ⟩
  .have N:ae (cR C) w1 aj:=(ae.cP Q).trans (G.mono λq _ e=>.inr (.inr (.inl e)))
   refine⟨3,rfl,λ_=>⟨{a with D:=C.D.cn 2},⟨?_,?_⟩,?_,p.2,λj=>?_,Z,.inr ⟨rfl,λa0=>?_⟩⟩,λh=>(by cases h)⟩
   .have t:=y.v.af G (λe=>y.a1.2.1 (.inl (by rw[o];exact e)))
    rw[o]at t;have ar:=r.a1;rw[o]at ar;exact⟨t,bh.af y.f G (λe=>y.a1.2.2 (.inl (by rw[o];exact e))),T,r.cr,r.cq,r.hd,ar⟩
   .have:=qW (C:=a) (hd:=a.hand) (aw:=C.D.cn 2) E (gU.refl _) N (λq _ n=>(Y q).2 n) (by rw[o];exact h.inv.cn 2) (λj=>by rw[o];rfl) λq n=>.inl (by rw[o];exact n)
    exact this
   .refine⟨p.1,rfl,by show a.ak.length=_;rw[I];exact z.1,o1 C.D (.inr rfl),Nat.le_succ _,λm O=>(iG (.inr rfl) h.raw.dev.f4 O).1,L.trans N,λq n=>.inl ?_⟩
    rcases n with e|e|e
    .exact .inl (by rw[←p.1];exact e)
    .exact .inr (.inl (by rw[←p.2];exact e))
    .exact .inr (.inr e)
   .rw[←P]
    exact qX (C:=a) E (gU.refl _) (λj=>by rw[o];rfl) j
   .have:=(iG (k:=2) (m:=0) (.inr rfl) h.raw.dev.f4 a0).2
    rw[ap]at this;cases this
  .have N:ae (cR C) w1 aj:=(ae.cP Q).trans (G.mono λq _ e=>.inr (.inr e))
   have K:∀q,cd (C.D.put no s (a.ak[i]).l) q->cd C.D q\/w1.heap.size<=q:=by
    rintro q (e|e|e|⟨x,hx,e⟩)
    .exact .inl (.inl e)
    .exact .inl (.inr (.inl e))
    .exact .inl (.inr (.inr (.inl e)))
    .rcases c8.1 hx with rfl|hx
     .exact aZ q e
     .exact .inl (.inr (.inr (.inr ⟨x,(gE.1 hx).1,e⟩)))
   have ep:∀q,cd C.D q->q≠a.c/\q≠a.aV:=λq n=>⟨λe=>r.a1.2.1 (by rw[o,←e];exact n),λe=>r.a1.2.2 (by rw[o,←e];exact n)⟩;refine⟨0,rfl,λh=>(by cases h),λ_=>n _ ⟨C.D.put no s (a.ak[i]).l,N,?_,?_,As h.inv an,λj u=>?_,λj u=>?_,K⟩⟩
   .have t:=y.v.af G (λe=>(ep _ e).1 rfl)
    rw[o]at t;have a7:a.c<w1.heap.size:=r.v.lt;have a9:a.aV<w1.heap.size:=bh.lt r.f;refine⟨t,bh.af y.f G (λe=>(ep _ e).2 rfl),T,r.cr,r.cq,r.hd,r.a1.1,λe=>?_,λe=>?_⟩
    .rcases K _ e with h1|h1
     .exact(ep _ h1).1 rfl
     .have:a.c<w1.heap.size:=a7
      have h1:w1.heap.size<=a.c:=h1;omega
    .rcases K _ e with h1|h1
     .exact(ep _ h1).2 rfl
     .have h1:w1.heap.size<=a.aV:=h1
      omega
   .refine⟨p.1,rfl,by show a.ak.length=_;rw[I];exact z.1,Au C.D an,bm _,λm O=>(iG (.inr rfl) h.raw.dev.f4 O).1,L.trans N,λq n=>?_⟩
    rcases n with e|e|e
    .exact .inl (.inl (by rw[←p.1];exact e))
    .exact .inl (.inr (.inl (by rw[←p.2];exact e)))
    .rcases K q e with h1|h1
     .exact .inl (.inr (.inr h1))
     .exact .inr (eo L.size h1)
   .rw[nk,if_neg (λe=>u (by rw[av,e]))]
   .rw[nk,if_pos (by rw[av]at u;omega)]
 .rw[←o];exact r
 .refine⟨p.1,rfl,by show a.ak.length=_;rw[I];exact z.1,rfl,Nat.le_succ _,λm O=>gp O (Nat.le_succ _),L,λq n=>.inl ?_⟩
  rcases n with e|e|e
  .exact .inl (by rw[←p.1];exact e)
  .exact .inr (.inl (by rw[←p.2];exact e))
  .exact .inr (.inr e)
 .have:no=j:=by rw[av]at u;omega
  subst this;rw[←o];exact(aG aT).symm
 .rintro aj ⟨aw,a1,a2,a3,a4,a5,dL,dT⟩
  exact fin aj aw a1 a2 a3 a4 a5 dL dT
end
end Go.Proofs.YtkdhdlfonmgheaaGreat
