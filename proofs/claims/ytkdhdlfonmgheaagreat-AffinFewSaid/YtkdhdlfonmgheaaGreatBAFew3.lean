/- Contracts of the functions that the statement reaches, and the plain laws over them; each theorem stands with its conditions. -/
import Derived.OpenShut
import Derived.Shelf.SlIterI.Nil
import Derived.Shelf.SortM.Plain
import Derived.Shelf.SortM.SortNone
import Derived.Test.YtkdhdlfonmgheaaGreatProg
import Derived.Test.YtkdhdlfonmgheaaGreatRows
import Derived.Test.YtkdhdlfonmgheaaGreatBAFew2
namespace Go.Proofs.YtkdhdlfonmgheaaGreat
open Go aR Go.Proofs.Tryz
theorem v8{B C:Nat->Prop}{w:J}{s x:ad}{ls xs:O Key}(m:bk B w s ls)(hx:a_ C w x xs)(hd:∀q,C q->¬aC s q)(z:ls.length<=100000)(A:xs.length<=100000):
 ∃ (d:ad) (w':J),Sem.run aj (Builtin.append_ #[127,127] 127 #[s,x]) w=.ok d w'/\a_ (λq=>B q\/C q\/w.heap.size<=q) w' d (ls++xs)/\ae (aC s) w w':=by
 have D:=a_.len hx;obtain⟨ts,h1,j,n,o⟩:=m;obtain⟨us,av,p,E,F,r⟩:=hx;have G:s.len=ls.length:=by have:=j.1;rw[dG]at this;omega
 obtain⟨d,w',t,f,H,g,u⟩:=qn.append (dK:=127) p j (vM us) I;refine⟨d,w',t,⟨ts++us,by simp[h1,av],?_,f.2.1,?_,λi v K=>?_⟩,g⟩
 .rw[fB];exact f.src
 .intro k c
  refine⟨?_,f.lt k c⟩;rcases u k c with h|h
  .exact .inl (n k h).1
  .exact .inr (.inr h)
 .rcases ed i ts.length with h|h
  .have l:i<ls.length:=by omega
   rw[ph h,ph l];obtain⟨a,b⟩:=o i h l;exact bn.aY (bn.iZ a g b) λk _ c=>.inl c
  .have y:i-ts.length<us.length:=by rw[cM]at v;omega
   have L:i-ls.length<xs.length:=by omega
   rw[qX h,qX I];have e:i-ls.length=i-ts.length:=by omega
   have a:=r (i-ts.length) y I;simp only[e];exact bn.aY (bn.iZ a g λk c=>hd k (a.2.2 k c).1) λk _ c=>.inr (.inl c)
theorem zp{B C:Nat->Prop}{w:J}{s x:ad}{ds es:O Nat}(d:cG B w s ds)(hx:cw C w x es)(j:ds.length<=100000)(l:es.length<=100000):
 ∃ (a:ad) (w':J),Sem.run aj (Builtin.append_ #[58,58] 58 #[s,x]) w=.ok a w'/\cw (λq=>B q\/C q\/w.heap.size<=q) w' a (ds++es)/\ae (aC s) w w':=by
 have m:=cw.len hx;obtain⟨h1,e⟩:=d;have n:s.len=ds.length:=by have:=h1.1;rw[oI]at this;omega
 obtain⟨a,w',f,b,o,g,i⟩:=qo.append (dK:=58) hx.1 h1 (y6 es) I;refine⟨a,w',f,⟨?_,b.2.1,?_⟩,g⟩
 .have:fj ds++fj es=fj (ds++es):=by simp[fj]
  rw[this]at b;exact b.src
 .intro k c
  refine⟨?_,b.lt k c⟩;rcases i k c with h|h
  .exact .inl (e k h).1
  .exact .inr (.inr h)
def zq(pa b aG c:Nat)(key:ad)(G:J)(Q:Y->J->Prop):Prop:=
 b1 (λR:J->Prop=>∃H:al,G.cell? pa=some (.bool H)/\((!H)=true->an (G.drew) λI=>∃K:Nat->Prop,¬K (Addr.add b 1).block/\∃k:ad,I.cell? (Addr.add b 1)=some (.slice k.a k.len k.cap)/\Calls aj 135 #[key] I λac l=>∃S:ad,ac=.returned S/\ae K I l/\an (l.alloc (.cells #[S] 48)) λT=>ae K l T/\∃U:ad,∃m:J,Sem.run aj (Builtin.append_ #[127,127] 127 #[k,.slice (some l.heap.size) 1 1]) T=.ok U m/\(∃u:Y,m.cell? (Addr.add b 1)=some u)/\m.frozen? (Addr.add b 1)=false/\an (m.setCell (Addr.add b 1) U) λaf=>R af)/\((!H)=false->R G)) (λ(L:J)=>∃n:ad,L.cell? (Addr.add b 1)=some (.slice n.a n.len n.cap)/\∃o:ad,L.cell? (Addr.add aG 1)=some (.slice o.a o.len o.cap)/\∃V:ad,∃p:J,Sem.run aj (Builtin.append_ #[127,127] 127 #[n,o]) L=.ok V p/\(∃u:Y,p.cell? (Addr.add b 1)=some u)/\p.frozen? (Addr.add b 1)=false/\an (p.setCell (Addr.add b 1) V) λM=>∃q:ad,M.cell? (Addr.add b 2)=some (.slice q.a q.len q.cap)/\∃r:ad,M.cell? (Addr.add aG 2)=some (.slice r.a r.len r.cap)/\∃W:ad,∃s:J,Sem.run aj (Builtin.append_ #[127,127] 127 #[q,r]) M=.ok W s/\(∃u:Y,s.cell? (Addr.add b 2)=some u)/\s.frozen? (Addr.add b 2)=false/\an (s.setCell (Addr.add b 2) W) λN=>∃t:ad,N.cell? (Addr.add b 3)=some (.slice t.a t.len t.cap)/\∃v:ad,N.cell? (Addr.add aG 3)=some (.slice v.a v.len v.cap)/\∃X:ad,∃w:J,Sem.run aj (Builtin.append_ #[58,58] 58 #[t,v]) N=.ok X w/\(∃u:Y,w.cell? (Addr.add b 3)=some u)/\w.frozen? (Addr.add b 3)=false/\an (w.setCell (Addr.add b 3) X) λe=>∃Z:al,e.cell? b=some (.bool Z)/\∃x:ad,e.cell? (Addr.add b 1)=some (.slice x.a x.len x.cap)/\∃y:ad,e.cell? (Addr.add b 2)=some (.slice y.a y.len y.cap)/\∃z:ad,e.cell? (Addr.add b 3)=some (.slice z.a z.len z.cap)/\Calls aj 203 #[.agg #[Z,x,y,z]] e λag d=>∃O:al,ag=.returned O/\((!O)=true->bh d c [false,(),(),()]/\(4:Nat)=4/\an (setCells d c 0 [false,(),(),()]) λf=>∃aa:al,f.cell? c=some (.bool aa)/\∃A:ad,f.cell? (Addr.add c 1)=some (.slice A.a A.len A.cap)/\∃B:ad,f.cell? (Addr.add c 2)=some (.slice B.a B.len B.cap)/\∃C:ad,f.cell? (Addr.add c 3)=some (.slice C.a C.len C.cap)/\Q (.tuple #[.agg #[aa,A,B,C],false]) f)/\((!O)=false->∃P:al,d.cell? b=some (.bool P)/\∃g:ad,d.cell? (Addr.add b 1)=some (.slice g.a g.len g.cap)/\∃h:ad,d.cell? (Addr.add b 2)=some (.slice h.a h.len h.cap)/\∃i:ad,d.cell? (Addr.add b 3)=some (.slice i.a i.len i.cap)/\bh d c [P,g,h,i]/\(4:Nat)=4/\an (setCells d c 0 [P,g,h,i]) λj=>∃ab:al,j.cell? c=some (.bool ab)/\∃D:ad,j.cell? (Addr.add c 1)=some (.slice D.a D.len D.cap)/\∃E:ad,j.cell? (Addr.add c 2)=some (.slice E.a E.len E.cap)/\∃F:ad,j.cell? (Addr.add c 3)=some (.slice F.a F.len F.cap)/\Q (.tuple #[.agg #[ab,D,E,F],true]) j))
theorem jB{lo pa d aG U:Nat}{key W t p ac ag ah:ad}{w b6:J}{a b:aB}{s:Key}{bD bT bu C:Nat->Prop}{aw:O Y}(a4:b6.cell? pa=some (.bool a.leaf))
 (aq:Var b6 d [a.leaf,W,t,p] 202) (ax:Var b6 aG [b.leaf,ac,ag,ah] 202)
 (j:eD lo b6 a W t p bD bT bu) (a5:bt C b6 b ac ag ah) (g:∀q,C q->lo<=q/\q<b6.heap.size/\q≠d/\q≠aG/\¬bD q/\¬bT q/\¬bu q) (F:∀q,bD q\/bT q\/bu q->q≠d/\q≠aG) (a6:lo<=d) (lb:lo<=aG) (aj:d≠aG)
 (a7:Var b6 U aw 202) (a9:aw.length=4) (bH:U<lo) (bb:w.heap.size<=U) (u:Src 1 b6 key (aA s)) (bI:s.length<=1000) (bd:Ext w b6) (hs:cr (dv a s b)) (az:a.leaf=b.leaf) (sa:cr a) (sb:cr b)
 (bL:a.keys.length<=10000) (bx:b.keys.length<=10000):zq pa d aG U key b6 (oL (dv a s b) w):=by
 unfold zq;have bJ:=aq.lt;have bK:=ax.lt;have aD:∀ {n:aB},cr n->n.keys.length<=10000->n.vals.length<=10000/\n.kids.length<=10001:=λ{n} h1 f=>by
  rcases h1 with h1|h1
  .rw[h1.len,h1.kids];exact⟨f,cX _⟩
  .rw[h1.len,h1.vals];exact⟨cX _,I⟩
 obtain⟨bM,bN⟩:=aD sa bL;obtain⟨kK,bO⟩:=aD sb bx;have aE:gX lo b6 d a W t p bD bT bu:=⟨aq,j.keys,j.vals,j.kids,λq c=>⟨(j.ba q c).1,(j.ba q c).2.1,(F q (.inl c)).1,(j.ba q c).2.2⟩,λq c=>⟨(j.bv q c).1,(j.bv q c).2.1,(F q (.inr (.inl c))).1,(j.bv q c).2.2⟩,λq c=>⟨(j.aK q c).1,(j.aK q c).2,(F q (.inr (.inr c))).1⟩,a6⟩;refine kh (λw'=>∃ (K:ad) (X:Nat->Prop),gX lo w' d ⟨a.leaf,if a.leaf then a.keys else a.keys++ [s],a.vals,a.kids⟩ K t p X bT bu/\ae (λq=>q=d\/bD q) b6 w'/\(∀q,X q->bD q\/b6.heap.size<=q)) (λq c=>⟨_,a4,λx=>?_,λx=>c _ ⟨W,bD,?_,.refl _ _,λq h=>.inl h⟩⟩) ?_
 .have x:a.leaf=false:=by simpa using x
  refine vX aE u I I λw' be X h1 f H=>c _ ⟨be,X,?_,f,H⟩;rw[if_neg (by rw[x];simp)];exact h1
 .have x:a.leaf=true:=by simpa using x
  rw[if_pos x];exact aE
 rintro w1 ⟨cW,ak,h1,L,aF⟩;have bP:=L.size;have aH:=ax.af L (by
  rintro(h|h)
  .exact aj h.symm
  .exact(F _ (.inl h)).2 rfl)
 have aI:=a5.af L λq c h=>by
  have:=g q c;rcases h with h|h
  .exact this.2.2.1 h
  .exact this.2.2.2.2.1 h
 have bf:=a7.af L (by
  rintro(h|h)
  .omega
  .have:=(j.ba _ h).1;omega)
 have bg:Ext w w1:=Ext.dj bd L λq c=>by
  rcases c with h|h
  .omega
  .have:=(j.ba _ h).1;omega
 obtain⟨M,Z⟩:∃l,l=(if a.leaf then a.keys else a.keys++ [s]):=⟨_,rfl⟩;rw[←Z]at h1;have bR:M.length<=10001:=by
  rw[Z];split
  .omega
  .rw[cM];simp;omega
 obtain⟨bQ,aT,a8,bc⟩:=bC h1.v;obtain⟨d0,d1,d2,d3⟩:=bC aH;have y:∀q,aC cW q->ak q:=λk u=>by obtain⟨ts,_,_,H,_⟩:=h1.keys;exact(H k u).1
 have al:∀q,aC t q->bT q:=λk u=>by obtain⟨ts,_,_,H,_⟩:=h1.vals;exact(H k u).1
 have aJ:∀q,aC p q->bu q:=λk u=>(h1.kids.2 k u).1;have aL:∀q,C q->¬aC cW q:=λq c h=>by
  rcases aF q (y q h) with f|f
  .exact(g q c).2.2.2.2.1 f
  .have:=(g q c).2.1;omega
 obtain⟨cy,ai,N,P,r⟩:=v8 h1.keys aI.keys aL (by show M.length<=_;omega) I;have aM:=h1.v.af r λh=>(h1.ba _ (y _ h)).2.2.1 rfl;obtain⟨R,S⟩:=er aM (i:=1) (by simp);refine⟨cW,aT,ac,d1,cy,ai,N,?_⟩;rw[ay,ay];refine⟨R,S,aX ?_⟩;obtain⟨m,am⟩:∃m,m=ai.setCell ⟨d,0+1,none⟩ cy:=⟨_,rfl⟩;rw[←am];have aN:ae (λq=>q=d) ai m:=by rw[am];exact dL _ _ _ _
 have aO:Var m d [a.leaf,cy,t,p] 202:=by rw[am];exact ep aM _
 have z:ae (λq=>q=d\/aC cW q) w1 m:=(r.mono λq _ h=>.inr h).trans (aN.mono λq _ h=>.inl h);have aP:=aH.af z (by
  rintro(h|h)
  .exact aj h.symm
  .rcases aF _ (y _ h) with f|f
   .exact(F _ (.inl f)).2 rfl
   .omega)
 have aQ:=aI.af z λq c h=>by
  rcases h with h|h
  .exact(g q c).2.2.1 h
  .exact aL q c h
 have bh:=bk.af h1.vals z λq c h=>by
  rcases h with h|h
  .exact(h1.bv q c).2.2.1 h
  .exact(h1.ba q (y q h)).2.2.2.1 c
 have bi:=cG.af h1.kids z λq c h=>by
  rcases h with h|h
  .exact(h1.aK q c).2.2 h
  .exact(h1.ba q (y q h)).2.2.2.2 c
 have bj:=bf.af z (by
  rintro(h|h)
  .omega
  .have:=(h1.ba _ (y _ h)).1;omega)
 have bl:Ext w m:=Ext.dj bg z λq c=>by
  rcases c with h|h
  .omega
  .have:=(h1.ba _ (y _ h)).1;omega
 have bm:a_ (λq=>(ak q\/C q\/w1.heap.size<=q)/\q≠d) m cy (M++b.keys):=by
  have an:a_ (λq=>(ak q\/C q\/w1.heap.size<=q)/\q≠d) ai cy (M++b.keys):=a_.aY P λq _ c=>⟨c,by
   rcases c with h|h|h
   .exact(h1.ba _ h).2.2.1
   .exact(g _ h).2.2.1
   .omega⟩
  exact a_.af an aN λq c h=>c.2 h
 obtain⟨bQ,aT,a8,bc⟩:=bC aO;obtain⟨d0,d1,d2,d3⟩:=bC aP;have bS:=z.size
 obtain⟨de,aa,N,P,r⟩:=v8 bh aQ.vals (λq c h=>(g q c).2.2.2.2.2.1 (al q h)) (by show a.vals.length<=_;omega) I;have aR:=aO.af r λh=>(h1.bv _ (al _ h)).2.2.1 rfl;obtain⟨R,S⟩:=er aR (i:=2) (by simp);rw[ay]at a8 d2;refine⟨t,a8,ag,d2,de,aa,N,?_⟩;rw[ay,ay];refine⟨R,S,aX ?_⟩;obtain⟨o,ao⟩:∃o,o=aa.setCell ⟨d,0+2,none⟩ de:=⟨_,rfl⟩;rw[←ao];have aS:ae (λq=>q=d) aa o:=by rw[ao];exact dL _ _ _ _
 have aU:Var o d [a.leaf,cy,de,p] 202:=by rw[ao];exact ep aR _
 have A:ae (λq=>q=d\/bT q) m o:=(r.mono λq _ h=>.inr (al q h)).trans (aS.mono λq _ h=>.inl h);have bn:=aP.af A (by
  rintro(h|h)
  .exact aj h.symm
  .exact(F _ (.inr (.inl h))).2 rfl)
 have bo:=aQ.af A λq c h=>by
  rcases h with h|h
  .exact(g q c).2.2.1 h
  .exact(g q c).2.2.2.2.2.1 h
 have bp:=a_.af bm A λq c h=>by
  rcases h with h|h
  .exact c.2 h
  .rcases c.1 with f|f|f
   .exact(h1.ba _ f).2.2.2.1 h
   .exact(g _ f).2.2.2.2.2.1 h
   .have:=(h1.bv _ h).2.1;omega
 have bq:=cG.af bi A λq c h=>by
  rcases h with h|h
  .exact(h1.aK q c).2.2 h
  .exact(h1.bv q h).2.2.2 c
 have br:=bj.af A (by
  rintro(h|h)
  .omega
  .have:=(h1.bv _ h).1;omega)
 have bs:Ext w o:=Ext.dj bl A λq c=>by
  rcases c with h|h
  .omega
  .have:=(h1.bv _ h).1;omega
 have bw:a_ (λq=>(bT q\/C q\/m.heap.size<=q)/\q≠d) o de (a.vals++b.vals):=by
  have an:a_ (λq=>(bT q\/C q\/m.heap.size<=q)/\q≠d) aa de (a.vals++b.vals):=a_.aY P λq _ c=>⟨c,by
   rcases c with h|h|h
   .exact(h1.bv _ h).2.2.1
   .exact(g _ h).2.2.1
   .omega⟩
  exact a_.af an aS λq c h=>c.2 h
 obtain⟨bQ,aT,a8,bc⟩:=bC aU;obtain⟨d0,d1,d2,d3⟩:=bC bn;have bU:=A.size
 obtain⟨fx,ap,N,P,r⟩:=zp bq bo.kids (by show a.kids.length<=_;omega) I;have aV:=aU.af r λh=>(h1.aK _ (aJ _ h)).2.2 rfl;obtain⟨R,S⟩:=er aV (i:=3) (by simp);rw[ay]at bc d3;refine⟨p,bc,ah,d3,fx,ap,N,?_⟩;rw[ay,ay];refine⟨R,S,aX ?_⟩;obtain⟨E,ar⟩:∃E,E=ap.setCell ⟨d,0+3,none⟩ fx:=⟨_,rfl⟩;rw[←ar];have aW:ae (λq=>q=d) ap E:=by rw[ar];exact dL _ _ _ _
 have aZ:Var E d [a.leaf,cy,de,fx] 202:=by rw[ar];exact ep aV _
 have T:ae (λq=>q=d\/bu q) o E:=(r.mono λq _ h=>.inr (aJ q h)).trans (aW.mono λq _ h=>.inl h);have bz:=a_.af bp T λq c h=>by
  rcases h with h|h
  .exact c.2 h
  .rcases c.1 with f|f|f
   .exact(h1.ba _ f).2.2.2.2 h
   .exact(g _ f).2.2.2.2.2.2 h
   .have:=(h1.aK _ h).2.1;omega
 have bA:=a_.af bw T λq c h=>by
  rcases h with h|h
  .exact c.2 h
  .rcases c.1 with f|f|f
   .exact(h1.bv _ f).2.2.2 h
   .exact(g _ f).2.2.2.2.2.2 h
   .have:=(h1.aK _ h).2.1;omega
 have bB:=br.af T (by
  rintro(h|h)
  .omega
  .have:=(h1.aK _ h).1;omega)
 have bE:Ext w E:=Ext.dj bs T λq c=>by
  rcases c with h|h
  .omega
  .have:=(h1.aK _ h).1;omega
 have bV:=T.size;have a0:bt (λq=>lo<=q) E (dv a s b) cy de fx:=by
  have j4:dv a s b=⟨a.leaf,M++b.keys,a.vals++b.vals,a.kids++b.kids⟩:=by
   unfold dv
   cases G:a.leaf with
   |true=>
    have au:a.kids=[]:=by
     rcases sa with h|h
     .exact h.kids
     .have:=h.inner;rw[G]at this;cases this
    have kb:b.kids=[]:=by
     rcases sb with h|h
     .exact h.kids
     .have:=h.inner;rw[←az,G]at this;cases this
    rw[Z,G,au,kb];simp
   |false=>
    have au:a.vals=[]:=by
     rcases sa with h|h
     .have:=h.leaf;rw[G]at this;cases this
     .exact h.vals
    have kb:b.vals=[]:=by
     rcases sb with h|h
     .have:=h.leaf;rw[←az,G]at this;cases this
     .exact h.vals
    rw[Z,G,au,kb];simp
  rw[j4];refine⟨a_.aY bz λq _ c=>?_,a_.aY bA λq _ c=>?_,cw.aY (cw.af (B:=λq=>(bu q\/C q\/o.heap.size<=q)/\q≠d) (cw.aY P λq _ c=>⟨c,?_⟩) aW λq c h=>c.2 h) λq _ c=>?_⟩
  .rcases c.1 with h|h|h
   .exact(h1.ba _ h).1
   .exact(g _ h).1
   .omega
  .rcases c.1 with h|h|h
   .exact(h1.bv _ h).1
   .exact(g _ h).1
   .omega
  .rcases c with h|h|h
   .exact(h1.aK _ h).2.2
   .exact(g _ h).2.2.1
   .omega
  .rcases c.1 with h|h|h
   .exact(h1.aK _ h).1
   .exact(g _ h).1
   .omega
 obtain⟨bQ,aT,a8,bc⟩:=bC aZ;rw[ay]at aT a8 bc;have bW:(dv a s b).keys.length<=20001:=by
  unfold dv;split
  .show(a.keys++b.keys).length<=_;rw[cM];omega
  .show(a.keys++s::b.keys).length<=_;rw[cM,hJ];omega
 have bX:(dv a s b).vals.length<=20001:=by
  unfold dv;split
  .show(a.vals++b.vals).length<=_;rw[cM];omega
  .simp
 have bY:(dv a s b).kids.length<=20002:=by
  unfold dv;split
  .simp
  .show(a.kids++b.kids).length<=_;rw[cM];omega
 have a1:(dv a s b).leaf=a.leaf:=yR
 repeat rw[ay]
 refine⟨_,bQ,cy,aT,de,a8,fx,bc,?_⟩;have av:=jv a0 I I I;unfold c0 at av;rw[a1]at av;refine av.use ?_;rintro _ bZ ⟨b0,rfl,bF,ab⟩;have:=bF.2 hs;subst this;obtain⟨bQ,aT,a8,bc⟩:=bC (aZ.ext ab);rw[ay]at aT a8 bc;have a2:=iC a.leaf cy de fx (bB.ext ab) a9 (Q:=λbG K V D ai=>oL (dv a s b) w (.tuple #[.agg #[bG,K,V,D],true]) ai) λb1 a3=>⟨cy,de,fx,by unfold c0;rw[a1],((a0.ext ab).af a3 λq c e=>I).aY λq _ c=>I,Ext.cC (bE.trans ab) a3 bb⟩
 repeat rw[ay]at a2
 exact⟨true,rfl,λh=>(by cases h),λ_=>⟨_,bQ,cy,aT,de,a8,fx,bc,a2⟩⟩
theorem mW{be bf:Nat->Prop}{w:J}{a b:aB}{aI aJ aM aN aO aP key:ad}{s:Key}(a5:bt be w a aI aJ aM)(a6:bt bf w b aN aO aP)(aD:Src 1 w key (aA s))(Y:∀q,aC key q->q<w.heap.size)(Z:s.length<=1000)(sa:cr a)(sb:cr b)(W:a.leaf=b.leaf)(hs:cr (dv a s b))
 (bL:a.keys.length<=10000) (bx:b.keys.length<=10000):
 aL aj 282 #[c0 a aI aJ aM,key,c0 b aN aO aP] w (oL (dv a s b) w):=by
 have a7:∀ {n:aB},cr n->n.keys.length<=10000->n.vals.length<=10000/\n.kids.length<=10001:=λ{n} h1 R=>by
  rcases h1 with h1|h1
  .rw[h1.len,h1.kids];exact⟨R,cX _⟩
  .rw[h1.len,h1.vals];exact⟨cX _,I⟩
 obtain⟨bo,bp⟩:=a7 sa bL;obtain⟨kK,bq⟩:=a7 sb bx;have aU:∀k∈a.keys,k.length<=100000:=λk aD=>by have:=(sa.keys.ok k aD).2;omega
 have ag:∀k∈b.keys,k.length<=100000:=λk aD=>by have:=(sb.keys.ok k aD).2;omega
 have aV:∀k∈a.vals,k.length<=100000:=λk aD=>by have:=sa.vals k aD;omega
 have ak:∀k∈b.vals,k.length<=100000:=λk aD=>by have:=sb.vals k aD;omega
 refine okF (ah.mW a.leaf aI aJ aM key b.leaf aN aO aP) az.mW func282 ?_;(delta ah.mW z4 aW aa r1 cc rZ ao rW rS f_ bR bJ rT st rR mD;dsimp only);refine bd (vs:=[a.leaf,aI,aJ,aM]) rfl λw1 a3 bg br=>?_;refine bd (vs:=[b.leaf,aN,aO,aP]) rfl λai a4 a1 bs=>?_;refine bd (vs:=[false,(),(),()]) rfl λbh bi aQ bu=>?_;have a9:=bg.trans (a1.trans aQ);obtain⟨bQ,aT,a8,bc⟩:=bC (a3.ext (a1.trans aQ));refine⟨_,bQ,aI,aT,aJ,a8,aM,bc,(jv (a5.ext a9) I I I).use ?_⟩;rintro _ bj ⟨cf,rfl,bk,aH⟩;have:=bk.2 sa;subst this;have a_:=a9.trans aH;obtain⟨d0,d1,d2,d3⟩:=bC (a4.ext (aQ.trans aH));refine⟨true,rfl,cH (λb w'=>b=false/\Ext bj w') (λq c=>⟨λh=>(by cases h),λ_=>⟨_,d0,aN,d1,aO,d2,aP,d3,(jv (a6.ext a_) I I I).use ?_⟩⟩) ?_⟩
 .rintro _ a2 ⟨bH,rfl,bl,aE⟩
  have:=bl.2 sb;subst this;exact⟨true,rfl,c _ _ ⟨rfl,aE⟩⟩
 rintro _ a2 ⟨rfl,aE⟩;have bm:=a_.trans aE;obtain⟨bQ,aT,a8,bc⟩:=bC (a3.ext (a1.trans (aQ.trans (aH.trans aE))));obtain⟨d0,d1,d2,d3⟩:=bC (a4.ext (aQ.trans (aH.trans aE)));refine cH (λb w'=>b=false/\a2=w') (λq c=>⟨λh=>(by cases h),λ_=>⟨_,bQ,_,d0,c _ _ ⟨by rw[W];simp,rfl⟩⟩⟩) ?_;rintro _ _ ⟨rfl,rfl⟩;have aZ:=cJ a2;have bb:=bm.trans aZ;obtain⟨Q,aR⟩:∃Q,Q=a2.drew:=⟨_,rfl⟩;have X:Var Q w.heap.size [a.leaf,aI,aJ,aM] 202:=by rw[aR];exact(a3.ext (a1.trans (aQ.trans (aH.trans aE)))).ext aZ
 have bn:Var Q w1.heap.size [b.leaf,aN,aO,aP] 202:=by rw[aR];exact(a4.ext (aQ.trans (aH.trans aE))).ext aZ
 have ab:Var Q ai.heap.size [false,(),(),()] 202:=by rw[aR];exact(bi.ext (aH.trans aE)).ext aZ
 have P:Ext w Q:=by rw[aR];exact bb
 have bw:bh.heap.size<=Q.heap.size:=by rw[aR];exact(aH.trans aE).size
 have a0:=a5.ext P;have al:=a6.ext P;have ac:=aD.ext P;obtain⟨lo,bz⟩:∃lo,lo=Q.heap.size:=⟨_,rfl⟩;rw[←aR];clear bQ aT a8 bc d0 d1 d2 d3 aR bb aZ;obtain⟨bQ,aT,a8,bc⟩:=bC X;obtain⟨d0,d1,d2,d3⟩:=bC bn;refine⟨λh=>(by cases h),λ_=>aX ⟨λ_=>False,id,_,bQ,aI,aT,aJ,a8,aM,bc,id,_,d0,aN,d1,aO,d2,aP,d3,?_⟩⟩;refine⟨?_,?_,?_⟩
 .refine(eo a0 I I I aU aV).use ?_
  rintro _ L ⟨G,H,K,M,N,O,rfl,d,av⟩;refine⟨_,G,H,K,rfl,av,?_⟩;have s1:=av.size;refine⟨?_,?_,?_⟩
  .refine(eo (al.ext av) I I I ag ak).use ?_
   rintro _ x ⟨r,t,u,aw,ax,ay,rfl,V,i⟩;refine⟨_,r,t,u,rfl,i,?_⟩;have s2:=i.size;refine⟨?_,?_⟩
   .refine bd (vs:=[false,(),(),()]) rfl λv am g z3=>⟨g,?_⟩
    have an:=g.size;refine bd (vs:=[false,(),(),()]) rfl λy ap f z4=>⟨f,?_⟩;have aq:=f.size;have z:=am.ext f;have S:=ap;refine⟨z.bU rfl (e4 _ _ _ _),rfl,cl z (us:=[a.leaf,G,H,K]) rfl rfl λar A cF t5=>?_⟩;have B:=S.af cF I;refine⟨B.bU rfl (e4 _ _ _ _),rfl,cl B (us:=[b.leaf,r,t,u]) rfl rfl λl D o t6=>?_⟩;obtain⟨p,E⟩:∃p,p=x.heap.size:=⟨_,rfl⟩;obtain⟨aG,F⟩:∃aG,aG=v.heap.size:=⟨_,rfl⟩;rw[←E]at A cF;rw[←F]at D o;rw[←E,←F];have j:ae (λq=>q=p\/q=aG) y l:=(cF.mono λq _ h=>.inl h).trans (o.mono λq _ h=>.inr h);have T:eD lo l a G H K M N O:=(((d.ext (i.trans (g.trans (f)))).af j λq _ _ c e=>by have au:Q.heap.size<=q/\q<L.heap.size:=(by rcases c with c|c|c;exact⟨(d.ba q c).1,(d.ba q c).2.1⟩;exact⟨(d.bv q c).1,(d.bv q c).2.1⟩;exact d.aK q c);omega).low I);have U:bt (λq=>L.heap.size<=q/\q<x.heap.size) l b r t u:=((V.at.aY λq h1 R=>⟨R,h1⟩).ext (g.trans (f))).af j λq c e=>by omega
    have m:∀q,M q\/N q\/O q->Q.heap.size<=q/\q<L.heap.size:=λq c=>by
     rcases c with c|c|c
     .exact⟨(d.ba q c).1,(d.ba q c).2.1⟩
     .exact⟨(d.bv q c).1,(d.bv q c).2.1⟩
     .exact d.aK q c
    exact jB (lo:=lo) (b6:=l) (C:=λq=>L.heap.size<=q/\q<x.heap.size) ((X.ext (av.trans (i.trans (g.trans f)))).af j I).cell (A.af o I) D T U (λq c=>⟨I,I,I,I,λh=>(by have:=m q (.inl h);omega),λh=>(by have:=m q (.inr (.inl h));omega),λh=>(by have:=m q (.inr (.inr h));omega)⟩) (λq c=>(by have:=m q c;exact⟨I,I⟩)) I I I ((ab.ext (av.trans (i.trans (g.trans f)))).af j I) rfl I I ((ac.ext (av.trans (i.trans (g.trans f)))).af j λq c e=>(by have:=Y q c;have:=P.size;omega)) Z (Ext.dj (P.trans (av.trans (i.trans (g.trans f)))) j λq c=>I) hs W sa sb bL bx
   .refine bd (vs:=[false,(),(),()]) rfl λv am g z3=>⟨g,?_⟩
    have an:=g.size;refine bd (vs:=[false,(),(),()]) rfl λy ap f z4=>⟨f,?_⟩;have aq:=f.size;have z:=ap;have S:=am.ext f;refine⟨z.bU rfl (e4 _ _ _ _),rfl,cl z (us:=[a.leaf,G,H,K]) rfl rfl λar A cF t5=>?_⟩;have B:=S.af cF I;refine⟨B.bU rfl (e4 _ _ _ _),rfl,cl B (us:=[b.leaf,r,t,u]) rfl rfl λl D o t6=>?_⟩;obtain⟨p,E⟩:∃p,p=v.heap.size:=⟨_,rfl⟩;obtain⟨aG,F⟩:∃aG,aG=x.heap.size:=⟨_,rfl⟩;rw[←E]at A cF;rw[←F]at D o;rw[←E,←F];have j:ae (λq=>q=p\/q=aG) y l:=(cF.mono λq _ h=>.inl h).trans (o.mono λq _ h=>.inr h);have T:eD lo l a G H K M N O:=(((d.ext (i.trans (g.trans (f)))).af j λq _ _ c e=>by have au:Q.heap.size<=q/\q<L.heap.size:=(by rcases c with c|c|c;exact⟨(d.ba q c).1,(d.ba q c).2.1⟩;exact⟨(d.bv q c).1,(d.bv q c).2.1⟩;exact d.aK q c);omega).low I);have U:bt (λq=>L.heap.size<=q/\q<x.heap.size) l b r t u:=((V.at.aY λq h1 R=>⟨R,h1⟩).ext (g.trans (f))).af j λq c e=>by omega
    have m:∀q,M q\/N q\/O q->Q.heap.size<=q/\q<L.heap.size:=λq c=>by
     rcases c with c|c|c
     .exact⟨(d.ba q c).1,(d.ba q c).2.1⟩
     .exact⟨(d.bv q c).1,(d.bv q c).2.1⟩
     .exact d.aK q c
    exact jB (lo:=lo) (b6:=l) (C:=λq=>L.heap.size<=q/\q<x.heap.size) ((X.ext (av.trans (i.trans (g.trans f)))).af j I).cell (A.af o I) D T U (λq c=>⟨I,I,I,I,λh=>(by have:=m q (.inl h);omega),λh=>(by have:=m q (.inr (.inl h));omega),λh=>(by have:=m q (.inr (.inr h));omega)⟩) (λq c=>(by have:=m q c;exact⟨I,I⟩)) I I I ((ab.ext (av.trans (i.trans (g.trans f)))).af j I) rfl I I ((ac.ext (av.trans (i.trans (g.trans f)))).af j λq c e=>(by have:=Y q c;have:=P.size;omega)) Z (Ext.dj (P.trans (av.trans (i.trans (g.trans f)))) j λq c=>I) hs W sa sb bL bx
  .refine bd (vs:=[false,(),(),()]) rfl λx aF i fD=>⟨i,?_⟩
   have s2:=i.size;refine⟨?_,?_⟩
   .refine(eo (al.ext (av.trans (i))) I I I ag ak).use ?_
    rintro _ v ⟨r,t,u,aw,ax,ay,rfl,V,g⟩;refine⟨_,r,t,u,rfl,g,?_⟩;have an:=g.size;refine bd (vs:=[false,(),(),()]) rfl λy ap f z4=>⟨f,?_⟩;have aq:=f.size;have z:=aF.ext (g.trans (f));have S:=ap;refine⟨z.bU rfl (e4 _ _ _ _),rfl,cl z (us:=[a.leaf,G,H,K]) rfl rfl λar A cF t5=>?_⟩;have B:=S.af cF I;refine⟨B.bU rfl (e4 _ _ _ _),rfl,cl B (us:=[b.leaf,r,t,u]) rfl rfl λl D o t6=>?_⟩;obtain⟨p,E⟩:∃p,p=L.heap.size:=⟨_,rfl⟩;obtain⟨aG,F⟩:∃aG,aG=v.heap.size:=⟨_,rfl⟩;rw[←E]at A cF;rw[←F]at D o;rw[←E,←F];have j:ae (λq=>q=p\/q=aG) y l:=(cF.mono λq _ h=>.inl h).trans (o.mono λq _ h=>.inr h);have T:eD lo l a G H K M N O:=(((d.ext (i.trans (g.trans (f)))).af j λq _ _ c e=>by have au:Q.heap.size<=q/\q<L.heap.size:=(by rcases c with c|c|c;exact⟨(d.ba q c).1,(d.ba q c).2.1⟩;exact⟨(d.bv q c).1,(d.bv q c).2.1⟩;exact d.aK q c);omega).low I);have U:bt (λq=>x.heap.size<=q/\q<v.heap.size) l b r t u:=((V.at.aY λq h1 R=>⟨R,h1⟩).ext f).af j λq c e=>by omega
    have m:∀q,M q\/N q\/O q->Q.heap.size<=q/\q<L.heap.size:=λq c=>by
     rcases c with c|c|c
     .exact⟨(d.ba q c).1,(d.ba q c).2.1⟩
     .exact⟨(d.bv q c).1,(d.bv q c).2.1⟩
     .exact d.aK q c
    exact jB (lo:=lo) (b6:=l) (C:=λq=>x.heap.size<=q/\q<v.heap.size) ((X.ext (av.trans (i.trans (g.trans f)))).af j I).cell (A.af o I) D T U (λq c=>⟨I,I,I,I,λh=>(by have:=m q (.inl h);omega),λh=>(by have:=m q (.inr (.inl h));omega),λh=>(by have:=m q (.inr (.inr h));omega)⟩) (λq c=>(by have:=m q c;exact⟨I,I⟩)) I I I ((ab.ext (av.trans (i.trans (g.trans f)))).af j I) rfl I I ((ac.ext (av.trans (i.trans (g.trans f)))).af j λq c e=>(by have:=Y q c;have:=P.size;omega)) Z (Ext.dj (P.trans (av.trans (i.trans (g.trans f)))) j λq c=>I) hs W sa sb bL bx
   .refine bd (vs:=[false,(),(),()]) rfl λv am g z3=>⟨g,?_⟩
    have an:=g.size;refine(eo (al.ext (av.trans (i.trans (g)))) I I I ag ak).use ?_;rintro _ y ⟨r,t,u,aw,ax,ay,rfl,V,f⟩;refine⟨_,r,t,u,rfl,f,?_⟩;have aq:=f.size;have z:=aF.ext (g.trans (f));have S:=am.ext f;refine⟨z.bU rfl (e4 _ _ _ _),rfl,cl z (us:=[a.leaf,G,H,K]) rfl rfl λar A cF t5=>?_⟩;have B:=S.af cF I;refine⟨B.bU rfl (e4 _ _ _ _),rfl,cl B (us:=[b.leaf,r,t,u]) rfl rfl λl D o t6=>?_⟩;obtain⟨p,E⟩:∃p,p=L.heap.size:=⟨_,rfl⟩;obtain⟨aG,F⟩:∃aG,aG=x.heap.size:=⟨_,rfl⟩;rw[←E]at A cF;rw[←F]at D o;rw[←E,←F];have j:ae (λq=>q=p\/q=aG) y l:=(cF.mono λq _ h=>.inl h).trans (o.mono λq _ h=>.inr h);have T:eD lo l a G H K M N O:=(((d.ext (i.trans (g.trans (f)))).af j λq _ _ c e=>by have au:Q.heap.size<=q/\q<L.heap.size:=(by rcases c with c|c|c;exact⟨(d.ba q c).1,(d.ba q c).2.1⟩;exact⟨(d.bv q c).1,(d.bv q c).2.1⟩;exact d.aK q c);omega).low I);have U:bt (λq=>v.heap.size<=q/\q<y.heap.size) l b r t u:=(V.at.aY λq h1 R=>⟨R,h1⟩).af j λq c e=>by omega
    have m:∀q,M q\/N q\/O q->Q.heap.size<=q/\q<L.heap.size:=λq c=>by
     rcases c with c|c|c
     .exact⟨(d.ba q c).1,(d.ba q c).2.1⟩
     .exact⟨(d.bv q c).1,(d.bv q c).2.1⟩
     .exact d.aK q c
    exact jB (lo:=lo) (b6:=l) (C:=λq=>v.heap.size<=q/\q<y.heap.size) ((X.ext (av.trans (i.trans (g.trans f)))).af j I).cell (A.af o I) D T U (λq c=>⟨I,I,I,I,λh=>(by have:=m q (.inl h);omega),λh=>(by have:=m q (.inr (.inl h));omega),λh=>(by have:=m q (.inr (.inr h));omega)⟩) (λq c=>(by have:=m q c;exact⟨I,I⟩)) I I I ((ab.ext (av.trans (i.trans (g.trans f)))).af j I) rfl I I ((ac.ext (av.trans (i.trans (g.trans f)))).af j λq c e=>(by have:=Y q c;have:=P.size;omega)) Z (Ext.dj (P.trans (av.trans (i.trans (g.trans f)))) j λq c=>I) hs W sa sb bL bx
  .refine bd (vs:=[false,(),(),()]) rfl λx aF i fD=>⟨i,?_⟩
   have s2:=i.size;refine⟨?_,?_⟩
   .refine(eo (al.ext (av.trans (i))) I I I ag ak).use ?_
    rintro _ v ⟨r,t,u,aw,ax,ay,rfl,V,g⟩;refine⟨_,r,t,u,rfl,g,?_⟩;have an:=g.size;refine bd (vs:=[false,(),(),()]) rfl λy ap f z4=>⟨f,?_⟩;have aq:=f.size;have z:=ap;have S:=aF.ext (g.trans (f));refine⟨z.bU rfl (e4 _ _ _ _),rfl,cl z (us:=[a.leaf,G,H,K]) rfl rfl λar A cF t5=>?_⟩;have B:=S.af cF I;refine⟨B.bU rfl (e4 _ _ _ _),rfl,cl B (us:=[b.leaf,r,t,u]) rfl rfl λl D o t6=>?_⟩;obtain⟨p,E⟩:∃p,p=v.heap.size:=⟨_,rfl⟩;obtain⟨aG,F⟩:∃aG,aG=L.heap.size:=⟨_,rfl⟩;rw[←E]at A cF;rw[←F]at D o;rw[←E,←F];have j:ae (λq=>q=p\/q=aG) y l:=(cF.mono λq _ h=>.inl h).trans (o.mono λq _ h=>.inr h);have T:eD lo l a G H K M N O:=(((d.ext (i.trans (g.trans (f)))).af j λq _ _ c e=>by have au:Q.heap.size<=q/\q<L.heap.size:=(by rcases c with c|c|c;exact⟨(d.ba q c).1,(d.ba q c).2.1⟩;exact⟨(d.bv q c).1,(d.bv q c).2.1⟩;exact d.aK q c);omega).low I);have U:bt (λq=>x.heap.size<=q/\q<v.heap.size) l b r t u:=((V.at.aY λq h1 R=>⟨R,h1⟩).ext f).af j λq c e=>by omega
    have m:∀q,M q\/N q\/O q->Q.heap.size<=q/\q<L.heap.size:=λq c=>by
     rcases c with c|c|c
     .exact⟨(d.ba q c).1,(d.ba q c).2.1⟩
     .exact⟨(d.bv q c).1,(d.bv q c).2.1⟩
     .exact d.aK q c
    exact jB (lo:=lo) (b6:=l) (C:=λq=>x.heap.size<=q/\q<v.heap.size) ((X.ext (av.trans (i.trans (g.trans f)))).af j I).cell (A.af o I) D T U (λq c=>⟨I,I,I,I,λh=>(by have:=m q (.inl h);omega),λh=>(by have:=m q (.inr (.inl h));omega),λh=>(by have:=m q (.inr (.inr h));omega)⟩) (λq c=>(by have:=m q c;exact⟨I,I⟩)) I I I ((ab.ext (av.trans (i.trans (g.trans f)))).af j I) rfl I I ((ac.ext (av.trans (i.trans (g.trans f)))).af j λq c e=>(by have:=Y q c;have:=P.size;omega)) Z (Ext.dj (P.trans (av.trans (i.trans (g.trans f)))) j λq c=>I) hs W sa sb bL bx
   .refine bd (vs:=[false,(),(),()]) rfl λv am g z3=>⟨g,?_⟩
    have an:=g.size;refine(eo (al.ext (av.trans (i.trans (g)))) I I I ag ak).use ?_;rintro _ y ⟨r,t,u,aw,ax,ay,rfl,V,f⟩;refine⟨_,r,t,u,rfl,f,?_⟩;have aq:=f.size;have z:=am.ext f;have S:=aF.ext (g.trans (f));refine⟨z.bU rfl (e4 _ _ _ _),rfl,cl z (us:=[a.leaf,G,H,K]) rfl rfl λar A cF t5=>?_⟩;have B:=S.af cF I;refine⟨B.bU rfl (e4 _ _ _ _),rfl,cl B (us:=[b.leaf,r,t,u]) rfl rfl λl D o t6=>?_⟩;obtain⟨p,E⟩:∃p,p=x.heap.size:=⟨_,rfl⟩;obtain⟨aG,F⟩:∃aG,aG=L.heap.size:=⟨_,rfl⟩;rw[←E]at A cF;rw[←F]at D o;rw[←E,←F];have j:ae (λq=>q=p\/q=aG) y l:=(cF.mono λq _ h=>.inl h).trans (o.mono λq _ h=>.inr h);have T:eD lo l a G H K M N O:=(((d.ext (i.trans (g.trans (f)))).af j λq _ _ c e=>by have au:Q.heap.size<=q/\q<L.heap.size:=(by rcases c with c|c|c;exact⟨(d.ba q c).1,(d.ba q c).2.1⟩;exact⟨(d.bv q c).1,(d.bv q c).2.1⟩;exact d.aK q c);omega).low I);have U:bt (λq=>v.heap.size<=q/\q<y.heap.size) l b r t u:=(V.at.aY λq h1 R=>⟨R,h1⟩).af j λq c e=>by omega
    have m:∀q,M q\/N q\/O q->Q.heap.size<=q/\q<L.heap.size:=λq c=>by
     rcases c with c|c|c
     .exact⟨(d.ba q c).1,(d.ba q c).2.1⟩
     .exact⟨(d.bv q c).1,(d.bv q c).2.1⟩
     .exact d.aK q c
    exact jB (lo:=lo) (b6:=l) (C:=λq=>v.heap.size<=q/\q<y.heap.size) ((X.ext (av.trans (i.trans (g.trans f)))).af j I).cell (A.af o I) D T U (λq c=>⟨I,I,I,I,λh=>(by have:=m q (.inl h);omega),λh=>(by have:=m q (.inr (.inl h));omega),λh=>(by have:=m q (.inr (.inr h));omega)⟩) (λq c=>(by have:=m q c;exact⟨I,I⟩)) I I I ((ab.ext (av.trans (i.trans (g.trans f)))).af j I) rfl I I ((ac.ext (av.trans (i.trans (g.trans f)))).af j λq c e=>(by have:=Y q c;have:=P.size;omega)) Z (Ext.dj (P.trans (av.trans (i.trans (g.trans f)))) j λq c=>I) hs W sa sb bL bx
 .refine bd (vs:=[false,(),(),()]) rfl λL aS av iW=>⟨av,?_⟩
  have s1:=av.size;refine⟨?_,?_⟩
  .refine(eo (a0.ext av) I I I aU aV).use ?_
   rintro _ x ⟨G,H,K,M,N,O,rfl,d,i⟩;refine⟨_,G,H,K,rfl,i,?_⟩;have s2:=i.size;refine⟨?_,?_⟩
   .refine(eo (al.ext (av.trans (i))) I I I ag ak).use ?_
    rintro _ v ⟨r,t,u,aw,ax,ay,rfl,V,g⟩;refine⟨_,r,t,u,rfl,g,?_⟩;have an:=g.size;refine bd (vs:=[false,(),(),()]) rfl λy ap f z4=>⟨f,?_⟩;have aq:=f.size;have z:=aS.ext (i.trans (g.trans (f)));have S:=ap;refine⟨z.bU rfl (e4 _ _ _ _),rfl,cl z (us:=[a.leaf,G,H,K]) rfl rfl λar A cF t5=>?_⟩;have B:=S.af cF I;refine⟨B.bU rfl (e4 _ _ _ _),rfl,cl B (us:=[b.leaf,r,t,u]) rfl rfl λl D o t6=>?_⟩;obtain⟨p,E⟩:∃p,p=Q.heap.size:=⟨_,rfl⟩;obtain⟨aG,F⟩:∃aG,aG=v.heap.size:=⟨_,rfl⟩;rw[←E]at A cF;rw[←F]at D o;rw[←E,←F];have j:ae (λq=>q=p\/q=aG) y l:=(cF.mono λq _ h=>.inl h).trans (o.mono λq _ h=>.inr h);have T:eD lo l a G H K M N O:=(((d.ext (g.trans (f))).af j λq _ _ c e=>by have au:L.heap.size<=q/\q<x.heap.size:=(by rcases c with c|c|c;exact⟨(d.ba q c).1,(d.ba q c).2.1⟩;exact⟨(d.bv q c).1,(d.bv q c).2.1⟩;exact d.aK q c);omega).low I);have U:bt (λq=>x.heap.size<=q/\q<v.heap.size) l b r t u:=((V.at.aY λq h1 R=>⟨R,h1⟩).ext f).af j λq c e=>by omega
    have m:∀q,M q\/N q\/O q->L.heap.size<=q/\q<x.heap.size:=λq c=>by
     rcases c with c|c|c
     .exact⟨(d.ba q c).1,(d.ba q c).2.1⟩
     .exact⟨(d.bv q c).1,(d.bv q c).2.1⟩
     .exact d.aK q c
    exact jB (lo:=lo) (b6:=l) (C:=λq=>x.heap.size<=q/\q<v.heap.size) ((X.ext (av.trans (i.trans (g.trans f)))).af j I).cell (A.af o I) D T U (λq c=>⟨I,I,I,I,λh=>(by have:=m q (.inl h);omega),λh=>(by have:=m q (.inr (.inl h));omega),λh=>(by have:=m q (.inr (.inr h));omega)⟩) (λq c=>(by have:=m q c;exact⟨I,I⟩)) I I I ((ab.ext (av.trans (i.trans (g.trans f)))).af j I) rfl I I ((ac.ext (av.trans (i.trans (g.trans f)))).af j λq c e=>(by have:=Y q c;have:=P.size;omega)) Z (Ext.dj (P.trans (av.trans (i.trans (g.trans f)))) j λq c=>I) hs W sa sb bL bx
   .refine bd (vs:=[false,(),(),()]) rfl λv am g z3=>⟨g,?_⟩
    have an:=g.size;refine(eo (al.ext (av.trans (i.trans (g)))) I I I ag ak).use ?_;rintro _ y ⟨r,t,u,aw,ax,ay,rfl,V,f⟩;refine⟨_,r,t,u,rfl,f,?_⟩;have aq:=f.size;have z:=aS.ext (i.trans (g.trans (f)));have S:=am.ext f;refine⟨z.bU rfl (e4 _ _ _ _),rfl,cl z (us:=[a.leaf,G,H,K]) rfl rfl λar A cF t5=>?_⟩;have B:=S.af cF I;refine⟨B.bU rfl (e4 _ _ _ _),rfl,cl B (us:=[b.leaf,r,t,u]) rfl rfl λl D o t6=>?_⟩;obtain⟨p,E⟩:∃p,p=Q.heap.size:=⟨_,rfl⟩;obtain⟨aG,F⟩:∃aG,aG=x.heap.size:=⟨_,rfl⟩;rw[←E]at A cF;rw[←F]at D o;rw[←E,←F];have j:ae (λq=>q=p\/q=aG) y l:=(cF.mono λq _ h=>.inl h).trans (o.mono λq _ h=>.inr h);have T:eD lo l a G H K M N O:=(((d.ext (g.trans (f))).af j λq _ _ c e=>by have au:L.heap.size<=q/\q<x.heap.size:=(by rcases c with c|c|c;exact⟨(d.ba q c).1,(d.ba q c).2.1⟩;exact⟨(d.bv q c).1,(d.bv q c).2.1⟩;exact d.aK q c);omega).low I);have U:bt (λq=>v.heap.size<=q/\q<y.heap.size) l b r t u:=(V.at.aY λq h1 R=>⟨R,h1⟩).af j λq c e=>by omega
    have m:∀q,M q\/N q\/O q->L.heap.size<=q/\q<x.heap.size:=λq c=>by
     rcases c with c|c|c
     .exact⟨(d.ba q c).1,(d.ba q c).2.1⟩
     .exact⟨(d.bv q c).1,(d.bv q c).2.1⟩
     .exact d.aK q c
    exact jB (lo:=lo) (b6:=l) (C:=λq=>v.heap.size<=q/\q<y.heap.size) ((X.ext (av.trans (i.trans (g.trans f)))).af j I).cell (A.af o I) D T U (λq c=>⟨I,I,I,I,λh=>(by have:=m q (.inl h);omega),λh=>(by have:=m q (.inr (.inl h));omega),λh=>(by have:=m q (.inr (.inr h));omega)⟩) (λq c=>(by have:=m q c;exact⟨I,I⟩)) I I I ((ab.ext (av.trans (i.trans (g.trans f)))).af j I) rfl I I ((ac.ext (av.trans (i.trans (g.trans f)))).af j λq c e=>(by have:=Y q c;have:=P.size;omega)) Z (Ext.dj (P.trans (av.trans (i.trans (g.trans f)))) j λq c=>I) hs W sa sb bL bx
  .refine bd (vs:=[false,(),(),()]) rfl λx aF i fD=>⟨i,?_⟩
   have s2:=i.size;refine(eo (a0.ext (av.trans (i))) I I I aU aV).use ?_;rintro _ v ⟨G,H,K,M,N,O,rfl,d,g⟩;refine⟨_,G,H,K,rfl,g,?_⟩;have an:=g.size;refine(eo (al.ext (av.trans (i.trans (g)))) I I I ag ak).use ?_;rintro _ y ⟨r,t,u,aw,ax,ay,rfl,V,f⟩;refine⟨_,r,t,u,rfl,f,?_⟩;have aq:=f.size;have z:=aS.ext (i.trans (g.trans (f)));have S:=aF.ext (g.trans (f));refine⟨z.bU rfl (e4 _ _ _ _),rfl,cl z (us:=[a.leaf,G,H,K]) rfl rfl λar A cF t5=>?_⟩;have B:=S.af cF I;refine⟨B.bU rfl (e4 _ _ _ _),rfl,cl B (us:=[b.leaf,r,t,u]) rfl rfl λl D o t6=>?_⟩;obtain⟨p,E⟩:∃p,p=Q.heap.size:=⟨_,rfl⟩;obtain⟨aG,F⟩:∃aG,aG=L.heap.size:=⟨_,rfl⟩;rw[←E]at A cF;rw[←F]at D o;rw[←E,←F];have j:ae (λq=>q=p\/q=aG) y l:=(cF.mono λq _ h=>.inl h).trans (o.mono λq _ h=>.inr h);have T:eD lo l a G H K M N O:=(((d.ext f).af j λq _ _ c e=>by have au:x.heap.size<=q/\q<v.heap.size:=(by rcases c with c|c|c;exact⟨(d.ba q c).1,(d.ba q c).2.1⟩;exact⟨(d.bv q c).1,(d.bv q c).2.1⟩;exact d.aK q c);omega).low I);have U:bt (λq=>v.heap.size<=q/\q<y.heap.size) l b r t u:=(V.at.aY λq h1 R=>⟨R,h1⟩).af j λq c e=>by omega
   have m:∀q,M q\/N q\/O q->x.heap.size<=q/\q<v.heap.size:=λq c=>by
    rcases c with c|c|c
    .exact⟨(d.ba q c).1,(d.ba q c).2.1⟩
    .exact⟨(d.bv q c).1,(d.bv q c).2.1⟩
    .exact d.aK q c
   exact jB (lo:=lo) (b6:=l) (C:=λq=>v.heap.size<=q/\q<y.heap.size) ((X.ext (av.trans (i.trans (g.trans f)))).af j I).cell (A.af o I) D T U (λq c=>⟨I,I,I,I,λh=>(by have:=m q (.inl h);omega),λh=>(by have:=m q (.inr (.inl h));omega),λh=>(by have:=m q (.inr (.inr h));omega)⟩) (λq c=>(by have:=m q c;exact⟨I,I⟩)) I I I ((ab.ext (av.trans (i.trans (g.trans f)))).af j I) rfl I I ((ac.ext (av.trans (i.trans (g.trans f)))).af j λq c e=>(by have:=Y q c;have:=P.size;omega)) Z (Ext.dj (P.trans (av.trans (i.trans (g.trans f)))) j λq c=>I) hs W sa sb bL bx
 .refine bd (vs:=[false,(),(),()]) rfl λL aS av iW=>⟨av,?_⟩
  have s1:=av.size;refine⟨?_,?_⟩
  .refine(eo (a0.ext av) I I I aU aV).use ?_
   rintro _ x ⟨G,H,K,M,N,O,rfl,d,i⟩;refine⟨_,G,H,K,rfl,i,?_⟩;have s2:=i.size;refine⟨?_,?_⟩
   .refine(eo (al.ext (av.trans (i))) I I I ag ak).use ?_
    rintro _ v ⟨r,t,u,aw,ax,ay,rfl,V,g⟩;refine⟨_,r,t,u,rfl,g,?_⟩;have an:=g.size;refine bd (vs:=[false,(),(),()]) rfl λy ap f z4=>⟨f,?_⟩;have aq:=f.size;have z:=ap;have S:=aS.ext (i.trans (g.trans (f)));refine⟨z.bU rfl (e4 _ _ _ _),rfl,cl z (us:=[a.leaf,G,H,K]) rfl rfl λar A cF t5=>?_⟩;have B:=S.af cF I;refine⟨B.bU rfl (e4 _ _ _ _),rfl,cl B (us:=[b.leaf,r,t,u]) rfl rfl λl D o t6=>?_⟩;obtain⟨p,E⟩:∃p,p=v.heap.size:=⟨_,rfl⟩;obtain⟨aG,F⟩:∃aG,aG=Q.heap.size:=⟨_,rfl⟩;rw[←E]at A cF;rw[←F]at D o;rw[←E,←F];have j:ae (λq=>q=p\/q=aG) y l:=(cF.mono λq _ h=>.inl h).trans (o.mono λq _ h=>.inr h);have T:eD lo l a G H K M N O:=(((d.ext (g.trans (f))).af j λq _ _ c e=>by have au:L.heap.size<=q/\q<x.heap.size:=(by rcases c with c|c|c;exact⟨(d.ba q c).1,(d.ba q c).2.1⟩;exact⟨(d.bv q c).1,(d.bv q c).2.1⟩;exact d.aK q c);omega).low I);have U:bt (λq=>x.heap.size<=q/\q<v.heap.size) l b r t u:=((V.at.aY λq h1 R=>⟨R,h1⟩).ext f).af j λq c e=>by omega
    have m:∀q,M q\/N q\/O q->L.heap.size<=q/\q<x.heap.size:=λq c=>by
     rcases c with c|c|c
     .exact⟨(d.ba q c).1,(d.ba q c).2.1⟩
     .exact⟨(d.bv q c).1,(d.bv q c).2.1⟩
     .exact d.aK q c
    exact jB (lo:=lo) (b6:=l) (C:=λq=>x.heap.size<=q/\q<v.heap.size) ((X.ext (av.trans (i.trans (g.trans f)))).af j I).cell (A.af o I) D T U (λq c=>⟨I,I,I,I,λh=>(by have:=m q (.inl h);omega),λh=>(by have:=m q (.inr (.inl h));omega),λh=>(by have:=m q (.inr (.inr h));omega)⟩) (λq c=>(by have:=m q c;exact⟨I,I⟩)) I I I ((ab.ext (av.trans (i.trans (g.trans f)))).af j I) rfl I I ((ac.ext (av.trans (i.trans (g.trans f)))).af j λq c e=>(by have:=Y q c;have:=P.size;omega)) Z (Ext.dj (P.trans (av.trans (i.trans (g.trans f)))) j λq c=>I) hs W sa sb bL bx
   .refine bd (vs:=[false,(),(),()]) rfl λv am g z3=>⟨g,?_⟩
    have an:=g.size;refine(eo (al.ext (av.trans (i.trans (g)))) I I I ag ak).use ?_;rintro _ y ⟨r,t,u,aw,ax,ay,rfl,V,f⟩;refine⟨_,r,t,u,rfl,f,?_⟩;have aq:=f.size;have z:=am.ext f;have S:=aS.ext (i.trans (g.trans (f)));refine⟨z.bU rfl (e4 _ _ _ _),rfl,cl z (us:=[a.leaf,G,H,K]) rfl rfl λar A cF t5=>?_⟩;have B:=S.af cF I;refine⟨B.bU rfl (e4 _ _ _ _),rfl,cl B (us:=[b.leaf,r,t,u]) rfl rfl λl D o t6=>?_⟩;obtain⟨p,E⟩:∃p,p=x.heap.size:=⟨_,rfl⟩;obtain⟨aG,F⟩:∃aG,aG=Q.heap.size:=⟨_,rfl⟩;rw[←E]at A cF;rw[←F]at D o;rw[←E,←F];have j:ae (λq=>q=p\/q=aG) y l:=(cF.mono λq _ h=>.inl h).trans (o.mono λq _ h=>.inr h);have T:eD lo l a G H K M N O:=(((d.ext (g.trans (f))).af j λq _ _ c e=>by have au:L.heap.size<=q/\q<x.heap.size:=(by rcases c with c|c|c;exact⟨(d.ba q c).1,(d.ba q c).2.1⟩;exact⟨(d.bv q c).1,(d.bv q c).2.1⟩;exact d.aK q c);omega).low I);have U:bt (λq=>v.heap.size<=q/\q<y.heap.size) l b r t u:=(V.at.aY λq h1 R=>⟨R,h1⟩).af j λq c e=>by omega
    have m:∀q,M q\/N q\/O q->L.heap.size<=q/\q<x.heap.size:=λq c=>by
     rcases c with c|c|c
     .exact⟨(d.ba q c).1,(d.ba q c).2.1⟩
     .exact⟨(d.bv q c).1,(d.bv q c).2.1⟩
     .exact d.aK q c
    exact jB (lo:=lo) (b6:=l) (C:=λq=>v.heap.size<=q/\q<y.heap.size) ((X.ext (av.trans (i.trans (g.trans f)))).af j I).cell (A.af o I) D T U (λq c=>⟨I,I,I,I,λh=>(by have:=m q (.inl h);omega),λh=>(by have:=m q (.inr (.inl h));omega),λh=>(by have:=m q (.inr (.inr h));omega)⟩) (λq c=>(by have:=m q c;exact⟨I,I⟩)) I I I ((ab.ext (av.trans (i.trans (g.trans f)))).af j I) rfl I I ((ac.ext (av.trans (i.trans (g.trans f)))).af j λq c e=>(by have:=Y q c;have:=P.size;omega)) Z (Ext.dj (P.trans (av.trans (i.trans (g.trans f)))) j λq c=>I) hs W sa sb bL bx
  .refine bd (vs:=[false,(),(),()]) rfl λx aF i fD=>⟨i,?_⟩
   have s2:=i.size;refine(eo (a0.ext (av.trans (i))) I I I aU aV).use ?_;rintro _ v ⟨G,H,K,M,N,O,rfl,d,g⟩;refine⟨_,G,H,K,rfl,g,?_⟩;have an:=g.size;refine(eo (al.ext (av.trans (i.trans (g)))) I I I ag ak).use ?_;rintro _ y ⟨r,t,u,aw,ax,ay,rfl,V,f⟩;refine⟨_,r,t,u,rfl,f,?_⟩;have aq:=f.size;have z:=aF.ext (g.trans (f));have S:=aS.ext (i.trans (g.trans (f)));refine⟨z.bU rfl (e4 _ _ _ _),rfl,cl z (us:=[a.leaf,G,H,K]) rfl rfl λar A cF t5=>?_⟩;have B:=S.af cF I;refine⟨B.bU rfl (e4 _ _ _ _),rfl,cl B (us:=[b.leaf,r,t,u]) rfl rfl λl D o t6=>?_⟩;obtain⟨p,E⟩:∃p,p=L.heap.size:=⟨_,rfl⟩;obtain⟨aG,F⟩:∃aG,aG=Q.heap.size:=⟨_,rfl⟩;rw[←E]at A cF;rw[←F]at D o;rw[←E,←F];have j:ae (λq=>q=p\/q=aG) y l:=(cF.mono λq _ h=>.inl h).trans (o.mono λq _ h=>.inr h);have T:eD lo l a G H K M N O:=(((d.ext f).af j λq _ _ c e=>by have au:x.heap.size<=q/\q<v.heap.size:=(by rcases c with c|c|c;exact⟨(d.ba q c).1,(d.ba q c).2.1⟩;exact⟨(d.bv q c).1,(d.bv q c).2.1⟩;exact d.aK q c);omega).low I);have U:bt (λq=>v.heap.size<=q/\q<y.heap.size) l b r t u:=(V.at.aY λq h1 R=>⟨R,h1⟩).af j λq c e=>by omega
   have m:∀q,M q\/N q\/O q->x.heap.size<=q/\q<v.heap.size:=λq c=>by
    rcases c with c|c|c
    .exact⟨(d.ba q c).1,(d.ba q c).2.1⟩
    .exact⟨(d.bv q c).1,(d.bv q c).2.1⟩
    .exact d.aK q c
   exact jB (lo:=lo) (b6:=l) (C:=λq=>v.heap.size<=q/\q<y.heap.size) ((X.ext (av.trans (i.trans (g.trans f)))).af j I).cell (A.af o I) D T U (λq c=>⟨I,I,I,I,λh=>(by have:=m q (.inl h);omega),λh=>(by have:=m q (.inr (.inl h));omega),λh=>(by have:=m q (.inr (.inr h));omega)⟩) (λq c=>(by have:=m q c;exact⟨I,I⟩)) I I I ((ab.ext (av.trans (i.trans (g.trans f)))).af j I) rfl I I ((ac.ext (av.trans (i.trans (g.trans f)))).af j λq c e=>(by have:=Y q c;have:=P.size;omega)) Z (Ext.dj (P.trans (av.trans (i.trans (g.trans f)))) j λq c=>I) hs W sa sb bL bx
section
variable {α:Type}{c:α->O Y}{sz:Nat}
def b8(c:α->O Y)(l:O α):O Y:=(l.map c).flatten
theorem qt(l m:O α):b8 c (l++m)=b8 c l++b8 c m:=by simp[b8]
theorem qu(x:α)(l:O α):b8 c (x::l)=c x++b8 c l:=rfl
theorem hW:∀ (l:O α),(∀x∈l,(c x).length=sz)->(b8 c l).length=l.length*sz
 | [],_=>by simp[b8]
 |x::l,h=>by
  rw[qu,cM,h x (by simp),hW l λy a=>h y (by simp[a]),hJ,iK];omega
theorem D4{l:O α}{i:Nat}(h:i<l.length):l=l.take i++l[i]::l.drop (i+1):=by rw[←l_ h,gg]
theorem v_{l:O α}(hc:∀x∈l,(c x).length=sz){i:Nat}(h:i<l.length):(b8 c l).take (i*sz)=b8 c (l.take i)/\(b8 c l).drop (i*sz)=c l[i]++b8 c (l.drop (i+1)):=by
 have a:(b8 c (l.take i)).length=i*sz:=by
  rw[hW _ λx hx=>hc x (eQ hx),cK,jl I]
 have e:b8 c l=b8 c (l.take i)++(c l[i]++b8 c (l.drop (i+1))):=by
  conv=>lhs;rw[D4 h]
  rw[qt,qu]
 rw[e];exact⟨k0 a,drop_left' a⟩
theorem zr{l:O α}(hc:∀x∈l,(c x).length=sz){i:Nat}(h:i<l.length):((b8 c l).drop (i*sz)).take sz=c l[i]:=by
 rw[(v_ hc h).2];exact k0 (hc _ (cI h))
theorem wa{l:O α}(hc:∀x∈l,(c x).length=sz){i j:Nat}(h:i<l.length)(a:j<sz):(b8 c l)[i*sz+j]? =(c l[i])[j]? :=by
 rw[←zr hc h,List.getElem?_take_of_lt a,qN]
theorem zt{l:O α}(hc:∀x∈l,(c x).length=sz){i:Nat}(h:i<l.length)(x:α):(b8 c l).take (i*sz)++c x++(b8 c l).drop (i*sz+sz)=b8 c (l.set i x):=by
 have h1:=v_ hc h;have a:(b8 c l).drop (i*sz+sz)=b8 c (l.drop (i+1)):=by
  rw[←jM,h1.2];exact drop_left' (hc _ (cI h))
 rw[h1.1,a,List.set_eq_take_append_cons_drop,if_pos h,qt,qu,cY]
theorem D5{l:O α}(hc:∀x∈l,(c x).length=sz){i j:Nat}(h:i<l.length)(a:j<sz){x:α}{v:Y}(hx:c x=(c l[i]).set j v):(b8 c l).set (i*sz+j) v=b8 c (l.set i x):=by
 have b:(c l[i]).length=sz:=hc _ (cI h);have h1:=v_ hc h;have e:b8 c l=b8 c (l.take i)++(c l[i]++b8 c (l.drop (i+1))):=by
  conv=>lhs;rw[←gg (i*sz) (b8 c l),h1.1,h1.2]
 have d:(b8 c (l.take i)).length=i*sz:=by
  rw[hW _ λx hx=>hc x (eQ hx),cK,jl I]
 rw[e,List.set_append_right _ _ I,show i*sz+j-(b8 c (l.take i)).length=j from I,List.set_append_left _ _ I,←hx,List.set_eq_take_append_cons_drop,if_pos h,qt,qu]
end
section
variable {α:Type} [DecidableEq α] {P:Program}{w:J}{gF ki T:TypeId}{enc:α->Y}{r:Nat}{M:O (α×Y)}{k:α}{v:Y}
theorem D6(f:lB P gF enc)(j:P.underlying T=some (.map gF ki))(h:dZ w r enc M)(l:∀v,(k,v)∉M)(v:Y):
 ∃w1:J,(Instr.mapUpdate T (.map (some r)) (enc k) v).run P w=.ok () w1/\ae (λq=>q=r) w w1/\w1.heap.size=w.heap.size/\dZ w1 r enc ((k,v)::M):=by
 have aI:=h.lt;obtain⟨L,c,h,h1,m,n,g⟩:=h;have i:=ym h1 l;have hf:=f.find L k w;rw[u4 i]at hf;refine⟨g4 w r (.map ((L.map (dP enc)).toArray.push ⟨enc k,v,c⟩) (c+1)),?_,pP _ _ _,rD _ _ _,L++ [(k,v,c)],c+1,?_,?_,?_,?_,?_⟩
 .simp only[Instr.mapUpdate,Sem.run_bind,cV j,Result.andThen,kR h,Sem.run_pure,f.check,hf,u6 h]
 .rw[rE aI]
  simp[dP]
 .rw[fB]
  have:([(k,v,c)]:O (α×Y×Nat)).map kP=[(k,v)]:=rfl;rw[this];exact(pe).trans (List.Perm.cons _ h1)
 .rw[fB,List.nodup_append]
  refine⟨m,by simp,λa e b d=>?_⟩;obtain⟨x,hx,rfl⟩:=e6.1 e;simp only[g0,List.map_nil,fo]at d;subst d;exact i x hx
 .rw[fB,List.nodup_append]
  refine⟨n,by simp,λa e b d=>?_⟩;obtain⟨x,hx,rfl⟩:=e6.1 e;simp only[g0,List.map_nil,fo]at d;subst d;have:=g x hx;omega
 .intro x hx
  rcases cL.1 hx with hx|hx
  .have:=g x hx;omega
  .rw[fo.1 hx];show c<c+1;omega
theorem D7(c:lB P gF enc)(i:P.underlying T=some (.map gF ki))(h:dZ w r enc ((k,v)::M))(b:Y):
 ∃w1:J,(Instr.mapUpdate T (.map (some r)) (enc k) b).run P w=.ok () w1/\ae (λq=>q=r) w w1/\w1.heap.size=w.heap.size/\dZ w1 r enc ((k,b)::M):=by
 have aI:=h.lt;obtain⟨n,bm,bG,a,f,h,h1,g,j,d,_⟩:=h.split;have hf:=c.find (bm++(k,v,a)::bG) k w;rw[u5 (yl g),cU]at hf;have hg:((bm++(k,v,a)::bG).map (dP enc)).toArray[bm.length]? =some ⟨enc k,v,a⟩:=by simp[dP]
 have l:((bm++(k,v,a)::bG).map (dP enc)).toArray.modify bm.length (λe=>{e with key:=enc k,val:=b})=((bm++(k,b,a)::bG).map (dP enc)).toArray:=by
  apply Array.toList_inj.1;rw[Array.toList_modify,fB,g0];have:=yk (λe=>{e with key:=enc k,val:=b}) (dP enc (k,v,a)) (bG.map (dP enc)) (bm.map (dP enc));rw[dG]at this;rw[this];simp[dP]
 refine⟨g4 w r (.map ((bm++(k,b,a)::bG).map (dP enc)).toArray f),?_,pP _ _ _,rD _ _ _,bm++(k,b,a)::bG,f,rE aI _,?_,?_,?_,?_⟩
 .simp only[Instr.mapUpdate,Sem.run_bind,cV i,Result.andThen,kR h,Sem.run_pure,c.check,hf,hg,kC,Option.getD_some,Instr.keyThatStays,c.bits,if_true,u6 h,l]
 .rw[fB,g0]
  rw[fB]at h1;exact lf.trans (h1.cons _)
 .simpa using g
 .simpa using j
 .intro x hx
  rcases cL.1 hx with hx|hx
  .exact d x (by simp[hx])
  .rcases c7.1 hx with rfl|hx
   .exact d (k,v,a) (by simp)
   .exact d x (by simp[hx])
end
abbrev c2:=O UInt8
structure gN where
 i:Nat
 s:ad
 hA:O c2
structure a6 where
 d:Nat
 lb:Nat
 mr:Nat
 b5:O Int
 bw:O c2
 waits:O gN
 writes:Int
 aQ:Nat
 bB:Nat->al
 dU:Nat->O c2
 r1:al
def gN.e(x:gN):Int×Y:=((x.i:Int),x.s)
def a6.c(D:a6):O Y:=D.b5.map (.int .i64)++ [.slice (some ⟨D.lb,0,none⟩) D.bw.length D.bw.length,.map (some D.mr),.int .i64 D.writes]
def a6.n(D:a6):Nat:=D.bw.length
abbrev encZ:Int->Y:=λn=>n
theorem oO:lB aj 3 encZ:=lB.int (by kernel_rfl)
theorem lW:Tryz.prog.underlying 137=some (.map 3 136):=by kernel_rfl
theorem zu:(Tryz.prog.info? 136).bind (·.zero)=some (.slice none 0 0):=by kernel_rfl
theorem tI{P:Program}{T:TypeId}{z:Y}(h:(P.info? T).bind (·.zero)=some z):∃i,P.info? T=some i/\i.zero=some z:=by
 cases hi:P.info? T with
 |none=>rw[hi]at h;cases h
 |some i=>rw[hi]at h;exact⟨i,rfl,h⟩
def b9(D:a6)(q:Nat):Prop:=q=D.d\/q=D.lb\/q=D.mr\/∃x∈D.waits,aC x.s q
structure c3(w:J)(D:a6):Prop where
 v:Var w D.d D.c 141
 l:bg w D.lb (b8 aA D.bw).toArray 182
 m:dZ w D.mr encZ (D.waits.map gN.e)
 ws:∀x∈D.waits,aZ 256 182 w x.s (b8 aA x.hA)
 wn:∀x∈D.waits,x.hA≠ []/\x.i<D.n/\x.hA.length<=D.aQ
 sl:∀s∈D.bw,s.length=256
 lX:∀x∈D.waits,∀s∈x.hA,s.length=256
 bL:16<=D.n
 bx:D.n<=1600
 f4:D.b5.length=4
 fr:∀x∈D.b5, -1<=x/\x<=9223372036854775807
 a1:D.d≠D.lb/\D.d≠D.mr/\D.lb≠D.mr
 a2:∀x∈D.waits,¬aC x.s D.d/\¬aC x.s D.lb/\¬aC x.s D.mr
 a3:∀x∈D.waits,∀y∈D.waits,x.i≠y.i->∀q,aC x.s q->¬aC y.s q
 r:D.r1=true->D.b5.getD 1 0= -1
theorem D8{b5:O Int}{k:Nat}{x:Int}(a:b5.length=4)(h:b5.getD 1 0= -1)(hx:k=1->x= -1):(b5.set k x).getD 1 0= -1:=by
 rw[fI]at h⊢;by_cases e:k=1
 .subst e
  rw[List.getElem?_set_self I,hx rfl];rfl
 .rw[List.getElem?_set_ne e];exact h
section
variable {w w':J}{D:a6}
theorem c3.af{W:Nat->Prop}(h:c3 w D)(hc:ae W w w')(a:∀q,b9 D q->¬W q):c3 w' D:=
 ⟨h.v.af hc (a _ (.inl rfl)),bg.af h.l hc (a _ (.inr (.inl rfl))),h.m.af hc (a _ (.inr (.inr (.inl rfl)))),λx hx=>(h.ws x hx).af hc λq b=>a q (.inr (.inr (.inr ⟨x,hx,b⟩))),h.wn,h.sl,h.lX,h.bL,h.bx,h.f4,h.fr,h.a1,h.a2,h.a3,h.r⟩
theorem c3.ext(h:c3 w D)(hc:Ext w w'):c3 w' D:=h.af hc λ_ _ h=>h
theorem c3.lt(h:c3 w D){q:Nat}(a:b9 D q):q<w.heap.size:=by
 rcases a with rfl|rfl|rfl|⟨x,hx,a⟩
 .exact h.v.lt
 .exact bg.lt h.l
 .exact h.m.lt
 .exact(h.ws x hx).lt q a
theorem c3.D9(h:c3 w D){k:Nat}(a:k<4):w.cell? ⟨D.d,k,none⟩=some (.int .i64 (D.b5.getD k 0)):=by
 rw[h.v.cell];unfold a6.c;have:=h.f4;rw[List.getElem?_append_left (by rw[dG];omega),lj,dI I,eV I];rfl
theorem c3.eZ(h:c3 w D):w.cell? (Addr.add ⟨D.d,0,none⟩ 4)=some (.slice (some ⟨D.lb,0,none⟩) D.bw.length D.bw.length):=by
 rw[ay,h.v.cell];unfold a6.c;have:=h.f4;rw[iO (by rw[dG];omega),dG,this];rfl
theorem c3.cF(h:c3 w D):w.cell? (Addr.add ⟨D.d,0,none⟩ 5)=some (.map (some D.mr)):=by
 rw[ay,h.v.cell];unfold a6.c;have:=h.f4;rw[iO (by rw[dG];omega),dG,this];rfl
theorem c3.wb(h:c3 w D):D.c.length=7:=by
 unfold a6.c;have:=h.f4;simp;omega
def a6.now(D:a6)(i:Nat):c2:=match D.waits.find? λx=>x.i==i with
 |some x=>x.hA.getLastD []
 |none=>D.bw.getD i []
theorem D_{α:Type}{l:O α}{d:α}(h:l≠ []):l.getLastD d∈l:=by
 cases l with
 |nil=>exact absurd rfl h
 |cons a l=>
  rw[List.getLastD_cons];rw[←List.getLast_eq_getLastD];exact List.getLast_mem h
theorem c3.qv(h:c3 w D){i:Nat}(hi:i<D.n):(D.now i).length=256:=by
 unfold a6.now
 cases hf:D.waits.find? λx=>x.i==i with
 |some x=>
  have hx:=h7 hf;exact h.lX x hx _ (D_ (h.wn x hx).1)
 |none=>
  have a:i<D.bw.length:=hi;rw[show(match (none:ar gN) with|some x=>x.hA.getLastD []|none=>D.bw.getD i [])=D.bw.getD i [] from rfl,eV a];exact h.sl _ (cI _)
theorem tJ(h:c3 w D):aL aj 72 #[.pointer (some D.d)] w (λv w'=>v=D.n/\w=w'):=by
 refine okF (ah.sh (some D.d)) az.sh func72 ?_;(delta ah.sh ao r1;dsimp only);exact⟨λh=>(by cases h),λ_=>⟨_,rfl,⟨some D.lb,D.bw.length,D.bw.length⟩,h.eZ,rfl,rfl⟩⟩
theorem zv(h:c3 w D)(i:Int):aL aj 108 #[.pointer (some D.d),i] w (λv w'=>v=.bool (decide (0<=i/\i<D.n))/\w=w'):=by
 refine okF (ah.su (some D.d) i) az.su func108 ?_;(delta ah.su ao r1;dsimp only);refine cH (λb w'=>b=decide (0<=i/\i<D.n)/\w=w') (λq c=>⟨λa=>⟨_,rfl,⟨some D.lb,D.bw.length,D.bw.length⟩,h.eZ,c _ _ ⟨?_,rfl⟩⟩,λa=>c _ _ ⟨?_,rfl⟩⟩) ?_
 .have a:0<=i:=by simpa using a
  rw[fA,cA,cA];exact⟨λh=>⟨a,h⟩,λh=>h.2⟩
 .have a:¬0<=i:=by simpa using a
  rw[iw (λh=>a h.1)]
 .rintro _ _ ⟨rfl,rfl⟩
  exact⟨rfl,rfl⟩
end
def fV(f:Int):al×Int:=if f= -1 then (false, -1) else if f=0 then (true, -1) else (false,f-1)
theorem Ea{f:Int}(h: -1<=f/\f<=9223372036854775807): -1<=(fV f).2/\(fV f).2<=9223372036854775807:=by
 unfold fV;split
 .exact⟨by decide,by decide⟩
 .split
  .exact⟨by decide,by decide⟩
  .show -1<=f-1/\f-1<=_;omega
def a6.cm(D:a6)(k:Nat):a6:={D with b5:=D.b5.set k (fV (D.b5.getD k 0)).2}
def a6.fy(D:a6)(k:Nat):al:=(fV (D.b5.getD k 0)).1
theorem wc{w:J}{D:a6}(h:c3 w D){k:Nat}(s:k<4):
 aL aj 136 #[.pointer (some ⟨D.d,0,none⟩),.int .i64 ((k:Nat):Int)] w (λv w'=>v=.bool (D.fy k)/\c3 w' (D.cm k)/\ae (λq=>q=D.d) w w'/\w'.heap.size=w.heap.size):=by
 have hf:=h.D9 s;have j:=h.f4;have t: -1<=D.b5.getD k 0/\D.b5.getD k 0<=9223372036854775807:=by rw[eV I];exact h.fr _ (cI _)
 have n:∀ (w1:J),c3 w1 D->c3 (w1.setCell ⟨D.d,k,none⟩ (.int .i64 (fV (D.b5.getD k 0)).2)) (D.cm k):=by
  intro w1 h1;have hc:=dL w1 D.d k (.int .i64 (fV (D.b5.getD k 0)).2);have o:=ep h1.v (i:=k) (.int .i64 (fV (D.b5.getD k 0)).2);have e:D.c.set k (.int .i64 (fV (D.b5.getD k 0)).2)=(D.cm k).c:=by
   unfold a6.c a6.cm;rw[List.set_append_left _ _ (by rw[dG];omega),←List.map_set]
  rw[e]at o;refine⟨o,bg.af h1.l hc (λe=>h.a1.1 e.symm),h1.m.af hc (λe=>h.a1.2.1 e.symm),λx hx=>(h1.ws x hx).af hc λq u e=>(h.a2 x hx).1 (by subst e;exact u),h.wn,h.sl,h.lX,h.bL,h.bx,by show(D.b5.set k _).length=4;rw[dd];exact j,λx hx=>?_,h.a1,h.a2,h.a3,λp=>D8 j (h.r p) λe=>by subst e;rw[h.r p];rfl⟩;rcases lk hx with hx|rfl
  .exact h.fr x hx
  .exact Ea t
 have g:Addr.add ⟨D.d,0,none⟩ (Int.toNat ((k:Nat):Int)*1)=⟨D.d,k,none⟩:=by rw[dO,fH,ay,cU]
 refine okF (ah.sD (some ⟨D.d,0,none⟩) ((k:Nat):Int)) az.sD func136 ?_;(delta ah.sD aF ao st au;dsimp only);refine⟨_,rfl,⟨I,by show(k:Int)<4;omega⟩,D.b5.getD k 0,by rw[g];exact hf,λh1=>?_,λh1=>⟨λa=>⟨_,rfl,⟨I,by show(k:Int)<4;omega⟩,?_⟩,λa=>aX ⟨_,rfl,⟨I,by show(k:Int)<4;omega⟩,id,_,by rw[g];exact hf,_,rfl,⟨I,by show(k:Int)<4;omega⟩,?_⟩⟩⟩
 .have h1:D.b5.getD k 0= -1:=by simpa using h1
  have b:D.fy k=false:=by unfold a6.fy fV;rw[if_pos h1]
  have f:D.cm k=D:=by
   unfold a6.cm fV;rw[if_pos h1];have:D.b5.set k (-1)=D.b5:=by
    rw[←h1,eV I];exact List.set_getElem_self _
   rw[this]
  rw[b,f];exact⟨rfl,h,.refl _ _,rfl⟩
 .have h1:D.b5.getD k 0≠ -1:=by simpa using h1
  have a:D.b5.getD k 0=0:=by simpa using a
  have hs:=er h.v (i:=k) (by rw[h.wb];omega);have b:D.fy k=true:=by unfold a6.fy fV;rw[if_neg h1,if_pos a]
  have f:(fV (D.b5.getD k 0)).2= -1:=by unfold fV;rw[if_neg h1,if_pos a]
  have:=n w h;rw[f]at this;rw[g,b];exact⟨hs.1,hs.2,aX ⟨rfl,this,dL _ _ _ _,by simp[World.setCell]⟩⟩
 .have h1:D.b5.getD k 0≠ -1:=by simpa using h1
  have a:D.b5.getD k 0≠0:=by simpa using a
  have hd:=h.ext (cJ w);have hs:=er hd.v (i:=k) (by rw[h.wb];omega);have b:D.fy k=false:=by unfold a6.fy fV;rw[if_neg h1,if_neg a]
  have f:(fV (D.b5.getD k 0)).2=D.b5.getD k 0-1:=by unfold fV;rw[if_neg h1,if_neg a]
  have:=n w.drew hd;rw[f]at this;rw[g,b,bz I I];exact⟨hs.1,hs.2,aX ⟨rfl,this,(ae.cN (cJ w)).trans (dL _ _ _ _),by simp[World.setCell]⟩⟩
def a6.dE(D:a6)(i:Nat):O c2:=match D.waits.find? λx=>x.i==i with
 |some x=>x.hA
 |none=> []
theorem we(D:a6)(h:∀x∈D.waits,x.hA≠ [])(i:Nat):D.now i=if D.dE i=[] then D.bw.getD i [] else (D.dE i).getLastD []:=by
 unfold a6.now a6.dE
 cases hf:D.waits.find? λx=>x.i==i with
 |some x=>
  have hx:=h7 hf;simp only;rw[if_neg (h x hx)]
 |none=>simp
def a6.calm(D:a6)(k:Nat):Prop:=(D.b5.getD 1 0= -1\/(k:Int)<=D.b5.getD 1 0)/\(D.b5.getD 2 0= -1\/(k:Int)<=D.b5.getD 2 0)
def a6.jb(D:a6):Int->Prop:=λn=>(∀j,D.bB j=true)->D.writes=n
def a6.ro(D:a6):Prop:=∀i,D.bB i=true
def a6.key(D:a6):(O c2×(Nat->al)×(Nat->O c2)×(Int->Prop)×al)×Int:=((D.bw,D.bB,D.dU,D.jb,D.r1),D.b5.getD 3 0)
theorem cS{W V:Nat->Prop}{w w' c:J}(h1:ae W w w')(a:ae V w' c)(h:∀q,q<w.heap.size->V q->W q):ae W w c:=
 ⟨a.os.trans h1.os,a.tape.trans h1.tape,a.output.trans h1.output,ei h1.size a.size,λk b cD=>(a.block k (fm b h1.size) λd=>cD (h k b d)).trans (h1.block k b cD)⟩
theorem gp{D:a6}{k l:Nat}(h:D.calm k)(a:l<=k):D.calm l:=⟨h.1.imp id λh=>I,h.2.imp id λh=>I⟩
theorem iE{D:a6}{k m:Nat}(d:k=1\/k=2)(g:D.b5.length=4)(h:D.calm (m+1)):(D.cm k).calm m/\D.fy k=false:=by
 obtain⟨h1,a⟩:=h;have e:1<D.b5.length:=by omega
 have f:2<D.b5.length:=by omega
 rcases d with rfl|rfl
 .have b:(D.cm 1).b5.getD 1 0=(fV (D.b5.getD 1 0)).2:=by
   show(D.b5.set 1 _).getD 1 0=_;rw[eV (by rw[dd];omega),g1]
  have c:(D.cm 1).b5.getD 2 0=D.b5.getD 2 0:=by
   show(D.b5.set 1 _).getD 2 0=_;rw[eV (by rw[dd];omega),eX I,eV f]
  unfold a6.calm a6.fy;rw[b,c];unfold fV;rcases h1 with h1|h1
  .rw[if_pos h1]
   exact⟨⟨.inl rfl,a.imp id λh=>I⟩,rfl⟩
  .rw[if_neg I,if_neg I]
   exact⟨⟨.inr (by show(m:Int)<=_-1;omega),a.imp id λh=>I⟩,rfl⟩
 .have b:(D.cm 2).b5.getD 2 0=(fV (D.b5.getD 2 0)).2:=by
   show(D.b5.set 2 _).getD 2 0=_;rw[eV (by rw[dd];omega),g1]
  have c:(D.cm 2).b5.getD 1 0=D.b5.getD 1 0:=by
   show(D.b5.set 2 _).getD 1 0=_;rw[eV (by rw[dd];omega),eX I,eV e]
  unfold a6.calm a6.fy;rw[b,c];unfold fV;rcases a with a|a
  .rw[if_pos a]
   exact⟨⟨h1.imp id λh=>I,.inl rfl⟩,rfl⟩
  .rw[if_neg I,if_neg I]
   exact⟨⟨h1.imp id λh=>I,.inr (by show(m:Int)<=_-1;omega)⟩,rfl⟩
theorem oP(D:a6){k:Nat}(a:k=1\/k=2):(D.cm k).key=D.key:=by
 unfold a6.key a6.cm;rcases a with rfl|rfl<;>simp[fI]<;>rfl
theorem zw{sz:Nat}{w:J}{s:ad}{α:Type}{c:α->O Y}{l:O α}(h:Src sz w s (b8 c l))(hc:∀x∈l,(c x).length=sz)(e:0<sz){i:Nat}(hi:i<l.length):
 s.len=l.length/\∃A,s.a=some A/\bE w (A.add (i*sz)) 0 sz=some (c l[i]):=by
 have b:s.len=l.length:=by
  have:=h.len;rw[hW l hc]at this;exact(Nat.eq_of_mul_eq_mul_right e this).symm
 refine⟨b,?_⟩
 cases d:s.a with
 |none=>
  have:=congrArg List.length (h.nil d);rw[hW l hc,ll]at this;have:l.length*sz≠0:=Nat.mul_ne_zero I I;omega
 |some A=>
  refine⟨A,rfl,?_⟩;have f:i*sz+sz<=s.len*sz:=by
   rw[b,←Nat.succ_mul];exact nv _ hi
  rw[B7 (h.rd A d) f,zr hc hi]
def oQ:O Y:=aA (List.replicate 256 0)
def wg(D:a6)(i:Nat)(w:J)(v:Y)(w':J):Prop:=v=.agg (aA (D.now i)).toArray/\Ext w w'
theorem zx{w:J}{D:a6}(h:c3 w D){i:Nat}(hi:i<D.n)(R:D.aQ<=1000000000):
 aL aj 137 #[.pointer (some D.d),i] w (wg D i w):=by
 have S:=h.bx;have f:=h.qv hi;refine okF (ah.sE (some D.d) (i:Int)) az.sE func137 ?_;(delta ah.sE rP ao au vg aa r1 rN;dsimp only);refine bd (vs:=oQ) (by kernel_rfl) λw1 g u _=>?_;have hd:=h.ext u;refine⟨_,rfl,some D.mr,hd.cF,?_⟩;have y:oQ.length=256:=by rw[oQ,dg,ln]
 have fin:∀ (K:O Y->J->Prop),(∀a,Ext w a->K (aA (D.now i)) a)->bh w1 w.heap.size (Array.toList (aA (D.now i)).toArray)/\Array.size (aA (D.now i)).toArray=256/\an (setCells w1 w.heap.size 0 (Array.toList (aA (D.now i)).toArray)) λa=>∃b:O Y,bE a w.heap.size 0 256=some b/\K b a:=by
  intro K E;refine⟨g.bU (by rw[pj,dg,f,y]) (by rw[pj];exact jW _),by simp[dg,f],cl g (us:=aA (D.now i)) (by rw[dg,f,y]) rfl λa F G _=>⟨_,F.rd (by rw[dg,f]),E a (Ext.cC u G (bl _))⟩⟩
 cases hf:D.waits.find? λx=>x.i==i with
 |some x=>
  have hx:=h7 hf;have H:x.i=i:=by
   have:=iN hf;exact eq_of_beq this
  have j:=hd.m.yn oO lW (k:=(i:Int)) (v:=x.s) (e6.2 ⟨x,hx,by unfold gN.e;rw[H]⟩) false;have L:=(h.wn x hx).1;have hlen:0<x.hA.length:=List.length_pos_iff.2 L;have T:=(h.wn x hx).2.2;obtain⟨z,A,aq,p⟩:=zw (hd.ws x hx).src (λs hs=>by rw[dg];exact h.lX x hx s hs) (by decide) (i:=x.hA.length-1) I;have q:D.now i=x.hA[x.hA.length-1]'I:=by
   unfold a6.now;rw[hf];show x.hA.getLastD []=_;rw[List.getLastD_eq_getLast?,List.getLast?_eq_getElem?,dI I];rfl
  refine⟨x.s,w1,j,λ_=>⟨A,aq,?_⟩,λr=>?_⟩
  .rw[z,bz (n:=(x.hA.length:Int)-1) I I]
   have M:Int.toNat ((x.hA.length:Int)-1)=x.hA.length-1:=by omega
   rw[M];refine⟨⟨I,I⟩,_,p,?_⟩;rw[←q];exact fin (λb a=>wg D i w (.agg b.toArray) a) λa t=>⟨rfl,t⟩
  .have:=cQ r
   omega
 |none=>
  obtain⟨U,h1,N⟩:=tI zu;have j:=hd.m.yo oO lW (k:=(i:Int)) h1 N (λv g=>by
   obtain⟨x,hx,he⟩:=e6.1 g;have P:=iM.1 hf x hx;unfold gN.e at he;simp only[Prod.mk.injEq]at he;apply P;have:x.i=i:=by omega
   rw[this];simp) false
  have B:i<D.bw.length:=hi;have q:D.now i=D.bw[i]:=by
   unfold a6.now;rw[hf];exact eV B
  have Q:Src 256 w1 ⟨some D.lb,D.bw.length,D.bw.length⟩ (b8 aA D.bw):=by
   have C:=hW (c:=aA) (sz:=256) D.bw λs hs=>by rw[dg];exact h.sl s hs
   have:=bg.rG (sz:=256) (o:=0) (n:=D.bw.length) (cap:=D.bw.length) hd.l (by simp[C]);rw[jk,pj,dJ (by rw[C];exact bl _)]at this;exact this
  obtain⟨z,A,aq,p⟩:=zw Q (λs hs=>by rw[dg];exact h.sl s hs) (by decide) B;refine⟨⟨none,0,0⟩,w1,j,λr=>by simp at r,λ_=>⟨_,rfl,_,hd.eZ,A,aq,⟨I,by show(i:Int)<(D.bw.length:Int);omega⟩,_,p,?_⟩⟩;rw[←q];exact fin (λb a=>wg D i w (.agg b.toArray) a) λa t=>⟨rfl,t⟩
def Eb(D:a6)(i:Nat)(w:J)(v:Y)(w':J):Prop:=
 c3 w' (D.cm 1)/\ae (λq=>q=D.d) w w'/\
  ((D.fy 1=true/\v=.tuple #[(),(3:Int)])\/
   (D.fy 1=false/\∃s:ad,v=.tuple #[s,(0:Int)]/\bn (λq=>w.heap.size<=q) w' s (D.now i)))
theorem Ec{w:J}{D:a6}(h:c3 w D){i:Nat}(hi:i<D.n)(x:D.aQ<=1000000000):
 aL aj 114 #[.pointer (some D.d),i] w (Eb D i w):=by
 refine okF (ah.sw (some D.d) (i:Int)) az.sw func114 ?_;delta ah.sw cc ao jU rP aa;refine(zv h _).use ?_;rintro _ _ ⟨rfl,rfl⟩;refine⟨_,rfl,λa=>?_,λ_=>⟨_,rfl,(wc h (k:=1) (by decide)).use ?_⟩⟩
 .have a:¬(0<=(i:Int)/\(i:Int)<D.n):=by simpa using a
  omega
 rintro _ ai ⟨rfl,b,j,z⟩;refine⟨_,rfl,λa=>⟨b,j,.inl ⟨a,rfl⟩⟩,λa=>(zx b (i:=i) hi x).use ?_⟩;rintro _ m ⟨rfl,g⟩;have f:=h.qv hi;refine⟨_,rfl,bd (vs:=oQ) (by kernel_rfl) λB p r C=>⟨p.bU (by rw[pj,dg];show(D.now i).length=_;rw[f,oQ,dg,ln]) (by rw[pj];exact jW _),by rw[qZ,dg];exact f,cl p (us:=aA (D.now i)) (by rw[dg,f,oQ,dg,ln]) rfl λE s t F=>?_⟩⟩;have G:=g.size;have aI:D.d<ai.heap.size:=b.v.lt;refine⟨(b.ext (g.trans r)).af t (λq u e=>by have:=b.lt u;omega),cS (j.trans (ae.cN (g.trans r))) t λq u e=>I,.inr ⟨a,⟨some m.heap.size,256,256⟩,rfl,?_,bl _,λk y=>?_⟩⟩
 .have:=s.te (o:=0) (n:=256) (c:=256) (l:=D.now i) (by rw[dg,f];decide) (by rw[jk,dJ (by rw[dg,f];decide)])
  exact this
 .obtain⟨A,aq,rfl⟩:=y
  cases aq;have:=s.lt;exact⟨by show w.heap.size<=m.heap.size;omega,this⟩
theorem zy:∀ (l:O Y) (k:Nat) (a:Array Y),(l.zipIdx k).foldl (λcs (p:Y×Nat)=>cs.setIfInBounds p.2 p.1) a=fR a k l
 | [],_,_=>rfl
 |v::l,k,a=>by
  rw[List.zipIdx_cons,List.foldl_cons]
  exact zy l (k+1) (a.setIfInBounds k v)
theorem zz{P:Program}{T e:TypeId}{d:TypeDesc}{i:TypeInfo}{z:Y}{sz:Nat}{cs:Array Y}(w:J)(h1:P.underlying T=some (.slice e))(f:P.underlying e=some d)(g:P.cellsOf e=sz)(hi:P.info? e=some i)(h:i.zero=some z)(a:cs.size=sz)(q:sz≠0)(r:sz<=16777216):
 Sem.run P (Instr.buildSlice T 1 #[(0,.agg cs)]) w=.ok (.slice (some w.heap.size) 1 1) (w.alloc (.cells cs e)):=by
 have b:=gE (P:=P) (w:=w) f;rw[g]at b;have k:Instr.fill (λi=>some (i*sz,sz)) ((Array.range (1*sz)).map λx=>z.cells[x%z.cells.size]!) [(0,.agg cs)]=some cs:=by
  have hc:(Value.agg cs).cells=cs:=rfl;rw[Instr.fill];simp only[hc];rw[if_neg (by simp[a]),Instr.fill];rw[←Array.foldl_toList,Array.toList_zipIdx];have e:(λ(cs:Array Y) (x:Y×Nat)=>match x with|(c,j)=>cs.setIfInBounds (0*sz+j) c)=λcs (p:Y×Nat)=>cs.setIfInBounds p.2 p.1:=by
   funext cs x;obtain⟨c,j⟩:=x;simp
  rw[e,zy]
  congr 1
  apply Array.toList_inj.1;rw[lC _ _ _ (by simp[a])];simp[a]
 have l:=mi (w:=w) hi;have m:¬(1*sz>2^24):=by
  have:(2:Nat)^24=16777216:=rfl;omega
 have n:¬(1*sz=0):=by omega
 have o:Instr.fill (λi=>some (i*sz,sz)) ((Array.range (1*sz)).map λx=>z.cells[x%z.cells.size]!) (#[(0,Value.agg cs)]:Array (Nat×Y)).toList=some cs:=k;simp only[Instr.buildSlice,Sem.run_bind,cV h1,b,Result.andThen,m,n,if_false,zeroValue,l,h,Sem.run_pure,o];simp[newRow,newObj,Sem.run]
theorem zA(w:J)(l:c2)(a:l.length=256):
 Sem.run aj (Instr.buildSlice 136 1 #[(0,.agg (aA l).toArray)]) w=.ok (.slice (some w.heap.size) 1 1) (w.alloc (.cells (aA l).toArray 182)):=by
 have h:((Tryz.prog.info? 182).bind (·.zero)).isSome=true:=by kernel_rfl
 obtain⟨z,b⟩:=nq.1 h;obtain⟨i,hi,c⟩:=tI b;exact zz (d:=.array 256 5) (sz:=256) w (by kernel_rfl) (by kernel_rfl) (by kernel_rfl) hi c (by rw[qZ,dg,a]) (by decide) (by decide)
theorem Ed:ia aj 136 182 256 256:=⟨by kernel_rfl⟩
def a6.put(D:a6)(i:Nat)(s:ad)(l:c2):a6:=
 {D.cm 2 with waits:=⟨i,s,D.dE i++ [l]⟩::D.waits.filter (λx=>x.i !=i),writes:=IntKind.wrap .i64 (D.writes+1),aQ:=D.aQ+1}
theorem zB{D:a6}{i j:Nat}(h:j≠i):(D.waits.filter λx=>x.i !=i).find? (λx=>x.i==j)=D.waits.find? λx=>x.i==j:=by
 rw[List.find?_filter]
 congr 1
 funext x;by_cases e:x.i=j
 .rw[e];simp[h]
 .simp[e]
theorem zC(D:a6)(i:Nat)(s:ad)(l:c2)(j:Nat):(D.put i s l).dE j=if j=i then D.dE i++ [l] else D.dE j:=by
 unfold a6.dE a6.put;by_cases h:j=i
 .subst h
  simp[a6.dE]
 .rw[if_neg h]
  simp only;rw[List.find?_cons_of_neg (by simp;omega),zB h]
theorem nc(D:a6)(i:Nat)(s:ad)(l:c2)(j:Nat):(D.put i s l).now j=if j=i then l else D.now j:=by
 unfold a6.now a6.put;by_cases h:j=i
 .subst h
  simp
 .rw[if_neg h]
  simp only;rw[List.find?_cons_of_neg (by simp;omega),zB h];rfl
def zD(D:a6)(i:Nat)(l:c2)(w:J)(v:Y)(w':J):Prop:=
 (D.fy 2=true/\v=.int .i64 3/\c3 w' (D.cm 2)/\ae (λq=>q=D.d) w w')\/
 (D.fy 2=false/\v=.int .i64 0/\∃s:ad,c3 w' (D.put i s l)/\ae (b9 D) w w'/\∀q,aC s q->b9 D q\/w.heap.size<=q)
theorem tK{w:J}{D:a6}{b:ad}{l:c2}(h:c3 w D){i:Nat}(hi:i<D.n)(bh:D.aQ<=1000000000)(aa:Src 1 w b (aA l))(L:l.length=256)(hd:∀q,aC b q->¬b9 D q):
 aL aj 75 #[.pointer (some ⟨D.d,0,none⟩),.int .i64 ((i:Nat):Int),.slice b.a b.len b.cap] w (zD D i l w):=by
 have aE:=len8 aa;have bi:=h.bx;refine okF (ah.sj (some ⟨D.d,0,none⟩) ((i:Nat):Int) b) az.sj func75 ?_;(delta ah.sj cc ao vc aF st au;dsimp only);refine(zv h _).use ?_;rintro _ _ ⟨rfl,rfl⟩;have aV:decide (0<=(i:Int)/\(i:Int)<D.n)=true:=dw ⟨I,I⟩;refine⟨_,rfl,λh1=>?_,λ_=>⟨_,rfl,(wc h (k:=2) (by decide)).use ?_⟩⟩
 .rw[aV,aE,L]at h1
  simp at h1
 rintro _ ai ⟨rfl,H,ab,bj⟩;refine⟨_,rfl,λac=>.inl ⟨ac,rfl,H,ab⟩,λac=>aX ?_⟩;obtain⟨p,hold⟩:∃p:ad,(match D.waits.find? λx=>x.i==i with|some x=>x.s|none=>⟨none,0,0⟩)=p:=⟨_,rfl⟩;have z:=H.ext (cJ ai);have aW:Src 1 ai.drew b (aA l):=(aa.af ab λq f e=>hd q f (.inl e)).ext (cJ ai)
 have aY:aZ 256 182 ai.drew p (b8 aA (D.dE i))/\(∀q,aC p q->b9 D q/\q≠D.d/\q≠D.lb/\q≠D.mr)/\(∀x∈D.waits,x.i≠i->∀q,aC x.s q->¬aC p q)/\(D.dE i).length<=D.aQ/\(∀s∈D.dE i,s.length=256)/\
  ∀w':J,dZ w' D.mr encZ (D.waits.map gN.e)->Sem.run aj (Instr.lookup 137 (.map (some D.mr)) (.int .i64 ((i:Nat):Int)) false) w'=.ok (.slice p.a p.len p.cap) w':=by
  cases hf:D.waits.find? λx=>x.i==i with
  |some x=>
   rw[hf]at hold;have hold:x.s=p:=hold;subst hold;have hx:=h7 hf;have V:x.i=i:=by
    have:=iN hf;exact eq_of_beq this
   have e:D.dE i=x.hA:=by unfold a6.dE;rw[hf]
   rw[e];refine⟨z.ws x hx,λq f=>⟨.inr (.inr (.inr ⟨x,hx,f⟩)),λe=>(h.a2 x hx).1 (e▸f),λe=>(h.a2 x hx).2.1 (e▸f),λe=>(h.a2 x hx).2.2 (e▸f)⟩,λy t B=>h.a3 y t x hx I,(h.wn x hx).2.2,h.lX x hx,λw' M=>M.yn oO lW (k:=(i:Int)) (v:=.slice x.s.a x.s.len x.s.cap) (e6.2 ⟨x,hx,by unfold gN.e;rw[V]⟩) false⟩
  |none=>
   rw[hf]at hold;have hold:(⟨none,0,0⟩:ad)=p:=hold;subst hold;have e:D.dE i=[]:=by unfold a6.dE;rw[hf]
   rw[e];obtain⟨bk,h1,N⟩:=tI zu;refine⟨aZ.none _ _ _,λq f=>(hN q f).elim,λx _ _ q _ f=>(hN q f).elim,cX _,λs hs=>(by cases hs),λw' M=>M.yo oO lW (k:=(i:Int)) h1 N (λv ak=>?_) false⟩;obtain⟨x,hx,he⟩:=e6.1 ak;have a0:=iM.1 hf x hx;unfold gN.e at he;simp only[Prod.mk.injEq]at he;apply a0;have:x.i=i:=by omega
   rw[this];simp
 obtain⟨aG,C,aH,bl,aI,aJ⟩:=aY;obtain⟨A,aq,a4⟩:∃A,b.a=some A/\bE ai.drew A 0 256=some (aA l):=by
  cases aK:b.a with
  |none=>
   have:=congrArg List.length (aa.nil aK);rw[dg,L]at this
   cases this
  |some A=>
   refine⟨A,rfl,?_⟩;have:=aW.rd A aK;rwa[aE,L]at this
 have a5:¬aC p A.block:=λf=>hd _ ⟨A,aq,rfl⟩ (C _ f).1
 have aM:∀E:J,Ext ai.drew E->∃ (g:ad) (j:J),Sem.run aj (Builtin.append_ #[136,136] 136 #[.slice p.a p.len p.cap,.slice (some ⟨E.heap.size,0,none⟩) 1 1]) (E.alloc (.cells (aA l).toArray 182))=.ok (.slice g.a g.len g.cap) j/\
  aZ 256 182 j g (b8 aA (D.dE i++ [l]))/\ae (aC p) E j/\(∀k,aC g k->aC p k\/E.heap.size<=k)/\ae (aC p) (E.alloc (.cells (aA l).toArray 182)) j:=by
  intro E a7;have hlen:p.len=(D.dE i).length:=by
   have:=aG.1;rw[hW (c:=aA) (sz:=256) _ λs hs=>by rw[dg];exact aI s hs]at this;omega
  have al:=dD E (.cells (aA l).toArray 182);obtain⟨g,j,av,G,F,O,P⟩:=Ed.append (dK:=136) (x:=⟨some ⟨E.heap.size,0,none⟩,1,1⟩) (Src.new (T:=182) E (aA l) 1 (by rw[dg,L])) (aG.ext (a7.trans al)) (jW l) (by rw[hlen];show(2*(_+1)+1000)*256<=_;omega);refine⟨g,j,av,?_,(ae.cN al).trans O,λk a8=>(P k a8).imp id λh=>?_,O⟩
  .rw[qt]
   have:b8 aA [l]=aA l:=by simp[b8]
   rw[this];exact G
  .have:=al.size;omega
 have aN:∀ (j:J) (g:ad),dZ j D.mr encZ (D.waits.map gN.e)->∃o:J,Sem.run aj (Instr.mapUpdate 137 (.map (some D.mr)) (.int .i64 ((i:Nat):Int)) (.slice g.a g.len g.cap)) j=.ok () o/\ae (λq=>q=D.mr) j o/\
  dZ o D.mr encZ ((gN.mk i g (D.dE i++ [l])::D.waits.filter λx=>x.i !=i).map gN.e):=by
  intro j g M;have am:=M.keys;rw[nw]at am
  cases hf:D.waits.find? λx=>x.i==i with
  |some x=>
   have hx:=h7 hf;have V:x.i=i:=by
    have:=iN hf;exact eq_of_beq this
   obtain⟨bm,bG,he⟩:=List.append_of_mem hx;have B:∀y∈bm++bG,y.i≠i:=by
    intro y t e;rw[he,fB,g0]at am;have h1:=(lf.nodup_iff).1 am;rw[List.nodup_cons]at h1;apply h1.1;rw[←fB];refine e6.2 ⟨y,t,?_⟩;show((y.i:Nat):Int)=((x.i:Nat):Int);omega
   have ap:D.waits.filter (λx=>x.i !=i)=bm++bG:=by
    rw[he,kE,List.filter_cons_of_neg (by simp[V])];rw[kD.2 λy t=>by have:=B y (iv _ t);simpa using this,kD.2 λy t=>by have:=B y (gD _ t);simpa using this]
   have a9:(D.waits.map gN.e).Perm (((i:Int),.slice x.s.a x.s.len x.s.cap)::(bm++bG).map gN.e):=by
    rw[he,fB,g0,fB];have:x.e=((i:Int),.slice x.s.a x.s.len x.s.cap):=by unfold gN.e;rw[V]
    rw[this];exact lf
   obtain⟨o,av,G,_,F⟩:=D7 oO lW (M.perm a9) (.slice g.a g.len g.cap);refine⟨o,av,G,?_⟩;rw[ap];exact F
  |none=>
   have B:∀y∈D.waits,y.i≠i:=λy t e=>by
    have:=iM.1 hf y t;rw[e]at this;simp at this
   have ap:D.waits.filter (λx=>x.i !=i)=D.waits:=kD.2 λy t=>by simpa using B y t
   obtain⟨o,av,G,_,F⟩:=D6 oO lW (k:=(i:Int)) M (λv ak=>by
    obtain⟨x,hx,he⟩:=e6.1 ak;unfold gN.e at he;simp only[Prod.mk.injEq]at he;exact B x hx I) (.slice g.a g.len g.cap)
   refine⟨o,av,G,?_⟩;rw[ap];exact F
 have fin:∀ (j o:J) (g:ad),ae (aC p) ai.drew j->aZ 256 182 j g (b8 aA (D.dE i++ [l]))->(∀k,aC g k->aC p k\/ai.drew.heap.size<=k)->ae (λq=>q=D.mr) j o->dZ o D.mr encZ ((gN.mk i g (D.dE i++ [l])::D.waits.filter λx=>x.i !=i).map gN.e)->
  ∃aO:ag,(some ⟨D.d,0,none⟩:ar ag)=some aO/\∃n24:Int,o.cell? (aO.add 6)=some (.int .i64 n24)/\∃W:ag,(some ⟨D.d,0,none⟩:ar ag)=some W/\(∃u:Y,o.cell? (W.add 6)=some u)/\o.frozen? (W.add 6)=false/\an (o.setCell (W.add 6) (.int .i64 (IntKind.wrap .i64 (n24+1)))) λa_=>zD D i l w (.int .i64 0) a_:=by
  intro j o g X ba aw aP bb;have bc:=z.v.af X λf=>(C _ f).2.1 rfl;have ax:Var o D.d (D.cm 2).c 141:=bc.af aP h.a1.2.1;have hlen:(D.cm 2).c.length=7:=H.wb;obtain⟨s1,s2⟩:=er ax (i:=6) (by rw[hlen];decide);have aR:o.cell? (Addr.add ⟨D.d,0,none⟩ 6)=some (.int .i64 D.writes):=by
   rw[ay,cU,ax.cell];unfold a6.c;have:=H.f4;rw[iO (by rw[dG];omega),dG,this];rfl
  rw[ay,cU]at aR;refine⟨_,rfl,D.writes,by rw[ay,cU];exact aR,_,rfl,by rw[ay,cU];exact s1,by rw[ay,cU];exact s2,?_⟩;rw[ay,cU];have aS:=dL o D.d 6 (.int .i64 (IntKind.wrap .i64 (D.writes+1)));have aT:=ep ax (i:=6) (.int .i64 (IntKind.wrap .i64 (D.writes+1)));have bd:(D.cm 2).c.set 6 (.int .i64 (IntKind.wrap .i64 (D.writes+1)))=(D.put i g l).c:=by
   have be:=H.f4;have Q:(D.put i g l).c=(D.cm 2).b5.map (.int .i64)++ [.slice (some ⟨D.lb,0,none⟩) D.bw.length D.bw.length,.map (some D.mr),.int .i64 (IntKind.wrap .i64 (D.writes+1))]:=rfl;have R:(D.cm 2).c=(D.cm 2).b5.map (.int .i64)++ [.slice (some ⟨D.lb,0,none⟩) D.bw.length D.bw.length,.map (some D.mr),.int .i64 D.writes]:=rfl;rw[Q,R,List.set_append_right _ _ (by rw[dG];omega),dG,be];rfl
  rw[bd]at aT;have Z:ae (λq=>q=D.mr\/q=D.d) j (o.setCell ⟨D.d,6,none⟩ (.int .i64 (IntKind.wrap .i64 (D.writes+1)))):=(aP.mono λq _ e=>.inl e).trans (aS.mono λq _ e=>.inr e);have S:∀q,aC g q->q≠D.d/\q≠D.lb/\q≠D.mr:=λq f=>by
   have bn:=z.lt (q:=D.d) (.inl rfl);have bo:=z.lt (q:=D.lb) (.inr (.inl rfl));have bp:=z.lt (q:=D.mr) (.inr (.inr (.inl rfl)));rcases aw q f with h1|h1
   .exact(C q h1).2
   .exact⟨I,I,I⟩
  have K:∀x∈D.waits.filter (λx=>x.i !=i),x∈D.waits/\x.i≠i:=λx hx=>by
   obtain⟨h1,N⟩:=gf.1 hx;exact⟨h1,by simpa using N⟩
  refine aX (.inr ⟨ac,rfl,g,⟨aT,?_,?_,?_,?_,h.sl,?_,h.bL,h.bx,H.f4,H.fr,h.a1,?_,?_,H.r⟩,?_,?_⟩)
  .exact bg.af (bg.af z.l X λf=>(C _ f).2.2.1 rfl) Z (by
    rintro(e|e)
    .exact h.a1.2.2 e
    .exact h.a1.1 e.symm)
  .exact bb.af aS (λe=>h.a1.2.1 e.symm)
  .intro x hx
   rcases c7.1 hx with rfl|hx
   .exact ba.af Z λq f=>by
     rintro(e|e)
     .exact(S q f).2.2 e
     .exact(S q f).1 e
   .obtain⟨h1,N⟩:=K x hx
    refine((z.ws x h1).af X λq f=>aH x h1 N q f).af Z λq f=>?_;rintro(e|e)
    .exact(h.a2 x h1).2.2 (e▸f)
    .exact(h.a2 x h1).1 (e▸f)
  .intro x hx
   rcases c7.1 hx with rfl|hx
   .refine⟨by simp,hi,?_⟩
    show(D.dE i++ [l]).length<=D.aQ+1;rw[cM,h6];omega
   .obtain⟨h1,N⟩:=K x hx
    have:=h.wn x h1;exact⟨this.1,this.2.1,Nat.le_succ_of_le this.2.2⟩
  .intro x hx
   rcases c7.1 hx with rfl|hx
   .intro s hs
    rcases cL.1 hs with hs|hs
    .exact aI s hs
    .rw[fo.1 hs];exact L
   .exact h.lX x (K x hx).1
  .intro x hx
   rcases c7.1 hx with rfl|hx
   .exact⟨λf=>(S _ f).1 rfl,λf=>(S _ f).2.1 rfl,λf=>(S _ f).2.2 rfl⟩
   .exact h.a2 x (K x hx).1
  .have aU:∀y∈D.waits,y.i≠i->∀q,aC y.s q->¬aC g q:=λy t B q f U=>by
    rcases aw q U with h1|h1
    .exact aH y t B q f h1
    .have:=(z.ws y t).lt q f;omega
   intro x hx y t B q f U;rcases c7.1 hx with rfl|hx
   .rcases c7.1 t with rfl|t
    .exact B rfl
    .exact aU y (K y t).1 (λe=>B e.symm) q U f
   .rcases c7.1 t with rfl|t
    .exact aU x (K x hx).1 B q f U
    .exact h.a3 x (K x hx).1 y (K y t).1 B q f U
  .refine((ab.mono λq _ e=>.inl e).trans ((ae.cN (cJ ai)).trans (X.mono λq _ f=>(C q f).1))).trans (Z.mono λq _ f=>?_)
   rcases f with e|e
   .exact .inr (.inr (.inl e))
   .exact .inl e
  .intro q f
   rcases aw q f with h1|h1
   .exact .inl (C q h1).1
   .have:ai.drew.heap.size=ai.heap.size:=rfl
    exact .inr I
 refine⟨aC p,_,rfl,λf=>(C _ f).2.1 rfl,some D.mr,z.cF,_,rfl,λf=>(C _ f).2.1 rfl,some D.mr,z.cF,I,A,aq,a5,_,a4,⟨?_,?_⟩⟩
 .obtain⟨g,j,av,G,F,O,P⟩:=aM ai.drew (.refl _ _)
  have aB:=z.m.af F λf=>(C _ f).2.2.2 rfl;obtain⟨o,Q,R,aD⟩:=aN j g aB;exact⟨p,_,aJ _ z.m,.refl _ _,⟨some ⟨ai.drew.heap.size,0,none⟩,1,1⟩,_,zA _ l L,ae.cN (dD _ _),g,j,av,P,o,Q,fin j o g F G O R aD⟩
 .obtain⟨g,j,av,G,F,O,P⟩:=aM ai.drew (.refl _ _)
  have bf:=z.m.ext (dD ai.drew (.cells (aA l).toArray 182));have aB:=z.m.af F λf=>(C _ f).2.2.2 rfl;obtain⟨o,Q,R,aD⟩:=aN j g aB;exact⟨⟨some ⟨ai.drew.heap.size,0,none⟩,1,1⟩,_,zA _ l L,ae.cN (dD _ _),p,_,aJ _ bf,.refl _ _,g,j,av,P,o,Q,fin j o g F G O R aD⟩
theorem Ee{P:Program}{e:TypeId}{v:Y}{sz:Nat}(a:((P.info? e).bind (·.zero)).map (·.cells)=some (List.replicate sz v).toArray)(hc:P.cellsOf e=sz)(hs:0<sz)(n:Nat):gw P e n=(List.replicate (n*sz) v).toArray:=by
 unfold gw;rw[hc]
 cases hi:(P.info? e).bind (·.zero) with
 |none=>rw[hi]at a;cases a
 |some z=>
  rw[hi]at a;simp only[kC,Option.some.injEq]at a;simp only[Option.getD_some];apply Array.ext
  .simp
  .intro i h1 b
   have c:n*sz≠0:=by
    intro h;simp[h]at b
   simp only[c,if_false,a,Array.getElem_map,Array.getElem_range];have aI:i%sz<sz:=hG _ hs;simp[aI]
theorem Ef(m n:Nat):b8 aA (List.replicate n (List.replicate m 0))=List.replicate (n*m) (.int .u8 0):=by
 induction n with
 |zero=>simp[b8]
 |succ n a=>
  rw[List.replicate_succ,qu,a,iK,Nat.one_mul,Nat.add_comm];have e:aA (List.replicate m 0)=List.replicate m (Value.int .u8 0):=by simp[aA]
  rw[e,List.replicate_append_replicate]
def gO:c2:=List.replicate 256 0
theorem Eg(n:Nat):gw aj 182 n=(b8 aA (List.replicate n gO)).toArray:=by
 unfold gO;rw[Ef];exact Ee (by kernel_rfl) (by kernel_rfl) (by decide) n
def oR(n d lb mr:Nat):a6:=⟨d,lb,mr,[-1, -1, -1, -1],List.replicate n gO,[],0,0,λ_=>false,λ_=> [],true⟩
theorem Eh{w:J}{b:Nat}{vs:O Y}{T:TypeId}(h:Var w b vs T)(g:4<=vs.length):
 aL aj 69 #[.pointer (some b)] w (λv w'=>v=.tuple #[]/\Var w' b (List.replicate 4 (.int .i64 (-1))++vs.drop 4) T/\ae (λq=>q=b) w w'/\w'.heap.size=w.heap.size):=by
 refine okF (ah.sg (some b)) az.sg func69 ?_;(delta ah.sg ao st au;dsimp only);refine⟨λi w'=>∃j:Nat,i=j/\j<=4/\Var w' b (List.replicate j (.int .i64 (-1))++vs.drop j) T/\ae (λq=>q=b) w w'/\w'.heap.size=w.heap.size,λi _=>((4:Int)-i).toNat,⟨0,rfl,I,h,.refl _ _,rfl⟩,?_⟩;rintro _ w1 ⟨j,rfl,k,c,hc,f⟩;refine⟨λaI=>?_,λd=>?_⟩
 .have aI:j<4:=by have:=cu aI;omega
  have a:Addr.add b (Int.toNat (j:Int)*1)=⟨b,j,none⟩:=by rw[dO,fH,ay,cU]
  obtain⟨s1,s2⟩:=er c (i:=j) (by simp;omega);rw[bz (n:=(j:Int)+1) I I];refine⟨_,rfl,⟨I,by show(j:Int)<4;omega⟩,by rw[a];exact s1,by rw[a];exact s2,aX ⟨⟨j+1,I,I,?_,?_,?_⟩,?_⟩⟩
  .have:=ep c (i:=j) (.int .i64 (-1))
   rw[a];have e:(List.replicate j (Value.int .i64 (-1))++vs.drop j).set j (.int .i64 (-1))=List.replicate (j+1) (.int .i64 (-1))++vs.drop (j+1):=by
    rw[List.set_append_right _ _ (by simp),ln,nt,l_ (show j<vs.length from I),List.set_cons_zero,List.replicate_succ',cY];rfl
   rwa[e]at this
  .rw[a];exact hc.trans (dL _ _ _ _)
  .rw[a];simpa[World.setCell] using f
  .show((4:Int)-((j:Int)+1)).toNat<((4:Int)-(j:Int)).toNat
   omega
 .have d:j=4:=by have:=cQ d;omega
  subst d;exact⟨rfl,c,hc,f⟩
theorem nY{n:Nat}(h1:16<=n)(k:n<=1600)(w:J):
 aL aj 18 #[.int .i64 ((n:Nat):Int)] w (λv w'=>∃d lb mr:Nat,v=.tuple #[.pointer (some ⟨d,0,none⟩),.int .i64 0]/\c3 w' (oR n d lb mr)/\Ext w w'/\∀q,b9 (oR n d lb mr) q->w.heap.size<=q):=by
 refine okF (ah.nY ((n:Nat):Int)) az.nY func18 ?_;delta ah.nY ao jt aa fS;refine⟨λh=>?_,λ_=>⟨⟨I,I,I,I⟩,?_⟩⟩
 .simp only[h5,cA]at h;omega
 rw[Eg,dO];have g:=bg.new w (b8 aA (List.replicate n gO)).toArray 182;have i:=dD w (.cells (b8 aA (List.replicate n gO)).toArray 182);have l:=ql w (.cells (b8 aA (List.replicate n gO)).toArray 182);obtain⟨w1,m⟩:∃w1,w1=w.alloc (.cells (b8 aA (List.replicate n gO)).toArray 182):=⟨_,rfl⟩;rw[←m]at g i l⊢;obtain⟨av,j⟩:=dZ.make (P:=aj) (enc:=encZ) 137 w1;have a:=dD w1 (.map #[] 0);have o:=ql w1 (.map #[] 0);obtain⟨ai,p⟩:∃ai,ai=w1.alloc (.map #[] 0):=⟨_,rfl⟩;rw[←p]at av j a o;refine aX ⟨some w1.heap.size,ai,av,#[.int .i64 0,.int .i64 0,.int .i64 0,.int .i64 0,.slice (some ⟨w.heap.size,0,none⟩) n n,.map (some w1.heap.size),.int .i64 0],by kernel_rfl,bd (vs:=[.int .i64 0,.int .i64 0,.int .i64 0,.int .i64 0,.slice (some ⟨w.heap.size,0,none⟩) n n,.map (some w1.heap.size),.int .i64 0]) rfl λu r b y=>⟨_,rfl,(Eh r (by show 4<=7;decide)).use ?_⟩⟩;rintro _ z ⟨rfl,t,f,A⟩;refine⟨rfl,ai.heap.size,w.heap.size,w1.heap.size,rfl,⟨?_,?_,?_,λx hx=>(by cases hx),λx hx=>(by cases hx),λs hs=>?_,λx hx=>(by cases hx),?_,?_,rfl,λx hx=>?_,?_,λx hx=>(by cases hx),λx hx=>(by cases hx),λ_=>rfl⟩,Ext.cC (i.trans (a.trans b)) f I,?_⟩
 .have e:(oR n ai.heap.size w.heap.size w1.heap.size).c=List.replicate 4 (.int .i64 (-1))++ [Value.int .i64 0,.int .i64 0,.int .i64 0,.int .i64 0,.slice (some ⟨w.heap.size,0,none⟩) n n,.map (some w1.heap.size),.int .i64 0].drop 4:=by
   unfold a6.c oR;simp
  rw[e];exact t
 .exact bg.af ((g.ext a).ext b) f (by show¬w.heap.size=ai.heap.size;omega)
 .exact(j.ext b).af f I
 .rw[um hs,gO,ln]
 .show 16<=(List.replicate n gO).length;simpa using h1
 .show(List.replicate n gO).length<=1600;simpa using k
 .have:x= -1:=by
   simp[oR]at hx;exact hx
  subst this;exact⟨by decide,by decide⟩
 .exact⟨by show ai.heap.size≠w.heap.size;omega,by show ai.heap.size≠w1.heap.size;omega,by show w.heap.size≠w1.heap.size;omega⟩
 .rintro q (rfl|rfl|rfl|⟨x,hx,_⟩)
  .show w.heap.size<=ai.heap.size;omega
  .exact bl _
  .show w.heap.size<=w1.heap.size;omega
  .cases hx
structure eg where
 root:Nat
 aH:Nat
 map:Nat
 clock:Nat
 c_:Nat
 keys:Nat
 deriving DecidableEq
def zE:eg:=⟨0,0,0,0,0,0⟩
def eg.c(u:eg):O Y:=[u.root,u.aH,u.map,.int .u64 (u.clock:Nat),.int .u64 (u.c_:Nat),u.keys]
structure lY(u:eg):Prop where
 root:u.root<4294967296
 aH:u.aH<256
 map:u.map<4294967296
 clock:u.clock<18446744073709551616
 c_:u.c_<18446744073709551616
 keys:u.keys<4294967296
def gq(u:eg)(n:Nat):O UInt8:=[]++bF u.root 4++bF u.aH 1++bF u.map 4++bF n 4++bF u.clock 8++bF u.c_ 8++bF u.keys 4
def oS(b:O UInt8):eg:=⟨dm b 0 4,dm b 4 1,dm b 5 4,dm b 13 8,dm b 21 8,dm b 29 4⟩
def lZ(u:eg)(n:Nat):Prop:=(u.root=0↔u.aH=0)/\u.aH<=12/\u.root<n/\u.map<n/\2<=u.map/\n<=1600
instance GC(u:eg)(n:Nat):Decidable (lZ u n):=by unfold lZ;infer_instance
def qw(no:Int)(l:O UInt8):Except Int (eg×Nat×Nat):=match fa no l with
 | .error e=>.error e
 | .ok p=>if p.kind≠3\/p.body.length≠33 then .error 4 else if lZ (oS p.body) (dm p.body 9 4) then .ok (oS p.body,dm p.body 9 4,p.gen) else .error 4
theorem zF(u:eg)(n:Nat):(gq u n).length=33:=by simp[gq,du]
theorem Ei{u:eg}{n:Nat}(h:lY u)(c:n<4294967296):oS (gq u n)=u/\dm (gq u n) 9 4=n:=by
 have e:∀ {k x m:Nat} (a b:O UInt8),gq u n=a++(bF x k++b)->a.length=m->x<256^k->dm (gq u n) m k=x:=λa b he d hx=>by rw[he];exact qk d hx
 have f:=h.keys;refine⟨?_,e (bF u.root 4++bF u.aH 1++bF u.map 4) (bF u.clock 8++(bF u.c_ 8++bF u.keys 4)) (by simp[gq]) (by simp[du]) c⟩;unfold oS;rw[e (m:=0) [] (bF u.aH 1++(bF u.map 4++(bF n 4++(bF u.clock 8++(bF u.c_ 8++bF u.keys 4))))) (by simp[gq]) rfl h.root,
  e (bF u.root 4) (bF u.map 4++(bF n 4++(bF u.clock 8++(bF u.c_ 8++bF u.keys 4)))) (by simp[gq]) (by simp[du]) h.aH,
  e (bF u.root 4++bF u.aH 1) (bF n 4++(bF u.clock 8++(bF u.c_ 8++bF u.keys 4))) (by simp[gq]) (by simp[du]) h.map,
  e (bF u.root 4++bF u.aH 1++bF u.map 4++bF n 4) (bF u.c_ 8++bF u.keys 4) (by simp[gq]) (by simp[du]) h.clock,
  e (bF u.root 4++bF u.aH 1++bF u.map 4++bF n 4++bF u.clock 8) (bF u.keys 4) (by simp[gq]) (by simp[du]) h.c_,
  e (bF u.root 4++bF u.aH 1++bF u.map 4++bF n 4++bF u.clock 8++bF u.c_ 8) [] (by simp[gq]) (by simp[du]) f]
def hX(u:eg)(n gen:Nat):ij:=⟨3,gen,gq u n⟩
theorem wh{u:eg}{n gen:Nat}(hg:gen<18446744073709551616):lT (hX u n gen):=⟨(by decide:1<=3),(by decide:3<=4),hg,by show(gq u n).length<=232;rw[zF];decide⟩
theorem zG{u:eg}{n gen no:Nat}(h:lY u)(hu:lZ u n)(hg:gen<18446744073709551616)(a:no<1600):qw no (dT no (hX u n gen))=.ok (u,n,gen):=by
 unfold qw;rw[tu a (wh hg)];have b:n<4294967296:=by have:=hu.2.2.2.2.2;omega
 obtain⟨h1,c⟩:=Ei h b;show(if (3:Nat)≠3\/(gq u n).length≠33 then _ else if lZ (oS (gq u n)) (dm (gq u n) 9 4) then Except.ok (oS (gq u n),dm (gq u n) 9 4,gen) else _)=_;rw[h1,c,if_neg (by rw[zF];simp),if_pos hu]
section
variable {w w':J}{h:Nat}{vs:O Y}{u:eg}
theorem eg.plain(u:eg):∀v∈u.c,Plain v:=by
 intro v a;simp only[eg.c,c7,ff,fp]at a;rcases a with rfl|rfl|rfl|rfl|rfl|rfl<;>trivial
theorem oT(a:Var w h u.c 104){K:Int->Int->Int->Int->Int->Int->Prop}(d:K (u.root:Nat) (u.aH:Nat) (u.map:Nat) (u.clock:Nat) (u.c_:Nat) (u.keys:Nat)):
 ∃bL:Int,w.cell? h=some (.int .i64 bL)/\∃bx:Int,w.cell? (Addr.add h 1)=some (.int .i64 bx)/\∃b:Int,w.cell? (Addr.add h 2)=some (.int .i64 b)/\
  ∃cv:Int,w.cell? (Addr.add h 3)=some (.int .u64 cv)/\∃n5:Int,w.cell? (Addr.add h 4)=some (.int .u64 n5)/\∃n6:Int,w.cell? (Addr.add h 5)=some (.int .i64 n6)/\K bL bx b cv n5 n6:=
 ⟨_,a.cell,_,by rw[ay];exact a.cell,_,by rw[ay];exact a.cell,_,by rw[ay];exact a.cell,_,by rw[ay];exact a.cell,_,by rw[ay];exact a.cell,d⟩
theorem zH(a:Var w h vs 104)(b:vs.length=6)(u:eg){K:J->Prop}(d:∀ai,Var ai h u.c 104->ae (λq=>q=h) w ai->ai.heap.size=w.heap.size->K ai):
 bh w h [u.root,u.aH,u.map,.int .u64 (u.clock:Nat),.int .u64 (u.c_:Nat),u.keys]/\(6:Nat)=6/\
  an (setCells w h 0 [u.root,u.aH,u.map,.int .u64 (u.clock:Nat),.int .u64 (u.c_:Nat),u.keys]) K:=
 ⟨a.bU (by rw[b];rfl) u.plain,rfl,cl a (us:=u.c) (by rw[b];rfl) rfl λai e hc f=>d ai e hc f⟩
end
theorem n4{w:J}{u:eg}(h:lY u){n:Nat}(y:n<4294967296):aL aj 138 #[.agg u.c.toArray,n] w (λv w'=>∃s:ad,v=s/\aZ 1 5 w' s (aA (gq u n))/\Ext w w'/\ga w s):=by
 have h1:=h.root;have V:=h.aH;have z:=h.map;have W:=h.clock;have X:=h.c_;have A:=h.keys;have a:∀ {x:Nat},x<4294967296->IntKind.wrap .u64 (x:Int)=(x:Int):=λ{x} hx=>gj I I;refine okF (ah.n4 (u.root:Nat) (u.aH:Nat) (u.map:Nat) (u.clock:Nat) (u.c_:Nat) (u.keys:Nat) (n:Nat)) az.n4 func138 ?_;(delta ah.n4 aF aa bJ cd;dsimp only);refine bd (vs:=u.c) rfl λw1 b B Y=>⟨_,b.cell,?_⟩;rw[a h1];refine(gl (s:=⟨none,0,0⟩) (l:=[]) (aZ.none 1 5 w1).src (cX _) (n:=u.root) I (by decide)).use ?_;rintro _ ai ⟨s2,rfl,C,d,Z⟩;have e:=b.ext d;refine⟨s2,rfl,_,by rw[ay];exact e.cell,?_⟩;rw[a (x:=u.aH) I];refine(gl C.src (by simp[du]) (n:=u.aH) I (by decide)).use ?_;rintro _ ab ⟨D,rfl,E,f,ac⟩;have g:=e.ext f;refine⟨D,rfl,_,by rw[ay];exact g.cell,?_⟩;rw[a z];refine(gl E.src (by simp[du]) (n:=u.map) I (by decide)).use ?_;rintro _ ae ⟨F,rfl,G,i,af⟩;have H:=g.ext i;refine⟨F,rfl,?_⟩;rw[a y];refine(gl G.src (by simp[du]) (n:=n) I (by decide)).use ?_;rintro _ ag ⟨K,rfl,L,j,ak⟩;have k:=H.ext j;refine⟨K,rfl,_,by rw[ay];exact k.cell,?_⟩;refine(gl L.src (by simp[du]) (n:=u.clock) I (by decide)).use ?_;rintro _ al ⟨M,rfl,N,m,am⟩;have o:=k.ext m;refine⟨M,rfl,_,by rw[ay];exact o.cell,?_⟩;refine(gl N.src (by simp[du]) (n:=u.c_) I (by decide)).use ?_;rintro _ an ⟨O,rfl,P,p,ao⟩;have Q:=o.ext p;refine⟨O,rfl,_,by rw[ay];exact Q.cell,?_⟩;rw[a A];refine(gl P.src (by simp[du]) (n:=u.keys) I (by decide)).use ?_;rintro _ ap ⟨r,rfl,R,S,T⟩;have t:=Ext.trans (Ext.trans (Ext.trans (Ext.trans (Ext.trans (Ext.trans B d) f) i) j) m) p;refine⟨r,rfl,r,rfl,R,Ext.trans t S,λq U=>?_⟩;have:=T q U;have:=t.size;omega
end Go.Proofs.YtkdhdlfonmgheaaGreat
namespace Go.Proofs.YtkdhdlfonmgheaaGreat
open Go Go.Proofs Go.Shelf
def Ej:Go.Shelf.Ren:=⟨λ |5=>153|8=>213|7=>212|19=>264|20=>265|10=>255|11=>256|12=>257|13=>258|14=>259|15=>260|16=>261|17=>262|18=>263|30=>286|31=>287|32=>288|33=>289|34=>290|35=>291|40=>297|n=>n,λ |23=>58|25=>3|3=>3|32=>101|22=>58|0=>0|44=>219|46=>27|4=>4|36=>340|35=>339|41=>175|5=>5|9=>9|53=>364|57=>367|63=>371|64=>234|n=>n,λ |n=>n⟩
theorem zI:Go.Proofs.SlLaysM.n5 Tryz.prog Ej:={
 mixed:=by kernel_rfl
 f5:=⟨Tryz.f153.name,by decide,Tryz.func153.trans (congrArg some (by kernel_rfl))⟩
 f7:=⟨Tryz.f212.name,by decide,Tryz.func212.trans (congrArg some (by kernel_rfl))⟩
 f8:=Tryz.func213.trans (congrArg some (by kernel_rfl))
 f10:=⟨Tryz.f255.name,by decide,Tryz.func255.trans (congrArg some (by kernel_rfl))⟩
 f11:=⟨Tryz.f256.name,by decide,Tryz.func256.trans (congrArg some (by kernel_rfl))⟩
 f12:=⟨Tryz.f257.name,by decide,Tryz.func257.trans (congrArg some (by kernel_rfl))⟩
 f13:=⟨Tryz.f258.name,by decide,Tryz.func258.trans (congrArg some (by kernel_rfl))⟩
 f14:=⟨Tryz.f259.name,by decide,Tryz.func259.trans (congrArg some (by kernel_rfl))⟩
 f15:=⟨Tryz.f260.name,by decide,Tryz.func260.trans (congrArg some (by kernel_rfl))⟩
 f16:=⟨Tryz.f261.name,by decide,Tryz.func261.trans (congrArg some (by kernel_rfl))⟩
 f17:=⟨Tryz.f262.name,by decide,Tryz.func262.trans (congrArg some (by kernel_rfl))⟩
 f18:=⟨Tryz.f263.name,by decide,Tryz.func263.trans (congrArg some (by kernel_rfl))⟩
 f19:=Tryz.func264.trans (congrArg some (by kernel_rfl))
 f20:=Tryz.func265.trans (congrArg some (by kernel_rfl))
 f30:=⟨Tryz.f286.name,by decide,Tryz.func286.trans (congrArg some (by kernel_rfl))⟩
 f31:=Tryz.func287.trans (congrArg some (by kernel_rfl))
 f32:=Tryz.func288.trans (congrArg some (by kernel_rfl))
 f33:=⟨Tryz.f289.name,by decide,Tryz.func289.trans (congrArg some (by kernel_rfl))⟩
 f34:=⟨Tryz.f290.name,by decide,Tryz.func290.trans (congrArg some (by kernel_rfl))⟩
 f35:=⟨Tryz.f291.name,by decide,Tryz.func291.trans (congrArg some (by kernel_rfl))⟩
 f40:=⟨Tryz.f297.name,by decide,Tryz.func297.trans (congrArg some (by kernel_rfl))⟩
 t0:=Tryz.underlying0
 a0:=Tryz.isAgg0
 z0:=Tryz.sizeOf0
 v0:=Tryz.zeroValue0
 t3:=Tryz.underlying3
 a3:=Tryz.isAgg3
 z3:=Tryz.sizeOf3
 v3:=Tryz.zeroValue3
 t4:=Tryz.underlying4
 a4:=Tryz.isAgg4
 z4:=Tryz.sizeOf4
 v4:=Tryz.zeroValue4
 t5:=Tryz.underlying5
 a5:=Tryz.isAgg5
 z5:=Tryz.sizeOf5
 v5:=Tryz.zeroValue5
 t9:=Tryz.underlying9
 a9:=Tryz.isAgg9
 z9:=Tryz.sizeOf9
 v9:=Tryz.zeroValue9
 t22:=Tryz.underlying58
 a22:=Tryz.isAgg58
 z22:=Tryz.sizeOf58
 v22:=Tryz.zeroValue58
 t23:=Tryz.underlying58
 a23:=Tryz.isAgg58
 z23:=Tryz.sizeOf58
 v23:=Tryz.zeroValue58
 t25:=Tryz.underlying3
 a25:=Tryz.isAgg3
 z25:=Tryz.sizeOf3
 v25:=Tryz.zeroValue3
 t32:=Tryz.underlying101
 a32:=Tryz.isAgg101
 z32:=Tryz.sizeOf101
 v32:=Tryz.zeroValue101
 t35:=Tryz.underlying339
 a35:=Tryz.isAgg339
 z35:=Tryz.sizeOf339
 v35:=Tryz.zeroValue339
 t36:=Tryz.underlying340
 a36:=Tryz.isAgg340
 z36:=Tryz.sizeOf340
 v36:=Tryz.zeroValue340
 t41:=Tryz.underlying175
 a41:=Tryz.isAgg175
 z41:=Tryz.sizeOf175
 v41:=Tryz.zeroValue175
 t44:=Tryz.underlying219
 a44:=Tryz.isAgg219
 z44:=Tryz.sizeOf219
 v44:=Tryz.zeroValue219
 t46:=Tryz.underlying27
 a46:=Tryz.isAgg27
 z46:=Tryz.sizeOf27
 v46:=Tryz.zeroValue27
 t53:=Tryz.underlying364
 a53:=Tryz.isAgg364
 z53:=Tryz.sizeOf364
 v53:=Tryz.zeroValue364
 t57:=Tryz.underlying367
 a57:=Tryz.isAgg367
 z57:=Tryz.sizeOf367
 v57:=Tryz.zeroValue367
 t63:=Tryz.underlying371
 a63:=Tryz.isAgg371
 z63:=Tryz.sizeOf371
 v63:=Tryz.zeroValue371
 t64:=Tryz.underlying234
 a64:=Tryz.isAgg234
 z64:=Tryz.sizeOf234
 v64:=Tryz.zeroValue234}
end Go.Proofs.YtkdhdlfonmgheaaGreat
namespace Go.Proofs.YtkdhdlfonmgheaaGreat
open Go aR Go.Proofs.Tryz
theorem Ek{w:J}{b n:Nat}{c:Array Y}{T:TypeId}{os:Array Obj}{zs:O Int}(h:bg w b c T)(g:zs.length<=c.size):
 ∃c':Array Y,bg (Go.Sort.grow (Go.Sort.putRow (Value.int .i64) (Go.Sort.ahead w n) b 0 zs.toArray) os) b c' T/\c'.size=c.size/\c'.toList.take zs.length=zs.map encZ/\ae (λq=>q=b) w (Go.Sort.grow (Go.Sort.putRow (Value.int .i64) (Go.Sort.ahead w n) b 0 zs.toArray) os):=by
 have aI:=h.lt;have d:∀k,k<w.heap.size->(Go.Sort.grow (Go.Sort.putRow (Value.int .i64) (Go.Sort.ahead w n) b 0 zs.toArray) os).heap[k]? =(w.heap.modify b (Go.Sort.onCells (Go.Sort.putCells (Value.int .i64) 0 zs.toArray)))[k]? :=λk a=>by
  show((w.heap.modify b _)++os)[k]? =_;rw[Array.getElem?_append_left (by simpa using a)]
 refine⟨Go.Sort.putCells (Value.int .i64) 0 zs.toArray c,?_,by simp[Go.Sort.putCells],?_,rfl,rfl,rfl,?_,λk a f=>?_⟩
 .unfold bg at h⊢
  rw[d b aI,qM,if_pos rfl,h];rfl
 .apply List.ext_getElem?
  intro i;rw[qR];split
  .rename_i hi
   rw[Array.getElem?_toList,Go.Sort.putCells,Array.getElem?_mapIdx,Array.getElem?_eq_getElem I,kC,if_pos ⟨cX _,by simpa using hi⟩,lj,dI hi];simp[hi]
  .rename_i hi
   rw[me (by simpa using hi)]
 .show w.heap.size<=((w.heap.modify b _)++os).size
  simp
 .rw[d k a,qM,if_neg (λe=>f e.symm)]
theorem El{w:J}{s:ad}{zs:O Int}(h:aZ 1 3 w s (zs.map encZ))(G:zs.length<=1000000):
 aL aj 153 #[s] w (λv w'=>v=.tuple #[]/\ae (aC s) w w'/\∃ys:O Int,aZ 1 3 w' s (ys.map encZ)/\ys.Perm zs/\ys.Pairwise λa b=>a<=b):=by
 have H:s.len=zs.length:=by have:=h.1;rw[dG]at this;omega
 rcases lp zs.length with h0|h0
 .have hd:zs=[]:=nu.1 h0
  have e:s.len=0:=by omega
  rw[e];refine Calls.mono (AnyM.slices_Sort_int_none zI s.a s.cap w) ?_;rintro _ _ ⟨rfl,rfl⟩;exact⟨_,rfl,rfl,.refl _ _,[],by rw[hd]at h;exact h,by rw[hd],List.Pairwise.nil⟩
 obtain⟨h1,k,u,z⟩:=h;rcases z with ⟨_,f⟩|⟨b,c,g,d,A,B⟩
 .omega
 have C:Go.Sort.Holds (Value.int .i64) w b 0 zs.toArray:=λj D=>by
  have m:j<zs.length:=by simpa using D
  refine⟨?_,bg.frozen d _ rfl⟩;rw[d.cell,cU];have e:=congrArg (λl=>l[j]?) B;simp only[qR,lj,dI m,kC]at e;rw[if_pos I,Array.getElem?_toList]at e;rw[e];simp[m]
 have E:=AnyM.slices_Sort_int zI b 0 s.cap zs w C d.lt I;rw[g];have e:s.len=zs.length:=by omega
 rw[e];refine Calls.mono E ?_;rintro _ w' ⟨rfl,n,os,rfl⟩;obtain⟨c',av,o,p,r⟩:=Ek (n:=n) (os:=os) (zs:=zs.mergeSort λx y=>decide (x<=y)) d (by rw[List.length_mergeSort];omega);have i:=List.mergeSort_perm zs λx y=>decide (x<=y);have t:(zs.mergeSort λx y=>decide (x<=y)).Pairwise λa b=>decide (a<=b)=true:=List.pairwise_mergeSort (λa b c h1 k=>by simp only[cA]at*;omega) (λa b=>by simp only[h5,cA];omega) zs;generalize (zs.mergeSort λx y=>decide (x<=y))=ys at av o p r i t;refine⟨_,rfl,rfl,r.mono λq _ e=>⟨b,g,e.symm⟩,ys,?_,i,t.imp λh=>cu h⟩;have F:=i.length_eq;have f:=aZ.mk' (sz:=1) (n:=s.len) (cap:=s.cap) av (vs:=ys.map encZ) (by rw[dG];omega) k u (by rw[o];exact A) (by rw[fH,e,←F];exact p);rw[←g]at f;exact f
def j5(a cf bH b c d e f:al):Nat:=
 a.toNat+2*cf.toNat+4*bH.toNat+8*b.toNat+16*c.toNat+32*d.toNat+64*e.toNat+128*f.toNat
def byteOf(f:Nat->al)(i:Nat):Nat:=j5 (f (8*i)) (f (8*i+1)) (f (8*i+2)) (f (8*i+3)) (f (8*i+4)) (f (8*i+5)) (f (8*i+6)) (f (8*i+7))
theorem Em:∀a cf bH b c d e f:al,j5 a cf bH b c d e f<256:=by decide+kernel
theorem En:∀a cf bH b c d e f:al,
 (j5 a cf bH b c d e f).testBit 0=a/\(j5 a cf bH b c d e f).testBit 1=cf/\(j5 a cf bH b c d e f).testBit 2=bH/\(j5 a cf bH b c d e f).testBit 3=b/\
 (j5 a cf bH b c d e f).testBit 4=c/\(j5 a cf bH b c d e f).testBit 5=d/\(j5 a cf bH b c d e f).testBit 6=e/\(j5 a cf bH b c d e f).testBit 7=f:=by decide+kernel
theorem jC(f:Nat->al)(i:Nat):byteOf f i<256:=Em _ _ _ _ _ _ _ _
theorem nd(f:Nat->al)(i j:Nat)(a:j<8):(byteOf f i).testBit j=f (8*i+j):=by
 obtain⟨h0,h1,b,c,d,e,g,h⟩:=En (f (8*i)) (f (8*i+1)) (f (8*i+2)) (f (8*i+3)) (f (8*i+4)) (f (8*i+5)) (f (8*i+6)) (f (8*i+7));have:j=0\/j=1\/j=2\/j=3\/j=4\/j=5\/j=6\/j=7:=by omega
 unfold byteOf;rcases this with rfl|rfl|rfl|rfl|rfl|rfl|rfl|rfl<;>assumption
theorem Eo{x y:Nat}(hx:x<256)(b:y<256)(h:∀j,j<8->x.testBit j=y.testBit j):x=y:=by
 apply Nat.eq_of_testBit_eq;intro j;by_cases a:j<8
 .exact h j a
 .have p:256<=2^j:=by
   have:=qU (n:=2) I (by omega:8<=j);simpa using this
  rw[Nat.testBit_lt_two_pow I,Nat.testBit_lt_two_pow I]
theorem wi(f:Nat->al)(i x:Nat)(hx:x<256)(h:∀j,j<8->x.testBit j=f (8*i+j)):x=byteOf f i:=
 Eo hx (jC f i) λj a=>by rw[h j a,nd f i j a]
def da(f:Nat->al)(k:Nat)(b:al):Nat->al:=λi=>if i=k then b else f i
theorem Ep:∀x:Nat,x<256->∀j:Nat,j<8->(h8 .u8 (Int.fdiv (x:Int) (2^(min (Int.toNat (j:Int)) 8))) 1==1)=x.testBit j:=by decide+kernel
theorem Er:∀x:Nat,x<256->∀j:Nat,j<8->lr .u8 (x:Int) (IntKind.wrap .u8 (1*2^(min (Int.toNat (j:Int)) 8)))=((x|||2^j:Nat):Int):=by decide+kernel
theorem Es:∀x:Nat,x<256->∀j:Nat,j<8->xn .u8 (x:Int) (IntKind.wrap .u8 (1*2^(min (Int.toNat (j:Int)) 8)))=((x&&&(255-2^j):Nat):Int):=by decide+kernel
theorem wj:∀x:Nat,x<256->∀y:Nat,y<256->x|||y<256:=λ_ hx _ a=>Nat.or_lt_two_pow (n:=8) hx a
theorem Et:∀j:Nat,j<8->∀k:Nat,k<8->(255-2^j).testBit k=(k !=j):=by decide+kernel
theorem Eu(x y:Nat)(hx:x<256)(a:y<256):lr .u8 (x:Int) (y:Int)=((x|||y:Nat):Int):=by
 have h:=wj x hx y a;have e:(BitVec.ofInt 8 (x:Int)|||BitVec.ofInt 8 (y:Int)).toNat=x|||y:=by
  simp only[BitVec.ofInt_natCast,BitVec.toNat_or,BitVec.toNat_ofNat];rw[iL (by simpa using hx),iL (by simpa using a)]
 show IntKind.wrap .u8 (((BitVec.ofInt 8 (x:Int)|||BitVec.ofInt 8 (y:Int)).toNat:Nat):Int)=_;rw[e];have:((x|||y:Nat):Int)%256=((x|||y:Nat):Int):=Int.emod_eq_of_lt I I;simp[IntKind.wrap,IntKind.signed,IntKind.bits,this]
theorem Ev(k:Nat):8*(k/8)+k%8=k:=Nat.div_add_mod k 8
theorem Ew(f:Nat->al)(k:Nat):byteOf f (k/8)|||2^(k%8)=byteOf (da f k true) (k/8):=by
 refine wi _ _ _ (wj _ (jC _ _) _ ?_) λj b=>?_
 .have:k%8<8:=hG _ I
  have:=Nat.pow_lt_pow_right (a:=2) I this;simpa using this
 .rw[k9,nd _ _ _ b,o7,da]
  by_cases h:8*(k/8)+j=k
  .rw[if_pos h]
   have:k%8=j:=by omega
   simp[this]
  .rw[if_neg h]
   have:¬k%8=j:=by omega
   simp[this]
theorem Ex(f:Nat->al)(k:Nat):byteOf f (k/8)&&&(255-2^(k%8))=byteOf (da f k false) (k/8):=by
 refine wi _ _ _ (Nat.lt_of_le_of_lt Nat.and_le_left (jC _ _)) λj a=>?_;rw[Nat.testBit_and,nd _ _ _ a,Et _ (hG _ I) _ a,da];by_cases h:8*(k/8)+j=k
 .rw[if_pos h]
  have:j=k%8:=by omega
  simp[this]
 .rw[if_neg h]
  have:¬j=k%8:=by omega
  simp[this]
theorem Ey(f:Nat->al)(k i:Nat)(b:al)(h:i≠k/8):byteOf (da f k b) i=byteOf f i:=by
 have e:∀j,j<8->da f k b (8*i+j)=f (8*i+j):=λj a=>by
  unfold da;rw[if_neg];omega
 unfold byteOf;rw[e 1 I,e 2 I,e 3 I,e 4 I,e 5 I,e 6 I,e 7 I];have:=e 0 I;simp only[k8]at this;rw[this]
def eI(f:Nat->al)(m:Nat):O Y:=(List.range m).map λi=>.int .u8 (byteOf f i)
theorem wk(f:Nat->al)(m:Nat):(eI f m).length=m:=by simp[eI]
theorem nf(f:Nat->al){m i:Nat}(h:i<m):(eI f m)[i]? =some (.int .u8 (byteOf f i)):=by simp[eI,h]
theorem zJ(f:Nat->al)(k m:Nat)(b:al):(eI f m).set (k/8) (.int .u8 (byteOf (da f k b) (k/8)))=eI (da f k b) m:=by
 apply List.ext_getElem?;intro i;rw[List.getElem?_set];by_cases hi:i<m
 .rw[nf (da f k b) hi]
  by_cases h:k/8=i
  .subst h
   simp[wk,hi]
  .rw[if_neg h,nf _ hi,Ey f k i b I]
 .have h1:(eI (da f k b) m)[i]? =none:=by simp[eI];omega
  have a:(eI f m)[i]? =none:=by simp[eI];omega
  rw[h1,a];split
  .simp[wk];omega
  .rfl
theorem zK(k:Nat):Int.tdiv (k:Int) 8=((k/8:Nat):Int):=by
 rw[Int.tdiv_eq_ediv_of_nonneg I];omega
theorem wm(k:Nat):Int.tmod (k:Int) 8=((k%8:Nat):Int):=by
 rw[pk I];omega
theorem wo{k:Nat}(h:k<=9223372036854775807):IntKind.wrap .i64 (Int.tdiv (k:Int) 8)=((k/8:Nat):Int):=by
 rw[zK,bz I I]
theorem zL{s:ad}{b:Nat}(h:s.a=some ⟨b,0,none⟩):aC s b:=⟨_,h,rfl⟩
theorem qx{w:J}{s:ad}{f:Nat->al}{m k:Nat}(h:aZ 1 5 w s (eI f m))(a:k/8<m)(d:k<=9223372036854775807):
 aL aj 214 #[s,k] w (λv w'=>v=.bool (f k)/\w=w'):=by
 refine okF (ah.sR s k) az.sR func214 ?_;(delta ah.sR aK au en;dsimp only);obtain⟨b,c,e,g,i,hi,j,hc,_⟩:=h.cell (nf f a);refine⟨by decide,_,e,?_⟩;rw[wo d,wm];refine⟨⟨I,I⟩,(byteOf f (k/8):Int),?_,by decide,I,?_,rfl⟩
 .rw[fH,dO,ay,cU];exact hc
 .rw[Ep _ (jC _ _) _ (hG _ I),nd _ _ _ (hG _ I),Ev]
theorem zM{w:J}{s:ad}{f:Nat->al}{m k:Nat}(h:aZ 1 5 w s (eI f m))(e:k/8<m)(g:k<=9223372036854775807):
 aL aj 130 #[s,k] w (λv w'=>v=.tuple #[]/\aZ 1 5 w' s (eI (da f k true) m)/\ae (aC s) w w'):=by
 refine okF (ah.sA s k) az.sA func130 ?_;(delta ah.sA an aK au en st;dsimp only);obtain⟨b,c,d,i,l,hi,n,hc,_⟩:=h.cell (nf f e);have a:(Addr.mk b 0 none).add (Int.toNat ((k/8:Nat):Int)*1)=⟨b,k/8,none⟩:=by rw[fH,dO,ay,cU]
 rw[wo g,wm];refine⟨by decide,_,d,⟨I,I⟩,by simp,(byteOf f (k/8):Int),by rw[a];exact hc,by decide,I,_,d,⟨I,I⟩,⟨_,by rw[a];exact hc⟩,by rw[a];exact i.drew.frozen _ rfl,rfl,?_,?_⟩
 .rw[a,Er _ (jC _ _) _ (hG _ I),Ew,←zJ]
  have j:aZ 1 5 w.drew s (eI f m):=h.af (W:=λ_=>False) (ae.drew (.refl _ _)) (λ_ _ h=>h);exact j.set d _
 .rw[a]
  exact ae.set (ae.drew (.refl _ _)) (λ_=>zL d) _
theorem Ez{w:J}{s:ad}{f:Nat->al}{m k:Nat}(h:aZ 1 5 w s (eI f m))(e:k/8<m)(g:k<=9223372036854775807):
 aL aj 219 #[s,k] w (λv w'=>v=.tuple #[]/\aZ 1 5 w' s (eI (da f k false) m)/\ae (aC s) w w'):=by
 refine okF (ah.sS s k) az.sS func219 ?_;(delta ah.sS an aK au en st;dsimp only);obtain⟨b,c,d,i,l,hi,n,hc,_⟩:=h.cell (nf f e);have a:(Addr.mk b 0 none).add (Int.toNat ((k/8:Nat):Int)*1)=⟨b,k/8,none⟩:=by rw[fH,dO,ay,cU]
 rw[wo g,wm];refine⟨by decide,_,d,⟨I,I⟩,by simp,(byteOf f (k/8):Int),by rw[a];exact hc,by decide,I,_,d,⟨I,I⟩,⟨_,by rw[a];exact hc⟩,by rw[a];exact i.drew.frozen _ rfl,rfl,?_,?_⟩
 .rw[a,Es _ (jC _ _) _ (hG _ I),Ex,←zJ]
  have j:aZ 1 5 w.drew s (eI f m):=h.af (W:=λ_=>False) (ae.drew (.refl _ _)) (λ_ _ h=>h);exact j.set d _
 .rw[a]
  exact ae.set (ae.drew (.refl _ _)) (λ_=>zL d) _
structure eJ(w:J)(b n:Nat)(f g:Nat->al)(s1 s2:ad):Prop where
 b2:bg w b #[n,s1,s2] 218
 now:aZ 1 5 w s1 (eI f ((n+7)/8))
 sure:aZ 1 5 w s2 (eI g ((n+7)/8))
 d1:∀k,aC s1 k->k≠b/\¬aC s2 k
 d2:∀k,aC s2 k->k≠b
 bL:1<=n
 bx:n<=1600
 pf:∀i,n<=i->f i=false
 c4:∀i,n<=i->g i=false
def fb(b:Nat)(s1 s2:ad)(k:Nat):Prop:=k=b\/aC s1 k\/aC s2 k
section
variable {w w':J}{b n:Nat}{f g:Nat->al}{s1 s2:ad}
theorem eJ.af{W:Nat->Prop}(h:eJ w b n f g s1 s2)(hc:ae W w w')(a:∀k,fb b s1 s2 k->¬W k):eJ w' b n f g s1 s2:=
 ⟨h.b2.af hc (a b (.inl rfl)),h.now.af hc λk c=>a k (.inr (.inl c)),h.sure.af hc λk c=>a k (.inr (.inr c)),h.d1,h.d2,h.bL,h.bx,h.pf,h.c4⟩
theorem eJ.ext(h:eJ w b n f g s1 s2)(hc:Ext w w'):eJ w' b n f g s1 s2:=h.af hc λ_ _ h=>h
theorem eJ.lt(h:eJ w b n f g s1 s2):∀k,fb b s1 s2 k->k<w.heap.size:=by
 rintro k (rfl|a|a)
 .exact h.b2.lt
 .exact h.now.lt k a
 .exact h.sure.lt k a
theorem eJ.bQ(h:eJ w b n f g s1 s2):w.cell? b=some (.int .i64 n):=by rw[h.b2.cell];rfl
theorem eJ.aT(h:eJ w b n f g s1 s2):w.cell? ((Addr.mk b 0 none).add 1)=some (.slice s1.a s1.len s1.cap):=by rw[ay,h.b2.cell];rfl
theorem eJ.a8(h:eJ w b n f g s1 s2):w.cell? ((Addr.mk b 0 none).add 2)=some (.slice s2.a s2.len s2.cap):=by rw[ay,h.b2.cell];rfl
theorem EA(h:eJ w b n f g s1 s2){k:Nat}(a:k<n):
 aL aj 217 #[.pointer (some b),k] w (λv w'=>v=.bool (f k||g k)/\w=w'):=by
 have c:=h.bx;refine ah.CB _ k w _ ?_;(delta ah.p8 r1 cc ao;dsimp only);refine⟨_,rfl,s1,h.aT,(qx h.now (k:=k) I I).use ?_⟩;rintro _ _ ⟨rfl,rfl⟩;refine⟨_,rfl,⟨λhf=>⟨by rw[hf];rfl,rfl⟩,λhf=>⟨_,rfl,s2,h.a8,(qx h.sure (k:=k) I I).use ?_⟩⟩⟩;rintro _ _ ⟨rfl,rfl⟩;exact⟨_,rfl,by rw[hf];rfl,rfl⟩
theorem zN(h:eJ w b n f g s1 s2)(k:Int):
 aL aj 218 #[.pointer (some b),k] w (λv w'=>v=.bool (decide (0<=k)&&decide (k<n))/\w=w'):=by
 refine ah.CC _ k w _ ?_;(delta ah.p9 ao aF;dsimp only);refine⟨?_⟩;refine⟨λh1=>⟨_,rfl,n,h.bQ,?_,rfl⟩,λh1=>⟨?_,rfl⟩⟩
 .have:0<=k:=by simpa using h1
  simp[this]
 .have:¬0<=k:=by simpa using h1
  simp[this]
def firstFree(t:Nat->al)(n:Nat):ar Nat:=(List.range n).find? λi=> !t i
theorem EB{t:Nat->al}{n k:Nat}(e:k<n)(ht:t k=false)(c:∀i,i<k->t i=true):firstFree t n=some k:=by
 unfold firstFree;rw[List.find?_eq_some_iff_append];refine⟨by simp[ht],List.range k,(List.range' (k+1) (n-(k+1))),?_,λa d=>?_⟩
 .have b:=List.range'_append (s:=0) (m:=k) (n:=n-(k+1)+1) (step:=1)
  rw[qO,qO,←List.range'_succ];rw[Nat.one_mul,cU]at b;rw[b]
  congr 1
  omega
 .simp[c a (jh.1 d)]
theorem EC{t:Nat->al}{n:Nat}(b:∀i,i<n->t i=true):firstFree t n=none:=by
 unfold firstFree;rw[iM];intro a c;simp[b a (jh.1 c)]
theorem zO{t:Nat->al}{n k:Nat}(h:firstFree t n=some k):k<n/\t k=false/\∀i,i<k->t i=true:=by
 unfold firstFree at h;obtain⟨h1,b,lb,a,e⟩:=List.find?_eq_some_iff_append.1 h;have f:k<n:=jh.1 (by rw[a];simp);refine⟨f,by simpa using h1,λi hi=>?_⟩;have hlen:b.length=k:=by
  have c:(List.range n)[b.length]? =some k:=by rw[a];simp
  rw[List.getElem?_range (by
   have:=congrArg List.length a;simp at this;omega)]at c
  simpa using c
 have d:(List.range n)[i]? =some i:=List.getElem?_range I;rw[a,List.getElem?_append_left I]at d;have:=e i (List.mem_of_getElem? d);simpa using this
theorem ED{t:Nat->al}{n:Nat}(h:firstFree t n=none):∀i,i<n->t i=true:=by
 unfold firstFree at h;rw[iM]at h;intro i hi;have:=h i (jh.2 hi);simpa using this
def EE(o:ar Nat):Y:=
 match o with
 |some k=>.tuple #[.int .i64 (k:Int),(0:Int)]
 |none=>.tuple #[.int .i64 (-1),(2:Int)]
def EF(o:ar Nat)(f:Nat->al):Nat->al:=
 match o with
 |some k=>da f k true
 |none=>f
theorem zP{f:Nat->al}{n k:Nat}{x:al}(h:∀i,n<=i->f i=false)(a:k<n):∀i,n<=i->da f k x i=false:=λi hi=>by
 unfold da
 rw[if_neg I]
 exact h i hi
theorem zQ(h:eJ w b n f g s1 s2):
 aL aj 160 #[.pointer (some b)] w (λv w'=>v=EE (firstFree (λi=>f i||g i) n)/\eJ w' b n (EF (firstFree (λi=>f i||g i) n) f) g s1 s2/\ae (fb b s1 s2) w w'):=by
 have r:=h.bx;refine ah.Ct _ w _ ?_;(delta ah.p4 ao aF cc r1 fS au;dsimp only);refine⟨λh1=>by simp at h1,λ_=>⟨_,rfl,n,h.bQ,λi w'=>∃k:Nat,i=k/\k<=n/\w=w'/\∀j,j<k->(f j||g j)=true,λi _=>(n-i).toNat,⟨0,rfl,I,rfl,λj l=>I⟩,?_⟩⟩;rintro _ _ ⟨k,rfl,a,rfl,d⟩;refine⟨λaI=>(EA h (k:=k) (by simpa using aI)).use ?_,λm=>?_⟩
 .have c:k<n:=by simpa using aI
  rintro _ _ ⟨rfl,rfl⟩;refine⟨_,rfl,λht=>⟨_,rfl,s1,h.aT,(zM h.now (k:=k) I I).use ?_⟩,λht=>?_⟩
  .rintro _ w' ⟨rfl,o,hc⟩
   have e:(f k||g k)=false:=by simpa using ht
   have p:=EB (t:=λi=>f i||g i) c e d;rw[p];refine⟨rfl,rfl,⟨h.b2.af hc λq=>(h.d1 b q).1 rfl,o,h.sure.af hc λk a h1=>(h.d1 k h1).2 a,h.d1,h.d2,h.bL,h.bx,zP h.pf c,h.c4⟩,hc.mono λk _ a=>.inr (.inl a)⟩
  .have e:(f k||g k)=true:=by cases hx:(f k||g k)<;>simp[hx]at ht⊢
   rw[bz I I];refine⟨⟨k+1,I,I,rfl,λj l=>?_⟩,(show((n:Int)-((k:Int)+1)).toNat<((n:Int)-(k:Int)).toNat from I)⟩;rcases ed j k with h1|h1
   .exact d j h1
   .have:j=k:=by omega
    subst this;exact e
 .have c:k=n:=by
   have:¬(k:Int)<n:=by simpa using m
   omega
  subst c;rw[EC d];exact⟨rfl,h,.refl _ _⟩
def tL(f:Nat->al)(n:Nat)(k:Int):Int:=if 0<=k/\k<n then (if f k.toNat then 0 else 6) else 1
def l0(f:Nat->al)(n:Nat)(k:Int):Nat->al:=if 0<=k/\k<n then da f k.toNat false else f
theorem EG{f:Nat->al}{k:Nat}{x:al}(h:f k=x):da f k x=f:=by
 funext i;unfold da;split
 .rename_i hi;rw[hi,h]
 .rfl
theorem zR(h:eJ w b n f g s1 s2)(k:Int):
 aL aj 161 #[.pointer (some b),k] w (λv w'=>v=.int .i64 (tL f n k)/\eJ w' b n (l0 f n k) g s1 s2/\ae (fb b s1 s2) w w'):=by
 have o:=h.bx;refine ah.Cu _ k w _ ?_;(delta ah.p5 cc ao r1 fS;dsimp only);refine(zN h k).use ?_;rintro _ _ ⟨rfl,rfl⟩;refine⟨_,rfl,λh1=>?_,λh1=>?_⟩
 .have:¬(0<=k/\k<n):=by
   rintro⟨a,e⟩;simp[a,e]at h1
  exact⟨by rw[tL,if_neg this],by rw[l0,if_neg this];exact h,.refl _ _⟩
 .have c:0<=k/\k<n:=by simpa using h1
  obtain⟨m,rfl⟩:=uo c.1;have i:m<n:=by omega
  refine⟨_,rfl,s1,h.aT,(qx h.now (k:=m) I I).use ?_⟩;rintro _ _ ⟨rfl,rfl⟩;refine⟨_,rfl,λa=>?_,λa=>⟨_,rfl,s1,h.aT,(Ez h.now (k:=m) I I).use ?_⟩⟩
  .have hf:f m=false:=by simpa using a
   refine⟨by rw[tL,if_pos c,dO,hf];rfl,?_,.refl _ _⟩;rw[l0,if_pos c,dO,EG hf];exact h
  .rintro _ w' ⟨rfl,j,hc⟩
   have hf:f m=true:=by simpa using a
   refine⟨rfl,by rw[tL,if_pos c,dO,hf];rfl,?_,hc.mono λk _ d=>.inr (.inl d)⟩;rw[l0,if_pos c,dO];exact⟨h.b2.af hc λl=>(h.d1 b l).1 rfl,j,h.sure.af hc λk d h1=>(h.d1 k h1).2 d,h.d1,h.d2,h.bL,h.bx,zP h.pf i,h.c4⟩
theorem EH(h:eJ w b n f g s1 s2)(k:Int):
 aL aj 246 #[.pointer (some b),k] w (λv w'=>v=.bool (decide (0<=k)&&decide (k<n)&&f k.toNat&& !(g k.toNat))/\w=w'):=by
 have d:=h.bx;refine ah.CG _ k w _ ?_;(delta ah.p_ cc ao r1;dsimp only);refine(zN h k).use ?_;rintro _ _ ⟨rfl,rfl⟩;refine⟨_,rfl,⟨λh1=>?_,λh1=>⟨(λh=>by cases h),λ_=>⟨by rw[h1];rfl,rfl⟩⟩⟩⟩;have c:0<=k/\k<n:=by simpa using h1
 obtain⟨m,rfl⟩:=uo c.1;refine⟨_,rfl,s1,h.aT,(qx h.now (k:=m) I I).use ?_⟩;rintro _ _ ⟨rfl,rfl⟩;refine⟨_,rfl,λa=>⟨_,rfl,s2,h.a8,(qx h.sure (k:=m) I I).use ?_⟩,λa=>⟨by rw[h1,dO,a];rfl,rfl⟩⟩;rintro _ _ ⟨rfl,rfl⟩;exact⟨_,rfl,by rw[h1,dO,a];rfl,rfl⟩
end
theorem EI:ia aj 215 5 1 1:=⟨by kernel_rfl⟩
theorem EJ:ia aj 48 5 1 1:=⟨by kernel_rfl⟩
theorem EK(n:Nat):gw aj 5 n=(List.replicate n (.int .u8 0)).toArray:=x_ (by kernel_rfl) (by kernel_rfl) n
theorem wq(f:Nat->al)(m:Nat):∀v∈eI f m,Plain v:=by
 intro v a;obtain⟨i,_,rfl⟩:=e6.1 a;trivial
theorem zS{w:J}{s:ad}{xs:O Y}(h:Src 1 w s xs)(d:∀v∈xs,Plain v)(j:s.len<=1000000):
 aL aj 194 #[s] w (λv w'=>∃b:ad,v=b/\aZ 1 5 w' b xs/\Ext w w'/\∀k,aC b k->w.heap.size<=k):=by
 refine okF (ah.r2 s) az.r2 func194 ?_;delta ah.r2 an ao aa;refine⟨λc=>?_,λ_=>?_⟩
 .have c:s.a=none:=by simpa using c
  rw[h.nil c];exact⟨⟨none,0,0⟩,rfl,aZ.none _ _ _,.refl _ _,λk e=>(hN k e).elim⟩
 .obtain⟨b,w',h1,f,l,g,i,_⟩:=EI.clone (dK:=215) h d I
  exact⟨b,w',h1,b,rfl,f,g,i⟩
theorem EL{w:J}{s:ad}{xs:O Y}(h:Src 1 w s xs)(d:∀v∈xs,Plain v)(j:s.len<=1000000):
 aL aj 135 #[s] w (λv w'=>∃b:ad,v=b/\aZ 1 5 w' b xs/\Ext w w'/\∀k,aC b k->w.heap.size<=k):=by
 refine okF (ah.mE s) az.mE func135 ?_;delta ah.mE an ao aa;refine⟨λc=>?_,λ_=>?_⟩
 .have c:s.a=none:=by simpa using c
  rw[h.nil c];exact⟨⟨none,0,0⟩,rfl,aZ.none _ _ _,.refl _ _,λk e=>(hN k e).elim⟩
 .obtain⟨b,w',h1,f,l,g,i,_⟩:=EJ.clone (dK:=48) h d I
  exact⟨b,w',h1,b,rfl,f,g,i⟩
section
variable {w w':J}{b n:Nat}{f g:Nat->al}{s1 s2:ad}
theorem qy{T:TypeId}{m:Nat}(h:aZ 1 T w s1 (eI f m)):s1.len=m:=by
 have:=h.1;rw[wk]at this;omega
theorem zT{m:Nat}{u:Y}(c:bg w b #[n,s1,u] 218)(h1:aZ 1 5 w s1 (eI f m))(hd:∀k,aC s1 k->k≠b)(g:m<=1000000):
 aL aj 131 #[.pointer (some b)] w (λv w'=>v=.tuple #[]/\∃a:ad,bg w' b #[n,s1,a] 218/\
  aZ 1 5 w' s1 (eI f m)/\aZ 1 5 w' a (eI f m)/\ae (λk=>k=b) w w'/\∀k,aC a k->w.heap.size<=k):=by
 refine ah.Co _ w _ ?_;(delta ah.p0 an ao r1 bJ st;dsimp only);refine⟨λ_=>⟨_,rfl,s1,by rw[ay,c.cell];rfl,(zS h1.src (wq f m) (by rw[qy h1];exact g)).use ?_⟩,λh=>by simp at h⟩;rintro _ ai ⟨a,rfl,i,hx,hf⟩;have d:=c.ext hx;have j:∀k,aC a k->k≠b:=λk l e=>by have:=hf k l;have:=c.lt;omega
 refine⟨a,rfl,_,rfl,⟨_,by rw[ay,d.cell];rfl⟩,d.frozen _ rfl,rfl,a,?_,?_,?_,?_,hf⟩
 .rw[ay];exact d.set 2 _
 .exact(h1.ext hx).af (W:=λk=>k=b) (ae.set (.refl _ _) (λ_=>by rw[ay]) _) hd
 .exact i.af (W:=λk=>k=b) (ae.set (.refl _ _) (λ_=>by rw[ay]) _) j
 .exact(ae.cN hx).set (λ_=>by rw[ay]) _
theorem EM(h:eJ w b n f g s1 s2):
 aL aj 131 #[.pointer (some b)] w (λv w'=>v=.tuple #[]/\∃c:ad,eJ w' b n f f s1 c/\ae (fb b s1 s2) w w'/\∀k,fb b s1 c k->fb b s1 s2 k\/w.heap.size<=k):=by
 have o:=h.bx;refine(zT h.b2 h.now (λk a=>(h.d1 k a).1) I).mono ?_;rintro _ w' ⟨rfl,c,h1,i,j,l,d⟩;refine⟨rfl,c,⟨h1,i,j,λk a=>⟨(h.d1 k a).1,λm=>?_⟩,λk a e=>?_,h.bL,h.bx,h.pf,h.pf⟩,l.mono λk _ a=>.inl a,λk a=>?_⟩
 .have:=d k m;have:=h.now.lt k a;omega
 .have:=d k a;have:=h.b2.lt;omega
 .rcases a with rfl|a|a
  .exact .inl (.inl rfl)
  .exact .inl (.inr (.inl a))
  .exact .inr (d k a)
theorem EN(h:eJ w b n f g s1 s2):
 aL aj 144 #[.pointer (some b)] w (λv w'=>v=.tuple #[]/\∃c:ad,eJ w' b n g g c s2/\ae (fb b s1 s2) w w'/\∀k,fb b c s2 k->fb b s1 s2 k\/w.heap.size<=k):=by
 have m:=h.bx;refine ah.Cp _ w _ ?_;(delta ah.p1 an ao r1 bJ st;dsimp only);refine⟨λ_=>⟨_,rfl,s2,h.a8,(zS h.sure.src (wq g _) (by rw[qy h.sure];omega)).use ?_⟩,λh=>by simp at h⟩;rintro _ ai ⟨c,rfl,j,hx,hf⟩;have d:=h.b2.ext hx;have i:∀k,aC c k->k≠b:=λk a e=>by have:=hf k a;have:=h.b2.lt;omega
 refine⟨c,rfl,_,rfl,⟨_,by rw[ay,d.cell];rfl⟩,d.frozen _ rfl,rfl,c,⟨?_,?_,?_,λk a=>⟨i k a,λl=>?_⟩,h.d2,h.bL,h.bx,h.c4,h.c4⟩,?_,λk a=>?_⟩
 .rw[ay];exact d.set 1 _
 .exact j.af (W:=λk=>k=b) (ae.set (.refl _ _) (λ_=>by rw[ay]) _) i
 .exact(h.sure.ext hx).af (W:=λk=>k=b) (ae.set (.refl _ _) (λ_=>by rw[ay]) _) h.d2
 .have:=hf k a;have:=h.sure.lt k l;omega
 .exact(ae.cN hx).set (λ_=>by rw[ay];exact .inl rfl) _
 .rcases a with rfl|a|a
  .exact .inl (.inl rfl)
  .exact .inr (hf k a)
  .exact .inl (.inr (.inr a))
def oU(x:Nat):Nat:=(x.testBit 0).toNat+(x.testBit 1).toNat+(x.testBit 2).toNat+(x.testBit 3).toNat+(x.testBit 4).toNat+(x.testBit 5).toNat+(x.testBit 6).toNat+(x.testBit 7).toNat
def eu(t:Nat->al):Nat->Nat
 |0=>0
 |k+1=>eu t k+(t k).toNat
theorem l1(t:Nat->al):∀k,eu t k<=k
 |0=>bl _
 |k+1=>by have:=l1 t k;have:=Bool.toNat_le (t k);simp only[eu];omega
theorem EO(t:Nat->al)(i:Nat):eu t (8*(i+1))=eu t (8*i)+oU (byteOf t i):=by
 have h:∀j,j<8->(byteOf t i).testBit j=t (8*i+j):=λj a=>nd t i j a;unfold oU;rw[h 0 I,h 1 I,h 2 I,h 3 I,h 4 I,h 5 I,h 6 I,h 7 I];show eu t (8*i+7+1)=_;simp only[eu,k8];omega
theorem zU(t:Nat->al)(n:Nat)(h:∀i,n<=i->t i=false):∀k,eu t (n+k)=eu t n
 |0=>rfl
 |k+1=>by
  have:=zU t n h k
  show eu t (n+k)+(t (n+k)).toNat=_
  rw[this,h (n+k) I]
  rfl
theorem EP:∀x:Nat,x<256->(uA (ByteArray.mk #[0,1,1,2,1,2,2,3,1,2,2,3,2,3,3,4,1,2,2,3,2,3,3,4,2,3,3,4,3,4,4,5,1,2,2,3,2,3,3,4,2,3,3,4,3,4,4,5,2,3,3,4,3,4,4,5,3,4,4,5,4,5,5,6,1,2,2,3,2,3,3,4,2,3,3,4,3,4,4,5,2,3,3,4,3,4,4,5,3,4,4,5,4,5,5,6,2,3,3,4,3,4,4,5,3,4,4,5,4,5,5,6,3,4,4,5,4,5,5,6,4,5,5,6,5,6,6,7,1,2,2,3,2,3,3,4,2,3,3,4,3,4,4,5,2,3,3,4,3,4,4,5,3,4,4,5,4,5,5,6,2,3,3,4,3,4,4,5,3,4,4,5,4,5,5,6,3,4,4,5,4,5,5,6,4,5,5,6,5,6,6,7,2,3,3,4,3,4,4,5,3,4,4,5,4,5,5,6,3,4,4,5,4,5,5,6,4,5,5,6,5,6,6,7,3,4,4,5,4,5,5,6,4,5,5,6,5,6,6,7,4,5,5,6,5,6,6,7,5,6,6,7,6,7,7,8]) x).map (·.toNat)=some (oU x):=by decide+kernel
theorem zV(x:Nat):oU x<=8:=by
 unfold oU;have h:∀b:al,b.toNat<=1:=Bool.toNat_le;have:=h (x.testBit 0);have:=h (x.testBit 1);have:=h (x.testBit 2);have:=h (x.testBit 3);have:=h (x.testBit 4);have:=h (x.testBit 5);have:=h (x.testBit 6);have:=h (x.testBit 7);omega
theorem ER(w:J)(x:Nat)(hx:x<256):aL aj 202 #[.int .u8 x] w (λv w'=>v=.int .i64 (oU x)/\w=w'):=by
 refine okF (ah.r3 x) az.r3 func202 ?_;delta ah.r3 au;have h:=EP x hx;refine⟨I,?_⟩
 cases a:uA _ x with
 |none=>rw[a]at h;cases h
 |some y=>
  rw[a]at h;simp only[kC,Option.some.injEq]at h;refine⟨y,a,?_,rfl⟩;rw[h,bz I (by have:=zV x;omega)]
theorem ES(f g:Nat->al)(i:Nat):byteOf f i|||byteOf g i=byteOf (λk=>f k||g k) i:=
 wi _ _ _ (wj _ (jC _ _) _ (jC _ _)) λj a=>by rw[k9,nd _ _ _ a,nd _ _ _ a]
theorem wu(h:eJ w b n f g s1 s2):
 aL aj 148 #[.pointer (some b)] w (λv w'=>v=.int .i64 ((n:Int)-eu (λi=>f i||g i) n)/\Ext w w'):=by
 have p:=h.bx;have q:=qy h.now;have s:=qy h.sure;refine ah.Cq _ w _ ?_;(delta ah.p2 an ao aF r1 aK en b7 au;dsimp only);refine⟨λh1=>by simp at h1,λ_=>⟨_,rfl,n,h.bQ,_,rfl,s1,h.aT,λr i w'=>∃k:Nat,i=k/\k<=s1.len/\Ext w w'/\r=(n:Int)-eu (λi=>f i||g i) (8*k),λ_ i _=>((s1.len:Int)-i).toNat,⟨0,rfl,I,.refl _ _,by simp[eu]⟩,?_⟩⟩;rintro _ _ w1 ⟨k,rfl,t,hx,rfl⟩;refine⟨λaI=>?_,λc=>?_⟩
 .have d:k<s1.len:=by simpa using aI
  have h1:=h.ext hx.drew;obtain⟨cf,aT,j,u,_,_,_,l,_⟩:=h1.now.cell (nf f (i:=k) I);obtain⟨bH,a8,m,x,_,_,_,o,_⟩:=h1.sure.cell (nf g (i:=k) I);have a:∀b:Nat,(Addr.mk b 0 none).add (Int.toNat (k:Int)*1)=⟨b,k,none⟩:=λb=>by rw[fH,dO,ay,cU]
  refine⟨λ_=>False,_,rfl,by simp,s1,h1.aT,_,j,I,by simp,_,by rw[a];exact l,_,rfl,by simp,s2,h1.a8,_,m,I,by simp,_,by rw[a];exact o,?_⟩;rw[Eu _ _ (jC _ _) (jC _ _),ES];refine(ER _ _ (jC _ _)).use ?_;rintro _ _ ⟨rfl,rfl⟩;have:=zV (byteOf (λi=>f i||g i) k);have:=l1 (λi=>f i||g i) (8*k);refine⟨_,rfl,.refl _ _,?_⟩;rw[bz (n:=(n:Int)-_-_) I I,bz (n:=(k:Int)+1) I I];exact⟨⟨k+1,I,I,hx.drew,by rw[EO];omega⟩,(show((s1.len:Int)-((k:Int)+1)).toNat<((s1.len:Int)-(k:Int)).toNat from I)⟩
 .have d:k=s1.len:=by
   have:¬(k:Int)<s1.len:=by simpa using c
   omega
  refine⟨?_,hx⟩;have e:8*k=n+(8*k-n):=by omega
  rw[e,zU _ _ (λi hi=>by simp[h.pf i hi,h.c4 i hi])]
theorem zW(h:eJ w b n f g s1 s2):
 aL aj 74 #[.pointer (some b)] w (λv w'=>∃s:ad,v=s/\aZ 1 5 w' s (eI f ((n+7)/8))/\Ext w w'/\∀k,aC s k->w.heap.size<=k):=by
 have c:=h.bx;refine ah.Ch _ w _ ?_;(delta ah.pX ao r1 bJ;dsimp only);refine⟨λh1=>by simp at h1,λ_=>⟨_,rfl,s1,h.aT,(EL h.now.src (wq f _) (by rw[qy h.now];omega)).use ?_⟩⟩;rintro _ ai ⟨s,rfl,a,hx,hf⟩;exact⟨s,rfl,s,rfl,a,hx,hf⟩
end
theorem ET(w:J)(n:Int):aL aj 128 #[n] w (λv w'=>v=.bool (decide (1<=n/\n<=1600))/\w=w'):=by
 refine okF (ah.sx n) az.sx func128 ?_;unfold ah.sx;refine⟨?_,rfl⟩;simp[Bool.decide_and]
theorem EU(w:J)(n:Nat)(a:n<=1600):aL aj 129 #[n] w (λv w'=>v=.int .i64 (((n+7)/8:Nat):Int)/\w=w'):=by
 refine okF (ah.sy n) az.sy func129 ?_;delta ah.sy au;refine⟨by decide,?_,rfl⟩;rw[bz (n:=(n:Int)+8) I I,bz (n:=(n:Int)+8-1) I I,show(n:Int)+8-1=((n+7:Nat):Int) from I,zK,bz I I]
theorem EV(m:Nat):eI (λi=>decide (i<0)) m=List.replicate m (.int .u8 0):=by
 apply qT
 .simp[eI]
 .intro i h1 a
  simp[eI,byteOf,j5]
theorem EW(j:Nat):da (λi=>decide (i<j)) j true=λi=>decide (i<j+1):=by
 funext i;unfold da;split
 .rename_i h;simp[h]
 .rename_i h;simp;omega
theorem n2(w:J)(n first:Int):
 aL aj 71 #[.int .i64 n,.int .i64 first] w (λv w'=>(¬(1<=n/\n<=1600/\0<=first/\first<=n)/\v=.tuple #[.pointer none,.int .i64 1]/\w=w')\/
  (1<=n/\n<=1600/\0<=first/\first<=n/\∃b s1 s2,v=.tuple #[.pointer (some ⟨b,0,none⟩),.int .i64 0]/\eJ w' b n.toNat (λi=>decide (i<first.toNat)) (λi=>decide (i<first.toNat)) s1 s2/\Ext w w'/\∀k,fb b s1 s2 k->w.heap.size<=k)):=by
 refine okF (ah.n2 n first) az.n2 func71 ?_;(delta ah.n2 an cc ao b7 jt aa r1 fS au;dsimp only);refine(ET w n).use ?_;rintro _ _ ⟨rfl,rfl⟩;refine⟨_,rfl,λh=>.inl ⟨λhc=>?_,rfl,rfl⟩,λh=>?_⟩
 .simp at h;omega
 simp at h;obtain⟨⟨⟨F,G⟩,H⟩,K⟩:=h;obtain⟨n,rfl⟩:=uo (by omega:0<=n);obtain⟨first,rfl⟩:=uo (by omega:0<=first);refine(EU w n I).use ?_;rintro _ _ ⟨rfl,rfl⟩;refine⟨_,rfl,I,?_⟩;simp only[dO];rw[EK];obtain⟨m,f⟩:∃m,m=(n+7)/8:=⟨_,rfl⟩;rw[←f];have l:=aZ.new (sz:=1) (T:=5) w (List.replicate m (.int .u8 0)) m (by simp) (by show m<=2^63-1;omega);rw[←EV]at l⊢;have aq:Ext w (w.alloc (.cells (eI (λi=>decide (i<0)) m).toArray 5)):=ae.alloc (.refl _ _) _;generalize s:w.alloc (.cells (eI (λi=>decide (i<0)) m).toArray 5)=w1 at*;have L:w1.heap.size=w.heap.size+1:=by rw[←s];simp
 have t:=bg.new w1 #[.int .i64 (n:Int),.slice (some ⟨w.heap.size,0,none⟩) m m,.slice none 0 0] 218;have u:=ae.alloc aq (.cells #[.int .i64 (n:Int),.slice (some ⟨w.heap.size,0,none⟩) m m,.slice none 0 0] 218);have x:=l.ext (ae.alloc (.refl _ w1) (.cells #[.int .i64 (n:Int),.slice (some ⟨w.heap.size,0,none⟩) m m,.slice none 0 0] 218));refine⟨λi w'=>∃j:Nat,i=j/\j<=first/\Ext w w'/\bg w' w1.heap.size #[.int .i64 (n:Int),.slice (some ⟨w.heap.size,0,none⟩) m m,.slice none 0 0] 218/\
  aZ 1 5 w' ⟨some ⟨w.heap.size,0,none⟩,m,m⟩ (eI (λi=>decide (i<j)) m),λi _=>((first:Int)-i).toNat,⟨0,rfl,I,u,t,x⟩,?_⟩
 rintro _ ai ⟨j,rfl,M,hx,d,o⟩;refine⟨λaI=>?_,λy=>?_⟩
 .have p:j<first:=by simpa using aI
  refine⟨_,rfl,⟨some ⟨w.heap.size,0,none⟩,m,m⟩,by rw[ay,d.cell];rfl,(zM o (k:=j) I I).use ?_⟩;rintro _ z ⟨rfl,q,hc⟩;rw[EW]at q;rw[bz I I];refine⟨rfl,⟨j+1,I,I,?_,d.af hc ?_,q⟩,(show((first:Int)-((j:Int)+1)).toNat<((first:Int)-(j:Int)).toNat from I)⟩
  .exact((ae.cN hx).trans hc).mono λk a c=>by rw[nS]at c;simp at c;omega
  .intro c
   rw[nS]at c;simp at c;omega
 .have p:j=first:=by
   have:¬(j:Int)<first:=by simpa using y
   omega
  subst p;have r:∀i,n<=i->decide (i<j)=false:=λi hi=>by simp;omega
  refine(zT d o (λk a e=>?_) I).use ?_
  .rw[nS]at a
   simp at a;omega
  rintro _ z ⟨rfl,A,h1,B,C,D,g⟩;have N:=d.lt;refine⟨rfl,.inr ⟨I,I,I,I,w1.heap.size,⟨some ⟨w.heap.size,0,none⟩,m,m⟩,A,rfl,⟨h1,?_,?_,λk a=>⟨λe=>?_,λE=>?_⟩,λk a e=>?_,I,I,r,r⟩,?_,?_⟩⟩
  .simp only[←f];exact B
  .simp only[←f];exact C
  .rw[nS]at a
   simp at a;omega
  .rw[nS]at a
   simp at a;have:=g k E;omega
  .have:=g k a
   omega
  .exact((ae.cN hx).trans D).mono λk a e=>by omega
  .rintro k (rfl|a|a)
   .omega
   .rw[nS]at a
    simp at a;omega
   .have:=g k a
    have:=hx.size;omega
structure Fr where
 full:al
 fc:al
 used:al
 no:Int
 pins:Int
 b:ad
 l:c2
def Fr.c(f:Fr):O Y:=[f.full,f.fc,f.used,f.no,f.pins,f.b]
def dp:Fr:=⟨false,false,false,0,0,⟨none,0,0⟩,[]⟩
structure bM where
 c:Nat
 aV:Nat
 ak:O Fr
 hand:Nat
 D:a6
def cP(C:bM)(q:Nat):Prop:=q=C.c\/q=C.aV\/b9 C.D q
structure eO(w:J)(C:bM):Prop where
 v:Var w C.c [.pointer (some C.D.d),.slice (some C.aV) C.ak.length C.ak.length,C.hand] 281
 f:bg w C.aV (b8 Fr.c C.ak).toArray 288
 dev:c3 w C.D
 cn:8<=C.ak.length
 cp:C.ak.length<=64
 hd:C.hand<C.ak.length
 a1:C.c≠C.aV/\¬b9 C.D C.c/\¬b9 C.D C.aV
structure zX(X:Nat->Prop)(w:J)(C:bM)(f:Fr)(no:Nat):Prop where
 num:f.no=no
 lt:no<C.D.n
 GD:bn (λq=>¬cP C q/\¬X q) w f.b f.l
 len:f.l.length=256
 clean:f.fc=false->f.l=C.D.now no
 bB:C.D.bB no=true->f.fc=false
 two:2<=no
structure fM(X:Nat->Prop)(w:J)(C:bM):Prop where
 pins:∀f∈C.ak,f.pins=0
 ok:∀f∈C.ak,f.full=true->∃no:Nat,zX X w C f no
 un:∀ (i j:Nat) (hi:i<C.ak.length) (a:j<C.ak.length),(C.ak[i]).full=true->(C.ak[j]).full=true->(C.ak[i]).no=(C.ak[j]).no->i=j
 eK:∀q,X q->q<w.heap.size/\¬cP C q
 kq:∀j,C.D.bB j=true->C.D.dE j=C.D.dU j
def jD(aw D:a6):Prop:=aw.n=D.n/\(∀j,aw.bB j=true->D.bB j=true)/\∀j,aw.bB j=true->aw.dE j=aw.dU j
theorem fM.qz{X:Nat->Prop}{w:J}{C:bM}(h:fM X w C):jD C.D C.D:=⟨rfl,λ_ h=>h,h.kq⟩
theorem fM.cm{X:Nat->Prop}{w:J}{C:bM}(h:fM X w C)(k:Nat):jD (C.D.cm k) C.D:=⟨rfl,λ_ h=>h,h.kq⟩
structure dB(X:Nat->Prop)(w:J)(C:bM):Prop where
 raw:eO w C
 inv:fM X w C
def bM.view(C:bM)(no:Nat):c2:=match C.ak.find? λf=>f.full&&f.no==(no:Int) with
 |some f=>f.l
 |none=>C.D.now no
theorem Fr.bS(f:Fr):f.c.length=6:=rfl
theorem tM(l:O Fr):∀x∈l,(Fr.c x).length=6:=λx _=>rfl
section
variable {w w':J}{C:bM}{X:Nat->Prop}
theorem eO.lt(h:eO w C){q:Nat}(a:cP C q):q<w.heap.size:=by
 rcases a with rfl|rfl|a
 .exact h.v.lt
 .exact bg.lt h.f
 .exact h.dev.lt a
theorem eO.af{W:Nat->Prop}(h:eO w C)(hc:ae W w w')(a:∀q,cP C q->¬W q):eO w' C:=
 ⟨h.v.af hc (a _ (.inl rfl)),bg.af h.f hc (a _ (.inr (.inl rfl))),h.dev.af hc λq b=>a q (.inr (.inr b)),h.cn,h.cp,h.hd,h.a1⟩
theorem eO.ext(h:eO w C)(hc:Ext w w'):eO w' C:=h.af hc λ_ _ h=>h
theorem fM.af{W:Nat->Prop}(h:fM X w C)(hc:ae W w w')(b:∀q,W q->cP C q\/X q):fM X w' C:=
 ⟨h.pins,λf hf c=>by
  obtain⟨no,av,d,e,g,i,j,k⟩:=h.ok f hf c
  exact⟨no,av,d,bn.af e hc λq a l=>by
   rcases b q l with h1|h1
   .exact a.1 h1
   .exact a.2 h1,g,i,j,k⟩,h.un,λq a=>⟨fm (h.eK q a).1 hc.size,(h.eK q a).2⟩,h.kq⟩
theorem dB.af{W:Nat->Prop}(h:dB X w C)(hc:ae W w w')(b:∀q,W q->X q):dB X w' C:=
 ⟨h.raw.af hc λq c a=>(h.inv.eK q (b q a)).2 c,h.inv.af hc λq a=>.inr (b q a)⟩
theorem dB.ext(h:dB X w C)(hc:Ext w w'):dB X w' C:=h.af hc λ_ h=>h.elim
theorem qA(aV i:Nat):Addr.add aV (Int.toNat (i:Int)*6)=⟨aV,i*6,none⟩:=by rw[dO,ay,cU]
theorem eO.cells(h:eO w C):w.cell? C.c=some (.pointer (some C.D.d))/\w.cell? (Addr.add C.c 1)=some (.slice (some C.aV) C.ak.length C.ak.length)/\w.cell? (Addr.add C.c 2)=some (.int .i64 C.hand):=by
 rw[ay,ay];exact⟨h.v.cell,h.v.cell,h.v.cell⟩
theorem jc{w:J}{aV:Nat}{fs:O Fr}{T:TypeId}(h:bg w aV (b8 Fr.c fs).toArray T){i j:Nat}(hi:i<fs.length)(a:j<6):w.cell? ⟨aV,i*6+j,none⟩=((fs[i]).c)[j]? :=by
 rw[bg.cell h];simp only[qQ];exact wa (tM fs) hi a
theorem l2{w:J}{aV:Nat}{fs:O Fr}{T:TypeId}(h:bg w aV (b8 Fr.c fs).toArray T){i j:Nat}(hi:i<fs.length)(a:j<6){v:Y}(b:Fr)(hf:b.c=(fs[i]).c.set j v):
 (∃u:Y,w.cell? ⟨aV,i*6+j,none⟩=some u)/\w.frozen? ⟨aV,i*6+j,none⟩=false/\bg (w.setCell ⟨aV,i*6+j,none⟩ v) aV (b8 Fr.c (fs.set i b)).toArray T/\ae (λq=>q=aV) w (w.setCell ⟨aV,i*6+j,none⟩ v):=by
 refine⟨⟨((fs[i]).c)[j]'(by rw[Fr.bS];exact a),by rw[jc h hi a,dI (by rw[Fr.bS];exact a)]⟩,bg.frozen h _ rfl,?_,dL _ _ _ _⟩;have:=ep (vs:=b8 Fr.c fs) h (i:=i*6+j) v;rw[D5 (tM fs) hi a hf]at this;exact this
theorem wv{w:J}{aV:Nat}{fs:O Fr}{T:TypeId}(h:bg w aV (b8 Fr.c fs).toArray T){i:Nat}(hi:i<fs.length)(a:Fr):
 bh w ⟨aV,i*6,none⟩ a.c/\bg (setCells w ⟨aV,i*6,none⟩ 0 a.c) aV (b8 Fr.c (fs.set i a)).toArray T/\ae (λq=>q=aV) w (setCells w ⟨aV,i*6,none⟩ 0 a.c):=by
 have f:=hW (c:=Fr.c) fs (tM fs);have d:i*6+a.c.length<=(b8 Fr.c fs).toArray.size:=by
  rw[qZ,f,Fr.bS];omega
 refine⟨bg.bU h _ _ d ?_,?_,ae.jT (.refl _ _) _ 0⟩
 .intro v b
  unfold Fr.c at b;simp only[c7,ff,fp]at b;rcases b with rfl|rfl|rfl|rfl|rfl|rfl<;>trivial
 .have h0:=bg.lD (o:=i*6) h a.c
  have e:fR (b8 Fr.c fs).toArray (i*6) a.c=(b8 Fr.c (fs.set i a)).toArray:=by
   have h1:=lC a.c (b8 Fr.c fs).toArray (i*6) d;have g:=zt (tM fs) hi a;have j:a.c.length=6:=rfl;rw[j]at h1;have k:(fR (b8 Fr.c fs).toArray (i*6) a.c).toList=b8 Fr.c (fs.set i a):=h1.trans g;rw[←k]
  rw[e]at h0;exact h0
theorem zY(h:eO w C)(no:Int):aL aj 220 #[.pointer (some C.c),no] w (λv w'=>v=.bool (decide (0<=no/\no<C.D.n))/\w=w'):=by
 refine okF (ah.sT (some C.c) no) az.sT func220 ?_;delta ah.sT ao b7;refine cH (λb w'=>b=decide (0<=no/\no<C.D.n)/\w=w') (λq d=>⟨λa=>⟨_,rfl,_,h.cells.1,(tJ h.dev).use ?_⟩,λa=>d _ _ ⟨?_,rfl⟩⟩) ?_
 .rintro _ _ ⟨rfl,rfl⟩
  have a:0<=no:=by simpa using a
  refine⟨_,rfl,d _ _ ⟨?_,rfl⟩⟩;rw[fA,cA,cA];exact⟨λh=>⟨a,h⟩,λh=>h.2⟩
 .have a:¬0<=no:=by simpa using a
  rw[iw (λh=>a h.1)]
 .rintro _ _ ⟨rfl,rfl⟩
  exact⟨rfl,rfl⟩
def AtR(C:bM)(no:Int)(v:Y):Prop:=
 (∃ (i:Nat) (hi:i<C.ak.length),v=.pointer (some ⟨C.aV,i*6,none⟩)/\(C.ak[i]).full=true/\(C.ak[i]).no=no)\/
 (v=.pointer none/\∀f∈C.ak,f.full=true->f.no≠no)
theorem tN(h:eO w C)(no:Int):aL aj 201 #[.pointer (some C.c),no] w (λv w'=>AtR C no v/\w=w'):=by
 obtain⟨bQ,aT,a8⟩:=h.cells;have d:=h.cp;refine okF (ah.sP (some C.c) no) az.sP func201 ?_;(delta ah.sP ao r1 aK aW aF au;dsimp only);refine⟨λh=>(by cases h),λ_=>⟨_,rfl,⟨some C.aV,C.ak.length,C.ak.length⟩,aT,λi w'=>∃j:Nat,i=j/\j<=C.ak.length/\w=w'/\∀ (k:Nat) (d:k<C.ak.length),k<j->(C.ak[k]).full=true->(C.ak[k]).no≠no,λi _=>((C.ak.length:Int)-i).toNat,⟨0,rfl,cX _,rfl,λk _ h=>I⟩,?_⟩⟩;rintro _ _ ⟨j,rfl,s,rfl,g⟩;refine⟨λaI=>?_,λe=>?_⟩
 .have aI:(j:Int)<(C.ak.length:Int):=cu aI
  have aI:j<C.ak.length:=by omega
  refine⟨_,rfl,⟨some C.aV,C.ak.length,C.ak.length⟩,aT,_,rfl,⟨I,by show(j:Int)<(C.ak.length:Int);omega⟩,_,rfl,?_⟩;rw[qA];have f0:=jc h.f aI (j:=0) (by decide);have f3:=jc h.f aI (j:=3) (by decide);refine⟨(C.ak[j]).full,f0,cH (λb w'=>w=w'/\(b=true↔((C.ak[j]).full=true/\(C.ak[j]).no=no))) (λq l=>⟨λa=>⟨_,rfl,(C.ak[j]).no,by rw[ay];exact f3,l _ _ ⟨rfl,?_⟩⟩,λa=>l _ _ ⟨rfl,?_⟩⟩) ?_⟩
  .rw[ji]
   exact⟨λh=>⟨a,h⟩,λh=>h.2⟩
  .rw[a]
   exact⟨λh=>(by cases h),λh=>(by cases h.1)⟩
  rintro b w' ⟨rfl,a⟩;refine⟨λh1=>⟨.inl ⟨j,aI,rfl,(a.1 h1).1,(a.1 h1).2⟩,rfl⟩,λh1=>?_⟩;rw[bz (n:=(j:Int)+1) I I];refine⟨⟨j+1,I,I,rfl,λk d t m=>?_⟩,?_⟩
  .rcases ed k j with o|o
   .exact g k d o m
   .have:k=j:=by omega
    subst this;intro p;rw[a.2 ⟨m,p⟩]at h1;cases h1
  .show((C.ak.length:Int)-((j:Int)+1)).toNat<((C.ak.length:Int)-(j:Int)).toNat
   omega
 .have e:j=C.ak.length:=by
   have:¬((j:Int)<(C.ak.length:Int)):=cQ e;omega
  subst e;refine⟨.inr ⟨rfl,λf hf r=>?_⟩,rfl⟩;obtain⟨k,d,rfl⟩:=e0 hf;exact g k d d r
theorem EX(h:eO w C):aL aj 267 #[.pointer (some C.c)] w (λv w'=>((∃ (i:Nat) (hi:i<C.ak.length),v=.pointer (some ⟨C.aV,i*6,none⟩)/\(C.ak[i]).full=false)\/(v=.pointer none/\∀f∈C.ak,f.full=true))/\w=w'):=by
 obtain⟨bQ,aT,a8⟩:=h.cells;have a:=h.cp;refine okF (ah.s0 (some C.c)) az.s0 func267 ?_;(delta ah.s0 r1 ao aK aW au;dsimp only);refine⟨_,rfl,⟨some C.aV,C.ak.length,C.ak.length⟩,aT,λi w'=>∃j:Nat,i=j/\j<=C.ak.length/\w=w'/\∀ (k:Nat) (a:k<C.ak.length),k<j->(C.ak[k]).full=true,λi _=>((C.ak.length:Int)-i).toNat,⟨0,rfl,cX _,rfl,λk _ h=>I⟩,?_⟩;rintro _ _ ⟨j,rfl,l,rfl,e⟩;refine⟨λaI=>?_,λb=>?_⟩
 .have aI:(j:Int)<(C.ak.length:Int):=cu aI
  have aI:j<C.ak.length:=by omega
  have f0:=jc h.f aI (j:=0) (by decide);refine⟨_,rfl,⟨some C.aV,C.ak.length,C.ak.length⟩,aT,_,rfl,⟨I,by show(j:Int)<(C.ak.length:Int);omega⟩,(C.ak[j]).full,by rw[qA];exact f0,λd=>⟨_,rfl,⟨some C.aV,C.ak.length,C.ak.length⟩,aT,_,rfl,⟨I,by show(j:Int)<(C.ak.length:Int);omega⟩,.inl ⟨j,aI,by rw[qA],by simpa using d⟩,rfl⟩,λd=>?_⟩;rw[bz (n:=(j:Int)+1) I I];refine⟨⟨j+1,I,I,rfl,λk a m=>?_⟩,?_⟩
  .rcases ed k j with g|g
   .exact e k a g
   .have:k=j:=by omega
    subst this;simpa using d
  .show((C.ak.length:Int)-((j:Int)+1)).toNat<((C.ak.length:Int)-(j:Int)).toNat
   omega
 .have b:j=C.ak.length:=by
   have:¬((j:Int)<(C.ak.length:Int)):=cQ b;omega
  subst b;refine⟨.inr ⟨rfl,λf hf=>?_⟩,rfl⟩;obtain⟨k,a,rfl⟩:=e0 hf;exact e k a a
def gP(fs gs:O Fr):Prop:=gs.length=fs.length/\∀ (i:Nat) (h1:i<fs.length) (a:i<gs.length),gs[i]={fs[i] with used:=(gs[i]).used}
theorem gP.refl(fs:O Fr):gP fs fs:=⟨rfl,λi h1 a=>rfl⟩
theorem gP.set{fs gs:O Fr}(h:gP fs gs){i:Nat}(hi:i<gs.length)(u:al):gP fs (gs.set i {gs[i] with used:=u}):=by
 refine⟨by rw[dd];exact h.1,λj h1 a=>?_⟩;rw[o9];split
 .rename_i e
  subst e;have:=h.2 i h1 hi;rw[this]
 .exact h.2 j h1 _
theorem EY(h:eO w C)(B:∀f∈C.ak,f.pins=0):aL aj 268 #[.pointer (some C.c)] w (λv w'=>∃ (i:Nat) (gs:O Fr) (hd:Nat),i<C.ak.length/\v=.pointer (some ⟨C.aV,i*6,none⟩)/\gP C.ak gs/\eO w' {C with ak:=gs,hand:=hd}/\ae (λq=>q=C.c\/q=C.aV) w w'):=by
 obtain⟨bQ,aT,a8⟩:=h.cells;have R:=h.cn;have S:=h.cp;have D:=h.hd;refine okF (ah.s3 (some C.c)) az.s3 func268 ?_;(delta ah.s3 aF r1 ao au aK aW st;dsimp only);refine⟨_,rfl,_,a8,_,rfl,⟨some C.aV,C.ak.length,C.ak.length⟩,aT,λat' i w'=>∃ (s:Nat) (gs:O Fr),i=s/\s<=C.ak.length/\at'=(((C.hand+s)%C.ak.length:Nat):Int)/\gP C.ak gs/\eO w' {C with ak:=gs}/\ae (λq=>q=C.c\/q=C.aV) w w'/\∀ (t:Nat) (hx:(C.hand+t)%C.ak.length<gs.length),t<s->(gs[(C.hand+t)%C.ak.length]).used=false,
  λ_ i _=>(2*(C.ak.length:Int)-i).toNat,⟨0,C.ak,rfl,cX _,by rw[k8,iL D],gP.refl _,h,.refl _ _,λt _ h=>I⟩,?_⟩
 rintro _ _ w1 ⟨s,gs,rfl,hs,rfl,m,b,hc,r⟩;have u:gs.length=C.ak.length:=m.1;obtain⟨i,hi⟩:∃i,i=(C.hand+s)%C.ak.length:=⟨_,rfl⟩;have d:i<gs.length:=by rw[hi,u];exact hG _ I
 rw[←hi];obtain⟨d0,d1,d2⟩:=b.cells;have d1:w1.cell? (Addr.add C.c 1)=some (.slice (some C.aV) gs.length gs.length):=d1;have hf:bg w1 C.aV (b8 Fr.c gs).toArray 288:=b.f;rw[bz (n:=2*(C.ak.length:Int)) I I];have E:IntKind.wrap .i64 ((i:Int)+1)=((i+1:Nat):Int):=by rw[bz I I];rfl
 have x:Int.tmod ((i+1:Nat):Int) (gs.length:Int)=(((i+1)%gs.length:Nat):Int):=by
  rw[pk I];rfl
 have F:(i+1)%gs.length=(C.hand+(s+1))%C.ak.length:=by
  rw[hi,u,Nat.mod_add_mod];rfl
 refine⟨λaI=>?_,λG=>?_⟩
 .refine cH (λa w'=>a=(((C.hand+(s+1))%C.ak.length:Nat):Int)/\∃g:O Fr,s+1<=C.ak.length/\gP C.ak g/\eO w' {C with ak:=g}/\ae (λq=>q=C.c\/q=C.aV) w w'/\∀ (t:Nat) (hx:(C.hand+t)%C.ak.length<g.length),t<s+1->(g[(C.hand+t)%C.ak.length]).used=false) (λq k=>⟨_,rfl,⟨some C.aV,gs.length,gs.length⟩,d1,_,rfl,⟨I,by show(i:Int)<(gs.length:Int);omega⟩,_,rfl,⟨some C.aV,gs.length,gs.length⟩,d1,by show(gs.length:Int)≠0;omega,_,rfl,?_⟩) ?_
  .rw[qA,E]
   have f4:=jc hf d (j:=4) (by decide);have f2:=jc hf d (j:=2) (by decide);have H:(gs[i]).pins=0:=by
    have h1:=m.2 i I d;have l:(gs[i]).pins=(C.ak[i]'I).pins:=by rw[h1]
    rw[l];exact B _ (cI _)
   refine⟨(gs[i]).pins,by rw[ay];exact f4,λy=>?_,λ_=>⟨_,rfl,(gs[i]).used,by rw[ay];exact f2,λhu=>⟨_,rfl,?_⟩,λhu=>⟨_,rfl,?_⟩⟩⟩
   .rw[H]at y;simp at y
   .have J:s<C.ak.length:=by
     rcases ed s C.ak.length with h1|h1
     .exact h1
     .have es:s=C.ak.length:=by omega
      have z:(C.hand+0)%C.ak.length=i:=by rw[hi,es,Nat.add_mod_right];rfl
      have l:=r 0 (by rw[z];exact d) I;have o:(gs[i]).used=false:=by
       have e:gs[(C.hand+0)%C.ak.length]'(by rw[z];exact d)=gs[i]:=by congr 1
       rw[←e];exact l
      rw[o]at hu;cases hu
    obtain⟨av,K,L,p⟩:=l2 hf d (j:=2) (by decide) (v:=false) {gs[i] with used:=false} rfl;rw[ay];refine⟨av,K,aX (k _ _ ⟨by rw[x,F],gs.set i {gs[i] with used:=false},J,m.set d false,?_,hc.trans (p.mono λq _ e=>.inr e),λt hx ht=>?_⟩)⟩
    .have M:=b.v.af p h.a1.1
     refine⟨?_,L,b.dev.af p (λq k e=>h.a1.2.2 (e▸k)),?_,?_,?_,h.a1⟩
     .show Var _ _ [_,.slice (some C.aV) (gs.set i _).length (gs.set i _).length,_] _
      rw[dd];exact M
     .show 8<=(gs.set i _).length;rw[dd];omega
     .show(gs.set i _).length<=64;rw[dd];omega
     .show C.hand<(gs.set i _).length;rw[dd];omega
    .rw[o9]
     split
     .rfl
     .rename_i N
      rcases ed t s with h1|h1
      .exact r t _ h1
      .have:t=s:=by omega
       subst this;exact absurd hi N
   .obtain⟨s1,s2⟩:=er b.v (i:=2) (by simp)
    rw[ay,x];refine⟨s1,s2,aX ⟨i,gs,(i+1)%gs.length,I,rfl,m,?_,hc.trans ((dL _ _ _ _).mono λq _ e=>.inl e)⟩⟩;have A:=dL w1 C.c 2 (.int .i64 (((i+1)%gs.length:Nat):Int));refine⟨ep b.v (i:=2) (.int .i64 (((i+1)%gs.length:Nat):Int)),bg.af hf A (λe=>h.a1.1 e.symm),b.dev.af A (λq k e=>h.a1.2.1 (e▸k)),b.cn,b.cp,?_,h.a1⟩;exact hG _ I
  .rintro a w' ⟨rfl,g,h1,l,o,P,Q⟩
   rw[bz (n:=(s:Int)+1) I I];refine⟨⟨s+1,g,I,h1,rfl,l,o,P,Q⟩,?_⟩;show(2*(C.ak.length:Int)-((s:Int)+1)).toNat<(2*(C.ak.length:Int)-(s:Int)).toNat;omega
 .have:=cQ G
  omega
end
structure dM(C aD:bM)(w w':J)(k:Nat):Prop where
 c:aD.c=C.c
 d:aD.D.d=C.D.d
 len:aD.ak.length=C.ak.length
 bw:aD.D.key=C.D.key
 aQ:aD.D.aQ<=C.D.aQ+k
 calm:∀m,C.D.calm (m+k)->aD.D.calm m
 af:ae (cP C) w w'
 db:∀q,cP aD q->cP C q\/w.heap.size<=q
theorem dM.refl(C:bM)(w:J):dM C C w w 0:=⟨rfl,rfl,rfl,rfl,bl _,λ_ h=>h,.refl _ _,λ_ h=>.inl h⟩
theorem dM.ext{w w':J}(C:bM)(h:Ext w w'):dM C C w w' 0:=⟨rfl,rfl,rfl,rfl,bl _,λ_ h=>h,ae.cN h,λ_ h=>.inl h⟩
theorem dM.trans{C aD b:bM}{w w' e:J}{k l:Nat}(h1:dM C aD w w' k)(a:dM aD b w' e l):dM C b w e (k+l):=by
 have hs:=h1.af.size;refine⟨a.c.trans h1.c,a.d.trans h1.d,a.len.trans h1.len,a.bw.trans h1.bw,by have:=h1.aQ;have:=a.aQ;omega,λm g=>a.calm m (h1.calm (m+l) (by rw[show m+l+k=m+(k+l) from I];exact g)),cS h1.af a.af λq f h=>(h1.db q h).resolve_right I,λq f=>?_⟩;rcases a.db q f with h|h
 .exact h1.db q h
 .exact .inr I
theorem dM.mono{C aD:bM}{w w':J}{k l:Nat}(h:dM C aD w w' k)(b:k<=l):dM C aD w w' l:=
 ⟨h.c,h.d,h.len,h.bw,by have:=h.aQ;omega,λm a=>h.calm m (gp a I),h.af,h.db⟩
theorem dM.bB{C aD:bM}{w w':J}{k:Nat}(h:dM C aD w w' k):aD.D.bB=C.D.bB:=congrArg (λk:(O c2×(Nat->al)×(Nat->O c2)×(Int->Prop)×al)×Int=>k.1.2.1) h.bw
theorem dM.l3{C aD:bM}{w w':J}{k:Nat}(h:dM C aD w w' k):aD.D.bB=C.D.bB/\aD.D.dU=C.D.dU:=⟨h.bB,congrArg (λk:(O c2×(Nat->al)×(Nat->O c2)×(Int->Prop)×al)×Int=>k.1.2.2.1) h.bw⟩
theorem dM.n{C aD:bM}{w w':J}{k:Nat}(h:dM C aD w w' k):aD.D.n=C.D.n:=congrArg (λk:(O c2×(Nat->al)×(Nat->O c2)×(Int->Prop)×al)×Int=>k.1.1.length) h.bw
section
variable {w w':J}{C:bM}{X:Nat->Prop}
theorem k3{fs:O Fr}{D:a6}{c aV hd:Nat}(un:∀ (i j:Nat) (hi:i<fs.length) (d:j<fs.length),(fs[i]).full=true->(fs[j]).full=true->(fs[i]).no=(fs[j]).no->i=j){i:Nat}(hi:i<fs.length){no:Nat}(hf:(fs[i]).full=true)(e:(fs[i]).no=no):(bM.mk c aV fs hd D).view no=(fs[i]).l:=by
 unfold bM.view
 cases a:fs.find? λf=>f.full&&f.no==(no:Int) with
 |none=>
  have:=iM.1 a _ (cI hi);simp[hf,e]at this
 |some f=>
  have g:=h7 a;have b:=iN a;simp only[dn,ji]at b;obtain⟨j,d,rfl⟩:=e0 g;have:=un i j hi d hf b.1 (by rw[e,b.2]);subst this;simp only
theorem l4{fs:O Fr}{D:a6}{c aV hd:Nat}{no:Nat}(h:∀f∈fs,f.full=true->f.no≠no):(bM.mk c aV fs hd D).view no=D.now no:=by
 unfold bM.view
 cases b:fs.find? λf=>f.full&&f.no==(no:Int) with
 |none=>rfl
 |some f=>
  have d:=h7 b;have a:=iN b;simp only[dn,ji]at a;exact absurd a.2 (h f d a.1)
theorem qB(D:a6)(k i:Nat):(D.cm k).now i=D.now i:=rfl
theorem bn.re{B b:Nat->Prop}{w w':J}{t:ad}{l:Key}{V:Nat->Prop}(h:bn B w t l)(hc:ae V w w')(c:∀q,q<w.heap.size->B q->¬V q)(d:∀q,q<w.heap.size->B q->b q):bn b w' t l:=
 ⟨h.1.af hc λq a=>c q (h.2.2 q a).2 (h.2.2 q a).1,h.2.1,λq a=>⟨d q (h.2.2 q a).2 (h.2.2 q a).1,fm (h.2.2 q a).2 hc.size⟩⟩
theorem qC{gs:O Fr}{hd:Nat}{aw:a6}{V:Nat->Prop}(h:fM X w C)(hs:gP C.ak gs)(hc:ae V w w')(e3:∀q,q<w.heap.size->V q->cP C q)(m:jD aw C.D)(u:∀i,aw.now i=C.D.now i)(v:∀q,b9 aw q->b9 C.D q\/w.heap.size<=q):fM X w' {C with ak:=gs,hand:=hd,D:=aw}:=by
 have x:=hc.size;have r:∀q,q<w.heap.size->cP {C with ak:=gs,hand:=hd,D:=aw} q->cP C q:=λq a hf=>by
  rcases hf with h1|h1|h1
  .exact .inl h1
  .exact .inr (.inl h1)
  .exact .inr (.inr ((v q h1).resolve_right I))
 have g:∀ (i:Nat) (hi:i<gs.length),∃c:i<C.ak.length,gs[i]={C.ak[i] with used:=(gs[i]).used}:=λi hi=>⟨by rw[←hs.1];exact hi,hs.2 i (by rw[←hs.1];exact hi) hi⟩;refine⟨λf hf=>?_,λf hf y=>?_,λi j hi z h1 A B=>?_,λq a=>⟨fm (h.eK q a).1 x,λhf=>(h.eK q a).2 (r q (h.eK q a).1 hf)⟩,m.2.2⟩
 .obtain⟨i,hi,rfl⟩:=e0 hf
  obtain⟨c,e⟩:=g i hi;have:(gs[i]).pins=(C.ak[i]).pins:=by rw[e]
  rw[this];exact h.pins _ (cI c)
 .obtain⟨i,hi,rfl⟩:=e0 hf
  obtain⟨c,e⟩:=g i hi;have n:(gs[i]).full=(C.ak[i]).full:=by rw[e]
  have o:(gs[i]).no=(C.ak[i]).no:=by rw[e]
  have p:(gs[i]).b=(C.ak[i]).b:=by rw[e]
  have d:(gs[i]).l=(C.ak[i]).l:=by rw[e]
  have s:(gs[i]).fc=(C.ak[i]).fc:=by rw[e]
  obtain⟨no,av,E,F,G,H,J,K⟩:=h.ok _ (cI c) (by rw[←n];exact y);refine⟨no,by rw[o];exact av,by rw[m.1];exact E,?_,by rw[d];exact G,λhd=>by rw[d,u];exact H (by rw[←s];exact hd),λhs=>by rw[s];exact J (m.2.1 _ hs),K⟩;rw[p,d];exact bn.re F hc (λq a k L=>k.1 (e3 q a L)) λq a k=>⟨λhf=>k.1 (r q a hf),k.2⟩
 .obtain⟨c,e⟩:=g i hi
  obtain⟨M,t⟩:=g j z;have n:(gs[i]).full=(C.ak[i]).full:=by rw[e]
  have o:(gs[i]).no=(C.ak[i]).no:=by rw[e]
  have p:(gs[j]).full=(C.ak[j]).full:=by rw[t]
  have d:(gs[j]).no=(C.ak[j]).no:=by rw[t]
  exact h.un i j c M (by rw[←n];exact h1) (by rw[←p];exact A) (by rw[←o,←d];exact B)
theorem qD{gs:O Fr}{hd:Nat}{aw:a6}(h:fM X w C)(hs:gP C.ak gs)(s:∀i,aw.now i=C.D.now i)(no:Nat):(bM.mk C.c C.aV gs hd aw).view no=C.view no:=by
 have g:∀ (i:Nat) (hi:i<gs.length),∃k:i<C.ak.length,gs[i]={C.ak[i] with used:=(gs[i]).used}:=λi hi=>⟨by rw[←hs.1];exact hi,hs.2 i (by rw[←hs.1];exact hi) hi⟩;by_cases hex:∃ (i:Nat) (hi:i<C.ak.length),(C.ak[i]).full=true/\(C.ak[i]).no=no
 .obtain⟨i,hi,h1,d⟩:=hex
  have o:i<gs.length:=by rw[hs.1];exact hi
  obtain⟨k,e⟩:=g i o;have m:(gs[i]).full=(C.ak[i]).full:=by rw[e]
  have n:(gs[i]).no=(C.ak[i]).no:=by rw[e]
  have t:(gs[i]).l=(C.ak[i]).l:=by rw[e]
  have u:∀ (i j:Nat) (hi:i<gs.length) (B:j<gs.length),(gs[i]).full=true->(gs[j]).full=true->(gs[i]).no=(gs[j]).no->i=j:=by
   intro a b v x cn cp y;obtain⟨z,p⟩:=g a v;obtain⟨A,q⟩:=g b x;have f1:(gs[a]).full=(C.ak[a]).full:=by rw[p]
   have f2:(gs[a]).no=(C.ak[a]).no:=by rw[p]
   have f3:(gs[b]).full=(C.ak[b]).full:=by rw[q]
   have f4:(gs[b]).no=(C.ak[b]).no:=by rw[q]
   exact h.un a b z A (by rw[←f1];exact cn) (by rw[←f3];exact cp) (by rw[←f2,←f4];exact y)
  rw[k3 u o (by rw[m];exact h1) (by rw[n];exact d),t];exact(k3 (fs:=C.ak) (D:=C.D) (c:=C.c) (aV:=C.aV) (hd:=C.hand) h.un hi h1 d).symm
 .have r:∀f∈C.ak,f.full=true->f.no≠no:=λf hf h1 d=>by
   obtain⟨i,hi,rfl⟩:=e0 hf;exact hex ⟨i,hi,h1,d⟩
  have e:C.view no=C.D.now no:=l4 (fs:=C.ak) (D:=C.D) (c:=C.c) (aV:=C.aV) (hd:=C.hand) r;rw[e,←s];refine l4 λf hf h1 d=>?_;obtain⟨i,hi,rfl⟩:=e0 hf;obtain⟨k,e⟩:=g i hi;have m:(gs[i]).full=(C.ak[i]).full:=by rw[e]
  have n:(gs[i]).no=(C.ak[i]).no:=by rw[e]
  exact r _ (cI k) (by rw[←m];exact h1) (by rw[←n];exact d)
theorem wx{i:Nat}(hi:i<C.ak.length){aw:a6}{V:Nat->Prop}(h:fM X w C)(hc:ae V w w')(e3:∀q,q<w.heap.size->V q->cP C q)(m:jD aw C.D)
 (u:∀j:Nat,((C.ak[i]).full=true->(C.ak[i]).no≠j)->aw.now j=C.D.now j) (v:∀q,b9 aw q->b9 C.D q\/w.heap.size<=q) (f0:Fr) (n:f0.full=false) (x:f0.pins=0):fM X w' {C with ak:=C.ak.set i f0,D:=aw}:=by
 have y:=hc.size;have p:∀q,q<w.heap.size->cP {C with ak:=C.ak.set i f0,D:=aw} q->cP C q:=λq c hf=>by
  rcases hf with h1|h1|h1
  .exact .inl h1
  .exact .inr (.inl h1)
  .exact .inr (.inr ((v q h1).resolve_right I))
 refine⟨λf hf=>?_,λf hf d=>?_,λa b z g h1 l o=>?_,λq c=>⟨fm (h.eK q c).1 y,λhf=>(h.eK q c).2 (p q (h.eK q c).1 hf)⟩,m.2.2⟩
 .rcases lk hf with hf|rfl
  .exact h.pins f hf
  .exact x
 .obtain⟨k,A,rfl⟩:=e0 hf
  have r:k<C.ak.length:=by simpa using A
  by_cases e:i=k
  .subst e
   simp only[g1]at d;rw[n]at d;cases d
  .simp only[eX e]at d⊢
   obtain⟨no,av,B,E,F,G,H,J⟩:=h.ok _ (cI r) d;refine⟨no,av,by rw[m.1];exact B,bn.re E hc (λq c g K=>g.1 (e3 q c K)) λq c g=>⟨λhf=>g.1 (p q c hf),g.2⟩,F,λhd=>?_,λhs=>H (m.2.1 _ hs),J⟩;show _=aw.now no;rw[u no λL he=>e (h.un i k hi r L d (by rw[he,av]))];exact G hd
 .have M:a<C.ak.length:=by simpa using z
  have N:b<C.ak.length:=by simpa using g
  by_cases s:i=a
  .subst s
   simp only[g1]at h1;rw[n]at h1;cases h1
  by_cases t:i=b
  .subst t
   simp only[g1]at l;rw[n]at l;cases l
  simp only[eX s]at h1 o;simp only[eX t]at l o;exact h.un a b M N h1 l o
theorem zZ{i:Nat}(hi:i<C.ak.length){aw:a6}{hd:Nat}(h:fM X w C)(y:(C.ak[i]).full=true->∀j:Nat,(C.ak[i]).no=j->aw.now j=(C.ak[i]).l)(z:∀j:Nat,((C.ak[i]).full=true->(C.ak[i]).no≠j)->aw.now j=C.D.now j)(f0:Fr)(n:f0.full=false)(no:Nat):
 (bM.mk C.c C.aV (C.ak.set i f0) hd aw).view no=C.view no:=by
 by_cases hex:∃ (k:Nat) (m:k<C.ak.length),(C.ak[k]).full=true/\(C.ak[k]).no=no
 .obtain⟨k,m,h1,d⟩:=hex
  have p:=k3 (fs:=C.ak) (D:=C.D) (c:=C.c) (aV:=C.aV) (hd:=C.hand) h.un m h1 d;have p:C.view no=(C.ak[k]).l:=p;rw[p];by_cases e:i=k
  .subst e
   rw[←y h1 no d];refine l4 λf hf av u=>?_;obtain⟨a,o,rfl⟩:=e0 hf;have q:a<C.ak.length:=by simpa using o
   by_cases g:i=a
   .subst g
    simp only[g1]at av;rw[n]at av;cases av
   .simp only[eX g]at av u
    exact g (h.un i a hi q h1 av (by rw[d,u]))
  .have A:k<(C.ak.set i f0).length:=by simpa using m
   have r:(C.ak.set i f0)[k]=C.ak[k]:=eX e _;have B:∀ (a b:Nat) (o:a<(C.ak.set i f0).length) (v:b<(C.ak.set i f0).length),((C.ak.set i f0)[a]).full=true->((C.ak.set i f0)[b]).full=true->((C.ak.set i f0)[a]).no=((C.ak.set i f0)[b]).no->a=b:=by
    intro a b o v h1 d s;have q:a<C.ak.length:=by simpa using o
    have E:b<C.ak.length:=by simpa using v
    by_cases g:i=a
    .subst g
     simp only[g1]at h1;rw[n]at h1;cases h1
    by_cases x:i=b
    .subst x
     simp only[g1]at d;rw[n]at d;cases d
    simp only[eX g]at h1 s;simp only[eX x]at d s;exact h.un a b q E h1 d s
   rw[k3 B A (by rw[r];exact h1) (by rw[r];exact d),r]
 .have t:∀f∈C.ak,f.full=true->f.no≠no:=λf hf h1 d=>by
   obtain⟨k,m,rfl⟩:=e0 hf;exact hex ⟨k,m,h1,d⟩
  have e:C.view no=C.D.now no:=l4 (fs:=C.ak) (D:=C.D) (c:=C.c) (aV:=C.aV) (hd:=C.hand) t;rw[e,←z no λh1 d=>t _ (cI hi) h1 d];refine l4 λf hf h1 d=>?_;rcases lk hf with hf|rfl
  .exact t f hf h1 d
  .rw[n]at h1;cases h1
theorem z1{X:Nat->Prop}{w:J}{C:bM}(h:fM X w C){no:Nat}{s:ad}{l:c2}(hs:¬C.D.bB no=true):jD (C.D.put no s l) C.D:=
 ⟨rfl,λ_ h=>h,λj a=>by
  have a:C.D.bB j=true:=a
  rw[zC,if_neg λe=>hs (by rw[←e];exact a)];exact h.kq j a⟩
theorem z2(D:a6){no:Nat}{s:ad}{l:c2}(hs:¬D.bB no=true):(D.put no s l).key=D.key:=by
 have h1:=oP D (k:=2) (.inr rfl);unfold a6.key at h1⊢;have b:(D.put no s l).jb=D.jb:=by
  funext n;exact propext ⟨λ_ h=>absurd (h no) hs,λ_ h=>absurd (h no) hs⟩
 rw[b];have a:=congrArg Prod.snd h1;show((D.bw,D.bB,D.dU,D.jb,D.r1),(D.cm 2).b5.getD 3 0)=_;have a:(D.cm 2).b5.getD 3 0=D.b5.getD 3 0:=a;rw[a]
def z6(X:Nat->Prop)(C:bM)(w:J)(v:Y)(w':J):Prop:=
 ∃aD:bM,dB X w' aD/\dM C aD w w' 1/\aD.aV=C.aV/\(∀j,aD.view j=C.view j)/\(∀f∈aD.ak,f.full=true->∃g∈C.ak,g.full=true/\g.no=f.no)/\
  ((∃ (i:Nat) (hi:i<aD.ak.length),v=.tuple #[.pointer (some ⟨C.aV,i*6,none⟩),(0:Int)]/\(aD.ak[i]).full=false/\((aD.ak[i]).pins=0))\/
   (v=.tuple #[.pointer none,(3:Int)]/\¬C.D.calm 1))
theorem z7(h:dB X w C)(au:C.D.aQ<=1000000000):aL aj 221 #[.pointer (some C.c)] w (z6 X C w):=by
 have U:=h.raw;refine okF (ah.sU (some C.c)) az.sU func221 ?_;(delta ah.sU iV ao aW aF r1 b7;dsimp only);refine(EX U).use ?_;rintro _ _ ⟨he,rfl⟩;rcases he with ⟨i,hi,rfl,hf⟩|⟨rfl,ax⟩
 .exact⟨_,rfl,λ_=>⟨C,h,(dM.refl C w).mono (cX _),rfl,λ_=>rfl,λf hf H=>⟨f,hf,H,rfl⟩,.inl ⟨i,hi,rfl,hf,h.inv.pins _ (cI hi)⟩⟩,λh=>(by cases h)⟩
 refine⟨_,rfl,λh=>(by cases h),λ_=>(EY U h.inv.pins).use ?_⟩;rintro _ w1 ⟨i,gs,hd,hi,rfl,z,r,aA⟩;have W:i<gs.length:=by rw[z.1];exact hi
 have L:ae (cP C) w w1:=aA.mono λq _ n=>by
  rcases n with n|n
  .exact .inl n
  .exact .inr (.inl n)
 have E:=qC (hd:=hd) (aw:=C.D) h.inv z L (λq _ h=>h) h.inv.qz (λ_=>rfl) λq n=>.inl n;have P:=qD (hd:=hd) (aw:=C.D) h.inv z λ_=>rfl;obtain⟨a,F⟩:∃a:bM,a={C with ak:=gs,hand:=hd}:=⟨_,rfl⟩;have E:fM X w1 a:=by rw[F];exact E
 have r:eO w1 a:=by rw[F];exact r
 have P:∀no,a.view no=C.view no:=by rw[F];exact P
 have Y:∀q,cP a q↔cP C q:=by rw[F];exact λq=>Iff.rfl
 have o:a.D=C.D:=by rw[F]
 have p:a.c=C.c/\a.aV=C.aV:=by rw[F];exact⟨rfl,rfl⟩
 have I:a.ak=gs:=by rw[F]
 have A:i<a.ak.length:=by rw[I];exact W
 have R:(a.ak[i]).full=true:=by
  have e:=z.2 i hi W;have:(gs[i]).full=(C.ak[i]).full:=by rw[e]
  simp only[I];rw[this];exact ax _ (cI hi)
 have Z:∀f∈a.ak,f.full=true->∃g∈C.ak,g.full=true/\g.no=f.no:=by
  rw[I];intro f hf H;obtain⟨k,aa,rfl⟩:=e0 hf;have ab:k<C.ak.length:=by rw[←z.1];exact aa
  have e:=z.2 k ab aa;have aB:(gs[k]).full=(C.ak[k]).full:=by rw[e]
  have aC:(gs[k]).no=(C.ak[k]).no:=by rw[e]
  exact⟨C.ak[k],cI ab,by rw[←aB];exact H,aC.symm⟩
 obtain⟨no,av,aD,ac,aE,aG,aH⟩:=E.ok _ (cI A) R;have f1:=jc r.f A (j:=1) (by decide)
 have fin:∀ (ai:J) (aw:a6),ae (cP C) w1 ai->eO ai {a with D:=aw}->dM C {a with D:=aw} w ai 1->jD aw C.D->(∀j:Nat,(a.ak[i]).no≠j->aw.now j=C.D.now j)->(∀j:Nat,(a.ak[i]).no=j->aw.now j=(a.ak[i]).l)->(∀q,b9 aw q->b9 C.D q\/w1.heap.size<=q)->
  ∃S:ag,(some ⟨C.aV,i*6,none⟩:ar ag)=some S/\bh ai S [false,false,false,(0:Int),(0:Int),()]/\(6:Nat)=6/\an (setCells ai S 0 [false,false,false,(0:Int),(0:Int),()]) λaI=>z6 X C w (.tuple #[.pointer (some ⟨C.aV,i*6,none⟩),(0:Int)]) aI:=by
  intro ai aw aJ t B aK ad aM K;have aN:bg ai a.aV (b8 Fr.c a.ak).toArray 288:=t.f;obtain⟨s1,s2,M⟩:=wv aN A dp;rw[p.2]at s1 s2 M;have aO:fM X (setCells ai ⟨C.aV,i*6,none⟩ 0 dp.c) {a with ak:=a.ak.set i dp,D:=aw}:=by
   refine wx (V:=cP C) (w:=w1) A E (aJ.trans (M.mono λq _ e=>.inr (.inl e))) (λq _ n=>(Y q).2 n) (by rw[o];exact aK) (λj u=>by rw[o];exact ad j λe=>u R e) (λq n=>by rw[o];exact K q n) dp rfl rfl
  have aP:=t.v;refine⟨_,rfl,s1,rfl,aX ⟨{a with ak:=a.ak.set i dp,D:=aw},⟨?_,aO⟩,?_,p.2,λj=>?_,λf hf H=>?_,.inl ⟨i,by show i<(a.ak.set i dp).length;rw[dd];exact A,rfl,by simp[dp],by simp[dp]⟩⟩⟩
  .have aR:a.c≠C.aV:=by have:=t.a1.1;rw[←p.2];exact this
   refine⟨?_,by show bg _ a.aV _ _;rw[p.2];exact s2,t.dev.af M (λq n e=>t.a1.2.2 (by rw[show({a with D:=aw}:bM).aV=a.aV from rfl,p.2,←e];exact n)),?_,?_,?_,t.a1⟩
   .have:=aP.af M aR
    show Var _ _ [_,.slice _ (a.ak.set i dp).length (a.ak.set i dp).length,_] _;rw[dd];exact this
   .show 8<=(a.ak.set i dp).length;rw[dd];exact t.cn
   .show(a.ak.set i dp).length<=64;rw[dd];exact t.cp
   .show a.hand<(a.ak.set i dp).length;rw[dd];exact t.hd
  .refine⟨B.c,B.d,by show(a.ak.set i dp).length=_;rw[dd];exact B.len,B.bw,B.aQ,B.calm,B.af.trans (M.mono λq _ e=>.inr (.inl e)),B.db⟩
  .rw[←P]
   exact zZ A E (λ_ j u=>aM j u) (λj u=>by rw[o];exact ad j λe=>u R e) dp rfl j
  .rcases lk hf with hf|rfl
   .exact Z f hf H
   .cases H
 refine⟨_,rfl,λh=>(by cases h),λ_=>kh (λai=>∃aw:a6,ae (cP C) w1 ai/\eO ai {a with D:=aw}/\dM C {a with D:=aw} w ai 1/\jD aw C.D/\(∀j:Nat,(a.ak[i]).no≠j->aw.now j=C.D.now j)/\(∀j:Nat,(a.ak[i]).no=j->aw.now j=(a.ak[i]).l)/\(∀q,b9 aw q->b9 C.D q\/w1.heap.size<=q)) (λq n=>⟨_,rfl,(a.ak[i]).fc,?_,λaS=>?_,λaT=>n _ ⟨C.D,.refl _ _,?_,?_,h.inv.qz,λ_ _=>rfl,λj u=>?_,λq h=>.inl h⟩⟩) ?_⟩
 .rw[ay,←p.2];exact f1
 .
  have Q:=cJ w1;have y:=r.ext Q;obtain⟨al,_,_⟩:=y.cells;rw[p.1,o]at al;have f3:=jc y.f A (j:=3) (by decide);have f5:=jc y.f A (j:=5) (by decide);rw[p.2]at f3 f5;refine aX ⟨_,rfl,id,_,al,_,rfl,id,(no:Int),?_,_,rfl,id,(a.ak[i]).b,by rw[ay];exact f5,?_⟩
  .rw[ay,f3]
   show some (Value.int .i64 (a.ak[i]).no)=_;rw[av]
  have aU:c3 w1.drew C.D:=by rw[←o];exact y.dev
  have am:¬C.D.bB no=true:=λhs=>by
   have:=aH (by rw[o];exact hs);rw[aS]at this;cases this
  refine(tK aU (i:=no) (by rw[←o];exact aD) au (ac.1.ext Q) aE λq n hf=>(ac.2.2 q n).1.1 (.inr (.inr (by rw[o];exact hf)))).use ?_;rintro a8 ai aY;rcases aY with ⟨ap,rfl,T,G⟩|⟨ap,rfl,s,T,G,aZ⟩
  .have N:ae (cP C) w1 ai:=(ae.cN Q).trans (G.mono λq _ e=>.inr (.inr (.inl e)))
   refine⟨3,rfl,λ_=>⟨{a with D:=C.D.cm 2},⟨?_,?_⟩,?_,p.2,λj=>?_,Z,.inr ⟨rfl,λa0=>?_⟩⟩,λh=>(by cases h)⟩
   .have t:=y.v.af G (λe=>y.a1.2.1 (.inl (by rw[o];exact e)))
    rw[o]at t;have aq:=r.a1;rw[o]at aq;exact⟨t,bg.af y.f G (λe=>y.a1.2.2 (.inl (by rw[o];exact e))),T,r.cn,r.cp,r.hd,aq⟩
   .have:=qC (C:=a) (hd:=a.hand) (aw:=C.D.cm 2) E (gP.refl _) N (λq _ n=>(Y q).2 n) (by rw[o];exact h.inv.cm 2) (λj=>by rw[o];rfl) λq n=>.inl (by rw[o];exact n)
    exact this
   .refine⟨p.1,rfl,by show a.ak.length=_;rw[I];exact z.1,oP C.D (.inr rfl),Nat.le_succ _,λm O=>(iE (.inr rfl) h.raw.dev.f4 O).1,L.trans N,λq n=>.inl ?_⟩
    rcases n with e|e|e
    .exact .inl (by rw[←p.1];exact e)
    .exact .inr (.inl (by rw[←p.2];exact e))
    .exact .inr (.inr e)
   .rw[←P]
    exact qD (C:=a) E (gP.refl _) (λj=>by rw[o];rfl) j
   .have:=(iE (k:=2) (m:=0) (.inr rfl) h.raw.dev.f4 a0).2
    rw[ap]at this;cases this
  .have N:ae (cP C) w1 ai:=(ae.cN Q).trans (G.mono λq _ e=>.inr (.inr e))
   have K:∀q,b9 (C.D.put no s (a.ak[i]).l) q->b9 C.D q\/w1.heap.size<=q:=by
    rintro q (e|e|e|⟨x,hx,e⟩)
    .exact .inl (.inl e)
    .exact .inl (.inr (.inl e))
    .exact .inl (.inr (.inr (.inl e)))
    .rcases c7.1 hx with rfl|hx
     .exact aZ q e
     .exact .inl (.inr (.inr (.inr ⟨x,(gf.1 hx).1,e⟩)))
   have ej:∀q,b9 C.D q->q≠a.c/\q≠a.aV:=λq n=>⟨λe=>r.a1.2.1 (by rw[o,←e];exact n),λe=>r.a1.2.2 (by rw[o,←e];exact n)⟩;refine⟨0,rfl,λh=>(by cases h),λ_=>n _ ⟨C.D.put no s (a.ak[i]).l,N,?_,?_,z1 h.inv am,λj u=>?_,λj u=>?_,K⟩⟩
   .have t:=y.v.af G (λe=>(ej _ e).1 rfl)
    rw[o]at t;have a7:a.c<w1.heap.size:=r.v.lt;have a9:a.aV<w1.heap.size:=bg.lt r.f;refine⟨t,bg.af y.f G (λe=>(ej _ e).2 rfl),T,r.cn,r.cp,r.hd,r.a1.1,λe=>?_,λe=>?_⟩
    .rcases K _ e with h1|h1
     .exact(ej _ h1).1 rfl
     .have:a.c<w1.heap.size:=a7
      have h1:w1.heap.size<=a.c:=h1;omega
    .rcases K _ e with h1|h1
     .exact(ej _ h1).2 rfl
     .have h1:w1.heap.size<=a.aV:=h1
      omega
   .refine⟨p.1,rfl,by show a.ak.length=_;rw[I];exact z.1,z2 C.D am,bl _,λm O=>(iE (.inr rfl) h.raw.dev.f4 O).1,L.trans N,λq n=>?_⟩
    rcases n with e|e|e
    .exact .inl (.inl (by rw[←p.1];exact e))
    .exact .inl (.inr (.inl (by rw[←p.2];exact e)))
    .rcases K q e with h1|h1
     .exact .inl (.inr (.inr h1))
     .exact .inr (ei L.size h1)
   .rw[nc,if_neg (λe=>u (by rw[av,e]))]
   .rw[nc,if_pos (by rw[av]at u;omega)]
 .rw[←o];exact r
 .refine⟨p.1,rfl,by show a.ak.length=_;rw[I];exact z.1,rfl,Nat.le_succ _,λm O=>gp O (Nat.le_succ _),L,λq n=>.inl ?_⟩
  rcases n with e|e|e
  .exact .inl (by rw[←p.1];exact e)
  .exact .inr (.inl (by rw[←p.2];exact e))
  .exact .inr (.inr e)
 .have:no=j:=by rw[av]at u;omega
  subst this;rw[←o];exact(aG aT).symm
 .rintro ai ⟨aw,a1,a2,a3,a4,a5,dH,dX⟩
  exact fin ai aw a1 a2 a3 a4 a5 dH dX
end
end Go.Proofs.YtkdhdlfonmgheaaGreat
