/- Contracts of the functions that the statement reaches, and the plain laws over them; each theorem stands with its conditions. -/
import Derived.Laws.Small
import Derived.Test.YtkdhdlfonmgheaaGreatBNone3
namespace Go.Proofs.YtkdhdlfonmgheaaGreat
open Go aX Go.Proofs.Tryz
theorem zX{B:Nat->Prop}{w:J}{s:Y}{ls:O Key}(h:ba B w s ls)(hl:ls.length<=100000):
 aH ai 284 #[s] w (λv w'=>∃b:Y,v=b/\bn (λq=>(B q/\q<w.heap.size)\/(w.heap.size<=q/\aB b q)) w' b ls/\Ext w w'/\gd w b):=by
 have t:=ba.len h;obtain⟨ts,av,j,u,x,n⟩:=h;refine okF (af.rY s) ay.rY func284 ?_;delta af.rY al U;refine⟨λd=>?_,λ_=>?_⟩
 .have d:s.a=none:=by simpa using d
  have h0:=j.nil d;have:ls=[]:=List.eq_nil_of_length_eq_zero (by rw[←av];have:=congrArg List.length h0;simpa using this);subst this;exact⟨⟨none,0,0⟩,rfl,bn.none _ _,.refl _ _,λk e=>(gi k e).elim⟩
 .obtain⟨b,w',h1,l,y,m,f,_⟩:=p7.clone (dG:=127) j (vE ts) I
  refine aY ⟨b,w',h1,b,rfl,⟨ts,av,l,λq c=>⟨.inr ⟨f q c,c⟩,l.lt q c⟩,λi o p=>?_⟩,m,f⟩;have a:=n i o p;exact⟨bg.aU (bg.ext (bg.aU (C:=λq=>B q/\q<w.heap.size) a λq c g=>⟨g,c⟩) m) λq _ g=>.inl g,λk e r=>by have:=f k r;have:=(a.2.2 k e).2;omega⟩
theorem jW.at{B:Nat->Prop}{w:J}{s:Y}{ks:O Key}{kids:O Nat}(h:jW B w s ks kids):s.len=kids.length/\kids.length=ks.length+1/\kids.length<=2/\∀ (j:Nat) (d:j<kids.length),∃ (A:ab) (t:Y),s.a=some A/\w.cell? (A.add (j*2))=some (.slice t.a t.len t.cap)/\w.cell? ((A.add (j*2)).add 1)=some (.int .i64 ((kids[j]:Nat):Int))/\
 ((t.a=none/\ks.take j=ks.take (j-1))\/(t.a.isSome=true/\∃k,bg B w t k/\ks.take j=ks.take (j-1)++ [k])):=by
 rcases h with ⟨b,x,rfl,rfl,rfl,c,e⟩|⟨b,x,y,k,t,rfl,rfl,rfl,c,e,ht,f⟩
 .refine⟨rfl,rfl,by simp,λj d=>?_⟩
  have:j=0:=by simp at d;omega
  subst this;exact⟨_,⟨none,0,0⟩,rfl,by rw[ax];exact c.cell,by rw[ax,ax];exact c.cell,.inl ⟨rfl,rfl⟩⟩
 .refine⟨rfl,rfl,by simp,λj d=>?_⟩
  rcases dJ j 1 with h1|h1
  .have:j=0:=by omega
   subst this;exact⟨_,⟨none,0,0⟩,rfl,by rw[ax];exact c.cell,by rw[ax,ax];exact c.cell,.inl ⟨rfl,rfl⟩⟩
  .have:j=1:=by simp at d;omega
   subst this;obtain⟨A,ar⟩:=bg.some ht f;exact⟨_,t,rfl,by rw[ax];exact c.cell,by rw[ax,ax];exact c.cell,.inr ⟨by rw[ar];rfl,k,ht,rfl⟩⟩
theorem jW.ext{B:Nat->Prop}{w w':J}{s:Y}{ks:O Key}{kids:O Nat}(h:jW B w s ks kids)(hx:Ext w w'):jW B w' s ks kids:=by
 rcases h with ⟨b,x,h1,a,c,d,e⟩|⟨b,x,y,k,t,h1,a,c,d,e,ht,f⟩
 .exact .inl ⟨b,x,h1,a,c,d.ext hx,e⟩
 .exact .inr ⟨b,x,y,k,t,h1,a,c,d.ext hx,e,bg.ext ht hx,f⟩
theorem EH{w:J}{nb o:Nat}{vs:O aa}{S t:Y}{ls:O Key}{l:Key}{B:Nat->Prop}{T:TypeId}(d:Var w nb vs T)(n:o<vs.length)(f:bn B w S ls)(g:¬B nb)
 (ht:bg B w t l) (hd:∀k,aB t k->¬aB S k) (F:ls.length<=100000) {K:J->Prop}
 (p:∀ (w':J) (aM:Y),Var w' nb (vs.set o aM) T->bn (Grow B w w') w' aM (ls++ [l])->ae (λq=>q=nb\/aB S q) w w'->(∀k,aB aM k->aB S k\/w.heap.size<=k)->K w'):
 ao (w.alloc (.cells #[t] 48)) λr=>∃i:Y,∃b:J,Sem.run ai (Builtin.append_ #[127,127] 127 #[S,.slice (some w.heap.size) 1 1]) r=.ok i b/\
  (∃u:aa,b.cell? (Addr.add nb o)=some u)/\b.frozen? (Addr.add nb o)=false/\ao (b.setCell (Addr.add nb o) i) λs=>K s:=by
 have v:=bn.aU (C:=λq=>B q\/w.heap.size<=q) f λk _ h=>.inl h;have x:=bg.aU (C:=λq=>B q\/w.heap.size<=q) ht λk _ h=>.inl h;obtain⟨c,w',av,y,j,z⟩:=yU v x hd I λk a=>.inr a;have G:=d.lt;have A:¬aB S nb:=λh=>by
  obtain⟨ts,_,_,D,_⟩:=f;exact g (D nb h).1
 have m:=d.ad j A;obtain⟨aA,aT⟩:=dR m n;refine aY ⟨c,w',av,?_⟩;rw[ax,cH];have hc:=dx w' nb o c;refine⟨aA,aT,aY (p _ c (dX m _) ?_ ?_ z)⟩
 .have E:=bn.aU (C:=Grow B w (w'.setCell ⟨nb,o,none⟩ c)) y λk a h=>by
   rcases h with h|h
   .exact .inl h
   .exact .inr ⟨h,fc a hc.size⟩
  refine bn.ad E hc λk a e=>?_;subst e;rcases a with h|h
  .exact g h
  .omega
 .exact(j.mono λk _ a=>.inr a).trans (hc.mono λk _ a=>.inl a)
def tT(B:Nat->Prop)(n:az)(fr to:Nat)(ks:O Key)(kids:O Nat)(w:J)(v:aa)(w':J):Prop:=
 ∃K V D:Y,v=cM (fj n fr to ks kids) K V D/\bp (λq=>B q\/w.heap.size<=q) w' (fj n fr to ks kids) K V D/\Ext w w'
def wk(nb aE e:Nat)(l:Y)(to:Int)(bZ:J)(Q:aa->J->Prop):Prop:=
 ∃ (C:Int->J->Prop) (H:Int->J->Nat),C 0 bZ/\∀ (n19:Int) (b:J),C n19 b->((decide ((n19:Int)<(l.len:Int)))=true->∃D:ab,l.a=some D/\((0:Int)<=n19/\n19<(l.len:Int))/\∃h:Y,b.cell? (D.add (Int.toNat n19*2))=some (.slice h.a h.len h.cap)/\∃n23:Int,b.cell? ((D.add (Int.toNat n19*2)).add 1)=some (.int .i64 n23)/\ao (b.alloc (.cells #[(),(0:Int)] 334)) λI=>bz I b.heap.size [h,n23]/\(2:Nat)=2/\ao (setCells I b.heap.size 0 [h,n23]) λf=>bq (λK:J->Prop=>∃i:Y,f.cell? b.heap.size=some (.slice i.a i.len i.cap)/\((!(Option.isNone i.a))=true->∃o:Y,f.cell? (Addr.add aE 1)=some (.slice o.a o.len o.cap)/\∃p:Y,f.cell? b.heap.size=some (.slice p.a p.len p.cap)/\ao (f.alloc (.cells #[p] 48)) λS=>∃L:Y,∃q:J,Sem.run ai (Builtin.append_ #[127,127] 127 #[o,.slice (some f.heap.size) 1 1]) S=.ok L q/\(∃u:aa,q.cell? (Addr.add aE 1)=some u)/\q.frozen? (Addr.add aE 1)=false/\ao (q.setCell (Addr.add aE 1) L) λT=>K T)/\((!(Option.isNone i.a))=false->K f)) (λ(r:J)=>∃s:Y,r.cell? (Addr.add aE 3)=some (.slice s.a s.len s.cap)/\∃n36:Int,r.cell? (Addr.add b.heap.size 1)=some (.int .i64 n36)/\ao (r.alloc (.cells #[n36] 3)) λU=>∃M:Y,∃t:J,Sem.run ai (Builtin.append_ #[58,58] 58 #[s,.slice (some r.heap.size) 1 1]) U=.ok M t/\(∃u:aa,t.cell? (Addr.add aE 3)=some u)/\t.frozen? (Addr.add aE 3)=false/\ao (t.setCell (Addr.add aE 3) M) λN=>C (IntKind.wrap .i64 (n19+1)) N/\H (IntKind.wrap .i64 (n19+1)) N<H n19 b))/\((decide ((n19:Int)<(l.len:Int)))=false->ao (b.drew) λE=>¬False/\∃v:Y,E.cell? (Addr.add aE 1)=some (.slice v.a v.len v.cap)/\¬False/\∃c:Y,E.cell? (Addr.add nb 1)=some (.slice c.a c.len c.cap)/\((0:Int)<=(IntKind.wrap .i64 (to-1))/\(IntKind.wrap .i64 (to-1))<=(c.len:Int))/\∃O:Y,∃w:J,Sem.run ai (Builtin.append_ #[127,127] 127 #[v,.slice (aL c.a 1 (Int.toNat (IntKind.wrap .i64 (to-1))) c.cap) (c.len-(Int.toNat (IntKind.wrap .i64 (to-1)))) (c.cap-(Int.toNat (IntKind.wrap .i64 (to-1))))]) E=.ok O w/\(∃u:aa,w.cell? (Addr.add aE 1)=some u)/\w.frozen? (Addr.add aE 1)=false/\ao (w.setCell (Addr.add aE 1) O) λV=>ao (V.drew) λF=>¬False/\∃x:Y,F.cell? (Addr.add aE 3)=some (.slice x.a x.len x.cap)/\¬False/\∃d:Y,F.cell? (Addr.add nb 3)=some (.slice d.a d.len d.cap)/\((0:Int)<=to/\to<=(d.len:Int))/\∃P:Y,∃y:J,Sem.run ai (Builtin.append_ #[58,58] 58 #[x,.slice (aL d.a 1 (Int.toNat to) d.cap) (d.len-(Int.toNat to)) (d.cap-(Int.toNat to))]) F=.ok P y/\(∃u:aa,y.cell? (Addr.add aE 3)=some u)/\y.frozen? (Addr.add aE 3)=false/\ao (y.setCell (Addr.add aE 3) P) λg=>∃G:ag,g.cell? aE=some (.bool G)/\∃j:Y,g.cell? (Addr.add aE 1)=some (.slice j.a j.len j.cap)/\∃k:Y,g.cell? (Addr.add aE 2)=some (.slice k.a k.len k.cap)/\∃m:Y,g.cell? (Addr.add aE 3)=some (.slice m.a m.len m.cap)/\bz g e [G,j,k,m]/\(4:Nat)=4/\ao (setCells g e 0 [G,j,k,m]) λn=>∃R:ag,n.cell? e=some (.bool R)/\∃z:Y,n.cell? (Addr.add e 1)=some (.slice z.a z.len z.cap)/\∃A:Y,n.cell? (Addr.add e 2)=some (.slice A.a A.len A.cap)/\∃B:Y,n.cell? (Addr.add e 3)=some (.slice B.a B.len B.cap)/\Q (.agg #[R,z,A,B]) n)
structure oJ(B:Nat->Prop)(lo:Nat)(nb aE a:Nat)(n:az)(K V D:Y)(c:O aa)(w:J)(b aw:Y)(bI bA:Nat->Prop)(ks:O Key)(ds:O Nat):Prop where
 dM:Var w nb [n.leaf,K,V,D] 202
 r:Var w a c 202
 o:Var w aE [false,b,(),aw] 202
 k:bn bI w b ks
 d:cD bA w aw ds
 bd:∀q,bI q->(B q/\q<lo)\/(lo<=q/\q<w.heap.size/\q≠nb/\q≠aE/\q≠a/\¬bA q)
 aI:∀q,bA q->lo<=q/\q<w.heap.size/\q≠nb/\q≠aE/\q≠a
 k1:∀q,aB b q->lo<=q
theorem oJ.ext{B:Nat->Prop}{lo nb aE b:Nat}{n:az}{K V D:Y}{c:O aa}{w w':J}{e aw:Y}{bI bA:Nat->Prop}{ks:O Key}{ds:O Nat}(h:oJ B lo nb aE b n K V D c w e aw bI bA ks ds)(hx:Ext w w'):oJ B lo nb aE b n K V D c w' e aw bI bA ks ds:=by
 have f:=hx.size;exact⟨h.dM.ext hx,h.r.ext hx,h.o.ext hx,bn.ext h.k hx,cD.ext h.d hx,λq a=>(h.bd q a).imp id λh=>⟨h.1,I,h.2.2⟩,λq a=>⟨(h.aI q a).1,by have:=(h.aI q a).2.1;omega,(h.aI q a).2.2⟩,h.k1⟩
theorem EI{B:Nat->Prop}{w bZ:J}{nb aE x:Nat}{n:az}{K V D s dF D0:Y}{al:O aa}{bI bA:Nat->Prop}{ks:O Key}{kids:O Nat}{fr to:Nat}(bh:oJ B w.heap.size nb aE x n K V D al bZ dF D0 bI bA (n.keys.take fr) (n.kids.take fr))(bi:Ext w bZ)
 (bl:bp B w n K V D) (hl:jW B w s ks kids) (bm:al.length=4) (h1:w.heap.size<=nb) (S:w.heap.size<=aE) (G:w.heap.size<=x) (H:nb≠aE/\nb≠x/\aE≠x) (t1:1<=to) (t2:to<=n.kids.length) (t3:to-1<=n.keys.length) (bG:n.keys.length<=1000) (bc:n.kids.length<=1000):
 wk nb aE x s (to:Nat) bZ (tT B n fr to ks kids w):=by
 obtain⟨bo,bj,b2,bq⟩:=hl.at;unfold wk;refine⟨λi w'=>∃ (j:Nat) (z aw:Y) (bI bA:Nat->Prop),i=j/\j<=kids.length/\Ext w w'/\oJ B w.heap.size nb aE x n K V D al w' z aw bI bA (n.keys.take fr++ks.take (j-1)) (n.kids.take fr++kids.take j),λi _=>((kids.length:Int)-i).toNat,⟨0,dF,D0,bI,bA,rfl,cI _,bi,by simpa using bh⟩,?_⟩;rintro _ u ⟨j,z,aw,bI,bA,rfl,b4,y,h⟩;have b6:=y.size;refine⟨λaJ=>?_,λay=>?_⟩
 .have aJ:j<kids.length:=by
   have:(j:Int)<(s.len:Int):=cf aJ;omega
  obtain⟨A,t,ar,aA,aT,aC⟩:=(hl.ext y).at.2.2.2 j aJ;refine⟨A,ar,⟨I,I⟩,t,by rw[du];exact aA,_,by rw[du];exact aT,?_⟩;have aC:(t.a=none/\ks.take j=ks.take (j-1))\/(t.a.isSome=true/\∃k,bg (λq=>B q/\q<w.heap.size) u t k/\ks.take j=ks.take (j-1)++ [k]):=by
   obtain⟨b7,aQ,aR,bs,_,bt⟩:=bq j aJ;rw[ar]at aR;cases aR;have e:=ae.cell y (λh=>h) bs;rw[aA]at e;injection e with e
   obtain rfl:t=aQ:=by
    cases t;cases aQ;simp at e;simp[e]
   rcases bt with h|⟨h1,k,S,G⟩
   .exact .inl h
   .exact .inr ⟨h1,k,bg.ext (bg.aU S λq c f=>⟨f,c⟩) y,G⟩
  refine bk (vs:=[(),(0:Int)]) rfl λb8 aS bu b9=>?_;refine⟨aS.b5 rfl ?_,rfl,cn aS (us:=[t,.int .i64 ((kids[j]:Nat):Int)]) rfl rfl λaD T bv b_=>?_⟩
  .intro v aV
   simp only[cR,eR,eY]at aV;rcases aV with rfl|rfl<;>trivial
  have am:Ext u aD:=Ext.cv bu bv (br _);have m:=h.ext am;have ca:=am.size;have aW:=y.trans am;obtain⟨eE,bw⟩:∃eE,eE=u.heap.size:=⟨_,rfl⟩;rw[←bw]at T⊢;have cb:=T.lt;refine jm (λU=>∃ (ct:Y) (an:Nat->Prop),oJ B w.heap.size nb aE x n K V D al U ct aw an bA (n.keys.take fr++ks.take j) (n.kids.take fr++kids.take j)/\Ext w U/\Var U eE [t,.int .i64 ((kids[j]:Nat):Int)] 334/\aD.heap.size<=U.heap.size) (λq c=>⟨t,T.cell,λf=>?_,λf=>?_⟩) ?_
  .rcases aC with ⟨ao,_⟩|⟨_,k,ht,ac⟩
   .rw[ao]at f;cases f
   obtain⟨af,L,ag,M⟩:=bC (V:=⟨none,0,0⟩) m.o;have ap:∀q,aB z q->bI q:=λq c=>by
    obtain⟨ts,_,_,G,_⟩:=m.k;exact(G q c).1
   refine⟨z,L,t,T.cell,EH (B:=λq=>bI q\/(B q/\q<w.heap.size)) m.o (o:=1) (by simp) (bn.aU m.k λq _ f=>.inl f) (λf=>?_) (bg.aU (bg.ext ht am) λq _ f=>.inr f) (λq c aF=>?_) ?_ λw' aM av aG p bx=>c _ ⟨aM,Grow (λq=>bI q\/(B q/\q<w.heap.size)) aD w',?_,?_,?_,p.size⟩⟩
   .rcases f with f|f
    .rcases m.bd _ f with g|g
     .omega
     .exact g.2.2.2.1 rfl
    .omega
   .have:=(ht.2.2 q c).1.2
    have:=m.k1 q aF;omega
   .rw[cE,cC,cC];omega
   .have bz:=p.size
    have C:∀q,aB z q->q<u.heap.size/\q≠nb/\q≠aE/\q≠x/\¬bA q:=λq c=>by
     have bD:=h.k1 q c;rcases h.bd q (ap q c) with g|g
     .omega
     .exact g.2
    refine⟨m.dM.ad p λc=>?_,m.r.ad p λc=>?_,av,?_,cD.ad m.d p λq f c=>?_,λq f=>?_,λq f=>⟨(m.aI q f).1,by have:=(m.aI q f).2.1;omega,(m.aI q f).2.2⟩,λq c=>?_⟩
    .rcases c with e|c
     .exact H.1 e
     .exact(C _ c).2.1 rfl
    .rcases c with e|c
     .exact H.2.2 e.symm
     .exact(C _ c).2.2.2.1 rfl
    .rw[ac,←cW];exact aG
    .rcases c with e|c
     .exact(m.aI q f).2.2.2.1 e
     .exact(C q c).2.2.2.2 f
    .rcases f with (f|f)|f
     .exact(m.bd q f).imp id λg=>⟨g.1,I,g.2.2⟩
     .exact .inl f
     .refine .inr ⟨I,f.2,λe=>?_,λe=>?_,λe=>?_,λhd=>?_⟩
      .have:=m.dM.lt;omega
      .have:=m.o.lt;omega
      .have:=m.r.lt;omega
      .have:=(m.aI q hd).2.1;omega
    .rcases bx q c with g|g
     .exact h.k1 q g
     .omega
   .exact Ext.dj aW p λq c=>by
     rcases c with rfl|c
     .exact S
     .exact m.k1 q c
   .refine T.ad p λc=>?_
    rcases c with e|c
    .have:=h.o.lt;omega
    .rcases h.bd _ (ap _ c) with g|g<;>omega
  .rcases aC with ⟨_,ac⟩|⟨ao,_⟩
   .refine c _ ⟨z,bI,?_,aW,T,br _⟩
    rw[ac];exact m
   .cases aX:t.a with
    |none=>rw[aX]at ao;cases ao
    |some A=>rw[aX]at f;cases f
  rintro U ⟨ct,an,l,aZ,a0,cc⟩;have cd:=a0.lt;obtain⟨af,L,ag,M⟩:=bC (V:=⟨none,0,0⟩) l.o;have E:∀q,aB aw q->bA q:=λq c=>(l.d.2 q c).1;have bE:∀q,an q->¬(q=aE\/aB aw q):=λq f c=>by
   rcases l.bd q f with g|g
   .rcases c with e|c
    .omega
    .have:=(l.aI q (E q c)).1;omega
   .rcases c with e|c
    .exact g.2.2.2.1 e
    .exact g.2.2.2.2.2 (E q c)
  have a1:IntKind.wrap .i64 ((j:Int)+1)=((j+1:Nat):Int):=by rw[bB I I];rfl
  refine⟨aw,M,_,by rw[ax];exact a0.cell,(y2 (W:=λ_=>True) kids[j] l.o (o:=3) (by simp) l.d (λf=>(l.aI _ f).2.2.2.1 rfl) (by rw[cE,cC,cC];omega) λw' aM av aG p=>⟨⟨j+1,ct,aM,an,Grow bA U w',a1,I,?_,?_⟩,?_⟩).2⟩
  .exact Ext.dj aZ p λq c=>by
    rcases c with rfl|c
    .exact S
    .exact(l.aI q (E q c)).1
  .have bz:=p.size
   refine⟨l.dM.ad p λc=>?_,l.r.ad p λc=>?_,av,?_,?_,λq f=>?_,λq f=>?_,l.k1⟩
   .rcases c with e|c
    .exact H.1 e
    .exact(l.aI _ (E _ c)).2.2.1 rfl
   .rcases c with e|c
    .exact H.2.2 e.symm
    .exact(l.aI _ (E _ c)).2.2.2.2 rfl
   .exact bn.ad l.k p bE
   .rw[iL aJ,←cW];exact aG
   .refine(l.bd q f).imp id λg=>⟨g.1,I,g.2.2.1,g.2.2.2.1,g.2.2.2.2.1,λhd=>?_⟩
    rcases hd with hd|hd
    .exact g.2.2.2.2.2 hd
    .omega
   .rcases f with f|f
    .exact⟨(l.aI q f).1,by have:=(l.aI q f).2.1;omega,(l.aI q f).2.2⟩
    .refine⟨by have:=aZ.size;omega,f.2,λe=>?_,λe=>?_,λe=>?_⟩
     .have:=l.dM.lt;omega
     .have:=l.o.lt;omega
     .have:=l.r.lt;omega
  .rw[a1]
   show((kids.length:Int)-((j+1:Nat):Int)).toNat<((kids.length:Int)-(j:Int)).toNat;omega
 .have ay:j=kids.length:=by
   have:¬(j:Int)<(s.len:Int):=cx ay;omega
  subst ay;have a2:Ext u u.drew:=cr _;have h:=h.ext a2;have y:=y.trans a2;have ac:ks.take (kids.length-1)=ks:=dT I;rw[ac,il]at h;obtain⟨af,L,ag,M⟩:=bC (V:=⟨none,0,0⟩) h.o;obtain⟨qj,gX,bF,a3⟩:=bC h.dM;have a4:bp (λq=>B q/\q<w.heap.size) w n K V D:=bl.aU λq c f=>⟨f,c⟩;have aH:=a4.ext y;have a5:=ba.len aH.keys;have a6:=cq.len aH.kids;have a7:IntKind.wrap .i64 ((to:Int)-1)=((to-1:Nat):Int):=by rw[bB I I];omega
  have ap:∀q,aB z q->bI q:=λq c=>by
   obtain⟨ts,_,_,G,_⟩:=h.k;exact(G q c).1
  have E:∀q,aB aw q->bA q:=λq c=>(h.d.2 q c).1;have a8:=ba.sub aH.keys (lo:=to-1) (hi:=n.keys.length) t3 (br _);have bH:(n.keys.drop (to-1)).take (n.keys.length-(to-1))=n.keys.drop (to-1):=dT (by rw[c5];exact br _);rw[bH]at a8;obtain⟨N,ai,bJ,bK,X⟩:=vN h.k a8 (λq c aF=>by have:=h.k1 q aF;omega) (by rw[cE,cC];omega) (by rw[c5];omega);have ce:u.drew.heap.size=u.heap.size:=rfl;have C:∀q,aB z q->q<u.drew.heap.size/\q≠nb/\q≠aE/\q≠x/\¬bA q:=λq c=>by
   have bD:=h.k1 q c;rcases h.bd q (ap q c) with g|g
   .omega
   .exact g.2
  have cg:=X.size;have bL:Ext w ai:=Ext.dj y X λq c=>h.k1 q c;have a9:=h.o.ad X λc=>(C _ c).2.2.1 rfl;have bM:=h.dM.ad X λc=>(C _ c).2.1 rfl;have bN:=h.r.ad X λc=>(C _ c).2.2.2.1 rfl;have bO:cD bA ai aw _:=cD.ad h.d X λq f c=>(C q c).2.2.2.2 f;obtain⟨bR,b3⟩:=dR a9 (i:=1) (by simp);refine aY ⟨id,z,L,id,K,gX,?_,N,ai,?_,by rw[ax];exact bR,by rw[ax];exact b3,?_⟩
  .rw[a7,a5];omega
  .rw[a7,du,a5];exact bJ
  rw[ax,cH];have P:=dx ai aE 1 N;have aj:=dX a9 (i:=1) N;obtain⟨F,bP⟩:∃F,F=ai.setCell ⟨aE,1,none⟩ N:=⟨_,rfl⟩;rw[←bP]at P aj⊢;have ch:=P.size;have aK:=bM.ad P (λe=>H.1 e);have aL:=bN.ad P (λe=>H.2.2 e.symm);have aN:cD bA F aw _:=cD.ad bO P λq f e=>(h.aI q f).2.2.2.1 e;have ak:Ext w F:=Ext.cv bL P S;have Z:Ext F F.drew:=cr _;have a_:∀q,(bI q\/(B q/\q<w.heap.size)\/u.drew.heap.size<=q)->q≠aE:=λq c e=>by
   subst e;rcases c with c|c|c
   .rcases h.bd _ c with g|g
    .omega
    .exact g.2.2.2.1 rfl
   .omega
   .have:=h.o.lt;omega
  have bQ:=ba.ext (ba.ad bK P a_) Z;have aj:=aj.ext Z;have aK:=aK.ext Z;have aL:=aL.ext Z;have aN:=cD.ext aN Z;have ak:=ak.trans Z;obtain⟨af,L,ag,M⟩:=bC (V:=⟨none,0,0⟩) aj;obtain⟨qj,gX,bF,a3⟩:=bC aK;have bb:=cq.sub (a4.ext ak).kids (lo:=to) (hi:=n.kids.length) t2 (br _);have bS:(n.kids.drop to).take (n.kids.length-to)=n.kids.drop to:=dT (by rw[c5];exact br _);rw[bS]at bb;obtain⟨R,aq,f1,f2,f3⟩:=y8 aN bb (by rw[cE,cC];omega) (by rw[c5];omega);have ci:F.drew.heap.size=F.heap.size:=rfl;have cj:=f3.size;have au:∀q,aB aw q->w.heap.size<=q/\q<u.drew.heap.size/\q≠nb/\q≠aE/\q≠x:=λq c=>h.aI q (E q c);have bT:Ext w aq:=Ext.dj ak f3 λq c=>(au q c).1;have be:=aj.ad f3 λc=>(au _ c).2.2.2.1 rfl;have bU:=aL.ad f3 λc=>(au _ c).2.2.2.2 rfl;have bV:=ba.ad bQ f3 λq f c=>by
   have ck:=au q c;rcases f with f|f|f
   .rcases h.bd q f with g|g
    .omega
    .exact g.2.2.2.2.2 (E q c)
   .omega
   .omega
  obtain⟨bR,b3⟩:=dR be (i:=3) (by simp);refine aY (aY ⟨id,aw,M,id,D,a3,?_,R,aq,?_,by rw[ax];exact bR,by rw[ax];exact b3,?_⟩)
  .rw[a6];omega
  .rw[du,a6];exact f1
  rw[ax,cH];have ab:=dx aq aE 3 R;have bf:=dX be (i:=3) R;obtain⟨aO,bW⟩:∃aO,aO=aq.setCell ⟨aE,3,none⟩ R:=⟨_,rfl⟩;rw[←bW]at ab bf⊢;have cl:=ab.size;have bX:=bU.ad ab (λe=>H.2.2 e.symm);have bY:Ext w aO:=Ext.cv bT ab S;have b0:=ba.ad bV ab a_;have b1:=cq.ad f2 ab λq f e=>by
   subst e;rcases f with f|f|f
   .exact(h.aI _ f).2.2.2.1 rfl
   .omega
   .have:=h.o.lt;omega
  obtain⟨af,L,ag,M⟩:=bC (V:=⟨none,0,0⟩) bf;refine aY ⟨_,af,N,L,⟨none,0,0⟩,ag,R,M,?_⟩;refine iA false N ⟨none,0,0⟩ R bX bm (Q:=λb K V D ah=>tT B n fr to ks kids w (.agg #[b,K,V,D]) ah) λcm aP=>?_;refine⟨N,⟨none,0,0⟩,R,rfl,⟨?_,?_,?_⟩,Ext.cv bY aP G⟩
  .refine ba.aU (ba.ad b0 aP λq f e=>?_) λq _ f=>?_
   .subst e
    rcases f with f|f|f
    .rcases h.bd _ f with g|g
     .omega
     .exact g.2.2.2.2.1 rfl
    .omega
    .have:=h.r.lt;omega
   .rcases f with f|f|f
    .rcases h.bd _ f with g|g
     .exact .inl g.1
     .exact .inr g.1
    .exact .inl f.1
    .have:=y.size;exact .inr I
  .exact ba.none _ _
  .refine cq.aU (cq.ad b1 aP λq f e=>?_) λq _ f=>?_
   .subst e
    rcases f with f|f|f
    .exact(h.aI _ f).2.2.2.2 rfl
    .omega
    .have:=h.r.lt;omega
   .rcases f with f|f|f
    .exact .inr (h.aI _ f).1
    .exact .inl f.1
    .have:=ak.size;exact .inr I
theorem wm(K D:Y)(w:J):Sem.run ai (Instr.build 202 #[(1,K),(3,D)]) w=.ok (.agg #[false,K,(),D]) w:=by kernel_rfl
theorem oh{B:Nat->Prop}{w:J}{n:az}{K V D s:Y}{ks:O Key}{kids:O Nat}{fr to:Nat}(P:bp B w n K V D)(hl:jW B w s ks kids)(f1:fr<=n.keys.length)(f2:fr<=n.kids.length)(t1:1<=to)(t2:to<=n.kids.length)(t3:to-1<=n.keys.length)(bG:n.keys.length<=1000)(bc:n.kids.length<=1000):
 aH ai 250 #[cM n K V D,fr,to,s] w (tT B n fr to ks kids w):=by
 refine okF (af.oh n.leaf K V D (fr:Nat) (to:Nat) s) ay.oh func250 ?_;(delta af.oh cg U ak aW eT lz al aI r1 z5 rG st au a7 rI;dsimp only);refine bk (vs:=[n.leaf,K,V,D]) rfl λw1 am an aD=>?_;refine bk (vs:=[false,(),(),()]) rfl λah ao Q aF=>aY ?_;have E:Ext ah ah.drew:=cr _;have H:=(an.trans Q).trans E;obtain⟨d,R⟩:∃d,d=ah.drew:=⟨_,rfl⟩;have aK:d.heap.size=ah.heap.size:=by rw[R];rfl
 rw[←R]at H E⊢;have S:=(am.ext Q).ext E;have ap:=ao.ext E;obtain⟨bS,aA,aT,aG⟩:=bC S;have t:bp (λq=>B q/\q<w.heap.size) d n K V D:=(P.aU λq a c=>⟨c,a⟩).ext H;have aL:=ba.len t.keys;have aM:=cq.len t.kids;have aN:=ba.le t.keys;have aO:=t.kids.2.1;have L:=ba.sub t.keys (lo:=0) (hi:=fr) (cI _) f1;have F:=cq.sub t.kids (lo:=0) (hi:=fr) (cI _) f2;rw[kt,Nat.sub_zero]at L F;have T:Int.toNat (fr:Int)-0=fr:=by rw[du];rfl
 have fin:∀ (bZ:J) (aE:Nat) (dF D0:Y),Ext d bZ->Var bZ aE [false,dF,(),D0] 202->d.heap.size<=aE->bn (λq=>(B q/\q<w.heap.size)\/(d.heap.size<=q/\aB dF q)) bZ dF (n.keys.take fr)->aZ 1 3 bZ D0 (dr (n.kids.take fr))->
  (∀q,aB dF q->d.heap.size<=q/\q≠aE)->(∀q,aB D0 q->d.heap.size<=q/\q≠aE/\¬aB dF q)->wk w.heap.size aE w1.heap.size s (to:Nat) bZ (tT B n fr to ks kids w):=by
  intro bZ aE dF D0 hx aq aP W M X Z;have aQ:=hx.size;have aJ:∀q,aB dF q->q<bZ.heap.size:=λq a=>by
   obtain⟨ts,_,o,_,_⟩:=W;exact o.lt q a
  refine EI (bI:=λq=>(B q/\q<w.heap.size)\/aB dF q) (bA:=λq=>aB D0 q) ⟨S.ext hx,ap.ext hx,aq,bn.aU W λq _ c=>c.imp id λh=>h.2,⟨M,λq a=>⟨a,aZ.lt M q a⟩⟩,λq c=>?_,λq c=>?_,λq a=>by have:=(X q a).1;omega⟩ (H.trans hx) P hl rfl (br _) I I ⟨I,I,I⟩ t1 t2 t3 bG bc
  .rcases c with c|c
   .exact .inl c
   .have x:=X q c
    exact .inr ⟨I,aJ q c,I,x.2,I,λar=>(Z q ar).2.2 c⟩
  .have x:=Z q c
   exact⟨I,aZ.lt M q c,I,x.2.1,I⟩
 refine⟨λ_=>False,id,K,aA,⟨I,I⟩,id,D,aG,⟨I,I⟩,?_,?_⟩
 .rw[T]
  refine(zX L (by rw[cC];omega)).use ?_;rintro _ u ⟨dF,rfl,p,f,y⟩;have av:=f.size;refine⟨dF,rfl,f,?_,?_⟩
  .refine(p8 (F.1.ext f) (by rw[cC];omega)).use ?_
   rintro _ aa ⟨D0,rfl,v,G,ab⟩;have aR:=G.size;refine⟨D0,rfl,G,_,wm dF D0,bk (vs:=[false,(),(),()]) rfl λaS ac ae aV=>⟨ae,ac.b5 rfl (fp (b:=false) (K:=dF) (V:=⟨none,0,0⟩) (D:=D0)),rfl,cn ac (us:=[false,dF,(),D0]) rfl rfl λg z j ag=>?_⟩⟩;have k:Ext aa g:=Ext.cv ae j (br _);have r:∀q,aB dF q->q<u.heap.size:=λq a=>by
    obtain⟨ts,_,o,_,_⟩:=p;exact o.lt q a
   exact fin g aa.heap.size dF D0 (f.trans (G.trans k)) z I (bn.aU (bn.ext p (G.trans k)) λq _ c=>c.imp (λh=>h.1) id) (v.ext k) (λq a=>⟨y q a,by have:=r q a;omega⟩) λq a=>⟨by have:=ab q a;omega,by have:=aZ.lt v q a;omega,λh=>by have:=r q h;have:=ab q a;omega⟩
  .refine bk (vs:=[false,(),(),()]) rfl λaj N l aw=>⟨l,(p8 ((F.1.ext f).ext l) (by rw[cC];omega)).use ?_⟩
   rintro _ ax ⟨D0,rfl,v,m,i⟩;have A:=N.ext m;refine⟨D0,rfl,m,_,wm dF D0,A.b5 rfl (fp (b:=false) (K:=dF) (V:=⟨none,0,0⟩) (D:=D0)),rfl,cn A (us:=[false,dF,(),D0]) rfl rfl λg z j ag=>?_⟩;have k:Ext u g:=Ext.cv (l.trans m) j (br _);have r:∀q,aB dF q->q<u.heap.size:=λq a=>by
    obtain⟨ts,_,o,_,_⟩:=p;exact o.lt q a
   exact fin g u.heap.size dF D0 (f.trans k) z I (bn.aU (bn.ext p k) λq _ c=>c.imp (λh=>h.1) id) (v.ad j λq a e=>by have:=i q a;omega) (λq a=>⟨y q a,by have:=r q a;omega⟩) λq a=>⟨by have:=i q a;omega,by have:=i q a;omega,λh=>by have:=r q h;have:=i q a;omega⟩
 .rw[T]
  refine bk (vs:=[false,(),(),()]) rfl λaj N l aw=>⟨l,(zX (ba.ext L l) (by rw[cC];omega)).use ?_⟩;rintro _ u ⟨dF,rfl,p,f,y⟩;have av:=f.size;refine⟨dF,rfl,f,(p8 ((F.1.ext l).ext f) (by rw[cC];omega)).use ?_⟩;rintro _ ax ⟨D0,rfl,v,m,i⟩;have A:=(N.ext f).ext m;refine⟨D0,rfl,m,_,wm dF D0,A.b5 rfl (fp (b:=false) (K:=dF) (V:=⟨none,0,0⟩) (D:=D0)),rfl,cn A (us:=[false,dF,(),D0]) rfl rfl λg z j ag=>?_⟩;have k:Ext d g:=Ext.cv ((l.trans f).trans m) j (br _);have r:∀q,aB dF q->q<u.heap.size:=λq a=>by
   obtain⟨ts,_,o,_,_⟩:=p;exact o.lt q a
  have aC:bn (λq=>(B q/\q<w.heap.size)\/(d.heap.size<=q/\aB dF q)) g dF (n.keys.take fr):=by
   have x:=bn.aU (C:=λq=>(B q/\q<w.heap.size)\/(aj.heap.size<=q/\aB dF q)) (bn.ext p m) λq _ c=>c.imp (λh=>h.1) id;exact bn.aU (bn.ad x j λq c e=>by rcases c with c|c<;>omega) λq _ c=>c.imp id λh=>⟨I,h.2⟩
  exact fin g d.heap.size dF D0 k z (br _) aC (v.ad j λq a e=>by have:=i q a;omega) (λq a=>⟨by have:=y q a;omega,by have:=y q a;omega⟩) λq a=>⟨by have:=i q a;omega,by have:=i q a;omega,λh=>by have:=r q h;have:=i q a;omega⟩
def kj(n:az):Prop:=cp n/\bx n<=400/\(232<bx n->1<=bX n/\(if n.leaf then bX n<=n.keys.length-1/\1<=n.keys.length-1 else bX n<=n.keys.length-2/\1<=n.keys.length-2)/\bx (n.left (bX n))<=232/\bx (n.right (bX n))<=232)
structure kk(B:Nat->Prop)(w:J)(A:ab)(u:db):Prop where
 aA:w.cell? (A.add 1)=some (.bool u.n.leaf)
 aT:w.cell? ((A.add 1).add 1)=some (.slice u.K.a u.K.len u.K.cap)
 aG:w.cell? ((A.add 1).add 2)=some (.slice u.V.a u.V.len u.V.cap)
 de:w.cell? ((A.add 1).add 3)=some (.slice u.D.a u.D.len u.D.cap)
 aW:w.cell? (A.add 5)=some (.int .i64 (u.cB:Nat))
 bf:bp B w u.n u.K u.V u.D
 bP:B A.block
 lt:A.block<w.heap.size
theorem kk.ext{B:Nat->Prop}{w w':J}{A:ab}{u:db}(h:kk B w A u)(hx:Ext w w'):kk B w' A u:=
 ⟨ae.cell hx (λh=>h) h.aA,ae.cell hx (λh=>h) h.aT,ae.cell hx (λh=>h) h.aG,ae.cell hx (λh=>h) h.de,ae.cell hx (λh=>h) h.aW,h.bf.ext hx,h.bP,fc h.lt hx.size⟩
theorem kk.to{w w':J}{T aq:aK}{k:Nat}{A:ab}{u:db}(h:kk (λq=>¬T.M q) w A u)(ht:bO T aq w w' k):kk (λq=>¬aq.M q) w' A u:=by
 have hc:=ht.ad;have a:¬T.N A.block:=λc=>h.bP (aK.gu c);refine⟨ae.cell hc (A:=A.add 1) a h.aA,ae.cell hc (A:=(A.add 1).add 1) a h.aT,ae.cell hc (A:=(A.add 1).add 2) a h.aG,ae.cell hc (A:=(A.add 1).add 3) a h.de,ae.cell hc (A:=A.add 5) a h.aW,?_,λd=>?_,fc h.lt hc.size⟩
 .have h1:=ht.bf (lo:=0) (h.bf.aU λq _ b=>⟨cI _,b⟩)
  exact h1.aU λq _ b=>b.2
 .rcases ht.cN _ d with h1|h1
  .exact h.bP h1
  .have:=h.lt;omega
theorem gH.base{T:aK}{c:dd}{n:az}{w0 w w':J}{v:aa}(h:gH T c n w v w')(hx:Ext w0 w):gH T c n w0 v w':=by
 obtain⟨aq,c',m,s,av,a,b,d⟩:=h;exact⟨aq,c',m,s,av,((c4.ext T c hx).trans a).mono I,b,d⟩
theorem gH.out{T:aK}{c:dd}{n:az}{w w':J}{v:aa}(h:gH T c n w v w'):∃ (s:Y) (e:Int),v=.tuple #[s,e]:=by
 obtain⟨aq,c',m,s,av,b,d,a⟩:=h;rcases a with ⟨ks,rfl,_⟩|⟨rfl,_⟩
 .exact⟨s,0,rfl⟩
 .exact⟨s,3,rfl⟩
def wo(nb aE g bv:Nat)(c up:an ab)(n31 n36:Int)(bZ:J)(Q:aa->J->Prop):Prop:=
 bq (λaf:J->Prop=>∃ah:ab,up=some ah/\∃D:Int,bZ.cell? (ah.add 5)=some (.int .i64 D)/\((decide ((n36:Int)>D))=true->ao (bZ.drew) λd=>∃E:Nat->Prop,¬E (nb:ab).block/\∃F:ag,d.cell? nb=some (.bool F)/\∃j:Y,d.cell? (Addr.add nb 1)=some (.slice j.a j.len j.cap)/\∃k:Y,d.cell? (Addr.add nb 2)=some (.slice k.a k.len k.cap)/\∃l:Y,d.cell? (Addr.add nb 3)=some (.slice l.a l.len l.cap)/\¬E (aE:ab).block/\∃G:ag,d.cell? aE=some (.bool G)/\∃m:Y,d.cell? (Addr.add aE 1)=some (.slice m.a m.len m.cap)/\∃n:Y,d.cell? (Addr.add aE 2)=some (.slice n.a n.len n.cap)/\∃o:Y,d.cell? (Addr.add aE 3)=some (.slice o.a o.len o.cap)/\bz d g [F,j,k,l]/\(4:Nat)=4/\ao (setCells d g 0 [F,j,k,l]) λH=>ae E d H/\bz H bv [G,m,n,o]/\(4:Nat)=4/\ao (setCells H bv 0 [G,m,n,o]) λar=>af ar)/\((decide ((n36:Int)>D))=false->af bZ)) (λ(au:J)=>ao (au.drew) λb=>∃f:Nat->Prop,¬f (g:ab).block/\∃I:ag,b.cell? g=some (.bool I)/\∃p:Y,b.cell? (Addr.add g 1)=some (.slice p.a p.len p.cap)/\∃q:Y,b.cell? (Addr.add g 2)=some (.slice q.a q.len q.cap)/\∃r:Y,b.cell? (Addr.add g 3)=some (.slice r.a r.len r.cap)/\∃K:ab,up=some K/\¬f ((K.add 1).add 1).block/\∃s:Y,b.cell? ((K.add 1).add 1)=some (.slice s.a s.len s.cap)/\∃L:ab,s.a=some L/\((0:Int)<=n31/\n31<(s.len:Int))/\¬f (L.add (Int.toNat n31*1)).block/\∃t:Y,b.cell? (L.add (Int.toNat n31*1))=some (.slice t.a t.len t.cap)/\¬f (bv:ab).block/\∃M:ag,b.cell? bv=some (.bool M)/\∃u:Y,b.cell? (Addr.add bv 1)=some (.slice u.a u.len u.cap)/\∃v:Y,b.cell? (Addr.add bv 2)=some (.slice v.a v.len v.cap)/\∃w:Y,b.cell? (Addr.add bv 3)=some (.slice w.a w.len w.cap)/\(Calls ai 282 #[.agg #[I,p,q,r],t,.agg #[M,u,v,w]] b λav e=>∃N:ag,∃O:Y,∃P:Y,∃R:Y,∃S:ag,av=.returned (.tuple #[.agg #[N,O,P,R],S])/\ae f b e/\ao (e.alloc (.cells #[false,(),(),()] 202)) λT=>ae f e T/\bz T e.heap.size [N,O,P,R]/\(4:Nat)=4/\ao (setCells T e.heap.size 0 [N,O,P,R]) λh=>((!S)=true->Q (.tuple #[(),(0:Int),(0:Int),(4:Int)]) h)/\((!S)=false->∃aj:ag,h.cell? e.heap.size=some (.bool aj)/\∃x:Y,h.cell? (Addr.add e.heap.size 1)=some (.slice x.a x.len x.cap)/\∃y:Y,h.cell? (Addr.add e.heap.size 2)=some (.slice y.a y.len y.cap)/\∃z:Y,h.cell? (Addr.add e.heap.size 3)=some (.slice z.a z.len z.cap)/\Calls ai 281 #[.pointer c,.agg #[aj,x,y,z]] h λaw ax=>∃ak:Y,∃al:Int,aw=.returned (.tuple #[ak,al])/\Q (.tuple #[ak,n31,.int .i64 (IntKind.wrap .i64 (n31+2)),al]) ax))/\(ao (b.alloc (.cells #[false,(),(),()] 202)) λU=>ae f b U/\Calls ai 282 #[.agg #[I,p,q,r],t,.agg #[M,u,v,w]] U λay V=>∃W:ag,∃X:Y,∃Z:Y,∃ac:Y,∃ad:ag,ay=.returned (.tuple #[.agg #[W,X,Z,ac],ad])/\ae f U V/\bz V b.heap.size [W,X,Z,ac]/\(4:Nat)=4/\ao (setCells V b.heap.size 0 [W,X,Z,ac]) λi=>((!ad)=true->Q (.tuple #[(),(0:Int),(0:Int),(4:Int)]) i)/\((!ad)=false->∃am:ag,i.cell? b.heap.size=some (.bool am)/\∃A:Y,i.cell? (Addr.add b.heap.size 1)=some (.slice A.a A.len A.cap)/\∃B:Y,i.cell? (Addr.add b.heap.size 2)=some (.slice B.a B.len B.cap)/\∃C:Y,i.cell? (Addr.add b.heap.size 3)=some (.slice C.a C.len C.cap)/\Calls ai 281 #[.pointer c,.agg #[am,A,B,C]] i λaz aA=>∃ap:Y,∃aq:Int,az=.returned (.tuple #[ap,aq])/\Q (.tuple #[ap,n31,.int .i64 (IntKind.wrap .i64 (n31+2)),aq]) aA)))
theorem EJ{W X:Nat->Prop}{w0 bZ:J}{T:aK}{c:dd}{nb aE g bv:Nat}{A:ab}{u:db}{n o:az}{K V D i j k:Y}{fr other:Nat}{Q:aa->J->Prop}(h:c3 w0 T c)(hx:Ext w0 bZ)(am:Var w0 nb (dL n K V D) 202)(an:Var w0 aE (dL o i j k) 202)
 (ao:Var bZ g (dL o i j k) 202) (ap:Var bZ bv (dL n K V D) 202) (h1:w0.heap.size<=g) (aU:w0.heap.size<=bv) (aq:g≠bv) (ar:bp W w0 n K V D) (au:bp X w0 o i j k) (hu:kk (λq=>¬T.M q) w0 A u)
 (av:T.C.D.aO<=900000090) (aw:2<=b7 T) (ax:c.made.length<=900) (ia:cp n) (Z:cp o) (bu:bx n<=400) (bw:bx o<=400) (hl:o.leaf=n.leaf) (aV:fr<u.n.keys.length) (ay:cT u.n.keys[fr]) (m:az) (aA:m=if u.cB<other then dp n u.n.keys[fr] o else dp o u.n.keys[fr] n) (l:kj m) (bz:fr<=1000)
 (aB:∀ (s:Y) (e:Int) (w':J),gH T c m w0 (.tuple #[s,e]) w'->Q (.tuple #[s,fr,.int .i64 ((fr+2:Nat):Int),e]) w'):
 wo nb aE g bv (some c.cb) (some A) (fr:Nat) (other:Nat) bZ Q:=by
 have bA:=am.lt;have bD:=an.lt;have bE:=hx.size;have fn:=ia.g9 I;have bF:=Z.g9 I;unfold wo;refine jm (λp=>∃ (a b:az) (G H L N O P:Y) (aC aD:Nat->Prop),Ext w0 p/\Var p g (dL a G H L) 202/\Var p bv (dL b N O P) 202/\bp aC w0 a G H L/\bp aD w0 b N O P/\m=dp a u.n.keys[fr] b/\cp a/\cp b/\a.leaf=b.leaf/\a.keys.length<=200/\b.keys.length<=200)
  (λq r=>⟨A,rfl,_,(hu.ext hx).aW,λd=>?_,λd=>r _ ⟨o,n,i,j,k,K,V,D,X,W,hx,ao,ap,au,ar,?_,Z,ia,hl,I,I⟩⟩) ?_
 .have d:u.cB<other:=by
   have:(other:Int)>(u.cB:Int):=cf d;omega
  have f:=hx.trans (cr bZ);obtain⟨aX,bG,bc,aZ⟩:=bC (am.ext f);obtain⟨a0,a4,a5,a6⟩:=bC (an.ext f);have aF:=ao.drew;have a7:=ap.drew;refine aY ⟨λq=>q=g,(show nb≠g from I),_,aX,K,bG,V,bc,D,aZ,(show aE≠g from I),_,a0,i,a4,j,a5,k,a6,aF.b5 rfl fp,rfl,cn aF (us:=dL n K V D) rfl rfl λbH a8 ac bI=>?_⟩;have aG:=a7.ad ac (λe=>aq e.symm);refine⟨ac,aG.b5 rfl fp,rfl,cn aG (us:=dL o i j k) rfl rfl λbJ a9 aH bK=>?_⟩;exact r _ ⟨n,o,K,V,D,i,j,k,W,X,Ext.cv (Ext.cv f ac h1) aH aU,a8.ad aH aq,a9,ar,au,by rw[aA,if_pos d],ia,Z,hl.symm,I,I⟩
 .have d:¬u.cB<other:=by
   have:¬(other:Int)>(u.cB:Int):=cx d;omega
  rw[aA,if_neg d]
 rintro p ⟨a,b,G,H,L,N,O,P,aC,aD,a_,bb,d,aI,aJ,ae,sa,sb,aL,bL,lb⟩;have f:=a_.trans (cr p);have bd:=bb.drew;have be:=d.drew;obtain⟨bg,a1,a2,a3⟩:=bC bd;obtain⟨bh,b8,bM,bi⟩:=bC be;have aM:=hu.ext f;obtain⟨bj,tk,bl,bm,bn,R,bN⟩:=ba.at aM.bf.keys aV;have aN:cp (dp a u.n.keys[fr] b):=by rw[←ae];exact l.1
 have B:=mJ (aI.ext f) (aJ.ext f) R.1 (λq r=>(R.2.2 q r).2) (by have:=ay.2;omega) sa sb aL aN I I;rw[←ae]at B;have aP:IntKind.wrap .i64 ((fr:Int)+2)=((fr+2:Nat):Int):=by rw[bB I I];rfl
 obtain⟨wd,bO⟩:∃wd,wd=p.drew:=⟨_,rfl⟩;refine aY ⟨λ_=>False,id,_,bg,G,a1,H,a2,L,a3,A,rfl,id,u.K,aM.aT,bj,bl,bm,id,tk,bn,id,_,bh,N,b8,O,bM,P,bi,?_,?_⟩
 .refine B.use ?_
  rintro _ bo ⟨t,w,x,rfl,af,y⟩;refine⟨_,t,w,x,true,rfl,y,bk (vs:=[false,(),(),()]) rfl λbP aQ aR bQ=>⟨aR,aQ.b5 rfl fp,rfl,cn aQ (us:=dL m t w x) rfl rfl λag ah S bq=>⟨λd=>(by cases d),λ_=>?_⟩⟩⟩;have U:Ext bo ag:=Ext.cv aR S (br _);have E:=(f.trans y).trans U;obtain⟨ai,aj,ak,al⟩:=bC ah;refine⟨_,ai,t,aj,w,ak,x,al,(tS (h.ext E) av aw ax (af.ext U) l.1 l.2.1 l.2.2).use ?_⟩;intro v w' F;obtain⟨s,e,rfl⟩:=F.out;rw[aP];exact⟨s,e,rfl,aB s e w' (F.base E)⟩
 .refine bk (vs:=[false,(),(),()]) rfl λbR bs z bS=>⟨z,?_⟩
  have B:=mJ ((aI.ext f).ext z) ((aJ.ext f).ext z) (R.1.ext z) (λq r=>fc (R.2.2 q r).2 z.size) (by have:=ay.2;omega) sa sb aL aN I I;rw[←ae]at B;refine B.use ?_;rintro _ bT ⟨t,w,x,rfl,af,y⟩;have aS:=bs.ext y;refine⟨_,t,w,x,true,rfl,y,aS.b5 rfl fp,rfl,cn aS (us:=dL m t w x) rfl rfl λag ah S bq=>⟨λd=>(by cases d),λ_=>?_⟩⟩;have U:Ext p.drew ag:=Ext.cv (z.trans y) S (br _);have E:=f.trans U;have bt:=bp.ad af S λq r e=>by omega
  obtain⟨ai,aj,ak,al⟩:=bC ah;refine⟨_,ai,t,aj,w,ak,x,al,(tS (h.ext E) av aw ax bt l.1 l.2.1 l.2.2).use ?_⟩;intro v w' F;obtain⟨s,e,rfl⟩:=F.out;rw[aP];exact⟨s,e,rfl,aB s e w' (F.base E)⟩
theorem c4.leave{T:aK}{c c':dd}{E G:Nat->Prop}{w w':J}{no:Nat}(h:bO T (T.cc E G) w w' 0)(a:E=T.E)(b:∀q,T.G q->G q)(h1:c'.cb=c.cb)(d:c'.made=c.made)(e:c'.left=c.left++ [no]):c4 T (T.cc E G) c c' [] [no] w w' 0:=
 ⟨h,a,b,rfl,rfl,h1,by rw[d,fX],e,List.nodup_nil,λ_ h=>(by cases h),λno=>by simp[aK.cc],λ_ _=>⟨rfl,rfl⟩,by simp[b7,aK.cc]⟩
def wq(nb aE:Nat)(c up:an ab)(n31 n36 n41 aH:Int)(bZ:J)(Q:aa->J->Prop):Prop:=
 (((aH:Int) !=0)=true->Q (.tuple #[(),(0:Int),(0:Int),aH]) bZ)/\(((aH:Int) !=0)=false->∃bu:ab,c=some bu/\∃al:Y,bZ.cell? (bu.add 2)=some (.slice al.a al.len al.cap)/\ao (bZ.alloc (.cells #[n41] 3)) λbO=>∃bv:Y,∃am:J,Sem.run ai (Builtin.append_ #[58,58] 58 #[al,.slice (some bZ.heap.size) 1 1]) bO=.ok bv am/\∃ap:ab,c=some ap/\(∃u:aa,am.cell? (ap.add 2)=some u)/\am.frozen? (ap.add 2)=false/\ao (am.setCell (ap.add 2) bv) λbP=>ao (bP.drew) λb=>∃l:Nat->Prop,¬l (aE:ab).block/\∃z:ag,b.cell? aE=some (.bool z)/\∃o:Y,b.cell? (Addr.add aE 1)=some (.slice o.a o.len o.cap)/\∃p:Y,b.cell? (Addr.add aE 2)=some (.slice p.a p.len p.cap)/\∃q:Y,b.cell? (Addr.add aE 3)=some (.slice q.a q.len q.cap)/\¬l (nb:ab).block/\∃A:ag,b.cell? nb=some (.bool A)/\∃r:Y,b.cell? (Addr.add nb 1)=some (.slice r.a r.len r.cap)/\∃s:Y,b.cell? (Addr.add nb 2)=some (.slice s.a s.len s.cap)/\∃t:Y,b.cell? (Addr.add nb 3)=some (.slice t.a t.len t.cap)/\(ao (b.alloc (.cells #[false,(),(),()] 202)) λf=>ae l b f/\ao (f.alloc (.cells #[false,(),(),()] 202)) λaq=>ae l f aq/\bz aq b.heap.size [z,o,p,q]/\(4:Nat)=4/\ao (setCells aq b.heap.size 0 [z,o,p,q]) λaI=>ae l aq aI/\bz aI f.heap.size [A,r,s,t]/\(4:Nat)=4/\ao (setCells aI f.heap.size 0 [A,r,s,t]) λaJ=>bq (λbw:J->Prop=>∃bx:ab,up=some bx/\∃aK:Int,aJ.cell? (bx.add 5)=some (.int .i64 aK)/\((decide ((n36:Int)>aK))=true->ao (aJ.drew) λh=>∃aL:Nat->Prop,¬aL (nb:ab).block/\∃aM:ag,h.cell? nb=some (.bool aM)/\∃B:Y,h.cell? (Addr.add nb 1)=some (.slice B.a B.len B.cap)/\∃C:Y,h.cell? (Addr.add nb 2)=some (.slice C.a C.len C.cap)/\∃D:Y,h.cell? (Addr.add nb 3)=some (.slice D.a D.len D.cap)/\¬aL (aE:ab).block/\∃aN:ag,h.cell? aE=some (.bool aN)/\∃E:Y,h.cell? (Addr.add aE 1)=some (.slice E.a E.len E.cap)/\∃F:Y,h.cell? (Addr.add aE 2)=some (.slice F.a F.len F.cap)/\∃G:Y,h.cell? (Addr.add aE 3)=some (.slice G.a G.len G.cap)/\bz h b.heap.size [aM,B,C,D]/\(4:Nat)=4/\ao (setCells h b.heap.size 0 [aM,B,C,D]) λaO=>ae aL h aO/\bz aO f.heap.size [aN,E,F,G]/\(4:Nat)=4/\ao (setCells aO f.heap.size 0 [aN,E,F,G]) λbQ=>bw bQ)/\((decide ((n36:Int)>aK))=false->bw aJ)) (λ(bR:J)=>ao (bR.drew) λd=>∃m:Nat->Prop,¬m (b.heap.size:ab).block/\∃aP:ag,d.cell? b.heap.size=some (.bool aP)/\∃H:Y,d.cell? (Addr.add b.heap.size 1)=some (.slice H.a H.len H.cap)/\∃I:Y,d.cell? (Addr.add b.heap.size 2)=some (.slice I.a I.len I.cap)/\∃K:Y,d.cell? (Addr.add b.heap.size 3)=some (.slice K.a K.len K.cap)/\∃aQ:ab,up=some aQ/\¬m ((aQ.add 1).add 1).block/\∃L:Y,d.cell? ((aQ.add 1).add 1)=some (.slice L.a L.len L.cap)/\∃aR:ab,L.a=some aR/\((0:Int)<=n31/\n31<(L.len:Int))/\¬m (aR.add (Int.toNat n31*1)).block/\∃M:Y,d.cell? (aR.add (Int.toNat n31*1))=some (.slice M.a M.len M.cap)/\¬m (f.heap.size:ab).block/\∃aS:ag,d.cell? f.heap.size=some (.bool aS)/\∃N:Y,d.cell? (Addr.add f.heap.size 1)=some (.slice N.a N.len N.cap)/\∃O:Y,d.cell? (Addr.add f.heap.size 2)=some (.slice O.a O.len O.cap)/\∃P:Y,d.cell? (Addr.add f.heap.size 3)=some (.slice P.a P.len P.cap)/\(Calls ai 282 #[.agg #[aP,H,I,K],M,.agg #[aS,N,O,P]] d λbS j=>∃aT:ag,∃aU:Y,∃aV:Y,∃aW:Y,∃aX:ag,bS=.returned (.tuple #[.agg #[aT,aU,aV,aW],aX])/\ae m d j/\ao (j.alloc (.cells #[false,(),(),()] 202)) λaY=>ae m j aY/\bz aY j.heap.size [aT,aU,aV,aW]/\(4:Nat)=4/\ao (setCells aY j.heap.size 0 [aT,aU,aV,aW]) λv=>((!aX)=true->Q (.tuple #[(),(0:Int),(0:Int),(4:Int)]) v)/\((!aX)=false->∃bA:ag,v.cell? j.heap.size=some (.bool bA)/\∃ar:Y,v.cell? (Addr.add j.heap.size 1)=some (.slice ar.a ar.len ar.cap)/\∃au:Y,v.cell? (Addr.add j.heap.size 2)=some (.slice au.a au.len au.cap)/\∃av:Y,v.cell? (Addr.add j.heap.size 3)=some (.slice av.a av.len av.cap)/\Calls ai 281 #[.pointer c,.agg #[bA,ar,au,av]] v λbT bU=>∃bB:Y,∃bC:Int,bT=.returned (.tuple #[bB,bC])/\Q (.tuple #[bB,n31,.int .i64 (IntKind.wrap .i64 (n31+2)),bC]) bU))/\(ao (d.alloc (.cells #[false,(),(),()] 202)) λaZ=>ae m d aZ/\Calls ai 282 #[.agg #[aP,H,I,K],M,.agg #[aS,N,O,P]] aZ λbV a0=>∃a1:ag,∃a2:Y,∃a3:Y,∃a4:Y,∃a5:ag,bV=.returned (.tuple #[.agg #[a1,a2,a3,a4],a5])/\ae m aZ a0/\bz a0 d.heap.size [a1,a2,a3,a4]/\(4:Nat)=4/\ao (setCells a0 d.heap.size 0 [a1,a2,a3,a4]) λw=>((!a5)=true->Q (.tuple #[(),(0:Int),(0:Int),(4:Int)]) w)/\((!a5)=false->∃bD:ag,w.cell? d.heap.size=some (.bool bD)/\∃aw:Y,w.cell? (Addr.add d.heap.size 1)=some (.slice aw.a aw.len aw.cap)/\∃ax:Y,w.cell? (Addr.add d.heap.size 2)=some (.slice ax.a ax.len ax.cap)/\∃ay:Y,w.cell? (Addr.add d.heap.size 3)=some (.slice ay.a ay.len ay.cap)/\Calls ai 281 #[.pointer c,.agg #[bD,aw,ax,ay]] w λbW bX=>∃bE:Y,∃bF:Int,bW=.returned (.tuple #[bE,bF])/\Q (.tuple #[bE,n31,.int .i64 (IntKind.wrap .i64 (n31+2)),bF]) bX))))/\(ao (b.alloc (.cells #[false,(),(),()] 202)) λg=>ae l b g/\ao (g.alloc (.cells #[false,(),(),()] 202)) λaz=>ae l g az/\bz az g.heap.size [z,o,p,q]/\(4:Nat)=4/\ao (setCells az g.heap.size 0 [z,o,p,q]) λa6=>ae l az a6/\bz a6 b.heap.size [A,r,s,t]/\(4:Nat)=4/\ao (setCells a6 b.heap.size 0 [A,r,s,t]) λa7=>bq (λbG:J->Prop=>∃bH:ab,up=some bH/\∃a8:Int,a7.cell? (bH.add 5)=some (.int .i64 a8)/\((decide ((n36:Int)>a8))=true->ao (a7.drew) λi=>∃a9:Nat->Prop,¬a9 (nb:ab).block/\∃a_:ag,i.cell? nb=some (.bool a_)/\∃R:Y,i.cell? (Addr.add nb 1)=some (.slice R.a R.len R.cap)/\∃S:Y,i.cell? (Addr.add nb 2)=some (.slice S.a S.len S.cap)/\∃T:Y,i.cell? (Addr.add nb 3)=some (.slice T.a T.len T.cap)/\¬a9 (aE:ab).block/\∃ba:ag,i.cell? aE=some (.bool ba)/\∃U:Y,i.cell? (Addr.add aE 1)=some (.slice U.a U.len U.cap)/\∃V:Y,i.cell? (Addr.add aE 2)=some (.slice V.a V.len V.cap)/\∃W:Y,i.cell? (Addr.add aE 3)=some (.slice W.a W.len W.cap)/\bz i g.heap.size [a_,R,S,T]/\(4:Nat)=4/\ao (setCells i g.heap.size 0 [a_,R,S,T]) λbb=>ae a9 i bb/\bz bb b.heap.size [ba,U,V,W]/\(4:Nat)=4/\ao (setCells bb b.heap.size 0 [ba,U,V,W]) λbY=>bG bY)/\((decide ((n36:Int)>a8))=false->bG a7)) (λ(b0:J)=>ao (b0.drew) λe=>∃n:Nat->Prop,¬n (g.heap.size:ab).block/\∃bc:ag,e.cell? g.heap.size=some (.bool bc)/\∃X:Y,e.cell? (Addr.add g.heap.size 1)=some (.slice X.a X.len X.cap)/\∃Z:Y,e.cell? (Addr.add g.heap.size 2)=some (.slice Z.a Z.len Z.cap)/\∃ac:Y,e.cell? (Addr.add g.heap.size 3)=some (.slice ac.a ac.len ac.cap)/\∃bd:ab,up=some bd/\¬n ((bd.add 1).add 1).block/\∃ad:Y,e.cell? ((bd.add 1).add 1)=some (.slice ad.a ad.len ad.cap)/\∃be:ab,ad.a=some be/\((0:Int)<=n31/\n31<(ad.len:Int))/\¬n (be.add (Int.toNat n31*1)).block/\∃af:Y,e.cell? (be.add (Int.toNat n31*1))=some (.slice af.a af.len af.cap)/\¬n (b.heap.size:ab).block/\∃bf:ag,e.cell? b.heap.size=some (.bool bf)/\∃ah:Y,e.cell? (Addr.add b.heap.size 1)=some (.slice ah.a ah.len ah.cap)/\∃aj:Y,e.cell? (Addr.add b.heap.size 2)=some (.slice aj.a aj.len aj.cap)/\∃ak:Y,e.cell? (Addr.add b.heap.size 3)=some (.slice ak.a ak.len ak.cap)/\(Calls ai 282 #[.agg #[bc,X,Z,ac],af,.agg #[bf,ah,aj,ak]] e λb1 k=>∃bg:ag,∃bh:Y,∃bi:Y,∃bj:Y,∃bk:ag,b1=.returned (.tuple #[.agg #[bg,bh,bi,bj],bk])/\ae n e k/\ao (k.alloc (.cells #[false,(),(),()] 202)) λbl=>ae n k bl/\bz bl k.heap.size [bg,bh,bi,bj]/\(4:Nat)=4/\ao (setCells bl k.heap.size 0 [bg,bh,bi,bj]) λx=>((!bk)=true->Q (.tuple #[(),(0:Int),(0:Int),(4:Int)]) x)/\((!bk)=false->∃bI:ag,x.cell? k.heap.size=some (.bool bI)/\∃aA:Y,x.cell? (Addr.add k.heap.size 1)=some (.slice aA.a aA.len aA.cap)/\∃aB:Y,x.cell? (Addr.add k.heap.size 2)=some (.slice aB.a aB.len aB.cap)/\∃aC:Y,x.cell? (Addr.add k.heap.size 3)=some (.slice aC.a aC.len aC.cap)/\Calls ai 281 #[.pointer c,.agg #[bI,aA,aB,aC]] x λb2 b3=>∃bJ:Y,∃bK:Int,b2=.returned (.tuple #[bJ,bK])/\Q (.tuple #[bJ,n31,.int .i64 (IntKind.wrap .i64 (n31+2)),bK]) b3))/\(ao (e.alloc (.cells #[false,(),(),()] 202)) λbm=>ae n e bm/\Calls ai 282 #[.agg #[bc,X,Z,ac],af,.agg #[bf,ah,aj,ak]] bm λb4 bn=>∃bo:ag,∃bp:Y,∃br:Y,∃bs:Y,∃bt:ag,b4=.returned (.tuple #[.agg #[bo,bp,br,bs],bt])/\ae n bm bn/\bz bn e.heap.size [bo,bp,br,bs]/\(4:Nat)=4/\ao (setCells bn e.heap.size 0 [bo,bp,br,bs]) λy=>((!bt)=true->Q (.tuple #[(),(0:Int),(0:Int),(4:Int)]) y)/\((!bt)=false->∃bL:ag,y.cell? e.heap.size=some (.bool bL)/\∃aD:Y,y.cell? (Addr.add e.heap.size 1)=some (.slice aD.a aD.len aD.cap)/\∃aF:Y,y.cell? (Addr.add e.heap.size 2)=some (.slice aF.a aF.len aF.cap)/\∃aG:Y,y.cell? (Addr.add e.heap.size 3)=some (.slice aG.a aG.len aG.cap)/\Calls ai 281 #[.pointer c,.agg #[bL,aD,aF,aG]] y λb5 b6=>∃bM:Y,∃bN:Int,b5=.returned (.tuple #[bM,bN])/\Q (.tuple #[bM,n31,.int .i64 (IntKind.wrap .i64 (n31+2)),bN]) b6)))))
theorem EK{w:J}{T:aK}{c:dd}{nb aE:Nat}{A:ab}{u:db}{n o:az}{K V D g i j:Y}{fr other no:Nat}{Q:aa->J->Prop}(h:c3 w T c)(ap:Var w nb (dL n K V D) 202)(aq:Var w aE (dL o g i j) 202)
 (ar:¬T.M nb) (au:¬T.M aE) (aw:bp (λq=>¬T.M q) w n K V D) (ay:bp (λq=>¬T.M q) w o g i j) (hu:kk (λq=>¬T.M q) w A u)
 (aC:T.C.D.aO<=900000090) (aD:2<=b7 T) (aF:c.made.length<=900) (bh:c.left.length<=900) (ia:cp n) (aG:cp o) (aH:bx n<=400) (aI:bx o<=400) (hl:o.leaf=n.leaf) (aJ:fr<u.n.keys.length) (aL:cT u.n.keys[fr]) (m:az) (z:m=if u.cB<other then dp n u.n.keys[fr] o else dp o u.n.keys[fr] n) (aM:kj m) (aN:fr<=1000)
 (aP:∀ (s:Y) (e:Int) (bH:aK) (aA:dd) (w1 w':J),c4 T bH c aA [] [no] w w1 0->gH bH aA m w1 (.tuple #[s,e]) w'->Q (.tuple #[s,fr,.int .i64 ((fr+2:Nat):Int),e]) w'):
 wq nb aE (some c.cb) (some A) (fr:Nat) (other:Nat) (no:Nat) 0 w Q:=by
 unfold wq;refine⟨λB=>(by cases B),λ_=>⟨_,rfl,_,h.cells.2.2,?_⟩⟩;obtain⟨k,ai,av,bi,aQ,aR,aS⟩:=zR h no I;refine aY ⟨k,ai,av,_,rfl,by rw[ax];exact aQ,by rw[ax];exact aR,aY ?_⟩;rw[ax];obtain⟨b,aj⟩:∃b,b=ai.setCell ⟨c.cb,0+2,none⟩ k:=⟨_,rfl⟩;rw[←aj];obtain⟨ak,al⟩:=aS b aj;have am:=c4.leave (c:=c) (c':={c with fK:=k,left:=c.left++ [no]}) (no:=no) al rfl (λq F=>.inl F) rfl rfl rfl;obtain⟨bH,x⟩:∃bH,bH=T.cc T.E λq=>T.G q\/aB k q:=⟨_,rfl⟩;obtain⟨aA,H⟩:∃aA:dd,aA={c with fK:=k,left:=c.left++ [no]}:=⟨_,rfl⟩;have aT:aA.cb=c.cb:=by rw[H]
 have aU:aA.made=c.made:=by rw[H]
 have aV:bH.C.D.aO<=900000090:=by rw[x];exact aC
 have aW:2<=b7 bH:=by rw[x];exact aD
 rw[←x,←H]at ak am;rw[←x]at al;have L:Ext b b.drew:=cr _;have an:=ak.ext L;have O:c4 T bH c aA [] [no] w b.drew 0:=am.trans (c4.ext bH aA L);obtain⟨a,aX⟩:∃a,a=b.drew:=⟨_,rfl⟩;rw[←aX]at L an O⊢;have y:=O.to;have P:∀q,¬T.M q->¬T.N q:=λq h1 R=>h1 (aK.gu R);have S:=ap.ad y.ad (P _ ar);have U:=aq.ad y.ad (P _ au);have ao:∀ {m:az}{K V D:Y},bp (λq=>¬T.M q) w m K V D->bp (λq=>¬T.M q) a m K V D:=λz=>bp.ad z y.ad λq F=>P q F;have aZ:=ao aw;have a0:=ao ay;have a1:=hu.to y;obtain⟨a2,bG,bc,a3⟩:=bC S;obtain⟨a4,a5,a6,a7⟩:=bC U;have bj:=S.lt;have bl:=U.lt;have fin:∀ (bZ:J) (l bv:Nat),Ext a bZ->Var bZ l (dL o g i j) 202->Var bZ bv (dL n K V D) 202->a.heap.size<=l->a.heap.size<=bv->l≠bv->wo nb aE l bv (some c.cb) (some A) (fr:Nat) (other:Nat) bZ Q:=by
  intro bZ l bv hx a8 B h1 R a9;have:=EJ an hx S U a8 B h1 R a9 aZ a0 a1 aV aW (by rw[aU];exact aF) ia aG aH aI hl aJ aL m z aM aN (Q:=Q) λs e w' hf=>aP s e bH aA a w' O hf;rw[aT]at this;exact this
 refine aY ⟨λq=>a.heap.size<=q,(show¬a.heap.size<=aE from I),_,a4,g,a5,i,a6,j,a7,(show¬a.heap.size<=nb from I),_,a2,K,bG,V,bc,D,a3,?_,?_⟩
 .refine bk (vs:=[false,(),(),()]) rfl λW a_ p ba=>⟨ae.cJ p,bk (vs:=[false,(),(),()]) rfl λbb X d bd=>?_⟩
  have r:=a_.ext d;refine⟨ae.cJ d,r.b5 rfl fp,rfl,cn r (us:=dL o g i j) rfl rfl λZ ac f be=>?_⟩;have t:=X.ad f I;have af:Ext a Z:=Ext.cv (p.trans d) f (br _);refine⟨f.mono λq _ e=>I,t.b5 rfl fp,rfl,cn t (us:=dL n K V D) rfl rfl λag ah v bf=>?_⟩;exact fin ag a.heap.size W.heap.size (Ext.cv af v I) (ac.ad v I) ah (br _) I I
 .refine bk (vs:=[false,(),(),()]) rfl λW bg p ba=>⟨ae.cJ p,bk (vs:=[false,(),(),()]) rfl λbb r d bd=>?_⟩
  have X:=bg.ext d;refine⟨ae.cJ d,r.b5 rfl fp,rfl,cn r (us:=dL o g i j) rfl rfl λZ ac f be=>?_⟩;have t:=X.ad f I;have af:Ext a Z:=Ext.cv (p.trans d) f I;refine⟨f.mono λq _ e=>I,t.b5 rfl fp,rfl,cn t (us:=dL n K V D) rfl rfl λag ah v bf=>?_⟩;exact fin ag W.heap.size a.heap.size (Ext.cv af v (br _)) (ac.ad v I) ah I (br _) I
theorem bO.read{w w':J}{T:aK}{E:Nat->Prop}{aC:bN}{P:Nat->an az}{k:Nat}(h:bO (T.cc E λ_=>False) ((T.cc E λ_=>False).bw aC P) w w' k)(f:∀q,T.E q\/T.G q->E q)(i:∀q,E q->T.E q\/T.G q\/w.heap.size<=q):bO T (T.bw aC P) w w' k:=by
 refine⟨h.a6,h.sb,h.n,h.g,h.s1,h.s2,h.c,h.d,h.a_,h.gen,h.aO,h.calm,h.ad.mono λq _ a=>?_,λq a=>?_,λq a=>?_⟩
 .rcases a with a|a|a|a
  .exact .inl a
  .exact .inr (.inl a)
  .exact .inr (.inr (.inl a))
  .exact a.elim
 .have h1:((T.cc E λ_=>False).bw aC P).M q:=by
   rcases a with a|a|a|a
   .exact .inl a
   .exact .inr (.inl a)
   .exact .inr (.inr (.inl a))
   .exact .inr (.inr (.inr (.inl (f q a))))
  rcases h.cN q h1 with b|b
  .rcases b with a|a|a|a|a
   .exact .inl (.inl a)
   .exact .inl (.inr (.inl a))
   .exact .inl (.inr (.inr (.inl a)))
   .rcases i q a with e|e|e
    .exact .inl (.inr (.inr (.inr (.inl e))))
    .exact .inl (.inr (.inr (.inr (.inr e))))
    .exact .inr e
   .exact a.elim
  .exact .inr b
 .rcases a with a|a|a|a
  .rcases h.fn q (.inl a) with b|b
   .rcases b with b|b|b|b
    .exact .inl (.inl b)
    .exact .inl (.inr (.inl b))
    .exact .inl (.inr (.inr (.inl b)))
    .exact b.elim
   .exact .inr b
  .exact .inl (.inr (.inl a))
  .exact .inl (.inr (.inr (.inl a)))
  .exact .inl (.inr (.inr (.inr a)))
theorem c4.cache{T:aK}{c:dd}{aC:bN}{w w':J}{k:Nat}(h:bO T (T.bw aC T.P) w w' k)(a:∀j,aC.view j=T.C.view j):c4 T (T.bw aC T.P) c c [] [] w w' k:=
 ⟨h,rfl,λ_ h=>h,rfl,rfl,rfl,by simp,by simp,List.nodup_nil,λ_ h=>(by cases h),λno=>by simp[aK.bw],λno _=>⟨rfl,a no⟩,by simp[b7,aK.bw]⟩
theorem zY{w w1:J}{T:aK}{c:dd}{Z:Nat->Prop}{no:Nat}{o:az}(h:c3 w T c)(hx:Ext w w1)(g:∀q,Z q->w.heap.size<=q/\q<w1.heap.size)(y:T.C.D.aO<=999999999)(z:T.P no=some o):
 aH ai 196 #[.pointer (some T.a6),no,o.leaf] w1 (λv w'=>∃aC:bN,(∀j,aC.view j=T.C.view j)/\ae (λq=>T.N q/\¬T.G q) w1 w'/\(∀q,(T.bw aC T.P).M q->T.M q\/w1.heap.size<=q)/\
  (∀f,ae Z w' f->c3 f (T.bw aC T.P) c/\c4 T (T.bw aC T.P) c c [] [] w f 2)/\
  ((∃ (K V D:Y),v=.tuple #[cM o K V D,(0:Int)]/\bp (λq=>w1.heap.size<=q/\¬(T.bw aC T.P).M q) w' o K V D)\/(v=.tuple #[cM jS bu bu bu,(3:Int)]/\¬T.C.D.calm 2))):=by
 obtain⟨A,i⟩:=h.t.dM no o z;obtain⟨bT,k⟩:∃bT,bT=λq=>T.E q\/T.G q\/Z q:=⟨_,rfl⟩;have d:∀q,T.E q\/T.G q\/Z q->bT q:=λq a=>by rw[k];exact a
 have l:∀q,bT q->T.E q\/T.G q\/Z q:=λq a=>by rw[k]at a;exact a
 have m:bK w1 (T.cc bT λ_=>False):=h.t.grow (W:=λ_=>False) hx (λ_ h=>h.elim) (λq a=>(l q a).imp id (Or.imp id (g q))) (λ_ h=>h.elim) λ_ _ h=>h;have n:∀q,(T.cc bT λ_=>False).N q->T.N q/\¬T.G q:=λq a=>⟨by
  rcases a with a|a|a|a
  .exact .inl a
  .exact .inr (.inl a)
  .exact .inr (.inr (.inl a))
  .exact a.elim,λhg=>m.iC (d q (.inr (.inl hg))) a⟩
 refine(wi m y A i.two o.leaf).mono ?_;rintro v w' ⟨aC,B,ht,r,F⟩;have Q:=hx.size;have R:=ht.ad.size;have s:=(bO.ext (T.cc bT λ_=>False) hx).trans ht;rw[cH]at s;have H:bO T (T.bw aC T.P) w w' 2:=bO.read (E:=bT) s (λq a=>d q (a.imp id .inl)) λq a=>(l q a).imp id (Or.imp id λh=>(g q h).1);have u:ae (λq=>T.N q/\¬T.G q) w1 w':=ht.ad.mono λq _ a=>n q a;refine⟨aC,r,u,λq a=>?_,λf hc=>?_,?_⟩
 .rcases a with a|a
  .exact(ht.fn q (.inl a)).imp (λh=>aK.gu (n q h).1) id
  .exact .inl (.inr a)
 .have I:bK f (T.bw aC T.P):=B.grow (E:=T.E) (G:=T.G) hc (λq a _=>.inl (d q (.inr (.inr a)))) (λq a=>.inl (d q (.inl a))) (λq a=>.inl (d q (.inr (.inl a)))) λq a=>(h.t.c2 q a).2.2
  refine⟨(h.ext hx).of (W:=λq=>(T.N q/\¬T.G q)\/Z q) I ((u.mono λq _ a=>.inl a).trans (hc.mono λq _ a=>.inr a)) (λq hg a=>?_) rfl (λ_ h=>h) ht.bD.1,c4.cache ?_ r⟩
  .rcases a with a|a
   .exact a.2 hg
   .have:=h.t.lt (q:=q) (.inr (.inr (.inr (.inr hg))))
    have:=(g q a).1;omega
  .exact H.step (E:=T.E) (G:=T.G) hc (λq a hl=>by have:=(g q a).1;omega) (λq a=>.inl a) λq a=>.inl a
 .rcases F with ⟨bc,K,V,D,rfl,L,cS⟩|⟨e,rfl,O,S⟩
  .obtain rfl:=fU.uniq i L
   refine .inl ⟨K,V,D,rfl,cS.aU λq a x=>⟨x.1,λb=>x.2 ?_⟩⟩;rcases b with b|b|b|b|b
   .exact .inl b
   .exact .inr (.inl b)
   .exact .inr (.inr (.inl b))
   .exact .inr (.inr (.inr (.inl (d q (.inl b)))))
   .exact .inr (.inr (.inr (.inl (d q (.inr (.inl b))))))
  .refine .inr ?_
   rcases O with ⟨rfl,h1⟩|h1|⟨_,_,h1⟩
   .exact⟨rfl,h1⟩
   .obtain⟨p,av,_⟩:=i
    have h1:dh (no:Int) (T.C.view no)=.error e:=h1;rw[av]at h1;cases h1
   .exact absurd i (h1 o)
def iH(u:db):Nat:=if u.cB=0 then 1 else u.cB-1
def kl(u:db)(n o:az):az:=if u.cB<iH u then dp n (u.n.keys.getD (u.cB-1) []) o else dp o (u.n.keys.getD (u.cB-1) []) n
def wu(T:aK)(c:dd)(n:az)(u:db)(w:J)(v:aa)(w':J):Prop:=
 (80<=bx n/\∃ (s:Y) (e:Int),v=.tuple #[s,u.cB,.int .i64 ((u.cB+1:Nat):Int),e]/\gH T c n w (.tuple #[s,e]) w')\/
 (bx n<80/\∃ (bH:aK) (aA:dd),v=.tuple #[(),(0:Int),(0:Int),(3:Int)]/\c3 w' bH aA/\c4 T bH c aA [] [] w w' 2/\¬T.C.D.calm 2)\/
 (bx n<80/\∃ (o:az) (no:Nat) (bH:aK) (aA:dd) (w1:J) (s:Y) (e:Int),u.n.kids[iH u]? =some no/\T.P no=some o/\c4 T bH c aA [] [no] w w1 2/\
   v=.tuple #[s,.int .i64 ((u.cB-1:Nat):Int),.int .i64 ((u.cB-1+2:Nat):Int),e]/\gH bH aA (kl u n o) w1 (.tuple #[s,e]) w')
theorem EL{B:Nat->Prop}{w:J}{T:aK}{c:dd}{n:az}{K V D:Y}(h:c3 w T c)(j:bp B w n K V D)(d:kj n)(o:T.C.D.aO<=900000080)(k:2<=b7 T)(l:c.made.length<=900):
 aH ai 248 #[.pointer (some c.cb),cM n K V D,.pointer none] w (λv w'=>∃ (s:Y) (e:Int),v=.tuple #[s,(0:Int),(0:Int),e]/\gH T c n w (.tuple #[s,e]) w'):=by
 refine okF (af.mG (some c.cb) n.leaf K V D none) ay.mG func248 ?_;(delta af.mG al a7 U ak aA r1 au bW aI jJ cg rL st b6 pD nQ rH;dsimp only);refine bk (vs:=dL n K V D) rfl λw1 m f p=>?_;refine cl (λb w'=>b=true/\w1=w') (λq g=>⟨λ_=>g _ _ ⟨rfl,rfl⟩,λh=>(by cases h)⟩) ?_;rintro _ _ ⟨rfl,rfl⟩;refine⟨λ_=>rh (λa b w'=>a=0/\b=0/\w1=w') (λq g=>⟨λh=>(by cases h),λ_=>g _ _ _ ⟨rfl,rfl,rfl⟩⟩) ?_,λh=>(by cases h)⟩;rintro _ _ _ ⟨rfl,rfl,rfl⟩;obtain⟨bS,aA,aT,aG⟩:=bC m;refine⟨_,bS,K,aA,V,aT,D,aG,(tS (h.ext f) I k l (j.ext f) d.1 d.2.1 d.2.2).use ?_⟩;intro v w' i;obtain⟨s,e,rfl⟩:=i.out;exact⟨s,e,rfl,s,e,rfl,i.base f⟩
theorem EM{w:J}{T:aK}{c:dd}{n:az}{K V D:Y}{A:ab}{u:db}(h:c3 w T c)(aq:bp (λq=>¬T.M q) w n K V D)(hu:kk (λq=>¬T.M q) w A u)(ia:cp n)(a5:bx n<=400)(ar:80<=bx n->kj n)
 (a6:bx n<80->∃ (o:az) (no:Nat),u.n.kids[iH u]? =some no/\T.P no=some o/\o.leaf=n.leaf/\u.cB-1<u.n.keys.length/\cT (u.n.keys.getD (u.cB-1) [])/\kj (kl u n o)) (bG:u.cB<=900)
 (bI:T.C.D.aO<=900000080) (aR:2<=b7 T) (aS:c.made.length<=900) (a8:c.left.length<=900):
 aH ai 248 #[.pointer (some c.cb),cM n K V D,.pointer (some A)] w (wu T c n u w):=by
 have bJ:=ia.g9 I;refine okF (af.mG (some c.cb) n.leaf K V D (some A)) ay.mG func248 ?_;(delta af.mG al a7 U ak aA r1 au bW aI jJ cg rL st b6 pD nQ rH;dsimp only);refine bk (vs:=dL n K V D) rfl λw1 aa aV bK=>?_;obtain⟨nb,a9⟩:∃nb,nb=w.heap.size:=⟨_,rfl⟩;rw[←a9]at aa⊢;refine cl (λb w'=>b=decide (80<=bx n)/\Ext w1 w') (λq f=>⟨λh=>(by cases h),λ_=>?_⟩) ?_
 .obtain⟨bS,aA,aT,aG⟩:=bC aa
  refine⟨_,bS,K,aA,V,aT,D,aG,(mI (aq.ext aV) ia I).use ?_⟩;rintro _ bL ⟨rfl,a_⟩;refine⟨_,rfl,f _ _ ⟨?_,a_⟩⟩;rw[fm,cO,cO];omega
 rintro _ p ⟨rfl,ac⟩;have ag:=aV.trans ac;refine⟨λg=>?_,λg=>?_⟩
 .have g:=cf g
  have L:=ar g;refine rh (λa b w'=>a=(u.cB:Nat)/\b=((u.cB+1:Nat):Int)/\Ext p w') (λq f=>⟨λ_=>?_,λh=>(by cases h)⟩) ?_
  .have y:Ext p p.drew:=cr _
   have aX:=hu.ext (ag.trans y);refine aY ⟨A,rfl,id,_,aX.aW,A,rfl,id,_,aX.aW,f _ _ _ ⟨rfl,?_,y⟩⟩;rw[bB I I];rfl
  rintro _ _ bM ⟨rfl,rfl,aZ⟩;have r:=ag.trans aZ;obtain⟨bS,aA,aT,aG⟩:=bC (aa.ext (ac.trans aZ));refine⟨_,bS,K,aA,V,aT,D,aG,(tS (h.ext r) I aR aS (aq.ext r) L.1 L.2.1 L.2.2).use ?_⟩;intro v w' ah;obtain⟨s,e,rfl⟩:=ah.out;exact⟨s,e,rfl,.inl ⟨g,s,e,rfl,ah.base r⟩⟩
 .have g:¬80<=bx n:=cx g
  obtain⟨o,no,av,aj,aw,a0,ba,L⟩:=a6 I;obtain⟨bO,bb⟩:=h.t.dM no o aj;obtain⟨_,bc,bP⟩:=bb.is;have am:=hu.ext ag;refine⟨A,rfl,_,am.aW,((u.cB-1:Nat):Int),p,?_,?_⟩
  .rw[run_max_int2]
   congr 2
   by_cases h0:u.cB=0
   .rw[h0];rfl
   .rw[bB I I,if_neg I];omega
  refine cl (λa w'=>a=(iH u:Nat)/\p=w') (λq f=>⟨A,rfl,_,am.aW,λh0=>f _ _ ⟨?_,rfl⟩,λh0=>f _ _ ⟨?_,rfl⟩⟩) ?_
  .have:u.cB=0:=by simpa using h0
   unfold iH;rw[if_pos this];rfl
  .have:u.cB≠0:=by simpa using h0
   unfold iH;rw[if_neg this]
  rintro _ _ ⟨rfl,rfl⟩;have bd:iH u<u.n.kids.length:=(jA.1 av).1;obtain⟨yG,be,bg,a1⟩:=cq.at am.bf.kids bd;have bh:u.n.kids[iH u]=no:=(jA.1 av).2;rw[bh]at a1;refine⟨A,rfl,u.D,am.de,yG,be,bg,_,a1,aY ?_⟩;have y:Ext p p.drew:=cr _;obtain⟨z,bi⟩:∃z,z=p.drew:=⟨_,rfl⟩;rw[←bi]at y⊢;have r:=ag.trans y;have ax:=h.ext r;have bQ:=r.size;have bR:=(ac.trans y).size;have aB:=aa.ext (ac.trans y);have aD:∀q,T.M q->q<w.heap.size:=λq f=>h.t.lt f;have a2:u.n.keys.getD (u.cB-1) []=u.n.keys[u.cB-1]:=by rw[e6,dD a0];rfl
  have fin:∀ (aC:bN) (aE:Nat) (i k l:Y) (d:J),c3 d (T.bw aC T.P) c->c4 T (T.bw aC T.P) c c [] [] z d 2->Var d nb (dL n K V D) 202->Var d aE (dL o i k l) 202->z.heap.size<=aE->¬(T.bw aC T.P).M aE->bp (λq=>¬(T.bw aC T.P).M q) d o i k l->
   wq nb aE (some c.cb) (some A) ((u.cB-1:Nat):Int) (iH u:Nat) (no:Nat) 0 d (λv w'=>wu T c n u w v w'):=by
   intro aC aE i k l d B an bj bl bT bm bn;have a3:=((c4.ext T c r).trans an).mono (j:=2) I;have aF:=a3.to;have bo:¬(T.bw aC T.P).M nb:=λO=>by
    rcases an.to.cN nb O with h1|h1
    .have:=aD _ h1;omega
    .omega
   have bq:bp (λq=>¬(T.bw aC T.P).M q) d n K V D:=(aF.bf (lo:=0) (aq.aU λq _ g=>⟨cI _,g⟩)).aU λq _ g=>g.2;have bs:(T.bw aC T.P).C.D.aO<=900000090:=eC aF.aO I;refine EK B bj bl bo bm bq bn (hu.to aF) bs aR aS a8 ia bc a5 I aw a0 (by rw[←a2];exact ba) (kl u n o) (by unfold kl;rw[a2]) L I ?_;intro s e bH aA bt w' bv hf;exact .inr (.inr ⟨I,o,no,bH,aA,bt,s,e,av,aj,(a3.trans bv).mono I,rfl,hf⟩)
  have ao:∀q,T.N q->q<w.heap.size:=λq f=>aD q (aK.gu f);have err:∀ (aC:bN) (d:J),c3 d (T.bw aC T.P) c->c4 T (T.bw aC T.P) c c [] [] z d 2->¬T.C.D.calm 2->wu T c n u w (.tuple #[(),(0:Int),(0:Int),(3:Int)]) d:=by
   intro aC d B an Q;exact .inr (.inl ⟨I,_,c,rfl,B,((c4.ext T c r).trans an).mono I,Q⟩)
  obtain⟨bS,aA,aT,aG⟩:=bC aB;refine⟨λq=>T.N q/\¬T.G q,_,rfl,λf=>f.2 h.gc,_,ax.cells.1,(λf=>by have:=ao _ f.1;show False;exact absurd this (by show¬nb<w.heap.size;omega)),_,bS,?_,?_⟩
  .rw[←aw]
   refine(zY (Z:=λ_=>False) ax (ae.refl _ _) (λ_ h=>h.elim) I aj).use ?_;rintro _ F ⟨aC,ah,x,a4,R,aJ⟩;have bz:=x.size;rcases aJ with ⟨i,k,l,rfl,aL⟩|⟨rfl,Q⟩
   .refine⟨_,i,k,l,0,rfl,x,bk (vs:=[false,(),(),()]) rfl λbA S W bD=>⟨ae.cJ W,S.b5 rfl fp,rfl,cn S (us:=dL o i k l) rfl rfl λd X m aM=>?_⟩⟩
    have E:Ext F d:=Ext.cv W m (br _);obtain⟨ap,aN⟩:=R F (ae.refl _ _);have H:=aB.ad x λf=>by have:=ao _ f.1;omega
    refine fin aC F.heap.size i k l d (ap.ext E) ((aN.trans (c4.ext _ _ E)).mono I) (H.ext E) X I (λO=>by have:=ap.t.lt O;omega) ?_;exact(aL.ext E).aU λq _ g=>g.2
   .refine⟨_,bu,bu,bu,3,rfl,x,bk (vs:=[false,(),(),()]) rfl λbA S W bD=>⟨ae.cJ W,S.b5 rfl fp,rfl,cn S (us:=dL jS bu bu bu) rfl rfl λd X m aM=>⟨λ_=>?_,λg=>(by cases g)⟩⟩⟩
    have E:Ext F d:=Ext.cv W m (br _);obtain⟨ap,aN⟩:=R F (ae.refl _ _);exact err aC d (ap.ext E) ((aN.trans (c4.ext _ _ E)).mono I) Q
  .refine bk (vs:=[false,(),(),()]) rfl λbU bE aP bV=>⟨ae.cJ aP,?_⟩
   rw[←aw];refine(zY (Z:=λq=>q=z.heap.size) ax aP (λq e=>⟨I,I⟩) I aj).use ?_;rintro _ F ⟨aC,ah,x,a4,R,aJ⟩;have bz:=x.size;have H:=bE.ad x λf=>by have:=ao _ f.1;omega
   have bF:=(aB.ext aP).ad x λf=>by have:=ao _ f.1;omega
   rcases aJ with ⟨i,k,l,rfl,aL⟩|⟨rfl,Q⟩
   .refine⟨_,i,k,l,0,rfl,H.b5 rfl fp,rfl,cn H (us:=dL o i k l) rfl rfl λd X m aM=>?_⟩
    obtain⟨B,aQ⟩:=R d m;refine fin aC z.heap.size i k l d B aQ (bF.ad m I) X (br _) (λO=>?_) ?_
    .rcases a4 _ O with h1|h1
     .have:=aD _ h1;omega
     .omega
    .refine(bp.ad aL m λq f e=>by have:=f.1;omega).aU λq _ g=>g.2
   .refine⟨_,bu,bu,bu,3,rfl,H.b5 rfl fp,rfl,cn H (us:=dL jS bu bu bu) rfl rfl λd X m aM=>⟨λ_=>?_,λg=>(by cases g)⟩⟩
    obtain⟨B,aQ⟩:=R d m;exact err aC d B aQ Q
structure wv(T aq:aK)(l:O Nat)(w w':J):Prop where
 to:bO T aq w w' 0
 E:aq.E=T.E
 G:aq.G=T.G
 root:aq.root=T.root
 aD:aq.aD=T.aD
 f:∀no,aq.f no=(T.f no&& !decide (no∈l))
 ej:∀no,(no∉l\/T.g no=true)->aq.P no=T.P no/\aq.C.view no=T.C.view no
theorem zZ{w:J}{T:aK}{c:dd}{s:Y}{l:O Nat}(h:c3 w T c)(hs:Src 1 w s (dr l))(B:∀q,aB s q->T.G q)(hl:∀x∈l,T.f x=true)(cS:l.Nodup)(aj:l.length<=10000):
 aH ai 207 #[.pointer (some c.cb),s] w (λv w'=>v=.tuple #[]/\∃aq:aK,c3 w' aq c/\wv T aq l w w'):=by
 have ak:s.len=l.length:=by have:=hs.len;rw[lO]at this;omega
 refine okF (af.sT (some c.cb) s) ay.sT func207 ?_;(delta af.sT al aI r1 aG aA au;dsimp only);refine⟨λi w'=>∃ (j:Nat) (aq:aK),i=j/\j<=l.length/\c3 w' aq c/\wv T aq (l.take j) w w'/\Src 1 w' s (dr l),λi _=>((l.length:Int)-i).toNat,⟨0,T,rfl,cI _,h,⟨.refl _ _,rfl,rfl,rfl,rfl,λno=>by simp,λ_ _=>⟨rfl,rfl⟩⟩,hs⟩,?_⟩;rintro _ am ⟨j,bH,rfl,an,h1,hg,C⟩;refine⟨λaJ=>?_,λr=>?_⟩
 .have aJ:j<l.length:=by
   have:(j:Int)<(s.len:Int):=cf aJ;omega
  have D:bH.f l[j]=true:=by
   rw[hg.f,hl _ (cm aJ)];have:l[j]∉l.take j:=λR=>by
    obtain⟨i,hi,he⟩:=eD R;rw[cC]at hi;rw[o2]at he;have:=(List.getElem_inj cS).1 he;omega
   simp[this]
  have ao:l[j]<bH.n:=by
   rcases dJ l[j] bH.n with a|a
   .exact a
   .have:=h1.t.s.pf _ a
    rw[D]at this;cases this
  obtain⟨A,ar,S,hc⟩:=C.at (i:=j) (v:=.int .i64 ((l[j]:Nat):Int)) (by simp[dr,aJ]);refine jm (λw'=>∃b6:aK,c3 w' b6 c/\wv T b6 (l.take (j+1)) w w'/\Src 1 w' s (dr l)) (λq d=>⟨A,ar,S,_,hc,_,rfl,_,h1.cells.1,_,rfl,_,h1.t.cells.2.1,(Ei h1.t.s _).use ?_⟩) ?_
  .rintro _ _ ⟨rfl,rfl⟩
   refine⟨_,rfl,_,rfl,_,h1.cells.1,_,rfl,_,h1.t.cells.2.1,(zF h1.t.s _).use ?_⟩;rintro _ F ⟨rfl,fv,u⟩;have U:lS bH.f bH.n ((l[j]:Nat):Int)=cZ bH.f l[j] false:=by
    unfold lS;rw[if_pos ⟨I,I⟩,du]
   rw[U]at fv;obtain⟨V,H⟩:=h1.t.tQ fv u;have k:c3 F (bH.hC (cZ bH.f l[j] false)) c:=h1.of V u (λq d hf=>(h1.t.hA q d).2 hf) rfl λ_ h=>h;have K:Src 1 F s (dr l):=C.ad u λq d hf=>(h1.t.hA q (by rw[hg.G];exact B q d)).2 hf;have W:(decide ((0:Int)<=((l[j]:Nat):Int))&&decide (((l[j]:Nat):Int)<(bH.n:Nat))&&bH.f (Int.toNat ((l[j]:Nat):Int))&& !(bH.g (Int.toNat ((l[j]:Nat):Int))))= !(bH.g l[j]):=by
    rw[du,D,dv I,dv I];simp
   have L:∀no,cZ bH.f l[j] false no=(T.f no&& !decide (no∈l.take (j+1))):=λno=>by
    rw[iL aJ];unfold cZ;by_cases e:no=l[j]
    .rw[if_pos e,e,dv (cG.2 (.inr (eX.2 rfl)))]
     exact(Bool.and_false _).symm
    .rw[if_neg e,hg.f]
     have X:decide (no∈l.take j++ [l[j]])=decide (no∈l.take j):=by
      rw[fm,cO,cO,cG,eX];exact⟨λh=>h.resolve_right e,.inl⟩
     rw[X]
   rw[W];refine⟨_,rfl,λy=>⟨_,rfl,_,k.cells.1,_,rfl,_,k.t.cells.1,(zw k.t.ca _).use ?_⟩,λy=>d _ ⟨_,k,⟨?_,hg.E,hg.G,hg.root,hg.aD,L,λno m=>?_⟩,K⟩⟩
   .rintro _ ap ⟨⟨b,rfl⟩,aC,Z,o,M,_⟩
    have aa:T.g l[j]=false:=by
     have a:bH.g=T.g:=hg.to.g;rw[a]at y;simpa using y
    obtain⟨ab,ac⟩:=k.t.oI (P:=λno=>if no=l[j] then none else bH.P no) Z o (λno bf p=>by
     by_cases e:no=l[j]
     .rw[if_pos e]at p;cases p
     .rw[if_neg e]at p
      rw[M no e];exact h1.t.dM no bf p)
    have ae:=k.of (aq:=(bH.hC (cZ bH.f l[j] false)).bw aC λno=>if no=l[j] then none else bH.P no) ab o.ad (λq d=>k.t.tP d) rfl (λ_ h=>h) o.bD;refine⟨b,rfl,d _ ⟨_,ae,⟨?_,hg.E,hg.G,hg.root,hg.aD,L,λno m=>?_⟩,?_⟩⟩
    .exact((hg.to.trans H).trans ac).mono I
    .have N:no≠l[j]:=λe=>by
      rcases m with a|a
      .exact a (by rw[iL aJ,e];exact cG.2 (.inr (eX.2 rfl)))
      .rw[e,aa]at a;cases a
     have Q:=hg.ej no (m.imp (λa z=>a (by rw[iL aJ];exact cG.2 (.inl z))) id);exact⟨(if_neg N).trans Q.1,(M no N).trans Q.2⟩
    .exact K.ad o.ad λq d=>k.t.tP (by show bH.G q;rw[hg.G];exact B q d)
   .exact(hg.to.trans H).mono I
   .exact hg.ej no (m.imp (λa z=>a (by rw[iL aJ];exact cG.2 (.inl z))) id)
  .rintro av ⟨b6,a,ag,ah⟩
   rw[bB (n:=(j:Int)+1) I I];refine⟨⟨j+1,b6,I,I,a,ag,ah⟩,?_⟩;show((l.length:Int)-((j:Int)+1)).toNat<((l.length:Int)-(j:Int)).toNat;omega
 .have r:j=l.length:=by
   have:¬(j:Int)<(s.len:Int):=cx r;omega
  subst r;rw[il]at hg;exact⟨rfl,bH,h1,hg⟩
theorem og{B:Nat->Prop}{w:J}{n:az}{K V D:Y}(c:bp B w n K V D)(aD:Nat)(h:aD<=100)(d:n.leaf=false->∃x,n.kids=[x]/\1<=aD):
 aH ai 247 #[cM n K V D,aD] w (λv w'=>v=(if n.leaf then .tuple #[(0:Int),(0:Int),(0:Int)] else .tuple #[.int .i64 ((n.kids.getD 0 0:Nat):Int),.int .i64 ((aD-1:Nat):Int),(0:Int)])/\Ext w w'):=by
 refine okF (af.og n.leaf K V D (aD:Nat)) ay.og func247 ?_;(delta af.og a7 U al ak aI r1 au;dsimp only);refine bk (vs:=dL n K V D) rfl λw1 e b j=>?_;obtain⟨bS,aA,aT,aG⟩:=bC e;refine⟨_,bS,λa=>⟨by rw[if_pos a],b⟩,λa=>?_⟩;obtain⟨x,hx,h1⟩:=d a;obtain⟨A,ar,f,hc⟩:=cq.at (c.ext b).kids (i:=0) (by rw[hx];simp);refine⟨D,aG,A,ar,f,_,hc,?_,b⟩;have g:(aD:Int)-1=((aD-1:Nat):Int):=by omega
 rw[if_neg (by rw[a];simp),bB I I,g];simp only[hx];rfl
def wx(T:aK)(c:dd)(ks:O Key)(kids:O Nat)(w:J)(v:aa)(w':J):Prop:=
 (∃x,ks=[]/\kids=[x]/\v=.tuple #[x,T.aD,(0:Int)]/\c3 w' T c/\Ext w w')\/
 (∃ (k:Key) (x y no:Nat) (aq:aK) (c':dd),ks=[k]/\kids=[x,y]/\c3 w' aq c'/\c4 T aq c c' [no] [] w w' 1/\
   ((v=.tuple #[no,.int .i64 ((T.aD+1:Nat):Int),(0:Int)]/\aq.P no=some ⟨false,[k],[],[x,y]⟩)\/(v=.tuple #[no,.int .i64 ((T.aD+1:Nat):Int),(3:Int)]/\¬T.C.D.calm 1)))
theorem z1(K D:Nat)(w:J):Sem.run ai (Instr.build 202 #[(1,.slice (some K) 1 1),(3,.slice (some D) 2 2)]) w=.ok (.agg #[false,.slice (some K) 1 1,(),.slice (some D) 2 2]) w:=by kernel_rfl
theorem Var.z2{w:J}{b:Nat}{vs:O aa}{T:TypeId}(h:Var w b vs T):Src 1 w ⟨some b,vs.length,vs.length⟩ vs:=by
 refine⟨by show _=vs.length*1;omega,(λh=>by cases h),λa c=>?_⟩
 cases c;show cy w b 0 (vs.length*1)=_;rw[fu,h.rd rfl]
theorem EN{w:J}{t:Y}{k:Key}(b:Nat)(a:Var w b [t] 48)(ht:bg (λ_=>True) w t k):ba (λ_=>True) w ⟨some b,1,1⟩ [k]:=by
 refine⟨[t],rfl,a.z2,br _,λq c=>⟨trivial,?_⟩,λi h1 d=>?_⟩
 .obtain⟨A,ar,rfl⟩:=c
  cases ar;exact a.lt
 .have:i=0:=by simp at h1;omega
  subst this;exact ht
theorem EO{w:J}{x y:Nat}(b:Nat)(a:Var w b [x,y] 3):cq (λ_=>True) w ⟨some b,2,2⟩ [x,y]:=by
 refine⟨a.z2,br _,λq c=>⟨trivial,?_⟩⟩;obtain⟨A,ar,rfl⟩:=c
 cases ar;exact a.lt
theorem EP{w:J}{T:aK}{c:dd}{s:Y}{ks:O Key}{kids:O Nat}(h:c3 w T c)(K:jW (λq=>¬T.M q) w s ks kids)(A:kids.length=2->T.aD<12)(hs:∀k x y,ks=[k]->kids=[x,y]->cT k/\x<1600/\y<1600)
 (aw:T.C.D.aO<=900000080) (L:1<=b7 T) (az:c.made.length<=900):
 aH ai 249 #[.pointer (some ⟨c.cb,0,none⟩),.slice s.a s.len s.cap] w (wx T c ks kids w):=by
 have aA:=h.t.num.2.1;refine okF (af.s4 (some ⟨c.cb,0,none⟩) s) ay.s4 func249 ?_;(delta af.s4 al aI r1 ak hG U eT au;dsimp only);have o:Ext w w.drew:=cr w;have hd:=h.ext o;rcases K with ⟨b,x,rfl,rfl,rfl,l,B⟩|⟨b,x,y,k,t,rfl,rfl,rfl,l,B,ht,aB⟩
 .refine⟨λ_=>aY ⟨_,rfl,⟨by decide,by show(0:Int)<((1:Nat):Int);decide⟩,id,_,by rw[ax,ax];exact l.drew.cell,_,rfl,id,_,hd.cells.1,_,rfl,id,_,hd.t.cells.2.2.2.2,?_⟩,λh=>(by cases h)⟩
  exact .inl ⟨x,rfl,rfl,rfl,hd,o⟩
 .have A:=A rfl
  obtain⟨s1,s2,aC⟩:=hs k x y rfl rfl;refine⟨λh=>(by cases h),λ_=>⟨_,rfl,_,h.cells.1,_,rfl,_,h.t.cells.2.2.2.2,λP=>?_,λ_=>?_⟩⟩
  .have:((T.aD:Nat):Int)=12:=by simpa using P
   omega
  have Q:cp ⟨false,[k],[],[x,y]⟩:=.inr ⟨⟨λaE R=>by rw[eX.1 R];exact s1,List.pairwise_singleton _ _⟩,rfl,by simp,rfl,rfl,λz E=>by
   simp only[cR,eR,eY]at E;rcases E with rfl|rfl<;>assumption⟩
  have S:bx ⟨false,[k],[],[x,y]⟩<=232:=by
   have:=s1.2;simp[bx,cellsOf];omega
  have r:¬T.N b:=λV=>B (aK.gu V);have fin:∀ (d:J) (bd aI:Nat),Ext w d->Var d bd [.slice t.a t.len t.cap] 48->Var d aI [.int .i64 (x:Nat),.int .i64 (y:Nat)] 3->
   aH ai 283 #[.pointer (some ⟨c.cb,0,none⟩),.agg #[.bool false,.slice (some ⟨bd,0,none⟩) 1 1,.slice none 0 0,.slice (some ⟨aI,0,none⟩) 2 2]] d (λv w'=>∃n27:Int,∃n28:Int,v=.tuple #[.int .i64 n27,.int .i64 n28]/\ae T.N d w'/\
    ∀e,Ext w' e->wx T c [k] [x,y] w (.tuple #[.int .i64 n27,.int .i64 ((T.aD+1:Nat):Int),.int .i64 n28]) e/\∃aq c',c3 e aq c'/\c'.cb=c.cb/\aq.a6=T.a6/\aq.aD=T.aD):=by
   intro d bd aI hx W X;have cS:bp (λ_=>True) d ⟨false,[k],[],[x,y]⟩ ⟨some ⟨bd,0,none⟩,1,1⟩ ⟨none,0,0⟩ ⟨some ⟨aI,0,none⟩,2,2⟩:=by
    exact⟨EN bd W (bg.aU (bg.ext ht hx) λ_ _ _=>trivial),ba.none _ _,EO aI X⟩
   refine(tR (h.ext hx) I L I cS Q S).mono ?_;rintro v w' ⟨no,aq,c',p,f,Z⟩;have F:=((c4.ext T c hx).trans f).mono (j:=1) I;rcases Z with ⟨rfl,aa⟩|⟨rfl,ab⟩
   .refine⟨_,_,rfl,f.to.ad,λe g=>⟨.inr ⟨k,x,y,no,aq,c',rfl,rfl,p.ext g,(F.trans (c4.ext aq c' g)).mono I,.inl ⟨rfl,aa⟩⟩,aq,c',p.ext g,f.cb,f.to.a6,f.aD⟩⟩
   .refine⟨_,_,rfl,f.to.ad,λe g=>⟨.inr ⟨k,x,y,no,aq,c',rfl,rfl,p.ext g,(F.trans (c4.ext aq c' g)).mono I,.inr ⟨rfl,ab⟩⟩,aq,c',p.ext g,f.cb,f.to.a6,f.aD⟩⟩
  have ac:IntKind.wrap .i64 (((T.aD:Nat):Int)+1)=((T.aD+1:Nat):Int):=by rw[bB I I];rfl
  refine rh (λa b w'=>∀e,Ext w' e->wx T c [k] [x,y] w (.tuple #[.int .i64 a,.int .i64 ((T.aD+1:Nat):Int),.int .i64 b]) e/\∃aq c',c3 e aq c'/\c'.cb=c.cb/\aq.a6=T.a6/\aq.aD=T.aD) (λq G=>aY ⟨T.N,_,rfl,⟨by decide,by show(1:Int)<((2:Nat):Int);decide⟩,r,t,by rw[ax];exact l.drew.cell,_,rfl,⟨by decide,by show(0:Int)<((2:Nat):Int);decide⟩,r,_,by rw[ax,ax];exact l.drew.cell,_,rfl,⟨by decide,by show(1:Int)<((2:Nat):Int);decide⟩,r,_,by rw[ax,ax];exact l.drew.cell,?_,?_⟩) ?_
  .refine bk (vs:=[.slice t.a t.len t.cap]) rfl λu ag m ah=>⟨ae.cJ m,bk (vs:=[.int .i64 (x:Nat),.int .i64 (y:Nat)]) rfl λd aj i am=>⟨ae.cJ i,_,λ_=>z1 _ _ _,?_⟩⟩
   refine(fin d w.drew.heap.size u.heap.size (o.trans (m.trans i)) (ag.ext i) aj).use ?_;rintro _ w' ⟨n27,n28,rfl,hc,n⟩;exact⟨n27,n28,rfl,hc,G _ _ _ n⟩
  .refine bk (vs:=[.int .i64 (x:Nat),.int .i64 (y:Nat)]) rfl λu an m ah=>⟨ae.cJ m,bk (vs:=[.slice t.a t.len t.cap]) rfl λd ao i am=>⟨ae.cJ i,_,λ_=>z1 _ _ _,?_⟩⟩
   refine(fin d u.heap.size w.drew.heap.size (o.trans (m.trans i)) ao (an.ext i)).use ?_;rintro _ w' ⟨n27,n28,rfl,hc,n⟩;exact⟨n27,n28,rfl,hc,G _ _ _ n⟩
  .intro a b ap n
   obtain⟨h1,aq,c',H,ar,aF,av⟩:=n _ (cr ap);have hc:=H.cells.1;rw[ar]at hc;have ht:=H.t.cells.2.2.2.2;refine aY ⟨_,rfl,id,_,hc,_,rfl,id,_,ht,?_⟩;rw[av,ac];exact h1
theorem cY.wy{P:Nat->an az}{lo hi:an Key}{h:Nat}{n:az}{p:O Nat}{L:O aQ}(a:cY P h n lo hi p L)(e:n.leaf=true->bx n<=310)(f:n.leaf=false->bx n<=335)(i:n.leaf=false->n.keys≠ []):kj n:=by
 refine⟨?_,by cases hl:n.leaf;exact eC (f hl) (by decide);exact eC (e hl) (by decide),λhs=>?_⟩
 .cases h with
  |zero=>exact a.elim
  |succ h=>
   cases h with
   |zero=>exact .inl a.1
   |succ h=>
    obtain⟨av,b,c,d,g⟩:=a;have hs:=g.sorted λ_ _ _ _ _ j=>j.in;exact .inr ⟨⟨c,hs.2.2.1⟩,av,i av,g.len,b,d⟩
 .obtain⟨av,b,c,d,_⟩:=a.two (Q:=P) (x:=0) (y:=0) hs e f
  exact⟨av,b,c,d⟩
section
variable {P:Nat->an az}{lo hi:an Key}
theorem ER{h:Nat}{d f:az}{p A:an Key}{i:Nat}{bo D:O Nat}{bl gB:O aQ}{k:Key}(E:∀k∈d.keys,cT k)(hlen:d.kids.length=d.keys.length+1)(F:∀x n,P x=some n->bx n<=232)
 (Q:1<=i) (R:i<d.kids.length) (B:eV p A k)
 (G:eW (eL P (h+1)) lo p (d.keys.take i) (d.kids.take i) bo bl) (q:cY P (h+1) f p A D gB) (h1:bx f<80):
 ∃ (o:az) (S:i-1<d.kids.length) (T:i-1<d.keys.length),P d.kids[i-1]=some o/\o.leaf=f.leaf/\cT d.keys[i-1]/\kj (dp o d.keys[i-1] f):=by
 obtain⟨s,H,aS,r,bm,N,hs,rfl,t,rfl,rfl,⟨u,m,g,v⟩,U,V⟩:=G.last (by rw[cC];omega);have W:(d.keys.take i).length=i:=by rw[cC];omega
 have X:(d.kids.take i).length=i:=by rw[cC];omega
 have t:s=d.keys[i-1]'I:=by
  rw[t,o2];congr 1;omega
 have J:(d.kids.take i)[(d.kids.take i).length-1]'I=d.kids[i-1]'I:=by
  rw[o2];congr 1;omega
 rw[J]at u g;obtain⟨o,K,j,rfl,_,w⟩:=u.js;rw[j]at g;have v:2<=o.keys.length:=by rw[Option.some.inj g];exact v
 clear g;subst t;have y:=(show eL P (h+1) H (some (d.keys[i-1]'I)) (d.kids[i-1]'I) (d.kids[i-1]'I::K) N from⟨u,o,j,v⟩).in;obtain⟨x,hx⟩:=oZ _ y.1;have z:=E _ (cm (l:=d.keys) (n:=i-1) I);have L:=cY.merge w q z (λc hc=>hK (jq ((y.2.2 x hx).1 c hc) ((y.2.2 x hx).2 _ rfl))) (λc hc=>hK (jq (B.1 _ rfl) (B.2 c hc)));have C:=tj w q z (by have:=F _ _ j;omega);have M:=ti (a:=o) (b:=f) (s:=d.keys[i-1]'I);refine⟨o,I,I,j,by rw[w.leaf,q.leaf],z,L.wy C.1 C.2 λ_ e=>?_⟩;rw[e,j4]at M;omega
theorem ES{h:Nat}{d f:az}{B q:an Key}{i:Nat}{bj E:O Nat}{gB bJ:O aQ}{k:Key}(F:∀k∈d.keys,cT k)(hlen:d.kids.length=d.keys.length+1)(G:∀x n,P x=some n->bx n<=232)
 (g:i+1<d.kids.length) (C:eV B q k)
 (H:fF (eL P (h+1)) hi q (d.keys.drop i) (d.kids.drop (i+1)) bj bJ) (t:cY P (h+1) f B q E gB) (h1:bx f<80):
 ∃ (o:az) (R:i+1<d.kids.length) (S:i<d.keys.length),P d.kids[i+1]=some o/\o.leaf=f.leaf/\cT d.keys[i]/\kj (dp f d.keys[i] o):=by
 obtain⟨s,J,r,T,N,U,hs,rfl,u,rfl,rfl,⟨v,m,j,w⟩,V⟩:=H.head (by rw[c5];omega);have u:s=d.keys[i]'I:=by rw[u,qE];rfl
 have K:(d.kids.drop (i+1))[0]'(by rw[c5];omega)=d.kids[i+1]'g:=by rw[qE]
 rw[K]at v j;obtain⟨o,L,p,rfl,_,y⟩:=v.js;rw[p]at j;have w:2<=o.keys.length:=by rw[Option.some.inj j];exact w
 clear j;subst u;have z:=(show eL P (h+1) (some (d.keys[i]'I)) J (d.kids[i+1]'g) (d.kids[i+1]'g::L) N from⟨v,o,p,w⟩).in;obtain⟨x,hx⟩:=oZ _ z.1;have A:=F _ (cm (l:=d.keys) (n:=i) I);have M:=cY.merge t y A (λc hc=>hK (jq (C.1 c hc) (C.2 _ rfl))) (λc hc=>hK (jq ((z.2.2 x hx).1 _ rfl) ((z.2.2 x hx).2 c hc)));have D:=tj t y A (by have:=G _ _ p;omega);have Q:=ti (a:=f) (b:=o) (s:=d.keys[i]'I);refine⟨o,g,I,p,by rw[y.leaf,t.leaf],A,M.wy D.1 D.2 λ_ e=>?_⟩;rw[e,j4]at Q;omega
inductive Ctx (P:Nat->an az) (k:Key) (top:Nat):Nat->an Key->an Key->O (Nat×az×Nat)->O Nat->O aQ->O aQ->Prop
 |top:Ctx P k top top none none [] [] [] []
 |step {ef:Nat}{lo hi a b:an Key}{st:O (Nat×az×Nat)}{dt:O Nat}{A B:O aQ}{no:Nat}{n:az}{bo bj:O Nat}{bl bJ:O aQ} (h:Ctx P k top (ef+2) lo hi st dt A B) (c:P no=some n) (hl:n.leaf=false) (d:∀k∈n.keys,cT k) (e:∀x∈n.kids,x<1600)
  (hlen:n.kids.length=n.keys.length+1) (f:n.keys≠ []) (g:st≠ []->2<=n.keys.length) (i:eV a b k) (j:eW (eL P (ef+1)) lo a (n.keys.take (ew n.keys k)) (n.kids.take (ew n.keys k)) bo bl)
  (l:fF (eL P (ef+1)) hi b (n.keys.drop (ew n.keys k)) (n.kids.drop (ew n.keys k+1)) bj bJ):Ctx P k top (ef+1) a b (st++ [(no,n,ew n.keys k)]) (no::(bo++(bj++dt))) (A++bl) (bJ++B)
theorem Ctx.ef{k:Key}{top ef:Nat}{st:O (Nat×az×Nat)}{dt:O Nat}{A B:O aQ}(h:Ctx P k top ef lo hi st dt A B):ef+st.length=top:=by
 induction h with
 |top=>rfl
 |step h _ _ _ _ _ _ _ _ _ _ a=>rw[cE,hX];omega
theorem Ctx.agree{Q:Nat->an az}{k:Key}{top ef:Nat}{st:O (Nat×az×Nat)}{dt:O Nat}{A B:O aQ}(h:Ctx P k top ef lo hi st dt A B)(a:∀x∈dt,P x=Q x):Ctx Q k top ef lo hi st dt A B:=by
 induction h with
 |top=>exact .top
 | @step ef lo hi o p st dt A B no n bo bj bl bJ h c hl d e hlen f g i j l m=>
  refine .step (m λx hx=>a x (by simp[hx])) (by rw[←a no (by simp)];exact c) hl d e hlen f g i (j.kg λ_ _ _ _ _ hs b=>b.agree λx hx=>a x ?_) (l.kg λ_ _ _ _ _ hs b=>b.agree λx hx=>a x ?_)
  .have:=hs x hx;simp[this]
  .have:=hs x hx;simp[this]
theorem Ctx.down{k:Key}{top:Nat}:∀ {ef:Nat}{lo hi:an Key}{st:O (Nat×az×Nat)}{dt:O Nat}{A B M bm:O aQ}{no:Nat}{p:O Nat},Ctx P k top (ef+1) lo hi st dt A B->ek P (ef+1) lo hi no p M->(st≠ []->∃m,P no=some m/\2<=m.keys.length)->eV lo hi k->bm=A++(M++B)->(∀u,Loc k u->u bm=A++(u M++B))->
 ∃ (rest a:O (Nat×az×Nat)) (b:Nat) (bG:az) (c d:an Key) (h:O Nat) (e f:O aQ),lT P k (ef+1) no rest/\st++rest=a++ [(b,bG,0)]/\Ctx P k top 1 c d a h e f/\P b=some bG/\gT bG/\bG.within c d/\bG.keys≠ []/\(a≠ []->2<=bG.keys.length)/\eV c d k/\
  (p++dt).Perm (b::h)/\bm=e++(bG.fi++f)/\∀u,Loc k u->u bm=e++(u bG.fi++f)
 |0,lo,hi,st,dt,A,B,M,bm,no,p,hc,j,l,o,r,hu=>by
  obtain⟨n,h1,i,x,y,rfl,rfl⟩:=j
  refine⟨[(no,n,0)],st,no,n,lo,hi,dt,A,B,⟨n,[],h1,by rw[i.leaf];rfl,rfl,rfl⟩,rfl,hc,h1,i,x,y,λhs=>?_,o,List.Perm.refl _,r,hu⟩
  obtain⟨m,g,s⟩:=l hs
  rw[h1]at g;cases g
  exact s
 |ef+1,lo,hi,st,dt,A,B,M,bm,no,p,hc,j,l,o,r,hu=>by
  obtain⟨n,W,h1,rfl,i,t⟩:=j.js
  obtain⟨X,Y,bo,q,bj,bl,gB,bJ,z,rfl,rfl,v,w,C,hlen,D,E⟩:=t.at o
  obtain⟨av,Z,F,G,_⟩:=t
  have H:=Ctx.step hc h1 av F G hlen i (λhs=>by
   obtain⟨m,g,s⟩:=l hs
   rw[h1]at g;cases g
   exact s) w D E
  obtain⟨rest,a,b,bG,c,d,h,e,f,r1,b4,ak,bt,a7,J,K,L,N,Q,R,S⟩:=Ctx.down (bm:=bm) H v.1 (λ_=>v.2) w (by rw[r];simp only[cW]) (λu hl=>by rw[hu u hl,C u hl];simp only[cW])
  refine⟨(no,n,ew n.keys k)::rest,a,b,bG,c,d,h,e,f,⟨n,rest,h1,by rw[av];simp,by rw[if_neg I],?_⟩,?_,ak,bt,a7,J,K,L,N,?_,R,S⟩
  .rw[e6,dD z]
   exact r1
  .rw[←b4];simp
  .refine List.Perm.trans ?_ Q
   have T:(no::(bo++(q++bj))++dt)=no::(bo++(q++(bj++dt))):=by simp[cW]
   rw[T]
   have U:(q++no::(bo++(bj++dt))).Perm (no::(q++(bo++(bj++dt)))):=lf
   refine List.Perm.trans ?_ U.symm
   refine List.Perm.cons _ ?_
   have V:=(o1 (l₁:=bo) (l₂:=q)).append_right (bj++dt)
   simpa[cW] using V
end
theorem wz{α:Type}(a b c:O α):(a++(b++c)).Perm (a++c++b):=by
 rw[cW];exact(o1 (l₁:=b) (l₂:=c)).append_left a
theorem Ctx.up{P:Nat->an az}{lo hi:an Key}{k:Key}{top ef:Nat}{st T:O (Nat×az×Nat)}{dt:O Nat}{A B:O aQ}{u:db}{a:az}{q:O Nat}{M:O aQ}(hc:Ctx P k top ef lo hi st dt A B)(ab:st=T++ [u.st])(c:cY P ef a lo hi q M)(H:∀x n,P x=some n->bx n<=232)(hs:bx a<=282):
 ∃ (d f:an Key) (J:O Nat) (g j:O aQ) (ps:O Nat),Ctx P k top (ef+1) d f T J g j/\dt=u.no::(ps++J)/\P u.no=some u.n/\u.cB<u.n.kids.length/\u.n.kids.length=u.n.keys.length+1/\u.n.keys≠ []/\(T≠ []->2<=u.n.keys.length)/\
  (80<=bx a->∀ (Q:Nat->an az) (ks:O Key) (kids:O Nat),kR Q a ks kids->(∀x∈ps++q,P x=Q x)->(∀x∈kids,x<1600)->∃ (l:O Nat) (m:O aQ),cY Q (ef+1) (fj u.n u.cB (u.cB+1) ks kids) d f l m/\g++(m++j)=A++(M++B)/\l.Perm (kids++(ps++q))/\
    bx (fj u.n u.cB (u.cB+1) ks kids)<=bx u.n+27/\u.n.keys.length<=(fj u.n u.cB (u.cB+1) ks kids).keys.length+1)/\
  (bx a<80->∃ (o:az) (no:Nat) (rest:O Nat),u.n.kids[iH u]? =some no/\P no=some o/\o.leaf=a.leaf/\u.cB-1<u.n.keys.length/\cT (u.n.keys.getD (u.cB-1) [])/\kj (kl u a o)/\ps.Perm (no::rest)/\
    ∀ (Q:Nat->an az) (ks:O Key) (kids:O Nat),kR Q (kl u a o) ks kids->(∀x∈rest++q,P x=Q x)->(∀x∈kids,x<1600)->∃ (l:O Nat) (m:O aQ),cY Q (ef+1) (fj u.n (u.cB-1) (u.cB-1+2) ks kids) d f l m/\g++(m++j)=A++(M++B)/\l.Perm (kids++(rest++q))/\
     bx (fj u.n (u.cB-1) (u.cB-1+2) ks kids)<=bx u.n+27/\u.n.keys.length<=(fj u.n (u.cB-1) (u.cB-1+2) ks kids).keys.length+1):=by
 cases hc with
 |top=>
  have:=congrArg List.length ab;simp at this
 | @step ef d f _ _ aw J g j ac K bo bj bl bJ h ai hl p U hlen ad aj L r s=>
  obtain⟨rfl,ak⟩:=List.append_inj' ab rfl;have V:(ac,K,ew K.keys k)=u.st:=by simpa using ak
  have al:ac=u.no:=congrArg Prod.fst V;have am:K=u.n:=congrArg (λx=>x.2.1) V;have ae:ew K.keys k=u.cB:=congrArg (λx=>x.2.2) V;subst al am;rw[ae]at r s;have ao:=vh u.n.keys k;rw[ae]at ao;refine⟨d,f,J,g,j,bo++bj,h,by rw[cW],ai,I,hlen,ad,aj,λb Q ks kids hf t v=>?_,λb=>?_⟩
  .obtain⟨w,av,y,z,N⟩:=C0 hl p U r s c b hs hf (λx hx=>t x (by
    simp only[cG]at hx⊢;rcases hx with hx|hx|hx
    .exact .inl (.inl hx)
    .exact .inr hx
    .exact .inl (.inr hx))) v
   refine⟨w,_,av,by simp only[cW],y.trans (List.Perm.append_left kids ?_),z,I⟩;exact wz bo q bj
  .by_cases h0:u.cB=0
   .obtain⟨o,R,S,C,W,X,Y⟩:=ES p hlen H (i:=u.cB) (by
     have:u.n.keys.length≠0:=λe=>ad (List.eq_nil_of_length_eq_zero e);omega) L s c b
    obtain⟨ap,af,aq,ar,D,Z,_,aa⟩:=C2 hl p U hlen H R L r s c b;rw[C]at D;obtain rfl:=Option.some.inj D;have E:iH u=u.cB+1:=by unfold iH;rw[if_pos h0,h0]
    have ag:u.cB-1=u.cB:=by omega
    have F:u.n.keys.getD (u.cB-1) []=u.n.keys[u.cB]:=by rw[ag,e6,dD S];rfl
    have G:kl u a o=dp a u.n.keys[u.cB] o:=by unfold kl;rw[if_pos (by rw[E];omega),F]
    refine⟨o,u.n.kids[u.cB+1],bo++af,by rw[E];exact dD R,C,W,I,by rw[F];exact X,by rw[G];exact Y,?_,λQ ks kids hf t v=>?_⟩
    .exact(List.Perm.append_left bo Z).trans lf
    .rw[G]at hf
     obtain⟨w,av,y,z,N⟩:=aa Q ks kids hf (λx hx=>t x (by
      simp only[cG]at hx⊢;rcases hx with hx|hx|hx
      .exact .inl (.inl hx)
      .exact .inr hx
      .exact .inl (.inr hx))) v
     rw[ag];exact⟨w,_,av,by simp only[cW],y.trans (List.Perm.append_left kids (wz bo q af)),z,N⟩
   .obtain⟨o,R,S,C,W,X,Y⟩:=ER p hlen H (i:=u.cB) I I L r c b
    obtain⟨ap,ah,aq,ar,D,Z,_,aa⟩:=C1 hl p U hlen H I I L r s c b;rw[C]at D;obtain rfl:=Option.some.inj D;have E:iH u=u.cB-1:=by unfold iH;rw[if_neg h0]
    have F:u.n.keys.getD (u.cB-1) []=u.n.keys[u.cB-1]:=by rw[e6,dD S];rfl
    have G:kl u a o=dp o u.n.keys[u.cB-1] a:=by unfold kl;rw[if_neg (by rw[E];omega),F]
    have au:u.cB-1+2=u.cB+1:=by omega
    refine⟨o,u.n.kids[u.cB-1],ah++bj,by rw[E];exact dD R,C,W,S,by rw[F];exact X,by rw[G];exact Y,?_,λQ ks kids hf t v=>?_⟩
    .exact(Z.append_right bj)
    .rw[G]at hf
     obtain⟨w,av,y,z,N⟩:=aa Q ks kids hf (λx hx=>t x (by
      simp only[cG]at hx⊢;rcases hx with hx|hx|hx
      .exact .inl (.inl hx)
      .exact .inr hx
      .exact .inl (.inr hx))) v
     rw[au];exact⟨w,_,av,by simp only[cW],y.trans (List.Perm.append_left kids (wz ah q bj)),z,N⟩
theorem c3.ET{w:J}{T:aK}{c:dd}{E:Nat->Prop}(h:c3 w T c)(b:∀q,E q->T.E q):c3 w (T.cc E T.G) c:=
 h.of (aq:=T.cc E T.G) (W:=λ_=>False) (h.t.grow (W:=λ_=>False) (ae.refl _ _) (λ_ h=>h.elim) (λq a=>.inl (b q a)) (λq a=>.inr (.inl a)) λq a=>(h.t.c2 q (b q a)).2.2) (ae.refl _ _) (λ_ _ h=>h) rfl λ_ h=>h
theorem c4.local{T aq:aK}{c c':dd}{m l:O Nat}{bT:Nat->Prop}{w w1 w':J}{k:Nat}(h:c4 (T.cc bT T.G) aq c c' m l w1 w' k)(hx:Ext w w1)(b:∀q,bT q->T.E q\/w.heap.size<=q)(d:∀q,T.E q->bT q):c4 T (aq.cc T.E aq.G) c c' m l w w' k:=
 ⟨h.to.local hx b (λq a=>.inl a) (λq a=>.inl (by rw[h.E];exact d q a)) λq a=>a,rfl,h.G,h.root,h.aD,h.cb,h.made,h.left,h.bf,h.iG,h.f,h.ej,h.room⟩
theorem c3.z6{w w':J}{T:aK}{c:dd}{W:Nat->Prop}(h:c3 w T c)(hc:ae W w w')(cd:∀q,W q->T.E q\/w.heap.size<=q):c3 w' T c:=by
 have b:ae (λq=>T.E q) w w':=ck (W:=λq=>T.E q) (ae.refl _ _) hc λq a d=>(cd q d).resolve_right I;exact h.of (h.t.grow (E:=T.E) (G:=T.G) b (λq a _=>.inl a) (λq a=>.inl a) (λq a=>.inr (.inl a)) λq a=>(h.t.c2 q a).2.2) b (λq hg he=>(h.t.c2 q he).2.2 hg) rfl λ_ h=>h
theorem iY.to{w w':J}{T aq:aK}{k:Nat}{s:Y}{l:O db}(h:iY (λq=>¬T.M q) w s l)(ht:bO T aq w w' k):iY (λq=>¬aq.M q) w' s l:=by
 refine⟨h.own.ad ht.ad λq a c=>h.m8 q a (aK.gu c),λq a d=>?_,λx hx=>?_⟩
 .rcases ht.cN q d with h1|h1
  .exact h.m8 q a h1
  .have:=aZ.lt h.own q a;omega
 .exact(ht.bf (lo:=0) ((h.bf x hx).aU λq _ b=>⟨cI _,b⟩)).aU λq _ b=>b.2
theorem iY.at{B:Nat->Prop}{w:J}{s:Y}{l:O db}(h:iY B w s l){i:Nat}(hi:i<l.length):∃A:ab,s.a=some A/\s.len=l.length/\B A.block/\w.cell? (A.add (i*6))=some (.int .i64 ((l[i]).no:Nat))/\kk B w (A.add (i*6)) l[i]:=by
 have hl:=h.own.1;rw[hT _ (m7 l)]at hl;have f:s.len=l.length:=by omega
 rcases h.own.2.2.2 with ⟨h1,n⟩|⟨b,c,e,g,o,k⟩
 .have:=h.own.2.1
  omega
 .have d:∀j,j<6->w.cell? ⟨b,i*6+j,none⟩=((db.c l[i]))[j]? :=λj m=>by
   rw[bh.cell g,←vP (m7 l) hi m,←k];rw[qB,if_pos I,Array.getElem?_toList]
  refine⟨b,e,f,h.m8 b ⟨_,e,rfl⟩,?_,?_⟩
  .rw[ax,cH]
   exact d 0 (by decide)
  .rw[ax,cH]
   refine⟨?_,?_,?_,?_,?_,h.bf _ (cm hi),h.m8 b ⟨_,e,rfl⟩,aZ.lt h.own b ⟨_,e,rfl⟩⟩
   .rw[ax];exact d 1 (by decide)
   .rw[ax,ax];exact d 2 (by decide)
   .rw[ax,ax];exact d 3 (by decide)
   .rw[ax,ax];exact d 4 (by decide)
   .rw[ax];exact d 5 (by decide)
theorem Ctx.z7{P:Nat->an az}{lo hi:an Key}{k:Key}{top ef:Nat}{dt:O Nat}{A B:O aQ}(h:Ctx P k top ef lo hi [] dt A B):ef=top/\lo=none/\hi=none/\dt=[]/\A=[]/\B=[]:=by
 generalize a:([]:O (Nat×az×Nat))=st at h
 cases h with
 |top=>exact⟨rfl,rfl,rfl,rfl,rfl,rfl⟩
 |step h=>
  have:=congrArg List.length a;simp at this
def k2(T:aK)(c:dd)(aS:O Nat)(dz:O aQ)(w:J)(v:aa)(w':J):Prop:=
 ∃ (aq:aK) (c':dd) (m l:O Nat),c3 w' aq c'/\c4 T aq c c' m l w w' 60/\
  ((v=.tuple #[(0:Int),(0:Int),(0:Int)]/\dz=[]/\l.Perm (m++aS)/\m.length<=2*T.aD+3)\/
   (∃ (root h:Nat) (pages:O Nat),v=.tuple #[root,h,(0:Int)]/\ek aq.P h none none root pages dz/\(pages++l).Perm (m++aS)/\1<=h/\h<=T.aD+1/\m.length<=2*T.aD+3)\/
   (∃a b:Int,v=.tuple #[a,b,(3:Int)]/\¬T.C.D.calm 60))
theorem k2.local{T:aK}{c:dd}{aS:O Nat}{dz:O aQ}{bT:Nat->Prop}{w w1 w':J}{v:aa}(h:k2 (T.cc bT T.G) c aS dz w1 v w')(hx:Ext w w1)(d:∀q,bT q->T.E q\/w.heap.size<=q)(a:∀q,T.E q->bT q):k2 T c aS dz w v w':=by
 obtain⟨aq,c',m,l,h1,b,e⟩:=h;exact⟨aq.cc T.E aq.G,c',m,l,h1.ET λq f=>by rw[b.E];exact a q f,b.local hx d a,e⟩
structure EU(bH:aK)(c:dd)(b:J)(a:O db)(k:Key)(aS:O Nat)(dz:O aQ)(ws:Y)(gv:Nat)(i:Nat)(w':J)(aq:aK)(c':dd)(m l:O Nat)(n:az)(K V D:Y)(lo hi:an Key)(dt:O Nat)(A B:O aQ)(q:O Nat)(M:O aQ)(r:O Nat):Prop where
 rC:i<a.length
 wA:c3 w' aq c'
 to:c4 bH aq c c' m l b w' (4*(a.length-1-i))
 m9:m.length<=2*(a.length-1-i)
 z8:l.length<=2*(a.length-1-i)
 gv:Var w' gv (dL n K V D) 202
 bf:bp (λq=>¬aq.M q) w' n K V D
 gS:iY (λq=>¬aq.M q) w' ws a
 ctx:Ctx aq.P k a.length (a.length-i) lo hi ((a.take i).map db.st) dt A B
 js:cY aq.P (a.length-i) n lo hi q M
 eq:A++(M++B)=dz
 pp:aS.Perm ((a[i]).no::(r++dt))
 acc:(q++l).Perm (m++r)
 sz:bx n<=282
 EV:1<=i->n.keys≠ []
 z_:∀x∈q++dt,aq.f x=true
theorem bK.qk{w:J}{T:aK}(h:bK w T):∀x n,T.P x=some n->bx n<=232:=λx n hx=>(h.dM x n hx).2.is.2.2
theorem gH.cs{T:aK}{c:dd}{n:az}{w w':J}{s:Y}{e:Int}(h:gH T c n w (.tuple #[s,e]) w'):
 ∃ (aq:aK) (c':dd) (m:O Nat),c3 w' aq c'/\c4 T aq c c' m [] w w' 2/\m.length<=2/\((e=0/\∃ks,kR aq.P n ks m/\jW (λq=>¬aq.M q) w' s ks m)\/(e=3/\¬T.C.D.calm 2)):=by
 obtain⟨aq,c',m,s2,h1,d,f,g⟩:=h;refine⟨aq,c',m,h1,d,f,?_⟩;rcases g with ⟨ks,a,b,i⟩|⟨a,b⟩
 .simp at a
  obtain⟨⟨a1,a2,a3⟩,rfl⟩:=a;obtain rfl:s=s2:=by cases s;cases s2;simp_all
  exact .inl ⟨rfl,ks,b,i⟩
 .simp at a
  exact .inr ⟨a.2,b⟩
theorem EW{P Q c:Nat->an az}{t:Nat}{n:az}{q:O Nat}{M:O aQ}{a:Key}{x y no:Nat}(d:cY P (t+1) n none none q M)(hs:bx n<=282)(hf:kR Q n [a] [x,y])(j:∀z∈q,P z=Q z)(k:c no=some ⟨false,[a],[],[x,y]⟩)(l:∀z∈x::y::q,Q z=c z)(hx:x<1600)(o:y<1600):
 cT a/\∃pages,ek c (t+2) none none no pages M/\pages.Perm (no::x::y::q):=by
 have p:232<bx n:=by
  rcases hf with ⟨_,z,e,_⟩|⟨h,_⟩
  .cases e
  .exact h
 obtain⟨f,av,g,i,_⟩:=d.fits (d.vl I) (λ_=>I) (λ_=>I) hf j;have m:cY Q (t+2) ⟨false,[a],[],[x,y]⟩ none none f M:=⟨rfl,rfl,i,λz b=>by
  simp only[cR,eR,eY]at b;rcases b with rfl|rfl<;>assumption,av⟩
 refine⟨i a (by simp),no::f,m.lay (by simp) k λz b=>l z ?_,List.Perm.cons no g⟩;have:=g.mem_iff.1 b;simpa using this
theorem lU{a b:O Nat}:a.Perm b↔∀x,a.count x=b.count x:=List.perm_iff_count
theorem wB{q l m r:O Nat}{no:Nat}(h:(q++l).Perm (m++r)):(q++(l++ [no])).Perm (m++(no::r)):=by
 rw[lU]at h⊢;intro x;have:=h x;simp only[l4,nv,nw]at this⊢;omega
theorem EX{q l m r a ps ms ls rest:O Nat}(h:(q++l).Perm (m++r))(b:a.Perm (ms++(rest++q)))(c:ps.Perm (ls++rest)):(a++(l++ls)).Perm ((m++ms)++(ps++r)):=by
 rw[lU]at h b c⊢;intro x;have:=h x;have:=b x;have:=c x;simp only[l4,nv,nw]at*;omega
theorem EY{aS r ps a:O Nat}{u:Nat}(h:aS.Perm (r++(u::(ps++a)))):aS.Perm (u::((ps++r)++a)):=by
 rw[lU]at h⊢;intro x;have:=h x;simp only[l4,nv,nw]at*;omega
theorem EZ{w:J}{T:aK}{c:dd}{d:O db}{k:Key}{aS dt:O Nat}{dz A B M:O aQ}{lo hi:an Key}{ws:Y}{n:az}{K V D:Y}(h:c3 w T c)(bU:iY (λq=>¬T.M q) w ws d)(bw:bp (λq=>¬T.M q) w n K V D)(eE:0<d.length)(hlen:d.length=T.aD)(eF:T.aD<12)
 (eG:T.C.D.aO<=900000000) (eH:2*T.aD+3<=b7 T) (eI:c.made.length<=100) (eJ:c.left.length<=100) (cF:Ctx T.P k d.length 1 lo hi ((d.take (d.length-1)).map db.st) dt A B) (L:cY T.P 1 n lo hi [] M) (ar:A++(M++B)=dz)
 (N:aS.Perm ((d[d.length-1]'I).no::dt)) (bz:bx n<=282) (a6:2<=d.length->n.keys≠ []) (Q:∀x∈dt,T.f x=true):
 aH ai 208 #[.pointer (some c.cb),ws,cM n K V D] w (k2 T c aS dz w):=by
 refine okF (af.mE (some c.cb) ws n.leaf K V D) ay.mE func208 ?_;(delta af.mE a7 U ak cg au al aI r1 st nR mu f_ bW;dsimp only);refine bk (vs:=dL n K V D) rfl λw1 cK cL eK=>?_;obtain⟨bS,aA,aT,aG⟩:=bC cK;refine⟨_,bS,K,aA,V,aT,D,aG,bk (vs:=[false,(),(),()]) rfl λeL bV cN eM=>⟨bV.b5 rfl fp,rfl,cn bV (us:=dL n K V D) rfl rfl λbA bD cO eN=>?_⟩⟩;have bX:Ext w bA:=cL.trans (Ext.cv cN cO (br _));obtain⟨gv,cP⟩:∃gv,gv=w1.heap.size:=⟨_,rfl⟩;rw[←cP]at bD⊢;obtain⟨bT,bE⟩:∃bT,bT=λq=>T.E q\/q=gv:=⟨_,rfl⟩;have cQ:∀q,T.E q->bT q:=λq F=>by rw[bE];exact .inl F
 have a8:∀q,bT q->T.E q\/q=gv:=λq F=>by rw[bE]at F;exact F
 have cS:bT gv:=by rw[bE];exact .inr rfl
 have eO:=bD.lt;have cU:c3 bA (T.cc bT T.G) c:=h.of (W:=λ_=>False) (h.t.grow (W:=λ_=>False) bX (λ_ h=>h.elim) (λq F=>(a8 q F).imp id λe=>.inr ⟨I,I⟩) (λq F=>.inr (.inl F)) λq F hg=>by
  rcases a8 q F with h1|h1
  .exact(h.t.c2 q h1).2.2 hg
  .have:=h.t.lt (q:=q) (.inr (.inr (.inr (.inr hg))));omega) bX (λ_ _ h=>h) rfl λ_ h=>h
 have bY:bO T (T.cc bT T.G) w bA 0:=(bO.refl T w).step (W:=λ_=>False) bX (λ_ h=>h.elim) (λq F=>(a8 q F).imp id λe=>.inr I) λq F=>.inl F;have conv:∀ (v:aa) (w':J),k2 (T.cc bT T.G) c aS dz w1 v w'->k2 T c aS dz w v w':=λv w' hu=>hu.local cL (λq F=>(a8 q F).imp id λe=>I) cQ;obtain⟨bH,aw⟩:∃bH,bH=T.cc bT T.G:=⟨_,rfl⟩;have bZ:=bU.to bY;have b0:bp (λq=>¬(T.cc bT T.G).M q) bA n K V D:=(bY.bf (lo:=0) (bw.aU λq _ R=>⟨cI _,R⟩)).aU λq _ R=>R.2;have cV:bH.P=T.P:=by rw[aw];rfl
 have b1:bH.f=T.f:=by rw[aw];rfl
 have dQ:bH.E gv:=by rw[aw];exact cS
 have eP:b7 bH=b7 T:=by rw[aw];rfl
 have dR:bH.C=T.C:=by rw[aw];rfl
 have dS:bH.aD=T.aD:=by rw[aw];rfl
 rw[←aw]at cU bZ b0 conv;clear aw bY bE cQ a8 cS;have eQ:gv=w1.heap.size:=cP;have eR:ws.len=d.length:=by
  have:=bU.own.1;rw[hT _ (m7 d)]at this;omega
 refine⟨λn10 w'=>∃ (i:Nat) (aq:aK) (c':dd) (m l:O Nat) (n:az) (K V D:Y) (lo hi:an Key) (dt:O Nat) (A B:O aQ) (q:O Nat) (M:O aQ) (r:O Nat),n10=(i:Nat)/\EU bH c w1 d k aS dz ws gv i w' aq c' m l n K V D lo hi dt A B q M r,λn10 _=>(n10+1).toNat,
  ⟨d.length-1,bH,c,[],[],n,K,V,D,lo,hi,dt,A,B,[],M,[],?_,?_⟩,?_⟩
 .rw[bB I I];omega
 .have e:d.length-(d.length-1)=1:=by omega
  refine⟨I,cU,(c4.ext bH c (Ext.cv cN cO (br _))).mono I,cI _,cI _,bD,b0,bZ,by rw[e,cV];exact cF,by rw[e,cV];exact L,ar,by simpa using N,List.Perm.refl _,bz,λh1=>a6 I,λx hx=>by rw[b1];exact Q x (by simpa using hx)⟩
 clear cF L ar N bz a6 Q bw b0 bD bU bZ cK bS aA aT aG bV;rintro _ b2 ⟨i,aq,c',m,l,n,K,V,D,lo,hi,dt,A,B,q,M,r,rfl,g⟩;have cX:=g.rC;have bF:=g.to.cb;refine⟨λ_=>aY ?_,λR=>?_⟩
 rotate_left
 .have:¬(i:Int)>=0:=cx R
  omega
 have aP:Ext b2 b2.drew:=cr _;obtain⟨b4,dT⟩:∃b4,b4=b2.drew:=⟨_,rfl⟩;rw[←dT]at aP⊢;have a9:=g.wA.ext aP;have cZ:=a9.cells.2.2;rw[bF]at cZ;have c0:iY (λq=>¬aq.M q) b4 ws d:=g.gS.to (bO.ext aq aP);obtain⟨a_,b_,eS,dU,dV,_⟩:=c0.at cX;have eT:c'.left.length<=200:=by rw[g.to.left,cE];have:=g.z8;omega
 have dW:c'.made.length<=200:=by rw[g.to.made,cE];have:=g.m9;omega
 obtain⟨aR,c1,av,aj,aV,aJ,aL⟩:=zR a9 (d[i]).no I;rw[bF]at aV aJ aL;have dX:∀n,(a_.add n).block=a_.block:=λn=>by unfold Addr.add;split<;>rfl
 have dY:∀q,aB c'.fK q->aq.M q:=λq F=>.inr (.inr (.inr (.inr (a9.jx q F).1)));refine⟨aB c'.fK,_,rfl,λF=>(a9.jx _ F).2 (by rw[bF,ax]),c'.fK,cZ,a_,b_,⟨I,I⟩,λF=>dU (dY _ ((dX _)▸F)),_,by rw[du];exact dV,aY ⟨ae.cJ (er _ _),aR,c1,av,aj,_,rfl,by rw[ax];exact aV,by rw[ax];exact aJ,aY ?_⟩⟩;rw[ax,cH];obtain⟨X,c5⟩:∃X,X=c1.setCell ⟨c.cb,2,none⟩ aR:=⟨_,rfl⟩;rw[←c5];obtain⟨ag,bb⟩:=aL X c5;have ca:=c4.leave (c:=c') (c':=⟨c.cb,c'.ma,aR,c'.made,c'.left++ [(d[i]).no]⟩) (no:=(d[i]).no) bb rfl (λq F=>.inl F) bF.symm rfl rfl;have ab:=(g.to.trans (c4.ext aq c' aP)).trans ca;simp only[fX,l0]at ab;have c6:aq.E gv:=by rw[g.to.E];exact dQ
 have cd:=(g.gv.ext aP).ad bb.ad (a9.t.iC c6);have ce:=c0.to bb;have bd:bp (λq=>¬(aq.cc aq.E λq=>aq.G q\/aB aR q).M q) X n K V D:=(bb.bf (lo:=0) ((g.bf.ext aP).aU λq _ R=>⟨cI _,R⟩)).aU λq _ R=>R.2;obtain⟨b6,aW⟩:∃b6,b6=aq.cc aq.E λq=>aq.G q\/aB aR q:=⟨_,rfl⟩;have bo:b6.P=aq.P:=by rw[aW];rfl
 have bj:b6.f=aq.f:=by rw[aW];rfl
 have eU:b7 b6=b7 aq:=by rw[aW];rfl
 have c7:b6.E gv:=by rw[aW];exact c6
 have c8:b6.aD=T.aD:=by rw[aW];show aq.aD=_;rw[g.to.aD,dS]
 rw[←aW]at ag bb ca ab ce bd;obtain⟨aT,bI⟩:∃aT:dd,aT=⟨c.cb,c'.ma,aR,c'.made,c'.left++ [(d[i]).no]⟩:=⟨_,rfl⟩;rw[←bI]at ag ca ab;have gX:aT.cb=c.cb:=by rw[bI]
 have am:aT.made.length<=200:=by rw[bI];exact dW
 have eV:aT.left.length<=201:=by rw[bI,cE,hX];omega
 obtain⟨dZ,bG,bc,d0⟩:=bC cd;have c9:=ba.len bd.keys;have c_:∀ (w':J) (v:aa),Ext X w'->(∀ {dg aG be},dg=b6->aG=aT->be=l++ [(d[i]).no]->((v=.tuple #[(0:Int),(0:Int),(0:Int)]/\dz=[]/\be.Perm (m++aS)/\m.length<=2*bH.aD+3)\/
  (∃ (root h:Nat) (pages:O Nat),v=.tuple #[root,h,(0:Int)]/\ek (aK.P dg) h none none root pages dz/\(pages++be).Perm (m++aS)/\1<=h/\h<=bH.aD+1/\m.length<=2*bH.aD+3)\/
  (∃a b:Int,v=.tuple #[a,b,(3:Int)]/\¬bH.C.D.calm 60)))->k2 T c aS dz w v w':=by
  intro w' v hx hd;refine conv v w' ⟨b6,aT,m,l++ [(d[i]).no],?_,?_,hd (aG:=aT) rfl rfl rfl⟩
  .exact ag.ext hx
  .have:=(ab.trans (c4.ext b6 _ hx)).mono (j:=60) I
   simp only[fX]at this;exact this
 refine cl (λb w'=>(b=true↔(i=0/\n.keys=[]))/\X=w') (λZ bg=>⟨λh0=>⟨K,bG,bg _ _ ⟨?_,rfl⟩⟩,λh0=>bg _ _ ⟨?_,rfl⟩⟩) ?_
 .have h0:i=0:=by
   have:(i:Int)=0:=by simpa using h0
   omega
  rw[jc];constructor
  .intro h1
   exact⟨h0,List.eq_nil_of_length_eq_zero I⟩
  .rintro⟨_,h1⟩
   rw[h1]at c9;simp at c9;omega
 .have h0:i≠0:=by
   have:¬(i:Int)=0:=by simpa using h0
   omega
  exact⟨λh=>(by cases h),λh=>absurd h.1 h0⟩
 rintro eW _ ⟨da,rfl⟩;refine⟨λR=>?_,λR=>?_⟩
 .obtain⟨h0,dc⟩:=da.1 R
  subst h0;have bh:Ext X X.drew:=cr _;obtain⟨d6,d7,d8,d9⟩:=bC (cd.ext bh);have df:=(ag.ext bh).cells.1;rw[gX]at df;have d_:=(ag.ext bh).t.cells.2.2.2.2;obtain⟨t1,t2,t3,t4,t5,t6⟩:=Ctx.z7 (by simpa using g.ctx);have L:=g.js;have N:=g.pp;have ar:=g.eq;have ao:=wB (no:=(d[0]).no) g.acc;subst t2 t3 t4 t5 t6;rw[j1,fX]at ar;rw[fX]at N;subst ar;have dh:n.leaf=false->∃x,n.kids=[x]/\1<=b6.aD/\ek aq.P (b6.aD-1) none none x q M/\1<=b6.aD-1:=by
   intro hl;have e:d.length-0=b6.aD:=by rw[c8];omega
   rw[e]at L
   cases ht:b6.aD with
   |zero=>omega
   |succ t=>
    rw[ht]at L
    cases t with
    |zero=>
     have:=L.1.leaf;rw[hl]at this;cases this
    |succ t=>
     obtain⟨v1,ch,bi,bl,bJ⟩:=L;rw[dc]at bJ;generalize eX:n.kids=eY at bJ
     cases bJ with
     |one h=>exact⟨_,rfl,I,h.1,I⟩
  refine aY ⟨λ_=>False,id,_,d6,K,d7,V,d8,D,d9,_,rfl,id,_,df,_,rfl,id,_,d_,(og (bd.ext bh) b6.aD I λhl=>by obtain⟨x,a1,a2,_⟩:=dh hl;exact⟨x,a1,a2⟩).use ?_⟩;rintro v w' ⟨rfl,ci⟩;have di:=bh.trans ci
  cases hl:n.leaf with
  |true=>
   rw[if_pos rfl];have dj:=L.leaf;rw[hl]at dj;have cj:d.length-0=1:=cf dj.symm;rw[cj]at L;obtain⟨v1,ch,bi,bl⟩:=L;subst bi;refine⟨_,_,_,rfl,ci,c_ w' _ di λ{dg aG be} a1 a2 a3=>.inl ⟨rfl,?_,?_,by have:=g.m9;omega⟩⟩
   .rw[bl];unfold az.fi;rw[dc];rfl
   .subst a3
    rw[lU]at ao N⊢;intro x;have:=ao x;have:=N x;simp only[l4,nv,nw]at*;omega
  |false=>
   rw[if_neg (by simp)];obtain⟨x,a1,a2,a3,a4⟩:=dh hl;refine⟨_,_,_,rfl,ci,c_ w' _ di λ{dg aG be} b8 bM aX=>.inr (.inl ⟨_,_,q,rfl,?_,?_,a4,?_,by have:=g.m9;omega⟩)⟩
   .subst b8
    have ea:n.kids.getD 0 0=x:=by rw[a1];rfl
    rw[ea,bo];exact a3
   .subst aX
    rw[lU]at ao N⊢;intro x;have:=ao x;have:=N x;simp only[l4,nv,nw]at*;omega
   .omega
 .have a6:n.keys≠ []:=λe=>by
   rcases l3 i with h0|h0
   .have:=da.2 ⟨h0,e⟩
    rw[R]at this;cases this
   .exact g.EV h0 e
  have eZ:b6.C.D.aO<=900000050:=by
   have:=ab.to.aO;rw[dR]at this;omega
  have dk:2<=b7 b6:=by
   have:=ab.room;have:=g.m9;omega
  have dl:∀ms:O Nat,ms.length<=3->(m++ms).length<=2*bH.aD+3:=λms h=>by rw[cE];have:=g.m9;omega
  have dm:∀j,j<=10->¬b6.C.D.calm j->¬bH.C.D.calm 60:=λj e0 bw hc=>bw (ab.to.calm j (fT hc I));have ck:kj n:=g.js.wy (λ_=>by have:=g.sz;omega) (λ_=>by have:=g.sz;omega) λ_=>a6;refine cl (λp w'=>p=(if i=0 then none else some (a_.add ((i-1)*6)))/\X=w') (λZ bg=>⟨λh0=>⟨a_,b_,?_,bg _ _ ⟨?_,rfl⟩⟩,λh0=>bg _ _ ⟨?_,rfl⟩⟩) ?_
  .have h0:(i:Int)>0:=cf h0
   rw[bB I I];omega
  .have h0:(i:Int)>0:=cf h0
   have e:(i:Int)-1=((i-1:Nat):Int):=by omega
   rw[bB I I,if_neg I,e,du]
  .have h0:¬(i:Int)>0:=cx h0
   rw[if_pos I]
  rintro _ _ ⟨rfl,rfl⟩;refine⟨_,dZ,K,bG,V,bc,D,d0,?_⟩;by_cases h0:i=0
  .subst h0
   rw[if_pos rfl];have bm:=EL ag bd ck I dk I;rw[gX]at bm;refine bm.use ?_;rintro _ aZ ⟨a0,e,rfl,hf⟩;obtain⟨dg,aG,ms,S,H,bn,bq⟩:=hf.cs;have bK:=ab.trans H;simp only[fX]at bK;have eb:aG.cb=c.cb:=by rw[H.cb,gX]
   rcases bq with ⟨rfl,ks,aC,aM⟩|⟨rfl,aN⟩
   .refine⟨a0,_,_,0,rfl,λh=>(by cases h),λ_=>⟨λ_=>?_,λh=>(by simp at h)⟩⟩
    obtain⟨t1,t2,t3,t4,t5,t6⟩:=Ctx.z7 (by simpa using g.ctx);have L:=g.js;have N:=g.pp;have ar:=g.eq;have bz:=g.sz;have ao:=wB (no:=(d[0]).no) g.acc;have Q:=g.z_;subst t2 t3 t4 t5 t6;rw[j1,fX]at ar;rw[fX]at N Q;subst ar;have ec:b6.n<=1600:=ag.t.s.bc;have cm:∀z∈q,aq.P z=dg.P z:=λz ac=>by
     rw[←bo];exact((H.ej z (by rw[bj,Q z ac];rfl)).1).symm
    have ed:d.length-0=(d.length-1)+1:=by omega
    have dn:dg.aD=d.length:=by rw[H.aD,c8];omega
    rw[ed]at L;have dp:∀a5 x y,ks=[a5]->ms=[x,y]->cT a5/\x<1600/\y<1600:=λa5 x y av aj=>by
     subst av aj;have dq:232<bx n:=by
      rcases aC with ⟨_,z,e,_⟩|⟨h,_⟩
      .cases e
      .exact h
     obtain⟨e1,_,_,aV,_⟩:=L.fits (L.vl I) (λ_=>I) (λ_=>I) aC cm;have hx:=(H.iG x (by simp)).2;have e2:=(H.iG y (by simp)).2;exact⟨aV a5 (by simp),I,I⟩
    have dr:=EP S aM (λ_=>I) dp (by have:=H.to.aO;omega) (by have:=H.room;have:=ab.room;have:=g.m9;omega) (by rw[H.made,cE];omega);rw[eb]at dr;refine dr.use ?_;rintro v e3 ee;rcases ee with ⟨x,av,aj,rfl,aJ,aL⟩|⟨a5,x,y,no,lz,de,av,aj,aJ,aL,ef⟩
    .subst av aj
     refine⟨_,_,_,rfl,conv _ _ ⟨dg,aG,m++ [x],l++ [(d[0]).no],aJ,?_,.inr (.inl ⟨x,dg.aD,x::q,rfl,?_,?_,I,I,dl [x] (by simp)⟩)⟩⟩
     .have:=(bK.trans (c4.ext dg aG aL)).mono (j:=60) I
      simp only[fX]at this;exact this
     .rcases aC with ⟨_,z,_,e,ac⟩|⟨_,e4,e5,_,e,_⟩
      .cases e
       rw[dn,show d.length=d.length-1+1 from I];exact L.lay a6 ac cm
      .cases e
     .rw[lU]at ao N⊢
      intro z;have:=ao z;have:=N z;simp only[l4,nv,nw]at*;omega
    .subst av aj
     obtain⟨a1,a2,a3⟩:=dp a5 x y rfl rfl;have aE:=bK.trans aL;simp only[fX]at aE;have ds:=aE.mono (j:=60) I;rcases ef with ⟨rfl,co⟩|⟨rfl,co⟩
     .have eg:∀z∈x::y::q,dg.P z=lz.P z:=λz ac=>by
       refine((aL.ej z ?_).1).symm;rw[H.f];simp only[cR]at ac;rcases ac with ac|ac|ac
       .simp[ac]
       .simp[ac]
       .rw[bj,Q z ac];simp
      obtain⟨_,pages,b8,bM⟩:=EW L bz aC cm co eg a2 a3;refine⟨_,_,_,rfl,conv _ _ ⟨lz,de,m++ [x,y]++ [no],l++ [(d[0]).no],aJ,ds,.inr (.inl ⟨no,dg.aD+1,pages,rfl,?_,?_,I,I,by rw[cW];exact dl [x,y,no] (by simp)⟩)⟩⟩
      .rw[dn,show d.length+1=d.length-1+2 from I];exact b8
      .rw[lU]at ao N bM⊢
       intro z;have:=ao z;have:=N z;have:=bM z;simp only[l4,nv,nw]at*;omega
     .refine⟨_,_,_,rfl,conv _ _ ⟨lz,de,m++ [x,y]++ [no],l++ [(d[0]).no],aJ,ds,.inr (.inr ⟨_,_,rfl,λhc=>co (H.to.calm 1 (ab.to.calm 3 (fT hc I)))⟩)⟩⟩
   .refine⟨a0,_,_,3,rfl,λ_=>conv _ _ ⟨dg,aG,m++ms,l++ [(d[0]).no],S,bK.mono I,.inr (.inr ⟨0,0,rfl,dm 2 I aN⟩)⟩,λh=>(by cases h)⟩
  .rw[if_neg h0]
   have cp:i-1<d.length:=by omega
   obtain⟨e6,dv,_,_,_,hu⟩:=ce.at cp;rw[b_]at dv;obtain rfl:=Option.some.inj dv;obtain⟨u,cq⟩:∃u,u=d[i-1]:=⟨_,rfl⟩;rw[←cq]at hu;have eh:(d.take i).map db.st=(d.take (i-1)).map db.st++ [u.st]:=by
    have:d.take i=d.take (i-1)++ [d[i-1]]:=by
     have e:i-1+1=i:=by omega
     rw[←iL cp,e]
    rw[this,fe,cq];rfl
   obtain⟨dw,dx,ei,dy,dA,ps,bR,b3,el,e7,e8,em,en,dB,cu⟩:=Ctx.up g.ctx eh g.js g.wA.t.qk g.sz;have cj:d.length-i+1=d.length-(i-1):=by omega
   rw[cj]at bR dB cu;have eo:=(g.wA.t.dM _ _ el).2.is;have e9:=eo.2.1.g9 I;have Q:=g.z_;have bm:=EM ag bd hu ck.1 (by have:=g.sz;omega) (λ_=>ck) (λbL=>by
    obtain⟨o,no,rest,b8,bM,aX,bN,bP,dC,_⟩:=cu bL;exact⟨o,no,b8,by rw[bo];exact bM,aX,bN,bP,dC⟩) I I dk I I
   rw[gX]at bm;refine bm.use ?_;rintro v aZ dD;have e_:0<u.n.keys.length:=qC.2 em;have ec:b6.n<=1600:=ag.t.s.bc;have cw:∀ {dg:aK}{aG:dd}{ms ls:O Nat}{w':J}{ep:Nat},c4 b6 dg aT aG ms ls X w' ep->∀x,aq.f x=true->aq.P x=dg.P x:=λes x hx=>by
    rw[←bo];exact((es.ej x (by rw[bj,hx];rfl)).1).symm
   have et:(∃ (dg:aK) (aG:dd) (ms ls:O Nat) (s:Y) (a b:Int),v=.tuple #[s,a,b,(3:Int)]/\c3 aZ dg aG/\c4 b6 dg aT aG ms ls X aZ 4/\¬b6.C.D.calm 4)\/
    (∃ (dg:aK) (aG:dd) (ms ls rest:O Nat) (s:Y) (ap ah:Nat) (ks:O Key) (am:O Nat) (aF:O aQ),v=.tuple #[s,ap,ah,(0:Int)]/\c3 aZ dg aG/\c4 b6 dg aT aG ms ls X aZ 4/\ms.length<=2/\ls.length<=1/\jW (λq=>¬dg.M q) aZ s ks ms/\
      cY dg.P (d.length-(i-1)) (fj u.n ap ah ks ms) dw dx am aF/\dy++(aF++dA)=A++(M++B)/\am.Perm (ms++(rest++q))/\ps.Perm (ls++rest)/\bx (fj u.n ap ah ks ms)<=bx u.n+27/\u.n.keys.length<=(fj u.n ap ah ks ms).keys.length+1/\
      ap<=u.n.keys.length/\1<=ah/\ah<=u.n.kids.length):=by
    rcases dD with ⟨dq,s,e,rfl,hf⟩|⟨bL,dg,aG,rfl,av,aj,aV⟩|⟨bL,o,no,fa,fb,fc,s,e,dF,dG,dH,rfl,hf⟩
    .obtain⟨dg,aG,ms,S,H,bn,bq⟩:=hf.cs
     rcases bq with ⟨rfl,ks,aC,aM⟩|⟨rfl,aN⟩
     .obtain⟨am,aF,b8,bM,aX,bN,bP⟩:=dB dq dg.P ks ms aC (λx hx=>cw H x (Q x (by
       rw[b3];simp only[cG,cR]at hx⊢;rcases hx with hx|hx
       .exact .inr (.inr (.inl hx))
       .exact .inl hx))) (λx hx=>by have:=(H.iG x hx).2;omega)
      exact .inr ⟨dg,aG,ms,[],ps,s,u.cB,u.cB+1,ks,am,aF,rfl,S,H.mono I,bn,cI _,aM,b8,bM,aX,List.Perm.refl _,bN,bP,I,I,I⟩
     .exact .inl ⟨dg,aG,ms,[],s,_,_,rfl,S,H.mono I,λhc=>aN (fT hc I)⟩
    .exact .inl ⟨dg,aG,[],[],bu,0,0,rfl,av,aj.mono I,λhc=>aV (fT hc I)⟩
    .obtain⟨fd,dI,rest,b8,bM,aX,bN,bP,dC,dJ,eu⟩:=cu bL
     rw[b8]at dF;obtain rfl:=Option.some.inj dF;rw[bo,bM]at dG;obtain rfl:=Option.some.inj dG;obtain⟨dg,aG,ms,S,H,bn,bq⟩:=hf.cs;have aE:=dH.trans H;simp only[j1,fX]at aE;rcases bq with ⟨rfl,ks,aC,aM⟩|⟨rfl,aN⟩
     .obtain⟨am,aF,d1,d2,d3,d4,d5⟩:=eu dg.P ks ms aC (λx hx=>cw aE x (Q x (by
       rw[b3];simp only[cG,cR]at hx⊢;rcases hx with hx|hx
       .exact .inr (.inr (.inl (dJ.mem_iff.2 (jb _ hx))))
       .exact .inl hx))) (λx hx=>by have:=(aE.iG x hx).2;omega)
      refine .inr ⟨dg,aG,ms,[dI],rest,s,u.cB-1,u.cB-1+2,ks,am,aF,rfl,S,aE,bn,br _,aM,d1,d2,d3,dJ,d4,d5,I,I,?_⟩;rcases l3 u.cB with ev|ev<;>omega
     .exact .inl ⟨dg,aG,ms,[dI],s,_,_,rfl,S,aE,λhc=>aN (dH.to.calm 2 hc)⟩
   clear dD;rcases et with ⟨dg,aG,ms,ls,a0,a,b,rfl,S,H,aN⟩|⟨dg,aG,ms,ls,rest,a0,ap,ah,ks,am,aF,rfl,S,H,bn,ff,aM,v1,ch,bi,bl,bJ,ew,ex,ey,ez⟩
   .exact⟨a0,_,_,3,rfl,λ_=>conv _ _ ⟨dg,aG,_,_,S,(ab.trans H).mono I,.inr (.inr ⟨0,0,rfl,dm 4 I aN⟩)⟩,λh=>(by cases h)⟩
   .refine⟨a0,_,_,0,rfl,λh=>(by cases h),λ_=>⟨λh=>?_,λ_=>?_⟩⟩
    .have:(i:Int)=0:=by simpa using h
     omega
    have bs:=hu.to H.to;refine⟨_,rfl,_,bs.aA,u.K,bs.aT,u.V,bs.aG,u.D,bs.de,(oh bs.bf aM (fr:=ap) (to:=ah) ex I ey ez I I I).use ?_⟩;rintro _ fg ⟨ct,cA,b9,rfl,eA,bt⟩;have dK:=cd.ad H.to.ad (ag.t.iC c7);have dN:=dK.ext bt;refine⟨_,ct,cA,b9,rfl,dN.b5 rfl fp,rfl,cn dN (us:=dL (fj u.n ap ah ks ms) ct cA b9) rfl rfl λeB eC bv fh=>⟨⟨i-1,dg,aG,m++ms,l++ [(d[i]).no]++ls,fj u.n ap ah ks ms,ct,cA,b9,dw,dx,ei,dy,dA,am,aF,ps++((d[i]).no::r),?_,?_⟩,?_⟩⟩
    .rw[bB I I];omega
    .have dO:dg.E gv:=by rw[H.E];exact c7
     have cy:dg.M gv:=.inr (.inr (.inr (.inl dO)));have cz:=(ab.trans H).trans (c4.ext dg aG bt);simp only[fX]at cz;have eD:bO bH dg w1 eB (4*(d.length-1-i)+4+0):=cz.to.step (E:=dg.E) (G:=dg.G) bv (λq e hl=>I) (λq F=>.inl F) λq F=>.inl F;have cD:∀x,aq.f x=true->dg.f x=true:=λx hx=>by rw[H.f,bj,hx];rfl
     have bQ:=ce.to H.to;refine⟨cp,(S.ext bt).z6 bv λq e=>.inl (by rw[e];exact dO),{cz.mono (j:=4*(d.length-1-(i-1))) I with to:=eD.mono I},?_,?_,eC,?_,?_,bR.agree λx hx=>cw H x (Q x (by rw[b3];simp[hx])),v1,by rw[ch];exact g.eq,?_,EX (wB g.acc) bi bl,I,λh1 e=>?_,λx hx=>?_⟩
     .rw[cE];have:=g.m9;omega
     .rw[cE,cE,hX];have:=g.z8;omega
     .refine(bp.ad eA bv λq F e=>?_).aU λq _ F dP=>?_
      .subst e
       rcases F with F|F
       .exact F cy
       .have:=dK.lt;omega
      .rcases F with F|F
       .exact F dP
       .have:=S.t.lt dP;omega
     .refine⟨(bQ.own.ext bt).ad bv λq F e=>bQ.m8 q F (by rw[e];exact cy),bQ.m8,λx hx=>bp.ad ((bQ.bf x hx).ext bt) bv λq F e=>F (by rw[e];exact cy)⟩
     .have this:aS.Perm ((d[i]'cX).no::(r++dt)):=g.pp
      rw[b3]at this;rw[←cq];exact EY this
     .have fk:=en (λb1=>by
       have:=congrArg List.length b1;rw[dE,cC,j4]at this;omega)
      rw[e,j4]at ew;omega
     .rcases cG.1 hx with hx|hx
      .have:=bi.mem_iff.1 hx
       rcases cG.1 this with hx|hx
       .rw[H.f];simp[hx]
       .rcases cG.1 hx with hx|hx
        .refine cD x (Q x ?_)
         rw[b3];have:x∈ps:=bl.mem_iff.2 (gL _ hx);simp[this]
        .exact cD x (Q x (by simp[hx]))
      .exact cD x (Q x (by rw[b3];simp[hx]))
    .rw[bB I I]
     show((i:Int)-1+1).toNat<((i:Int)+1).toNat;omega
theorem E0{w:J}{T:aK}{c:dd}{dz:O aQ}{n:az}{K V D ws:Y}(r:ws.len=0)(h:c3 w T c)(t:bp (λq=>¬T.M q) w n K V D)(P:T.C.D.aO<=900000000)(Q:2<=b7 T)(R:c.made.length<=100)(S:c.left=[])
 (f:gT n) (g:n.keys≠ []) (u:bx n<=232) (y:n.fi=dz):
 aH ai 208 #[.pointer (some c.cb),ws,cM n K V D] w (k2 T c [] dz w):=by
 refine okF (af.mE (some c.cb) ws n.leaf K V D) ay.mE func208 ?_;(delta af.mE a7 U ak cg au al aI r1 st nR mu f_ bW;dsimp only);refine bk (vs:=dL n K V D) rfl λw1 z A W=>?_;obtain⟨bS,aA,aT,aG⟩:=bC z;refine⟨_,bS,K,aA,V,aT,D,aG,bk (vs:=[false,(),(),()]) rfl λX i B Z=>⟨i.b5 rfl fp,rfl,cn i (us:=dL n K V D) rfl rfl λj E F aa=>?_⟩⟩;have d:Ext w j:=A.trans (Ext.cv B F (br _));refine⟨λn10 w'=>n10= -1/\j=w',λ_ _=>0,⟨by rw[r];decide,rfl⟩,?_⟩;rintro _ _ ⟨rfl,rfl⟩;refine⟨λh=>by simp at h,λ_=>?_⟩;obtain⟨d0,d1,d2,d3⟩:=bC E;refine⟨_,d0,K,d1,V,d2,D,d3,(zW (h.ext d) I I I (t.ext d) (.inl f) u).use ?_⟩;intro v w' a;obtain⟨s,e,rfl⟩:=a.out;obtain⟨aq,c',m,l,o,ab,G⟩:=(a.base d).cs;rcases G with ⟨rfl,ks,H,L⟩|⟨rfl,N⟩
 .refine⟨s,0,rfl,λh=>(by cases h),λ_=>?_⟩
  rcases H with ⟨_,x,rfl,rfl,hx⟩|⟨ac,_⟩
  .rcases L with ⟨b,p,rfl,_,e,a,_⟩|⟨b,p,ad,ae,ag,rfl,e,_⟩
   .obtain rfl:x=p:=by simpa using e
    refine⟨_,rfl,⟨by decide,by show(0:Int)<((1:Nat):Int);decide⟩,_,by rw[ax,ax];exact a.cell,aq,c',[x],[],l,o.mono I,.inr (.inl ⟨x,1,[x],rfl,⟨n,hx,f,λk g=>⟨λ_ e=>(by cases e),λ_ e=>(by cases e)⟩,g,rfl,y.symm⟩,List.Perm.refl _,br _,I,by show 1<=_;omega⟩)⟩
   .cases e
  .omega
 .exact⟨s,3,rfl,λ_=>⟨aq,c',m,[],l,o.mono I,.inr (.inr ⟨0,0,rfl,λhc=>N (fT hc I)⟩)⟩,λh=>(by cases h)⟩
def aK.lV(T:aK)(r h:Nat):aK:={T with root:=r,aD:=h}
theorem bK.E1{w w':J}{T:aK}{r h:Nat}(ht:bK w T)(a:Var w' T.a6 (jV (T.lV r h)) 239)(hc:ae (λq=>q=T.a6) w w')(b:r<T.n)(c:h<=12):bK w' (T.lV r h)/\bO T (T.lV r h) w w' 0:=
 ⟨⟨a,ht.s.ad hc λq d e=>ht.iF (e▸d),ht.ca.ad hc λq e=>.inl e,ht.iF,ht.c2,ht.hA,ht.n,⟨b,c,ht.num.2.2⟩,ht.dM,ht.bD,ht.low⟩,
  ⟨rfl,rfl,rfl,rfl,rfl,rfl,rfl,rfl,rfl,rfl,br _,λ_ h=>h,hc.mono λq _ e=>.inr (.inl e),λq h=>.inl h,λq h=>.inl h⟩⟩
def fL(T:aK)(pages:O Nat)(L:O aQ):Prop:=(T.aD=0/\T.root=0/\pages=[]/\L=[])\/ek T.P T.aD none none T.root pages L
theorem Aa{s t:Nat->ag}:∀ {n:Nat},(∀i,s i=true->t i=true)->eo s n<=eo t n
 |0,_=>br _
 |n+1,h=>by
  have h1:=Aa (n:=n) h
  show eo s n+(s n).toNat<=eo t n+(t n).toNat
  cases hs:s n with
  |false=>exact Nat.add_le_add h1 (cI _)
  |true=>rw[h n hs];exact Nat.add_le_add_right h1 _
def tU(T:aK)(aS:O Nat)(dz:O aQ)(w:J)(v:aa)(w':J):Prop:=
 ∃aq:aK,bK w' aq/\bO T aq w w' 60/\aq.E=T.E/\aq.G=T.G/\
  ((v=.int .i64 2/\b7 T<2*T.aD+3/\aq=T)\/
   (v=.int .i64 0/\2*T.aD+3<=b7 T/\(∃pages,b7 T<=b7 aq+(2*T.aD+3)/\fL aq pages dz/\pages.Nodup/\(∀no∈pages,no∈aS\/(T.f no||T.g no)=false)/\∀no,aq.f no=true↔(no∈pages\/(T.f no=true/\no∉aS)))/\∀no,T.g no=true->aq.P no=T.P no/\aq.C.view no=T.C.view no)\/
   (v=.int .i64 3/\¬T.C.D.calm 60/\aq.root=T.root/\aq.aD=T.aD/\aq.f=T.f/\∀no,(T.f no||T.g no)=true->aq.P no=T.P no/\aq.C.view no=T.C.view no))
theorem Ab{l:O Nat}(h:∀x,l.count x<=1):l.Nodup:=List.nodup_iff_count.2 h
theorem E2{w:J}{T:aK}{s:Y}{aS:O Nat}{dz:O aQ}{n:az}{K V D:Y}(h:bK w T)(b4:¬T.C.D.ro)(c7:T.C.D.aO<=900000000)(z:T.aD<12)(b5:aS.Nodup)(aL:∀x∈aS,T.f x=true)(c8:aS.length<=5000)
 (b8:∀ (bT j:Nat->Prop) (w1:J) (aA:dd),c3 w1 (T.cc bT j) aA->bO T (T.cc bT j) w w1 0->2*T.aD+3<=b7 T->aA.made=[]->aA.left=[]->aH ai 208 #[.pointer (some aA.cb),s,cM n K V D] w1 (k2 (T.cc bT j) aA aS dz w1)):
 aH ai 150 #[.pointer (some T.a6),s,cM n K V D] w (tU T aS dz w):=by
 have c9:=h.s.bc;refine af.Cm (some T.a6) s n.leaf K V D w _ ?_;(delta af.pN r1 aA al au st U a7 ak nR aT;dsimp only);refine bk (vs:=dL n K V D) rfl λw1 aj bb c_=>bk (vs:=[(0:Int)]) rfl λah bd be da=>aY ?_;have am:Ext ah ah.drew:=cr _;obtain⟨bg,b9⟩:∃bg,bg=ah.drew:=⟨_,rfl⟩;rw[←b9]at am⊢;have bh:=(bb.trans be).trans am;have o:=h.ext bh;obtain⟨ev,b_⟩:∃ev,ev=w1.heap.size:=⟨_,rfl⟩;rw[←b_]at bd⊢;refine⟨λ_=>False,_,rfl,id,_,o.cells.2.1,_,rfl,id,_,o.cells.2.2.2.2,(wg o.s).use ?_⟩;rintro _ aM ⟨rfl,an⟩;have aN:=bh.trans an;have X:=(bd.ext am).ext an;have ca:((T.n:Int)-eo (λi=>T.f i||T.g i) T.n)=(b7 T:Nat):=by
  have:=kZ (λi=>T.f i||T.g i) T.n;unfold b7;omega
 have cd:IntKind.wrap .i64 (IntKind.wrap .i64 (2*(T.aD:Int))+3)=((2*T.aD+3:Nat):Int):=by
  rw[bB (n:=2*(T.aD:Int)) I I,bB I I];omega
 rw[ca,cd];refine⟨_,rfl,an,λao=>?_,λao=>?_⟩
 .have ao:((b7 T:Nat):Int)<((2*T.aD+3:Nat):Int):=cf ao
  obtain⟨av,F⟩:=dR X (i:=0) (by simp);have ce:=dx aM ev 0 (2:Int);have cg:=dX X (i:=0) (2:Int);have bi:=Ext.cv aN ce I;exact⟨av,F,aY ⟨2,cg.cell,T,h.ext bi,(bO.ext T bi).mono I,rfl,rfl,.inl ⟨rfl,I,rfl⟩⟩⟩
 have bj:2*T.aD+3<=b7 T:=by
  have:¬((b7 T:Nat):Int)<((2*T.aD+3:Nat):Int):=cx ao;omega
 refine bk (vs:=[.pointer (some T.a6),(),()]) rfl λch bl ci db=>bk (vs:=[.pointer none]) rfl λbm aP bn dc=>?_;obtain⟨cb,bo⟩:∃cb,cb=aM.heap.size:=⟨_,rfl⟩;obtain⟨eE,bp⟩:∃eE,eE=ch.heap.size:=⟨_,rfl⟩;rw[←bo]at bl⊢;rw[←bp]at aP⊢;obtain⟨av,F⟩:=dR aP (i:=0) (by simp);have ap:=dx bm eE 0 (.pointer (some cb));have aR:=dX aP (i:=0) (.pointer (some cb));refine⟨av,F,aY ?_⟩;obtain⟨H,cj⟩:∃H,H=bm.setCell eE (.pointer (some cb)):=⟨_,rfl⟩;rw[←cj]at ap aR⊢;have de:=aN.size;have df:=ap.size;have aU:Ext aM H:=Ext.cv (ci.trans bn) ap I;have bq:=aN.trans aU;have br:=X.ext aU;have bs:=(bl.ext bn).ad ap I;have ck:=((aj.ext be).ext am).ext (an.trans aU);obtain⟨bT,aV⟩:∃bT,bT=λq=>T.E q\/q=ev:=⟨_,rfl⟩;obtain⟨j,aW⟩:∃j,j=λq=>T.G q\/q=cb:=⟨_,rfl⟩;have aX:∀q,bT q->T.E q\/q=ev:=λq c=>by rw[aV]at c;exact c
 have ar:∀q,j q->T.G q\/q=cb:=λq c=>by rw[aW]at c;exact c
 have bt:∀q,T.E q->bT q:=λq c=>by rw[aV];exact .inl c
 have cl:∀q,T.G q->j q:=λq c=>by rw[aW];exact .inl c
 have a0:bT ev:=by rw[aV];exact .inr rfl
 have cm:j cb:=by rw[aW];exact .inr rfl
 have dg:=br.lt;have dh:=bs.lt;have bv:bK H (T.cc bT j):=h.grow (W:=λ_=>False) bq (λ_ h=>h.elim) (λq c=>(aX q c).imp id λe=>.inr ⟨I,I⟩) (λq c=>.inr ((ar q c).imp id λe=>⟨I,I⟩)) λq c hg=>by
  rcases aX q c with h1|h1<;>rcases ar q hg with k|k
  .exact(h.c2 q h1).2.2 k
  .have:=h.lt (q:=q) (.inr (.inr (.inr (.inl h1))));omega
  .have:=h.lt (q:=q) (.inr (.inr (.inr (.inr k))));omega
  .have:=X.lt;omega
 have bw:bO T (T.cc bT j) w H 0:=(bO.refl T w).step (W:=λ_=>False) bq (λ_ h=>h.elim) (λq c=>(aX q c).imp id λe=>.inr I) λq c=>(ar q c).imp id λe=>by omega
 have cn:c3 H (T.cc bT j) ⟨cb,bu,bu,[],[]⟩:=⟨bv,bs,aZ.none _ _ _,aZ.none _ _ _,cm,λq c=>(gi q c).elim,λq c=>(gi q c).elim,b4⟩;have co:=b8 bT j H _ cn bw bj rfl rfl;obtain⟨bS,aA,aT,aG⟩:=bC ck;refine⟨_,aR.cell,_,bS,K,aA,V,aT,D,aG,co.use ?_⟩;rintro v L ⟨bH,y,m,l,bx,d,cp⟩;have Z:bH.E ev:=by rw[d.E];exact a0
 have aw:=br.ad d.to.ad (bv.iC a0);have cq:¬(T.cc bT j).N eE:=by
  have di:cb<eE:=by rw[bo,bp];omega
  rintro(c|c|c|c)
  .have:=h.lt (q:=eE) (.inl c);omega
  .have:=h.lt (q:=eE) (.inr (.inl c));omega
  .have:=h.lt (q:=eE) (.inr (.inr (.inl c)));omega
  .rcases ar eE c with h1|h1
   .have:=h.lt (q:=eE) (.inr (.inr (.inr (.inr h1))));omega
   .omega
 have bz:=aR.ad d.to.ad cq;have ay:y.cb=cb:=d.cb;have dj:bH.a6=T.a6:=d.to.a6;have aB:y.made=m:=d.made;have aC:y.left=l:=d.left;have a1:eE≠ev:=by have:=X.lt;omega
 have bA:bO T bH w L 60:=(bw.trans d.to).mono I
 have fin:∀ (w':J) (aq:aK),bK w' aq->bO T aq w w' 60->aq.E=bT->(∀q,T.G q->aq.G q)->bK w' (aq.cc T.E T.G)/\bO T (aq.cc T.E T.G) w w' 60:=by
  intro w' aq hc ht bD bE;exact⟨hc.grow (W:=λ_=>False) (ae.refl _ _) (λ_ h=>h.elim) (λq c=>.inl (by rw[bD];exact bt q c)) (λq c=>.inr (.inl (bE q c))) λq c=>(h.c2 q c).2.2,
   ht.step (W:=λ_=>False) (ae.refl _ _) (λ_ h=>h.elim) (λq c=>.inl (by rw[bD];exact bt q c)) λq c=>.inl (bE q c)⟩
 have bF:∀q,T.G q->bH.G q:=λq c=>d.G q (cl q c);have dk:=(bb).size;have a2:∀ (w0:J) (aq:aK) (c':dd) (x:Int),c3 w0 aq c'->bO T aq w w0 60->aq.E ev->c3 (w0.setCell ev x) aq c'/\bO T aq w (w0.setCell ev x) 60:=λw0 aq c' x hc ht he=>
  ⟨hc.z6 (dx w0 ev 0 _) λq e=>.inl (by rw[e];exact he),ht.step (E:=aq.E) (G:=aq.G) (dx w0 ev 0 _) (λq e hl=>I) (λq c=>.inl c) λq c=>.inl c⟩
 have dl:m.length<=1600:=by
  have:=d.room;have:b7 (T.cc bT j)<=T.n:=by unfold b7;exact Nat.sub_le _ _
  omega
 have cs:(∃a b:Int,v=.tuple #[a,b,(3:Int)]/\¬T.C.D.calm 60)\/(∃ (root z:Nat) (pages:O Nat),v=.tuple #[root,z,(0:Int)]/\((z=0/\root=0/\pages=[]/\dz=[])\/ek bH.P z none none root pages dz)/\(pages++l).Perm (m++aS)/\z<=12/\m.length<=2*T.aD+3):=by
  rcases cp with ⟨rfl,h1,k,a3⟩|⟨root,z,pages,rfl,h1,k,o,M,a3⟩|⟨a,b,rfl,a4⟩
  .exact .inr ⟨0,0,[],rfl,.inl ⟨rfl,rfl,rfl,h1⟩,k,I,a3⟩
  .have M:z<=T.aD+1:=M
   exact .inr ⟨root,z,pages,rfl,.inr h1,k,I,a3⟩
  .exact .inl ⟨a,b,rfl,a4⟩
 rcases cs with ⟨a,b,rfl,a4⟩|⟨root,p,pages,rfl,ct,bI,cu,dm⟩
 .
  obtain⟨av,F⟩:=dR aw (i:=0) (by simp);have A:=dX aw (i:=0) (3:Int);obtain⟨aE,aF⟩:=a2 L bH y 3 bx bA Z;have aa:=bz.ad (dx L ev 0 (3:Int)) a1;refine⟨a,b,3,rfl,av,F,aY ⟨3,A.cell,λ_=>⟨3,A.cell,?_⟩,λhx=>(by cases hx)⟩⟩;obtain⟨cw,cy⟩:=dR A (i:=0) (by simp);have a5:=dX A (i:=0) (3:Int);obtain⟨bJ,bL⟩:=a2 _ bH y 3 aE aF Z;have a8:=aa.ad (dx _ ev 0 (3:Int)) a1;refine⟨cw,cy,aY (af.yt ev eE _ _ ?_)⟩;generalize dn:(L.setCell ev (3:Int)).setCell ev (3:Int)=bM at a5 bJ a8 bL⊢;(delta af.oa r1 al ak aT;dsimp only);have Q:Ext bM bM.drew:=cr _;have r:=bJ.ext Q;have ab:=zZ r r.ma.src (λq c=>(r.eO q c).1) (l:=y.made) (λx hx=>by rw[aB]at hx;rw[d.f];simp[hx]) (by rw[aB];exact d.bf) (by rw[aB];omega);rw[ay]at ab;have ac:=r.cells.2.1;rw[ay]at ac;refine⟨3,a5.cell,λ_=>aY ⟨id,_,a8.drew.cell,id,_,a8.drew.cell,_,rfl,id,y.ma,ac,ab.use ?_⟩,λhx=>(by cases hx)⟩;rintro _ bN ⟨rfl,b6,B,hg⟩;rw[aB]at hg;have cz:=(a5.ext Q).ad hg.to.ad (r.t.iC Z);have cA:bO T b6 w bN 60:=((bL.trans (bO.ext bH Q)).trans hg.to).mono I;obtain⟨f1,f2⟩:=fin bN b6 B.t cA (by rw[hg.E];exact d.E) λq c=>by rw[hg.G];exact bF q c
  refine⟨rfl,3,cz.cell,_,f1,f2,rfl,rfl,.inr (.inr ⟨rfl,a4,hg.root.trans d.root,hg.aD.trans d.aD,?_,λno ag=>?_⟩)⟩
  .funext no
   show b6.f no=T.f no;rw[hg.f,d.f];by_cases u:no∈m
   .have:=(d.iG no u).1
    have e:(T.cc bT j).f no=T.f no:=rfl;rw[e]at this⊢
    cases a9:T.f no
    .simp[u]
    .rw[a9]at this;cases this
   .simp[u];rfl
  .have u:no∉m:=λu=>by
    have:=(d.iG no u).1;have e:((T.cc bT j).f no||(T.cc bT j).g no)=(T.f no||T.g no):=rfl;rw[e,ag]at this;cases this
   have h1:=hg.ej no (.inl u);have k:=d.ej no ag;exact⟨h1.1.trans k.1,h1.2.trans k.2⟩
 .
  have S:∀x,pages.count x+l.count x=m.count x+aS.count x:=λx=>by
   have:=lU.1 bI x;simpa only[l4] using this
  have aI:∀x,m.count x+aS.count x<=1:=λx=>by
   have h1:=List.nodup_iff_count.1 d.bf x;have k:=List.nodup_iff_count.1 b5 x;rcases l3 (m.count x) with o|o
   .omega
   .rcases l3 (aS.count x) with M|M
    .omega
    .have u:=iO.1 o
     have cB:=iO.1 M;have:=(d.iG x u).1;have e:((T.cc bT j).f x||(T.cc bT j).g x)=(T.f x||T.g x):=rfl;rw[e,aL x cB]at this;cases this
  have hlen:pages.length+l.length=m.length+aS.length:=by
   have:=bI.length_eq;simpa only[cE] using this
  have cC:∀x∈l,bH.f x=true:=λx hx=>by
   have h1:=iO.2 hx;have k:=S x;rw[d.f];rcases l3 (m.count x) with o|o
   .have:x∈aS:=iO.1 I
    have e:(T.cc bT j).f x=T.f x:=rfl;rw[e,aL x this];rfl
   .have:x∈m:=iO.1 o
    simp[this]
  have cD:l.Nodup:=Ab λx=>by have:=S x;have:=aI x;omega
  obtain⟨av,F⟩:=dR aw (i:=0) (by simp);have A:=dX aw (i:=0) (0:Int);obtain⟨aE,aF⟩:=a2 L bH y 0 bx bA Z;have aa:=bz.ad (dx L ev 0 (0:Int)) a1;refine⟨_,_,0,rfl,av,F,aY ⟨0,A.cell,λhx=>(by cases hx),λ_=>aY ?_⟩⟩;generalize dp:L.setCell ev (0:Int)=bP at A aE aa aF⊢;have Q:Ext bP bP.drew:=cr _;have r:=aE.ext Q;have ab:=zZ r r.fK.src (λq c=>(r.jx q c).1) (l:=y.left) (λx hx=>cC x (by rw[aC]at hx;exact hx)) (by rw[aC];exact cD) (by rw[aC];omega);rw[ay]at ab;have ac:=r.cells.2.2;rw[ay]at ac;refine⟨id,_,aa.drew.cell,id,_,aa.drew.cell,_,rfl,id,y.fK,ac,ab.use ?_⟩;rintro _ R ⟨rfl,b6,B,hg⟩;rw[aC]at hg;have cF:=(A.ext Q).ad hg.to.ad (r.t.iC Z);have bQ:bO T b6 w R 60:=((aF.trans (bO.ext bH Q)).trans hg.to).mono I;have a_:b6.a6=T.a6:=bQ.a6;have bU:b6.E=bT:=by rw[hg.E];exact d.E
  have cG:b6.E ev:=by rw[bU];exact a0
  have bV:Var R T.a6 (jV b6) 239:=by rw[←a_];exact B.t.t
  obtain⟨bR,b3⟩:=dR bV (i:=3) (by simp[jV]);have bW:=dX bV (i:=3) root;have cI:=dx R T.a6 3 root;obtain⟨cJ,cK⟩:=dR bW (i:=4) (by simp[jV]);have bX:=dX bW (i:=4) p;have cL:=dx (R.setCell ⟨T.a6,3,none⟩ root) T.a6 4 p;refine⟨rfl,_,rfl,by rw[ax];exact bR,by rw[ax];exact b3,aY ⟨_,rfl,by rw[ax,ax];exact cJ,by rw[ax,ax];exact cK,aY ?_⟩⟩;rw[ax,ax,cH,cH];have ba:ae (λq=>q=T.a6) R ((R.setCell ⟨T.a6,3,none⟩ root).setCell ⟨T.a6,4,none⟩ p):=cI.trans cL;generalize dq:(R.setCell ⟨T.a6,3,none⟩ root).setCell ⟨T.a6,4,none⟩ p=aJ at bX ba⊢;have cN:∀x∈pages,x∉l:=λx hx hl=>by
   have h1:=iO.2 hx;have k:=iO.2 hl;have:=S x;have:=aI x;omega
  have bY:(p=0/\root=0/\pages=[]/\dz=[])\/(ek b6.P p none none root pages dz/\root∈pages):=ct.imp id λcP=>cP.agree λx hx=>((hg.ej x (.inl (cN x hx))).1).symm;have cQ:root<b6.n:=by
   rcases bY with ⟨_,h1,_⟩|⟨h1,_⟩
   .have:=B.t.s.bG;omega
   .obtain⟨bf,_,k,_⟩:=h1.js
    exact(B.t.dM _ _ k).1
  have cR:Var aJ b6.a6 (jV (b6.lV root p)) 239:=by rw[a_];exact bX
  obtain⟨cS,cT⟩:=B.t.E1 cR (by rw[a_];exact ba) cQ cu;have cU:ev≠T.a6:=λe=>by have:=h.lt (q:=T.a6) (.inr (.inl rfl));omega
  have bZ:=cF.ad ba cU;obtain⟨cV,cW⟩:=dR bZ (i:=0) (by simp);have b0:=dX bZ (i:=0) (0:Int);have b1:=dx aJ ev 0 (0:Int);refine⟨cV,cW,aY (af.yt ev eE _ _ ?_)⟩;(delta af.oa r1 al ak aT;dsimp only);refine⟨0,b0.cell,λhx=>(by cases hx),λ_=>⟨0,b0.cell,?_⟩⟩;have cX:bK (aJ.setCell ev (0:Int)) (b6.lV root p):=cS.grow (E:=b6.E) (G:=b6.G) b1 (λq e _=>.inl (by rw[e];exact cG)) (λq c=>.inl c) (λq c=>.inr (.inl c)) λq c=>(B.t.c2 q c).2.2;have cY:bO T (b6.lV root p) w (aJ.setCell ev (0:Int)) 60:=((bQ.trans cT).mono I).step (E:=b6.E) (G:=b6.G) b1 (λq e hl=>I) (λq c=>.inl c) λq c=>.inl c;obtain⟨f1,f2⟩:=fin _ _ cX cY bU λq c=>by
   show b6.G q;rw[hg.G];exact bF q c
  refine⟨_,f1,f2,rfl,rfl,.inr (.inl ⟨rfl,bj,⟨pages,?_,?_,Ab λx=>by have:=S x;have:=aI x;omega,λno hx=>?_,λno=>?_⟩,λno ag=>?_⟩)⟩
  .have h1:b7 bH+m.length=b7 T:=d.room
   have k:b7 bH<=b7 (b6.lV root p):=by
    show bH.n-_<=b6.n-eo (λi=>b6.f i||b6.g i) b6.n;rw[hg.to.n];have:=Aa (s:=λi=>b6.f i||b6.g i) (t:=λi=>bH.f i||bH.g i) (n:=bH.n) λi hi=>by
     rw[hg.f,hg.to.g]at hi;rw[hW,dO]at hi;rw[hW];exact hi.imp And.left id
    omega
   show b7 T<=b7 (b6.lV root p)+_;omega
  .rcases bY with ⟨h1,k,o,M⟩|⟨h1,_⟩
   .exact .inl ⟨h1,k,o,M⟩
   .exact .inr h1
  .have h1:=iO.2 hx
   have k:=S no;rcases l3 (aS.count no) with o|o
   .have u:no∈m:=iO.1 I
    exact .inr (d.iG no u).1
   .exact .inl (iO.1 o)
  .show b6.f no=true↔_
   rw[hg.f,d.f];have e:(T.cc bT j).f no=T.f no:=rfl;rw[e];have dr:=S no;have B:=aI no;have b2:no∈m↔0<m.count no:=iO.symm;have aj:no∈aS↔0<aS.count no:=iO.symm;have cZ:no∈l↔0<l.count no:=iO.symm;have c0:no∈pages↔0<pages.count no:=iO.symm;have c1:0<aS.count no->T.f no=true:=λh=>aL no (aj.2 h);have c4:0<m.count no->T.f no=false:=λh=>by
    have:=(d.iG no (b2.2 h)).1;have e:((T.cc bT j).f no||(T.cc bT j).g no)=(T.f no||T.g no):=rfl;rw[e]at this
    cases a9:T.f no
    .rfl
    .rw[a9]at this;cases this
   rw[dO,hW,cO,jY,jZ,b2,aj,cZ,c0];constructor
   .rintro⟨h1|h1,k⟩
    .by_cases o:0<aS.count no
     .left;omega
     .exact .inr ⟨h1,o⟩
    .left;omega
   .rintro(h1|⟨h1,k⟩)
    .refine⟨?_,I⟩
     by_cases o:0<aS.count no
     .exact .inl (c1 o)
     .right;omega
    .refine⟨.inl h1,λo=>?_⟩
     have:0<m.count no:=by omega
     rw[c4 this]at h1;cases h1
  .have c5:(T.f no||T.g no)=true:=by rw[ag];simp
   have c6:bH.g no=true:=by rw[d.to.g];exact ag
   have h1:=hg.ej no (.inr c6);have k:=d.ej no c5;exact⟨h1.1.trans k.1,h1.2.trans k.2⟩
theorem Ac{ks:O Key}{k:Key}{i:Nat}(hs:ks.Pairwise bU)(h1:cL ks k<=i)(hi:i<ks.length)(f:ks[cL ks k]? ≠some k):bU k ks[i]:=by
 rcases mM.1 (ow hs h1 hi) with a|a
 .exact a
 .exfalso
  rcases dJ (cL ks k) i with b|b
  .have c:cL ks k<ks.length:=by omega
   have g:=ow hs (br _) c;have d:=lh.1 hs _ _ c hi b;rw[←a]at d;exact g d
  .have e:i=cL ks k:=by omega
   apply f;subst e;rw[dD hi,←a]
theorem Ad{n:az}(h:gT n){i:Nat}(hi:i<=n.keys.length):∃a b c d:O Key,n.keys=a++b/\n.vals=c++d/\a.length=i/\c.length=i/\b.length=d.length/\n.keys.take i=a/\n.keys.drop i=b/\n.vals.take i=c/\n.vals.drop i=d:=by
 have hl:=h.len;refine⟨n.keys.take i,n.keys.drop i,n.vals.take i,n.vals.drop i,(gJ i _).symm,(gJ i _).symm,?_,?_,?_,rfl,rfl,rfl,rfl⟩
 .rw[cC];omega
 .rw[cC];omega
 .rw[c5,c5];omega
def jy(k v:Key):Nat:=2+k.length+v.length
theorem tV{n:az}(h:n.leaf=true):bx n=1+(List.zipWith jy n.keys n.vals).sum:=by
 unfold bx;rw[if_pos h,jO h];rfl
theorem E3{n:az}{k v:Key}(h:gT n)(C:cT k)(D:v.length<=24):gT (gr n k v)/\(gr n k v).fi=gb n.fi k v/\bx (gr n k v)<=bx n+50/\(gr n k v).keys≠ []/\n.keys.length<=(gr n k v).keys.length/\(∀s∈(gr n k v).keys,s=k\/s∈n.keys):=by
 have hlen:=h.len;have E:=p0 n.keys k;have K:n.fi=n.keys.zip n.vals:=rfl;have F:=h.e8;have G:∀ (j:Nat) (m:j<n.keys.length),j<cL n.keys k->bU n.keys[j] k:=λj m h1=>mO h1 m;have H:n.keys[cL n.keys k]? ≠some k->∀ (j:Nat) (m:j<n.keys.length),cL n.keys k<=j->bU k n.keys[j]:=λhe j m h1=>Ac F h1 m he;rw[K,C4 h.e8];unfold gr iB;generalize hi:cL n.keys k=i at E G H⊢;obtain⟨a,b,c,d,g,t,L,M,N,p,q,w,A⟩:=Ad h E;have f:n.keys.zip n.vals=a.zip c++b.zip d:=by rw[g,t];exact pZ I
 have u:(a.zip c).length=i:=by rw[nt];omega
 by_cases he:n.keys[i]? =some k
 .rw[if_pos (by simpa using he),if_pos he]
  have O:∃o,b=k::o:=by
   cases b with
   |nil=>rw[g,kA I]at he;simp at he
   |cons y o=>
    rw[g,kA I,L,nn]at he;simp at he;exact⟨o,by rw[he]⟩
  obtain⟨o,rfl⟩:=O;obtain⟨x,l,rfl⟩:∃x l,d=x::l:=by
   cases d with
   |nil=>simp at N
   |cons x l=>exact⟨x,l,rfl⟩
  have J:n.vals.set i v=c++v::l:=by
   rw[t,List.set_append_right _ _ I,M,nn];rfl
  refine⟨⟨⟨h.ok,h.e8⟩,h.leaf,by simp[hlen],h.kids,λz f=>?_⟩,?_,?_,λe=>by have e:n.keys=[]:=e;rw[e]at g;simp at g,br _,λs hs=>.inr hs⟩
  .rcases kB f with h1|h1
   .exact h.vals z h1
   .rw[h1];exact D
  .show n.keys.zip (n.vals.set i v)=_
   rw[J,f,g,pZ I,kU u];have P:(a.zip c++(k::o).zip (x::l)).drop (i+1)=o.zip l:=by
    rw[List.zip_cons_cons,show a.zip c++(k,x)::o.zip l=(a.zip c++ [(k,x)])++o.zip l by simp];exact drop_left' (by simp only[cE,u,hX])
   rw[P];rfl
  .rw[tV h.leaf,tV (n:={n with vals:=n.vals.set i v}) h.leaf]
   show 1+(List.zipWith jy n.keys (n.vals.set i v)).sum<=_;rw[J,g,t,qD I,qD I,lg,lg,List.zipWith_cons_cons,List.zipWith_cons_cons,List.sum_cons,List.sum_cons];unfold jy;omega
 .rw[if_neg (by simpa using he),if_neg he]
  have Q:=H he;refine⟨⟨⟨λz f=>?_,?_⟩,h.leaf,?_,h.kids,λz f=>?_⟩,?_,?_,λe=>?_,?_,λs hs=>?_⟩
  .have f:z∈n.keys.take i++ [k]++n.keys.drop i:=f
   simp only[cG,eX]at f;rcases f with (f|rfl)|f
   .exact h.ok z (eQ f)
   .exact C
   .exact h.ok z (eP f)
  .show(n.keys.take i++ [k]++n.keys.drop i).Pairwise bU
   rw[p,q];have R:(a++b).Pairwise bU:=by rw[←g];exact F
   obtain⟨av,B,S⟩:=nr.1 R;have T:∀x∈a,bU x k:=λx hx=>by
    obtain⟨j,m,rfl⟩:=eD hx;have:=G j (by rw[g,cE];omega) I;simp only[g,o4 m]at this;exact this
   have U:∀y∈b,bU k y:=λy r=>by
    obtain⟨j,m,rfl⟩:=eD r;have:=Q (i+j) (by rw[g,cE];omega) I;have e:(a++b)[i+j]'(by rw[cE];omega)=b[j]:=by
     rw[qJ I];congr 1;omega
    simp only[g,e]at this;exact this
   rw[cW];refine nr.2 ⟨av,?_,λx hx y r=>?_⟩
   .exact kx.2 ⟨U,B⟩
   .rcases cR.1 r with rfl|r
    .exact T x hx
    .exact S x hx y r
  .show(n.vals.take i++ [v]++n.vals.drop i).length=(n.keys.take i++ [k]++n.keys.drop i).length
   rw[p,q,w,A];simp only[cE,hX];omega
  .have f:z∈n.vals.take i++ [v]++n.vals.drop i:=f
   simp only[cG,eX]at f;rcases f with (f|rfl)|f
   .exact h.vals z (eQ f)
   .exact D
   .exact h.vals z (eP f)
  .show(n.keys.take i++ [k]++n.keys.drop i).zip (n.vals.take i++ [v]++n.vals.drop i)=_
   rw[p,q,w,A,f,kU u,drop_left' u,cW,cW,pZ I];rfl
  .rw[tV h.leaf,tV (n:={n with keys:=n.keys.take i++ [k]++n.keys.drop i,vals:=n.vals.take i++ [v]++n.vals.drop i}) h.leaf]
   show 1+(List.zipWith jy (n.keys.take i++ [k]++n.keys.drop i) (n.vals.take i++ [v]++n.vals.drop i)).sum<=_;have av:(List.zipWith jy (a++ [k]++b) (c++ [v]++d)).sum=(List.zipWith jy a c).sum+(jy k v+(List.zipWith jy b d).sum):=by
    rw[cW,cW,qD I,lg];rfl
   have B:(List.zipWith jy (a++b) (c++d)).sum=(List.zipWith jy a c).sum+(List.zipWith jy b d).sum:=by
    rw[qD I,lg]
   rw[p,q,w,A,g,t,av,B];have:=C.2;unfold jy;omega
  .have e:n.keys.take i++ [k]++n.keys.drop i=[]:=e
   simp at e
  .show n.keys.length<=(n.keys.take i++ [k]++n.keys.drop i).length
   rw[p,q,g];simp only[cE,hX];omega
  .have hs:s∈n.keys.take i++ [k]++n.keys.drop i:=hs
   simp only[cG,eX]at hs;rcases hs with (hs|rfl)|hs
   .exact .inr (eQ hs)
   .exact .inl rfl
   .exact .inr (eP hs)
def Ae(T:aK)(aS:O Nat)(dz:O aQ)(w:J)(v:aa)(w':J):Prop:=
 ∃aq:aK,bK w' aq/\bO T aq w w' 100/\aq.E=T.E/\aq.G=T.G/\
  ((v=.int .i64 2/\b7 T<2*T.aD+3/\aq=T)\/
   (v=.int .i64 0/\2*T.aD+3<=b7 T/\(∃pages,b7 T<=b7 aq+(2*T.aD+3)/\fL aq pages dz/\pages.Nodup/\(∀no∈pages,no∈aS\/(T.f no||T.g no)=false)/\∀no,aq.f no=true↔(no∈pages\/(T.f no=true/\no∉aS)))/\∀no,T.g no=true->aq.P no=T.P no/\aq.C.view no=T.C.view no)\/
   (v=.int .i64 3/\¬T.C.D.calm 100/\aq.root=T.root/\aq.aD=T.aD/\aq.f=T.f/\∀no,(T.f no||T.g no)=true->aq.P no=T.P no/\aq.C.view no=T.C.view no))
theorem tU.ad{T:aK}{aC:bN}{aS:O Nat}{dz:O aQ}{w w1 w':J}{v:aa}{k:Nat}(h:tU (T.bw aC T.P) aS dz w1 v w')(e:bO T (T.bw aC T.P) w w1 k)(s:k<=40)(f:∀j,aC.view j=T.C.view j)(i:2*T.aD+3<=b7 T):Ae T aS dz w v w':=by
 obtain⟨aq,h1,l,m,n,o⟩:=h;refine⟨aq,h1,(e.trans l).mono I,m,n,?_⟩;have p:b7 (T.bw aC T.P)=b7 T:=rfl;have q:(T.bw aC T.P).aD=T.aD:=rfl;rcases o with ⟨_,b,_⟩|⟨rfl,b,d,c⟩|⟨rfl,b,d,c,r,g⟩
 .rw[p,q]at b;omega
 .exact .inr (.inl ⟨rfl,i,d,λno a=>⟨(c no a).1,(c no a).2.trans (f no)⟩⟩)
 .exact .inr (.inr ⟨rfl,λhc=>b (e.calm 60 (fT hc I)),d,c,r,λno a=>⟨(g no a).1,(g no a).2.trans (f no)⟩⟩)
theorem mD(w:J)(s:Y):aH ai 141 #[s] w (λv w'=>v=.bool (decide (1<=s.len/\s.len<=24))/\w=w'):=by
 refine okF (af.mD s) ay.mD func141 ?_;unfold af.mD;refine⟨?_,rfl⟩
 congr 1
 rw[fm,dO,cO,cO,cO];omega
theorem Af{T:aK}{w:J}{pages:O Nat}{L:O aQ}{k:Key}(h:bK w T)(n:fL T pages L):∃steps,lT T.P k T.aD T.root steps/\
 ((steps=[]/\T.aD=0/\pages=[]/\L=[])\/(∃ (a:Nat) (bG:az) (b c:an Key) (d:O (Nat×az×Nat)) (i:O Nat) (f g:O aQ),steps=d++ [(a,bG,0)]/\Ctx T.P k T.aD 1 b c d i f g/\T.P a=some bG/\gT bG/\bG.within b c/\bG.keys≠ []/\(d≠ []->2<=bG.keys.length)/\eV b c k/\
   pages.Perm (a::i)/\L=f++(bG.fi++g)/\∀u,Loc k u->u L=f++(u bG.fi++g))):=by
 rcases n with ⟨h1,z,o,p⟩|j
 .exact⟨[],by rw[h1];rfl,.inl ⟨rfl,h1,o,p⟩⟩
 .cases l:T.aD with
  |zero=>rw[l]at j;exact j.elim
  |succ t=>
   rw[l]at j;obtain⟨rest,d,a,bG,b,c,i,f,g,r1,b4,ak,bt,a7,q,r,s,v,m,x,y⟩:=Ctx.down (P:=T.P) (k:=k) (top:=t+1) (bm:=L) .top j (λh=>absurd rfl h) ⟨λ_ e=>(by cases e),λ_ e=>(by cases e)⟩ (by simp) (λu _=>by simp);rw[j1]at b4;rw[fX]at m;exact⟨rest,r1,.inr ⟨a,bG,b,c,d,i,f,g,b4,ak,bt,a7,q,r,s,v,m,x,y⟩⟩
theorem fL.low{T:aK}{pages:O Nat}{L:O aQ}(h:fL T pages L)(d:L.length<4096):T.aD<12/\pages.length<=L.length:=by
 rcases h with ⟨h1,_,a,_⟩|b
 .rw[h1,a];exact⟨I,cI _⟩
 .obtain⟨av,e,c⟩:=b.pages
  refine⟨?_,av⟩;rcases dJ T.aD 12 with h|h
  .exact h
  .have f:=c I
   have g:2^12<=2^T.aD:=qF (by decide) h;have i:(2:Nat)^12=4096:=by decide
   omega
theorem E4{w1:J}{T:aK}{aC:bN}{pages:O Nat}{L dz:O aQ}{k:Key}{steps:O (Nat×az×Nat)}{s:Y}{a:O db}{bG b:az}{K V D:Y}(h:bK w1 (T.bw aC T.P))(R:¬aC.D.ro)(S:fL T pages L)(U:L.length<4096)(cS:pages.Nodup)(hf:∀x∈pages,T.f x=true)(o:aC.D.aO<=900000000)
 (g:a.map db.st=steps) (r:iY (λq=>¬(T.bw aC T.P).M q) w1 s a) (W:bp (λq=>¬(T.bw aC T.P).M q) w1 b K V D) (t:gT b) (X:(steps=[]/\T.aD=0/\pages=[]/\b.keys≠ []/\bx b<=232/\b.fi=dz)\/(∃ (d:Nat) (i j:an Key) (c:O (Nat×az×Nat)) (l:O Nat) (m n:O aQ),steps=c++ [(d,bG,0)]/\Ctx T.P k T.aD 1 i j c l m n/\b.within i j/\(c≠ []->b.keys≠ [])/\pages.Perm (d::l)/\dz=m++(b.fi++n)/\bx b<=282)):
 aH ai 150 #[.pointer (some T.a6),s,cM b K V D] w1 (tU (T.bw aC T.P) pages dz w1):=by
 obtain⟨u,ap⟩:=S.low U;refine E2 h R o u cS hf I λbT v ah aT w y Z z C=>?_;have aa:s.len=a.length:=by
  have:=r.own.1;rw[hT _ (m7 a)]at this;omega
 have E:bp (λq=>¬((T.bw aC T.P).cc bT v).M q) ah b K V D:=(y.bf (lo:=0) (W.aU λq _ p=>⟨cI _,p⟩)).aU λq _ p=>p.2;rcases X with ⟨h1,aq,ab,ac,ad,ae⟩|⟨d,i,j,c,l,m,n,F,G,af,ag,H,aj,ak⟩
 .subst h1 ab
  have al:a=[]:=by simpa using g
  exact E0 (by rw[aa,al];rfl) w E o (by
   have e:b7 ((T.bw aC T.P).cc bT v)=b7 (T.bw aC T.P):=rfl;omega) (by rw[z];simp) C t ac ad ae
 .have hlen:a.length=c.length+1:=by
   have:=congrArg List.length g;rw[F,dE,cE,hX]at this;exact this
  have ar:1+c.length=T.aD:=G.ef;have am:=r.to y;have N:(a.take (a.length-1)).map db.st=c/\(a[a.length-1]'I).no=d:=by
   rw[F]at g;have av:(a.take (a.length-1)).map db.st=(c++ [(d,bG,0)]).take (a.length-1):=by rw[←g,nu]
   refine⟨by rw[av];exact kU I,?_⟩;have Q:(a.map db.st)[a.length-1]? =some (d,bG,0):=by
    rw[g,kA I];have:a.length-1-c.length=0:=by omega
    rw[this];rfl
   rw[j3,dD I]at Q;have ao:=Option.some.inj Q;exact congrArg Prod.fst ao
  refine EZ (k:=k) (dt:=l) (A:=m) (B:=n) (M:=b.fi) (lo:=i) (hi:=j) w am E I (by show a.length=T.aD;omega) u o Z (by rw[z];simp) (by rw[C];simp) ?_ ⟨t,af,rfl,rfl⟩ aj.symm ?_ ak (λh=>ag λe=>?_) λx hx=>?_
  .rw[N.1]
   have:a.length=T.aD:=by omega
   rw[this];exact G
  .rw[N.2];exact H
  .rw[e]at hlen;simp at hlen;omega
  .exact hf x (H.mem_iff.2 (jb _ hx))
theorem iY.ext'{B C:Nat->Prop}{w w':J}{s:Y}{l:O db}(h:iY B w s l)(hx:Ext w w')(a:∀q,B q->C q):iY C w' s l:=
 ⟨h.own.ext hx,λq b=>a q (h.m8 q b),λx c=>((h.bf x c).ext hx).aU λq _ d=>a q d⟩
theorem tW{a:O db}{b:O (Nat×az×Nat)}{c:Nat}{bc:az}(d:a.map db.st=b++ [(c,bc,0)]):∃h:0<a.length,(a[a.length-1]'I).n=bc:=by
 have hlen:a.length=b.length+1:=by
  have:=congrArg List.length d;rw[dE,cE,hX]at this;exact this
 refine⟨I,?_⟩;have e:(a.map db.st)[a.length-1]? =some (c,bc,0):=by
  rw[d,kA I];have:a.length-1-b.length=0:=by omega
  rw[this];rfl
 rw[j3,dD I]at e;exact congrArg (λx=>x.2.1) (Option.some.inj e)
theorem E5{w:J}{T:aK}{pages:O Nat}{L:O aQ}{tk fG:Y}{key val:Key}(h:bK w T)(bb:¬T.C.D.ro)(Q:fL T pages L)(ap:L.length<4096)(cS:pages.Nodup)(hf:∀x∈pages,T.f x=true)(b8:T.C.D.aO<=800000000)
 (R:Src 1 w tk (aF key)) (S:∀q,aB tk q->q<w.heap.size/\¬T.M q) (aw:Src 1 w fG (aF val)) (bd:∀q,aB fG q->q<w.heap.size/\¬T.M q):
 aH ai 85 #[.pointer (some T.a6),tk,fG] w (λv w'=>(v=.int .i64 1/\¬(cT key/\val.length<=24)/\w=w')\/(cT key/\val.length<=24/\Ae T pages (gb L key val) w v w')):=by
 have be:=len8 R;have ax:=len8 aw;refine okF (af.sn (some T.a6) tk fG) ay.sn func85 ?_;(delta af.sn al aG r1 aA au bW cg U a7 ak pD nQ;dsimp only);refine cl (λb w'=>b= !(decide (cT key))/\w=w') (λq c=>⟨λh=>(by cases h),λ_=>(mD w tk).use ?_⟩) ?_
 .rintro _ _ ⟨rfl,rfl⟩
  refine⟨_,rfl,c _ _ ⟨?_,rfl⟩⟩;unfold cT;rw[be]
 rintro _ _ ⟨rfl,rfl⟩;refine⟨λd=>.inl ⟨rfl,λhg=>?_,rfl⟩,λd=>?_⟩
 .rw[dv hg.1,ax]at d
  have:¬(val.length:Int)>24:=by have:=hg.2;omega
  simp[this]at d
 have hg:cT key/\val.length<=24:=by
  by_cases h1:cT key
  .refine⟨h1,?_⟩
   rw[dv h1,ax]at d;have:¬(val.length:Int)>24:=by simpa using d
   omega
  .rw[gM h1]at d;simp at d
 have b_:=h.s.bc;obtain⟨ca,cb⟩:=Q.low ap;have aE:Ext w w.drew:=cr w;have hd:=h.ext aE;refine aY ⟨λ_=>False,_,rfl,id,_,hd.cells.2.1,_,rfl,id,_,hd.cells.2.2.2.2,(wg hd.s).use ?_⟩;rintro _ cc ⟨rfl,aI⟩;have bg:((T.n:Int)-eo (λi=>T.f i||T.g i) T.n)=(b7 T:Nat):=by
  have:=kZ (λi=>T.f i||T.g i) T.n;unfold b7;omega
 have bh:IntKind.wrap .i64 (IntKind.wrap .i64 (2*(T.aD:Int))+3)=((2*T.aD+3:Nat):Int):=by
  rw[bB (n:=2*(T.aD:Int)) I I,bB I I];omega
 rw[bg,bh];have o:=aE.trans aI;have W:=h.ext o;refine⟨_,rfl,aI,λd=>.inr ⟨hg.1,hg.2,T,W,(bO.ext T o).mono I,rfl,rfl,.inl ⟨rfl,?_,rfl⟩⟩,λd=>?_⟩
 .have d:((b7 T:Nat):Int)<((2*T.aD+3:Nat):Int):=cf d
  omega
 have bi:2*T.aD+3<=b7 T:=by
  have:¬((b7 T:Nat):Int)<((2*T.aD+3:Nat):Int):=cx d;omega
 obtain⟨steps,aJ,aL⟩:=Af (k:=key) W Q;refine(zQ W I (R.ext o) (λq c=>⟨fc (S q c).1 o.size,(S q c).2⟩) aJ).use ?_;rintro _ E ⟨aC,X,Z,aM,bl⟩;have y:=((bO.ext T o).trans Z).mono (l:=2*T.aD) I;rcases bl with ⟨s,a,rfl,m,aa⟩|⟨rfl,bm⟩
 rotate_left
 .refine⟨⟨none,0,0⟩,3,rfl,λ_=>.inr ⟨hg.1,hg.2,T.bw aC T.P,X,y.mono I,rfl,rfl,.inr (.inr ⟨rfl,λhc=>bm (fT hc I),rfl,rfl,rfl,λno _=>⟨rfl,aM no⟩⟩)⟩,λhx=>(by cases hx)⟩
 have cd:s.len=a.length:=by
  have:=aa.own.1;rw[hT _ (m7 a)]at this;omega
 have ce:=o.size;have ch:a.length=T.aD:=by
  have:=aJ.length;rw[←m,dE]at this;exact this
 refine⟨s,0,rfl,λhx=>(by cases hx),λ_=>bk (vs:=[false,(),(),()]) rfl λci aN bn cj=>⟨aN.b5 rfl (fp (b:=true) (K:=bu) (V:=bu) (D:=bu)),rfl,cn aN (us:=dL ⟨true,[],[],[]⟩ bu bu bu) rfl rfl λbq F bs ck=>?_⟩⟩;have ab:Ext E bq:=Ext.cv bn bs (br _);obtain⟨gv,bv⟩:∃gv,gv=E.heap.size:=⟨_,rfl⟩;rw[←bv]at F⊢
 obtain⟨bG,j⟩:∃bG:az,bG=(if cm:0<a.length then (a[a.length-1]'I).n else ⟨true,[],[],[]⟩):=⟨_,rfl⟩;refine jm (λp=>∃ (K V D:Y) (B:Nat->Prop),Ext E p/\Var p gv (dL bG K V D) 202/\bp B p bG K V D) (λq c=>⟨λhl=>?_,λhl=>?_⟩) ?_
 .have ac:0<a.length:=by
   have:(s.len:Int)>0:=cf hl;omega
  rw[dif_pos ac]at j;have e:IntKind.wrap .i64 ((s.len:Int)-1)=((a.length-1:Nat):Int):=by rw[bB I I];omega
  obtain⟨A,ar,_,_,_,hu⟩:=aa.at (i:=a.length-1) I;have G:=hu.ext ab;rw[e,du];subst j;refine⟨A,ar,⟨I,I⟩,_,G.aA,_,G.aT,_,G.aG,_,G.de,F.b5 rfl fp,rfl,cn F (us:=dL (a[a.length-1]'I).n (a[a.length-1]'I).K (a[a.length-1]'I).V (a[a.length-1]'I).D) rfl rfl λbz bA bE co=>?_⟩;have aP:Ext E bz:=Ext.cv ab bE I;exact c _ ⟨_,_,_,_,aP,bA,hu.bf.ext aP⟩
 .have ac:¬0<a.length:=by
   have:¬(s.len:Int)>0:=cx hl;omega
  rw[dif_neg ac]at j;subst j;exact c _ ⟨bu,bu,bu,λ_=>True,ab,F,ba.none _ _,ba.none _ _,cq.none _ _⟩
 rintro p ⟨K,V,D,B,H,bF,bH⟩;have cs:=H.size;have cu:=Z.ad.size
 have bI:gT bG/\bx bG<=232:=by
  rcases aL with ⟨h1,r,t,u⟩|⟨aR,bc,aS,aV,aW,aX,aZ,a0,b4,ak,bt,a7,a1,bJ,bL,a2,a3,bM,a4⟩
  .have ae:¬0<a.length:=by
    rw[h1]at m;have:a=[]:=by simpa using m
    rw[this];simp
   rw[j,dif_neg ae];exact⟨⟨⟨λ_ h=>(by cases h),List.Pairwise.nil⟩,rfl,rfl,rfl,λ_ h=>(by cases h)⟩,by decide⟩
  .rw[b4]at m
   obtain⟨av,ag⟩:=tW m;rw[j,dif_pos av,ag];exact⟨a7,h.qk _ _ bt⟩
 obtain⟨ah,cw⟩:=bI;have cy:=(cp.g9 (.inl ah) I);have cz:∀q,T.N q->q<w.heap.size:=λq c=>h.lt (aK.gu c);have bN:Src 1 p tk (aF key):=(R.ad y.ad λq c aj=>(S q c).2 (aK.gu aj)).ext H;have bP:Src 1 p fG (aF val):=(aw.ad y.ad λq c aj=>(bd q c).2 (aK.gu aj)).ext H;obtain⟨d0,d1,d2,d3⟩:=bC bF;refine⟨_,d0,K,d1,V,d2,D,d3,(n2 bH ah I bN bP hg.1 hg.2).use ?_⟩;rintro _ bQ ⟨ct,cA,b9,rfl,bR,bS⟩;refine⟨_,ct,cA,b9,true,rfl,bk (vs:=[false,(),(),()]) rfl λcB a5 bT cC=>⟨a5.b5 rfl fp,rfl,cn a5 (us:=dL (gr bG key val) ct cA b9) rfl rfl λa8 bU bV cD=>⟨λhx=>(by cases hx),λ_=>?_⟩⟩⟩;have a9:Ext bQ a8:=Ext.cv bT bV (br _);have am:=(H.trans bS).trans a9;obtain⟨d0,d1,d2,d3⟩:=bC bU;obtain⟨bo,bj,bX,an,bY,a_⟩:=E3 ah hg.1 hg.2;have bZ:aC.D.aO<=900000000:=by
  have:aC.D.aO<=T.C.D.aO+2*T.aD:=y.aO;omega
 have b0:bp (λq=>¬(T.bw aC T.P).M q) a8 (gr bG key val) ct cA b9:=(bR.ext a9).aU λq _ c b1=>by have:=X.lt b1;omega
 have b2:=E4 (dz:=gb L key val) (k:=key) (steps:=steps) (bG:=bG) (X.ext am) (λe=>bb λi=>Z.bD.1▸e i) Q ap cS hf bZ m (aa.ext' am λq c=>c.2) b0 bo (by
  rcases aL with ⟨h1,r,t,u⟩|⟨aR,bc,aS,aV,aW,aX,aZ,a0,b4,ak,bt,a7,a1,bJ,bL,a2,a3,bM,a4⟩
  .have ae:¬0<a.length:=by omega
   rw[dif_neg ae]at j;refine .inl ⟨h1,r,t,an,?_,?_⟩
   .have:bx bG=1:=by rw[j];rfl
    omega
   .rw[bj,j,u];rfl
  .rw[b4]at m
   obtain⟨av,ag⟩:=tW m;rw[dif_pos av,ag]at j;rw[j]at bj bX an bY a_⊢;refine .inr ⟨aR,aS,aV,aW,aX,aZ,a0,b4,ak,λs hs=>?_,λ_=>an,a3,?_,by have:=h.qk _ _ bt;omega⟩
   .rcases a_ s hs with rfl|ao
    .exact a2
    .exact a1 s ao
   .rw[bj];exact a4 (λL=>gb L key val) (CT key val))
 refine⟨_,d0,ct,d1,cA,d2,b9,d3,b2.use ?_⟩;intro v w' b3;have b6:=b3.ad (w:=w) ((y.trans (bO.ext (T.bw aC T.P) am)).mono (l:=40) I) (br _) aM bi;obtain⟨aq,h1,r,t,u,ao⟩:=b6;rcases ao with ⟨rfl,z⟩|⟨rfl,z⟩|⟨rfl,z⟩
 .exact⟨2,rfl,.inr ⟨hg.1,hg.2,aq,h1,r,t,u,.inl ⟨rfl,z⟩⟩⟩
 .exact⟨0,rfl,.inr ⟨hg.1,hg.2,aq,h1,r,t,u,.inr (.inl ⟨rfl,z⟩)⟩⟩
 .exact⟨3,rfl,.inr ⟨hg.1,hg.2,aq,h1,r,t,u,.inr (.inr ⟨rfl,z⟩)⟩⟩
theorem Ag{l:O aQ}{k:Key}(h:(fR l k).length=l.length):∀p∈l,p.1≠k:=by
 intro p a;unfold fR at h;have:=(ku (p:=λp:aQ=>decide (p.1≠k))).1 (List.Sublist.eq_of_length List.filter_sublist h);exact cf (this p a)
theorem E6{L A B M:O aQ}{k:Key}(b:L=A++(M++B))(hu:fR L k=A++(fR M k++B)):gC L k=gC M k:=by
 have h1:(fR A k).length<=A.length:=o7 _ _;have g:(fR B k).length<=B.length:=o7 _ _;have c:=congrArg List.length hu;rw[b,tf,tf]at c;simp only[cE]at c;have ar:=Ag (l:=A) (k:=k) I;have d:=Ag (l:=B) (k:=k) I;have e:A.find? (λp=>decide (p.1=k))=none:=iN.2 λp a=>by simpa using ar p a
 have f:B.find? (λp=>decide (p.1=k))=none:=iN.2 λp a=>by simpa using d p a
 unfold gC;rw[b,List.find?_append,List.find?_append,e,f];simp
theorem E7{n:az}{k:Key}(h:gT n):gC n.fi k=if iB n.keys k then n.vals[cL n.keys k]? else none:=by
 have s:=p0 n.keys k;have w:=h.e8;have t:∀ (j:Nat) (f:j<n.keys.length),j<cL n.keys k->bU n.keys[j] k:=λj f h1=>mO h1 f;have u:n.keys[cL n.keys k]? ≠some k->∀ (j:Nat) (f:j<n.keys.length),cL n.keys k<=j->bU k n.keys[j]:=λhe j f h1=>Ac w h1 f he;have l:n.fi=n.keys.zip n.vals:=rfl;unfold iB;rw[l];generalize cL n.keys k=i at s t u⊢;obtain⟨a,b,c,d,g,v,z,A,B,H,J,K,L⟩:=Ad h s;have C:n.keys.zip n.vals=a.zip c++b.zip d:=by rw[g,v];exact pZ I
 have D:(a.zip c).find? (λp:aQ=>decide (p.1=k))=none:=iN.2 λp l=>by
  have q:=(List.of_mem_zip l).1;obtain⟨j,f,r⟩:=eD q;have h1:=t j (by rw[g,cE];omega) I;simp only[g,o4 f,r]at h1;simpa using ou h1
 unfold gC;rw[C,List.find?_append,D];by_cases he:n.keys[i]? =some k
 .rw[if_pos (by simpa using he)]
  have E:∃m,b=k::m:=by
   cases b with
   |nil=>rw[g,kA I]at he;simp at he
   |cons y m=>
    rw[g,kA I,z,nn]at he;simp at he;exact⟨m,by rw[he]⟩
  obtain⟨m,rfl⟩:=E;obtain⟨x,o,rfl⟩:∃x o,d=x::o:=by
   cases d with
   |nil=>simp at B
   |cons x o=>exact⟨x,o,rfl⟩
  rw[v,kA I,A,nn];simp
 .rw[if_neg (by simpa using he)]
  have F:=u he;have G:(b.zip d).find? (λp:aQ=>decide (p.1=k))=none:=iN.2 λp l=>by
   have q:=(List.of_mem_zip l).1;obtain⟨j,f,r⟩:=eD q;have h1:=F (i+j) (by rw[g,cE];omega) I;have e:(a++b)[i+j]'(by rw[cE];omega)=b[j]:=by
    rw[qJ I];congr 1;omega
   simp only[g,e,r]at h1;have:=ou h1;simpa using λh=>this h.symm
  rw[G];rfl
def wC(T:aK)(L:O aQ)(key:Key)(w:J)(v:aa)(w':J):Prop:=
 ∃aC:bN,bK w' (T.bw aC T.P)/\bO T (T.bw aC T.P) w w' 30/\(∀j,aC.view j=T.C.view j)/\
  ((v=.tuple #[(),false,(0:Int)]/\(cT key->gC L key=none))\/
   (∃ (t:Y) (x:Key),v=.tuple #[t,true,(0:Int)]/\cT key/\gC L key=some x/\bg (λq=>¬(T.bw aC T.P).M q) w' t x)\/
   (v=.tuple #[(),false,(3:Int)]/\cT key/\¬T.C.D.calm 30))
theorem Ah{w:J}{T:aK}{pages:O Nat}{L:O aQ}{tk:Y}{key:Key}(h:bK w T)(W:fL T pages L)(aW:T.C.D.aO<=800000000)(l:Src 1 w tk (aF key))(v:∀q,aB tk q->q<w.heap.size/\¬T.M q):
 aH ai 80 #[.pointer (some T.a6),tk] w (wC T L key w):=by
 have X:=len8 l;have aX:=h.num.2.1;have aY:T.bw T.C T.P=T:=rfl;refine okF (af.si (some T.a6) tk) ay.si func80 ?_;(delta af.si al aG bW au a7 ak cg U j9 aI;dsimp only);refine cl (λb w'=>b= !(decide (cT key))/\w=w') (λq m=>⟨λh=>(by cases h),λ_=>(mD w tk).use ?_⟩) ?_
 .rintro _ _ ⟨rfl,rfl⟩
  refine⟨_,rfl,m _ _ ⟨?_,rfl⟩⟩;unfold cT;rw[X]
 rintro _ _ ⟨rfl,rfl⟩;refine⟨λf=>⟨λh=>(by cases h),λ_=>?_⟩,λf=>?_⟩
 .have:¬cT key:=by simpa using f
  exact⟨T.C,h,(bO.refl T w).mono I,λ_=>rfl,.inl ⟨rfl,λhx=>absurd hx this⟩⟩
 have hg:cT key:=by simpa using f
 obtain⟨steps,x,y⟩:=Af (k:=key) h W;refine(zQ h I l v x).use ?_;rintro _ Z ⟨aC,n,g,j,aa⟩;rcases aa with ⟨s,a,rfl,d,z⟩|⟨rfl,ab⟩
 rotate_left
 .exact⟨⟨none,0,0⟩,3,rfl,λ_=>⟨aC,n,g.mono I,j,.inr (.inr ⟨rfl,hg,λhc=>ab (fT hc I)⟩)⟩,λhx=>(by simp at hx)⟩
 have aZ:s.len=a.length:=by
  have:=z.own.1;rw[hT _ (m7 a)]at this;omega
 have a0:a.length=T.aD:=by
  have:=x.length;rw[←d,dE]at this;exact this
 refine⟨s,0,rfl,λhx=>⟨aC,n,g.mono I,j,.inl ⟨rfl,λ_=>?_⟩⟩,λhx=>?_⟩
 .have ac:a.length=0:=by
   have:(s.len:Int)=0:=by simpa using hx
   omega
  rcases y with ⟨_,_,_,ae⟩|⟨ag,bc,ah,aj,am,an,ao,ap,b4,_⟩
  .rw[ae];rfl
  .rw[b4]at d
   obtain⟨av,_⟩:=tW d;omega
 have ac:0<a.length:=by
  have:¬(s.len:Int)=0:=by simpa using hx
  omega
 have e:IntKind.wrap .i64 ((s.len:Int)-1)=((a.length-1:Nat):Int):=by rw[bB I I];omega
 obtain⟨A,ar,_,_,_,hu⟩:=z.at (i:=a.length-1) I;rcases y with ⟨h1,_⟩|⟨ag,bc,ah,aj,am,an,ao,ap,b4,ak,bt,a7,a1,a2,a3,a4,a5,aq,aw⟩
 .rw[h1]at d
  have:=congrArg List.length d;simp at this;omega
 have B:=d;rw[b4]at B;obtain⟨av,E⟩:=tW B;rw[e,du];generalize a8:(a[a.length-1]'I)=u at hu E;obtain⟨a9,un,a_,K,V,D⟩:=u;obtain rfl:un=bc:=E;refine⟨A,ar,⟨I,I⟩,_,hu.aA,K,hu.aT,V,hu.aG,D,hu.de,bk (vs:=[false,(),(),()]) rfl λbb F ax bd=>⟨F.b5 rfl fp,rfl,cn F (us:=dL un K V D) rfl rfl λo G az be=>?_⟩⟩;have p:Ext Z o:=Ext.cv ax az (br _);obtain⟨d0,d1,d2,d3⟩:=bC G;have bh:=(cp.g9 (.inl a7) (by have:=h.qk _ _ bt;omega));have aE:Src 1 o tk (aF key):=(l.ad g.ad λq m aJ=>(v q m).2 (aK.gu aJ)).ext p;have H:bp (λq=>w.heap.size<=q/\¬(T.bw aC T.P).M q) o un K V D:=hu.bf.ext p;refine⟨_,d0,K,d1,V,d2,D,d3,(n1 H aE a7.e8 I).use ?_⟩;rintro _ aL ⟨rfl,r⟩;have N:=p.trans r;have Q:=n.ext N;have R:bO T (T.bw aC T.P) w aL 30:=(g.trans (bO.ext _ N)).mono I;have t:gC L key=gC un.fi key:=E6 aq (aw (λL=>fR L key) (CU key));rw[E7 a7]at t;refine⟨_,_,rfl,λc=>⟨aC,Q,R,j,.inl ⟨rfl,λ_=>?_⟩⟩,λc=>?_⟩
 .have c:iB un.keys key=false:=by simpa using c
  rw[t,if_neg (by rw[c];simp)]
 .have c:iB un.keys key=true:=by simpa using c
  have aM:cL un.keys key<un.keys.length:=(jA.1 (cf c)).1;have S:cL un.keys key<un.vals.length:=by rw[a7.len];exact aM
  obtain⟨f0,f1,f2,f3⟩:=bC (G.ext r);obtain⟨aN,fG,aP,aR,aS,aV,_⟩:=ba.at (H.ext r).vals S;refine⟨V,f2,aN,aP,aR,fG,aS,aC,Q,R,j,.inr (.inl ⟨fG,un.vals[cL un.keys key],rfl,hg,?_,bg.aU aV λq _ f=>f.2⟩)⟩;rw[t,if_pos c,dD S]
structure ql(T aq:aK):Prop where
 root:aq.root=T.root
 aD:aq.aD=T.aD
 f:aq.f=T.f
 ej:∀no,(T.f no||T.g no)=true->aq.P no=T.P no/\aq.C.view no=T.C.view no
theorem ql.bw{T:aK}{aC:bN}(a:∀j,aC.view j=T.C.view j):ql T (T.bw aC T.P):=⟨rfl,rfl,rfl,λno _=>⟨rfl,a no⟩⟩
structure E8(T aq:aK)(aS:O Nat)(dz:O aQ):Prop where
 ok:∃pages,b7 T<=b7 aq+(2*T.aD+3)/\fL aq pages dz/\pages.Nodup/\(∀no∈pages,no∈aS\/(T.f no||T.g no)=false)/\∀no,aq.f no=true↔(no∈pages\/(T.f no=true/\no∉aS))
 ej:∀no,T.g no=true->aq.P no=T.P no/\aq.C.view no=T.C.view no
theorem ql.ok{T aq:aK}{pages:O Nat}{L:O aQ}(h:ql T aq)(a:fL T pages L)(hf:∀x∈pages,T.f x=true):fL aq pages L:=by
 unfold fL at a⊢;rw[h.root,h.aD];rcases a with a|b
 .exact .inl a
 .exact .inr (ek.agree b λx hx=>(h.ej x (by rw[hf x hx];rfl)).1.symm).1
def E9(p:Y×Y):O aa:=[p.1,p.2]
def m_(B:Nat->Prop)(w:J)(ps:O (Y×Y))(L:O aQ):Prop:=ps.length=L.length/\∀i (h1:i<ps.length) (a:i<L.length),bg B w ps[i].1 L[i].1/\bg B w ps[i].2 L[i].2
def lW(B:Nat->Prop)(w:J)(s:Y)(L:O aQ):Prop:=∃ps,Src 2 w s (b1 E9 ps)/\s.len<=s.cap/\In B w s/\m_ B w ps L
section
variable {B C W:Nat->Prop}{w w':J}{s:Y}{ps:O (Y×Y)}{L:O aQ}
theorem m_.ad(h:m_ B w ps L)(hc:ae W w w')(d:∀k,B k->k<w.heap.size->¬W k):m_ B w' ps L:=
 ⟨h.1,λi h1 e=>by
  obtain⟨a,b⟩:=h.2 i h1 e
  exact⟨bg.hO a hc λk c=>d k (a.2.2 k c).1 (a.2.2 k c).2,bg.hO b hc λk c=>d k (b.2.2 k c).1 (b.2.2 k c).2⟩⟩
theorem m_.aU(h:m_ B w ps L)(a:∀k,k<w.heap.size->B k->C k):m_ C w ps L:=⟨h.1,λi h1 b=>⟨bg.aU (h.2 i h1 b).1 a,bg.aU (h.2 i h1 b).2 a⟩⟩
theorem lW.ad(h:lW B w s L)(hc:ae W w w')(b:∀k,B k->k<w.heap.size->¬W k):lW B w' s L:=by
 obtain⟨ps,h1,d,a,e⟩:=h;exact⟨ps,h1.ad hc λk c=>b k (a k c).1 (a k c).2,d,In.ad a hc,e.ad hc b⟩
theorem lW.aU(h:lW B w s L)(a:∀k,k<w.heap.size->B k->C k):lW C w s L:=by
 obtain⟨ps,h1,b,c,d⟩:=h;exact⟨ps,h1,b,In.aU c a,d.aU a⟩
end
structure dS(T aq:aK)(w w':J)(k:Nat):Prop where
 to:bO T aq w w' k
 E:aq.E=T.E
 G:∀q,T.G q->aq.G q
 root:aq.root=T.root
 aD:aq.aD=T.aD
 f:aq.f=T.f
 P:aq.P=T.P
 view:∀j,aq.C.view j=T.C.view j
theorem dS.refl(T:aK)(w:J):dS T T w w 0:=⟨.refl _ _,rfl,λ_ h=>h,rfl,rfl,rfl,rfl,λ_=>rfl⟩
theorem dS.ext{w w':J}(T:aK)(h:Ext w w'):dS T T w w' 0:=⟨.ext T h,rfl,λ_ h=>h,rfl,rfl,rfl,rfl,λ_=>rfl⟩
theorem dS.trans{T aq b:aK}{w w' c:J}{k l:Nat}(h1:dS T aq w w' k)(a:dS aq b w' c l):dS T b w c (k+l):=
 ⟨h1.to.trans a.to,a.E.trans h1.E,λq h=>a.G q (h1.G q h),a.root.trans h1.root,a.aD.trans h1.aD,a.f.trans h1.f,a.P.trans h1.P,λj=>(a.view j).trans (h1.view j)⟩
theorem dS.mono{T aq:aK}{w w':J}{k l:Nat}(h:dS T aq w w' k)(hl:k<=l):dS T aq w w' l:=⟨h.to.mono hl,h.E,h.G,h.root,h.aD,h.f,h.P,h.view⟩
theorem dS.bw{T:aK}{aC:bN}{w w':J}{k:Nat}(h:bO T (T.bw aC T.P) w w' k)(a:∀j,aC.view j=T.C.view j):dS T (T.bw aC T.P) w w' k:=⟨h,rfl,λ_ h=>h,rfl,rfl,rfl,rfl,a⟩
theorem bO.out{T aq:aK}{w w':J}{k q:Nat}(h:bO T aq w w' k)(b:q<w.heap.size)(c:¬T.M q):¬aq.M q/\q<w'.heap.size:=by
 refine⟨λh1=>?_,fc b h.ad.size⟩;rcases h.cN q h1 with a|a
 .exact c a
 .omega
section
variable {w w':J}{T aq:aK}{lo aE:Nat}{s:Y}{L:O aQ}
end
section
variable {w w':J}{T aq:aK}{a6 aR ed:Nat}{GD GF:Y}{to fr:Key}{most:Int}
end
theorem bO.jS{T aq:aK}{w w':J}{k:Nat}(h:bO T aq w w' k){n:az}{K V D:Y}(b:bp (λq=>¬T.M q) w n K V D):bp (λq=>¬aq.M q) w' n K V D:=
 (h.bf (lo:=0) (b.aU λ_ _ a=>⟨cI _,a⟩)).aU λ_ _ a=>a.2
def iZ(T:aK)(no:Nat):Prop:=(no<T.n/\2<=no)/\∃e,dh (no:Int) (T.C.view no)=.error e
theorem E_{w:J}{T:aK}{no:Nat}{o:az}(h:bK w T)(s:T.C.D.aO<=999999999)(d:T.P no=some o\/iZ T no):
 aH ai 196 #[.pointer (some T.a6),no,o.leaf] w (λv w'=>∃aC:bN,dS T (T.bw aC T.P) w w' 2/\bK w' (T.bw aC T.P)/\ae (λq=>T.N q/\¬T.G q) w w'/\
  ((∃ (K V D:Y),v=.tuple #[cM o K V D,(0:Int)]/\T.P no=some o/\bp (λq=>w.heap.size<=q/\¬(T.bw aC T.P).M q) w' o K V D)\/(∃e:Int,v=.tuple #[cM jS bu bu bu,e]/\e≠0/\((e=3/\¬T.C.D.calm 2)\/iZ T no)))):=by
 have f:no<T.n:=d.elim (λh1=>(h.dM no o h1).1) λh1=>h1.1.1;have g:2<=no:=d.elim (λh1=>(h.dM no o h1).2.two) λh1=>h1.1.2;obtain⟨bT,i⟩:∃bT,bT=λq=>T.E q\/T.G q:=⟨_,rfl⟩;have c:∀q,T.E q\/T.G q->bT q:=λq a=>by rw[i];exact a
 have j:∀q,bT q->T.E q\/T.G q:=λq a=>by rw[i]at a;exact a
 have k:bK w (T.cc bT λ_=>False):=h.grow (W:=λ_=>False) (ae.refl _ _) (λ_ h=>h.elim) (λq a=>(j q a).imp id .inl) (λ_ h=>h.elim) λ_ _ h=>h;have t:∀q,(T.cc bT λ_=>False).N q->T.N q/\¬T.G q:=λq a=>⟨by
  rcases a with a|a|a|a
  .exact .inl a
  .exact .inr (.inl a)
  .exact .inr (.inr (.inl a))
  .exact a.elim,λhg=>k.iC (c q (.inr hg)) a⟩
 refine(wi k s f g o.leaf).mono ?_;rintro v w' ⟨aC,u,ht,x,y⟩;have z:bO T (T.bw aC T.P) w w' 2:=bO.read (E:=bT) ht c λq a=>(j q a).imp id .inl;have A:ae (λq=>T.N q/\¬T.G q) w w':=ht.ad.mono λq _ a=>t q a;refine⟨aC,.bw z x,?_,A,?_⟩
 .exact u.grow (E:=T.E) (G:=T.G) (W:=λ_=>False) (ae.refl _ _) (λ_ h=>h.elim) (λq a=>.inl (c q (.inl a))) (λq a=>.inl (c q (.inr a))) λq a=>(h.c2 q a).2.2
 .rcases y with ⟨bc,K,V,D,rfl,l,cS⟩|⟨e,rfl,B,F⟩
  .have m:T.P no=some o:=d.resolve_right λ⟨_,e,h1⟩=>by
    obtain⟨p,av,_⟩:=l;have h1:dh (no:Int) (T.C.view no)=.error e:=h1;have av:dh (no:Int) (T.C.view no)=.ok p:=av;rw[h1]at av;cases av
   obtain rfl:=fU.uniq (h.dM no o m).2 l;refine .inl ⟨K,V,D,rfl,m,cS.aU λq a r=>⟨r.1,λb=>r.2 ?_⟩⟩;rcases b with b|b|b|b|b
   .exact .inl b
   .exact .inr (.inl b)
   .exact .inr (.inr (.inl b))
   .exact .inr (.inr (.inr (.inl (c q (.inl b)))))
   .exact .inr (.inr (.inr (.inl (c q (.inr b)))))
  .refine .inr ⟨e,rfl,F,?_⟩
   rcases B with h1|h1|⟨_,_,h1⟩
   .exact .inl h1
   .exact .inr ⟨⟨f,g⟩,e,h1⟩
   .exact d.elim (λH=>absurd (h.dM no o H).2 (h1 o)) .inr
theorem Ai{w:J}{T:aK}(h:bK w T):aH ai 147 #[.pointer (some T.a6)] w (λv w'=>v=.tuple #[T.root,T.aD]/\Ext w w'):=by
 refine okF (af.sJ (some T.a6)) ay.sJ func147 ?_;(delta af.sJ al r1;dsimp only);have hd:=h.ext (cr w);exact⟨λh=>(by cases h),λ_=>aY ⟨_,rfl,id,_,hd.cells.2.2.2.1,_,rfl,id,_,hd.cells.2.2.2.2,rfl,cr w⟩⟩
end Go.Proofs.YtkdhdlfonmgheaaGreat
