/- Contracts of the functions that the statement reaches, and the plain laws over them; each theorem stands with its conditions. -/
import Derived.OpenShut
import Derived.Test.YtkdhdlfonmgheaaGreatRows
import Derived.Test.YtkdhdlfonmgheaaGreatBNone2
namespace Go.Proofs.YtkdhdlfonmgheaaGreat
open Go aX Go.Proofs.Tryz
theorem ze:∀ (l:O aa) (k:Nat) (a:Array aa),(l.zipIdx k).foldl (λcs (p:aa×Nat)=>cs.setIfInBounds p.2 p.1) a=fY a k l
 | [],_,_=>rfl
 |v::l,k,a=>by
  rw[List.zipIdx_cons,List.foldl_cons]
  exact ze l (k+1) (a.setIfInBounds k v)
theorem zf{P:Program}{T e:TypeId}{d:TypeDesc}{i:TypeInfo}{z:aa}{sz:Nat}{cs:Array aa}(w:J)(h1:P.underlying T=some (.slice e))(f:P.underlying e=some d)(g:P.cellsOf e=sz)(hi:P.info? e=some i)(h:i.zero=some z)(a:cs.size=sz)(q:sz≠0)(r:sz<=16777216):
 Sem.run P (Instr.buildSlice T 1 #[(0,.agg cs)]) w=.ok (.slice (some w.heap.size) 1 1) (w.alloc (.cells cs e)):=by
 have b:=gx (P:=P) (w:=w) f;rw[g]at b;have k:Instr.fill (λi=>some (i*sz,sz)) ((Array.range (1*sz)).map λx=>z.cells[x%z.cells.size]!) [(0,.agg cs)]=some cs:=by
  have hc:(Value.agg cs).cells=cs:=rfl;rw[Instr.fill];simp only[hc];rw[if_neg (by simp[a]),Instr.fill];rw[←Array.foldl_toList,Array.toList_zipIdx];have e:(λ(cs:Array aa) (x:aa×Nat)=>match x with|(c,j)=>cs.setIfInBounds (0*sz+j) c)=λcs (p:aa×Nat)=>cs.setIfInBounds p.2 p.1:=by
   funext cs x;obtain⟨c,j⟩:=x;simp
  rw[e,ze]
  congr 1
  apply Array.toList_inj.1;rw[ly _ _ _ (by simp[a])];simp[a]
 have l:=l7 (w:=w) hi;have m:¬(1*sz>2^24):=by
  have:(2:Nat)^24=16777216:=rfl;omega
 have n:¬(1*sz=0):=by omega
 have o:Instr.fill (λi=>some (i*sz,sz)) ((Array.range (1*sz)).map λx=>z.cells[x%z.cells.size]!) (#[(0,Value.agg cs)]:Array (Nat×aa)).toList=some cs:=k;simp only[Instr.buildSlice,Sem.run_bind,cP h1,b,Result.andThen,m,n,if_false,zeroValue,l,h,Sem.run_pure,o];simp[newRow,newObj,Sem.run]
theorem zg(w:J)(l:cF)(hl:l.length=256):
 Sem.run ai (Instr.buildSlice 136 1 #[(0,.agg (aF l).toArray)]) w=.ok (.slice (some w.heap.size) 1 1) (w.alloc (.cells (aF l).toArray 182)):=by
 have h:((Tryz.prog.info? 182).bind (·.zero)).isSome=true:=by kernel_rfl
 obtain⟨z,a⟩:=nj.1 h;obtain⟨i,hi,b⟩:=tG a;exact zf (d:=.array 256 5) (sz:=256) w (by kernel_rfl) (by kernel_rfl) (by kernel_rfl) hi b (by rw[qM,dI,hl]) (by decide) (by decide)
theorem DO:hF ai 136 182 256 256:=⟨by kernel_rfl⟩
def aV.put(D:aV)(i:Nat)(s:Y)(l:cF):aV:=
 {D.b_ 2 with waits:=⟨i,s,D.da i++ [l]⟩::D.waits.filter (λx=>x.i !=i),writes:=IntKind.wrap .i64 (D.writes+1),aO:=D.aO+1}
theorem zh{D:aV}{i j:Nat}(h:j≠i):(D.waits.filter λx=>x.i !=i).find? (λx=>x.i==j)=D.waits.find? λx=>x.i==j:=by
 rw[List.find?_filter]
 congr 1
 funext x;by_cases e:x.i=j
 .rw[e];simp[h]
 .simp[e]
theorem zi(D:aV)(i:Nat)(s:Y)(l:cF)(j:Nat):(D.put i s l).da j=if j=i then D.da i++ [l] else D.da j:=by
 unfold aV.da aV.put;by_cases h:j=i
 .subst h
  simp[aV.da]
 .rw[if_neg h]
  simp only;rw[List.find?_cons_of_neg (by simp;omega),zh h]
theorem m3(D:aV)(i:Nat)(s:Y)(l:cF)(j:Nat):(D.put i s l).now j=if j=i then l else D.now j:=by
 unfold aV.now aV.put;by_cases h:j=i
 .subst h
  simp
 .rw[if_neg h]
  simp only;rw[List.find?_cons_of_neg (by simp;omega),zh h];rfl
def zj(D:aV)(i:Nat)(l:cF)(w:J)(v:aa)(w':J):Prop:=
 (D.e_ 2=true/\v=.int .i64 3/\cj w' (D.b_ 2)/\ae (λq=>q=D.d) w w')\/
 (D.e_ 2=false/\v=.int .i64 0/\∃s:Y,cj w' (D.put i s l)/\ae (bF D) w w'/\∀q,aB s q->bF D q\/w.heap.size<=q)
theorem tJ{w:J}{D:aV}{b:Y}{l:cF}(h:cj w D){i:Nat}(hi:i<D.n)(bg:D.aO<=1000000000)(X:Src 1 w b (aF l))(hl:l.length=256)(hd:∀q,aB b q->¬bF D q):
 aH ai 75 #[.pointer (some ⟨D.d,0,none⟩),.int .i64 ((i:Nat):Int),.slice b.a b.len b.cap] w (zj D i l w):=by
 have aA:=len8 X;have bi:=h.bc;refine okF (af.sg (some ⟨D.d,0,none⟩) ((i:Nat):Int) b) ay.sg func75 ?_;(delta af.sg aG al u3 r1 st au;dsimp only);refine(zc h _).use ?_;rintro _ _ ⟨rfl,rfl⟩;have aS:decide (0<=(i:Int)/\(i:Int)<D.n)=true:=dv ⟨I,I⟩;refine⟨_,rfl,λh1=>?_,λ_=>⟨_,rfl,(vQ h (k:=2) (by decide)).use ?_⟩⟩
 .rw[aS,aA,hl]at h1
  simp at h1
 rintro _ ah ⟨rfl,H,Z,bj⟩;refine⟨_,rfl,λac=>.inl ⟨ac,rfl,H,Z⟩,λac=>aY ?_⟩;obtain⟨p,hold⟩:∃p:Y,(match D.waits.find? λx=>x.i==i with|some x=>x.s|none=>⟨none,0,0⟩)=p:=⟨_,rfl⟩;have t:=H.ext (cr ah);have aT:Src 1 ah.drew b (aF l):=(X.ad Z λq f e=>hd q f (.inl e)).ext (cr ah)
 have aU:aZ 256 182 ah.drew p (b1 aF (D.da i))/\(∀q,aB p q->bF D q/\q≠D.d/\q≠D.lb/\q≠D.mr)/\(∀x∈D.waits,x.i≠i->∀q,aB x.s q->¬aB p q)/\(D.da i).length<=D.aO/\(∀s∈D.da i,s.length=256)/\
  ∀w':J,dP w' D.mr encZ (D.waits.map gl.e)->Sem.run ai (Instr.lookup 137 (.map (some D.mr)) (.int .i64 ((i:Nat):Int)) false) w'=.ok (.slice p.a p.len p.cap) w':=by
  cases hf:D.waits.find? λx=>x.i==i with
  |some x=>
   rw[hf]at hold;have hold:x.s=p:=hold;subst hold;have hx:=iq hf;have S:x.i=i:=by
    have:=je hf;exact eq_of_beq this
   have e:D.da i=x.fA:=by unfold aV.da;rw[hf]
   rw[e];refine⟨t.ws x hx,λq f=>⟨.inr (.inr (.inr ⟨x,hx,f⟩)),λe=>(h.a2 x hx).1 (e▸f),λe=>(h.a2 x hx).2.1 (e▸f),λe=>(h.a2 x hx).2.2 (e▸f)⟩,λy r z=>h.a3 y r x hx I,(h.wn x hx).2.2,h.jv x hx,λw' K=>K.uT mZ ki (k:=(i:Int)) (v:=.slice x.s.a x.s.len x.s.cap) (dZ.2 ⟨x,hx,by unfold gl.e;rw[S]⟩) false⟩
  |none=>
   rw[hf]at hold;have hold:(⟨none,0,0⟩:Y)=p:=hold;subst hold;have e:D.da i=[]:=by unfold aV.da;rw[hf]
   rw[e];obtain⟨bk,h1,L⟩:=tG zb;refine⟨aZ.none _ _ _,λq f=>(gi q f).elim,λx _ _ q _ f=>(gi q f).elim,cI _,λs hs=>(by cases hs),λw' K=>K.ye mZ ki (k:=(i:Int)) h1 L (λv ag=>?_) false⟩;obtain⟨x,hx,he⟩:=dZ.1 ag;have aX:=iN.1 hf x hx;unfold gl.e at he;simp only[Prod.mk.injEq]at he;apply aX;have:x.i=i:=by omega
   rw[this];simp
 obtain⟨aC,B,aD,bm,aE,aI⟩:=aU;obtain⟨A,ar,a0⟩:∃A,b.a=some A/\cy ah.drew A 0 256=some (aF l):=by
  cases aJ:b.a with
  |none=>
   have:=congrArg List.length (X.nil aJ);rw[dI,hl]at this
   cases this
  |some A=>
   refine⟨A,rfl,?_⟩;have:=aT.rd A aJ;rwa[aA,hl]at this
 have a4:¬aB p A.block:=λf=>hd _ ⟨A,ar,rfl⟩ (B _ f).1
 have aK:∀C:J,Ext ah.drew C->∃ (g:Y) (j:J),Sem.run ai (Builtin.append_ #[136,136] 136 #[.slice p.a p.len p.cap,.slice (some ⟨C.heap.size,0,none⟩) 1 1]) (C.alloc (.cells (aF l).toArray 182))=.ok (.slice g.a g.len g.cap) j/\
  aZ 256 182 j g (b1 aF (D.da i++ [l]))/\ae (aB p) C j/\(∀k,aB g k->aB p k\/C.heap.size<=k)/\ae (aB p) (C.alloc (.cells (aF l).toArray 182)) j:=by
  intro C a5;have hlen:p.len=(D.da i).length:=by
   have:=aC.1;rw[hT (c:=aF) (sz:=256) _ λs hs=>by rw[dI];exact aE s hs]at this;omega
  have aj:=er C (.cells (aF l).toArray 182);obtain⟨g,j,av,F,E,M,N⟩:=DO.append (dG:=136) (x:=⟨some ⟨C.heap.size,0,none⟩,1,1⟩) (Src.new (T:=182) C (aF l) 1 (by rw[dI,hl])) (aC.ext (a5.trans aj)) (kS l) (by rw[hlen];show(2*(_+1)+1000)*256<=_;omega);refine⟨g,j,av,?_,(ae.cJ aj).trans M,λk a6=>(N k a6).imp id λh=>?_,M⟩
  .rw[p9]
   have:b1 aF [l]=aF l:=by simp[b1]
   rw[this];exact F
  .have:=aj.size;omega
 have aL:∀ (j:J) (g:Y),dP j D.mr encZ (D.waits.map gl.e)->∃o:J,Sem.run ai (Instr.mapUpdate 137 (.map (some D.mr)) (.int .i64 ((i:Nat):Int)) (.slice g.a g.len g.cap)) j=.ok () o/\ae (λq=>q=D.mr) j o/\
  dP o D.mr encZ ((gl.mk i g (D.da i++ [l])::D.waits.filter λx=>x.i !=i).map gl.e):=by
  intro j g K;have ak:=K.keys;rw[gK]at ak
  cases hf:D.waits.find? λx=>x.i==i with
  |some x=>
   have hx:=iq hf;have S:x.i=i:=by
    have:=je hf;exact eq_of_beq this
   obtain⟨bl,bJ,he⟩:=List.append_of_mem hx;have z:∀y∈bl++bJ,y.i≠i:=by
    intro y r e;rw[he,fe,iM]at ak;have h1:=(lf.nodup_iff).1 ak;rw[List.nodup_cons]at h1;apply h1.1;rw[←fe];refine dZ.2 ⟨y,r,?_⟩;show((y.i:Nat):Int)=((x.i:Nat):Int);omega
   have am:D.waits.filter (λx=>x.i !=i)=bl++bJ:=by
    rw[he,j2,List.filter_cons_of_neg (by simp[S])];rw[ku.2 λy r=>by have:=z y (im _ r);simpa using this,ku.2 λy r=>by have:=z y (gL _ r);simpa using this]
   have a7:(D.waits.map gl.e).Perm (((i:Int),.slice x.s.a x.s.len x.s.cap)::(bl++bJ).map gl.e):=by
    rw[he,fe,iM,fe];have:x.e=((i:Int),.slice x.s.a x.s.len x.s.cap):=by unfold gl.e;rw[S]
    rw[this];exact lf
   obtain⟨o,av,F,_,E⟩:=DJ mZ ki (K.perm a7) (.slice g.a g.len g.cap);refine⟨o,av,F,?_⟩;rw[am];exact E
  |none=>
   have z:∀y∈D.waits,y.i≠i:=λy r e=>by
    have:=iN.1 hf y r;rw[e]at this;simp at this
   have am:D.waits.filter (λx=>x.i !=i)=D.waits:=ku.2 λy r=>by simpa using z y r
   obtain⟨o,av,F,_,E⟩:=DI mZ ki (k:=(i:Int)) K (λv ag=>by
    obtain⟨x,hx,he⟩:=dZ.1 ag;unfold gl.e at he;simp only[Prod.mk.injEq]at he;exact z x hx I) (.slice g.a g.len g.cap)
   refine⟨o,av,F,?_⟩;rw[am];exact E
 have fin:∀ (j o:J) (g:Y),ae (aB p) ah.drew j->aZ 256 182 j g (b1 aF (D.da i++ [l]))->(∀k,aB g k->aB p k\/ah.drew.heap.size<=k)->ae (λq=>q=D.mr) j o->dP o D.mr encZ ((gl.mk i g (D.da i++ [l])::D.waits.filter λx=>x.i !=i).map gl.e)->
  ∃aM:ab,(some ⟨D.d,0,none⟩:an ab)=some aM/\∃n24:Int,o.cell? (aM.add 6)=some (.int .i64 n24)/\∃U:ab,(some ⟨D.d,0,none⟩:an ab)=some U/\(∃u:aa,o.cell? (U.add 6)=some u)/\o.frozen? (U.add 6)=false/\ao (o.setCell (U.add 6) (.int .i64 (IntKind.wrap .i64 (n24+1)))) λa8=>zj D i l w (.int .i64 0) a8:=by
  intro j o g V a9 ap aN ba;have bb:=t.v.ad V λf=>(B _ f).2.1 rfl;have aq:Var o D.d (D.b_ 2).c 141:=bb.ad aN h.a1.2.1;have hlen:(D.b_ 2).c.length=7:=H.tH;obtain⟨s1,s2⟩:=dR aq (i:=6) (by rw[hlen];decide);have bW:o.cell? (Addr.add ⟨D.d,0,none⟩ 6)=some (.int .i64 D.writes):=by
   rw[ax,cH,aq.cell];unfold aV.c;have:=H.f4;rw[kA (by rw[dE];omega),dE,this];rfl
  rw[ax,cH]at bW;refine⟨_,rfl,D.writes,by rw[ax,cH];exact bW,_,rfl,by rw[ax,cH];exact s1,by rw[ax,cH];exact s2,?_⟩;rw[ax,cH];have aP:=dx o D.d 6 (.int .i64 (IntKind.wrap .i64 (D.writes+1)));have aQ:=dX aq (i:=6) (.int .i64 (IntKind.wrap .i64 (D.writes+1)));have bd:(D.b_ 2).c.set 6 (.int .i64 (IntKind.wrap .i64 (D.writes+1)))=(D.put i g l).c:=by
   have be:=H.f4;have O:(D.put i g l).c=(D.b_ 2).bY.map (.int .i64)++ [.slice (some ⟨D.lb,0,none⟩) D.a_.length D.a_.length,.map (some D.mr),.int .i64 (IntKind.wrap .i64 (D.writes+1))]:=rfl;have P:(D.b_ 2).c=(D.b_ 2).bY.map (.int .i64)++ [.slice (some ⟨D.lb,0,none⟩) D.a_.length D.a_.length,.map (some D.mr),.int .i64 D.writes]:=rfl;rw[O,P,List.set_append_right _ _ (by rw[dE];omega),dE,be];rfl
  rw[bd]at aQ;have W:ae (λq=>q=D.mr\/q=D.d) j (o.setCell ⟨D.d,6,none⟩ (.int .i64 (IntKind.wrap .i64 (D.writes+1)))):=(aN.mono λq _ e=>.inl e).trans (aP.mono λq _ e=>.inr e);have Q:∀q,aB g q->q≠D.d/\q≠D.lb/\q≠D.mr:=λq f=>by
   have bn:=t.lt (q:=D.d) (.inl rfl);have bo:=t.lt (q:=D.lb) (.inr (.inl rfl));have bp:=t.lt (q:=D.mr) (.inr (.inr (.inl rfl)));rcases ap q f with h1|h1
   .exact(B q h1).2
   .exact⟨I,I,I⟩
  have G:∀x∈D.waits.filter (λx=>x.i !=i),x∈D.waits/\x.i≠i:=λx hx=>by
   obtain⟨h1,L⟩:=g0.1 hx;exact⟨h1,by simpa using L⟩
  refine aY (.inr ⟨ac,rfl,g,⟨aQ,?_,?_,?_,?_,h.sl,?_,h.bG,h.bc,H.f4,H.fr,h.a1,?_,?_⟩,?_,?_⟩)
  .exact bh.ad (bh.ad t.l V λf=>(B _ f).2.2.1 rfl) W (by
    rintro(e|e)
    .exact h.a1.2.2 e
    .exact h.a1.1 e.symm)
  .exact ba.ad aP (λe=>h.a1.2.1 e.symm)
  .intro x hx
   rcases cR.1 hx with rfl|hx
   .exact a9.ad W λq f=>by
     rintro(e|e)
     .exact(Q q f).2.2 e
     .exact(Q q f).1 e
   .obtain⟨h1,L⟩:=G x hx
    refine((t.ws x h1).ad V λq f=>aD x h1 L q f).ad W λq f=>?_;rintro(e|e)
    .exact(h.a2 x h1).2.2 (e▸f)
    .exact(h.a2 x h1).1 (e▸f)
  .intro x hx
   rcases cR.1 hx with rfl|hx
   .refine⟨by simp,hi,?_⟩
    show(D.da i++ [l]).length<=D.aO+1;rw[cE,hX];omega
   .obtain⟨h1,L⟩:=G x hx
    have:=h.wn x h1;exact⟨this.1,this.2.1,Nat.le_succ_of_le this.2.2⟩
  .intro x hx
   rcases cR.1 hx with rfl|hx
   .intro s hs
    rcases cG.1 hs with hs|hs
    .exact aE s hs
    .rw[eX.1 hs];exact hl
   .exact h.jv x (G x hx).1
  .intro x hx
   rcases cR.1 hx with rfl|hx
   .exact⟨λf=>(Q _ f).1 rfl,λf=>(Q _ f).2.1 rfl,λf=>(Q _ f).2.2 rfl⟩
   .exact h.a2 x (G x hx).1
  .have aR:∀y∈D.waits,y.i≠i->∀q,aB y.s q->¬aB g q:=λy r z q f R=>by
    rcases ap q R with h1|h1
    .exact aD y r z q f h1
    .have:=(t.ws y r).lt q f;omega
   intro x hx y r z q f R;rcases cR.1 hx with rfl|hx
   .rcases cR.1 r with rfl|r
    .exact z rfl
    .exact aR y (G y r).1 (λe=>z e.symm) q R f
   .rcases cR.1 r with rfl|r
    .exact aR x (G x hx).1 z q f R
    .exact h.a3 x (G x hx).1 y (G y r).1 z q f R
  .refine((Z.mono λq _ e=>.inl e).trans ((ae.cJ (cr ah)).trans (V.mono λq _ f=>(B q f).1))).trans (W.mono λq _ f=>?_)
   rcases f with e|e
   .exact .inr (.inr (.inl e))
   .exact .inl e
  .intro q f
   rcases ap q f with h1|h1
   .exact .inl (B q h1).1
   .have:ah.drew.heap.size=ah.heap.size:=rfl
    exact .inr I
 refine⟨aB p,_,rfl,λf=>(B _ f).2.1 rfl,some D.mr,t.aW,_,rfl,λf=>(B _ f).2.1 rfl,some D.mr,t.aW,I,A,ar,a4,_,a0,⟨?_,?_⟩⟩
 .obtain⟨g,j,av,F,E,M,N⟩:=aK ah.drew (.refl _ _)
  have aw:=t.m.ad E λf=>(B _ f).2.2.2 rfl;obtain⟨o,O,P,az⟩:=aL j g aw;exact⟨p,_,aI _ t.m,.refl _ _,⟨some ⟨ah.drew.heap.size,0,none⟩,1,1⟩,_,zg _ l hl,ae.cJ (er _ _),g,j,av,N,o,O,fin j o g E F M P az⟩
 .obtain⟨g,j,av,F,E,M,N⟩:=aK ah.drew (.refl _ _)
  have bf:=t.m.ext (er ah.drew (.cells (aF l).toArray 182));have aw:=t.m.ad E λf=>(B _ f).2.2.2 rfl;obtain⟨o,O,P,az⟩:=aL j g aw;exact⟨⟨some ⟨ah.drew.heap.size,0,none⟩,1,1⟩,_,zg _ l hl,ae.cJ (er _ _),p,_,aI _ bf,.refl _ _,g,j,av,N,o,O,fin j o g E F M P az⟩
theorem DP{P:Program}{e:TypeId}{v:aa}{sz:Nat}(a:((P.info? e).bind (·.zero)).map (·.cells)=some (List.replicate sz v).toArray)(hc:P.cellsOf e=sz)(hs:0<sz)(n:Nat):gq P e n=(List.replicate (n*sz) v).toArray:=by
 unfold gq;rw[hc]
 cases hi:(P.info? e).bind (·.zero) with
 |none=>rw[hi]at a;cases a
 |some z=>
  rw[hi]at a;simp only[kr,Option.some.injEq]at a;simp only[oX];apply Array.ext
  .simp
  .intro i h1 b
   have c:n*sz≠0:=by
    intro h;simp[h]at b
   simp only[c,if_false,a,Array.getElem_map,Array.getElem_range];have aJ:i%sz<sz:=g1 _ hs;simp[aJ]
theorem DQ(m n:Nat):b1 aF (List.replicate n (List.replicate m 0))=List.replicate (n*m) (.int .u8 0):=by
 induction n with
 |zero=>simp[b1]
 |succ n a=>
  rw[List.replicate_succ,p_,a,jB,Nat.one_mul,Nat.add_comm];have e:aF (List.replicate m 0)=List.replicate m (Value.int .u8 0):=by simp[aF]
  rw[e,List.replicate_append_replicate]
def fI:cF:=List.replicate 256 0
theorem DR(n:Nat):gq ai 182 n=(b1 aF (List.replicate n fI)).toArray:=by
 unfold fI;rw[DQ];exact DP (by kernel_rfl) (by kernel_rfl) (by decide) n
def oG(n d lb mr:Nat):aV:=⟨d,lb,mr,[-1, -1, -1, -1],List.replicate n fI,[],0,0,λ_=>false,λ_=> []⟩
theorem zk{w:J}{b:Nat}{vs:O aa}{T:TypeId}(h:Var w b vs T)(hl:4<=vs.length):
 aH ai 69 #[.pointer (some b)] w (λv w'=>v=.tuple #[]/\Var w' b (List.replicate 4 (.int .i64 (-1))++vs.drop 4) T/\ae (λq=>q=b) w w'/\w'.heap.size=w.heap.size):=by
 refine okF (af.sd (some b)) ay.sd func69 ?_;(delta af.sd al st au;dsimp only);refine⟨λi w'=>∃j:Nat,i=j/\j<=4/\Var w' b (List.replicate j (.int .i64 (-1))++vs.drop j) T/\ae (λq=>q=b) w w'/\w'.heap.size=w.heap.size,λi _=>((4:Int)-i).toNat,⟨0,rfl,I,h,.refl _ _,rfl⟩,?_⟩;rintro _ w1 ⟨j,rfl,g,c,hc,f⟩;refine⟨λaJ=>?_,λd=>?_⟩
 .have aJ:j<4:=by have:=cf aJ;omega
  have a:Addr.add b (Int.toNat (j:Int)*1)=⟨b,j,none⟩:=by rw[du,fu,ax,cH]
  obtain⟨s1,s2⟩:=dR c (i:=j) (by simp;omega);rw[bB (n:=(j:Int)+1) I I];refine⟨_,rfl,⟨I,by show(j:Int)<4;omega⟩,by rw[a];exact s1,by rw[a];exact s2,aY ⟨⟨j+1,I,I,?_,?_,?_⟩,?_⟩⟩
  .have:=dX c (i:=j) (.int .i64 (-1))
   rw[a];have e:(List.replicate j (Value.int .i64 (-1))++vs.drop j).set j (.int .i64 (-1))=List.replicate (j+1) (.int .i64 (-1))++vs.drop (j+1):=by
    rw[List.set_append_right _ _ (by simp),lj,nn,k_ (show j<vs.length from I),List.set_cons_zero,List.replicate_succ',cW];rfl
   rwa[e]at this
  .rw[a];exact hc.trans (dx _ _ _ _)
  .rw[a];simpa[World.setCell] using f
  .show((4:Int)-((j:Int)+1)).toNat<((4:Int)-(j:Int)).toNat
   omega
 .have d:j=4:=by have:=cx d;omega
  subst d;exact⟨rfl,c,hc,f⟩
theorem mx{n:Nat}(h1:16<=n)(k:n<=1600)(w:J):
 aH ai 18 #[n] w (λv w'=>∃d lb mr:Nat,v=.tuple #[.pointer (some d),(0:Int)]/\cj w' (oG n d lb mr)/\Ext w w'/\∀q,bF (oG n d lb mr) q->w.heap.size<=q):=by
 refine okF (af.mx (n:Int)) ay.mx func18 ?_;(delta af.mx al iR de U aT;dsimp only);refine⟨λh=>?_,λ_=>⟨⟨I,I,I,I⟩,?_⟩⟩
 .simp only[hW,cO]at h;omega
 rw[DR,du];have g:=bh.new w (b1 aF (List.replicate n fI)).toArray 182;have i:=er w (.cells (b1 aF (List.replicate n fI)).toArray 182);have l:=p5 w (.cells (b1 aF (List.replicate n fI)).toArray 182);obtain⟨w1,m⟩:∃w1,w1=w.alloc (.cells (b1 aF (List.replicate n fI)).toArray 182):=⟨_,rfl⟩;rw[←m]at g i l⊢;obtain⟨av,j⟩:=dP.make (P:=ai) (enc:=encZ) 137 w1;have a:=er w1 (.map #[] 0);have o:=p5 w1 (.map #[] 0);obtain⟨ah,p⟩:∃ah,ah=w1.alloc (.map #[] 0):=⟨_,rfl⟩;rw[←p]at av j a o;refine aY ⟨some w1.heap.size,ah,av,#[(0:Int),(0:Int),(0:Int),(0:Int),.slice (some w.heap.size) n n,.map (some w1.heap.size),(0:Int)],by kernel_rfl,bk (vs:=[(0:Int),(0:Int),(0:Int),(0:Int),.slice (some w.heap.size) n n,.map (some w1.heap.size),(0:Int)]) rfl λu r b y=>⟨_,rfl,(zk r (by show 4<=7;decide)).use ?_⟩⟩;rintro _ z ⟨rfl,t,f,A⟩;refine⟨rfl,ah.heap.size,w.heap.size,w1.heap.size,rfl,⟨?_,?_,?_,λx hx=>(by cases hx),λx hx=>(by cases hx),λs hs=>?_,λx hx=>(by cases hx),?_,?_,rfl,λx hx=>?_,?_,λx hx=>(by cases hx),λx hx=>(by cases hx)⟩,Ext.cv (i.trans (a.trans b)) f I,?_⟩
 .have e:(oG n ah.heap.size w.heap.size w1.heap.size).c=List.replicate 4 (.int .i64 (-1))++ [Value.int .i64 0,(0:Int),(0:Int),(0:Int),.slice (some w.heap.size) n n,.map (some w1.heap.size),(0:Int)].drop 4:=by
   unfold aV.c oG;simp
  rw[e];exact t
 .exact bh.ad ((g.ext a).ext b) f (by show¬w.heap.size=ah.heap.size;omega)
 .exact(j.ext b).ad f I
 .rw[qI hs,fI,lj]
 .show 16<=(List.replicate n fI).length;simpa using h1
 .show(List.replicate n fI).length<=1600;simpa using k
 .have:x= -1:=by
   simp[oG]at hx;exact hx
  subst this;exact⟨by decide,by decide⟩
 .exact⟨by show ah.heap.size≠w.heap.size;omega,by show ah.heap.size≠w1.heap.size;omega,by show w.heap.size≠w1.heap.size;omega⟩
 .rintro q (rfl|rfl|rfl|⟨x,hx,_⟩)
  .show w.heap.size<=ah.heap.size;omega
  .exact br _
  .show w.heap.size<=w1.heap.size;omega
  .cases hx
structure Fr where
 full:ag
 fa:ag
 used:ag
 no:Int
 pins:Int
 b:Y
 l:cF
def Fr.c(f:Fr):O aa:=[f.full,f.fa,f.used,f.no,f.pins,f.b]
def dm:Fr:=⟨false,false,false,0,0,⟨none,0,0⟩,[]⟩
structure bN where
 c:Nat
 aR:Nat
 aj:O Fr
 hand:Nat
 D:aV
def cK(C:bN)(q:Nat):Prop:=q=C.c\/q=C.aR\/bF C.D q
structure eM(w:J)(C:bN):Prop where
 v:Var w C.c [.pointer (some C.D.d),.slice (some C.aR) C.aj.length C.aj.length,C.hand] 281
 f:bh w C.aR (b1 Fr.c C.aj).toArray 288
 dev:cj w C.D
 bR:8<=C.aj.length
 b3:C.aj.length<=64
 hd:C.hand<C.aj.length
 a1:C.c≠C.aR/\¬bF C.D C.c/\¬bF C.D C.aR
structure zl(X:Nat->Prop)(w:J)(C:bN)(f:Fr)(no:Nat):Prop where
 num:f.no=no
 lt:no<C.D.n
 GC:bg (λq=>¬cK C q/\¬X q) w f.b f.l
 len:f.l.length=256
 clean:f.fa=false->f.l=C.D.now no
 bD:C.D.bD no=true->f.fa=false
 two:2<=no
structure fJ(X:Nat->Prop)(w:J)(C:bN):Prop where
 pins:∀f∈C.aj,f.pins=0
 ok:∀f∈C.aj,f.full=true->∃no:Nat,zl X w C f no
 un:∀ (i j:Nat) (hi:i<C.aj.length) (a:j<C.aj.length),(C.aj[i]).full=true->(C.aj[j]).full=true->(C.aj[i]).no=(C.aj[j]).no->i=j
 eI:∀q,X q->q<w.heap.size/\¬cK C q
 jT:∀j,C.D.bD j=true->C.D.da j=C.D.dQ j
def jw(aw D:aV):Prop:=aw.n=D.n/\(∀j,aw.bD j=true->D.bD j=true)/\∀j,aw.bD j=true->aw.da j=aw.dQ j
theorem fJ.qa{X:Nat->Prop}{w:J}{C:bN}(h:fJ X w C):jw C.D C.D:=⟨rfl,λ_ h=>h,h.jT⟩
theorem fJ.b_{X:Nat->Prop}{w:J}{C:bN}(h:fJ X w C)(k:Nat):jw (C.D.b_ k) C.D:=⟨rfl,λ_ h=>h,h.jT⟩
structure dy(X:Nat->Prop)(w:J)(C:bN):Prop where
 raw:eM w C
 inv:fJ X w C
def bN.view(C:bN)(no:Nat):cF:=match C.aj.find? λf=>f.full&&f.no==(no:Int) with
 |some f=>f.l
 |none=>C.D.now no
theorem Fr.vU(f:Fr):f.c.length=6:=rfl
theorem tK(l:O Fr):∀x∈l,(Fr.c x).length=6:=λx _=>rfl
section
variable {w w':J}{C:bN}{X:Nat->Prop}
theorem eM.lt(h:eM w C){q:Nat}(a:cK C q):q<w.heap.size:=by
 rcases a with rfl|rfl|a
 .exact h.v.lt
 .exact bh.lt h.f
 .exact h.dev.lt a
theorem eM.ad{W:Nat->Prop}(h:eM w C)(hc:ae W w w')(a:∀q,cK C q->¬W q):eM w' C:=
 ⟨h.v.ad hc (a _ (.inl rfl)),bh.ad h.f hc (a _ (.inr (.inl rfl))),h.dev.ad hc λq b=>a q (.inr (.inr b)),h.bR,h.b3,h.hd,h.a1⟩
theorem eM.ext(h:eM w C)(hc:Ext w w'):eM w' C:=h.ad hc λ_ _ h=>h
theorem fJ.ad{W:Nat->Prop}(h:fJ X w C)(hc:ae W w w')(b:∀q,W q->cK C q\/X q):fJ X w' C:=
 ⟨h.pins,λf hf c=>by
  obtain⟨no,av,d,e,g,i,j,k⟩:=h.ok f hf c
  exact⟨no,av,d,bg.ad e hc λq a l=>by
   rcases b q l with h1|h1
   .exact a.1 h1
   .exact a.2 h1,g,i,j,k⟩,h.un,λq a=>⟨fc (h.eI q a).1 hc.size,(h.eI q a).2⟩,h.jT⟩
theorem dy.ad{W:Nat->Prop}(h:dy X w C)(hc:ae W w w')(b:∀q,W q->X q):dy X w' C:=
 ⟨h.raw.ad hc λq c a=>(h.inv.eI q (b q a)).2 c,h.inv.ad hc λq a=>.inr (b q a)⟩
theorem dy.ext(h:dy X w C)(hc:Ext w w'):dy X w' C:=h.ad hc λ_ h=>h.elim
theorem qb(aR i:Nat):Addr.add aR (Int.toNat (i:Int)*6)=⟨aR,i*6,none⟩:=by rw[du,ax,cH]
theorem eM.cells(h:eM w C):w.cell? C.c=some (.pointer (some C.D.d))/\w.cell? (Addr.add C.c 1)=some (.slice (some C.aR) C.aj.length C.aj.length)/\w.cell? (Addr.add C.c 2)=some (.int .i64 C.hand):=by
 rw[ax,ax];exact⟨h.v.cell,h.v.cell,h.v.cell⟩
theorem iV{w:J}{aR:Nat}{fs:O Fr}{T:TypeId}(h:bh w aR (b1 Fr.c fs).toArray T){i j:Nat}(hi:i<fs.length)(a:j<6):w.cell? ⟨aR,i*6+j,none⟩=((fs[i]).c)[j]? :=by
 rw[bh.cell h];simp only[qA];exact vP (tK fs) hi a
theorem lP{w:J}{aR:Nat}{fs:O Fr}{T:TypeId}(h:bh w aR (b1 Fr.c fs).toArray T){i j:Nat}(hi:i<fs.length)(a:j<6){v:aa}(b:Fr)(hf:b.c=(fs[i]).c.set j v):
 (∃u:aa,w.cell? ⟨aR,i*6+j,none⟩=some u)/\w.frozen? ⟨aR,i*6+j,none⟩=false/\bh (w.setCell ⟨aR,i*6+j,none⟩ v) aR (b1 Fr.c (fs.set i b)).toArray T/\ae (λq=>q=aR) w (w.setCell ⟨aR,i*6+j,none⟩ v):=by
 refine⟨⟨((fs[i]).c)[j]'(by rw[Fr.vU];exact a),by rw[iV h hi a,dD (by rw[Fr.vU];exact a)]⟩,bh.frozen h _ rfl,?_,dx _ _ _ _⟩;have:=dX (vs:=b1 Fr.c fs) h (i:=i*6+j) v;rw[DH (tK fs) hi a hf]at this;exact this
theorem vV{w:J}{aR:Nat}{fs:O Fr}{T:TypeId}(h:bh w aR (b1 Fr.c fs).toArray T){i:Nat}(hi:i<fs.length)(a:Fr):
 bz w ⟨aR,i*6,none⟩ a.c/\bh (setCells w ⟨aR,i*6,none⟩ 0 a.c) aR (b1 Fr.c (fs.set i a)).toArray T/\ae (λq=>q=aR) w (setCells w ⟨aR,i*6,none⟩ 0 a.c):=by
 have hl:=hT (c:=Fr.c) fs (tK fs);have d:i*6+a.c.length<=(b1 Fr.c fs).toArray.size:=by
  rw[qM,hl,Fr.vU];omega
 refine⟨bh.b5 h _ _ d ?_,?_,ae.kJ (.refl _ _) _ 0⟩
 .intro v b
  unfold Fr.c at b;simp only[cR,eR,eY]at b;rcases b with rfl|rfl|rfl|rfl|rfl|rfl<;>trivial
 .have h0:=bh.jI (o:=i*6) h a.c
  have e:fY (b1 Fr.c fs).toArray (i*6) a.c=(b1 Fr.c (fs.set i a)).toArray:=by
   have h1:=ly a.c (b1 Fr.c fs).toArray (i*6) d;have f:=za (tK fs) hi a;have g:a.c.length=6:=rfl;rw[g]at h1;have j:(fY (b1 Fr.c fs).toArray (i*6) a.c).toList=b1 Fr.c (fs.set i a):=h1.trans f;rw[←j]
  rw[e]at h0;exact h0
theorem zm(h:eM w C)(no:Int):aH ai 220 #[.pointer (some C.c),no] w (λv w'=>v=.bool (decide (0<=no/\no<C.D.n))/\w=w'):=by
 refine okF (af.sX (some C.c) no) ay.sX func220 ?_;(delta af.sX al aA;dsimp only);refine cl (λb w'=>b=decide (0<=no/\no<C.D.n)/\w=w') (λq d=>⟨λa=>⟨_,rfl,_,h.cells.1,(oD h.dev).use ?_⟩,λa=>d _ _ ⟨?_,rfl⟩⟩) ?_
 .rintro _ _ ⟨rfl,rfl⟩
  have a:0<=no:=by simpa using a
  refine⟨_,rfl,d _ _ ⟨?_,rfl⟩⟩;rw[fm,cO,cO];exact⟨λh=>⟨a,h⟩,λh=>h.2⟩
 .have a:¬0<=no:=by simpa using a
  rw[gM (λh=>a h.1)]
 .rintro _ _ ⟨rfl,rfl⟩
  exact⟨rfl,rfl⟩
def AtR(C:bN)(no:Int)(v:aa):Prop:=
 (∃ (i:Nat) (hi:i<C.aj.length),v=.pointer (some ⟨C.aR,i*6,none⟩)/\(C.aj[i]).full=true/\(C.aj[i]).no=no)\/
 (v=.pointer none/\∀f∈C.aj,f.full=true->f.no≠no)
theorem tL(h:eM w C)(no:Int):aH ai 201 #[.pointer (some C.c),no] w (λv w'=>AtR C no v/\w=w'):=by
 obtain⟨bS,aA,aT⟩:=h.cells;have d:=h.b3;refine okF (af.sS (some C.c) no) ay.sS func201 ?_;(delta af.sS al ak aI a7 r1 au;dsimp only);refine⟨λh=>(by cases h),λ_=>⟨_,rfl,⟨some C.aR,C.aj.length,C.aj.length⟩,aA,λi w'=>∃j:Nat,i=j/\j<=C.aj.length/\w=w'/\∀ (k:Nat) (d:k<C.aj.length),k<j->(C.aj[k]).full=true->(C.aj[k]).no≠no,λi _=>((C.aj.length:Int)-i).toNat,⟨0,rfl,cI _,rfl,λk _ h=>I⟩,?_⟩⟩;rintro _ _ ⟨j,rfl,s,rfl,g⟩;refine⟨λaJ=>?_,λe=>?_⟩
 .have aJ:(j:Int)<(C.aj.length:Int):=cf aJ
  have aJ:j<C.aj.length:=by omega
  refine⟨_,rfl,⟨some C.aR,C.aj.length,C.aj.length⟩,aA,_,rfl,⟨I,by show(j:Int)<(C.aj.length:Int);omega⟩,_,rfl,?_⟩;rw[qb];have f0:=iV h.f aJ (j:=0) (by decide);have f3:=iV h.f aJ (j:=3) (by decide);refine⟨(C.aj[j]).full,f0,cl (λb w'=>w=w'/\(b=true↔((C.aj[j]).full=true/\(C.aj[j]).no=no))) (λq l=>⟨λa=>⟨_,rfl,(C.aj[j]).no,by rw[ax];exact f3,l _ _ ⟨rfl,?_⟩⟩,λa=>l _ _ ⟨rfl,?_⟩⟩) ?_⟩
  .rw[jc]
   exact⟨λh=>⟨a,h⟩,λh=>h.2⟩
  .rw[a]
   exact⟨λh=>(by cases h),λh=>(by cases h.1)⟩
  rintro b w' ⟨rfl,a⟩;refine⟨λh1=>⟨.inl ⟨j,aJ,rfl,(a.1 h1).1,(a.1 h1).2⟩,rfl⟩,λh1=>?_⟩;rw[bB (n:=(j:Int)+1) I I];refine⟨⟨j+1,I,I,rfl,λk d t m=>?_⟩,?_⟩
  .rcases dJ k j with o|o
   .exact g k d o m
   .have:k=j:=by omega
    subst this;intro p;rw[a.2 ⟨m,p⟩]at h1;cases h1
  .show((C.aj.length:Int)-((j:Int)+1)).toNat<((C.aj.length:Int)-(j:Int)).toNat
   omega
 .have e:j=C.aj.length:=by
   have:¬((j:Int)<(C.aj.length:Int)):=cx e;omega
  subst e;refine⟨.inr ⟨rfl,λf hf r=>?_⟩,rfl⟩;obtain⟨k,d,rfl⟩:=eD hf;exact g k d d r
theorem DS(h:eM w C):aH ai 267 #[.pointer (some C.c)] w (λv w'=>((∃ (i:Nat) (hi:i<C.aj.length),v=.pointer (some ⟨C.aR,i*6,none⟩)/\(C.aj[i]).full=false)\/(v=.pointer none/\∀f∈C.aj,f.full=true))/\w=w'):=by
 obtain⟨bS,aA,aT⟩:=h.cells;have a:=h.b3;refine okF (af.s6 (some C.c)) ay.s6 func267 ?_;(delta af.s6 ak al aI a7 au;dsimp only);refine⟨_,rfl,⟨some C.aR,C.aj.length,C.aj.length⟩,aA,λi w'=>∃j:Nat,i=j/\j<=C.aj.length/\w=w'/\∀ (k:Nat) (a:k<C.aj.length),k<j->(C.aj[k]).full=true,λi _=>((C.aj.length:Int)-i).toNat,⟨0,rfl,cI _,rfl,λk _ h=>I⟩,?_⟩;rintro _ _ ⟨j,rfl,l,rfl,e⟩;refine⟨λaJ=>?_,λb=>?_⟩
 .have aJ:(j:Int)<(C.aj.length:Int):=cf aJ
  have aJ:j<C.aj.length:=by omega
  have f0:=iV h.f aJ (j:=0) (by decide);refine⟨_,rfl,⟨some C.aR,C.aj.length,C.aj.length⟩,aA,_,rfl,⟨I,by show(j:Int)<(C.aj.length:Int);omega⟩,(C.aj[j]).full,by rw[qb];exact f0,λd=>⟨_,rfl,⟨some C.aR,C.aj.length,C.aj.length⟩,aA,_,rfl,⟨I,by show(j:Int)<(C.aj.length:Int);omega⟩,.inl ⟨j,aJ,by rw[qb],by simpa using d⟩,rfl⟩,λd=>?_⟩;rw[bB (n:=(j:Int)+1) I I];refine⟨⟨j+1,I,I,rfl,λk a m=>?_⟩,?_⟩
  .rcases dJ k j with g|g
   .exact e k a g
   .have:k=j:=by omega
    subst this;simpa using d
  .show((C.aj.length:Int)-((j:Int)+1)).toNat<((C.aj.length:Int)-(j:Int)).toNat
   omega
 .have b:j=C.aj.length:=by
   have:¬((j:Int)<(C.aj.length:Int)):=cx b;omega
  subst b;refine⟨.inr ⟨rfl,λf hf=>?_⟩,rfl⟩;obtain⟨k,a,rfl⟩:=eD hf;exact e k a a
def gG(fs gs:O Fr):Prop:=gs.length=fs.length/\∀ (i:Nat) (h1:i<fs.length) (a:i<gs.length),gs[i]={fs[i] with used:=(gs[i]).used}
theorem gG.refl(fs:O Fr):gG fs fs:=⟨rfl,λi h1 a=>rfl⟩
theorem gG.set{fs gs:O Fr}(h:gG fs gs){i:Nat}(hi:i<gs.length)(u:ag):gG fs (gs.set i {gs[i] with used:=u}):=by
 refine⟨by rw[cX];exact h.1,λj h1 a=>?_⟩;rw[qL];split
 .rename_i e
  subst e;have:=h.2 i h1 hi;rw[this]
 .exact h.2 j h1 _
theorem DT(h:eM w C)(B:∀f∈C.aj,f.pins=0):aH ai 268 #[.pointer (some C.c)] w (λv w'=>∃ (i:Nat) (gs:O Fr) (hd:Nat),i<C.aj.length/\v=.pointer (some ⟨C.aR,i*6,none⟩)/\gG C.aj gs/\eM w' {C with aj:=gs,hand:=hd}/\ae (λq=>q=C.c\/q=C.aR) w w'):=by
 obtain⟨bS,aA,aT⟩:=h.cells;have S:=h.bR;have T:=h.b3;have D:=h.hd;refine okF (af.s7 (some C.c)) ay.s7 func268 ?_;(delta af.s7 r1 ak al au aI a7 st;dsimp only);refine⟨_,rfl,_,aT,_,rfl,⟨some C.aR,C.aj.length,C.aj.length⟩,aA,λE i w'=>∃ (s:Nat) (gs:O Fr),i=s/\s<=C.aj.length/\E=(((C.hand+s)%C.aj.length:Nat):Int)/\gG C.aj gs/\eM w' {C with aj:=gs}/\ae (λq=>q=C.c\/q=C.aR) w w'/\∀ (t:Nat) (hx:(C.hand+t)%C.aj.length<gs.length),t<s->(gs[(C.hand+t)%C.aj.length]).used=false,
  λ_ i _=>(2*(C.aj.length:Int)-i).toNat,⟨0,C.aj,rfl,cI _,by rw[l0,ir D],gG.refl _,h,.refl _ _,λt _ h=>I⟩,?_⟩
 rintro _ _ w1 ⟨s,gs,rfl,hs,rfl,m,b,hc,r⟩;have u:gs.length=C.aj.length:=m.1;obtain⟨i,hi⟩:∃i,i=(C.hand+s)%C.aj.length:=⟨_,rfl⟩;have d:i<gs.length:=by rw[hi,u];exact g1 _ I
 rw[←hi];obtain⟨d0,d1,d2⟩:=b.cells;have d1:w1.cell? (Addr.add C.c 1)=some (.slice (some C.aR) gs.length gs.length):=d1;have hf:bh w1 C.aR (b1 Fr.c gs).toArray 288:=b.f;rw[bB (n:=2*(C.aj.length:Int)) I I];have F:IntKind.wrap .i64 ((i:Int)+1)=((i+1:Nat):Int):=by rw[bB I I];rfl
 have x:Int.tmod ((i+1:Nat):Int) (gs.length:Int)=(((i+1)%gs.length:Nat):Int):=by
  rw[qN I];rfl
 have G:(i+1)%gs.length=(C.hand+(s+1))%C.aj.length:=by
  rw[hi,u,Nat.mod_add_mod];rfl
 refine⟨λaJ=>?_,λH=>?_⟩
 .refine cl (λa w'=>a=(((C.hand+(s+1))%C.aj.length:Nat):Int)/\∃g:O Fr,s+1<=C.aj.length/\gG C.aj g/\eM w' {C with aj:=g}/\ae (λq=>q=C.c\/q=C.aR) w w'/\∀ (t:Nat) (hx:(C.hand+t)%C.aj.length<g.length),t<s+1->(g[(C.hand+t)%C.aj.length]).used=false) (λq k=>⟨_,rfl,⟨some C.aR,gs.length,gs.length⟩,d1,_,rfl,⟨I,by show(i:Int)<(gs.length:Int);omega⟩,_,rfl,⟨some C.aR,gs.length,gs.length⟩,d1,by show(gs.length:Int)≠0;omega,_,rfl,?_⟩) ?_
  .rw[qb,F]
   have f4:=iV hf d (j:=4) (by decide);have f2:=iV hf d (j:=2) (by decide);have J:(gs[i]).pins=0:=by
    have h1:=m.2 i I d;have l:(gs[i]).pins=(C.aj[i]'I).pins:=by rw[h1]
    rw[l];exact B _ (cm _)
   refine⟨(gs[i]).pins,by rw[ax];exact f4,λy=>?_,λ_=>⟨_,rfl,(gs[i]).used,by rw[ax];exact f2,λhu=>⟨_,rfl,?_⟩,λhu=>⟨_,rfl,?_⟩⟩⟩
   .rw[J]at y;simp at y
   .have K:s<C.aj.length:=by
     rcases dJ s C.aj.length with h1|h1
     .exact h1
     .have es:s=C.aj.length:=by omega
      have z:(C.hand+0)%C.aj.length=i:=by rw[hi,es,Nat.add_mod_right];rfl
      have l:=r 0 (by rw[z];exact d) I;have o:(gs[i]).used=false:=by
       have e:gs[(C.hand+0)%C.aj.length]'(by rw[z];exact d)=gs[i]:=by congr 1
       rw[←e];exact l
      rw[o]at hu;cases hu
    obtain⟨av,L,M,p⟩:=lP hf d (j:=2) (by decide) (v:=false) {gs[i] with used:=false} rfl;rw[ax];refine⟨av,L,aY (k _ _ ⟨by rw[x,G],gs.set i {gs[i] with used:=false},K,m.set d false,?_,hc.trans (p.mono λq _ e=>.inr e),λt hx ht=>?_⟩)⟩
    .have N:=b.v.ad p h.a1.1
     refine⟨?_,M,b.dev.ad p (λq k e=>h.a1.2.2 (e▸k)),?_,?_,?_,h.a1⟩
     .show Var _ _ [_,.slice (some C.aR) (gs.set i _).length (gs.set i _).length,_] _
      rw[cX];exact N
     .show 8<=(gs.set i _).length;rw[cX];omega
     .show(gs.set i _).length<=64;rw[cX];omega
     .show C.hand<(gs.set i _).length;rw[cX];omega
    .rw[qL]
     split
     .rfl
     .rename_i P
      rcases dJ t s with h1|h1
      .exact r t _ h1
      .have:t=s:=by omega
       subst this;exact absurd hi P
   .obtain⟨s1,s2⟩:=dR b.v (i:=2) (by simp)
    rw[ax,x];refine⟨s1,s2,aY ⟨i,gs,(i+1)%gs.length,I,rfl,m,?_,hc.trans ((dx _ _ _ _).mono λq _ e=>.inl e)⟩⟩;have A:=dx w1 C.c 2 (.int .i64 (((i+1)%gs.length:Nat):Int));refine⟨dX b.v (i:=2) (.int .i64 (((i+1)%gs.length:Nat):Int)),bh.ad hf A (λe=>h.a1.1 e.symm),b.dev.ad A (λq k e=>h.a1.2.1 (e▸k)),b.bR,b.b3,?_,h.a1⟩;exact g1 _ I
  .rintro a w' ⟨rfl,g,h1,l,o,Q,R⟩
   rw[bB (n:=(s:Int)+1) I I];refine⟨⟨s+1,g,I,h1,rfl,l,o,Q,R⟩,?_⟩;show(2*(C.aj.length:Int)-((s:Int)+1)).toNat<(2*(C.aj.length:Int)-(s:Int)).toNat;omega
 .have:=cx H
  omega
end
structure dY(C aC:bN)(w w':J)(k:Nat):Prop where
 c:aC.c=C.c
 d:aC.D.d=C.D.d
 len:aC.aj.length=C.aj.length
 a_:aC.D.key=C.D.key
 aO:aC.D.aO<=C.D.aO+k
 calm:∀m,C.D.calm (m+k)->aC.D.calm m
 ad:ae (cK C) w w'
 cN:∀q,cK aC q->cK C q\/w.heap.size<=q
theorem dY.refl(C:bN)(w:J):dY C C w w 0:=⟨rfl,rfl,rfl,rfl,br _,λ_ h=>h,.refl _ _,λ_ h=>.inl h⟩
theorem dY.ext{w w':J}(C:bN)(h:Ext w w'):dY C C w w' 0:=⟨rfl,rfl,rfl,rfl,br _,λ_ h=>h,ae.cJ h,λ_ h=>.inl h⟩
theorem dY.trans{C aC b:bN}{w w' e:J}{k l:Nat}(h1:dY C aC w w' k)(a:dY aC b w' e l):dY C b w e (k+l):=by
 have hs:=h1.ad.size;refine⟨a.c.trans h1.c,a.d.trans h1.d,a.len.trans h1.len,a.a_.trans h1.a_,by have:=h1.aO;have:=a.aO;omega,λm g=>a.calm m (h1.calm (m+l) (by rw[show m+l+k=m+(k+l) from I];exact g)),ck h1.ad a.ad λq f h=>(h1.cN q h).resolve_right I,λq f=>?_⟩;rcases a.cN q f with h|h
 .exact h1.cN q h
 .exact .inr I
theorem dY.mono{C aC:bN}{w w':J}{k l:Nat}(h:dY C aC w w' k)(hl:k<=l):dY C aC w w' l:=
 ⟨h.c,h.d,h.len,h.a_,by have:=h.aO;omega,λm a=>h.calm m (fT a I),h.ad,h.cN⟩
theorem dY.bD{C aC:bN}{w w':J}{k:Nat}(h:dY C aC w w' k):aC.D.bD=C.D.bD:=congrArg (λk:(O cF×(Nat->ag)×(Nat->O cF)×(Int->Prop))×Int=>k.1.2.1) h.a_
theorem dY.lQ{C aC:bN}{w w':J}{k:Nat}(h:dY C aC w w' k):aC.D.bD=C.D.bD/\aC.D.dQ=C.D.dQ:=⟨h.bD,congrArg (λk:(O cF×(Nat->ag)×(Nat->O cF)×(Int->Prop))×Int=>k.1.2.2.1) h.a_⟩
theorem dY.n{C aC:bN}{w w':J}{k:Nat}(h:dY C aC w w' k):aC.D.n=C.D.n:=congrArg (λk:(O cF×(Nat->ag)×(Nat->O cF)×(Int->Prop))×Int=>k.1.1.length) h.a_
section
variable {w w':J}{C:bN}{X:Nat->Prop}
theorem kX{fs:O Fr}{D:aV}{c aR hd:Nat}(un:∀ (i j:Nat) (hi:i<fs.length) (d:j<fs.length),(fs[i]).full=true->(fs[j]).full=true->(fs[i]).no=(fs[j]).no->i=j){i:Nat}(hi:i<fs.length){no:Nat}(hf:(fs[i]).full=true)(e:(fs[i]).no=no):(bN.mk c aR fs hd D).view no=(fs[i]).l:=by
 unfold bN.view
 cases a:fs.find? λf=>f.full&&f.no==(no:Int) with
 |none=>
  have:=iN.1 a _ (cm hi);simp[hf,e]at this
 |some f=>
  have g:=iq a;have b:=je a;simp only[dO,jc]at b;obtain⟨j,d,rfl⟩:=eD g;have:=un i j hi d hf b.1 (by rw[e,b.2]);subst this;simp only
theorem kY{fs:O Fr}{D:aV}{c aR hd:Nat}{no:Nat}(h:∀f∈fs,f.full=true->f.no≠no):(bN.mk c aR fs hd D).view no=D.now no:=by
 unfold bN.view
 cases b:fs.find? λf=>f.full&&f.no==(no:Int) with
 |none=>rfl
 |some f=>
  have d:=iq b;have a:=je b;simp only[dO,jc]at a;exact absurd a.2 (h f d a.1)
theorem qc(D:aV)(k i:Nat):(D.b_ k).now i=D.now i:=rfl
theorem bg.re{B b:Nat->Prop}{w w':J}{t:Y}{l:Key}{V:Nat->Prop}(h:bg B w t l)(hc:ae V w w')(c:∀q,q<w.heap.size->B q->¬V q)(d:∀q,q<w.heap.size->B q->b q):bg b w' t l:=
 ⟨h.1.ad hc λq a=>c q (h.2.2 q a).2 (h.2.2 q a).1,h.2.1,λq a=>⟨d q (h.2.2 q a).2 (h.2.2 q a).1,fc (h.2.2 q a).2 hc.size⟩⟩
theorem qd{gs:O Fr}{hd:Nat}{aw:aV}{V:Nat->Prop}(h:fJ X w C)(hs:gG C.aj gs)(hc:ae V w w')(dC:∀q,q<w.heap.size->V q->cK C q)(m:jw aw C.D)(u:∀i,aw.now i=C.D.now i)(v:∀q,bF aw q->bF C.D q\/w.heap.size<=q):fJ X w' {C with aj:=gs,hand:=hd,D:=aw}:=by
 have x:=hc.size;have r:∀q,q<w.heap.size->cK {C with aj:=gs,hand:=hd,D:=aw} q->cK C q:=λq a hf=>by
  rcases hf with h1|h1|h1
  .exact .inl h1
  .exact .inr (.inl h1)
  .exact .inr (.inr ((v q h1).resolve_right I))
 have g:∀ (i:Nat) (hi:i<gs.length),∃c:i<C.aj.length,gs[i]={C.aj[i] with used:=(gs[i]).used}:=λi hi=>⟨by rw[←hs.1];exact hi,hs.2 i (by rw[←hs.1];exact hi) hi⟩;refine⟨λf hf=>?_,λf hf y=>?_,λi j hi z h1 A B=>?_,λq a=>⟨fc (h.eI q a).1 x,λhf=>(h.eI q a).2 (r q (h.eI q a).1 hf)⟩,m.2.2⟩
 .obtain⟨i,hi,rfl⟩:=eD hf
  obtain⟨c,e⟩:=g i hi;have:(gs[i]).pins=(C.aj[i]).pins:=by rw[e]
  rw[this];exact h.pins _ (cm c)
 .obtain⟨i,hi,rfl⟩:=eD hf
  obtain⟨c,e⟩:=g i hi;have n:(gs[i]).full=(C.aj[i]).full:=by rw[e]
  have o:(gs[i]).no=(C.aj[i]).no:=by rw[e]
  have p:(gs[i]).b=(C.aj[i]).b:=by rw[e]
  have d:(gs[i]).l=(C.aj[i]).l:=by rw[e]
  have s:(gs[i]).fa=(C.aj[i]).fa:=by rw[e]
  obtain⟨no,av,E,F,G,H,J,K⟩:=h.ok _ (cm c) (by rw[←n];exact y);refine⟨no,by rw[o];exact av,by rw[m.1];exact E,?_,by rw[d];exact G,λhd=>by rw[d,u];exact H (by rw[←s];exact hd),λhs=>by rw[s];exact J (m.2.1 _ hs),K⟩;rw[p,d];exact bg.re F hc (λq a k L=>k.1 (dC q a L)) λq a k=>⟨λhf=>k.1 (r q a hf),k.2⟩
 .obtain⟨c,e⟩:=g i hi
  obtain⟨M,t⟩:=g j z;have n:(gs[i]).full=(C.aj[i]).full:=by rw[e]
  have o:(gs[i]).no=(C.aj[i]).no:=by rw[e]
  have p:(gs[j]).full=(C.aj[j]).full:=by rw[t]
  have d:(gs[j]).no=(C.aj[j]).no:=by rw[t]
  exact h.un i j c M (by rw[←n];exact h1) (by rw[←p];exact A) (by rw[←o,←d];exact B)
theorem qe{gs:O Fr}{hd:Nat}{aw:aV}(h:fJ X w C)(hs:gG C.aj gs)(s:∀i,aw.now i=C.D.now i)(no:Nat):(bN.mk C.c C.aR gs hd aw).view no=C.view no:=by
 have g:∀ (i:Nat) (hi:i<gs.length),∃k:i<C.aj.length,gs[i]={C.aj[i] with used:=(gs[i]).used}:=λi hi=>⟨by rw[←hs.1];exact hi,hs.2 i (by rw[←hs.1];exact hi) hi⟩;by_cases hex:∃ (i:Nat) (hi:i<C.aj.length),(C.aj[i]).full=true/\(C.aj[i]).no=no
 .obtain⟨i,hi,h1,d⟩:=hex
  have o:i<gs.length:=by rw[hs.1];exact hi
  obtain⟨k,e⟩:=g i o;have m:(gs[i]).full=(C.aj[i]).full:=by rw[e]
  have n:(gs[i]).no=(C.aj[i]).no:=by rw[e]
  have t:(gs[i]).l=(C.aj[i]).l:=by rw[e]
  have u:∀ (i j:Nat) (hi:i<gs.length) (B:j<gs.length),(gs[i]).full=true->(gs[j]).full=true->(gs[i]).no=(gs[j]).no->i=j:=by
   intro a b v x bR b3 y;obtain⟨z,p⟩:=g a v;obtain⟨A,q⟩:=g b x;have f1:(gs[a]).full=(C.aj[a]).full:=by rw[p]
   have f2:(gs[a]).no=(C.aj[a]).no:=by rw[p]
   have f3:(gs[b]).full=(C.aj[b]).full:=by rw[q]
   have f4:(gs[b]).no=(C.aj[b]).no:=by rw[q]
   exact h.un a b z A (by rw[←f1];exact bR) (by rw[←f3];exact b3) (by rw[←f2,←f4];exact y)
  rw[kX u o (by rw[m];exact h1) (by rw[n];exact d),t];exact(kX (fs:=C.aj) (D:=C.D) (c:=C.c) (aR:=C.aR) (hd:=C.hand) h.un hi h1 d).symm
 .have r:∀f∈C.aj,f.full=true->f.no≠no:=λf hf h1 d=>by
   obtain⟨i,hi,rfl⟩:=eD hf;exact hex ⟨i,hi,h1,d⟩
  have e:C.view no=C.D.now no:=kY (fs:=C.aj) (D:=C.D) (c:=C.c) (aR:=C.aR) (hd:=C.hand) r;rw[e,←s];refine kY λf hf h1 d=>?_;obtain⟨i,hi,rfl⟩:=eD hf;obtain⟨k,e⟩:=g i hi;have m:(gs[i]).full=(C.aj[i]).full:=by rw[e]
  have n:(gs[i]).no=(C.aj[i]).no:=by rw[e]
  exact r _ (cm k) (by rw[←m];exact h1) (by rw[←n];exact d)
theorem vW{i:Nat}(hi:i<C.aj.length){aw:aV}{V:Nat->Prop}(h:fJ X w C)(hc:ae V w w')(dC:∀q,q<w.heap.size->V q->cK C q)(m:jw aw C.D)
 (u:∀j:Nat,((C.aj[i]).full=true->(C.aj[i]).no≠j)->aw.now j=C.D.now j) (v:∀q,bF aw q->bF C.D q\/w.heap.size<=q) (f0:Fr) (n:f0.full=false) (x:f0.pins=0):fJ X w' {C with aj:=C.aj.set i f0,D:=aw}:=by
 have y:=hc.size;have p:∀q,q<w.heap.size->cK {C with aj:=C.aj.set i f0,D:=aw} q->cK C q:=λq c hf=>by
  rcases hf with h1|h1|h1
  .exact .inl h1
  .exact .inr (.inl h1)
  .exact .inr (.inr ((v q h1).resolve_right I))
 refine⟨λf hf=>?_,λf hf d=>?_,λa b z g h1 l o=>?_,λq c=>⟨fc (h.eI q c).1 y,λhf=>(h.eI q c).2 (p q (h.eI q c).1 hf)⟩,m.2.2⟩
 .rcases kB hf with hf|rfl
  .exact h.pins f hf
  .exact x
 .obtain⟨k,A,rfl⟩:=eD hf
  have r:k<C.aj.length:=by simpa using A
  by_cases e:i=k
  .subst e
   simp only[gN]at d;rw[n]at d;cases d
  .simp only[eZ e]at d⊢
   obtain⟨no,av,B,E,F,G,H,J⟩:=h.ok _ (cm r) d;refine⟨no,av,by rw[m.1];exact B,bg.re E hc (λq c g K=>g.1 (dC q c K)) λq c g=>⟨λhf=>g.1 (p q c hf),g.2⟩,F,λhd=>?_,λhs=>H (m.2.1 _ hs),J⟩;show _=aw.now no;rw[u no λL he=>e (h.un i k hi r L d (by rw[he,av]))];exact G hd
 .have M:a<C.aj.length:=by simpa using z
  have N:b<C.aj.length:=by simpa using g
  by_cases s:i=a
  .subst s
   simp only[gN]at h1;rw[n]at h1;cases h1
  by_cases t:i=b
  .subst t
   simp only[gN]at l;rw[n]at l;cases l
  simp only[eZ s]at h1 o;simp only[eZ t]at l o;exact h.un a b M N h1 l o
theorem zn{i:Nat}(hi:i<C.aj.length){aw:aV}{hd:Nat}(h:fJ X w C)(hl:(C.aj[i]).full=true->∀j:Nat,(C.aj[i]).no=j->aw.now j=(C.aj[i]).l)(y:∀j:Nat,((C.aj[i]).full=true->(C.aj[i]).no≠j)->aw.now j=C.D.now j)(f0:Fr)(n:f0.full=false)(no:Nat):
 (bN.mk C.c C.aR (C.aj.set i f0) hd aw).view no=C.view no:=by
 by_cases hex:∃ (k:Nat) (m:k<C.aj.length),(C.aj[k]).full=true/\(C.aj[k]).no=no
 .obtain⟨k,m,h1,d⟩:=hex
  have p:=kX (fs:=C.aj) (D:=C.D) (c:=C.c) (aR:=C.aR) (hd:=C.hand) h.un m h1 d;have p:C.view no=(C.aj[k]).l:=p;rw[p];by_cases e:i=k
  .subst e
   rw[←hl h1 no d];refine kY λf hf av u=>?_;obtain⟨a,o,rfl⟩:=eD hf;have q:a<C.aj.length:=by simpa using o
   by_cases g:i=a
   .subst g
    simp only[gN]at av;rw[n]at av;cases av
   .simp only[eZ g]at av u
    exact g (h.un i a hi q h1 av (by rw[d,u]))
  .have z:k<(C.aj.set i f0).length:=by simpa using m
   have r:(C.aj.set i f0)[k]=C.aj[k]:=eZ e _;have A:∀ (a b:Nat) (o:a<(C.aj.set i f0).length) (v:b<(C.aj.set i f0).length),((C.aj.set i f0)[a]).full=true->((C.aj.set i f0)[b]).full=true->((C.aj.set i f0)[a]).no=((C.aj.set i f0)[b]).no->a=b:=by
    intro a b o v h1 d s;have q:a<C.aj.length:=by simpa using o
    have B:b<C.aj.length:=by simpa using v
    by_cases g:i=a
    .subst g
     simp only[gN]at h1;rw[n]at h1;cases h1
    by_cases x:i=b
    .subst x
     simp only[gN]at d;rw[n]at d;cases d
    simp only[eZ g]at h1 s;simp only[eZ x]at d s;exact h.un a b q B h1 d s
   rw[kX A z (by rw[r];exact h1) (by rw[r];exact d),r]
 .have t:∀f∈C.aj,f.full=true->f.no≠no:=λf hf h1 d=>by
   obtain⟨k,m,rfl⟩:=eD hf;exact hex ⟨k,m,h1,d⟩
  have e:C.view no=C.D.now no:=kY (fs:=C.aj) (D:=C.D) (c:=C.c) (aR:=C.aR) (hd:=C.hand) t;rw[e,←y no λh1 d=>t _ (cm hi) h1 d];refine kY λf hf h1 d=>?_;rcases kB hf with hf|rfl
  .exact t f hf h1 d
  .rw[n]at h1;cases h1
theorem zo{X:Nat->Prop}{w:J}{C:bN}(h:fJ X w C){no:Nat}{s:Y}{l:cF}(hs:¬C.D.bD no=true):jw (C.D.put no s l) C.D:=
 ⟨rfl,λ_ h=>h,λj a=>by
  have a:C.D.bD j=true:=a
  rw[zi,if_neg λe=>hs (by rw[←e];exact a)];exact h.jT j a⟩
theorem zp(D:aV){no:Nat}{s:Y}{l:cF}(hs:¬D.bD no=true):(D.put no s l).key=D.key:=by
 have h1:=oE D (k:=2) (.inr rfl);unfold aV.key at h1⊢;have b:(D.put no s l).iU=D.iU:=by
  funext n;exact propext ⟨λ_ h=>absurd (h no) hs,λ_ h=>absurd (h no) hs⟩
 rw[b];have a:=congrArg Prod.snd h1;show((D.a_,D.bD,D.dQ,D.iU),(D.b_ 2).bY.getD 3 0)=_;have a:(D.b_ 2).bY.getD 3 0=D.bY.getD 3 0:=a;rw[a]
def zq(X:Nat->Prop)(C:bN)(w:J)(v:aa)(w':J):Prop:=
 ∃aC:bN,dy X w' aC/\dY C aC w w' 1/\aC.aR=C.aR/\(∀j,aC.view j=C.view j)/\(∀f∈aC.aj,f.full=true->∃g∈C.aj,g.full=true/\g.no=f.no)/\
  ((∃ (i:Nat) (hi:i<aC.aj.length),v=.tuple #[.pointer (some ⟨C.aR,i*6,none⟩),(0:Int)]/\(aC.aj[i]).full=false/\((aC.aj[i]).pins=0))\/
   (v=.tuple #[.pointer none,(3:Int)]/\¬C.D.calm 1))
theorem zr(h:dy X w C)(az:C.D.aO<=1000000000):aH ai 221 #[.pointer (some C.c)] w (zq X C w):=by
 have U:=h.raw;refine okF (af.sY (some C.c)) ay.sY func221 ?_;(delta af.sY jK al a7 r1 ak aA;dsimp only);refine(DS U).use ?_;rintro _ _ ⟨he,rfl⟩;rcases he with ⟨i,hi,rfl,hf⟩|⟨rfl,aB⟩
 .exact⟨_,rfl,λ_=>⟨C,h,(dY.refl C w).mono (cI _),rfl,λ_=>rfl,λf hf H=>⟨f,hf,H,rfl⟩,.inl ⟨i,hi,rfl,hf,h.inv.pins _ (cm hi)⟩⟩,λh=>(by cases h)⟩
 refine⟨_,rfl,λh=>(by cases h),λ_=>(DT U h.inv.pins).use ?_⟩;rintro _ w1 ⟨i,gs,hd,hi,rfl,z,r,aC⟩;have W:i<gs.length:=by rw[z.1];exact hi
 have L:ae (cK C) w w1:=aC.mono λq _ n=>by
  rcases n with n|n
  .exact .inl n
  .exact .inr (.inl n)
 have E:=qd (hd:=hd) (aw:=C.D) h.inv z L (λq _ h=>h) h.inv.qa (λ_=>rfl) λq n=>.inl n;have P:=qe (hd:=hd) (aw:=C.D) h.inv z λ_=>rfl;obtain⟨a,F⟩:∃a:bN,a={C with aj:=gs,hand:=hd}:=⟨_,rfl⟩;have E:fJ X w1 a:=by rw[F];exact E
 have r:eM w1 a:=by rw[F];exact r
 have P:∀no,a.view no=C.view no:=by rw[F];exact P
 have Y:∀q,cK a q↔cK C q:=by rw[F];exact λq=>Iff.rfl
 have o:a.D=C.D:=by rw[F]
 have p:a.c=C.c/\a.aR=C.aR:=by rw[F];exact⟨rfl,rfl⟩
 have I:a.aj=gs:=by rw[F]
 have A:i<a.aj.length:=by rw[I];exact W
 have R:(a.aj[i]).full=true:=by
  have e:=z.2 i hi W;have:(gs[i]).full=(C.aj[i]).full:=by rw[e]
  simp only[I];rw[this];exact aB _ (cm hi)
 have Z:∀f∈a.aj,f.full=true->∃g∈C.aj,g.full=true/\g.no=f.no:=by
  rw[I];intro f hf H;obtain⟨k,aa,rfl⟩:=eD hf;have ac:k<C.aj.length:=by rw[←z.1];exact aa
  have e:=z.2 k ac aa;have aD:(gs[k]).full=(C.aj[k]).full:=by rw[e]
  have aE:(gs[k]).no=(C.aj[k]).no:=by rw[e]
  exact⟨C.aj[k],cm ac,by rw[←aD];exact H,aE.symm⟩
 obtain⟨no,av,aF,ag,aG,aI,aJ⟩:=E.ok _ (cm A) R;have f1:=iV r.f A (j:=1) (by decide)
 have fin:∀ (ah:J) (aw:aV),ae (cK C) w1 ah->eM ah {a with D:=aw}->dY C {a with D:=aw} w ah 1->jw aw C.D->(∀j:Nat,(a.aj[i]).no≠j->aw.now j=C.D.now j)->(∀j:Nat,(a.aj[i]).no=j->aw.now j=(a.aj[i]).l)->(∀q,bF aw q->bF C.D q\/w1.heap.size<=q)->
  ∃S:ab,(some ⟨C.aR,i*6,none⟩:an ab)=some S/\bz ah S [false,false,false,(0:Int),(0:Int),()]/\(6:Nat)=6/\ao (setCells ah S 0 [false,false,false,(0:Int),(0:Int),()]) λaK=>zq X C w (.tuple #[.pointer (some ⟨C.aR,i*6,none⟩),(0:Int)]) aK:=by
  intro ah aw aL t B aM am aN K;have aP:bh ah a.aR (b1 Fr.c a.aj).toArray 288:=t.f;obtain⟨s1,s2,M⟩:=vV aP A dm;rw[p.2]at s1 s2 M;have aQ:fJ X (setCells ah ⟨C.aR,i*6,none⟩ 0 dm.c) {a with aj:=a.aj.set i dm,D:=aw}:=by
   refine vW (V:=cK C) (w:=w1) A E (aL.trans (M.mono λq _ e=>.inr (.inl e))) (λq _ n=>(Y q).2 n) (by rw[o];exact aM) (λj u=>by rw[o];exact am j λe=>u R e) (λq n=>by rw[o];exact K q n) dm rfl rfl
  have aS:=t.v;refine⟨_,rfl,s1,rfl,aY ⟨{a with aj:=a.aj.set i dm,D:=aw},⟨?_,aQ⟩,?_,p.2,λj=>?_,λf hf H=>?_,.inl ⟨i,by show i<(a.aj.set i dm).length;rw[cX];exact A,rfl,by simp[dm],by simp[dm]⟩⟩⟩
  .have aT:a.c≠C.aR:=by have:=t.a1.1;rw[←p.2];exact this
   refine⟨?_,by show bh _ a.aR _ _;rw[p.2];exact s2,t.dev.ad M (λq n e=>t.a1.2.2 (by rw[show({a with D:=aw}:bN).aR=a.aR from rfl,p.2,←e];exact n)),?_,?_,?_,t.a1⟩
   .have:=aS.ad M aT
    show Var _ _ [_,.slice _ (a.aj.set i dm).length (a.aj.set i dm).length,_] _;rw[cX];exact this
   .show 8<=(a.aj.set i dm).length;rw[cX];exact t.bR
   .show(a.aj.set i dm).length<=64;rw[cX];exact t.b3
   .show a.hand<(a.aj.set i dm).length;rw[cX];exact t.hd
  .refine⟨B.c,B.d,by show(a.aj.set i dm).length=_;rw[cX];exact B.len,B.a_,B.aO,B.calm,B.ad.trans (M.mono λq _ e=>.inr (.inl e)),B.cN⟩
  .rw[←P]
   exact zn A E (λ_ j u=>aN j u) (λj u=>by rw[o];exact am j λe=>u R e) dm rfl j
  .rcases kB hf with hf|rfl
   .exact Z f hf H
   .cases H
 refine⟨_,rfl,λh=>(by cases h),λ_=>jm (λah=>∃aw:aV,ae (cK C) w1 ah/\eM ah {a with D:=aw}/\dY C {a with D:=aw} w ah 1/\jw aw C.D/\(∀j:Nat,(a.aj[i]).no≠j->aw.now j=C.D.now j)/\(∀j:Nat,(a.aj[i]).no=j->aw.now j=(a.aj[i]).l)/\(∀q,bF aw q->bF C.D q\/w1.heap.size<=q)) (λq n=>⟨_,rfl,(a.aj[i]).fa,?_,λaU=>?_,λaW=>n _ ⟨C.D,.refl _ _,?_,?_,h.inv.qa,λ_ _=>rfl,λj u=>?_,λq h=>.inl h⟩⟩) ?_⟩
 .rw[ax,←p.2];exact f1
 .
  have Q:=cr w1;have y:=r.ext Q;obtain⟨ap,_,_⟩:=y.cells;rw[p.1,o]at ap;have f3:=iV y.f A (j:=3) (by decide);have f5:=iV y.f A (j:=5) (by decide);rw[p.2]at f3 f5;refine aY ⟨_,rfl,id,_,ap,_,rfl,id,(no:Int),?_,_,rfl,id,(a.aj[i]).b,by rw[ax];exact f5,?_⟩
  .rw[ax,f3]
   show some (Value.int .i64 (a.aj[i]).no)=_;rw[av]
  have aX:cj w1.drew C.D:=by rw[←o];exact y.dev
  have aq:¬C.D.bD no=true:=λhs=>by
   have:=aJ (by rw[o];exact hs);rw[aU]at this;cases this
  refine(tJ aX (i:=no) (by rw[←o];exact aF) az (ag.1.ext Q) aG λq n hf=>(ag.2.2 q n).1.1 (.inr (.inr (by rw[o];exact hf)))).use ?_;rintro a9 ah aZ;rcases aZ with ⟨ar,rfl,T,G⟩|⟨ar,rfl,s,T,G,a0⟩
  .have N:ae (cK C) w1 ah:=(ae.cJ Q).trans (G.mono λq _ e=>.inr (.inr (.inl e)))
   refine⟨3,rfl,λ_=>⟨{a with D:=C.D.b_ 2},⟨?_,?_⟩,?_,p.2,λj=>?_,Z,.inr ⟨rfl,λa6=>?_⟩⟩,λh=>(by cases h)⟩
   .have t:=y.v.ad G (λe=>y.a1.2.1 (.inl (by rw[o];exact e)))
    rw[o]at t;have au:=r.a1;rw[o]at au;exact⟨t,bh.ad y.f G (λe=>y.a1.2.2 (.inl (by rw[o];exact e))),T,r.bR,r.b3,r.hd,au⟩
   .have:=qd (C:=a) (hd:=a.hand) (aw:=C.D.b_ 2) E (gG.refl _) N (λq _ n=>(Y q).2 n) (by rw[o];exact h.inv.b_ 2) (λj=>by rw[o];rfl) λq n=>.inl (by rw[o];exact n)
    exact this
   .refine⟨p.1,rfl,by show a.aj.length=_;rw[I];exact z.1,oE C.D (.inr rfl),Nat.le_succ _,λm O=>(iD (.inr rfl) h.raw.dev.f4 O).1,L.trans N,λq n=>.inl ?_⟩
    rcases n with e|e|e
    .exact .inl (by rw[←p.1];exact e)
    .exact .inr (.inl (by rw[←p.2];exact e))
    .exact .inr (.inr e)
   .rw[←P]
    exact qe (C:=a) E (gG.refl _) (λj=>by rw[o];rfl) j
   .have:=(iD (k:=2) (m:=0) (.inr rfl) h.raw.dev.f4 a6).2
    rw[ar]at this;cases this
  .have N:ae (cK C) w1 ah:=(ae.cJ Q).trans (G.mono λq _ e=>.inr (.inr e))
   have K:∀q,bF (C.D.put no s (a.aj[i]).l) q->bF C.D q\/w1.heap.size<=q:=by
    rintro q (e|e|e|⟨x,hx,e⟩)
    .exact .inl (.inl e)
    .exact .inl (.inr (.inl e))
    .exact .inl (.inr (.inr (.inl e)))
    .rcases cR.1 hx with rfl|hx
     .exact a0 q e
     .exact .inl (.inr (.inr (.inr ⟨x,(g0.1 hx).1,e⟩)))
   have cS:∀q,bF C.D q->q≠a.c/\q≠a.aR:=λq n=>⟨λe=>r.a1.2.1 (by rw[o,←e];exact n),λe=>r.a1.2.2 (by rw[o,←e];exact n)⟩;refine⟨0,rfl,λh=>(by cases h),λ_=>n _ ⟨C.D.put no s (a.aj[i]).l,N,?_,?_,zo h.inv aq,λj u=>?_,λj u=>?_,K⟩⟩
   .have t:=y.v.ad G (λe=>(cS _ e).1 rfl)
    rw[o]at t;have a8:a.c<w1.heap.size:=r.v.lt;have ba:a.aR<w1.heap.size:=bh.lt r.f;refine⟨t,bh.ad y.f G (λe=>(cS _ e).2 rfl),T,r.bR,r.b3,r.hd,r.a1.1,λe=>?_,λe=>?_⟩
    .rcases K _ e with h1|h1
     .exact(cS _ h1).1 rfl
     .have:a.c<w1.heap.size:=a8
      have h1:w1.heap.size<=a.c:=h1;omega
    .rcases K _ e with h1|h1
     .exact(cS _ h1).2 rfl
     .have h1:w1.heap.size<=a.aR:=h1
      omega
   .refine⟨p.1,rfl,by show a.aj.length=_;rw[I];exact z.1,zp C.D aq,br _,λm O=>(iD (.inr rfl) h.raw.dev.f4 O).1,L.trans N,λq n=>?_⟩
    rcases n with e|e|e
    .exact .inl (.inl (by rw[←p.1];exact e))
    .exact .inl (.inr (.inl (by rw[←p.2];exact e)))
    .rcases K q e with h1|h1
     .exact .inl (.inr (.inr h1))
     .exact .inr (eC L.size h1)
   .rw[m3,if_neg (λe=>u (by rw[av,e]))]
   .rw[m3,if_pos (by rw[av]at u;omega)]
 .rw[←o];exact r
 .refine⟨p.1,rfl,by show a.aj.length=_;rw[I];exact z.1,rfl,Nat.le_succ _,λm O=>fT O (Nat.le_succ _),L,λq n=>.inl ?_⟩
  rcases n with e|e|e
  .exact .inl (by rw[←p.1];exact e)
  .exact .inr (.inl (by rw[←p.2];exact e))
  .exact .inr (.inr e)
 .have:no=j:=by rw[av]at u;omega
  subst this;rw[←o];exact(aI aW).symm
 .rintro ah ⟨aw,a1,a2,a3,a4,a5,c_,dK⟩
  exact fin ah aw a1 a2 a3 a4 a5 c_ dK
end
def qf(fs:O Fr):Prop:=∀ (i j:Nat) (hi:i<fs.length) (a:j<fs.length),(fs[i]).full=true->(fs[j]).full=true->(fs[i]).no=(fs[j]).no->i=j
theorem zt{fs gs:O Fr}{D aw:aV}{c aR hd c' n o j:Nat}(p:qf fs)(q:qf gs)(h1:∀ (i:Nat) (hi:i<fs.length),(fs[i]).full=true->(fs[i]).no=j->∃ (k:Nat) (a:k<gs.length),(gs[k]).full=true/\(gs[k]).no=j/\(gs[k]).l=(fs[i]).l)
 (b:(∀f∈fs,f.full=true->f.no≠j)->(∀f∈gs,f.full=true->f.no≠j)/\aw.now j=D.now j):(bN.mk c' n gs o aw).view j=(bN.mk c aR fs hd D).view j:=by
 by_cases hex:∃ (k:Nat) (a:k<fs.length),(fs[k]).full=true/\(fs[k]).no=j
 .obtain⟨k,a,av,g⟩:=hex
  obtain⟨m,r,d,e,s⟩:=h1 k a av g;rw[kX p a av g,kX q r d e,s]
 .have h:∀f∈fs,f.full=true->f.no≠j:=λf hf h1 b=>by
   obtain⟨k,a,rfl⟩:=eD hf;exact hex ⟨k,a,h1,b⟩
  obtain⟨d,e⟩:=b h;rw[kY h,kY d,e]
section
variable {w w':J}{C:bN}{X:Nat->Prop}
theorem vX{i:Nat}(hi:i<C.aj.length){no:Nat}{V:Nat->Prop}(h:fJ X w C)(hc:ae V w w')(dC:∀q,q<w.heap.size->V q->cK C q){aw:aV}(s:jw aw C.D)(B:∀j,aw.now j=C.D.now j)(E:∀q,bF aw q↔bF C.D q)
 (d:Fr) (Q:d.full=true) (F:d.pins=0) (t:zl X w' {C with aj:=C.aj.set i d,D:=aw} d no) (u:∀ (k:Nat) (v:k<C.aj.length),k≠i->(C.aj[k]).full=true->(C.aj[k]).no≠no):fJ X w' {C with aj:=C.aj.set i d,D:=aw}:=by
 have G:=hc.size;have x:∀q,cK {C with aj:=C.aj.set i d,D:=aw} q->cK C q:=λq hf=>by
  rcases hf with h1|h1|h1
  .exact .inl h1
  .exact .inr (.inl h1)
  .exact .inr (.inr ((E q).1 h1))
 refine⟨λf hf=>?_,λf hf y=>?_,λa b H g h1 o c=>?_,λq p=>⟨fc (h.eI q p).1 G,λhf=>(h.eI q p).2 (x q hf)⟩,s.2.2⟩
 .rcases kB hf with hf|rfl
  .exact h.pins f hf
  .exact F
 .obtain⟨k,v,rfl⟩:=eD hf
  have I:k<C.aj.length:=by simpa using v
  by_cases e:i=k
  .subst e
   simp only[gN];exact⟨no,t⟩
  .simp only[eZ e]at y⊢
   obtain⟨m,av,J,K,L,M,N,O⟩:=h.ok _ (cm I) y;exact⟨m,av,by show m<aw.n;rw[s.1];exact J,bg.re K hc (λq p g P=>g.1 (dC q p P)) λq _ g=>⟨λhf=>g.1 (x q hf),g.2⟩,L,λhd=>by show _=aw.now m;rw[B];exact M hd,λhs=>N (s.2.1 _ hs),O⟩
 .have z:a<C.aj.length:=by simpa using H
  have A:b<C.aj.length:=by simpa using g
  by_cases r:i=a
  .by_cases l:i=b
   .omega
   .subst r
    simp only[gN]at c;simp only[eZ l]at o c;exact absurd (by rw[←c];exact t.num) (u b A (λe=>l e.symm) o)
  .by_cases l:i=b
   .subst l
    simp only[gN]at c;simp only[eZ r]at h1 c;exact absurd (by rw[c];exact t.num) (u a z (λe=>r e.symm) h1)
   .simp only[eZ r]at h1 c
    simp only[eZ l]at o c;exact h.un a b z A h1 o c
theorem DU{i:Nat}(hi:i<C.aj.length){no:Nat}(h:qf C.aj)(j:Fr)(l:j.no=no)(m:∀ (k:Nat) (r:k<C.aj.length),k≠i->(C.aj[k]).full=true->(C.aj[k]).no≠no):qf (C.aj.set i j):=by
 intro a b p q h1 f c;have n:a<C.aj.length:=by simpa using p
 have o:b<C.aj.length:=by simpa using q
 by_cases g:i=a
 .by_cases d:i=b
  .omega
  .subst g
   simp only[gN]at c;simp only[eZ d]at f c;exact absurd (by rw[←c];exact l) (m b o (λe=>d e.symm) f)
 .by_cases d:i=b
  .subst d
   simp only[gN]at c;simp only[eZ g]at h1 c;exact absurd (by rw[c];exact l) (m a n (λe=>g e.symm) h1)
  .simp only[eZ g]at h1 c
   simp only[eZ d]at f c;exact h a b n o h1 f c
theorem vY{i:Nat}(hi:i<C.aj.length){no:Nat}(h:qf C.aj){aw:aV}(n:∀j,aw.now j=C.D.now j)(a:Fr)(o:a.full=true)(d:a.no=no)(hold:(C.aj[i]).full=true->(C.aj[i]).no=no)(p:∀ (k:Nat) (m:k<C.aj.length),k≠i->(C.aj[k]).full=true->(C.aj[k]).no≠no){hd:Nat}(j:Nat):
 (bN.mk C.c C.aR (C.aj.set i a) hd aw).view j=if j=no then a.l else C.view j:=by
 have hu:=DU hi h a d p;have q:i<(C.aj.set i a).length:=by simpa using hi
 by_cases e:j=no
 .subst e
  rw[if_pos rfl,kX hu q (by simp[o]) (by simpa using d)];simp
 .rw[if_neg e]
  refine zt (fs:=C.aj) (D:=C.D) (c:=C.c) (aR:=C.aR) (hd:=C.hand) h hu (λk m av b=>?_) λr=>⟨λf hf av b=>?_,n j⟩
  .have g:i≠k:=λs=>by
    subst s;have:=hold av;rw[b]at this;exact e I
   have t:k<(C.aj.set i a).length:=by simpa using m
   exact⟨k,t,by simp only[eZ g];exact av,by simp only[eZ g];exact b,by simp only[eZ g]⟩
  .rcases kB hf with hf|rfl
   .exact r f hf av b
   .rw[d]at b
    exact e I
def DV(X:Nat->Prop)(C:bN)(no:Nat)(w:J)(v:aa)(w':J):Prop:=
 ∃aC:bN,dy X w' aC/\dY C aC w w' 2/\(∀j,aC.view j=C.view j)/\
  ((∃s:Y,v=.tuple #[s,(0:Int)]/\bg (λq=>w.heap.size<=q/\¬cK aC q/\¬X q) w' s (C.view no))\/(v=.tuple #[(),(3:Int)]/\¬C.D.calm 2))
theorem DW(h:dy X w C)(ba:C.D.aO<=999999999){no:Nat}(aE:no<C.D.n)(aF:2<=no):aH ai 239 #[.pointer (some C.c),no] w (DV X C no w):=by
 have r:=h.raw;refine okF (af.sZ (some C.c) (no:Int)) ay.sZ func239 ?_;(delta af.sZ aG al jK st ak aW de bW;dsimp only);refine(zm r _).use ?_;rintro _ _ ⟨rfl,rfl⟩;refine⟨_,rfl,λF=>?_,λ_=>(tL r _).use ?_⟩
 .have:decide (0<=(no:Int)/\(no:Int)<C.D.n)=true:=dv ⟨I,I⟩
  rw[this]at F;cases F
 rintro _ _ ⟨aI,rfl⟩;rcases aI with ⟨i,hi,rfl,hf,aJ⟩|⟨rfl,aK⟩
 .
  obtain⟨av,aL,M,J⟩:=lP r.f hi (j:=2) (by decide) (v:=true) {C.aj[i] with used:=true} rfl;have ab:gG C.aj (C.aj.set i {C.aj[i] with used:=true}):=(gG.refl C.aj).set hi true;have K:ae (cK C) w (w.setCell ⟨C.aR,i*6+2,none⟩ true):=J.mono λq _ e=>.inr (.inl e);have hinv:=qd (hd:=C.hand) (aw:=C.D) h.inv ab K (λq _ h=>h) h.inv.qa (λ_=>rfl) λq p=>.inl p;have aM:=qe (hd:=C.hand) (aw:=C.D) h.inv ab λ_=>rfl;obtain⟨w1,ac⟩:∃w1,w1=w.setCell ⟨C.aR,i*6+2,none⟩ true:=⟨_,rfl⟩;rw[←ac]at M J K hinv;have N:eM w1 {C with aj:=C.aj.set i {C.aj[i] with used:=true}}:=by
   refine⟨?_,M,r.dev.ad J (λq p e=>r.a1.2.2 (e▸p)),?_,?_,?_,r.a1⟩
   .have:=r.v.ad J r.a1.1
    show Var _ _ [_,.slice _ (C.aj.set i _).length (C.aj.set i _).length,_] _;rw[cX];exact this
   .show 8<=(C.aj.set i _).length;rw[cX];exact r.bR
   .show(C.aj.set i _).length<=64;rw[cX];exact r.b3
   .show C.hand<(C.aj.set i _).length;rw[cX];exact r.hd
  obtain⟨a,O⟩:∃a:bN,a={C with aj:=C.aj.set i {C.aj[i] with used:=true}}:=⟨_,rfl⟩;have P:dy X w1 a:=by rw[O];exact⟨N,hinv⟩
  have ag:i<(C.aj.set i {C.aj[i] with used:=true}).length:=by simpa using hi
  have f5:=iV M ag (j:=5) (by decide);obtain⟨m,bR,b3,am,an,bb,bc,bd⟩:=hinv.ok ((C.aj.set i {C.aj[i] with used:=true})[i]) (cm ag) (by simp[hf]);have aN:((C.aj.set i {C.aj[i] with used:=true})[i]).b=(C.aj[i]).b:=by simp
  have ao:((C.aj.set i {C.aj[i] with used:=true})[i]).l=(C.aj[i]).l:=by simp
  rw[aN,ao]at am;rw[ao]at an;refine⟨_,rfl,λ_=>⟨_,rfl,by rw[ax];exact av,by rw[ax];exact aL,?_⟩,λh=>(by cases h)⟩;rw[ax,←ac];refine aY ⟨_,rfl,(C.aj[i]).b,by rw[ax,f5];simp[Fr.c],(jt (B:=λq=>w1.heap.size<=q) am.1 (by rw[an];omega) (λq p=>p)).use ?_⟩;rintro _ ah ⟨s,rfl,hs,ap,_⟩;have aP:C.view no=(C.aj[i]).l:=kX (fs:=C.aj) (D:=C.D) (c:=C.c) (aR:=C.aR) (hd:=C.hand) h.inv.un hi hf aJ;have aQ:=K.size;refine⟨s,rfl,a,P.ext ap,?_,?_,.inl ⟨s,rfl,?_⟩⟩
  .rw[O]
   exact⟨rfl,rfl,by show(C.aj.set i _).length=_;rw[cX],rfl,Nat.le_add_right _ _,λm Q=>fT Q I,K.trans (ae.cJ ap),λq p=>.inl p⟩
  .intro j;rw[O];exact aM j
  .rw[aP]
   refine bg.aU hs λq _ p=>⟨I,λhf=>?_,λG=>?_⟩
   .have:=P.raw.lt hf;omega
   .have:=(P.inv.eI q G).1;omega
 .
  refine⟨_,rfl,λh=>(by cases h),λ_=>(zr h I).use ?_⟩;rintro _ w1 ⟨a,o,y,A,H,aS,N⟩;rcases N with ⟨i,hi,rfl,aT,be⟩|⟨rfl,aV⟩
  .refine⟨_,_,rfl,λh=>(by simp at h),λ_=>⟨_,rfl,some C.D.d,?_,?_⟩⟩
   .have:=o.raw.cells.1
    rw[y.c,y.d]at this;exact this
   have R:no<a.D.n:=by rw[y.n];exact aE
   have bf:=y.aO;rw[←y.d];refine(vT o.raw.dev R I).use ?_;rintro bi ah ⟨aq,L,aX⟩;have ar:=λq=>o.raw.lt (q:=q);have S:ae (cK a) w1 ah:=L.mono λq _ e=>.inr (.inr (.inl e))
   have T:∀f∈a.aj,f.full=true->f.no≠no:=λf hf aZ a0=>by
    obtain⟨g,hg,h1,a2⟩:=aS f hf aZ;exact aK g hg h1 (by rw[a2,a0])
   have a3:a.D.calm 1\/¬C.D.calm 2:=by
    rcases Classical.em (C.D.calm 2) with h1|h1
    .exact .inl (y.calm 1 h1)
    .exact .inr h1
   have au:a.view no=a.D.now no:=kY (fs:=a.aj) (D:=a.D) (c:=a.c) (aR:=a.aR) (hd:=a.hand) T;have U:∀q,bF a.D q->q≠a.c/\q≠a.aR:=λq p=>⟨λe=>o.raw.a1.2.1 (e▸p),λe=>o.raw.a1.2.2 (e▸p)⟩;have a4:fJ X ah {a with D:=a.D.b_ 1}:=qd (C:=a) (hd:=a.hand) (aw:=a.D.b_ 1) o.inv (gG.refl _) S (λq _ h=>h) (o.inv.b_ 1) (λ_=>rfl) λq p=>.inl p;have u:dY C {a with D:=a.D.b_ 1} w ah 2:=by
    have:dY a {a with D:=a.D.b_ 1} w1 ah 1:=⟨rfl,rfl,rfl,oE a.D (.inl rfl),Nat.le_succ _,λm Q=>(iD (.inl rfl) o.raw.dev.f4 Q).1,S,λq p=>.inl p⟩;exact y.trans this
   have a5:∀j,({a with D:=a.D.b_ 1}:bN).view j=C.view j:=λj=>by rw[←H];exact qe (C:=a) o.inv (gG.refl _) (λ_=>rfl) j
   have W:eM ah {a with D:=a.D.b_ 1}:=⟨o.raw.v.ad L (λe=>(U _ (.inl rfl)).1 e.symm),bh.ad o.raw.f L (λe=>(U _ (.inl rfl)).2 e.symm),aq,o.raw.bR,o.raw.b3,o.raw.hd,o.raw.a1⟩;rcases aX with ⟨F,rfl⟩|⟨F,s,rfl,hs⟩
   .refine⟨⟨none,0,0⟩,3,rfl,λ_=>⟨{a with D:=a.D.b_ 1},⟨W,a4⟩,u,a5,.inr ⟨rfl,?_⟩⟩,λh=>(by simp at h)⟩
    rcases a3 with h1|h1
    .have:=(iD (k:=1) (m:=0) (.inl rfl) o.raw.dev.f4 h1).2
     rw[F]at this;cases this
    .exact h1
   .have az:(a.D.now no).length=256:=o.raw.dev.m0 R
    obtain⟨s1,s2,z⟩:=vV W.f hi ⟨true,false,true,(no:Int),0,s,a.D.now no⟩;rw[A]at s1 s2 z;have bj:=L.size;have aQ:=y.ad.size;refine⟨s,_,rfl,λh=>(by simp at h),λ_=>⟨_,rfl,s1,rfl,?_⟩⟩;obtain⟨x,aA⟩:∃x,x=setCells ah ⟨C.aR,i*6,none⟩ 0 (Fr.c ⟨true,false,true,(no:Int),0,s,a.D.now no⟩):=⟨_,rfl⟩;rw[←aA]at s2 z;have hg:setCells ah ⟨C.aR,i*6,none⟩ 0 [true,false,true,no,(0:Int),s]=x:=aA.symm;rw[hg];have aB:ae (cK a) ah x:=z.mono λq _ e=>.inr (.inl (by rw[A];exact e));have aC:bg (λq=>w1.heap.size<=q) x s (a.D.now no):=bg.ad hs z λq p e=>by
     have:=ar C.aR (.inr (.inl A.symm));omega
    have a6:fJ X x {a with aj:=a.aj.set i ⟨true,false,true,(no:Int),0,s,a.D.now no⟩,D:=a.D.b_ 1}:=by
     refine vX (w:=w1) (V:=cK a) (aw:=a.D.b_ 1) hi (no:=no) o.inv (S.trans aB) (λq _ h=>h) (o.inv.b_ 1) (λ_=>rfl) (λq=>Iff.rfl) ⟨true,false,true,(no:Int),0,s,a.D.now no⟩ rfl rfl ⟨rfl,R,?_,az,λ_=>rfl,λ_=>rfl,aF⟩ λk Y _ h1=>T _ (cm Y) h1;refine bg.aU aC λq _ p=>⟨λhf=>?_,λG=>?_⟩
     .have:cK a q:=hf
      have:=ar q this;omega
     .have:=(o.inv.eI q G).1;omega
    have a7:∀j,({a with aj:=a.aj.set i ⟨true,false,true,(no:Int),0,s,a.D.now no⟩,D:=a.D.b_ 1}:bN).view j=C.view j:=λj=>by
     have:=vY (hd:=a.hand) (aw:=a.D.b_ 1) hi (no:=no) o.inv.un (λ_=>rfl) ⟨true,false,true,(no:Int),0,s,a.D.now no⟩ rfl rfl (λh1=>by rw[aT]at h1;cases h1) (λk Y _ h1=>T _ (cm Y) h1) j;rw[show({a with aj:=a.aj.set i ⟨true,false,true,(no:Int),0,s,a.D.now no⟩,D:=a.D.b_ 1}:bN)=bN.mk a.c a.aR (a.aj.set i ⟨true,false,true,(no:Int),0,s,a.D.now no⟩) a.hand (a.D.b_ 1) from rfl,this];by_cases e:j=no
     .rw[if_pos e,e,←H,au]
     .rw[if_neg e,H]
    have a8:eM x {a with aj:=a.aj.set i ⟨true,false,true,(no:Int),0,s,a.D.now no⟩,D:=a.D.b_ 1}:=by
     refine⟨?_,by show bh _ a.aR _ _;rw[A];exact s2,aq.ad z (λq p e=>(U q p).2 (by rw[A];exact e)),?_,?_,?_,o.raw.a1⟩
     .have:=W.v.ad z (λe=>o.raw.a1.1 (by rw[A];exact e))
      show Var _ _ [_,.slice _ (a.aj.set i _).length (a.aj.set i _).length,_] _;rw[cX];exact this
     .show 8<=(a.aj.set i _).length;rw[cX];exact o.raw.bR
     .show(a.aj.set i _).length<=64;rw[cX];exact o.raw.b3
     .show a.hand<(a.aj.set i _).length;rw[cX];exact o.raw.hd
    obtain⟨E,Z⟩:∃E:bN,E={a with aj:=a.aj.set i ⟨true,false,true,(no:Int),0,s,a.D.now no⟩,D:=a.D.b_ 1}:=⟨_,rfl⟩;have aa:dy X x E:=by rw[Z];exact⟨a8,a6⟩
    have a9:dY C E w x 2:=by
     rw[Z];exact⟨u.c,u.d,by show(a.aj.set i _).length=_;rw[cX];exact u.len,u.a_,u.aO,u.calm,ck u.ad aB λq p h=>(u.cN q h).resolve_right I,u.cN⟩
    refine aY ((jt (B:=λq=>x.heap.size<=q) aC.1 (by rw[az];omega) (λq p=>p)).use ?_);rintro _ bk ⟨t,rfl,ht,aD,_⟩;have bl:=z.size;refine⟨t,rfl,E,aa.ext aD,?_,?_,.inl ⟨t,rfl,?_⟩⟩
    .exact(a9.trans (dY.ext E aD)).mono I
    .intro j;rw[Z];exact a7 j
    .rw[←H,au]
     refine bg.aU ht λq _ p=>⟨I,λhf=>?_,λG=>?_⟩
     .have:=aa.raw.lt hf;omega
     .have:=(aa.inv.eI q G).1;omega
  .refine⟨_,_,rfl,λ_=>⟨a,o,y.mono I,H,.inr ⟨rfl,λhc=>aV (fT hc I)⟩⟩,λh=>(by simp at h)⟩
end
section
variable {w w':J}{C:bN}{X:Nat->Prop}
def zu(X:Nat->Prop)(C:bN)(no:Nat)(l:cF)(w:J)(v:aa)(w':J):Prop:=
 ∃aC:bN,dy X w' aC/\dY C aC w w' 1/\
  ((v=.int .i64 0/\∀j,aC.view j=if j=no then l else C.view j)\/(v=.int .i64 3/\¬C.D.calm 1/\∀j,aC.view j=C.view j))
theorem vZ{i:Nat}{a:Fr}(h:eM w C)(hc:ae (λq=>q=C.aR) w w')(b:bh w' C.aR (b1 Fr.c (C.aj.set i a)).toArray 288):eM w' {C with aj:=C.aj.set i a}:=by
 refine⟨?_,b,h.dev.ad hc (λq d e=>h.a1.2.2 (e▸d)),?_,?_,?_,h.a1⟩
 .have:=h.v.ad hc h.a1.1
  show Var _ _ [_,.slice _ (C.aj.set i _).length (C.aj.set i _).length,_] _;rw[cX];exact this
 .show 8<=(C.aj.set i _).length;rw[cX];exact h.bR
 .show(C.aj.set i _).length<=64;rw[cX];exact h.b3
 .show C.hand<(C.aj.set i _).length;rw[cX];exact h.hd
theorem set_set{fs:O Fr}{i:Nat}(f g:Fr):(fs.set i f).set i g=fs.set i g:=List.set_set ..
theorem zv (h:dy X w C) (bu:C.D.aO≤999999999) {no:Nat} (aC:no<C.D.n) (aD:2≤no) (aE:¬C.D.bD no=true) {b:Y} {l:cF} (ak:Src 1 w b (aF l)) (hl:l.length=256) (am:∀q,aB b q→q<w.heap.size∧¬cK C q):
   aH ai 162 #[.pointer (some C.c),no,b] w (zu X C no l w):=by
 have P:=h.raw
 have aI:=len8 ak
 refine okF (af.sL (some C.c) (no:Int) b) ay.sL func162 ?_
 (delta af.sL aG al jK de st aW;dsimp only)
 refine(zm P _).use ?_
 rintro _ _ ⟨rfl,rfl⟩
 have aJ:decide (0≤(no:Int)∧(no:Int)<C.D.n)=true:=dv ⟨by omega,by omega⟩
 refine⟨_,rfl,fun h1=>?_,fun _=>(tL P _).use ?_⟩
 · rw[aJ,aI,hl] at h1
   simp at h1
 rintro _ _ ⟨aK,rfl⟩
 have fin:∀ (w1:J) (a:bN) (i:Nat) (hi:i<a.aj.length) (f1:Fr),dy X w1 a→dY C a w w1 1→a.aR=C.aR→(∀j,a.view j=C.view j)→f1.pins=0→∀ah:J,bh ah a.aR (b1 Fr.c (a.aj.set i f1)).toArray 288→ae (fun q=>q=a.aR) w1 ah→f1.full=true→f1.no=(no:Int)→
     ((a.aj[i]).full=true→(a.aj[i]).no=(no:Int))→(∀ (k:Nat) (E:k<a.aj.length),k≠i→(a.aj[k]).full=true→(a.aj[k]).no≠(no:Int))→
     Calls ai 135 #[b] ah fun aL Q=>∃ap:Y,aL= .returned ap∧∃H:ab,(some ⟨C.aR,i*6,none⟩:an ab)=some H∧(∃u:aa,Q.cell? (H.add 5)=some u)∧Q.frozen? (H.add 5)=false∧
       ao (Q.setCell (H.add 5) ap) fun R=>∃I:ab,(some ⟨C.aR,i*6,none⟩:an ab)=some I∧(∃u:aa,R.cell? (I.add 1)=some u)∧R.frozen? (I.add 1)=false∧
       ao (R.setCell (I.add 1) true) fun S=>∃K:ab,(some ⟨C.aR,i*6,none⟩:an ab)=some K∧(∃u:aa,S.cell? (K.add 2)=some u)∧S.frozen? (K.add 2)=false∧
       ao (S.setCell (K.add 2) true) fun aM=>zu X C no l w (0:Int) aM:=by
   intro w1 a i hi f1 y o x aN T ah aP L M aq hold ar
   have bv:=o.ad.size
   have bw:=L.size
   have bx:a.aR<w1.heap.size:=y.raw.lt (.inr (.inl rfl))
   have aQ:Src 1 ah b (aF l):=by
     refine(ak.ad o.ad fun q m hf=>(am q m).2 hf).ad L fun q m e=>(am q m).2 (.inr (.inl (by rw[←x];exact e)))
   refine(jt (B:=fun q=>ah.heap.size≤q) aQ (by omega) (fun q m=>m)).use ?_
   rintro _ aS ⟨s,rfl,hs,au,_⟩
   have aT:=bh.ext aP au
   have U:i<(a.aj.set i f1).length:=by rw[cX];exact hi
   have W:(a.aj.set i f1)[i]=f1:=by simp
   obtain⟨a1,a2,a3,a4⟩:=lP aT U (j:=5) (by decide) (v:=s) {f1 with b:=s} (by rw[W];rfl)
   rw[set_set] at a3
   have aV:i<(a.aj.set i {f1 with b:=s}).length:=by rw[cX];exact hi
   have aX:(a.aj.set i {f1 with b:=s})[i]={f1 with b:=s}:=by simp
   obtain⟨b8,bM,z,A⟩:=lP a3 aV (j:=1) (by decide) (v:=true) {f1 with b:=s,fa:=true} (by rw[aX];rfl)
   rw[set_set] at z
   have aZ:i<(a.aj.set i {f1 with b:=s,fa:=true}).length:=by rw[cX];exact hi
   have a0:(a.aj.set i {f1 with b:=s,fa:=true})[i]={f1 with b:=s,fa:=true}:=by simp
   obtain⟨d1,d2,d3,d4⟩:=lP z aZ (j:=2) (by decide) (v:=true) {f1 with b:=s,fa:=true,used:=true,l:=l} (by rw[a0];rfl)
   rw[set_set] at d3
   rw[x] at a1 a2 a3 a4 b8 bM z A d1 d2 d3 d4 L
   refine⟨s,rfl,_,rfl,by rw[ax];exact a1,by rw[ax];exact a2,?_⟩
   rw[ax]
   refine aY ⟨_,rfl,by rw[ax];exact b8,by rw[ax];exact bM,?_⟩
   rw[ax]
   refine aY ⟨_,rfl,by rw[ax];exact d1,by rw[ax];exact d2,?_⟩
   rw[ax]
   have N:=(L.trans (ae.cJ au)).trans (a4.trans (A.trans d4))
   obtain⟨t,r⟩:∃t:Fr,t={f1 with b:=s,fa:=true,used:=true,l:=l}:=⟨_,rfl⟩
   obtain⟨F,Z⟩:∃F,F=(((aS.setCell ⟨C.aR,i*6+5,none⟩ s).setCell ⟨C.aR,i*6+1,none⟩ true).setCell ⟨C.aR,i*6+2,none⟩ true):=⟨_,rfl⟩
   rw[←Z,←r] at d3
   rw[←Z] at N⊢
   have a5:bg (fun q=>ah.heap.size≤q) F s l:=by
     have h1:=bg.ad hs a4 fun q m e=>by rw[←x] at e;omega
     have G:=bg.ad h1 A fun q m e=>by rw[←x] at e;omega
     have a6:=bg.ad G d4 fun q m e=>by rw[←x] at e;omega
     rw[Z];exact a6
   have a7:eM F {a with aj:=a.aj.set i t}:=vZ y.raw (by rw[x];exact N) (by rw[x];exact d3)
   have a8:fJ X F {a with aj:=a.aj.set i t}:=by
     refine vX (w:=w1) (V:=fun q=>q=C.aR) (aw:=a.D) hi (no:=no) y.inv N (fun q _ e=> .inr (.inl (by rw[x];exact e))) y.inv.qa (fun _=>rfl) (fun q=>Iff.rfl) t (by rw[r];exact M) (by rw[r];exact T) ⟨by rw[r];exact aq,by show no<a.D.n;rw[o.n];exact aC,?_,by rw[r];exact hl,fun hd=>(by rw[r] at hd;cases hd),fun hs=>absurd (by rw[←o.bD];exact hs) aE,aD⟩ ar
     rw[r]
     refine bg.aU a5 fun q _ m=>⟨fun hf=>?_,fun a9=>?_⟩
     · have:cK a q:=hf
       have:=y.raw.lt this;omega
     · have:=(y.inv.eI q a9).1;omega
   refine aY ⟨{a with aj:=a.aj.set i t},⟨a7,a8⟩,⟨o.c,o.d,by show(a.aj.set i _).length=_;rw[cX];exact o.len,o.a_,o.aO,o.calm,ck o.ad N fun q m e=> .inr (.inl e),o.cN⟩, .inl ⟨rfl,fun j=>?_⟩⟩
   have:=vY (C:=a) (hd:=a.hand) (aw:=a.D) hi (no:=no) y.inv.un (fun _=>rfl) t (by rw[r];exact M) (by rw[r];exact aq) hold ar j
   rw[show({a with aj:=a.aj.set i t}:bN)=bN.mk a.c a.aR (a.aj.set i t) a.hand a.D from rfl,this,aN]
   rw[r]
 rcases aK with ⟨i,hi,rfl,hf,ac⟩|⟨rfl,ba⟩
 · refine⟨_,rfl,cl (fun p w'=>p=some ⟨C.aR,i*6,none⟩∧w=w') (fun q m=>⟨fun h=>(by cases h),fun _=>m _ _ ⟨rfl,rfl⟩⟩) ?_⟩
   rintro _ _ ⟨rfl,rfl⟩
   have e:C.aj.set i C.aj[i]=C.aj:=List.set_getElem_self _
   exact fin w C i hi C.aj[i] h ((dY.refl C w).mono (cI _)) rfl (fun _=>rfl) (h.inv.pins _ (cm hi)) w (by rw[e];exact P.f) (.refl _ _) hf ac (fun _=>ac) fun k E bb h1 G=>bb (h.inv.un k i E hi h1 hf (by rw[G,ac]))
 · refine⟨_,rfl,cl (fun p ah=>∃ (w1:J) (a:bN) (i:Nat) (hi:i<a.aj.length) (f1:Fr),p=some ⟨C.aR,i*6,none⟩∧dy X w1 a∧dY C a w w1 1∧a.aR=C.aR∧(∀j,a.view j=C.view j)∧f1.pins=0∧bh ah a.aR (b1 Fr.c (a.aj.set i f1)).toArray 288∧ae (fun q=>q=a.aR) w1 ah∧f1.full=true∧f1.no=(no:Int)∧
     ((a.aj[i]).full=true→(a.aj[i]).no=(no:Int))∧(∀ (k:Nat) (E:k<a.aj.length),k≠i→(a.aj[k]).full=true→(a.aj[k]).no≠(no:Int))) (fun q m=>⟨fun _=>(zr h (by omega)).use ?_,fun h=>(by cases h)⟩) ?_⟩
   · rintro _ w1 ⟨a,ag,az,O,aA,bc,bd⟩
     have be:∀f∈a.aj,f.full=true→f.no≠(no:Int):=fun f hf M bf=>by
       obtain⟨g,hg,h1,G⟩:=bc f hf M
       exact ba g hg h1 (by rw[G,bf])
     rcases bd with ⟨i,hi,rfl,bi,T⟩|⟨rfl,bj⟩
     · obtain⟨a1,a2,a3,a4⟩:=lP ag.raw.f hi (j:=0) (by decide) (v:=true) {a.aj[i] with full:=true} rfl
       have U:i<(a.aj.set i {a.aj[i] with full:=true}).length:=by rw[cX];exact hi
       have W:(a.aj.set i {a.aj[i] with full:=true})[i]={a.aj[i] with full:=true}:=by simp
       obtain⟨b8,bM,z,A⟩:=lP a3 U (j:=3) (by decide) (v:=no) {a.aj[i] with full:=true,no:=(no:Int)} (by rw[W];rfl)
       rw[set_set] at z
       rw[O] at a1 a2 b8 bM z a4 A
       refine⟨_,_,rfl,fun h=>(by simp at h),fun _=>⟨_,rfl,a1,a2,aY ⟨_,rfl,by rw[ax];exact b8,by rw[ax];exact bM,aY ?_⟩⟩⟩
       rw[ax]
       exact m _ _ ⟨w1,a,i,hi,{a.aj[i] with full:=true,no:=(no:Int)},rfl,ag,az,O,aA,T,by rw[O];exact z,by rw[O];exact a4.trans A,rfl,rfl,fun h1=>(by rw[bi] at h1;cases h1),fun k E _ h1=>be _ (cm E) h1⟩
     · exact⟨_,_,rfl,fun _=>⟨a,ag,az, .inr ⟨rfl,bj,aA⟩⟩,fun h=>(by simp at h)⟩
   · rintro p ah ⟨w1,a,i,hi,f1,rfl,av,bk,bl,bm,bn,bo,bp,bq,br,bs,bt⟩
     exact fin w1 a i hi f1 av bk bl bm bn ah bo bp bq br bs bt
theorem zw(h:dy X w C)(no:Nat):aH ai 146 #[.pointer (some C.c),no] w (λv w'=>(∃b:ag,v=b)/\∃aC:bN,dy X w' aC/\dY C aC w w' 0/\(∀j,j≠no->aC.view j=C.view j)/\aC.D=C.D/\∀f∈aC.aj,f.full=true->f∈C.aj/\f.no≠(no:Int)):=by
 have g:=h.raw;refine okF (af.sI (some C.c) (no:Int)) ay.sI func146 ?_;(delta af.sI jK al r1;dsimp only);refine(tL g _).use ?_;rintro _ _ ⟨y,rfl⟩;rcases y with ⟨i,hi,rfl,hf,s⟩|⟨rfl,z⟩
 .have f4:=iV g.f hi (j:=4) (by decide)
  have A:=h.inv.pins _ (cm hi);refine⟨_,rfl,cl (λb w'=>b=false/\w=w') (λq l=>⟨λh=>(by cases h),λ_=>⟨_,rfl,(C.aj[i]).pins,by rw[ax];exact f4,l _ _ ⟨by rw[A];rfl,rfl⟩⟩⟩) ?_⟩;rintro _ _ ⟨rfl,rfl⟩;obtain⟨s1,s2,m⟩:=vV g.f hi dm;refine⟨λh=>(by cases h),λ_=>⟨_,rfl,s1,rfl,aY ⟨⟨true,rfl⟩,{C with aj:=C.aj.set i dm},⟨vZ g m s2,?_⟩,?_,λj B=>?_,rfl,λf E av=>?_⟩⟩⟩
  .exact vW (V:=λq=>q=C.aR) (aw:=C.D) hi h.inv m (λq _ e=>.inr (.inl e)) h.inv.qa (λ_ _=>rfl) (λq h=>.inl h) dm rfl rfl
  .exact⟨rfl,rfl,by show(C.aj.set i _).length=_;rw[cX],rfl,br _,λ_ h=>h,m.mono λq _ e=>.inr (.inl e),λq h=>.inl h⟩
  .refine zt (fs:=C.aj) (D:=C.D) (c:=C.c) (aR:=C.aR) (hd:=C.hand) h.inv.un (λa b F G h1 n o=>?_) (λk p av d=>?_) λH=>⟨λf hf av d=>?_,rfl⟩
   .have J:a<C.aj.length:=by simpa using F
    have K:b<C.aj.length:=by simpa using G
    by_cases t:i=a
    .subst t
     simp[dm]at h1
    by_cases u:i=b
    .subst u
     simp[dm]at n
    simp only[eZ t]at h1 o;simp only[eZ u]at n o;exact h.inv.un a b J K h1 n o
   .have r:i≠k:=λe=>by
     subst e;rw[s]at d;exact B I
    exact⟨k,by rw[cX];exact p,by simp only[eZ r];exact av,by simp only[eZ r];exact d,by simp only[eZ r]⟩
   .rcases kB hf with hf|rfl
    .exact H f hf av d
    .cases av
  .obtain⟨k,p,rfl⟩:=eD E
   have x:k<C.aj.length:=by simpa using p
   by_cases e:i=k
   .subst e
    simp[dm]at av
   .simp only[eZ e]at av⊢
    exact⟨cm x,λd=>e (h.inv.un i k hi x hf av (s.trans d.symm))⟩
 .refine⟨_,rfl,cl (λb w'=>b=true/\w=w') (λq l=>⟨λ_=>l _ _ ⟨rfl,rfl⟩,λh=>(by cases h)⟩) ?_⟩
  rintro _ _ ⟨rfl,rfl⟩;exact⟨λ_=>⟨⟨false,rfl⟩,C,h,dY.refl C w,λ_ _=>rfl,rfl,λf hf av=>⟨hf,z f hf av⟩⟩,λh=>(by cases h)⟩
end
theorem DX(n:Nat):gq ai 288 n=(b1 Fr.c (List.replicate n dm)).toArray:=by
 have a:((Tryz.prog.info? 288).bind (·.zero)).map (·.cells)=some dm.c.toArray:=by kernel_rfl
 have hc:Tryz.prog.cellsOf 288=6:=by kernel_rfl
 unfold gq;rw[hc]
 cases hi:(Tryz.prog.info? 288).bind (·.zero) with
 |none=>rw[hi]at a;cases a
 |some z=>
  rw[hi]at a;simp only[kr,Option.some.injEq]at a;simp only[oX,a];apply Array.ext
  .simp[hT (c:=Fr.c) (sz:=6) (List.replicate n dm) (λx _=>rfl)]
  .intro i h1 d
   have e:n*6≠0:=by
    intro h;simp[h]at h1
   have k:i<n*6:=by simpa using h1
   simp only[e,if_false,Array.getElem_map,Array.getElem_range,List.getElem_toArray];have b:dm.c.toArray.size=6:=rfl;have aJ:i%6<6:=g1 _ I;have f:i/6<(List.replicate n dm).length:=by rw[lj];omega
   have hg:=vP (c:=Fr.c) (sz:=6) (l:=List.replicate n dm) (λx _=>rfl) (i:=i/6) (j:=i%6) f aJ;rw[show i/6*6+i%6=i from I]at hg;have g:i<(b1 Fr.c (List.replicate n dm)).length:=by simpa using d
   rw[dD g]at hg;have he:((List.replicate n dm)[i/6]).c=dm.c:=by simp
   rw[he,dD (show i%6<dm.c.length from aJ)]at hg;have hg:=Option.some.inj hg;rw[hg,b,getElem!_pos dm.c.toArray (i%6) (by rw[b];exact aJ)];simp
def g_(c aR k:Nat)(D:aV):bN:=⟨c,aR,List.replicate k dm,0,D⟩
theorem v7(c aR k:Nat)(D:aV)(j:Nat):(g_ c aR k D).view j=D.now j:=by
 refine kY λf hf h1=>?_;rw[qI hf]at h1
 cases h1
theorem n0{w:J}{D:aV}(h:cj w D){k:Nat}(h1:8<=k)(m:k<=64)(n:∀j,D.bD j=true->D.da j=D.dQ j):aH ai 139 #[.pointer (some D.d),k] w (λv w'=>∃c aR:Nat,v=.tuple #[.pointer (some c),(0:Int)]/\dy (λ_=>False) w' (g_ c aR k D)/\Ext w w'/\w.heap.size<=c/\w.heap.size<=aR):=by
 refine okF (af.n0 (some D.d) (k:Int)) ay.n0 func139 ?_;delta af.n0 al iR U;refine⟨λh=>?_,λ_=>⟨⟨I,I,I,I⟩,?_⟩⟩
 .simp only[Option.isNone_some,j0,hW,cO]at h;omega
 rw[DX,du];have g:=bh.new w (b1 Fr.c (List.replicate k dm)).toArray 288;have a:=er w (.cells (b1 Fr.c (List.replicate k dm)).toArray 288);have o:=p5 w (.cells (b1 Fr.c (List.replicate k dm)).toArray 288);obtain⟨w1,p⟩:∃w1,w1=w.alloc (.cells (b1 Fr.c (List.replicate k dm)).toArray 288):=⟨_,rfl⟩;rw[←p]at g a o⊢;refine aY (bk (vs:=[.pointer (some D.d),.slice (some w.heap.size) k k,(0:Int)]) rfl λah r b t=>⟨w1.heap.size,w.heap.size,rfl,⟨⟨?_,bh.ext g b,h.ext (a.trans b),?_,?_,?_,?_,?_,?_⟩,⟨λf hf=>?_,λf hf l=>?_,λi j hi u h1=>?_,λq s=>s.elim,n⟩⟩,a.trans b,I,br _⟩)
 .show Var _ _ [_,.slice _ (List.replicate k dm).length (List.replicate k dm).length,_] _
  rw[lj];exact r
 .show 8<=(List.replicate k dm).length;simpa using h1
 .show(List.replicate k dm).length<=64;simpa using m
 .show 0<(List.replicate k dm).length;simp;omega
 .show w1.heap.size≠w.heap.size;omega
 .intro e
  have:=h.lt e;have:w1.heap.size<w.heap.size:=this;omega
 .intro e
  have:=h.lt e;have:w.heap.size<w.heap.size:=this;omega
 .rw[qI hf];rfl
 .rw[qI hf]at l;cases l
 .simp[g_,dm]at h1
def jU(a b8 bM b c d e f:ag):Nat:=
 a.toNat+2*b8.toNat+4*bM.toNat+8*b.toNat+16*c.toNat+32*d.toNat+64*e.toNat+128*f.toNat
def byteOf(f:Nat->ag)(i:Nat):Nat:=jU (f (8*i)) (f (8*i+1)) (f (8*i+2)) (f (8*i+3)) (f (8*i+4)) (f (8*i+5)) (f (8*i+6)) (f (8*i+7))
theorem DY:∀a b8 bM b c d e f:ag,jU a b8 bM b c d e f<256:=by decide+kernel
theorem DZ:∀a b8 bM b c d e f:ag,
 (jU a b8 bM b c d e f).testBit 0=a/\(jU a b8 bM b c d e f).testBit 1=b8/\(jU a b8 bM b c d e f).testBit 2=bM/\(jU a b8 bM b c d e f).testBit 3=b/\
 (jU a b8 bM b c d e f).testBit 4=c/\(jU a b8 bM b c d e f).testBit 5=d/\(jU a b8 bM b c d e f).testBit 6=e/\(jU a b8 bM b c d e f).testBit 7=f:=by decide+kernel
theorem iW(f:Nat->ag)(i:Nat):byteOf f i<256:=DY _ _ _ _ _ _ _ _
theorem lR(f:Nat->ag)(i j:Nat)(a:j<8):(byteOf f i).testBit j=f (8*i+j):=by
 obtain⟨h0,h1,b,c,d,e,g,h⟩:=DZ (f (8*i)) (f (8*i+1)) (f (8*i+2)) (f (8*i+3)) (f (8*i+4)) (f (8*i+5)) (f (8*i+6)) (f (8*i+7));have:j=0\/j=1\/j=2\/j=3\/j=4\/j=5\/j=6\/j=7:=by omega
 unfold byteOf;rcases this with rfl|rfl|rfl|rfl|rfl|rfl|rfl|rfl<;>assumption
theorem D1{x y:Nat}(hx:x<256)(b:y<256)(h:∀j,j<8->x.testBit j=y.testBit j):x=y:=by
 apply Nat.eq_of_testBit_eq;intro j;by_cases a:j<8
 .exact h j a
 .have p:256<=2^j:=by
   have:=qF (n:=2) I (by omega:8<=j);simpa using this
  rw[Nat.testBit_lt_two_pow I,Nat.testBit_lt_two_pow I]
theorem tM(f:Nat->ag)(i x:Nat)(hx:x<256)(h:∀j,j<8->x.testBit j=f (8*i+j)):x=byteOf f i:=
 D1 hx (iW f i) λj a=>by rw[h j a,lR f i j a]
def cZ(f:Nat->ag)(k:Nat)(b:ag):Nat->ag:=λi=>if i=k then b else f i
theorem D2:∀x:Nat,x<256->∀j:Nat,j<8->(iQ .u8 (Int.fdiv (x:Int) (2^(min (Int.toNat (j:Int)) 8))) 1==1)=x.testBit j:=by decide+kernel
theorem D3:∀x:Nat,x<256->∀j:Nat,j<8->ll .u8 (x:Int) (IntKind.wrap .u8 (1*2^(min (Int.toNat (j:Int)) 8)))=((x|||2^j:Nat):Int):=by decide+kernel
theorem D4:∀x:Nat,x<256->∀j:Nat,j<8->xg .u8 (x:Int) (IntKind.wrap .u8 (1*2^(min (Int.toNat (j:Int)) 8)))=((x&&&(255-2^j):Nat):Int):=by decide+kernel
theorem v8:∀x:Nat,x<256->∀y:Nat,y<256->x|||y<256:=λ_ hx _ a=>Nat.or_lt_two_pow (n:=8) hx a
theorem D5:∀j:Nat,j<8->∀k:Nat,k<8->(255-2^j).testBit k=(k !=j):=by decide+kernel
theorem D6(x y:Nat)(hx:x<256)(a:y<256):ll .u8 (x:Int) (y:Int)=((x|||y:Nat):Int):=by
 have h:=v8 x hx y a;have e:(BitVec.ofInt 8 (x:Int)|||BitVec.ofInt 8 (y:Int)).toNat=x|||y:=by
  simp only[BitVec.ofInt_natCast,BitVec.toNat_or,BitVec.toNat_ofNat];rw[ir (by simpa using hx),ir (by simpa using a)]
 show IntKind.wrap .u8 (((BitVec.ofInt 8 (x:Int)|||BitVec.ofInt 8 (y:Int)).toNat:Nat):Int)=_;rw[e];have:((x|||y:Nat):Int)%256=((x|||y:Nat):Int):=Int.emod_eq_of_lt I I;simp[IntKind.wrap,IntKind.signed,IntKind.bits,this]
theorem zx(k:Nat):8*(k/8)+k%8=k:=Nat.div_add_mod k 8
theorem D7(f:Nat->ag)(k:Nat):byteOf f (k/8)|||2^(k%8)=byteOf (cZ f k true) (k/8):=by
 refine tM _ _ _ (v8 _ (iW _ _) _ ?_) λj b=>?_
 .have:k%8<8:=g1 _ I
  have:=Nat.pow_lt_pow_right (a:=2) I this;simpa using this
 .rw[k8,lR _ _ _ b,oW,cZ]
  by_cases h:8*(k/8)+j=k
  .rw[if_pos h]
   have:k%8=j:=by omega
   simp[this]
  .rw[if_neg h]
   have:¬k%8=j:=by omega
   simp[this]
theorem D8(f:Nat->ag)(k:Nat):byteOf f (k/8)&&&(255-2^(k%8))=byteOf (cZ f k false) (k/8):=by
 refine tM _ _ _ (Nat.lt_of_le_of_lt Nat.and_le_left (iW _ _)) λj a=>?_;rw[Nat.testBit_and,lR _ _ _ a,D5 _ (g1 _ I) _ a,cZ];by_cases h:8*(k/8)+j=k
 .rw[if_pos h]
  have:j=k%8:=by omega
  simp[this]
 .rw[if_neg h]
  have:¬j=k%8:=by omega
  simp[this]
theorem D9(f:Nat->ag)(k i:Nat)(b:ag)(h:i≠k/8):byteOf (cZ f k b) i=byteOf f i:=by
 have e:∀j,j<8->cZ f k b (8*i+j)=f (8*i+j):=λj a=>by
  unfold cZ;rw[if_neg];omega
 unfold byteOf;rw[e 1 I,e 2 I,e 3 I,e 4 I,e 5 I,e 6 I,e 7 I];have:=e 0 I;simp only[l0]at this;rw[this]
def eu(f:Nat->ag)(m:Nat):O aa:=(List.range m).map λi=>.int .u8 (byteOf f i)
theorem v_(f:Nat->ag)(m:Nat):(eu f m).length=m:=by simp[eu]
theorem m4(f:Nat->ag){m i:Nat}(h:i<m):(eu f m)[i]? =some (.int .u8 (byteOf f i)):=by simp[eu,h]
theorem zy(f:Nat->ag)(k m:Nat)(b:ag):(eu f m).set (k/8) (.int .u8 (byteOf (cZ f k b) (k/8)))=eu (cZ f k b) m:=by
 apply List.ext_getElem?;intro i;rw[List.getElem?_set];by_cases hi:i<m
 .rw[m4 (cZ f k b) hi]
  by_cases h:k/8=i
  .subst h
   simp[v_,hi]
  .rw[if_neg h,m4 _ hi,D9 f k i b I]
 .have h1:(eu (cZ f k b) m)[i]? =none:=by simp[eu];omega
  have a:(eu f m)[i]? =none:=by simp[eu];omega
  rw[h1,a];split
  .simp[v_];omega
  .rfl
theorem zz(k:Nat):Int.tdiv (k:Int) 8=((k/8:Nat):Int):=by
 rw[Int.tdiv_eq_ediv_of_nonneg I];omega
theorem qg(k:Nat):Int.tmod (k:Int) 8=((k%8:Nat):Int):=by
 rw[qN I];omega
theorem wa{k:Nat}(h:k<=9223372036854775807):IntKind.wrap .i64 (Int.tdiv (k:Int) 8)=((k/8:Nat):Int):=by
 rw[zz,bB I I]
theorem zA{s:Y}{b:Nat}(h:s.a=some ⟨b,0,none⟩):aB s b:=⟨_,h,rfl⟩
theorem m5{w:J}{s:Y}{f:Nat->ag}{m k:Nat}(h:aZ 1 5 w s (eu f m))(a:k/8<m)(d:k<=9223372036854775807):
 aH ai 214 #[s,k] w (λv w'=>v=.bool (f k)/\w=w'):=by
 refine okF (af.sV s k) ay.sV func214 ?_;(delta af.sV aI au b4;dsimp only);obtain⟨b,c,e,g,i,hi,j,hc,_⟩:=h.cell (m4 f a);refine⟨by decide,_,e,?_⟩;rw[wa d,qg];refine⟨⟨I,I⟩,(byteOf f (k/8):Int),?_,by decide,I,?_,rfl⟩
 .rw[fu,du,ax,cH];exact hc
 .rw[D2 _ (iW _ _) _ (g1 _ I),lR _ _ _ (g1 _ I),zx]
theorem zB{w:J}{s:Y}{f:Nat->ag}{m k:Nat}(h:aZ 1 5 w s (eu f m))(e:k/8<m)(g:k<=9223372036854775807):
 aH ai 130 #[s,k] w (λv w'=>v=.tuple #[]/\aZ 1 5 w' s (eu (cZ f k true) m)/\ae (aB s) w w'):=by
 refine okF (af.sB s k) ay.sB func130 ?_;(delta af.sB ao aI au b4 st;dsimp only);obtain⟨b,c,d,i,l,hi,n,hc,_⟩:=h.cell (m4 f e);have a:(Addr.mk b 0 none).add (Int.toNat ((k/8:Nat):Int)*1)=⟨b,k/8,none⟩:=by rw[fu,du,ax,cH]
 rw[wa g,qg];refine⟨by decide,_,d,⟨I,I⟩,by simp,(byteOf f (k/8):Int),by rw[a];exact hc,by decide,I,_,d,⟨I,I⟩,⟨_,by rw[a];exact hc⟩,by rw[a];exact i.drew.frozen _ rfl,rfl,?_,?_⟩
 .rw[a,D3 _ (iW _ _) _ (g1 _ I),D7,←zy]
  have j:aZ 1 5 w.drew s (eu f m):=h.ad (W:=λ_=>False) (ae.drew (.refl _ _)) (λ_ _ h=>h);exact j.set d _
 .rw[a]
  exact ae.set (ae.drew (.refl _ _)) (λ_=>zA d) _
theorem D_{w:J}{s:Y}{f:Nat->ag}{m k:Nat}(h:aZ 1 5 w s (eu f m))(e:k/8<m)(g:k<=9223372036854775807):
 aH ai 219 #[s,k] w (λv w'=>v=.tuple #[]/\aZ 1 5 w' s (eu (cZ f k false) m)/\ae (aB s) w w'):=by
 refine okF (af.sW s k) ay.sW func219 ?_;(delta af.sW ao aI au b4 st;dsimp only);obtain⟨b,c,d,i,l,hi,n,hc,_⟩:=h.cell (m4 f e);have a:(Addr.mk b 0 none).add (Int.toNat ((k/8:Nat):Int)*1)=⟨b,k/8,none⟩:=by rw[fu,du,ax,cH]
 rw[wa g,qg];refine⟨by decide,_,d,⟨I,I⟩,by simp,(byteOf f (k/8):Int),by rw[a];exact hc,by decide,I,_,d,⟨I,I⟩,⟨_,by rw[a];exact hc⟩,by rw[a];exact i.drew.frozen _ rfl,rfl,?_,?_⟩
 .rw[a,D4 _ (iW _ _) _ (g1 _ I),D8,←zy]
  have j:aZ 1 5 w.drew s (eu f m):=h.ad (W:=λ_=>False) (ae.drew (.refl _ _)) (λ_ _ h=>h);exact j.set d _
 .rw[a]
  exact ae.set (ae.drew (.refl _ _)) (λ_=>zA d) _
structure en(w:J)(b n:Nat)(f g:Nat->ag)(s1 s2:Y):Prop where
 bP:bh w b #[n,s1,s2] 218
 now:aZ 1 5 w s1 (eu f ((n+7)/8))
 sure:aZ 1 5 w s2 (eu g ((n+7)/8))
 d1:∀k,aB s1 k->k≠b/\¬aB s2 k
 d2:∀k,aB s2 k->k≠b
 bG:1<=n
 bc:n<=1600
 pf:∀i,n<=i->f i=false
 dt:∀i,n<=i->g i=false
def eN(b:Nat)(s1 s2:Y)(k:Nat):Prop:=k=b\/aB s1 k\/aB s2 k
section
variable {w w':J}{b n:Nat}{f g:Nat->ag}{s1 s2:Y}
theorem en.ad{W:Nat->Prop}(h:en w b n f g s1 s2)(hc:ae W w w')(a:∀k,eN b s1 s2 k->¬W k):en w' b n f g s1 s2:=
 ⟨h.bP.ad hc (a b (.inl rfl)),h.now.ad hc λk c=>a k (.inr (.inl c)),h.sure.ad hc λk c=>a k (.inr (.inr c)),h.d1,h.d2,h.bG,h.bc,h.pf,h.dt⟩
theorem en.ext(h:en w b n f g s1 s2)(hc:Ext w w'):en w' b n f g s1 s2:=h.ad hc λ_ _ h=>h
theorem en.lt(h:en w b n f g s1 s2):∀k,eN b s1 s2 k->k<w.heap.size:=by
 rintro k (rfl|a|a)
 .exact h.bP.lt
 .exact h.now.lt k a
 .exact h.sure.lt k a
theorem en.bS(h:en w b n f g s1 s2):w.cell? b=some (.int .i64 n):=by rw[h.bP.cell];rfl
theorem en.aA(h:en w b n f g s1 s2):w.cell? ((Addr.mk b 0 none).add 1)=some (.slice s1.a s1.len s1.cap):=by rw[ax,h.bP.cell];rfl
theorem en.aT(h:en w b n f g s1 s2):w.cell? ((Addr.mk b 0 none).add 2)=some (.slice s2.a s2.len s2.cap):=by rw[ax,h.bP.cell];rfl
theorem Ea(h:en w b n f g s1 s2){k:Nat}(a:k<n):
 aH ai 217 #[.pointer (some b),k] w (λv w'=>v=.bool (f k||g k)/\w=w'):=by
 have c:=h.bc;refine af.Cw _ k w _ ?_;(delta af.pU ak aG al;dsimp only);refine⟨_,rfl,s1,h.aA,(m5 h.now (k:=k) I I).use ?_⟩;rintro _ _ ⟨rfl,rfl⟩;refine⟨_,rfl,⟨λhf=>⟨by rw[hf];rfl,rfl⟩,λhf=>⟨_,rfl,s2,h.aT,(m5 h.sure (k:=k) I I).use ?_⟩⟩⟩;rintro _ _ ⟨rfl,rfl⟩;exact⟨_,rfl,by rw[hf];rfl,rfl⟩
theorem wb(h:en w b n f g s1 s2)(k:Int):
 aH ai 218 #[.pointer (some b),k] w (λv w'=>v=.bool (decide (0<=k)&&decide (k<n))/\w=w'):=by
 refine af.Cx _ k w _ ?_;(delta af.pV al r1;dsimp only);refine⟨?_⟩;refine⟨λh1=>⟨_,rfl,n,h.bS,?_,rfl⟩,λh1=>⟨?_,rfl⟩⟩
 .have:0<=k:=by simpa using h1
  simp[this]
 .have:¬0<=k:=by simpa using h1
  simp[this]
def firstFree(t:Nat->ag)(n:Nat):an Nat:=(List.range n).find? λi=> !t i
theorem Eb{t:Nat->ag}{n k:Nat}(d:k<n)(ht:t k=false)(hl:∀i,i<k->t i=true):firstFree t n=some k:=by
 unfold firstFree;rw[List.find?_eq_some_iff_append];refine⟨by simp[ht],List.range k,(List.range' (k+1) (n-(k+1))),?_,λa c=>?_⟩
 .have b:=List.range'_append (s:=0) (m:=k) (n:=n-(k+1)+1) (step:=1)
  rw[qz,qz,←List.range'_succ];rw[Nat.one_mul,cH]at b;rw[b]
  congr 1
  omega
 .simp[hl a (ik.1 c)]
theorem Ec{t:Nat->ag}{n:Nat}(hl:∀i,i<n->t i=true):firstFree t n=none:=by
 unfold firstFree;rw[iN];intro a b;simp[hl a (ik.1 b)]
theorem zC{t:Nat->ag}{n k:Nat}(h:firstFree t n=some k):k<n/\t k=false/\∀i,i<k->t i=true:=by
 unfold firstFree at h;obtain⟨h1,b,lb,a,e⟩:=List.find?_eq_some_iff_append.1 h;have f:k<n:=ik.1 (by rw[a];simp);refine⟨f,by simpa using h1,λi hi=>?_⟩;have hlen:b.length=k:=by
  have c:(List.range n)[b.length]? =some k:=by rw[a];simp
  rw[List.getElem?_range (by
   have:=congrArg List.length a;simp at this;omega)]at c
  simpa using c
 have d:(List.range n)[i]? =some i:=List.getElem?_range I;rw[a,List.getElem?_append_left I]at d;have:=e i (List.mem_of_getElem? d);simpa using this
theorem Ed{t:Nat->ag}{n:Nat}(h:firstFree t n=none):∀i,i<n->t i=true:=by
 unfold firstFree at h;rw[iN]at h;intro i hi;have:=h i (ik.2 hi);simpa using this
def Ee(o:an Nat):aa:=
 match o with
 |some k=>.tuple #[.int .i64 (k:Int),(0:Int)]
 |none=>.tuple #[.int .i64 (-1),(2:Int)]
def Ef(o:an Nat)(f:Nat->ag):Nat->ag:=
 match o with
 |some k=>cZ f k true
 |none=>f
theorem zD{f:Nat->ag}{n k:Nat}{x:ag}(h:∀i,n<=i->f i=false)(a:k<n):∀i,n<=i->cZ f k x i=false:=λi hi=>by
 unfold cZ
 rw[if_neg I]
 exact h i hi
theorem zE(h:en w b n f g s1 s2):
 aH ai 160 #[.pointer (some b)] w (λv w'=>v=Ee (firstFree (λi=>f i||g i) n)/\en w' b n (Ef (firstFree (λi=>f i||g i) n) f) g s1 s2/\ae (eN b s1 s2) w w'):=by
 have r:=h.bc;refine af.Co _ w _ ?_;(delta af.pP al r1 aG ak aT au;dsimp only);refine⟨λh1=>by simp at h1,λ_=>⟨_,rfl,n,h.bS,λi w'=>∃k:Nat,i=k/\k<=n/\w=w'/\∀j,j<k->(f j||g j)=true,λi _=>(n-i).toNat,⟨0,rfl,I,rfl,λj l=>I⟩,?_⟩⟩;rintro _ _ ⟨k,rfl,a,rfl,d⟩;refine⟨λaJ=>(Ea h (k:=k) (by simpa using aJ)).use ?_,λm=>?_⟩
 .have c:k<n:=by simpa using aJ
  rintro _ _ ⟨rfl,rfl⟩;refine⟨_,rfl,λht=>⟨_,rfl,s1,h.aA,(zB h.now (k:=k) I I).use ?_⟩,λht=>?_⟩
  .rintro _ w' ⟨rfl,o,hc⟩
   have e:(f k||g k)=false:=by simpa using ht
   have p:=Eb (t:=λi=>f i||g i) c e d;rw[p];refine⟨rfl,rfl,⟨h.bP.ad hc λq=>(h.d1 b q).1 rfl,o,h.sure.ad hc λk a h1=>(h.d1 k h1).2 a,h.d1,h.d2,h.bG,h.bc,zD h.pf c,h.dt⟩,hc.mono λk _ a=>.inr (.inl a)⟩
  .have e:(f k||g k)=true:=by cases hx:(f k||g k)<;>simp[hx]at ht⊢
   rw[bB I I];refine⟨⟨k+1,I,I,rfl,λj l=>?_⟩,(show((n:Int)-((k:Int)+1)).toNat<((n:Int)-(k:Int)).toNat from I)⟩;rcases dJ j k with h1|h1
   .exact d j h1
   .have:j=k:=by omega
    subst this;exact e
 .have c:k=n:=by
   have:¬(k:Int)<n:=by simpa using m
   omega
  subst c;rw[Ec d];exact⟨rfl,h,.refl _ _⟩
def tN(f:Nat->ag)(n:Nat)(k:Int):Int:=if 0<=k/\k<n then (if f k.toNat then 0 else 6) else 1
def lS(f:Nat->ag)(n:Nat)(k:Int):Nat->ag:=if 0<=k/\k<n then cZ f k.toNat false else f
theorem Eg{f:Nat->ag}{k:Nat}{x:ag}(h:f k=x):cZ f k x=f:=by
 funext i;unfold cZ;split
 .rename_i hi;rw[hi,h]
 .rfl
theorem zF(h:en w b n f g s1 s2)(k:Int):
 aH ai 161 #[.pointer (some b),k] w (λv w'=>v=.int .i64 (tN f n k)/\en w' b n (lS f n k) g s1 s2/\ae (eN b s1 s2) w w'):=by
 have o:=h.bc;refine af.Cp _ k w _ ?_;(delta af.pQ aG al ak aT;dsimp only);refine(wb h k).use ?_;rintro _ _ ⟨rfl,rfl⟩;refine⟨_,rfl,λh1=>?_,λh1=>?_⟩
 .have:¬(0<=k/\k<n):=by
   rintro⟨a,e⟩;simp[a,e]at h1
  exact⟨by rw[tN,if_neg this],by rw[lS,if_neg this];exact h,.refl _ _⟩
 .have c:0<=k/\k<n:=by simpa using h1
  obtain⟨m,rfl⟩:=o6 c.1;have i:m<n:=by omega
  refine⟨_,rfl,s1,h.aA,(m5 h.now (k:=m) I I).use ?_⟩;rintro _ _ ⟨rfl,rfl⟩;refine⟨_,rfl,λa=>?_,λa=>⟨_,rfl,s1,h.aA,(D_ h.now (k:=m) I I).use ?_⟩⟩
  .have hf:f m=false:=by simpa using a
   refine⟨by rw[tN,if_pos c,du,hf];rfl,?_,.refl _ _⟩;rw[lS,if_pos c,du,Eg hf];exact h
  .rintro _ w' ⟨rfl,j,hc⟩
   have hf:f m=true:=by simpa using a
   refine⟨rfl,by rw[tN,if_pos c,du,hf];rfl,?_,hc.mono λk _ d=>.inr (.inl d)⟩;rw[lS,if_pos c,du];exact⟨h.bP.ad hc λl=>(h.d1 b l).1 rfl,j,h.sure.ad hc λk d h1=>(h.d1 k h1).2 d,h.d1,h.d2,h.bG,h.bc,zD h.pf i,h.dt⟩
theorem Eh(h:en w b n f g s1 s2)(k:Int):
 aH ai 183 #[.pointer (some b),k] w (λv w'=>v=.bool (decide (0<=k)&&decide (k<n)&&f k.toNat)/\w=w'):=by
 have c:=h.bc;refine af.Cs _ k w _ ?_;(delta af.pS aG al ak;dsimp only);refine(wb h k).use ?_;rintro _ _ ⟨rfl,rfl⟩;refine⟨_,rfl,⟨λh1=>?_,λh1=>⟨by rw[h1];rfl,rfl⟩⟩⟩;have a:0<=k/\k<n:=by simpa using h1
 obtain⟨m,rfl⟩:=o6 a.1;refine⟨_,rfl,s1,h.aA,(m5 h.now (k:=m) I I).use ?_⟩;rintro _ _ ⟨rfl,rfl⟩;exact⟨_,rfl,by rw[h1,du];rfl,rfl⟩
theorem Ei(h:en w b n f g s1 s2)(k:Int):
 aH ai 246 #[.pointer (some b),k] w (λv w'=>v=.bool (decide (0<=k)&&decide (k<n)&&f k.toNat&& !(g k.toNat))/\w=w'):=by
 have d:=h.bc;refine af.CB _ k w _ ?_;(delta af.pX aG al ak;dsimp only);refine(wb h k).use ?_;rintro _ _ ⟨rfl,rfl⟩;refine⟨_,rfl,⟨λh1=>?_,λh1=>⟨(λh=>by cases h),λ_=>⟨by rw[h1];rfl,rfl⟩⟩⟩⟩;have c:0<=k/\k<n:=by simpa using h1
 obtain⟨m,rfl⟩:=o6 c.1;refine⟨_,rfl,s1,h.aA,(m5 h.now (k:=m) I I).use ?_⟩;rintro _ _ ⟨rfl,rfl⟩;refine⟨_,rfl,λa=>⟨_,rfl,s2,h.aT,(m5 h.sure (k:=m) I I).use ?_⟩,λa=>⟨by rw[h1,du,a];rfl,rfl⟩⟩;rintro _ _ ⟨rfl,rfl⟩;exact⟨_,rfl,by rw[h1,du,a];rfl,rfl⟩
end
theorem Ej:hF ai 215 5 1 1:=⟨by kernel_rfl⟩
theorem Ek:hF ai 48 5 1 1:=⟨by kernel_rfl⟩
theorem El:hF ai 58 3 1 8:=⟨by kernel_rfl⟩
theorem Em(n:Nat):gq ai 5 n=(List.replicate n (.int .u8 0)).toArray:=x2 (by kernel_rfl) (by kernel_rfl) n
theorem wc(f:Nat->ag)(m:Nat):∀v∈eu f m,Plain v:=by
 intro v a;obtain⟨i,_,rfl⟩:=dZ.1 a;trivial
theorem zG{w:J}{s:Y}{xs:O aa}(h:Src 1 w s xs)(d:∀v∈xs,Plain v)(j:s.len<=1000000):
 aH ai 194 #[s] w (λv w'=>∃b:Y,v=b/\aZ 1 5 w' b xs/\Ext w w'/\∀k,aB b k->w.heap.size<=k):=by
 refine okF (af.rR s) ay.rR func194 ?_;delta af.rR ao al U;refine⟨λc=>?_,λ_=>?_⟩
 .have c:s.a=none:=by simpa using c
  rw[h.nil c];exact⟨⟨none,0,0⟩,rfl,aZ.none _ _ _,.refl _ _,λk e=>(gi k e).elim⟩
 .obtain⟨b,w',h1,f,l,g,i,_⟩:=Ej.clone (dG:=215) h d I
  exact⟨b,w',h1,b,rfl,f,g,i⟩
theorem zH{w:J}{s:Y}{xs:O aa}(h:Src 1 w s xs)(d:∀v∈xs,Plain v)(j:s.len<=1000000):
 aH ai 135 #[s] w (λv w'=>∃b:Y,v=b/\aZ 1 5 w' b xs/\Ext w w'/\∀k,aB b k->w.heap.size<=k):=by
 refine okF (af.mw s) ay.mw func135 ?_;delta af.mw ao al U;refine⟨λc=>?_,λ_=>?_⟩
 .have c:s.a=none:=by simpa using c
  rw[h.nil c];exact⟨⟨none,0,0⟩,rfl,aZ.none _ _ _,.refl _ _,λk e=>(gi k e).elim⟩
 .obtain⟨b,w',h1,f,l,g,i,_⟩:=Ek.clone (dG:=48) h d I
  exact⟨b,w',h1,b,rfl,f,g,i⟩
section
variable {w w':J}{b n:Nat}{f g:Nat->ag}{s1 s2:Y}
theorem qh{T:TypeId}{m:Nat}(h:aZ 1 T w s1 (eu f m)):s1.len=m:=by
 have:=h.1;rw[v_]at this;omega
theorem we{m:Nat}{u:aa}(c:bh w b #[n,s1,u] 218)(h1:aZ 1 5 w s1 (eu f m))(hd:∀k,aB s1 k->k≠b)(g:m<=1000000):
 aH ai 131 #[.pointer (some b)] w (λv w'=>v=.tuple #[]/\∃a:Y,bh w' b #[n,s1,a] 218/\
  aZ 1 5 w' s1 (eu f m)/\aZ 1 5 w' a (eu f m)/\ae (λk=>k=b) w w'/\∀k,aB a k->w.heap.size<=k):=by
 refine af.Ci _ w _ ?_;(delta af.pK ao al ak aW st;dsimp only);refine⟨λ_=>⟨_,rfl,s1,by rw[ax,c.cell];rfl,(zG h1.src (wc f m) (by rw[qh h1];exact g)).use ?_⟩,λh=>by simp at h⟩;rintro _ ah ⟨a,rfl,i,hx,hf⟩;have d:=c.ext hx;have j:∀k,aB a k->k≠b:=λk l e=>by have:=hf k l;have:=c.lt;omega
 refine⟨a,rfl,_,rfl,⟨_,by rw[ax,d.cell];rfl⟩,d.frozen _ rfl,rfl,a,?_,?_,?_,?_,hf⟩
 .rw[ax];exact d.set 2 _
 .exact(h1.ext hx).ad (W:=λk=>k=b) (ae.set (.refl _ _) (λ_=>by rw[ax]) _) hd
 .exact i.ad (W:=λk=>k=b) (ae.set (.refl _ _) (λ_=>by rw[ax]) _) j
 .exact(ae.cJ hx).set (λ_=>by rw[ax]) _
theorem En(h:en w b n f g s1 s2):
 aH ai 131 #[.pointer (some b)] w (λv w'=>v=.tuple #[]/\∃c:Y,en w' b n f f s1 c/\ae (eN b s1 s2) w w'/\∀k,eN b s1 c k->eN b s1 s2 k\/w.heap.size<=k):=by
 have o:=h.bc;refine(we h.bP h.now (λk a=>(h.d1 k a).1) I).mono ?_;rintro _ w' ⟨rfl,c,h1,i,j,l,d⟩;refine⟨rfl,c,⟨h1,i,j,λk a=>⟨(h.d1 k a).1,λm=>?_⟩,λk a e=>?_,h.bG,h.bc,h.pf,h.pf⟩,l.mono λk _ a=>.inl a,λk a=>?_⟩
 .have:=d k m;have:=h.now.lt k a;omega
 .have:=d k a;have:=h.bP.lt;omega
 .rcases a with rfl|a|a
  .exact .inl (.inl rfl)
  .exact .inl (.inr (.inl a))
  .exact .inr (d k a)
theorem Eo(h:en w b n f g s1 s2):
 aH ai 144 #[.pointer (some b)] w (λv w'=>v=.tuple #[]/\∃c:Y,en w' b n g g c s2/\ae (eN b s1 s2) w w'/\∀k,eN b c s2 k->eN b s1 s2 k\/w.heap.size<=k):=by
 have m:=h.bc;refine af.Cj _ w _ ?_;(delta af.pL ao al ak aW st;dsimp only);refine⟨λ_=>⟨_,rfl,s2,h.aT,(zG h.sure.src (wc g _) (by rw[qh h.sure];omega)).use ?_⟩,λh=>by simp at h⟩;rintro _ ah ⟨c,rfl,j,hx,hf⟩;have d:=h.bP.ext hx;have i:∀k,aB c k->k≠b:=λk a e=>by have:=hf k a;have:=h.bP.lt;omega
 refine⟨c,rfl,_,rfl,⟨_,by rw[ax,d.cell];rfl⟩,d.frozen _ rfl,rfl,c,⟨?_,?_,?_,λk a=>⟨i k a,λl=>?_⟩,h.d2,h.bG,h.bc,h.dt,h.dt⟩,?_,λk a=>?_⟩
 .rw[ax];exact d.set 1 _
 .exact j.ad (W:=λk=>k=b) (ae.set (.refl _ _) (λ_=>by rw[ax]) _) i
 .exact(h.sure.ext hx).ad (W:=λk=>k=b) (ae.set (.refl _ _) (λ_=>by rw[ax]) _) h.d2
 .have:=hf k a;have:=h.sure.lt k l;omega
 .exact(ae.cJ hx).set (λ_=>by rw[ax];exact .inl rfl) _
 .rcases a with rfl|a|a
  .exact .inl (.inl rfl)
  .exact .inr (hf k a)
  .exact .inl (.inr (.inr a))
def oH(x:Nat):Nat:=(x.testBit 0).toNat+(x.testBit 1).toNat+(x.testBit 2).toNat+(x.testBit 3).toNat+(x.testBit 4).toNat+(x.testBit 5).toNat+(x.testBit 6).toNat+(x.testBit 7).toNat
def eo(t:Nat->ag):Nat->Nat
 |0=>0
 |k+1=>eo t k+(t k).toNat
theorem kZ(t:Nat->ag):∀k,eo t k<=k
 |0=>br _
 |k+1=>by have:=kZ t k;have:=Bool.toNat_le (t k);simp only[eo];omega
theorem Ep(t:Nat->ag)(i:Nat):eo t (8*(i+1))=eo t (8*i)+oH (byteOf t i):=by
 have h:∀j,j<8->(byteOf t i).testBit j=t (8*i+j):=λj a=>lR t i j a;unfold oH;rw[h 0 I,h 1 I,h 2 I,h 3 I,h 4 I,h 5 I,h 6 I,h 7 I];show eo t (8*i+7+1)=_;simp only[eo,l0];omega
theorem zI(t:Nat->ag)(n:Nat)(h:∀i,n<=i->t i=false):∀k,eo t (n+k)=eo t n
 |0=>rfl
 |k+1=>by
  have:=zI t n h k
  show eo t (n+k)+(t (n+k)).toNat=_
  rw[this,h (n+k) I]
  rfl
theorem Er:∀x:Nat,x<256->(uo (ByteArray.mk #[0,1,1,2,1,2,2,3,1,2,2,3,2,3,3,4,1,2,2,3,2,3,3,4,2,3,3,4,3,4,4,5,1,2,2,3,2,3,3,4,2,3,3,4,3,4,4,5,2,3,3,4,3,4,4,5,3,4,4,5,4,5,5,6,1,2,2,3,2,3,3,4,2,3,3,4,3,4,4,5,2,3,3,4,3,4,4,5,3,4,4,5,4,5,5,6,2,3,3,4,3,4,4,5,3,4,4,5,4,5,5,6,3,4,4,5,4,5,5,6,4,5,5,6,5,6,6,7,1,2,2,3,2,3,3,4,2,3,3,4,3,4,4,5,2,3,3,4,3,4,4,5,3,4,4,5,4,5,5,6,2,3,3,4,3,4,4,5,3,4,4,5,4,5,5,6,3,4,4,5,4,5,5,6,4,5,5,6,5,6,6,7,2,3,3,4,3,4,4,5,3,4,4,5,4,5,5,6,3,4,4,5,4,5,5,6,4,5,5,6,5,6,6,7,3,4,4,5,4,5,5,6,4,5,5,6,5,6,6,7,4,5,5,6,5,6,6,7,5,6,6,7,6,7,7,8]) x).map (·.toNat)=some (oH x):=by decide+kernel
theorem zJ(x:Nat):oH x<=8:=by
 unfold oH;have h:∀b:ag,b.toNat<=1:=Bool.toNat_le;have:=h (x.testBit 0);have:=h (x.testBit 1);have:=h (x.testBit 2);have:=h (x.testBit 3);have:=h (x.testBit 4);have:=h (x.testBit 5);have:=h (x.testBit 6);have:=h (x.testBit 7);omega
theorem Es(w:J)(x:Nat)(hx:x<256):aH ai 202 #[.int .u8 x] w (λv w'=>v=.int .i64 (oH x)/\w=w'):=by
 refine okF (af.rS x) ay.rS func202 ?_;delta af.rS au;have h:=Er x hx;refine⟨I,?_⟩
 cases a:uo _ x with
 |none=>rw[a]at h;cases h
 |some y=>
  rw[a]at h;simp only[kr,Option.some.injEq]at h;refine⟨y,a,?_,rfl⟩;rw[h,bB I (by have:=zJ x;omega)]
theorem Et(f g:Nat->ag)(i:Nat):byteOf f i|||byteOf g i=byteOf (λk=>f k||g k) i:=
 tM _ _ _ (v8 _ (iW _ _) _ (iW _ _)) λj a=>by rw[k8,lR _ _ _ a,lR _ _ _ a]
theorem wg(h:en w b n f g s1 s2):
 aH ai 148 #[.pointer (some b)] w (λv w'=>v=.int .i64 ((n:Int)-eo (λi=>f i||g i) n)/\Ext w w'):=by
 have p:=h.bc;have q:=qh h.now;have s:=qh h.sure;refine af.Ck _ w _ ?_;(delta af.pM ao al r1 ak aI b4 aA au;dsimp only);refine⟨λh1=>by simp at h1,λ_=>⟨_,rfl,n,h.bS,_,rfl,s1,h.aA,λr i w'=>∃k:Nat,i=k/\k<=s1.len/\Ext w w'/\r=(n:Int)-eo (λi=>f i||g i) (8*k),λ_ i _=>((s1.len:Int)-i).toNat,⟨0,rfl,I,.refl _ _,by simp[eo]⟩,?_⟩⟩;rintro _ _ w1 ⟨k,rfl,t,hx,rfl⟩;refine⟨λaJ=>?_,λc=>?_⟩
 .have d:k<s1.len:=by simpa using aJ
  have h1:=h.ext hx.drew;obtain⟨b8,aA,j,u,_,_,_,l,_⟩:=h1.now.cell (m4 f (i:=k) I);obtain⟨bM,aT,m,x,_,_,_,o,_⟩:=h1.sure.cell (m4 g (i:=k) I);have a:∀b:Nat,(Addr.mk b 0 none).add (Int.toNat (k:Int)*1)=⟨b,k,none⟩:=λb=>by rw[fu,du,ax,cH]
  refine⟨λ_=>False,_,rfl,by simp,s1,h1.aA,_,j,I,by simp,_,by rw[a];exact l,_,rfl,by simp,s2,h1.aT,_,m,I,by simp,_,by rw[a];exact o,?_⟩;rw[D6 _ _ (iW _ _) (iW _ _),Et];refine(Es _ _ (iW _ _)).use ?_;rintro _ _ ⟨rfl,rfl⟩;have:=zJ (byteOf (λi=>f i||g i) k);have:=kZ (λi=>f i||g i) (8*k);refine⟨_,rfl,.refl _ _,?_⟩;rw[bB (n:=(n:Int)-_-_) I I,bB (n:=(k:Int)+1) I I];exact⟨⟨k+1,I,I,hx.drew,by rw[Ep];omega⟩,(show((s1.len:Int)-((k:Int)+1)).toNat<((s1.len:Int)-(k:Int)).toNat from I)⟩
 .have d:k=s1.len:=by
   have:¬(k:Int)<s1.len:=by simpa using c
   omega
  refine⟨?_,hx⟩;have e:8*k=n+(8*k-n):=by omega
  rw[e,zI _ _ (λi hi=>by simp[h.pf i hi,h.dt i hi])]
def iE(f:Nat->ag):Nat->O Int
 |0=> []
 |k+1=>iE f k++(if f k then [(k:Int)] else [])
def k0(f:Nat->ag)(k:Nat):O aa:=(iE f k).map (.int .i64)
theorem zK(f:Nat->ag):∀k,(iE f k).length<=k
 |0=>br _
 |k+1=>by have:=zK f k;simp only[iE,cE];split<;>simp<;>omega
theorem Eu(h:en w b n f g s1 s2):
 aH ai 155 #[.pointer (some b)] w (λv w'=>∃s:Y,v=s/\aZ 1 3 w' s (k0 f n)/\Ext w w'/\∀k,aB s k->w.heap.size<=k):=by
 have B:=h.bc;refine af.Cn _ w _ ?_;(delta af.pO ao al r1 ak aG rK U au;dsimp only);refine⟨λh1=>by simp at h1,λ_=>⟨_,rfl,n,h.bS,λs i w'=>∃k:Nat,i=k/\k<=n/\Ext w w'/\aZ 1 3 w' s (k0 f k)/\∀k,aB s k->w.heap.size<=k,λ_ i _=>((n:Int)-i).toNat,
  ⟨0,rfl,I,.refl _ _,aZ.none _ _ _,λk l=>(gi k l).elim⟩,?_⟩⟩
 rintro s _ w1 ⟨k,rfl,l,hx,c,d⟩;refine⟨λaJ=>?_,λp=>?_⟩
 .have m:k<n:=by simpa using aJ
  have h1:=h.ext hx;refine cl (λa w'=>Ext w w'/\aZ 1 3 w' a (k0 f (k+1))/\∀k,aB a k->w.heap.size<=k) (λq o=>⟨_,rfl,s1,h1.aA,(m5 h1.now (k:=k) I I).use ?_⟩) ?_
  .rintro _ _ ⟨rfl,rfl⟩
   refine⟨_,rfl,λhf=>?_,λhf=>?_⟩
   .have hlen:s.len<=k:=by
     have:=c.1;have:=zK f k;simp[k0]at*;omega
    obtain⟨a,w',h1,r,C,t,u⟩:=El.push (dG:=58) (xs:=[k]) rfl c (by simp[Plain]) I;refine⟨a,w',h1,o _ _ ⟨?_,?_,?_⟩⟩
    .exact((ae.cJ hx).trans t).mono λk l x=>by have:=d k x;omega
    .simpa[k0,iE,hf] using r
    .intro j e
     rcases u j e with e|e
     .exact d j e
     .have:=hx.size;omega
   .exact o _ _ ⟨hx,by simpa[k0,iE,hf] using c,d⟩
  .rintro a w' ⟨y,z,A⟩
   rw[bB I I];exact⟨⟨k+1,I,I,y,z,A⟩,(show((n:Int)-((k:Int)+1)).toNat<((n:Int)-(k:Int)).toNat from I)⟩
 .have m:k=n:=by
   have:¬(k:Int)<n:=by simpa using p
   omega
  subst m;exact⟨s,rfl,c,hx,d⟩
theorem zL(h:en w b n f g s1 s2):
 aH ai 74 #[.pointer (some b)] w (λv w'=>∃s:Y,v=s/\aZ 1 5 w' s (eu f ((n+7)/8))/\Ext w w'/\∀k,aB s k->w.heap.size<=k):=by
 have c:=h.bc;refine af.Cf _ w _ ?_;(delta af.pI al ak aW;dsimp only);refine⟨λh1=>by simp at h1,λ_=>⟨_,rfl,s1,h.aA,(zH h.now.src (wc f _) (by rw[qh h.now];omega)).use ?_⟩⟩;rintro _ ah ⟨s,rfl,a,hx,hf⟩;exact⟨s,rfl,s,rfl,a,hx,hf⟩
end
theorem zM(w:J)(n:Int):aH ai 128 #[n] w (λv w'=>v=.bool (decide (1<=n/\n<=1600))/\w=w'):=by
 refine okF (af.sy n) ay.sy func128 ?_;unfold af.sy;refine⟨?_,rfl⟩;simp[Bool.decide_and]
theorem zN(w:J)(n:Nat)(a:n<=1600):aH ai 129 #[n] w (λv w'=>v=.int .i64 (((n+7)/8:Nat):Int)/\w=w'):=by
 refine okF (af.sA n) ay.sA func129 ?_;delta af.sA au;refine⟨by decide,?_,rfl⟩;rw[bB (n:=(n:Int)+8) I I,bB (n:=(n:Int)+8-1) I I,show(n:Int)+8-1=((n+7:Nat):Int) from I,zz,bB I I]
theorem Ev(m:Nat):eu (λi=>decide (i<0)) m=List.replicate m (.int .u8 0):=by
 apply List.ext_getElem
 .simp[eu]
 .intro i h1 a
  simp[eu,byteOf,jU]
theorem Ew(j:Nat):cZ (λi=>decide (i<j)) j true=λi=>decide (i<j+1):=by
 funext i;unfold cZ;split
 .rename_i h;simp[h]
 .rename_i h;simp;omega
theorem nW(w:J)(n first:Int):
 aH ai 71 #[.int .i64 n,.int .i64 first] w (λv w'=>(¬(1<=n/\n<=1600/\0<=first/\first<=n)/\v=.tuple #[.pointer none,.int .i64 1]/\w=w')\/
  (1<=n/\n<=1600/\0<=first/\first<=n/\∃b s1 s2,v=.tuple #[.pointer (some ⟨b,0,none⟩),.int .i64 0]/\en w' b n.toNat (λi=>decide (i<first.toNat)) (λi=>decide (i<first.toNat)) s1 s2/\Ext w w'/\∀k,eN b s1 s2 k->w.heap.size<=k)):=by
 refine okF (af.nW n first) ay.nW func71 ?_;(delta af.nW ao aG al aA iR U ak aT au;dsimp only);refine(zM w n).use ?_;rintro _ _ ⟨rfl,rfl⟩;refine⟨_,rfl,λh=>.inl ⟨λhc=>?_,rfl,rfl⟩,λh=>?_⟩
 .simp at h;omega
 simp at h;obtain⟨⟨⟨F,G⟩,H⟩,K⟩:=h;obtain⟨n,rfl⟩:=o6 (by omega:0<=n);obtain⟨first,rfl⟩:=o6 (by omega:0<=first);refine(zN w n I).use ?_;rintro _ _ ⟨rfl,rfl⟩;refine⟨_,rfl,I,?_⟩;simp only[du];rw[Em];obtain⟨m,f⟩:∃m,m=(n+7)/8:=⟨_,rfl⟩;rw[←f];have l:=aZ.new (sz:=1) (T:=5) w (List.replicate m (.int .u8 0)) m (by simp) (by show m<=2^63-1;omega);rw[←Ev]at l⊢;have ar:Ext w (w.alloc (.cells (eu (λi=>decide (i<0)) m).toArray 5)):=ae.alloc (.refl _ _) _;generalize s:w.alloc (.cells (eu (λi=>decide (i<0)) m).toArray 5)=w1 at*;have L:w1.heap.size=w.heap.size+1:=by rw[←s];simp
 have t:=bh.new w1 #[.int .i64 (n:Int),.slice (some ⟨w.heap.size,0,none⟩) m m,.slice none 0 0] 218;have u:=ae.alloc ar (.cells #[.int .i64 (n:Int),.slice (some ⟨w.heap.size,0,none⟩) m m,.slice none 0 0] 218);have x:=l.ext (ae.alloc (.refl _ w1) (.cells #[.int .i64 (n:Int),.slice (some ⟨w.heap.size,0,none⟩) m m,.slice none 0 0] 218));refine⟨λi w'=>∃j:Nat,i=j/\j<=first/\Ext w w'/\bh w' w1.heap.size #[.int .i64 (n:Int),.slice (some ⟨w.heap.size,0,none⟩) m m,.slice none 0 0] 218/\
  aZ 1 5 w' ⟨some ⟨w.heap.size,0,none⟩,m,m⟩ (eu (λi=>decide (i<j)) m),λi _=>((first:Int)-i).toNat,⟨0,rfl,I,u,t,x⟩,?_⟩
 rintro _ ah ⟨j,rfl,M,hx,d,o⟩;refine⟨λaJ=>?_,λy=>?_⟩
 .have p:j<first:=by simpa using aJ
  refine⟨_,rfl,⟨some ⟨w.heap.size,0,none⟩,m,m⟩,by rw[ax,d.cell];rfl,(zB o (k:=j) I I).use ?_⟩;rintro _ z ⟨rfl,q,hc⟩;rw[Ew]at q;rw[bB I I];refine⟨rfl,⟨j+1,I,I,?_,d.ad hc ?_,q⟩,(show((first:Int)-((j:Int)+1)).toNat<((first:Int)-(j:Int)).toNat from I)⟩
  .exact((ae.cJ hx).trans hc).mono λk a c=>by rw[ml]at c;simp at c;omega
  .intro c
   rw[ml]at c;simp at c;omega
 .have p:j=first:=by
   have:¬(j:Int)<first:=by simpa using y
   omega
  subst p;have r:∀i,n<=i->decide (i<j)=false:=λi hi=>by simp;omega
  refine(we d o (λk a e=>?_) I).use ?_
  .rw[ml]at a
   simp at a;omega
  rintro _ z ⟨rfl,A,h1,B,C,D,g⟩;have N:=d.lt;refine⟨rfl,.inr ⟨I,I,I,I,w1.heap.size,⟨some ⟨w.heap.size,0,none⟩,m,m⟩,A,rfl,⟨h1,?_,?_,λk a=>⟨λe=>?_,λE=>?_⟩,λk a e=>?_,I,I,r,r⟩,?_,?_⟩⟩
  .simp only[←f];exact B
  .simp only[←f];exact C
  .rw[ml]at a
   simp at a;omega
  .rw[ml]at a
   simp at a;have:=g k E;omega
  .have:=g k a
   omega
  .exact((ae.cJ hx).trans D).mono λk a e=>by omega
  .rintro k (rfl|a|a)
   .omega
   .rw[ml]at a
    simp at a;omega
   .have:=g k a
    have:=hx.size;omega
structure aK where
 a6:Nat
 gen:Nat
 root:Nat
 aD:Nat
 C:bN
 sb:Nat
 n:Nat
 f:Nat->ag
 g:Nat->ag
 s1:Y
 s2:Y
 E:Nat->Prop
 G:Nat->Prop
 P:Nat->an az
def aK.cc(T:aK)(E G:Nat->Prop):aK:={T with E:=E,G:=G}
def aK.bw(T:aK)(C:bN)(P:Nat->an az):aK:={T with C:=C,P:=P}
def aK.X(T:aK)(q:Nat):Prop:=q=T.a6\/eN T.sb T.s1 T.s2 q\/T.E q\/T.G q
def aK.M(T:aK)(q:Nat):Prop:=cK T.C q\/T.X q
def aK.N(T:aK)(q:Nat):Prop:=cK T.C q\/q=T.a6\/eN T.sb T.s1 T.s2 q\/T.G q
theorem aK.gu{T:aK}{q:Nat}(h:T.N q):T.M q:=h.imp id (Or.imp id (Or.imp id .inr))
def fU(gen:Nat)(leaf:ag)(no:Nat)(l:cF)(n:az):Prop:=
 ∃p:gV,dh (no:Int) l=.ok p/\p.gen<=gen/\p.kind=(if leaf then 1 else 2)/\kh leaf p.body n/\2<=no
def jV(T:aK):O aa:=[.pointer (some T.C.c),.pointer (some T.sb),.int .u64 (T.gen:Nat),T.root,T.aD]
structure bK(w:J)(T:aK):Prop where
 t:Var w T.a6 (jV T) 239
 s:en w T.sb T.n T.f T.g T.s1 T.s2
 ca:dy T.X w T.C
 iF:¬eN T.sb T.s1 T.s2 T.a6
 c2:∀q,T.E q->q≠T.a6/\¬eN T.sb T.s1 T.s2 q/\¬T.G q
 hA:∀q,T.G q->q≠T.a6/\¬eN T.sb T.s1 T.s2 q
 n:T.C.D.n=T.n
 num:T.root<T.n/\T.aD<=12/\T.gen<18446744073709551616
 dM:∀no bf,T.P no=some bf->no<T.n/\fU T.gen bf.leaf no (T.C.view no) bf
 bD:∀j,T.C.D.bD j=true->T.g j=true\/T.C.D.ro
 low:T.g 0=true/\T.g 1=true
structure bO(T aq:aK)(w w':J)(k:Nat):Prop where
 a6:aq.a6=T.a6
 sb:aq.sb=T.sb
 n:aq.n=T.n
 g:aq.g=T.g
 s1:aq.s1=T.s1
 s2:aq.s2=T.s2
 c:aq.C.c=T.C.c
 d:aq.C.D.d=T.C.D.d
 a_:aq.C.D.key=T.C.D.key
 gen:aq.gen=T.gen
 aO:aq.C.D.aO<=T.C.D.aO+k
 calm:∀m,T.C.D.calm (m+k)->aq.C.D.calm m
 ad:ae T.N w w'
 cN:∀q,aq.M q->T.M q\/w.heap.size<=q
 fn:∀q,aq.N q->T.N q\/w.heap.size<=q
theorem bO.bD{T aq:aK}{w w':J}{k:Nat}(h:bO T aq w w' k):aq.C.D.bD=T.C.D.bD/\aq.C.D.dQ=T.C.D.dQ:=by
 have:=congrArg Prod.fst h.a_;exact⟨congrArg (λp=>p.2.1) this,congrArg (λp=>p.2.2.1) this⟩
theorem bO.refl(T:aK)(w:J):bO T T w w 0:=⟨rfl,rfl,rfl,rfl,rfl,rfl,rfl,rfl,rfl,rfl,br _,λ_ h=>h,.refl _ _,λ_ h=>.inl h,λ_ h=>.inl h⟩
theorem bO.ext{w w':J}(T:aK)(h:Ext w w'):bO T T w w' 0:=⟨rfl,rfl,rfl,rfl,rfl,rfl,rfl,rfl,rfl,rfl,br _,λ_ h=>h,ae.cJ h,λ_ h=>.inl h,λ_ h=>.inl h⟩
theorem bO.trans{T aq e:aK}{w w' f:J}{k l:Nat}(h1:bO T aq w w' k)(a:bO aq e w' f l):bO T e w f (k+l):=by
 have hs:=h1.ad.size;refine⟨a.a6.trans h1.a6,a.sb.trans h1.sb,a.n.trans h1.n,a.g.trans h1.g,a.s1.trans h1.s1,a.s2.trans h1.s2,a.c.trans h1.c,a.d.trans h1.d,a.a_.trans h1.a_,a.gen.trans h1.gen,by have:=h1.aO;have:=a.aO;omega,
  λm i=>a.calm m (h1.calm (m+l) (by rw[show m+l+k=m+(k+l) from I];exact i)),ck h1.ad a.ad λq b h=>(h1.fn q h).resolve_right I,λq b=>?_,λq b=>?_⟩
 .rcases a.cN q b with h|h
  .exact h1.cN q h
  .exact .inr I
 .rcases a.fn q b with h|h
  .exact h1.fn q h
  .exact .inr I
theorem bO.mono{T aq:aK}{w w':J}{k l:Nat}(h:bO T aq w w' k)(hl:k<=l):bO T aq w w' l:=
 ⟨h.a6,h.sb,h.n,h.g,h.s1,h.s2,h.c,h.d,h.a_,h.gen,by have:=h.aO;omega,λm a=>h.calm m (fT a I),h.ad,h.cN,h.fn⟩
theorem bO.bf{T aq:aK}{w w':J}{k lo:Nat}(h:bO T aq w w' k){n:az}{K V D:Y}(e:bp (λq=>lo<=q/\¬T.M q) w n K V D):bp (λq=>lo<=q/\¬aq.M q) w' n K V D:=by
 have h1:bp (λq=>q<w.heap.size/\lo<=q/\¬T.M q) w n K V D:=e.aU λq b a=>⟨b,a⟩;refine(bp.ad h1 h.ad λq b c=>b.2.2 (aK.gu c)).aU λq _ a=>⟨a.2.1,λc=>?_⟩;rcases h.cN q c with d|d
 .exact a.2.2 d
 .have:=a.1;omega
section
variable {w w':J}{T aq:aK}
theorem bO.step{W E G:Nat->Prop}{w1:J}{k:Nat}(h:bO T aq w w1 k)(hc:ae W w1 w')(cd:∀q,W q->q<w.heap.size->T.N q)(e:∀q,E q->aq.E q\/aq.G q\/w.heap.size<=q)(b:∀q,G q->aq.G q\/w.heap.size<=q):bO T (aq.cc E G) w w' k:=by
 refine⟨h.a6,h.sb,h.n,h.g,h.s1,h.s2,h.c,h.d,h.a_,h.gen,h.aO,h.calm,ck h.ad hc λq a f=>cd q f a,λq a=>?_,λq a=>?_⟩
 .rcases a with a|a|a|a|a
  .exact h.cN q (.inl a)
  .exact h.cN q (.inr (.inl a))
  .exact h.cN q (.inr (.inr (.inl a)))
  .rcases e q a with h1|h1|h1
   .exact h.cN q (.inr (.inr (.inr (.inl h1))))
   .exact h.cN q (.inr (.inr (.inr (.inr h1))))
   .exact .inr h1
  .rcases b q a with h1|h1
   .exact h.cN q (.inr (.inr (.inr (.inr h1))))
   .exact .inr h1
 .rcases a with a|a|a|a
  .exact h.fn q (.inl a)
  .exact h.fn q (.inr (.inl a))
  .exact h.fn q (.inr (.inr (.inl a)))
  .rcases b q a with h1|h1
   .exact h.fn q (.inr (.inr (.inr h1)))
   .exact .inr h1
theorem bO.local{bT iX a wh:Nat->Prop}{w1:J}{k:Nat}(h:bO (T.cc bT a) aq w1 w' k)(hx:Ext w w1)(b:∀q,bT q->T.E q\/w.heap.size<=q)(c:∀q,a q->T.G q\/w.heap.size<=q)
 (d:∀q,iX q->aq.E q\/aq.G q) (e:∀q,wh q->aq.G q):bO T (aq.cc iX wh) w w' k:=by
 have h0:bO T (T.cc bT a) w w1 0:=(bO.ext T (w:=w) (w':=w) (ae.refl _ _)).step (W:=λ_=>False) hx (λ_ h=>h.elim) (λq h=>(b q h).imp id .inr) c;have h1:=h0.trans h;rw[cH]at h1;exact h1.step (W:=λ_=>False) (ae.refl _ _) (λ_ h=>h.elim) (λq h=>(d q h).imp id .inl) λq h=>.inl (e q h)
theorem bK.lt(h:bK w T){q:Nat}(a:T.M q):q<w.heap.size:=by
 rcases a with a|a
 .exact h.ca.raw.lt a
 .exact(h.ca.inv.eI q a).1
theorem bK.iC(h:bK w T){q:Nat}(b:T.E q):¬T.N q:=by
 rintro(a|a|a|a)
 .exact(h.ca.inv.eI q (.inr (.inr (.inl b)))).2 a
 .exact(h.c2 q b).1 a
 .exact(h.c2 q b).2.1 a
 .exact(h.c2 q b).2.2 a
theorem bK.ext(h:bK w T)(hx:Ext w w'):bK w' T:=⟨h.t.ext hx,h.s.ext hx,h.ca.ext hx,h.iF,h.c2,h.hA,h.n,h.num,h.dM,h.bD,h.low⟩
theorem dy.grow{X d W:Nat->Prop}{C:bN}(h:dy X w C)(hc:ae W w w')(cd:∀q,W q->q<w.heap.size->X q)(e:∀q,d q->X q\/(w.heap.size<=q/\q<w'.heap.size)):dy d w' C:=by
 have g:ae X w w':=ck (W:=X) (ae.refl _ _) hc λq a i=>cd q i a;refine⟨h.raw.ad g λq a hx=>(h.inv.eI q hx).2 a,h.inv.pins,λf hf j=>?_,h.inv.un,λq a=>?_,h.inv.jT⟩
 .obtain⟨no,av,k,m,n,o,p,r⟩:=h.inv.ok f hf j
  have s:bg (λq=>q<w.heap.size/\¬cK C q/\¬X q) w f.b f.l:=bg.aU m λq a c=>⟨a,c⟩;refine⟨no,av,k,bg.aU (bg.ad s g λq a hx=>a.2.2 hx) λq _ c=>⟨c.2.1,λt=>?_⟩,n,o,p,r⟩;rcases e q t with h1|h1
  .exact c.2.2 h1
  .have:=c.1;omega
 .rcases e q a with h1|h1
  .exact⟨fc (h.inv.eI q h1).1 hc.size,(h.inv.eI q h1).2⟩
  .exact⟨h1.2,λhf=>by have:=h.raw.lt hf;omega⟩
theorem bK.grow{E G W:Nat->Prop}(h:bK w T)(hc:ae W w w')(cd:∀q,W q->q<w.heap.size->T.E q\/T.G q)(c:∀q,E q->T.E q\/T.G q\/(w.heap.size<=q/\q<w'.heap.size))(f:∀q,G q->T.E q\/T.G q\/(w.heap.size<=q/\q<w'.heap.size))(j:∀q,E q->¬G q):bK w' (T.cc E G):=by
 have b:∀q,T.E q\/T.G q->q≠T.a6/\¬eN T.sb T.s1 T.s2 q:=λq a=>by
  rcases a with a|a
  .exact⟨(h.c2 q a).1,(h.c2 q a).2.1⟩
  .exact h.hA q a
 have g:ae (λq=>T.E q\/T.G q) w w':=ck (W:=λq=>T.E q\/T.G q) (ae.refl _ _) hc λq a k=>cd q k a;have d:∀q,T.E q\/T.G q\/(w.heap.size<=q/\q<w'.heap.size)->q≠T.a6/\¬eN T.sb T.s1 T.s2 q:=λq a=>by
  rcases a with a|a|a
  .exact b q (.inl a)
  .exact b q (.inr a)
  .exact⟨λe=>by have l:=h.lt (q:=q) (.inr (.inl e));omega,λe=>by have l:=h.lt (q:=q) (.inr (.inr (.inl e)));omega⟩
 have i:∀q,T.E q\/T.G q\/(w.heap.size<=q/\q<w'.heap.size)->T.X q\/(w.heap.size<=q/\q<w'.heap.size):=λq a=>by
  rcases a with a|a|a
  .exact .inl (.inr (.inr (.inl a)))
  .exact .inl (.inr (.inr (.inr a)))
  .exact .inr a
 refine⟨h.t.ad g λe=>(b _ e).1 rfl,h.s.ad g λq a e=>(b q e).2 a,h.ca.grow hc (λq a hl=>.inr (.inr (cd q a hl))) λq a=>?_,h.iF,λq a=>⟨(d q (c q a)).1,(d q (c q a)).2,j q a⟩,λq a=>d q (f q a),h.n,h.num,h.dM,h.bD,h.low⟩;rcases a with a|a|a|a
 .exact .inl (.inl a)
 .exact .inl (.inr (.inl a))
 .exact i q (c q a)
 .exact i q (f q a)
theorem bK.cells(h:bK w T):w.cell? T.a6=some (.pointer (some T.C.c))/\w.cell? (Addr.add T.a6 1)=some (.pointer (some T.sb))/\w.cell? (Addr.add T.a6 2)=some (.int .u64 (T.gen:Nat))/\
 w.cell? (Addr.add T.a6 3)=some (.int .i64 (T.root:Nat))/\w.cell? (Addr.add T.a6 4)=some (.int .i64 (T.aD:Nat)):=by
 rw[ax,ax,ax,ax];exact⟨h.t.cell,h.t.cell,h.t.cell,h.t.cell,h.t.cell⟩
theorem bK.Ex(h:bK w T){no:Nat}(a:no<T.n):(T.C.view no).length=256:=by
 unfold bN.view
 cases hf:T.C.aj.find? λf=>f.full&&f.no==(no:Int) with
 |some f=>
  have h1:=iq hf;have b:=je hf;obtain⟨m,c⟩:=h.ca.inv.ok f h1 (by
   have:(f.full&&f.no==(no:Int))=true:=b;exact(Bool.and_eq_true_iff.1 this).1)
  exact c.len
 |none=>exact h.ca.raw.dev.m0 (by rw[h.n];exact a)
theorem bK.oI{aC:bN}{k:Nat}{P:Nat->an az}(h:bK w T)(e:dy T.X w' aC)(a:dY T.C aC w w' k)(f:∀no bf,P no=some bf->no<T.n/\fU T.gen bf.leaf no (aC.view no) bf):
 bK w' (T.bw aC P)/\bO T (T.bw aC P) w w' k:=by
 have hx:=h.ca.inv.eI;have hc:=a.ad;refine⟨⟨?_,h.s.ad hc λq b hf=>(hx q (.inr (.inl b))).2 hf,e,h.iF,h.c2,h.hA,?_,h.num,f,λj l=>by unfold aV.ro;show T.g j=true\/∀i,aC.D.bD i=true;rw[a.bD];exact h.bD j (by rw[←a.bD];exact l),h.low⟩,⟨rfl,rfl,rfl,rfl,rfl,rfl,a.c,a.d,a.a_,rfl,a.aO,a.calm,hc.mono λq _ b=>.inl b,?_,?_⟩⟩
 .have:=h.t.ad hc λhf=>(hx T.a6 (.inl rfl)).2 hf
  unfold jV at this⊢;rw[←a.c]at this;exact this
 .show aC.D.n=T.n
  rw[a.n,h.n]
 .rintro q (b|b)
  .rcases a.cN q b with h1|h1
   .exact .inl (.inl h1)
   .exact .inr h1
  .exact .inl (.inr b)
 .rintro q (b|b)
  .rcases a.cN q b with h1|h1
   .exact .inl (.inl h1)
   .exact .inr h1
  .exact .inl (.inr b)
end
def Ey(T:aK)(leaf:ag)(no:Nat)(e:Int):Prop:=
 (e=3/\¬T.C.D.calm 2)\/dh (no:Int) (T.C.view no)=.error e\/(e=4/\(∃p,dh (no:Int) (T.C.view no)=.ok p)/\∀n,¬fU T.gen leaf no (T.C.view no) n)
def m6(T:aK)(leaf:ag)(no:Nat)(w:J)(v:aa)(w':J):Prop:=
 ∃aC:bN,bK w' (T.bw aC T.P)/\bO T (T.bw aC T.P) w w' 2/\(∀j,aC.view j=T.C.view j)/\
  ((∃ (n:az) (K V D:Y),v=.tuple #[cM n K V D,(0:Int)]/\fU T.gen leaf no (T.C.view no) n/\bp (λq=>w.heap.size<=q/\¬(T.bw aC T.P).M q) w' n K V D)\/
    (∃e:Int,v=.tuple #[cM jS bu bu bu,e]/\Ey T leaf no e/\e≠0))
theorem zO{no:Int}{l:cF}{e:Int}(h:dh no l=.error e):e≠0:=by
 intro he;subst he;unfold dh at h
 repeat' split at h
 all_goals first|(injection h with h;exact absurd h (by decide))|cases h
theorem Ez{no:Int}{l:cF}{p:gV}(h:dh no l=.ok p):p.body.length<=256:=by
 unfold dh at h
 repeat' split at h
 all_goals first|(cases h;done)|skip
 rename_i h1 _ _ _ _ _;injection h with h
 rw[←h];show(List.take _ (List.drop 24 l)).length<=256;rw[cC,c5];omega
theorem tO{w':J}{h:Nat}{vs:O aa}(n g:Int)(s:Y)(a:Var w' h vs 150)(hl:vs.length=3){K:J->Prop}(b:∀ah,Var ah h [n,.int .u64 g,s] 150->ae (λq=>q=h) w' ah->ah.heap.size=w'.heap.size->K ah):
 bz w' h [n,.int .u64 g,s]/\(3:Nat)=3/\ao (setCells w' h 0 [n,.int .u64 g,s]) K:=by
 refine⟨a.b5 (by rw[hl];rfl) ?_,rfl,cn a (us:=[n,.int .u64 g,s]) (by rw[hl];rfl) rfl b⟩;intro v a;simp only[cR,eR,eY]at a;rcases a with rfl|rfl|rfl<;>trivial
theorem wi{w:J}{T:aK}(h:bK w T)(aI:T.C.D.aO<=999999999){no:Nat}(am:no<T.n)(an:2<=no)(leaf:ag):
 aH ai 196 #[.pointer (some T.a6),no,leaf] w (m6 T leaf no w):=by
 have bg:=h.s.bc;have aJ:=h.Ex am;refine okF (af.sQ (some T.a6) (no:Int) leaf) ay.sQ func196 ?_;(delta af.sQ cg bW al vb U fh a7 ak j_ z3 bt r1 pE jJ;dsimp only);refine bk (vs:=[false,(),(),()]) rfl λw1 aL ao bh=>?_;obtain⟨o,N⟩:∃o,o=λq=>T.G q\/q=w.heap.size:=⟨_,rfl⟩;have ap:o w.heap.size:=by rw[N];exact .inr rfl
 have O:∀q,T.G q->o q:=λq c=>by rw[N];exact .inl c
 have R:∀q,o q->T.G q\/q=w.heap.size:=λq c=>by rw[N]at c;exact c
 have h1:bK w1 (T.cc T.E o):=h.grow (W:=λ_=>False) ao (λ_ h=>h.elim) (λq c=>.inl c) (λq c=>.inr ((R q c).imp id λe=>⟨I,I⟩)) λq c hg=>by
  rcases R q hg with t|t
  .exact(h.c2 q c).2.2 t
  .have:=h.lt (q:=q) (.inr (.inr (.inr (.inl c))));omega
 refine⟨_,rfl,_,h1.cells.1,(DW h1.ca aI (no:=no) (by rw[h1.n];exact am) an).use ?_⟩;rintro _ m ⟨aC,aM,S,u,aN⟩;obtain⟨X,aP⟩:=h1.oI (P:=T.P) aM S (λno bf aQ=>by rw[u];exact h1.dM no bf aQ);have bi:=S.ad.size;have aq:Var m w.heap.size [false,(),(),()] 202:=aL.ad S.ad λhf=>(h1.ca.inv.eI _ (.inr (.inr (.inr ap)))).2 hf
 have fin:∀w':J,ae (λq=>q=w.heap.size) m w'->bK w' (T.bw aC T.P)/\bO T (T.bw aC T.P) w w' 2:=λw' hc=>by
  refine⟨X.grow (E:=T.E) (G:=T.G) hc (λq e _=>.inr (by rw[e];exact ap)) (λq c=>.inl c) (λq c=>.inr (.inl (O q c))) λq c=>(h.c2 q c).2.2,?_⟩;have aR:=aP.local ao (λq c=>.inl c) (λq c=>(R q c).imp id λe=>I) (iX:=T.E) (wh:=T.G) (λq c=>.inl c) O;exact aR.step hc (λq e hl=>I) (λq c=>.inl c) λq c=>.inl c
 have aS:∀ {w':J}{n:az}{K V D:Y}{B:Nat->Prop},bp (λq=>m.heap.size<=q) w' n K V D->bp (λq=>w.heap.size<=q/\¬(T.bw aC T.P).M q) w' n K V D:=λaT=>by
  refine aT.aU λq _ c=>⟨I,λj=>?_⟩;have:q<m.heap.size:=X.lt (q:=q) (by
   rcases j with j|j|j|j|j
   .exact .inl j
   .exact .inr (.inl j)
   .exact .inr (.inr (.inl j))
   .exact .inr (.inr (.inr (.inl j)))
   .exact .inr (.inr (.inr (.inr (O q j)))))
  omega
 rcases aN with ⟨s,rfl,hs⟩|⟨rfl,aV⟩
 .refine⟨s,0,rfl,λd=>(by cases d),λ_=>(lD hs.1 hs.2.1 (by show(T.C.view no).length<=1000;rw[aJ];omega) _).use ?_⟩
  rintro _ aW ⟨z,H⟩;have ar:=aq.ext H;have bj:=H.size;have aX:(T.cc T.E o).C.view no=T.C.view no:=rfl;rw[aX]at z
  cases g:dh (no:Int) (T.C.view no) with
  |error e=>
   rw[g]at z;obtain rfl:=z;refine⟨0,0,⟨none,0,0⟩,e,rfl,bk (vs:=[(0:Int),.int .u64 0,()]) rfl λa0 Z v a1=>?_⟩;refine tO 0 0 ⟨none,0,0⟩ Z rfl λf au x a2=>⟨λ_=>?_,λd=>?_⟩
   .have aa:Var f w.heap.size [false,(),(),()] 202:=(ar.ext v).ad x I
    refine iA false bu bu bu aa rfl (Q:=λb K V D ah=>m6 T leaf no w (.tuple #[.agg #[b,K,V,D],e]) ah) λl i=>?_;obtain⟨f1,f2⟩:=fin l (ck (W:=λq=>q=w.heap.size) (ae.cJ (Ext.cv (H.trans v) x I)) i λq _ e=>e);exact⟨aC,f1,f2,u,.inr ⟨e,rfl,.inr (.inl g),zO g⟩⟩
   .have:=zO g
    simp at d;omega
  |ok p=>
   rw[g]at z;obtain⟨A,rfl,ab,bl⟩:=z;refine⟨p.kind,p.gen,A,0,rfl,bk (vs:=[(0:Int),.int .u64 0,()]) rfl λa0 Z v a1=>?_⟩;refine tO p.kind p.gen A Z rfl λf au x a2=>⟨λd=>(by cases d),λ_=>aY ?_⟩;have aa:Var f w.heap.size [false,(),(),()] 202:=(ar.ext v).ad x I;have a3:Ext m f:=Ext.cv (H.trans v) x I;have F:Ext m f.drew:=a3.trans (cr _);have ac:Var f.drew w.heap.size [false,(),(),()] 202:=aa.drew;have L:=au.drew;have a4:=(X.ext F).cells;obtain⟨b,d⟩:∃b,b=aW.heap.size:=⟨_,rfl⟩;rw[←d]at L⊢;have aj:f.drew.cell? b=some (.int .i64 (p.kind:Nat)):=L.cell;have a5:f.drew.cell? (Addr.add b 1)=some (.int .u64 (p.gen:Nat)):=by rw[ax];exact L.cell
   have a8:f.drew.cell? (Addr.add b 2)=some (.slice A.a A.len A.cap):=by rw[ax];exact L.cell
   have bm:m.heap.size<=f.drew.heap.size:=F.size;refine⟨id,_,a5,_,rfl,id,_,a4.2.2.1,λhg=>?_,λhg=>⟨id,_,aj,?_⟩⟩
   .have hg:T.gen<p.gen:=by
     have:(p.gen:Int)>(T.gen:Int):=cf hg;omega
    refine cl (λb w'=>b=true/\w'=f.drew) (λq c=>⟨λ_=>c _ _ ⟨rfl,rfl⟩,λh=>by cases h⟩) ?_;rintro _ _ ⟨rfl,rfl⟩;refine⟨λ_=>?_,λh=>(by cases h)⟩;refine iA false bu bu bu ac rfl (Q:=λb K V D ah=>m6 T leaf no w (.tuple #[.agg #[b,K,V,D],(4:Int)]) ah) λl i=>?_;obtain⟨f1,f2⟩:=fin l (ck (W:=λq=>q=w.heap.size) (ae.cJ F) i λq _ e=>e);refine⟨aC,f1,f2,u,.inr ⟨4,rfl,.inr (.inr ⟨rfl,⟨p,g⟩,?_⟩),by decide⟩⟩;rintro n ⟨aw,av,aA,_⟩;rw[g]at av;cases av;omega
   .have hg:p.gen<=T.gen:=by
     have:¬(p.gen:Int)>(T.gen:Int):=cx hg;omega
    refine cl (λb w'=>w'=f.drew/\(b=false↔p.kind=(if leaf then 1 else 2))) (λq c=>⟨λh=>c _ _ ⟨rfl,?_⟩,λh=>⟨_,aj,cl (λb w'=>w'=f.drew/\(b=false↔p.kind=(if leaf then 1 else 2))) (λr aB=>⟨λt=>⟨_,aj,aB _ _ ⟨rfl,?_⟩⟩,λt=>aB _ _ ⟨rfl,?_⟩⟩) λb w' a9=>c b w' a9⟩⟩) ?_
    .refine⟨λh=>(by cases h),λy=>?_⟩
     rw[y]at h
     cases leaf<;>simp at h
    .cases leaf
     .simp
      exact Int.ofNat_inj
     .simp at t h;omega
    .cases leaf
     .simp at t h;omega
     .simp at t
      simp;omega
    rintro bn _ ⟨rfl,y⟩;refine⟨λd=>?_,λd=>⟨_,a8,(od ((ab.ext (Ext.cv v x I|>.trans (cr _))).src) ?_ ?_ ?_ leaf).use ?_⟩⟩
    .refine iA false bu bu bu ac rfl (Q:=λb K V D ah=>m6 T leaf no w (.tuple #[.agg #[b,K,V,D],(4:Int)]) ah) λl i=>?_
     obtain⟨f1,f2⟩:=fin l (ck (W:=λq=>q=w.heap.size) (ae.cJ F) i λq _ e=>e);refine⟨aC,f1,f2,u,.inr ⟨4,rfl,.inr (.inr ⟨rfl,⟨p,g⟩,?_⟩),by decide⟩⟩;rintro n ⟨aw,av,aA,aD,_⟩;rw[g]at av;cases av;rw[y.2 aD]at d;cases d
    .exact ab.2.1
    .intro k y
     have:=aZ.lt ab k y;have:=v.size;show k<f.heap.size;omega
    .have:=Ez g
     omega
    rintro _ a_ ⟨ba,aE⟩;have aF:Ext m a_:=F.trans aE;have aG:=ac.ext aE;rcases ba with ⟨n,K,V,D,rfl,bb,cS⟩|⟨rfl,bd⟩
    .refine⟨n.leaf,K,V,D,0,rfl,?_⟩
     refine iA n.leaf K V D aG rfl (Q:=λb K V D ah=>m6 T leaf no w (.tuple #[.agg #[b,K,V,D],(0:Int)]) ah) λl i=>?_;obtain⟨f1,f2⟩:=fin l (ck (W:=λq=>q=w.heap.size) (ae.cJ aF) i λq _ e=>e);refine⟨aC,f1,f2,u,.inl ⟨n,K,V,D,rfl,⟨p,g,hg,y.1 d,bb,an⟩,?_⟩⟩;refine aS (B:=λ_=>True) (bp.ad (cS.aU λq _ c=>?_) i λq c e=>?_)
     .omega
     .have:m.heap.size<=q:=c
      omega
    .refine⟨false,bu,bu,bu,4,rfl,?_⟩
     refine iA false bu bu bu aG rfl (Q:=λb K V D ah=>m6 T leaf no w (.tuple #[.agg #[b,K,V,D],(4:Int)]) ah) λl i=>?_;obtain⟨f1,f2⟩:=fin l (ck (W:=λq=>q=w.heap.size) (ae.cJ aF) i λq _ e=>e);refine⟨aC,f1,f2,u,.inr ⟨4,rfl,.inr (.inr ⟨rfl,⟨p,g⟩,?_⟩),by decide⟩⟩;rintro n ⟨aw,av,aA,aD,be,_⟩;rw[g]at av;cases av;exact bd n be
 .refine⟨⟨none,0,0⟩,3,rfl,λ_=>?_,λd=>(by cases d)⟩
  refine iA false bu bu bu aq rfl (Q:=λb K V D ah=>m6 T leaf no w (.tuple #[.agg #[b,K,V,D],(3:Int)]) ah) λl i=>?_;obtain⟨f1,f2⟩:=fin l i;exact⟨aC,f1,f2,u,.inr ⟨3,rfl,.inl ⟨rfl,aV⟩,by decide⟩⟩
structure db where
 no:Nat
 n:az
 cB:Nat
 K:Y
 V:Y
 D:Y
def db.c(s:db):O aa:=[s.no,s.n.leaf,s.K,s.V,s.D,s.cB]
def db.st(s:db):Nat×az×Nat:=(s.no,s.n,s.cB)
theorem m7(l:O db):∀x∈l,(db.c x).length=6:=λ_ _=>rfl
structure iY(B:Nat->Prop)(w:J)(s:Y)(l:O db):Prop where
 own:aZ 6 232 w s (b1 db.c l)
 m8:∀q,aB s q->B q
 bf:∀x∈l,bp B w x.n x.K x.V x.D
def lT(P:Nat->an az)(k:Key):Nat->Nat->O (Nat×az×Nat)->Prop
 |0,_,l=>l=[]
 |h+1,no,l=>∃n rest,P no=some n/\n.leaf=decide (h=0)/\l=(no,n,if h=0 then 0 else ew n.keys k)::rest/\lT P k h (n.kids.getD (ew n.keys k) 0) rest
theorem lT.length{P:Nat->an az}{k:Key}:∀ {h no:Nat}{l:O (Nat×az×Nat)},lT P k h no l->l.length=h
 |0,_,_,h=>by rw[h];rfl
 |h+1,_,_,⟨n,rest,_,_,a,b⟩=>by rw[a,fD,lT.length b]
theorem fU.uniq{gen no:Nat}{leaf:ag}{l:cF}{n m:az}(h1:fU gen leaf no l n)(a:fU gen leaf no l m):n=m:=by
 obtain⟨p,a1,a2,a3,a4⟩:=h1;obtain⟨q,b8,bM,c,b⟩:=a;rw[a1]at b8
 cases b8;exact kh.uniq a4.1 b.1
theorem fU.is{gen no:Nat}{leaf:ag}{l:cF}{n:az}(h:fU gen leaf no l n):n.leaf=leaf/\cp n/\bx n<=232:=by
 obtain⟨p,_,_,_,a,_⟩:=h;exact⟨a.2.1,a.1,a.2.2.1⟩
theorem fU.two{gen no:Nat}{leaf:ag}{l:cF}{n:az}(h:fU gen leaf no l n):2<=no:=by
 obtain⟨p,_,_,_,_,a⟩:=h;exact a
theorem cp.e8{n:az}(h:cp n):n.keys.Pairwise bU:=by
 rcases h with h|h
 .exact h.e8
 .exact h.e8
def EA(T:aK)(steps:O (Nat×az×Nat))(w:J)(v:aa)(w':J):Prop:=
 ∃aC:bN,bK w' (T.bw aC T.P)/\bO T (T.bw aC T.P) w w' (2*T.aD)/\(∀j,aC.view j=T.C.view j)/\
  ((∃ (s:Y) (l:O db),v=.tuple #[s,(0:Int)]/\l.map db.st=steps/\iY (λq=>w.heap.size<=q/\¬(T.bw aC T.P).M q) w' s l)\/(v=.tuple #[(),(3:Int)]/\¬T.C.D.calm (2*T.aD)))
theorem EB(w:J)(cs:Array aa)(h:cs.size=6):Sem.run ai (Instr.buildSlice 228 1 #[(0,.agg cs)]) w=.ok (.slice (some w.heap.size) 1 1) (w.alloc (.cells cs 232)):=by
 have h0:((Tryz.prog.info? 232).bind (·.zero)).isSome=true:=by kernel_rfl
 obtain⟨z,a⟩:=nj.1 h0;obtain⟨i,hi,b⟩:=tG a;have h1:(Tryz.prog.underlying 232).isSome=true:=by kernel_rfl
 obtain⟨d,hd⟩:=nj.1 h1;exact zf (sz:=6) w (by kernel_rfl) hd (by kernel_rfl) hi b h (by decide) (by decide)
theorem EC:hF ai 228 232 6 96:=⟨by kernel_rfl⟩
theorem zP{h:Nat}{n:az}(a:n.leaf=decide (h=0)):((((h+1:Nat):Int):Int)==1)=n.leaf:=by
 rw[a,fm,jc,cO];omega
theorem zQ{w:J}{T:aK}{tk:Y}{k:Key}{steps:O (Nat×az×Nat)}(h:bK w T)(cp:T.C.D.aO<=900000000)(bz:Src 1 w tk (aF k))(bA:∀q,aB tk q->q<w.heap.size/\¬T.M q)(bD:lT T.P k T.aD T.root steps):
 aH ai 142 #[.pointer (some T.a6),tk] w (EA T steps w):=by
 have cr:=h.num.2.1;refine okF (af.sG (some T.a6) tk) ay.sG func142 ?_;(delta af.sG r1 al jJ cg U a7 ak fo aA st aI au;dsimp only);refine⟨_,rfl,_,h.cells.2.2.2.1,_,rfl,_,h.cells.2.2.2.2,λs n8 n9 w'=>∃ (ef no:Nat) (l:O db) (rest:O (Nat×az×Nat)) (bT:Nat->Prop) (aC:bN),n9=(ef:Nat)/\n8=(no:Nat)/\lT T.P k ef no rest/\l.map db.st++rest=steps/\l.length+ef=T.aD/\
  bT=(λq=>T.E q\/aB s q)/\(∀q,aB s q->w.heap.size<=q)/\bK w' ((T.cc bT T.G).bw aC T.P)/\bO T ((T.cc bT T.G).bw aC T.P) w w' (2*l.length)/\(∀j,aC.view j=T.C.view j)/\aZ 6 232 w' s (b1 db.c l)/\
  ∀x∈l,bp (λq=>w.heap.size<=q/\¬((T.cc bT T.G).bw aC T.P).M q) w' x.n x.K x.V x.D,λ_ _ n9 _=>n9.toNat,?_,?_⟩
 .have bE:T.E=λq=>T.E q\/aB ⟨none,0,0⟩ q:=by
   funext q;refine propext ⟨.inl,λh=>h.resolve_right ?_⟩;rintro⟨A,ar,_⟩
   cases ar
  have a8:(T.cc T.E T.G).bw T.C T.P=T:=rfl;refine⟨T.aD,T.root,[],steps,T.E,T.C,rfl,rfl,bD,rfl,by simp,bE,?_,by rw[a8];exact h,by rw[a8];exact .refl _ _,λ_=>rfl,?_,λx hx=>(by cases hx)⟩
  .rintro q ⟨A,ar,_⟩
   cases ar
  .exact⟨rfl,br _,by decide,.inl ⟨rfl,rfl⟩⟩
 have fin:∀ {w':J}{bT:Nat->Prop}{aC:bN}{s:Y}{k:Nat},bK w' ((T.cc bT T.G).bw aC T.P)->bO T ((T.cc bT T.G).bw aC T.P) w w' k->bT=(λq=>T.E q\/aB s q)->(∀q,aB s q->w.heap.size<=q)->bK w' (T.bw aC T.P)/\bO T (T.bw aC T.P) w w' k:=by
  intro w' bT aC s k h1 ab g z;have F:∀q,T.E q->bT q:=λq a=>by rw[g];exact .inl a
  exact⟨h1.grow (W:=λ_=>False) (E:=T.E) (G:=T.G) (ae.refl _ _) (λ_ h=>h.elim) (λq a=>.inl (F q a)) (λq a=>.inr (.inl a)) λq a=>(h.c2 q a).2.2,
   ab.step (W:=λ_=>False) (ae.refl _ _) (λ_ h=>h.elim) (λq a=>.inl (F q a)) λq a=>.inl a⟩
 rintro s _ _ cs ⟨ef,no,l,rest,bT,ac,rfl,rfl,a9,a_,hlen,H,L,t,R,f,aq,cS⟩;have ct:=R.ad.size;refine⟨λaJ=>?_,λbF=>?_⟩
 .obtain⟨o,rfl⟩:∃bG,ef=bG+1:=⟨ef-1,by have:(ef:Int)>0:=cf aJ;omega⟩
  obtain⟨n,bH,bI,ba,rfl,bb⟩:=a9;obtain⟨bJ,S⟩:=t.dM no n bI;have bL:ac.D.aO<=999999999:=by
   have:ac.D.aO<=T.C.D.aO+2*l.length:=R.aO;omega
  refine(wi t bL bJ S.two _).use ?_;rintro _ r ⟨B,ab,ag,bd,be⟩;have aw:=R.trans ag;have cu:=ag.ad.size;rw[zP ba]at be;rcases be with ⟨bc,K,V,D,rfl,bM,aE⟩|⟨e,rfl,bP,bQ⟩
  .obtain rfl:=fU.uniq S bM
   obtain⟨_,aL,cw⟩:=S.is;have bR:=aL.e8;have cy:=tn aL;refine⟨n.leaf,K,V,D,0,rfl,bk (vs:=[false,(),(),()]) rfl λbU X aM bV=>?_⟩;refine⟨X.b5 rfl ?_,rfl,cn X (us:=[n.leaf,K,V,D]) rfl rfl λah aN aP bW=>⟨λd=>(by cases d),λ_=>?_⟩⟩
   .intro v f
    simp only[cR,eR,eY]at f;rcases f with rfl|rfl|rfl|rfl<;>trivial
   have bg:Ext r ah:=Ext.cv aM aP (br _);have cz:=bg.size;obtain⟨bS,aA,aT,aG⟩:=bC aN;refine⟨_,bS,K,aA,V,aT,D,aG,#[no,n.leaf,K,V,D,(0:Int)],by kernel_rfl,?_⟩;refine bk (vs:=[(0:Int),false,(),(),(),(0:Int)]) rfl λcA bh bi cB=>?_;refine⟨bh.b5 rfl ?_,rfl,cn bh (us:=[no,n.leaf,K,V,D,(0:Int)]) rfl rfl λaQ aR bj cC=>?_⟩
   .intro v f
    simp only[cR,eR,eY]at f;rcases f with rfl|rfl|rfl|rfl|rfl|rfl<;>trivial
   have aj:Ext r aQ:=Ext.cv (bg.trans bi) bj I;have aS:Var aQ r.heap.size [n.leaf,K,V,D] 202:=(aN.ext bi).ad bj I;obtain⟨sb,bX⟩:∃sb,sb=ah.heap.size:=⟨_,rfl⟩;obtain⟨nb,bY⟩:∃nb,nb=r.heap.size:=⟨_,rfl⟩;rw[←bX]at aR⊢;rw[←bY]at aS⊢;have bZ:=aE.ext aj;refine cl (λn40 u=>n40=(((if o=0 then no else n.kids.getD (ew n.keys k) 0:Nat)):Int)/\Ext r u/\Var u sb (db.c ⟨no,n,if o=0 then 0 else ew n.keys k,K,V,D⟩) 232) (λq a=>⟨λhl=>?_,λhl=>?_⟩) ?_
   .have N:o≠0:=by
     have:((o+1:Nat):Int)>1:=cf hl;omega
    have b0:n.leaf=false:=by rw[ba];simp[N]
    have cD:=aL.oz b0;have cF:=vh n.keys k;obtain⟨bS,aA,aT,aG⟩:=bC aS;have b2:Src 1 aQ tk (aF k):=(bz.ad aw.ad λq a b3=>(bA q a).2 (aK.gu b3)).ext aj;refine⟨_,bS,K,aA,V,aT,D,aG,(n_ bZ b2 bR I).use ?_⟩;rintro _ bl ⟨rfl,aV⟩;have bm:=aR.ext aV;obtain⟨av,b4⟩:=dR bm (i:=5) (by simp);rw[ax];refine⟨_,rfl,av,b4,aY ?_⟩;have bn:=dx bl sb 5 (.int .i64 ((ew n.keys k:Nat):Int));have bo:=dX bm (i:=5) (.int .i64 ((ew n.keys k:Nat):Int));have bq:Ext r (bl.setCell ⟨sb,5,none⟩ (.int .i64 ((ew n.keys k:Nat):Int))):=Ext.cv (aj.trans aV) bn I;have b6:=(aS.ext aV).ad bn I;obtain⟨d0,d1,d2,d3⟩:=bC b6;obtain⟨A,ar,d,b7⟩:=cq.at (aE.ext bq).kids (i:=ew n.keys k) I;refine⟨D,d3,_,bo.cell,A,ar,d,_,b7,a _ _ ⟨?_,bq,?_⟩⟩
    .rw[if_neg N,e6,dD I];rfl
    .rw[if_neg N]
     exact bo
   .have N:o=0:=by
     have:¬((o+1:Nat):Int)>1:=cx hl;omega
    refine a _ _ ⟨by rw[if_pos N],aj,?_⟩;rw[if_pos N];exact aR
   rintro _ u ⟨rfl,bs,b8⟩;have cH:=bs.size;refine⟨_,b8.rd rfl,⟨some u.heap.size,1,1⟩,_,EB _ _ rfl,?_⟩;have aW:=er u (.cells (db.c ⟨no,n,if o=0 then 0 else ew n.keys k,K,V,D⟩).toArray 232);have Q:=bs.trans aW;have b9:=Q.size;have b_:=aW.size;have cb:=aq.1;rw[hT _ (m7 l)]at cb;have Z:∀q,aB s q->bT q:=λq a=>by rw[H];exact .inr a
   have cd:aZ 6 232 r s (b1 db.c l):=aq.ad ag.ad λq a b=>t.iC (Z q a) b;obtain⟨x,aX⟩:∃x:db,x=⟨no,n,if o=0 then 0 else ew n.keys k,K,V,D⟩:=⟨_,rfl⟩;rw[←aX]at aW Q b9 b_⊢;have ce:∀v∈db.c x,Plain v:=by
    intro v f;unfold db.c at f;simp only[cR,eR,eY]at f;rcases f with rfl|rfl|rfl|rfl|rfl|rfl<;>trivial
   obtain⟨am,an,a1,a2,a3,a4,a5⟩:=EC.append (dG:=228) (x:=⟨some u.heap.size,1,1⟩) (Src.new (T:=232) u (db.c x) 1 rfl) (cd.ext Q) ce (by show(2*(s.len+1)+1000)*96<=_;omega);have cI:=a4.size;have a0:∀q,aB am q->w.heap.size<=q:=λq a=>by
    rcases a5 q a with h1|h1
    .exact L q h1
    .omega
   obtain⟨iX,bt⟩:∃iX,iX=λq=>T.E q\/aB am q:=⟨_,rfl⟩;have ao:∀q,iX q->T.E q\/aB am q:=λq a=>by rw[bt]at a;exact a
   have F:∀q,T.E q->bT q:=λq a=>by rw[H];exact .inl a
   have ch:b1 db.c (l++ [x])=b1 db.c l++db.c x:=by rw[p9];simp[b1]
   have ci:bK an ((T.cc iX T.G).bw B T.P):=by
    refine(ab.ext Q).grow (E:=iX) (G:=T.G) a4 (λq a _=>.inl (Z q a)) (λq a=>?_) (λq a=>.inr (.inl a)) λq a hg=>?_
    .rcases ao q a with h1|h1
     .exact .inl (F q h1)
     .rcases a5 q h1 with g|g
      .exact .inl (Z q g)
      .exact .inr (.inr ⟨g,aZ.lt a2 q h1⟩)
    .rcases ao q a with h1|h1
     .exact(h.c2 q h1).2.2 hg
     .have g:=h.lt (q:=q) (.inr (.inr (.inr (.inr hg))))
      have:=a0 q h1;omega
   have cj:bO T ((T.cc iX T.G).bw B T.P) w an (2*(l++ [x]).length):=by
    have h1:=(aw.trans (bO.ext _ Q)).mono (l:=2*(l++ [x]).length) (by rw[cE,hX];omega);refine h1.step (E:=iX) (G:=T.G) a4 (λq a hl=>by have:=L q a;omega) (λq a=>?_) λq a=>.inl a;rcases ao q a with h1|h1
    .exact .inl (F q h1)
    .exact .inr (.inr (a0 q h1))
   have bv:∀ {m:az}{K V D:Y},bp (λq=>w.heap.size<=q/\¬((T.cc bT T.G).bw B T.P).M q) r m K V D->bp (λq=>w.heap.size<=q/\¬((T.cc iX T.G).bw B T.P).M q) an m K V D:=λ{m K V D} b=>by
    have h1:=(b.ext Q).aU (C:=λq=>q<(u.alloc (.cells (db.c x).toArray 232)).heap.size/\w.heap.size<=q/\¬((T.cc bT T.G).bw B T.P).M q) λq a d=>⟨a,d⟩;refine(bp.ad h1 a4 λq a ck=>a.2.2 (.inr (.inr (.inr (.inl (Z q ck)))))).aU λq _ d=>⟨d.2.1,λb=>d.2.2 ?_⟩;rcases b with b|b|b|b|b
    .exact .inl b
    .exact .inr (.inl b)
    .exact .inr (.inr (.inl b))
    .refine .inr (.inr (.inr (.inl ?_)))
     show bT q;rcases ao q b with g|g
     .exact F q g
     .rcases a5 q g with z|z
      .exact Z q z
      .have:=d.1;omega
    .exact .inr (.inr (.inr (.inr b)))
   have bx:IntKind.wrap .i64 (((o+1:Nat):Int)-1)=(o:Nat):=by rw[bB I I];omega
   refine⟨am,an,a1,⟨o,_,l++ [x],bH,iX,B,bx,rfl,?_,?_,by rw[cE,hX];omega,bt,a0,ci,cj,λj=>(bd j).trans (f j),by rw[ch];exact a2,?_⟩,?_⟩
   .cases o with
    |zero=>exact bb
    |succ m=>rw[if_neg I];exact bb
   .rw[←a_,fe,cW,aX];rfl
   .intro y aa
    rcases cG.1 aa with aa|aa
    .exact bv (ag.bf (cS y aa))
    .obtain rfl:=eX.1 aa
     subst aX;exact bv (aE.aU λq _ d=>⟨by have:=d.1;omega,d.2⟩)
   .rw[bx]
    show(o:Int).toNat<(((o+1:Nat):Int)).toNat;omega
  .refine⟨false,bu,bu,bu,e,rfl,bk (vs:=[false,(),(),()]) rfl λbU X aM bV=>?_⟩
   refine⟨X.b5 rfl ?_,rfl,cn X (us:=[false,(),(),()]) rfl rfl λah aN aP bW=>⟨λ_=>?_,λd=>?_⟩⟩
   .intro v f
    simp only[cR,eR,eY]at f;rcases f with rfl|rfl|rfl|rfl<;>trivial
   .have hx:Ext r ah:=Ext.cv aM aP (br _)
    have he:e=3/\¬ac.D.calm 2:=by
     rcases bP with h1|h1|⟨_,_,h1⟩
     .exact h1
     .obtain⟨p,av,_⟩:=S
      rw[av]at h1;cases h1
     .exact absurd S (h1 n)
    obtain⟨rfl,cm⟩:=he;obtain⟨g,z⟩:=fin (k:=2*T.aD) (ab.ext hx) ((aw.trans (bO.ext _ hx)).mono I) H L;exact⟨B,g,z,λj=>(bd j).trans (f j),.inr ⟨rfl,λhc=>cm (R.calm 2 (fT hc I))⟩⟩
   .simp at d;exact absurd d bQ
 .have h0:ef=0:=by
   have:¬(ef:Int)>0:=cx bF;omega
  subst h0;have co:rest=[]:=a9;subst co;obtain⟨g,z⟩:=fin (k:=2*T.aD) t (R.mono I) H L;refine⟨ac,g,z,f,.inl ⟨s,l,rfl,by rw[←a_,fX],aq,λq a=>⟨L q a,λb=>?_⟩,λx hx=>?_⟩⟩
  .have cJ:=L q a
   have ap:bT q:=by rw[H];exact .inr a
   rcases b with b|b|b|b|b
   .exact(t.ca.inv.eI q (.inr (.inr (.inl ap)))).2 b
   .exact(t.c2 q ap).1 b
   .exact(t.c2 q ap).2.1 b
   .have:=h.lt (q:=q) (.inr (.inr (.inr (.inl b))));omega
   .exact(t.c2 q ap).2.2 b
  .refine(cS x hx).aU λq _ d=>⟨d.1,λb=>d.2 ?_⟩
   rcases b with b|b|b|b|b
   .exact .inl b
   .exact .inr (.inl b)
   .exact .inr (.inr (.inl b))
   .refine .inr (.inr (.inr (.inl ?_)))
    show bT q;rw[H];exact .inl b
   .exact .inr (.inr (.inr (.inr b)))
def aK.hC(T:aK)(f:Nat->ag):aK:={T with f:=f}
structure dd where
 cb:Nat
 ma:Y
 fK:Y
 made:O Nat
 left:O Nat
structure c3(w:J)(T:aK)(c:dd):Prop where
 t:bK w T
 v:Var w c.cb [.pointer (some T.a6),c.ma,c.fK] 297
 ma:aZ 1 3 w c.ma (dr c.made)
 fK:aZ 1 3 w c.fK (dr c.left)
 gc:T.G c.cb
 eO:∀q,aB c.ma q->T.G q/\q≠c.cb/\¬aB c.fK q
 jx:∀q,aB c.fK q->T.G q/\q≠c.cb
 ns:¬T.C.D.ro
theorem wj{w:J}{s:Y}{ds:O Nat}(d:Nat)(b:aZ 1 3 w s (dr ds))(j:ds.length<=1000000):
 ∃ (a:Y) (w':J),Sem.run ai (Builtin.append_ #[58,58] 58 #[s,.slice (some w.heap.size) 1 1]) (w.alloc (.cells #[d] 3))=.ok a w'/\
  aZ 1 3 w' a (dr (ds++ [d]))/\ae (aB s) w w'/\(∀k,aB a k->aB s k\/w.heap.size<=k)/\ae (aB s) (w.alloc (.cells #[d] 3)) w':=by
 have l:s.len=ds.length:=by have:=b.1;rw[lO]at this;omega
 have hc:Ext w (w.alloc (.cells #[d] 3)):=er _ _;have m:(w.alloc (.cells #[d] 3)).heap.size=w.heap.size+1:=p5 _ _;obtain⟨a,w',h1,e,n,c,f⟩:=oy.append (dG:=58) (x:=⟨some w.heap.size,1,1⟩) (Src.new (T:=3) w [d] 1 rfl) (b.ext hc) (λv g=>by rw[eX.1 g];trivial) (by show(2*(s.len+1)+1000)*8<=_;omega);exact⟨a,w',h1,by simpa[dr] using e,(ae.cJ hc).trans c,λk i=>(f k i).imp id (λh=>I),c⟩
section
variable {w w':J}{T aq:aK}{c:dd}
theorem c3.of{W:Nat->Prop}(h:c3 w T c)(d:bK w' aq)(hc:ae W w w')(cd:∀q,T.G q->¬W q)(f:aq.a6=T.a6)(b:∀q,T.G q->aq.G q)(g:aq.C.D.bD=T.C.D.bD:=by rfl):c3 w' aq c:=
 ⟨d,by rw[f];exact h.v.ad hc (cd _ h.gc),h.ma.ad hc λq a=>cd q (h.eO q a).1,h.fK.ad hc λq a=>cd q (h.jx q a).1,b _ h.gc,λq a=>⟨b q (h.eO q a).1,(h.eO q a).2⟩,λq a=>⟨b q (h.jx q a).1,(h.jx q a).2⟩,λe=>h.ns λi=>g▸e i⟩
theorem c3.ext(h:c3 w T c)(hx:Ext w w'):c3 w' T c:=h.of (h.t.ext hx) hx (λ_ _ h=>h) rfl λ_ h=>h
theorem c3.cells(h:c3 w T c):w.cell? c.cb=some (.pointer (some T.a6))/\w.cell? (Addr.add c.cb 1)=some (.slice c.ma.a c.ma.len c.ma.cap)/\w.cell? (Addr.add c.cb 2)=some (.slice c.fK.a c.fK.len c.fK.cap):=by
 rw[ax,ax];exact⟨h.v.cell,h.v.cell,h.v.cell⟩
theorem bK.tP(h:bK w T){q:Nat}(a:T.G q):¬cK T.C q:=λhf=>(h.ca.inv.eI q (.inr (.inr (.inr a)))).2 hf
theorem bK.tQ{f:Nat->ag}(h:bK w T)(hs:en w' T.sb T.n f T.g T.s1 T.s2)(hc:ae (eN T.sb T.s1 T.s2) w w'):bK w' (T.hC f)/\bO T (T.hC f) w w' 0:=
 ⟨⟨h.t.ad hc h.iF,hs,h.ca.ad hc λq a=>.inr (.inl a),h.iF,h.c2,h.hA,h.n,h.num,h.dM,h.bD,h.low⟩,
  ⟨rfl,rfl,rfl,rfl,rfl,rfl,rfl,rfl,rfl,rfl,br _,λ_ h=>h,hc.mono λq _ a=>.inr (.inr (.inl a)),λq h=>.inl h,λq h=>.inl h⟩⟩
theorem ED(h:c3 w T c)(no:Nat)(hl:c.made.length<=100000):
 ∃ (b:Y) (ah:J),Sem.run ai (Builtin.append_ #[58,58] 58 #[c.ma,.slice (some w.heap.size) 1 1]) (w.alloc (.cells #[no] 3))=.ok b ah/\
  ae (aB c.ma) (w.alloc (.cells #[no] 3)) ah/\(∃u:aa,ah.cell? ⟨c.cb,1,none⟩=some u)/\ah.frozen? ⟨c.cb,1,none⟩=false/\
  ∀j,j=ah.setCell ⟨c.cb,1,none⟩ b->c3 j (T.cc T.E λq=>T.G q\/aB b q) {c with ma:=b,made:=c.made++ [no]}/\bO T (T.cc T.E λq=>T.G q\/aB b q) w j 0:=by
 obtain⟨b,ah,av,l,d,f,p⟩:=wj no h.ma I;have cd:∀q,aB c.ma q->T.G q:=λq a=>(h.eO q a).1;have y:=d.size;have m:=h.v.ad d λa=>(h.eO _ a).2.1 rfl;obtain⟨bR,b3⟩:=dR m (i:=1) (by simp);refine⟨b,ah,av,p,bR,b3,?_⟩;rintro _ rfl;have g:=dx ah c.cb 1 b;have r:=dX m (i:=1) b;have k:ae T.G w (ah.setCell ⟨c.cb,1,none⟩ b):=ck (d.mono λq _ a=>cd q a) g λq _ e=>by rw[e];exact h.gc
 have z:=k.size;have aJ:∀q,aB b q->q<ah.heap.size:=λq a=>aZ.lt l q a;have n:∀q,aB b q->T.G q\/(w.heap.size<=q/\q<(ah.setCell ⟨c.cb,1,none⟩ b).heap.size):=λq a=>by
  rcases f q a with h1|h1
  .exact .inl (cd q h1)
  .exact .inr ⟨h1,by have:=aJ q a;have:=g.size;omega⟩
 have o:∀q,aB b q->q≠c.cb:=λq a e=>by
  rcases f q a with h1|h1
  .exact(h.eO q h1).2.1 e
  .have:=h.v.lt;omega
 have s:∀q,aB b q->¬aB c.fK q:=λq a e=>by
  rcases f q a with h1|h1
  .exact(h.eO q h1).2.2 e
  .have:=aZ.lt h.fK q e;omega
 have x:=h.t.grow (E:=T.E) (G:=λq=>T.G q\/aB b q) k (λq a _=>.inr a) (λq a=>.inl a) (λq a=>by
  rcases a with a|a
  .exact .inr (.inl a)
  .exact .inr (n q a)) λq a hg=>by
  rcases hg with hg|hg
  .exact(h.t.c2 q a).2.2 hg
  .rcases f q hg with h1|h1
   .exact(h.t.c2 q a).2.2 (cd q h1)
   .have:=h.t.lt (q:=q) (.inr (.inr (.inr (.inl a))));omega
 refine⟨⟨x,r,?_,(h.fK.ad d λq a e=>(h.eO q e).2.2 a).ad g λq a e=>(h.jx q a).2 e,.inl h.gc,λq a=>⟨.inr a,o q a,s q a⟩,λq a=>⟨.inl (h.jx q a).1,(h.jx q a).2⟩,h.ns⟩,?_⟩
 .have:aZ 1 3 ah b (dr (c.made++ [no])):=l
  exact this.ad g λq a e=>o q a e
 .have h0:bO T T w w 0:=.refl _ _
  exact h0.step k (λq a _=>.inr (.inr (.inr a))) (λq a=>.inl a) λq a=>by
   rcases a with a|a
   .exact .inl a
   .exact(n q a).imp id λe=>e.1
theorem zR(h:c3 w T c)(no:Nat)(hl:c.left.length<=100000):
 ∃ (b:Y) (ah:J),Sem.run ai (Builtin.append_ #[58,58] 58 #[c.fK,.slice (some w.heap.size) 1 1]) (w.alloc (.cells #[no] 3))=.ok b ah/\
  ae (aB c.fK) (w.alloc (.cells #[no] 3)) ah/\(∃u:aa,ah.cell? ⟨c.cb,2,none⟩=some u)/\ah.frozen? ⟨c.cb,2,none⟩=false/\
  ∀j,j=ah.setCell ⟨c.cb,2,none⟩ b->c3 j (T.cc T.E λq=>T.G q\/aB b q) {c with fK:=b,left:=c.left++ [no]}/\bO T (T.cc T.E λq=>T.G q\/aB b q) w j 0:=by
 obtain⟨b,ah,av,l,d,f,p⟩:=wj no h.fK I;have cd:∀q,aB c.fK q->T.G q:=λq a=>(h.jx q a).1;have y:=d.size;have m:=h.v.ad d λa=>(h.jx _ a).2 rfl;obtain⟨bR,b3⟩:=dR m (i:=2) (by simp);refine⟨b,ah,av,p,bR,b3,?_⟩;rintro _ rfl;have g:=dx ah c.cb 2 b;have r:=dX m (i:=2) b;have k:ae T.G w (ah.setCell ⟨c.cb,2,none⟩ b):=ck (d.mono λq _ a=>cd q a) g λq _ e=>by rw[e];exact h.gc
 have z:=k.size;have aJ:∀q,aB b q->q<ah.heap.size:=λq a=>aZ.lt l q a;have n:∀q,aB b q->T.G q\/(w.heap.size<=q/\q<(ah.setCell ⟨c.cb,2,none⟩ b).heap.size):=λq a=>by
  rcases f q a with h1|h1
  .exact .inl (cd q h1)
  .exact .inr ⟨h1,by have:=aJ q a;have:=g.size;omega⟩
 have o:∀q,aB b q->q≠c.cb:=λq a e=>by
  rcases f q a with h1|h1
  .exact(h.jx q h1).2 e
  .have:=h.v.lt;omega
 have s:∀q,aB c.ma q->¬aB b q:=λq e a=>by
  rcases f q a with h1|h1
  .exact(h.eO q e).2.2 h1
  .have:=aZ.lt h.ma q e;omega
 have x:=h.t.grow (E:=T.E) (G:=λq=>T.G q\/aB b q) k (λq a _=>.inr a) (λq a=>.inl a) (λq a=>by
  rcases a with a|a
  .exact .inr (.inl a)
  .exact .inr (n q a)) λq a hg=>by
  rcases hg with hg|hg
  .exact(h.t.c2 q a).2.2 hg
  .rcases f q hg with h1|h1
   .exact(h.t.c2 q a).2.2 (cd q h1)
   .have:=h.t.lt (q:=q) (.inr (.inr (.inr (.inl a))));omega
 refine⟨⟨x,r,(h.ma.ad d λq a e=>(h.eO q a).2.2 e).ad g λq a e=>(h.eO q a).2.1 e,?_,.inl h.gc,λq a=>⟨.inl (h.eO q a).1,(h.eO q a).2.1,s q a⟩,λq a=>⟨.inr a,o q a⟩,h.ns⟩,?_⟩
 .have:aZ 1 3 ah b (dr (c.left++ [no])):=l
  exact this.ad g λq a e=>o q a e
 .have h0:bO T T w w 0:=.refl _ _
  exact h0.step k (λq a _=>.inr (.inr (.inr a))) (λq a=>.inl a) λq a=>by
   rcases a with a|a
   .exact .inl a
   .exact(n q a).imp id λe=>e.1
end
def b7(T:aK):Nat:=T.n-eo (λi=>T.f i||T.g i) T.n
theorem zS{s t:Nat->ag}:∀ {n:Nat},(∀i,i<n->s i=t i)->eo s n=eo t n
 |0,_=>rfl
 |n+1,h=>by
  unfold eo
  rw[zS (n:=n) λi hi=>h i I,h n I]
theorem qi{s t:Nat->ag}{k:Nat}(a:s k=false)(ht:t k=true)(he:∀i,i≠k->t i=s i):∀ {n:Nat},k<n->eo t n=eo s n+1
 |0,h=>by omega
 |n+1,h=>by
  unfold eo
  by_cases e:k=n
  .subst e
   rw[zS (s:=t) (t:=s) (n:=k) λi hi=>he i I,a,ht]
   simp
  .rw[qi a ht he (n:=n) I,he n I]
   omega
theorem zT{t:Nat->ag}:∀ {n:Nat},(∀i,i<n->t i=true)->eo t n=n
 |0,_=>rfl
 |n+1,h=>by
  unfold eo
  rw[zT (n:=n) λi hi=>h i I,h n I]
  simp
theorem zU{T:aK}(h:1<=b7 T):∃no,firstFree (λi=>T.f i||T.g i) T.n=some no:=by
 cases hf:firstFree (λi=>T.f i||T.g i) T.n with
 |some no=>exact⟨no,rfl⟩
 |none=>
  have:=zT (Ed hf);unfold b7 at h;rw[this]at h;omega
structure c4(T aq:aK)(c c':dd)(m l:O Nat)(w w':J)(k:Nat):Prop where
 to:bO T aq w w' k
 E:aq.E=T.E
 G:∀q,T.G q->aq.G q
 root:aq.root=T.root
 aD:aq.aD=T.aD
 cb:c'.cb=c.cb
 made:c'.made=c.made++m
 left:c'.left=c.left++l
 bf:m.Nodup
 iG:∀no∈m,(T.f no||T.g no)=false/\no<T.n
 f:∀no,aq.f no=(T.f no||decide (no∈m))
 ej:∀no,(T.f no||T.g no)=true->aq.P no=T.P no/\aq.C.view no=T.C.view no
 room:b7 aq+m.length=b7 T
theorem c4.ext{w w':J}(T:aK)(c:dd)(h:Ext w w'):c4 T T c c [] [] w w' 0:=
 ⟨.ext T h,rfl,λ_ h=>h,rfl,rfl,rfl,by simp,by simp,List.nodup_nil,λ_ h=>(by cases h),λno=>by simp,λ_ _=>⟨rfl,rfl⟩,by simp⟩
theorem c4.trans{T aq o:aK}{c c' p:dd}{m r l s:O Nat}{w w' t:J}{k u:Nat}(h1:c4 T aq c c' m l w w' k)(d:c4 aq o c' p r s w' t u):c4 T o c p (m++r) (l++s) w t (k+u):=by
 have hg:aq.g=T.g:=h1.to.g;have v:aq.n=T.n:=h1.to.n;have hf:∀no,(T.f no||T.g no)=true->(aq.f no||aq.g no)=true:=λno h=>by
  rw[h1.f,hg]
  cases i:T.f no<;>cases j:T.g no<;>simp[i,j]at h⊢
 refine⟨h1.to.trans d.to,d.E.trans h1.E,λq h=>d.G q (h1.G q h),d.root.trans h1.root,d.aD.trans h1.aD,d.cb.trans h1.cb,by rw[d.made,h1.made,cW],by rw[d.left,h1.left,cW],?_,λno h=>?_,λno=>?_,λno h=>?_,?_⟩
 .rw[nq]
  refine⟨h1.bf,d.bf,λa x b y e=>?_⟩;subst e;have:=(d.iG a y).1;rw[h1.f]at this;simp[x]at this
 .rcases cG.1 h with h|h
  .exact h1.iG no h
  .have i:=d.iG no h
   rw[h1.f,hg,v]at i;refine⟨?_,i.2⟩
   cases z:T.f no<;>cases A:T.g no<;>simp[z,A]at i⊢
 .rw[d.f,h1.f]
  simp only[cG,Bool.decide_or,Bool.or_assoc]
 .have i:=d.ej no (hf no h)
  have j:=h1.ej no h;exact⟨i.1.trans j.1,i.2.trans j.2⟩
 .have:=h1.room
  have:=d.room;rw[cE];omega
theorem c4.mono{T aq:aK}{c c':dd}{m l:O Nat}{w w':J}{k j:Nat}(h:c4 T aq c c' m l w w' k)(a:k<=j):c4 T aq c c' m l w w' j:=⟨h.to.mono a,h.E,h.G,h.root,h.aD,h.cb,h.made,h.left,h.bf,h.iG,h.f,h.ej,h.room⟩
def zV(T:aK)(c:dd)(n:az)(w:J)(v:aa)(w':J):Prop:=
 ∃ (no:Nat) (aq:aK) (c':dd),c3 w' aq c'/\c4 T aq c c' [no] [] w w' 1/\
  ((v=.tuple #[no,(0:Int)]/\aq.P no=some n)\/(v=.tuple #[no,(3:Int)]/\¬T.C.D.calm 1))
theorem cp.g9{n:az}(h:cp n)(b:bx n<=400):n.keys.length<=200/\n.vals.length<=200/\n.kids.length<=201:=by
 have:=tn h;rcases h with h|h
 .have:=h.len
  have a:n.kids.length=0:=by rw[h.kids];rfl
  omega
 .have:=h.len
  have a:n.vals.length=0:=by rw[h.vals];rfl
  omega
theorem tR{B:Nat->Prop}{w:J}{T:aK}{c:dd}{n:az}{K V D:Y}(h:c3 w T c)(bh:T.C.D.aO<=900000100)(W:1<=b7 T)(bi:c.made.length<=1000)(aI:bp B w n K V D)(hs:cp n)(aJ:bx n<=232):
 aH ai 283 #[.pointer (some c.cb),cM n K V D] w (zV T c n w):=by
 obtain⟨no,X⟩:=zU W;obtain⟨u,y,_⟩:=zC X;have H:=h.t.s.bc;have bj:=hs.g9 I;refine okF (af.ta (some c.cb) n.leaf K V D) ay.ta func283 ?_;(delta af.ta a7 U ak bW al eT st bt aA;dsimp only);refine bk (vs:=[n.leaf,K,V,D]) rfl λw1 Z ab bl=>?_;obtain⟨bS,aA,aT,aG⟩:=bC Z;refine⟨_,bS,K,aA,V,aT,D,aG,(oo (aI.ext ab) I I I).use ?_⟩;rintro _ aL ⟨aM,ac⟩;rcases aM with ⟨s,rfl,aN,aP,_,_⟩|⟨e,rfl,he,aQ⟩
 rotate_left
 .have:=aQ hs;omega
 have L:=ab.trans ac;have r:=h.ext L;refine⟨s,0,rfl,λd=>(by cases d),λ_=>⟨_,rfl,_,r.cells.1,_,rfl,_,r.t.cells.2.1,(zE r.t.s).use ?_⟩⟩;rintro _ aR ⟨rfl,fv,ag⟩;rw[X]at fv⊢;obtain⟨aS,M⟩:=r.t.tQ fv ag;have ah:c3 aR (T.hC (cZ T.f no true)) c:=r.of aS ag (λq a hf=>(h.t.hA q a).2 hf) rfl λ_ h=>h;refine⟨(no:Nat),0,rfl,λd=>(by cases d),λ_=>⟨_,rfl,_,ah.cells.2.1,?_⟩⟩;obtain⟨z,aj,av,bm,aU,aV,aW⟩:=ED ah no I;refine aY ⟨z,aj,av,_,rfl,by rw[ax];exact aU,by rw[ax];exact aV,aY ?_⟩;rw[ax];obtain⟨o,am⟩:∃o,o=aj.setCell ⟨c.cb,0+1,none⟩ z:=⟨_,rfl⟩;rw[←am];obtain⟨A,O⟩:=aW o am;obtain⟨ao,bn⟩:∃ao,ao=λq=>T.G q\/aB z q:=⟨_,rfl⟩;have ap:∀q,T.N q->q<w.heap.size:=λq a=>h.t.lt (aK.gu a);have bo:=L.size;have bq:=M.ad.size;have bs:=O.ad.size;have ar:ae T.N aL o:=M.ad.trans O.ad;have aX:Var o w.heap.size [n.leaf,K,V,D] 202:=(Z.ext ac).ad ar λa=>by have:=ap _ a;omega
 have a0:aZ 1 5 o s (aF (h5 n)):=aN.ad ar λq a a1=>by have:=ap _ a1;have:=aP q a;omega
 have hlen:=vx hs;have H:2<=no:=by
  have e:(T.f no||T.g no)=false:=y;have F:T.g no=false:=by cases hg:T.g no<;>simp_all
  have:=h.t.low;rcases dJ no 2 with Q|Q
  .rcases l3 no with au|au
   .rw[au,this.1]at F;cases F
   .rw[show no=1 from I,this.2]at F;cases F
  .exact Q
 have R:lL ⟨if n.leaf then 1 else 2,T.gen,h5 n⟩:=by
  refine⟨?_,?_,h.t.num.2.2,by show(h5 n).length<=232;omega⟩
  .show 1<=(if n.leaf then 1 else 2);split<;>omega
  .show(if n.leaf then 1 else 2)<=4;split<;>omega
 refine cl (λn27 a2=>n27=((if n.leaf then 1 else 2:Nat):Int)/\a2=o) (λq a=>⟨n.leaf,aX.cell,λd=>a _ _ ⟨by rw[d];rfl,rfl⟩,λd=>a _ _ ⟨by rw[d];rfl,rfl⟩⟩) ?_;rintro _ _ ⟨rfl,rfl⟩;refine⟨_,rfl,_,A.cells.1,_,rfl,_,A.t.cells.2.2.1,(tA (no:=no) (p:=⟨if n.leaf then 1 else 2,T.gen,h5 n⟩) a0.src I R).use ?_⟩;rintro _ bu ⟨s2,rfl,aw,aD,a3⟩;have l:=A.ext aD;refine⟨s2,0,rfl,λd=>(by cases d),λ_=>⟨_,rfl,_,l.cells.1,_,rfl,_,l.t.cells.1,(zv l.t.ca (by show T.C.D.aO<=999999999;omega) (no:=no) (by rw[l.t.n];exact u) H (λhs=>by have:=l.t.bD no hs;have e:(T.f no||T.g no)=false:=y;rcases this with this|this;(rw[show T.g no=true from this,Bool.or_true]at e;cases e);exact l.ns this) aw.src (p3 no R) λq a=>⟨aZ.lt aw q a,λhf=>?_⟩).use ?_⟩⟩
 .have:=a3 q a
  have:=A.t.lt (q:=q) (.inl hf);omega
 rintro _ a4 ⟨aC,a5,S,a6⟩;have a8:∀j,cZ T.f no true j=(T.f j||decide (j∈ [no])):=λj=>by
  unfold cZ;by_cases e:j=no
  .subst e;simp
  .simp[e]
 have aE:(T.f no||T.g no)=false:=y;have a9:T.n-eo (λi=>cZ T.f no true i||T.g i) T.n+1=b7 T:=by
  have:=qi (s:=λi=>T.f i||T.g i) (t:=λi=>cZ T.f no true i||T.g i) (k:=no) y (by simp[cZ]) (λi hi=>by simp[cZ,hi]) u;unfold b7 at W⊢;have Q:=kZ (λi=>T.f i||T.g i) T.n;omega
 have main:∀ (P':Nat->an az) (v:aa),(∀j,j≠no->P' j=T.P j)->(∀j,j≠no->aC.view j=T.C.view j)->(∀j bf,P' j=some bf->j<T.n/\fU T.gen bf.leaf j (aC.view j) bf)->
  ((v=.tuple #[no,(0:Int)]/\P' no=some n)\/(v=.tuple #[no,(3:Int)]/\¬T.C.D.calm 1))->zV T c n w v a4:=by
  intro P' v a_ dC ba m;obtain⟨bb,bd⟩:=l.t.oI (P:=P') a5 S ba;have be:=l.of (aq:=((T.hC (cZ T.f no true)).cc T.E λq=>T.G q\/aB z q).bw aC P') bb S.ad (λq a=>l.t.tP a) rfl (λ_ h=>h) S.bD;refine⟨no,_,_,be,⟨?_,rfl,λq a=>.inl a,rfl,rfl,rfl,rfl,(fX _).symm,by simp,λx hx=>?_,a8,λj b=>?_,a9⟩,m⟩
  .have:=(((bO.ext T L).trans M).trans O).trans ((bO.ext _ aD).trans bd)
   exact this.mono I
  .obtain rfl:=eX.1 hx
   exact⟨aE,u⟩
  .have:j≠no:=λe=>by rw[e,aE]at b;cases b
   exact⟨a_ j this,dC j this⟩
 rcases a6 with ⟨rfl,m⟩|⟨rfl,bg,m⟩
 .refine⟨0,rfl,main (λj=>if j=no then some n else T.P j) _ (λj b=>if_neg b) (λj b=>(m j).trans (if_neg b)) (λj bf b=>?_) (.inl ⟨rfl,if_pos rfl⟩)⟩
  by_cases e:j=no
  .subst e
   rw[if_pos rfl]at b
   cases b;rw[m,if_pos rfl];exact⟨u,_,tu I R,br _,rfl,⟨hs,rfl,aJ,rfl⟩,H⟩
  .rw[if_neg e]at b
   rw[m,if_neg e];exact h.t.dM j bf b
 .refine⟨3,rfl,main T.P _ (λ_ _=>rfl) (λj _=>m j) (λj bf b=>?_) (.inr ⟨rfl,bg⟩)⟩
  rw[m];exact h.t.dM j bf b
theorem EE(w:J)(x:Int):Sem.run ai (Instr.buildSlice 326 1 #[(0,.agg #[(),x])]) w=
 .ok (.slice (some w.heap.size) 1 1) (w.alloc (.cells #[(),x] 334)):=by kernel_rfl
theorem EF(w:J)(x y:Int)(t:Y):Sem.run ai (Instr.buildSlice 326 2 #[(0,.agg #[(),x]),(1,.agg #[t,y])]) w=
 .ok (.slice (some w.heap.size) 2 2) (w.alloc (.cells #[(),x,t,y] 334)):=by kernel_rfl
theorem cp.vi{n:az}(h:cp n)(h1:1<=bX n)(c:if n.leaf then bX n<=n.keys.length-1/\1<=n.keys.length-1 else bX n<=n.keys.length-2/\1<=n.keys.length-2):cp (n.left (bX n))/\cp (n.right (bX n)):=by
 rcases h with h|h
 .have hl:=h.leaf
  rw[if_pos hl]at c;unfold az.left az.right;rw[if_pos hl,if_pos hl];have hlen:=h.len;refine⟨.inl ⟨⟨λk a=>h.ok k (eQ a),h.e8.sublist (List.take_sublist _ _)⟩,rfl,?_,rfl,λv b=>h.vals v (eQ b)⟩,.inl ⟨⟨λk a=>h.ok k (eP a),h.e8.sublist (List.drop_sublist _ _)⟩,rfl,?_,rfl,λv b=>h.vals v (eP b)⟩⟩
  .simp only[cC];omega
  .simp only[c5];omega
 .have hl:=h.inner
  rw[if_neg (by rw[hl];simp)]at c;unfold az.left az.right;rw[if_neg (by rw[hl];simp),if_neg (by rw[hl];simp)];have hlen:=h.len;refine⟨.inr ⟨⟨λk a=>h.ok k (eQ a),h.e8.sublist (List.take_sublist _ _)⟩,rfl,?_,?_,rfl,λv b=>h.kids v (eQ b)⟩,.inr ⟨⟨λk a=>h.ok k (eP a),h.e8.sublist (List.drop_sublist _ _)⟩,rfl,?_,?_,rfl,λv b=>h.kids v (eP b)⟩⟩
  .intro e
   have:=congrArg List.length e;simp only[cC,j4]at this;omega
  .simp only[cC];omega
  .intro e
   have:=congrArg List.length e;simp only[c5,j4]at this;omega
  .simp only[c5];omega
def jW(B:Nat->Prop)(w:J)(s:Y)(ks:O Key)(kids:O Nat):Prop:=
 (∃b x,s=⟨some ⟨b,0,none⟩,1,1⟩/\ks=[]/\kids=[x]/\Var w b [.slice none 0 0,.int .i64 (x:Nat)] 334/\B b)\/
 (∃b x y k t,s=⟨some ⟨b,0,none⟩,2,2⟩/\ks=[k]/\kids=[x,y]/\Var w b [.slice none 0 0,.int .i64 (x:Nat),.slice t.a t.len t.cap,.int .i64 (y:Nat)] 334/\B b/\bg B w t k/\k≠ [])
def gH(T:aK)(c:dd)(n:az)(w:J)(v:aa)(w':J):Prop:=
 ∃ (aq:aK) (c':dd) (m:O Nat) (s:Y),c3 w' aq c'/\c4 T aq c c' m [] w w' 2/\m.length<=2/\
  ((∃ks,v=.tuple #[s,(0:Int)]/\kR aq.P n ks m/\jW (λq=>¬aq.M q) w' s ks m)\/(v=.tuple #[s,(3:Int)]/\¬T.C.D.calm 2))
theorem zW{B:Nat->Prop}{w:J}{T:aK}{c:dd}{n:az}{K V D:Y}(h:c3 w T c)(l:T.C.D.aO<=900000100)(m:1<=b7 T)(o:c.made.length<=1000)(p:bp B w n K V D)(hs:cp n)(d:bx n<=232):
 aH ai 251 #[.pointer (some c.cb),cM n K V D] w (gH T c n w):=by
 refine okF (af.s5 (some c.cb) n.leaf K V D) ay.s5 func251 ?_;(delta af.s5 a7 U ak eT;dsimp only);refine bk (vs:=[n.leaf,K,V,D]) rfl λw1 q b z=>?_;obtain⟨bS,aA,aT,aG⟩:=bC q;refine⟨_,bS,K,aA,V,aT,D,aG,(tR (h.ext b) l m o (p.ext b) hs d).use ?_⟩;rintro _ a ⟨no,aq,c',f,r,s⟩;have g:∀ (e:Int),((e=0/\aq.P no=some n)\/(e=3/\¬T.C.D.calm 1))->∃ (i:Y) (j:J),Sem.run ai (Instr.buildSlice 326 1 #[(0,.agg #[(),no])]) a=.ok i j/\gH T c n w (.tuple #[i,e]) j:=by
  intro e he;refine⟨⟨some a.heap.size,1,1⟩,_,EE a _,?_⟩;have k:=er a (.cells #[(),no] 334);have u:c4 T aq c c' [no] [] w (a.alloc (.cells #[(),no] 334)) 2:=(((c4.ext T c b).trans r).trans (c4.ext aq c' k)).mono I;refine⟨aq,c',[no],⟨some a.heap.size,1,1⟩,f.ext k,u,by simp,?_⟩;rcases he with ⟨rfl,he⟩|⟨rfl,he⟩
  .refine .inl ⟨[],rfl,.inl ⟨d,no,rfl,rfl,he⟩,.inl ⟨_,no,rfl,rfl,rfl,Var.new a [(),no] 334,λv=>?_⟩⟩
   have:=f.t.lt v;omega
  .exact .inr ⟨rfl,λhc=>he (fT hc I)⟩
 rcases s with ⟨rfl,x⟩|⟨rfl,y⟩
 .exact⟨_,0,rfl,g 0 (.inl ⟨rfl,x⟩)⟩
 .exact⟨_,3,rfl,g 3 (.inr ⟨rfl,y⟩)⟩
theorem fp{b:ag}{K V D:Y}:∀v∈ [.bool b,.slice K.a K.len K.cap,.slice V.a V.len V.cap,.slice D.a D.len D.cap],Plain v:=by
 intro v c;simp only[cR,eR,eY]at c;rcases c with rfl|rfl|rfl|rfl<;>trivial
theorem EG{B:Nat->Prop}{w:J}{T:aK}{c:dd}{n:az}{K V D:Y}(h:c3 w T c)(a0:T.C.D.aO<=900000090)(a1:2<=b7 T)(a2:c.made.length<=900)(ah:bp B w n K V D)(hs:cp n)(aj:232<bx n)(a3:bx n<=400)(h1:1<=bX n)
 (l:if n.leaf then bX n<=n.keys.length-1/\1<=n.keys.length-1 else bX n<=n.keys.length-2/\1<=n.keys.length-2) (am:bx (n.left (bX n))<=232) (an:bx (n.right (bX n))<=232):
 aH ai 294 #[.pointer (some c.cb),cM n K V D] w (gH T c n w):=by
 obtain⟨sl,ao⟩:=hs.vi h1 l;have a4:=hs.g9 I;have a:bX n<n.keys.length:=by
  split at l<;>omega
 refine okF (af.tc (some c.cb) n.leaf K V D) ay.tc func294 ?_;(delta af.tc a7 U ak nT cg al eT;dsimp only);refine bk (vs:=[n.leaf,K,V,D]) rfl λw1 ap E a5=>?_;obtain⟨bS,aA,aT,aG⟩:=bC ap;refine⟨_,bS,K,aA,V,aT,D,aG,(oq (ah.ext E) hs I h1 l).use ?_⟩;rintro _ aq ⟨cQ,c9,a8,ct,cA,b9,t,rfl,hl,ar,ht,au⟩;refine⟨_,cQ,c9,a8,t,_,ct,cA,b9,true,rfl,bk (vs:=[false,(),(),()]) rfl λa6 av aw a9=>bk (vs:=[false,(),(),()]) rfl λa_ ax F ba=>?_⟩;have G:=av.ext F;refine⟨G.b5 rfl fp,rfl,cn G (us:=[.bool (n.left (bX n)).leaf,cQ,c9,a8]) rfl rfl λbb aB H bc=>?_⟩;have L:=ax.ad H I;refine⟨L.b5 rfl fp,rfl,cn L (us:=[.bool (n.right (bX n)).leaf,ct,cA,b9]) rfl rfl λm aC O bd=>⟨λa=>(by cases a),λ_=>?_⟩⟩;have aD:=aB.ad O I;have Q:=E.trans au;have i:Ext aq m:=Ext.cv (Ext.cv (aw.trans F) H I) O I;have o:=Q.trans i;have be:=Q.size;have bf:=i.size;obtain⟨d0,d1,d2,d3⟩:=bC aD;refine⟨_,d0,cQ,d1,c9,d2,a8,d3,(tR (h.ext o) I I I (hl.ext i) sl am).use ?_⟩;rintro _ aE ⟨x,bH,R,p,b,aF⟩;have r:∀q,T.N q->q<w.heap.size:=λq d=>h.t.lt (aK.gu d);have bh:=b.to.ad.size;rcases aF with ⟨rfl,S⟩|⟨rfl,s⟩
 .have aI:=aC.ad b.to.ad λd=>by have:=r _ d;omega
  obtain⟨d0,d1,d2,d3⟩:=bC aI;have aJ:bp (λq=>w1.heap.size<=q) aE (n.right (bX n)) ct cA b9:=(ar.ext i).ad b.to.ad λq d u=>by have:=r _ u;omega
  have aL:bH.C.D.aO<=900000100:=eC b.to.aO (by clear p b S;omega);have aM:=b.room;have bi:R.made.length=c.made.length+1:=by rw[b.made,cE];rfl
  simp only[hX]at aM;have W:=tR p aL I I aJ ao an;rw[b.cb]at W;refine⟨x,0,rfl,λa=>(by cases a),λ_=>⟨_,d0,ct,d1,cA,d2,b9,d3,W.use ?_⟩⟩;rintro _ g ⟨y,b6,X,Z,k,aN⟩;have bj:=k.to.ad.size;have aP:=((c4.ext T c o).trans b).trans k;have aQ:n.keys.getD (bX n) []=n.keys[bX n]:=by rw[e6,dD a];rfl
  have aR:=ht.ext i;have aS:bg (λq=>¬b6.M q) g t n.keys[bX n]:=by
   rw[←aQ];have aV:bg (λq=>q<m.heap.size/\w1.heap.size<=q) m t (n.keys.getD (bX n) []):=bg.aU aR λq d a=>⟨d,a⟩;have aa:=(b.trans k).to;refine bg.aU (bg.ad aV aa.ad λq d u=>by have:=r _ u;omega) λq _ a v=>?_;rcases aa.cN q v with ab|ab
   .have:=h.t.lt ab;omega
   .omega
  have aW:n.keys[bX n]≠ []:=by
   have aX:cT n.keys[bX n]:=by
    rcases hs with hs|hs
    .exact hs.ok _ (cm a)
    .exact hs.ok _ (cm a)
   intro e;have:=aX.1;rw[e]at this;simp at this
  have z:=er g (.cells #[(),x,t,y] 334);have A:=(aP.trans (c4.ext b6 X z)).mono (j:=2) I;have ac:∀ (e:Int),((e=0/\b6.P y=some (n.right (bX n)))\/(e=3/\¬bH.C.D.calm 1))->∃ (ae:Y) (ag:J),Sem.run ai (Instr.buildSlice 326 2 #[(0,.agg #[(),x]),(1,.agg #[t,y])]) g=.ok ae ag/\
   gH T c n w (.tuple #[ae,e]) ag:=by
   intro e he;refine⟨⟨some g.heap.size,2,2⟩,_,EF g _ _ t,b6,X,[x,y],⟨some g.heap.size,2,2⟩,Z.ext z,A,by simp,?_⟩;rcases he with ⟨rfl,he⟩|⟨rfl,he⟩
   .have aY:b6.P x=some (n.left (bX n)):=by
     rw[(k.ej x (by rw[b.f];simp)).1,S]
    refine .inl ⟨[n.keys[bX n]],rfl,.inr ⟨aj,x,y,a,rfl,rfl,aY,he⟩,.inr ⟨_,x,y,_,t,rfl,rfl,rfl,Var.new g [(),x,t,y] 334,λv=>?_,bg.ext aS z,aW⟩⟩;have:=Z.t.lt v;omega
   .exact .inr ⟨rfl,λhc=>he (b.to.calm 1 (fT hc I))⟩
  rcases aN with ⟨rfl,aZ⟩|⟨rfl,s⟩
  .exact⟨_,0,rfl,ac 0 (.inl ⟨rfl,aZ⟩)⟩
  .exact⟨_,3,rfl,ac 3 (.inr ⟨rfl,s⟩)⟩
 .have A:=((c4.ext T c o).trans b).mono (j:=2) I
  exact⟨_,3,rfl,λ_=>⟨bH,R,[x],bu,p,A,by simp,.inr ⟨rfl,λhc=>s (fT hc I)⟩⟩,λa=>(by cases a)⟩
theorem tS{B:Nat->Prop}{w:J}{T:aK}{c:dd}{n:az}{K V D:Y}(h:c3 w T c)(u:T.C.D.aO<=900000090)(x:2<=b7 T)(y:c.made.length<=900)(f:bp B w n K V D)(hs:cp n)(z:bx n<=400)
 (A:232<bx n->1<=bX n/\(if n.leaf then bX n<=n.keys.length-1/\1<=n.keys.length-1 else bX n<=n.keys.length-2/\1<=n.keys.length-2)/\bx (n.left (bX n))<=232/\bx (n.right (bX n))<=232):
 aH ai 281 #[.pointer (some c.cb),cM n K V D] w (gH T c n w):=by
 have F:=hs.g9 I;refine okF (af.s_ (some c.cb) n.leaf K V D) ay.s_ func281 ?_;(delta af.s_ a7 U ak aA al bW;dsimp only);refine bk (vs:=[n.leaf,K,V,D]) rfl λw1 p q G=>?_;obtain⟨bS,aA,aT,aG⟩:=bC p;refine⟨_,bS,K,aA,V,aT,D,aG,(mI (f.ext q) hs I).use ?_⟩;rintro _ E ⟨rfl,r⟩;have a:=q.trans r;obtain⟨d0,d1,d2,d3⟩:=bC (p.ext r);have fin:∀ (v:aa) (w':J),gH T c n E v w'->∃s:Y,∃e:Int,v=.tuple #[s,e]/\gH T c n w (.tuple #[s,e]) w':=by
  rintro v w' ⟨aq,c',m,s,av,i,d,k⟩;have t:=((c4.ext T c a).trans i).mono (j:=2) I;rcases k with ⟨ks,rfl,l⟩|⟨rfl,l⟩
  .exact⟨s,0,rfl,aq,c',m,s,av,t,d,.inl ⟨ks,rfl,l⟩⟩
  .exact⟨s,3,rfl,aq,c',m,s,av,t,d,.inr ⟨rfl,l⟩⟩
 refine⟨_,rfl,λb=>⟨_,d0,K,d1,V,d2,D,d3,?_⟩,λb=>⟨_,d0,K,d1,V,d2,D,d3,?_⟩⟩
 .have b:((bx n:Nat):Int)>232:=cf b
  obtain⟨av,i,d,k⟩:=A I;refine(EG (h.ext a) u x y (f.ext a) hs I z av i d k).use ?_;rintro v w' o;obtain⟨s,e,rfl,g⟩:=fin v w' o;exact⟨s,e,rfl,g⟩
 .have b:¬((bx n:Nat):Int)>232:=cx b
  refine(zW (h.ext a) I I I (f.ext a) hs I).use ?_;rintro v w' o;obtain⟨s,e,rfl,g⟩:=fin v w' o;exact⟨s,e,rfl,g⟩
end Go.Proofs.YtkdhdlfonmgheaaGreat
