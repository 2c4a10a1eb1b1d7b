/- Contracts of the functions that the statement reaches, and the plain laws over them; each theorem stands with its conditions. -/
import Derived.OpenShut
import Derived.Test.YtkdhdlfonmgheaaGreatRows
import Derived.Test.YtkdhdlfonmgheaaGreatBFails2
namespace Go.Proofs.YtkdhdlfonmgheaaGreat
open Go a7 Go.Proofs.Tryz
def aZ.dB(D:aZ)(i:Nat):O cW:=match D.waits.find? λx=>x.i==i with
 |some x=>x.gn
 |none=> []
theorem vD(D:aZ)(h:∀x∈D.waits,x.gn≠ [])(i:Nat):D.now i=if D.dB i=[] then D.bh.getD i [] else (D.dB i).getLastD []:=by
 unfold aZ.now aZ.dB
 cases hf:D.waits.find? λx=>x.i==i with
 |some x=>
  have hx:=jB hf;simp only;rw[if_neg (h x hx)]
 |none=>simp
def aZ.calm(D:aZ)(k:Nat):Prop:=(D.b3.getD 1 0= -1\/(k:Int)<=D.b3.getD 1 0)/\(D.b3.getD 2 0= -1\/(k:Int)<=D.b3.getD 2 0)
def aZ.jc(D:aZ):Int->Prop:=λn=>(∀j,D.bI j=true)->D.writes=n
def aZ.ro(D:aZ):Prop:=∀i,D.bI i=true
def aZ.key(D:aZ):(O cW×(Nat->ai)×(Nat->O cW)×(Int->Prop)×ai)×Int:=((D.bh,D.bI,D.ep,D.jc,D.r1),D.b3.getD 3 0)
theorem cy{W V:Nat->Prop}{w w' b:J}(h1:ad W w w')(h2:ad V w' b)(h:∀q,q<w.heap.size->V q->W q):ad W w b:=
 ⟨h2.os.trans h1.os,h2.tape.trans h1.tape,h2.output.trans h1.output,eD h1.size h2.size,λk a cg=>(h2.block k (fP a h1.size) λc=>cg (h k a c)).trans (h1.block k a cg)⟩
theorem fH{D:aZ}{k l:Nat}(h:D.calm k)(a:l<=k):D.calm l:=⟨h.1.imp id λh=>I,h.2.imp id λh=>I⟩
theorem jI{D:aZ}{k m:Nat}(c:k=1\/k=2)(f:D.b3.length=4)(h:D.calm (m+1)):(D.cA k).calm m/\D.fR k=false:=by
 obtain⟨h1,h2⟩:=h;have d:1<D.b3.length:=by omega
 have e:2<D.b3.length:=by omega
 rcases c with rfl|rfl
 .have a:(D.cA 1).b3.getD 1 0=(gy (D.b3.getD 1 0)).2:=by
   show(D.b3.set 1 _).getD 1 0=_;rw[fl (by rw[df];omega),ie]
  have b:(D.cA 1).b3.getD 2 0=D.b3.getD 2 0:=by
   show(D.b3.set 1 _).getD 2 0=_;rw[fl (by rw[df];omega),fG I,fl e]
  unfold aZ.calm aZ.fR;rw[a,b];unfold gy;rcases h1 with h1|h1
  .rw[if_pos h1]
   exact⟨⟨.inl rfl,h2.imp id λh=>I⟩,rfl⟩
  .rw[if_neg I,if_neg I]
   exact⟨⟨.inr (by show(m:Int)<=_-1;omega),h2.imp id λh=>I⟩,rfl⟩
 .have a:(D.cA 2).b3.getD 2 0=(gy (D.b3.getD 2 0)).2:=by
   show(D.b3.set 2 _).getD 2 0=_;rw[fl (by rw[df];omega),ie]
  have b:(D.cA 2).b3.getD 1 0=D.b3.getD 1 0:=by
   show(D.b3.set 2 _).getD 1 0=_;rw[fl (by rw[df];omega),fG I,fl d]
  unfold aZ.calm aZ.fR;rw[a,b];unfold gy;rcases h2 with h2|h2
  .rw[if_pos h2]
   exact⟨⟨h1.imp id λh=>I,.inl rfl⟩,rfl⟩
  .rw[if_neg I,if_neg I]
   exact⟨⟨h1.imp id λh=>I,.inr (by show(m:Int)<=_-1;omega)⟩,rfl⟩
theorem p_(D:aZ){k:Nat}(a:k=1\/k=2):(D.cA k).key=D.key:=by
 unfold aZ.key aZ.cA;rcases a with rfl|rfl<;>simp[fq]<;>rfl
theorem xV{sz:Nat}{w:J}{s:Y}{α:Type}{c:α->O aa}{l:O α}(h:Src sz w s (bM c l))(hc:∀x∈l,(c x).length=sz)(e:0<sz){i:Nat}(hi:i<l.length):
 s.len=l.length/\∃A,s.a=some A/\cD w (A.add (i*sz)) 0 sz=some (c l[i]):=by
 have b:s.len=l.length:=by
  have:=h.len;rw[gL l hc]at this;exact(Nat.eq_of_mul_eq_mul_right e this).symm
 refine⟨b,?_⟩
 cases d:s.a with
 |none=>
  have:=congrArg List.length (h.nil d);rw[gL l hc,jD]at this;have:l.length*sz≠0:=Nat.mul_ne_zero I I;omega
 |some A=>
  refine⟨A,rfl,?_⟩;have f:i*sz+sz<=s.len*sz:=by
   rw[b,←Nat.succ_mul];exact mF _ hi
  rw[Ak (h.rd A d) f,Bg hc hi]
def qa:O aa:=aJ (List.replicate 256 0)
def xW(D:aZ)(i:Nat)(w:J)(v:aa)(w':J):Prop:=v=.agg (aJ (D.now i)).toArray/\Ext w w'
theorem Bl{w:J}{D:aZ}(h:cx w D){i:Nat}(hi:i<D.n)(Q:D.aR<=1000000000):
 aQ aj 137 #[.pointer (some D.d),i] w (xW D i w):=by
 have R:=h.bw;have f:=h.oC hi;refine okF (af.uq (some D.d) (i:Int)) aA.uq func137 ?_;(delta af.uq z4 ak au xe U ag te;dsimp only);refine bj (vs:=qa) (by kernel_rfl) λw1 g u _=>?_;have hd:=h.ext u;refine⟨_,rfl,some D.mr,hd.bc,?_⟩;have y:qa.length=256:=by rw[qa,ez,mL]
 have fin:∀ (K:O aa->J->Prop),(∀a,Ext w a->K (aJ (D.now i)) a)->bA w1 w.heap.size (Array.toList (aJ (D.now i)).toArray)/\Array.size (aJ (D.now i)).toArray=256/\al (setCells w1 w.heap.size 0 (Array.toList (aJ (D.now i)).toArray)) λa=>∃b:O aa,cD a w.heap.size 0 256=some b/\K b a:=by
  intro K E;refine⟨g.cc (by rw[qF,ez,f,y]) (by rw[qF];exact k3 _),by simp[ez,f],cw g (us:=aJ (D.now i)) (by rw[ez,f,y]) rfl λa F G _=>⟨_,F.rd (by rw[ez,f]),E a (Ext.cn u G (bp _))⟩⟩
 cases hf:D.waits.find? λx=>x.i==i with
 |some x=>
  have hx:=jB hf;have H:x.i=i:=by
   have:=kj hf;exact eq_of_beq this
  have j:=hd.m.wZ oB lI (k:=(i:Int)) (v:=x.s) (eE.2 ⟨x,hx,by unfold g1.e;rw[H]⟩) false;have L:=(h.wn x hx).1;have hlen:0<x.gn.length:=sk.2 L;have S:=(h.wn x hx).2.2;obtain⟨z,A,ar,p⟩:=xV (hd.ws x hx).src (λs hs=>by rw[ez];exact h.j6 x hx s hs) (by decide) (i:=x.gn.length-1) I;have q:D.now i=x.gn[x.gn.length-1]'I:=by
   unfold aZ.now;rw[hf];show x.gn.getLastD []=_;rw[List.getLastD_eq_getLast?,List.getLast?_eq_getElem?,dE I];rfl
  refine⟨x.s,w1,j,λ_=>⟨A,ar,?_⟩,λr=>?_⟩
  .rw[z,bx (n:=(x.gn.length:Int)-1) I I]
   have M:Int.toNat ((x.gn.length:Int)-1)=x.gn.length-1:=by omega
   rw[M];refine⟨⟨I,I⟩,_,p,?_⟩;rw[←q];exact fin (λb a=>xW D i w (.agg b.toArray) a) λa t=>⟨rfl,t⟩
  .have:=cu r
   omega
 |none=>
  obtain⟨T,h1,h2⟩:=rM Bi;have j:=hd.m.Ah oB lI (k:=(i:Int)) h1 h2 (λv g=>by
   obtain⟨x,hx,he⟩:=eE.1 g;have N:=jk.1 hf x hx;unfold g1.e at he;simp only[Prod.mk.injEq]at he;apply N;have:x.i=i:=by omega
   rw[this];simp) false
  have B:i<D.bh.length:=hi;have q:D.now i=D.bh[i]:=by
   unfold aZ.now;rw[hf];exact fl B
  have P:Src 256 w1 ⟨some D.lb,D.bh.length,D.bh.length⟩ (bM aJ D.bh):=by
   have C:=gL (c:=aJ) (sz:=256) D.bh λs hs=>by rw[ez];exact h.sl s hs
   have:=bu.q4 (sz:=256) (o:=0) (n:=D.bh.length) (cap:=D.bh.length) hd.l (by simp[C]);rw[ln,qF,dM (by rw[C];exact bp _)]at this;exact this
  obtain⟨z,A,ar,p⟩:=xV P (λs hs=>by rw[ez];exact h.sl s hs) (by decide) B;refine⟨⟨none,0,0⟩,w1,j,λr=>by simp at r,λ_=>⟨_,rfl,_,hd.du,A,ar,⟨I,by show(i:Int)<(D.bh.length:Int);omega⟩,_,p,?_⟩⟩;rw[←q];exact fin (λb a=>xW D i w (.agg b.toArray) a) λa t=>⟨rfl,t⟩
def F0(D:aZ)(i:Nat)(w:J)(v:aa)(w':J):Prop:=
 cx w' (D.cA 1)/\ad (λq=>q=D.d) w w'/\
  ((D.fR 1=true/\v=.tuple #[(),(3:Int)])\/
   (D.fR 1=false/\∃s:Y,v=.tuple #[s,(0:Int)]/\a6 (λq=>w.heap.size<=q) w' s (D.now i)))
theorem xX{w:J}{D:aZ}(h:cx w D){i:Nat}(hi:i<D.n)(x:D.aR<=1000000000):
 aQ aj 114 #[.pointer (some D.d),i] w (F0 D i w):=by
 refine okF (af.ug (some D.d) (i:Int)) aA.ug func114 ?_;(delta af.ug aM ak tf gG z4 U;dsimp only);refine(Bk h _).use ?_;rintro _ _ ⟨rfl,rfl⟩;refine⟨_,rfl,λa=>?_,λ_=>⟨_,rfl,(xU h (k:=1) (by decide)).use ?_⟩⟩
 .have a:¬(0<=(i:Int)/\(i:Int)<D.n):=by simpa using a
  omega
 rintro _ ah ⟨rfl,b,j,z⟩;refine⟨_,rfl,λa=>⟨b,j,.inl ⟨a,rfl⟩⟩,λa=>(Bl b (i:=i) hi x).use ?_⟩;rintro _ m ⟨rfl,g⟩;have f:=h.oC hi;refine⟨_,rfl,bj (vs:=qa) (by kernel_rfl) λB p r C=>⟨p.cc (by rw[qF,ez];show(D.now i).length=_;rw[f,qa,ez,mL]) (by rw[qF];exact k3 _),by rw[sx,ez];exact f,cw p (us:=aJ (D.now i)) (by rw[ez,f,qa,ez,mL]) rfl λE s t F=>?_⟩⟩;have G:=g.size;have aK:D.d<ah.heap.size:=b.v.lt;refine⟨(b.ext (g.trans r)).ab t (λq u e=>by have:=b.lt u;omega),cy (j.trans (ad.cF (g.trans r))) t λq u e=>I,.inr ⟨a,⟨some m.heap.size,256,256⟩,rfl,?_,bp _,λk y=>?_⟩⟩
 .have:=s.AL (o:=0) (n:=256) (c:=256) (l:=D.now i) (by rw[ez,f];decide) (by rw[ln,dM (by rw[ez,f];decide)])
  exact this
 .obtain⟨A,ar,rfl⟩:=y
  cases ar;have:=s.lt;exact⟨by show w.heap.size<=m.heap.size;omega,this⟩
theorem Bm:∀ (l:O aa) (k:Nat) (a:Array aa),(l.zipIdx k).foldl (λcs (p:aa×Nat)=>cs.setIfInBounds p.2 p.1) a=gF a k l
 | [],_,_=>rfl
 |v::l,k,a=>by
  rw[List.zipIdx_cons,List.foldl_cons]
  exact Bm l (k+1) (a.setIfInBounds k v)
theorem xY{P:Program}{T e:TypeId}{d:TypeDesc}{i:TypeInfo}{z:aa}{sz:Nat}{cs:Array aa}(w:J)(h1:P.underlying T=some (.slice e))(h2:P.underlying e=some d)(f:P.cellsOf e=sz)(hi:P.info? e=some i)(g:i.zero=some z)(a:cs.size=sz)(o:sz≠0)(q:sz<=16777216):
 Sem.run P (Instr.buildSlice T 1 #[(0,.agg cs)]) w=.ok (.slice (some w.heap.size) 1 1) (w.alloc (.cells cs e)):=by
 have b:=iC (P:=P) (w:=w) h2;rw[f]at b;have h:Instr.fill (λi=>some (i*sz,sz)) ((Array.range (1*sz)).map λx=>z.cells[x%z.cells.size]!) [(0,.agg cs)]=some cs:=by
  have hc:(Value.agg cs).cells=cs:=rfl;rw[Instr.fill];simp only[hc];rw[if_neg (by simp[a]),Instr.fill];rw[←Array.foldl_toList,Array.toList_zipIdx];have e:(λ(cs:Array aa) (x:aa×Nat)=>match x with|(c,j)=>cs.setIfInBounds (0*sz+j) c)=λcs (p:aa×Nat)=>cs.setIfInBounds p.2 p.1:=by
   funext cs x;obtain⟨c,j⟩:=x;simp
  rw[e,Bm]
  congr 1
  apply Array.toList_inj.1;rw[lA _ _ _ (by simp[a])];simp[a]
 have k:=mM (w:=w) hi;have l:¬(1*sz>2^24):=by
  have:(2:Nat)^24=16777216:=rfl;omega
 have m:¬(1*sz=0):=by omega
 have n:Instr.fill (λi=>some (i*sz,sz)) ((Array.range (1*sz)).map λx=>z.cells[x%z.cells.size]!) (#[(0,Value.agg cs)]:Array (Nat×aa)).toList=some cs:=h;simp only[Instr.buildSlice,Sem.run_bind,dm h1,b,Result.andThen,l,m,if_false,zeroValue,k,g,Sem.run_pure,n];simp[newRow,newObj,Sem.run]
theorem Bn(w:J)(l:cW)(a:l.length=256):
 Sem.run aj (Instr.buildSlice 136 1 #[(0,.agg (aJ l).toArray)]) w=.ok (.slice (some w.heap.size) 1 1) (w.alloc (.cells (aJ l).toArray 182)):=by
 have h:((Tryz.prog.info? 182).bind (·.zero)).isSome=true:=by kernel_rfl
 obtain⟨z,b⟩:=mB.1 h;obtain⟨i,hi,c⟩:=rM b;exact xY (d:=.array 256 5) (sz:=256) w (by kernel_rfl) (by kernel_rfl) (by kernel_rfl) hi c (by rw[sx,ez,a]) (by decide) (by decide)
theorem F1:hM aj 136 182 256 256:=⟨by kernel_rfl⟩
def aZ.put(D:aZ)(i:Nat)(s:Y)(l:cW):aZ:=
 {D.cA 2 with waits:=⟨i,s,D.dB i++ [l]⟩::D.waits.filter (λx=>x.i !=i),writes:=IntKind.wrap .i64 (D.writes+1),aR:=D.aR+1}
theorem Bo{D:aZ}{i j:Nat}(h:j≠i):(D.waits.filter λx=>x.i !=i).find? (λx=>x.i==j)=D.waits.find? λx=>x.i==j:=by
 rw[List.find?_filter]
 congr 1
 funext x;by_cases e:x.i=j
 .rw[e];simp[h]
 .simp[e]
theorem Bp(D:aZ)(i:Nat)(s:Y)(l:cW)(j:Nat):(D.put i s l).dB j=if j=i then D.dB i++ [l] else D.dB j:=by
 unfold aZ.dB aZ.put;by_cases h:j=i
 .subst h
  simp[aZ.dB]
 .rw[if_neg h]
  simp only;rw[List.find?_cons_of_neg (by simp;omega),Bo h]
theorem oD(D:aZ)(i:Nat)(s:Y)(l:cW)(j:Nat):(D.put i s l).now j=if j=i then l else D.now j:=by
 unfold aZ.now aZ.put;by_cases h:j=i
 .subst h
  simp
 .rw[if_neg h]
  simp only;rw[List.find?_cons_of_neg (by simp;omega),Bo h];rfl
def Bq(D:aZ)(i:Nat)(l:cW)(w:J)(v:aa)(w':J):Prop:=
 (D.fR 2=true/\v=.int .i64 3/\cx w' (D.cA 2)/\ad (λq=>q=D.d) w w')\/
 (D.fR 2=false/\v=.int .i64 0/\∃s:Y,cx w' (D.put i s l)/\ad (bX D) w w'/\∀q,aB s q->bX D q\/w.heap.size<=q)
theorem vE{w:J}{D:aZ}{b:Y}{l:cW}(h:cx w D){i:Nat}(hi:i<D.n)(bg:D.aR<=1000000000)(X:Src 1 w b (aJ l))(K:l.length=256)(hd:∀q,aB b q->¬bX D q):
 aQ aj 75 #[.pointer (some ⟨D.d,0,none⟩),.int .i64 ((i:Nat):Int),.slice b.a b.len b.cap] w (Bq D i l w):=by
 have aC:=len8 X;have bi:=h.bw;refine okF (af.tS (some ⟨D.d,0,none⟩) ((i:Nat):Int) b) aA.tS func75 ?_;(delta af.tS aM ak w8 r1 st au;dsimp only);refine(Bk h _).use ?_;rintro _ _ ⟨rfl,rfl⟩;have aT:decide (0<=(i:Int)/\(i:Int)<D.n)=true:=dK ⟨I,I⟩;refine⟨_,rfl,λh1=>?_,λ_=>⟨_,rfl,(xU h (k:=2) (by decide)).use ?_⟩⟩
 .rw[aT,aC,K]at h1
  simp at h1
 rintro _ ah ⟨rfl,G,Z,bj⟩;refine⟨_,rfl,λac=>.inl ⟨ac,rfl,G,Z⟩,λac=>aW ?_⟩;obtain⟨p,hold⟩:∃p:Y,(match D.waits.find? λx=>x.i==i with|some x=>x.s|none=>⟨none,0,0⟩)=p:=⟨_,rfl⟩;have z:=G.ext (cj ah);have aU:Src 1 ah.drew b (aJ l):=(X.ab Z λq f e=>hd q f (.inl e)).ext (cj ah)
 have aV:ba 256 182 ah.drew p (bM aJ (D.dB i))/\(∀q,aB p q->bX D q/\q≠D.d/\q≠D.lb/\q≠D.mr)/\(∀x∈D.waits,x.i≠i->∀q,aB x.s q->¬aB p q)/\(D.dB i).length<=D.aR/\(∀s∈D.dB i,s.length=256)/\
  ∀w':J,eG w' D.mr encZ (D.waits.map g1.e)->Sem.run aj (Instr.lookup 137 (.map (some D.mr)) (.int .i64 ((i:Nat):Int)) false) w'=.ok (.slice p.a p.len p.cap) w':=by
  cases hf:D.waits.find? λx=>x.i==i with
  |some x=>
   rw[hf]at hold;have hold:x.s=p:=hold;subst hold;have hx:=jB hf;have S:x.i=i:=by
    have:=kj hf;exact eq_of_beq this
   have e:D.dB i=x.gn:=by unfold aZ.dB;rw[hf]
   rw[e];refine⟨z.ws x hx,λq f=>⟨.inr (.inr (.inr ⟨x,hx,f⟩)),λe=>(h.a2 x hx).1 (e▸f),λe=>(h.a2 x hx).2.1 (e▸f),λe=>(h.a2 x hx).2.2 (e▸f)⟩,λy t B=>h.a3 y t x hx I,(h.wn x hx).2.2,h.j6 x hx,λw' L=>L.wZ oB lI (k:=(i:Int)) (v:=.slice x.s.a x.s.len x.s.cap) (eE.2 ⟨x,hx,by unfold g1.e;rw[S]⟩) false⟩
  |none=>
   rw[hf]at hold;have hold:(⟨none,0,0⟩:Y)=p:=hold;subst hold;have e:D.dB i=[]:=by unfold aZ.dB;rw[hf]
   rw[e];obtain⟨bk,h1,h2⟩:=rM Bi;refine⟨ba.none _ _ _,λq f=>(fZ q f).elim,λx _ _ q _ f=>(fZ q f).elim,cG _,λs hs=>(by cases hs),λw' L=>L.Ah oB lI (k:=(i:Int)) h1 h2 (λv ag=>?_) false⟩;obtain⟨x,hx,he⟩:=eE.1 ag;have aX:=jk.1 hf x hx;unfold g1.e at he;simp only[Prod.mk.injEq]at he;apply aX;have:x.i=i:=by omega
   rw[this];simp
 obtain⟨aD,C,aE,bl,aF,aG⟩:=aV;obtain⟨A,ar,aY⟩:∃A,b.a=some A/\cD ah.drew A 0 256=some (aJ l):=by
  cases aH:b.a with
  |none=>
   have:=congrArg List.length (X.nil aH);rw[ez,K]at this
   cases this
  |some A=>
   refine⟨A,rfl,?_⟩;have:=aU.rd A aH;rwa[aC,K]at this
 have a0:¬aB p A.block:=λf=>hd _ ⟨A,ar,rfl⟩ (C _ f).1
 have aI:∀E:J,Ext ah.drew E->∃ (g:Y) (j:J),Sem.run aj (Builtin.append_ #[136,136] 136 #[.slice p.a p.len p.cap,.slice (some ⟨E.heap.size,0,none⟩) 1 1]) (E.alloc (.cells (aJ l).toArray 182))=.ok (.slice g.a g.len g.cap) j/\
  ba 256 182 j g (bM aJ (D.dB i++ [l]))/\ad (aB p) E j/\(∀k,aB g k->aB p k\/E.heap.size<=k)/\ad (aB p) (E.alloc (.cells (aJ l).toArray 182)) j:=by
  intro E a4;have hlen:p.len=(D.dB i).length:=by
   have:=aD.1;rw[gL (c:=aJ) (sz:=256) _ λs hs=>by rw[ez];exact aF s hs]at this;omega
  have ai:=eJ E (.cells (aJ l).toArray 182);obtain⟨g,j,av,ax,F,M,N⟩:=F1.append (cK:=136) (x:=⟨some ⟨E.heap.size,0,none⟩,1,1⟩) (Src.new (T:=182) E (aJ l) 1 (by rw[ez,K])) (aD.ext (a4.trans ai)) (k3 l) (by rw[hlen];show(2*(_+1)+1000)*256<=_;omega);refine⟨g,j,av,?_,(ad.cF ai).trans M,λk a5=>(N k a5).imp id λh=>?_,M⟩
  .rw[lH]
   have:bM aJ [l]=aJ l:=by simp[bM]
   rw[this];exact ax
  .have:=ai.size;omega
 have aK:∀ (j:J) (g:Y),eG j D.mr encZ (D.waits.map g1.e)->∃o:J,Sem.run aj (Instr.mapUpdate 137 (.map (some D.mr)) (.int .i64 ((i:Nat):Int)) (.slice g.a g.len g.cap)) j=.ok () o/\ad (λq=>q=D.mr) j o/\
  eG o D.mr encZ ((g1.mk i g (D.dB i++ [l])::D.waits.filter λx=>x.i !=i).map g1.e):=by
  intro j g L;have am:=L.keys;rw[iA]at am
  cases hf:D.waits.find? λx=>x.i==i with
  |some x=>
   have hx:=jB hf;have S:x.i=i:=by
    have:=kj hf;exact eq_of_beq this
   obtain⟨bf,bz,he⟩:=List.append_of_mem hx;have B:∀y∈bf++bz,y.i≠i:=by
    intro y t e;rw[he,fW,ji]at am;have h1:=(mG.nodup_iff).1 am;rw[List.nodup_cons]at h1;apply h1.1;rw[←fW];refine eE.2 ⟨y,t,?_⟩;show((y.i:Nat):Int)=((x.i:Nat):Int);omega
   have an:D.waits.filter (λx=>x.i !=i)=bf++bz:=by
    rw[he,kQ,List.filter_cons_of_neg (by simp[S])];rw[jT.2 λy t=>by have:=B y (jz _ t);simpa using this,jT.2 λy t=>by have:=B y (ic _ t);simpa using this]
   have a6:(D.waits.map g1.e).Perm (((i:Int),.slice x.s.a x.s.len x.s.cap)::(bf++bz).map g1.e):=by
    rw[he,fW,ji,fW];have:x.e=((i:Int),.slice x.s.a x.s.len x.s.cap):=by unfold g1.e;rw[S]
    rw[this];exact mG
   obtain⟨o,av,ax,_,F⟩:=FX oB lI (L.perm a6) (.slice g.a g.len g.cap);refine⟨o,av,ax,?_⟩;rw[an];exact F
  |none=>
   have B:∀y∈D.waits,y.i≠i:=λy t e=>by
    have:=jk.1 hf y t;rw[e]at this;simp at this
   have an:D.waits.filter (λx=>x.i !=i)=D.waits:=jT.2 λy t=>by simpa using B y t
   obtain⟨o,av,ax,_,F⟩:=FW oB lI (k:=(i:Int)) L (λv ag=>by
    obtain⟨x,hx,he⟩:=eE.1 ag;unfold g1.e at he;simp only[Prod.mk.injEq]at he;exact B x hx I) (.slice g.a g.len g.cap)
   refine⟨o,av,ax,?_⟩;rw[an];exact F
 have fin:∀ (j o:J) (g:Y),ad (aB p) ah.drew j->ba 256 182 j g (bM aJ (D.dB i++ [l]))->(∀k,aB g k->aB p k\/ah.drew.heap.size<=k)->ad (λq=>q=D.mr) j o->eG o D.mr encZ ((g1.mk i g (D.dB i++ [l])::D.waits.filter λx=>x.i !=i).map g1.e)->
  ∃aL:ae,(some ⟨D.d,0,none⟩:aq ae)=some aL/\∃n24:Int,o.cell? (aL.add 6)=some (.int .i64 n24)/\∃U:ae,(some ⟨D.d,0,none⟩:aq ae)=some U/\(∃u:aa,o.cell? (U.add 6)=some u)/\o.frozen? (U.add 6)=false/\al (o.setCell (U.add 6) (.int .i64 (IntKind.wrap .i64 (n24+1)))) λa7=>Bq D i l w (.int .i64 0) a7:=by
  intro j o g V a8 ao aN a9;have a_:=z.v.ab V λf=>(C _ f).2.1 rfl;have ap:Var o D.d (D.cA 2).c 141:=a_.ab aN h.a1.2.1;have hlen:(D.cA 2).c.length=7:=G.rN;obtain⟨s1,s2⟩:=dP ap (i:=6) (by rw[hlen];decide);have b_:o.cell? (Addr.add ⟨D.d,0,none⟩ 6)=some (.int .i64 D.writes):=by
   rw[aw,cB,ap.cell];unfold aZ.c;have:=G.f4;rw[kl (by rw[dL];omega),dL,this];rfl
  rw[aw,cB]at b_;refine⟨_,rfl,D.writes,by rw[aw,cB];exact b_,_,rfl,by rw[aw,cB];exact s1,by rw[aw,cB];exact s2,?_⟩;rw[aw,cB];have aO:=dp o D.d 6 (.int .i64 (IntKind.wrap .i64 (D.writes+1)));have aP:=dT ap (i:=6) (.int .i64 (IntKind.wrap .i64 (D.writes+1)));have bb:(D.cA 2).c.set 6 (.int .i64 (IntKind.wrap .i64 (D.writes+1)))=(D.put i g l).c:=by
   have bd:=G.f4;have O:(D.put i g l).c=(D.cA 2).b3.map (.int .i64)++ [.slice (some ⟨D.lb,0,none⟩) D.bh.length D.bh.length,.map (some D.mr),.int .i64 (IntKind.wrap .i64 (D.writes+1))]:=rfl;have P:(D.cA 2).c=(D.cA 2).b3.map (.int .i64)++ [.slice (some ⟨D.lb,0,none⟩) D.bh.length D.bh.length,.map (some D.mr),.int .i64 D.writes]:=rfl;rw[O,P,List.set_append_right _ _ (by rw[dL];omega),dL,bd];rfl
  rw[bb]at aP;have W:ad (λq=>q=D.mr\/q=D.d) j (o.setCell ⟨D.d,6,none⟩ (.int .i64 (IntKind.wrap .i64 (D.writes+1)))):=(aN.mono λq _ e=>.inl e).trans (aO.mono λq _ e=>.inr e);have Q:∀q,aB g q->q≠D.d/\q≠D.lb/\q≠D.mr:=λq f=>by
   have bm:=z.lt (q:=D.d) (.inl rfl);have bn:=z.lt (q:=D.lb) (.inr (.inl rfl));have bo:=z.lt (q:=D.mr) (.inr (.inr (.inl rfl)));rcases ao q f with h1|h1
   .exact(C q h1).2
   .exact⟨I,I,I⟩
  have H:∀x∈D.waits.filter (λx=>x.i !=i),x∈D.waits/\x.i≠i:=λx hx=>by
   obtain⟨h1,h2⟩:=hJ.1 hx;exact⟨h1,by simpa using h2⟩
  refine aW (.inr ⟨ac,rfl,g,⟨aP,?_,?_,?_,?_,h.sl,?_,h.bW,h.bw,G.f4,G.fr,h.a1,?_,?_,G.r⟩,?_,?_⟩)
  .exact bu.ab (bu.ab z.l V λf=>(C _ f).2.2.1 rfl) W (by
    rintro(e|e)
    .exact h.a1.2.2 e
    .exact h.a1.1 e.symm)
  .exact a9.ab aO (λe=>h.a1.2.1 e.symm)
  .intro x hx
   rcases cU.1 hx with rfl|hx
   .exact a8.ab W λq f=>by
     rintro(e|e)
     .exact(Q q f).2.2 e
     .exact(Q q f).1 e
   .obtain⟨h1,h2⟩:=H x hx
    refine((z.ws x h1).ab V λq f=>aE x h1 h2 q f).ab W λq f=>?_;rintro(e|e)
    .exact(h.a2 x h1).2.2 (e▸f)
    .exact(h.a2 x h1).1 (e▸f)
  .intro x hx
   rcases cU.1 hx with rfl|hx
   .refine⟨by simp,hi,?_⟩
    show(D.dB i++ [l]).length<=D.aR+1;rw[cz,iU];omega
   .obtain⟨h1,h2⟩:=H x hx
    have:=h.wn x h1;exact⟨this.1,this.2.1,Nat.le_succ_of_le this.2.2⟩
  .intro x hx
   rcases cU.1 hx with rfl|hx
   .intro s hs
    rcases cT.1 hs with hs|hs
    .exact aF s hs
    .rw[fo.1 hs];exact K
   .exact h.j6 x (H x hx).1
  .intro x hx
   rcases cU.1 hx with rfl|hx
   .exact⟨λf=>(Q _ f).1 rfl,λf=>(Q _ f).2.1 rfl,λf=>(Q _ f).2.2 rfl⟩
   .exact h.a2 x (H x hx).1
  .have aS:∀y∈D.waits,y.i≠i->∀q,aB y.s q->¬aB g q:=λy t B q f R=>by
    rcases ao q R with h1|h1
    .exact aE y t B q f h1
    .have:=(z.ws y t).lt q f;omega
   intro x hx y t B q f R;rcases cU.1 hx with rfl|hx
   .rcases cU.1 t with rfl|t
    .exact B rfl
    .exact aS y (H y t).1 (λe=>B e.symm) q R f
   .rcases cU.1 t with rfl|t
    .exact aS x (H x hx).1 B q f R
    .exact h.a3 x (H x hx).1 y (H y t).1 B q f R
  .refine((Z.mono λq _ e=>.inl e).trans ((ad.cF (cj ah)).trans (V.mono λq _ f=>(C q f).1))).trans (W.mono λq _ f=>?_)
   rcases f with e|e
   .exact .inr (.inr (.inl e))
   .exact .inl e
  .intro q f
   rcases ao q f with h1|h1
   .exact .inl (C q h1).1
   .have:ah.drew.heap.size=ah.heap.size:=rfl
    exact .inr I
 refine⟨aB p,_,rfl,λf=>(C _ f).2.1 rfl,some D.mr,z.bc,_,rfl,λf=>(C _ f).2.1 rfl,some D.mr,z.bc,I,A,ar,a0,_,aY,⟨?_,?_⟩⟩
 .obtain⟨g,j,av,ax,F,M,N⟩:=aI ah.drew (.refl _ _)
  have ay:=z.m.ab F λf=>(C _ f).2.2.2 rfl;obtain⟨o,O,P,az⟩:=aK j g ay;exact⟨p,_,aG _ z.m,.refl _ _,⟨some ⟨ah.drew.heap.size,0,none⟩,1,1⟩,_,Bn _ l K,ad.cF (eJ _ _),g,j,av,N,o,O,fin j o g F ax M P az⟩
 .obtain⟨g,j,av,ax,F,M,N⟩:=aI ah.drew (.refl _ _)
  have be:=z.m.ext (eJ ah.drew (.cells (aJ l).toArray 182));have ay:=z.m.ab F λf=>(C _ f).2.2.2 rfl;obtain⟨o,O,P,az⟩:=aK j g ay;exact⟨⟨some ⟨ah.drew.heap.size,0,none⟩,1,1⟩,_,Bn _ l K,ad.cF (eJ _ _),p,_,aG _ be,.refl _ _,g,j,av,N,o,O,fin j o g F ax M P az⟩
theorem F2{P:Program}{e:TypeId}{v:aa}{sz:Nat}(a:((P.info? e).bind (·.zero)).map (·.cells)=some (List.replicate sz v).toArray)(hc:P.cellsOf e=sz)(hs:0<sz)(n:Nat):g7 P e n=(List.replicate (n*sz) v).toArray:=by
 unfold g7;rw[hc]
 cases hi:(P.info? e).bind (·.zero) with
 |none=>rw[hi]at a;cases a
 |some z=>
  rw[hi]at a;simp only[lh,Option.some.injEq]at a;simp only[qx];apply Array.ext
  .simp
  .intro i h1 h2
   have b:n*sz≠0:=by
    intro h;simp[h]at h2
   simp only[b,if_false,a,Array.getElem_map,Array.getElem_range];have aK:i%sz<sz:=g6 _ hs;simp[aK]
theorem F3(m n:Nat):bM aJ (List.replicate n (List.replicate m 0))=List.replicate (n*m) (.int .u8 0):=by
 induction n with
 |zero=>simp[bM]
 |succ n a=>
  rw[List.replicate_succ,p7,a,kP,Nat.one_mul,Nat.add_comm];have e:aJ (List.replicate m 0)=List.replicate m (Value.int .u8 0):=by simp[aJ]
  rw[e,List.replicate_append_replicate]
def gz:cW:=List.replicate 256 0
theorem F4(n:Nat):g7 aj 182 n=(bM aJ (List.replicate n gz)).toArray:=by
 unfold gz;rw[F3];exact F2 (by kernel_rfl) (by kernel_rfl) (by decide) n
def oE(n d lb mr:Nat):aZ:=⟨d,lb,mr,[-1, -1, -1, -1],List.replicate n gz,[],0,0,λ_=>false,λ_=> [],true⟩
theorem Br{w:J}{b:Nat}{vs:O aa}{T:TypeId}(h:Var w b vs T)(g:4<=vs.length):
 aQ aj 69 #[.pointer (some b)] w (λv w'=>v=.tuple #[]/\Var w' b (List.replicate 4 (.int .i64 (-1))++vs.drop 4) T/\ad (λq=>q=b) w w'/\w'.heap.size=w.heap.size):=by
 refine okF (af.tP (some b)) aA.tP func69 ?_;(delta af.tP ak st au;dsimp only);refine⟨λi w'=>∃j:Nat,i=j/\j<=4/\Var w' b (List.replicate j (.int .i64 (-1))++vs.drop j) T/\ad (λq=>q=b) w w'/\w'.heap.size=w.heap.size,λi _=>((4:Int)-i).toNat,⟨0,rfl,I,h,.refl _ _,rfl⟩,?_⟩;rintro _ w1 ⟨j,rfl,k,c,hc,f⟩;refine⟨λaK=>?_,λd=>?_⟩
 .have aK:j<4:=by have:=b1 aK;omega
  have a:Addr.add b (Int.toNat (j:Int)*1)=⟨b,j,none⟩:=by rw[dc,fF,aw,cB]
  obtain⟨s1,s2⟩:=dP c (i:=j) (by simp;omega);rw[bx (n:=(j:Int)+1) I I];refine⟨_,rfl,⟨I,by show(j:Int)<4;omega⟩,by rw[a];exact s1,by rw[a];exact s2,aW ⟨⟨j+1,I,I,?_,?_,?_⟩,?_⟩⟩
  .have:=dT c (i:=j) (.int .i64 (-1))
   rw[a];have e:(List.replicate j (Value.int .i64 (-1))++vs.drop j).set j (.int .i64 (-1))=List.replicate (j+1) (.int .i64 (-1))++vs.drop (j+1):=by
    rw[List.set_append_right _ _ (by simp),mL,nx,jy (show j<vs.length from I),List.set_cons_zero,List.replicate_succ',cO];rfl
   rwa[e]at this
  .rw[a];exact hc.trans (dp _ _ _ _)
  .rw[a];simpa[World.setCell] using f
  .show((4:Int)-((j:Int)+1)).toNat<((4:Int)-(j:Int)).toNat
   omega
 .have d:j=4:=by have:=cu d;omega
  subst d;exact⟨rfl,c,hc,f⟩
theorem nU{n:Nat}(h1:16<=n)(h2:n<=1600)(w:J):
 aQ aj 18 #[n] w (λv w'=>∃d lb mr:Nat,v=.tuple #[.pointer (some d),(0:Int)]/\cx w' (oE n d lb mr)/\Ext w w'/\∀q,bX (oE n d lb mr) q->w.heap.size<=q):=by
 refine okF (af.nU (n:Int)) aA.nU func18 ?_;(delta af.nU ak ku du U aU;dsimp only);refine⟨λh=>?_,λ_=>⟨⟨I,I,I,I⟩,?_⟩⟩
 .simp only[iS,cQ]at h;omega
 rw[F4,dc];have g:=bu.new w (bM aJ (List.replicate n gz)).toArray 182;have i:=eJ w (.cells (bM aJ (List.replicate n gz)).toArray 182);have j:=rJ w (.cells (bM aJ (List.replicate n gz)).toArray 182);obtain⟨w1,k⟩:∃w1,w1=w.alloc (.cells (bM aJ (List.replicate n gz)).toArray 182):=⟨_,rfl⟩;rw[←k]at g i j⊢;obtain⟨av,ax⟩:=eG.make (P:=aj) (enc:=encZ) 137 w1;have a:=eJ w1 (.map #[] 0);have l:=rJ w1 (.map #[] 0);obtain⟨ah,m⟩:∃ah,ah=w1.alloc (.map #[] 0):=⟨_,rfl⟩;rw[←m]at av ax a l;refine aW ⟨some w1.heap.size,ah,av,#[(0:Int),(0:Int),(0:Int),(0:Int),.slice (some w.heap.size) n n,.map (some w1.heap.size),(0:Int)],by kernel_rfl,bj (vs:=[(0:Int),(0:Int),(0:Int),(0:Int),.slice (some w.heap.size) n n,.map (some w1.heap.size),(0:Int)]) rfl λr o b t=>⟨_,rfl,(Br o (by show 4<=7;decide)).use ?_⟩⟩;rintro _ u ⟨rfl,p,f,y⟩;refine⟨rfl,ah.heap.size,w.heap.size,w1.heap.size,rfl,⟨?_,?_,?_,λx hx=>(by cases hx),λx hx=>(by cases hx),λs hs=>?_,λx hx=>(by cases hx),?_,?_,rfl,λx hx=>?_,?_,λx hx=>(by cases hx),λx hx=>(by cases hx),λ_=>rfl⟩,Ext.cn (i.trans (a.trans b)) f I,?_⟩
 .have e:(oE n ah.heap.size w.heap.size w1.heap.size).c=List.replicate 4 (.int .i64 (-1))++ [Value.int .i64 0,(0:Int),(0:Int),(0:Int),.slice (some w.heap.size) n n,.map (some w1.heap.size),(0:Int)].drop 4:=by
   unfold aZ.c oE;simp
  rw[e];exact p
 .exact bu.ab ((g.ext a).ext b) f (by show¬w.heap.size=ah.heap.size;omega)
 .exact(ax.ext b).ab f I
 .rw[sq hs,gz,mL]
 .show 16<=(List.replicate n gz).length;simpa using h1
 .show(List.replicate n gz).length<=1600;simpa using h2
 .have:x= -1:=by
   simp[oE]at hx;exact hx
  subst this;exact⟨by decide,by decide⟩
 .exact⟨by show ah.heap.size≠w.heap.size;omega,by show ah.heap.size≠w1.heap.size;omega,by show w.heap.size≠w1.heap.size;omega⟩
 .rintro q (rfl|rfl|rfl|⟨x,hx,_⟩)
  .show w.heap.size<=ah.heap.size;omega
  .exact bp _
  .show w.heap.size<=w1.heap.size;omega
  .cases hx
def aZ.fail(D:aZ)(k:Nat)(a:Int):aZ:={D with b3:=D.b3.set k a,r1:=D.r1&&k !=1}
theorem F5{w:J}{D:aZ}(h:cx w D){k:Nat}(p:1<=k/\k<=3){a:Int}(n:0<=a/\a<=9223372036854775807):
 aQ aj 44 #[.pointer (some D.d),k,a] w (λv w'=>v=.int .i64 0/\cx w' (D.fail k a)/\ad (λq=>q=D.d) w w'/\w'.heap.size=w.heap.size):=by
 refine okF (af.nW (some D.d) (k:Int) a) aA.nW func44 ?_;(delta af.nW ak st;dsimp only);have g:=h.f4;have b:Addr.add D.d (Int.toNat (k:Int)*1)=⟨D.d,k,none⟩:=by rw[dc,fF,aw,cB]
 obtain⟨s1,s2⟩:=dP h.v (i:=k) (by rw[h.rN];omega);refine⟨λh1=>?_,λ_=>⟨_,rfl,⟨I,by show(k:Int)<4;omega⟩,by rw[b];exact s1,by rw[b];exact s2,aW ⟨rfl,?_,by rw[b];exact dp _ _ _ _,by rw[b];simp[World.setCell]⟩⟩⟩
 .simp only[sy,jS,iS,cQ]at h1;omega
 rw[b];have hc:=dp w D.d k a;have j:=dT h.v (i:=k) a;have e:D.c.set k a=(D.fail k a).c:=by
  unfold aZ.c aZ.fail;rw[List.set_append_left _ _ (by rw[dL];omega),←List.map_set]
 rw[e]at j;refine⟨j,bu.ab h.l hc (λe=>h.a1.1 e.symm),h.m.ab hc (λe=>h.a1.2.1 e.symm),λx hx=>(h.ws x hx).ab hc λq o e=>(h.a2 x hx).1 (by subst e;exact o),h.wn,h.sl,h.j6,h.bW,h.bw,by show(D.b3.set k _).length=4;rw[df];exact g,λx hx=>?_,h.a1,h.a2,h.a3,λf=>by
  simp only[aZ.fail,dZ,bne_iff_ne]at f;exact Bj g (h.r f.1) λe=>absurd e f.2⟩
 rcases lp hx with hx|rfl
 .exact h.fr x hx
 .exact⟨I,n.2⟩
structure Fr where
 full:ai
 fS:ai
 used:ai
 no:Int
 pins:Int
 b:Y
 l:cW
def Fr.c(f:Fr):O aa:=[f.full,f.fS,f.used,f.no,f.pins,f.b]
def dC:Fr:=⟨false,false,false,0,0,⟨none,0,0⟩,[]⟩
structure b4 where
 c:Nat
 aT:Nat
 an:O Fr
 hand:Nat
 D:aZ
def c3(C:b4)(q:Nat):Prop:=q=C.c\/q=C.aT\/bX C.D q
structure fy(w:J)(C:b4):Prop where
 v:Var w C.c [.pointer (some C.D.d),.slice (some C.aT) C.an.length C.an.length,C.hand] 281
 f:bu w C.aT (bM Fr.c C.an).toArray 288
 dev:cx w C.D
 bE:8<=C.an.length
 bG:C.an.length<=64
 hd:C.hand<C.an.length
 a1:C.c≠C.aT/\¬bX C.D C.c/\¬bX C.D C.aT
structure Bs(X:Nat->Prop)(w:J)(C:b4)(f:Fr)(no:Nat):Prop where
 num:f.no=no
 lt:no<C.D.n
 IY:a6 (λq=>¬c3 C q/\¬X q) w f.b f.l
 len:f.l.length=256
 clean:f.fS=false->f.l=C.D.now no
 bI:C.D.bI no=true->f.fS=false
 two:2<=no
structure gA(X:Nat->Prop)(w:J)(C:b4):Prop where
 pins:∀f∈C.an,f.pins=0
 ok:∀f∈C.an,f.full=true->∃no:Nat,Bs X w C f no
 un:∀ (i j:Nat) (hi:i<C.an.length) (a:j<C.an.length),(C.an[i]).full=true->(C.an[j]).full=true->(C.an[i]).no=(C.an[j]).no->i=j
 e7:∀q,X q->q<w.heap.size/\¬c3 C q
 kE:∀j,C.D.bI j=true->C.D.dB j=C.D.ep j
def kF(az D:aZ):Prop:=az.n=D.n/\(∀j,az.bI j=true->D.bI j=true)/\∀j,az.bI j=true->az.dB j=az.ep j
theorem gA.rO{X:Nat->Prop}{w:J}{C:b4}(h:gA X w C):kF C.D C.D:=⟨rfl,λ_ h=>h,h.kE⟩
theorem gA.cA{X:Nat->Prop}{w:J}{C:b4}(h:gA X w C)(k:Nat):kF (C.D.cA k) C.D:=⟨rfl,λ_ h=>h,h.kE⟩
structure er(X:Nat->Prop)(w:J)(C:b4):Prop where
 raw:fy w C
 inv:gA X w C
def b4.view(C:b4)(no:Nat):cW:=match C.an.find? λf=>f.full&&f.no==(no:Int) with
 |some f=>f.l
 |none=>C.D.now no
theorem Fr.xZ(f:Fr):f.c.length=6:=rfl
theorem vF(l:O Fr):∀x∈l,(Fr.c x).length=6:=λx _=>rfl
section
variable {w w':J}{C:b4}{X:Nat->Prop}
theorem fy.lt(h:fy w C){q:Nat}(a:c3 C q):q<w.heap.size:=by
 rcases a with rfl|rfl|a
 .exact h.v.lt
 .exact bu.lt h.f
 .exact h.dev.lt a
theorem fy.ab{W:Nat->Prop}(h:fy w C)(hc:ad W w w')(a:∀q,c3 C q->¬W q):fy w' C:=
 ⟨h.v.ab hc (a _ (.inl rfl)),bu.ab h.f hc (a _ (.inr (.inl rfl))),h.dev.ab hc λq b=>a q (.inr (.inr b)),h.bE,h.bG,h.hd,h.a1⟩
theorem fy.ext(h:fy w C)(hc:Ext w w'):fy w' C:=h.ab hc λ_ _ h=>h
theorem gA.ab{W:Nat->Prop}(h:gA X w C)(hc:ad W w w')(b:∀q,W q->c3 C q\/X q):gA X w' C:=
 ⟨h.pins,λf hf c=>by
  obtain⟨no,av,ax,d,e,g,i,j⟩:=h.ok f hf c
  exact⟨no,av,ax,a6.ab d hc λq a k=>by
   rcases b q k with h1|h1
   .exact a.1 h1
   .exact a.2 h1,e,g,i,j⟩,h.un,λq a=>⟨fP (h.e7 q a).1 hc.size,(h.e7 q a).2⟩,h.kE⟩
theorem er.ab{W:Nat->Prop}(h:er X w C)(hc:ad W w w')(b:∀q,W q->X q):er X w' C:=
 ⟨h.raw.ab hc λq c a=>(h.inv.e7 q (b q a)).2 c,h.inv.ab hc λq a=>.inr (b q a)⟩
theorem er.ext(h:er X w C)(hc:Ext w w'):er X w' C:=h.ab hc λ_ h=>h.elim
theorem rP(aT i:Nat):Addr.add aT (Int.toNat (i:Int)*6)=⟨aT,i*6,none⟩:=by rw[dc,aw,cB]
theorem fy.cells(h:fy w C):w.cell? C.c=some (.pointer (some C.D.d))/\w.cell? (Addr.add C.c 1)=some (.slice (some C.aT) C.an.length C.an.length)/\w.cell? (Addr.add C.c 2)=some (.int .i64 C.hand):=by
 rw[aw,aw];exact⟨h.v.cell,h.v.cell,h.v.cell⟩
theorem j7{w:J}{aT:Nat}{fs:O Fr}{T:TypeId}(h:bu w aT (bM Fr.c fs).toArray T){i j:Nat}(hi:i<fs.length)(a:j<6):w.cell? ⟨aT,i*6+j,none⟩=((fs[i]).c)[j]? :=by
 rw[bu.cell h];simp only[qw];exact rL (vF fs) hi a
theorem nf{w:J}{aT:Nat}{fs:O Fr}{T:TypeId}(h:bu w aT (bM Fr.c fs).toArray T){i j:Nat}(hi:i<fs.length)(a:j<6){v:aa}(b:Fr)(hf:b.c=(fs[i]).c.set j v):
 (∃u:aa,w.cell? ⟨aT,i*6+j,none⟩=some u)/\w.frozen? ⟨aT,i*6+j,none⟩=false/\bu (w.setCell ⟨aT,i*6+j,none⟩ v) aT (bM Fr.c (fs.set i b)).toArray T/\ad (λq=>q=aT) w (w.setCell ⟨aT,i*6+j,none⟩ v):=by
 refine⟨⟨((fs[i]).c)[j]'(by rw[Fr.xZ];exact a),by rw[j7 h hi a,dE (by rw[Fr.xZ];exact a)]⟩,bu.frozen h _ rfl,?_,dp _ _ _ _⟩;have:=dT (vs:=bM Fr.c fs) h (i:=i*6+j) v;rw[FV (vF fs) hi a hf]at this;exact this
theorem x0{w:J}{aT:Nat}{fs:O Fr}{T:TypeId}(h:bu w aT (bM Fr.c fs).toArray T){i:Nat}(hi:i<fs.length)(a:Fr):
 bA w ⟨aT,i*6,none⟩ a.c/\bu (setCells w ⟨aT,i*6,none⟩ 0 a.c) aT (bM Fr.c (fs.set i a)).toArray T/\ad (λq=>q=aT) w (setCells w ⟨aT,i*6,none⟩ 0 a.c):=by
 have f:=gL (c:=Fr.c) fs (vF fs);have d:i*6+a.c.length<=(bM Fr.c fs).toArray.size:=by
  rw[sx,f,Fr.xZ];omega
 refine⟨bu.cc h _ _ d ?_,?_,ad.kW (.refl _ _) _ 0⟩
 .intro v b
  unfold Fr.c at b;simp only[cU,eL,eO]at b;rcases b with rfl|rfl|rfl|rfl|rfl|rfl<;>trivial
 .have h0:=bu.jY (o:=i*6) h a.c
  have e:gF (bM Fr.c fs).toArray (i*6) a.c=(bM Fr.c (fs.set i a)).toArray:=by
   have h1:=lA a.c (bM Fr.c fs).toArray (i*6) d;have h2:=Bh (vF fs) hi a;have g:a.c.length=6:=rfl;rw[g]at h1;have j:(gF (bM Fr.c fs).toArray (i*6) a.c).toList=bM Fr.c (fs.set i a):=h1.trans h2;rw[←j]
  rw[e]at h0;exact h0
theorem Bt(h:fy w C)(no:Int):aQ aj 220 #[.pointer (some C.c),no] w (λv w'=>v=.bool (decide (0<=no/\no<C.D.n))/\w=w'):=by
 refine okF (af.uM (some C.c) no) aA.uM func220 ?_;(delta af.uM ak aC;dsimp only);refine cd (λb w'=>b=decide (0<=no/\no<C.D.n)/\w=w') (λq d=>⟨λa=>⟨_,rfl,_,h.cells.1,(p9 h.dev).use ?_⟩,λa=>d _ _ ⟨?_,rfl⟩⟩) ?_
 .rintro _ _ ⟨rfl,rfl⟩
  have a:0<=no:=by simpa using a
  refine⟨_,rfl,d _ _ ⟨?_,rfl⟩⟩;rw[fV,cQ,cQ];exact⟨λh=>⟨a,h⟩,λh=>h.2⟩
 .have a:¬0<=no:=by simpa using a
  rw[iV (λh=>a h.1)]
 .rintro _ _ ⟨rfl,rfl⟩
  exact⟨rfl,rfl⟩
def AtR(C:b4)(no:Int)(v:aa):Prop:=
 (∃ (i:Nat) (hi:i<C.an.length),v=.pointer (some ⟨C.aT,i*6,none⟩)/\(C.an[i]).full=true/\(C.an[i]).no=no)\/
 (v=.pointer none/\∀f∈C.an,f.full=true->f.no≠no)
theorem vG(h:fy w C)(no:Int):aQ aj 201 #[.pointer (some C.c),no] w (λv w'=>AtR C no v/\w=w'):=by
 obtain⟨bT,aC,aU⟩:=h.cells;have d:=h.bG;refine okF (af.uH (some C.c) no) aA.uH func201 ?_;(delta af.uH ak ag aL a_ r1 au;dsimp only);refine⟨λh=>(by cases h),λ_=>⟨_,rfl,⟨some C.aT,C.an.length,C.an.length⟩,aC,λi w'=>∃j:Nat,i=j/\j<=C.an.length/\w=w'/\∀ (k:Nat) (d:k<C.an.length),k<j->(C.an[k]).full=true->(C.an[k]).no≠no,λi _=>((C.an.length:Int)-i).toNat,⟨0,rfl,cG _,rfl,λk _ h=>I⟩,?_⟩⟩;rintro _ _ ⟨j,rfl,s,rfl,g⟩;refine⟨λaK=>?_,λe=>?_⟩
 .have aK:(j:Int)<(C.an.length:Int):=b1 aK
  have aK:j<C.an.length:=by omega
  refine⟨_,rfl,⟨some C.aT,C.an.length,C.an.length⟩,aC,_,rfl,⟨I,by show(j:Int)<(C.an.length:Int);omega⟩,_,rfl,?_⟩;rw[rP];have f0:=j7 h.f aK (j:=0) (by decide);have f3:=j7 h.f aK (j:=3) (by decide);refine⟨(C.an[j]).full,f0,cd (λb w'=>w=w'/\(b=true↔((C.an[j]).full=true/\(C.an[j]).no=no))) (λq l=>⟨λa=>⟨_,rfl,(C.an[j]).no,by rw[aw];exact f3,l _ _ ⟨rfl,?_⟩⟩,λa=>l _ _ ⟨rfl,?_⟩⟩) ?_⟩
  .rw[ki]
   exact⟨λh=>⟨a,h⟩,λh=>h.2⟩
  .rw[a]
   exact⟨λh=>(by cases h),λh=>(by cases h.1)⟩
  rintro b w' ⟨rfl,a⟩;refine⟨λh1=>⟨.inl ⟨j,aK,rfl,(a.1 h1).1,(a.1 h1).2⟩,rfl⟩,λh1=>?_⟩;rw[bx (n:=(j:Int)+1) I I];refine⟨⟨j+1,I,I,rfl,λk d h2 m=>?_⟩,?_⟩
  .rcases dJ k j with o|o
   .exact g k d o m
   .have:k=j:=by omega
    subst this;intro p;rw[a.2 ⟨m,p⟩]at h1;cases h1
  .show((C.an.length:Int)-((j:Int)+1)).toNat<((C.an.length:Int)-(j:Int)).toNat
   omega
 .have e:j=C.an.length:=by
   have:¬((j:Int)<(C.an.length:Int)):=cu e;omega
  subst e;refine⟨.inr ⟨rfl,λf hf r=>?_⟩,rfl⟩;obtain⟨k,d,rfl⟩:=fh hf;exact g k d d r
theorem F6(h:fy w C):aQ aj 267 #[.pointer (some C.c)] w (λv w'=>((∃ (i:Nat) (hi:i<C.an.length),v=.pointer (some ⟨C.aT,i*6,none⟩)/\(C.an[i]).full=false)\/(v=.pointer none/\∀f∈C.an,f.full=true))/\w=w'):=by
 obtain⟨bT,aC,aU⟩:=h.cells;have a:=h.bG;refine okF (af.uT (some C.c)) aA.uT func267 ?_;(delta af.uT ag ak aL a_ au;dsimp only);refine⟨_,rfl,⟨some C.aT,C.an.length,C.an.length⟩,aC,λi w'=>∃j:Nat,i=j/\j<=C.an.length/\w=w'/\∀ (k:Nat) (a:k<C.an.length),k<j->(C.an[k]).full=true,λi _=>((C.an.length:Int)-i).toNat,⟨0,rfl,cG _,rfl,λk _ h=>I⟩,?_⟩;rintro _ _ ⟨j,rfl,l,rfl,e⟩;refine⟨λaK=>?_,λb=>?_⟩
 .have aK:(j:Int)<(C.an.length:Int):=b1 aK
  have aK:j<C.an.length:=by omega
  have f0:=j7 h.f aK (j:=0) (by decide);refine⟨_,rfl,⟨some C.aT,C.an.length,C.an.length⟩,aC,_,rfl,⟨I,by show(j:Int)<(C.an.length:Int);omega⟩,(C.an[j]).full,by rw[rP];exact f0,λd=>⟨_,rfl,⟨some C.aT,C.an.length,C.an.length⟩,aC,_,rfl,⟨I,by show(j:Int)<(C.an.length:Int);omega⟩,.inl ⟨j,aK,by rw[rP],by simpa using d⟩,rfl⟩,λd=>?_⟩;rw[bx (n:=(j:Int)+1) I I];refine⟨⟨j+1,I,I,rfl,λk a h2=>?_⟩,?_⟩
  .rcases dJ k j with g|g
   .exact e k a g
   .have:k=j:=by omega
    subst this;simpa using d
  .show((C.an.length:Int)-((j:Int)+1)).toNat<((C.an.length:Int)-(j:Int)).toNat
   omega
 .have b:j=C.an.length:=by
   have:¬((j:Int)<(C.an.length:Int)):=cu b;omega
  subst b;refine⟨.inr ⟨rfl,λf hf=>?_⟩,rfl⟩;obtain⟨k,a,rfl⟩:=fh hf;exact e k a a
def hZ(fs gs:O Fr):Prop:=gs.length=fs.length/\∀ (i:Nat) (h1:i<fs.length) (h2:i<gs.length),gs[i]={fs[i] with used:=(gs[i]).used}
theorem hZ.refl(fs:O Fr):hZ fs fs:=⟨rfl,λi h1 h2=>rfl⟩
theorem hZ.set{fs gs:O Fr}(h:hZ fs gs){i:Nat}(hi:i<gs.length)(u:ai):hZ fs (gs.set i {gs[i] with used:=u}):=by
 refine⟨by rw[df];exact h.1,λj h1 h2=>?_⟩;rw[sw];split
 .rename_i e
  subst e;have:=h.2 i h1 hi;rw[this]
 .exact h.2 j h1 _
theorem F7(h:fy w C)(A:∀f∈C.an,f.pins=0):aQ aj 268 #[.pointer (some C.c)] w (λv w'=>∃ (i:Nat) (gs:O Fr) (hd:Nat),i<C.an.length/\v=.pointer (some ⟨C.aT,i*6,none⟩)/\hZ C.an gs/\fy w' {C with an:=gs,hand:=hd}/\ad (λq=>q=C.c\/q=C.aT) w w'):=by
 obtain⟨bT,aC,aU⟩:=h.cells;have Q:=h.bE;have R:=h.bG;have B:=h.hd;refine okF (af.uU (some C.c)) aA.uU func268 ?_;(delta af.uU r1 ag ak au aL a_ st;dsimp only);refine⟨_,rfl,_,aU,_,rfl,⟨some C.aT,C.an.length,C.an.length⟩,aC,λD i w'=>∃ (s:Nat) (gs:O Fr),i=s/\s<=C.an.length/\D=(((C.hand+s)%C.an.length:Nat):Int)/\hZ C.an gs/\fy w' {C with an:=gs}/\ad (λq=>q=C.c\/q=C.aT) w w'/\∀ (t:Nat) (hx:(C.hand+t)%C.an.length<gs.length),t<s->(gs[(C.hand+t)%C.an.length]).used=false,
  λ_ i _=>(2*(C.an.length:Int)-i).toNat,⟨0,C.an,rfl,cG _,by rw[kN,jC B],hZ.refl _,h,.refl _ _,λt _ h=>I⟩,?_⟩
 rintro _ _ w1 ⟨s,gs,rfl,hs,rfl,l,b,hc,p⟩;have r:gs.length=C.an.length:=l.1;obtain⟨i,hi⟩:∃i,i=(C.hand+s)%C.an.length:=⟨_,rfl⟩;have d:i<gs.length:=by rw[hi,r];exact g6 _ I
 rw[←hi];obtain⟨d0,d1,d2⟩:=b.cells;have d1:w1.cell? (Addr.add C.c 1)=some (.slice (some C.aT) gs.length gs.length):=d1;have hf:bu w1 C.aT (bM Fr.c gs).toArray 288:=b.f;rw[bx (n:=2*(C.an.length:Int)) I I];have E:IntKind.wrap .i64 ((i:Int)+1)=((i+1:Nat):Int):=by rw[bx I I];rfl
 have u:Int.tmod ((i+1:Nat):Int) (gs.length:Int)=(((i+1)%gs.length:Nat):Int):=by
  rw[qG I];rfl
 have F:(i+1)%gs.length=(C.hand+(s+1))%C.an.length:=by
  rw[hi,r,Nat.mod_add_mod];rfl
 refine⟨λaK=>?_,λG=>?_⟩
 .refine cd (λa w'=>a=(((C.hand+(s+1))%C.an.length:Nat):Int)/\∃g:O Fr,s+1<=C.an.length/\hZ C.an g/\fy w' {C with an:=g}/\ad (λq=>q=C.c\/q=C.aT) w w'/\∀ (t:Nat) (hx:(C.hand+t)%C.an.length<g.length),t<s+1->(g[(C.hand+t)%C.an.length]).used=false) (λq k=>⟨_,rfl,⟨some C.aT,gs.length,gs.length⟩,d1,_,rfl,⟨I,by show(i:Int)<(gs.length:Int);omega⟩,_,rfl,⟨some C.aT,gs.length,gs.length⟩,d1,by show(gs.length:Int)≠0;omega,_,rfl,?_⟩) ?_
  .rw[rP,E]
   have f4:=j7 hf d (j:=4) (by decide);have f2:=j7 hf d (j:=2) (by decide);have H:(gs[i]).pins=0:=by
    have h1:=l.2 i I d;have h2:(gs[i]).pins=(C.an[i]'I).pins:=by rw[h1]
    rw[h2];exact A _ (cE _)
   refine⟨(gs[i]).pins,by rw[aw];exact f4,λx=>?_,λ_=>⟨_,rfl,(gs[i]).used,by rw[aw];exact f2,λhu=>⟨_,rfl,?_⟩,λhu=>⟨_,rfl,?_⟩⟩⟩
   .rw[H]at x;simp at x
   .have J:s<C.an.length:=by
     rcases dJ s C.an.length with h1|h1
     .exact h1
     .have es:s=C.an.length:=by omega
      have y:(C.hand+0)%C.an.length=i:=by rw[hi,es,Nat.add_mod_right];rfl
      have h2:=p 0 (by rw[y];exact d) I;have m:(gs[i]).used=false:=by
       have e:gs[(C.hand+0)%C.an.length]'(by rw[y];exact d)=gs[i]:=by congr 1
       rw[←e];exact h2
      rw[m]at hu;cases hu
    obtain⟨av,ax,K,o⟩:=nf hf d (j:=2) (by decide) (v:=false) {gs[i] with used:=false} rfl;rw[aw];refine⟨av,ax,aW (k _ _ ⟨by rw[u,F],gs.set i {gs[i] with used:=false},J,l.set d false,?_,hc.trans (o.mono λq _ e=>.inr e),λt hx ht=>?_⟩)⟩
    .have L:=b.v.ab o h.a1.1
     refine⟨?_,K,b.dev.ab o (λq k e=>h.a1.2.2 (e▸k)),?_,?_,?_,h.a1⟩
     .show Var _ _ [_,.slice (some C.aT) (gs.set i _).length (gs.set i _).length,_] _
      rw[df];exact L
     .show 8<=(gs.set i _).length;rw[df];omega
     .show(gs.set i _).length<=64;rw[df];omega
     .show C.hand<(gs.set i _).length;rw[df];omega
    .rw[sw]
     split
     .rfl
     .rename_i M
      rcases dJ t s with h1|h1
      .exact p t _ h1
      .have:t=s:=by omega
       subst this;exact absurd hi M
   .obtain⟨s1,s2⟩:=dP b.v (i:=2) (by simp)
    rw[aw,u];refine⟨s1,s2,aW ⟨i,gs,(i+1)%gs.length,I,rfl,l,?_,hc.trans ((dp _ _ _ _).mono λq _ e=>.inl e)⟩⟩;have z:=dp w1 C.c 2 (.int .i64 (((i+1)%gs.length:Nat):Int));refine⟨dT b.v (i:=2) (.int .i64 (((i+1)%gs.length:Nat):Int)),bu.ab hf z (λe=>h.a1.1 e.symm),b.dev.ab z (λq k e=>h.a1.2.1 (e▸k)),b.bE,b.bG,?_,h.a1⟩;exact g6 _ I
  .rintro a w' ⟨rfl,g,h1,h2,m,N,P⟩
   rw[bx (n:=(s:Int)+1) I I];refine⟨⟨s+1,g,I,h1,rfl,h2,m,N,P⟩,?_⟩;show(2*(C.an.length:Int)-((s:Int)+1)).toNat<(2*(C.an.length:Int)-(s:Int)).toNat;omega
 .have:=cu G
  omega
end
structure eC(C aE:b4)(w w':J)(k:Nat):Prop where
 c:aE.c=C.c
 d:aE.D.d=C.D.d
 len:aE.an.length=C.an.length
 bh:aE.D.key=C.D.key
 aR:aE.D.aR<=C.D.aR+k
 calm:∀m,C.D.calm (m+k)->aE.D.calm m
 ab:ad (c3 C) w w'
 c5:∀q,c3 aE q->c3 C q\/w.heap.size<=q
theorem eC.refl(C:b4)(w:J):eC C C w w 0:=⟨rfl,rfl,rfl,rfl,bp _,λ_ h=>h,.refl _ _,λ_ h=>.inl h⟩
theorem eC.ext{w w':J}(C:b4)(h:Ext w w'):eC C C w w' 0:=⟨rfl,rfl,rfl,rfl,bp _,λ_ h=>h,ad.cF h,λ_ h=>.inl h⟩
theorem eC.trans{C aE a:b4}{w w' b:J}{k l:Nat}(h1:eC C aE w w' k)(h2:eC aE a w' b l):eC C a w b (k+l):=by
 have hs:=h1.ab.size;refine⟨h2.c.trans h1.c,h2.d.trans h1.d,h2.len.trans h1.len,h2.bh.trans h1.bh,by have:=h1.aR;have:=h2.aR;omega,λm f=>h2.calm m (h1.calm (m+l) (by rw[show m+l+k=m+(k+l) from I];exact f)),cy h1.ab h2.ab λq e h=>(h1.c5 q h).resolve_right I,λq e=>?_⟩;rcases h2.c5 q e with h|h
 .exact h1.c5 q h
 .exact .inr I
theorem eC.mono{C aE:b4}{w w':J}{k l:Nat}(h:eC C aE w w' k)(b:k<=l):eC C aE w w' l:=
 ⟨h.c,h.d,h.len,h.bh,by have:=h.aR;omega,λm a=>h.calm m (fH a I),h.ab,h.c5⟩
theorem eC.bI{C aE:b4}{w w':J}{k:Nat}(h:eC C aE w w' k):aE.D.bI=C.D.bI:=congrArg (λk:(O cW×(Nat->ai)×(Nat->O cW)×(Int->Prop)×ai)×Int=>k.1.2.1) h.bh
theorem eC.ng{C aE:b4}{w w':J}{k:Nat}(h:eC C aE w w' k):aE.D.bI=C.D.bI/\aE.D.ep=C.D.ep:=⟨h.bI,congrArg (λk:(O cW×(Nat->ai)×(Nat->O cW)×(Int->Prop)×ai)×Int=>k.1.2.2.1) h.bh⟩
theorem eC.n{C aE:b4}{w w':J}{k:Nat}(h:eC C aE w w' k):aE.D.n=C.D.n:=congrArg (λk:(O cW×(Nat->ai)×(Nat->O cW)×(Int->Prop)×ai)×Int=>k.1.1.length) h.bh
section
variable {w w':J}{C:b4}{X:Nat->Prop}
theorem ml{fs:O Fr}{D:aZ}{c aT hd:Nat}(un:∀ (i j:Nat) (hi:i<fs.length) (d:j<fs.length),(fs[i]).full=true->(fs[j]).full=true->(fs[i]).no=(fs[j]).no->i=j){i:Nat}(hi:i<fs.length){no:Nat}(hf:(fs[i]).full=true)(e:(fs[i]).no=no):(b4.mk c aT fs hd D).view no=(fs[i]).l:=by
 unfold b4.view
 cases a:fs.find? λf=>f.full&&f.no==(no:Int) with
 |none=>
  have:=jk.1 a _ (cE hi);simp[hf,e]at this
 |some f=>
  have g:=jB a;have b:=kj a;simp only[dZ,ki]at b;obtain⟨j,d,rfl⟩:=fh g;have:=un i j hi d hf b.1 (by rw[e,b.2]);subst this;simp only
theorem mm{fs:O Fr}{D:aZ}{c aT hd:Nat}{no:Nat}(h:∀f∈fs,f.full=true->f.no≠no):(b4.mk c aT fs hd D).view no=D.now no:=by
 unfold b4.view
 cases b:fs.find? λf=>f.full&&f.no==(no:Int) with
 |none=>rfl
 |some f=>
  have d:=jB b;have a:=kj b;simp only[dZ,ki]at a;exact absurd a.2 (h f d a.1)
theorem rQ(D:aZ)(k i:Nat):(D.cA k).now i=D.now i:=rfl
theorem a6.re{B b:Nat->Prop}{w w':J}{t:Y}{l:Key}{V:Nat->Prop}(h:a6 B w t l)(hc:ad V w w')(c:∀q,q<w.heap.size->B q->¬V q)(d:∀q,q<w.heap.size->B q->b q):a6 b w' t l:=
 ⟨h.1.ab hc λq a=>c q (h.2.2 q a).2 (h.2.2 q a).1,h.2.1,λq a=>⟨d q (h.2.2 q a).2 (h.2.2 q a).1,fP (h.2.2 q a).2 hc.size⟩⟩
theorem rR{gs:O Fr}{hd:Nat}{az:aZ}{V:Nat->Prop}(h:gA X w C)(hs:hZ C.an gs)(hc:ad V w w')(ei:∀q,q<w.heap.size->V q->c3 C q)(m:kF az C.D)(u:∀i,az.now i=C.D.now i)(v:∀q,bX az q->bX C.D q\/w.heap.size<=q):gA X w' {C with an:=gs,hand:=hd,D:=az}:=by
 have x:=hc.size;have r:∀q,q<w.heap.size->c3 {C with an:=gs,hand:=hd,D:=az} q->c3 C q:=λq a hf=>by
  rcases hf with h1|h1|h1
  .exact .inl h1
  .exact .inr (.inl h1)
  .exact .inr (.inr ((v q h1).resolve_right I))
 have g:∀ (i:Nat) (hi:i<gs.length),∃c:i<C.an.length,gs[i]={C.an[i] with used:=(gs[i]).used}:=λi hi=>⟨by rw[←hs.1];exact hi,hs.2 i (by rw[←hs.1];exact hi) hi⟩;refine⟨λf hf=>?_,λf hf y=>?_,λi j hi z h1 h2 A=>?_,λq a=>⟨fP (h.e7 q a).1 x,λhf=>(h.e7 q a).2 (r q (h.e7 q a).1 hf)⟩,m.2.2⟩
 .obtain⟨i,hi,rfl⟩:=fh hf
  obtain⟨c,e⟩:=g i hi;have:(gs[i]).pins=(C.an[i]).pins:=by rw[e]
  rw[this];exact h.pins _ (cE c)
 .obtain⟨i,hi,rfl⟩:=fh hf
  obtain⟨c,e⟩:=g i hi;have n:(gs[i]).full=(C.an[i]).full:=by rw[e]
  have o:(gs[i]).no=(C.an[i]).no:=by rw[e]
  have p:(gs[i]).b=(C.an[i]).b:=by rw[e]
  have d:(gs[i]).l=(C.an[i]).l:=by rw[e]
  have s:(gs[i]).fS=(C.an[i]).fS:=by rw[e]
  obtain⟨no,av,ax,B,E,F,G,H⟩:=h.ok _ (cE c) (by rw[←n];exact y);refine⟨no,by rw[o];exact av,by rw[m.1];exact ax,?_,by rw[d];exact E,λhd=>by rw[d,u];exact F (by rw[←s];exact hd),λhs=>by rw[s];exact G (m.2.1 _ hs),H⟩;rw[p,d];exact a6.re B hc (λq a k J=>k.1 (ei q a J)) λq a k=>⟨λhf=>k.1 (r q a hf),k.2⟩
 .obtain⟨c,e⟩:=g i hi
  obtain⟨K,t⟩:=g j z;have n:(gs[i]).full=(C.an[i]).full:=by rw[e]
  have o:(gs[i]).no=(C.an[i]).no:=by rw[e]
  have p:(gs[j]).full=(C.an[j]).full:=by rw[t]
  have d:(gs[j]).no=(C.an[j]).no:=by rw[t]
  exact h.un i j c K (by rw[←n];exact h1) (by rw[←p];exact h2) (by rw[←o,←d];exact A)
theorem rS{gs:O Fr}{hd:Nat}{az:aZ}(h:gA X w C)(hs:hZ C.an gs)(r:∀i,az.now i=C.D.now i)(no:Nat):(b4.mk C.c C.aT gs hd az).view no=C.view no:=by
 have d:∀ (i:Nat) (hi:i<gs.length),∃g:i<C.an.length,gs[i]={C.an[i] with used:=(gs[i]).used}:=λi hi=>⟨by rw[←hs.1];exact hi,hs.2 i (by rw[←hs.1];exact hi) hi⟩;by_cases hex:∃ (i:Nat) (hi:i<C.an.length),(C.an[i]).full=true/\(C.an[i]).no=no
 .obtain⟨i,hi,h1,h2⟩:=hex
  have n:i<gs.length:=by rw[hs.1];exact hi
  obtain⟨g,e⟩:=d i n;have k:(gs[i]).full=(C.an[i]).full:=by rw[e]
  have m:(gs[i]).no=(C.an[i]).no:=by rw[e]
  have s:(gs[i]).l=(C.an[i]).l:=by rw[e]
  have t:∀ (i j:Nat) (hi:i<gs.length) (A:j<gs.length),(gs[i]).full=true->(gs[j]).full=true->(gs[i]).no=(gs[j]).no->i=j:=by
   intro a b u v bE bG x;obtain⟨y,o⟩:=d a u;obtain⟨z,p⟩:=d b v;have f1:(gs[a]).full=(C.an[a]).full:=by rw[o]
   have f2:(gs[a]).no=(C.an[a]).no:=by rw[o]
   have f3:(gs[b]).full=(C.an[b]).full:=by rw[p]
   have f4:(gs[b]).no=(C.an[b]).no:=by rw[p]
   exact h.un a b y z (by rw[←f1];exact bE) (by rw[←f3];exact bG) (by rw[←f2,←f4];exact x)
  rw[ml t n (by rw[k];exact h1) (by rw[m];exact h2),s];exact(ml (fs:=C.an) (D:=C.D) (c:=C.c) (aT:=C.aT) (hd:=C.hand) h.un hi h1 h2).symm
 .have q:∀f∈C.an,f.full=true->f.no≠no:=λf hf h1 h2=>by
   obtain⟨i,hi,rfl⟩:=fh hf;exact hex ⟨i,hi,h1,h2⟩
  have e:C.view no=C.D.now no:=mm (fs:=C.an) (D:=C.D) (c:=C.c) (aT:=C.aT) (hd:=C.hand) q;rw[e,←r];refine mm λf hf h1 h2=>?_;obtain⟨i,hi,rfl⟩:=fh hf;obtain⟨g,e⟩:=d i hi;have k:(gs[i]).full=(C.an[i]).full:=by rw[e]
  have m:(gs[i]).no=(C.an[i]).no:=by rw[e]
  exact q _ (cE g) (by rw[←k];exact h1) (by rw[←m];exact h2)
theorem x1{i:Nat}(hi:i<C.an.length){az:aZ}{V:Nat->Prop}(h:gA X w C)(hc:ad V w w')(ei:∀q,q<w.heap.size->V q->c3 C q)(l:kF az C.D)
 (t:∀j:Nat,((C.an[i]).full=true->(C.an[i]).no≠j)->az.now j=C.D.now j) (u:∀q,bX az q->bX C.D q\/w.heap.size<=q) (f0:Fr) (m:f0.full=false) (v:f0.pins=0):gA X w' {C with an:=C.an.set i f0,D:=az}:=by
 have x:=hc.size;have o:∀q,q<w.heap.size->c3 {C with an:=C.an.set i f0,D:=az} q->c3 C q:=λq c hf=>by
  rcases hf with h1|h1|h1
  .exact .inl h1
  .exact .inr (.inl h1)
  .exact .inr (.inr ((u q h1).resolve_right I))
 refine⟨λf hf=>?_,λf hf d=>?_,λa b y g h1 h2 n=>?_,λq c=>⟨fP (h.e7 q c).1 x,λhf=>(h.e7 q c).2 (o q (h.e7 q c).1 hf)⟩,l.2.2⟩
 .rcases lp hf with hf|rfl
  .exact h.pins f hf
  .exact v
 .obtain⟨k,z,rfl⟩:=fh hf
  have p:k<C.an.length:=by simpa using z
  by_cases e:i=k
  .subst e
   simp only[ie]at d;rw[m]at d;cases d
  .simp only[fG e]at d⊢
   obtain⟨no,av,ax,A,B,E,F,G⟩:=h.ok _ (cE p) d;refine⟨no,av,by rw[l.1];exact ax,a6.re A hc (λq c g H=>g.1 (ei q c H)) λq c g=>⟨λhf=>g.1 (o q c hf),g.2⟩,B,λhd=>?_,λhs=>F (l.2.1 _ hs),G⟩;show _=az.now no;rw[t no λJ he=>e (h.un i k hi p J d (by rw[he,av]))];exact E hd
 .have K:a<C.an.length:=by simpa using y
  have L:b<C.an.length:=by simpa using g
  by_cases r:i=a
  .subst r
   simp only[ie]at h1;rw[m]at h1;cases h1
  by_cases s:i=b
  .subst s
   simp only[ie]at h2;rw[m]at h2;cases h2
  simp only[fG r]at h1 n;simp only[fG s]at h2 n;exact h.un a b K L h1 h2 n
theorem Bu{i:Nat}(hi:i<C.an.length){az:aZ}{hd:Nat}(h:gA X w C)(v:(C.an[i]).full=true->∀j:Nat,(C.an[i]).no=j->az.now j=(C.an[i]).l)(x:∀j:Nat,((C.an[i]).full=true->(C.an[i]).no≠j)->az.now j=C.D.now j)(f0:Fr)(m:f0.full=false)(no:Nat):
 (b4.mk C.c C.aT (C.an.set i f0) hd az).view no=C.view no:=by
 by_cases hex:∃ (k:Nat) (g:k<C.an.length),(C.an[k]).full=true/\(C.an[k]).no=no
 .obtain⟨k,g,h1,h2⟩:=hex
  have o:=ml (fs:=C.an) (D:=C.D) (c:=C.c) (aT:=C.aT) (hd:=C.hand) h.un g h1 h2;have o:C.view no=(C.an[k]).l:=o;rw[o];by_cases e:i=k
  .subst e
   rw[←v h1 no h2];refine mm λf hf av ax=>?_;obtain⟨a,n,rfl⟩:=fh hf;have p:a<C.an.length:=by simpa using n
   by_cases d:i=a
   .subst d
    simp only[ie]at av;rw[m]at av;cases av
   .simp only[fG d]at av ax
    exact d (h.un i a hi p h1 av (by rw[h2,ax]))
  .have y:k<(C.an.set i f0).length:=by simpa using g
   have q:(C.an.set i f0)[k]=C.an[k]:=fG e _;have z:∀ (a b:Nat) (n:a<(C.an.set i f0).length) (t:b<(C.an.set i f0).length),((C.an.set i f0)[a]).full=true->((C.an.set i f0)[b]).full=true->((C.an.set i f0)[a]).no=((C.an.set i f0)[b]).no->a=b:=by
    intro a b n t h1 h2 r;have p:a<C.an.length:=by simpa using n
    have A:b<C.an.length:=by simpa using t
    by_cases d:i=a
    .subst d
     simp only[ie]at h1;rw[m]at h1;cases h1
    by_cases u:i=b
    .subst u
     simp only[ie]at h2;rw[m]at h2;cases h2
    simp only[fG d]at h1 r;simp only[fG u]at h2 r;exact h.un a b p A h1 h2 r
   rw[ml z y (by rw[q];exact h1) (by rw[q];exact h2),q]
 .have s:∀f∈C.an,f.full=true->f.no≠no:=λf hf h1 h2=>by
   obtain⟨k,g,rfl⟩:=fh hf;exact hex ⟨k,g,h1,h2⟩
  have e:C.view no=C.D.now no:=mm (fs:=C.an) (D:=C.D) (c:=C.c) (aT:=C.aT) (hd:=C.hand) s;rw[e,←x no λh1 h2=>s _ (cE hi) h1 h2];refine mm λf hf h1 h2=>?_;rcases lp hf with hf|rfl
  .exact s f hf h1 h2
  .rw[m]at h1;cases h1
theorem Bv{X:Nat->Prop}{w:J}{C:b4}(h:gA X w C){no:Nat}{s:Y}{l:cW}(hs:¬C.D.bI no=true):kF (C.D.put no s l) C.D:=
 ⟨rfl,λ_ h=>h,λj a=>by
  have a:C.D.bI j=true:=a
  rw[Bp,if_neg λe=>hs (by rw[←e];exact a)];exact h.kE j a⟩
theorem Bw(D:aZ){no:Nat}{s:Y}{l:cW}(hs:¬D.bI no=true):(D.put no s l).key=D.key:=by
 have h1:=p_ D (k:=2) (.inr rfl);unfold aZ.key at h1⊢;have h2:(D.put no s l).jc=D.jc:=by
  funext n;exact propext ⟨λ_ h=>absurd (h no) hs,λ_ h=>absurd (h no) hs⟩
 rw[h2];have a:=congrArg Prod.snd h1;show((D.bh,D.bI,D.ep,D.jc,D.r1),(D.cA 2).b3.getD 3 0)=_;have a:(D.cA 2).b3.getD 3 0=D.b3.getD 3 0:=a;rw[a]
def Bx(X:Nat->Prop)(C:b4)(w:J)(v:aa)(w':J):Prop:=
 ∃aE:b4,er X w' aE/\eC C aE w w' 1/\aE.aT=C.aT/\(∀j,aE.view j=C.view j)/\(∀f∈aE.an,f.full=true->∃g∈C.an,g.full=true/\g.no=f.no)/\
  ((∃ (i:Nat) (hi:i<aE.an.length),v=.tuple #[.pointer (some ⟨C.aT,i*6,none⟩),(0:Int)]/\(aE.an[i]).full=false/\((aE.an[i]).pins=0))\/
   (v=.tuple #[.pointer none,(3:Int)]/\¬C.D.calm 1))
theorem By(h:er X w C)(ay:C.D.aR<=1000000000):aQ aj 221 #[.pointer (some C.c)] w (Bx X C w):=by
 have U:=h.raw;refine okF (af.uN (some C.c)) aA.uN func221 ?_;(delta af.uN kX ak a_ r1 ag aC;dsimp only);refine(F6 U).use ?_;rintro _ _ ⟨he,rfl⟩;rcases he with ⟨i,hi,rfl,hf⟩|⟨rfl,aB⟩
 .exact⟨_,rfl,λ_=>⟨C,h,(eC.refl C w).mono (cG _),rfl,λ_=>rfl,λf hf H=>⟨f,hf,H,rfl⟩,.inl ⟨i,hi,rfl,hf,h.inv.pins _ (cE hi)⟩⟩,λh=>(by cases h)⟩
 refine⟨_,rfl,λh=>(by cases h),λ_=>(F7 U h.inv.pins).use ?_⟩;rintro _ w1 ⟨i,gs,hd,hi,rfl,z,r,aD⟩;have W:i<gs.length:=by rw[z.1];exact hi
 have L:ad (c3 C) w w1:=aD.mono λq _ n=>by
  rcases n with n|n
  .exact .inl n
  .exact .inr (.inl n)
 have E:=rR (hd:=hd) (az:=C.D) h.inv z L (λq _ h=>h) h.inv.rO (λ_=>rfl) λq n=>.inl n;have P:=rS (hd:=hd) (az:=C.D) h.inv z λ_=>rfl;obtain⟨a,F⟩:∃a:b4,a={C with an:=gs,hand:=hd}:=⟨_,rfl⟩;have E:gA X w1 a:=by rw[F];exact E
 have r:fy w1 a:=by rw[F];exact r
 have P:∀no,a.view no=C.view no:=by rw[F];exact P
 have Y:∀q,c3 a q↔c3 C q:=by rw[F];exact λq=>Iff.rfl
 have o:a.D=C.D:=by rw[F]
 have p:a.c=C.c/\a.aT=C.aT:=by rw[F];exact⟨rfl,rfl⟩
 have I:a.an=gs:=by rw[F]
 have A:i<a.an.length:=by rw[I];exact W
 have R:(a.an[i]).full=true:=by
  have e:=z.2 i hi W;have:(gs[i]).full=(C.an[i]).full:=by rw[e]
  simp only[I];rw[this];exact aB _ (cE hi)
 have Z:∀f∈a.an,f.full=true->∃g∈C.an,g.full=true/\g.no=f.no:=by
  rw[I];intro f hf H;obtain⟨k,aa,rfl⟩:=fh hf;have ac:k<C.an.length:=by rw[←z.1];exact aa
  have e:=z.2 k ac aa;have aE:(gs[k]).full=(C.an[k]).full:=by rw[e]
  have aF:(gs[k]).no=(C.an[k]).no:=by rw[e]
  exact⟨C.an[k],cE ac,by rw[←aE];exact H,aF.symm⟩
 obtain⟨no,av,ax,ai,aG,aH,aI⟩:=E.ok _ (cE A) R;have f1:=j7 r.f A (j:=1) (by decide)
 have fin:∀ (ah:J) (az:aZ),ad (c3 C) w1 ah->fy ah {a with D:=az}->eC C {a with D:=az} w ah 1->kF az C.D->(∀j:Nat,(a.an[i]).no≠j->az.now j=C.D.now j)->(∀j:Nat,(a.an[i]).no=j->az.now j=(a.an[i]).l)->(∀q,bX az q->bX C.D q\/w1.heap.size<=q)->
  ∃S:ae,(some ⟨C.aT,i*6,none⟩:aq ae)=some S/\bA ah S [false,false,false,(0:Int),(0:Int),()]/\(6:Nat)=6/\al (setCells ah S 0 [false,false,false,(0:Int),(0:Int),()]) λaJ=>Bx X C w (.tuple #[.pointer (some ⟨C.aT,i*6,none⟩),(0:Int)]) aJ:=by
  intro ah az aK t B aL am aM K;have aN:bu ah a.aT (bM Fr.c a.an).toArray 288:=t.f;obtain⟨s1,s2,M⟩:=x0 aN A dC;rw[p.2]at s1 s2 M;have aO:gA X (setCells ah ⟨C.aT,i*6,none⟩ 0 dC.c) {a with an:=a.an.set i dC,D:=az}:=by
   refine x1 (V:=c3 C) (w:=w1) A E (aK.trans (M.mono λq _ e=>.inr (.inl e))) (λq _ n=>(Y q).2 n) (by rw[o];exact aL) (λj u=>by rw[o];exact am j λe=>u R e) (λq n=>by rw[o];exact K q n) dC rfl rfl
  have aP:=t.v;refine⟨_,rfl,s1,rfl,aW ⟨{a with an:=a.an.set i dC,D:=az},⟨?_,aO⟩,?_,p.2,λj=>?_,λf hf H=>?_,.inl ⟨i,by show i<(a.an.set i dC).length;rw[df];exact A,rfl,by simp[dC],by simp[dC]⟩⟩⟩
  .have aS:a.c≠C.aT:=by have:=t.a1.1;rw[←p.2];exact this
   refine⟨?_,by show bu _ a.aT _ _;rw[p.2];exact s2,t.dev.ab M (λq n e=>t.a1.2.2 (by rw[show({a with D:=az}:b4).aT=a.aT from rfl,p.2,←e];exact n)),?_,?_,?_,t.a1⟩
   .have:=aP.ab M aS
    show Var _ _ [_,.slice _ (a.an.set i dC).length (a.an.set i dC).length,_] _;rw[df];exact this
   .show 8<=(a.an.set i dC).length;rw[df];exact t.bE
   .show(a.an.set i dC).length<=64;rw[df];exact t.bG
   .show a.hand<(a.an.set i dC).length;rw[df];exact t.hd
  .refine⟨B.c,B.d,by show(a.an.set i dC).length=_;rw[df];exact B.len,B.bh,B.aR,B.calm,B.ab.trans (M.mono λq _ e=>.inr (.inl e)),B.c5⟩
  .rw[←P]
   exact Bu A E (λ_ j u=>aM j u) (λj u=>by rw[o];exact am j λe=>u R e) dC rfl j
  .rcases lp hf with hf|rfl
   .exact Z f hf H
   .cases H
 refine⟨_,rfl,λh=>(by cases h),λ_=>ij (λah=>∃az:aZ,ad (c3 C) w1 ah/\fy ah {a with D:=az}/\eC C {a with D:=az} w ah 1/\kF az C.D/\(∀j:Nat,(a.an[i]).no≠j->az.now j=C.D.now j)/\(∀j:Nat,(a.an[i]).no=j->az.now j=(a.an[i]).l)/\(∀q,bX az q->bX C.D q\/w1.heap.size<=q)) (λq n=>⟨_,rfl,(a.an[i]).fS,?_,λaU=>?_,λaV=>n _ ⟨C.D,.refl _ _,?_,?_,h.inv.rO,λ_ _=>rfl,λj u=>?_,λq h=>.inl h⟩⟩) ?_⟩
 .rw[aw,←p.2];exact f1
 .
  have Q:=cj w1;have y:=r.ext Q;obtain⟨ao,_,_⟩:=y.cells;rw[p.1,o]at ao;have f3:=j7 y.f A (j:=3) (by decide);have f5:=j7 y.f A (j:=5) (by decide);rw[p.2]at f3 f5;refine aW ⟨_,rfl,id,_,ao,_,rfl,id,(no:Int),?_,_,rfl,id,(a.an[i]).b,by rw[aw];exact f5,?_⟩
  .rw[aw,f3]
   show some (Value.int .i64 (a.an[i]).no)=_;rw[av]
  have aX:cx w1.drew C.D:=by rw[←o];exact y.dev
  have ap:¬C.D.bI no=true:=λhs=>by
   have:=aI (by rw[o];exact hs);rw[aU]at this;cases this
  refine(vE aX (i:=no) (by rw[←o];exact ax) ay (ai.1.ext Q) aG λq n hf=>(ai.2.2 q n).1.1 (.inr (.inr (by rw[o];exact hf)))).use ?_;rintro v2 ah aY;rcases aY with ⟨ar,rfl,T,G⟩|⟨ar,rfl,s,T,G,a0⟩
  .have N:ad (c3 C) w1 ah:=(ad.cF Q).trans (G.mono λq _ e=>.inr (.inr (.inl e)))
   refine⟨3,rfl,λ_=>⟨{a with D:=C.D.cA 2},⟨?_,?_⟩,?_,p.2,λj=>?_,Z,.inr ⟨rfl,λa6=>?_⟩⟩,λh=>(by cases h)⟩
   .have t:=y.v.ab G (λe=>y.a1.2.1 (.inl (by rw[o];exact e)))
    rw[o]at t;have au:=r.a1;rw[o]at au;exact⟨t,bu.ab y.f G (λe=>y.a1.2.2 (.inl (by rw[o];exact e))),T,r.bE,r.bG,r.hd,au⟩
   .have:=rR (C:=a) (hd:=a.hand) (az:=C.D.cA 2) E (hZ.refl _) N (λq _ n=>(Y q).2 n) (by rw[o];exact h.inv.cA 2) (λj=>by rw[o];rfl) λq n=>.inl (by rw[o];exact n)
    exact this
   .refine⟨p.1,rfl,by show a.an.length=_;rw[I];exact z.1,p_ C.D (.inr rfl),Nat.le_succ _,λm O=>(jI (.inr rfl) h.raw.dev.f4 O).1,L.trans N,λq n=>.inl ?_⟩
    rcases n with e|e|e
    .exact .inl (by rw[←p.1];exact e)
    .exact .inr (.inl (by rw[←p.2];exact e))
    .exact .inr (.inr e)
   .rw[←P]
    exact rS (C:=a) E (hZ.refl _) (λj=>by rw[o];rfl) j
   .have:=(jI (k:=2) (m:=0) (.inr rfl) h.raw.dev.f4 a6).2
    rw[ar]at this;cases this
  .have N:ad (c3 C) w1 ah:=(ad.cF Q).trans (G.mono λq _ e=>.inr (.inr e))
   have K:∀q,bX (C.D.put no s (a.an[i]).l) q->bX C.D q\/w1.heap.size<=q:=by
    rintro q (e|e|e|⟨x,hx,e⟩)
    .exact .inl (.inl e)
    .exact .inl (.inr (.inl e))
    .exact .inl (.inr (.inr (.inl e)))
    .rcases cU.1 hx with rfl|hx
     .exact a0 q e
     .exact .inl (.inr (.inr (.inr ⟨x,(hJ.1 hx).1,e⟩)))
   have c7:∀q,bX C.D q->q≠a.c/\q≠a.aT:=λq n=>⟨λe=>r.a1.2.1 (by rw[o,←e];exact n),λe=>r.a1.2.2 (by rw[o,←e];exact n)⟩;refine⟨0,rfl,λh=>(by cases h),λ_=>n _ ⟨C.D.put no s (a.an[i]).l,N,?_,?_,Bv h.inv ap,λj u=>?_,λj u=>?_,K⟩⟩
   .have t:=y.v.ab G (λe=>(c7 _ e).1 rfl)
    rw[o]at t;have a7:a.c<w1.heap.size:=r.v.lt;have a8:a.aT<w1.heap.size:=bu.lt r.f;refine⟨t,bu.ab y.f G (λe=>(c7 _ e).2 rfl),T,r.bE,r.bG,r.hd,r.a1.1,λe=>?_,λe=>?_⟩
    .rcases K _ e with h1|h1
     .exact(c7 _ h1).1 rfl
     .have:a.c<w1.heap.size:=a7
      have h1:w1.heap.size<=a.c:=h1;omega
    .rcases K _ e with h1|h1
     .exact(c7 _ h1).2 rfl
     .have h1:w1.heap.size<=a.aT:=h1
      omega
   .refine⟨p.1,rfl,by show a.an.length=_;rw[I];exact z.1,Bw C.D ap,bp _,λm O=>(jI (.inr rfl) h.raw.dev.f4 O).1,L.trans N,λq n=>?_⟩
    rcases n with e|e|e
    .exact .inl (.inl (by rw[←p.1];exact e))
    .exact .inl (.inr (.inl (by rw[←p.2];exact e)))
    .rcases K q e with h1|h1
     .exact .inl (.inr (.inr h1))
     .exact .inr (eD L.size h1)
   .rw[oD,if_neg (λe=>u (by rw[av,e]))]
   .rw[oD,if_pos (by rw[av]at u;omega)]
 .rw[←o];exact r
 .refine⟨p.1,rfl,by show a.an.length=_;rw[I];exact z.1,rfl,Nat.le_succ _,λm O=>fH O (Nat.le_succ _),L,λq n=>.inl ?_⟩
  rcases n with e|e|e
  .exact .inl (by rw[←p.1];exact e)
  .exact .inr (.inl (by rw[←p.2];exact e))
  .exact .inr (.inr e)
 .have:no=j:=by rw[av]at u;omega
  subst this;rw[←o];exact(aH aV).symm
 .rintro ah ⟨az,a1,a2,a3,a4,a5,c8,dF⟩
  exact fin ah az a1 a2 a3 a4 a5 c8 dF
end
def rT(fs:O Fr):Prop:=∀ (i j:Nat) (hi:i<fs.length) (a:j<fs.length),(fs[i]).full=true->(fs[j]).full=true->(fs[i]).no=(fs[j]).no->i=j
theorem Bz{fs gs:O Fr}{D az:aZ}{c aT hd c' g h j:Nat}(n:rT fs)(o:rT gs)(h1:∀ (i:Nat) (hi:i<fs.length),(fs[i]).full=true->(fs[i]).no=j->∃ (k:Nat) (a:k<gs.length),(gs[k]).full=true/\(gs[k]).no=j/\(gs[k]).l=(fs[i]).l)
 (h2:(∀f∈fs,f.full=true->f.no≠j)->(∀f∈gs,f.full=true->f.no≠j)/\az.now j=D.now j):(b4.mk c' g gs h az).view j=(b4.mk c aT fs hd D).view j:=by
 by_cases hex:∃ (k:Nat) (a:k<fs.length),(fs[k]).full=true/\(fs[k]).no=j
 .obtain⟨k,a,av,ax⟩:=hex
  obtain⟨m,p,b,d,q⟩:=h1 k a av ax;rw[ml n a av ax,ml o p b d,q]
 .have e:∀f∈fs,f.full=true->f.no≠j:=λf hf h1 h2=>by
   obtain⟨k,a,rfl⟩:=fh hf;exact hex ⟨k,a,h1,h2⟩
  obtain⟨b,d⟩:=h2 e;rw[mm e,mm b,d]
section
variable {w w':J}{C:b4}{X:Nat->Prop}
theorem x2{i:Nat}(hi:i<C.an.length){no:Nat}{V:Nat->Prop}(h:gA X w C)(hc:ad V w w')(ei:∀q,q<w.heap.size->V q->c3 C q){az:aZ}(r:kF az C.D)(A:∀j,az.now j=C.D.now j)(B:∀q,bX az q↔bX C.D q)
 (d:Fr) (O:d.full=true) (E:d.pins=0) (s:Bs X w' {C with an:=C.an.set i d,D:=az} d no) (t:∀ (k:Nat) (u:k<C.an.length),k≠i->(C.an[k]).full=true->(C.an[k]).no≠no):gA X w' {C with an:=C.an.set i d,D:=az}:=by
 have F:=hc.size;have v:∀q,c3 {C with an:=C.an.set i d,D:=az} q->c3 C q:=λq hf=>by
  rcases hf with h1|h1|h1
  .exact .inl h1
  .exact .inr (.inl h1)
  .exact .inr (.inr ((B q).1 h1))
 refine⟨λf hf=>?_,λf hf x=>?_,λa b G g h1 h2 c=>?_,λq o=>⟨fP (h.e7 q o).1 F,λhf=>(h.e7 q o).2 (v q hf)⟩,r.2.2⟩
 .rcases lp hf with hf|rfl
  .exact h.pins f hf
  .exact E
 .obtain⟨k,u,rfl⟩:=fh hf
  have H:k<C.an.length:=by simpa using u
  by_cases e:i=k
  .subst e
   simp only[ie];exact⟨no,s⟩
  .simp only[fG e]at x⊢
   obtain⟨m,av,ax,I,J,K,L,M⟩:=h.ok _ (cE H) x;exact⟨m,av,by show m<az.n;rw[r.1];exact ax,a6.re I hc (λq o g N=>g.1 (ei q o N)) λq _ g=>⟨λhf=>g.1 (v q hf),g.2⟩,J,λhd=>by show _=az.now m;rw[A];exact K hd,λhs=>L (r.2.1 _ hs),M⟩
 .have y:a<C.an.length:=by simpa using G
  have z:b<C.an.length:=by simpa using g
  by_cases p:i=a
  .by_cases l:i=b
   .omega
   .subst p
    simp only[ie]at c;simp only[fG l]at h2 c;exact absurd (by rw[←c];exact s.num) (t b z (λe=>l e.symm) h2)
  .by_cases l:i=b
   .subst l
    simp only[ie]at c;simp only[fG p]at h1 c;exact absurd (by rw[c];exact s.num) (t a y (λe=>p e.symm) h1)
   .simp only[fG p]at h1 c
    simp only[fG l]at h2 c;exact h.un a b y z h1 h2 c
theorem F8{i:Nat}(hi:i<C.an.length){no:Nat}(h:rT C.an)(g:Fr)(j:g.no=no)(l:∀ (k:Nat) (q:k<C.an.length),k≠i->(C.an[k]).full=true->(C.an[k]).no≠no):rT (C.an.set i g):=by
 intro a b o p h1 h2 c;have m:a<C.an.length:=by simpa using o
 have n:b<C.an.length:=by simpa using p
 by_cases f:i=a
 .by_cases d:i=b
  .omega
  .subst f
   simp only[ie]at c;simp only[fG d]at h2 c;exact absurd (by rw[←c];exact j) (l b n (λe=>d e.symm) h2)
 .by_cases d:i=b
  .subst d
   simp only[ie]at c;simp only[fG f]at h1 c;exact absurd (by rw[c];exact j) (l a m (λe=>f e.symm) h1)
  .simp only[fG f]at h1 c
   simp only[fG d]at h2 c;exact h a b m n h1 h2 c
theorem x3{i:Nat}(hi:i<C.an.length){no:Nat}(h:rT C.an){az:aZ}(m:∀j,az.now j=C.D.now j)(a:Fr)(n:a.full=true)(b:a.no=no)(hold:(C.an[i]).full=true->(C.an[i]).no=no)(o:∀ (k:Nat) (g:k<C.an.length),k≠i->(C.an[k]).full=true->(C.an[k]).no≠no){hd:Nat}(j:Nat):
 (b4.mk C.c C.aT (C.an.set i a) hd az).view j=if j=no then a.l else C.view j:=by
 have hu:=F8 hi h a b o;have p:i<(C.an.set i a).length:=by simpa using hi
 by_cases e:j=no
 .subst e
  rw[if_pos rfl,ml hu p (by simp[n]) (by simpa using b)];simp
 .rw[if_neg e]
  refine Bz (fs:=C.an) (D:=C.D) (c:=C.c) (aT:=C.aT) (hd:=C.hand) h hu (λk g av ax=>?_) λq=>⟨λf hf av ax=>?_,m j⟩
  .have d:i≠k:=λr=>by
    subst r;have:=hold av;rw[ax]at this;exact e I
   have s:k<(C.an.set i a).length:=by simpa using g
   exact⟨k,s,by simp only[fG d];exact av,by simp only[fG d];exact ax,by simp only[fG d]⟩
  .rcases lp hf with hf|rfl
   .exact q f hf av ax
   .rw[b]at ax
    exact e I
def F9(X:Nat->Prop)(C:b4)(no:Nat)(w:J)(v:aa)(w':J):Prop:=
 ∃aE:b4,er X w' aE/\eC C aE w w' 2/\(∀j,aE.view j=C.view j)/\
  ((∃s:Y,v=.tuple #[s,(0:Int)]/\a6 (λq=>w.heap.size<=q/\¬c3 aE q/\¬X q) w' s (C.view no))\/(v=.tuple #[(),(3:Int)]/\¬C.D.calm 2))
theorem F_(h:er X w C)(a8:C.D.aR<=999999999){no:Nat}(aE:no<C.D.n)(aF:2<=no):aQ aj 239 #[.pointer (some C.c),no] w (F9 X C no w):=by
 have r:=h.raw;refine okF (af.uO (some C.c) (no:Int)) aA.uO func239 ?_;(delta af.uO aM ak kX st ag bc du b_;dsimp only);refine(Bt r _).use ?_;rintro _ _ ⟨rfl,rfl⟩;refine⟨_,rfl,λF=>?_,λ_=>(vG r _).use ?_⟩
 .have:decide (0<=(no:Int)/\(no:Int)<C.D.n)=true:=dK ⟨I,I⟩
  rw[this]at F;cases F
 rintro _ _ ⟨aG,rfl⟩;rcases aG with ⟨i,hi,rfl,hf,aH⟩|⟨rfl,aI⟩
 .
  obtain⟨av,ax,M,J⟩:=nf r.f hi (j:=2) (by decide) (v:=true) {C.an[i] with used:=true} rfl;have ac:hZ C.an (C.an.set i {C.an[i] with used:=true}):=(hZ.refl C.an).set hi true;have K:ad (c3 C) w (w.setCell ⟨C.aT,i*6+2,none⟩ true):=J.mono λq _ e=>.inr (.inl e);have hinv:=rR (hd:=C.hand) (az:=C.D) h.inv ac K (λq _ h=>h) h.inv.rO (λ_=>rfl) λq p=>.inl p;have aJ:=rS (hd:=C.hand) (az:=C.D) h.inv ac λ_=>rfl;obtain⟨w1,ae⟩:∃w1,w1=w.setCell ⟨C.aT,i*6+2,none⟩ true:=⟨_,rfl⟩;rw[←ae]at M J K hinv;have N:fy w1 {C with an:=C.an.set i {C.an[i] with used:=true}}:=by
   refine⟨?_,M,r.dev.ab J (λq p e=>r.a1.2.2 (e▸p)),?_,?_,?_,r.a1⟩
   .have:=r.v.ab J r.a1.1
    show Var _ _ [_,.slice _ (C.an.set i _).length (C.an.set i _).length,_] _;rw[df];exact this
   .show 8<=(C.an.set i _).length;rw[df];exact r.bE
   .show(C.an.set i _).length<=64;rw[df];exact r.bG
   .show C.hand<(C.an.set i _).length;rw[df];exact r.hd
  obtain⟨a,O⟩:∃a:b4,a={C with an:=C.an.set i {C.an[i] with used:=true}}:=⟨_,rfl⟩;have P:er X w1 a:=by rw[O];exact⟨N,hinv⟩
  have dO:i<(C.an.set i {C.an[i] with used:=true}).length:=by simpa using hi
  have f5:=j7 M dO (j:=5) (by decide);obtain⟨m,bE,bG,ai,al,a9,a_,ba⟩:=hinv.ok ((C.an.set i {C.an[i] with used:=true})[i]) (cE dO) (by simp[hf]);have aK:((C.an.set i {C.an[i] with used:=true})[i]).b=(C.an[i]).b:=by simp
  have am:((C.an.set i {C.an[i] with used:=true})[i]).l=(C.an[i]).l:=by simp
  rw[aK,am]at ai;rw[am]at al;refine⟨_,rfl,λ_=>⟨_,rfl,by rw[aw];exact av,by rw[aw];exact ax,?_⟩,λh=>(by cases h)⟩;rw[aw,←ae];refine aW ⟨_,rfl,(C.an[i]).b,by rw[aw,f5];simp[Fr.c],(kC (B:=λq=>w1.heap.size<=q) ai.1 (by rw[al];omega) (λq p=>p)).use ?_⟩;rintro _ ah ⟨s,rfl,hs,ao,_⟩;have aL:C.view no=(C.an[i]).l:=ml (fs:=C.an) (D:=C.D) (c:=C.c) (aT:=C.aT) (hd:=C.hand) h.inv.un hi hf aH;have aN:=K.size;refine⟨s,rfl,a,P.ext ao,?_,?_,.inl ⟨s,rfl,?_⟩⟩
  .rw[O]
   exact⟨rfl,rfl,by show(C.an.set i _).length=_;rw[df],rfl,Nat.le_add_right _ _,λm Q=>fH Q I,K.trans (ad.cF ao),λq p=>.inl p⟩
  .intro j;rw[O];exact aJ j
  .rw[aL]
   refine a6.aX hs λq _ p=>⟨I,λhf=>?_,λG=>?_⟩
   .have:=P.raw.lt hf;omega
   .have:=(P.inv.e7 q G).1;omega
 .
  refine⟨_,rfl,λh=>(by cases h),λ_=>(By h I).use ?_⟩;rintro _ w1 ⟨a,o,y,A,H,aO,N⟩;rcases N with ⟨i,hi,rfl,aP,bb⟩|⟨rfl,aS⟩
  .refine⟨_,_,rfl,λh=>(by simp at h),λ_=>⟨_,rfl,some C.D.d,?_,?_⟩⟩
   .have:=o.raw.cells.1
    rw[y.c,y.d]at this;exact this
   have R:no<a.D.n:=by rw[y.n];exact aE
   have bd:=y.aR;rw[←y.d];refine(xX o.raw.dev R I).use ?_;rintro v2 ah ⟨ap,L,aU⟩;have aq:=λq=>o.raw.lt (q:=q);have S:ad (c3 a) w1 ah:=L.mono λq _ e=>.inr (.inr (.inl e))
   have T:∀f∈a.an,f.full=true->f.no≠no:=λf hf aV aY=>by
    obtain⟨g,hg,h1,h2⟩:=aO f hf aV;exact aI g hg h1 (by rw[h2,aY])
   have aZ:a.D.calm 1\/¬C.D.calm 2:=by
    rcases Classical.em (C.D.calm 2) with h1|h1
    .exact .inl (y.calm 1 h1)
    .exact .inr h1
   have ar:a.view no=a.D.now no:=mm (fs:=a.an) (D:=a.D) (c:=a.c) (aT:=a.aT) (hd:=a.hand) T;have U:∀q,bX a.D q->q≠a.c/\q≠a.aT:=λq p=>⟨λe=>o.raw.a1.2.1 (e▸p),λe=>o.raw.a1.2.2 (e▸p)⟩;have a0:gA X ah {a with D:=a.D.cA 1}:=rR (C:=a) (hd:=a.hand) (az:=a.D.cA 1) o.inv (hZ.refl _) S (λq _ h=>h) (o.inv.cA 1) (λ_=>rfl) λq p=>.inl p;have u:eC C {a with D:=a.D.cA 1} w ah 2:=by
    have:eC a {a with D:=a.D.cA 1} w1 ah 1:=⟨rfl,rfl,rfl,p_ a.D (.inl rfl),Nat.le_succ _,λm Q=>(jI (.inl rfl) o.raw.dev.f4 Q).1,S,λq p=>.inl p⟩;exact y.trans this
   have a2:∀j,({a with D:=a.D.cA 1}:b4).view j=C.view j:=λj=>by rw[←H];exact rS (C:=a) o.inv (hZ.refl _) (λ_=>rfl) j
   have W:fy ah {a with D:=a.D.cA 1}:=⟨o.raw.v.ab L (λe=>(U _ (.inl rfl)).1 e.symm),bu.ab o.raw.f L (λe=>(U _ (.inl rfl)).2 e.symm),ap,o.raw.bE,o.raw.bG,o.raw.hd,o.raw.a1⟩;rcases aU with ⟨F,rfl⟩|⟨F,s,rfl,hs⟩
   .refine⟨⟨none,0,0⟩,3,rfl,λ_=>⟨{a with D:=a.D.cA 1},⟨W,a0⟩,u,a2,.inr ⟨rfl,?_⟩⟩,λh=>(by simp at h)⟩
    rcases aZ with h1|h1
    .have:=(jI (k:=1) (m:=0) (.inl rfl) o.raw.dev.f4 h1).2
     rw[F]at this;cases this
    .exact h1
   .have au:(a.D.now no).length=256:=o.raw.dev.oC R
    obtain⟨s1,s2,z⟩:=x0 W.f hi ⟨true,false,true,(no:Int),0,s,a.D.now no⟩;rw[A]at s1 s2 z;have be:=L.size;have aN:=y.ab.size;refine⟨s,_,rfl,λh=>(by simp at h),λ_=>⟨_,rfl,s1,rfl,?_⟩⟩;obtain⟨x,ay⟩:∃x,x=setCells ah ⟨C.aT,i*6,none⟩ 0 (Fr.c ⟨true,false,true,(no:Int),0,s,a.D.now no⟩):=⟨_,rfl⟩;rw[←ay]at s2 z;have hg:setCells ah ⟨C.aT,i*6,none⟩ 0 [true,false,true,no,(0:Int),s]=x:=ay.symm;rw[hg];have aB:ad (c3 a) ah x:=z.mono λq _ e=>.inr (.inl (by rw[A];exact e));have aC:a6 (λq=>w1.heap.size<=q) x s (a.D.now no):=a6.ab hs z λq p e=>by
     have:=aq C.aT (.inr (.inl A.symm));omega
    have a3:gA X x {a with an:=a.an.set i ⟨true,false,true,(no:Int),0,s,a.D.now no⟩,D:=a.D.cA 1}:=by
     refine x2 (w:=w1) (V:=c3 a) (az:=a.D.cA 1) hi (no:=no) o.inv (S.trans aB) (λq _ h=>h) (o.inv.cA 1) (λ_=>rfl) (λq=>Iff.rfl) ⟨true,false,true,(no:Int),0,s,a.D.now no⟩ rfl rfl ⟨rfl,R,?_,au,λ_=>rfl,λ_=>rfl,aF⟩ λk Y _ h1=>T _ (cE Y) h1;refine a6.aX aC λq _ p=>⟨λhf=>?_,λG=>?_⟩
     .have:c3 a q:=hf
      have:=aq q this;omega
     .have:=(o.inv.e7 q G).1;omega
    have a4:∀j,({a with an:=a.an.set i ⟨true,false,true,(no:Int),0,s,a.D.now no⟩,D:=a.D.cA 1}:b4).view j=C.view j:=λj=>by
     have:=x3 (hd:=a.hand) (az:=a.D.cA 1) hi (no:=no) o.inv.un (λ_=>rfl) ⟨true,false,true,(no:Int),0,s,a.D.now no⟩ rfl rfl (λh1=>by rw[aP]at h1;cases h1) (λk Y _ h1=>T _ (cE Y) h1) j;rw[show({a with an:=a.an.set i ⟨true,false,true,(no:Int),0,s,a.D.now no⟩,D:=a.D.cA 1}:b4)=b4.mk a.c a.aT (a.an.set i ⟨true,false,true,(no:Int),0,s,a.D.now no⟩) a.hand (a.D.cA 1) from rfl,this];by_cases e:j=no
     .rw[if_pos e,e,←H,ar]
     .rw[if_neg e,H]
    have a5:fy x {a with an:=a.an.set i ⟨true,false,true,(no:Int),0,s,a.D.now no⟩,D:=a.D.cA 1}:=by
     refine⟨?_,by show bu _ a.aT _ _;rw[A];exact s2,ap.ab z (λq p e=>(U q p).2 (by rw[A];exact e)),?_,?_,?_,o.raw.a1⟩
     .have:=W.v.ab z (λe=>o.raw.a1.1 (by rw[A];exact e))
      show Var _ _ [_,.slice _ (a.an.set i _).length (a.an.set i _).length,_] _;rw[df];exact this
     .show 8<=(a.an.set i _).length;rw[df];exact o.raw.bE
     .show(a.an.set i _).length<=64;rw[df];exact o.raw.bG
     .show a.hand<(a.an.set i _).length;rw[df];exact o.raw.hd
    obtain⟨E,Z⟩:∃E:b4,E={a with an:=a.an.set i ⟨true,false,true,(no:Int),0,s,a.D.now no⟩,D:=a.D.cA 1}:=⟨_,rfl⟩;have aa:er X x E:=by rw[Z];exact⟨a5,a3⟩
    have a7:eC C E w x 2:=by
     rw[Z];exact⟨u.c,u.d,by show(a.an.set i _).length=_;rw[df];exact u.len,u.bh,u.aR,u.calm,cy u.ab aB λq p h=>(u.c5 q h).resolve_right I,u.c5⟩
    refine aW ((kC (B:=λq=>x.heap.size<=q) aC.1 (by rw[au];omega) (λq p=>p)).use ?_);rintro _ bf ⟨t,rfl,ht,aD,_⟩;have bg:=z.size;refine⟨t,rfl,E,aa.ext aD,?_,?_,.inl ⟨t,rfl,?_⟩⟩
    .exact(a7.trans (eC.ext E aD)).mono I
    .intro j;rw[Z];exact a4 j
    .rw[←H,ar]
     refine a6.aX ht λq _ p=>⟨I,λhf=>?_,λG=>?_⟩
     .have:=aa.raw.lt hf;omega
     .have:=(aa.inv.e7 q G).1;omega
  .refine⟨_,_,rfl,λ_=>⟨a,o,y.mono I,H,.inr ⟨rfl,λhc=>aS (fH hc I)⟩⟩,λh=>(by simp at h)⟩
end
section
variable {w w':J}{C:b4}{X:Nat->Prop}
def BA(X:Nat->Prop)(C:b4)(no:Nat)(l:cW)(w:J)(v:aa)(w':J):Prop:=
 ∃aE:b4,er X w' aE/\eC C aE w w' 1/\
  ((v=.int .i64 0/\∀j,aE.view j=if j=no then l else C.view j)\/(v=.int .i64 3/\¬C.D.calm 1/\∀j,aE.view j=C.view j))
theorem x4{i:Nat}{a:Fr}(h:fy w C)(hc:ad (λq=>q=C.aT) w w')(b:bu w' C.aT (bM Fr.c (C.an.set i a)).toArray 288):fy w' {C with an:=C.an.set i a}:=by
 refine⟨?_,b,h.dev.ab hc (λq d e=>h.a1.2.2 (e▸d)),?_,?_,?_,h.a1⟩
 .have:=h.v.ab hc h.a1.1
  show Var _ _ [_,.slice _ (C.an.set i _).length (C.an.set i _).length,_] _;rw[df];exact this
 .show 8<=(C.an.set i _).length;rw[df];exact h.bE
 .show(C.an.set i _).length<=64;rw[df];exact h.bG
 .show C.hand<(C.an.set i _).length;rw[df];exact h.hd
theorem set_set{fs:O Fr}{i:Nat}(f g:Fr):(fs.set i f).set i g=fs.set i g:=List.set_set ..
theorem BB (h:er X w C) (bt:C.D.aR≤999999999) {no:Nat} (aD:no<C.D.n) (aE:2≤no) (aF:¬C.D.bI no=true) {b:Y} {l:cW} (ag:Src 1 w b (aJ l)) (ai:l.length=256) (am:∀q,aB b q→q<w.heap.size∧¬c3 C q):
   aQ aj 162 #[.pointer (some C.c),no,b] w (BA X C no l w):=by
 have O:=h.raw
 have aG:=len8 ag
 refine okF (af.uy (some C.c) (no:Int) b) aA.uy func162 ?_
 (delta af.uy aM ak kX du st bc;dsimp only)
 refine(Bt O _).use ?_
 rintro _ _ ⟨rfl,rfl⟩
 have aH:decide (0≤(no:Int)∧(no:Int)<C.D.n)=true:=dK ⟨by omega,by omega⟩
 refine⟨_,rfl,fun h1=>?_,fun _=>(vG O _).use ?_⟩
 · rw[aH,aG,ai] at h1
   simp at h1
 rintro _ _ ⟨aI,rfl⟩
 have fin:∀ (w1:J) (a:b4) (i:Nat) (hi:i<a.an.length) (f1:Fr),er X w1 a→eC C a w w1 1→a.aT=C.aT→(∀j,a.view j=C.view j)→f1.pins=0→∀ah:J,bu ah a.aT (bM Fr.c (a.an.set i f1)).toArray 288→ad (fun q=>q=a.aT) w1 ah→f1.full=true→f1.no=(no:Int)→
     ((a.an[i]).full=true→(a.an[i]).no=(no:Int))→(∀ (k:Nat) (E:k<a.an.length),k≠i→(a.an[k]).full=true→(a.an[k]).no≠(no:Int))→
     Calls aj 135 #[b] ah fun aK P=>∃ao:Y,aK= .returned ao∧∃G:ae,(some ⟨C.aT,i*6,none⟩:aq ae)=some G∧(∃u:aa,P.cell? (G.add 5)=some u)∧P.frozen? (G.add 5)=false∧
       al (P.setCell (G.add 5) ao) fun Q=>∃H:ae,(some ⟨C.aT,i*6,none⟩:aq ae)=some H∧(∃u:aa,Q.cell? (H.add 1)=some u)∧Q.frozen? (H.add 1)=false∧
       al (Q.setCell (H.add 1) true) fun R=>∃I:ae,(some ⟨C.aT,i*6,none⟩:aq ae)=some I∧(∃u:aa,R.cell? (I.add 2)=some u)∧R.frozen? (I.add 2)=false∧
       al (R.setCell (I.add 2) true) fun aL=>BA X C no l w (0:Int) aL:=by
   intro w1 a i hi f1 y o x aN S ah aO K L ap hold ar
   have bv:=o.ab.size
   have bw:=K.size
   have bx:a.aT<w1.heap.size:=y.raw.lt (.inr (.inl rfl))
   have aP:Src 1 ah b (aJ l):=by
     refine(ag.ab o.ab fun q m hf=>(am q m).2 hf).ab K fun q m e=>(am q m).2 (.inr (.inl (by rw[←x];exact e)))
   refine(kC (B:=fun q=>ah.heap.size≤q) aP (by omega) (fun q m=>m)).use ?_
   rintro _ aS ⟨s,rfl,hs,au,_⟩
   have aU:=bu.ext aO au
   have T:i<(a.an.set i f1).length:=by rw[df];exact hi
   have U:(a.an.set i f1)[i]=f1:=by simp
   obtain⟨a1,a2,a3,a4⟩:=nf aU T (j:=5) (by decide) (v:=s) {f1 with b:=s} (by rw[U];rfl)
   rw[set_set] at a3
   have aV:i<(a.an.set i {f1 with b:=s}).length:=by rw[df];exact hi
   have aY:(a.an.set i {f1 with b:=s})[i]={f1 with b:=s}:=by simp
   obtain⟨cf,bS,z,A⟩:=nf a3 aV (j:=1) (by decide) (v:=true) {f1 with b:=s,fS:=true} (by rw[aY];rfl)
   rw[set_set] at z
   have aZ:i<(a.an.set i {f1 with b:=s,fS:=true}).length:=by rw[df];exact hi
   have a0:(a.an.set i {f1 with b:=s,fS:=true})[i]={f1 with b:=s,fS:=true}:=by simp
   obtain⟨d1,d2,d3,d4⟩:=nf z aZ (j:=2) (by decide) (v:=true) {f1 with b:=s,fS:=true,used:=true,l:=l} (by rw[a0];rfl)
   rw[set_set] at d3
   rw[x] at a1 a2 a3 a4 cf bS z A d1 d2 d3 d4 K
   refine⟨s,rfl,_,rfl,by rw[aw];exact a1,by rw[aw];exact a2,?_⟩
   rw[aw]
   refine aW ⟨_,rfl,by rw[aw];exact cf,by rw[aw];exact bS,?_⟩
   rw[aw]
   refine aW ⟨_,rfl,by rw[aw];exact d1,by rw[aw];exact d2,?_⟩
   rw[aw]
   have M:=(K.trans (ad.cF au)).trans (a4.trans (A.trans d4))
   obtain⟨t,r⟩:∃t:Fr,t={f1 with b:=s,fS:=true,used:=true,l:=l}:=⟨_,rfl⟩
   obtain⟨F,W⟩:∃F,F=(((aS.setCell ⟨C.aT,i*6+5,none⟩ s).setCell ⟨C.aT,i*6+1,none⟩ true).setCell ⟨C.aT,i*6+2,none⟩ true):=⟨_,rfl⟩
   rw[←W,←r] at d3
   rw[←W] at M⊢
   have a5:a6 (fun q=>ah.heap.size≤q) F s l:=by
     have h1:=a6.ab hs a4 fun q m e=>by rw[←x] at e;omega
     have h2:=a6.ab h1 A fun q m e=>by rw[←x] at e;omega
     have a7:=a6.ab h2 d4 fun q m e=>by rw[←x] at e;omega
     rw[W];exact a7
   have a8:fy F {a with an:=a.an.set i t}:=x4 y.raw (by rw[x];exact M) (by rw[x];exact d3)
   have a9:gA X F {a with an:=a.an.set i t}:=by
     refine x2 (w:=w1) (V:=fun q=>q=C.aT) (az:=a.D) hi (no:=no) y.inv M (fun q _ e=> .inr (.inl (by rw[x];exact e))) y.inv.rO (fun _=>rfl) (fun q=>Iff.rfl) t (by rw[r];exact L) (by rw[r];exact S) ⟨by rw[r];exact ap,by show no<a.D.n;rw[o.n];exact aD,?_,by rw[r];exact ai,fun hd=>(by rw[r] at hd;cases hd),fun hs=>absurd (by rw[←o.bI];exact hs) aF,aE⟩ ar
     rw[r]
     refine a6.aX a5 fun q _ m=>⟨fun hf=>?_,fun a_=>?_⟩
     · have:c3 a q:=hf
       have:=y.raw.lt this;omega
     · have:=(y.inv.e7 q a_).1;omega
   refine aW ⟨{a with an:=a.an.set i t},⟨a8,a9⟩,⟨o.c,o.d,by show(a.an.set i _).length=_;rw[df];exact o.len,o.bh,o.aR,o.calm,cy o.ab M fun q m e=> .inr (.inl e),o.c5⟩, .inl ⟨rfl,fun j=>?_⟩⟩
   have:=x3 (C:=a) (hd:=a.hand) (az:=a.D) hi (no:=no) y.inv.un (fun _=>rfl) t (by rw[r];exact L) (by rw[r];exact ap) hold ar j
   rw[show({a with an:=a.an.set i t}:b4)=b4.mk a.c a.aT (a.an.set i t) a.hand a.D from rfl,this,aN]
   rw[r]
 rcases aI with ⟨i,hi,rfl,hf,Z⟩|⟨rfl,ba⟩
 · refine⟨_,rfl,cd (fun p w'=>p=some ⟨C.aT,i*6,none⟩∧w=w') (fun q m=>⟨fun h=>(by cases h),fun _=>m _ _ ⟨rfl,rfl⟩⟩) ?_⟩
   rintro _ _ ⟨rfl,rfl⟩
   have e:C.an.set i C.an[i]=C.an:=List.set_getElem_self _
   exact fin w C i hi C.an[i] h ((eC.refl C w).mono (cG _)) rfl (fun _=>rfl) (h.inv.pins _ (cE hi)) w (by rw[e];exact O.f) (.refl _ _) hf Z (fun _=>Z) fun k E bb h1 h2=>bb (h.inv.un k i E hi h1 hf (by rw[h2,Z]))
 · refine⟨_,rfl,cd (fun p ah=>∃ (w1:J) (a:b4) (i:Nat) (hi:i<a.an.length) (f1:Fr),p=some ⟨C.aT,i*6,none⟩∧er X w1 a∧eC C a w w1 1∧a.aT=C.aT∧(∀j,a.view j=C.view j)∧f1.pins=0∧bu ah a.aT (bM Fr.c (a.an.set i f1)).toArray 288∧ad (fun q=>q=a.aT) w1 ah∧f1.full=true∧f1.no=(no:Int)∧
     ((a.an[i]).full=true→(a.an[i]).no=(no:Int))∧(∀ (k:Nat) (E:k<a.an.length),k≠i→(a.an[k]).full=true→(a.an[k]).no≠(no:Int))) (fun q m=>⟨fun _=>(By h (by omega)).use ?_,fun h=>(by cases h)⟩) ?_⟩
   · rintro _ w1 ⟨a,ac,ay,N,aC,bd,be⟩
     have bf:∀f∈a.an,f.full=true→f.no≠(no:Int):=fun f hf L bg=>by
       obtain⟨g,hg,h1,h2⟩:=bd f hf L
       exact ba g hg h1 (by rw[h2,bg])
     rcases be with ⟨i,hi,rfl,bi,S⟩|⟨rfl,bj⟩
     · obtain⟨a1,a2,a3,a4⟩:=nf ac.raw.f hi (j:=0) (by decide) (v:=true) {a.an[i] with full:=true} rfl
       have T:i<(a.an.set i {a.an[i] with full:=true}).length:=by rw[df];exact hi
       have U:(a.an.set i {a.an[i] with full:=true})[i]={a.an[i] with full:=true}:=by simp
       obtain⟨cf,bS,z,A⟩:=nf a3 T (j:=3) (by decide) (v:=no) {a.an[i] with full:=true,no:=(no:Int)} (by rw[U];rfl)
       rw[set_set] at z
       rw[N] at a1 a2 cf bS z a4 A
       refine⟨_,_,rfl,fun h=>(by simp at h),fun _=>⟨_,rfl,a1,a2,aW ⟨_,rfl,by rw[aw];exact cf,by rw[aw];exact bS,aW ?_⟩⟩⟩
       rw[aw]
       exact m _ _ ⟨w1,a,i,hi,{a.an[i] with full:=true,no:=(no:Int)},rfl,ac,ay,N,aC,S,by rw[N];exact z,by rw[N];exact a4.trans A,rfl,rfl,fun h1=>(by rw[bi] at h1;cases h1),fun k E _ h1=>bf _ (cE E) h1⟩
     · exact⟨_,_,rfl,fun _=>⟨a,ac,ay, .inr ⟨rfl,bj,aC⟩⟩,fun h=>(by simp at h)⟩
   · rintro p ah ⟨w1,a,i,hi,f1,rfl,av,ax,bk,bl,bm,bn,bo,bp,bq,br,bs⟩
     exact fin w1 a i hi f1 av ax bk bl bm ah bn bo bp bq br bs
theorem BC(h:er X w C)(no:Nat):aQ aj 146 #[.pointer (some C.c),no] w (λv w'=>(∃b:ai,v=b)/\∃aE:b4,er X w' aE/\eC C aE w w' 0/\(∀j,j≠no->aE.view j=C.view j)/\aE.D=C.D/\∀f∈aE.an,f.full=true->f∈C.an/\f.no≠(no:Int)):=by
 have d:=h.raw;refine okF (af.uv (some C.c) (no:Int)) aA.uv func146 ?_;(delta af.uv kX ak r1;dsimp only);refine(vG d _).use ?_;rintro _ _ ⟨u,rfl⟩;rcases u with ⟨i,hi,rfl,hf,p⟩|⟨rfl,x⟩
 .have f4:=j7 d.f hi (j:=4) (by decide)
  have y:=h.inv.pins _ (cE hi);refine⟨_,rfl,cd (λb w'=>b=false/\w=w') (λq g=>⟨λh=>(by cases h),λ_=>⟨_,rfl,(C.an[i]).pins,by rw[aw];exact f4,g _ _ ⟨by rw[y];rfl,rfl⟩⟩⟩) ?_⟩;rintro _ _ ⟨rfl,rfl⟩;obtain⟨s1,s2,l⟩:=x0 d.f hi dC;refine⟨λh=>(by cases h),λ_=>⟨_,rfl,s1,rfl,aW ⟨⟨true,rfl⟩,{C with an:=C.an.set i dC},⟨x4 d l s2,?_⟩,?_,λj z=>?_,rfl,λf A av=>?_⟩⟩⟩
  .exact x1 (V:=λq=>q=C.aT) (az:=C.D) hi h.inv l (λq _ e=>.inr (.inl e)) h.inv.rO (λ_ _=>rfl) (λq h=>.inl h) dC rfl rfl
  .exact⟨rfl,rfl,by show(C.an.set i _).length=_;rw[df],rfl,bp _,λ_ h=>h,l.mono λq _ e=>.inr (.inl e),λq h=>.inl h⟩
  .refine Bz (fs:=C.an) (D:=C.D) (c:=C.c) (aT:=C.aT) (hd:=C.hand) h.inv.un (λa b B E h1 h2 m=>?_) (λk n av ax=>?_) λF=>⟨λf hf av ax=>?_,rfl⟩
   .have G:a<C.an.length:=by simpa using B
    have H:b<C.an.length:=by simpa using E
    by_cases r:i=a
    .subst r
     simp[dC]at h1
    by_cases s:i=b
    .subst s
     simp[dC]at h2
    simp only[fG r]at h1 m;simp only[fG s]at h2 m;exact h.inv.un a b G H h1 h2 m
   .have o:i≠k:=λe=>by
     subst e;rw[p]at ax;exact z I
    exact⟨k,by rw[df];exact n,by simp only[fG o];exact av,by simp only[fG o];exact ax,by simp only[fG o]⟩
   .rcases lp hf with hf|rfl
    .exact F f hf av ax
    .cases av
  .obtain⟨k,n,rfl⟩:=fh A
   have t:k<C.an.length:=by simpa using n
   by_cases e:i=k
   .subst e
    simp[dC]at av
   .simp only[fG e]at av⊢
    exact⟨cE t,λax=>e (h.inv.un i k hi t hf av (p.trans ax.symm))⟩
 .refine⟨_,rfl,cd (λb w'=>b=true/\w=w') (λq g=>⟨λ_=>g _ _ ⟨rfl,rfl⟩,λh=>(by cases h)⟩) ?_⟩
  rintro _ _ ⟨rfl,rfl⟩;exact⟨λ_=>⟨⟨false,rfl⟩,C,h,eC.refl C w,λ_ _=>rfl,rfl,λf hf av=>⟨hf,x f hf av⟩⟩,λh=>(by cases h)⟩
end
theorem Ga(n:Nat):g7 aj 288 n=(bM Fr.c (List.replicate n dC)).toArray:=by
 have a:((Tryz.prog.info? 288).bind (·.zero)).map (·.cells)=some dC.c.toArray:=by kernel_rfl
 have hc:Tryz.prog.cellsOf 288=6:=by kernel_rfl
 unfold g7;rw[hc]
 cases hi:(Tryz.prog.info? 288).bind (·.zero) with
 |none=>rw[hi]at a;cases a
 |some z=>
  rw[hi]at a;simp only[lh,Option.some.injEq]at a;simp only[qx,a];apply Array.ext
  .simp[gL (c:=Fr.c) (sz:=6) (List.replicate n dC) (λx _=>rfl)]
  .intro i h1 h2
   have d:n*6≠0:=by
    intro h;simp[h]at h1
   have g:i<n*6:=by simpa using h1
   simp only[d,if_false,Array.getElem_map,Array.getElem_range,List.getElem_toArray];have b:dC.c.toArray.size=6:=rfl;have aK:i%6<6:=g6 _ I;have e:i/6<(List.replicate n dC).length:=by rw[mL];omega
   have hg:=rL (c:=Fr.c) (sz:=6) (l:=List.replicate n dC) (λx _=>rfl) (i:=i/6) (j:=i%6) e aK;rw[show i/6*6+i%6=i from I]at hg;have f:i<(bM Fr.c (List.replicate n dC)).length:=by simpa using h2
   rw[dE f]at hg;have he:((List.replicate n dC)[i/6]).c=dC.c:=by simp
   rw[he,dE (show i%6<dC.c.length from aK)]at hg;have hg:=Option.some.inj hg;rw[hg,b,getElem!_pos dC.c.toArray (i%6) (by rw[b];exact aK)];simp
def iO(c aT k:Nat)(D:aZ):b4:=⟨c,aT,List.replicate k dC,0,D⟩
theorem x5(c aT k:Nat)(D:aZ)(j:Nat):(iO c aT k D).view j=D.now j:=by
 refine mm λf hf h1=>?_;rw[sq hf]at h1
 cases h1
theorem pD{w:J}{D:aZ}(h:cx w D){k:Nat}(h1:8<=k)(h2:k<=64)(m:∀j,D.bI j=true->D.dB j=D.ep j):aQ aj 139 #[.pointer (some D.d),k] w (λv w'=>∃c aT:Nat,v=.tuple #[.pointer (some c),(0:Int)]/\er (λ_=>False) w' (iO c aT k D)/\Ext w w'/\w.heap.size<=c/\w.heap.size<=aT):=by
 refine okF (af.pD (some D.d) (k:Int)) aA.pD func139 ?_;delta af.pD ak ku U;refine⟨λh=>?_,λ_=>⟨⟨I,I,I,I⟩,?_⟩⟩
 .simp only[sy,jS,iS,cQ]at h;omega
 rw[Ga,dc];have g:=bu.new w (bM Fr.c (List.replicate k dC)).toArray 288;have a:=eJ w (.cells (bM Fr.c (List.replicate k dC)).toArray 288);have n:=rJ w (.cells (bM Fr.c (List.replicate k dC)).toArray 288);obtain⟨w1,o⟩:∃w1,w1=w.alloc (.cells (bM Fr.c (List.replicate k dC)).toArray 288):=⟨_,rfl⟩;rw[←o]at g a n⊢;refine aW (bj (vs:=[.pointer (some D.d),.slice (some w.heap.size) k k,(0:Int)]) rfl λah p b s=>⟨w1.heap.size,w.heap.size,rfl,⟨⟨?_,bu.ext g b,h.ext (a.trans b),?_,?_,?_,?_,?_,?_⟩,⟨λf hf=>?_,λf hf l=>?_,λi j hi t h1=>?_,λq r=>r.elim,m⟩⟩,a.trans b,I,bp _⟩)
 .show Var _ _ [_,.slice _ (List.replicate k dC).length (List.replicate k dC).length,_] _
  rw[mL];exact p
 .show 8<=(List.replicate k dC).length;simpa using h1
 .show(List.replicate k dC).length<=64;simpa using h2
 .show 0<(List.replicate k dC).length;simp;omega
 .show w1.heap.size≠w.heap.size;omega
 .intro e
  have:=h.lt e;have:w1.heap.size<w.heap.size:=this;omega
 .intro e
  have:=h.lt e;have:w.heap.size<w.heap.size:=this;omega
 .rw[sq hf];rfl
 .rw[sq hf]at l;cases l
 .simp[iO,dC]at h1
def k6(a cf bS b c d e f:ai):Nat:=
 a.toNat+2*cf.toNat+4*bS.toNat+8*b.toNat+16*c.toNat+32*d.toNat+64*e.toNat+128*f.toNat
def byteOf(f:Nat->ai)(i:Nat):Nat:=k6 (f (8*i)) (f (8*i+1)) (f (8*i+2)) (f (8*i+3)) (f (8*i+4)) (f (8*i+5)) (f (8*i+6)) (f (8*i+7))
theorem Gb:∀a cf bS b c d e f:ai,k6 a cf bS b c d e f<256:=by decide+kernel
theorem Gc:∀a cf bS b c d e f:ai,
 (k6 a cf bS b c d e f).testBit 0=a/\(k6 a cf bS b c d e f).testBit 1=cf/\(k6 a cf bS b c d e f).testBit 2=bS/\(k6 a cf bS b c d e f).testBit 3=b/\
 (k6 a cf bS b c d e f).testBit 4=c/\(k6 a cf bS b c d e f).testBit 5=d/\(k6 a cf bS b c d e f).testBit 6=e/\(k6 a cf bS b c d e f).testBit 7=f:=by decide+kernel
theorem j8(f:Nat->ai)(i:Nat):byteOf f i<256:=Gb _ _ _ _ _ _ _ _
theorem nh(f:Nat->ai)(i j:Nat)(a:j<8):(byteOf f i).testBit j=f (8*i+j):=by
 obtain⟨h0,h1,h2,b,c,d,e,g⟩:=Gc (f (8*i)) (f (8*i+1)) (f (8*i+2)) (f (8*i+3)) (f (8*i+4)) (f (8*i+5)) (f (8*i+6)) (f (8*i+7));have:j=0\/j=1\/j=2\/j=3\/j=4\/j=5\/j=6\/j=7:=by omega
 unfold byteOf;rcases this with rfl|rfl|rfl|rfl|rfl|rfl|rfl|rfl<;>assumption
theorem Gd{x y:Nat}(hx:x<256)(b:y<256)(h:∀j,j<8->x.testBit j=y.testBit j):x=y:=by
 apply Nat.eq_of_testBit_eq;intro j;by_cases a:j<8
 .exact h j a
 .have p:256<=2^j:=by
   have:=sn (n:=2) I (by omega:8<=j);simpa using this
  rw[Nat.testBit_lt_two_pow I,Nat.testBit_lt_two_pow I]
theorem vH(f:Nat->ai)(i x:Nat)(hx:x<256)(h:∀j,j<8->x.testBit j=f (8*i+j)):x=byteOf f i:=
 Gd hx (j8 f i) λj a=>by rw[h j a,nh f i j a]
def dj(f:Nat->ai)(k:Nat)(b:ai):Nat->ai:=λi=>if i=k then b else f i
theorem Ge:∀x:Nat,x<256->∀j:Nat,j<8->(jX .u8 (Int.fdiv (x:Int) (2^(min (Int.toNat (j:Int)) 8))) 1==1)=x.testBit j:=by decide+kernel
theorem Gf:∀x:Nat,x<256->∀j:Nat,j<8->mO .u8 (x:Int) (IntKind.wrap .u8 (1*2^(min (Int.toNat (j:Int)) 8)))=((x|||2^j:Nat):Int):=by decide+kernel
theorem Gg:∀x:Nat,x<256->∀j:Nat,j<8->zn .u8 (x:Int) (IntKind.wrap .u8 (1*2^(min (Int.toNat (j:Int)) 8)))=((x&&&(255-2^j):Nat):Int):=by decide+kernel
theorem x6:∀x:Nat,x<256->∀y:Nat,y<256->x|||y<256:=λ_ hx _ a=>Nat.or_lt_two_pow (n:=8) hx a
theorem Gh:∀j:Nat,j<8->∀k:Nat,k<8->(255-2^j).testBit k=(k !=j):=by decide+kernel
theorem Gi(x y:Nat)(hx:x<256)(a:y<256):mO .u8 (x:Int) (y:Int)=((x|||y:Nat):Int):=by
 have h:=x6 x hx y a;have e:(BitVec.ofInt 8 (x:Int)|||BitVec.ofInt 8 (y:Int)).toNat=x|||y:=by
  simp only[BitVec.ofInt_natCast,BitVec.toNat_or,BitVec.toNat_ofNat];rw[jC (by simpa using hx),jC (by simpa using a)]
 show IntKind.wrap .u8 (((BitVec.ofInt 8 (x:Int)|||BitVec.ofInt 8 (y:Int)).toNat:Nat):Int)=_;rw[e];have:((x|||y:Nat):Int)%256=((x|||y:Nat):Int):=Int.emod_eq_of_lt I I;simp[IntKind.wrap,IntKind.signed,IntKind.bits,this]
theorem BD(k:Nat):8*(k/8)+k%8=k:=Nat.div_add_mod k 8
theorem Gj(f:Nat->ai)(k:Nat):byteOf f (k/8)|||2^(k%8)=byteOf (dj f k true) (k/8):=by
 refine vH _ _ _ (x6 _ (j8 _ _) _ ?_) λj b=>?_
 .have:k%8<8:=g6 _ I
  have:=Nat.pow_lt_pow_right (a:=2) I this;simpa using this
 .rw[mD,nh _ _ _ b,qv,dj]
  by_cases h:8*(k/8)+j=k
  .rw[if_pos h]
   have:k%8=j:=by omega
   simp[this]
  .rw[if_neg h]
   have:¬k%8=j:=by omega
   simp[this]
theorem Gk(f:Nat->ai)(k:Nat):byteOf f (k/8)&&&(255-2^(k%8))=byteOf (dj f k false) (k/8):=by
 refine vH _ _ _ (Nat.lt_of_le_of_lt Nat.and_le_left (j8 _ _)) λj a=>?_;rw[Nat.testBit_and,nh _ _ _ a,Gh _ (g6 _ I) _ a,dj];by_cases h:8*(k/8)+j=k
 .rw[if_pos h]
  have:j=k%8:=by omega
  simp[this]
 .rw[if_neg h]
  have:¬j=k%8:=by omega
  simp[this]
theorem Gl(f:Nat->ai)(k i:Nat)(b:ai)(h:i≠k/8):byteOf (dj f k b) i=byteOf f i:=by
 have e:∀j,j<8->dj f k b (8*i+j)=f (8*i+j):=λj a=>by
  unfold dj;rw[if_neg];omega
 unfold byteOf;rw[e 1 I,e 2 I,e 3 I,e 4 I,e 5 I,e 6 I,e 7 I];have:=e 0 I;simp only[kN]at this;rw[this]
def e2(f:Nat->ai)(m:Nat):O aa:=(List.range m).map λi=>.int .u8 (byteOf f i)
theorem x7(f:Nat->ai)(m:Nat):(e2 f m).length=m:=by simp[e2]
theorem oF(f:Nat->ai){m i:Nat}(h:i<m):(e2 f m)[i]? =some (.int .u8 (byteOf f i)):=by simp[e2,h]
theorem BE(f:Nat->ai)(k m:Nat)(b:ai):(e2 f m).set (k/8) (.int .u8 (byteOf (dj f k b) (k/8)))=e2 (dj f k b) m:=by
 apply List.ext_getElem?;intro i;rw[List.getElem?_set];by_cases hi:i<m
 .rw[oF (dj f k b) hi]
  by_cases h:k/8=i
  .subst h
   simp[x7,hi]
  .rw[if_neg h,oF _ hi,Gl f k i b I]
 .have h1:(e2 (dj f k b) m)[i]? =none:=by simp[e2];omega
  have h2:(e2 f m)[i]? =none:=by simp[e2];omega
  rw[h1,h2];split
  .simp[x7];omega
  .rfl
theorem BF(k:Nat):Int.tdiv (k:Int) 8=((k/8:Nat):Int):=by
 rw[Int.tdiv_eq_ediv_of_nonneg I];omega
theorem rU(k:Nat):Int.tmod (k:Int) 8=((k%8:Nat):Int):=by
 rw[qG I];omega
theorem x8{k:Nat}(h:k<=9223372036854775807):IntKind.wrap .i64 (Int.tdiv (k:Int) 8)=((k/8:Nat):Int):=by
 rw[BF,bx I I]
theorem BG{s:Y}{b:Nat}(h:s.a=some ⟨b,0,none⟩):aB s b:=⟨_,h,rfl⟩
theorem oG{w:J}{s:Y}{f:Nat->ai}{m k:Nat}(h:ba 1 5 w s (e2 f m))(a:k/8<m)(d:k<=9223372036854775807):
 aQ aj 214 #[s,k] w (λv w'=>v=.bool (f k)/\w=w'):=by
 refine okF (af.uK s k) aA.uK func214 ?_;(delta af.uK aL au b5;dsimp only);obtain⟨b,c,e,g,i,hi,j,hc,_⟩:=h.cell (oF f a);refine⟨by decide,_,e,?_⟩;rw[x8 d,rU];refine⟨⟨I,I⟩,(byteOf f (k/8):Int),?_,by decide,I,?_,rfl⟩
 .rw[fF,dc,aw,cB];exact hc
 .rw[Ge _ (j8 _ _) _ (g6 _ I),nh _ _ _ (g6 _ I),BD]
theorem BH{w:J}{s:Y}{f:Nat->ai}{m k:Nat}(h:ba 1 5 w s (e2 f m))(e:k/8<m)(g:k<=9223372036854775807):
 aQ aj 130 #[s,k] w (λv w'=>v=.tuple #[]/\ba 1 5 w' s (e2 (dj f k true) m)/\ad (aB s) w w'):=by
 refine okF (af.uj s k) aA.uj func130 ?_;(delta af.uj al aL au b5 st;dsimp only);obtain⟨b,c,d,i,l,hi,n,hc,_⟩:=h.cell (oF f e);have a:(Addr.mk b 0 none).add (Int.toNat ((k/8:Nat):Int)*1)=⟨b,k/8,none⟩:=by rw[fF,dc,aw,cB]
 rw[x8 g,rU];refine⟨by decide,_,d,⟨I,I⟩,by simp,(byteOf f (k/8):Int),by rw[a];exact hc,by decide,I,_,d,⟨I,I⟩,⟨_,by rw[a];exact hc⟩,by rw[a];exact i.drew.frozen _ rfl,rfl,?_,?_⟩
 .rw[a,Gf _ (j8 _ _) _ (g6 _ I),Gj,←BE]
  have j:ba 1 5 w.drew s (e2 f m):=h.ab (W:=λ_=>False) (ad.drew (.refl _ _)) (λ_ _ h=>h);exact j.set d _
 .rw[a]
  exact ad.set (ad.drew (.refl _ _)) (λ_=>BG d) _
theorem Gm{w:J}{s:Y}{f:Nat->ai}{m k:Nat}(h:ba 1 5 w s (e2 f m))(e:k/8<m)(g:k<=9223372036854775807):
 aQ aj 219 #[s,k] w (λv w'=>v=.tuple #[]/\ba 1 5 w' s (e2 (dj f k false) m)/\ad (aB s) w w'):=by
 refine okF (af.uL s k) aA.uL func219 ?_;(delta af.uL al aL au b5 st;dsimp only);obtain⟨b,c,d,i,l,hi,n,hc,_⟩:=h.cell (oF f e);have a:(Addr.mk b 0 none).add (Int.toNat ((k/8:Nat):Int)*1)=⟨b,k/8,none⟩:=by rw[fF,dc,aw,cB]
 rw[x8 g,rU];refine⟨by decide,_,d,⟨I,I⟩,by simp,(byteOf f (k/8):Int),by rw[a];exact hc,by decide,I,_,d,⟨I,I⟩,⟨_,by rw[a];exact hc⟩,by rw[a];exact i.drew.frozen _ rfl,rfl,?_,?_⟩
 .rw[a,Gg _ (j8 _ _) _ (g6 _ I),Gk,←BE]
  have j:ba 1 5 w.drew s (e2 f m):=h.ab (W:=λ_=>False) (ad.drew (.refl _ _)) (λ_ _ h=>h);exact j.set d _
 .rw[a]
  exact ad.set (ad.drew (.refl _ _)) (λ_=>BG d) _
structure eZ(w:J)(b n:Nat)(f g:Nat->ai)(s1 s2:Y):Prop where
 bP:bu w b #[n,s1,s2] 218
 now:ba 1 5 w s1 (e2 f ((n+7)/8))
 sure:ba 1 5 w s2 (e2 g ((n+7)/8))
 d1:∀k,aB s1 k->k≠b/\¬aB s2 k
 d2:∀k,aB s2 k->k≠b
 bW:1<=n
 bw:n<=1600
 pf:∀i,n<=i->f i=false
 cJ:∀i,n<=i->g i=false
def fz(b:Nat)(s1 s2:Y)(k:Nat):Prop:=k=b\/aB s1 k\/aB s2 k
section
variable {w w':J}{b n:Nat}{f g:Nat->ai}{s1 s2:Y}
theorem eZ.ab{W:Nat->Prop}(h:eZ w b n f g s1 s2)(hc:ad W w w')(a:∀k,fz b s1 s2 k->¬W k):eZ w' b n f g s1 s2:=
 ⟨h.bP.ab hc (a b (.inl rfl)),h.now.ab hc λk c=>a k (.inr (.inl c)),h.sure.ab hc λk c=>a k (.inr (.inr c)),h.d1,h.d2,h.bW,h.bw,h.pf,h.cJ⟩
theorem eZ.ext(h:eZ w b n f g s1 s2)(hc:Ext w w'):eZ w' b n f g s1 s2:=h.ab hc λ_ _ h=>h
theorem eZ.lt(h:eZ w b n f g s1 s2):∀k,fz b s1 s2 k->k<w.heap.size:=by
 rintro k (rfl|a|a)
 .exact h.bP.lt
 .exact h.now.lt k a
 .exact h.sure.lt k a
theorem eZ.bT(h:eZ w b n f g s1 s2):w.cell? b=some (.int .i64 n):=by rw[h.bP.cell];rfl
theorem eZ.aC(h:eZ w b n f g s1 s2):w.cell? ((Addr.mk b 0 none).add 1)=some (.slice s1.a s1.len s1.cap):=by rw[aw,h.bP.cell];rfl
theorem eZ.aU(h:eZ w b n f g s1 s2):w.cell? ((Addr.mk b 0 none).add 2)=some (.slice s2.a s2.len s2.cap):=by rw[aw,h.bP.cell];rfl
theorem Gn(h:eZ w b n f g s1 s2){k:Nat}(a:k<n):
 aQ aj 217 #[.pointer (some b),k] w (λv w'=>v=.bool (f k||g k)/\w=w'):=by
 have c:=h.bw;refine af.EK _ k w _ ?_;(delta af.rB ag aM ak;dsimp only);refine⟨_,rfl,s1,h.aC,(oG h.now (k:=k) I I).use ?_⟩;rintro _ _ ⟨rfl,rfl⟩;refine⟨_,rfl,⟨λhf=>⟨by rw[hf];rfl,rfl⟩,λhf=>⟨_,rfl,s2,h.aU,(oG h.sure (k:=k) I I).use ?_⟩⟩⟩;rintro _ _ ⟨rfl,rfl⟩;exact⟨_,rfl,by rw[hf];rfl,rfl⟩
theorem x9(h:eZ w b n f g s1 s2)(k:Int):
 aQ aj 218 #[.pointer (some b),k] w (λv w'=>v=.bool (decide (0<=k)&&decide (k<n))/\w=w'):=by
 refine af.EL _ k w _ ?_;(delta af.rC ak r1;dsimp only);refine⟨?_⟩;refine⟨λh1=>⟨_,rfl,n,h.bT,?_,rfl⟩,λh1=>⟨?_,rfl⟩⟩
 .have:0<=k:=by simpa using h1
  simp[this]
 .have:¬0<=k:=by simpa using h1
  simp[this]
def firstFree(t:Nat->ai)(n:Nat):aq Nat:=(List.range n).find? λi=> !t i
theorem Gp{t:Nat->ai}{n k:Nat}(e:k<n)(ht:t k=false)(c:∀i,i<k->t i=true):firstFree t n=some k:=by
 unfold firstFree;rw[List.find?_eq_some_iff_append];refine⟨by simp[ht],List.range k,(List.range' (k+1) (n-(k+1))),?_,λa d=>?_⟩
 .have b:=List.range'_append (s:=0) (m:=k) (n:=n-(k+1)+1) (step:=1)
  rw[si,si,←List.range'_succ];rw[Nat.one_mul,cB]at b;rw[b]
  congr 1
  omega
 .simp[c a (jx.1 d)]
theorem Gq{t:Nat->ai}{n:Nat}(b:∀i,i<n->t i=true):firstFree t n=none:=by
 unfold firstFree;rw[jk];intro a c;simp[b a (jx.1 c)]
theorem BI{t:Nat->ai}{n k:Nat}(h:firstFree t n=some k):k<n/\t k=false/\∀i,i<k->t i=true:=by
 unfold firstFree at h;obtain⟨h1,a,lb,h2,d⟩:=List.find?_eq_some_iff_append.1 h;have e:k<n:=jx.1 (by rw[h2];simp);refine⟨e,by simpa using h1,λi hi=>?_⟩;have hlen:a.length=k:=by
  have b:(List.range n)[a.length]? =some k:=by rw[h2];simp
  rw[List.getElem?_range (by
   have:=congrArg List.length h2;simp at this;omega)]at b
  simpa using b
 have c:(List.range n)[i]? =some i:=List.getElem?_range I;rw[h2,List.getElem?_append_left I]at c;have:=d i (List.mem_of_getElem? c);simpa using this
theorem Gr{t:Nat->ai}{n:Nat}(h:firstFree t n=none):∀i,i<n->t i=true:=by
 unfold firstFree at h;rw[jk]at h;intro i hi;have:=h i (jx.2 hi);simpa using this
def Gs(o:aq Nat):aa:=
 match o with
 |some k=>.tuple #[.int .i64 (k:Int),(0:Int)]
 |none=>.tuple #[.int .i64 (-1),(2:Int)]
def Gt(o:aq Nat)(f:Nat->ai):Nat->ai:=
 match o with
 |some k=>dj f k true
 |none=>f
theorem BJ{f:Nat->ai}{n k:Nat}{x:ai}(h:∀i,n<=i->f i=false)(a:k<n):∀i,n<=i->dj f k x i=false:=λi hi=>by
 unfold dj
 rw[if_neg I]
 exact h i hi
theorem BK(h:eZ w b n f g s1 s2):
 aQ aj 160 #[.pointer (some b)] w (λv w'=>v=Gs (firstFree (λi=>f i||g i) n)/\eZ w' b n (Gt (firstFree (λi=>f i||g i) n) f) g s1 s2/\ad (fz b s1 s2) w w'):=by
 have r:=h.bw;refine af.EC _ w _ ?_;(delta af.ru ak r1 aM ag aU au;dsimp only);refine⟨λh1=>by simp at h1,λ_=>⟨_,rfl,n,h.bT,λi w'=>∃k:Nat,i=k/\k<=n/\w=w'/\∀j,j<k->(f j||g j)=true,λi _=>(n-i).toNat,⟨0,rfl,I,rfl,λj l=>I⟩,?_⟩⟩;rintro _ _ ⟨k,rfl,a,rfl,d⟩;refine⟨λaK=>(Gn h (k:=k) (by simpa using aK)).use ?_,λm=>?_⟩
 .have c:k<n:=by simpa using aK
  rintro _ _ ⟨rfl,rfl⟩;refine⟨_,rfl,λht=>⟨_,rfl,s1,h.aC,(BH h.now (k:=k) I I).use ?_⟩,λht=>?_⟩
  .rintro _ w' ⟨rfl,o,hc⟩
   have e:(f k||g k)=false:=by simpa using ht
   have p:=Gp (t:=λi=>f i||g i) c e d;rw[p];refine⟨rfl,rfl,⟨h.bP.ab hc λq=>(h.d1 b q).1 rfl,o,h.sure.ab hc λk a h1=>(h.d1 k h1).2 a,h.d1,h.d2,h.bW,h.bw,BJ h.pf c,h.cJ⟩,hc.mono λk _ a=>.inr (.inl a)⟩
  .have e:(f k||g k)=true:=by cases hx:(f k||g k)<;>simp[hx]at ht⊢
   rw[bx I I];refine⟨⟨k+1,I,I,rfl,λj l=>?_⟩,(show((n:Int)-((k:Int)+1)).toNat<((n:Int)-(k:Int)).toNat from I)⟩;rcases dJ j k with h1|h1
   .exact d j h1
   .have:j=k:=by omega
    subst this;exact e
 .have c:k=n:=by
   have:¬(k:Int)<n:=by simpa using m
   omega
  subst c;rw[Gq d];exact⟨rfl,h,.refl _ _⟩
def vI(f:Nat->ai)(n:Nat)(k:Int):Int:=if 0<=k/\k<n then (if f k.toNat then 0 else 6) else 1
def ni(f:Nat->ai)(n:Nat)(k:Int):Nat->ai:=if 0<=k/\k<n then dj f k.toNat false else f
theorem Gu{f:Nat->ai}{k:Nat}{x:ai}(h:f k=x):dj f k x=f:=by
 funext i;unfold dj;split
 .rename_i hi;rw[hi,h]
 .rfl
theorem BL(h:eZ w b n f g s1 s2)(k:Int):
 aQ aj 161 #[.pointer (some b),k] w (λv w'=>v=.int .i64 (vI f n k)/\eZ w' b n (ni f n k) g s1 s2/\ad (fz b s1 s2) w w'):=by
 have l:=h.bw;refine af.ED _ k w _ ?_;(delta af.rv aM ak ag aU;dsimp only);refine(x9 h k).use ?_;rintro _ _ ⟨rfl,rfl⟩;refine⟨_,rfl,λh1=>?_,λh1=>?_⟩
 .have:¬(0<=k/\k<n):=by
   rintro⟨h2,d⟩;simp[h2,d]at h1
  exact⟨by rw[vI,if_neg this],by rw[ni,if_neg this];exact h,.refl _ _⟩
 .have a:0<=k/\k<n:=by simpa using h1
  obtain⟨m,rfl⟩:=qH a.1;have e:m<n:=by omega
  refine⟨_,rfl,s1,h.aC,(oG h.now (k:=m) I I).use ?_⟩;rintro _ _ ⟨rfl,rfl⟩;refine⟨_,rfl,λh2=>?_,λh2=>⟨_,rfl,s1,h.aC,(Gm h.now (k:=m) I I).use ?_⟩⟩
  .have hf:f m=false:=by simpa using h2
   refine⟨by rw[vI,if_pos a,dc,hf];rfl,?_,.refl _ _⟩;rw[ni,if_pos a,dc,Gu hf];exact h
  .rintro _ w' ⟨rfl,i,hc⟩
   have hf:f m=true:=by simpa using h2
   refine⟨rfl,by rw[vI,if_pos a,dc,hf];rfl,?_,hc.mono λk _ c=>.inr (.inl c)⟩;rw[ni,if_pos a,dc];exact⟨h.bP.ab hc λj=>(h.d1 b j).1 rfl,i,h.sure.ab hc λk c h1=>(h.d1 k h1).2 c,h.d1,h.d2,h.bW,h.bw,BJ h.pf e,h.cJ⟩
theorem Gv(h:eZ w b n f g s1 s2)(k:Int):
 aQ aj 183 #[.pointer (some b),k] w (λv w'=>v=.bool (decide (0<=k)&&decide (k<n)&&f k.toNat)/\w=w'):=by
 have c:=h.bw;refine af.EG _ k w _ ?_;(delta af.rz aM ak ag;dsimp only);refine(x9 h k).use ?_;rintro _ _ ⟨rfl,rfl⟩;refine⟨_,rfl,⟨λh1=>?_,λh1=>⟨by rw[h1];rfl,rfl⟩⟩⟩;have a:0<=k/\k<n:=by simpa using h1
 obtain⟨m,rfl⟩:=qH a.1;refine⟨_,rfl,s1,h.aC,(oG h.now (k:=m) I I).use ?_⟩;rintro _ _ ⟨rfl,rfl⟩;exact⟨_,rfl,by rw[h1,dc];rfl,rfl⟩
theorem Gw(h:eZ w b n f g s1 s2)(k:Int):
 aQ aj 246 #[.pointer (some b),k] w (λv w'=>v=.bool (decide (0<=k)&&decide (k<n)&&f k.toNat&& !(g k.toNat))/\w=w'):=by
 have c:=h.bw;refine af.EP _ k w _ ?_;(delta af.rE aM ak ag;dsimp only);refine(x9 h k).use ?_;rintro _ _ ⟨rfl,rfl⟩;refine⟨_,rfl,⟨λh1=>?_,λh1=>⟨(λh=>by cases h),λ_=>⟨by rw[h1];rfl,rfl⟩⟩⟩⟩;have a:0<=k/\k<n:=by simpa using h1
 obtain⟨m,rfl⟩:=qH a.1;refine⟨_,rfl,s1,h.aC,(oG h.now (k:=m) I I).use ?_⟩;rintro _ _ ⟨rfl,rfl⟩;refine⟨_,rfl,λh2=>⟨_,rfl,s2,h.aU,(oG h.sure (k:=m) I I).use ?_⟩,λh2=>⟨by rw[h1,dc,h2];rfl,rfl⟩⟩;rintro _ _ ⟨rfl,rfl⟩;exact⟨_,rfl,by rw[h1,dc,h2];rfl,rfl⟩
end
theorem Gx:hM aj 215 5 1 1:=⟨by kernel_rfl⟩
theorem Gy:hM aj 48 5 1 1:=⟨by kernel_rfl⟩
theorem Gz:hM aj 58 3 1 8:=⟨by kernel_rfl⟩
theorem GA(n:Nat):g7 aj 5 n=(List.replicate n (.int .u8 0)).toArray:=Aa (by kernel_rfl) (by kernel_rfl) n
theorem x_(f:Nat->ai)(m:Nat):∀v∈e2 f m,Plain v:=by
 intro v a;obtain⟨i,_,rfl⟩:=eE.1 a;trivial
theorem BM{w:J}{s:Y}{xs:O aa}(h:Src 1 w s xs)(d:∀v∈xs,Plain v)(i:s.len<=1000000):
 aQ aj 194 #[s] w (λv w'=>∃b:Y,v=b/\ba 1 5 w' b xs/\Ext w w'/\∀k,aB b k->w.heap.size<=k):=by
 refine okF (af.tz s) aA.tz func194 ?_;delta af.tz al ak U;refine⟨λc=>?_,λ_=>?_⟩
 .have c:s.a=none:=by simpa using c
  rw[h.nil c];exact⟨⟨none,0,0⟩,rfl,ba.none _ _ _,.refl _ _,λk e=>(fZ k e).elim⟩
 .obtain⟨b,w',h1,h2,j,f,g,_⟩:=Gx.clone (cK:=215) h d I
  exact⟨b,w',h1,b,rfl,h2,f,g⟩
theorem BN{w:J}{s:Y}{xs:O aa}(h:Src 1 w s xs)(d:∀v∈xs,Plain v)(i:s.len<=1000000):
 aQ aj 135 #[s] w (λv w'=>∃b:Y,v=b/\ba 1 5 w' b xs/\Ext w w'/\∀k,aB b k->w.heap.size<=k):=by
 refine okF (af.nT s) aA.nT func135 ?_;delta af.nT al ak U;refine⟨λc=>?_,λ_=>?_⟩
 .have c:s.a=none:=by simpa using c
  rw[h.nil c];exact⟨⟨none,0,0⟩,rfl,ba.none _ _ _,.refl _ _,λk e=>(fZ k e).elim⟩
 .obtain⟨b,w',h1,h2,j,f,g,_⟩:=Gy.clone (cK:=48) h d I
  exact⟨b,w',h1,b,rfl,h2,f,g⟩
section
variable {w w':J}{b n:Nat}{f g:Nat->ai}{s1 s2:Y}
theorem rV{T:TypeId}{m:Nat}(h:ba 1 T w s1 (e2 f m)):s1.len=m:=by
 have:=h.1;rw[x7]at this;omega
theorem ya{m:Nat}{u:aa}(c:bu w b #[n,s1,u] 218)(h1:ba 1 5 w s1 (e2 f m))(hd:∀k,aB s1 k->k≠b)(g:m<=1000000):
 aQ aj 131 #[.pointer (some b)] w (λv w'=>v=.tuple #[]/\∃a:Y,bu w' b #[n,s1,a] 218/\
  ba 1 5 w' s1 (e2 f m)/\ba 1 5 w' a (e2 f m)/\ad (λk=>k=b) w w'/\∀k,aB a k->w.heap.size<=k):=by
 refine af.Ew _ w _ ?_;(delta af.rl al ak ag bc st;dsimp only);refine⟨λ_=>⟨_,rfl,s1,by rw[aw,c.cell];rfl,(BM h1.src (x_ f m) (by rw[rV h1];exact g)).use ?_⟩,λh=>by simp at h⟩;rintro _ ah ⟨a,rfl,h2,hx,hf⟩;have d:=c.ext hx;have i:∀k,aB a k->k≠b:=λk j e=>by have:=hf k j;have:=c.lt;omega
 refine⟨a,rfl,_,rfl,⟨_,by rw[aw,d.cell];rfl⟩,d.frozen _ rfl,rfl,a,?_,?_,?_,?_,hf⟩
 .rw[aw];exact d.set 2 _
 .exact(h1.ext hx).ab (W:=λk=>k=b) (ad.set (.refl _ _) (λ_=>by rw[aw]) _) hd
 .exact h2.ab (W:=λk=>k=b) (ad.set (.refl _ _) (λ_=>by rw[aw]) _) i
 .exact(ad.cF hx).set (λ_=>by rw[aw]) _
theorem GB(h:eZ w b n f g s1 s2):
 aQ aj 131 #[.pointer (some b)] w (λv w'=>v=.tuple #[]/\∃c:Y,eZ w' b n f f s1 c/\ad (fz b s1 s2) w w'/\∀k,fz b s1 c k->fz b s1 s2 k\/w.heap.size<=k):=by
 have m:=h.bw;refine(ya h.bP h.now (λk a=>(h.d1 k a).1) I).mono ?_;rintro _ w' ⟨rfl,c,h1,h2,i,j,d⟩;refine⟨rfl,c,⟨h1,h2,i,λk a=>⟨(h.d1 k a).1,λl=>?_⟩,λk a e=>?_,h.bW,h.bw,h.pf,h.pf⟩,j.mono λk _ a=>.inl a,λk a=>?_⟩
 .have:=d k l;have:=h.now.lt k a;omega
 .have:=d k a;have:=h.bP.lt;omega
 .rcases a with rfl|a|a
  .exact .inl (.inl rfl)
  .exact .inl (.inr (.inl a))
  .exact .inr (d k a)
theorem GC(h:eZ w b n f g s1 s2):
 aQ aj 144 #[.pointer (some b)] w (λv w'=>v=.tuple #[]/\∃c:Y,eZ w' b n g g c s2/\ad (fz b s1 s2) w w'/\∀k,fz b c s2 k->fz b s1 s2 k\/w.heap.size<=k):=by
 have l:=h.bw;refine af.Ex _ w _ ?_;(delta af.rm al ak ag bc st;dsimp only);refine⟨λ_=>⟨_,rfl,s2,h.aU,(BM h.sure.src (x_ g _) (by rw[rV h.sure];omega)).use ?_⟩,λh=>by simp at h⟩;rintro _ ah ⟨c,rfl,h2,hx,hf⟩;have d:=h.bP.ext hx;have i:∀k,aB c k->k≠b:=λk a e=>by have:=hf k a;have:=h.bP.lt;omega
 refine⟨c,rfl,_,rfl,⟨_,by rw[aw,d.cell];rfl⟩,d.frozen _ rfl,rfl,c,⟨?_,?_,?_,λk a=>⟨i k a,λj=>?_⟩,h.d2,h.bW,h.bw,h.cJ,h.cJ⟩,?_,λk a=>?_⟩
 .rw[aw];exact d.set 1 _
 .exact h2.ab (W:=λk=>k=b) (ad.set (.refl _ _) (λ_=>by rw[aw]) _) i
 .exact(h.sure.ext hx).ab (W:=λk=>k=b) (ad.set (.refl _ _) (λ_=>by rw[aw]) _) h.d2
 .have:=hf k a;have:=h.sure.lt k j;omega
 .exact(ad.cF hx).set (λ_=>by rw[aw];exact .inl rfl) _
 .rcases a with rfl|a|a
  .exact .inl (.inl rfl)
  .exact .inr (hf k a)
  .exact .inl (.inr (.inr a))
def qb(x:Nat):Nat:=(x.testBit 0).toNat+(x.testBit 1).toNat+(x.testBit 2).toNat+(x.testBit 3).toNat+(x.testBit 4).toNat+(x.testBit 5).toNat+(x.testBit 6).toNat+(x.testBit 7).toNat
def e0(t:Nat->ai):Nat->Nat
 |0=>0
 |k+1=>e0 t k+(t k).toNat
theorem mn(t:Nat->ai):∀k,e0 t k<=k
 |0=>bp _
 |k+1=>by have:=mn t k;have:=Bool.toNat_le (t k);simp only[e0];omega
theorem GD(t:Nat->ai)(i:Nat):e0 t (8*(i+1))=e0 t (8*i)+qb (byteOf t i):=by
 have h:∀j,j<8->(byteOf t i).testBit j=t (8*i+j):=λj a=>nh t i j a;unfold qb;rw[h 0 I,h 1 I,h 2 I,h 3 I,h 4 I,h 5 I,h 6 I,h 7 I];show e0 t (8*i+7+1)=_;simp only[e0,kN];omega
theorem BO(t:Nat->ai)(n:Nat)(h:∀i,n<=i->t i=false):∀k,e0 t (n+k)=e0 t n
 |0=>rfl
 |k+1=>by
  have:=BO t n h k
  show e0 t (n+k)+(t (n+k)).toNat=_
  rw[this,h (n+k) I]
  rfl
theorem GF:∀x:Nat,x<256->(wu (ByteArray.mk #[0,1,1,2,1,2,2,3,1,2,2,3,2,3,3,4,1,2,2,3,2,3,3,4,2,3,3,4,3,4,4,5,1,2,2,3,2,3,3,4,2,3,3,4,3,4,4,5,2,3,3,4,3,4,4,5,3,4,4,5,4,5,5,6,1,2,2,3,2,3,3,4,2,3,3,4,3,4,4,5,2,3,3,4,3,4,4,5,3,4,4,5,4,5,5,6,2,3,3,4,3,4,4,5,3,4,4,5,4,5,5,6,3,4,4,5,4,5,5,6,4,5,5,6,5,6,6,7,1,2,2,3,2,3,3,4,2,3,3,4,3,4,4,5,2,3,3,4,3,4,4,5,3,4,4,5,4,5,5,6,2,3,3,4,3,4,4,5,3,4,4,5,4,5,5,6,3,4,4,5,4,5,5,6,4,5,5,6,5,6,6,7,2,3,3,4,3,4,4,5,3,4,4,5,4,5,5,6,3,4,4,5,4,5,5,6,4,5,5,6,5,6,6,7,3,4,4,5,4,5,5,6,4,5,5,6,5,6,6,7,4,5,5,6,5,6,6,7,5,6,6,7,6,7,7,8]) x).map (·.toNat)=some (qb x):=by decide+kernel
theorem BP(x:Nat):qb x<=8:=by
 unfold qb;have h:∀b:ai,b.toNat<=1:=Bool.toNat_le;have:=h (x.testBit 0);have:=h (x.testBit 1);have:=h (x.testBit 2);have:=h (x.testBit 3);have:=h (x.testBit 4);have:=h (x.testBit 5);have:=h (x.testBit 6);have:=h (x.testBit 7);omega
theorem GG(w:J)(x:Nat)(hx:x<256):aQ aj 202 #[.int .u8 x] w (λv w'=>v=.int .i64 (qb x)/\w=w'):=by
 refine okF (af.tA x) aA.tA func202 ?_;delta af.tA au;have h:=GF x hx;refine⟨I,?_⟩
 cases a:wu _ x with
 |none=>rw[a]at h;cases h
 |some y=>
  rw[a]at h;simp only[lh,Option.some.injEq]at h;refine⟨y,a,?_,rfl⟩;rw[h,bx I (by have:=BP x;omega)]
theorem GH(f g:Nat->ai)(i:Nat):byteOf f i|||byteOf g i=byteOf (λk=>f k||g k) i:=
 vH _ _ _ (x6 _ (j8 _ _) _ (j8 _ _)) λj a=>by rw[mD,nh _ _ _ a,nh _ _ _ a]
theorem yb(h:eZ w b n f g s1 s2):
 aQ aj 148 #[.pointer (some b)] w (λv w'=>v=.int .i64 ((n:Int)-e0 (λi=>f i||g i) n)/\Ext w w'):=by
 have p:=h.bw;have q:=rV h.now;have s:=rV h.sure;refine af.Ey _ w _ ?_;(delta af.rn al ak r1 ag aL b5 aC au;dsimp only);refine⟨λh1=>by simp at h1,λ_=>⟨_,rfl,n,h.bT,_,rfl,s1,h.aC,λr i w'=>∃k:Nat,i=k/\k<=s1.len/\Ext w w'/\r=(n:Int)-e0 (λi=>f i||g i) (8*k),λ_ i _=>((s1.len:Int)-i).toNat,⟨0,rfl,I,.refl _ _,by simp[e0]⟩,?_⟩⟩;rintro _ _ w1 ⟨k,rfl,t,hx,rfl⟩;refine⟨λaK=>?_,λc=>?_⟩
 .have d:k<s1.len:=by simpa using aK
  have h1:=h.ext hx.drew;obtain⟨cf,aC,j,u,_,_,_,l,_⟩:=h1.now.cell (oF f (i:=k) I);obtain⟨bS,aU,m,x,_,_,_,o,_⟩:=h1.sure.cell (oF g (i:=k) I);have a:∀b:Nat,(Addr.mk b 0 none).add (Int.toNat (k:Int)*1)=⟨b,k,none⟩:=λb=>by rw[fF,dc,aw,cB]
  refine⟨λ_=>False,_,rfl,by simp,s1,h1.aC,_,j,I,by simp,_,by rw[a];exact l,_,rfl,by simp,s2,h1.aU,_,m,I,by simp,_,by rw[a];exact o,?_⟩;rw[Gi _ _ (j8 _ _) (j8 _ _),GH];refine(GG _ _ (j8 _ _)).use ?_;rintro _ _ ⟨rfl,rfl⟩;have:=BP (byteOf (λi=>f i||g i) k);have:=mn (λi=>f i||g i) (8*k);refine⟨_,rfl,.refl _ _,?_⟩;rw[bx (n:=(n:Int)-_-_) I I,bx (n:=(k:Int)+1) I I];exact⟨⟨k+1,I,I,hx.drew,by rw[GD];omega⟩,(show((s1.len:Int)-((k:Int)+1)).toNat<((s1.len:Int)-(k:Int)).toNat from I)⟩
 .have d:k=s1.len:=by
   have:¬(k:Int)<s1.len:=by simpa using c
   omega
  refine⟨?_,hx⟩;have e:8*k=n+(8*k-n):=by omega
  rw[e,BO _ _ (λi hi=>by simp[h.pf i hi,h.cJ i hi])]
def jJ(f:Nat->ai):Nat->O Int
 |0=> []
 |k+1=>jJ f k++(if f k then [(k:Int)] else [])
def mo(f:Nat->ai)(k:Nat):O aa:=(jJ f k).map (.int .i64)
theorem BQ(f:Nat->ai):∀k,(jJ f k).length<=k
 |0=>bp _
 |k+1=>by have:=BQ f k;simp only[jJ,cz];split<;>simp<;>omega
theorem GI(h:eZ w b n f g s1 s2):
 aQ aj 155 #[.pointer (some b)] w (λv w'=>∃s:Y,v=s/\ba 1 3 w' s (mo f n)/\Ext w w'/\∀k,aB s k->w.heap.size<=k):=by
 have A:=h.bw;refine af.EB _ w _ ?_;(delta af.rq al ak r1 ag aM tp U au;dsimp only);refine⟨λh1=>by simp at h1,λ_=>⟨_,rfl,n,h.bT,λs i w'=>∃k:Nat,i=k/\k<=n/\Ext w w'/\ba 1 3 w' s (mo f k)/\∀k,aB s k->w.heap.size<=k,λ_ i _=>((n:Int)-i).toNat,
  ⟨0,rfl,I,.refl _ _,ba.none _ _ _,λk l=>(fZ k l).elim⟩,?_⟩⟩
 rintro s _ w1 ⟨k,rfl,l,hx,c,d⟩;refine⟨λaK=>?_,λp=>?_⟩
 .have m:k<n:=by simpa using aK
  have h1:=h.ext hx;refine cd (λa w'=>Ext w w'/\ba 1 3 w' a (mo f (k+1))/\∀k,aB a k->w.heap.size<=k) (λq o=>⟨_,rfl,s1,h1.aC,(oG h1.now (k:=k) I I).use ?_⟩) ?_
  .rintro _ _ ⟨rfl,rfl⟩
   refine⟨_,rfl,λhf=>?_,λhf=>?_⟩
   .have hlen:s.len<=k:=by
     have:=c.1;have:=BQ f k;simp[mo]at*;omega
    obtain⟨a,w',h1,h2,B,r,t⟩:=Gz.push (cK:=58) (xs:=[k]) rfl c (by simp[Plain]) I;refine⟨a,w',h1,o _ _ ⟨?_,?_,?_⟩⟩
    .exact((ad.cF hx).trans r).mono λk l u=>by have:=d k u;omega
    .simpa[mo,jJ,hf] using h2
    .intro j e
     rcases t j e with e|e
     .exact d j e
     .have:=hx.size;omega
   .exact o _ _ ⟨hx,by simpa[mo,jJ,hf] using c,d⟩
  .rintro a w' ⟨x,y,z⟩
   rw[bx I I];exact⟨⟨k+1,I,I,x,y,z⟩,(show((n:Int)-((k:Int)+1)).toNat<((n:Int)-(k:Int)).toNat from I)⟩
 .have m:k=n:=by
   have:¬(k:Int)<n:=by simpa using p
   omega
  subst m;exact⟨s,rfl,c,hx,d⟩
theorem BR(h:eZ w b n f g s1 s2):
 aQ aj 74 #[.pointer (some b)] w (λv w'=>∃s:Y,v=s/\ba 1 5 w' s (e2 f ((n+7)/8))/\Ext w w'/\∀k,aB s k->w.heap.size<=k):=by
 have a:=h.bw;refine af.Et _ w _ ?_;(delta af.rk ak ag bc;dsimp only);refine⟨λh1=>by simp at h1,λ_=>⟨_,rfl,s1,h.aC,(BN h.now.src (x_ f _) (by rw[rV h.now];omega)).use ?_⟩⟩;rintro _ ah ⟨s,rfl,h2,hx,hf⟩;exact⟨s,rfl,s,rfl,h2,hx,hf⟩
end
theorem BS(w:J)(n:Int):aQ aj 128 #[n] w (λv w'=>v=.bool (decide (1<=n/\n<=1600))/\w=w'):=by
 refine okF (af.uh n) aA.uh func128 ?_;unfold af.uh;refine⟨?_,rfl⟩;simp[Bool.decide_and]
theorem BT(w:J)(n:Nat)(a:n<=1600):aQ aj 129 #[n] w (λv w'=>v=.int .i64 (((n+7)/8:Nat):Int)/\w=w'):=by
 refine okF (af.ui n) aA.ui func129 ?_;delta af.ui au;refine⟨by decide,?_,rfl⟩;rw[bx (n:=(n:Int)+8) I I,bx (n:=(n:Int)+8-1) I I,show(n:Int)+8-1=((n+7:Nat):Int) from I,BF,bx I I]
theorem GJ(m:Nat):e2 (λi=>decide (i<0)) m=List.replicate m (.int .u8 0):=by
 apply List.ext_getElem
 .simp[e2]
 .intro i h1 h2
  simp[e2,byteOf,k6]
theorem GK(j:Nat):dj (λi=>decide (i<j)) j true=λi=>decide (i<j+1):=by
 funext i;unfold dj;split
 .rename_i h;simp[h]
 .rename_i h;simp;omega
theorem py(w:J)(n first:Int):
 aQ aj 71 #[.int .i64 n,.int .i64 first] w (λv w'=>(¬(1<=n/\n<=1600/\0<=first/\first<=n)/\v=.tuple #[.pointer none,.int .i64 1]/\w=w')\/
  (1<=n/\n<=1600/\0<=first/\first<=n/\∃b s1 s2,v=.tuple #[.pointer (some ⟨b,0,none⟩),.int .i64 0]/\eZ w' b n.toNat (λi=>decide (i<first.toNat)) (λi=>decide (i<first.toNat)) s1 s2/\Ext w w'/\∀k,fz b s1 s2 k->w.heap.size<=k)):=by
 refine okF (af.py n first) aA.py func71 ?_;(delta af.py al aM ak aC ku U ag aU au;dsimp only);refine(BS w n).use ?_;rintro _ _ ⟨rfl,rfl⟩;refine⟨_,rfl,λh=>.inl ⟨λhc=>?_,rfl,rfl⟩,λh=>?_⟩
 .simp at h;omega
 simp at h;obtain⟨⟨⟨D,E⟩,F⟩,G⟩:=h;obtain⟨n,rfl⟩:=qH (by omega:0<=n);obtain⟨first,rfl⟩:=qH (by omega:0<=first);refine(BT w n I).use ?_;rintro _ _ ⟨rfl,rfl⟩;refine⟨_,rfl,I,?_⟩;simp only[dc];rw[GA];obtain⟨m,f⟩:∃m,m=(n+7)/8:=⟨_,rfl⟩;rw[←f];have l:=ba.new (sz:=1) (T:=5) w (List.replicate m (.int .u8 0)) m (by simp) (by show m<=2^63-1;omega);rw[←GJ]at l⊢;have ar:Ext w (w.alloc (.cells (e2 (λi=>decide (i<0)) m).toArray 5)):=ad.alloc (.refl _ _) _;generalize s:w.alloc (.cells (e2 (λi=>decide (i<0)) m).toArray 5)=w1 at*;have H:w1.heap.size=w.heap.size+1:=by rw[←s];simp
 have t:=bu.new w1 #[.int .i64 (n:Int),.slice (some ⟨w.heap.size,0,none⟩) m m,.slice none 0 0] 218;have hB:=ad.alloc ar (.cells #[.int .i64 (n:Int),.slice (some ⟨w.heap.size,0,none⟩) m m,.slice none 0 0] 218);have u:=l.ext (ad.alloc (.refl _ w1) (.cells #[.int .i64 (n:Int),.slice (some ⟨w.heap.size,0,none⟩) m m,.slice none 0 0] 218));refine⟨λi w'=>∃j:Nat,i=j/\j<=first/\Ext w w'/\bu w' w1.heap.size #[.int .i64 (n:Int),.slice (some ⟨w.heap.size,0,none⟩) m m,.slice none 0 0] 218/\
  ba 1 5 w' ⟨some ⟨w.heap.size,0,none⟩,m,m⟩ (e2 (λi=>decide (i<j)) m),λi _=>((first:Int)-i).toNat,⟨0,rfl,I,hB,t,u⟩,?_⟩
 rintro _ ah ⟨j,rfl,K,hx,d,o⟩;refine⟨λaK=>?_,λx=>?_⟩
 .have p:j<first:=by simpa using aK
  refine⟨_,rfl,⟨some ⟨w.heap.size,0,none⟩,m,m⟩,by rw[aw,d.cell];rfl,(BH o (k:=j) I I).use ?_⟩;rintro _ y ⟨rfl,q,hc⟩;rw[GK]at q;rw[bx I I];refine⟨rfl,⟨j+1,I,I,?_,d.ab hc ?_,q⟩,(show((first:Int)-((j:Int)+1)).toNat<((first:Int)-(j:Int)).toNat from I)⟩
  .exact((ad.cF hx).trans hc).mono λk a c=>by rw[kt]at c;simp at c;omega
  .intro c
   rw[kt]at c;simp at c;omega
 .have p:j=first:=by
   have:¬(j:Int)<first:=by simpa using x
   omega
  subst p;have r:∀i,n<=i->decide (i<j)=false:=λi hi=>by simp;omega
  refine(ya d o (λk a e=>?_) I).use ?_
  .rw[kt]at a
   simp at a;omega
  rintro _ y ⟨rfl,z,h1,h2,A,B,g⟩;have L:=d.lt;refine⟨rfl,.inr ⟨I,I,I,I,w1.heap.size,⟨some ⟨w.heap.size,0,none⟩,m,m⟩,z,rfl,⟨h1,?_,?_,λk a=>⟨λe=>?_,λC=>?_⟩,λk a e=>?_,I,I,r,r⟩,?_,?_⟩⟩
  .simp only[←f];exact h2
  .simp only[←f];exact A
  .rw[kt]at a
   simp at a;omega
  .rw[kt]at a
   simp at a;have:=g k C;omega
  .have:=g k a
   omega
  .exact((ad.cF hx).trans B).mono λk a e=>by omega
  .rintro k (rfl|a|a)
   .omega
   .rw[kt]at a
    simp at a;omega
   .have:=g k a
    have:=hx.size;omega
structure aN where
 aY:Nat
 gen:Nat
 root:Nat
 aH:Nat
 C:b4
 sb:Nat
 n:Nat
 f:Nat->ai
 g:Nat->ai
 s1:Y
 s2:Y
 E:Nat->Prop
 G:Nat->Prop
 P:Nat->aq aD
def aN.ck(T:aN)(E G:Nat->Prop):aN:={T with E:=E,G:=G}
def aN.bk(T:aN)(C:b4)(P:Nat->aq aD):aN:={T with C:=C,P:=P}
def aN.X(T:aN)(q:Nat):Prop:=q=T.aY\/fz T.sb T.s1 T.s2 q\/T.E q\/T.G q
def aN.M(T:aN)(q:Nat):Prop:=c3 T.C q\/T.X q
def aN.N(T:aN)(q:Nat):Prop:=c3 T.C q\/q=T.aY\/fz T.sb T.s1 T.s2 q\/T.G q
theorem aN.gh{T:aN}{q:Nat}(h:T.N q):T.M q:=h.imp id (Or.imp id (Or.imp id .inr))
def gM(gen:Nat)(leaf:ai)(no:Nat)(l:cW)(n:aD):Prop:=
 ∃p:iq,dS (no:Int) l=.ok p/\p.gen<=gen/\p.kind=(if leaf then 1 else 2)/\lF leaf p.body n/\2<=no
def k7(T:aN):O aa:=[.pointer (some T.C.c),.pointer (some T.sb),.int .u64 (T.gen:Nat),T.root,T.aH]
structure bL(w:J)(T:aN):Prop where
 t:Var w T.aY (k7 T) 239
 s:eZ w T.sb T.n T.f T.g T.s1 T.s2
 ca:er T.X w T.C
 js:¬fz T.sb T.s1 T.s2 T.aY
 c6:∀q,T.E q->q≠T.aY/\¬fz T.sb T.s1 T.s2 q/\¬T.G q
 hD:∀q,T.G q->q≠T.aY/\¬fz T.sb T.s1 T.s2 q
 n:T.C.D.n=T.n
 num:T.root<T.n/\T.aH<=12/\T.gen<18446744073709551616
 eA:∀no bn,T.P no=some bn->no<T.n/\gM T.gen bn.leaf no (T.C.view no) bn
 bI:∀j,T.C.D.bI j=true->T.g j=true\/T.C.D.ro
 low:T.g 0=true/\T.g 1=true
structure bN(T ao:aN)(w w':J)(k:Nat):Prop where
 aY:ao.aY=T.aY
 sb:ao.sb=T.sb
 n:ao.n=T.n
 g:ao.g=T.g
 s1:ao.s1=T.s1
 s2:ao.s2=T.s2
 c:ao.C.c=T.C.c
 d:ao.C.D.d=T.C.D.d
 bh:ao.C.D.key=T.C.D.key
 gen:ao.gen=T.gen
 aR:ao.C.D.aR<=T.C.D.aR+k
 calm:∀m,T.C.D.calm (m+k)->ao.C.D.calm m
 ab:ad T.N w w'
 c5:∀q,ao.M q->T.M q\/w.heap.size<=q
 fn:∀q,ao.N q->T.N q\/w.heap.size<=q
theorem bN.bI{T ao:aN}{w w':J}{k:Nat}(h:bN T ao w w' k):ao.C.D.bI=T.C.D.bI/\ao.C.D.ep=T.C.D.ep:=by
 have:=congrArg Prod.fst h.bh;exact⟨congrArg (λp=>p.2.1) this,congrArg (λp=>p.2.2.1) this⟩
theorem bN.refl(T:aN)(w:J):bN T T w w 0:=⟨rfl,rfl,rfl,rfl,rfl,rfl,rfl,rfl,rfl,rfl,bp _,λ_ h=>h,.refl _ _,λ_ h=>.inl h,λ_ h=>.inl h⟩
theorem bN.ext{w w':J}(T:aN)(h:Ext w w'):bN T T w w' 0:=⟨rfl,rfl,rfl,rfl,rfl,rfl,rfl,rfl,rfl,rfl,bp _,λ_ h=>h,ad.cF h,λ_ h=>.inl h,λ_ h=>.inl h⟩
theorem bN.trans{T ao b:aN}{w w' e:J}{k l:Nat}(h1:bN T ao w w' k)(h2:bN ao b w' e l):bN T b w e (k+l):=by
 have hs:=h1.ab.size;refine⟨h2.aY.trans h1.aY,h2.sb.trans h1.sb,h2.n.trans h1.n,h2.g.trans h1.g,h2.s1.trans h1.s1,h2.s2.trans h1.s2,h2.c.trans h1.c,h2.d.trans h1.d,h2.bh.trans h1.bh,h2.gen.trans h1.gen,by have:=h1.aR;have:=h2.aR;omega,
  λm f=>h2.calm m (h1.calm (m+l) (by rw[show m+l+k=m+(k+l) from I];exact f)),cy h1.ab h2.ab λq a h=>(h1.fn q h).resolve_right I,λq a=>?_,λq a=>?_⟩
 .rcases h2.c5 q a with h|h
  .exact h1.c5 q h
  .exact .inr I
 .rcases h2.fn q a with h|h
  .exact h1.fn q h
  .exact .inr I
theorem bN.mono{T ao:aN}{w w':J}{k l:Nat}(h:bN T ao w w' k)(b:k<=l):bN T ao w w' l:=
 ⟨h.aY,h.sb,h.n,h.g,h.s1,h.s2,h.c,h.d,h.bh,h.gen,by have:=h.aR;omega,λm a=>h.calm m (fH a I),h.ab,h.c5,h.fn⟩
theorem bN.bn{T ao:aN}{w w':J}{k lo:Nat}(h:bN T ao w w' k){n:aD}{K V D:Y}(d:bC (λq=>lo<=q/\¬T.M q) w n K V D):bC (λq=>lo<=q/\¬ao.M q) w' n K V D:=by
 have h1:bC (λq=>q<w.heap.size/\lo<=q/\¬T.M q) w n K V D:=d.aX λq b a=>⟨b,a⟩;refine(bC.ab h1 h.ab λq b c=>b.2.2 (aN.gh c)).aX λq _ a=>⟨a.2.1,λc=>?_⟩;rcases h.c5 q c with h2|h2
 .exact a.2.2 h2
 .have:=a.1;omega
section
variable {w w':J}{T ao:aN}
theorem bN.step{W E G:Nat->Prop}{w1:J}{k:Nat}(h:bN T ao w w1 k)(hc:ad W w1 w')(cg:∀q,W q->q<w.heap.size->T.N q)(e:∀q,E q->ao.E q\/ao.G q\/w.heap.size<=q)(b:∀q,G q->ao.G q\/w.heap.size<=q):bN T (ao.ck E G) w w' k:=by
 refine⟨h.aY,h.sb,h.n,h.g,h.s1,h.s2,h.c,h.d,h.bh,h.gen,h.aR,h.calm,cy h.ab hc λq a f=>cg q f a,λq a=>?_,λq a=>?_⟩
 .rcases a with a|a|a|a|a
  .exact h.c5 q (.inl a)
  .exact h.c5 q (.inr (.inl a))
  .exact h.c5 q (.inr (.inr (.inl a)))
  .rcases e q a with h1|h1|h1
   .exact h.c5 q (.inr (.inr (.inr (.inl h1))))
   .exact h.c5 q (.inr (.inr (.inr (.inr h1))))
   .exact .inr h1
  .rcases b q a with h1|h1
   .exact h.c5 q (.inr (.inr (.inr (.inr h1))))
   .exact .inr h1
 .rcases a with a|a|a|a
  .exact h.fn q (.inl a)
  .exact h.fn q (.inr (.inl a))
  .exact h.fn q (.inr (.inr (.inl a)))
  .rcases b q a with h1|h1
   .exact h.fn q (.inr (.inr (.inr h1)))
   .exact .inr h1
theorem bN.local{bd j9 a yc:Nat->Prop}{w1:J}{k:Nat}(h:bN (T.ck bd a) ao w1 w' k)(hx:Ext w w1)(b:∀q,bd q->T.E q\/w.heap.size<=q)(c:∀q,a q->T.G q\/w.heap.size<=q)
 (d:∀q,j9 q->ao.E q\/ao.G q) (e:∀q,yc q->ao.G q):bN T (ao.ck j9 yc) w w' k:=by
 have h0:bN T (T.ck bd a) w w1 0:=(bN.ext T (w:=w) (w':=w) (ad.refl _ _)).step (W:=λ_=>False) hx (λ_ h=>h.elim) (λq h=>(b q h).imp id .inr) c;have h1:=h0.trans h;rw[cB]at h1;exact h1.step (W:=λ_=>False) (ad.refl _ _) (λ_ h=>h.elim) (λq h=>(d q h).imp id .inl) λq h=>.inl (e q h)
theorem bL.lt(h:bL w T){q:Nat}(a:T.M q):q<w.heap.size:=by
 rcases a with a|a
 .exact h.ca.raw.lt a
 .exact(h.ca.inv.e7 q a).1
theorem bL.iN(h:bL w T){q:Nat}(b:T.E q):¬T.N q:=by
 rintro(a|a|a|a)
 .exact(h.ca.inv.e7 q (.inr (.inr (.inl b)))).2 a
 .exact(h.c6 q b).1 a
 .exact(h.c6 q b).2.1 a
 .exact(h.c6 q b).2.2 a
theorem bL.ext(h:bL w T)(hx:Ext w w'):bL w' T:=⟨h.t.ext hx,h.s.ext hx,h.ca.ext hx,h.js,h.c6,h.hD,h.n,h.num,h.eA,h.bI,h.low⟩
theorem er.grow{X d W:Nat->Prop}{C:b4}(h:er X w C)(hc:ad W w w')(cg:∀q,W q->q<w.heap.size->X q)(e:∀q,d q->X q\/(w.heap.size<=q/\q<w'.heap.size)):er d w' C:=by
 have g:ad X w w':=cy (W:=X) (ad.refl _ _) hc λq a i=>cg q i a;refine⟨h.raw.ab g λq a hx=>(h.inv.e7 q hx).2 a,h.inv.pins,λf hf j=>?_,h.inv.un,λq a=>?_,h.inv.kE⟩
 .obtain⟨no,av,ax,k,m,n,o,p⟩:=h.inv.ok f hf j
  have r:a6 (λq=>q<w.heap.size/\¬c3 C q/\¬X q) w f.b f.l:=a6.aX k λq a c=>⟨a,c⟩;refine⟨no,av,ax,a6.aX (a6.ab r g λq a hx=>a.2.2 hx) λq _ c=>⟨c.2.1,λs=>?_⟩,m,n,o,p⟩;rcases e q s with h1|h1
  .exact c.2.2 h1
  .have:=c.1;omega
 .rcases e q a with h1|h1
  .exact⟨fP (h.inv.e7 q h1).1 hc.size,(h.inv.e7 q h1).2⟩
  .exact⟨h1.2,λhf=>by have:=h.raw.lt hf;omega⟩
theorem bL.grow{E G W:Nat->Prop}(h:bL w T)(hc:ad W w w')(cg:∀q,W q->q<w.heap.size->T.E q\/T.G q)(c:∀q,E q->T.E q\/T.G q\/(w.heap.size<=q/\q<w'.heap.size))(f:∀q,G q->T.E q\/T.G q\/(w.heap.size<=q/\q<w'.heap.size))(j:∀q,E q->¬G q):bL w' (T.ck E G):=by
 have b:∀q,T.E q\/T.G q->q≠T.aY/\¬fz T.sb T.s1 T.s2 q:=λq a=>by
  rcases a with a|a
  .exact⟨(h.c6 q a).1,(h.c6 q a).2.1⟩
  .exact h.hD q a
 have g:ad (λq=>T.E q\/T.G q) w w':=cy (W:=λq=>T.E q\/T.G q) (ad.refl _ _) hc λq a k=>cg q k a;have d:∀q,T.E q\/T.G q\/(w.heap.size<=q/\q<w'.heap.size)->q≠T.aY/\¬fz T.sb T.s1 T.s2 q:=λq a=>by
  rcases a with a|a|a
  .exact b q (.inl a)
  .exact b q (.inr a)
  .exact⟨λe=>by have h2:=h.lt (q:=q) (.inr (.inl e));omega,λe=>by have h2:=h.lt (q:=q) (.inr (.inr (.inl e)));omega⟩
 have i:∀q,T.E q\/T.G q\/(w.heap.size<=q/\q<w'.heap.size)->T.X q\/(w.heap.size<=q/\q<w'.heap.size):=λq a=>by
  rcases a with a|a|a
  .exact .inl (.inr (.inr (.inl a)))
  .exact .inl (.inr (.inr (.inr a)))
  .exact .inr a
 refine⟨h.t.ab g λe=>(b _ e).1 rfl,h.s.ab g λq a e=>(b q e).2 a,h.ca.grow hc (λq a l=>.inr (.inr (cg q a l))) λq a=>?_,h.js,λq a=>⟨(d q (c q a)).1,(d q (c q a)).2,j q a⟩,λq a=>d q (f q a),h.n,h.num,h.eA,h.bI,h.low⟩;rcases a with a|a|a|a
 .exact .inl (.inl a)
 .exact .inl (.inr (.inl a))
 .exact i q (c q a)
 .exact i q (f q a)
theorem bL.cells(h:bL w T):w.cell? T.aY=some (.pointer (some T.C.c))/\w.cell? (Addr.add T.aY 1)=some (.pointer (some T.sb))/\w.cell? (Addr.add T.aY 2)=some (.int .u64 (T.gen:Nat))/\
 w.cell? (Addr.add T.aY 3)=some (.int .i64 (T.root:Nat))/\w.cell? (Addr.add T.aY 4)=some (.int .i64 (T.aH:Nat)):=by
 rw[aw,aw,aw,aw];exact⟨h.t.cell,h.t.cell,h.t.cell,h.t.cell,h.t.cell⟩
theorem bL.GL(h:bL w T){no:Nat}(a:no<T.n):(T.C.view no).length=256:=by
 unfold b4.view
 cases hf:T.C.an.find? λf=>f.full&&f.no==(no:Int) with
 |some f=>
  have h1:=jB hf;have h2:=kj hf;obtain⟨m,b⟩:=h.ca.inv.ok f h1 (by
   have:(f.full&&f.no==(no:Int))=true:=h2;exact(Bool.and_eq_true_iff.1 this).1)
  exact b.len
 |none=>exact h.ca.raw.dev.oC (by rw[h.n];exact a)
theorem bL.qc{aE:b4}{k:Nat}{P:Nat->aq aD}(h:bL w T)(e:er T.X w' aE)(a:eC T.C aE w w' k)(f:∀no bn,P no=some bn->no<T.n/\gM T.gen bn.leaf no (aE.view no) bn):
 bL w' (T.bk aE P)/\bN T (T.bk aE P) w w' k:=by
 have hx:=h.ca.inv.e7;have hc:=a.ab;refine⟨⟨?_,h.s.ab hc λq b hf=>(hx q (.inr (.inl b))).2 hf,e,h.js,h.c6,h.hD,?_,h.num,f,λj l=>by unfold aZ.ro;show T.g j=true\/∀i,aE.D.bI i=true;rw[a.bI];exact h.bI j (by rw[←a.bI];exact l),h.low⟩,⟨rfl,rfl,rfl,rfl,rfl,rfl,a.c,a.d,a.bh,rfl,a.aR,a.calm,hc.mono λq _ b=>.inl b,?_,?_⟩⟩
 .have:=h.t.ab hc λhf=>(hx T.aY (.inl rfl)).2 hf
  unfold k7 at this⊢;rw[←a.c]at this;exact this
 .show aE.D.n=T.n
  rw[a.n,h.n]
 .rintro q (b|b)
  .rcases a.c5 q b with h1|h1
   .exact .inl (.inl h1)
   .exact .inr h1
  .exact .inl (.inr b)
 .rintro q (b|b)
  .rcases a.c5 q b with h1|h1
   .exact .inl (.inl h1)
   .exact .inr h1
  .exact .inl (.inr b)
end
def GM(T:aN)(leaf:ai)(no:Nat)(e:Int):Prop:=
 (e=3/\¬T.C.D.calm 2)\/dS (no:Int) (T.C.view no)=.error e\/(e=4/\(∃p,dS (no:Int) (T.C.view no)=.ok p)/\∀n,¬gM T.gen leaf no (T.C.view no) n)
def oH(T:aN)(leaf:ai)(no:Nat)(w:J)(v:aa)(w':J):Prop:=
 ∃aE:b4,bL w' (T.bk aE T.P)/\bN T (T.bk aE T.P) w w' 2/\(∀j,aE.view j=T.C.view j)/\
  ((∃ (n:aD) (K V D:Y),v=.tuple #[c0 n K V D,(0:Int)]/\gM T.gen leaf no (T.C.view no) n/\bC (λq=>w.heap.size<=q/\¬(T.bk aE T.P).M q) w' n K V D)\/
    (∃e:Int,v=.tuple #[c0 g_ bg bg bg,e]/\GM T leaf no e/\e≠0))
theorem BU{no:Int}{l:cW}{e:Int}(h:dS no l=.error e):e≠0:=by
 intro he;subst he;unfold dS at h
 repeat' split at h
 all_goals first|(injection h with h;exact absurd h (by decide))|cases h
theorem GN{no:Int}{l:cW}{p:iq}(h:dS no l=.ok p):p.body.length<=256:=by
 unfold dS at h
 repeat' split at h
 all_goals first|(cases h;done)|skip
 rename_i h1 _ _ _ _ _;injection h with h
 rw[←h];show(List.take _ (List.drop 24 l)).length<=256;rw[cC,c_];omega
theorem vJ{w':J}{h:Nat}{vs:O aa}(n g:Int)(s:Y)(a:Var w' h vs 150)(b:vs.length=3){K:J->Prop}(c:∀ah,Var ah h [n,.int .u64 g,s] 150->ad (λq=>q=h) w' ah->ah.heap.size=w'.heap.size->K ah):
 bA w' h [n,.int .u64 g,s]/\(3:Nat)=3/\al (setCells w' h 0 [n,.int .u64 g,s]) K:=by
 refine⟨a.cc (by rw[b];rfl) ?_,rfl,cw a (us:=[n,.int .u64 g,s]) (by rw[b];rfl) rfl c⟩;intro v a;simp only[cU,eL,eO]at a;rcases a with rfl|rfl|rfl<;>trivial
theorem yd{w:J}{T:aN}(h:bL w T)(aG:T.C.D.aR<=999999999){no:Nat}(al:no<T.n)(am:2<=no)(leaf:ai):
 aQ aj 196 #[.pointer (some T.aY),no,leaf] w (oH T leaf no w):=by
 have bd:=h.s.bw;have aH:=h.GL al;refine okF (af.uF (some T.aY) (no:Int) leaf) aA.uF func196 ?_;(delta af.uF ct b_ ak xg U tn a_ ag lB z3 bD r1 rf g0;dsimp only);refine bj (vs:=[false,(),(),()]) rfl λw1 aI an be=>?_;obtain⟨o,L⟩:∃o,o=λq=>T.G q\/q=w.heap.size:=⟨_,rfl⟩;have ao:o w.heap.size:=by rw[L];exact .inr rfl
 have N:∀q,T.G q->o q:=λq c=>by rw[L];exact .inl c
 have O:∀q,o q->T.G q\/q=w.heap.size:=λq c=>by rw[L]at c;exact c
 have h1:bL w1 (T.ck T.E o):=h.grow (W:=λ_=>False) an (λ_ h=>h.elim) (λq c=>.inl c) (λq c=>.inr ((O q c).imp id λe=>⟨I,I⟩)) λq c hg=>by
  rcases O q hg with h2|h2
  .exact(h.c6 q c).2.2 h2
  .have:=h.lt (q:=q) (.inr (.inr (.inr (.inl c))));omega
 refine⟨_,rfl,_,h1.cells.1,(F_ h1.ca aG (no:=no) (by rw[h1.n];exact al) am).use ?_⟩;rintro _ m ⟨aE,aJ,R,t,aK⟩;obtain⟨S,aL⟩:=h1.qc (P:=T.P) aJ R (λno bn aM=>by rw[t];exact h1.eA no bn aM);have bf:=R.ab.size;have ap:Var m w.heap.size [false,(),(),()] 202:=aI.ab R.ab λhf=>(h1.ca.inv.e7 _ (.inr (.inr (.inr ao)))).2 hf
 have fin:∀w':J,ad (λq=>q=w.heap.size) m w'->bL w' (T.bk aE T.P)/\bN T (T.bk aE T.P) w w' 2:=λw' hc=>by
  refine⟨S.grow (E:=T.E) (G:=T.G) hc (λq e _=>.inr (by rw[e];exact ao)) (λq c=>.inl c) (λq c=>.inr (.inl (N q c))) λq c=>(h.c6 q c).2.2,?_⟩;have aO:=aL.local an (λq c=>.inl c) (λq c=>(O q c).imp id λe=>I) (j9:=T.E) (yc:=T.G) (λq c=>.inl c) N;exact aO.step hc (λq e bh=>I) (λq c=>.inl c) λq c=>.inl c
 have aP:∀ {w':J}{n:aD}{K V D:Y}{B:Nat->Prop},bC (λq=>m.heap.size<=q) w' n K V D->bC (λq=>w.heap.size<=q/\¬(T.bk aE T.P).M q) w' n K V D:=λaS=>by
  refine aS.aX λq _ c=>⟨I,λj=>?_⟩;have:q<m.heap.size:=S.lt (q:=q) (by
   rcases j with j|j|j|j|j
   .exact .inl j
   .exact .inr (.inl j)
   .exact .inr (.inr (.inl j))
   .exact .inr (.inr (.inr (.inl j)))
   .exact .inr (.inr (.inr (.inr (N q j)))))
  omega
 rcases aK with ⟨s,rfl,hs⟩|⟨rfl,aT⟩
 .refine⟨s,0,rfl,λd=>(by cases d),λ_=>(mY hs.1 hs.2.1 (by show(T.C.view no).length<=1000;rw[aH];omega) _).use ?_⟩
  rintro _ aU ⟨y,F⟩;have aq:=ap.ext F;have bi:=F.size;have aV:(T.ck T.E o).C.view no=T.C.view no:=rfl;rw[aV]at y
  cases g:dS (no:Int) (T.C.view no) with
  |error e=>
   rw[g]at y;obtain rfl:=y;refine⟨0,0,⟨none,0,0⟩,e,rfl,bj (vs:=[(0:Int),.int .u64 0,()]) rfl λaZ X u a0=>?_⟩;refine vJ 0 0 ⟨none,0,0⟩ X rfl λf ar v a1=>⟨λ_=>?_,λd=>?_⟩
   .have Z:Var f w.heap.size [false,(),(),()] 202:=(aq.ext u).ab v I
    refine jb false bg bg bg Z rfl (Q:=λb K V D ah=>oH T leaf no w (.tuple #[.agg #[b,K,V,D],e]) ah) λl i=>?_;obtain⟨f1,f2⟩:=fin l (cy (W:=λq=>q=w.heap.size) (ad.cF (Ext.cn (F.trans u) v I)) i λq _ e=>e);exact⟨aE,f1,f2,t,.inr ⟨e,rfl,.inr (.inl g),BU g⟩⟩
   .have:=BU g
    simp at d;omega
  |ok p=>
   rw[g]at y;obtain⟨z,rfl,aa,bl⟩:=y;refine⟨p.kind,p.gen,z,0,rfl,bj (vs:=[(0:Int),.int .u64 0,()]) rfl λaZ X u a0=>?_⟩;refine vJ p.kind p.gen z X rfl λf ar v a1=>⟨λd=>(by cases d),λ_=>aW ?_⟩;have Z:Var f w.heap.size [false,(),(),()] 202:=(aq.ext u).ab v I;have a2:Ext m f:=Ext.cn (F.trans u) v I;have A:Ext m f.drew:=a2.trans (cj _);have ac:Var f.drew w.heap.size [false,(),(),()] 202:=Z.drew;have H:=ar.drew;have a3:=(S.ext A).cells;obtain⟨b,d⟩:∃b,b=aU.heap.size:=⟨_,rfl⟩;rw[←d]at H⊢;have ae:f.drew.cell? b=some (.int .i64 (p.kind:Nat)):=H.cell;have a4:f.drew.cell? (Addr.add b 1)=some (.int .u64 (p.gen:Nat)):=by rw[aw];exact H.cell
   have a5:f.drew.cell? (Addr.add b 2)=some (.slice z.a z.len z.cap):=by rw[aw];exact H.cell
   have bm:m.heap.size<=f.drew.heap.size:=A.size;refine⟨id,_,a4,_,rfl,id,_,a3.2.2.1,λhg=>?_,λhg=>⟨id,_,ae,?_⟩⟩
   .have hg:T.gen<p.gen:=by
     have:(p.gen:Int)>(T.gen:Int):=b1 hg;omega
    refine cd (λb w'=>b=true/\w'=f.drew) (λq c=>⟨λ_=>c _ _ ⟨rfl,rfl⟩,λh=>by cases h⟩) ?_;rintro _ _ ⟨rfl,rfl⟩;refine⟨λ_=>?_,λh=>(by cases h)⟩;refine jb false bg bg bg ac rfl (Q:=λb K V D ah=>oH T leaf no w (.tuple #[.agg #[b,K,V,D],(4:Int)]) ah) λl i=>?_;obtain⟨f1,f2⟩:=fin l (cy (W:=λq=>q=w.heap.size) (ad.cF A) i λq _ e=>e);refine⟨aE,f1,f2,t,.inr ⟨4,rfl,.inr (.inr ⟨rfl,⟨p,g⟩,?_⟩),by decide⟩⟩;rintro n ⟨au,av,ax,_⟩;rw[g]at av;cases av;omega
   .have hg:p.gen<=T.gen:=by
     have:¬(p.gen:Int)>(T.gen:Int):=cu hg;omega
    refine cd (λb w'=>w'=f.drew/\(b=false↔p.kind=(if leaf then 1 else 2))) (λq c=>⟨λh=>c _ _ ⟨rfl,?_⟩,λh=>⟨_,ae,cd (λb w'=>w'=f.drew/\(b=false↔p.kind=(if leaf then 1 else 2))) (λr ay=>⟨λh2=>⟨_,ae,ay _ _ ⟨rfl,?_⟩⟩,λh2=>ay _ _ ⟨rfl,?_⟩⟩) λb w' a6=>c b w' a6⟩⟩) ?_
    .refine⟨λh=>(by cases h),λx=>?_⟩
     rw[x]at h
     cases leaf<;>simp at h
    .cases leaf
     .simp
      exact Int.ofNat_inj
     .simp at h2 h;omega
    .cases leaf
     .simp at h2 h;omega
     .simp at h2
      simp;omega
    rintro bo _ ⟨rfl,x⟩;refine⟨λd=>?_,λd=>⟨_,a5,(pM ((aa.ext (Ext.cn u v I|>.trans (cj _))).src) ?_ ?_ ?_ leaf).use ?_⟩⟩
    .refine jb false bg bg bg ac rfl (Q:=λb K V D ah=>oH T leaf no w (.tuple #[.agg #[b,K,V,D],(4:Int)]) ah) λl i=>?_
     obtain⟨f1,f2⟩:=fin l (cy (W:=λq=>q=w.heap.size) (ad.cF A) i λq _ e=>e);refine⟨aE,f1,f2,t,.inr ⟨4,rfl,.inr (.inr ⟨rfl,⟨p,g⟩,?_⟩),by decide⟩⟩;rintro n ⟨au,av,ax,az,_⟩;rw[g]at av;cases av;rw[x.2 az]at d;cases d
    .exact aa.2.1
    .intro k x
     have:=ba.lt aa k x;have:=u.size;show k<f.heap.size;omega
    .have:=GN g
     omega
    rintro _ a7 ⟨a8,aB⟩;have aC:Ext m a7:=A.trans aB;have aF:=ac.ext aB;rcases a8 with ⟨n,K,V,D,rfl,a9,c7⟩|⟨rfl,bb⟩
    .refine⟨n.leaf,K,V,D,0,rfl,?_⟩
     refine jb n.leaf K V D aF rfl (Q:=λb K V D ah=>oH T leaf no w (.tuple #[.agg #[b,K,V,D],(0:Int)]) ah) λl i=>?_;obtain⟨f1,f2⟩:=fin l (cy (W:=λq=>q=w.heap.size) (ad.cF aC) i λq _ e=>e);refine⟨aE,f1,f2,t,.inl ⟨n,K,V,D,rfl,⟨p,g,hg,x.1 d,a9,am⟩,?_⟩⟩;refine aP (B:=λ_=>True) (bC.ab (c7.aX λq _ c=>?_) i λq c e=>?_)
     .omega
     .have:m.heap.size<=q:=c
      omega
    .refine⟨false,bg,bg,bg,4,rfl,?_⟩
     refine jb false bg bg bg aF rfl (Q:=λb K V D ah=>oH T leaf no w (.tuple #[.agg #[b,K,V,D],(4:Int)]) ah) λl i=>?_;obtain⟨f1,f2⟩:=fin l (cy (W:=λq=>q=w.heap.size) (ad.cF aC) i λq _ e=>e);refine⟨aE,f1,f2,t,.inr ⟨4,rfl,.inr (.inr ⟨rfl,⟨p,g⟩,?_⟩),by decide⟩⟩;rintro n ⟨au,av,ax,az,bc,_⟩;rw[g]at av;cases av;exact bb n bc
 .refine⟨⟨none,0,0⟩,3,rfl,λ_=>?_,λd=>(by cases d)⟩
  refine jb false bg bg bg ap rfl (Q:=λb K V D ah=>oH T leaf no w (.tuple #[.agg #[b,K,V,D],(3:Int)]) ah) λl i=>?_;obtain⟨f1,f2⟩:=fin l i;exact⟨aE,f1,f2,t,.inr ⟨3,rfl,.inl ⟨rfl,aT⟩,by decide⟩⟩
structure dD where
 no:Nat
 n:aD
 cX:Nat
 K:Y
 V:Y
 D:Y
def dD.c(s:dD):O aa:=[s.no,s.n.leaf,s.K,s.V,s.D,s.cX]
def dD.st(s:dD):Nat×aD×Nat:=(s.no,s.n,s.cX)
theorem nj(l:O dD):∀x∈l,(dD.c x).length=6:=λ_ _=>rfl
structure j_(B:Nat->Prop)(w:J)(s:Y)(l:O dD):Prop where
 own:ba 6 232 w s (bM dD.c l)
 oI:∀q,aB s q->B q
 bn:∀x∈l,bC B w x.n x.K x.V x.D
def nk(P:Nat->aq aD)(k:Key):Nat->Nat->O (Nat×aD×Nat)->Prop
 |0,_,l=>l=[]
 |h+1,no,l=>∃n rest,P no=some n/\n.leaf=decide (h=0)/\l=(no,n,if h=0 then 0 else dn n.keys k)::rest/\nk P k h (n.kids.getD (dn n.keys k) 0) rest
theorem nk.length{P:Nat->aq aD}{k:Key}:∀ {h no:Nat}{l:O (Nat×aD×Nat)},nk P k h no l->l.length=h
 |0,_,_,h=>by rw[h];rfl
 |h+1,_,_,⟨n,rest,_,_,a,b⟩=>by rw[a,e8,nk.length b]
theorem gM.uniq{gen no:Nat}{leaf:ai}{l:cW}{n m:aD}(h1:gM gen leaf no l n)(h2:gM gen leaf no l m):n=m:=by
 obtain⟨p,a1,a2,a3,a4⟩:=h1;obtain⟨q,cf,bS,b,a⟩:=h2;rw[a1]at cf
 cases cf;exact lF.uniq a4.1 a.1
theorem gM.is{gen no:Nat}{leaf:ai}{l:cW}{n:aD}(h:gM gen leaf no l n):n.leaf=leaf/\cH n/\bJ n<=232:=by
 obtain⟨p,_,_,_,a,_⟩:=h;exact⟨a.2.1,a.1,a.2.2.1⟩
theorem gM.two{gen no:Nat}{leaf:ai}{l:cW}{n:aD}(h:gM gen leaf no l n):2<=no:=by
 obtain⟨p,_,_,_,_,a⟩:=h;exact a
theorem cH.fb{n:aD}(h:cH n):n.keys.Pairwise bH:=by
 rcases h with h|h
 .exact h.fb
 .exact h.fb
def GO(T:aN)(steps:O (Nat×aD×Nat))(w:J)(v:aa)(w':J):Prop:=
 ∃aE:b4,bL w' (T.bk aE T.P)/\bN T (T.bk aE T.P) w w' (2*T.aH)/\(∀j,aE.view j=T.C.view j)/\
  ((∃ (s:Y) (l:O dD),v=.tuple #[s,(0:Int)]/\l.map dD.st=steps/\j_ (λq=>w.heap.size<=q/\¬(T.bk aE T.P).M q) w' s l)\/(v=.tuple #[(),(3:Int)]/\¬T.C.D.calm (2*T.aH)))
theorem GP(w:J)(cs:Array aa)(h:cs.size=6):Sem.run aj (Instr.buildSlice 228 1 #[(0,.agg cs)]) w=.ok (.slice (some w.heap.size) 1 1) (w.alloc (.cells cs 232)):=by
 have h0:((Tryz.prog.info? 232).bind (·.zero)).isSome=true:=by kernel_rfl
 obtain⟨z,a⟩:=mB.1 h0;obtain⟨i,hi,b⟩:=rM a;have h1:(Tryz.prog.underlying 232).isSome=true:=by kernel_rfl
 obtain⟨d,hd⟩:=mB.1 h1;exact xY (sz:=6) w (by kernel_rfl) hd (by kernel_rfl) hi b h (by decide) (by decide)
theorem GQ:hM aj 228 232 6 96:=⟨by kernel_rfl⟩
theorem ye{h:Nat}{n:aD}(a:n.leaf=decide (h=0)):((((h+1:Nat):Int):Int)==1)=n.leaf:=by
 rw[a,fV,ki,cQ];omega
theorem yf{w:J}{T:aN}{tk:Y}{k:Key}{steps:O (Nat×aD×Nat)}(h:bL w T)(co:T.C.D.aR<=900000000)(bB:Src 1 w tk (aJ k))(bD:∀q,aB tk q->q<w.heap.size/\¬T.M q)(bE:nk T.P k T.aH T.root steps):
 aQ aj 142 #[.pointer (some T.aY),tk] w (GO T steps w):=by
 have cp:=h.num.2.1;refine okF (af.ur (some T.aY) tk) aA.ur func142 ?_;(delta af.ur r1 ak g0 ct U a_ ag gw aC st aL au;dsimp only);refine⟨_,rfl,_,h.cells.2.2.2.1,_,rfl,_,h.cells.2.2.2.2,λs n8 n9 w'=>∃ (eU no:Nat) (l:O dD) (rest:O (Nat×aD×Nat)) (bd:Nat->Prop) (aE:b4),n9=(eU:Nat)/\n8=(no:Nat)/\nk T.P k eU no rest/\l.map dD.st++rest=steps/\l.length+eU=T.aH/\
  bd=(λq=>T.E q\/aB s q)/\(∀q,aB s q->w.heap.size<=q)/\bL w' ((T.ck bd T.G).bk aE T.P)/\bN T ((T.ck bd T.G).bk aE T.P) w w' (2*l.length)/\(∀j,aE.view j=T.C.view j)/\ba 6 232 w' s (bM dD.c l)/\
  ∀x∈l,bC (λq=>w.heap.size<=q/\¬((T.ck bd T.G).bk aE T.P).M q) w' x.n x.K x.V x.D,λ_ _ n9 _=>n9.toNat,?_,?_⟩
 .have bG:T.E=λq=>T.E q\/aB ⟨none,0,0⟩ q:=by
   funext q;refine propext ⟨.inl,λh=>h.resolve_right ?_⟩;rintro⟨A,ar,_⟩
   cases ar
  have a7:(T.ck T.E T.G).bk T.C T.P=T:=rfl;refine⟨T.aH,T.root,[],steps,T.E,T.C,rfl,rfl,bE,rfl,by simp,bG,?_,by rw[a7];exact h,by rw[a7];exact .refl _ _,λ_=>rfl,?_,λx hx=>(by cases hx)⟩
  .rintro q ⟨A,ar,_⟩
   cases ar
  .exact⟨rfl,bp _,by decide,.inl ⟨rfl,rfl⟩⟩
 have fin:∀ {w':J}{bd:Nat->Prop}{aE:b4}{s:Y}{k:Nat},bL w' ((T.ck bd T.G).bk aE T.P)->bN T ((T.ck bd T.G).bk aE T.P) w w' k->bd=(λq=>T.E q\/aB s q)->(∀q,aB s q->w.heap.size<=q)->bL w' (T.bk aE T.P)/\bN T (T.bk aE T.P) w w' k:=by
  intro w' bd aE s k h1 h2 g z;have F:∀q,T.E q->bd q:=λq a=>by rw[g];exact .inl a
  exact⟨h1.grow (W:=λ_=>False) (E:=T.E) (G:=T.G) (ad.refl _ _) (λ_ h=>h.elim) (λq a=>.inl (F q a)) (λq a=>.inr (.inl a)) λq a=>(h.c6 q a).2.2,
   h2.step (W:=λ_=>False) (ad.refl _ _) (λ_ h=>h.elim) (λq a=>.inl (F q a)) λq a=>.inl a⟩
 rintro s _ _ cq ⟨eU,no,l,rest,bd,ac,rfl,rfl,a8,a9,hlen,H,L,t,R,f,aq,c7⟩;have cr:=R.ab.size;refine⟨λaK=>?_,λbH=>?_⟩
 .obtain⟨o,rfl⟩:∃bI,eU=bI+1:=⟨eU-1,by have:(eU:Int)>0:=b1 aK;omega⟩
  obtain⟨n,bJ,bK,bb,rfl,bc⟩:=a8;obtain⟨bO,S⟩:=t.eA no n bK;have bP:ac.D.aR<=999999999:=by
   have:ac.D.aR<=T.C.D.aR+2*l.length:=R.aR;omega
  refine(yd t bP bO S.two _).use ?_;rintro _ r ⟨B,h2,ae,be,bf⟩;have ay:=R.trans ae;have cs:=ae.ab.size;rw[ye bb]at bf;rcases bf with ⟨bw,K,V,D,rfl,bQ,az⟩|⟨e,rfl,bR,bS⟩
  .obtain rfl:=gM.uniq S bQ
   obtain⟨_,aF,cv⟩:=S.is;have bU:=aF.fb;have cx:=vl aF;refine⟨n.leaf,K,V,D,0,rfl,bj (vs:=[false,(),(),()]) rfl λbV X aG bW=>?_⟩;refine⟨X.cc rfl ?_,rfl,cw X (us:=[n.leaf,K,V,D]) rfl rfl λah aI aO bX=>⟨λd=>(by cases d),λ_=>?_⟩⟩
   .intro v f
    simp only[cU,eL,eO]at f;rcases f with rfl|rfl|rfl|rfl<;>trivial
   have bh:Ext r ah:=Ext.cn aG aO (bp _);have cy:=bh.size;obtain⟨bT,aC,aU,aM⟩:=bF aI;refine⟨_,bT,K,aC,V,aU,D,aM,#[no,n.leaf,K,V,D,(0:Int)],by kernel_rfl,?_⟩;refine bj (vs:=[(0:Int),false,(),(),(),(0:Int)]) rfl λcA bi bl cB=>?_;refine⟨bi.cc rfl ?_,rfl,cw bi (us:=[no,n.leaf,K,V,D,(0:Int)]) rfl rfl λaP aS bm cC=>?_⟩
   .intro v f
    simp only[cU,eL,eO]at f;rcases f with rfl|rfl|rfl|rfl|rfl|rfl<;>trivial
   have ai:Ext r aP:=Ext.cn (bh.trans bl) bm I;have aT:Var aP r.heap.size [n.leaf,K,V,D] 202:=(aI.ext bl).ab bm I;obtain⟨sb,bY⟩:∃sb,sb=ah.heap.size:=⟨_,rfl⟩;obtain⟨nb,bZ⟩:∃nb,nb=r.heap.size:=⟨_,rfl⟩;rw[←bY]at aS⊢;rw[←bZ]at aT⊢;have b0:=az.ext ai;refine cd (λn40 u=>n40=(((if o=0 then no else n.kids.getD (dn n.keys k) 0:Nat)):Int)/\Ext r u/\Var u sb (dD.c ⟨no,n,if o=0 then 0 else dn n.keys k,K,V,D⟩) 232) (λq a=>⟨λal=>?_,λal=>?_⟩) ?_
   .have N:o≠0:=by
     have:((o+1:Nat):Int)>1:=b1 al;omega
    have b2:n.leaf=false:=by rw[bb];simp[N]
    have cD:=aF.p4 b2;have cE:=vf n.keys k;obtain⟨bT,aC,aU,aM⟩:=bF aT;have b3:Src 1 aP tk (aJ k):=(bB.ab ay.ab λq a b5=>(bD q a).2 (aN.gh b5)).ext ai;refine⟨_,bT,K,aC,V,aU,D,aM,(n0 b0 b3 bU I).use ?_⟩;rintro _ bo ⟨rfl,aV⟩;have bq:=aS.ext aV;obtain⟨av,ax⟩:=dP bq (i:=5) (by simp);rw[aw];refine⟨_,rfl,av,ax,aW ?_⟩;have br:=dp bo sb 5 (.int .i64 ((dn n.keys k:Nat):Int));have bs:=dT bq (i:=5) (.int .i64 ((dn n.keys k:Nat):Int));have bt:Ext r (bo.setCell ⟨sb,5,none⟩ (.int .i64 ((dn n.keys k:Nat):Int))):=Ext.cn (ai.trans aV) br I;have b6:=(aT.ext aV).ab br I;obtain⟨d0,d1,d2,d3⟩:=bF b6;obtain⟨A,ar,d,b7⟩:=cL.at (az.ext bt).kids (i:=dn n.keys k) I;refine⟨D,d3,_,bs.cell,A,ar,d,_,b7,a _ _ ⟨?_,bt,?_⟩⟩
    .rw[if_neg N,fq,dE I];rfl
    .rw[if_neg N]
     exact bs
   .have N:o=0:=by
     have:¬((o+1:Nat):Int)>1:=cu al;omega
    refine a _ _ ⟨by rw[if_pos N],ai,?_⟩;rw[if_pos N];exact aS
   rintro _ u ⟨rfl,bu,b8⟩;have cF:=bu.size;refine⟨_,b8.rd rfl,⟨some u.heap.size,1,1⟩,_,GP _ _ rfl,?_⟩;have aZ:=eJ u (.cells (dD.c ⟨no,n,if o=0 then 0 else dn n.keys k,K,V,D⟩).toArray 232);have Q:=bu.trans aZ;have b9:=Q.size;have b_:=aZ.size;have cb:=aq.1;rw[gL _ (nj l)]at cb;have Z:∀q,aB s q->bd q:=λq a=>by rw[H];exact .inr a
   have ce:ba 6 232 r s (bM dD.c l):=aq.ab ae.ab λq a b=>t.iN (Z q a) b;obtain⟨x,a0⟩:∃x:dD,x=⟨no,n,if o=0 then 0 else dn n.keys k,K,V,D⟩:=⟨_,rfl⟩;rw[←a0]at aZ Q b9 b_⊢;have cf:∀v∈dD.c x,Plain v:=by
    intro v f;unfold dD.c at f;simp only[cU,eL,eO]at f;rcases f with rfl|rfl|rfl|rfl|rfl|rfl<;>trivial
   obtain⟨am,an,a1,a2,a3,a4,a5⟩:=GQ.append (cK:=228) (x:=⟨some u.heap.size,1,1⟩) (Src.new (T:=232) u (dD.c x) 1 rfl) (ce.ext Q) cf (by show(2*(s.len+1)+1000)*96<=_;omega);have cG:=a4.size;have a6:∀q,aB am q->w.heap.size<=q:=λq a=>by
    rcases a5 q a with h1|h1
    .exact L q h1
    .omega
   obtain⟨j9,bv⟩:∃j9,j9=λq=>T.E q\/aB am q:=⟨_,rfl⟩;have ao:∀q,j9 q->T.E q\/aB am q:=λq a=>by rw[bv]at a;exact a
   have F:∀q,T.E q->bd q:=λq a=>by rw[H];exact .inl a
   have cg:bM dD.c (l++ [x])=bM dD.c l++dD.c x:=by rw[lH];simp[bM]
   have ch:bL an ((T.ck j9 T.G).bk B T.P):=by
    refine(h2.ext Q).grow (E:=j9) (G:=T.G) a4 (λq a _=>.inl (Z q a)) (λq a=>?_) (λq a=>.inr (.inl a)) λq a hg=>?_
    .rcases ao q a with h1|h1
     .exact .inl (F q h1)
     .rcases a5 q h1 with g|g
      .exact .inl (Z q g)
      .exact .inr (.inr ⟨g,ba.lt a2 q h1⟩)
    .rcases ao q a with h1|h1
     .exact(h.c6 q h1).2.2 hg
     .have g:=h.lt (q:=q) (.inr (.inr (.inr (.inr hg))))
      have:=a6 q h1;omega
   have ci:bN T ((T.ck j9 T.G).bk B T.P) w an (2*(l++ [x]).length):=by
    have h1:=(ay.trans (bN.ext _ Q)).mono (l:=2*(l++ [x]).length) (by rw[cz,iU];omega);refine h1.step (E:=j9) (G:=T.G) a4 (λq a al=>by have:=L q a;omega) (λq a=>?_) λq a=>.inl a;rcases ao q a with h1|h1
    .exact .inl (F q h1)
    .exact .inr (.inr (a6 q h1))
   have bz:∀ {m:aD}{K V D:Y},bC (λq=>w.heap.size<=q/\¬((T.ck bd T.G).bk B T.P).M q) r m K V D->bC (λq=>w.heap.size<=q/\¬((T.ck j9 T.G).bk B T.P).M q) an m K V D:=λ{m K V D} b=>by
    have h1:=(b.ext Q).aX (C:=λq=>q<(u.alloc (.cells (dD.c x).toArray 232)).heap.size/\w.heap.size<=q/\¬((T.ck bd T.G).bk B T.P).M q) λq a d=>⟨a,d⟩;refine(bC.ab h1 a4 λq a cj=>a.2.2 (.inr (.inr (.inr (.inl (Z q cj)))))).aX λq _ d=>⟨d.2.1,λb=>d.2.2 ?_⟩;rcases b with b|b|b|b|b
    .exact .inl b
    .exact .inr (.inl b)
    .exact .inr (.inr (.inl b))
    .refine .inr (.inr (.inr (.inl ?_)))
     show bd q;rcases ao q b with g|g
     .exact F q g
     .rcases a5 q g with z|z
      .exact Z q z
      .have:=d.1;omega
    .exact .inr (.inr (.inr (.inr b)))
   have bA:IntKind.wrap .i64 (((o+1:Nat):Int)-1)=(o:Nat):=by rw[bx I I];omega
   refine⟨am,an,a1,⟨o,_,l++ [x],bJ,j9,B,bA,rfl,?_,?_,by rw[cz,iU];omega,bv,a6,ch,ci,λj=>(be j).trans (f j),by rw[cg];exact a2,?_⟩,?_⟩
   .cases o with
    |zero=>exact bc
    |succ m=>rw[if_neg I];exact bc
   .rw[←a9,fW,cO,a0];rfl
   .intro y aa
    rcases cT.1 aa with aa|aa
    .exact bz (ae.bn (c7 y aa))
    .obtain rfl:=fo.1 aa
     subst a0;exact bz (az.aX λq _ d=>⟨by have:=d.1;omega,d.2⟩)
   .rw[bA]
    show(o:Int).toNat<(((o+1:Nat):Int)).toNat;omega
  .refine⟨false,bg,bg,bg,e,rfl,bj (vs:=[false,(),(),()]) rfl λbV X aG bW=>?_⟩
   refine⟨X.cc rfl ?_,rfl,cw X (us:=[false,(),(),()]) rfl rfl λah aI aO bX=>⟨λ_=>?_,λd=>?_⟩⟩
   .intro v f
    simp only[cU,eL,eO]at f;rcases f with rfl|rfl|rfl|rfl<;>trivial
   .have hx:Ext r ah:=Ext.cn aG aO (bp _)
    have he:e=3/\¬ac.D.calm 2:=by
     rcases bR with h1|h1|⟨_,_,h1⟩
     .exact h1
     .obtain⟨p,av,_⟩:=S
      rw[av]at h1;cases h1
     .exact absurd S (h1 n)
    obtain⟨rfl,cl⟩:=he;obtain⟨g,z⟩:=fin (k:=2*T.aH) (h2.ext hx) ((ay.trans (bN.ext _ hx)).mono I) H L;exact⟨B,g,z,λj=>(be j).trans (f j),.inr ⟨rfl,λhc=>cl (R.calm 2 (fH hc I))⟩⟩
   .simp at d;exact absurd d bS
 .have h0:eU=0:=by
   have:¬(eU:Int)>0:=cu bH;omega
  subst h0;have cm:rest=[]:=a8;subst cm;obtain⟨g,z⟩:=fin (k:=2*T.aH) t (R.mono I) H L;refine⟨ac,g,z,f,.inl ⟨s,l,rfl,by rw[←a9,fQ],aq,λq a=>⟨L q a,λb=>?_⟩,λx hx=>?_⟩⟩
  .have cH:=L q a
   have ap:bd q:=by rw[H];exact .inr a
   rcases b with b|b|b|b|b
   .exact(t.ca.inv.e7 q (.inr (.inr (.inl ap)))).2 b
   .exact(t.c6 q ap).1 b
   .exact(t.c6 q ap).2.1 b
   .have:=h.lt (q:=q) (.inr (.inr (.inr (.inl b))));omega
   .exact(t.c6 q ap).2.2 b
  .refine(c7 x hx).aX λq _ d=>⟨d.1,λb=>d.2 ?_⟩
   rcases b with b|b|b|b|b
   .exact .inl b
   .exact .inr (.inl b)
   .exact .inr (.inr (.inl b))
   .refine .inr (.inr (.inr (.inl ?_)))
    show bd q;rw[H];exact .inl b
   .exact .inr (.inr (.inr (.inr b)))
def aN.iP(T:aN)(f:Nat->ai):aN:={T with f:=f}
structure dI where
 cb:Nat
 ma:Y
 gB:Y
 made:O Nat
 left:O Nat
structure dr(w:J)(T:aN)(c:dI):Prop where
 t:bL w T
 v:Var w c.cb [.pointer (some T.aY),c.ma,c.gB] 297
 ma:ba 1 3 w c.ma (ef c.made)
 gB:ba 1 3 w c.gB (ef c.left)
 gc:T.G c.cb
 fA:∀q,aB c.ma q->T.G q/\q≠c.cb/\¬aB c.gB q
 kG:∀q,aB c.gB q->T.G q/\q≠c.cb
 ns:¬T.C.D.ro
theorem yg{w:J}{s:Y}{ds:O Nat}(d:Nat)(b:ba 1 3 w s (ef ds))(i:ds.length<=1000000):
 ∃ (a:Y) (w':J),Sem.run aj (Builtin.append_ #[58,58] 58 #[s,.slice (some w.heap.size) 1 1]) (w.alloc (.cells #[d] 3))=.ok a w'/\
  ba 1 3 w' a (ef (ds++ [d]))/\ad (aB s) w w'/\(∀k,aB a k->aB s k\/w.heap.size<=k)/\ad (aB s) (w.alloc (.cells #[d] 3)) w':=by
 have j:s.len=ds.length:=by have:=b.1;rw[nc]at this;omega
 have hc:Ext w (w.alloc (.cells #[d] 3)):=eJ _ _;have l:(w.alloc (.cells #[d] 3)).heap.size=w.heap.size+1:=rJ _ _;obtain⟨a,w',h1,h2,m,c,e⟩:=p3.append (cK:=58) (x:=⟨some w.heap.size,1,1⟩) (Src.new (T:=3) w [d] 1 rfl) (b.ext hc) (λv f=>by rw[fo.1 f];trivial) (by show(2*(s.len+1)+1000)*8<=_;omega);exact⟨a,w',h1,by simpa[ef] using h2,(ad.cF hc).trans c,λk g=>(e k g).imp id (λh=>I),c⟩
section
variable {w w':J}{T ao:aN}{c:dI}
theorem dr.of{W:Nat->Prop}(h:dr w T c)(d:bL w' ao)(hc:ad W w w')(cg:∀q,T.G q->¬W q)(f:ao.aY=T.aY)(b:∀q,T.G q->ao.G q)(g:ao.C.D.bI=T.C.D.bI:=by rfl):dr w' ao c:=
 ⟨d,by rw[f];exact h.v.ab hc (cg _ h.gc),h.ma.ab hc λq a=>cg q (h.fA q a).1,h.gB.ab hc λq a=>cg q (h.kG q a).1,b _ h.gc,λq a=>⟨b q (h.fA q a).1,(h.fA q a).2⟩,λq a=>⟨b q (h.kG q a).1,(h.kG q a).2⟩,λe=>h.ns λi=>g▸e i⟩
theorem dr.ext(h:dr w T c)(hx:Ext w w'):dr w' T c:=h.of (h.t.ext hx) hx (λ_ _ h=>h) rfl λ_ h=>h
theorem dr.cells(h:dr w T c):w.cell? c.cb=some (.pointer (some T.aY))/\w.cell? (Addr.add c.cb 1)=some (.slice c.ma.a c.ma.len c.ma.cap)/\w.cell? (Addr.add c.cb 2)=some (.slice c.gB.a c.gB.len c.gB.cap):=by
 rw[aw,aw];exact⟨h.v.cell,h.v.cell,h.v.cell⟩
theorem bL.rW(h:bL w T){q:Nat}(a:T.G q):¬c3 T.C q:=λhf=>(h.ca.inv.e7 q (.inr (.inr (.inr a)))).2 hf
theorem bL.vK{f:Nat->ai}(h:bL w T)(hs:eZ w' T.sb T.n f T.g T.s1 T.s2)(hc:ad (fz T.sb T.s1 T.s2) w w'):bL w' (T.iP f)/\bN T (T.iP f) w w' 0:=
 ⟨⟨h.t.ab hc h.js,hs,h.ca.ab hc λq a=>.inr (.inl a),h.js,h.c6,h.hD,h.n,h.num,h.eA,h.bI,h.low⟩,
  ⟨rfl,rfl,rfl,rfl,rfl,rfl,rfl,rfl,rfl,rfl,bp _,λ_ h=>h,hc.mono λq _ a=>.inr (.inr (.inl a)),λq h=>.inl h,λq h=>.inl h⟩⟩
theorem GR(h:dr w T c)(no:Nat)(x:c.made.length<=100000):
 ∃ (b:Y) (ah:J),Sem.run aj (Builtin.append_ #[58,58] 58 #[c.ma,.slice (some w.heap.size) 1 1]) (w.alloc (.cells #[no] 3))=.ok b ah/\
  ad (aB c.ma) (w.alloc (.cells #[no] 3)) ah/\(∃u:aa,ah.cell? ⟨c.cb,1,none⟩=some u)/\ah.frozen? ⟨c.cb,1,none⟩=false/\
  ∀j,j=ah.setCell ⟨c.cb,1,none⟩ b->dr j (T.ck T.E λq=>T.G q\/aB b q) {c with ma:=b,made:=c.made++ [no]}/\bN T (T.ck T.E λq=>T.G q\/aB b q) w j 0:=by
 obtain⟨b,ah,av,ax,d,f,o⟩:=yg no h.ma I;have cg:∀q,aB c.ma q->T.G q:=λq a=>(h.fA q a).1;have y:=d.size;have l:=h.v.ab d λa=>(h.fA _ a).2.1 rfl;obtain⟨bE,bG⟩:=dP l (i:=1) (by simp);refine⟨b,ah,av,o,bE,bG,?_⟩;rintro _ rfl;have g:=dp ah c.cb 1 b;have p:=dT l (i:=1) b;have k:ad T.G w (ah.setCell ⟨c.cb,1,none⟩ b):=cy (d.mono λq _ a=>cg q a) g λq _ e=>by rw[e];exact h.gc
 have z:=k.size;have aK:∀q,aB b q->q<ah.heap.size:=λq a=>ba.lt ax q a;have m:∀q,aB b q->T.G q\/(w.heap.size<=q/\q<(ah.setCell ⟨c.cb,1,none⟩ b).heap.size):=λq a=>by
  rcases f q a with h1|h1
  .exact .inl (cg q h1)
  .exact .inr ⟨h1,by have:=aK q a;have:=g.size;omega⟩
 have n:∀q,aB b q->q≠c.cb:=λq a e=>by
  rcases f q a with h1|h1
  .exact(h.fA q h1).2.1 e
  .have:=h.v.lt;omega
 have r:∀q,aB b q->¬aB c.gB q:=λq a e=>by
  rcases f q a with h1|h1
  .exact(h.fA q h1).2.2 e
  .have:=ba.lt h.gB q e;omega
 have s:=h.t.grow (E:=T.E) (G:=λq=>T.G q\/aB b q) k (λq a _=>.inr a) (λq a=>.inl a) (λq a=>by
  rcases a with a|a
  .exact .inr (.inl a)
  .exact .inr (m q a)) λq a hg=>by
  rcases hg with hg|hg
  .exact(h.t.c6 q a).2.2 hg
  .rcases f q hg with h1|h1
   .exact(h.t.c6 q a).2.2 (cg q h1)
   .have:=h.t.lt (q:=q) (.inr (.inr (.inr (.inl a))));omega
 refine⟨⟨s,p,?_,(h.gB.ab d λq a e=>(h.fA q e).2.2 a).ab g λq a e=>(h.kG q a).2 e,.inl h.gc,λq a=>⟨.inr a,n q a,r q a⟩,λq a=>⟨.inl (h.kG q a).1,(h.kG q a).2⟩,h.ns⟩,?_⟩
 .have:ba 1 3 ah b (ef (c.made++ [no])):=ax
  exact this.ab g λq a e=>n q a e
 .have h0:bN T T w w 0:=.refl _ _
  exact h0.step k (λq a _=>.inr (.inr (.inr a))) (λq a=>.inl a) λq a=>by
   rcases a with a|a
   .exact .inl a
   .exact(m q a).imp id λe=>e.1
theorem BV(h:dr w T c)(no:Nat)(x:c.left.length<=100000):
 ∃ (b:Y) (ah:J),Sem.run aj (Builtin.append_ #[58,58] 58 #[c.gB,.slice (some w.heap.size) 1 1]) (w.alloc (.cells #[no] 3))=.ok b ah/\
  ad (aB c.gB) (w.alloc (.cells #[no] 3)) ah/\(∃u:aa,ah.cell? ⟨c.cb,2,none⟩=some u)/\ah.frozen? ⟨c.cb,2,none⟩=false/\
  ∀j,j=ah.setCell ⟨c.cb,2,none⟩ b->dr j (T.ck T.E λq=>T.G q\/aB b q) {c with gB:=b,left:=c.left++ [no]}/\bN T (T.ck T.E λq=>T.G q\/aB b q) w j 0:=by
 obtain⟨b,ah,av,ax,d,f,o⟩:=yg no h.gB I;have cg:∀q,aB c.gB q->T.G q:=λq a=>(h.kG q a).1;have y:=d.size;have l:=h.v.ab d λa=>(h.kG _ a).2 rfl;obtain⟨bE,bG⟩:=dP l (i:=2) (by simp);refine⟨b,ah,av,o,bE,bG,?_⟩;rintro _ rfl;have g:=dp ah c.cb 2 b;have p:=dT l (i:=2) b;have k:ad T.G w (ah.setCell ⟨c.cb,2,none⟩ b):=cy (d.mono λq _ a=>cg q a) g λq _ e=>by rw[e];exact h.gc
 have z:=k.size;have aK:∀q,aB b q->q<ah.heap.size:=λq a=>ba.lt ax q a;have m:∀q,aB b q->T.G q\/(w.heap.size<=q/\q<(ah.setCell ⟨c.cb,2,none⟩ b).heap.size):=λq a=>by
  rcases f q a with h1|h1
  .exact .inl (cg q h1)
  .exact .inr ⟨h1,by have:=aK q a;have:=g.size;omega⟩
 have n:∀q,aB b q->q≠c.cb:=λq a e=>by
  rcases f q a with h1|h1
  .exact(h.kG q h1).2 e
  .have:=h.v.lt;omega
 have r:∀q,aB c.ma q->¬aB b q:=λq e a=>by
  rcases f q a with h1|h1
  .exact(h.fA q e).2.2 h1
  .have:=ba.lt h.ma q e;omega
 have s:=h.t.grow (E:=T.E) (G:=λq=>T.G q\/aB b q) k (λq a _=>.inr a) (λq a=>.inl a) (λq a=>by
  rcases a with a|a
  .exact .inr (.inl a)
  .exact .inr (m q a)) λq a hg=>by
  rcases hg with hg|hg
  .exact(h.t.c6 q a).2.2 hg
  .rcases f q hg with h1|h1
   .exact(h.t.c6 q a).2.2 (cg q h1)
   .have:=h.t.lt (q:=q) (.inr (.inr (.inr (.inl a))));omega
 refine⟨⟨s,p,(h.ma.ab d λq a e=>(h.fA q a).2.2 e).ab g λq a e=>(h.fA q a).2.1 e,?_,.inl h.gc,λq a=>⟨.inl (h.fA q a).1,(h.fA q a).2.1,r q a⟩,λq a=>⟨.inr a,n q a⟩,h.ns⟩,?_⟩
 .have:ba 1 3 ah b (ef (c.left++ [no])):=ax
  exact this.ab g λq a e=>n q a e
 .have h0:bN T T w w 0:=.refl _ _
  exact h0.step k (λq a _=>.inr (.inr (.inr a))) (λq a=>.inl a) λq a=>by
   rcases a with a|a
   .exact .inl a
   .exact(m q a).imp id λe=>e.1
end
def cl(T:aN):Nat:=T.n-e0 (λi=>T.f i||T.g i) T.n
theorem BW{s t:Nat->ai}:∀ {n:Nat},(∀i,i<n->s i=t i)->e0 s n=e0 t n
 |0,_=>rfl
 |n+1,h=>by
  unfold e0
  rw[BW (n:=n) λi hi=>h i I,h n I]
theorem rX{s t:Nat->ai}{k:Nat}(a:s k=false)(ht:t k=true)(he:∀i,i≠k->t i=s i):∀ {n:Nat},k<n->e0 t n=e0 s n+1
 |0,h=>by omega
 |n+1,h=>by
  unfold e0
  by_cases e:k=n
  .subst e
   rw[BW (s:=t) (t:=s) (n:=k) λi hi=>he i I,a,ht]
   simp
  .rw[rX a ht he (n:=n) I,he n I]
   omega
theorem BX{t:Nat->ai}:∀ {n:Nat},(∀i,i<n->t i=true)->e0 t n=n
 |0,_=>rfl
 |n+1,h=>by
  unfold e0
  rw[BX (n:=n) λi hi=>h i I,h n I]
  simp
theorem BY{T:aN}(h:1<=cl T):∃no,firstFree (λi=>T.f i||T.g i) T.n=some no:=by
 cases hf:firstFree (λi=>T.f i||T.g i) T.n with
 |some no=>exact⟨no,rfl⟩
 |none=>
  have:=BX (Gr hf);unfold cl at h;rw[this]at h;omega
structure dt(T ao:aN)(c c':dI)(m l:O Nat)(w w':J)(k:Nat):Prop where
 to:bN T ao w w' k
 E:ao.E=T.E
 G:∀q,T.G q->ao.G q
 root:ao.root=T.root
 aH:ao.aH=T.aH
 cb:c'.cb=c.cb
 made:c'.made=c.made++m
 left:c'.left=c.left++l
 bn:m.Nodup
 jK:∀no∈m,(T.f no||T.g no)=false/\no<T.n
 f:∀no,ao.f no=(T.f no||decide (no∈m))
 eN:∀no,(T.f no||T.g no)=true->ao.P no=T.P no/\ao.C.view no=T.C.view no
 room:cl ao+m.length=cl T
theorem dt.ext{w w':J}(T:aN)(c:dI)(h:Ext w w'):dt T T c c [] [] w w' 0:=
 ⟨.ext T h,rfl,λ_ h=>h,rfl,rfl,rfl,by simp,by simp,List.nodup_nil,λ_ h=>(by cases h),λno=>by simp,λ_ _=>⟨rfl,rfl⟩,by simp⟩
theorem dt.trans{T ao j:aN}{c c' o:dI}{m m' l p:O Nat}{w w' r:J}{k s:Nat}(h1:dt T ao c c' m l w w' k)(h2:dt ao j c' o m' p w' r s):dt T j c o (m++m') (l++p) w r (k+s):=by
 have hg:ao.g=T.g:=h1.to.g;have t:ao.n=T.n:=h1.to.n;have hf:∀no,(T.f no||T.g no)=true->(ao.f no||ao.g no)=true:=λno h=>by
  rw[h1.f,hg]
  cases d:T.f no<;>cases i:T.g no<;>simp[d,i]at h⊢
 refine⟨h1.to.trans h2.to,h2.E.trans h1.E,λq h=>h2.G q (h1.G q h),h2.root.trans h1.root,h2.aH.trans h1.aH,h2.cb.trans h1.cb,by rw[h2.made,h1.made,cO],by rw[h2.left,h1.left,cO],?_,λno h=>?_,λno=>?_,λno h=>?_,?_⟩
 .rw[oS]
  refine⟨h1.bn,h2.bn,λa u b v e=>?_⟩;subst e;have:=(h2.jK a v).1;rw[h1.f]at this;simp[u]at this
 .rcases cT.1 h with h|h
  .exact h1.jK no h
  .have d:=h2.jK no h
   rw[h1.f,hg,t]at d;refine⟨?_,d.2⟩
   cases x:T.f no<;>cases y:T.g no<;>simp[x,y]at d⊢
 .rw[h2.f,h1.f]
  simp only[cT,Bool.decide_or,Bool.or_assoc]
 .have d:=h2.eN no (hf no h)
  have i:=h1.eN no h;exact⟨d.1.trans i.1,d.2.trans i.2⟩
 .have:=h1.room
  have:=h2.room;rw[cz];omega
theorem dt.mono{T ao:aN}{c c':dI}{m l:O Nat}{w w':J}{k j:Nat}(h:dt T ao c c' m l w w' k)(a:k<=j):dt T ao c c' m l w w' j:=⟨h.to.mono a,h.E,h.G,h.root,h.aH,h.cb,h.made,h.left,h.bn,h.jK,h.f,h.eN,h.room⟩
def BZ(T:aN)(c:dI)(n:aD)(w:J)(v:aa)(w':J):Prop:=
 ∃ (no:Nat) (ao:aN) (c':dI),dr w' ao c'/\dt T ao c c' [no] [] w w' 1/\
  ((v=.tuple #[no,(0:Int)]/\ao.P no=some n)\/(v=.tuple #[no,(3:Int)]/\¬T.C.D.calm 1))
theorem cH.eS{n:aD}(h:cH n)(h2:bJ n<=400):n.keys.length<=200/\n.vals.length<=200/\n.kids.length<=201:=by
 have:=vl h;rcases h with h|h
 .have:=h.len
  have a:n.kids.length=0:=by rw[h.kids];rfl
  omega
 .have:=h.len
  have a:n.vals.length=0:=by rw[h.vals];rfl
  omega
theorem vL{B:Nat->Prop}{w:J}{T:aN}{c:dI}{n:aD}{K V D:Y}(h:dr w T c)(bf:T.C.D.aR<=900000100)(W:1<=cl T)(bg:c.made.length<=1000)(aG:bC B w n K V D)(hs:cH n)(h2:bJ n<=232):
 aQ aj 283 #[.pointer (some c.cb),c0 n K V D] w (BZ T c n w):=by
 obtain⟨no,X⟩:=BY W;obtain⟨u,y,_⟩:=BI X;have H:=h.t.s.bw;have bh:=hs.eS I;refine okF (af.uY (some c.cb) n.leaf K V D) aA.uY func283 ?_;(delta af.uY a_ U ag b_ ak eP st bD aC;dsimp only);refine bj (vs:=[n.leaf,K,V,D]) rfl λw1 Z ac bi=>?_;obtain⟨bT,aC,aU,aM⟩:=bF Z;refine⟨_,bT,K,aC,V,aU,D,aM,(pR (aG.ext ac) I I I).use ?_⟩;rintro _ aH ⟨aI,ae⟩;rcases aI with ⟨s,rfl,aK,aL,_,_⟩|⟨e,rfl,he,aO⟩
 rotate_left
 .have:=aO hs;omega
 have L:=ac.trans ae;have r:=h.ext L;refine⟨s,0,rfl,λd=>(by cases d),λ_=>⟨_,rfl,_,r.cells.1,_,rfl,_,r.t.cells.2.1,(BK r.t.s).use ?_⟩⟩;rintro _ aP ⟨rfl,gf,ah⟩;rw[X]at gf⊢;obtain⟨aS,M⟩:=r.t.vK gf ah;have ai:dr aP (T.iP (dj T.f no true)) c:=r.of aS ah (λq a hf=>(h.t.hD q a).2 hf) rfl λ_ h=>h;refine⟨(no:Nat),0,rfl,λd=>(by cases d),λ_=>⟨_,rfl,_,ai.cells.2.1,?_⟩⟩;obtain⟨z,al,av,ax,aT,aV,aX⟩:=GR ai no I;refine aW ⟨z,al,av,_,rfl,by rw[aw];exact aT,by rw[aw];exact aV,aW ?_⟩;rw[aw];obtain⟨o,am⟩:∃o,o=al.setCell ⟨c.cb,0+1,none⟩ z:=⟨_,rfl⟩;rw[←am];obtain⟨A,O⟩:=aX o am;obtain⟨an,bl⟩:∃an,an=λq=>T.G q\/aB z q:=⟨_,rfl⟩;have ap:∀q,T.N q->q<w.heap.size:=λq a=>h.t.lt (aN.gh a);have bm:=L.size;have bo:=M.ab.size;have bq:=O.ab.size;have ar:ad T.N aH o:=M.ab.trans O.ab;have aY:Var o w.heap.size [n.leaf,K,V,D] 202:=(Z.ext ae).ab ar λa=>by have:=ap _ a;omega
 have aZ:ba 1 5 o s (aJ (jq n)):=aK.ab ar λq a a0=>by have:=ap _ a0;have:=aL q a;omega
 have hlen:=xD hs;have H:2<=no:=by
  have e:(T.f no||T.g no)=false:=y;have F:T.g no=false:=by cases hg:T.g no<;>simp_all
  have:=h.t.low;rcases dJ no 2 with Q|Q
  .rcases nA no with au|au
   .rw[au,this.1]at F;cases F
   .rw[show no=1 from I,this.2]at F;cases F
  .exact Q
 have R:m9 ⟨if n.leaf then 1 else 2,T.gen,jq n⟩:=by
  refine⟨?_,?_,h.t.num.2.2,by show(jq n).length<=232;omega⟩
  .show 1<=(if n.leaf then 1 else 2);split<;>omega
  .show(if n.leaf then 1 else 2)<=4;split<;>omega
 refine cd (λn27 a1=>n27=((if n.leaf then 1 else 2:Nat):Int)/\a1=o) (λq a=>⟨n.leaf,aY.cell,λd=>a _ _ ⟨by rw[d];rfl,rfl⟩,λd=>a _ _ ⟨by rw[d];rfl,rfl⟩⟩) ?_;rintro _ _ ⟨rfl,rfl⟩;refine⟨_,rfl,_,A.cells.1,_,rfl,_,A.t.cells.2.2.1,(vw (no:=no) (p:=⟨if n.leaf then 1 else 2,T.gen,jq n⟩) aZ.src I R).use ?_⟩;rintro _ br ⟨s2,rfl,ay,az,a2⟩;have l:=A.ext az;refine⟨s2,0,rfl,λd=>(by cases d),λ_=>⟨_,rfl,_,l.cells.1,_,rfl,_,l.t.cells.1,(BB l.t.ca (by show T.C.D.aR<=999999999;omega) (no:=no) (by rw[l.t.n];exact u) H (λhs=>by have:=l.t.bI no hs;have e:(T.f no||T.g no)=false:=y;rcases this with this|this;(rw[show T.g no=true from this,Bool.or_true]at e;cases e);exact l.ns this) ay.src (rH no R) λq a=>⟨ba.lt ay q a,λhf=>?_⟩).use ?_⟩⟩
 .have:=a2 q a
  have:=A.t.lt (q:=q) (.inl hf);omega
 rintro _ a3 ⟨aE,a4,S,a5⟩;have a6:∀j,dj T.f no true j=(T.f j||decide (j∈ [no])):=λj=>by
  unfold dj;by_cases e:j=no
  .subst e;simp
  .simp[e]
 have aF:(T.f no||T.g no)=false:=y;have a7:T.n-e0 (λi=>dj T.f no true i||T.g i) T.n+1=cl T:=by
  have:=rX (s:=λi=>T.f i||T.g i) (t:=λi=>dj T.f no true i||T.g i) (k:=no) y (by simp[dj]) (λi hi=>by simp[dj,hi]) u;unfold cl at W⊢;have Q:=mn (λi=>T.f i||T.g i) T.n;omega
 have main:∀ (P':Nat->aq aD) (v:aa),(∀j,j≠no->P' j=T.P j)->(∀j,j≠no->aE.view j=T.C.view j)->(∀j bn,P' j=some bn->j<T.n/\gM T.gen bn.leaf j (aE.view j) bn)->
  ((v=.tuple #[no,(0:Int)]/\P' no=some n)\/(v=.tuple #[no,(3:Int)]/\¬T.C.D.calm 1))->BZ T c n w v a3:=by
  intro P' v a8 ei a9 m;obtain⟨bb,bc⟩:=l.t.qc (P:=P') a4 S a9;have bd:=l.of (ao:=((T.iP (dj T.f no true)).ck T.E λq=>T.G q\/aB z q).bk aE P') bb S.ab (λq a=>l.t.rW a) rfl (λ_ h=>h) S.bI;refine⟨no,_,_,bd,⟨?_,rfl,λq a=>.inl a,rfl,rfl,rfl,rfl,(fQ _).symm,by simp,λx hx=>?_,a6,λj b=>?_,a7⟩,m⟩
  .have:=(((bN.ext T L).trans M).trans O).trans ((bN.ext _ az).trans bc)
   exact this.mono I
  .obtain rfl:=fo.1 hx
   exact⟨aF,u⟩
  .have:j≠no:=λe=>by rw[e,aF]at b;cases b
   exact⟨a8 j this,ei j this⟩
 rcases a5 with ⟨rfl,m⟩|⟨rfl,be,m⟩
 .refine⟨0,rfl,main (λj=>if j=no then some n else T.P j) _ (λj b=>if_neg b) (λj b=>(m j).trans (if_neg b)) (λj bn b=>?_) (.inl ⟨rfl,if_pos rfl⟩)⟩
  by_cases e:j=no
  .subst e
   rw[if_pos rfl]at b
   cases b;rw[m,if_pos rfl];exact⟨u,_,vq I R,bp _,rfl,⟨hs,rfl,h2,rfl⟩,H⟩
  .rw[if_neg e]at b
   rw[m,if_neg e];exact h.t.eA j bn b
 .refine⟨3,rfl,main T.P _ (λ_ _=>rfl) (λj _=>m j) (λj bn b=>?_) (.inr ⟨rfl,be⟩)⟩
  rw[m];exact h.t.eA j bn b
end Go.Proofs.YtkdhdlfonmgheaaGreat
