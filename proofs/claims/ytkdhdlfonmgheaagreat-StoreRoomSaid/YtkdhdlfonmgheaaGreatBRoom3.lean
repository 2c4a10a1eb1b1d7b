/- Contracts of the functions that the statement reaches, and the plain laws over them; each theorem stands with its conditions. -/
import Derived.OpenShut
import Derived.Test.YtkdhdlfonmgheaaGreatRows
import Derived.Test.YtkdhdlfonmgheaaGreatBRoom2
namespace Go.Proofs.YtkdhdlfonmgheaaGreat
open Go a6 Go.Proofs.Tryz
def aX.c_(D:aX)(i:Nat):O cL:=match D.waits.find? λx=>x.i==i with
 |some x=>x.fI
 |none=> []
theorem tW(D:aX)(h:∀x∈D.waits,x.fI≠ [])(i:Nat):D.now i=if D.c_ i=[] then D.bc.getD i [] else (D.c_ i).getLastD []:=by
 unfold aX.now aX.c_
 cases hf:D.waits.find? λx=>x.i==i with
 |some x=>
  have hx:=iE hf;simp only;rw[if_neg (h x hx)]
 |none=>simp
def aX.calm(D:aX)(k:Nat):Prop:=(D.b6.getD 1 0= -1\/(k:Int)<=D.b6.getD 1 0)/\(D.b6.getD 2 0= -1\/(k:Int)<=D.b6.getD 2 0)
def aX.ji(D:aX):Int->Prop:=λn=>(∀j,D.bC j=true)->D.writes=n
def aX.ro(D:aX):Prop:=∀i,D.bC i=true
def aX.key(D:aX):(O cL×(Nat->ai)×(Nat->O cL)×(Int->Prop))×Int:=((D.bc,D.bC,D.dS,D.ji),D.b6.getD 3 0)
theorem cm{W V:Nat->Prop}{w w' b:J}(h1:ad W w w')(h2:ad V w' b)(h:∀q,q<w.heap.size->V q->W q):ad W w b:=
 ⟨h2.os.trans h1.os,h2.tape.trans h1.tape,h2.output.trans h1.output,eI h1.size h2.size,λk a cj=>(h2.block k (fl a h1.size) λc=>cj (h k a c)).trans (h1.block k a cj)⟩
theorem fJ{D:aX}{k l:Nat}(h:D.calm k)(a:l<=k):D.calm l:=⟨h.1.imp id λh=>I,h.2.imp id λh=>I⟩
theorem iN{D:aX}{k m:Nat}(c:k=1\/k=2)(e:D.b6.length=4)(h:D.calm (m+1)):(D.cf k).calm m/\D.fh k=false:=by
 obtain⟨h1,h2⟩:=h;have jc:1<D.b6.length:=by omega
 have d:2<D.b6.length:=by omega
 rcases c with rfl|rfl
 .have a:(D.cf 1).b6.getD 1 0=(fR (D.b6.getD 1 0)).2:=by
   show(D.b6.set 1 _).getD 1 0=_;rw[eQ (by rw[cY];omega),gW]
  have b:(D.cf 1).b6.getD 2 0=D.b6.getD 2 0:=by
   show(D.b6.set 1 _).getD 2 0=_;rw[eQ (by rw[cY];omega),e7 I,eQ d]
  unfold aX.calm aX.fh;rw[a,b];unfold fR;rcases h1 with h1|h1
  .rw[if_pos h1]
   exact⟨⟨.inl rfl,h2.imp id λh=>I⟩,rfl⟩
  .rw[if_neg I,if_neg I]
   exact⟨⟨.inr (by show(m:Int)<=_-1;omega),h2.imp id λh=>I⟩,rfl⟩
 .have a:(D.cf 2).b6.getD 2 0=(fR (D.b6.getD 2 0)).2:=by
   show(D.b6.set 2 _).getD 2 0=_;rw[eQ (by rw[cY];omega),gW]
  have b:(D.cf 2).b6.getD 1 0=D.b6.getD 1 0:=by
   show(D.b6.set 2 _).getD 1 0=_;rw[eQ (by rw[cY];omega),e7 I,eQ jc]
  unfold aX.calm aX.fh;rw[a,b];unfold fR;rcases h2 with h2|h2
  .rw[if_pos h2]
   exact⟨⟨h1.imp id λh=>I,.inl rfl⟩,rfl⟩
  .rw[if_neg I,if_neg I]
   exact⟨⟨h1.imp id λh=>I,.inr (by show(m:Int)<=_-1;omega)⟩,rfl⟩
theorem oW(D:aX){k:Nat}(a:k=1\/k=2):(D.cf k).key=D.key:=by
 unfold aX.key aX.cf;rcases a with rfl|rfl<;>simp[fg]<;>rfl
theorem wh{sz:Nat}{w:J}{s:Y}{α:Type}{c:α->O aa}{l:O α}(h:Src sz w s (b5 c l))(hc:∀x∈l,(c x).length=sz)(e:0<sz){i:Nat}(hi:i<l.length):
 s.len=l.length/\∃A,s.a=some A/\cz w (A.add (i*sz)) 0 sz=some (c l[i]):=by
 have b:s.len=l.length:=by
  have:=h.len;rw[gQ l hc]at this;exact(Nat.eq_of_mul_eq_mul_right e this).symm
 refine⟨b,?_⟩
 cases d:s.a with
 |none=>
  have:=congrArg List.length (h.nil d);rw[gQ l hc,jQ]at this;have:l.length*sz≠0:=Nat.mul_ne_zero I I;omega
 |some A=>
  refine⟨A,rfl,?_⟩;have f:i*sz+sz<=s.len*sz:=by
   rw[b,←Nat.succ_mul];exact nD _ hi
  rw[B8 (h.rd A d) f,zq hc hi]
def oX:O aa:=aF (List.replicate 256 0)
def wi(D:aX)(i:Nat)(w:J)(v:aa)(w':J):Prop:=v=.agg (aF (D.now i)).toArray/\Ext w w'
theorem zv{w:J}{D:aX}(h:cl w D){i:Nat}(hi:i<D.n)(Q:D.aM<=1000000000):
 aP ak 137 #[.pointer (some D.d),i] w (wi D i w):=by
 have R:=h.bp;have f:=h.ng hi;refine okF (af.sS (some D.d) (i:Int)) az.sS func137 ?_;(delta af.sS z4 al au vq U ag rT;dsimp only);refine bl (vs:=oX) (by kernel_rfl) λw1 g u _=>?_;have hd:=h.ext u;refine⟨_,rfl,some D.mr,hd.aW,?_⟩;have y:oX.length=256:=by rw[oX,dA,kS]
 have fin:∀ (K:O aa->J->Prop),(∀a,Ext w a->K (aF (D.now i)) a)->bt w1 w.heap.size (Array.toList (aF (D.now i)).toArray)/\Array.size (aF (D.now i)).toArray=256/\an (setCells w1 w.heap.size 0 (Array.toList (aF (D.now i)).toArray)) λa=>∃b:O aa,cz a w.heap.size 0 256=some b/\K b a:=by
  intro K E;refine⟨g.b2 (by rw[py,dA,f,y]) (by rw[py];exact k8 _),by simp[dA,f],cp g (us:=aF (D.now i)) (by rw[dA,f,y]) rfl λa F G _=>⟨_,F.rd (by rw[dA,f]),E a (Ext.ck u G (bo _))⟩⟩
 cases hf:D.waits.find? λx=>x.i==i with
 |some x=>
  have hx:=iE hf;have H:x.i=i:=by
   have:=jr hf;exact eq_of_beq this
  have j:=hd.m.ve nf kC (k:=(i:Int)) (v:=x.s) (dU.2 ⟨x,hx,by unfold gx.e;rw[H]⟩) false;have L:=(h.wn x hx).1;have hlen:0<x.fI.length:=qW.2 L;have S:=(h.wn x hx).2.2;obtain⟨z,A,ar,p⟩:=wh (hd.ws x hx).src (λs hs=>by rw[dA];exact h.jF x hx s hs) (by decide) (i:=x.fI.length-1) I;have q:D.now i=x.fI[x.fI.length-1]'I:=by
   unfold aX.now;rw[hf];show x.fI.getLastD []=_;rw[List.getLastD_eq_getLast?,List.getLast?_eq_getElem?,dE I];rfl
  refine⟨x.s,w1,j,λ_=>⟨A,ar,?_⟩,λr=>?_⟩
  .rw[z,bu (n:=(x.fI.length:Int)-1) I I]
   have M:Int.toNat ((x.fI.length:Int)-1)=x.fI.length-1:=by omega
   rw[M];refine⟨⟨I,I⟩,_,p,?_⟩;rw[←q];exact fin (λb a=>wi D i w (.agg b.toArray) a) λa t=>⟨rfl,t⟩
  .have:=cG r
   omega
 |none=>
  obtain⟨T,h1,h2⟩:=tU zt;have j:=hd.m.yt nf kC (k:=(i:Int)) h1 h2 (λv g=>by
   obtain⟨x,hx,he⟩:=dU.1 g;have N:=iY.1 hf x hx;unfold gx.e at he;simp only[Prod.mk.injEq]at he;apply N;have:x.i=i:=by omega
   rw[this];simp) false
  have B:i<D.bc.length:=hi;have q:D.now i=D.bc[i]:=by
   unfold aX.now;rw[hf];exact eQ B
  have P:Src 256 w1 ⟨some D.lb,D.bc.length,D.bc.length⟩ (b5 aF D.bc):=by
   have C:=gQ (c:=aF) (sz:=256) D.bc λs hs=>by rw[dA];exact h.sl s hs
   have:=bm.pY (sz:=256) (o:=0) (n:=D.bc.length) (cap:=D.bc.length) hd.l (by simp[C]);rw[lG,py,dP (by rw[C];exact bo _)]at this;exact this
  obtain⟨z,A,ar,p⟩:=wh P (λs hs=>by rw[dA];exact h.sl s hs) (by decide) B;refine⟨⟨none,0,0⟩,w1,j,λr=>by simp at r,λ_=>⟨_,rfl,_,hd.dj,A,ar,⟨I,by show(i:Int)<(D.bc.length:Int);omega⟩,_,p,?_⟩⟩;rw[←q];exact fin (λb a=>wi D i w (.agg b.toArray) a) λa t=>⟨rfl,t⟩
def DN(D:aX)(i:Nat)(w:J)(v:aa)(w':J):Prop:=
 cl w' (D.cf 1)/\ad (λq=>q=D.d) w w'/\
  ((D.fh 1=true/\v=.tuple #[(),(3:Int)])\/
   (D.fh 1=false/\∃s:Y,v=.tuple #[s,(0:Int)]/\bk (λq=>w.heap.size<=q) w' s (D.now i)))
theorem wj{w:J}{D:aX}(h:cl w D){i:Nat}(hi:i<D.n)(x:D.aM<=1000000000):
 aP ak 114 #[.pointer (some D.d),i] w (DN D i w):=by
 refine okF (af.sL (some D.d) (i:Int)) az.sL func114 ?_;(delta af.sL aH al rV gv z4 U;dsimp only);refine(zu h _).use ?_;rintro _ _ ⟨rfl,rfl⟩;refine⟨_,rfl,λa=>?_,λ_=>⟨_,rfl,(wg h (k:=1) (by decide)).use ?_⟩⟩
 .have a:¬(0<=(i:Int)/\(i:Int)<D.n):=by simpa using a
  omega
 rintro _ ah ⟨rfl,b,j,z⟩;refine⟨_,rfl,λa=>⟨b,j,.inl ⟨a,rfl⟩⟩,λa=>(zv b (i:=i) hi x).use ?_⟩;rintro _ m ⟨rfl,g⟩;have f:=h.ng hi;refine⟨_,rfl,bl (vs:=oX) (by kernel_rfl) λB p r C=>⟨p.b2 (by rw[py,dA];show(D.now i).length=_;rw[f,oX,dA,kS]) (by rw[py];exact k8 _),by rw[q4,dA];exact f,cp p (us:=aF (D.now i)) (by rw[dA,f,oX,dA,kS]) rfl λE s t F=>?_⟩⟩;have G:=g.size;have aK:D.d<ah.heap.size:=b.v.lt;refine⟨(b.ext (g.trans r)).ab t (λq u e=>by have:=b.lt u;omega),cm (j.trans (ad.cK (g.trans r))) t λq u e=>I,.inr ⟨a,⟨some m.heap.size,256,256⟩,rfl,?_,bo _,λk y=>?_⟩⟩
 .have:=s.vI (o:=0) (n:=256) (c:=256) (l:=D.now i) (by rw[dA,f];decide) (by rw[lG,dP (by rw[dA,f];decide)])
  exact this
 .obtain⟨A,ar,rfl⟩:=y
  cases ar;have:=s.lt;exact⟨by show w.heap.size<=m.heap.size;omega,this⟩
theorem zw:∀ (l:O aa) (k:Nat) (a:Array aa),(l.zipIdx k).foldl (λcs (p:aa×Nat)=>cs.setIfInBounds p.2 p.1) a=fZ a k l
 | [],_,_=>rfl
 |v::l,k,a=>by
  rw[List.zipIdx_cons,List.foldl_cons]
  exact zw l (k+1) (a.setIfInBounds k v)
theorem zx{P:Program}{T e:TypeId}{d:TypeDesc}{i:TypeInfo}{z:aa}{sz:Nat}{cs:Array aa}(w:J)(h1:P.underlying T=some (.slice e))(h2:P.underlying e=some d)(f:P.cellsOf e=sz)(hi:P.info? e=some i)(g:i.zero=some z)(a:cs.size=sz)(o:sz≠0)(q:sz<=16777216):
 Sem.run P (Instr.buildSlice T 1 #[(0,.agg cs)]) w=.ok (.slice (some w.heap.size) 1 1) (w.alloc (.cells cs e)):=by
 have b:=g_ (P:=P) (w:=w) h2;rw[f]at b;have h:Instr.fill (λi=>some (i*sz,sz)) ((Array.range (1*sz)).map λx=>z.cells[x%z.cells.size]!) [(0,.agg cs)]=some cs:=by
  have hc:(Value.agg cs).cells=cs:=rfl;rw[Instr.fill];simp only[hc];rw[if_neg (by simp[a]),Instr.fill];rw[←Array.foldl_toList,Array.toList_zipIdx];have e:(λ(cs:Array aa) (x:aa×Nat)=>match x with|(c,j)=>cs.setIfInBounds (0*sz+j) c)=λcs (p:aa×Nat)=>cs.setIfInBounds p.2 p.1:=by
   funext cs x;obtain⟨c,j⟩:=x;simp
  rw[e,zw]
  congr 1
  apply Array.toList_inj.1;rw[ku _ _ _ (by simp[a])];simp[a]
 have k:=lH (w:=w) hi;have l:¬(1*sz>2^24):=by
  have:(2:Nat)^24=16777216:=rfl;omega
 have m:¬(1*sz=0):=by omega
 have n:Instr.fill (λi=>some (i*sz,sz)) ((Array.range (1*sz)).map λx=>z.cells[x%z.cells.size]!) (#[(0,Value.agg cs)]:Array (Nat×aa)).toList=some cs:=h;simp only[Instr.buildSlice,Sem.run_bind,c2 h1,b,Result.andThen,l,m,if_false,zeroValue,k,g,Sem.run_pure,n];simp[newRow,newObj,Sem.run]
theorem zy(w:J)(l:cL)(a:l.length=256):
 Sem.run ak (Instr.buildSlice 136 1 #[(0,.agg (aF l).toArray)]) w=.ok (.slice (some w.heap.size) 1 1) (w.alloc (.cells (aF l).toArray 182)):=by
 have h:((Tryz.prog.info? 182).bind (·.zero)).isSome=true:=by kernel_rfl
 obtain⟨z,b⟩:=nz.1 h;obtain⟨i,hi,c⟩:=tU b;exact zx (d:=.array 256 5) (sz:=256) w (by kernel_rfl) (by kernel_rfl) (by kernel_rfl) hi c (by rw[q4,dA,a]) (by decide) (by decide)
theorem DO:hW ak 136 182 256 256:=⟨by kernel_rfl⟩
def aX.put(D:aX)(i:Nat)(s:Y)(l:cL):aX:=
 {D.cf 2 with waits:=⟨i,s,D.c_ i++ [l]⟩::D.waits.filter (λx=>x.i !=i),writes:=IntKind.wrap .i64 (D.writes+1),aM:=D.aM+1}
theorem zz{D:aX}{i j:Nat}(h:j≠i):(D.waits.filter λx=>x.i !=i).find? (λx=>x.i==j)=D.waits.find? λx=>x.i==j:=by
 rw[List.find?_filter]
 congr 1
 funext x;by_cases e:x.i=j
 .rw[e];simp[h]
 .simp[e]
theorem zA(D:aX)(i:Nat)(s:Y)(l:cL)(j:Nat):(D.put i s l).c_ j=if j=i then D.c_ i++ [l] else D.c_ j:=by
 unfold aX.c_ aX.put;by_cases h:j=i
 .subst h
  simp[aX.c_]
 .rw[if_neg h]
  simp only;rw[List.find?_cons_of_neg (by simp;omega),zz h]
theorem nh(D:aX)(i:Nat)(s:Y)(l:cL)(j:Nat):(D.put i s l).now j=if j=i then l else D.now j:=by
 unfold aX.now aX.put;by_cases h:j=i
 .subst h
  simp
 .rw[if_neg h]
  simp only;rw[List.find?_cons_of_neg (by simp;omega),zz h];rfl
def zB(D:aX)(i:Nat)(l:cL)(w:J)(v:aa)(w':J):Prop:=
 (D.fh 2=true/\v=.int .i64 3/\cl w' (D.cf 2)/\ad (λq=>q=D.d) w w')\/
 (D.fh 2=false/\v=.int .i64 0/\∃s:Y,cl w' (D.put i s l)/\ad (bG D) w w'/\∀q,aC s q->bG D q\/w.heap.size<=q)
theorem tX{w:J}{D:aX}{b:Y}{l:cL}(h:cl w D){i:Nat}(hi:i<D.n)(bf:D.aM<=1000000000)(W:Src 1 w b (aF l))(G:l.length=256)(hd:∀q,aC b q->¬bG D q):
 aP ak 75 #[.pointer (some ⟨D.d,0,none⟩),.int .i64 ((i:Nat):Int),.slice b.a b.len b.cap] w (zB D i l w):=by
 have aA:=len8 W;have bg:=h.bp;refine okF (af.sx (some ⟨D.d,0,none⟩) ((i:Nat):Int) b) az.sx func75 ?_;(delta af.sx aH al vl r1 st au;dsimp only);refine(zu h _).use ?_;rintro _ _ ⟨rfl,rfl⟩;have aS:decide (0<=(i:Int)/\(i:Int)<D.n)=true:=dL ⟨I,I⟩;refine⟨_,rfl,λh1=>?_,λ_=>⟨_,rfl,(wg h (k:=2) (by decide)).use ?_⟩⟩
 .rw[aS,aA,G]at h1
  simp at h1
 rintro _ ah ⟨rfl,H,X,bh⟩;refine⟨_,rfl,λZ=>.inl ⟨Z,rfl,H,X⟩,λZ=>aY ?_⟩;obtain⟨p,hold⟩:∃p:Y,(match D.waits.find? λx=>x.i==i with|some x=>x.s|none=>⟨none,0,0⟩)=p:=⟨_,rfl⟩;have t:=H.ext (cw ah);have aT:Src 1 ah.drew b (aF l):=(W.ab X λq f e=>hd q f (.inl e)).ext (cw ah)
 have aU:a7 256 182 ah.drew p (b5 aF (D.c_ i))/\(∀q,aC p q->bG D q/\q≠D.d/\q≠D.lb/\q≠D.mr)/\(∀x∈D.waits,x.i≠i->∀q,aC x.s q->¬aC p q)/\(D.c_ i).length<=D.aM/\(∀s∈D.c_ i,s.length=256)/\
  ∀w':J,dV w' D.mr encZ (D.waits.map gx.e)->Sem.run ak (Instr.lookup 137 (.map (some D.mr)) (.int .i64 ((i:Nat):Int)) false) w'=.ok (.slice p.a p.len p.cap) w':=by
  cases hf:D.waits.find? λx=>x.i==i with
  |some x=>
   rw[hf]at hold;have hold:x.s=p:=hold;subst hold;have hx:=iE hf;have R:x.i=i:=by
    have:=jr hf;exact eq_of_beq this
   have e:D.c_ i=x.fI:=by unfold aX.c_;rw[hf]
   rw[e];refine⟨t.ws x hx,λq f=>⟨.inr (.inr (.inr ⟨x,hx,f⟩)),λe=>(h.a2 x hx).1 (e▸f),λe=>(h.a2 x hx).2.1 (e▸f),λe=>(h.a2 x hx).2.2 (e▸f)⟩,λy r z=>h.a3 y r x hx I,(h.wn x hx).2.2,h.jF x hx,λw' K=>K.ve nf kC (k:=(i:Int)) (v:=.slice x.s.a x.s.len x.s.cap) (dU.2 ⟨x,hx,by unfold gx.e;rw[R]⟩) false⟩
  |none=>
   rw[hf]at hold;have hold:(⟨none,0,0⟩:Y)=p:=hold;subst hold;have e:D.c_ i=[]:=by unfold aX.c_;rw[hf]
   rw[e];obtain⟨bi,h1,h2⟩:=tU zt;refine⟨a7.none _ _ _,λq f=>(gu q f).elim,λx _ _ q _ f=>(gu q f).elim,cN _,λs hs=>(by cases hs),λw' K=>K.yt nf kC (k:=(i:Int)) h1 h2 (λv ac=>?_) false⟩;obtain⟨x,hx,he⟩:=dU.1 ac;have aV:=iY.1 hf x hx;unfold gx.e at he;simp only[Prod.mk.injEq]at he;apply aV;have:x.i=i:=by omega
   rw[this];simp
 obtain⟨aB,B,aD,bj,aE,aG⟩:=aU;obtain⟨A,ar,aZ⟩:∃A,b.a=some A/\cz ah.drew A 0 256=some (aF l):=by
  cases aI:b.a with
  |none=>
   have:=congrArg List.length (W.nil aI);rw[dA,G]at this
   cases this
  |some A=>
   refine⟨A,rfl,?_⟩;have:=aT.rd A aI;rwa[aA,G]at this
 have a0:¬aC p A.block:=λf=>hd _ ⟨A,ar,rfl⟩ (B _ f).1
 have aJ:∀C:J,Ext ah.drew C->∃ (g:Y) (j:J),Sem.run ak (Builtin.append_ #[136,136] 136 #[.slice p.a p.len p.cap,.slice (some ⟨C.heap.size,0,none⟩) 1 1]) (C.alloc (.cells (aF l).toArray 182))=.ok (.slice g.a g.len g.cap) j/\
  a7 256 182 j g (b5 aF (D.c_ i++ [l]))/\ad (aC p) C j/\(∀k,aC g k->aC p k\/C.heap.size<=k)/\ad (aC p) (C.alloc (.cells (aF l).toArray 182)) j:=by
  intro C a4;have hlen:p.len=(D.c_ i).length:=by
   have:=aB.1;rw[gQ (c:=aF) (sz:=256) _ λs hs=>by rw[dA];exact aE s hs]at this;omega
  have ag:=eu C (.cells (aF l).toArray 182);obtain⟨g,j,av,ax,E,L,M⟩:=DO.append (dG:=136) (x:=⟨some ⟨C.heap.size,0,none⟩,1,1⟩) (Src.new (T:=182) C (aF l) 1 (by rw[dA,G])) (aB.ext (a4.trans ag)) (k8 l) (by rw[hlen];show(2*(_+1)+1000)*256<=_;omega);refine⟨g,j,av,?_,(ad.cK ag).trans L,λk a5=>(M k a5).imp id λh=>?_,L⟩
  .rw[qv]
   have:b5 aF [l]=aF l:=by simp[b5]
   rw[this];exact ax
  .have:=ag.size;omega
 have aK:∀ (j:J) (g:Y),dV j D.mr encZ (D.waits.map gx.e)->∃o:J,Sem.run ak (Instr.mapUpdate 137 (.map (some D.mr)) (.int .i64 ((i:Nat):Int)) (.slice g.a g.len g.cap)) j=.ok () o/\ad (λq=>q=D.mr) j o/\
  dV o D.mr encZ ((gx.mk i g (D.c_ i++ [l])::D.waits.filter λx=>x.i !=i).map gx.e):=by
  intro j g K;have ai:=K.keys;rw[g8]at ai
  cases hf:D.waits.find? λx=>x.i==i with
  |some x=>
   have hx:=iE hf;have R:x.i=i:=by
    have:=jr hf;exact eq_of_beq this
   obtain⟨bq,bM,he⟩:=List.append_of_mem hx;have z:∀y∈bq++bM,y.i≠i:=by
    intro y r e;rw[he,fm,iC]at ai;have h1:=(lD.nodup_iff).1 ai;rw[List.nodup_cons]at h1;apply h1.1;rw[←fm];refine dU.2 ⟨y,r,?_⟩;show((y.i:Nat):Int)=((x.i:Nat):Int);omega
   have aj:D.waits.filter (λx=>x.i !=i)=bq++bM:=by
    rw[he,kj,List.filter_cons_of_neg (by simp[R])];rw[kO.2 λy r=>by have:=z y (iD _ r);simpa using this,kO.2 λy r=>by have:=z y (gV _ r);simpa using this]
   have a6:(D.waits.map gx.e).Perm (((i:Int),.slice x.s.a x.s.len x.s.cap)::(bq++bM).map gx.e):=by
    rw[he,fm,iC,fm];have:x.e=((i:Int),.slice x.s.a x.s.len x.s.cap):=by unfold gx.e;rw[R]
    rw[this];exact lD
   obtain⟨o,av,ax,_,E⟩:=DJ nf kC (K.perm a6) (.slice g.a g.len g.cap);refine⟨o,av,ax,?_⟩;rw[aj];exact E
  |none=>
   have z:∀y∈D.waits,y.i≠i:=λy r e=>by
    have:=iY.1 hf y r;rw[e]at this;simp at this
   have aj:D.waits.filter (λx=>x.i !=i)=D.waits:=kO.2 λy r=>by simpa using z y r
   obtain⟨o,av,ax,_,E⟩:=DI nf kC (k:=(i:Int)) K (λv ac=>by
    obtain⟨x,hx,he⟩:=dU.1 ac;unfold gx.e at he;simp only[Prod.mk.injEq]at he;exact z x hx I) (.slice g.a g.len g.cap)
   refine⟨o,av,ax,?_⟩;rw[aj];exact E
 have fin:∀ (j o:J) (g:Y),ad (aC p) ah.drew j->a7 256 182 j g (b5 aF (D.c_ i++ [l]))->(∀k,aC g k->aC p k\/ah.drew.heap.size<=k)->ad (λq=>q=D.mr) j o->dV o D.mr encZ ((gx.mk i g (D.c_ i++ [l])::D.waits.filter λx=>x.i !=i).map gx.e)->
  ∃aL:ae,(some ⟨D.d,0,none⟩:aq ae)=some aL/\∃n24:Int,o.cell? (aL.add 6)=some (.int .i64 n24)/\∃S:ae,(some ⟨D.d,0,none⟩:aq ae)=some S/\(∃u:aa,o.cell? (S.add 6)=some u)/\o.frozen? (S.add 6)=false/\an (o.setCell (S.add 6) (.int .i64 (IntKind.wrap .i64 (n24+1)))) λa8=>zB D i l w (.int .i64 0) a8:=by
  intro j o g U a9 am aN a_;have ba:=t.v.ab U λf=>(B _ f).2.1 rfl;have ao:Var o D.d (D.cf 2).c 141:=ba.ab aN h.a1.2.1;have hlen:(D.cf 2).c.length=7:=H.tV;obtain⟨s1,s2⟩:=dB ao (i:=6) (by rw[hlen];decide);have b8:o.cell? (Addr.add ⟨D.d,0,none⟩ 6)=some (.int .i64 D.writes):=by
   rw[ay,cE,ao.cell];unfold aX.c;have:=H.f4;rw[jP (by rw[dr];omega),dr,this];rfl
  rw[ay,cE]at b8;refine⟨_,rfl,D.writes,by rw[ay,cE];exact b8,_,rfl,by rw[ay,cE];exact s1,by rw[ay,cE];exact s2,?_⟩;rw[ay,cE];have aO:=dg o D.d 6 (.int .i64 (IntKind.wrap .i64 (D.writes+1)));have aQ:=dI ao (i:=6) (.int .i64 (IntKind.wrap .i64 (D.writes+1)));have bb:(D.cf 2).c.set 6 (.int .i64 (IntKind.wrap .i64 (D.writes+1)))=(D.put i g l).c:=by
   have bd:=H.f4;have N:(D.put i g l).c=(D.cf 2).b6.map (.int .i64)++ [.slice (some ⟨D.lb,0,none⟩) D.bc.length D.bc.length,.map (some D.mr),.int .i64 (IntKind.wrap .i64 (D.writes+1))]:=rfl;have O:(D.cf 2).c=(D.cf 2).b6.map (.int .i64)++ [.slice (some ⟨D.lb,0,none⟩) D.bc.length D.bc.length,.map (some D.mr),.int .i64 D.writes]:=rfl;rw[N,O,List.set_append_right _ _ (by rw[dr];omega),dr,bd];rfl
  rw[bb]at aQ;have V:ad (λq=>q=D.mr\/q=D.d) j (o.setCell ⟨D.d,6,none⟩ (.int .i64 (IntKind.wrap .i64 (D.writes+1)))):=(aN.mono λq _ e=>.inl e).trans (aO.mono λq _ e=>.inr e);have P:∀q,aC g q->q≠D.d/\q≠D.lb/\q≠D.mr:=λq f=>by
   have bk:=t.lt (q:=D.d) (.inl rfl);have bl:=t.lt (q:=D.lb) (.inr (.inl rfl));have bn:=t.lt (q:=D.mr) (.inr (.inr (.inl rfl)));rcases am q f with h1|h1
   .exact(B q h1).2
   .exact⟨I,I,I⟩
  have F:∀x∈D.waits.filter (λx=>x.i !=i),x∈D.waits/\x.i≠i:=λx hx=>by
   obtain⟨h1,h2⟩:=gI.1 hx;exact⟨h1,by simpa using h2⟩
  refine aY (.inr ⟨Z,rfl,g,⟨aQ,?_,?_,?_,?_,h.sl,?_,h.bJ,h.bp,H.f4,H.fr,h.a1,?_,?_⟩,?_,?_⟩)
  .exact bm.ab (bm.ab t.l U λf=>(B _ f).2.2.1 rfl) V (by
    rintro(e|e)
    .exact h.a1.2.2 e
    .exact h.a1.1 e.symm)
  .exact a_.ab aO (λe=>h.a1.2.1 e.symm)
  .intro x hx
   rcases cP.1 hx with rfl|hx
   .exact a9.ab V λq f=>by
     rintro(e|e)
     .exact(P q f).2.2 e
     .exact(P q f).1 e
   .obtain⟨h1,h2⟩:=F x hx
    refine((t.ws x h1).ab U λq f=>aD x h1 h2 q f).ab V λq f=>?_;rintro(e|e)
    .exact(h.a2 x h1).2.2 (e▸f)
    .exact(h.a2 x h1).1 (e▸f)
  .intro x hx
   rcases cP.1 hx with rfl|hx
   .refine⟨by simp,hi,?_⟩
    show(D.c_ i++ [l]).length<=D.aM+1;rw[cF,ie];omega
   .obtain⟨h1,h2⟩:=F x hx
    have:=h.wn x h1;exact⟨this.1,this.2.1,Nat.le_succ_of_le this.2.2⟩
  .intro x hx
   rcases cP.1 hx with rfl|hx
   .intro s hs
    rcases cH.1 hs with hs|hs
    .exact aE s hs
    .rw[e0.1 hs];exact G
   .exact h.jF x (F x hx).1
  .intro x hx
   rcases cP.1 hx with rfl|hx
   .exact⟨λf=>(P _ f).1 rfl,λf=>(P _ f).2.1 rfl,λf=>(P _ f).2.2 rfl⟩
   .exact h.a2 x (F x hx).1
  .have aR:∀y∈D.waits,y.i≠i->∀q,aC y.s q->¬aC g q:=λy r z q f Q=>by
    rcases am q Q with h1|h1
    .exact aD y r z q f h1
    .have:=(t.ws y r).lt q f;omega
   intro x hx y r z q f Q;rcases cP.1 hx with rfl|hx
   .rcases cP.1 r with rfl|r
    .exact z rfl
    .exact aR y (F y r).1 (λe=>z e.symm) q Q f
   .rcases cP.1 r with rfl|r
    .exact aR x (F x hx).1 z q f Q
    .exact h.a3 x (F x hx).1 y (F y r).1 z q f Q
  .refine((X.mono λq _ e=>.inl e).trans ((ad.cK (cw ah)).trans (U.mono λq _ f=>(B q f).1))).trans (V.mono λq _ f=>?_)
   rcases f with e|e
   .exact .inr (.inr (.inl e))
   .exact .inl e
  .intro q f
   rcases am q f with h1|h1
   .exact .inl (B q h1).1
   .have:ah.drew.heap.size=ah.heap.size:=rfl
    exact .inr I
 refine⟨aC p,_,rfl,λf=>(B _ f).2.1 rfl,some D.mr,t.aW,_,rfl,λf=>(B _ f).2.1 rfl,some D.mr,t.aW,I,A,ar,a0,_,aZ,⟨?_,?_⟩⟩
 .obtain⟨g,j,av,ax,E,L,M⟩:=aJ ah.drew (.refl _ _)
  have ap:=t.m.ab E λf=>(B _ f).2.2.2 rfl;obtain⟨o,N,O,aw⟩:=aK j g ap;exact⟨p,_,aG _ t.m,.refl _ _,⟨some ⟨ah.drew.heap.size,0,none⟩,1,1⟩,_,zy _ l G,ad.cK (eu _ _),g,j,av,M,o,N,fin j o g E ax L O aw⟩
 .obtain⟨g,j,av,ax,E,L,M⟩:=aJ ah.drew (.refl _ _)
  have be:=t.m.ext (eu ah.drew (.cells (aF l).toArray 182));have ap:=t.m.ab E λf=>(B _ f).2.2.2 rfl;obtain⟨o,N,O,aw⟩:=aK j g ap;exact⟨⟨some ⟨ah.drew.heap.size,0,none⟩,1,1⟩,_,zy _ l G,ad.cK (eu _ _),p,_,aG _ be,.refl _ _,g,j,av,M,o,N,fin j o g E ax L O aw⟩
theorem DP{P:Program}{e:TypeId}{v:aa}{sz:Nat}(a:((P.info? e).bind (·.zero)).map (·.cells)=some (List.replicate sz v).toArray)(hc:P.cellsOf e=sz)(hs:0<sz)(n:Nat):gC P e n=(List.replicate (n*sz) v).toArray:=by
 unfold gC;rw[hc]
 cases hi:(P.info? e).bind (·.zero) with
 |none=>rw[hi]at a;cases a
 |some z=>
  rw[hi]at a;simp only[lC,Option.some.injEq]at a;simp only[pj];apply Array.ext
  .simp
  .intro i h1 h2
   have b:n*sz≠0:=by
    intro h;simp[h]at h2
   simp only[b,if_false,a,Array.getElem_map,Array.getElem_range];have aK:i%sz<sz:=gB _ hs;simp[aK]
theorem DQ(m n:Nat):b5 aF (List.replicate n (List.replicate m 0))=List.replicate (n*m) (.int .u8 0):=by
 induction n with
 |zero=>simp[b5]
 |succ n a=>
  rw[List.replicate_succ,qw,a,kN,Nat.one_mul,Nat.add_comm];have e:aF (List.replicate m 0)=List.replicate m (Value.int .u8 0):=by simp[aF]
  rw[e,List.replicate_append_replicate]
def fK:cL:=List.replicate 256 0
theorem DR(n:Nat):gC ak 182 n=(b5 aF (List.replicate n fK)).toArray:=by
 unfold fK;rw[DQ];exact DP (by kernel_rfl) (by kernel_rfl) (by decide) n
def ni(n d lb mr:Nat):aX:=⟨d,lb,mr,[-1, -1, -1, -1],List.replicate n fK,[],0,0,λ_=>false,λ_=> []⟩
theorem zC{w:J}{b:Nat}{vs:O aa}{T:TypeId}(h:Var w b vs T)(g:4<=vs.length):
 aP ak 69 #[.pointer (some b)] w (λv w'=>v=.tuple #[]/\Var w' b (List.replicate 4 (.int .i64 (-1))++vs.drop 4) T/\ad (λq=>q=b) w w'/\w'.heap.size=w.heap.size):=by
 refine okF (af.sr (some b)) az.sr func69 ?_;(delta af.sr al st au;dsimp only);refine⟨λi w'=>∃j:Nat,i=j/\j<=4/\Var w' b (List.replicate j (.int .i64 (-1))++vs.drop j) T/\ad (λq=>q=b) w w'/\w'.heap.size=w.heap.size,λi _=>((4:Int)-i).toNat,⟨0,rfl,I,h,.refl _ _,rfl⟩,?_⟩;rintro _ w1 ⟨j,rfl,k,c,hc,f⟩;refine⟨λaK=>?_,λd=>?_⟩
 .have aK:j<4:=by have:=b_ aK;omega
  have a:Addr.add b (Int.toNat (j:Int)*1)=⟨b,j,none⟩:=by rw[di,fz,ay,cE]
  obtain⟨s1,s2⟩:=dB c (i:=j) (by simp;omega);rw[bu (n:=(j:Int)+1) I I];refine⟨_,rfl,⟨I,by show(j:Int)<4;omega⟩,by rw[a];exact s1,by rw[a];exact s2,aY ⟨⟨j+1,I,I,?_,?_,?_⟩,?_⟩⟩
  .have:=dI c (i:=j) (.int .i64 (-1))
   rw[a];have e:(List.replicate j (Value.int .i64 (-1))++vs.drop j).set j (.int .i64 (-1))=List.replicate (j+1) (.int .i64 (-1))++vs.drop (j+1):=by
    rw[List.set_append_right _ _ (by simp),kS,ml,lB (show j<vs.length from I),List.set_cons_zero,List.replicate_succ',cV];rfl
   rwa[e]at this
  .rw[a];exact hc.trans (dg _ _ _ _)
  .rw[a];simpa[World.setCell] using f
  .show((4:Int)-((j:Int)+1)).toNat<((4:Int)-(j:Int)).toNat
   omega
 .have d:j=4:=by have:=cG d;omega
  subst d;exact⟨rfl,c,hc,f⟩
theorem mM{n:Nat}(h1:16<=n)(h2:n<=1600)(w:J):
 aP ak 18 #[n] w (λv w'=>∃d lb mr:Nat,v=.tuple #[.pointer (some d),(0:Int)]/\cl w' (ni n d lb mr)/\Ext w w'/\∀q,bG (ni n d lb mr) q->w.heap.size<=q):=by
 refine okF (af.mM (n:Int)) az.mM func18 ?_;(delta af.mM al jy dj U aT;dsimp only);refine⟨λh=>?_,λ_=>⟨⟨I,I,I,I⟩,?_⟩⟩
 .simp only[ic,cR]at h;omega
 rw[DR,di];have g:=bm.new w (b5 aF (List.replicate n fK)).toArray 182;have i:=eu w (.cells (b5 aF (List.replicate n fK)).toArray 182);have j:=qt w (.cells (b5 aF (List.replicate n fK)).toArray 182);obtain⟨w1,k⟩:∃w1,w1=w.alloc (.cells (b5 aF (List.replicate n fK)).toArray 182):=⟨_,rfl⟩;rw[←k]at g i j⊢;obtain⟨av,ax⟩:=dV.make (P:=ak) (enc:=encZ) 137 w1;have a:=eu w1 (.map #[] 0);have l:=qt w1 (.map #[] 0);obtain⟨ah,m⟩:∃ah,ah=w1.alloc (.map #[] 0):=⟨_,rfl⟩;rw[←m]at av ax a l;refine aY ⟨some w1.heap.size,ah,av,#[(0:Int),(0:Int),(0:Int),(0:Int),.slice (some w.heap.size) n n,.map (some w1.heap.size),(0:Int)],by kernel_rfl,bl (vs:=[(0:Int),(0:Int),(0:Int),(0:Int),.slice (some w.heap.size) n n,.map (some w1.heap.size),(0:Int)]) rfl λr o b t=>⟨_,rfl,(zC o (by show 4<=7;decide)).use ?_⟩⟩;rintro _ u ⟨rfl,p,f,y⟩;refine⟨rfl,ah.heap.size,w.heap.size,w1.heap.size,rfl,⟨?_,?_,?_,λx hx=>(by cases hx),λx hx=>(by cases hx),λs hs=>?_,λx hx=>(by cases hx),?_,?_,rfl,λx hx=>?_,?_,λx hx=>(by cases hx),λx hx=>(by cases hx)⟩,Ext.ck (i.trans (a.trans b)) f I,?_⟩
 .have e:(ni n ah.heap.size w.heap.size w1.heap.size).c=List.replicate 4 (.int .i64 (-1))++ [Value.int .i64 0,(0:Int),(0:Int),(0:Int),.slice (some w.heap.size) n n,.map (some w1.heap.size),(0:Int)].drop 4:=by
   unfold aX.c ni;simp
  rw[e];exact p
 .exact bm.ab ((g.ext a).ext b) f (by show¬w.heap.size=ah.heap.size;omega)
 .exact(ax.ext b).ab f I
 .rw[q0 hs,fK,kS]
 .show 16<=(List.replicate n fK).length;simpa using h1
 .show(List.replicate n fK).length<=1600;simpa using h2
 .have:x= -1:=by
   simp[ni]at hx;exact hx
  subst this;exact⟨by decide,by decide⟩
 .exact⟨by show ah.heap.size≠w.heap.size;omega,by show ah.heap.size≠w1.heap.size;omega,by show w.heap.size≠w1.heap.size;omega⟩
 .rintro q (rfl|rfl|rfl|⟨x,hx,_⟩)
  .show w.heap.size<=ah.heap.size;omega
  .exact bo _
  .show w.heap.size<=w1.heap.size;omega
  .cases hx
structure Fr where
 full:ai
 fi:ai
 used:ai
 no:Int
 pins:Int
 b:Y
 l:cL
def Fr.c(f:Fr):O aa:=[f.full,f.fi,f.used,f.no,f.pins,f.b]
def dp:Fr:=⟨false,false,false,0,0,⟨none,0,0⟩,[]⟩
structure bT where
 c:Nat
 aU:Nat
 aj:O Fr
 hand:Nat
 D:aX
def cO(C:bT)(q:Nat):Prop:=q=C.c\/q=C.aU\/bG C.D q
structure eX(w:J)(C:bT):Prop where
 v:Var w C.c [.pointer (some C.D.d),.slice (some C.aU) C.aj.length C.aj.length,C.hand] 281
 f:bm w C.aU (b5 Fr.c C.aj).toArray 288
 dev:cl w C.D
 bN:8<=C.aj.length
 bZ:C.aj.length<=64
 hd:C.hand<C.aj.length
 a1:C.c≠C.aU/\¬bG C.D C.c/\¬bG C.D C.aU
structure zD(X:Nat->Prop)(w:J)(C:bT)(f:Fr)(no:Nat):Prop where
 num:f.no=no
 lt:no<C.D.n
 GA:bk (λq=>¬cO C q/\¬X q) w f.b f.l
 len:f.l.length=256
 clean:f.fi=false->f.l=C.D.now no
 bC:C.D.bC no=true->f.fi=false
 two:2<=no
structure fS(X:Nat->Prop)(w:J)(C:bT):Prop where
 pins:∀f∈C.aj,f.pins=0
 ok:∀f∈C.aj,f.full=true->∃no:Nat,zD X w C f no
 un:∀ (i j:Nat) (hi:i<C.aj.length) (a:j<C.aj.length),(C.aj[i]).full=true->(C.aj[j]).full=true->(C.aj[i]).no=(C.aj[j]).no->i=j
 eR:∀q,X q->q<w.heap.size/\¬cO C q
 j6:∀j,C.D.bC j=true->C.D.c_ j=C.D.dS j
def jG(aw D:aX):Prop:=aw.n=D.n/\(∀j,aw.bC j=true->D.bC j=true)/\∀j,aw.bC j=true->aw.c_ j=aw.dS j
theorem fS.qx{X:Nat->Prop}{w:J}{C:bT}(h:fS X w C):jG C.D C.D:=⟨rfl,λ_ h=>h,h.j6⟩
theorem fS.cf{X:Nat->Prop}{w:J}{C:bT}(h:fS X w C)(k:Nat):jG (C.D.cf k) C.D:=⟨rfl,λ_ h=>h,h.j6⟩
structure dD(X:Nat->Prop)(w:J)(C:bT):Prop where
 raw:eX w C
 inv:fS X w C
def bT.view(C:bT)(no:Nat):cL:=match C.aj.find? λf=>f.full&&f.no==(no:Int) with
 |some f=>f.l
 |none=>C.D.now no
theorem Fr.wk(f:Fr):f.c.length=6:=rfl
theorem tY(l:O Fr):∀x∈l,(Fr.c x).length=6:=λx _=>rfl
section
variable {w w':J}{C:bT}{X:Nat->Prop}
theorem eX.lt(h:eX w C){q:Nat}(a:cO C q):q<w.heap.size:=by
 rcases a with rfl|rfl|a
 .exact h.v.lt
 .exact bm.lt h.f
 .exact h.dev.lt a
theorem eX.ab{W:Nat->Prop}(h:eX w C)(hc:ad W w w')(a:∀q,cO C q->¬W q):eX w' C:=
 ⟨h.v.ab hc (a _ (.inl rfl)),bm.ab h.f hc (a _ (.inr (.inl rfl))),h.dev.ab hc λq b=>a q (.inr (.inr b)),h.bN,h.bZ,h.hd,h.a1⟩
theorem eX.ext(h:eX w C)(hc:Ext w w'):eX w' C:=h.ab hc λ_ _ h=>h
theorem fS.ab{W:Nat->Prop}(h:fS X w C)(hc:ad W w w')(b:∀q,W q->cO C q\/X q):fS X w' C:=
 ⟨h.pins,λf hf c=>by
  obtain⟨no,av,ax,d,e,g,i,j⟩:=h.ok f hf c
  exact⟨no,av,ax,bk.ab d hc λq a k=>by
   rcases b q k with h1|h1
   .exact a.1 h1
   .exact a.2 h1,e,g,i,j⟩,h.un,λq a=>⟨fl (h.eR q a).1 hc.size,(h.eR q a).2⟩,h.j6⟩
theorem dD.ab{W:Nat->Prop}(h:dD X w C)(hc:ad W w w')(b:∀q,W q->X q):dD X w' C:=
 ⟨h.raw.ab hc λq c a=>(h.inv.eR q (b q a)).2 c,h.inv.ab hc λq a=>.inr (b q a)⟩
theorem dD.ext(h:dD X w C)(hc:Ext w w'):dD X w' C:=h.ab hc λ_ h=>h.elim
theorem qy(aU i:Nat):Addr.add aU (Int.toNat (i:Int)*6)=⟨aU,i*6,none⟩:=by rw[di,ay,cE]
theorem eX.cells(h:eX w C):w.cell? C.c=some (.pointer (some C.D.d))/\w.cell? (Addr.add C.c 1)=some (.slice (some C.aU) C.aj.length C.aj.length)/\w.cell? (Addr.add C.c 2)=some (.int .i64 C.hand):=by
 rw[ay,ay];exact⟨h.v.cell,h.v.cell,h.v.cell⟩
theorem jj{w:J}{aU:Nat}{fs:O Fr}{T:TypeId}(h:bm w aU (b5 Fr.c fs).toArray T){i j:Nat}(hi:i<fs.length)(a:j<6):w.cell? ⟨aU,i*6+j,none⟩=((fs[i]).c)[j]? :=by
 rw[bm.cell h];simp only[ph];exact tT (tY fs) hi a
theorem l7{w:J}{aU:Nat}{fs:O Fr}{T:TypeId}(h:bm w aU (b5 Fr.c fs).toArray T){i j:Nat}(hi:i<fs.length)(a:j<6){v:aa}(b:Fr)(hf:b.c=(fs[i]).c.set j v):
 (∃u:aa,w.cell? ⟨aU,i*6+j,none⟩=some u)/\w.frozen? ⟨aU,i*6+j,none⟩=false/\bm (w.setCell ⟨aU,i*6+j,none⟩ v) aU (b5 Fr.c (fs.set i b)).toArray T/\ad (λq=>q=aU) w (w.setCell ⟨aU,i*6+j,none⟩ v):=by
 refine⟨⟨((fs[i]).c)[j]'(by rw[Fr.wk];exact a),by rw[jj h hi a,dE (by rw[Fr.wk];exact a)]⟩,bm.frozen h _ rfl,?_,dg _ _ _ _⟩;have:=dI (vs:=b5 Fr.c fs) h (i:=i*6+j) v;rw[DH (tY fs) hi a hf]at this;exact this
theorem wm{w:J}{aU:Nat}{fs:O Fr}{T:TypeId}(h:bm w aU (b5 Fr.c fs).toArray T){i:Nat}(hi:i<fs.length)(a:Fr):
 bt w ⟨aU,i*6,none⟩ a.c/\bm (setCells w ⟨aU,i*6,none⟩ 0 a.c) aU (b5 Fr.c (fs.set i a)).toArray T/\ad (λq=>q=aU) w (setCells w ⟨aU,i*6,none⟩ 0 a.c):=by
 have f:=gQ (c:=Fr.c) fs (tY fs);have d:i*6+a.c.length<=(b5 Fr.c fs).toArray.size:=by
  rw[q4,f,Fr.wk];omega
 refine⟨bm.b2 h _ _ d ?_,?_,ad.jW (.refl _ _) _ 0⟩
 .intro v b
  unfold Fr.c at b;simp only[cP,eE,eL]at b;rcases b with rfl|rfl|rfl|rfl|rfl|rfl<;>trivial
 .have h0:=bm.je (o:=i*6) h a.c
  have e:fZ (b5 Fr.c fs).toArray (i*6) a.c=(b5 Fr.c (fs.set i a)).toArray:=by
   have h1:=ku a.c (b5 Fr.c fs).toArray (i*6) d;have h2:=zr (tY fs) hi a;have g:a.c.length=6:=rfl;rw[g]at h1;have j:(fZ (b5 Fr.c fs).toArray (i*6) a.c).toList=b5 Fr.c (fs.set i a):=h1.trans h2;rw[←j]
  rw[e]at h0;exact h0
theorem zE(h:eX w C)(no:Int):aP ak 220 #[.pointer (some C.c),no] w (λv w'=>v=.bool (decide (0<=no/\no<C.D.n))/\w=w'):=by
 refine okF (af.tb (some C.c) no) az.tb func220 ?_;(delta af.tb al aB;dsimp only);refine ct (λb w'=>b=decide (0<=no/\no<C.D.n)/\w=w') (λq d=>⟨λa=>⟨_,rfl,_,h.cells.1,(oV h.dev).use ?_⟩,λa=>d _ _ ⟨?_,rfl⟩⟩) ?_
 .rintro _ _ ⟨rfl,rfl⟩
  have a:0<=no:=by simpa using a
  refine⟨_,rfl,d _ _ ⟨?_,rfl⟩⟩;rw[fD,cR,cR];exact⟨λh=>⟨a,h⟩,λh=>h.2⟩
 .have a:¬0<=no:=by simpa using a
  rw[ig (λh=>a h.1)]
 .rintro _ _ ⟨rfl,rfl⟩
  exact⟨rfl,rfl⟩
def AtR(C:bT)(no:Int)(v:aa):Prop:=
 (∃ (i:Nat) (hi:i<C.aj.length),v=.pointer (some ⟨C.aU,i*6,none⟩)/\(C.aj[i]).full=true/\(C.aj[i]).no=no)\/
 (v=.pointer none/\∀f∈C.aj,f.full=true->f.no≠no)
theorem tZ(h:eX w C)(no:Int):aP ak 201 #[.pointer (some C.c),no] w (λv w'=>AtR C no v/\w=w'):=by
 obtain⟨bI,aB,aT⟩:=h.cells;have d:=h.bZ;refine okF (af.s7 (some C.c) no) az.s7 func201 ?_;(delta af.s7 al ag aI a8 r1 au;dsimp only);refine⟨λh=>(by cases h),λ_=>⟨_,rfl,⟨some C.aU,C.aj.length,C.aj.length⟩,aB,λi w'=>∃j:Nat,i=j/\j<=C.aj.length/\w=w'/\∀ (k:Nat) (d:k<C.aj.length),k<j->(C.aj[k]).full=true->(C.aj[k]).no≠no,λi _=>((C.aj.length:Int)-i).toNat,⟨0,rfl,cN _,rfl,λk _ h=>I⟩,?_⟩⟩;rintro _ _ ⟨j,rfl,s,rfl,g⟩;refine⟨λaK=>?_,λe=>?_⟩
 .have aK:(j:Int)<(C.aj.length:Int):=b_ aK
  have aK:j<C.aj.length:=by omega
  refine⟨_,rfl,⟨some C.aU,C.aj.length,C.aj.length⟩,aB,_,rfl,⟨I,by show(j:Int)<(C.aj.length:Int);omega⟩,_,rfl,?_⟩;rw[qy];have f0:=jj h.f aK (j:=0) (by decide);have f3:=jj h.f aK (j:=3) (by decide);refine⟨(C.aj[j]).full,f0,ct (λb w'=>w=w'/\(b=true↔((C.aj[j]).full=true/\(C.aj[j]).no=no))) (λq l=>⟨λa=>⟨_,rfl,(C.aj[j]).no,by rw[ay];exact f3,l _ _ ⟨rfl,?_⟩⟩,λa=>l _ _ ⟨rfl,?_⟩⟩) ?_⟩
  .rw[jO]
   exact⟨λh=>⟨a,h⟩,λh=>h.2⟩
  .rw[a]
   exact⟨λh=>(by cases h),λh=>(by cases h.1)⟩
  rintro b w' ⟨rfl,a⟩;refine⟨λh1=>⟨.inl ⟨j,aK,rfl,(a.1 h1).1,(a.1 h1).2⟩,rfl⟩,λh1=>?_⟩;rw[bu (n:=(j:Int)+1) I I];refine⟨⟨j+1,I,I,rfl,λk d h2 m=>?_⟩,?_⟩
  .rcases dR k j with o|o
   .exact g k d o m
   .have:k=j:=by omega
    subst this;intro p;rw[a.2 ⟨m,p⟩]at h1;cases h1
  .show((C.aj.length:Int)-((j:Int)+1)).toNat<((C.aj.length:Int)-(j:Int)).toNat
   omega
 .have e:j=C.aj.length:=by
   have:¬((j:Int)<(C.aj.length:Int)):=cG e;omega
  subst e;refine⟨.inr ⟨rfl,λf hf r=>?_⟩,rfl⟩;obtain⟨k,d,rfl⟩:=eK hf;exact g k d d r
theorem DS(h:eX w C):aP ak 267 #[.pointer (some C.c)] w (λv w'=>((∃ (i:Nat) (hi:i<C.aj.length),v=.pointer (some ⟨C.aU,i*6,none⟩)/\(C.aj[i]).full=false)\/(v=.pointer none/\∀f∈C.aj,f.full=true))/\w=w'):=by
 obtain⟨bI,aB,aT⟩:=h.cells;have a:=h.bZ;refine okF (af.ti (some C.c)) az.ti func267 ?_;(delta af.ti ag al aI a8 au;dsimp only);refine⟨_,rfl,⟨some C.aU,C.aj.length,C.aj.length⟩,aB,λi w'=>∃j:Nat,i=j/\j<=C.aj.length/\w=w'/\∀ (k:Nat) (a:k<C.aj.length),k<j->(C.aj[k]).full=true,λi _=>((C.aj.length:Int)-i).toNat,⟨0,rfl,cN _,rfl,λk _ h=>I⟩,?_⟩;rintro _ _ ⟨j,rfl,l,rfl,e⟩;refine⟨λaK=>?_,λb=>?_⟩
 .have aK:(j:Int)<(C.aj.length:Int):=b_ aK
  have aK:j<C.aj.length:=by omega
  have f0:=jj h.f aK (j:=0) (by decide);refine⟨_,rfl,⟨some C.aU,C.aj.length,C.aj.length⟩,aB,_,rfl,⟨I,by show(j:Int)<(C.aj.length:Int);omega⟩,(C.aj[j]).full,by rw[qy];exact f0,λd=>⟨_,rfl,⟨some C.aU,C.aj.length,C.aj.length⟩,aB,_,rfl,⟨I,by show(j:Int)<(C.aj.length:Int);omega⟩,.inl ⟨j,aK,by rw[qy],by simpa using d⟩,rfl⟩,λd=>?_⟩;rw[bu (n:=(j:Int)+1) I I];refine⟨⟨j+1,I,I,rfl,λk a h2=>?_⟩,?_⟩
  .rcases dR k j with g|g
   .exact e k a g
   .have:k=j:=by omega
    subst this;simpa using d
  .show((C.aj.length:Int)-((j:Int)+1)).toNat<((C.aj.length:Int)-(j:Int)).toNat
   omega
 .have b:j=C.aj.length:=by
   have:¬((j:Int)<(C.aj.length:Int)):=cG b;omega
  subst b;refine⟨.inr ⟨rfl,λf hf=>?_⟩,rfl⟩;obtain⟨k,a,rfl⟩:=eK hf;exact e k a a
def gR(fs gs:O Fr):Prop:=gs.length=fs.length/\∀ (i:Nat) (h1:i<fs.length) (h2:i<gs.length),gs[i]={fs[i] with used:=(gs[i]).used}
theorem gR.refl(fs:O Fr):gR fs fs:=⟨rfl,λi h1 h2=>rfl⟩
theorem gR.set{fs gs:O Fr}(h:gR fs gs){i:Nat}(hi:i<gs.length)(u:ai):gR fs (gs.set i {gs[i] with used:=u}):=by
 refine⟨by rw[cY];exact h.1,λj h1 h2=>?_⟩;rw[q3];split
 .rename_i e
  subst e;have:=h.2 i h1 hi;rw[this]
 .exact h.2 j h1 _
theorem DT(h:eX w C)(A:∀f∈C.aj,f.pins=0):aP ak 268 #[.pointer (some C.c)] w (λv w'=>∃ (i:Nat) (gs:O Fr) (hd:Nat),i<C.aj.length/\v=.pointer (some ⟨C.aU,i*6,none⟩)/\gR C.aj gs/\eX w' {C with aj:=gs,hand:=hd}/\ad (λq=>q=C.c\/q=C.aU) w w'):=by
 obtain⟨bI,aB,aT⟩:=h.cells;have Q:=h.bN;have R:=h.bZ;have B:=h.hd;refine okF (af.tj (some C.c)) az.tj func268 ?_;(delta af.tj r1 ag al au aI a8 st;dsimp only);refine⟨_,rfl,_,aT,_,rfl,⟨some C.aU,C.aj.length,C.aj.length⟩,aB,λD i w'=>∃ (s:Nat) (gs:O Fr),i=s/\s<=C.aj.length/\D=(((C.hand+s)%C.aj.length:Nat):Int)/\gR C.aj gs/\eX w' {C with aj:=gs}/\ad (λq=>q=C.c\/q=C.aU) w w'/\∀ (t:Nat) (hx:(C.hand+t)%C.aj.length<gs.length),t<s->(gs[(C.hand+t)%C.aj.length]).used=false,
  λ_ i _=>(2*(C.aj.length:Int)-i).toNat,⟨0,C.aj,rfl,cN _,by rw[mj,iF B],gR.refl _,h,.refl _ _,λt _ h=>I⟩,?_⟩
 rintro _ _ w1 ⟨s,gs,rfl,hs,rfl,l,b,hc,p⟩;have r:gs.length=C.aj.length:=l.1;obtain⟨i,hi⟩:∃i,i=(C.hand+s)%C.aj.length:=⟨_,rfl⟩;have d:i<gs.length:=by rw[hi,r];exact gB _ I
 rw[←hi];obtain⟨d0,d1,d2⟩:=b.cells;have d1:w1.cell? (Addr.add C.c 1)=some (.slice (some C.aU) gs.length gs.length):=d1;have hf:bm w1 C.aU (b5 Fr.c gs).toArray 288:=b.f;rw[bu (n:=2*(C.aj.length:Int)) I I];have E:IntKind.wrap .i64 ((i:Int)+1)=((i+1:Nat):Int):=by rw[bu I I];rfl
 have u:Int.tmod ((i+1:Nat):Int) (gs.length:Int)=(((i+1)%gs.length:Nat):Int):=by
  rw[nJ I];rfl
 have F:(i+1)%gs.length=(C.hand+(s+1))%C.aj.length:=by
  rw[hi,r,Nat.mod_add_mod];rfl
 refine⟨λaK=>?_,λG=>?_⟩
 .refine ct (λa w'=>a=(((C.hand+(s+1))%C.aj.length:Nat):Int)/\∃g:O Fr,s+1<=C.aj.length/\gR C.aj g/\eX w' {C with aj:=g}/\ad (λq=>q=C.c\/q=C.aU) w w'/\∀ (t:Nat) (hx:(C.hand+t)%C.aj.length<g.length),t<s+1->(g[(C.hand+t)%C.aj.length]).used=false) (λq k=>⟨_,rfl,⟨some C.aU,gs.length,gs.length⟩,d1,_,rfl,⟨I,by show(i:Int)<(gs.length:Int);omega⟩,_,rfl,⟨some C.aU,gs.length,gs.length⟩,d1,by show(gs.length:Int)≠0;omega,_,rfl,?_⟩) ?_
  .rw[qy,E]
   have f4:=jj hf d (j:=4) (by decide);have f2:=jj hf d (j:=2) (by decide);have H:(gs[i]).pins=0:=by
    have h1:=l.2 i I d;have h2:(gs[i]).pins=(C.aj[i]'I).pins:=by rw[h1]
    rw[h2];exact A _ (cr _)
   refine⟨(gs[i]).pins,by rw[ay];exact f4,λx=>?_,λ_=>⟨_,rfl,(gs[i]).used,by rw[ay];exact f2,λhu=>⟨_,rfl,?_⟩,λhu=>⟨_,rfl,?_⟩⟩⟩
   .rw[H]at x;simp at x
   .have J:s<C.aj.length:=by
     rcases dR s C.aj.length with h1|h1
     .exact h1
     .have es:s=C.aj.length:=by omega
      have y:(C.hand+0)%C.aj.length=i:=by rw[hi,es,Nat.add_mod_right];rfl
      have h2:=p 0 (by rw[y];exact d) I;have m:(gs[i]).used=false:=by
       have e:gs[(C.hand+0)%C.aj.length]'(by rw[y];exact d)=gs[i]:=by congr 1
       rw[←e];exact h2
      rw[m]at hu;cases hu
    obtain⟨av,ax,K,o⟩:=l7 hf d (j:=2) (by decide) (v:=false) {gs[i] with used:=false} rfl;rw[ay];refine⟨av,ax,aY (k _ _ ⟨by rw[u,F],gs.set i {gs[i] with used:=false},J,l.set d false,?_,hc.trans (o.mono λq _ e=>.inr e),λt hx ht=>?_⟩)⟩
    .have L:=b.v.ab o h.a1.1
     refine⟨?_,K,b.dev.ab o (λq k e=>h.a1.2.2 (e▸k)),?_,?_,?_,h.a1⟩
     .show Var _ _ [_,.slice (some C.aU) (gs.set i _).length (gs.set i _).length,_] _
      rw[cY];exact L
     .show 8<=(gs.set i _).length;rw[cY];omega
     .show(gs.set i _).length<=64;rw[cY];omega
     .show C.hand<(gs.set i _).length;rw[cY];omega
    .rw[q3]
     split
     .rfl
     .rename_i M
      rcases dR t s with h1|h1
      .exact p t _ h1
      .have:t=s:=by omega
       subst this;exact absurd hi M
   .obtain⟨s1,s2⟩:=dB b.v (i:=2) (by simp)
    rw[ay,u];refine⟨s1,s2,aY ⟨i,gs,(i+1)%gs.length,I,rfl,l,?_,hc.trans ((dg _ _ _ _).mono λq _ e=>.inl e)⟩⟩;have z:=dg w1 C.c 2 (.int .i64 (((i+1)%gs.length:Nat):Int));refine⟨dI b.v (i:=2) (.int .i64 (((i+1)%gs.length:Nat):Int)),bm.ab hf z (λe=>h.a1.1 e.symm),b.dev.ab z (λq k e=>h.a1.2.1 (e▸k)),b.bN,b.bZ,?_,h.a1⟩;exact gB _ I
  .rintro a w' ⟨rfl,g,h1,h2,m,N,P⟩
   rw[bu (n:=(s:Int)+1) I I];refine⟨⟨s+1,g,I,h1,rfl,h2,m,N,P⟩,?_⟩;show(2*(C.aj.length:Int)-((s:Int)+1)).toNat<(2*(C.aj.length:Int)-(s:Int)).toNat;omega
 .have:=cG G
  omega
end
structure ec(C aD:bT)(w w':J)(k:Nat):Prop where
 c:aD.c=C.c
 d:aD.D.d=C.D.d
 len:aD.aj.length=C.aj.length
 bc:aD.D.key=C.D.key
 aM:aD.D.aM<=C.D.aM+k
 calm:∀m,C.D.calm (m+k)->aD.D.calm m
 ab:ad (cO C) w w'
 cS:∀q,cO aD q->cO C q\/w.heap.size<=q
theorem ec.refl(C:bT)(w:J):ec C C w w 0:=⟨rfl,rfl,rfl,rfl,bo _,λ_ h=>h,.refl _ _,λ_ h=>.inl h⟩
theorem ec.ext{w w':J}(C:bT)(h:Ext w w'):ec C C w w' 0:=⟨rfl,rfl,rfl,rfl,bo _,λ_ h=>h,ad.cK h,λ_ h=>.inl h⟩
theorem ec.trans{C aD a:bT}{w w' b:J}{k l:Nat}(h1:ec C aD w w' k)(h2:ec aD a w' b l):ec C a w b (k+l):=by
 have hs:=h1.ab.size;refine⟨h2.c.trans h1.c,h2.d.trans h1.d,h2.len.trans h1.len,h2.bc.trans h1.bc,by have:=h1.aM;have:=h2.aM;omega,λm f=>h2.calm m (h1.calm (m+l) (by rw[show m+l+k=m+(k+l) from I];exact f)),cm h1.ab h2.ab λq e h=>(h1.cS q h).resolve_right I,λq e=>?_⟩;rcases h2.cS q e with h|h
 .exact h1.cS q h
 .exact .inr I
theorem ec.mono{C aD:bT}{w w':J}{k l:Nat}(h:ec C aD w w' k)(b:k<=l):ec C aD w w' l:=
 ⟨h.c,h.d,h.len,h.bc,by have:=h.aM;omega,λm a=>h.calm m (fJ a I),h.ab,h.cS⟩
theorem ec.bC{C aD:bT}{w w':J}{k:Nat}(h:ec C aD w w' k):aD.D.bC=C.D.bC:=congrArg (λk:(O cL×(Nat->ai)×(Nat->O cL)×(Int->Prop))×Int=>k.1.2.1) h.bc
theorem ec.l8{C aD:bT}{w w':J}{k:Nat}(h:ec C aD w w' k):aD.D.bC=C.D.bC/\aD.D.dS=C.D.dS:=⟨h.bC,congrArg (λk:(O cL×(Nat->ai)×(Nat->O cL)×(Int->Prop))×Int=>k.1.2.2.1) h.bc⟩
theorem ec.n{C aD:bT}{w w':J}{k:Nat}(h:ec C aD w w' k):aD.D.n=C.D.n:=congrArg (λk:(O cL×(Nat->ai)×(Nat->O cL)×(Int->Prop))×Int=>k.1.1.length) h.bc
section
variable {w w':J}{C:bT}{X:Nat->Prop}
theorem lh{fs:O Fr}{D:aX}{c aU hd:Nat}(un:∀ (i j:Nat) (hi:i<fs.length) (d:j<fs.length),(fs[i]).full=true->(fs[j]).full=true->(fs[i]).no=(fs[j]).no->i=j){i:Nat}(hi:i<fs.length){no:Nat}(hf:(fs[i]).full=true)(e:(fs[i]).no=no):(bT.mk c aU fs hd D).view no=(fs[i]).l:=by
 unfold bT.view
 cases a:fs.find? λf=>f.full&&f.no==(no:Int) with
 |none=>
  have:=iY.1 a _ (cr hi);simp[hf,e]at this
 |some f=>
  have g:=iE a;have b:=jr a;simp only[dT,jO]at b;obtain⟨j,d,rfl⟩:=eK g;have:=un i j hi d hf b.1 (by rw[e,b.2]);subst this;simp only
theorem lj{fs:O Fr}{D:aX}{c aU hd:Nat}{no:Nat}(h:∀f∈fs,f.full=true->f.no≠no):(bT.mk c aU fs hd D).view no=D.now no:=by
 unfold bT.view
 cases b:fs.find? λf=>f.full&&f.no==(no:Int) with
 |none=>rfl
 |some f=>
  have d:=iE b;have a:=jr b;simp only[dT,jO]at a;exact absurd a.2 (h f d a.1)
theorem qz(D:aX)(k i:Nat):(D.cf k).now i=D.now i:=rfl
theorem bk.re{B b:Nat->Prop}{w w':J}{t:Y}{l:Key}{V:Nat->Prop}(h:bk B w t l)(hc:ad V w w')(c:∀q,q<w.heap.size->B q->¬V q)(d:∀q,q<w.heap.size->B q->b q):bk b w' t l:=
 ⟨h.1.ab hc λq a=>c q (h.2.2 q a).2 (h.2.2 q a).1,h.2.1,λq a=>⟨d q (h.2.2 q a).2 (h.2.2 q a).1,fl (h.2.2 q a).2 hc.size⟩⟩
theorem qA{gs:O Fr}{hd:Nat}{aw:aX}{V:Nat->Prop}(h:fS X w C)(hs:gR C.aj gs)(hc:ad V w w')(dJ:∀q,q<w.heap.size->V q->cO C q)(m:jG aw C.D)(u:∀i,aw.now i=C.D.now i)(v:∀q,bG aw q->bG C.D q\/w.heap.size<=q):fS X w' {C with aj:=gs,hand:=hd,D:=aw}:=by
 have x:=hc.size;have r:∀q,q<w.heap.size->cO {C with aj:=gs,hand:=hd,D:=aw} q->cO C q:=λq a hf=>by
  rcases hf with h1|h1|h1
  .exact .inl h1
  .exact .inr (.inl h1)
  .exact .inr (.inr ((v q h1).resolve_right I))
 have g:∀ (i:Nat) (hi:i<gs.length),∃c:i<C.aj.length,gs[i]={C.aj[i] with used:=(gs[i]).used}:=λi hi=>⟨by rw[←hs.1];exact hi,hs.2 i (by rw[←hs.1];exact hi) hi⟩;refine⟨λf hf=>?_,λf hf y=>?_,λi j hi z h1 h2 A=>?_,λq a=>⟨fl (h.eR q a).1 x,λhf=>(h.eR q a).2 (r q (h.eR q a).1 hf)⟩,m.2.2⟩
 .obtain⟨i,hi,rfl⟩:=eK hf
  obtain⟨c,e⟩:=g i hi;have:(gs[i]).pins=(C.aj[i]).pins:=by rw[e]
  rw[this];exact h.pins _ (cr c)
 .obtain⟨i,hi,rfl⟩:=eK hf
  obtain⟨c,e⟩:=g i hi;have n:(gs[i]).full=(C.aj[i]).full:=by rw[e]
  have o:(gs[i]).no=(C.aj[i]).no:=by rw[e]
  have p:(gs[i]).b=(C.aj[i]).b:=by rw[e]
  have d:(gs[i]).l=(C.aj[i]).l:=by rw[e]
  have s:(gs[i]).fi=(C.aj[i]).fi:=by rw[e]
  obtain⟨no,av,ax,B,E,F,G,H⟩:=h.ok _ (cr c) (by rw[←n];exact y);refine⟨no,by rw[o];exact av,by rw[m.1];exact ax,?_,by rw[d];exact E,λhd=>by rw[d,u];exact F (by rw[←s];exact hd),λhs=>by rw[s];exact G (m.2.1 _ hs),H⟩;rw[p,d];exact bk.re B hc (λq a k J=>k.1 (dJ q a J)) λq a k=>⟨λhf=>k.1 (r q a hf),k.2⟩
 .obtain⟨c,e⟩:=g i hi
  obtain⟨K,t⟩:=g j z;have n:(gs[i]).full=(C.aj[i]).full:=by rw[e]
  have o:(gs[i]).no=(C.aj[i]).no:=by rw[e]
  have p:(gs[j]).full=(C.aj[j]).full:=by rw[t]
  have d:(gs[j]).no=(C.aj[j]).no:=by rw[t]
  exact h.un i j c K (by rw[←n];exact h1) (by rw[←p];exact h2) (by rw[←o,←d];exact A)
theorem qB{gs:O Fr}{hd:Nat}{aw:aX}(h:fS X w C)(hs:gR C.aj gs)(r:∀i,aw.now i=C.D.now i)(no:Nat):(bT.mk C.c C.aU gs hd aw).view no=C.view no:=by
 have d:∀ (i:Nat) (hi:i<gs.length),∃g:i<C.aj.length,gs[i]={C.aj[i] with used:=(gs[i]).used}:=λi hi=>⟨by rw[←hs.1];exact hi,hs.2 i (by rw[←hs.1];exact hi) hi⟩;by_cases hex:∃ (i:Nat) (hi:i<C.aj.length),(C.aj[i]).full=true/\(C.aj[i]).no=no
 .obtain⟨i,hi,h1,h2⟩:=hex
  have n:i<gs.length:=by rw[hs.1];exact hi
  obtain⟨g,e⟩:=d i n;have k:(gs[i]).full=(C.aj[i]).full:=by rw[e]
  have m:(gs[i]).no=(C.aj[i]).no:=by rw[e]
  have s:(gs[i]).l=(C.aj[i]).l:=by rw[e]
  have t:∀ (i j:Nat) (hi:i<gs.length) (A:j<gs.length),(gs[i]).full=true->(gs[j]).full=true->(gs[i]).no=(gs[j]).no->i=j:=by
   intro a b u v bN bZ x;obtain⟨y,o⟩:=d a u;obtain⟨z,p⟩:=d b v;have f1:(gs[a]).full=(C.aj[a]).full:=by rw[o]
   have f2:(gs[a]).no=(C.aj[a]).no:=by rw[o]
   have f3:(gs[b]).full=(C.aj[b]).full:=by rw[p]
   have f4:(gs[b]).no=(C.aj[b]).no:=by rw[p]
   exact h.un a b y z (by rw[←f1];exact bN) (by rw[←f3];exact bZ) (by rw[←f2,←f4];exact x)
  rw[lh t n (by rw[k];exact h1) (by rw[m];exact h2),s];exact(lh (fs:=C.aj) (D:=C.D) (c:=C.c) (aU:=C.aU) (hd:=C.hand) h.un hi h1 h2).symm
 .have q:∀f∈C.aj,f.full=true->f.no≠no:=λf hf h1 h2=>by
   obtain⟨i,hi,rfl⟩:=eK hf;exact hex ⟨i,hi,h1,h2⟩
  have e:C.view no=C.D.now no:=lj (fs:=C.aj) (D:=C.D) (c:=C.c) (aU:=C.aU) (hd:=C.hand) q;rw[e,←r];refine lj λf hf h1 h2=>?_;obtain⟨i,hi,rfl⟩:=eK hf;obtain⟨g,e⟩:=d i hi;have k:(gs[i]).full=(C.aj[i]).full:=by rw[e]
  have m:(gs[i]).no=(C.aj[i]).no:=by rw[e]
  exact q _ (cr g) (by rw[←k];exact h1) (by rw[←m];exact h2)
theorem wo{i:Nat}(hi:i<C.aj.length){aw:aX}{V:Nat->Prop}(h:fS X w C)(hc:ad V w w')(dJ:∀q,q<w.heap.size->V q->cO C q)(l:jG aw C.D)
 (t:∀j:Nat,((C.aj[i]).full=true->(C.aj[i]).no≠j)->aw.now j=C.D.now j) (u:∀q,bG aw q->bG C.D q\/w.heap.size<=q) (f0:Fr) (m:f0.full=false) (v:f0.pins=0):fS X w' {C with aj:=C.aj.set i f0,D:=aw}:=by
 have x:=hc.size;have o:∀q,q<w.heap.size->cO {C with aj:=C.aj.set i f0,D:=aw} q->cO C q:=λq c hf=>by
  rcases hf with h1|h1|h1
  .exact .inl h1
  .exact .inr (.inl h1)
  .exact .inr (.inr ((u q h1).resolve_right I))
 refine⟨λf hf=>?_,λf hf d=>?_,λa b y g h1 h2 n=>?_,λq c=>⟨fl (h.eR q c).1 x,λhf=>(h.eR q c).2 (o q (h.eR q c).1 hf)⟩,l.2.2⟩
 .rcases kR hf with hf|rfl
  .exact h.pins f hf
  .exact v
 .obtain⟨k,z,rfl⟩:=eK hf
  have p:k<C.aj.length:=by simpa using z
  by_cases e:i=k
  .subst e
   simp only[gW]at d;rw[m]at d;cases d
  .simp only[e7 e]at d⊢
   obtain⟨no,av,ax,A,B,E,F,G⟩:=h.ok _ (cr p) d;refine⟨no,av,by rw[l.1];exact ax,bk.re A hc (λq c g H=>g.1 (dJ q c H)) λq c g=>⟨λhf=>g.1 (o q c hf),g.2⟩,B,λhd=>?_,λhs=>F (l.2.1 _ hs),G⟩;show _=aw.now no;rw[t no λJ he=>e (h.un i k hi p J d (by rw[he,av]))];exact E hd
 .have K:a<C.aj.length:=by simpa using y
  have L:b<C.aj.length:=by simpa using g
  by_cases r:i=a
  .subst r
   simp only[gW]at h1;rw[m]at h1;cases h1
  by_cases s:i=b
  .subst s
   simp only[gW]at h2;rw[m]at h2;cases h2
  simp only[e7 r]at h1 n;simp only[e7 s]at h2 n;exact h.un a b K L h1 h2 n
theorem zF{i:Nat}(hi:i<C.aj.length){aw:aX}{hd:Nat}(h:fS X w C)(v:(C.aj[i]).full=true->∀j:Nat,(C.aj[i]).no=j->aw.now j=(C.aj[i]).l)(x:∀j:Nat,((C.aj[i]).full=true->(C.aj[i]).no≠j)->aw.now j=C.D.now j)(f0:Fr)(m:f0.full=false)(no:Nat):
 (bT.mk C.c C.aU (C.aj.set i f0) hd aw).view no=C.view no:=by
 by_cases hex:∃ (k:Nat) (g:k<C.aj.length),(C.aj[k]).full=true/\(C.aj[k]).no=no
 .obtain⟨k,g,h1,h2⟩:=hex
  have o:=lh (fs:=C.aj) (D:=C.D) (c:=C.c) (aU:=C.aU) (hd:=C.hand) h.un g h1 h2;have o:C.view no=(C.aj[k]).l:=o;rw[o];by_cases e:i=k
  .subst e
   rw[←v h1 no h2];refine lj λf hf av ax=>?_;obtain⟨a,n,rfl⟩:=eK hf;have p:a<C.aj.length:=by simpa using n
   by_cases d:i=a
   .subst d
    simp only[gW]at av;rw[m]at av;cases av
   .simp only[e7 d]at av ax
    exact d (h.un i a hi p h1 av (by rw[h2,ax]))
  .have y:k<(C.aj.set i f0).length:=by simpa using g
   have q:(C.aj.set i f0)[k]=C.aj[k]:=e7 e _;have z:∀ (a b:Nat) (n:a<(C.aj.set i f0).length) (t:b<(C.aj.set i f0).length),((C.aj.set i f0)[a]).full=true->((C.aj.set i f0)[b]).full=true->((C.aj.set i f0)[a]).no=((C.aj.set i f0)[b]).no->a=b:=by
    intro a b n t h1 h2 r;have p:a<C.aj.length:=by simpa using n
    have A:b<C.aj.length:=by simpa using t
    by_cases d:i=a
    .subst d
     simp only[gW]at h1;rw[m]at h1;cases h1
    by_cases u:i=b
    .subst u
     simp only[gW]at h2;rw[m]at h2;cases h2
    simp only[e7 d]at h1 r;simp only[e7 u]at h2 r;exact h.un a b p A h1 h2 r
   rw[lh z y (by rw[q];exact h1) (by rw[q];exact h2),q]
 .have s:∀f∈C.aj,f.full=true->f.no≠no:=λf hf h1 h2=>by
   obtain⟨k,g,rfl⟩:=eK hf;exact hex ⟨k,g,h1,h2⟩
  have e:C.view no=C.D.now no:=lj (fs:=C.aj) (D:=C.D) (c:=C.c) (aU:=C.aU) (hd:=C.hand) s;rw[e,←x no λh1 h2=>s _ (cr hi) h1 h2];refine lj λf hf h1 h2=>?_;rcases kR hf with hf|rfl
  .exact s f hf h1 h2
  .rw[m]at h1;cases h1
theorem zG{X:Nat->Prop}{w:J}{C:bT}(h:fS X w C){no:Nat}{s:Y}{l:cL}(hs:¬C.D.bC no=true):jG (C.D.put no s l) C.D:=
 ⟨rfl,λ_ h=>h,λj a=>by
  have a:C.D.bC j=true:=a
  rw[zA,if_neg λe=>hs (by rw[←e];exact a)];exact h.j6 j a⟩
theorem zH(D:aX){no:Nat}{s:Y}{l:cL}(hs:¬D.bC no=true):(D.put no s l).key=D.key:=by
 have h1:=oW D (k:=2) (.inr rfl);unfold aX.key at h1⊢;have h2:(D.put no s l).ji=D.ji:=by
  funext n;exact propext ⟨λ_ h=>absurd (h no) hs,λ_ h=>absurd (h no) hs⟩
 rw[h2];have a:=congrArg Prod.snd h1;show((D.bc,D.bC,D.dS,D.ji),(D.cf 2).b6.getD 3 0)=_;have a:(D.cf 2).b6.getD 3 0=D.b6.getD 3 0:=a;rw[a]
def zI(X:Nat->Prop)(C:bT)(w:J)(v:aa)(w':J):Prop:=
 ∃aD:bT,dD X w' aD/\ec C aD w w' 1/\aD.aU=C.aU/\(∀j,aD.view j=C.view j)/\(∀f∈aD.aj,f.full=true->∃g∈C.aj,g.full=true/\g.no=f.no)/\
  ((∃ (i:Nat) (hi:i<aD.aj.length),v=.tuple #[.pointer (some ⟨C.aU,i*6,none⟩),(0:Int)]/\(aD.aj[i]).full=false/\((aD.aj[i]).pins=0))\/
   (v=.tuple #[.pointer none,(3:Int)]/\¬C.D.calm 1))
theorem zJ(h:dD X w C)(aA:C.D.aM<=1000000000):aP ak 221 #[.pointer (some C.c)] w (zI X C w):=by
 have U:=h.raw;refine okF (af.tc (some C.c)) az.tc func221 ?_;(delta af.tc jY al a8 r1 ag aB;dsimp only);refine(DS U).use ?_;rintro _ _ ⟨he,rfl⟩;rcases he with ⟨i,hi,rfl,hf⟩|⟨rfl,aC⟩
 .exact⟨_,rfl,λ_=>⟨C,h,(ec.refl C w).mono (cN _),rfl,λ_=>rfl,λf hf H=>⟨f,hf,H,rfl⟩,.inl ⟨i,hi,rfl,hf,h.inv.pins _ (cr hi)⟩⟩,λh=>(by cases h)⟩
 refine⟨_,rfl,λh=>(by cases h),λ_=>(DT U h.inv.pins).use ?_⟩;rintro _ w1 ⟨i,gs,hd,hi,rfl,z,r,aD⟩;have W:i<gs.length:=by rw[z.1];exact hi
 have L:ad (cO C) w w1:=aD.mono λq _ n=>by
  rcases n with n|n
  .exact .inl n
  .exact .inr (.inl n)
 have E:=qA (hd:=hd) (aw:=C.D) h.inv z L (λq _ h=>h) h.inv.qx (λ_=>rfl) λq n=>.inl n;have P:=qB (hd:=hd) (aw:=C.D) h.inv z λ_=>rfl;obtain⟨a,F⟩:∃a:bT,a={C with aj:=gs,hand:=hd}:=⟨_,rfl⟩;have E:fS X w1 a:=by rw[F];exact E
 have r:eX w1 a:=by rw[F];exact r
 have P:∀no,a.view no=C.view no:=by rw[F];exact P
 have Y:∀q,cO a q↔cO C q:=by rw[F];exact λq=>Iff.rfl
 have o:a.D=C.D:=by rw[F]
 have p:a.c=C.c/\a.aU=C.aU:=by rw[F];exact⟨rfl,rfl⟩
 have I:a.aj=gs:=by rw[F]
 have A:i<a.aj.length:=by rw[I];exact W
 have R:(a.aj[i]).full=true:=by
  have e:=z.2 i hi W;have:(gs[i]).full=(C.aj[i]).full:=by rw[e]
  simp only[I];rw[this];exact aC _ (cr hi)
 have Z:∀f∈a.aj,f.full=true->∃g∈C.aj,g.full=true/\g.no=f.no:=by
  rw[I];intro f hf H;obtain⟨k,aa,rfl⟩:=eK hf;have ac:k<C.aj.length:=by rw[←z.1];exact aa
  have e:=z.2 k ac aa;have aE:(gs[k]).full=(C.aj[k]).full:=by rw[e]
  have aF:(gs[k]).no=(C.aj[k]).no:=by rw[e]
  exact⟨C.aj[k],cr ac,by rw[←aE];exact H,aF.symm⟩
 obtain⟨no,av,ax,ai,aG,aH,aI⟩:=E.ok _ (cr A) R;have f1:=jj r.f A (j:=1) (by decide)
 have fin:∀ (ah:J) (aw:aX),ad (cO C) w1 ah->eX ah {a with D:=aw}->ec C {a with D:=aw} w ah 1->jG aw C.D->(∀j:Nat,(a.aj[i]).no≠j->aw.now j=C.D.now j)->(∀j:Nat,(a.aj[i]).no=j->aw.now j=(a.aj[i]).l)->(∀q,bG aw q->bG C.D q\/w1.heap.size<=q)->
  ∃S:ae,(some ⟨C.aU,i*6,none⟩:aq ae)=some S/\bt ah S [false,false,false,(0:Int),(0:Int),()]/\(6:Nat)=6/\an (setCells ah S 0 [false,false,false,(0:Int),(0:Int),()]) λaJ=>zI X C w (.tuple #[.pointer (some ⟨C.aU,i*6,none⟩),(0:Int)]) aJ:=by
  intro ah aw aK t B aL am aN K;have aO:bm ah a.aU (b5 Fr.c a.aj).toArray 288:=t.f;obtain⟨s1,s2,M⟩:=wm aO A dp;rw[p.2]at s1 s2 M;have aQ:fS X (setCells ah ⟨C.aU,i*6,none⟩ 0 dp.c) {a with aj:=a.aj.set i dp,D:=aw}:=by
   refine wo (V:=cO C) (w:=w1) A E (aK.trans (M.mono λq _ e=>.inr (.inl e))) (λq _ n=>(Y q).2 n) (by rw[o];exact aL) (λj u=>by rw[o];exact am j λe=>u R e) (λq n=>by rw[o];exact K q n) dp rfl rfl
  have aR:=t.v;refine⟨_,rfl,s1,rfl,aY ⟨{a with aj:=a.aj.set i dp,D:=aw},⟨?_,aQ⟩,?_,p.2,λj=>?_,λf hf H=>?_,.inl ⟨i,by show i<(a.aj.set i dp).length;rw[cY];exact A,rfl,by simp[dp],by simp[dp]⟩⟩⟩
  .have aS:a.c≠C.aU:=by have:=t.a1.1;rw[←p.2];exact this
   refine⟨?_,by show bm _ a.aU _ _;rw[p.2];exact s2,t.dev.ab M (λq n e=>t.a1.2.2 (by rw[show({a with D:=aw}:bT).aU=a.aU from rfl,p.2,←e];exact n)),?_,?_,?_,t.a1⟩
   .have:=aR.ab M aS
    show Var _ _ [_,.slice _ (a.aj.set i dp).length (a.aj.set i dp).length,_] _;rw[cY];exact this
   .show 8<=(a.aj.set i dp).length;rw[cY];exact t.bN
   .show(a.aj.set i dp).length<=64;rw[cY];exact t.bZ
   .show a.hand<(a.aj.set i dp).length;rw[cY];exact t.hd
  .refine⟨B.c,B.d,by show(a.aj.set i dp).length=_;rw[cY];exact B.len,B.bc,B.aM,B.calm,B.ab.trans (M.mono λq _ e=>.inr (.inl e)),B.cS⟩
  .rw[←P]
   exact zF A E (λ_ j u=>aN j u) (λj u=>by rw[o];exact am j λe=>u R e) dp rfl j
  .rcases kR hf with hf|rfl
   .exact Z f hf H
   .cases H
 refine⟨_,rfl,λh=>(by cases h),λ_=>jd (λah=>∃aw:aX,ad (cO C) w1 ah/\eX ah {a with D:=aw}/\ec C {a with D:=aw} w ah 1/\jG aw C.D/\(∀j:Nat,(a.aj[i]).no≠j->aw.now j=C.D.now j)/\(∀j:Nat,(a.aj[i]).no=j->aw.now j=(a.aj[i]).l)/\(∀q,bG aw q->bG C.D q\/w1.heap.size<=q)) (λq n=>⟨_,rfl,(a.aj[i]).fi,?_,λaT=>?_,λaV=>n _ ⟨C.D,.refl _ _,?_,?_,h.inv.qx,λ_ _=>rfl,λj u=>?_,λq h=>.inl h⟩⟩) ?_⟩
 .rw[ay,←p.2];exact f1
 .
  have Q:=cw w1;have y:=r.ext Q;obtain⟨ao,_,_⟩:=y.cells;rw[p.1,o]at ao;have f3:=jj y.f A (j:=3) (by decide);have f5:=jj y.f A (j:=5) (by decide);rw[p.2]at f3 f5;refine aY ⟨_,rfl,id,_,ao,_,rfl,id,(no:Int),?_,_,rfl,id,(a.aj[i]).b,by rw[ay];exact f5,?_⟩
  .rw[ay,f3]
   show some (Value.int .i64 (a.aj[i]).no)=_;rw[av]
  have aW:cl w1.drew C.D:=by rw[←o];exact y.dev
  have ap:¬C.D.bC no=true:=λhs=>by
   have:=aI (by rw[o];exact hs);rw[aT]at this;cases this
  refine(tX aW (i:=no) (by rw[←o];exact ax) aA (ai.1.ext Q) aG λq n hf=>(ai.2.2 q n).1.1 (.inr (.inr (by rw[o];exact hf)))).use ?_;rintro v2 ah aZ;rcases aZ with ⟨ar,rfl,T,G⟩|⟨ar,rfl,s,T,G,a0⟩
  .have N:ad (cO C) w1 ah:=(ad.cK Q).trans (G.mono λq _ e=>.inr (.inr (.inl e)))
   refine⟨3,rfl,λ_=>⟨{a with D:=C.D.cf 2},⟨?_,?_⟩,?_,p.2,λj=>?_,Z,.inr ⟨rfl,λa6=>?_⟩⟩,λh=>(by cases h)⟩
   .have t:=y.v.ab G (λe=>y.a1.2.1 (.inl (by rw[o];exact e)))
    rw[o]at t;have au:=r.a1;rw[o]at au;exact⟨t,bm.ab y.f G (λe=>y.a1.2.2 (.inl (by rw[o];exact e))),T,r.bN,r.bZ,r.hd,au⟩
   .have:=qA (C:=a) (hd:=a.hand) (aw:=C.D.cf 2) E (gR.refl _) N (λq _ n=>(Y q).2 n) (by rw[o];exact h.inv.cf 2) (λj=>by rw[o];rfl) λq n=>.inl (by rw[o];exact n)
    exact this
   .refine⟨p.1,rfl,by show a.aj.length=_;rw[I];exact z.1,oW C.D (.inr rfl),Nat.le_succ _,λm O=>(iN (.inr rfl) h.raw.dev.f4 O).1,L.trans N,λq n=>.inl ?_⟩
    rcases n with e|e|e
    .exact .inl (by rw[←p.1];exact e)
    .exact .inr (.inl (by rw[←p.2];exact e))
    .exact .inr (.inr e)
   .rw[←P]
    exact qB (C:=a) E (gR.refl _) (λj=>by rw[o];rfl) j
   .have:=(iN (k:=2) (m:=0) (.inr rfl) h.raw.dev.f4 a6).2
    rw[ar]at this;cases this
  .have N:ad (cO C) w1 ah:=(ad.cK Q).trans (G.mono λq _ e=>.inr (.inr e))
   have K:∀q,bG (C.D.put no s (a.aj[i]).l) q->bG C.D q\/w1.heap.size<=q:=by
    rintro q (e|e|e|⟨x,hx,e⟩)
    .exact .inl (.inl e)
    .exact .inl (.inr (.inl e))
    .exact .inl (.inr (.inr (.inl e)))
    .rcases cP.1 hx with rfl|hx
     .exact a0 q e
     .exact .inl (.inr (.inr (.inr ⟨x,(gI.1 hx).1,e⟩)))
   have cT:∀q,bG C.D q->q≠a.c/\q≠a.aU:=λq n=>⟨λe=>r.a1.2.1 (by rw[o,←e];exact n),λe=>r.a1.2.2 (by rw[o,←e];exact n)⟩;refine⟨0,rfl,λh=>(by cases h),λ_=>n _ ⟨C.D.put no s (a.aj[i]).l,N,?_,?_,zG h.inv ap,λj u=>?_,λj u=>?_,K⟩⟩
   .have t:=y.v.ab G (λe=>(cT _ e).1 rfl)
    rw[o]at t;have a7:a.c<w1.heap.size:=r.v.lt;have a9:a.aU<w1.heap.size:=bm.lt r.f;refine⟨t,bm.ab y.f G (λe=>(cT _ e).2 rfl),T,r.bN,r.bZ,r.hd,r.a1.1,λe=>?_,λe=>?_⟩
    .rcases K _ e with h1|h1
     .exact(cT _ h1).1 rfl
     .have:a.c<w1.heap.size:=a7
      have h1:w1.heap.size<=a.c:=h1;omega
    .rcases K _ e with h1|h1
     .exact(cT _ h1).2 rfl
     .have h1:w1.heap.size<=a.aU:=h1
      omega
   .refine⟨p.1,rfl,by show a.aj.length=_;rw[I];exact z.1,zH C.D ap,bo _,λm O=>(iN (.inr rfl) h.raw.dev.f4 O).1,L.trans N,λq n=>?_⟩
    rcases n with e|e|e
    .exact .inl (.inl (by rw[←p.1];exact e))
    .exact .inl (.inr (.inl (by rw[←p.2];exact e)))
    .rcases K q e with h1|h1
     .exact .inl (.inr (.inr h1))
     .exact .inr (eI L.size h1)
   .rw[nh,if_neg (λe=>u (by rw[av,e]))]
   .rw[nh,if_pos (by rw[av]at u;omega)]
 .rw[←o];exact r
 .refine⟨p.1,rfl,by show a.aj.length=_;rw[I];exact z.1,rfl,Nat.le_succ _,λm O=>fJ O (Nat.le_succ _),L,λq n=>.inl ?_⟩
  rcases n with e|e|e
  .exact .inl (by rw[←p.1];exact e)
  .exact .inr (.inl (by rw[←p.2];exact e))
  .exact .inr (.inr e)
 .have:no=j:=by rw[av]at u;omega
  subst this;rw[←o];exact(aH aV).symm
 .rintro ah ⟨aw,a1,a2,a3,a4,a5,de,dN⟩
  exact fin ah aw a1 a2 a3 a4 a5 de dN
end
def qC(fs:O Fr):Prop:=∀ (i j:Nat) (hi:i<fs.length) (a:j<fs.length),(fs[i]).full=true->(fs[j]).full=true->(fs[i]).no=(fs[j]).no->i=j
theorem zK{fs gs:O Fr}{D aw:aX}{c aU hd c' g h j:Nat}(n:qC fs)(o:qC gs)(h1:∀ (i:Nat) (hi:i<fs.length),(fs[i]).full=true->(fs[i]).no=j->∃ (k:Nat) (a:k<gs.length),(gs[k]).full=true/\(gs[k]).no=j/\(gs[k]).l=(fs[i]).l)
 (h2:(∀f∈fs,f.full=true->f.no≠j)->(∀f∈gs,f.full=true->f.no≠j)/\aw.now j=D.now j):(bT.mk c' g gs h aw).view j=(bT.mk c aU fs hd D).view j:=by
 by_cases hex:∃ (k:Nat) (a:k<fs.length),(fs[k]).full=true/\(fs[k]).no=j
 .obtain⟨k,a,av,ax⟩:=hex
  obtain⟨m,p,b,d,q⟩:=h1 k a av ax;rw[lh n a av ax,lh o p b d,q]
 .have e:∀f∈fs,f.full=true->f.no≠j:=λf hf h1 h2=>by
   obtain⟨k,a,rfl⟩:=eK hf;exact hex ⟨k,a,h1,h2⟩
  obtain⟨b,d⟩:=h2 e;rw[lj e,lj b,d]
section
variable {w w':J}{C:bT}{X:Nat->Prop}
theorem wq{i:Nat}(hi:i<C.aj.length){no:Nat}{V:Nat->Prop}(h:fS X w C)(hc:ad V w w')(dJ:∀q,q<w.heap.size->V q->cO C q){aw:aX}(r:jG aw C.D)(A:∀j,aw.now j=C.D.now j)(B:∀q,bG aw q↔bG C.D q)
 (d:Fr) (O:d.full=true) (E:d.pins=0) (s:zD X w' {C with aj:=C.aj.set i d,D:=aw} d no) (t:∀ (k:Nat) (u:k<C.aj.length),k≠i->(C.aj[k]).full=true->(C.aj[k]).no≠no):fS X w' {C with aj:=C.aj.set i d,D:=aw}:=by
 have F:=hc.size;have v:∀q,cO {C with aj:=C.aj.set i d,D:=aw} q->cO C q:=λq hf=>by
  rcases hf with h1|h1|h1
  .exact .inl h1
  .exact .inr (.inl h1)
  .exact .inr (.inr ((B q).1 h1))
 refine⟨λf hf=>?_,λf hf x=>?_,λa b G g h1 h2 c=>?_,λq o=>⟨fl (h.eR q o).1 F,λhf=>(h.eR q o).2 (v q hf)⟩,r.2.2⟩
 .rcases kR hf with hf|rfl
  .exact h.pins f hf
  .exact E
 .obtain⟨k,u,rfl⟩:=eK hf
  have H:k<C.aj.length:=by simpa using u
  by_cases e:i=k
  .subst e
   simp only[gW];exact⟨no,s⟩
  .simp only[e7 e]at x⊢
   obtain⟨m,av,ax,I,J,K,L,M⟩:=h.ok _ (cr H) x;exact⟨m,av,by show m<aw.n;rw[r.1];exact ax,bk.re I hc (λq o g N=>g.1 (dJ q o N)) λq _ g=>⟨λhf=>g.1 (v q hf),g.2⟩,J,λhd=>by show _=aw.now m;rw[A];exact K hd,λhs=>L (r.2.1 _ hs),M⟩
 .have y:a<C.aj.length:=by simpa using G
  have z:b<C.aj.length:=by simpa using g
  by_cases p:i=a
  .by_cases l:i=b
   .omega
   .subst p
    simp only[gW]at c;simp only[e7 l]at h2 c;exact absurd (by rw[←c];exact s.num) (t b z (λe=>l e.symm) h2)
  .by_cases l:i=b
   .subst l
    simp only[gW]at c;simp only[e7 p]at h1 c;exact absurd (by rw[c];exact s.num) (t a y (λe=>p e.symm) h1)
   .simp only[e7 p]at h1 c
    simp only[e7 l]at h2 c;exact h.un a b y z h1 h2 c
theorem DU{i:Nat}(hi:i<C.aj.length){no:Nat}(h:qC C.aj)(g:Fr)(j:g.no=no)(l:∀ (k:Nat) (q:k<C.aj.length),k≠i->(C.aj[k]).full=true->(C.aj[k]).no≠no):qC (C.aj.set i g):=by
 intro a b o p h1 h2 c;have m:a<C.aj.length:=by simpa using o
 have n:b<C.aj.length:=by simpa using p
 by_cases f:i=a
 .by_cases d:i=b
  .omega
  .subst f
   simp only[gW]at c;simp only[e7 d]at h2 c;exact absurd (by rw[←c];exact j) (l b n (λe=>d e.symm) h2)
 .by_cases d:i=b
  .subst d
   simp only[gW]at c;simp only[e7 f]at h1 c;exact absurd (by rw[c];exact j) (l a m (λe=>f e.symm) h1)
  .simp only[e7 f]at h1 c
   simp only[e7 d]at h2 c;exact h a b m n h1 h2 c
theorem wu{i:Nat}(hi:i<C.aj.length){no:Nat}(h:qC C.aj){aw:aX}(m:∀j,aw.now j=C.D.now j)(a:Fr)(n:a.full=true)(b:a.no=no)(hold:(C.aj[i]).full=true->(C.aj[i]).no=no)(o:∀ (k:Nat) (g:k<C.aj.length),k≠i->(C.aj[k]).full=true->(C.aj[k]).no≠no){hd:Nat}(j:Nat):
 (bT.mk C.c C.aU (C.aj.set i a) hd aw).view j=if j=no then a.l else C.view j:=by
 have hu:=DU hi h a b o;have p:i<(C.aj.set i a).length:=by simpa using hi
 by_cases e:j=no
 .subst e
  rw[if_pos rfl,lh hu p (by simp[n]) (by simpa using b)];simp
 .rw[if_neg e]
  refine zK (fs:=C.aj) (D:=C.D) (c:=C.c) (aU:=C.aU) (hd:=C.hand) h hu (λk g av ax=>?_) λq=>⟨λf hf av ax=>?_,m j⟩
  .have d:i≠k:=λr=>by
    subst r;have:=hold av;rw[ax]at this;exact e I
   have s:k<(C.aj.set i a).length:=by simpa using g
   exact⟨k,s,by simp only[e7 d];exact av,by simp only[e7 d];exact ax,by simp only[e7 d]⟩
  .rcases kR hf with hf|rfl
   .exact q f hf av ax
   .rw[b]at ax
    exact e I
def DV(X:Nat->Prop)(C:bT)(no:Nat)(w:J)(v:aa)(w':J):Prop:=
 ∃aD:bT,dD X w' aD/\ec C aD w w' 2/\(∀j,aD.view j=C.view j)/\
  ((∃s:Y,v=.tuple #[s,(0:Int)]/\bk (λq=>w.heap.size<=q/\¬cO aD q/\¬X q) w' s (C.view no))\/(v=.tuple #[(),(3:Int)]/\¬C.D.calm 2))
theorem DW(h:dD X w C)(a9:C.D.aM<=999999999){no:Nat}(aF:no<C.D.n)(aG:2<=no):aP ak 239 #[.pointer (some C.c),no] w (DV X C no w):=by
 have r:=h.raw;refine okF (af.td (some C.c) (no:Int)) az.td func239 ?_;(delta af.td aH al jY st ag aW dj b8;dsimp only);refine(zE r _).use ?_;rintro _ _ ⟨rfl,rfl⟩;refine⟨_,rfl,λF=>?_,λ_=>(tZ r _).use ?_⟩
 .have:decide (0<=(no:Int)/\(no:Int)<C.D.n)=true:=dL ⟨I,I⟩
  rw[this]at F;cases F
 rintro _ _ ⟨aI,rfl⟩;rcases aI with ⟨i,hi,rfl,hf,aJ⟩|⟨rfl,aK⟩
 .
  obtain⟨av,ax,M,J⟩:=l7 r.f hi (j:=2) (by decide) (v:=true) {C.aj[i] with used:=true} rfl;have ac:gR C.aj (C.aj.set i {C.aj[i] with used:=true}):=(gR.refl C.aj).set hi true;have K:ad (cO C) w (w.setCell ⟨C.aU,i*6+2,none⟩ true):=J.mono λq _ e=>.inr (.inl e);have hinv:=qA (hd:=C.hand) (aw:=C.D) h.inv ac K (λq _ h=>h) h.inv.qx (λ_=>rfl) λq p=>.inl p;have aL:=qB (hd:=C.hand) (aw:=C.D) h.inv ac λ_=>rfl;obtain⟨w1,ae⟩:∃w1,w1=w.setCell ⟨C.aU,i*6+2,none⟩ true:=⟨_,rfl⟩;rw[←ae]at M J K hinv;have N:eX w1 {C with aj:=C.aj.set i {C.aj[i] with used:=true}}:=by
   refine⟨?_,M,r.dev.ab J (λq p e=>r.a1.2.2 (e▸p)),?_,?_,?_,r.a1⟩
   .have:=r.v.ab J r.a1.1
    show Var _ _ [_,.slice _ (C.aj.set i _).length (C.aj.set i _).length,_] _;rw[cY];exact this
   .show 8<=(C.aj.set i _).length;rw[cY];exact r.bN
   .show(C.aj.set i _).length<=64;rw[cY];exact r.bZ
   .show C.hand<(C.aj.set i _).length;rw[cY];exact r.hd
  obtain⟨a,O⟩:∃a:bT,a={C with aj:=C.aj.set i {C.aj[i] with used:=true}}:=⟨_,rfl⟩;have P:dD X w1 a:=by rw[O];exact⟨N,hinv⟩
  have ai:i<(C.aj.set i {C.aj[i] with used:=true}).length:=by simpa using hi
  have f5:=jj M ai (j:=5) (by decide);obtain⟨m,bN,bZ,am,an,a_,ba,bb⟩:=hinv.ok ((C.aj.set i {C.aj[i] with used:=true})[i]) (cr ai) (by simp[hf]);have aN:((C.aj.set i {C.aj[i] with used:=true})[i]).b=(C.aj[i]).b:=by simp
  have ao:((C.aj.set i {C.aj[i] with used:=true})[i]).l=(C.aj[i]).l:=by simp
  rw[aN,ao]at am;rw[ao]at an;refine⟨_,rfl,λ_=>⟨_,rfl,by rw[ay];exact av,by rw[ay];exact ax,?_⟩,λh=>(by cases h)⟩;rw[ay,←ae];refine aY ⟨_,rfl,(C.aj[i]).b,by rw[ay,f5];simp[Fr.c],(jD (B:=λq=>w1.heap.size<=q) am.1 (by rw[an];omega) (λq p=>p)).use ?_⟩;rintro _ ah ⟨s,rfl,hs,ap,_⟩;have aO:C.view no=(C.aj[i]).l:=lh (fs:=C.aj) (D:=C.D) (c:=C.c) (aU:=C.aU) (hd:=C.hand) h.inv.un hi hf aJ;have aQ:=K.size;refine⟨s,rfl,a,P.ext ap,?_,?_,.inl ⟨s,rfl,?_⟩⟩
  .rw[O]
   exact⟨rfl,rfl,by show(C.aj.set i _).length=_;rw[cY],rfl,Nat.le_add_right _ _,λm Q=>fJ Q I,K.trans (ad.cK ap),λq p=>.inl p⟩
  .intro j;rw[O];exact aL j
  .rw[aO]
   refine bk.aV hs λq _ p=>⟨I,λhf=>?_,λG=>?_⟩
   .have:=P.raw.lt hf;omega
   .have:=(P.inv.eR q G).1;omega
 .
  refine⟨_,rfl,λh=>(by cases h),λ_=>(zJ h I).use ?_⟩;rintro _ w1 ⟨a,o,y,A,H,aR,N⟩;rcases N with ⟨i,hi,rfl,aS,bd⟩|⟨rfl,aT⟩
  .refine⟨_,_,rfl,λh=>(by simp at h),λ_=>⟨_,rfl,some C.D.d,?_,?_⟩⟩
   .have:=o.raw.cells.1
    rw[y.c,y.d]at this;exact this
   have R:no<a.D.n:=by rw[y.n];exact aF
   have be:=y.aM;rw[←y.d];refine(wj o.raw.dev R I).use ?_;rintro v2 ah ⟨aq,L,aX⟩;have ar:=λq=>o.raw.lt (q:=q);have S:ad (cO a) w1 ah:=L.mono λq _ e=>.inr (.inr (.inl e))
   have T:∀f∈a.aj,f.full=true->f.no≠no:=λf hf aZ a0=>by
    obtain⟨g,hg,h1,h2⟩:=aR f hf aZ;exact aK g hg h1 (by rw[h2,a0])
   have a2:a.D.calm 1\/¬C.D.calm 2:=by
    rcases Classical.em (C.D.calm 2) with h1|h1
    .exact .inl (y.calm 1 h1)
    .exact .inr h1
   have au:a.view no=a.D.now no:=lj (fs:=a.aj) (D:=a.D) (c:=a.c) (aU:=a.aU) (hd:=a.hand) T;have U:∀q,bG a.D q->q≠a.c/\q≠a.aU:=λq p=>⟨λe=>o.raw.a1.2.1 (e▸p),λe=>o.raw.a1.2.2 (e▸p)⟩;have a3:fS X ah {a with D:=a.D.cf 1}:=qA (C:=a) (hd:=a.hand) (aw:=a.D.cf 1) o.inv (gR.refl _) S (λq _ h=>h) (o.inv.cf 1) (λ_=>rfl) λq p=>.inl p;have u:ec C {a with D:=a.D.cf 1} w ah 2:=by
    have:ec a {a with D:=a.D.cf 1} w1 ah 1:=⟨rfl,rfl,rfl,oW a.D (.inl rfl),Nat.le_succ _,λm Q=>(iN (.inl rfl) o.raw.dev.f4 Q).1,S,λq p=>.inl p⟩;exact y.trans this
   have a4:∀j,({a with D:=a.D.cf 1}:bT).view j=C.view j:=λj=>by rw[←H];exact qB (C:=a) o.inv (gR.refl _) (λ_=>rfl) j
   have W:eX ah {a with D:=a.D.cf 1}:=⟨o.raw.v.ab L (λe=>(U _ (.inl rfl)).1 e.symm),bm.ab o.raw.f L (λe=>(U _ (.inl rfl)).2 e.symm),aq,o.raw.bN,o.raw.bZ,o.raw.hd,o.raw.a1⟩;rcases aX with ⟨F,rfl⟩|⟨F,s,rfl,hs⟩
   .refine⟨⟨none,0,0⟩,3,rfl,λ_=>⟨{a with D:=a.D.cf 1},⟨W,a3⟩,u,a4,.inr ⟨rfl,?_⟩⟩,λh=>(by simp at h)⟩
    rcases a2 with h1|h1
    .have:=(iN (k:=1) (m:=0) (.inl rfl) o.raw.dev.f4 h1).2
     rw[F]at this;cases this
    .exact h1
   .have aA:(a.D.now no).length=256:=o.raw.dev.ng R
    obtain⟨s1,s2,z⟩:=wm W.f hi ⟨true,false,true,(no:Int),0,s,a.D.now no⟩;rw[A]at s1 s2 z;have bf:=L.size;have aQ:=y.ab.size;refine⟨s,_,rfl,λh=>(by simp at h),λ_=>⟨_,rfl,s1,rfl,?_⟩⟩;obtain⟨x,aB⟩:∃x,x=setCells ah ⟨C.aU,i*6,none⟩ 0 (Fr.c ⟨true,false,true,(no:Int),0,s,a.D.now no⟩):=⟨_,rfl⟩;rw[←aB]at s2 z;have hg:setCells ah ⟨C.aU,i*6,none⟩ 0 [true,false,true,no,(0:Int),s]=x:=aB.symm;rw[hg];have aC:ad (cO a) ah x:=z.mono λq _ e=>.inr (.inl (by rw[A];exact e));have aD:bk (λq=>w1.heap.size<=q) x s (a.D.now no):=bk.ab hs z λq p e=>by
     have:=ar C.aU (.inr (.inl A.symm));omega
    have a5:fS X x {a with aj:=a.aj.set i ⟨true,false,true,(no:Int),0,s,a.D.now no⟩,D:=a.D.cf 1}:=by
     refine wq (w:=w1) (V:=cO a) (aw:=a.D.cf 1) hi (no:=no) o.inv (S.trans aC) (λq _ h=>h) (o.inv.cf 1) (λ_=>rfl) (λq=>Iff.rfl) ⟨true,false,true,(no:Int),0,s,a.D.now no⟩ rfl rfl ⟨rfl,R,?_,aA,λ_=>rfl,λ_=>rfl,aG⟩ λk Y _ h1=>T _ (cr Y) h1;refine bk.aV aD λq _ p=>⟨λhf=>?_,λG=>?_⟩
     .have:cO a q:=hf
      have:=ar q this;omega
     .have:=(o.inv.eR q G).1;omega
    have a6:∀j,({a with aj:=a.aj.set i ⟨true,false,true,(no:Int),0,s,a.D.now no⟩,D:=a.D.cf 1}:bT).view j=C.view j:=λj=>by
     have:=wu (hd:=a.hand) (aw:=a.D.cf 1) hi (no:=no) o.inv.un (λ_=>rfl) ⟨true,false,true,(no:Int),0,s,a.D.now no⟩ rfl rfl (λh1=>by rw[aS]at h1;cases h1) (λk Y _ h1=>T _ (cr Y) h1) j;rw[show({a with aj:=a.aj.set i ⟨true,false,true,(no:Int),0,s,a.D.now no⟩,D:=a.D.cf 1}:bT)=bT.mk a.c a.aU (a.aj.set i ⟨true,false,true,(no:Int),0,s,a.D.now no⟩) a.hand (a.D.cf 1) from rfl,this];by_cases e:j=no
     .rw[if_pos e,e,←H,au]
     .rw[if_neg e,H]
    have a7:eX x {a with aj:=a.aj.set i ⟨true,false,true,(no:Int),0,s,a.D.now no⟩,D:=a.D.cf 1}:=by
     refine⟨?_,by show bm _ a.aU _ _;rw[A];exact s2,aq.ab z (λq p e=>(U q p).2 (by rw[A];exact e)),?_,?_,?_,o.raw.a1⟩
     .have:=W.v.ab z (λe=>o.raw.a1.1 (by rw[A];exact e))
      show Var _ _ [_,.slice _ (a.aj.set i _).length (a.aj.set i _).length,_] _;rw[cY];exact this
     .show 8<=(a.aj.set i _).length;rw[cY];exact o.raw.bN
     .show(a.aj.set i _).length<=64;rw[cY];exact o.raw.bZ
     .show a.hand<(a.aj.set i _).length;rw[cY];exact o.raw.hd
    obtain⟨E,Z⟩:∃E:bT,E={a with aj:=a.aj.set i ⟨true,false,true,(no:Int),0,s,a.D.now no⟩,D:=a.D.cf 1}:=⟨_,rfl⟩;have aa:dD X x E:=by rw[Z];exact⟨a7,a5⟩
    have a8:ec C E w x 2:=by
     rw[Z];exact⟨u.c,u.d,by show(a.aj.set i _).length=_;rw[cY];exact u.len,u.bc,u.aM,u.calm,cm u.ab aC λq p h=>(u.cS q h).resolve_right I,u.cS⟩
    refine aY ((jD (B:=λq=>x.heap.size<=q) aD.1 (by rw[aA];omega) (λq p=>p)).use ?_);rintro _ bg ⟨t,rfl,ht,aE,_⟩;have bh:=z.size;refine⟨t,rfl,E,aa.ext aE,?_,?_,.inl ⟨t,rfl,?_⟩⟩
    .exact(a8.trans (ec.ext E aE)).mono I
    .intro j;rw[Z];exact a6 j
    .rw[←H,au]
     refine bk.aV ht λq _ p=>⟨I,λhf=>?_,λG=>?_⟩
     .have:=aa.raw.lt hf;omega
     .have:=(aa.inv.eR q G).1;omega
  .refine⟨_,_,rfl,λ_=>⟨a,o,y.mono I,H,.inr ⟨rfl,λhc=>aT (fJ hc I)⟩⟩,λh=>(by simp at h)⟩
end
section
variable {w w':J}{C:bT}{X:Nat->Prop}
def zL(X:Nat->Prop)(C:bT)(no:Nat)(l:cL)(w:J)(v:aa)(w':J):Prop:=
 ∃aD:bT,dD X w' aD/\ec C aD w w' 1/\
  ((v=.int .i64 0/\∀j,aD.view j=if j=no then l else C.view j)\/(v=.int .i64 3/\¬C.D.calm 1/\∀j,aD.view j=C.view j))
theorem wv{i:Nat}{a:Fr}(h:eX w C)(hc:ad (λq=>q=C.aU) w w')(b:bm w' C.aU (b5 Fr.c (C.aj.set i a)).toArray 288):eX w' {C with aj:=C.aj.set i a}:=by
 refine⟨?_,b,h.dev.ab hc (λq d e=>h.a1.2.2 (e▸d)),?_,?_,?_,h.a1⟩
 .have:=h.v.ab hc h.a1.1
  show Var _ _ [_,.slice _ (C.aj.set i _).length (C.aj.set i _).length,_] _;rw[cY];exact this
 .show 8<=(C.aj.set i _).length;rw[cY];exact h.bN
 .show(C.aj.set i _).length<=64;rw[cY];exact h.bZ
 .show C.hand<(C.aj.set i _).length;rw[cY];exact h.hd
theorem set_set{fs:O Fr}{i:Nat}(f g:Fr):(fs.set i f).set i g=fs.set i g:=List.set_set ..
theorem zM (h:dD X w C) (bu:C.D.aM≤999999999) {no:Nat} (aD:no<C.D.n) (aE:2≤no) (aG:¬C.D.bC no=true) {b:Y} {l:cL} (ag:Src 1 w b (aF l)) (ai:l.length=256) (am:∀q,aC b q→q<w.heap.size∧¬cO C q):
   aP ak 162 #[.pointer (some C.c),no,b] w (zL X C no l w):=by
 have O:=h.raw
 have aI:=len8 ag
 refine okF (af.sY (some C.c) (no:Int) b) az.sY func162 ?_
 (delta af.sY aH al jY dj st aW;dsimp only)
 refine(zE O _).use ?_
 rintro _ _ ⟨rfl,rfl⟩
 have aJ:decide (0≤(no:Int)∧(no:Int)<C.D.n)=true:=dL ⟨by omega,by omega⟩
 refine⟨_,rfl,fun h1=>?_,fun _=>(tZ O _).use ?_⟩
 · rw[aJ,aI,ai] at h1
   simp at h1
 rintro _ _ ⟨aK,rfl⟩
 have fin:∀ (w1:J) (a:bT) (i:Nat) (hi:i<a.aj.length) (f1:Fr),dD X w1 a→ec C a w w1 1→a.aU=C.aU→(∀j,a.view j=C.view j)→f1.pins=0→∀ah:J,bm ah a.aU (b5 Fr.c (a.aj.set i f1)).toArray 288→ad (fun q=>q=a.aU) w1 ah→f1.full=true→f1.no=(no:Int)→
     ((a.aj[i]).full=true→(a.aj[i]).no=(no:Int))→(∀ (k:Nat) (E:k<a.aj.length),k≠i→(a.aj[k]).full=true→(a.aj[k]).no≠(no:Int))→
     Calls ak 135 #[b] ah fun aL P=>∃ao:Y,aL= .returned ao∧∃G:ae,(some ⟨C.aU,i*6,none⟩:aq ae)=some G∧(∃u:aa,P.cell? (G.add 5)=some u)∧P.frozen? (G.add 5)=false∧
       an (P.setCell (G.add 5) ao) fun Q=>∃H:ae,(some ⟨C.aU,i*6,none⟩:aq ae)=some H∧(∃u:aa,Q.cell? (H.add 1)=some u)∧Q.frozen? (H.add 1)=false∧
       an (Q.setCell (H.add 1) true) fun R=>∃I:ae,(some ⟨C.aU,i*6,none⟩:aq ae)=some I∧(∃u:aa,R.cell? (I.add 2)=some u)∧R.frozen? (I.add 2)=false∧
       an (R.setCell (I.add 2) true) fun aN=>zL X C no l w (0:Int) aN:=by
   intro w1 a i hi f1 y o x aO S ah aQ K L ap hold ar
   have bv:=o.ab.size
   have bw:=K.size
   have bx:a.aU<w1.heap.size:=y.raw.lt (.inr (.inl rfl))
   have aR:Src 1 ah b (aF l):=by
     refine(ag.ab o.ab fun q m hf=>(am q m).2 hf).ab K fun q m e=>(am q m).2 (.inr (.inl (by rw[←x];exact e)))
   refine(jD (B:=fun q=>ah.heap.size≤q) aR (by omega) (fun q m=>m)).use ?_
   rintro _ aS ⟨s,rfl,hs,au,_⟩
   have aT:=bm.ext aQ au
   have T:i<(a.aj.set i f1).length:=by rw[cY];exact hi
   have U:(a.aj.set i f1)[i]=f1:=by simp
   obtain⟨a1,a2,a3,a4⟩:=l7 aT T (j:=5) (by decide) (v:=s) {f1 with b:=s} (by rw[U];rfl)
   rw[set_set] at a3
   have aX:i<(a.aj.set i {f1 with b:=s}).length:=by rw[cY];exact hi
   have aZ:(a.aj.set i {f1 with b:=s})[i]={f1 with b:=s}:=by simp
   obtain⟨cd,bQ,z,A⟩:=l7 a3 aX (j:=1) (by decide) (v:=true) {f1 with b:=s,fi:=true} (by rw[aZ];rfl)
   rw[set_set] at z
   have a0:i<(a.aj.set i {f1 with b:=s,fi:=true}).length:=by rw[cY];exact hi
   have a5:(a.aj.set i {f1 with b:=s,fi:=true})[i]={f1 with b:=s,fi:=true}:=by simp
   obtain⟨d1,d2,d3,d4⟩:=l7 z a0 (j:=2) (by decide) (v:=true) {f1 with b:=s,fi:=true,used:=true,l:=l} (by rw[a5];rfl)
   rw[set_set] at d3
   rw[x] at a1 a2 a3 a4 cd bQ z A d1 d2 d3 d4 K
   refine⟨s,rfl,_,rfl,by rw[ay];exact a1,by rw[ay];exact a2,?_⟩
   rw[ay]
   refine aY ⟨_,rfl,by rw[ay];exact cd,by rw[ay];exact bQ,?_⟩
   rw[ay]
   refine aY ⟨_,rfl,by rw[ay];exact d1,by rw[ay];exact d2,?_⟩
   rw[ay]
   have M:=(K.trans (ad.cK au)).trans (a4.trans (A.trans d4))
   obtain⟨t,r⟩:∃t:Fr,t={f1 with b:=s,fi:=true,used:=true,l:=l}:=⟨_,rfl⟩
   obtain⟨F,W⟩:∃F,F=(((aS.setCell ⟨C.aU,i*6+5,none⟩ s).setCell ⟨C.aU,i*6+1,none⟩ true).setCell ⟨C.aU,i*6+2,none⟩ true):=⟨_,rfl⟩
   rw[←W,←r] at d3
   rw[←W] at M⊢
   have a6:bk (fun q=>ah.heap.size≤q) F s l:=by
     have h1:=bk.ab hs a4 fun q m e=>by rw[←x] at e;omega
     have h2:=bk.ab h1 A fun q m e=>by rw[←x] at e;omega
     have a7:=bk.ab h2 d4 fun q m e=>by rw[←x] at e;omega
     rw[W];exact a7
   have a8:eX F {a with aj:=a.aj.set i t}:=wv y.raw (by rw[x];exact M) (by rw[x];exact d3)
   have a9:fS X F {a with aj:=a.aj.set i t}:=by
     refine wq (w:=w1) (V:=fun q=>q=C.aU) (aw:=a.D) hi (no:=no) y.inv M (fun q _ e=> .inr (.inl (by rw[x];exact e))) y.inv.qx (fun _=>rfl) (fun q=>Iff.rfl) t (by rw[r];exact L) (by rw[r];exact S) ⟨by rw[r];exact ap,by show no<a.D.n;rw[o.n];exact aD,?_,by rw[r];exact ai,fun hd=>(by rw[r] at hd;cases hd),fun hs=>absurd (by rw[←o.bC];exact hs) aG,aE⟩ ar
     rw[r]
     refine bk.aV a6 fun q _ m=>⟨fun hf=>?_,fun a_=>?_⟩
     · have:cO a q:=hf
       have:=y.raw.lt this;omega
     · have:=(y.inv.eR q a_).1;omega
   refine aY ⟨{a with aj:=a.aj.set i t},⟨a8,a9⟩,⟨o.c,o.d,by show(a.aj.set i _).length=_;rw[cY];exact o.len,o.bc,o.aM,o.calm,cm o.ab M fun q m e=> .inr (.inl e),o.cS⟩, .inl ⟨rfl,fun j=>?_⟩⟩
   have:=wu (C:=a) (hd:=a.hand) (aw:=a.D) hi (no:=no) y.inv.un (fun _=>rfl) t (by rw[r];exact L) (by rw[r];exact ap) hold ar j
   rw[show({a with aj:=a.aj.set i t}:bT)=bT.mk a.c a.aU (a.aj.set i t) a.hand a.D from rfl,this,aO]
   rw[r]
 rcases aK with ⟨i,hi,rfl,hf,Z⟩|⟨rfl,ba⟩
 · refine⟨_,rfl,ct (fun p w'=>p=some ⟨C.aU,i*6,none⟩∧w=w') (fun q m=>⟨fun h=>(by cases h),fun _=>m _ _ ⟨rfl,rfl⟩⟩) ?_⟩
   rintro _ _ ⟨rfl,rfl⟩
   have e:C.aj.set i C.aj[i]=C.aj:=List.set_getElem_self _
   exact fin w C i hi C.aj[i] h ((ec.refl C w).mono (cN _)) rfl (fun _=>rfl) (h.inv.pins _ (cr hi)) w (by rw[e];exact O.f) (.refl _ _) hf Z (fun _=>Z) fun k E bb h1 h2=>bb (h.inv.un k i E hi h1 hf (by rw[h2,Z]))
 · refine⟨_,rfl,ct (fun p ah=>∃ (w1:J) (a:bT) (i:Nat) (hi:i<a.aj.length) (f1:Fr),p=some ⟨C.aU,i*6,none⟩∧dD X w1 a∧ec C a w w1 1∧a.aU=C.aU∧(∀j,a.view j=C.view j)∧f1.pins=0∧bm ah a.aU (b5 Fr.c (a.aj.set i f1)).toArray 288∧ad (fun q=>q=a.aU) w1 ah∧f1.full=true∧f1.no=(no:Int)∧
     ((a.aj[i]).full=true→(a.aj[i]).no=(no:Int))∧(∀ (k:Nat) (E:k<a.aj.length),k≠i→(a.aj[k]).full=true→(a.aj[k]).no≠(no:Int))) (fun q m=>⟨fun _=>(zJ h (by omega)).use ?_,fun h=>(by cases h)⟩) ?_⟩
   · rintro _ w1 ⟨a,ac,aA,N,aB,bd,be⟩
     have bf:∀f∈a.aj,f.full=true→f.no≠(no:Int):=fun f hf L bg=>by
       obtain⟨g,hg,h1,h2⟩:=bd f hf L
       exact ba g hg h1 (by rw[h2,bg])
     rcases be with ⟨i,hi,rfl,bh,S⟩|⟨rfl,bi⟩
     · obtain⟨a1,a2,a3,a4⟩:=l7 ac.raw.f hi (j:=0) (by decide) (v:=true) {a.aj[i] with full:=true} rfl
       have T:i<(a.aj.set i {a.aj[i] with full:=true}).length:=by rw[cY];exact hi
       have U:(a.aj.set i {a.aj[i] with full:=true})[i]={a.aj[i] with full:=true}:=by simp
       obtain⟨cd,bQ,z,A⟩:=l7 a3 T (j:=3) (by decide) (v:=no) {a.aj[i] with full:=true,no:=(no:Int)} (by rw[U];rfl)
       rw[set_set] at z
       rw[N] at a1 a2 cd bQ z a4 A
       refine⟨_,_,rfl,fun h=>(by simp at h),fun _=>⟨_,rfl,a1,a2,aY ⟨_,rfl,by rw[ay];exact cd,by rw[ay];exact bQ,aY ?_⟩⟩⟩
       rw[ay]
       exact m _ _ ⟨w1,a,i,hi,{a.aj[i] with full:=true,no:=(no:Int)},rfl,ac,aA,N,aB,S,by rw[N];exact z,by rw[N];exact a4.trans A,rfl,rfl,fun h1=>(by rw[bh] at h1;cases h1),fun k E _ h1=>bf _ (cr E) h1⟩
     · exact⟨_,_,rfl,fun _=>⟨a,ac,aA, .inr ⟨rfl,bi,aB⟩⟩,fun h=>(by simp at h)⟩
   · rintro p ah ⟨w1,a,i,hi,f1,rfl,av,ax,bj,bl,bn,bo,bp,bq,br,bs,bt⟩
     exact fin w1 a i hi f1 av ax bj bl bn ah bo bp bq br bs bt
theorem zN(h:dD X w C)(no:Nat):aP ak 146 #[.pointer (some C.c),no] w (λv w'=>(∃b:ai,v=b)/\∃aD:bT,dD X w' aD/\ec C aD w w' 0/\(∀j,j≠no->aD.view j=C.view j)/\aD.D=C.D/\∀f∈aD.aj,f.full=true->f∈C.aj/\f.no≠(no:Int)):=by
 have d:=h.raw;refine okF (af.sV (some C.c) (no:Int)) az.sV func146 ?_;(delta af.sV jY al r1;dsimp only);refine(tZ d _).use ?_;rintro _ _ ⟨u,rfl⟩;rcases u with ⟨i,hi,rfl,hf,p⟩|⟨rfl,x⟩
 .have f4:=jj d.f hi (j:=4) (by decide)
  have y:=h.inv.pins _ (cr hi);refine⟨_,rfl,ct (λb w'=>b=false/\w=w') (λq g=>⟨λh=>(by cases h),λ_=>⟨_,rfl,(C.aj[i]).pins,by rw[ay];exact f4,g _ _ ⟨by rw[y];rfl,rfl⟩⟩⟩) ?_⟩;rintro _ _ ⟨rfl,rfl⟩;obtain⟨s1,s2,l⟩:=wm d.f hi dp;refine⟨λh=>(by cases h),λ_=>⟨_,rfl,s1,rfl,aY ⟨⟨true,rfl⟩,{C with aj:=C.aj.set i dp},⟨wv d l s2,?_⟩,?_,λj z=>?_,rfl,λf A av=>?_⟩⟩⟩
  .exact wo (V:=λq=>q=C.aU) (aw:=C.D) hi h.inv l (λq _ e=>.inr (.inl e)) h.inv.qx (λ_ _=>rfl) (λq h=>.inl h) dp rfl rfl
  .exact⟨rfl,rfl,by show(C.aj.set i _).length=_;rw[cY],rfl,bo _,λ_ h=>h,l.mono λq _ e=>.inr (.inl e),λq h=>.inl h⟩
  .refine zK (fs:=C.aj) (D:=C.D) (c:=C.c) (aU:=C.aU) (hd:=C.hand) h.inv.un (λa b B E h1 h2 m=>?_) (λk n av ax=>?_) λF=>⟨λf hf av ax=>?_,rfl⟩
   .have G:a<C.aj.length:=by simpa using B
    have H:b<C.aj.length:=by simpa using E
    by_cases r:i=a
    .subst r
     simp[dp]at h1
    by_cases s:i=b
    .subst s
     simp[dp]at h2
    simp only[e7 r]at h1 m;simp only[e7 s]at h2 m;exact h.inv.un a b G H h1 h2 m
   .have o:i≠k:=λe=>by
     subst e;rw[p]at ax;exact z I
    exact⟨k,by rw[cY];exact n,by simp only[e7 o];exact av,by simp only[e7 o];exact ax,by simp only[e7 o]⟩
   .rcases kR hf with hf|rfl
    .exact F f hf av ax
    .cases av
  .obtain⟨k,n,rfl⟩:=eK A
   have t:k<C.aj.length:=by simpa using n
   by_cases e:i=k
   .subst e
    simp[dp]at av
   .simp only[e7 e]at av⊢
    exact⟨cr t,λax=>e (h.inv.un i k hi t hf av (p.trans ax.symm))⟩
 .refine⟨_,rfl,ct (λb w'=>b=true/\w=w') (λq g=>⟨λ_=>g _ _ ⟨rfl,rfl⟩,λh=>(by cases h)⟩) ?_⟩
  rintro _ _ ⟨rfl,rfl⟩;exact⟨λ_=>⟨⟨false,rfl⟩,C,h,ec.refl C w,λ_ _=>rfl,rfl,λf hf av=>⟨hf,x f hf av⟩⟩,λh=>(by cases h)⟩
end
theorem DX(n:Nat):gC ak 288 n=(b5 Fr.c (List.replicate n dp)).toArray:=by
 have a:((Tryz.prog.info? 288).bind (·.zero)).map (·.cells)=some dp.c.toArray:=by kernel_rfl
 have hc:Tryz.prog.cellsOf 288=6:=by kernel_rfl
 unfold gC;rw[hc]
 cases hi:(Tryz.prog.info? 288).bind (·.zero) with
 |none=>rw[hi]at a;cases a
 |some z=>
  rw[hi]at a;simp only[lC,Option.some.injEq]at a;simp only[pj,a];apply Array.ext
  .simp[gQ (c:=Fr.c) (sz:=6) (List.replicate n dp) (λx _=>rfl)]
  .intro i h1 h2
   have d:n*6≠0:=by
    intro h;simp[h]at h1
   have g:i<n*6:=by simpa using h1
   simp only[d,if_false,Array.getElem_map,Array.getElem_range,List.getElem_toArray];have b:dp.c.toArray.size=6:=rfl;have aK:i%6<6:=gB _ I;have e:i/6<(List.replicate n dp).length:=by rw[kS];omega
   have hg:=tT (c:=Fr.c) (sz:=6) (l:=List.replicate n dp) (λx _=>rfl) (i:=i/6) (j:=i%6) e aK;rw[show i/6*6+i%6=i from I]at hg;have f:i<(b5 Fr.c (List.replicate n dp)).length:=by simpa using h2
   rw[dE f]at hg;have he:((List.replicate n dp)[i/6]).c=dp.c:=by simp
   rw[he,dE (show i%6<dp.c.length from aK)]at hg;have hg:=Option.some.inj hg;rw[hg,b,getElem!_pos dp.c.toArray (i%6) (by rw[b];exact aK)];simp
def hK(c aU k:Nat)(D:aX):bT:=⟨c,aU,List.replicate k dp,0,D⟩
theorem wx(c aU k:Nat)(D:aX)(j:Nat):(hK c aU k D).view j=D.now j:=by
 refine lj λf hf h1=>?_;rw[q0 hf]at h1
 cases h1
theorem oo{w:J}{D:aX}(h:cl w D){k:Nat}(h1:8<=k)(h2:k<=64)(m:∀j,D.bC j=true->D.c_ j=D.dS j):aP ak 139 #[.pointer (some D.d),k] w (λv w'=>∃c aU:Nat,v=.tuple #[.pointer (some c),(0:Int)]/\dD (λ_=>False) w' (hK c aU k D)/\Ext w w'/\w.heap.size<=c/\w.heap.size<=aU):=by
 refine okF (af.oo (some D.d) (k:Int)) az.oo func139 ?_;delta af.oo al jy U;refine⟨λh=>?_,λ_=>⟨⟨I,I,I,I⟩,?_⟩⟩
 .simp only[Option.isNone_some,kK,ic,cR]at h;omega
 rw[DX,di];have g:=bm.new w (b5 Fr.c (List.replicate k dp)).toArray 288;have a:=eu w (.cells (b5 Fr.c (List.replicate k dp)).toArray 288);have n:=qt w (.cells (b5 Fr.c (List.replicate k dp)).toArray 288);obtain⟨w1,o⟩:∃w1,w1=w.alloc (.cells (b5 Fr.c (List.replicate k dp)).toArray 288):=⟨_,rfl⟩;rw[←o]at g a n⊢;refine aY (bl (vs:=[.pointer (some D.d),.slice (some w.heap.size) k k,(0:Int)]) rfl λah p b s=>⟨w1.heap.size,w.heap.size,rfl,⟨⟨?_,bm.ext g b,h.ext (a.trans b),?_,?_,?_,?_,?_,?_⟩,⟨λf hf=>?_,λf hf l=>?_,λi j hi t h1=>?_,λq r=>r.elim,m⟩⟩,a.trans b,I,bo _⟩)
 .show Var _ _ [_,.slice _ (List.replicate k dp).length (List.replicate k dp).length,_] _
  rw[kS];exact p
 .show 8<=(List.replicate k dp).length;simpa using h1
 .show(List.replicate k dp).length<=64;simpa using h2
 .show 0<(List.replicate k dp).length;simp;omega
 .show w1.heap.size≠w.heap.size;omega
 .intro e
  have:=h.lt e;have:w1.heap.size<w.heap.size:=this;omega
 .intro e
  have:=h.lt e;have:w.heap.size<w.heap.size:=this;omega
 .rw[q0 hf];rfl
 .rw[q0 hf]at l;cases l
 .simp[hK,dp]at h1
def j7(a cd bQ b c d e f:ai):Nat:=
 a.toNat+2*cd.toNat+4*bQ.toNat+8*b.toNat+16*c.toNat+32*d.toNat+64*e.toNat+128*f.toNat
def byteOf(f:Nat->ai)(i:Nat):Nat:=j7 (f (8*i)) (f (8*i+1)) (f (8*i+2)) (f (8*i+3)) (f (8*i+4)) (f (8*i+5)) (f (8*i+6)) (f (8*i+7))
theorem DY:∀a cd bQ b c d e f:ai,j7 a cd bQ b c d e f<256:=by decide+kernel
theorem DZ:∀a cd bQ b c d e f:ai,
 (j7 a cd bQ b c d e f).testBit 0=a/\(j7 a cd bQ b c d e f).testBit 1=cd/\(j7 a cd bQ b c d e f).testBit 2=bQ/\(j7 a cd bQ b c d e f).testBit 3=b/\
 (j7 a cd bQ b c d e f).testBit 4=c/\(j7 a cd bQ b c d e f).testBit 5=d/\(j7 a cd bQ b c d e f).testBit 6=e/\(j7 a cd bQ b c d e f).testBit 7=f:=by decide+kernel
theorem jk(f:Nat->ai)(i:Nat):byteOf f i<256:=DY _ _ _ _ _ _ _ _
theorem l9(f:Nat->ai)(i j:Nat)(a:j<8):(byteOf f i).testBit j=f (8*i+j):=by
 obtain⟨h0,h1,h2,b,c,d,e,g⟩:=DZ (f (8*i)) (f (8*i+1)) (f (8*i+2)) (f (8*i+3)) (f (8*i+4)) (f (8*i+5)) (f (8*i+6)) (f (8*i+7));have:j=0\/j=1\/j=2\/j=3\/j=4\/j=5\/j=6\/j=7:=by omega
 unfold byteOf;rcases this with rfl|rfl|rfl|rfl|rfl|rfl|rfl|rfl<;>assumption
theorem D1{x y:Nat}(hx:x<256)(b:y<256)(h:∀j,j<8->x.testBit j=y.testBit j):x=y:=by
 apply Nat.eq_of_testBit_eq;intro j;by_cases a:j<8
 .exact h j a
 .have p:256<=2^j:=by
   have:=qY (n:=2) I (by omega:8<=j);simpa using this
  rw[Nat.testBit_lt_two_pow I,Nat.testBit_lt_two_pow I]
theorem t_(f:Nat->ai)(i x:Nat)(hx:x<256)(h:∀j,j<8->x.testBit j=f (8*i+j)):x=byteOf f i:=
 D1 hx (jk f i) λj a=>by rw[h j a,l9 f i j a]
def c0(f:Nat->ai)(k:Nat)(b:ai):Nat->ai:=λi=>if i=k then b else f i
theorem D2:∀x:Nat,x<256->∀j:Nat,j<8->(jb .u8 (Int.fdiv (x:Int) (2^(min (Int.toNat (j:Int)) 8))) 1==1)=x.testBit j:=by decide+kernel
theorem D3:∀x:Nat,x<256->∀j:Nat,j<8->lJ .u8 (x:Int) (IntKind.wrap .u8 (1*2^(min (Int.toNat (j:Int)) 8)))=((x|||2^j:Nat):Int):=by decide+kernel
theorem D4:∀x:Nat,x<256->∀j:Nat,j<8->xE .u8 (x:Int) (IntKind.wrap .u8 (1*2^(min (Int.toNat (j:Int)) 8)))=((x&&&(255-2^j):Nat):Int):=by decide+kernel
theorem wy:∀x:Nat,x<256->∀y:Nat,y<256->x|||y<256:=λ_ hx _ a=>Nat.or_lt_two_pow (n:=8) hx a
theorem D5:∀j:Nat,j<8->∀k:Nat,k<8->(255-2^j).testBit k=(k !=j):=by decide+kernel
theorem D6(x y:Nat)(hx:x<256)(a:y<256):lJ .u8 (x:Int) (y:Int)=((x|||y:Nat):Int):=by
 have h:=wy x hx y a;have e:(BitVec.ofInt 8 (x:Int)|||BitVec.ofInt 8 (y:Int)).toNat=x|||y:=by
  simp only[BitVec.ofInt_natCast,BitVec.toNat_or,BitVec.toNat_ofNat];rw[iF (by simpa using hx),iF (by simpa using a)]
 show IntKind.wrap .u8 (((BitVec.ofInt 8 (x:Int)|||BitVec.ofInt 8 (y:Int)).toNat:Nat):Int)=_;rw[e];have:((x|||y:Nat):Int)%256=((x|||y:Nat):Int):=Int.emod_eq_of_lt I I;simp[IntKind.wrap,IntKind.signed,IntKind.bits,this]
theorem zO(k:Nat):8*(k/8)+k%8=k:=Nat.div_add_mod k 8
theorem D7(f:Nat->ai)(k:Nat):byteOf f (k/8)|||2^(k%8)=byteOf (c0 f k true) (k/8):=by
 refine t_ _ _ _ (wy _ (jk _ _) _ ?_) λj b=>?_
 .have:k%8<8:=gB _ I
  have:=Nat.pow_lt_pow_right (a:=2) I this;simpa using this
 .rw[ly,l9 _ _ _ b,pg,c0]
  by_cases h:8*(k/8)+j=k
  .rw[if_pos h]
   have:k%8=j:=by omega
   simp[this]
  .rw[if_neg h]
   have:¬k%8=j:=by omega
   simp[this]
theorem D8(f:Nat->ai)(k:Nat):byteOf f (k/8)&&&(255-2^(k%8))=byteOf (c0 f k false) (k/8):=by
 refine t_ _ _ _ (Nat.lt_of_le_of_lt Nat.and_le_left (jk _ _)) λj a=>?_;rw[Nat.testBit_and,l9 _ _ _ a,D5 _ (gB _ I) _ a,c0];by_cases h:8*(k/8)+j=k
 .rw[if_pos h]
  have:j=k%8:=by omega
  simp[this]
 .rw[if_neg h]
  have:¬j=k%8:=by omega
  simp[this]
theorem D9(f:Nat->ai)(k i:Nat)(b:ai)(h:i≠k/8):byteOf (c0 f k b) i=byteOf f i:=by
 have e:∀j,j<8->c0 f k b (8*i+j)=f (8*i+j):=λj a=>by
  unfold c0;rw[if_neg];omega
 unfold byteOf;rw[e 1 I,e 2 I,e 3 I,e 4 I,e 5 I,e 6 I,e 7 I];have:=e 0 I;simp only[mj]at this;rw[this]
def ew(f:Nat->ai)(m:Nat):O aa:=(List.range m).map λi=>.int .u8 (byteOf f i)
theorem wz(f:Nat->ai)(m:Nat):(ew f m).length=m:=by simp[ew]
theorem nj(f:Nat->ai){m i:Nat}(h:i<m):(ew f m)[i]? =some (.int .u8 (byteOf f i)):=by simp[ew,h]
theorem zP(f:Nat->ai)(k m:Nat)(b:ai):(ew f m).set (k/8) (.int .u8 (byteOf (c0 f k b) (k/8)))=ew (c0 f k b) m:=by
 apply List.ext_getElem?;intro i;rw[List.getElem?_set];by_cases hi:i<m
 .rw[nj (c0 f k b) hi]
  by_cases h:k/8=i
  .subst h
   simp[wz,hi]
  .rw[if_neg h,nj _ hi,D9 f k i b I]
 .have h1:(ew (c0 f k b) m)[i]? =none:=by simp[ew];omega
  have h2:(ew f m)[i]? =none:=by simp[ew];omega
  rw[h1,h2];split
  .simp[wz];omega
  .rfl
theorem zQ(k:Nat):Int.tdiv (k:Int) 8=((k/8:Nat):Int):=by
 rw[Int.tdiv_eq_ediv_of_nonneg I];omega
theorem qD(k:Nat):Int.tmod (k:Int) 8=((k%8:Nat):Int):=by
 rw[nJ I];omega
theorem wA{k:Nat}(h:k<=9223372036854775807):IntKind.wrap .i64 (Int.tdiv (k:Int) 8)=((k/8:Nat):Int):=by
 rw[zQ,bu I I]
theorem zR{s:Y}{b:Nat}(h:s.a=some ⟨b,0,none⟩):aC s b:=⟨_,h,rfl⟩
theorem nk{w:J}{s:Y}{f:Nat->ai}{m k:Nat}(h:a7 1 5 w s (ew f m))(a:k/8<m)(d:k<=9223372036854775807):
 aP ak 214 #[s,k] w (λv w'=>v=.bool (f k)/\w=w'):=by
 refine okF (af.s_ s k) az.s_ func214 ?_;(delta af.s_ aI au bW;dsimp only);obtain⟨b,c,e,g,i,hi,j,hc,_⟩:=h.cell (nj f a);refine⟨by decide,_,e,?_⟩;rw[wA d,qD];refine⟨⟨I,I⟩,(byteOf f (k/8):Int),?_,by decide,I,?_,rfl⟩
 .rw[fz,di,ay,cE];exact hc
 .rw[D2 _ (jk _ _) _ (gB _ I),l9 _ _ _ (gB _ I),zO]
theorem zS{w:J}{s:Y}{f:Nat->ai}{m k:Nat}(h:a7 1 5 w s (ew f m))(e:k/8<m)(g:k<=9223372036854775807):
 aP ak 130 #[s,k] w (λv w'=>v=.tuple #[]/\a7 1 5 w' s (ew (c0 f k true) m)/\ad (aC s) w w'):=by
 refine okF (af.sO s k) az.sO func130 ?_;(delta af.sO an aI au bW st;dsimp only);obtain⟨b,c,d,i,l,hi,n,hc,_⟩:=h.cell (nj f e);have a:(Addr.mk b 0 none).add (Int.toNat ((k/8:Nat):Int)*1)=⟨b,k/8,none⟩:=by rw[fz,di,ay,cE]
 rw[wA g,qD];refine⟨by decide,_,d,⟨I,I⟩,by simp,(byteOf f (k/8):Int),by rw[a];exact hc,by decide,I,_,d,⟨I,I⟩,⟨_,by rw[a];exact hc⟩,by rw[a];exact i.drew.frozen _ rfl,rfl,?_,?_⟩
 .rw[a,D3 _ (jk _ _) _ (gB _ I),D7,←zP]
  have j:a7 1 5 w.drew s (ew f m):=h.ab (W:=λ_=>False) (ad.drew (.refl _ _)) (λ_ _ h=>h);exact j.set d _
 .rw[a]
  exact ad.set (ad.drew (.refl _ _)) (λ_=>zR d) _
theorem D_{w:J}{s:Y}{f:Nat->ai}{m k:Nat}(h:a7 1 5 w s (ew f m))(e:k/8<m)(g:k<=9223372036854775807):
 aP ak 219 #[s,k] w (λv w'=>v=.tuple #[]/\a7 1 5 w' s (ew (c0 f k false) m)/\ad (aC s) w w'):=by
 refine okF (af.ta s k) az.ta func219 ?_;(delta af.ta an aI au bW st;dsimp only);obtain⟨b,c,d,i,l,hi,n,hc,_⟩:=h.cell (nj f e);have a:(Addr.mk b 0 none).add (Int.toNat ((k/8:Nat):Int)*1)=⟨b,k/8,none⟩:=by rw[fz,di,ay,cE]
 rw[wA g,qD];refine⟨by decide,_,d,⟨I,I⟩,by simp,(byteOf f (k/8):Int),by rw[a];exact hc,by decide,I,_,d,⟨I,I⟩,⟨_,by rw[a];exact hc⟩,by rw[a];exact i.drew.frozen _ rfl,rfl,?_,?_⟩
 .rw[a,D4 _ (jk _ _) _ (gB _ I),D8,←zP]
  have j:a7 1 5 w.drew s (ew f m):=h.ab (W:=λ_=>False) (ad.drew (.refl _ _)) (λ_ _ h=>h);exact j.set d _
 .rw[a]
  exact ad.set (ad.drew (.refl _ _)) (λ_=>zR d) _
structure eo(w:J)(b n:Nat)(f g:Nat->ai)(s1 s2:Y):Prop where
 bR:bm w b #[n,s1,s2] 218
 now:a7 1 5 w s1 (ew f ((n+7)/8))
 sure:a7 1 5 w s2 (ew g ((n+7)/8))
 d1:∀k,aC s1 k->k≠b/\¬aC s2 k
 d2:∀k,aC s2 k->k≠b
 bJ:1<=n
 bp:n<=1600
 pf:∀i,n<=i->f i=false
 dw:∀i,n<=i->g i=false
def eY(b:Nat)(s1 s2:Y)(k:Nat):Prop:=k=b\/aC s1 k\/aC s2 k
section
variable {w w':J}{b n:Nat}{f g:Nat->ai}{s1 s2:Y}
theorem eo.ab{W:Nat->Prop}(h:eo w b n f g s1 s2)(hc:ad W w w')(a:∀k,eY b s1 s2 k->¬W k):eo w' b n f g s1 s2:=
 ⟨h.bR.ab hc (a b (.inl rfl)),h.now.ab hc λk c=>a k (.inr (.inl c)),h.sure.ab hc λk c=>a k (.inr (.inr c)),h.d1,h.d2,h.bJ,h.bp,h.pf,h.dw⟩
theorem eo.ext(h:eo w b n f g s1 s2)(hc:Ext w w'):eo w' b n f g s1 s2:=h.ab hc λ_ _ h=>h
theorem eo.lt(h:eo w b n f g s1 s2):∀k,eY b s1 s2 k->k<w.heap.size:=by
 rintro k (rfl|a|a)
 .exact h.bR.lt
 .exact h.now.lt k a
 .exact h.sure.lt k a
theorem eo.bI(h:eo w b n f g s1 s2):w.cell? b=some (.int .i64 n):=by rw[h.bR.cell];rfl
theorem eo.aB(h:eo w b n f g s1 s2):w.cell? ((Addr.mk b 0 none).add 1)=some (.slice s1.a s1.len s1.cap):=by rw[ay,h.bR.cell];rfl
theorem eo.aT(h:eo w b n f g s1 s2):w.cell? ((Addr.mk b 0 none).add 2)=some (.slice s2.a s2.len s2.cap):=by rw[ay,h.bR.cell];rfl
theorem Ea(h:eo w b n f g s1 s2){k:Nat}(a:k<n):
 aP ak 217 #[.pointer (some b),k] w (λv w'=>v=.bool (f k||g k)/\w=w'):=by
 have c:=h.bp;refine af.Cy _ k w _ ?_;(delta af.qh ag aH al;dsimp only);refine⟨_,rfl,s1,h.aB,(nk h.now (k:=k) I I).use ?_⟩;rintro _ _ ⟨rfl,rfl⟩;refine⟨_,rfl,⟨λhf=>⟨by rw[hf];rfl,rfl⟩,λhf=>⟨_,rfl,s2,h.aT,(nk h.sure (k:=k) I I).use ?_⟩⟩⟩;rintro _ _ ⟨rfl,rfl⟩;exact⟨_,rfl,by rw[hf];rfl,rfl⟩
theorem wB(h:eo w b n f g s1 s2)(k:Int):
 aP ak 218 #[.pointer (some b),k] w (λv w'=>v=.bool (decide (0<=k)&&decide (k<n))/\w=w'):=by
 refine af.Cz _ k w _ ?_;(delta af.qi al r1;dsimp only);refine⟨?_⟩;refine⟨λh1=>⟨_,rfl,n,h.bI,?_,rfl⟩,λh1=>⟨?_,rfl⟩⟩
 .have:0<=k:=by simpa using h1
  simp[this]
 .have:¬0<=k:=by simpa using h1
  simp[this]
def firstFree(t:Nat->ai)(n:Nat):aq Nat:=(List.range n).find? λi=> !t i
theorem Eb{t:Nat->ai}{n k:Nat}(e:k<n)(ht:t k=false)(c:∀i,i<k->t i=true):firstFree t n=some k:=by
 unfold firstFree;rw[List.find?_eq_some_iff_append];refine⟨by simp[ht],List.range k,(List.range' (k+1) (n-(k+1))),?_,λa d=>?_⟩
 .have b:=List.range'_append (s:=0) (m:=k) (n:=n-(k+1)+1) (step:=1)
  rw[qU,qU,←List.range'_succ];rw[Nat.one_mul,cE]at b;rw[b]
  congr 1
  omega
 .simp[c a (iA.1 d)]
theorem Ec{t:Nat->ai}{n:Nat}(b:∀i,i<n->t i=true):firstFree t n=none:=by
 unfold firstFree;rw[iY];intro a c;simp[b a (iA.1 c)]
theorem zT{t:Nat->ai}{n k:Nat}(h:firstFree t n=some k):k<n/\t k=false/\∀i,i<k->t i=true:=by
 unfold firstFree at h;obtain⟨h1,a,lb,h2,d⟩:=List.find?_eq_some_iff_append.1 h;have e:k<n:=iA.1 (by rw[h2];simp);refine⟨e,by simpa using h1,λi hi=>?_⟩;have hlen:a.length=k:=by
  have b:(List.range n)[a.length]? =some k:=by rw[h2];simp
  rw[List.getElem?_range (by
   have:=congrArg List.length h2;simp at this;omega)]at b
  simpa using b
 have c:(List.range n)[i]? =some i:=List.getElem?_range I;rw[h2,List.getElem?_append_left I]at c;have:=d i (List.mem_of_getElem? c);simpa using this
theorem Ed{t:Nat->ai}{n:Nat}(h:firstFree t n=none):∀i,i<n->t i=true:=by
 unfold firstFree at h;rw[iY]at h;intro i hi;have:=h i (iA.2 hi);simpa using this
def Ee(o:aq Nat):aa:=
 match o with
 |some k=>.tuple #[.int .i64 (k:Int),(0:Int)]
 |none=>.tuple #[.int .i64 (-1),(2:Int)]
def Ef(o:aq Nat)(f:Nat->ai):Nat->ai:=
 match o with
 |some k=>c0 f k true
 |none=>f
theorem zU{f:Nat->ai}{n k:Nat}{x:ai}(h:∀i,n<=i->f i=false)(a:k<n):∀i,n<=i->c0 f k x i=false:=λi hi=>by
 unfold c0
 rw[if_neg I]
 exact h i hi
theorem zV(h:eo w b n f g s1 s2):
 aP ak 160 #[.pointer (some b)] w (λv w'=>v=Ee (firstFree (λi=>f i||g i) n)/\eo w' b n (Ef (firstFree (λi=>f i||g i) n) f) g s1 s2/\ad (eY b s1 s2) w w'):=by
 have r:=h.bp;refine af.Cq _ w _ ?_;(delta af.qc al r1 aH ag aT au;dsimp only);refine⟨λh1=>by simp at h1,λ_=>⟨_,rfl,n,h.bI,λi w'=>∃k:Nat,i=k/\k<=n/\w=w'/\∀j,j<k->(f j||g j)=true,λi _=>(n-i).toNat,⟨0,rfl,I,rfl,λj l=>I⟩,?_⟩⟩;rintro _ _ ⟨k,rfl,a,rfl,d⟩;refine⟨λaK=>(Ea h (k:=k) (by simpa using aK)).use ?_,λm=>?_⟩
 .have c:k<n:=by simpa using aK
  rintro _ _ ⟨rfl,rfl⟩;refine⟨_,rfl,λht=>⟨_,rfl,s1,h.aB,(zS h.now (k:=k) I I).use ?_⟩,λht=>?_⟩
  .rintro _ w' ⟨rfl,o,hc⟩
   have e:(f k||g k)=false:=by simpa using ht
   have p:=Eb (t:=λi=>f i||g i) c e d;rw[p];refine⟨rfl,rfl,⟨h.bR.ab hc λq=>(h.d1 b q).1 rfl,o,h.sure.ab hc λk a h1=>(h.d1 k h1).2 a,h.d1,h.d2,h.bJ,h.bp,zU h.pf c,h.dw⟩,hc.mono λk _ a=>.inr (.inl a)⟩
  .have e:(f k||g k)=true:=by cases hx:(f k||g k)<;>simp[hx]at ht⊢
   rw[bu I I];refine⟨⟨k+1,I,I,rfl,λj l=>?_⟩,(show((n:Int)-((k:Int)+1)).toNat<((n:Int)-(k:Int)).toNat from I)⟩;rcases dR j k with h1|h1
   .exact d j h1
   .have:j=k:=by omega
    subst this;exact e
 .have c:k=n:=by
   have:¬(k:Int)<n:=by simpa using m
   omega
  subst c;rw[Ec d];exact⟨rfl,h,.refl _ _⟩
def ua(f:Nat->ai)(n:Nat)(k:Int):Int:=if 0<=k/\k<n then (if f k.toNat then 0 else 6) else 1
def l_(f:Nat->ai)(n:Nat)(k:Int):Nat->ai:=if 0<=k/\k<n then c0 f k.toNat false else f
theorem Eg{f:Nat->ai}{k:Nat}{x:ai}(h:f k=x):c0 f k x=f:=by
 funext i;unfold c0;split
 .rename_i hi;rw[hi,h]
 .rfl
theorem zW(h:eo w b n f g s1 s2)(k:Int):
 aP ak 161 #[.pointer (some b),k] w (λv w'=>v=.int .i64 (ua f n k)/\eo w' b n (l_ f n k) g s1 s2/\ad (eY b s1 s2) w w'):=by
 have l:=h.bp;refine af.Cr _ k w _ ?_;(delta af.qd aH al ag aT;dsimp only);refine(wB h k).use ?_;rintro _ _ ⟨rfl,rfl⟩;refine⟨_,rfl,λh1=>?_,λh1=>?_⟩
 .have:¬(0<=k/\k<n):=by
   rintro⟨h2,d⟩;simp[h2,d]at h1
  exact⟨by rw[ua,if_neg this],by rw[l_,if_neg this];exact h,.refl _ _⟩
 .have a:0<=k/\k<n:=by simpa using h1
  obtain⟨m,rfl⟩:=pz a.1;have e:m<n:=by omega
  refine⟨_,rfl,s1,h.aB,(nk h.now (k:=m) I I).use ?_⟩;rintro _ _ ⟨rfl,rfl⟩;refine⟨_,rfl,λh2=>?_,λh2=>⟨_,rfl,s1,h.aB,(D_ h.now (k:=m) I I).use ?_⟩⟩
  .have hf:f m=false:=by simpa using h2
   refine⟨by rw[ua,if_pos a,di,hf];rfl,?_,.refl _ _⟩;rw[l_,if_pos a,di,Eg hf];exact h
  .rintro _ w' ⟨rfl,i,hc⟩
   have hf:f m=true:=by simpa using h2
   refine⟨rfl,by rw[ua,if_pos a,di,hf];rfl,?_,hc.mono λk _ c=>.inr (.inl c)⟩;rw[l_,if_pos a,di];exact⟨h.bR.ab hc λj=>(h.d1 b j).1 rfl,i,h.sure.ab hc λk c h1=>(h.d1 k h1).2 c,h.d1,h.d2,h.bJ,h.bp,zU h.pf e,h.dw⟩
theorem Eh(h:eo w b n f g s1 s2)(k:Int):
 aP ak 183 #[.pointer (some b),k] w (λv w'=>v=.bool (decide (0<=k)&&decide (k<n)&&f k.toNat)/\w=w'):=by
 have c:=h.bp;refine af.Cu _ k w _ ?_;(delta af.qf aH al ag;dsimp only);refine(wB h k).use ?_;rintro _ _ ⟨rfl,rfl⟩;refine⟨_,rfl,⟨λh1=>?_,λh1=>⟨by rw[h1];rfl,rfl⟩⟩⟩;have a:0<=k/\k<n:=by simpa using h1
 obtain⟨m,rfl⟩:=pz a.1;refine⟨_,rfl,s1,h.aB,(nk h.now (k:=m) I I).use ?_⟩;rintro _ _ ⟨rfl,rfl⟩;exact⟨_,rfl,by rw[h1,di];rfl,rfl⟩
theorem Ei(h:eo w b n f g s1 s2)(k:Int):
 aP ak 246 #[.pointer (some b),k] w (λv w'=>v=.bool (decide (0<=k)&&decide (k<n)&&f k.toNat&& !(g k.toNat))/\w=w'):=by
 have c:=h.bp;refine af.CD _ k w _ ?_;(delta af.qk aH al ag;dsimp only);refine(wB h k).use ?_;rintro _ _ ⟨rfl,rfl⟩;refine⟨_,rfl,⟨λh1=>?_,λh1=>⟨(λh=>by cases h),λ_=>⟨by rw[h1];rfl,rfl⟩⟩⟩⟩;have a:0<=k/\k<n:=by simpa using h1
 obtain⟨m,rfl⟩:=pz a.1;refine⟨_,rfl,s1,h.aB,(nk h.now (k:=m) I I).use ?_⟩;rintro _ _ ⟨rfl,rfl⟩;refine⟨_,rfl,λh2=>⟨_,rfl,s2,h.aT,(nk h.sure (k:=m) I I).use ?_⟩,λh2=>⟨by rw[h1,di,h2];rfl,rfl⟩⟩;rintro _ _ ⟨rfl,rfl⟩;exact⟨_,rfl,by rw[h1,di,h2];rfl,rfl⟩
end
theorem Ej:hW ak 215 5 1 1:=⟨by kernel_rfl⟩
theorem Ek:hW ak 48 5 1 1:=⟨by kernel_rfl⟩
theorem El:hW ak 58 3 1 8:=⟨by kernel_rfl⟩
theorem Em(n:Nat):gC ak 5 n=(List.replicate n (.int .u8 0)).toArray:=yl (by kernel_rfl) (by kernel_rfl) n
theorem wC(f:Nat->ai)(m:Nat):∀v∈ew f m,Plain v:=by
 intro v a;obtain⟨i,_,rfl⟩:=dU.1 a;trivial
theorem zX{w:J}{s:Y}{xs:O aa}(h:Src 1 w s xs)(d:∀v∈xs,Plain v)(i:s.len<=1000000):
 aP ak 194 #[s] w (λv w'=>∃b:Y,v=b/\a7 1 5 w' b xs/\Ext w w'/\∀k,aC b k->w.heap.size<=k):=by
 refine okF (af.r8 s) az.r8 func194 ?_;delta af.r8 an al U;refine⟨λc=>?_,λ_=>?_⟩
 .have c:s.a=none:=by simpa using c
  rw[h.nil c];exact⟨⟨none,0,0⟩,rfl,a7.none _ _ _,.refl _ _,λk e=>(gu k e).elim⟩
 .obtain⟨b,w',h1,h2,j,f,g,_⟩:=Ej.clone (dG:=215) h d I
  exact⟨b,w',h1,b,rfl,h2,f,g⟩
theorem zY{w:J}{s:Y}{xs:O aa}(h:Src 1 w s xs)(d:∀v∈xs,Plain v)(i:s.len<=1000000):
 aP ak 135 #[s] w (λv w'=>∃b:Y,v=b/\a7 1 5 w' b xs/\Ext w w'/\∀k,aC b k->w.heap.size<=k):=by
 refine okF (af.mL s) az.mL func135 ?_;delta af.mL an al U;refine⟨λc=>?_,λ_=>?_⟩
 .have c:s.a=none:=by simpa using c
  rw[h.nil c];exact⟨⟨none,0,0⟩,rfl,a7.none _ _ _,.refl _ _,λk e=>(gu k e).elim⟩
 .obtain⟨b,w',h1,h2,j,f,g,_⟩:=Ek.clone (dG:=48) h d I
  exact⟨b,w',h1,b,rfl,h2,f,g⟩
section
variable {w w':J}{b n:Nat}{f g:Nat->ai}{s1 s2:Y}
theorem qE{T:TypeId}{m:Nat}(h:a7 1 T w s1 (ew f m)):s1.len=m:=by
 have:=h.1;rw[wz]at this;omega
theorem wD{m:Nat}{u:aa}(c:bm w b #[n,s1,u] 218)(h1:a7 1 5 w s1 (ew f m))(hd:∀k,aC s1 k->k≠b)(g:m<=1000000):
 aP ak 131 #[.pointer (some b)] w (λv w'=>v=.tuple #[]/\∃a:Y,bm w' b #[n,s1,a] 218/\
  a7 1 5 w' s1 (ew f m)/\a7 1 5 w' a (ew f m)/\ad (λk=>k=b) w w'/\∀k,aC a k->w.heap.size<=k):=by
 refine af.Ck _ w _ ?_;(delta af.p8 an al ag aW st;dsimp only);refine⟨λ_=>⟨_,rfl,s1,by rw[ay,c.cell];rfl,(zX h1.src (wC f m) (by rw[qE h1];exact g)).use ?_⟩,λh=>by simp at h⟩;rintro _ ah ⟨a,rfl,h2,hx,hf⟩;have d:=c.ext hx;have i:∀k,aC a k->k≠b:=λk j e=>by have:=hf k j;have:=c.lt;omega
 refine⟨a,rfl,_,rfl,⟨_,by rw[ay,d.cell];rfl⟩,d.frozen _ rfl,rfl,a,?_,?_,?_,?_,hf⟩
 .rw[ay];exact d.set 2 _
 .exact(h1.ext hx).ab (W:=λk=>k=b) (ad.set (.refl _ _) (λ_=>by rw[ay]) _) hd
 .exact h2.ab (W:=λk=>k=b) (ad.set (.refl _ _) (λ_=>by rw[ay]) _) i
 .exact(ad.cK hx).set (λ_=>by rw[ay]) _
theorem En(h:eo w b n f g s1 s2):
 aP ak 131 #[.pointer (some b)] w (λv w'=>v=.tuple #[]/\∃c:Y,eo w' b n f f s1 c/\ad (eY b s1 s2) w w'/\∀k,eY b s1 c k->eY b s1 s2 k\/w.heap.size<=k):=by
 have m:=h.bp;refine(wD h.bR h.now (λk a=>(h.d1 k a).1) I).mono ?_;rintro _ w' ⟨rfl,c,h1,h2,i,j,d⟩;refine⟨rfl,c,⟨h1,h2,i,λk a=>⟨(h.d1 k a).1,λl=>?_⟩,λk a e=>?_,h.bJ,h.bp,h.pf,h.pf⟩,j.mono λk _ a=>.inl a,λk a=>?_⟩
 .have:=d k l;have:=h.now.lt k a;omega
 .have:=d k a;have:=h.bR.lt;omega
 .rcases a with rfl|a|a
  .exact .inl (.inl rfl)
  .exact .inl (.inr (.inl a))
  .exact .inr (d k a)
theorem Eo(h:eo w b n f g s1 s2):
 aP ak 144 #[.pointer (some b)] w (λv w'=>v=.tuple #[]/\∃c:Y,eo w' b n g g c s2/\ad (eY b s1 s2) w w'/\∀k,eY b c s2 k->eY b s1 s2 k\/w.heap.size<=k):=by
 have l:=h.bp;refine af.Cl _ w _ ?_;(delta af.p9 an al ag aW st;dsimp only);refine⟨λ_=>⟨_,rfl,s2,h.aT,(zX h.sure.src (wC g _) (by rw[qE h.sure];omega)).use ?_⟩,λh=>by simp at h⟩;rintro _ ah ⟨c,rfl,h2,hx,hf⟩;have d:=h.bR.ext hx;have i:∀k,aC c k->k≠b:=λk a e=>by have:=hf k a;have:=h.bR.lt;omega
 refine⟨c,rfl,_,rfl,⟨_,by rw[ay,d.cell];rfl⟩,d.frozen _ rfl,rfl,c,⟨?_,?_,?_,λk a=>⟨i k a,λj=>?_⟩,h.d2,h.bJ,h.bp,h.dw,h.dw⟩,?_,λk a=>?_⟩
 .rw[ay];exact d.set 1 _
 .exact h2.ab (W:=λk=>k=b) (ad.set (.refl _ _) (λ_=>by rw[ay]) _) i
 .exact(h.sure.ext hx).ab (W:=λk=>k=b) (ad.set (.refl _ _) (λ_=>by rw[ay]) _) h.d2
 .have:=hf k a;have:=h.sure.lt k j;omega
 .exact(ad.cK hx).set (λ_=>by rw[ay];exact .inl rfl) _
 .rcases a with rfl|a|a
  .exact .inl (.inl rfl)
  .exact .inr (hf k a)
  .exact .inl (.inr (.inr a))
def oY(x:Nat):Nat:=(x.testBit 0).toNat+(x.testBit 1).toNat+(x.testBit 2).toNat+(x.testBit 3).toNat+(x.testBit 4).toNat+(x.testBit 5).toNat+(x.testBit 6).toNat+(x.testBit 7).toNat
def ep(t:Nat->ai):Nat->Nat
 |0=>0
 |k+1=>ep t k+(t k).toNat
theorem lk(t:Nat->ai):∀k,ep t k<=k
 |0=>bo _
 |k+1=>by have:=lk t k;have:=Bool.toNat_le (t k);simp only[ep];omega
theorem Ep(t:Nat->ai)(i:Nat):ep t (8*(i+1))=ep t (8*i)+oY (byteOf t i):=by
 have h:∀j,j<8->(byteOf t i).testBit j=t (8*i+j):=λj a=>l9 t i j a;unfold oY;rw[h 0 I,h 1 I,h 2 I,h 3 I,h 4 I,h 5 I,h 6 I,h 7 I];show ep t (8*i+7+1)=_;simp only[ep,mj];omega
theorem zZ(t:Nat->ai)(n:Nat)(h:∀i,n<=i->t i=false):∀k,ep t (n+k)=ep t n
 |0=>rfl
 |k+1=>by
  have:=zZ t n h k
  show ep t (n+k)+(t (n+k)).toNat=_
  rw[this,h (n+k) I]
  rfl
theorem Er:∀x:Nat,x<256->(uG (ByteArray.mk #[0,1,1,2,1,2,2,3,1,2,2,3,2,3,3,4,1,2,2,3,2,3,3,4,2,3,3,4,3,4,4,5,1,2,2,3,2,3,3,4,2,3,3,4,3,4,4,5,2,3,3,4,3,4,4,5,3,4,4,5,4,5,5,6,1,2,2,3,2,3,3,4,2,3,3,4,3,4,4,5,2,3,3,4,3,4,4,5,3,4,4,5,4,5,5,6,2,3,3,4,3,4,4,5,3,4,4,5,4,5,5,6,3,4,4,5,4,5,5,6,4,5,5,6,5,6,6,7,1,2,2,3,2,3,3,4,2,3,3,4,3,4,4,5,2,3,3,4,3,4,4,5,3,4,4,5,4,5,5,6,2,3,3,4,3,4,4,5,3,4,4,5,4,5,5,6,3,4,4,5,4,5,5,6,4,5,5,6,5,6,6,7,2,3,3,4,3,4,4,5,3,4,4,5,4,5,5,6,3,4,4,5,4,5,5,6,4,5,5,6,5,6,6,7,3,4,4,5,4,5,5,6,4,5,5,6,5,6,6,7,4,5,5,6,5,6,6,7,5,6,6,7,6,7,7,8]) x).map (·.toNat)=some (oY x):=by decide+kernel
theorem z1(x:Nat):oY x<=8:=by
 unfold oY;have h:∀b:ai,b.toNat<=1:=Bool.toNat_le;have:=h (x.testBit 0);have:=h (x.testBit 1);have:=h (x.testBit 2);have:=h (x.testBit 3);have:=h (x.testBit 4);have:=h (x.testBit 5);have:=h (x.testBit 6);have:=h (x.testBit 7);omega
theorem Es(w:J)(x:Nat)(hx:x<256):aP ak 202 #[.int .u8 x] w (λv w'=>v=.int .i64 (oY x)/\w=w'):=by
 refine okF (af.r9 x) az.r9 func202 ?_;delta af.r9 au;have h:=Er x hx;refine⟨I,?_⟩
 cases a:uG _ x with
 |none=>rw[a]at h;cases h
 |some y=>
  rw[a]at h;simp only[lC,Option.some.injEq]at h;refine⟨y,a,?_,rfl⟩;rw[h,bu I (by have:=z1 x;omega)]
theorem Et(f g:Nat->ai)(i:Nat):byteOf f i|||byteOf g i=byteOf (λk=>f k||g k) i:=
 t_ _ _ _ (wy _ (jk _ _) _ (jk _ _)) λj a=>by rw[ly,l9 _ _ _ a,l9 _ _ _ a]
theorem wE(h:eo w b n f g s1 s2):
 aP ak 148 #[.pointer (some b)] w (λv w'=>v=.int .i64 ((n:Int)-ep (λi=>f i||g i) n)/\Ext w w'):=by
 have p:=h.bp;have q:=qE h.now;have s:=qE h.sure;refine af.Cm _ w _ ?_;(delta af.p_ an al r1 ag aI bW aB au;dsimp only);refine⟨λh1=>by simp at h1,λ_=>⟨_,rfl,n,h.bI,_,rfl,s1,h.aB,λr i w'=>∃k:Nat,i=k/\k<=s1.len/\Ext w w'/\r=(n:Int)-ep (λi=>f i||g i) (8*k),λ_ i _=>((s1.len:Int)-i).toNat,⟨0,rfl,I,.refl _ _,by simp[ep]⟩,?_⟩⟩;rintro _ _ w1 ⟨k,rfl,t,hx,rfl⟩;refine⟨λaK=>?_,λc=>?_⟩
 .have d:k<s1.len:=by simpa using aK
  have h1:=h.ext hx.drew;obtain⟨cd,aB,j,u,_,_,_,l,_⟩:=h1.now.cell (nj f (i:=k) I);obtain⟨bQ,aT,m,x,_,_,_,o,_⟩:=h1.sure.cell (nj g (i:=k) I);have a:∀b:Nat,(Addr.mk b 0 none).add (Int.toNat (k:Int)*1)=⟨b,k,none⟩:=λb=>by rw[fz,di,ay,cE]
  refine⟨λ_=>False,_,rfl,by simp,s1,h1.aB,_,j,I,by simp,_,by rw[a];exact l,_,rfl,by simp,s2,h1.aT,_,m,I,by simp,_,by rw[a];exact o,?_⟩;rw[D6 _ _ (jk _ _) (jk _ _),Et];refine(Es _ _ (jk _ _)).use ?_;rintro _ _ ⟨rfl,rfl⟩;have:=z1 (byteOf (λi=>f i||g i) k);have:=lk (λi=>f i||g i) (8*k);refine⟨_,rfl,.refl _ _,?_⟩;rw[bu (n:=(n:Int)-_-_) I I,bu (n:=(k:Int)+1) I I];exact⟨⟨k+1,I,I,hx.drew,by rw[Ep];omega⟩,(show((s1.len:Int)-((k:Int)+1)).toNat<((s1.len:Int)-(k:Int)).toNat from I)⟩
 .have d:k=s1.len:=by
   have:¬(k:Int)<s1.len:=by simpa using c
   omega
  refine⟨?_,hx⟩;have e:8*k=n+(8*k-n):=by omega
  rw[e,zZ _ _ (λi hi=>by simp[h.pf i hi,h.dw i hi])]
def iO(f:Nat->ai):Nat->O Int
 |0=> []
 |k+1=>iO f k++(if f k then [(k:Int)] else [])
def ll(f:Nat->ai)(k:Nat):O aa:=(iO f k).map (.int .i64)
theorem z2(f:Nat->ai):∀k,(iO f k).length<=k
 |0=>bo _
 |k+1=>by have:=z2 f k;simp only[iO,cF];split<;>simp<;>omega
theorem Eu(h:eo w b n f g s1 s2):
 aP ak 155 #[.pointer (some b)] w (λv w'=>∃s:Y,v=s/\a7 1 3 w' s (ll f n)/\Ext w w'/\∀k,aC s k->w.heap.size<=k):=by
 have A:=h.bp;refine af.Cp _ w _ ?_;(delta af.qb an al r1 ag aH r0 U au;dsimp only);refine⟨λh1=>by simp at h1,λ_=>⟨_,rfl,n,h.bI,λs i w'=>∃k:Nat,i=k/\k<=n/\Ext w w'/\a7 1 3 w' s (ll f k)/\∀k,aC s k->w.heap.size<=k,λ_ i _=>((n:Int)-i).toNat,
  ⟨0,rfl,I,.refl _ _,a7.none _ _ _,λk l=>(gu k l).elim⟩,?_⟩⟩
 rintro s _ w1 ⟨k,rfl,l,hx,c,d⟩;refine⟨λaK=>?_,λp=>?_⟩
 .have m:k<n:=by simpa using aK
  have h1:=h.ext hx;refine ct (λa w'=>Ext w w'/\a7 1 3 w' a (ll f (k+1))/\∀k,aC a k->w.heap.size<=k) (λq o=>⟨_,rfl,s1,h1.aB,(nk h1.now (k:=k) I I).use ?_⟩) ?_
  .rintro _ _ ⟨rfl,rfl⟩
   refine⟨_,rfl,λhf=>?_,λhf=>?_⟩
   .have hlen:s.len<=k:=by
     have:=c.1;have:=z2 f k;simp[ll]at*;omega
    obtain⟨a,w',h1,h2,B,r,t⟩:=El.push (dG:=58) (xs:=[k]) rfl c (by simp[Plain]) I;refine⟨a,w',h1,o _ _ ⟨?_,?_,?_⟩⟩
    .exact((ad.cK hx).trans r).mono λk l u=>by have:=d k u;omega
    .simpa[ll,iO,hf] using h2
    .intro j e
     rcases t j e with e|e
     .exact d j e
     .have:=hx.size;omega
   .exact o _ _ ⟨hx,by simpa[ll,iO,hf] using c,d⟩
  .rintro a w' ⟨x,y,z⟩
   rw[bu I I];exact⟨⟨k+1,I,I,x,y,z⟩,(show((n:Int)-((k:Int)+1)).toNat<((n:Int)-(k:Int)).toNat from I)⟩
 .have m:k=n:=by
   have:¬(k:Int)<n:=by simpa using p
   omega
  subst m;exact⟨s,rfl,c,hx,d⟩
theorem z6(h:eo w b n f g s1 s2):
 aP ak 74 #[.pointer (some b)] w (λv w'=>∃s:Y,v=s/\a7 1 5 w' s (ew f ((n+7)/8))/\Ext w w'/\∀k,aC s k->w.heap.size<=k):=by
 have a:=h.bp;refine af.Ch _ w _ ?_;(delta af.p7 al ag aW;dsimp only);refine⟨λh1=>by simp at h1,λ_=>⟨_,rfl,s1,h.aB,(zY h.now.src (wC f _) (by rw[qE h.now];omega)).use ?_⟩⟩;rintro _ ah ⟨s,rfl,h2,hx,hf⟩;exact⟨s,rfl,s,rfl,h2,hx,hf⟩
end
theorem z7(w:J)(n:Int):aP ak 128 #[n] w (λv w'=>v=.bool (decide (1<=n/\n<=1600))/\w=w'):=by
 refine okF (af.sM n) az.sM func128 ?_;unfold af.sM;refine⟨?_,rfl⟩;simp[Bool.decide_and]
theorem z8(w:J)(n:Nat)(a:n<=1600):aP ak 129 #[n] w (λv w'=>v=.int .i64 (((n+7)/8:Nat):Int)/\w=w'):=by
 refine okF (af.sN n) az.sN func129 ?_;delta af.sN au;refine⟨by decide,?_,rfl⟩;rw[bu (n:=(n:Int)+8) I I,bu (n:=(n:Int)+8-1) I I,show(n:Int)+8-1=((n+7:Nat):Int) from I,zQ,bu I I]
theorem Ev(m:Nat):ew (λi=>decide (i<0)) m=List.replicate m (.int .u8 0):=by
 apply List.ext_getElem
 .simp[ew]
 .intro i h1 h2
  simp[ew,byteOf,j7]
theorem Ew(j:Nat):c0 (λi=>decide (i<j)) j true=λi=>decide (i<j+1):=by
 funext i;unfold c0;split
 .rename_i h;simp[h]
 .rename_i h;simp;omega
theorem od(w:J)(n first:Int):
 aP ak 71 #[.int .i64 n,.int .i64 first] w (λv w'=>(¬(1<=n/\n<=1600/\0<=first/\first<=n)/\v=.tuple #[.pointer none,.int .i64 1]/\w=w')\/
  (1<=n/\n<=1600/\0<=first/\first<=n/\∃b s1 s2,v=.tuple #[.pointer (some ⟨b,0,none⟩),.int .i64 0]/\eo w' b n.toNat (λi=>decide (i<first.toNat)) (λi=>decide (i<first.toNat)) s1 s2/\Ext w w'/\∀k,eY b s1 s2 k->w.heap.size<=k)):=by
 refine okF (af.od n first) az.od func71 ?_;(delta af.od an aH al aB jy U ag aT au;dsimp only);refine(z7 w n).use ?_;rintro _ _ ⟨rfl,rfl⟩;refine⟨_,rfl,λh=>.inl ⟨λhc=>?_,rfl,rfl⟩,λh=>?_⟩
 .simp at h;omega
 simp at h;obtain⟨⟨⟨E,F⟩,G⟩,H⟩:=h;obtain⟨n,rfl⟩:=pz (by omega:0<=n);obtain⟨first,rfl⟩:=pz (by omega:0<=first);refine(z8 w n I).use ?_;rintro _ _ ⟨rfl,rfl⟩;refine⟨_,rfl,I,?_⟩;simp only[di];rw[Em];obtain⟨m,f⟩:∃m,m=(n+7)/8:=⟨_,rfl⟩;rw[←f];have l:=a7.new (sz:=1) (T:=5) w (List.replicate m (.int .u8 0)) m (by simp) (by show m<=2^63-1;omega);rw[←Ev]at l⊢;have ar:Ext w (w.alloc (.cells (ew (λi=>decide (i<0)) m).toArray 5)):=ad.alloc (.refl _ _) _;generalize s:w.alloc (.cells (ew (λi=>decide (i<0)) m).toArray 5)=w1 at*;have K:w1.heap.size=w.heap.size+1:=by rw[←s];simp
 have t:=bm.new w1 #[.int .i64 (n:Int),.slice (some ⟨w.heap.size,0,none⟩) m m,.slice none 0 0] 218;have u:=ad.alloc ar (.cells #[.int .i64 (n:Int),.slice (some ⟨w.heap.size,0,none⟩) m m,.slice none 0 0] 218);have x:=l.ext (ad.alloc (.refl _ w1) (.cells #[.int .i64 (n:Int),.slice (some ⟨w.heap.size,0,none⟩) m m,.slice none 0 0] 218));refine⟨λi w'=>∃j:Nat,i=j/\j<=first/\Ext w w'/\bm w' w1.heap.size #[.int .i64 (n:Int),.slice (some ⟨w.heap.size,0,none⟩) m m,.slice none 0 0] 218/\
  a7 1 5 w' ⟨some ⟨w.heap.size,0,none⟩,m,m⟩ (ew (λi=>decide (i<j)) m),λi _=>((first:Int)-i).toNat,⟨0,rfl,I,u,t,x⟩,?_⟩
 rintro _ ah ⟨j,rfl,L,hx,d,o⟩;refine⟨λaK=>?_,λy=>?_⟩
 .have p:j<first:=by simpa using aK
  refine⟨_,rfl,⟨some ⟨w.heap.size,0,none⟩,m,m⟩,by rw[ay,d.cell];rfl,(zS o (k:=j) I I).use ?_⟩;rintro _ z ⟨rfl,q,hc⟩;rw[Ew]at q;rw[bu I I];refine⟨rfl,⟨j+1,I,I,?_,d.ab hc ?_,q⟩,(show((first:Int)-((j:Int)+1)).toNat<((first:Int)-(j:Int)).toNat from I)⟩
  .exact((ad.cK hx).trans hc).mono λk a c=>by rw[mF]at c;simp at c;omega
  .intro c
   rw[mF]at c;simp at c;omega
 .have p:j=first:=by
   have:¬(j:Int)<first:=by simpa using y
   omega
  subst p;have r:∀i,n<=i->decide (i<j)=false:=λi hi=>by simp;omega
  refine(wD d o (λk a e=>?_) I).use ?_
  .rw[mF]at a
   simp at a;omega
  rintro _ z ⟨rfl,A,h1,h2,B,C,g⟩;have M:=d.lt;refine⟨rfl,.inr ⟨I,I,I,I,w1.heap.size,⟨some ⟨w.heap.size,0,none⟩,m,m⟩,A,rfl,⟨h1,?_,?_,λk a=>⟨λe=>?_,λD=>?_⟩,λk a e=>?_,I,I,r,r⟩,?_,?_⟩⟩
  .simp only[←f];exact h2
  .simp only[←f];exact B
  .rw[mF]at a
   simp at a;omega
  .rw[mF]at a
   simp at a;have:=g k D;omega
  .have:=g k a
   omega
  .exact((ad.cK hx).trans C).mono λk a e=>by omega
  .rintro k (rfl|a|a)
   .omega
   .rw[mF]at a
    simp at a;omega
   .have:=g k a
    have:=hx.size;omega
structure aL where
 a_:Nat
 gen:Nat
 root:Nat
 aE:Nat
 C:bT
 sb:Nat
 n:Nat
 f:Nat->ai
 g:Nat->ai
 s1:Y
 s2:Y
 E:Nat->Prop
 G:Nat->Prop
 P:Nat->aq aA
def aL.cg(T:aL)(E G:Nat->Prop):aL:={T with E:=E,G:=G}
def aL.bg(T:aL)(C:bT)(P:Nat->aq aA):aL:={T with C:=C,P:=P}
def aL.X(T:aL)(q:Nat):Prop:=q=T.a_\/eY T.sb T.s1 T.s2 q\/T.E q\/T.G q
def aL.M(T:aL)(q:Nat):Prop:=cO T.C q\/T.X q
def aL.N(T:aL)(q:Nat):Prop:=cO T.C q\/q=T.a_\/eY T.sb T.s1 T.s2 q\/T.G q
theorem aL.gm{T:aL}{q:Nat}(h:T.N q):T.M q:=h.imp id (Or.imp id (Or.imp id .inr))
def gg(gen:Nat)(leaf:ai)(no:Nat)(l:cL)(n:aA):Prop:=
 ∃p:g4,dk (no:Int) l=.ok p/\p.gen<=gen/\p.kind=(if leaf then 1 else 2)/\kA leaf p.body n/\2<=no
def j8(T:aL):O aa:=[.pointer (some T.C.c),.pointer (some T.sb),.int .u64 (T.gen:Nat),T.root,T.aE]
structure bH(w:J)(T:aL):Prop where
 t:Var w T.a_ (j8 T) 239
 s:eo w T.sb T.n T.f T.g T.s1 T.s2
 ca:dD T.X w T.C
 iP:¬eY T.sb T.s1 T.s2 T.a_
 c3:∀q,T.E q->q≠T.a_/\¬eY T.sb T.s1 T.s2 q/\¬T.G q
 hL:∀q,T.G q->q≠T.a_/\¬eY T.sb T.s1 T.s2 q
 n:T.C.D.n=T.n
 num:T.root<T.n/\T.aE<=12/\T.gen<18446744073709551616
 dQ:∀no bj,T.P no=some bj->no<T.n/\gg T.gen bj.leaf no (T.C.view no) bj
 bC:∀j,T.C.D.bC j=true->T.g j=true\/T.C.D.ro
 low:T.g 0=true/\T.g 1=true
structure bO(T ao:aL)(w w':J)(k:Nat):Prop where
 a_:ao.a_=T.a_
 sb:ao.sb=T.sb
 n:ao.n=T.n
 g:ao.g=T.g
 s1:ao.s1=T.s1
 s2:ao.s2=T.s2
 c:ao.C.c=T.C.c
 d:ao.C.D.d=T.C.D.d
 bc:ao.C.D.key=T.C.D.key
 gen:ao.gen=T.gen
 aM:ao.C.D.aM<=T.C.D.aM+k
 calm:∀m,T.C.D.calm (m+k)->ao.C.D.calm m
 ab:ad T.N w w'
 cS:∀q,ao.M q->T.M q\/w.heap.size<=q
 fn:∀q,ao.N q->T.N q\/w.heap.size<=q
theorem bO.bC{T ao:aL}{w w':J}{k:Nat}(h:bO T ao w w' k):ao.C.D.bC=T.C.D.bC/\ao.C.D.dS=T.C.D.dS:=by
 have:=congrArg Prod.fst h.bc;exact⟨congrArg (λp=>p.2.1) this,congrArg (λp=>p.2.2.1) this⟩
theorem bO.refl(T:aL)(w:J):bO T T w w 0:=⟨rfl,rfl,rfl,rfl,rfl,rfl,rfl,rfl,rfl,rfl,bo _,λ_ h=>h,.refl _ _,λ_ h=>.inl h,λ_ h=>.inl h⟩
theorem bO.ext{w w':J}(T:aL)(h:Ext w w'):bO T T w w' 0:=⟨rfl,rfl,rfl,rfl,rfl,rfl,rfl,rfl,rfl,rfl,bo _,λ_ h=>h,ad.cK h,λ_ h=>.inl h,λ_ h=>.inl h⟩
theorem bO.trans{T ao b:aL}{w w' e:J}{k l:Nat}(h1:bO T ao w w' k)(h2:bO ao b w' e l):bO T b w e (k+l):=by
 have hs:=h1.ab.size;refine⟨h2.a_.trans h1.a_,h2.sb.trans h1.sb,h2.n.trans h1.n,h2.g.trans h1.g,h2.s1.trans h1.s1,h2.s2.trans h1.s2,h2.c.trans h1.c,h2.d.trans h1.d,h2.bc.trans h1.bc,h2.gen.trans h1.gen,by have:=h1.aM;have:=h2.aM;omega,
  λm f=>h2.calm m (h1.calm (m+l) (by rw[show m+l+k=m+(k+l) from I];exact f)),cm h1.ab h2.ab λq a h=>(h1.fn q h).resolve_right I,λq a=>?_,λq a=>?_⟩
 .rcases h2.cS q a with h|h
  .exact h1.cS q h
  .exact .inr I
 .rcases h2.fn q a with h|h
  .exact h1.fn q h
  .exact .inr I
theorem bO.mono{T ao:aL}{w w':J}{k l:Nat}(h:bO T ao w w' k)(b:k<=l):bO T ao w w' l:=
 ⟨h.a_,h.sb,h.n,h.g,h.s1,h.s2,h.c,h.d,h.bc,h.gen,by have:=h.aM;omega,λm a=>h.calm m (fJ a I),h.ab,h.cS,h.fn⟩
theorem bO.bj{T ao:aL}{w w':J}{k lo:Nat}(h:bO T ao w w' k){n:aA}{K V D:Y}(d:br (λq=>lo<=q/\¬T.M q) w n K V D):br (λq=>lo<=q/\¬ao.M q) w' n K V D:=by
 have h1:br (λq=>q<w.heap.size/\lo<=q/\¬T.M q) w n K V D:=d.aV λq b a=>⟨b,a⟩;refine(br.ab h1 h.ab λq b c=>b.2.2 (aL.gm c)).aV λq _ a=>⟨a.2.1,λc=>?_⟩;rcases h.cS q c with h2|h2
 .exact a.2.2 h2
 .have:=a.1;omega
section
variable {w w':J}{T ao:aL}
theorem bO.step{W E G:Nat->Prop}{w1:J}{k:Nat}(h:bO T ao w w1 k)(hc:ad W w1 w')(cj:∀q,W q->q<w.heap.size->T.N q)(e:∀q,E q->ao.E q\/ao.G q\/w.heap.size<=q)(b:∀q,G q->ao.G q\/w.heap.size<=q):bO T (ao.cg E G) w w' k:=by
 refine⟨h.a_,h.sb,h.n,h.g,h.s1,h.s2,h.c,h.d,h.bc,h.gen,h.aM,h.calm,cm h.ab hc λq a f=>cj q f a,λq a=>?_,λq a=>?_⟩
 .rcases a with a|a|a|a|a
  .exact h.cS q (.inl a)
  .exact h.cS q (.inr (.inl a))
  .exact h.cS q (.inr (.inr (.inl a)))
  .rcases e q a with h1|h1|h1
   .exact h.cS q (.inr (.inr (.inr (.inl h1))))
   .exact h.cS q (.inr (.inr (.inr (.inr h1))))
   .exact .inr h1
  .rcases b q a with h1|h1
   .exact h.cS q (.inr (.inr (.inr (.inr h1))))
   .exact .inr h1
 .rcases a with a|a|a|a
  .exact h.fn q (.inl a)
  .exact h.fn q (.inr (.inl a))
  .exact h.fn q (.inr (.inr (.inl a)))
  .rcases b q a with h1|h1
   .exact h.fn q (.inr (.inr (.inr h1)))
   .exact .inr h1
theorem bO.local{bV jl a wF:Nat->Prop}{w1:J}{k:Nat}(h:bO (T.cg bV a) ao w1 w' k)(hx:Ext w w1)(b:∀q,bV q->T.E q\/w.heap.size<=q)(c:∀q,a q->T.G q\/w.heap.size<=q)
 (d:∀q,jl q->ao.E q\/ao.G q) (e:∀q,wF q->ao.G q):bO T (ao.cg jl wF) w w' k:=by
 have h0:bO T (T.cg bV a) w w1 0:=(bO.ext T (w:=w) (w':=w) (ad.refl _ _)).step (W:=λ_=>False) hx (λ_ h=>h.elim) (λq h=>(b q h).imp id .inr) c;have h1:=h0.trans h;rw[cE]at h1;exact h1.step (W:=λ_=>False) (ad.refl _ _) (λ_ h=>h.elim) (λq h=>(d q h).imp id .inl) λq h=>.inl (e q h)
theorem bH.lt(h:bH w T){q:Nat}(a:T.M q):q<w.heap.size:=by
 rcases a with a|a
 .exact h.ca.raw.lt a
 .exact(h.ca.inv.eR q a).1
theorem bH.iM(h:bH w T){q:Nat}(b:T.E q):¬T.N q:=by
 rintro(a|a|a|a)
 .exact(h.ca.inv.eR q (.inr (.inr (.inl b)))).2 a
 .exact(h.c3 q b).1 a
 .exact(h.c3 q b).2.1 a
 .exact(h.c3 q b).2.2 a
theorem bH.ext(h:bH w T)(hx:Ext w w'):bH w' T:=⟨h.t.ext hx,h.s.ext hx,h.ca.ext hx,h.iP,h.c3,h.hL,h.n,h.num,h.dQ,h.bC,h.low⟩
theorem dD.grow{X d W:Nat->Prop}{C:bT}(h:dD X w C)(hc:ad W w w')(cj:∀q,W q->q<w.heap.size->X q)(e:∀q,d q->X q\/(w.heap.size<=q/\q<w'.heap.size)):dD d w' C:=by
 have g:ad X w w':=cm (W:=X) (ad.refl _ _) hc λq a i=>cj q i a;refine⟨h.raw.ab g λq a hx=>(h.inv.eR q hx).2 a,h.inv.pins,λf hf j=>?_,h.inv.un,λq a=>?_,h.inv.j6⟩
 .obtain⟨no,av,ax,k,m,n,o,p⟩:=h.inv.ok f hf j
  have r:bk (λq=>q<w.heap.size/\¬cO C q/\¬X q) w f.b f.l:=bk.aV k λq a c=>⟨a,c⟩;refine⟨no,av,ax,bk.aV (bk.ab r g λq a hx=>a.2.2 hx) λq _ c=>⟨c.2.1,λs=>?_⟩,m,n,o,p⟩;rcases e q s with h1|h1
  .exact c.2.2 h1
  .have:=c.1;omega
 .rcases e q a with h1|h1
  .exact⟨fl (h.inv.eR q h1).1 hc.size,(h.inv.eR q h1).2⟩
  .exact⟨h1.2,λhf=>by have:=h.raw.lt hf;omega⟩
theorem bH.grow{E G W:Nat->Prop}(h:bH w T)(hc:ad W w w')(cj:∀q,W q->q<w.heap.size->T.E q\/T.G q)(c:∀q,E q->T.E q\/T.G q\/(w.heap.size<=q/\q<w'.heap.size))(f:∀q,G q->T.E q\/T.G q\/(w.heap.size<=q/\q<w'.heap.size))(j:∀q,E q->¬G q):bH w' (T.cg E G):=by
 have b:∀q,T.E q\/T.G q->q≠T.a_/\¬eY T.sb T.s1 T.s2 q:=λq a=>by
  rcases a with a|a
  .exact⟨(h.c3 q a).1,(h.c3 q a).2.1⟩
  .exact h.hL q a
 have g:ad (λq=>T.E q\/T.G q) w w':=cm (W:=λq=>T.E q\/T.G q) (ad.refl _ _) hc λq a k=>cj q k a;have d:∀q,T.E q\/T.G q\/(w.heap.size<=q/\q<w'.heap.size)->q≠T.a_/\¬eY T.sb T.s1 T.s2 q:=λq a=>by
  rcases a with a|a|a
  .exact b q (.inl a)
  .exact b q (.inr a)
  .exact⟨λe=>by have h2:=h.lt (q:=q) (.inr (.inl e));omega,λe=>by have h2:=h.lt (q:=q) (.inr (.inr (.inl e)));omega⟩
 have i:∀q,T.E q\/T.G q\/(w.heap.size<=q/\q<w'.heap.size)->T.X q\/(w.heap.size<=q/\q<w'.heap.size):=λq a=>by
  rcases a with a|a|a
  .exact .inl (.inr (.inr (.inl a)))
  .exact .inl (.inr (.inr (.inr a)))
  .exact .inr a
 refine⟨h.t.ab g λe=>(b _ e).1 rfl,h.s.ab g λq a e=>(b q e).2 a,h.ca.grow hc (λq a l=>.inr (.inr (cj q a l))) λq a=>?_,h.iP,λq a=>⟨(d q (c q a)).1,(d q (c q a)).2,j q a⟩,λq a=>d q (f q a),h.n,h.num,h.dQ,h.bC,h.low⟩;rcases a with a|a|a|a
 .exact .inl (.inl a)
 .exact .inl (.inr (.inl a))
 .exact i q (c q a)
 .exact i q (f q a)
theorem bH.cells(h:bH w T):w.cell? T.a_=some (.pointer (some T.C.c))/\w.cell? (Addr.add T.a_ 1)=some (.pointer (some T.sb))/\w.cell? (Addr.add T.a_ 2)=some (.int .u64 (T.gen:Nat))/\
 w.cell? (Addr.add T.a_ 3)=some (.int .i64 (T.root:Nat))/\w.cell? (Addr.add T.a_ 4)=some (.int .i64 (T.aE:Nat)):=by
 rw[ay,ay,ay,ay];exact⟨h.t.cell,h.t.cell,h.t.cell,h.t.cell,h.t.cell⟩
theorem bH.Ex(h:bH w T){no:Nat}(a:no<T.n):(T.C.view no).length=256:=by
 unfold bT.view
 cases hf:T.C.aj.find? λf=>f.full&&f.no==(no:Int) with
 |some f=>
  have h1:=iE hf;have h2:=jr hf;obtain⟨m,b⟩:=h.ca.inv.ok f h1 (by
   have:(f.full&&f.no==(no:Int))=true:=h2;exact(Bool.and_eq_true_iff.1 this).1)
  exact b.len
 |none=>exact h.ca.raw.dev.ng (by rw[h.n];exact a)
theorem bH.oZ{aD:bT}{k:Nat}{P:Nat->aq aA}(h:bH w T)(e:dD T.X w' aD)(a:ec T.C aD w w' k)(f:∀no bj,P no=some bj->no<T.n/\gg T.gen bj.leaf no (aD.view no) bj):
 bH w' (T.bg aD P)/\bO T (T.bg aD P) w w' k:=by
 have hx:=h.ca.inv.eR;have hc:=a.ab;refine⟨⟨?_,h.s.ab hc λq b hf=>(hx q (.inr (.inl b))).2 hf,e,h.iP,h.c3,h.hL,?_,h.num,f,λj l=>by unfold aX.ro;show T.g j=true\/∀i,aD.D.bC i=true;rw[a.bC];exact h.bC j (by rw[←a.bC];exact l),h.low⟩,⟨rfl,rfl,rfl,rfl,rfl,rfl,a.c,a.d,a.bc,rfl,a.aM,a.calm,hc.mono λq _ b=>.inl b,?_,?_⟩⟩
 .have:=h.t.ab hc λhf=>(hx T.a_ (.inl rfl)).2 hf
  unfold j8 at this⊢;rw[←a.c]at this;exact this
 .show aD.D.n=T.n
  rw[a.n,h.n]
 .rintro q (b|b)
  .rcases a.cS q b with h1|h1
   .exact .inl (.inl h1)
   .exact .inr h1
  .exact .inl (.inr b)
 .rintro q (b|b)
  .rcases a.cS q b with h1|h1
   .exact .inl (.inl h1)
   .exact .inr h1
  .exact .inl (.inr b)
end
def Ey(T:aL)(leaf:ai)(no:Nat)(e:Int):Prop:=
 (e=3/\¬T.C.D.calm 2)\/dk (no:Int) (T.C.view no)=.error e\/(e=4/\(∃p,dk (no:Int) (T.C.view no)=.ok p)/\∀n,¬gg T.gen leaf no (T.C.view no) n)
def nm(T:aL)(leaf:ai)(no:Nat)(w:J)(v:aa)(w':J):Prop:=
 ∃aD:bT,bH w' (T.bg aD T.P)/\bO T (T.bg aD T.P) w w' 2/\(∀j,aD.view j=T.C.view j)/\
  ((∃ (n:aA) (K V D:Y),v=.tuple #[cQ n K V D,(0:Int)]/\gg T.gen leaf no (T.C.view no) n/\br (λq=>w.heap.size<=q/\¬(T.bg aD T.P).M q) w' n K V D)\/
    (∃e:Int,v=.tuple #[cQ iL bn bn bn,e]/\Ey T leaf no e/\e≠0))
theorem z_{no:Int}{l:cL}{e:Int}(h:dk no l=.error e):e≠0:=by
 intro he;subst he;unfold dk at h
 repeat' split at h
 all_goals first|(injection h with h;exact absurd h (by decide))|cases h
theorem Ez{no:Int}{l:cL}{p:g4}(h:dk no l=.ok p):p.body.length<=256:=by
 unfold dk at h
 repeat' split at h
 all_goals first|(cases h;done)|skip
 rename_i h1 _ _ _ _ _;injection h with h
 rw[←h];show(List.take _ (List.drop 24 l)).length<=256;rw[cC,cX];omega
theorem uc{w':J}{h:Nat}{vs:O aa}(n g:Int)(s:Y)(a:Var w' h vs 150)(b:vs.length=3){K:J->Prop}(c:∀ah,Var ah h [n,.int .u64 g,s] 150->ad (λq=>q=h) w' ah->ah.heap.size=w'.heap.size->K ah):
 bt w' h [n,.int .u64 g,s]/\(3:Nat)=3/\an (setCells w' h 0 [n,.int .u64 g,s]) K:=by
 refine⟨a.b2 (by rw[b];rfl) ?_,rfl,cp a (us:=[n,.int .u64 g,s]) (by rw[b];rfl) rfl c⟩;intro v a;simp only[cP,eE,eL]at a;rcases a with rfl|rfl|rfl<;>trivial
theorem wG{w:J}{T:aL}(h:bH w T)(aG:T.C.D.aM<=999999999){no:Nat}(aj:no<T.n)(am:2<=no)(leaf:ai):
 aP ak 196 #[.pointer (some T.a_),no,leaf] w (nm T leaf no w):=by
 have bd:=h.s.bp;have aH:=h.Ex aj;refine okF (af.s5 (some T.a_) (no:Int) leaf) az.s5 func196 ?_;(delta af.s5 cc b8 al vt U fq a8 ag kv z3 bF r1 p3 jX;dsimp only);refine bl (vs:=[false,(),(),()]) rfl λw1 aI an be=>?_;obtain⟨o,L⟩:∃o,o=λq=>T.G q\/q=w.heap.size:=⟨_,rfl⟩;have ao:o w.heap.size:=by rw[L];exact .inr rfl
 have N:∀q,T.G q->o q:=λq c=>by rw[L];exact .inl c
 have O:∀q,o q->T.G q\/q=w.heap.size:=λq c=>by rw[L]at c;exact c
 have h1:bH w1 (T.cg T.E o):=h.grow (W:=λ_=>False) an (λ_ h=>h.elim) (λq c=>.inl c) (λq c=>.inr ((O q c).imp id λe=>⟨I,I⟩)) λq c hg=>by
  rcases O q hg with h2|h2
  .exact(h.c3 q c).2.2 h2
  .have:=h.lt (q:=q) (.inr (.inr (.inr (.inl c))));omega
 refine⟨_,rfl,_,h1.cells.1,(DW h1.ca aG (no:=no) (by rw[h1.n];exact aj) am).use ?_⟩;rintro _ m ⟨aD,aJ,R,t,aK⟩;obtain⟨S,aN⟩:=h1.oZ (P:=T.P) aJ R (λno bj aO=>by rw[t];exact h1.dQ no bj aO);have bf:=R.ab.size;have ap:Var m w.heap.size [false,(),(),()] 202:=aI.ab R.ab λhf=>(h1.ca.inv.eR _ (.inr (.inr (.inr ao)))).2 hf
 have fin:∀w':J,ad (λq=>q=w.heap.size) m w'->bH w' (T.bg aD T.P)/\bO T (T.bg aD T.P) w w' 2:=λw' hc=>by
  refine⟨S.grow (E:=T.E) (G:=T.G) hc (λq e _=>.inr (by rw[e];exact ao)) (λq c=>.inl c) (λq c=>.inr (.inl (N q c))) λq c=>(h.c3 q c).2.2,?_⟩;have aQ:=aN.local an (λq c=>.inl c) (λq c=>(O q c).imp id λe=>I) (jl:=T.E) (wF:=T.G) (λq c=>.inl c) N;exact aQ.step hc (λq e bh=>I) (λq c=>.inl c) λq c=>.inl c
 have aR:∀ {w':J}{n:aA}{K V D:Y}{B:Nat->Prop},br (λq=>m.heap.size<=q) w' n K V D->br (λq=>w.heap.size<=q/\¬(T.bg aD T.P).M q) w' n K V D:=λaS=>by
  refine aS.aV λq _ c=>⟨I,λj=>?_⟩;have:q<m.heap.size:=S.lt (q:=q) (by
   rcases j with j|j|j|j|j
   .exact .inl j
   .exact .inr (.inl j)
   .exact .inr (.inr (.inl j))
   .exact .inr (.inr (.inr (.inl j)))
   .exact .inr (.inr (.inr (.inr (N q j)))))
  omega
 rcases aK with ⟨s,rfl,hs⟩|⟨rfl,aT⟩
 .refine⟨s,0,rfl,λd=>(by cases d),λ_=>(lV hs.1 hs.2.1 (by show(T.C.view no).length<=1000;rw[aH];omega) _).use ?_⟩
  rintro _ aU ⟨y,F⟩;have aq:=ap.ext F;have bi:=F.size;have aW:(T.cg T.E o).C.view no=T.C.view no:=rfl;rw[aW]at y
  cases g:dk (no:Int) (T.C.view no) with
  |error e=>
   rw[g]at y;obtain rfl:=y;refine⟨0,0,⟨none,0,0⟩,e,rfl,bl (vs:=[(0:Int),.int .u64 0,()]) rfl λaX X u aZ=>?_⟩;refine uc 0 0 ⟨none,0,0⟩ X rfl λf ar v a0=>⟨λ_=>?_,λd=>?_⟩
   .have Z:Var f w.heap.size [false,(),(),()] 202:=(aq.ext u).ab v I
    refine h7 false bn bn bn Z rfl (Q:=λb K V D ah=>nm T leaf no w (.tuple #[.agg #[b,K,V,D],e]) ah) λl i=>?_;obtain⟨f1,f2⟩:=fin l (cm (W:=λq=>q=w.heap.size) (ad.cK (Ext.ck (F.trans u) v I)) i λq _ e=>e);exact⟨aD,f1,f2,t,.inr ⟨e,rfl,.inr (.inl g),z_ g⟩⟩
   .have:=z_ g
    simp at d;omega
  |ok p=>
   rw[g]at y;obtain⟨z,rfl,aa,bk⟩:=y;refine⟨p.kind,p.gen,z,0,rfl,bl (vs:=[(0:Int),.int .u64 0,()]) rfl λaX X u aZ=>?_⟩;refine uc p.kind p.gen z X rfl λf ar v a0=>⟨λd=>(by cases d),λ_=>aY ?_⟩;have Z:Var f w.heap.size [false,(),(),()] 202:=(aq.ext u).ab v I;have a1:Ext m f:=Ext.ck (F.trans u) v I;have A:Ext m f.drew:=a1.trans (cw _);have ac:Var f.drew w.heap.size [false,(),(),()] 202:=Z.drew;have H:=ar.drew;have a2:=(S.ext A).cells;obtain⟨b,d⟩:∃b,b=aU.heap.size:=⟨_,rfl⟩;rw[←d]at H⊢;have ae:f.drew.cell? b=some (.int .i64 (p.kind:Nat)):=H.cell;have a3:f.drew.cell? (Addr.add b 1)=some (.int .u64 (p.gen:Nat)):=by rw[ay];exact H.cell
   have a4:f.drew.cell? (Addr.add b 2)=some (.slice z.a z.len z.cap):=by rw[ay];exact H.cell
   have bm:m.heap.size<=f.drew.heap.size:=A.size;refine⟨id,_,a3,_,rfl,id,_,a2.2.2.1,λhg=>?_,λhg=>⟨id,_,ae,?_⟩⟩
   .have hg:T.gen<p.gen:=by
     have:(p.gen:Int)>(T.gen:Int):=b_ hg;omega
    refine ct (λb w'=>b=true/\w'=f.drew) (λq c=>⟨λ_=>c _ _ ⟨rfl,rfl⟩,λh=>by cases h⟩) ?_;rintro _ _ ⟨rfl,rfl⟩;refine⟨λ_=>?_,λh=>(by cases h)⟩;refine h7 false bn bn bn ac rfl (Q:=λb K V D ah=>nm T leaf no w (.tuple #[.agg #[b,K,V,D],(4:Int)]) ah) λl i=>?_;obtain⟨f1,f2⟩:=fin l (cm (W:=λq=>q=w.heap.size) (ad.cK A) i λq _ e=>e);refine⟨aD,f1,f2,t,.inr ⟨4,rfl,.inr (.inr ⟨rfl,⟨p,g⟩,?_⟩),by decide⟩⟩;rintro n ⟨au,av,ax,_⟩;rw[g]at av;cases av;omega
   .have hg:p.gen<=T.gen:=by
     have:¬(p.gen:Int)>(T.gen:Int):=cG hg;omega
    refine ct (λb w'=>w'=f.drew/\(b=false↔p.kind=(if leaf then 1 else 2))) (λq c=>⟨λh=>c _ _ ⟨rfl,?_⟩,λh=>⟨_,ae,ct (λb w'=>w'=f.drew/\(b=false↔p.kind=(if leaf then 1 else 2))) (λr aw=>⟨λh2=>⟨_,ae,aw _ _ ⟨rfl,?_⟩⟩,λh2=>aw _ _ ⟨rfl,?_⟩⟩) λb w' a5=>c b w' a5⟩⟩) ?_
    .refine⟨λh=>(by cases h),λx=>?_⟩
     rw[x]at h
     cases leaf<;>simp at h
    .cases leaf
     .simp
      exact Int.ofNat_inj
     .simp at h2 h;omega
    .cases leaf
     .simp at h2 h;omega
     .simp at h2
      simp;omega
    rintro bo _ ⟨rfl,x⟩;refine⟨λd=>?_,λd=>⟨_,a4,(oB ((aa.ext (Ext.ck u v I|>.trans (cw _))).src) ?_ ?_ ?_ leaf).use ?_⟩⟩
    .refine h7 false bn bn bn ac rfl (Q:=λb K V D ah=>nm T leaf no w (.tuple #[.agg #[b,K,V,D],(4:Int)]) ah) λl i=>?_
     obtain⟨f1,f2⟩:=fin l (cm (W:=λq=>q=w.heap.size) (ad.cK A) i λq _ e=>e);refine⟨aD,f1,f2,t,.inr ⟨4,rfl,.inr (.inr ⟨rfl,⟨p,g⟩,?_⟩),by decide⟩⟩;rintro n ⟨au,av,ax,aB,_⟩;rw[g]at av;cases av;rw[x.2 aB]at d;cases d
    .exact aa.2.1
    .intro k x
     have:=a7.lt aa k x;have:=u.size;show k<f.heap.size;omega
    .have:=Ez g
     omega
    rintro _ a6 ⟨a9,aC⟩;have aE:Ext m a6:=A.trans aC;have aF:=ac.ext aC;rcases a9 with ⟨n,K,V,D,rfl,ba,cT⟩|⟨rfl,bb⟩
    .refine⟨n.leaf,K,V,D,0,rfl,?_⟩
     refine h7 n.leaf K V D aF rfl (Q:=λb K V D ah=>nm T leaf no w (.tuple #[.agg #[b,K,V,D],(0:Int)]) ah) λl i=>?_;obtain⟨f1,f2⟩:=fin l (cm (W:=λq=>q=w.heap.size) (ad.cK aE) i λq _ e=>e);refine⟨aD,f1,f2,t,.inl ⟨n,K,V,D,rfl,⟨p,g,hg,x.1 d,ba,am⟩,?_⟩⟩;refine aR (B:=λ_=>True) (br.ab (cT.aV λq _ c=>?_) i λq c e=>?_)
     .omega
     .have:m.heap.size<=q:=c
      omega
    .refine⟨false,bn,bn,bn,4,rfl,?_⟩
     refine h7 false bn bn bn aF rfl (Q:=λb K V D ah=>nm T leaf no w (.tuple #[.agg #[b,K,V,D],(4:Int)]) ah) λl i=>?_;obtain⟨f1,f2⟩:=fin l (cm (W:=λq=>q=w.heap.size) (ad.cK aE) i λq _ e=>e);refine⟨aD,f1,f2,t,.inr ⟨4,rfl,.inr (.inr ⟨rfl,⟨p,g⟩,?_⟩),by decide⟩⟩;rintro n ⟨au,av,ax,aB,bc,_⟩;rw[g]at av;cases av;exact bb n bc
 .refine⟨⟨none,0,0⟩,3,rfl,λ_=>?_,λd=>(by cases d)⟩
  refine h7 false bn bn bn ap rfl (Q:=λb K V D ah=>nm T leaf no w (.tuple #[.agg #[b,K,V,D],(3:Int)]) ah) λl i=>?_;obtain⟨f1,f2⟩:=fin l i;exact⟨aD,f1,f2,t,.inr ⟨3,rfl,.inl ⟨rfl,aT⟩,by decide⟩⟩
structure da where
 no:Nat
 n:aA
 cJ:Nat
 K:Y
 V:Y
 D:Y
def da.c(s:da):O aa:=[s.no,s.n.leaf,s.K,s.V,s.D,s.cJ]
def da.st(s:da):Nat×aA×Nat:=(s.no,s.n,s.cJ)
theorem mb(l:O da):∀x∈l,(da.c x).length=6:=λ_ _=>rfl
structure jm(B:Nat->Prop)(w:J)(s:Y)(l:O da):Prop where
 own:a7 6 232 w s (b5 da.c l)
 nn:∀q,aC s q->B q
 bj:∀x∈l,br B w x.n x.K x.V x.D
def mc(P:Nat->aq aA)(k:Key):Nat->Nat->O (Nat×aA×Nat)->Prop
 |0,_,l=>l=[]
 |h+1,no,l=>∃n rest,P no=some n/\n.leaf=decide (h=0)/\l=(no,n,if h=0 then 0 else eB n.keys k)::rest/\mc P k h (n.kids.getD (eB n.keys k) 0) rest
theorem mc.length{P:Nat->aq aA}{k:Key}:∀ {h no:Nat}{l:O (Nat×aA×Nat)},mc P k h no l->l.length=h
 |0,_,_,h=>by rw[h];rfl
 |h+1,_,_,⟨n,rest,_,_,a,b⟩=>by rw[a,fy,mc.length b]
theorem gg.uniq{gen no:Nat}{leaf:ai}{l:cL}{n m:aA}(h1:gg gen leaf no l n)(h2:gg gen leaf no l m):n=m:=by
 obtain⟨p,a1,a2,a3,a4⟩:=h1;obtain⟨q,cd,bQ,b,a⟩:=h2;rw[a1]at cd
 cases cd;exact kA.uniq a4.1 a.1
theorem gg.is{gen no:Nat}{leaf:ai}{l:cL}{n:aA}(h:gg gen leaf no l n):n.leaf=leaf/\cv n/\bz n<=232:=by
 obtain⟨p,_,_,_,a,_⟩:=h;exact⟨a.2.1,a.1,a.2.2.1⟩
theorem gg.two{gen no:Nat}{leaf:ai}{l:cL}{n:aA}(h:gg gen leaf no l n):2<=no:=by
 obtain⟨p,_,_,_,_,a⟩:=h;exact a
theorem cv.e_{n:aA}(h:cv n):n.keys.Pairwise bX:=by
 rcases h with h|h
 .exact h.e_
 .exact h.e_
def EA(T:aL)(steps:O (Nat×aA×Nat))(w:J)(v:aa)(w':J):Prop:=
 ∃aD:bT,bH w' (T.bg aD T.P)/\bO T (T.bg aD T.P) w w' (2*T.aE)/\(∀j,aD.view j=T.C.view j)/\
  ((∃ (s:Y) (l:O da),v=.tuple #[s,(0:Int)]/\l.map da.st=steps/\jm (λq=>w.heap.size<=q/\¬(T.bg aD T.P).M q) w' s l)\/(v=.tuple #[(),(3:Int)]/\¬T.C.D.calm (2*T.aE)))
theorem EB(w:J)(cs:Array aa)(h:cs.size=6):Sem.run ak (Instr.buildSlice 228 1 #[(0,.agg cs)]) w=.ok (.slice (some w.heap.size) 1 1) (w.alloc (.cells cs 232)):=by
 have h0:((Tryz.prog.info? 232).bind (·.zero)).isSome=true:=by kernel_rfl
 obtain⟨z,a⟩:=nz.1 h0;obtain⟨i,hi,b⟩:=tU a;have h1:(Tryz.prog.underlying 232).isSome=true:=by kernel_rfl
 obtain⟨d,hd⟩:=nz.1 h1;exact zx (sz:=6) w (by kernel_rfl) hd (by kernel_rfl) hi b h (by decide) (by decide)
theorem EC:hW ak 228 232 6 96:=⟨by kernel_rfl⟩
theorem Aa{h:Nat}{n:aA}(a:n.leaf=decide (h=0)):((((h+1:Nat):Int):Int)==1)=n.leaf:=by
 rw[a,fD,jO,cR];omega
theorem wH{w:J}{T:aL}{tk:Y}{k:Key}{steps:O (Nat×aA×Nat)}(h:bH w T)(co:T.C.D.aM<=900000000)(bC:Src 1 w tk (aF k))(bD:∀q,aC tk q->q<w.heap.size/\¬T.M q)(bE:mc T.P k T.aE T.root steps):
 aP ak 142 #[.pointer (some T.a_),tk] w (EA T steps w):=by
 have cq:=h.num.2.1;refine okF (af.sT (some T.a_) tk) az.sT func142 ?_;(delta af.sT r1 al jX cc U a8 ag fP aB st aI au;dsimp only);refine⟨_,rfl,_,h.cells.2.2.2.1,_,rfl,_,h.cells.2.2.2.2,λs n8 n9 w'=>∃ (ej no:Nat) (l:O da) (rest:O (Nat×aA×Nat)) (bV:Nat->Prop) (aD:bT),n9=(ej:Nat)/\n8=(no:Nat)/\mc T.P k ej no rest/\l.map da.st++rest=steps/\l.length+ej=T.aE/\
  bV=(λq=>T.E q\/aC s q)/\(∀q,aC s q->w.heap.size<=q)/\bH w' ((T.cg bV T.G).bg aD T.P)/\bO T ((T.cg bV T.G).bg aD T.P) w w' (2*l.length)/\(∀j,aD.view j=T.C.view j)/\a7 6 232 w' s (b5 da.c l)/\
  ∀x∈l,br (λq=>w.heap.size<=q/\¬((T.cg bV T.G).bg aD T.P).M q) w' x.n x.K x.V x.D,λ_ _ n9 _=>n9.toNat,?_,?_⟩
 .have bF:T.E=λq=>T.E q\/aC ⟨none,0,0⟩ q:=by
   funext q;refine propext ⟨.inl,λh=>h.resolve_right ?_⟩;rintro⟨A,ar,_⟩
   cases ar
  have a6:(T.cg T.E T.G).bg T.C T.P=T:=rfl;refine⟨T.aE,T.root,[],steps,T.E,T.C,rfl,rfl,bE,rfl,by simp,bF,?_,by rw[a6];exact h,by rw[a6];exact .refl _ _,λ_=>rfl,?_,λx hx=>(by cases hx)⟩
  .rintro q ⟨A,ar,_⟩
   cases ar
  .exact⟨rfl,bo _,by decide,.inl ⟨rfl,rfl⟩⟩
 have fin:∀ {w':J}{bV:Nat->Prop}{aD:bT}{s:Y}{k:Nat},bH w' ((T.cg bV T.G).bg aD T.P)->bO T ((T.cg bV T.G).bg aD T.P) w w' k->bV=(λq=>T.E q\/aC s q)->(∀q,aC s q->w.heap.size<=q)->bH w' (T.bg aD T.P)/\bO T (T.bg aD T.P) w w' k:=by
  intro w' bV aD s k h1 h2 g z;have F:∀q,T.E q->bV q:=λq a=>by rw[g];exact .inl a
  exact⟨h1.grow (W:=λ_=>False) (E:=T.E) (G:=T.G) (ad.refl _ _) (λ_ h=>h.elim) (λq a=>.inl (F q a)) (λq a=>.inr (.inl a)) λq a=>(h.c3 q a).2.2,
   h2.step (W:=λ_=>False) (ad.refl _ _) (λ_ h=>h.elim) (λq a=>.inl (F q a)) λq a=>.inl a⟩
 rintro s _ _ cr ⟨ej,no,l,rest,bV,ac,rfl,rfl,a9,ba,hlen,H,L,t,R,f,aq,cT⟩;have cs:=R.ab.size;refine⟨λaK=>?_,λbG=>?_⟩
 .obtain⟨o,rfl⟩:∃bJ,ej=bJ+1:=⟨ej-1,by have:(ej:Int)>0:=b_ aK;omega⟩
  obtain⟨n,bK,bL,bb,rfl,bc⟩:=a9;obtain⟨bM,S⟩:=t.dQ no n bL;have bN:ac.D.aM<=999999999:=by
   have:ac.D.aM<=T.C.D.aM+2*l.length:=R.aM;omega
  refine(wG t bN bM S.two _).use ?_;rintro _ r ⟨B,h2,ae,bd,be⟩;have aw:=R.trans ae;have cu:=ae.ab.size;rw[Aa bb]at be;rcases be with ⟨bp,K,V,D,rfl,bP,aG⟩|⟨e,rfl,bQ,bR⟩
  .obtain rfl:=gg.uniq S bP
   obtain⟨_,aJ,cv⟩:=S.is;have bS:=aJ.e_;have cw:=tC aJ;refine⟨n.leaf,K,V,D,0,rfl,bl (vs:=[false,(),(),()]) rfl λbU X aN bW=>?_⟩;refine⟨X.b2 rfl ?_,rfl,cp X (us:=[n.leaf,K,V,D]) rfl rfl λah aO aQ bX=>⟨λd=>(by cases d),λ_=>?_⟩⟩
   .intro v f
    simp only[cP,eE,eL]at f;rcases f with rfl|rfl|rfl|rfl<;>trivial
   have bf:Ext r ah:=Ext.ck aN aQ (bo _);have cy:=bf.size;obtain⟨bI,aB,aT,aH⟩:=bw aO;refine⟨_,bI,K,aB,V,aT,D,aH,#[no,n.leaf,K,V,D,(0:Int)],by kernel_rfl,?_⟩;refine bl (vs:=[(0:Int),false,(),(),(),(0:Int)]) rfl λcz bh bi cA=>?_;refine⟨bh.b2 rfl ?_,rfl,cp bh (us:=[no,n.leaf,K,V,D,(0:Int)]) rfl rfl λaR aS bk cB=>?_⟩
   .intro v f
    simp only[cP,eE,eL]at f;rcases f with rfl|rfl|rfl|rfl|rfl|rfl<;>trivial
   have ai:Ext r aR:=Ext.ck (bf.trans bi) bk I;have aU:Var aR r.heap.size [n.leaf,K,V,D] 202:=(aO.ext bi).ab bk I;obtain⟨sb,bY⟩:∃sb,sb=ah.heap.size:=⟨_,rfl⟩;obtain⟨nb,bZ⟩:∃nb,nb=r.heap.size:=⟨_,rfl⟩;rw[←bY]at aS⊢;rw[←bZ]at aU⊢;have b0:=aG.ext ai;refine ct (λn40 u=>n40=(((if o=0 then no else n.kids.getD (eB n.keys k) 0:Nat)):Int)/\Ext r u/\Var u sb (da.c ⟨no,n,if o=0 then 0 else eB n.keys k,K,V,D⟩) 232) (λq a=>⟨λaj=>?_,λaj=>?_⟩) ?_
   .have N:o≠0:=by
     have:((o+1:Nat):Int)>1:=b_ aj;omega
    have b1:n.leaf=false:=by rw[bb];simp[N]
    have cC:=aJ.oR b1;have cD:=vy n.keys k;obtain⟨bI,aB,aT,aH⟩:=bw aU;have b3:Src 1 aR tk (aF k):=(bC.ab aw.ab λq a b4=>(bD q a).2 (aL.gm b4)).ext ai;refine⟨_,bI,K,aB,V,aT,D,aH,(ox b0 b3 bS I).use ?_⟩;rintro _ bm ⟨rfl,aW⟩;have bq:=aS.ext aW;obtain⟨av,ax⟩:=dB bq (i:=5) (by simp);rw[ay];refine⟨_,rfl,av,ax,aY ?_⟩;have bs:=dg bm sb 5 (.int .i64 ((eB n.keys k:Nat):Int));have bt:=dI bq (i:=5) (.int .i64 ((eB n.keys k:Nat):Int));have bv:Ext r (bm.setCell ⟨sb,5,none⟩ (.int .i64 ((eB n.keys k:Nat):Int))):=Ext.ck (ai.trans aW) bs I;have b6:=(aU.ext aW).ab bs I;obtain⟨d0,d1,d2,d3⟩:=bw b6;obtain⟨A,ar,d,b7⟩:=cx.at (aG.ext bv).kids (i:=eB n.keys k) I;refine⟨D,d3,_,bt.cell,A,ar,d,_,b7,a _ _ ⟨?_,bv,?_⟩⟩
    .rw[if_neg N,fg,dE I];rfl
    .rw[if_neg N]
     exact bt
   .have N:o=0:=by
     have:¬((o+1:Nat):Int)>1:=cG aj;omega
    refine a _ _ ⟨by rw[if_pos N],ai,?_⟩;rw[if_pos N];exact aS
   rintro _ u ⟨rfl,bx,b8⟩;have cE:=bx.size;refine⟨_,b8.rd rfl,⟨some u.heap.size,1,1⟩,_,EB _ _ rfl,?_⟩;have aX:=eu u (.cells (da.c ⟨no,n,if o=0 then 0 else eB n.keys k,K,V,D⟩).toArray 232);have Q:=bx.trans aX;have b9:=Q.size;have cb:=aX.size;have cd:=aq.1;rw[gQ _ (mb l)]at cd;have Z:∀q,aC s q->bV q:=λq a=>by rw[H];exact .inr a
   have ce:a7 6 232 r s (b5 da.c l):=aq.ab ae.ab λq a b=>t.iM (Z q a) b;obtain⟨x,aZ⟩:∃x:da,x=⟨no,n,if o=0 then 0 else eB n.keys k,K,V,D⟩:=⟨_,rfl⟩;rw[←aZ]at aX Q b9 cb⊢;have cf:∀v∈da.c x,Plain v:=by
    intro v f;unfold da.c at f;simp only[cP,eE,eL]at f;rcases f with rfl|rfl|rfl|rfl|rfl|rfl<;>trivial
   obtain⟨am,an,a1,a2,a3,a4,a5⟩:=EC.append (dG:=228) (x:=⟨some u.heap.size,1,1⟩) (Src.new (T:=232) u (da.c x) 1 rfl) (ce.ext Q) cf (by show(2*(s.len+1)+1000)*96<=_;omega);have cI:=a4.size;have a0:∀q,aC am q->w.heap.size<=q:=λq a=>by
    rcases a5 q a with h1|h1
    .exact L q h1
    .omega
   obtain⟨jl,bz⟩:∃jl,jl=λq=>T.E q\/aC am q:=⟨_,rfl⟩;have ao:∀q,jl q->T.E q\/aC am q:=λq a=>by rw[bz]at a;exact a
   have F:∀q,T.E q->bV q:=λq a=>by rw[H];exact .inl a
   have ch:b5 da.c (l++ [x])=b5 da.c l++da.c x:=by rw[qv];simp[b5]
   have ci:bH an ((T.cg jl T.G).bg B T.P):=by
    refine(h2.ext Q).grow (E:=jl) (G:=T.G) a4 (λq a _=>.inl (Z q a)) (λq a=>?_) (λq a=>.inr (.inl a)) λq a hg=>?_
    .rcases ao q a with h1|h1
     .exact .inl (F q h1)
     .rcases a5 q h1 with g|g
      .exact .inl (Z q g)
      .exact .inr (.inr ⟨g,a7.lt a2 q h1⟩)
    .rcases ao q a with h1|h1
     .exact(h.c3 q h1).2.2 hg
     .have g:=h.lt (q:=q) (.inr (.inr (.inr (.inr hg))))
      have:=a0 q h1;omega
   have cj:bO T ((T.cg jl T.G).bg B T.P) w an (2*(l++ [x]).length):=by
    have h1:=(aw.trans (bO.ext _ Q)).mono (l:=2*(l++ [x]).length) (by rw[cF,ie];omega);refine h1.step (E:=jl) (G:=T.G) a4 (λq a aj=>by have:=L q a;omega) (λq a=>?_) λq a=>.inl a;rcases ao q a with h1|h1
    .exact .inl (F q h1)
    .exact .inr (.inr (a0 q h1))
   have bA:∀ {m:aA}{K V D:Y},br (λq=>w.heap.size<=q/\¬((T.cg bV T.G).bg B T.P).M q) r m K V D->br (λq=>w.heap.size<=q/\¬((T.cg jl T.G).bg B T.P).M q) an m K V D:=λ{m K V D} b=>by
    have h1:=(b.ext Q).aV (C:=λq=>q<(u.alloc (.cells (da.c x).toArray 232)).heap.size/\w.heap.size<=q/\¬((T.cg bV T.G).bg B T.P).M q) λq a d=>⟨a,d⟩;refine(br.ab h1 a4 λq a cl=>a.2.2 (.inr (.inr (.inr (.inl (Z q cl)))))).aV λq _ d=>⟨d.2.1,λb=>d.2.2 ?_⟩;rcases b with b|b|b|b|b
    .exact .inl b
    .exact .inr (.inl b)
    .exact .inr (.inr (.inl b))
    .refine .inr (.inr (.inr (.inl ?_)))
     show bV q;rcases ao q b with g|g
     .exact F q g
     .rcases a5 q g with z|z
      .exact Z q z
      .have:=d.1;omega
    .exact .inr (.inr (.inr (.inr b)))
   have bB:IntKind.wrap .i64 (((o+1:Nat):Int)-1)=(o:Nat):=by rw[bu I I];omega
   refine⟨am,an,a1,⟨o,_,l++ [x],bK,jl,B,bB,rfl,?_,?_,by rw[cF,ie];omega,bz,a0,ci,cj,λj=>(bd j).trans (f j),by rw[ch];exact a2,?_⟩,?_⟩
   .cases o with
    |zero=>exact bc
    |succ m=>rw[if_neg I];exact bc
   .rw[←ba,fm,cV,aZ];rfl
   .intro y aa
    rcases cH.1 aa with aa|aa
    .exact bA (ae.bj (cT y aa))
    .obtain rfl:=e0.1 aa
     subst aZ;exact bA (aG.aV λq _ d=>⟨by have:=d.1;omega,d.2⟩)
   .rw[bB]
    show(o:Int).toNat<(((o+1:Nat):Int)).toNat;omega
  .refine⟨false,bn,bn,bn,e,rfl,bl (vs:=[false,(),(),()]) rfl λbU X aN bW=>?_⟩
   refine⟨X.b2 rfl ?_,rfl,cp X (us:=[false,(),(),()]) rfl rfl λah aO aQ bX=>⟨λ_=>?_,λd=>?_⟩⟩
   .intro v f
    simp only[cP,eE,eL]at f;rcases f with rfl|rfl|rfl|rfl<;>trivial
   .have hx:Ext r ah:=Ext.ck aN aQ (bo _)
    have he:e=3/\¬ac.D.calm 2:=by
     rcases bQ with h1|h1|⟨_,_,h1⟩
     .exact h1
     .obtain⟨p,av,_⟩:=S
      rw[av]at h1;cases h1
     .exact absurd S (h1 n)
    obtain⟨rfl,cm⟩:=he;obtain⟨g,z⟩:=fin (k:=2*T.aE) (h2.ext hx) ((aw.trans (bO.ext _ hx)).mono I) H L;exact⟨B,g,z,λj=>(bd j).trans (f j),.inr ⟨rfl,λhc=>cm (R.calm 2 (fJ hc I))⟩⟩
   .simp at d;exact absurd d bR
 .have h0:ej=0:=by
   have:¬(ej:Int)>0:=cG bG;omega
  subst h0;have cn:rest=[]:=a9;subst cn;obtain⟨g,z⟩:=fin (k:=2*T.aE) t (R.mono I) H L;refine⟨ac,g,z,f,.inl ⟨s,l,rfl,by rw[←ba,gi],aq,λq a=>⟨L q a,λb=>?_⟩,λx hx=>?_⟩⟩
  .have cJ:=L q a
   have ap:bV q:=by rw[H];exact .inr a
   rcases b with b|b|b|b|b
   .exact(t.ca.inv.eR q (.inr (.inr (.inl ap)))).2 b
   .exact(t.c3 q ap).1 b
   .exact(t.c3 q ap).2.1 b
   .have:=h.lt (q:=q) (.inr (.inr (.inr (.inl b))));omega
   .exact(t.c3 q ap).2.2 b
  .refine(cT x hx).aV λq _ d=>⟨d.1,λb=>d.2 ?_⟩
   rcases b with b|b|b|b|b
   .exact .inl b
   .exact .inr (.inl b)
   .exact .inr (.inr (.inl b))
   .refine .inr (.inr (.inr (.inl ?_)))
    show bV q;rw[H];exact .inl b
   .exact .inr (.inr (.inr (.inr b)))
def aL.hM(T:aL)(f:Nat->ai):aL:={T with f:=f}
structure dh where
 cb:Nat
 ma:Y
 fT:Y
 made:O Nat
 left:O Nat
structure c4(w:J)(T:aL)(c:dh):Prop where
 t:bH w T
 v:Var w c.cb [.pointer (some T.a_),c.ma,c.fT] 297
 ma:a7 1 3 w c.ma (dv c.made)
 fT:a7 1 3 w c.fT (dv c.left)
 gc:T.G c.cb
 eZ:∀q,aC c.ma q->T.G q/\q≠c.cb/\¬aC c.fT q
 jH:∀q,aC c.fT q->T.G q/\q≠c.cb
 ns:¬T.C.D.ro
theorem wI{w:J}{s:Y}{ds:O Nat}(d:Nat)(b:a7 1 3 w s (dv ds))(i:ds.length<=1000000):
 ∃ (a:Y) (w':J),Sem.run ak (Builtin.append_ #[58,58] 58 #[s,.slice (some w.heap.size) 1 1]) (w.alloc (.cells #[d] 3))=.ok a w'/\
  a7 1 3 w' a (dv (ds++ [d]))/\ad (aC s) w w'/\(∀k,aC a k->aC s k\/w.heap.size<=k)/\ad (aC s) (w.alloc (.cells #[d] 3)) w':=by
 have j:s.len=ds.length:=by have:=b.1;rw[l6]at this;omega
 have hc:Ext w (w.alloc (.cells #[d] 3)):=eu _ _;have l:(w.alloc (.cells #[d] 3)).heap.size=w.heap.size+1:=qt _ _;obtain⟨a,w',h1,h2,m,c,e⟩:=oQ.append (dG:=58) (x:=⟨some w.heap.size,1,1⟩) (Src.new (T:=3) w [d] 1 rfl) (b.ext hc) (λv f=>by rw[e0.1 f];trivial) (by show(2*(s.len+1)+1000)*8<=_;omega);exact⟨a,w',h1,by simpa[dv] using h2,(ad.cK hc).trans c,λk g=>(e k g).imp id (λh=>I),c⟩
section
variable {w w':J}{T ao:aL}{c:dh}
theorem c4.of{W:Nat->Prop}(h:c4 w T c)(d:bH w' ao)(hc:ad W w w')(cj:∀q,T.G q->¬W q)(f:ao.a_=T.a_)(b:∀q,T.G q->ao.G q)(g:ao.C.D.bC=T.C.D.bC:=by rfl):c4 w' ao c:=
 ⟨d,by rw[f];exact h.v.ab hc (cj _ h.gc),h.ma.ab hc λq a=>cj q (h.eZ q a).1,h.fT.ab hc λq a=>cj q (h.jH q a).1,b _ h.gc,λq a=>⟨b q (h.eZ q a).1,(h.eZ q a).2⟩,λq a=>⟨b q (h.jH q a).1,(h.jH q a).2⟩,λe=>h.ns λi=>g▸e i⟩
theorem c4.ext(h:c4 w T c)(hx:Ext w w'):c4 w' T c:=h.of (h.t.ext hx) hx (λ_ _ h=>h) rfl λ_ h=>h
theorem c4.cells(h:c4 w T c):w.cell? c.cb=some (.pointer (some T.a_))/\w.cell? (Addr.add c.cb 1)=some (.slice c.ma.a c.ma.len c.ma.cap)/\w.cell? (Addr.add c.cb 2)=some (.slice c.fT.a c.fT.len c.fT.cap):=by
 rw[ay,ay];exact⟨h.v.cell,h.v.cell,h.v.cell⟩
theorem bH.ud(h:bH w T){q:Nat}(a:T.G q):¬cO T.C q:=λhf=>(h.ca.inv.eR q (.inr (.inr (.inr a)))).2 hf
theorem bH.ue{f:Nat->ai}(h:bH w T)(hs:eo w' T.sb T.n f T.g T.s1 T.s2)(hc:ad (eY T.sb T.s1 T.s2) w w'):bH w' (T.hM f)/\bO T (T.hM f) w w' 0:=
 ⟨⟨h.t.ab hc h.iP,hs,h.ca.ab hc λq a=>.inr (.inl a),h.iP,h.c3,h.hL,h.n,h.num,h.dQ,h.bC,h.low⟩,
  ⟨rfl,rfl,rfl,rfl,rfl,rfl,rfl,rfl,rfl,rfl,bo _,λ_ h=>h,hc.mono λq _ a=>.inr (.inr (.inl a)),λq h=>.inl h,λq h=>.inl h⟩⟩
theorem ED(h:c4 w T c)(no:Nat)(x:c.made.length<=100000):
 ∃ (b:Y) (ah:J),Sem.run ak (Builtin.append_ #[58,58] 58 #[c.ma,.slice (some w.heap.size) 1 1]) (w.alloc (.cells #[no] 3))=.ok b ah/\
  ad (aC c.ma) (w.alloc (.cells #[no] 3)) ah/\(∃u:aa,ah.cell? ⟨c.cb,1,none⟩=some u)/\ah.frozen? ⟨c.cb,1,none⟩=false/\
  ∀j,j=ah.setCell ⟨c.cb,1,none⟩ b->c4 j (T.cg T.E λq=>T.G q\/aC b q) {c with ma:=b,made:=c.made++ [no]}/\bO T (T.cg T.E λq=>T.G q\/aC b q) w j 0:=by
 obtain⟨b,ah,av,ax,d,f,o⟩:=wI no h.ma I;have cj:∀q,aC c.ma q->T.G q:=λq a=>(h.eZ q a).1;have y:=d.size;have l:=h.v.ab d λa=>(h.eZ _ a).2.1 rfl;obtain⟨bN,bZ⟩:=dB l (i:=1) (by simp);refine⟨b,ah,av,o,bN,bZ,?_⟩;rintro _ rfl;have g:=dg ah c.cb 1 b;have p:=dI l (i:=1) b;have k:ad T.G w (ah.setCell ⟨c.cb,1,none⟩ b):=cm (d.mono λq _ a=>cj q a) g λq _ e=>by rw[e];exact h.gc
 have z:=k.size;have aK:∀q,aC b q->q<ah.heap.size:=λq a=>a7.lt ax q a;have m:∀q,aC b q->T.G q\/(w.heap.size<=q/\q<(ah.setCell ⟨c.cb,1,none⟩ b).heap.size):=λq a=>by
  rcases f q a with h1|h1
  .exact .inl (cj q h1)
  .exact .inr ⟨h1,by have:=aK q a;have:=g.size;omega⟩
 have n:∀q,aC b q->q≠c.cb:=λq a e=>by
  rcases f q a with h1|h1
  .exact(h.eZ q h1).2.1 e
  .have:=h.v.lt;omega
 have r:∀q,aC b q->¬aC c.fT q:=λq a e=>by
  rcases f q a with h1|h1
  .exact(h.eZ q h1).2.2 e
  .have:=a7.lt h.fT q e;omega
 have s:=h.t.grow (E:=T.E) (G:=λq=>T.G q\/aC b q) k (λq a _=>.inr a) (λq a=>.inl a) (λq a=>by
  rcases a with a|a
  .exact .inr (.inl a)
  .exact .inr (m q a)) λq a hg=>by
  rcases hg with hg|hg
  .exact(h.t.c3 q a).2.2 hg
  .rcases f q hg with h1|h1
   .exact(h.t.c3 q a).2.2 (cj q h1)
   .have:=h.t.lt (q:=q) (.inr (.inr (.inr (.inl a))));omega
 refine⟨⟨s,p,?_,(h.fT.ab d λq a e=>(h.eZ q e).2.2 a).ab g λq a e=>(h.jH q a).2 e,.inl h.gc,λq a=>⟨.inr a,n q a,r q a⟩,λq a=>⟨.inl (h.jH q a).1,(h.jH q a).2⟩,h.ns⟩,?_⟩
 .have:a7 1 3 ah b (dv (c.made++ [no])):=ax
  exact this.ab g λq a e=>n q a e
 .have h0:bO T T w w 0:=.refl _ _
  exact h0.step k (λq a _=>.inr (.inr (.inr a))) (λq a=>.inl a) λq a=>by
   rcases a with a|a
   .exact .inl a
   .exact(m q a).imp id λe=>e.1
theorem Ab(h:c4 w T c)(no:Nat)(x:c.left.length<=100000):
 ∃ (b:Y) (ah:J),Sem.run ak (Builtin.append_ #[58,58] 58 #[c.fT,.slice (some w.heap.size) 1 1]) (w.alloc (.cells #[no] 3))=.ok b ah/\
  ad (aC c.fT) (w.alloc (.cells #[no] 3)) ah/\(∃u:aa,ah.cell? ⟨c.cb,2,none⟩=some u)/\ah.frozen? ⟨c.cb,2,none⟩=false/\
  ∀j,j=ah.setCell ⟨c.cb,2,none⟩ b->c4 j (T.cg T.E λq=>T.G q\/aC b q) {c with fT:=b,left:=c.left++ [no]}/\bO T (T.cg T.E λq=>T.G q\/aC b q) w j 0:=by
 obtain⟨b,ah,av,ax,d,f,o⟩:=wI no h.fT I;have cj:∀q,aC c.fT q->T.G q:=λq a=>(h.jH q a).1;have y:=d.size;have l:=h.v.ab d λa=>(h.jH _ a).2 rfl;obtain⟨bN,bZ⟩:=dB l (i:=2) (by simp);refine⟨b,ah,av,o,bN,bZ,?_⟩;rintro _ rfl;have g:=dg ah c.cb 2 b;have p:=dI l (i:=2) b;have k:ad T.G w (ah.setCell ⟨c.cb,2,none⟩ b):=cm (d.mono λq _ a=>cj q a) g λq _ e=>by rw[e];exact h.gc
 have z:=k.size;have aK:∀q,aC b q->q<ah.heap.size:=λq a=>a7.lt ax q a;have m:∀q,aC b q->T.G q\/(w.heap.size<=q/\q<(ah.setCell ⟨c.cb,2,none⟩ b).heap.size):=λq a=>by
  rcases f q a with h1|h1
  .exact .inl (cj q h1)
  .exact .inr ⟨h1,by have:=aK q a;have:=g.size;omega⟩
 have n:∀q,aC b q->q≠c.cb:=λq a e=>by
  rcases f q a with h1|h1
  .exact(h.jH q h1).2 e
  .have:=h.v.lt;omega
 have r:∀q,aC c.ma q->¬aC b q:=λq e a=>by
  rcases f q a with h1|h1
  .exact(h.eZ q e).2.2 h1
  .have:=a7.lt h.ma q e;omega
 have s:=h.t.grow (E:=T.E) (G:=λq=>T.G q\/aC b q) k (λq a _=>.inr a) (λq a=>.inl a) (λq a=>by
  rcases a with a|a
  .exact .inr (.inl a)
  .exact .inr (m q a)) λq a hg=>by
  rcases hg with hg|hg
  .exact(h.t.c3 q a).2.2 hg
  .rcases f q hg with h1|h1
   .exact(h.t.c3 q a).2.2 (cj q h1)
   .have:=h.t.lt (q:=q) (.inr (.inr (.inr (.inl a))));omega
 refine⟨⟨s,p,(h.ma.ab d λq a e=>(h.eZ q a).2.2 e).ab g λq a e=>(h.eZ q a).2.1 e,?_,.inl h.gc,λq a=>⟨.inl (h.eZ q a).1,(h.eZ q a).2.1,r q a⟩,λq a=>⟨.inr a,n q a⟩,h.ns⟩,?_⟩
 .have:a7 1 3 ah b (dv (c.left++ [no])):=ax
  exact this.ab g λq a e=>n q a e
 .have h0:bO T T w w 0:=.refl _ _
  exact h0.step k (λq a _=>.inr (.inr (.inr a))) (λq a=>.inl a) λq a=>by
   rcases a with a|a
   .exact .inl a
   .exact(m q a).imp id λe=>e.1
end
def b3(T:aL):Nat:=T.n-ep (λi=>T.f i||T.g i) T.n
theorem Ac{s t:Nat->ai}:∀ {n:Nat},(∀i,i<n->s i=t i)->ep s n=ep t n
 |0,_=>rfl
 |n+1,h=>by
  unfold ep
  rw[Ac (n:=n) λi hi=>h i I,h n I]
theorem qF{s t:Nat->ai}{k:Nat}(a:s k=false)(ht:t k=true)(he:∀i,i≠k->t i=s i):∀ {n:Nat},k<n->ep t n=ep s n+1
 |0,h=>by omega
 |n+1,h=>by
  unfold ep
  by_cases e:k=n
  .subst e
   rw[Ac (s:=t) (t:=s) (n:=k) λi hi=>he i I,a,ht]
   simp
  .rw[qF a ht he (n:=n) I,he n I]
   omega
theorem Ad{t:Nat->ai}:∀ {n:Nat},(∀i,i<n->t i=true)->ep t n=n
 |0,_=>rfl
 |n+1,h=>by
  unfold ep
  rw[Ad (n:=n) λi hi=>h i I,h n I]
  simp
theorem Ae{T:aL}(h:1<=b3 T):∃no,firstFree (λi=>T.f i||T.g i) T.n=some no:=by
 cases hf:firstFree (λi=>T.f i||T.g i) T.n with
 |some no=>exact⟨no,rfl⟩
 |none=>
  have:=Ad (Ed hf);unfold b3 at h;rw[this]at h;omega
structure c5(T ao:aL)(c c':dh)(m l:O Nat)(w w':J)(k:Nat):Prop where
 to:bO T ao w w' k
 E:ao.E=T.E
 G:∀q,T.G q->ao.G q
 root:ao.root=T.root
 aE:ao.aE=T.aE
 cb:c'.cb=c.cb
 made:c'.made=c.made++m
 left:c'.left=c.left++l
 bj:m.Nodup
 iQ:∀no∈m,(T.f no||T.g no)=false/\no<T.n
 f:∀no,ao.f no=(T.f no||decide (no∈m))
 ee:∀no,(T.f no||T.g no)=true->ao.P no=T.P no/\ao.C.view no=T.C.view no
 room:b3 ao+m.length=b3 T
theorem c5.ext{w w':J}(T:aL)(c:dh)(h:Ext w w'):c5 T T c c [] [] w w' 0:=
 ⟨.ext T h,rfl,λ_ h=>h,rfl,rfl,rfl,by simp,by simp,List.nodup_nil,λ_ h=>(by cases h),λno=>by simp,λ_ _=>⟨rfl,rfl⟩,by simp⟩
theorem c5.trans{T ao j:aL}{c c' o:dh}{m p l r:O Nat}{w w' s:J}{k t:Nat}(h1:c5 T ao c c' m l w w' k)(h2:c5 ao j c' o p r w' s t):c5 T j c o (m++p) (l++r) w s (k+t):=by
 have hg:ao.g=T.g:=h1.to.g;have u:ao.n=T.n:=h1.to.n;have hf:∀no,(T.f no||T.g no)=true->(ao.f no||ao.g no)=true:=λno h=>by
  rw[h1.f,hg]
  cases d:T.f no<;>cases i:T.g no<;>simp[d,i]at h⊢
 refine⟨h1.to.trans h2.to,h2.E.trans h1.E,λq h=>h2.G q (h1.G q h),h2.root.trans h1.root,h2.aE.trans h1.aE,h2.cb.trans h1.cb,by rw[h2.made,h1.made,cV],by rw[h2.left,h1.left,cV],?_,λno h=>?_,λno=>?_,λno h=>?_,?_⟩
 .rw[nE]
  refine⟨h1.bj,h2.bj,λa v b x e=>?_⟩;subst e;have:=(h2.iQ a x).1;rw[h1.f]at this;simp[v]at this
 .rcases cH.1 h with h|h
  .exact h1.iQ no h
  .have d:=h2.iQ no h
   rw[h1.f,hg,u]at d;refine⟨?_,d.2⟩
   cases y:T.f no<;>cases z:T.g no<;>simp[y,z]at d⊢
 .rw[h2.f,h1.f]
  simp only[cH,Bool.decide_or,Bool.or_assoc]
 .have d:=h2.ee no (hf no h)
  have i:=h1.ee no h;exact⟨d.1.trans i.1,d.2.trans i.2⟩
 .have:=h1.room
  have:=h2.room;rw[cF];omega
theorem c5.mono{T ao:aL}{c c':dh}{m l:O Nat}{w w':J}{k j:Nat}(h:c5 T ao c c' m l w w' k)(a:k<=j):c5 T ao c c' m l w w' j:=⟨h.to.mono a,h.E,h.G,h.root,h.aE,h.cb,h.made,h.left,h.bj,h.iQ,h.f,h.ee,h.room⟩
def Af(T:aL)(c:dh)(n:aA)(w:J)(v:aa)(w':J):Prop:=
 ∃ (no:Nat) (ao:aL) (c':dh),c4 w' ao c'/\c5 T ao c c' [no] [] w w' 1/\
  ((v=.tuple #[no,(0:Int)]/\ao.P no=some n)\/(v=.tuple #[no,(3:Int)]/\¬T.C.D.calm 1))
theorem cv.fH{n:aA}(h:cv n)(h2:bz n<=400):n.keys.length<=200/\n.vals.length<=200/\n.kids.length<=201:=by
 have:=tC h;rcases h with h|h
 .have:=h.len
  have a:n.kids.length=0:=by rw[h.kids];rfl
  omega
 .have:=h.len
  have a:n.vals.length=0:=by rw[h.vals];rfl
  omega
theorem uf{B:Nat->Prop}{w:J}{T:aL}{c:dh}{n:aA}{K V D:Y}(h:c4 w T c)(bf:T.C.D.aM<=900000100)(W:1<=b3 T)(bh:c.made.length<=1000)(aI:br B w n K V D)(hs:cv n)(h2:bz n<=232):
 aP ak 283 #[.pointer (some c.cb),cQ n K V D] w (Af T c n w):=by
 obtain⟨no,X⟩:=Ae W;obtain⟨u,y,_⟩:=zT X;have H:=h.t.s.bp;have bi:=hs.fH I;refine okF (af.tp (some c.cb) n.leaf K V D) az.tp func283 ?_;(delta af.tp a8 U ag b8 al e2 st bF aB;dsimp only);refine bl (vs:=[n.leaf,K,V,D]) rfl λw1 Z ac bk=>?_;obtain⟨bI,aB,aT,aH⟩:=bw Z;refine⟨_,bI,K,aB,V,aT,D,aH,(oG (aI.ext ac) I I I).use ?_⟩;rintro _ aJ ⟨aK,ae⟩;rcases aK with ⟨s,rfl,aN,aO,_,_⟩|⟨e,rfl,he,aQ⟩
 rotate_left
 .have:=aQ hs;omega
 have L:=ac.trans ae;have r:=h.ext L;refine⟨s,0,rfl,λd=>(by cases d),λ_=>⟨_,rfl,_,r.cells.1,_,rfl,_,r.t.cells.2.1,(zV r.t.s).use ?_⟩⟩;rintro _ aR ⟨rfl,fA,ah⟩;rw[X]at fA⊢;obtain⟨aS,M⟩:=r.t.ue fA ah;have ai:c4 aR (T.hM (c0 T.f no true)) c:=r.of aS ah (λq a hf=>(h.t.hL q a).2 hf) rfl λ_ h=>h;refine⟨(no:Nat),0,rfl,λd=>(by cases d),λ_=>⟨_,rfl,_,ai.cells.2.1,?_⟩⟩;obtain⟨z,aj,av,ax,aU,aV,aW⟩:=ED ai no I;refine aY ⟨z,aj,av,_,rfl,by rw[ay];exact aU,by rw[ay];exact aV,aY ?_⟩;rw[ay];obtain⟨o,am⟩:∃o,o=aj.setCell ⟨c.cb,0+1,none⟩ z:=⟨_,rfl⟩;rw[←am];obtain⟨A,O⟩:=aW o am;obtain⟨an,bm⟩:∃an,an=λq=>T.G q\/aC z q:=⟨_,rfl⟩;have ap:∀q,T.N q->q<w.heap.size:=λq a=>h.t.lt (aL.gm a);have bn:=L.size;have bq:=M.ab.size;have bs:=O.ab.size;have ar:ad T.N aJ o:=M.ab.trans O.ab;have aX:Var o w.heap.size [n.leaf,K,V,D] 202:=(Z.ext ae).ab ar λa=>by have:=ap _ a;omega
 have aZ:a7 1 5 o s (aF (im n)):=aN.ab ar λq a a0=>by have:=ap _ a0;have:=aO q a;omega
 have hlen:=vP hs;have H:2<=no:=by
  have e:(T.f no||T.g no)=false:=y;have F:T.g no=false:=by cases hg:T.g no<;>simp_all
  have:=h.t.low;rcases dR no 2 with Q|Q
  .rcases mn no with au|au
   .rw[au,this.1]at F;cases F
   .rw[show no=1 from I,this.2]at F;cases F
  .exact Q
 have R:l3 ⟨if n.leaf then 1 else 2,T.gen,im n⟩:=by
  refine⟨?_,?_,h.t.num.2.2,by show(im n).length<=232;omega⟩
  .show 1<=(if n.leaf then 1 else 2);split<;>omega
  .show(if n.leaf then 1 else 2)<=4;split<;>omega
 refine ct (λn27 a1=>n27=((if n.leaf then 1 else 2:Nat):Int)/\a1=o) (λq a=>⟨n.leaf,aX.cell,λd=>a _ _ ⟨by rw[d];rfl,rfl⟩,λd=>a _ _ ⟨by rw[d];rfl,rfl⟩⟩) ?_;rintro _ _ ⟨rfl,rfl⟩;refine⟨_,rfl,_,A.cells.1,_,rfl,_,A.t.cells.2.2.1,(tM (no:=no) (p:=⟨if n.leaf then 1 else 2,T.gen,im n⟩) aZ.src I R).use ?_⟩;rintro _ bt ⟨s2,rfl,aw,aE,a2⟩;have l:=A.ext aE;refine⟨s2,0,rfl,λd=>(by cases d),λ_=>⟨_,rfl,_,l.cells.1,_,rfl,_,l.t.cells.1,(zM l.t.ca (by show T.C.D.aM<=999999999;omega) (no:=no) (by rw[l.t.n];exact u) H (λhs=>by have:=l.t.bC no hs;have e:(T.f no||T.g no)=false:=y;rcases this with this|this;(rw[show T.g no=true from this,Bool.or_true]at e;cases e);exact l.ns this) aw.src (qq no R) λq a=>⟨a7.lt aw q a,λhf=>?_⟩).use ?_⟩⟩
 .have:=a2 q a
  have:=A.t.lt (q:=q) (.inl hf);omega
 rintro _ a3 ⟨aD,a4,S,a5⟩;have a6:∀j,c0 T.f no true j=(T.f j||decide (j∈ [no])):=λj=>by
  unfold c0;by_cases e:j=no
  .subst e;simp
  .simp[e]
 have aG:(T.f no||T.g no)=false:=y;have a9:T.n-ep (λi=>c0 T.f no true i||T.g i) T.n+1=b3 T:=by
  have:=qF (s:=λi=>T.f i||T.g i) (t:=λi=>c0 T.f no true i||T.g i) (k:=no) y (by simp[c0]) (λi hi=>by simp[c0,hi]) u;unfold b3 at W⊢;have Q:=lk (λi=>T.f i||T.g i) T.n;omega
 have main:∀ (P':Nat->aq aA) (v:aa),(∀j,j≠no->P' j=T.P j)->(∀j,j≠no->aD.view j=T.C.view j)->(∀j bj,P' j=some bj->j<T.n/\gg T.gen bj.leaf j (aD.view j) bj)->
  ((v=.tuple #[no,(0:Int)]/\P' no=some n)\/(v=.tuple #[no,(3:Int)]/\¬T.C.D.calm 1))->Af T c n w v a3:=by
  intro P' v a_ dJ ba m;obtain⟨bb,bc⟩:=l.t.oZ (P:=P') a4 S ba;have bd:=l.of (ao:=((T.hM (c0 T.f no true)).cg T.E λq=>T.G q\/aC z q).bg aD P') bb S.ab (λq a=>l.t.ud a) rfl (λ_ h=>h) S.bC;refine⟨no,_,_,bd,⟨?_,rfl,λq a=>.inl a,rfl,rfl,rfl,rfl,(gi _).symm,by simp,λx hx=>?_,a6,λj b=>?_,a9⟩,m⟩
  .have:=(((bO.ext T L).trans M).trans O).trans ((bO.ext _ aE).trans bc)
   exact this.mono I
  .obtain rfl:=e0.1 hx
   exact⟨aG,u⟩
  .have:j≠no:=λe=>by rw[e,aG]at b;cases b
   exact⟨a_ j this,dJ j this⟩
 rcases a5 with ⟨rfl,m⟩|⟨rfl,be,m⟩
 .refine⟨0,rfl,main (λj=>if j=no then some n else T.P j) _ (λj b=>if_neg b) (λj b=>(m j).trans (if_neg b)) (λj bj b=>?_) (.inl ⟨rfl,if_pos rfl⟩)⟩
  by_cases e:j=no
  .subst e
   rw[if_pos rfl]at b
   cases b;rw[m,if_pos rfl];exact⟨u,_,tH I R,bo _,rfl,⟨hs,rfl,h2,rfl⟩,H⟩
  .rw[if_neg e]at b
   rw[m,if_neg e];exact h.t.dQ j bj b
 .refine⟨3,rfl,main T.P _ (λ_ _=>rfl) (λj _=>m j) (λj bj b=>?_) (.inr ⟨rfl,be⟩)⟩
  rw[m];exact h.t.dQ j bj b
end Go.Proofs.YtkdhdlfonmgheaaGreat
