/- Contracts of the functions that the statement reaches, and the plain laws over them; each theorem stands with its conditions. -/
import Derived.OpenShut
import Derived.Test.YtkdhdlfonmgheaaGreatRows
import Derived.Test.YtkdhdlfonmgheaaGreatBCrash2
namespace Go.Proofs.YtkdhdlfonmgheaaGreat
open Go a8 Go.Proofs.Tryz
def a6.dB(D:a6)(i:Nat):O cX:=match D.waits.find? λx=>x.i==i with
 |some x=>x.gu
 |none=> []
theorem vG(D:a6)(h:∀x∈D.waits,x.gu≠ [])(i:Nat):D.now i=if D.dB i=[] then D.bg.getD i [] else (D.dB i).getLastD []:=by
 unfold a6.now a6.dB
 cases hf:D.waits.find? λx=>x.i==i with
 |some x=>
  have hx:=jH hf;simp only;rw[if_neg (h x hx)]
 |none=>simp
def a6.calm(D:a6)(k:Nat):Prop:=(D.cg.getD 1 0= -1\/(k:Int)<=D.cg.getD 1 0)/\(D.cg.getD 2 0= -1\/(k:Int)<=D.cg.getD 2 0)
def a6.kc(D:a6):Int->Prop:=λn=>(∀j,D.bL j=true)->D.writes=n
def a6.ro(D:a6):Prop:=∀i,D.bL i=true
def a6.key(D:a6):(O cX×(Nat->ai)×(Nat->O cX)×(Int->Prop))×Int:=((D.bg,D.bL,D.dH,D.kc),D.cg.getD 3 0)
theorem cu{W V:Nat->Prop}{w w' b:J}(h1:ad W w w')(h2:ad V w' b)(h:∀q,q<w.heap.size->V q->W q):ad W w b:=
 ⟨h2.os.trans h1.os,h2.tape.trans h1.tape,h2.output.trans h1.output,eK h1.size h2.size,λk a cd=>(h2.block k (fU a h1.size) λc=>cd (h k a c)).trans (h1.block k a cd)⟩
theorem gg{D:a6}{k l:Nat}(h:D.calm k)(a:l<=k):D.calm l:=⟨h.1.imp id λh=>I,h.2.imp id λh=>I⟩
theorem jO{D:a6}{k m:Nat}(c:k=1\/k=2)(e:D.cg.length=4)(h:D.calm (m+1)):(D.cC k).calm m/\D.fV k=false:=by
 obtain⟨h1,h2⟩:=h;have iD:1<D.cg.length:=by omega
 have d:2<D.cg.length:=by omega
 rcases c with rfl|rfl
 .have a:(D.cC 1).cg.getD 1 0=(gA (D.cg.getD 1 0)).2:=by
   show(D.cg.set 1 _).getD 1 0=_;rw[fm (by rw[df];omega),ig]
  have b:(D.cC 1).cg.getD 2 0=D.cg.getD 2 0:=by
   show(D.cg.set 1 _).getD 2 0=_;rw[fm (by rw[df];omega),fH I,fm d]
  unfold a6.calm a6.fV;rw[a,b];unfold gA;rcases h1 with h1|h1
  .rw[if_pos h1]
   exact⟨⟨.inl rfl,h2.imp id λh=>I⟩,rfl⟩
  .rw[if_neg I,if_neg I]
   exact⟨⟨.inr (by show(m:Int)<=_-1;omega),h2.imp id λh=>I⟩,rfl⟩
 .have a:(D.cC 2).cg.getD 2 0=(gA (D.cg.getD 2 0)).2:=by
   show(D.cg.set 2 _).getD 2 0=_;rw[fm (by rw[df];omega),ig]
  have b:(D.cC 2).cg.getD 1 0=D.cg.getD 1 0:=by
   show(D.cg.set 2 _).getD 1 0=_;rw[fm (by rw[df];omega),fH I,fm iD]
  unfold a6.calm a6.fV;rw[a,b];unfold gA;rcases h2 with h2|h2
  .rw[if_pos h2]
   exact⟨⟨h1.imp id λh=>I,.inl rfl⟩,rfl⟩
  .rw[if_neg I,if_neg I]
   exact⟨⟨h1.imp id λh=>I,.inr (by show(m:Int)<=_-1;omega)⟩,rfl⟩
theorem qc(D:a6){k:Nat}(a:k=1\/k=2):(D.cC k).key=D.key:=by
 unfold a6.key a6.cC;rcases a with rfl|rfl<;>simp[fC]<;>rfl
theorem xY{sz:Nat}{w:J}{s:Y}{α:Type}{c:α->O aa}{l:O α}(h:Src sz w s (bV c l))(hc:∀x∈l,(c x).length=sz)(e:0<sz){i:Nat}(hi:i<l.length):
 s.len=l.length/\∃A,s.a=some A/\cA w (A.add (i*sz)) 0 sz=some (c l[i]):=by
 have b:s.len=l.length:=by
  have:=h.len;rw[gM l hc]at this;exact(Nat.eq_of_mul_eq_mul_right e this).symm
 refine⟨b,?_⟩
 cases d:s.a with
 |none=>
  have:=congrArg List.length (h.nil d);rw[gM l hc,jJ]at this;have:l.length*sz≠0:=Nat.mul_ne_zero I I;omega
 |some A=>
  refine⟨A,rfl,?_⟩;have f:i*sz+sz<=s.len*sz:=by
   rw[b,←Nat.succ_mul];exact mF _ hi
  rw[Ap (h.rd A d) f,Bm hc hi]
def qd:O aa:=aJ (List.replicate 256 0)
def xZ(D:a6)(i:Nat)(w:J)(v:aa)(w':J):Prop:=v=.agg (aJ (D.now i)).toArray/\Ext w w'
theorem Bq{w:J}{D:a6}(h:cx w D){i:Nat}(hi:i<D.n)(Q:D.aQ<=1000000000):
 aR aj 137 #[.pointer (some D.d),i] w (xZ D i w):=by
 have R:=h.bC;have f:=h.oB hi;refine okF (af.uw (some D.d) (i:Int)) aA.uw func137 ?_;(delta af.uw z4 ak av xj U ag tf;dsimp only);refine bh (vs:=qd) (by kernel_rfl) λw1 g u _=>?_;have hd:=h.ext u;refine⟨_,rfl,some D.mr,hd.ba,?_⟩;have y:qd.length=256:=by rw[qd,ey,mM]
 have fin:∀ (K:O aa->J->Prop),(∀a,Ext w a->K (aJ (D.now i)) a)->bx w1 w.heap.size (Array.toList (aJ (D.now i)).toArray)/\Array.size (aJ (D.now i)).toArray=256/\al (setCells w1 w.heap.size 0 (Array.toList (aJ (D.now i)).toArray)) λa=>∃b:O aa,cA a w.heap.size 0 256=some b/\K b a:=by
  intro K E;refine⟨g.b9 (by rw[qH,ey,f,y]) (by rw[qH];exact k6 _),by simp[ey,f],cr g (us:=aJ (D.now i)) (by rw[ey,f,y]) rfl λa F G _=>⟨_,F.rd (by rw[ey,f]),E a (Ext.cn u G (bl _))⟩⟩
 cases hf:D.waits.find? λx=>x.i==i with
 |some x=>
  have hx:=jH hf;have H:x.i=i:=by
   have:=ko hf;exact eq_of_beq this
  have j:=hd.m.w5 oA lM (k:=(i:Int)) (v:=x.s) (eC.2 ⟨x,hx,by unfold g3.e;rw[H]⟩) false;have L:=(h.wn x hx).1;have hlen:0<x.gu.length:=sm.2 L;have S:=(h.wn x hx).2.2;obtain⟨z,A,ar,p⟩:=xY (hd.ws x hx).src (λs hs=>by rw[ey];exact h.j_ x hx s hs) (by decide) (i:=x.gu.length-1) I;have q:D.now i=x.gu[x.gu.length-1]'I:=by
   unfold a6.now;rw[hf];show x.gu.getLastD []=_;rw[List.getLastD_eq_getLast?,List.getLast?_eq_getElem?,dE I];rfl
  refine⟨x.s,w1,j,λ_=>⟨A,ar,?_⟩,λr=>?_⟩
  .rw[z,bA (n:=(x.gu.length:Int)-1) I I]
   have M:Int.toNat ((x.gu.length:Int)-1)=x.gu.length-1:=by omega
   rw[M];refine⟨⟨I,I⟩,_,p,?_⟩;rw[←q];exact fin (λb a=>xZ D i w (.agg b.toArray) a) λa t=>⟨rfl,t⟩
  .have:=cv r
   omega
 |none=>
  obtain⟨T,h1,h2⟩:=rM Bo;have j:=hd.m.Am oA lM (k:=(i:Int)) h1 h2 (λv g=>by
   obtain⟨x,hx,he⟩:=eC.1 g;have N:=jo.1 hf x hx;unfold g3.e at he;simp only[Prod.mk.injEq]at he;apply N;have:x.i=i:=by omega
   rw[this];simp) false
  have B:i<D.bg.length:=hi;have q:D.now i=D.bg[i]:=by
   unfold a6.now;rw[hf];exact fm B
  have P:Src 256 w1 ⟨some D.lb,D.bg.length,D.bg.length⟩ (bV aJ D.bg):=by
   have C:=gM (c:=aJ) (sz:=256) D.bg λs hs=>by rw[ey];exact h.sl s hs
   have:=bz.q6 (sz:=256) (o:=0) (n:=D.bg.length) (cap:=D.bg.length) hd.l (by simp[C]);rw[lv,qH,dV (by rw[C];exact bl _)]at this;exact this
  obtain⟨z,A,ar,p⟩:=xY P (λs hs=>by rw[ey];exact h.sl s hs) (by decide) B;refine⟨⟨none,0,0⟩,w1,j,λr=>by simp at r,λ_=>⟨_,rfl,_,hd.dg,A,ar,⟨I,by show(i:Int)<(D.bg.length:Int);omega⟩,_,p,?_⟩⟩;rw[←q];exact fin (λb a=>xZ D i w (.agg b.toArray) a) λa t=>⟨rfl,t⟩
def F0(D:a6)(i:Nat)(w:J)(v:aa)(w':J):Prop:=
 cx w' (D.cC 1)/\ad (λq=>q=D.d) w w'/\
  ((D.fV 1=true/\v=.tuple #[(),(3:Int)])\/
   (D.fV 1=false/\∃s:Y,v=.tuple #[s,(0:Int)]/\a_ (λq=>w.heap.size<=q) w' s (D.now i)))
theorem x0{w:J}{D:a6}(h:cx w D){i:Nat}(hi:i<D.n)(x:D.aQ<=1000000000):
 aR aj 114 #[.pointer (some D.d),i] w (F0 D i w):=by
 refine okF (af.uk (some D.d) (i:Int)) aA.uk func114 ?_;(delta af.uk aO ak tg gI z4 U;dsimp only);refine(Bp h _).use ?_;rintro _ _ ⟨rfl,rfl⟩;refine⟨_,rfl,λa=>?_,λ_=>⟨_,rfl,(xX h (k:=1) (by decide)).use ?_⟩⟩
 .have a:¬(0<=(i:Int)/\(i:Int)<D.n):=by simpa using a
  omega
 rintro _ ah ⟨rfl,b,j,z⟩;refine⟨_,rfl,λa=>⟨b,j,.inl ⟨a,rfl⟩⟩,λa=>(Bq b (i:=i) hi x).use ?_⟩;rintro _ m ⟨rfl,g⟩;have f:=h.oB hi;refine⟨_,rfl,bh (vs:=qd) (by kernel_rfl) λB p r C=>⟨p.b9 (by rw[qH,ey];show(D.now i).length=_;rw[f,qd,ey,mM]) (by rw[qH];exact k6 _),by rw[sy,ey];exact f,cr p (us:=aJ (D.now i)) (by rw[ey,f,qd,ey,mM]) rfl λE s t F=>?_⟩⟩;have G:=g.size;have aK:D.d<ah.heap.size:=b.v.lt;refine⟨(b.ext (g.trans r)).ab t (λq u e=>by have:=b.lt u;omega),cu (j.trans (ad.cJ (g.trans r))) t λq u e=>I,.inr ⟨a,⟨some m.heap.size,256,256⟩,rfl,?_,bl _,λk y=>?_⟩⟩
 .have:=s.AR (o:=0) (n:=256) (c:=256) (l:=D.now i) (by rw[ey,f];decide) (by rw[lv,dV (by rw[ey,f];decide)])
  exact this
 .obtain⟨A,ar,rfl⟩:=y
  cases ar;have:=s.lt;exact⟨by show w.heap.size<=m.heap.size;omega,this⟩
theorem Br:∀ (l:O aa) (k:Nat) (a:Array aa),(l.zipIdx k).foldl (λcs (p:aa×Nat)=>cs.setIfInBounds p.2 p.1) a=gH a k l
 | [],_,_=>rfl
 |v::l,k,a=>by
  rw[List.zipIdx_cons,List.foldl_cons]
  exact Br l (k+1) (a.setIfInBounds k v)
theorem x1{P:Program}{T e:TypeId}{d:TypeDesc}{i:TypeInfo}{z:aa}{sz:Nat}{cs:Array aa}(w:J)(h1:P.underlying T=some (.slice e))(h2:P.underlying e=some d)(f:P.cellsOf e=sz)(hi:P.info? e=some i)(g:i.zero=some z)(a:cs.size=sz)(o:sz≠0)(q:sz<=16777216):
 Sem.run P (Instr.buildSlice T 1 #[(0,.agg cs)]) w=.ok (.slice (some w.heap.size) 1 1) (w.alloc (.cells cs e)):=by
 have b:=iB (P:=P) (w:=w) h2;rw[f]at b;have h:Instr.fill (λi=>some (i*sz,sz)) ((Array.range (1*sz)).map λx=>z.cells[x%z.cells.size]!) [(0,.agg cs)]=some cs:=by
  have hc:(Value.agg cs).cells=cs:=rfl;rw[Instr.fill];simp only[hc];rw[if_neg (by simp[a]),Instr.fill];rw[←Array.foldl_toList,Array.toList_zipIdx];have e:(λ(cs:Array aa) (x:aa×Nat)=>match x with|(c,j)=>cs.setIfInBounds (0*sz+j) c)=λcs (p:aa×Nat)=>cs.setIfInBounds p.2 p.1:=by
   funext cs x;obtain⟨c,j⟩:=x;simp
  rw[e,Br]
  congr 1
  apply Array.toList_inj.1;rw[lF _ _ _ (by simp[a])];simp[a]
 have k:=mN (w:=w) hi;have l:¬(1*sz>2^24):=by
  have:(2:Nat)^24=16777216:=rfl;omega
 have m:¬(1*sz=0):=by omega
 have n:Instr.fill (λi=>some (i*sz,sz)) ((Array.range (1*sz)).map λx=>z.cells[x%z.cells.size]!) (#[(0,Value.agg cs)]:Array (Nat×aa)).toList=some cs:=h;simp only[Instr.buildSlice,Sem.run_bind,dr h1,b,Result.andThen,l,m,if_false,zeroValue,k,g,Sem.run_pure,n];simp[newRow,newObj,Sem.run]
theorem Bs(w:J)(l:cX)(a:l.length=256):
 Sem.run aj (Instr.buildSlice 136 1 #[(0,.agg (aJ l).toArray)]) w=.ok (.slice (some w.heap.size) 1 1) (w.alloc (.cells (aJ l).toArray 182)):=by
 have h:((Tryz.prog.info? 182).bind (·.zero)).isSome=true:=by kernel_rfl
 obtain⟨z,b⟩:=mB.1 h;obtain⟨i,hi,c⟩:=rM b;exact x1 (d:=.array 256 5) (sz:=256) w (by kernel_rfl) (by kernel_rfl) (by kernel_rfl) hi c (by rw[sy,ey,a]) (by decide) (by decide)
theorem F1:hM aj 136 182 256 256:=⟨by kernel_rfl⟩
def a6.put(D:a6)(i:Nat)(s:Y)(l:cX):a6:=
 {D.cC 2 with waits:=⟨i,s,D.dB i++ [l]⟩::D.waits.filter (λx=>x.i !=i),writes:=IntKind.wrap .i64 (D.writes+1),aQ:=D.aQ+1}
theorem Bt{D:a6}{i j:Nat}(h:j≠i):(D.waits.filter λx=>x.i !=i).find? (λx=>x.i==j)=D.waits.find? λx=>x.i==j:=by
 rw[List.find?_filter]
 congr 1
 funext x;by_cases e:x.i=j
 .rw[e];simp[h]
 .simp[e]
theorem Bu(D:a6)(i:Nat)(s:Y)(l:cX)(j:Nat):(D.put i s l).dB j=if j=i then D.dB i++ [l] else D.dB j:=by
 unfold a6.dB a6.put;by_cases h:j=i
 .subst h
  simp[a6.dB]
 .rw[if_neg h]
  simp only;rw[List.find?_cons_of_neg (by simp;omega),Bt h]
theorem oC(D:a6)(i:Nat)(s:Y)(l:cX)(j:Nat):(D.put i s l).now j=if j=i then l else D.now j:=by
 unfold a6.now a6.put;by_cases h:j=i
 .subst h
  simp
 .rw[if_neg h]
  simp only;rw[List.find?_cons_of_neg (by simp;omega),Bt h];rfl
def Bv(D:a6)(i:Nat)(l:cX)(w:J)(v:aa)(w':J):Prop:=
 (D.fV 2=true/\v=.int .i64 3/\cx w' (D.cC 2)/\ad (λq=>q=D.d) w w')\/
 (D.fV 2=false/\v=.int .i64 0/\∃s:Y,cx w' (D.put i s l)/\ad (bY D) w w'/\∀q,aB s q->bY D q\/w.heap.size<=q)
theorem vH{w:J}{D:a6}{b:Y}{l:cX}(h:cx w D){i:Nat}(hi:i<D.n)(bf:D.aQ<=1000000000)(W:Src 1 w b (aJ l))(G:l.length=256)(hd:∀q,aB b q->¬bY D q):
 aR aj 75 #[.pointer (some ⟨D.d,0,none⟩),.int .i64 ((i:Nat):Int),.slice b.a b.len b.cap] w (Bv D i l w):=by
 have az:=len8 W;have bh:=h.bC;refine okF (af.tW (some ⟨D.d,0,none⟩) ((i:Nat):Int) b) aA.tW func75 ?_;(delta af.tW aO ak xb r1 st av;dsimp only);refine(Bp h _).use ?_;rintro _ _ ⟨rfl,rfl⟩;have aS:decide (0<=(i:Int)/\(i:Int)<D.n)=true:=dP ⟨I,I⟩;refine⟨_,rfl,λh1=>?_,λ_=>⟨_,rfl,(xX h (k:=2) (by decide)).use ?_⟩⟩
 .rw[aS,az,G]at h1
  simp at h1
 rintro _ ah ⟨rfl,H,X,bi⟩;refine⟨_,rfl,λZ=>.inl ⟨Z,rfl,H,X⟩,λZ=>aW ?_⟩;obtain⟨p,hold⟩:∃p:Y,(match D.waits.find? λx=>x.i==i with|some x=>x.s|none=>⟨none,0,0⟩)=p:=⟨_,rfl⟩;have t:=H.ext (cf ah);have aT:Src 1 ah.drew b (aJ l):=(W.ab X λq f e=>hd q f (.inl e)).ext (cf ah)
 have aU:bd 256 182 ah.drew p (bV aJ (D.dB i))/\(∀q,aB p q->bY D q/\q≠D.d/\q≠D.lb/\q≠D.mr)/\(∀x∈D.waits,x.i≠i->∀q,aB x.s q->¬aB p q)/\(D.dB i).length<=D.aQ/\(∀s∈D.dB i,s.length=256)/\
  ∀w':J,eD w' D.mr encZ (D.waits.map g3.e)->Sem.run aj (Instr.lookup 137 (.map (some D.mr)) (.int .i64 ((i:Nat):Int)) false) w'=.ok (.slice p.a p.len p.cap) w':=by
  cases hf:D.waits.find? λx=>x.i==i with
  |some x=>
   rw[hf]at hold;have hold:x.s=p:=hold;subst hold;have hx:=jH hf;have R:x.i=i:=by
    have:=ko hf;exact eq_of_beq this
   have e:D.dB i=x.gu:=by unfold a6.dB;rw[hf]
   rw[e];refine⟨t.ws x hx,λq f=>⟨.inr (.inr (.inr ⟨x,hx,f⟩)),λe=>(h.a2 x hx).1 (e▸f),λe=>(h.a2 x hx).2.1 (e▸f),λe=>(h.a2 x hx).2.2 (e▸f)⟩,λy r z=>h.a3 y r x hx I,(h.wn x hx).2.2,h.j_ x hx,λw' K=>K.w5 oA lM (k:=(i:Int)) (v:=.slice x.s.a x.s.len x.s.cap) (eC.2 ⟨x,hx,by unfold g3.e;rw[R]⟩) false⟩
  |none=>
   rw[hf]at hold;have hold:(⟨none,0,0⟩:Y)=p:=hold;subst hold;have e:D.dB i=[]:=by unfold a6.dB;rw[hf]
   rw[e];obtain⟨bj,h1,h2⟩:=rM Bo;refine⟨bd.none _ _ _,λq f=>(gk q f).elim,λx _ _ q _ f=>(gk q f).elim,cL _,λs hs=>(by cases hs),λw' K=>K.Am oA lM (k:=(i:Int)) h1 h2 (λv ac=>?_) false⟩;obtain⟨x,hx,he⟩:=eC.1 ac;have aV:=jo.1 hf x hx;unfold g3.e at he;simp only[Prod.mk.injEq]at he;apply aV;have:x.i=i:=by omega
   rw[this];simp
 obtain⟨aC,B,aD,bk,aE,aF⟩:=aU;obtain⟨A,ar,aX⟩:∃A,b.a=some A/\cA ah.drew A 0 256=some (aJ l):=by
  cases aG:b.a with
  |none=>
   have:=congrArg List.length (W.nil aG);rw[ey,G]at this
   cases this
  |some A=>
   refine⟨A,rfl,?_⟩;have:=aT.rd A aG;rwa[az,G]at this
 have aY:¬aB p A.block:=λf=>hd _ ⟨A,ar,rfl⟩ (B _ f).1
 have aH:∀C:J,Ext ah.drew C->∃ (g:Y) (j:J),Sem.run aj (Builtin.append_ #[136,136] 136 #[.slice p.a p.len p.cap,.slice (some ⟨C.heap.size,0,none⟩) 1 1]) (C.alloc (.cells (aJ l).toArray 182))=.ok (.slice g.a g.len g.cap) j/\
  bd 256 182 j g (bV aJ (D.dB i++ [l]))/\ad (aB p) C j/\(∀k,aB g k->aB p k\/C.heap.size<=k)/\ad (aB p) (C.alloc (.cells (aJ l).toArray 182)) j:=by
  intro C aZ;have hlen:p.len=(D.dB i).length:=by
   have:=aC.1;rw[gM (c:=aJ) (sz:=256) _ λs hs=>by rw[ey];exact aE s hs]at this;omega
  have ag:=eS C (.cells (aJ l).toArray 182);obtain⟨g,j,au,ay,E,L,M⟩:=F1.append (cM:=136) (x:=⟨some ⟨C.heap.size,0,none⟩,1,1⟩) (Src.new (T:=182) C (aJ l) 1 (by rw[ey,G])) (aC.ext (aZ.trans ag)) (k6 l) (by rw[hlen];show(2*(_+1)+1000)*256<=_;omega);refine⟨g,j,au,?_,(ad.cJ ag).trans L,λk a0=>(M k a0).imp id λh=>?_,L⟩
  .rw[mj]
   have:bV aJ [l]=aJ l:=by simp[bV]
   rw[this];exact ay
  .have:=ag.size;omega
 have aI:∀ (j:J) (g:Y),eD j D.mr encZ (D.waits.map g3.e)->∃o:J,Sem.run aj (Instr.mapUpdate 137 (.map (some D.mr)) (.int .i64 ((i:Nat):Int)) (.slice g.a g.len g.cap)) j=.ok () o/\ad (λq=>q=D.mr) j o/\
  eD o D.mr encZ ((g3.mk i g (D.dB i++ [l])::D.waits.filter λx=>x.i !=i).map g3.e):=by
  intro j g K;have ai:=K.keys;rw[iz]at ai
  cases hf:D.waits.find? λx=>x.i==i with
  |some x=>
   have hx:=jH hf;have R:x.i=i:=by
    have:=ko hf;exact eq_of_beq this
   obtain⟨a7,bB,he⟩:=List.append_of_mem hx;have z:∀y∈a7++bB,y.i≠i:=by
    intro y r e;rw[he,fZ,jm]at ai;have h1:=(mG.nodup_iff).1 ai;rw[List.nodup_cons]at h1;apply h1.1;rw[←fZ];refine eC.2 ⟨y,r,?_⟩;show((y.i:Nat):Int)=((x.i:Nat):Int);omega
   have am:D.waits.filter (λx=>x.i !=i)=a7++bB:=by
    rw[he,kQ,List.filter_cons_of_neg (by simp[R])];rw[jZ.2 λy r=>by have:=z y (jE _ r);simpa using this,jZ.2 λy r=>by have:=z y (ie _ r);simpa using this]
   have a4:(D.waits.map g3.e).Perm (((i:Int),.slice x.s.a x.s.len x.s.cap)::(a7++bB).map g3.e):=by
    rw[he,fZ,jm,fZ];have:x.e=((i:Int),.slice x.s.a x.s.len x.s.cap):=by unfold g3.e;rw[R]
    rw[this];exact mG
   obtain⟨o,au,ay,_,E⟩:=FX oA lM (K.perm a4) (.slice g.a g.len g.cap);refine⟨o,au,ay,?_⟩;rw[am];exact E
  |none=>
   have z:∀y∈D.waits,y.i≠i:=λy r e=>by
    have:=jo.1 hf y r;rw[e]at this;simp at this
   have am:D.waits.filter (λx=>x.i !=i)=D.waits:=jZ.2 λy r=>by simpa using z y r
   obtain⟨o,au,ay,_,E⟩:=FW oA lM (k:=(i:Int)) K (λv ac=>by
    obtain⟨x,hx,he⟩:=eC.1 ac;unfold g3.e at he;simp only[Prod.mk.injEq]at he;exact z x hx I) (.slice g.a g.len g.cap)
   refine⟨o,au,ay,?_⟩;rw[am];exact E
 have fin:∀ (j o:J) (g:Y),ad (aB p) ah.drew j->bd 256 182 j g (bV aJ (D.dB i++ [l]))->(∀k,aB g k->aB p k\/ah.drew.heap.size<=k)->ad (λq=>q=D.mr) j o->eD o D.mr encZ ((g3.mk i g (D.dB i++ [l])::D.waits.filter λx=>x.i !=i).map g3.e)->
  ∃aK:ae,(some ⟨D.d,0,none⟩:aq ae)=some aK/\∃n24:Int,o.cell? (aK.add 6)=some (.int .i64 n24)/\∃S:ae,(some ⟨D.d,0,none⟩:aq ae)=some S/\(∃u:aa,o.cell? (S.add 6)=some u)/\o.frozen? (S.add 6)=false/\al (o.setCell (S.add 6) (.int .i64 (IntKind.wrap .i64 (n24+1)))) λa5=>Bv D i l w (.int .i64 0) a5:=by
  intro j o g U a8 an aL a9;have a_:=t.v.ab U λf=>(B _ f).2.1 rfl;have ao:Var o D.d (D.cC 2).c 141:=a_.ab aL h.a1.2.1;have hlen:(D.cC 2).c.length=7:=H.rO;obtain⟨s1,s2⟩:=dI ao (i:=6) (by rw[hlen];decide);have cc:o.cell? (Addr.add ⟨D.d,0,none⟩ 6)=some (.int .i64 D.writes):=by
   rw[aw,cy,ao.cell];unfold a6.c;have:=H.f4;rw[kR (by rw[dU];omega),dU,this];rfl
  rw[aw,cy]at cc;refine⟨_,rfl,D.writes,by rw[aw,cy];exact cc,_,rfl,by rw[aw,cy];exact s1,by rw[aw,cy];exact s2,?_⟩;rw[aw,cy];have aM:=dk o D.d 6 (.int .i64 (IntKind.wrap .i64 (D.writes+1)));have aN:=dN ao (i:=6) (.int .i64 (IntKind.wrap .i64 (D.writes+1)));have bb:(D.cC 2).c.set 6 (.int .i64 (IntKind.wrap .i64 (D.writes+1)))=(D.put i g l).c:=by
   have bc:=H.f4;have N:(D.put i g l).c=(D.cC 2).cg.map (.int .i64)++ [.slice (some ⟨D.lb,0,none⟩) D.bg.length D.bg.length,.map (some D.mr),.int .i64 (IntKind.wrap .i64 (D.writes+1))]:=rfl;have O:(D.cC 2).c=(D.cC 2).cg.map (.int .i64)++ [.slice (some ⟨D.lb,0,none⟩) D.bg.length D.bg.length,.map (some D.mr),.int .i64 D.writes]:=rfl;rw[N,O,List.set_append_right _ _ (by rw[dU];omega),dU,bc];rfl
  rw[bb]at aN;have V:ad (λq=>q=D.mr\/q=D.d) j (o.setCell ⟨D.d,6,none⟩ (.int .i64 (IntKind.wrap .i64 (D.writes+1)))):=(aL.mono λq _ e=>.inl e).trans (aM.mono λq _ e=>.inr e);have P:∀q,aB g q->q≠D.d/\q≠D.lb/\q≠D.mr:=λq f=>by
   have bl:=t.lt (q:=D.d) (.inl rfl);have bm:=t.lt (q:=D.lb) (.inr (.inl rfl));have bn:=t.lt (q:=D.mr) (.inr (.inr (.inl rfl)));rcases an q f with h1|h1
   .exact(B q h1).2
   .exact⟨I,I,I⟩
  have F:∀x∈D.waits.filter (λx=>x.i !=i),x∈D.waits/\x.i≠i:=λx hx=>by
   obtain⟨h1,h2⟩:=hK.1 hx;exact⟨h1,by simpa using h2⟩
  refine aW (.inr ⟨Z,rfl,g,⟨aN,?_,?_,?_,?_,h.sl,?_,h.bW,h.bC,H.f4,H.fr,h.a1,?_,?_⟩,?_,?_⟩)
  .exact bz.ab (bz.ab t.l U λf=>(B _ f).2.2.1 rfl) V (by
    rintro(e|e)
    .exact h.a1.2.2 e
    .exact h.a1.1 e.symm)
  .exact a9.ab aM (λe=>h.a1.2.1 e.symm)
  .intro x hx
   rcases cU.1 hx with rfl|hx
   .exact a8.ab V λq f=>by
     rintro(e|e)
     .exact(P q f).2.2 e
     .exact(P q f).1 e
   .obtain⟨h1,h2⟩:=F x hx
    refine((t.ws x h1).ab U λq f=>aD x h1 h2 q f).ab V λq f=>?_;rintro(e|e)
    .exact(h.a2 x h1).2.2 (e▸f)
    .exact(h.a2 x h1).1 (e▸f)
  .intro x hx
   rcases cU.1 hx with rfl|hx
   .refine⟨by simp,hi,?_⟩
    show(D.dB i++ [l]).length<=D.aQ+1;rw[cz,jn];omega
   .obtain⟨h1,h2⟩:=F x hx
    have:=h.wn x h1;exact⟨this.1,this.2.1,Nat.le_succ_of_le this.2.2⟩
  .intro x hx
   rcases cU.1 hx with rfl|hx
   .intro s hs
    rcases cT.1 hs with hs|hs
    .exact aE s hs
    .rw[ff.1 hs];exact G
   .exact h.j_ x (F x hx).1
  .intro x hx
   rcases cU.1 hx with rfl|hx
   .exact⟨λf=>(P _ f).1 rfl,λf=>(P _ f).2.1 rfl,λf=>(P _ f).2.2 rfl⟩
   .exact h.a2 x (F x hx).1
  .have aP:∀y∈D.waits,y.i≠i->∀q,aB y.s q->¬aB g q:=λy r z q f Q=>by
    rcases an q Q with h1|h1
    .exact aD y r z q f h1
    .have:=(t.ws y r).lt q f;omega
   intro x hx y r z q f Q;rcases cU.1 hx with rfl|hx
   .rcases cU.1 r with rfl|r
    .exact z rfl
    .exact aP y (F y r).1 (λe=>z e.symm) q Q f
   .rcases cU.1 r with rfl|r
    .exact aP x (F x hx).1 z q f Q
    .exact h.a3 x (F x hx).1 y (F y r).1 z q f Q
  .refine((X.mono λq _ e=>.inl e).trans ((ad.cJ (cf ah)).trans (U.mono λq _ f=>(B q f).1))).trans (V.mono λq _ f=>?_)
   rcases f with e|e
   .exact .inr (.inr (.inl e))
   .exact .inl e
  .intro q f
   rcases an q f with h1|h1
   .exact .inl (B q h1).1
   .have:ah.drew.heap.size=ah.heap.size:=rfl
    exact .inr I
 refine⟨aB p,_,rfl,λf=>(B _ f).2.1 rfl,some D.mr,t.ba,_,rfl,λf=>(B _ f).2.1 rfl,some D.mr,t.ba,I,A,ar,aY,_,aX,⟨?_,?_⟩⟩
 .obtain⟨g,j,au,ay,E,L,M⟩:=aH ah.drew (.refl _ _)
  have ap:=t.m.ab E λf=>(B _ f).2.2.2 rfl;obtain⟨o,N,O,ax⟩:=aI j g ap;exact⟨p,_,aF _ t.m,.refl _ _,⟨some ⟨ah.drew.heap.size,0,none⟩,1,1⟩,_,Bs _ l G,ad.cJ (eS _ _),g,j,au,M,o,N,fin j o g E ay L O ax⟩
 .obtain⟨g,j,au,ay,E,L,M⟩:=aH ah.drew (.refl _ _)
  have be:=t.m.ext (eS ah.drew (.cells (aJ l).toArray 182));have ap:=t.m.ab E λf=>(B _ f).2.2.2 rfl;obtain⟨o,N,O,ax⟩:=aI j g ap;exact⟨⟨some ⟨ah.drew.heap.size,0,none⟩,1,1⟩,_,Bs _ l G,ad.cJ (eS _ _),p,_,aF _ be,.refl _ _,g,j,au,M,o,N,fin j o g E ay L O ax⟩
theorem F2{P:Program}{e:TypeId}{v:aa}{sz:Nat}(a:((P.info? e).bind (·.zero)).map (·.cells)=some (List.replicate sz v).toArray)(hc:P.cellsOf e=sz)(hs:0<sz)(n:Nat):g8 P e n=(List.replicate (n*sz) v).toArray:=by
 unfold g8;rw[hc]
 cases hi:(P.info? e).bind (·.zero) with
 |none=>rw[hi]at a;cases a
 |some z=>
  rw[hi]at a;simp only[lq,Option.some.injEq]at a;simp only[qz];apply Array.ext
  .simp
  .intro i h1 h2
   have b:n*sz≠0:=by
    intro h;simp[h]at h2
   simp only[b,if_false,a,Array.getElem_map,Array.getElem_range];have aK:i%sz<sz:=g7 _ hs;simp[aK]
theorem F3(m n:Nat):bV aJ (List.replicate n (List.replicate m 0))=List.replicate (n*m) (.int .u8 0):=by
 induction n with
 |zero=>simp[bV]
 |succ n a=>
  rw[List.replicate_succ,qa,a,kP,Nat.one_mul,Nat.add_comm];have e:aJ (List.replicate m 0)=List.replicate m (Value.int .u8 0):=by simp[aJ]
  rw[e,List.replicate_append_replicate]
def gB:cX:=List.replicate 256 0
theorem F4(n:Nat):g8 aj 182 n=(bV aJ (List.replicate n gB)).toArray:=by
 unfold gB;rw[F3];exact F2 (by kernel_rfl) (by kernel_rfl) (by decide) n
def nd(n d lb mr:Nat):a6:=⟨d,lb,mr,[-1, -1, -1, -1],List.replicate n gB,[],0,0,λ_=>false,λ_=> []⟩
theorem Bw{w:J}{b:Nat}{vs:O aa}{T:TypeId}(h:Var w b vs T)(g:4<=vs.length):
 aR aj 69 #[.pointer (some b)] w (λv w'=>v=.tuple #[]/\Var w' b (List.replicate 4 (.int .i64 (-1))++vs.drop 4) T/\ad (λq=>q=b) w w'/\w'.heap.size=w.heap.size):=by
 refine okF (af.tT (some b)) aA.tT func69 ?_;(delta af.tT ak st av;dsimp only);refine⟨λi w'=>∃j:Nat,i=j/\j<=4/\Var w' b (List.replicate j (.int .i64 (-1))++vs.drop j) T/\ad (λq=>q=b) w w'/\w'.heap.size=w.heap.size,λi _=>((4:Int)-i).toNat,⟨0,rfl,I,h,.refl _ _,rfl⟩,?_⟩;rintro _ w1 ⟨j,rfl,k,c,hc,f⟩;refine⟨λaK=>?_,λd=>?_⟩
 .have aK:j<4:=by have:=b8 aK;omega
  have a:Addr.add b (Int.toNat (j:Int)*1)=⟨b,j,none⟩:=by rw[dd,fG,aw,cy]
  obtain⟨s1,s2⟩:=dI c (i:=j) (by simp;omega);rw[bA (n:=(j:Int)+1) I I];refine⟨_,rfl,⟨I,by show(j:Int)<4;omega⟩,by rw[a];exact s1,by rw[a];exact s2,aW ⟨⟨j+1,I,I,?_,?_,?_⟩,?_⟩⟩
  .have:=dN c (i:=j) (.int .i64 (-1))
   rw[a];have e:(List.replicate j (Value.int .i64 (-1))++vs.drop j).set j (.int .i64 (-1))=List.replicate (j+1) (.int .i64 (-1))++vs.drop (j+1):=by
    rw[List.set_append_right _ _ (by simp),mM,nw,jD (show j<vs.length from I),List.set_cons_zero,List.replicate_succ',cP];rfl
   rwa[e]at this
  .rw[a];exact hc.trans (dk _ _ _ _)
  .rw[a];simpa[World.setCell] using f
  .show((4:Int)-((j:Int)+1)).toNat<((4:Int)-(j:Int)).toNat
   omega
 .have d:j=4:=by have:=cv d;omega
  subst d;exact⟨rfl,c,hc,f⟩
theorem nT{n:Nat}(h1:16<=n)(h2:n<=1600)(w:J):
 aR aj 18 #[n] w (λv w'=>∃d lb mr:Nat,v=.tuple #[.pointer (some d),(0:Int)]/\cx w' (nd n d lb mr)/\Ext w w'/\∀q,bY (nd n d lb mr) q->w.heap.size<=q):=by
 refine okF (af.nT (n:Int)) aA.nT func18 ?_;(delta af.nT ak ky dg U aU;dsimp only);refine⟨λh=>?_,λ_=>⟨⟨I,I,I,I⟩,?_⟩⟩
 .simp only[iT,cS]at h;omega
 rw[F4,dd];have g:=bz.new w (bV aJ (List.replicate n gB)).toArray 182;have i:=eS w (.cells (bV aJ (List.replicate n gB)).toArray 182);have j:=rJ w (.cells (bV aJ (List.replicate n gB)).toArray 182);obtain⟨w1,k⟩:∃w1,w1=w.alloc (.cells (bV aJ (List.replicate n gB)).toArray 182):=⟨_,rfl⟩;rw[←k]at g i j⊢;obtain⟨au,ay⟩:=eD.make (P:=aj) (enc:=encZ) 137 w1;have a:=eS w1 (.map #[] 0);have l:=rJ w1 (.map #[] 0);obtain⟨ah,m⟩:∃ah,ah=w1.alloc (.map #[] 0):=⟨_,rfl⟩;rw[←m]at au ay a l;refine aW ⟨some w1.heap.size,ah,au,#[(0:Int),(0:Int),(0:Int),(0:Int),.slice (some w.heap.size) n n,.map (some w1.heap.size),(0:Int)],by kernel_rfl,bh (vs:=[(0:Int),(0:Int),(0:Int),(0:Int),.slice (some w.heap.size) n n,.map (some w1.heap.size),(0:Int)]) rfl λr o b t=>⟨_,rfl,(Bw o (by show 4<=7;decide)).use ?_⟩⟩;rintro _ u ⟨rfl,p,f,y⟩;refine⟨rfl,ah.heap.size,w.heap.size,w1.heap.size,rfl,⟨?_,?_,?_,λx hx=>(by cases hx),λx hx=>(by cases hx),λs hs=>?_,λx hx=>(by cases hx),?_,?_,rfl,λx hx=>?_,?_,λx hx=>(by cases hx),λx hx=>(by cases hx)⟩,Ext.cn (i.trans (a.trans b)) f I,?_⟩
 .have e:(nd n ah.heap.size w.heap.size w1.heap.size).c=List.replicate 4 (.int .i64 (-1))++ [Value.int .i64 0,(0:Int),(0:Int),(0:Int),.slice (some w.heap.size) n n,.map (some w1.heap.size),(0:Int)].drop 4:=by
   unfold a6.c nd;simp
  rw[e];exact p
 .exact bz.ab ((g.ext a).ext b) f (by show¬w.heap.size=ah.heap.size;omega)
 .exact(ay.ext b).ab f I
 .rw[sr hs,gB,mM]
 .show 16<=(List.replicate n gB).length;simpa using h1
 .show(List.replicate n gB).length<=1600;simpa using h2
 .have:x= -1:=by
   simp[nd]at hx;exact hx
  subst this;exact⟨by decide,by decide⟩
 .exact⟨by show ah.heap.size≠w.heap.size;omega,by show ah.heap.size≠w1.heap.size;omega,by show w.heap.size≠w1.heap.size;omega⟩
 .rintro q (rfl|rfl|rfl|⟨x,hx,_⟩)
  .show w.heap.size<=ah.heap.size;omega
  .exact bl _
  .show w.heap.size<=w1.heap.size;omega
  .cases hx
def a6.fail(D:a6)(k:Nat)(a:Int):a6:={D with cg:=D.cg.set k a}
theorem F5{w:J}{D:a6}(h:cx w D){k:Nat}(o:1<=k/\k<=3){a:Int}(g:0<=a/\a<=9223372036854775807):
 aR aj 44 #[.pointer (some D.d),k,a] w (λv w'=>v=.int .i64 0/\cx w' (D.fail k a)/\ad (λq=>q=D.d) w w'/\w'.heap.size=w.heap.size):=by
 refine okF (af.nV (some D.d) (k:Int) a) aA.nV func44 ?_;(delta af.nV ak st;dsimp only);have j:=h.f4;have b:Addr.add D.d (Int.toNat (k:Int)*1)=⟨D.d,k,none⟩:=by rw[dd,fG,aw,cy]
 obtain⟨s1,s2⟩:=dI h.v (i:=k) (by rw[h.rO];omega);refine⟨λh1=>?_,λ_=>⟨_,rfl,⟨I,by show(k:Int)<4;omega⟩,by rw[b];exact s1,by rw[b];exact s2,aW ⟨rfl,?_,by rw[b];exact dk _ _ _ _,by rw[b];simp[World.setCell]⟩⟩⟩
 .simp only[sA,km,iT,cS]at h1;omega
 rw[b];have hc:=dk w D.d k a;have f:=dN h.v (i:=k) a;have e:D.c.set k a=(D.fail k a).c:=by
  unfold a6.c a6.fail;rw[List.set_append_left _ _ (by rw[dU];omega),←List.map_set]
 rw[e]at f;refine⟨f,bz.ab h.l hc (λe=>h.a1.1 e.symm),h.m.ab hc (λe=>h.a1.2.1 e.symm),λx hx=>(h.ws x hx).ab hc λq n e=>(h.a2 x hx).1 (by subst e;exact n),h.wn,h.sl,h.j_,h.bW,h.bC,by show(D.cg.set k _).length=4;rw[df];exact j,λx hx=>?_,h.a1,h.a2,h.a3⟩;rcases ly hx with hx|rfl
 .exact h.fr x hx
 .exact⟨I,g.2⟩
structure Fr where
 full:ai
 fW:ai
 used:ai
 no:Int
 pins:Int
 b:Y
 l:cX
def Fr.c(f:Fr):O aa:=[f.full,f.fW,f.used,f.no,f.pins,f.b]
def dC:Fr:=⟨false,false,false,0,0,⟨none,0,0⟩,[]⟩
structure b5 where
 c:Nat
 aV:Nat
 an:O Fr
 hand:Nat
 D:a6
def c4(C:b5)(q:Nat):Prop:=q=C.c\/q=C.aV\/bY C.D q
structure fx(w:J)(C:b5):Prop where
 v:Var w C.c [.pointer (some C.D.d),.slice (some C.aV) C.an.length C.an.length,C.hand] 281
 f:bz w C.aV (bV Fr.c C.an).toArray 288
 dev:cx w C.D
 bG:8<=C.an.length
 bI:C.an.length<=64
 hd:C.hand<C.an.length
 a1:C.c≠C.aV/\¬bY C.D C.c/\¬bY C.D C.aV
structure Bx(X:Nat->Prop)(w:J)(C:b5)(f:Fr)(no:Nat):Prop where
 num:f.no=no
 lt:no<C.D.n
 I6:a_ (λq=>¬c4 C q/\¬X q) w f.b f.l
 len:f.l.length=256
 clean:f.fW=false->f.l=C.D.now no
 bL:C.D.bL no=true->f.fW=false
 two:2<=no
structure gC(X:Nat->Prop)(w:J)(C:b5):Prop where
 pins:∀f∈C.an,f.pins=0
 ok:∀f∈C.an,f.full=true->∃no:Nat,Bx X w C f no
 un:∀ (i j:Nat) (hi:i<C.an.length) (a:j<C.an.length),(C.an[i]).full=true->(C.an[j]).full=true->(C.an[i]).no=(C.an[j]).no->i=j
 e6:∀q,X q->q<w.heap.size/\¬c4 C q
 ke:∀j,C.D.bL j=true->C.D.dB j=C.D.dH j
def kH(az D:a6):Prop:=az.n=D.n/\(∀j,az.bL j=true->D.bL j=true)/\∀j,az.bL j=true->az.dB j=az.dH j
theorem gC.rP{X:Nat->Prop}{w:J}{C:b5}(h:gC X w C):kH C.D C.D:=⟨rfl,λ_ h=>h,h.ke⟩
theorem gC.cC{X:Nat->Prop}{w:J}{C:b5}(h:gC X w C)(k:Nat):kH (C.D.cC k) C.D:=⟨rfl,λ_ h=>h,h.ke⟩
structure ek(X:Nat->Prop)(w:J)(C:b5):Prop where
 raw:fx w C
 inv:gC X w C
def b5.view(C:b5)(no:Nat):cX:=match C.an.find? λf=>f.full&&f.no==(no:Int) with
 |some f=>f.l
 |none=>C.D.now no
theorem Fr.x2(f:Fr):f.c.length=6:=rfl
theorem vI(l:O Fr):∀x∈l,(Fr.c x).length=6:=λx _=>rfl
section
variable {w w':J}{C:b5}{X:Nat->Prop}
theorem fx.lt(h:fx w C){q:Nat}(a:c4 C q):q<w.heap.size:=by
 rcases a with rfl|rfl|a
 .exact h.v.lt
 .exact bz.lt h.f
 .exact h.dev.lt a
theorem fx.ab{W:Nat->Prop}(h:fx w C)(hc:ad W w w')(a:∀q,c4 C q->¬W q):fx w' C:=
 ⟨h.v.ab hc (a _ (.inl rfl)),bz.ab h.f hc (a _ (.inr (.inl rfl))),h.dev.ab hc λq b=>a q (.inr (.inr b)),h.bG,h.bI,h.hd,h.a1⟩
theorem fx.ext(h:fx w C)(hc:Ext w w'):fx w' C:=h.ab hc λ_ _ h=>h
theorem gC.ab{W:Nat->Prop}(h:gC X w C)(hc:ad W w w')(b:∀q,W q->c4 C q\/X q):gC X w' C:=
 ⟨h.pins,λf hf c=>by
  obtain⟨no,au,ay,d,e,g,i,j⟩:=h.ok f hf c
  exact⟨no,au,ay,a_.ab d hc λq a k=>by
   rcases b q k with h1|h1
   .exact a.1 h1
   .exact a.2 h1,e,g,i,j⟩,h.un,λq a=>⟨fU (h.e6 q a).1 hc.size,(h.e6 q a).2⟩,h.ke⟩
theorem ek.ab{W:Nat->Prop}(h:ek X w C)(hc:ad W w w')(b:∀q,W q->X q):ek X w' C:=
 ⟨h.raw.ab hc λq c a=>(h.inv.e6 q (b q a)).2 c,h.inv.ab hc λq a=>.inr (b q a)⟩
theorem ek.ext(h:ek X w C)(hc:Ext w w'):ek X w' C:=h.ab hc λ_ h=>h.elim
theorem rQ(aV i:Nat):Addr.add aV (Int.toNat (i:Int)*6)=⟨aV,i*6,none⟩:=by rw[dd,aw,cy]
theorem fx.cells(h:fx w C):w.cell? C.c=some (.pointer (some C.D.d))/\w.cell? (Addr.add C.c 1)=some (.slice (some C.aV) C.an.length C.an.length)/\w.cell? (Addr.add C.c 2)=some (.int .i64 C.hand):=by
 rw[aw,aw];exact⟨h.v.cell,h.v.cell,h.v.cell⟩
theorem kf{w:J}{aV:Nat}{fs:O Fr}{T:TypeId}(h:bz w aV (bV Fr.c fs).toArray T){i j:Nat}(hi:i<fs.length)(a:j<6):w.cell? ⟨aV,i*6+j,none⟩=((fs[i]).c)[j]? :=by
 rw[bz.cell h];simp only[qy];exact rL (vI fs) hi a
theorem nf{w:J}{aV:Nat}{fs:O Fr}{T:TypeId}(h:bz w aV (bV Fr.c fs).toArray T){i j:Nat}(hi:i<fs.length)(a:j<6){v:aa}(b:Fr)(hf:b.c=(fs[i]).c.set j v):
 (∃u:aa,w.cell? ⟨aV,i*6+j,none⟩=some u)/\w.frozen? ⟨aV,i*6+j,none⟩=false/\bz (w.setCell ⟨aV,i*6+j,none⟩ v) aV (bV Fr.c (fs.set i b)).toArray T/\ad (λq=>q=aV) w (w.setCell ⟨aV,i*6+j,none⟩ v):=by
 refine⟨⟨((fs[i]).c)[j]'(by rw[Fr.x2];exact a),by rw[kf h hi a,dE (by rw[Fr.x2];exact a)]⟩,bz.frozen h _ rfl,?_,dk _ _ _ _⟩;have:=dN (vs:=bV Fr.c fs) h (i:=i*6+j) v;rw[FV (vI fs) hi a hf]at this;exact this
theorem x3{w:J}{aV:Nat}{fs:O Fr}{T:TypeId}(h:bz w aV (bV Fr.c fs).toArray T){i:Nat}(hi:i<fs.length)(a:Fr):
 bx w ⟨aV,i*6,none⟩ a.c/\bz (setCells w ⟨aV,i*6,none⟩ 0 a.c) aV (bV Fr.c (fs.set i a)).toArray T/\ad (λq=>q=aV) w (setCells w ⟨aV,i*6,none⟩ 0 a.c):=by
 have f:=gM (c:=Fr.c) fs (vI fs);have d:i*6+a.c.length<=(bV Fr.c fs).toArray.size:=by
  rw[sy,f,Fr.x2];omega
 refine⟨bz.b9 h _ _ d ?_,?_,ad.kY (.refl _ _) _ 0⟩
 .intro v b
  unfold Fr.c at b;simp only[cU,eL,eO]at b;rcases b with rfl|rfl|rfl|rfl|rfl|rfl<;>trivial
 .have h0:=bz.j4 (o:=i*6) h a.c
  have e:gH (bV Fr.c fs).toArray (i*6) a.c=(bV Fr.c (fs.set i a)).toArray:=by
   have h1:=lF a.c (bV Fr.c fs).toArray (i*6) d;have h2:=Bn (vI fs) hi a;have g:a.c.length=6:=rfl;rw[g]at h1;have j:(gH (bV Fr.c fs).toArray (i*6) a.c).toList=bV Fr.c (fs.set i a):=h1.trans h2;rw[←j]
  rw[e]at h0;exact h0
theorem By(h:fx w C)(no:Int):aR aj 220 #[.pointer (some C.c),no] w (λv w'=>v=.bool (decide (0<=no/\no<C.D.n))/\w=w'):=by
 refine okF (af.uQ (some C.c) no) aA.uQ func220 ?_;(delta af.uQ ak aC;dsimp only);refine cq (λb w'=>b=decide (0<=no/\no<C.D.n)/\w=w') (λq d=>⟨λa=>⟨_,rfl,_,h.cells.1,(qb h.dev).use ?_⟩,λa=>d _ _ ⟨?_,rfl⟩⟩) ?_
 .rintro _ _ ⟨rfl,rfl⟩
  have a:0<=no:=by simpa using a
  refine⟨_,rfl,d _ _ ⟨?_,rfl⟩⟩;rw[fY,cS,cS];exact⟨λh=>⟨a,h⟩,λh=>h.2⟩
 .have a:¬0<=no:=by simpa using a
  rw[jq (λh=>a h.1)]
 .rintro _ _ ⟨rfl,rfl⟩
  exact⟨rfl,rfl⟩
def AtR(C:b5)(no:Int)(v:aa):Prop:=
 (∃ (i:Nat) (hi:i<C.an.length),v=.pointer (some ⟨C.aV,i*6,none⟩)/\(C.an[i]).full=true/\(C.an[i]).no=no)\/
 (v=.pointer none/\∀f∈C.an,f.full=true->f.no≠no)
theorem vJ(h:fx w C)(no:Int):aR aj 201 #[.pointer (some C.c),no] w (λv w'=>AtR C no v/\w=w'):=by
 obtain⟨bX,aC,aU⟩:=h.cells;have d:=h.bI;refine okF (af.uL (some C.c) no) aA.uL func201 ?_;(delta af.uL ak ag aL bc r1 av;dsimp only);refine⟨λh=>(by cases h),λ_=>⟨_,rfl,⟨some C.aV,C.an.length,C.an.length⟩,aC,λi w'=>∃j:Nat,i=j/\j<=C.an.length/\w=w'/\∀ (k:Nat) (d:k<C.an.length),k<j->(C.an[k]).full=true->(C.an[k]).no≠no,λi _=>((C.an.length:Int)-i).toNat,⟨0,rfl,cL _,rfl,λk _ h=>I⟩,?_⟩⟩;rintro _ _ ⟨j,rfl,s,rfl,g⟩;refine⟨λaK=>?_,λe=>?_⟩
 .have aK:(j:Int)<(C.an.length:Int):=b8 aK
  have aK:j<C.an.length:=by omega
  refine⟨_,rfl,⟨some C.aV,C.an.length,C.an.length⟩,aC,_,rfl,⟨I,by show(j:Int)<(C.an.length:Int);omega⟩,_,rfl,?_⟩;rw[rQ];have f0:=kf h.f aK (j:=0) (by decide);have f3:=kf h.f aK (j:=3) (by decide);refine⟨(C.an[j]).full,f0,cq (λb w'=>w=w'/\(b=true↔((C.an[j]).full=true/\(C.an[j]).no=no))) (λq l=>⟨λa=>⟨_,rfl,(C.an[j]).no,by rw[aw];exact f3,l _ _ ⟨rfl,?_⟩⟩,λa=>l _ _ ⟨rfl,?_⟩⟩) ?_⟩
  .rw[kn]
   exact⟨λh=>⟨a,h⟩,λh=>h.2⟩
  .rw[a]
   exact⟨λh=>(by cases h),λh=>(by cases h.1)⟩
  rintro b w' ⟨rfl,a⟩;refine⟨λh1=>⟨.inl ⟨j,aK,rfl,(a.1 h1).1,(a.1 h1).2⟩,rfl⟩,λh1=>?_⟩;rw[bA (n:=(j:Int)+1) I I];refine⟨⟨j+1,I,I,rfl,λk d h2 m=>?_⟩,?_⟩
  .rcases dO k j with o|o
   .exact g k d o m
   .have:k=j:=by omega
    subst this;intro p;rw[a.2 ⟨m,p⟩]at h1;cases h1
  .show((C.an.length:Int)-((j:Int)+1)).toNat<((C.an.length:Int)-(j:Int)).toNat
   omega
 .have e:j=C.an.length:=by
   have:¬((j:Int)<(C.an.length:Int)):=cv e;omega
  subst e;refine⟨.inr ⟨rfl,λf hf r=>?_⟩,rfl⟩;obtain⟨k,d,rfl⟩:=fi hf;exact g k d d r
theorem F6(h:fx w C):aR aj 267 #[.pointer (some C.c)] w (λv w'=>((∃ (i:Nat) (hi:i<C.an.length),v=.pointer (some ⟨C.aV,i*6,none⟩)/\(C.an[i]).full=false)\/(v=.pointer none/\∀f∈C.an,f.full=true))/\w=w'):=by
 obtain⟨bX,aC,aU⟩:=h.cells;have a:=h.bI;refine okF (af.uX (some C.c)) aA.uX func267 ?_;(delta af.uX ag ak aL bc av;dsimp only);refine⟨_,rfl,⟨some C.aV,C.an.length,C.an.length⟩,aC,λi w'=>∃j:Nat,i=j/\j<=C.an.length/\w=w'/\∀ (k:Nat) (a:k<C.an.length),k<j->(C.an[k]).full=true,λi _=>((C.an.length:Int)-i).toNat,⟨0,rfl,cL _,rfl,λk _ h=>I⟩,?_⟩;rintro _ _ ⟨j,rfl,l,rfl,e⟩;refine⟨λaK=>?_,λb=>?_⟩
 .have aK:(j:Int)<(C.an.length:Int):=b8 aK
  have aK:j<C.an.length:=by omega
  have f0:=kf h.f aK (j:=0) (by decide);refine⟨_,rfl,⟨some C.aV,C.an.length,C.an.length⟩,aC,_,rfl,⟨I,by show(j:Int)<(C.an.length:Int);omega⟩,(C.an[j]).full,by rw[rQ];exact f0,λd=>⟨_,rfl,⟨some C.aV,C.an.length,C.an.length⟩,aC,_,rfl,⟨I,by show(j:Int)<(C.an.length:Int);omega⟩,.inl ⟨j,aK,by rw[rQ],by simpa using d⟩,rfl⟩,λd=>?_⟩;rw[bA (n:=(j:Int)+1) I I];refine⟨⟨j+1,I,I,rfl,λk a h2=>?_⟩,?_⟩
  .rcases dO k j with g|g
   .exact e k a g
   .have:k=j:=by omega
    subst this;simpa using d
  .show((C.an.length:Int)-((j:Int)+1)).toNat<((C.an.length:Int)-(j:Int)).toNat
   omega
 .have b:j=C.an.length:=by
   have:¬((j:Int)<(C.an.length:Int)):=cv b;omega
  subst b;refine⟨.inr ⟨rfl,λf hf=>?_⟩,rfl⟩;obtain⟨k,a,rfl⟩:=fi hf;exact e k a a
def hZ(fs gs:O Fr):Prop:=gs.length=fs.length/\∀ (i:Nat) (h1:i<fs.length) (h2:i<gs.length),gs[i]={fs[i] with used:=(gs[i]).used}
theorem hZ.refl(fs:O Fr):hZ fs fs:=⟨rfl,λi h1 h2=>rfl⟩
theorem hZ.set{fs gs:O Fr}(h:hZ fs gs){i:Nat}(hi:i<gs.length)(u:ai):hZ fs (gs.set i {gs[i] with used:=u}):=by
 refine⟨by rw[df];exact h.1,λj h1 h2=>?_⟩;rw[sx];split
 .rename_i e
  subst e;have:=h.2 i h1 hi;rw[this]
 .exact h.2 j h1 _
theorem F7(h:fx w C)(A:∀f∈C.an,f.pins=0):aR aj 268 #[.pointer (some C.c)] w (λv w'=>∃ (i:Nat) (gs:O Fr) (hd:Nat),i<C.an.length/\v=.pointer (some ⟨C.aV,i*6,none⟩)/\hZ C.an gs/\fx w' {C with an:=gs,hand:=hd}/\ad (λq=>q=C.c\/q=C.aV) w w'):=by
 obtain⟨bX,aC,aU⟩:=h.cells;have Q:=h.bG;have R:=h.bI;have B:=h.hd;refine okF (af.uY (some C.c)) aA.uY func268 ?_;(delta af.uY r1 ag ak av aL bc st;dsimp only);refine⟨_,rfl,_,aU,_,rfl,⟨some C.aV,C.an.length,C.an.length⟩,aC,λD i w'=>∃ (s:Nat) (gs:O Fr),i=s/\s<=C.an.length/\D=(((C.hand+s)%C.an.length:Nat):Int)/\hZ C.an gs/\fx w' {C with an:=gs}/\ad (λq=>q=C.c\/q=C.aV) w w'/\∀ (t:Nat) (hx:(C.hand+t)%C.an.length<gs.length),t<s->(gs[(C.hand+t)%C.an.length]).used=false,
  λ_ i _=>(2*(C.an.length:Int)-i).toNat,⟨0,C.an,rfl,cL _,by rw[kO,jI B],hZ.refl _,h,.refl _ _,λt _ h=>I⟩,?_⟩
 rintro _ _ w1 ⟨s,gs,rfl,hs,rfl,l,b,hc,p⟩;have r:gs.length=C.an.length:=l.1;obtain⟨i,hi⟩:∃i,i=(C.hand+s)%C.an.length:=⟨_,rfl⟩;have d:i<gs.length:=by rw[hi,r];exact g7 _ I
 rw[←hi];obtain⟨d0,d1,d2⟩:=b.cells;have d1:w1.cell? (Addr.add C.c 1)=some (.slice (some C.aV) gs.length gs.length):=d1;have hf:bz w1 C.aV (bV Fr.c gs).toArray 288:=b.f;rw[bA (n:=2*(C.an.length:Int)) I I];have E:IntKind.wrap .i64 ((i:Int)+1)=((i+1:Nat):Int):=by rw[bA I I];rfl
 have u:Int.tmod ((i+1:Nat):Int) (gs.length:Int)=(((i+1)%gs.length:Nat):Int):=by
  rw[oX I];rfl
 have F:(i+1)%gs.length=(C.hand+(s+1))%C.an.length:=by
  rw[hi,r,Nat.mod_add_mod];rfl
 refine⟨λaK=>?_,λG=>?_⟩
 .refine cq (λa w'=>a=(((C.hand+(s+1))%C.an.length:Nat):Int)/\∃g:O Fr,s+1<=C.an.length/\hZ C.an g/\fx w' {C with an:=g}/\ad (λq=>q=C.c\/q=C.aV) w w'/\∀ (t:Nat) (hx:(C.hand+t)%C.an.length<g.length),t<s+1->(g[(C.hand+t)%C.an.length]).used=false) (λq k=>⟨_,rfl,⟨some C.aV,gs.length,gs.length⟩,d1,_,rfl,⟨I,by show(i:Int)<(gs.length:Int);omega⟩,_,rfl,⟨some C.aV,gs.length,gs.length⟩,d1,by show(gs.length:Int)≠0;omega,_,rfl,?_⟩) ?_
  .rw[rQ,E]
   have f4:=kf hf d (j:=4) (by decide);have f2:=kf hf d (j:=2) (by decide);have H:(gs[i]).pins=0:=by
    have h1:=l.2 i I d;have h2:(gs[i]).pins=(C.an[i]'I).pins:=by rw[h1]
    rw[h2];exact A _ (cF _)
   refine⟨(gs[i]).pins,by rw[aw];exact f4,λx=>?_,λ_=>⟨_,rfl,(gs[i]).used,by rw[aw];exact f2,λhu=>⟨_,rfl,?_⟩,λhu=>⟨_,rfl,?_⟩⟩⟩
   .rw[H]at x;simp at x
   .have J:s<C.an.length:=by
     rcases dO s C.an.length with h1|h1
     .exact h1
     .have es:s=C.an.length:=by omega
      have y:(C.hand+0)%C.an.length=i:=by rw[hi,es,Nat.add_mod_right];rfl
      have h2:=p 0 (by rw[y];exact d) I;have m:(gs[i]).used=false:=by
       have e:gs[(C.hand+0)%C.an.length]'(by rw[y];exact d)=gs[i]:=by congr 1
       rw[←e];exact h2
      rw[m]at hu;cases hu
    obtain⟨au,ay,K,o⟩:=nf hf d (j:=2) (by decide) (v:=false) {gs[i] with used:=false} rfl;rw[aw];refine⟨au,ay,aW (k _ _ ⟨by rw[u,F],gs.set i {gs[i] with used:=false},J,l.set d false,?_,hc.trans (o.mono λq _ e=>.inr e),λt hx ht=>?_⟩)⟩
    .have L:=b.v.ab o h.a1.1
     refine⟨?_,K,b.dev.ab o (λq k e=>h.a1.2.2 (e▸k)),?_,?_,?_,h.a1⟩
     .show Var _ _ [_,.slice (some C.aV) (gs.set i _).length (gs.set i _).length,_] _
      rw[df];exact L
     .show 8<=(gs.set i _).length;rw[df];omega
     .show(gs.set i _).length<=64;rw[df];omega
     .show C.hand<(gs.set i _).length;rw[df];omega
    .rw[sx]
     split
     .rfl
     .rename_i M
      rcases dO t s with h1|h1
      .exact p t _ h1
      .have:t=s:=by omega
       subst this;exact absurd hi M
   .obtain⟨s1,s2⟩:=dI b.v (i:=2) (by simp)
    rw[aw,u];refine⟨s1,s2,aW ⟨i,gs,(i+1)%gs.length,I,rfl,l,?_,hc.trans ((dk _ _ _ _).mono λq _ e=>.inl e)⟩⟩;have z:=dk w1 C.c 2 (.int .i64 (((i+1)%gs.length:Nat):Int));refine⟨dN b.v (i:=2) (.int .i64 (((i+1)%gs.length:Nat):Int)),bz.ab hf z (λe=>h.a1.1 e.symm),b.dev.ab z (λq k e=>h.a1.2.1 (e▸k)),b.bG,b.bI,?_,h.a1⟩;exact g7 _ I
  .rintro a w' ⟨rfl,g,h1,h2,m,N,P⟩
   rw[bA (n:=(s:Int)+1) I I];refine⟨⟨s+1,g,I,h1,rfl,h2,m,N,P⟩,?_⟩;show(2*(C.an.length:Int)-((s:Int)+1)).toNat<(2*(C.an.length:Int)-(s:Int)).toNat;omega
 .have:=cv G
  omega
end
structure eI(C aF:b5)(w w':J)(k:Nat):Prop where
 c:aF.c=C.c
 d:aF.D.d=C.D.d
 len:aF.an.length=C.an.length
 bg:aF.D.key=C.D.key
 aQ:aF.D.aQ<=C.D.aQ+k
 calm:∀m,C.D.calm (m+k)->aF.D.calm m
 ab:ad (c4 C) w w'
 c7:∀q,c4 aF q->c4 C q\/w.heap.size<=q
theorem eI.refl(C:b5)(w:J):eI C C w w 0:=⟨rfl,rfl,rfl,rfl,bl _,λ_ h=>h,.refl _ _,λ_ h=>.inl h⟩
theorem eI.ext{w w':J}(C:b5)(h:Ext w w'):eI C C w w' 0:=⟨rfl,rfl,rfl,rfl,bl _,λ_ h=>h,ad.cJ h,λ_ h=>.inl h⟩
theorem eI.trans{C aF a:b5}{w w' b:J}{k l:Nat}(h1:eI C aF w w' k)(h2:eI aF a w' b l):eI C a w b (k+l):=by
 have hs:=h1.ab.size;refine⟨h2.c.trans h1.c,h2.d.trans h1.d,h2.len.trans h1.len,h2.bg.trans h1.bg,by have:=h1.aQ;have:=h2.aQ;omega,λm f=>h2.calm m (h1.calm (m+l) (by rw[show m+l+k=m+(k+l) from I];exact f)),cu h1.ab h2.ab λq e h=>(h1.c7 q h).resolve_right I,λq e=>?_⟩;rcases h2.c7 q e with h|h
 .exact h1.c7 q h
 .exact .inr I
theorem eI.mono{C aF:b5}{w w':J}{k l:Nat}(h:eI C aF w w' k)(b:k<=l):eI C aF w w' l:=
 ⟨h.c,h.d,h.len,h.bg,by have:=h.aQ;omega,λm a=>h.calm m (gg a I),h.ab,h.c7⟩
theorem eI.bL{C aF:b5}{w w':J}{k:Nat}(h:eI C aF w w' k):aF.D.bL=C.D.bL:=congrArg (λk:(O cX×(Nat->ai)×(Nat->O cX)×(Int->Prop))×Int=>k.1.2.1) h.bg
theorem eI.ng{C aF:b5}{w w':J}{k:Nat}(h:eI C aF w w' k):aF.D.bL=C.D.bL/\aF.D.dH=C.D.dH:=⟨h.bL,congrArg (λk:(O cX×(Nat->ai)×(Nat->O cX)×(Int->Prop))×Int=>k.1.2.2.1) h.bg⟩
theorem eI.n{C aF:b5}{w w':J}{k:Nat}(h:eI C aF w w' k):aF.D.n=C.D.n:=congrArg (λk:(O cX×(Nat->ai)×(Nat->O cX)×(Int->Prop))×Int=>k.1.1.length) h.bg
section
variable {w w':J}{C:b5}{X:Nat->Prop}
theorem ml{fs:O Fr}{D:a6}{c aV hd:Nat}(un:∀ (i j:Nat) (hi:i<fs.length) (d:j<fs.length),(fs[i]).full=true->(fs[j]).full=true->(fs[i]).no=(fs[j]).no->i=j){i:Nat}(hi:i<fs.length){no:Nat}(hf:(fs[i]).full=true)(e:(fs[i]).no=no):(b5.mk c aV fs hd D).view no=(fs[i]).l:=by
 unfold b5.view
 cases a:fs.find? λf=>f.full&&f.no==(no:Int) with
 |none=>
  have:=jo.1 a _ (cF hi);simp[hf,e]at this
 |some f=>
  have g:=jH a;have b:=ko a;simp only[er,kn]at b;obtain⟨j,d,rfl⟩:=fi g;have:=un i j hi d hf b.1 (by rw[e,b.2]);subst this;simp only
theorem mm{fs:O Fr}{D:a6}{c aV hd:Nat}{no:Nat}(h:∀f∈fs,f.full=true->f.no≠no):(b5.mk c aV fs hd D).view no=D.now no:=by
 unfold b5.view
 cases b:fs.find? λf=>f.full&&f.no==(no:Int) with
 |none=>rfl
 |some f=>
  have d:=jH b;have a:=ko b;simp only[er,kn]at a;exact absurd a.2 (h f d a.1)
theorem rR(D:a6)(k i:Nat):(D.cC k).now i=D.now i:=rfl
theorem a_.re{B b:Nat->Prop}{w w':J}{t:Y}{l:Key}{V:Nat->Prop}(h:a_ B w t l)(hc:ad V w w')(c:∀q,q<w.heap.size->B q->¬V q)(d:∀q,q<w.heap.size->B q->b q):a_ b w' t l:=
 ⟨h.1.ab hc λq a=>c q (h.2.2 q a).2 (h.2.2 q a).1,h.2.1,λq a=>⟨d q (h.2.2 q a).2 (h.2.2 q a).1,fU (h.2.2 q a).2 hc.size⟩⟩
theorem rS{gs:O Fr}{hd:Nat}{az:a6}{V:Nat->Prop}(h:gC X w C)(hs:hZ C.an gs)(hc:ad V w w')(dR:∀q,q<w.heap.size->V q->c4 C q)(m:kH az C.D)(u:∀i,az.now i=C.D.now i)(v:∀q,bY az q->bY C.D q\/w.heap.size<=q):gC X w' {C with an:=gs,hand:=hd,D:=az}:=by
 have x:=hc.size;have r:∀q,q<w.heap.size->c4 {C with an:=gs,hand:=hd,D:=az} q->c4 C q:=λq a hf=>by
  rcases hf with h1|h1|h1
  .exact .inl h1
  .exact .inr (.inl h1)
  .exact .inr (.inr ((v q h1).resolve_right I))
 have g:∀ (i:Nat) (hi:i<gs.length),∃c:i<C.an.length,gs[i]={C.an[i] with used:=(gs[i]).used}:=λi hi=>⟨by rw[←hs.1];exact hi,hs.2 i (by rw[←hs.1];exact hi) hi⟩;refine⟨λf hf=>?_,λf hf y=>?_,λi j hi z h1 h2 A=>?_,λq a=>⟨fU (h.e6 q a).1 x,λhf=>(h.e6 q a).2 (r q (h.e6 q a).1 hf)⟩,m.2.2⟩
 .obtain⟨i,hi,rfl⟩:=fi hf
  obtain⟨c,e⟩:=g i hi;have:(gs[i]).pins=(C.an[i]).pins:=by rw[e]
  rw[this];exact h.pins _ (cF c)
 .obtain⟨i,hi,rfl⟩:=fi hf
  obtain⟨c,e⟩:=g i hi;have n:(gs[i]).full=(C.an[i]).full:=by rw[e]
  have o:(gs[i]).no=(C.an[i]).no:=by rw[e]
  have p:(gs[i]).b=(C.an[i]).b:=by rw[e]
  have d:(gs[i]).l=(C.an[i]).l:=by rw[e]
  have s:(gs[i]).fW=(C.an[i]).fW:=by rw[e]
  obtain⟨no,au,ay,B,E,F,G,H⟩:=h.ok _ (cF c) (by rw[←n];exact y);refine⟨no,by rw[o];exact au,by rw[m.1];exact ay,?_,by rw[d];exact E,λhd=>by rw[d,u];exact F (by rw[←s];exact hd),λhs=>by rw[s];exact G (m.2.1 _ hs),H⟩;rw[p,d];exact a_.re B hc (λq a k J=>k.1 (dR q a J)) λq a k=>⟨λhf=>k.1 (r q a hf),k.2⟩
 .obtain⟨c,e⟩:=g i hi
  obtain⟨K,t⟩:=g j z;have n:(gs[i]).full=(C.an[i]).full:=by rw[e]
  have o:(gs[i]).no=(C.an[i]).no:=by rw[e]
  have p:(gs[j]).full=(C.an[j]).full:=by rw[t]
  have d:(gs[j]).no=(C.an[j]).no:=by rw[t]
  exact h.un i j c K (by rw[←n];exact h1) (by rw[←p];exact h2) (by rw[←o,←d];exact A)
theorem rT{gs:O Fr}{hd:Nat}{az:a6}(h:gC X w C)(hs:hZ C.an gs)(r:∀i,az.now i=C.D.now i)(no:Nat):(b5.mk C.c C.aV gs hd az).view no=C.view no:=by
 have d:∀ (i:Nat) (hi:i<gs.length),∃g:i<C.an.length,gs[i]={C.an[i] with used:=(gs[i]).used}:=λi hi=>⟨by rw[←hs.1];exact hi,hs.2 i (by rw[←hs.1];exact hi) hi⟩;by_cases hex:∃ (i:Nat) (hi:i<C.an.length),(C.an[i]).full=true/\(C.an[i]).no=no
 .obtain⟨i,hi,h1,h2⟩:=hex
  have n:i<gs.length:=by rw[hs.1];exact hi
  obtain⟨g,e⟩:=d i n;have k:(gs[i]).full=(C.an[i]).full:=by rw[e]
  have m:(gs[i]).no=(C.an[i]).no:=by rw[e]
  have s:(gs[i]).l=(C.an[i]).l:=by rw[e]
  have t:∀ (i j:Nat) (hi:i<gs.length) (A:j<gs.length),(gs[i]).full=true->(gs[j]).full=true->(gs[i]).no=(gs[j]).no->i=j:=by
   intro a b u v bG bI x;obtain⟨y,o⟩:=d a u;obtain⟨z,p⟩:=d b v;have f1:(gs[a]).full=(C.an[a]).full:=by rw[o]
   have f2:(gs[a]).no=(C.an[a]).no:=by rw[o]
   have f3:(gs[b]).full=(C.an[b]).full:=by rw[p]
   have f4:(gs[b]).no=(C.an[b]).no:=by rw[p]
   exact h.un a b y z (by rw[←f1];exact bG) (by rw[←f3];exact bI) (by rw[←f2,←f4];exact x)
  rw[ml t n (by rw[k];exact h1) (by rw[m];exact h2),s];exact(ml (fs:=C.an) (D:=C.D) (c:=C.c) (aV:=C.aV) (hd:=C.hand) h.un hi h1 h2).symm
 .have q:∀f∈C.an,f.full=true->f.no≠no:=λf hf h1 h2=>by
   obtain⟨i,hi,rfl⟩:=fi hf;exact hex ⟨i,hi,h1,h2⟩
  have e:C.view no=C.D.now no:=mm (fs:=C.an) (D:=C.D) (c:=C.c) (aV:=C.aV) (hd:=C.hand) q;rw[e,←r];refine mm λf hf h1 h2=>?_;obtain⟨i,hi,rfl⟩:=fi hf;obtain⟨g,e⟩:=d i hi;have k:(gs[i]).full=(C.an[i]).full:=by rw[e]
  have m:(gs[i]).no=(C.an[i]).no:=by rw[e]
  exact q _ (cF g) (by rw[←k];exact h1) (by rw[←m];exact h2)
theorem x4{i:Nat}(hi:i<C.an.length){az:a6}{V:Nat->Prop}(h:gC X w C)(hc:ad V w w')(dR:∀q,q<w.heap.size->V q->c4 C q)(l:kH az C.D)
 (t:∀j:Nat,((C.an[i]).full=true->(C.an[i]).no≠j)->az.now j=C.D.now j) (u:∀q,bY az q->bY C.D q\/w.heap.size<=q) (f0:Fr) (m:f0.full=false) (v:f0.pins=0):gC X w' {C with an:=C.an.set i f0,D:=az}:=by
 have x:=hc.size;have o:∀q,q<w.heap.size->c4 {C with an:=C.an.set i f0,D:=az} q->c4 C q:=λq c hf=>by
  rcases hf with h1|h1|h1
  .exact .inl h1
  .exact .inr (.inl h1)
  .exact .inr (.inr ((u q h1).resolve_right I))
 refine⟨λf hf=>?_,λf hf d=>?_,λa b y g h1 h2 n=>?_,λq c=>⟨fU (h.e6 q c).1 x,λhf=>(h.e6 q c).2 (o q (h.e6 q c).1 hf)⟩,l.2.2⟩
 .rcases ly hf with hf|rfl
  .exact h.pins f hf
  .exact v
 .obtain⟨k,z,rfl⟩:=fi hf
  have p:k<C.an.length:=by simpa using z
  by_cases e:i=k
  .subst e
   simp only[ig]at d;rw[m]at d;cases d
  .simp only[fH e]at d⊢
   obtain⟨no,au,ay,A,B,E,F,G⟩:=h.ok _ (cF p) d;refine⟨no,au,by rw[l.1];exact ay,a_.re A hc (λq c g H=>g.1 (dR q c H)) λq c g=>⟨λhf=>g.1 (o q c hf),g.2⟩,B,λhd=>?_,λhs=>F (l.2.1 _ hs),G⟩;show _=az.now no;rw[t no λJ he=>e (h.un i k hi p J d (by rw[he,au]))];exact E hd
 .have K:a<C.an.length:=by simpa using y
  have L:b<C.an.length:=by simpa using g
  by_cases r:i=a
  .subst r
   simp only[ig]at h1;rw[m]at h1;cases h1
  by_cases s:i=b
  .subst s
   simp only[ig]at h2;rw[m]at h2;cases h2
  simp only[fH r]at h1 n;simp only[fH s]at h2 n;exact h.un a b K L h1 h2 n
theorem Bz{i:Nat}(hi:i<C.an.length){az:a6}{hd:Nat}(h:gC X w C)(v:(C.an[i]).full=true->∀j:Nat,(C.an[i]).no=j->az.now j=(C.an[i]).l)(x:∀j:Nat,((C.an[i]).full=true->(C.an[i]).no≠j)->az.now j=C.D.now j)(f0:Fr)(m:f0.full=false)(no:Nat):
 (b5.mk C.c C.aV (C.an.set i f0) hd az).view no=C.view no:=by
 by_cases hex:∃ (k:Nat) (g:k<C.an.length),(C.an[k]).full=true/\(C.an[k]).no=no
 .obtain⟨k,g,h1,h2⟩:=hex
  have o:=ml (fs:=C.an) (D:=C.D) (c:=C.c) (aV:=C.aV) (hd:=C.hand) h.un g h1 h2;have o:C.view no=(C.an[k]).l:=o;rw[o];by_cases e:i=k
  .subst e
   rw[←v h1 no h2];refine mm λf hf au ay=>?_;obtain⟨a,n,rfl⟩:=fi hf;have p:a<C.an.length:=by simpa using n
   by_cases d:i=a
   .subst d
    simp only[ig]at au;rw[m]at au;cases au
   .simp only[fH d]at au ay
    exact d (h.un i a hi p h1 au (by rw[h2,ay]))
  .have y:k<(C.an.set i f0).length:=by simpa using g
   have q:(C.an.set i f0)[k]=C.an[k]:=fH e _;have z:∀ (a b:Nat) (n:a<(C.an.set i f0).length) (t:b<(C.an.set i f0).length),((C.an.set i f0)[a]).full=true->((C.an.set i f0)[b]).full=true->((C.an.set i f0)[a]).no=((C.an.set i f0)[b]).no->a=b:=by
    intro a b n t h1 h2 r;have p:a<C.an.length:=by simpa using n
    have A:b<C.an.length:=by simpa using t
    by_cases d:i=a
    .subst d
     simp only[ig]at h1;rw[m]at h1;cases h1
    by_cases u:i=b
    .subst u
     simp only[ig]at h2;rw[m]at h2;cases h2
    simp only[fH d]at h1 r;simp only[fH u]at h2 r;exact h.un a b p A h1 h2 r
   rw[ml z y (by rw[q];exact h1) (by rw[q];exact h2),q]
 .have s:∀f∈C.an,f.full=true->f.no≠no:=λf hf h1 h2=>by
   obtain⟨k,g,rfl⟩:=fi hf;exact hex ⟨k,g,h1,h2⟩
  have e:C.view no=C.D.now no:=mm (fs:=C.an) (D:=C.D) (c:=C.c) (aV:=C.aV) (hd:=C.hand) s;rw[e,←x no λh1 h2=>s _ (cF hi) h1 h2];refine mm λf hf h1 h2=>?_;rcases ly hf with hf|rfl
  .exact s f hf h1 h2
  .rw[m]at h1;cases h1
theorem BA{X:Nat->Prop}{w:J}{C:b5}(h:gC X w C){no:Nat}{s:Y}{l:cX}(hs:¬C.D.bL no=true):kH (C.D.put no s l) C.D:=
 ⟨rfl,λ_ h=>h,λj a=>by
  have a:C.D.bL j=true:=a
  rw[Bu,if_neg λe=>hs (by rw[←e];exact a)];exact h.ke j a⟩
theorem BB(D:a6){no:Nat}{s:Y}{l:cX}(hs:¬D.bL no=true):(D.put no s l).key=D.key:=by
 have h1:=qc D (k:=2) (.inr rfl);unfold a6.key at h1⊢;have h2:(D.put no s l).kc=D.kc:=by
  funext n;exact propext ⟨λ_ h=>absurd (h no) hs,λ_ h=>absurd (h no) hs⟩
 rw[h2];have a:=congrArg Prod.snd h1;show((D.bg,D.bL,D.dH,D.kc),(D.cC 2).cg.getD 3 0)=_;have a:(D.cC 2).cg.getD 3 0=D.cg.getD 3 0:=a;rw[a]
def BC(X:Nat->Prop)(C:b5)(w:J)(v:aa)(w':J):Prop:=
 ∃aF:b5,ek X w' aF/\eI C aF w w' 1/\aF.aV=C.aV/\(∀j,aF.view j=C.view j)/\(∀f∈aF.an,f.full=true->∃g∈C.an,g.full=true/\g.no=f.no)/\
  ((∃ (i:Nat) (hi:i<aF.an.length),v=.tuple #[.pointer (some ⟨C.aV,i*6,none⟩),(0:Int)]/\(aF.an[i]).full=false/\((aF.an[i]).pins=0))\/
   (v=.tuple #[.pointer none,(3:Int)]/\¬C.D.calm 1))
theorem BD(h:ek X w C)(ax:C.D.aQ<=1000000000):aR aj 221 #[.pointer (some C.c)] w (BC X C w):=by
 have U:=h.raw;refine okF (af.uR (some C.c)) aA.uR func221 ?_;(delta af.uR k0 ak bc r1 ag aC;dsimp only);refine(F6 U).use ?_;rintro _ _ ⟨he,rfl⟩;rcases he with ⟨i,hi,rfl,hf⟩|⟨rfl,aB⟩
 .exact⟨_,rfl,λ_=>⟨C,h,(eI.refl C w).mono (cL _),rfl,λ_=>rfl,λf hf H=>⟨f,hf,H,rfl⟩,.inl ⟨i,hi,rfl,hf,h.inv.pins _ (cF hi)⟩⟩,λh=>(by cases h)⟩
 refine⟨_,rfl,λh=>(by cases h),λ_=>(F7 U h.inv.pins).use ?_⟩;rintro _ w1 ⟨i,gs,hd,hi,rfl,z,r,aD⟩;have W:i<gs.length:=by rw[z.1];exact hi
 have L:ad (c4 C) w w1:=aD.mono λq _ n=>by
  rcases n with n|n
  .exact .inl n
  .exact .inr (.inl n)
 have E:=rS (hd:=hd) (az:=C.D) h.inv z L (λq _ h=>h) h.inv.rP (λ_=>rfl) λq n=>.inl n;have P:=rT (hd:=hd) (az:=C.D) h.inv z λ_=>rfl;obtain⟨a,F⟩:∃a:b5,a={C with an:=gs,hand:=hd}:=⟨_,rfl⟩;have E:gC X w1 a:=by rw[F];exact E
 have r:fx w1 a:=by rw[F];exact r
 have P:∀no,a.view no=C.view no:=by rw[F];exact P
 have Y:∀q,c4 a q↔c4 C q:=by rw[F];exact λq=>Iff.rfl
 have o:a.D=C.D:=by rw[F]
 have p:a.c=C.c/\a.aV=C.aV:=by rw[F];exact⟨rfl,rfl⟩
 have I:a.an=gs:=by rw[F]
 have A:i<a.an.length:=by rw[I];exact W
 have R:(a.an[i]).full=true:=by
  have e:=z.2 i hi W;have:(gs[i]).full=(C.an[i]).full:=by rw[e]
  simp only[I];rw[this];exact aB _ (cF hi)
 have Z:∀f∈a.an,f.full=true->∃g∈C.an,g.full=true/\g.no=f.no:=by
  rw[I];intro f hf H;obtain⟨k,aa,rfl⟩:=fi hf;have ac:k<C.an.length:=by rw[←z.1];exact aa
  have e:=z.2 k ac aa;have aE:(gs[k]).full=(C.an[k]).full:=by rw[e]
  have aF:(gs[k]).no=(C.an[k]).no:=by rw[e]
  exact⟨C.an[k],cF ac,by rw[←aE];exact H,aF.symm⟩
 obtain⟨no,au,ay,ai,aG,aH,aI⟩:=E.ok _ (cF A) R;have f1:=kf r.f A (j:=1) (by decide)
 have fin:∀ (ah:J) (az:a6),ad (c4 C) w1 ah->fx ah {a with D:=az}->eI C {a with D:=az} w ah 1->kH az C.D->(∀j:Nat,(a.an[i]).no≠j->az.now j=C.D.now j)->(∀j:Nat,(a.an[i]).no=j->az.now j=(a.an[i]).l)->(∀q,bY az q->bY C.D q\/w1.heap.size<=q)->
  ∃S:ae,(some ⟨C.aV,i*6,none⟩:aq ae)=some S/\bx ah S [false,false,false,(0:Int),(0:Int),()]/\(6:Nat)=6/\al (setCells ah S 0 [false,false,false,(0:Int),(0:Int),()]) λaJ=>BC X C w (.tuple #[.pointer (some ⟨C.aV,i*6,none⟩),(0:Int)]) aJ:=by
  intro ah az aK t B aL am aM K;have aN:bz ah a.aV (bV Fr.c a.an).toArray 288:=t.f;obtain⟨s1,s2,M⟩:=x3 aN A dC;rw[p.2]at s1 s2 M;have aO:gC X (setCells ah ⟨C.aV,i*6,none⟩ 0 dC.c) {a with an:=a.an.set i dC,D:=az}:=by
   refine x4 (V:=c4 C) (w:=w1) A E (aK.trans (M.mono λq _ e=>.inr (.inl e))) (λq _ n=>(Y q).2 n) (by rw[o];exact aL) (λj u=>by rw[o];exact am j λe=>u R e) (λq n=>by rw[o];exact K q n) dC rfl rfl
  have aP:=t.v;refine⟨_,rfl,s1,rfl,aW ⟨{a with an:=a.an.set i dC,D:=az},⟨?_,aO⟩,?_,p.2,λj=>?_,λf hf H=>?_,.inl ⟨i,by show i<(a.an.set i dC).length;rw[df];exact A,rfl,by simp[dC],by simp[dC]⟩⟩⟩
  .have aS:a.c≠C.aV:=by have:=t.a1.1;rw[←p.2];exact this
   refine⟨?_,by show bz _ a.aV _ _;rw[p.2];exact s2,t.dev.ab M (λq n e=>t.a1.2.2 (by rw[show({a with D:=az}:b5).aV=a.aV from rfl,p.2,←e];exact n)),?_,?_,?_,t.a1⟩
   .have:=aP.ab M aS
    show Var _ _ [_,.slice _ (a.an.set i dC).length (a.an.set i dC).length,_] _;rw[df];exact this
   .show 8<=(a.an.set i dC).length;rw[df];exact t.bG
   .show(a.an.set i dC).length<=64;rw[df];exact t.bI
   .show a.hand<(a.an.set i dC).length;rw[df];exact t.hd
  .refine⟨B.c,B.d,by show(a.an.set i dC).length=_;rw[df];exact B.len,B.bg,B.aQ,B.calm,B.ab.trans (M.mono λq _ e=>.inr (.inl e)),B.c7⟩
  .rw[←P]
   exact Bz A E (λ_ j u=>aM j u) (λj u=>by rw[o];exact am j λe=>u R e) dC rfl j
  .rcases ly hf with hf|rfl
   .exact Z f hf H
   .cases H
 refine⟨_,rfl,λh=>(by cases h),λ_=>iE (λah=>∃az:a6,ad (c4 C) w1 ah/\fx ah {a with D:=az}/\eI C {a with D:=az} w ah 1/\kH az C.D/\(∀j:Nat,(a.an[i]).no≠j->az.now j=C.D.now j)/\(∀j:Nat,(a.an[i]).no=j->az.now j=(a.an[i]).l)/\(∀q,bY az q->bY C.D q\/w1.heap.size<=q)) (λq n=>⟨_,rfl,(a.an[i]).fW,?_,λaT=>?_,λaU=>n _ ⟨C.D,.refl _ _,?_,?_,h.inv.rP,λ_ _=>rfl,λj u=>?_,λq h=>.inl h⟩⟩) ?_⟩
 .rw[aw,←p.2];exact f1
 .
  have Q:=cf w1;have y:=r.ext Q;obtain⟨ao,_,_⟩:=y.cells;rw[p.1,o]at ao;have f3:=kf y.f A (j:=3) (by decide);have f5:=kf y.f A (j:=5) (by decide);rw[p.2]at f3 f5;refine aW ⟨_,rfl,id,_,ao,_,rfl,id,(no:Int),?_,_,rfl,id,(a.an[i]).b,by rw[aw];exact f5,?_⟩
  .rw[aw,f3]
   show some (Value.int .i64 (a.an[i]).no)=_;rw[au]
  have aX:cx w1.drew C.D:=by rw[←o];exact y.dev
  have ap:¬C.D.bL no=true:=λhs=>by
   have:=aI (by rw[o];exact hs);rw[aT]at this;cases this
  refine(vH aX (i:=no) (by rw[←o];exact ay) ax (ai.1.ext Q) aG λq n hf=>(ai.2.2 q n).1.1 (.inr (.inr (by rw[o];exact hf)))).use ?_;rintro v2 ah aY;rcases aY with ⟨ar,rfl,T,G⟩|⟨ar,rfl,s,T,G,aZ⟩
  .have N:ad (c4 C) w1 ah:=(ad.cJ Q).trans (G.mono λq _ e=>.inr (.inr (.inl e)))
   refine⟨3,rfl,λ_=>⟨{a with D:=C.D.cC 2},⟨?_,?_⟩,?_,p.2,λj=>?_,Z,.inr ⟨rfl,λa0=>?_⟩⟩,λh=>(by cases h)⟩
   .have t:=y.v.ab G (λe=>y.a1.2.1 (.inl (by rw[o];exact e)))
    rw[o]at t;have av:=r.a1;rw[o]at av;exact⟨t,bz.ab y.f G (λe=>y.a1.2.2 (.inl (by rw[o];exact e))),T,r.bG,r.bI,r.hd,av⟩
   .have:=rS (C:=a) (hd:=a.hand) (az:=C.D.cC 2) E (hZ.refl _) N (λq _ n=>(Y q).2 n) (by rw[o];exact h.inv.cC 2) (λj=>by rw[o];rfl) λq n=>.inl (by rw[o];exact n)
    exact this
   .refine⟨p.1,rfl,by show a.an.length=_;rw[I];exact z.1,qc C.D (.inr rfl),Nat.le_succ _,λm O=>(jO (.inr rfl) h.raw.dev.f4 O).1,L.trans N,λq n=>.inl ?_⟩
    rcases n with e|e|e
    .exact .inl (by rw[←p.1];exact e)
    .exact .inr (.inl (by rw[←p.2];exact e))
    .exact .inr (.inr e)
   .rw[←P]
    exact rT (C:=a) E (hZ.refl _) (λj=>by rw[o];rfl) j
   .have:=(jO (k:=2) (m:=0) (.inr rfl) h.raw.dev.f4 a0).2
    rw[ar]at this;cases this
  .have N:ad (c4 C) w1 ah:=(ad.cJ Q).trans (G.mono λq _ e=>.inr (.inr e))
   have K:∀q,bY (C.D.put no s (a.an[i]).l) q->bY C.D q\/w1.heap.size<=q:=by
    rintro q (e|e|e|⟨x,hx,e⟩)
    .exact .inl (.inl e)
    .exact .inl (.inr (.inl e))
    .exact .inl (.inr (.inr (.inl e)))
    .rcases cU.1 hx with rfl|hx
     .exact aZ q e
     .exact .inl (.inr (.inr (.inr ⟨x,(hK.1 hx).1,e⟩)))
   have c9:∀q,bY C.D q->q≠a.c/\q≠a.aV:=λq n=>⟨λe=>r.a1.2.1 (by rw[o,←e];exact n),λe=>r.a1.2.2 (by rw[o,←e];exact n)⟩;refine⟨0,rfl,λh=>(by cases h),λ_=>n _ ⟨C.D.put no s (a.an[i]).l,N,?_,?_,BA h.inv ap,λj u=>?_,λj u=>?_,K⟩⟩
   .have t:=y.v.ab G (λe=>(c9 _ e).1 rfl)
    rw[o]at t;have a7:a.c<w1.heap.size:=r.v.lt;have a8:a.aV<w1.heap.size:=bz.lt r.f;refine⟨t,bz.ab y.f G (λe=>(c9 _ e).2 rfl),T,r.bG,r.bI,r.hd,r.a1.1,λe=>?_,λe=>?_⟩
    .rcases K _ e with h1|h1
     .exact(c9 _ h1).1 rfl
     .have:a.c<w1.heap.size:=a7
      have h1:w1.heap.size<=a.c:=h1;omega
    .rcases K _ e with h1|h1
     .exact(c9 _ h1).2 rfl
     .have h1:w1.heap.size<=a.aV:=h1
      omega
   .refine⟨p.1,rfl,by show a.an.length=_;rw[I];exact z.1,BB C.D ap,bl _,λm O=>(jO (.inr rfl) h.raw.dev.f4 O).1,L.trans N,λq n=>?_⟩
    rcases n with e|e|e
    .exact .inl (.inl (by rw[←p.1];exact e))
    .exact .inl (.inr (.inl (by rw[←p.2];exact e)))
    .rcases K q e with h1|h1
     .exact .inl (.inr (.inr h1))
     .exact .inr (eK L.size h1)
   .rw[oC,if_neg (λe=>u (by rw[au,e]))]
   .rw[oC,if_pos (by rw[au]at u;omega)]
 .rw[←o];exact r
 .refine⟨p.1,rfl,by show a.an.length=_;rw[I];exact z.1,rfl,Nat.le_succ _,λm O=>gg O (Nat.le_succ _),L,λq n=>.inl ?_⟩
  rcases n with e|e|e
  .exact .inl (by rw[←p.1];exact e)
  .exact .inr (.inl (by rw[←p.2];exact e))
  .exact .inr (.inr e)
 .have:no=j:=by rw[au]at u;omega
  subst this;rw[←o];exact(aH aU).symm
 .rintro ah ⟨az,a1,a2,a3,a4,a5,c3,dw⟩
  exact fin ah az a1 a2 a3 a4 a5 c3 dw
end
def rU(fs:O Fr):Prop:=∀ (i j:Nat) (hi:i<fs.length) (a:j<fs.length),(fs[i]).full=true->(fs[j]).full=true->(fs[i]).no=(fs[j]).no->i=j
theorem BE{fs gs:O Fr}{D az:a6}{c aV hd c' g h j:Nat}(n:rU fs)(o:rU gs)(h1:∀ (i:Nat) (hi:i<fs.length),(fs[i]).full=true->(fs[i]).no=j->∃ (k:Nat) (a:k<gs.length),(gs[k]).full=true/\(gs[k]).no=j/\(gs[k]).l=(fs[i]).l)
 (h2:(∀f∈fs,f.full=true->f.no≠j)->(∀f∈gs,f.full=true->f.no≠j)/\az.now j=D.now j):(b5.mk c' g gs h az).view j=(b5.mk c aV fs hd D).view j:=by
 by_cases hex:∃ (k:Nat) (a:k<fs.length),(fs[k]).full=true/\(fs[k]).no=j
 .obtain⟨k,a,au,ay⟩:=hex
  obtain⟨m,p,b,d,q⟩:=h1 k a au ay;rw[ml n a au ay,ml o p b d,q]
 .have e:∀f∈fs,f.full=true->f.no≠j:=λf hf h1 h2=>by
   obtain⟨k,a,rfl⟩:=fi hf;exact hex ⟨k,a,h1,h2⟩
  obtain⟨b,d⟩:=h2 e;rw[mm e,mm b,d]
section
variable {w w':J}{C:b5}{X:Nat->Prop}
theorem x5{i:Nat}(hi:i<C.an.length){no:Nat}{V:Nat->Prop}(h:gC X w C)(hc:ad V w w')(dR:∀q,q<w.heap.size->V q->c4 C q){az:a6}(r:kH az C.D)(A:∀j,az.now j=C.D.now j)(B:∀q,bY az q↔bY C.D q)
 (d:Fr) (O:d.full=true) (E:d.pins=0) (s:Bx X w' {C with an:=C.an.set i d,D:=az} d no) (t:∀ (k:Nat) (u:k<C.an.length),k≠i->(C.an[k]).full=true->(C.an[k]).no≠no):gC X w' {C with an:=C.an.set i d,D:=az}:=by
 have F:=hc.size;have v:∀q,c4 {C with an:=C.an.set i d,D:=az} q->c4 C q:=λq hf=>by
  rcases hf with h1|h1|h1
  .exact .inl h1
  .exact .inr (.inl h1)
  .exact .inr (.inr ((B q).1 h1))
 refine⟨λf hf=>?_,λf hf x=>?_,λa b G g h1 h2 c=>?_,λq o=>⟨fU (h.e6 q o).1 F,λhf=>(h.e6 q o).2 (v q hf)⟩,r.2.2⟩
 .rcases ly hf with hf|rfl
  .exact h.pins f hf
  .exact E
 .obtain⟨k,u,rfl⟩:=fi hf
  have H:k<C.an.length:=by simpa using u
  by_cases e:i=k
  .subst e
   simp only[ig];exact⟨no,s⟩
  .simp only[fH e]at x⊢
   obtain⟨m,au,ay,I,J,K,L,M⟩:=h.ok _ (cF H) x;exact⟨m,au,by show m<az.n;rw[r.1];exact ay,a_.re I hc (λq o g N=>g.1 (dR q o N)) λq _ g=>⟨λhf=>g.1 (v q hf),g.2⟩,J,λhd=>by show _=az.now m;rw[A];exact K hd,λhs=>L (r.2.1 _ hs),M⟩
 .have y:a<C.an.length:=by simpa using G
  have z:b<C.an.length:=by simpa using g
  by_cases p:i=a
  .by_cases l:i=b
   .omega
   .subst p
    simp only[ig]at c;simp only[fH l]at h2 c;exact absurd (by rw[←c];exact s.num) (t b z (λe=>l e.symm) h2)
  .by_cases l:i=b
   .subst l
    simp only[ig]at c;simp only[fH p]at h1 c;exact absurd (by rw[c];exact s.num) (t a y (λe=>p e.symm) h1)
   .simp only[fH p]at h1 c
    simp only[fH l]at h2 c;exact h.un a b y z h1 h2 c
theorem F8{i:Nat}(hi:i<C.an.length){no:Nat}(h:rU C.an)(g:Fr)(j:g.no=no)(l:∀ (k:Nat) (q:k<C.an.length),k≠i->(C.an[k]).full=true->(C.an[k]).no≠no):rU (C.an.set i g):=by
 intro a b o p h1 h2 c;have m:a<C.an.length:=by simpa using o
 have n:b<C.an.length:=by simpa using p
 by_cases f:i=a
 .by_cases d:i=b
  .omega
  .subst f
   simp only[ig]at c;simp only[fH d]at h2 c;exact absurd (by rw[←c];exact j) (l b n (λe=>d e.symm) h2)
 .by_cases d:i=b
  .subst d
   simp only[ig]at c;simp only[fH f]at h1 c;exact absurd (by rw[c];exact j) (l a m (λe=>f e.symm) h1)
  .simp only[fH f]at h1 c
   simp only[fH d]at h2 c;exact h a b m n h1 h2 c
theorem x6{i:Nat}(hi:i<C.an.length){no:Nat}(h:rU C.an){az:a6}(m:∀j,az.now j=C.D.now j)(a:Fr)(n:a.full=true)(b:a.no=no)(hold:(C.an[i]).full=true->(C.an[i]).no=no)(o:∀ (k:Nat) (g:k<C.an.length),k≠i->(C.an[k]).full=true->(C.an[k]).no≠no){hd:Nat}(j:Nat):
 (b5.mk C.c C.aV (C.an.set i a) hd az).view j=if j=no then a.l else C.view j:=by
 have hu:=F8 hi h a b o;have p:i<(C.an.set i a).length:=by simpa using hi
 by_cases e:j=no
 .subst e
  rw[if_pos rfl,ml hu p (by simp[n]) (by simpa using b)];simp
 .rw[if_neg e]
  refine BE (fs:=C.an) (D:=C.D) (c:=C.c) (aV:=C.aV) (hd:=C.hand) h hu (λk g au ay=>?_) λq=>⟨λf hf au ay=>?_,m j⟩
  .have d:i≠k:=λr=>by
    subst r;have:=hold au;rw[ay]at this;exact e I
   have s:k<(C.an.set i a).length:=by simpa using g
   exact⟨k,s,by simp only[fH d];exact au,by simp only[fH d];exact ay,by simp only[fH d]⟩
  .rcases ly hf with hf|rfl
   .exact q f hf au ay
   .rw[b]at ay
    exact e I
def F9(X:Nat->Prop)(C:b5)(no:Nat)(w:J)(v:aa)(w':J):Prop:=
 ∃aF:b5,ek X w' aF/\eI C aF w w' 2/\(∀j,aF.view j=C.view j)/\
  ((∃s:Y,v=.tuple #[s,(0:Int)]/\a_ (λq=>w.heap.size<=q/\¬c4 aF q/\¬X q) w' s (C.view no))\/(v=.tuple #[(),(3:Int)]/\¬C.D.calm 2))
theorem F_(h:ek X w C)(a7:C.D.aQ<=999999999){no:Nat}(aE:no<C.D.n)(aF:2<=no):aR aj 239 #[.pointer (some C.c),no] w (F9 X C no w):=by
 have r:=h.raw;refine okF (af.uS (some C.c) (no:Int)) aA.uS func239 ?_;(delta af.uS aO ak k0 st ag ba dg cc;dsimp only);refine(By r _).use ?_;rintro _ _ ⟨rfl,rfl⟩;refine⟨_,rfl,λF=>?_,λ_=>(vJ r _).use ?_⟩
 .have:decide (0<=(no:Int)/\(no:Int)<C.D.n)=true:=dP ⟨I,I⟩
  rw[this]at F;cases F
 rintro _ _ ⟨aG,rfl⟩;rcases aG with ⟨i,hi,rfl,hf,aH⟩|⟨rfl,aI⟩
 .
  obtain⟨au,ay,M,J⟩:=nf r.f hi (j:=2) (by decide) (v:=true) {C.an[i] with used:=true} rfl;have ac:hZ C.an (C.an.set i {C.an[i] with used:=true}):=(hZ.refl C.an).set hi true;have K:ad (c4 C) w (w.setCell ⟨C.aV,i*6+2,none⟩ true):=J.mono λq _ e=>.inr (.inl e);have hinv:=rS (hd:=C.hand) (az:=C.D) h.inv ac K (λq _ h=>h) h.inv.rP (λ_=>rfl) λq p=>.inl p;have aJ:=rT (hd:=C.hand) (az:=C.D) h.inv ac λ_=>rfl;obtain⟨w1,ae⟩:∃w1,w1=w.setCell ⟨C.aV,i*6+2,none⟩ true:=⟨_,rfl⟩;rw[←ae]at M J K hinv;have N:fx w1 {C with an:=C.an.set i {C.an[i] with used:=true}}:=by
   refine⟨?_,M,r.dev.ab J (λq p e=>r.a1.2.2 (e▸p)),?_,?_,?_,r.a1⟩
   .have:=r.v.ab J r.a1.1
    show Var _ _ [_,.slice _ (C.an.set i _).length (C.an.set i _).length,_] _;rw[df];exact this
   .show 8<=(C.an.set i _).length;rw[df];exact r.bG
   .show(C.an.set i _).length<=64;rw[df];exact r.bI
   .show C.hand<(C.an.set i _).length;rw[df];exact r.hd
  obtain⟨a,O⟩:∃a:b5,a={C with an:=C.an.set i {C.an[i] with used:=true}}:=⟨_,rfl⟩;have P:ek X w1 a:=by rw[O];exact⟨N,hinv⟩
  have dM:i<(C.an.set i {C.an[i] with used:=true}).length:=by simpa using hi
  have f5:=kf M dM (j:=5) (by decide);obtain⟨m,bG,bI,ai,al,a8,a9,bb⟩:=hinv.ok ((C.an.set i {C.an[i] with used:=true})[i]) (cF dM) (by simp[hf]);have aK:((C.an.set i {C.an[i] with used:=true})[i]).b=(C.an[i]).b:=by simp
  have am:((C.an.set i {C.an[i] with used:=true})[i]).l=(C.an[i]).l:=by simp
  rw[aK,am]at ai;rw[am]at al;refine⟨_,rfl,λ_=>⟨_,rfl,by rw[aw];exact au,by rw[aw];exact ay,?_⟩,λh=>(by cases h)⟩;rw[aw,←ae];refine aW ⟨_,rfl,(C.an[i]).b,by rw[aw,f5];simp[Fr.c],(kF (B:=λq=>w1.heap.size<=q) ai.1 (by rw[al];omega) (λq p=>p)).use ?_⟩;rintro _ ah ⟨s,rfl,hs,ao,_⟩;have aL:C.view no=(C.an[i]).l:=ml (fs:=C.an) (D:=C.D) (c:=C.c) (aV:=C.aV) (hd:=C.hand) h.inv.un hi hf aH;have aM:=K.size;refine⟨s,rfl,a,P.ext ao,?_,?_,.inl ⟨s,rfl,?_⟩⟩
  .rw[O]
   exact⟨rfl,rfl,by show(C.an.set i _).length=_;rw[df],rfl,Nat.le_add_right _ _,λm Q=>gg Q I,K.trans (ad.cJ ao),λq p=>.inl p⟩
  .intro j;rw[O];exact aJ j
  .rw[aL]
   refine a_.aY hs λq _ p=>⟨I,λhf=>?_,λG=>?_⟩
   .have:=P.raw.lt hf;omega
   .have:=(P.inv.e6 q G).1;omega
 .
  refine⟨_,rfl,λh=>(by cases h),λ_=>(BD h I).use ?_⟩;rintro _ w1 ⟨a,o,y,A,H,aN,N⟩;rcases N with ⟨i,hi,rfl,aP,bc⟩|⟨rfl,aS⟩
  .refine⟨_,_,rfl,λh=>(by simp at h),λ_=>⟨_,rfl,some C.D.d,?_,?_⟩⟩
   .have:=o.raw.cells.1
    rw[y.c,y.d]at this;exact this
   have R:no<a.D.n:=by rw[y.n];exact aE
   have bd:=y.aQ;rw[←y.d];refine(x0 o.raw.dev R I).use ?_;rintro v2 ah ⟨ap,L,aT⟩;have aq:=λq=>o.raw.lt (q:=q);have S:ad (c4 a) w1 ah:=L.mono λq _ e=>.inr (.inr (.inl e))
   have T:∀f∈a.an,f.full=true->f.no≠no:=λf hf aU aX=>by
    obtain⟨g,hg,h1,h2⟩:=aN f hf aU;exact aI g hg h1 (by rw[h2,aX])
   have aZ:a.D.calm 1\/¬C.D.calm 2:=by
    rcases Classical.em (C.D.calm 2) with h1|h1
    .exact .inl (y.calm 1 h1)
    .exact .inr h1
   have ar:a.view no=a.D.now no:=mm (fs:=a.an) (D:=a.D) (c:=a.c) (aV:=a.aV) (hd:=a.hand) T;have U:∀q,bY a.D q->q≠a.c/\q≠a.aV:=λq p=>⟨λe=>o.raw.a1.2.1 (e▸p),λe=>o.raw.a1.2.2 (e▸p)⟩;have a0:gC X ah {a with D:=a.D.cC 1}:=rS (C:=a) (hd:=a.hand) (az:=a.D.cC 1) o.inv (hZ.refl _) S (λq _ h=>h) (o.inv.cC 1) (λ_=>rfl) λq p=>.inl p;have u:eI C {a with D:=a.D.cC 1} w ah 2:=by
    have:eI a {a with D:=a.D.cC 1} w1 ah 1:=⟨rfl,rfl,rfl,qc a.D (.inl rfl),Nat.le_succ _,λm Q=>(jO (.inl rfl) o.raw.dev.f4 Q).1,S,λq p=>.inl p⟩;exact y.trans this
   have a2:∀j,({a with D:=a.D.cC 1}:b5).view j=C.view j:=λj=>by rw[←H];exact rT (C:=a) o.inv (hZ.refl _) (λ_=>rfl) j
   have W:fx ah {a with D:=a.D.cC 1}:=⟨o.raw.v.ab L (λe=>(U _ (.inl rfl)).1 e.symm),bz.ab o.raw.f L (λe=>(U _ (.inl rfl)).2 e.symm),ap,o.raw.bG,o.raw.bI,o.raw.hd,o.raw.a1⟩;rcases aT with ⟨F,rfl⟩|⟨F,s,rfl,hs⟩
   .refine⟨⟨none,0,0⟩,3,rfl,λ_=>⟨{a with D:=a.D.cC 1},⟨W,a0⟩,u,a2,.inr ⟨rfl,?_⟩⟩,λh=>(by simp at h)⟩
    rcases aZ with h1|h1
    .have:=(jO (k:=1) (m:=0) (.inl rfl) o.raw.dev.f4 h1).2
     rw[F]at this;cases this
    .exact h1
   .have av:(a.D.now no).length=256:=o.raw.dev.oB R
    obtain⟨s1,s2,z⟩:=x3 W.f hi ⟨true,false,true,(no:Int),0,s,a.D.now no⟩;rw[A]at s1 s2 z;have be:=L.size;have aM:=y.ab.size;refine⟨s,_,rfl,λh=>(by simp at h),λ_=>⟨_,rfl,s1,rfl,?_⟩⟩;obtain⟨x,ax⟩:∃x,x=setCells ah ⟨C.aV,i*6,none⟩ 0 (Fr.c ⟨true,false,true,(no:Int),0,s,a.D.now no⟩):=⟨_,rfl⟩;rw[←ax]at s2 z;have hg:setCells ah ⟨C.aV,i*6,none⟩ 0 [true,false,true,no,(0:Int),s]=x:=ax.symm;rw[hg];have aB:ad (c4 a) ah x:=z.mono λq _ e=>.inr (.inl (by rw[A];exact e));have aC:a_ (λq=>w1.heap.size<=q) x s (a.D.now no):=a_.ab hs z λq p e=>by
     have:=aq C.aV (.inr (.inl A.symm));omega
    have a3:gC X x {a with an:=a.an.set i ⟨true,false,true,(no:Int),0,s,a.D.now no⟩,D:=a.D.cC 1}:=by
     refine x5 (w:=w1) (V:=c4 a) (az:=a.D.cC 1) hi (no:=no) o.inv (S.trans aB) (λq _ h=>h) (o.inv.cC 1) (λ_=>rfl) (λq=>Iff.rfl) ⟨true,false,true,(no:Int),0,s,a.D.now no⟩ rfl rfl ⟨rfl,R,?_,av,λ_=>rfl,λ_=>rfl,aF⟩ λk Y _ h1=>T _ (cF Y) h1;refine a_.aY aC λq _ p=>⟨λhf=>?_,λG=>?_⟩
     .have:c4 a q:=hf
      have:=aq q this;omega
     .have:=(o.inv.e6 q G).1;omega
    have a4:∀j,({a with an:=a.an.set i ⟨true,false,true,(no:Int),0,s,a.D.now no⟩,D:=a.D.cC 1}:b5).view j=C.view j:=λj=>by
     have:=x6 (hd:=a.hand) (az:=a.D.cC 1) hi (no:=no) o.inv.un (λ_=>rfl) ⟨true,false,true,(no:Int),0,s,a.D.now no⟩ rfl rfl (λh1=>by rw[aP]at h1;cases h1) (λk Y _ h1=>T _ (cF Y) h1) j;rw[show({a with an:=a.an.set i ⟨true,false,true,(no:Int),0,s,a.D.now no⟩,D:=a.D.cC 1}:b5)=b5.mk a.c a.aV (a.an.set i ⟨true,false,true,(no:Int),0,s,a.D.now no⟩) a.hand (a.D.cC 1) from rfl,this];by_cases e:j=no
     .rw[if_pos e,e,←H,ar]
     .rw[if_neg e,H]
    have a5:fx x {a with an:=a.an.set i ⟨true,false,true,(no:Int),0,s,a.D.now no⟩,D:=a.D.cC 1}:=by
     refine⟨?_,by show bz _ a.aV _ _;rw[A];exact s2,ap.ab z (λq p e=>(U q p).2 (by rw[A];exact e)),?_,?_,?_,o.raw.a1⟩
     .have:=W.v.ab z (λe=>o.raw.a1.1 (by rw[A];exact e))
      show Var _ _ [_,.slice _ (a.an.set i _).length (a.an.set i _).length,_] _;rw[df];exact this
     .show 8<=(a.an.set i _).length;rw[df];exact o.raw.bG
     .show(a.an.set i _).length<=64;rw[df];exact o.raw.bI
     .show a.hand<(a.an.set i _).length;rw[df];exact o.raw.hd
    obtain⟨E,Z⟩:∃E:b5,E={a with an:=a.an.set i ⟨true,false,true,(no:Int),0,s,a.D.now no⟩,D:=a.D.cC 1}:=⟨_,rfl⟩;have aa:ek X x E:=by rw[Z];exact⟨a5,a3⟩
    have a6:eI C E w x 2:=by
     rw[Z];exact⟨u.c,u.d,by show(a.an.set i _).length=_;rw[df];exact u.len,u.bg,u.aQ,u.calm,cu u.ab aB λq p h=>(u.c7 q h).resolve_right I,u.c7⟩
    refine aW ((kF (B:=λq=>x.heap.size<=q) aC.1 (by rw[av];omega) (λq p=>p)).use ?_);rintro _ bf ⟨t,rfl,ht,aD,_⟩;have bh:=z.size;refine⟨t,rfl,E,aa.ext aD,?_,?_,.inl ⟨t,rfl,?_⟩⟩
    .exact(a6.trans (eI.ext E aD)).mono I
    .intro j;rw[Z];exact a4 j
    .rw[←H,ar]
     refine a_.aY ht λq _ p=>⟨I,λhf=>?_,λG=>?_⟩
     .have:=aa.raw.lt hf;omega
     .have:=(aa.inv.e6 q G).1;omega
  .refine⟨_,_,rfl,λ_=>⟨a,o,y.mono I,H,.inr ⟨rfl,λhc=>aS (gg hc I)⟩⟩,λh=>(by simp at h)⟩
end
section
variable {w w':J}{C:b5}{X:Nat->Prop}
def BF(X:Nat->Prop)(C:b5)(no:Nat)(l:cX)(w:J)(v:aa)(w':J):Prop:=
 ∃aF:b5,ek X w' aF/\eI C aF w w' 1/\
  ((v=.int .i64 0/\∀j,aF.view j=if j=no then l else C.view j)\/(v=.int .i64 3/\¬C.D.calm 1/\∀j,aF.view j=C.view j))
theorem x7{i:Nat}{a:Fr}(h:fx w C)(hc:ad (λq=>q=C.aV) w w')(b:bz w' C.aV (bV Fr.c (C.an.set i a)).toArray 288):fx w' {C with an:=C.an.set i a}:=by
 refine⟨?_,b,h.dev.ab hc (λq d e=>h.a1.2.2 (e▸d)),?_,?_,?_,h.a1⟩
 .have:=h.v.ab hc h.a1.1
  show Var _ _ [_,.slice _ (C.an.set i _).length (C.an.set i _).length,_] _;rw[df];exact this
 .show 8<=(C.an.set i _).length;rw[df];exact h.bG
 .show(C.an.set i _).length<=64;rw[df];exact h.bI
 .show C.hand<(C.an.set i _).length;rw[df];exact h.hd
theorem set_set{fs:O Fr}{i:Nat}(f g:Fr):(fs.set i f).set i g=fs.set i g:=List.set_set ..
theorem BG (h:ek X w C) (bt:C.D.aQ≤999999999) {no:Nat} (aD:no<C.D.n) (aE:2≤no) (aF:¬C.D.bL no=true) {b:Y} {l:cX} (ag:Src 1 w b (aJ l)) (ai:l.length=256) (am:∀q,aB b q→q<w.heap.size∧¬c4 C q):
   aR aj 162 #[.pointer (some C.c),no,b] w (BF X C no l w):=by
 have O:=h.raw
 have aG:=len8 ag
 refine okF (af.uC (some C.c) (no:Int) b) aA.uC func162 ?_
 (delta af.uC aO ak k0 dg st ba;dsimp only)
 refine(By O _).use ?_
 rintro _ _ ⟨rfl,rfl⟩
 have aH:decide (0≤(no:Int)∧(no:Int)<C.D.n)=true:=dP ⟨by omega,by omega⟩
 refine⟨_,rfl,fun h1=>?_,fun _=>(vJ O _).use ?_⟩
 · rw[aH,aG,ai] at h1
   simp at h1
 rintro _ _ ⟨aI,rfl⟩
 have fin:∀ (w1:J) (a:b5) (i:Nat) (hi:i<a.an.length) (f1:Fr),ek X w1 a→eI C a w w1 1→a.aV=C.aV→(∀j,a.view j=C.view j)→f1.pins=0→∀ah:J,bz ah a.aV (bV Fr.c (a.an.set i f1)).toArray 288→ad (fun q=>q=a.aV) w1 ah→f1.full=true→f1.no=(no:Int)→
     ((a.an[i]).full=true→(a.an[i]).no=(no:Int))→(∀ (k:Nat) (E:k<a.an.length),k≠i→(a.an[k]).full=true→(a.an[k]).no≠(no:Int))→
     Calls aj 135 #[b] ah fun aK P=>∃ao:Y,aK= .returned ao∧∃G:ae,(some ⟨C.aV,i*6,none⟩:aq ae)=some G∧(∃u:aa,P.cell? (G.add 5)=some u)∧P.frozen? (G.add 5)=false∧
       al (P.setCell (G.add 5) ao) fun Q=>∃H:ae,(some ⟨C.aV,i*6,none⟩:aq ae)=some H∧(∃u:aa,Q.cell? (H.add 1)=some u)∧Q.frozen? (H.add 1)=false∧
       al (Q.setCell (H.add 1) true) fun R=>∃I:ae,(some ⟨C.aV,i*6,none⟩:aq ae)=some I∧(∃u:aa,R.cell? (I.add 2)=some u)∧R.frozen? (I.add 2)=false∧
       al (R.setCell (I.add 2) true) fun aL=>BF X C no l w (0:Int) aL:=by
   intro w1 a i hi f1 y o x aM S ah aN K L ap hold ar
   have bu:=o.ab.size
   have bv:=K.size
   have bw:a.aV<w1.heap.size:=y.raw.lt (.inr (.inl rfl))
   have aP:Src 1 ah b (aJ l):=by
     refine(ag.ab o.ab fun q m hf=>(am q m).2 hf).ab K fun q m e=>(am q m).2 (.inr (.inl (by rw[←x];exact e)))
   refine(kF (B:=fun q=>ah.heap.size≤q) aP (by omega) (fun q m=>m)).use ?_
   rintro _ aS ⟨s,rfl,hs,av,_⟩
   have aT:=bz.ext aN av
   have T:i<(a.an.set i f1).length:=by rw[df];exact hi
   have U:(a.an.set i f1)[i]=f1:=by simp
   obtain⟨a1,a2,a3,a4⟩:=nf aT T (j:=5) (by decide) (v:=s) {f1 with b:=s} (by rw[U];rfl)
   rw[set_set] at a3
   have aU:i<(a.an.set i {f1 with b:=s}).length:=by rw[df];exact hi
   have aX:(a.an.set i {f1 with b:=s})[i]={f1 with b:=s}:=by simp
   obtain⟨b_,bO,z,A⟩:=nf a3 aU (j:=1) (by decide) (v:=true) {f1 with b:=s,fW:=true} (by rw[aX];rfl)
   rw[set_set] at z
   have aZ:i<(a.an.set i {f1 with b:=s,fW:=true}).length:=by rw[df];exact hi
   have a0:(a.an.set i {f1 with b:=s,fW:=true})[i]={f1 with b:=s,fW:=true}:=by simp
   obtain⟨d1,d2,d3,d4⟩:=nf z aZ (j:=2) (by decide) (v:=true) {f1 with b:=s,fW:=true,used:=true,l:=l} (by rw[a0];rfl)
   rw[set_set] at d3
   rw[x] at a1 a2 a3 a4 b_ bO z A d1 d2 d3 d4 K
   refine⟨s,rfl,_,rfl,by rw[aw];exact a1,by rw[aw];exact a2,?_⟩
   rw[aw]
   refine aW ⟨_,rfl,by rw[aw];exact b_,by rw[aw];exact bO,?_⟩
   rw[aw]
   refine aW ⟨_,rfl,by rw[aw];exact d1,by rw[aw];exact d2,?_⟩
   rw[aw]
   have M:=(K.trans (ad.cJ av)).trans (a4.trans (A.trans d4))
   obtain⟨t,r⟩:∃t:Fr,t={f1 with b:=s,fW:=true,used:=true,l:=l}:=⟨_,rfl⟩
   obtain⟨F,W⟩:∃F,F=(((aS.setCell ⟨C.aV,i*6+5,none⟩ s).setCell ⟨C.aV,i*6+1,none⟩ true).setCell ⟨C.aV,i*6+2,none⟩ true):=⟨_,rfl⟩
   rw[←W,←r] at d3
   rw[←W] at M⊢
   have a5:a_ (fun q=>ah.heap.size≤q) F s l:=by
     have h1:=a_.ab hs a4 fun q m e=>by rw[←x] at e;omega
     have h2:=a_.ab h1 A fun q m e=>by rw[←x] at e;omega
     have a6:=a_.ab h2 d4 fun q m e=>by rw[←x] at e;omega
     rw[W];exact a6
   have a7:fx F {a with an:=a.an.set i t}:=x7 y.raw (by rw[x];exact M) (by rw[x];exact d3)
   have a8:gC X F {a with an:=a.an.set i t}:=by
     refine x5 (w:=w1) (V:=fun q=>q=C.aV) (az:=a.D) hi (no:=no) y.inv M (fun q _ e=> .inr (.inl (by rw[x];exact e))) y.inv.rP (fun _=>rfl) (fun q=>Iff.rfl) t (by rw[r];exact L) (by rw[r];exact S) ⟨by rw[r];exact ap,by show no<a.D.n;rw[o.n];exact aD,?_,by rw[r];exact ai,fun hd=>(by rw[r] at hd;cases hd),fun hs=>absurd (by rw[←o.bL];exact hs) aF,aE⟩ ar
     rw[r]
     refine a_.aY a5 fun q _ m=>⟨fun hf=>?_,fun a9=>?_⟩
     · have:c4 a q:=hf
       have:=y.raw.lt this;omega
     · have:=(y.inv.e6 q a9).1;omega
   refine aW ⟨{a with an:=a.an.set i t},⟨a7,a8⟩,⟨o.c,o.d,by show(a.an.set i _).length=_;rw[df];exact o.len,o.bg,o.aQ,o.calm,cu o.ab M fun q m e=> .inr (.inl e),o.c7⟩, .inl ⟨rfl,fun j=>?_⟩⟩
   have:=x6 (C:=a) (hd:=a.hand) (az:=a.D) hi (no:=no) y.inv.un (fun _=>rfl) t (by rw[r];exact L) (by rw[r];exact ap) hold ar j
   rw[show({a with an:=a.an.set i t}:b5)=b5.mk a.c a.aV (a.an.set i t) a.hand a.D from rfl,this,aM]
   rw[r]
 rcases aI with ⟨i,hi,rfl,hf,Z⟩|⟨rfl,bb⟩
 · refine⟨_,rfl,cq (fun p w'=>p=some ⟨C.aV,i*6,none⟩∧w=w') (fun q m=>⟨fun h=>(by cases h),fun _=>m _ _ ⟨rfl,rfl⟩⟩) ?_⟩
   rintro _ _ ⟨rfl,rfl⟩
   have e:C.an.set i C.an[i]=C.an:=List.set_getElem_self _
   exact fin w C i hi C.an[i] h ((eI.refl C w).mono (cL _)) rfl (fun _=>rfl) (h.inv.pins _ (cF hi)) w (by rw[e];exact O.f) (.refl _ _) hf Z (fun _=>Z) fun k E bc h1 h2=>bc (h.inv.un k i E hi h1 hf (by rw[h2,Z]))
 · refine⟨_,rfl,cq (fun p ah=>∃ (w1:J) (a:b5) (i:Nat) (hi:i<a.an.length) (f1:Fr),p=some ⟨C.aV,i*6,none⟩∧ek X w1 a∧eI C a w w1 1∧a.aV=C.aV∧(∀j,a.view j=C.view j)∧f1.pins=0∧bz ah a.aV (bV Fr.c (a.an.set i f1)).toArray 288∧ad (fun q=>q=a.aV) w1 ah∧f1.full=true∧f1.no=(no:Int)∧
     ((a.an[i]).full=true→(a.an[i]).no=(no:Int))∧(∀ (k:Nat) (E:k<a.an.length),k≠i→(a.an[k]).full=true→(a.an[k]).no≠(no:Int))) (fun q m=>⟨fun _=>(BD h (by omega)).use ?_,fun h=>(by cases h)⟩) ?_⟩
   · rintro _ w1 ⟨a,ac,ax,N,aC,bd,be⟩
     have bf:∀f∈a.an,f.full=true→f.no≠(no:Int):=fun f hf L bh=>by
       obtain⟨g,hg,h1,h2⟩:=bd f hf L
       exact bb g hg h1 (by rw[h2,bh])
     rcases be with ⟨i,hi,rfl,bi,S⟩|⟨rfl,bj⟩
     · obtain⟨a1,a2,a3,a4⟩:=nf ac.raw.f hi (j:=0) (by decide) (v:=true) {a.an[i] with full:=true} rfl
       have T:i<(a.an.set i {a.an[i] with full:=true}).length:=by rw[df];exact hi
       have U:(a.an.set i {a.an[i] with full:=true})[i]={a.an[i] with full:=true}:=by simp
       obtain⟨b_,bO,z,A⟩:=nf a3 T (j:=3) (by decide) (v:=no) {a.an[i] with full:=true,no:=(no:Int)} (by rw[U];rfl)
       rw[set_set] at z
       rw[N] at a1 a2 b_ bO z a4 A
       refine⟨_,_,rfl,fun h=>(by simp at h),fun _=>⟨_,rfl,a1,a2,aW ⟨_,rfl,by rw[aw];exact b_,by rw[aw];exact bO,aW ?_⟩⟩⟩
       rw[aw]
       exact m _ _ ⟨w1,a,i,hi,{a.an[i] with full:=true,no:=(no:Int)},rfl,ac,ax,N,aC,S,by rw[N];exact z,by rw[N];exact a4.trans A,rfl,rfl,fun h1=>(by rw[bi] at h1;cases h1),fun k E _ h1=>bf _ (cF E) h1⟩
     · exact⟨_,_,rfl,fun _=>⟨a,ac,ax, .inr ⟨rfl,bj,aC⟩⟩,fun h=>(by simp at h)⟩
   · rintro p ah ⟨w1,a,i,hi,f1,rfl,au,ay,bk,bl,bm,bn,bo,bp,bq,br,bs⟩
     exact fin w1 a i hi f1 au ay bk bl bm ah bn bo bp bq br bs
theorem BH(h:ek X w C)(no:Nat):aR aj 146 #[.pointer (some C.c),no] w (λv w'=>(∃b:ai,v=b)/\∃aF:b5,ek X w' aF/\eI C aF w w' 0/\(∀j,j≠no->aF.view j=C.view j)/\aF.D=C.D/\∀f∈aF.an,f.full=true->f∈C.an/\f.no≠(no:Int)):=by
 have d:=h.raw;refine okF (af.uz (some C.c) (no:Int)) aA.uz func146 ?_;(delta af.uz k0 ak r1;dsimp only);refine(vJ d _).use ?_;rintro _ _ ⟨u,rfl⟩;rcases u with ⟨i,hi,rfl,hf,p⟩|⟨rfl,x⟩
 .have f4:=kf d.f hi (j:=4) (by decide)
  have y:=h.inv.pins _ (cF hi);refine⟨_,rfl,cq (λb w'=>b=false/\w=w') (λq g=>⟨λh=>(by cases h),λ_=>⟨_,rfl,(C.an[i]).pins,by rw[aw];exact f4,g _ _ ⟨by rw[y];rfl,rfl⟩⟩⟩) ?_⟩;rintro _ _ ⟨rfl,rfl⟩;obtain⟨s1,s2,l⟩:=x3 d.f hi dC;refine⟨λh=>(by cases h),λ_=>⟨_,rfl,s1,rfl,aW ⟨⟨true,rfl⟩,{C with an:=C.an.set i dC},⟨x7 d l s2,?_⟩,?_,λj z=>?_,rfl,λf A au=>?_⟩⟩⟩
  .exact x4 (V:=λq=>q=C.aV) (az:=C.D) hi h.inv l (λq _ e=>.inr (.inl e)) h.inv.rP (λ_ _=>rfl) (λq h=>.inl h) dC rfl rfl
  .exact⟨rfl,rfl,by show(C.an.set i _).length=_;rw[df],rfl,bl _,λ_ h=>h,l.mono λq _ e=>.inr (.inl e),λq h=>.inl h⟩
  .refine BE (fs:=C.an) (D:=C.D) (c:=C.c) (aV:=C.aV) (hd:=C.hand) h.inv.un (λa b B E h1 h2 m=>?_) (λk n au ay=>?_) λF=>⟨λf hf au ay=>?_,rfl⟩
   .have G:a<C.an.length:=by simpa using B
    have H:b<C.an.length:=by simpa using E
    by_cases r:i=a
    .subst r
     simp[dC]at h1
    by_cases s:i=b
    .subst s
     simp[dC]at h2
    simp only[fH r]at h1 m;simp only[fH s]at h2 m;exact h.inv.un a b G H h1 h2 m
   .have o:i≠k:=λe=>by
     subst e;rw[p]at ay;exact z I
    exact⟨k,by rw[df];exact n,by simp only[fH o];exact au,by simp only[fH o];exact ay,by simp only[fH o]⟩
   .rcases ly hf with hf|rfl
    .exact F f hf au ay
    .cases au
  .obtain⟨k,n,rfl⟩:=fi A
   have t:k<C.an.length:=by simpa using n
   by_cases e:i=k
   .subst e
    simp[dC]at au
   .simp only[fH e]at au⊢
    exact⟨cF t,λay=>e (h.inv.un i k hi t hf au (p.trans ay.symm))⟩
 .refine⟨_,rfl,cq (λb w'=>b=true/\w=w') (λq g=>⟨λ_=>g _ _ ⟨rfl,rfl⟩,λh=>(by cases h)⟩) ?_⟩
  rintro _ _ ⟨rfl,rfl⟩;exact⟨λ_=>⟨⟨false,rfl⟩,C,h,eI.refl C w,λ_ _=>rfl,rfl,λf hf au=>⟨hf,x f hf au⟩⟩,λh=>(by cases h)⟩
end
theorem Ga(n:Nat):g8 aj 288 n=(bV Fr.c (List.replicate n dC)).toArray:=by
 have a:((Tryz.prog.info? 288).bind (·.zero)).map (·.cells)=some dC.c.toArray:=by kernel_rfl
 have hc:Tryz.prog.cellsOf 288=6:=by kernel_rfl
 unfold g8;rw[hc]
 cases hi:(Tryz.prog.info? 288).bind (·.zero) with
 |none=>rw[hi]at a;cases a
 |some z=>
  rw[hi]at a;simp only[lq,Option.some.injEq]at a;simp only[qz,a];apply Array.ext
  .simp[gM (c:=Fr.c) (sz:=6) (List.replicate n dC) (λx _=>rfl)]
  .intro i h1 h2
   have d:n*6≠0:=by
    intro h;simp[h]at h1
   have g:i<n*6:=by simpa using h1
   simp only[d,if_false,Array.getElem_map,Array.getElem_range,List.getElem_toArray];have b:dC.c.toArray.size=6:=rfl;have aK:i%6<6:=g7 _ I;have e:i/6<(List.replicate n dC).length:=by rw[mM];omega
   have hg:=rL (c:=Fr.c) (sz:=6) (l:=List.replicate n dC) (λx _=>rfl) (i:=i/6) (j:=i%6) e aK;rw[show i/6*6+i%6=i from I]at hg;have f:i<(bV Fr.c (List.replicate n dC)).length:=by simpa using h2
   rw[dE f]at hg;have he:((List.replicate n dC)[i/6]).c=dC.c:=by simp
   rw[he,dE (show i%6<dC.c.length from aK)]at hg;have hg:=Option.some.inj hg;rw[hg,b,getElem!_pos dC.c.toArray (i%6) (by rw[b];exact aK)];simp
def iO(c aV k:Nat)(D:a6):b5:=⟨c,aV,List.replicate k dC,0,D⟩
theorem x8(c aV k:Nat)(D:a6)(j:Nat):(iO c aV k D).view j=D.now j:=by
 refine mm λf hf h1=>?_;rw[sr hf]at h1
 cases h1
theorem pE{w:J}{D:a6}(h:cx w D){k:Nat}(h1:8<=k)(h2:k<=64)(m:∀j,D.bL j=true->D.dB j=D.dH j):aR aj 139 #[.pointer (some D.d),k] w (λv w'=>∃c aV:Nat,v=.tuple #[.pointer (some c),(0:Int)]/\ek (λ_=>False) w' (iO c aV k D)/\Ext w w'/\w.heap.size<=c/\w.heap.size<=aV):=by
 refine okF (af.pE (some D.d) (k:Int)) aA.pE func139 ?_;delta af.pE ak ky U;refine⟨λh=>?_,λ_=>⟨⟨I,I,I,I⟩,?_⟩⟩
 .simp only[sA,km,iT,cS]at h;omega
 rw[Ga,dd];have g:=bz.new w (bV Fr.c (List.replicate k dC)).toArray 288;have a:=eS w (.cells (bV Fr.c (List.replicate k dC)).toArray 288);have n:=rJ w (.cells (bV Fr.c (List.replicate k dC)).toArray 288);obtain⟨w1,o⟩:∃w1,w1=w.alloc (.cells (bV Fr.c (List.replicate k dC)).toArray 288):=⟨_,rfl⟩;rw[←o]at g a n⊢;refine aW (bh (vs:=[.pointer (some D.d),.slice (some w.heap.size) k k,(0:Int)]) rfl λah p b s=>⟨w1.heap.size,w.heap.size,rfl,⟨⟨?_,bz.ext g b,h.ext (a.trans b),?_,?_,?_,?_,?_,?_⟩,⟨λf hf=>?_,λf hf l=>?_,λi j hi t h1=>?_,λq r=>r.elim,m⟩⟩,a.trans b,I,bl _⟩)
 .show Var _ _ [_,.slice _ (List.replicate k dC).length (List.replicate k dC).length,_] _
  rw[mM];exact p
 .show 8<=(List.replicate k dC).length;simpa using h1
 .show(List.replicate k dC).length<=64;simpa using h2
 .show 0<(List.replicate k dC).length;simp;omega
 .show w1.heap.size≠w.heap.size;omega
 .intro e
  have:=h.lt e;have:w1.heap.size<w.heap.size:=this;omega
 .intro e
  have:=h.lt e;have:w.heap.size<w.heap.size:=this;omega
 .rw[sr hf];rfl
 .rw[sr hf]at l;cases l
 .simp[iO,dC]at h1
def k9(a b_ bO b c d e f:ai):Nat:=
 a.toNat+2*b_.toNat+4*bO.toNat+8*b.toNat+16*c.toNat+32*d.toNat+64*e.toNat+128*f.toNat
def byteOf(f:Nat->ai)(i:Nat):Nat:=k9 (f (8*i)) (f (8*i+1)) (f (8*i+2)) (f (8*i+3)) (f (8*i+4)) (f (8*i+5)) (f (8*i+6)) (f (8*i+7))
theorem Gb:∀a b_ bO b c d e f:ai,k9 a b_ bO b c d e f<256:=by decide+kernel
theorem Gc:∀a b_ bO b c d e f:ai,
 (k9 a b_ bO b c d e f).testBit 0=a/\(k9 a b_ bO b c d e f).testBit 1=b_/\(k9 a b_ bO b c d e f).testBit 2=bO/\(k9 a b_ bO b c d e f).testBit 3=b/\
 (k9 a b_ bO b c d e f).testBit 4=c/\(k9 a b_ bO b c d e f).testBit 5=d/\(k9 a b_ bO b c d e f).testBit 6=e/\(k9 a b_ bO b c d e f).testBit 7=f:=by decide+kernel
theorem kg(f:Nat->ai)(i:Nat):byteOf f i<256:=Gb _ _ _ _ _ _ _ _
theorem nh(f:Nat->ai)(i j:Nat)(a:j<8):(byteOf f i).testBit j=f (8*i+j):=by
 obtain⟨h0,h1,h2,b,c,d,e,g⟩:=Gc (f (8*i)) (f (8*i+1)) (f (8*i+2)) (f (8*i+3)) (f (8*i+4)) (f (8*i+5)) (f (8*i+6)) (f (8*i+7));have:j=0\/j=1\/j=2\/j=3\/j=4\/j=5\/j=6\/j=7:=by omega
 unfold byteOf;rcases this with rfl|rfl|rfl|rfl|rfl|rfl|rfl|rfl<;>assumption
theorem Gd{x y:Nat}(hx:x<256)(b:y<256)(h:∀j,j<8->x.testBit j=y.testBit j):x=y:=by
 apply Nat.eq_of_testBit_eq;intro j;by_cases a:j<8
 .exact h j a
 .have p:256<=2^j:=by
   have:=so (n:=2) I (by omega:8<=j);simpa using this
  rw[Nat.testBit_lt_two_pow I,Nat.testBit_lt_two_pow I]
theorem vK(f:Nat->ai)(i x:Nat)(hx:x<256)(h:∀j,j<8->x.testBit j=f (8*i+j)):x=byteOf f i:=
 Gd hx (kg f i) λj a=>by rw[h j a,nh f i j a]
def dn(f:Nat->ai)(k:Nat)(b:ai):Nat->ai:=λi=>if i=k then b else f i
theorem Ge:∀x:Nat,x<256->∀j:Nat,j<8->(j3 .u8 (Int.fdiv (x:Int) (2^(min (Int.toNat (j:Int)) 8))) 1==1)=x.testBit j:=by decide+kernel
theorem Gf:∀x:Nat,x<256->∀j:Nat,j<8->mP .u8 (x:Int) (IntKind.wrap .u8 (1*2^(min (Int.toNat (j:Int)) 8)))=((x|||2^j:Nat):Int):=by decide+kernel
theorem Gg:∀x:Nat,x<256->∀j:Nat,j<8->zr .u8 (x:Int) (IntKind.wrap .u8 (1*2^(min (Int.toNat (j:Int)) 8)))=((x&&&(255-2^j):Nat):Int):=by decide+kernel
theorem x9:∀x:Nat,x<256->∀y:Nat,y<256->x|||y<256:=λ_ hx _ a=>Nat.or_lt_two_pow (n:=8) hx a
theorem Gh:∀j:Nat,j<8->∀k:Nat,k<8->(255-2^j).testBit k=(k !=j):=by decide+kernel
theorem Gi(x y:Nat)(hx:x<256)(a:y<256):mP .u8 (x:Int) (y:Int)=((x|||y:Nat):Int):=by
 have h:=x9 x hx y a;have e:(BitVec.ofInt 8 (x:Int)|||BitVec.ofInt 8 (y:Int)).toNat=x|||y:=by
  simp only[BitVec.ofInt_natCast,BitVec.toNat_or,BitVec.toNat_ofNat];rw[jI (by simpa using hx),jI (by simpa using a)]
 show IntKind.wrap .u8 (((BitVec.ofInt 8 (x:Int)|||BitVec.ofInt 8 (y:Int)).toNat:Nat):Int)=_;rw[e];have:((x|||y:Nat):Int)%256=((x|||y:Nat):Int):=Int.emod_eq_of_lt I I;simp[IntKind.wrap,IntKind.signed,IntKind.bits,this]
theorem BI(k:Nat):8*(k/8)+k%8=k:=Nat.div_add_mod k 8
theorem Gj(f:Nat->ai)(k:Nat):byteOf f (k/8)|||2^(k%8)=byteOf (dn f k true) (k/8):=by
 refine vK _ _ _ (x9 _ (kg _ _) _ ?_) λj b=>?_
 .have:k%8<8:=g7 _ I
  have:=Nat.pow_lt_pow_right (a:=2) I this;simpa using this
 .rw[mD,nh _ _ _ b,qx,dn]
  by_cases h:8*(k/8)+j=k
  .rw[if_pos h]
   have:k%8=j:=by omega
   simp[this]
  .rw[if_neg h]
   have:¬k%8=j:=by omega
   simp[this]
theorem Gk(f:Nat->ai)(k:Nat):byteOf f (k/8)&&&(255-2^(k%8))=byteOf (dn f k false) (k/8):=by
 refine vK _ _ _ (Nat.lt_of_le_of_lt Nat.and_le_left (kg _ _)) λj a=>?_;rw[Nat.testBit_and,nh _ _ _ a,Gh _ (g7 _ I) _ a,dn];by_cases h:8*(k/8)+j=k
 .rw[if_pos h]
  have:j=k%8:=by omega
  simp[this]
 .rw[if_neg h]
  have:¬j=k%8:=by omega
  simp[this]
theorem Gl(f:Nat->ai)(k i:Nat)(b:ai)(h:i≠k/8):byteOf (dn f k b) i=byteOf f i:=by
 have e:∀j,j<8->dn f k b (8*i+j)=f (8*i+j):=λj a=>by
  unfold dn;rw[if_neg];omega
 unfold byteOf;rw[e 1 I,e 2 I,e 3 I,e 4 I,e 5 I,e 6 I,e 7 I];have:=e 0 I;simp only[kO]at this;rw[this]
def eZ(f:Nat->ai)(m:Nat):O aa:=(List.range m).map λi=>.int .u8 (byteOf f i)
theorem x_(f:Nat->ai)(m:Nat):(eZ f m).length=m:=by simp[eZ]
theorem oD(f:Nat->ai){m i:Nat}(h:i<m):(eZ f m)[i]? =some (.int .u8 (byteOf f i)):=by simp[eZ,h]
theorem BJ(f:Nat->ai)(k m:Nat)(b:ai):(eZ f m).set (k/8) (.int .u8 (byteOf (dn f k b) (k/8)))=eZ (dn f k b) m:=by
 apply List.ext_getElem?;intro i;rw[List.getElem?_set];by_cases hi:i<m
 .rw[oD (dn f k b) hi]
  by_cases h:k/8=i
  .subst h
   simp[x_,hi]
  .rw[if_neg h,oD _ hi,Gl f k i b I]
 .have h1:(eZ (dn f k b) m)[i]? =none:=by simp[eZ];omega
  have h2:(eZ f m)[i]? =none:=by simp[eZ];omega
  rw[h1,h2];split
  .simp[x_];omega
  .rfl
theorem BK(k:Nat):Int.tdiv (k:Int) 8=((k/8:Nat):Int):=by
 rw[Int.tdiv_eq_ediv_of_nonneg I];omega
theorem rV(k:Nat):Int.tmod (k:Int) 8=((k%8:Nat):Int):=by
 rw[oX I];omega
theorem ya{k:Nat}(h:k<=9223372036854775807):IntKind.wrap .i64 (Int.tdiv (k:Int) 8)=((k/8:Nat):Int):=by
 rw[BK,bA I I]
theorem BL{s:Y}{b:Nat}(h:s.a=some ⟨b,0,none⟩):aB s b:=⟨_,h,rfl⟩
theorem oE{w:J}{s:Y}{f:Nat->ai}{m k:Nat}(h:bd 1 5 w s (eZ f m))(a:k/8<m)(d:k<=9223372036854775807):
 aR aj 214 #[s,k] w (λv w'=>v=.bool (f k)/\w=w'):=by
 refine okF (af.uO s k) aA.uO func214 ?_;(delta af.uO aL av b3;dsimp only);obtain⟨b,c,e,g,i,hi,j,hc,_⟩:=h.cell (oD f a);refine⟨by decide,_,e,?_⟩;rw[ya d,rV];refine⟨⟨I,I⟩,(byteOf f (k/8):Int),?_,by decide,I,?_,rfl⟩
 .rw[fG,dd,aw,cy];exact hc
 .rw[Ge _ (kg _ _) _ (g7 _ I),nh _ _ _ (g7 _ I),BI]
theorem BM{w:J}{s:Y}{f:Nat->ai}{m k:Nat}(h:bd 1 5 w s (eZ f m))(e:k/8<m)(g:k<=9223372036854775807):
 aR aj 130 #[s,k] w (λv w'=>v=.tuple #[]/\bd 1 5 w' s (eZ (dn f k true) m)/\ad (aB s) w w'):=by
 refine okF (af.uq s k) aA.uq func130 ?_;(delta af.uq al aL av b3 st;dsimp only);obtain⟨b,c,d,i,l,hi,n,hc,_⟩:=h.cell (oD f e);have a:(Addr.mk b 0 none).add (Int.toNat ((k/8:Nat):Int)*1)=⟨b,k/8,none⟩:=by rw[fG,dd,aw,cy]
 rw[ya g,rV];refine⟨by decide,_,d,⟨I,I⟩,by simp,(byteOf f (k/8):Int),by rw[a];exact hc,by decide,I,_,d,⟨I,I⟩,⟨_,by rw[a];exact hc⟩,by rw[a];exact i.drew.frozen _ rfl,rfl,?_,?_⟩
 .rw[a,Gf _ (kg _ _) _ (g7 _ I),Gj,←BJ]
  have j:bd 1 5 w.drew s (eZ f m):=h.ab (W:=λ_=>False) (ad.drew (.refl _ _)) (λ_ _ h=>h);exact j.set d _
 .rw[a]
  exact ad.set (ad.drew (.refl _ _)) (λ_=>BL d) _
theorem Gm{w:J}{s:Y}{f:Nat->ai}{m k:Nat}(h:bd 1 5 w s (eZ f m))(e:k/8<m)(g:k<=9223372036854775807):
 aR aj 219 #[s,k] w (λv w'=>v=.tuple #[]/\bd 1 5 w' s (eZ (dn f k false) m)/\ad (aB s) w w'):=by
 refine okF (af.uP s k) aA.uP func219 ?_;(delta af.uP al aL av b3 st;dsimp only);obtain⟨b,c,d,i,l,hi,n,hc,_⟩:=h.cell (oD f e);have a:(Addr.mk b 0 none).add (Int.toNat ((k/8:Nat):Int)*1)=⟨b,k/8,none⟩:=by rw[fG,dd,aw,cy]
 rw[ya g,rV];refine⟨by decide,_,d,⟨I,I⟩,by simp,(byteOf f (k/8):Int),by rw[a];exact hc,by decide,I,_,d,⟨I,I⟩,⟨_,by rw[a];exact hc⟩,by rw[a];exact i.drew.frozen _ rfl,rfl,?_,?_⟩
 .rw[a,Gg _ (kg _ _) _ (g7 _ I),Gk,←BJ]
  have j:bd 1 5 w.drew s (eZ f m):=h.ab (W:=λ_=>False) (ad.drew (.refl _ _)) (λ_ _ h=>h);exact j.set d _
 .rw[a]
  exact ad.set (ad.drew (.refl _ _)) (λ_=>BL d) _
structure eX(w:J)(b n:Nat)(f g:Nat->ai)(s1 s2:Y):Prop where
 bS:bz w b #[n,s1,s2] 218
 now:bd 1 5 w s1 (eZ f ((n+7)/8))
 sure:bd 1 5 w s2 (eZ g ((n+7)/8))
 d1:∀k,aB s1 k->k≠b/\¬aB s2 k
 d2:∀k,aB s2 k->k≠b
 bW:1<=n
 bC:n<=1600
 pf:∀i,n<=i->f i=false
 cD:∀i,n<=i->g i=false
def fy(b:Nat)(s1 s2:Y)(k:Nat):Prop:=k=b\/aB s1 k\/aB s2 k
section
variable {w w':J}{b n:Nat}{f g:Nat->ai}{s1 s2:Y}
theorem eX.ab{W:Nat->Prop}(h:eX w b n f g s1 s2)(hc:ad W w w')(a:∀k,fy b s1 s2 k->¬W k):eX w' b n f g s1 s2:=
 ⟨h.bS.ab hc (a b (.inl rfl)),h.now.ab hc λk c=>a k (.inr (.inl c)),h.sure.ab hc λk c=>a k (.inr (.inr c)),h.d1,h.d2,h.bW,h.bC,h.pf,h.cD⟩
theorem eX.ext(h:eX w b n f g s1 s2)(hc:Ext w w'):eX w' b n f g s1 s2:=h.ab hc λ_ _ h=>h
theorem eX.lt(h:eX w b n f g s1 s2):∀k,fy b s1 s2 k->k<w.heap.size:=by
 rintro k (rfl|a|a)
 .exact h.bS.lt
 .exact h.now.lt k a
 .exact h.sure.lt k a
theorem eX.bX(h:eX w b n f g s1 s2):w.cell? b=some (.int .i64 n):=by rw[h.bS.cell];rfl
theorem eX.aC(h:eX w b n f g s1 s2):w.cell? ((Addr.mk b 0 none).add 1)=some (.slice s1.a s1.len s1.cap):=by rw[aw,h.bS.cell];rfl
theorem eX.aU(h:eX w b n f g s1 s2):w.cell? ((Addr.mk b 0 none).add 2)=some (.slice s2.a s2.len s2.cap):=by rw[aw,h.bS.cell];rfl
theorem Gn(h:eX w b n f g s1 s2){k:Nat}(a:k<n):
 aR aj 217 #[.pointer (some b),k] w (λv w'=>v=.bool (f k||g k)/\w=w'):=by
 have c:=h.bC;refine af.EK _ k w _ ?_;(delta af.rB ag aO ak;dsimp only);refine⟨_,rfl,s1,h.aC,(oE h.now (k:=k) I I).use ?_⟩;rintro _ _ ⟨rfl,rfl⟩;refine⟨_,rfl,⟨λhf=>⟨by rw[hf];rfl,rfl⟩,λhf=>⟨_,rfl,s2,h.aU,(oE h.sure (k:=k) I I).use ?_⟩⟩⟩;rintro _ _ ⟨rfl,rfl⟩;exact⟨_,rfl,by rw[hf];rfl,rfl⟩
theorem yb(h:eX w b n f g s1 s2)(k:Int):
 aR aj 218 #[.pointer (some b),k] w (λv w'=>v=.bool (decide (0<=k)&&decide (k<n))/\w=w'):=by
 refine af.EL _ k w _ ?_;(delta af.rC ak r1;dsimp only);refine⟨?_⟩;refine⟨λh1=>⟨_,rfl,n,h.bX,?_,rfl⟩,λh1=>⟨?_,rfl⟩⟩
 .have:0<=k:=by simpa using h1
  simp[this]
 .have:¬0<=k:=by simpa using h1
  simp[this]
def firstFree(t:Nat->ai)(n:Nat):aq Nat:=(List.range n).find? λi=> !t i
theorem Gp{t:Nat->ai}{n k:Nat}(e:k<n)(ht:t k=false)(c:∀i,i<k->t i=true):firstFree t n=some k:=by
 unfold firstFree;rw[List.find?_eq_some_iff_append];refine⟨by simp[ht],List.range k,(List.range' (k+1) (n-(k+1))),?_,λa d=>?_⟩
 .have b:=List.range'_append (s:=0) (m:=k) (n:=n-(k+1)+1) (step:=1)
  rw[sj,sj,←List.range'_succ];rw[Nat.one_mul,cy]at b;rw[b]
  congr 1
  omega
 .simp[c a (jC.1 d)]
theorem Gq{t:Nat->ai}{n:Nat}(b:∀i,i<n->t i=true):firstFree t n=none:=by
 unfold firstFree;rw[jo];intro a c;simp[b a (jC.1 c)]
theorem BN{t:Nat->ai}{n k:Nat}(h:firstFree t n=some k):k<n/\t k=false/\∀i,i<k->t i=true:=by
 unfold firstFree at h;obtain⟨h1,a,lb,h2,d⟩:=List.find?_eq_some_iff_append.1 h;have e:k<n:=jC.1 (by rw[h2];simp);refine⟨e,by simpa using h1,λi hi=>?_⟩;have hlen:a.length=k:=by
  have b:(List.range n)[a.length]? =some k:=by rw[h2];simp
  rw[List.getElem?_range (by
   have:=congrArg List.length h2;simp at this;omega)]at b
  simpa using b
 have c:(List.range n)[i]? =some i:=List.getElem?_range I;rw[h2,List.getElem?_append_left I]at c;have:=d i (List.mem_of_getElem? c);simpa using this
theorem Gr{t:Nat->ai}{n:Nat}(h:firstFree t n=none):∀i,i<n->t i=true:=by
 unfold firstFree at h;rw[jo]at h;intro i hi;have:=h i (jC.2 hi);simpa using this
def Gs(o:aq Nat):aa:=
 match o with
 |some k=>.tuple #[.int .i64 (k:Int),(0:Int)]
 |none=>.tuple #[.int .i64 (-1),(2:Int)]
def Gt(o:aq Nat)(f:Nat->ai):Nat->ai:=
 match o with
 |some k=>dn f k true
 |none=>f
theorem BO{f:Nat->ai}{n k:Nat}{x:ai}(h:∀i,n<=i->f i=false)(a:k<n):∀i,n<=i->dn f k x i=false:=λi hi=>by
 unfold dn
 rw[if_neg I]
 exact h i hi
theorem BP(h:eX w b n f g s1 s2):
 aR aj 160 #[.pointer (some b)] w (λv w'=>v=Gs (firstFree (λi=>f i||g i) n)/\eX w' b n (Gt (firstFree (λi=>f i||g i) n) f) g s1 s2/\ad (fy b s1 s2) w w'):=by
 have r:=h.bC;refine af.EC _ w _ ?_;(delta af.ru ak r1 aO ag aU av;dsimp only);refine⟨λh1=>by simp at h1,λ_=>⟨_,rfl,n,h.bX,λi w'=>∃k:Nat,i=k/\k<=n/\w=w'/\∀j,j<k->(f j||g j)=true,λi _=>(n-i).toNat,⟨0,rfl,I,rfl,λj l=>I⟩,?_⟩⟩;rintro _ _ ⟨k,rfl,a,rfl,d⟩;refine⟨λaK=>(Gn h (k:=k) (by simpa using aK)).use ?_,λm=>?_⟩
 .have c:k<n:=by simpa using aK
  rintro _ _ ⟨rfl,rfl⟩;refine⟨_,rfl,λht=>⟨_,rfl,s1,h.aC,(BM h.now (k:=k) I I).use ?_⟩,λht=>?_⟩
  .rintro _ w' ⟨rfl,o,hc⟩
   have e:(f k||g k)=false:=by simpa using ht
   have p:=Gp (t:=λi=>f i||g i) c e d;rw[p];refine⟨rfl,rfl,⟨h.bS.ab hc λq=>(h.d1 b q).1 rfl,o,h.sure.ab hc λk a h1=>(h.d1 k h1).2 a,h.d1,h.d2,h.bW,h.bC,BO h.pf c,h.cD⟩,hc.mono λk _ a=>.inr (.inl a)⟩
  .have e:(f k||g k)=true:=by cases hx:(f k||g k)<;>simp[hx]at ht⊢
   rw[bA I I];refine⟨⟨k+1,I,I,rfl,λj l=>?_⟩,(show((n:Int)-((k:Int)+1)).toNat<((n:Int)-(k:Int)).toNat from I)⟩;rcases dO j k with h1|h1
   .exact d j h1
   .have:j=k:=by omega
    subst this;exact e
 .have c:k=n:=by
   have:¬(k:Int)<n:=by simpa using m
   omega
  subst c;rw[Gq d];exact⟨rfl,h,.refl _ _⟩
def vL(f:Nat->ai)(n:Nat)(k:Int):Int:=if 0<=k/\k<n then (if f k.toNat then 0 else 6) else 1
def ni(f:Nat->ai)(n:Nat)(k:Int):Nat->ai:=if 0<=k/\k<n then dn f k.toNat false else f
theorem Gu{f:Nat->ai}{k:Nat}{x:ai}(h:f k=x):dn f k x=f:=by
 funext i;unfold dn;split
 .rename_i hi;rw[hi,h]
 .rfl
theorem BQ(h:eX w b n f g s1 s2)(k:Int):
 aR aj 161 #[.pointer (some b),k] w (λv w'=>v=.int .i64 (vL f n k)/\eX w' b n (ni f n k) g s1 s2/\ad (fy b s1 s2) w w'):=by
 have l:=h.bC;refine af.ED _ k w _ ?_;(delta af.rv aO ak ag aU;dsimp only);refine(yb h k).use ?_;rintro _ _ ⟨rfl,rfl⟩;refine⟨_,rfl,λh1=>?_,λh1=>?_⟩
 .have:¬(0<=k/\k<n):=by
   rintro⟨h2,d⟩;simp[h2,d]at h1
  exact⟨by rw[vL,if_neg this],by rw[ni,if_neg this];exact h,.refl _ _⟩
 .have a:0<=k/\k<n:=by simpa using h1
  obtain⟨m,rfl⟩:=qI a.1;have e:m<n:=by omega
  refine⟨_,rfl,s1,h.aC,(oE h.now (k:=m) I I).use ?_⟩;rintro _ _ ⟨rfl,rfl⟩;refine⟨_,rfl,λh2=>?_,λh2=>⟨_,rfl,s1,h.aC,(Gm h.now (k:=m) I I).use ?_⟩⟩
  .have hf:f m=false:=by simpa using h2
   refine⟨by rw[vL,if_pos a,dd,hf];rfl,?_,.refl _ _⟩;rw[ni,if_pos a,dd,Gu hf];exact h
  .rintro _ w' ⟨rfl,i,hc⟩
   have hf:f m=true:=by simpa using h2
   refine⟨rfl,by rw[vL,if_pos a,dd,hf];rfl,?_,hc.mono λk _ c=>.inr (.inl c)⟩;rw[ni,if_pos a,dd];exact⟨h.bS.ab hc λj=>(h.d1 b j).1 rfl,i,h.sure.ab hc λk c h1=>(h.d1 k h1).2 c,h.d1,h.d2,h.bW,h.bC,BO h.pf e,h.cD⟩
theorem Gv(h:eX w b n f g s1 s2)(k:Int):
 aR aj 183 #[.pointer (some b),k] w (λv w'=>v=.bool (decide (0<=k)&&decide (k<n)&&f k.toNat)/\w=w'):=by
 have c:=h.bC;refine af.EG _ k w _ ?_;(delta af.rz aO ak ag;dsimp only);refine(yb h k).use ?_;rintro _ _ ⟨rfl,rfl⟩;refine⟨_,rfl,⟨λh1=>?_,λh1=>⟨by rw[h1];rfl,rfl⟩⟩⟩;have a:0<=k/\k<n:=by simpa using h1
 obtain⟨m,rfl⟩:=qI a.1;refine⟨_,rfl,s1,h.aC,(oE h.now (k:=m) I I).use ?_⟩;rintro _ _ ⟨rfl,rfl⟩;exact⟨_,rfl,by rw[h1,dd];rfl,rfl⟩
theorem Gw(h:eX w b n f g s1 s2)(k:Int):
 aR aj 246 #[.pointer (some b),k] w (λv w'=>v=.bool (decide (0<=k)&&decide (k<n)&&f k.toNat&& !(g k.toNat))/\w=w'):=by
 have c:=h.bC;refine af.EP _ k w _ ?_;(delta af.rE aO ak ag;dsimp only);refine(yb h k).use ?_;rintro _ _ ⟨rfl,rfl⟩;refine⟨_,rfl,⟨λh1=>?_,λh1=>⟨(λh=>by cases h),λ_=>⟨by rw[h1];rfl,rfl⟩⟩⟩⟩;have a:0<=k/\k<n:=by simpa using h1
 obtain⟨m,rfl⟩:=qI a.1;refine⟨_,rfl,s1,h.aC,(oE h.now (k:=m) I I).use ?_⟩;rintro _ _ ⟨rfl,rfl⟩;refine⟨_,rfl,λh2=>⟨_,rfl,s2,h.aU,(oE h.sure (k:=m) I I).use ?_⟩,λh2=>⟨by rw[h1,dd,h2];rfl,rfl⟩⟩;rintro _ _ ⟨rfl,rfl⟩;exact⟨_,rfl,by rw[h1,dd,h2];rfl,rfl⟩
end
theorem Gx:hM aj 215 5 1 1:=⟨by kernel_rfl⟩
theorem Gy:hM aj 48 5 1 1:=⟨by kernel_rfl⟩
theorem Gz:hM aj 58 3 1 8:=⟨by kernel_rfl⟩
theorem GA(n:Nat):g8 aj 5 n=(List.replicate n (.int .u8 0)).toArray:=Ae (by kernel_rfl) (by kernel_rfl) n
theorem yc(f:Nat->ai)(m:Nat):∀v∈eZ f m,Plain v:=by
 intro v a;obtain⟨i,_,rfl⟩:=eC.1 a;trivial
theorem BR{w:J}{s:Y}{xs:O aa}(h:Src 1 w s xs)(d:∀v∈xs,Plain v)(i:s.len<=1000000):
 aR aj 194 #[s] w (λv w'=>∃b:Y,v=b/\bd 1 5 w' b xs/\Ext w w'/\∀k,aB b k->w.heap.size<=k):=by
 refine okF (af.tB s) aA.tB func194 ?_;delta af.tB al ak U;refine⟨λc=>?_,λ_=>?_⟩
 .have c:s.a=none:=by simpa using c
  rw[h.nil c];exact⟨⟨none,0,0⟩,rfl,bd.none _ _ _,.refl _ _,λk e=>(gk k e).elim⟩
 .obtain⟨b,w',h1,h2,j,f,g,_⟩:=Gx.clone (cM:=215) h d I
  exact⟨b,w',h1,b,rfl,h2,f,g⟩
theorem BS{w:J}{s:Y}{xs:O aa}(h:Src 1 w s xs)(d:∀v∈xs,Plain v)(i:s.len<=1000000):
 aR aj 135 #[s] w (λv w'=>∃b:Y,v=b/\bd 1 5 w' b xs/\Ext w w'/\∀k,aB b k->w.heap.size<=k):=by
 refine okF (af.nS s) aA.nS func135 ?_;delta af.nS al ak U;refine⟨λc=>?_,λ_=>?_⟩
 .have c:s.a=none:=by simpa using c
  rw[h.nil c];exact⟨⟨none,0,0⟩,rfl,bd.none _ _ _,.refl _ _,λk e=>(gk k e).elim⟩
 .obtain⟨b,w',h1,h2,j,f,g,_⟩:=Gy.clone (cM:=48) h d I
  exact⟨b,w',h1,b,rfl,h2,f,g⟩
section
variable {w w':J}{b n:Nat}{f g:Nat->ai}{s1 s2:Y}
theorem rW{T:TypeId}{m:Nat}(h:bd 1 T w s1 (eZ f m)):s1.len=m:=by
 have:=h.1;rw[x_]at this;omega
theorem yd{m:Nat}{u:aa}(c:bz w b #[n,s1,u] 218)(h1:bd 1 5 w s1 (eZ f m))(hd:∀k,aB s1 k->k≠b)(g:m<=1000000):
 aR aj 131 #[.pointer (some b)] w (λv w'=>v=.tuple #[]/\∃a:Y,bz w' b #[n,s1,a] 218/\
  bd 1 5 w' s1 (eZ f m)/\bd 1 5 w' a (eZ f m)/\ad (λk=>k=b) w w'/\∀k,aB a k->w.heap.size<=k):=by
 refine af.Ew _ w _ ?_;(delta af.rl al ak ag ba st;dsimp only);refine⟨λ_=>⟨_,rfl,s1,by rw[aw,c.cell];rfl,(BR h1.src (yc f m) (by rw[rW h1];exact g)).use ?_⟩,λh=>by simp at h⟩;rintro _ ah ⟨a,rfl,h2,hx,hf⟩;have d:=c.ext hx;have i:∀k,aB a k->k≠b:=λk j e=>by have:=hf k j;have:=c.lt;omega
 refine⟨a,rfl,_,rfl,⟨_,by rw[aw,d.cell];rfl⟩,d.frozen _ rfl,rfl,a,?_,?_,?_,?_,hf⟩
 .rw[aw];exact d.set 2 _
 .exact(h1.ext hx).ab (W:=λk=>k=b) (ad.set (.refl _ _) (λ_=>by rw[aw]) _) hd
 .exact h2.ab (W:=λk=>k=b) (ad.set (.refl _ _) (λ_=>by rw[aw]) _) i
 .exact(ad.cJ hx).set (λ_=>by rw[aw]) _
theorem GB(h:eX w b n f g s1 s2):
 aR aj 131 #[.pointer (some b)] w (λv w'=>v=.tuple #[]/\∃c:Y,eX w' b n f f s1 c/\ad (fy b s1 s2) w w'/\∀k,fy b s1 c k->fy b s1 s2 k\/w.heap.size<=k):=by
 have m:=h.bC;refine(yd h.bS h.now (λk a=>(h.d1 k a).1) I).mono ?_;rintro _ w' ⟨rfl,c,h1,h2,i,j,d⟩;refine⟨rfl,c,⟨h1,h2,i,λk a=>⟨(h.d1 k a).1,λl=>?_⟩,λk a e=>?_,h.bW,h.bC,h.pf,h.pf⟩,j.mono λk _ a=>.inl a,λk a=>?_⟩
 .have:=d k l;have:=h.now.lt k a;omega
 .have:=d k a;have:=h.bS.lt;omega
 .rcases a with rfl|a|a
  .exact .inl (.inl rfl)
  .exact .inl (.inr (.inl a))
  .exact .inr (d k a)
theorem GC(h:eX w b n f g s1 s2):
 aR aj 144 #[.pointer (some b)] w (λv w'=>v=.tuple #[]/\∃c:Y,eX w' b n g g c s2/\ad (fy b s1 s2) w w'/\∀k,fy b c s2 k->fy b s1 s2 k\/w.heap.size<=k):=by
 have l:=h.bC;refine af.Ex _ w _ ?_;(delta af.rm al ak ag ba st;dsimp only);refine⟨λ_=>⟨_,rfl,s2,h.aU,(BR h.sure.src (yc g _) (by rw[rW h.sure];omega)).use ?_⟩,λh=>by simp at h⟩;rintro _ ah ⟨c,rfl,h2,hx,hf⟩;have d:=h.bS.ext hx;have i:∀k,aB c k->k≠b:=λk a e=>by have:=hf k a;have:=h.bS.lt;omega
 refine⟨c,rfl,_,rfl,⟨_,by rw[aw,d.cell];rfl⟩,d.frozen _ rfl,rfl,c,⟨?_,?_,?_,λk a=>⟨i k a,λj=>?_⟩,h.d2,h.bW,h.bC,h.cD,h.cD⟩,?_,λk a=>?_⟩
 .rw[aw];exact d.set 1 _
 .exact h2.ab (W:=λk=>k=b) (ad.set (.refl _ _) (λ_=>by rw[aw]) _) i
 .exact(h.sure.ext hx).ab (W:=λk=>k=b) (ad.set (.refl _ _) (λ_=>by rw[aw]) _) h.d2
 .have:=hf k a;have:=h.sure.lt k j;omega
 .exact(ad.cJ hx).set (λ_=>by rw[aw];exact .inl rfl) _
 .rcases a with rfl|a|a
  .exact .inl (.inl rfl)
  .exact .inr (hf k a)
  .exact .inl (.inr (.inr a))
def qe(x:Nat):Nat:=(x.testBit 0).toNat+(x.testBit 1).toNat+(x.testBit 2).toNat+(x.testBit 3).toNat+(x.testBit 4).toNat+(x.testBit 5).toNat+(x.testBit 6).toNat+(x.testBit 7).toNat
def eY(t:Nat->ai):Nat->Nat
 |0=>0
 |k+1=>eY t k+(t k).toNat
theorem mn(t:Nat->ai):∀k,eY t k<=k
 |0=>bl _
 |k+1=>by have:=mn t k;have:=Bool.toNat_le (t k);simp only[eY];omega
theorem GD(t:Nat->ai)(i:Nat):eY t (8*(i+1))=eY t (8*i)+qe (byteOf t i):=by
 have h:∀j,j<8->(byteOf t i).testBit j=t (8*i+j):=λj a=>nh t i j a;unfold qe;rw[h 0 I,h 1 I,h 2 I,h 3 I,h 4 I,h 5 I,h 6 I,h 7 I];show eY t (8*i+7+1)=_;simp only[eY,kO];omega
theorem BT(t:Nat->ai)(n:Nat)(h:∀i,n<=i->t i=false):∀k,eY t (n+k)=eY t n
 |0=>rfl
 |k+1=>by
  have:=BT t n h k
  show eY t (n+k)+(t (n+k)).toNat=_
  rw[this,h (n+k) I]
  rfl
theorem GF:∀x:Nat,x<256->(wz (ByteArray.mk #[0,1,1,2,1,2,2,3,1,2,2,3,2,3,3,4,1,2,2,3,2,3,3,4,2,3,3,4,3,4,4,5,1,2,2,3,2,3,3,4,2,3,3,4,3,4,4,5,2,3,3,4,3,4,4,5,3,4,4,5,4,5,5,6,1,2,2,3,2,3,3,4,2,3,3,4,3,4,4,5,2,3,3,4,3,4,4,5,3,4,4,5,4,5,5,6,2,3,3,4,3,4,4,5,3,4,4,5,4,5,5,6,3,4,4,5,4,5,5,6,4,5,5,6,5,6,6,7,1,2,2,3,2,3,3,4,2,3,3,4,3,4,4,5,2,3,3,4,3,4,4,5,3,4,4,5,4,5,5,6,2,3,3,4,3,4,4,5,3,4,4,5,4,5,5,6,3,4,4,5,4,5,5,6,4,5,5,6,5,6,6,7,2,3,3,4,3,4,4,5,3,4,4,5,4,5,5,6,3,4,4,5,4,5,5,6,4,5,5,6,5,6,6,7,3,4,4,5,4,5,5,6,4,5,5,6,5,6,6,7,4,5,5,6,5,6,6,7,5,6,6,7,6,7,7,8]) x).map (·.toNat)=some (qe x):=by decide+kernel
theorem BU(x:Nat):qe x<=8:=by
 unfold qe;have h:∀b:ai,b.toNat<=1:=Bool.toNat_le;have:=h (x.testBit 0);have:=h (x.testBit 1);have:=h (x.testBit 2);have:=h (x.testBit 3);have:=h (x.testBit 4);have:=h (x.testBit 5);have:=h (x.testBit 6);have:=h (x.testBit 7);omega
theorem GG(w:J)(x:Nat)(hx:x<256):aR aj 202 #[.int .u8 x] w (λv w'=>v=.int .i64 (qe x)/\w=w'):=by
 refine okF (af.tC x) aA.tC func202 ?_;delta af.tC av;have h:=GF x hx;refine⟨I,?_⟩
 cases a:wz _ x with
 |none=>rw[a]at h;cases h
 |some y=>
  rw[a]at h;simp only[lq,Option.some.injEq]at h;refine⟨y,a,?_,rfl⟩;rw[h,bA I (by have:=BU x;omega)]
theorem GH(f g:Nat->ai)(i:Nat):byteOf f i|||byteOf g i=byteOf (λk=>f k||g k) i:=
 vK _ _ _ (x9 _ (kg _ _) _ (kg _ _)) λj a=>by rw[mD,nh _ _ _ a,nh _ _ _ a]
theorem ye(h:eX w b n f g s1 s2):
 aR aj 148 #[.pointer (some b)] w (λv w'=>v=.int .i64 ((n:Int)-eY (λi=>f i||g i) n)/\Ext w w'):=by
 have p:=h.bC;have q:=rW h.now;have s:=rW h.sure;refine af.Ey _ w _ ?_;(delta af.rn al ak r1 ag aL b3 aC av;dsimp only);refine⟨λh1=>by simp at h1,λ_=>⟨_,rfl,n,h.bX,_,rfl,s1,h.aC,λr i w'=>∃k:Nat,i=k/\k<=s1.len/\Ext w w'/\r=(n:Int)-eY (λi=>f i||g i) (8*k),λ_ i _=>((s1.len:Int)-i).toNat,⟨0,rfl,I,.refl _ _,by simp[eY]⟩,?_⟩⟩;rintro _ _ w1 ⟨k,rfl,t,hx,rfl⟩;refine⟨λaK=>?_,λc=>?_⟩
 .have d:k<s1.len:=by simpa using aK
  have h1:=h.ext hx.drew;obtain⟨b_,aC,j,u,_,_,_,l,_⟩:=h1.now.cell (oD f (i:=k) I);obtain⟨bO,aU,m,x,_,_,_,o,_⟩:=h1.sure.cell (oD g (i:=k) I);have a:∀b:Nat,(Addr.mk b 0 none).add (Int.toNat (k:Int)*1)=⟨b,k,none⟩:=λb=>by rw[fG,dd,aw,cy]
  refine⟨λ_=>False,_,rfl,by simp,s1,h1.aC,_,j,I,by simp,_,by rw[a];exact l,_,rfl,by simp,s2,h1.aU,_,m,I,by simp,_,by rw[a];exact o,?_⟩;rw[Gi _ _ (kg _ _) (kg _ _),GH];refine(GG _ _ (kg _ _)).use ?_;rintro _ _ ⟨rfl,rfl⟩;have:=BU (byteOf (λi=>f i||g i) k);have:=mn (λi=>f i||g i) (8*k);refine⟨_,rfl,.refl _ _,?_⟩;rw[bA (n:=(n:Int)-_-_) I I,bA (n:=(k:Int)+1) I I];exact⟨⟨k+1,I,I,hx.drew,by rw[GD];omega⟩,(show((s1.len:Int)-((k:Int)+1)).toNat<((s1.len:Int)-(k:Int)).toNat from I)⟩
 .have d:k=s1.len:=by
   have:¬(k:Int)<s1.len:=by simpa using c
   omega
  refine⟨?_,hx⟩;have e:8*k=n+(8*k-n):=by omega
  rw[e,BT _ _ (λi hi=>by simp[h.pf i hi,h.cD i hi])]
def jP(f:Nat->ai):Nat->O Int
 |0=> []
 |k+1=>jP f k++(if f k then [(k:Int)] else [])
def mo(f:Nat->ai)(k:Nat):O aa:=(jP f k).map (.int .i64)
theorem BV(f:Nat->ai):∀k,(jP f k).length<=k
 |0=>bl _
 |k+1=>by have:=BV f k;simp only[jP,cz];split<;>simp<;>omega
theorem GI(h:eX w b n f g s1 s2):
 aR aj 155 #[.pointer (some b)] w (λv w'=>∃s:Y,v=s/\bd 1 3 w' s (mo f n)/\Ext w w'/\∀k,aB s k->w.heap.size<=k):=by
 have A:=h.bC;refine af.EB _ w _ ?_;(delta af.rq al ak r1 ag aO tr U av;dsimp only);refine⟨λh1=>by simp at h1,λ_=>⟨_,rfl,n,h.bX,λs i w'=>∃k:Nat,i=k/\k<=n/\Ext w w'/\bd 1 3 w' s (mo f k)/\∀k,aB s k->w.heap.size<=k,λ_ i _=>((n:Int)-i).toNat,
  ⟨0,rfl,I,.refl _ _,bd.none _ _ _,λk l=>(gk k l).elim⟩,?_⟩⟩
 rintro s _ w1 ⟨k,rfl,l,hx,c,d⟩;refine⟨λaK=>?_,λp=>?_⟩
 .have m:k<n:=by simpa using aK
  have h1:=h.ext hx;refine cq (λa w'=>Ext w w'/\bd 1 3 w' a (mo f (k+1))/\∀k,aB a k->w.heap.size<=k) (λq o=>⟨_,rfl,s1,h1.aC,(oE h1.now (k:=k) I I).use ?_⟩) ?_
  .rintro _ _ ⟨rfl,rfl⟩
   refine⟨_,rfl,λhf=>?_,λhf=>?_⟩
   .have hlen:s.len<=k:=by
     have:=c.1;have:=BV f k;simp[mo]at*;omega
    obtain⟨a,w',h1,h2,B,r,t⟩:=Gz.push (cM:=58) (xs:=[k]) rfl c (by simp[Plain]) I;refine⟨a,w',h1,o _ _ ⟨?_,?_,?_⟩⟩
    .exact((ad.cJ hx).trans r).mono λk l u=>by have:=d k u;omega
    .simpa[mo,jP,hf] using h2
    .intro j e
     rcases t j e with e|e
     .exact d j e
     .have:=hx.size;omega
   .exact o _ _ ⟨hx,by simpa[mo,jP,hf] using c,d⟩
  .rintro a w' ⟨x,y,z⟩
   rw[bA I I];exact⟨⟨k+1,I,I,x,y,z⟩,(show((n:Int)-((k:Int)+1)).toNat<((n:Int)-(k:Int)).toNat from I)⟩
 .have m:k=n:=by
   have:¬(k:Int)<n:=by simpa using p
   omega
  subst m;exact⟨s,rfl,c,hx,d⟩
theorem BW(h:eX w b n f g s1 s2):
 aR aj 74 #[.pointer (some b)] w (λv w'=>∃s:Y,v=s/\bd 1 5 w' s (eZ f ((n+7)/8))/\Ext w w'/\∀k,aB s k->w.heap.size<=k):=by
 have a:=h.bC;refine af.Et _ w _ ?_;(delta af.rk ak ag ba;dsimp only);refine⟨λh1=>by simp at h1,λ_=>⟨_,rfl,s1,h.aC,(BS h.now.src (yc f _) (by rw[rW h.now];omega)).use ?_⟩⟩;rintro _ ah ⟨s,rfl,h2,hx,hf⟩;exact⟨s,rfl,s,rfl,h2,hx,hf⟩
end
theorem BX(w:J)(n:Int):aR aj 128 #[n] w (λv w'=>v=.bool (decide (1<=n/\n<=1600))/\w=w'):=by
 refine okF (af.um n) aA.um func128 ?_;unfold af.um;refine⟨?_,rfl⟩;simp[Bool.decide_and]
theorem BY(w:J)(n:Nat)(a:n<=1600):aR aj 129 #[n] w (λv w'=>v=.int .i64 (((n+7)/8:Nat):Int)/\w=w'):=by
 refine okF (af.uo n) aA.uo func129 ?_;delta af.uo av;refine⟨by decide,?_,rfl⟩;rw[bA (n:=(n:Int)+8) I I,bA (n:=(n:Int)+8-1) I I,show(n:Int)+8-1=((n+7:Nat):Int) from I,BK,bA I I]
theorem GJ(m:Nat):eZ (λi=>decide (i<0)) m=List.replicate m (.int .u8 0):=by
 apply List.ext_getElem
 .simp[eZ]
 .intro i h1 h2
  simp[eZ,byteOf,k9]
theorem GK(j:Nat):dn (λi=>decide (i<j)) j true=λi=>decide (i<j+1):=by
 funext i;unfold dn;split
 .rename_i h;simp[h]
 .rename_i h;simp;omega
theorem pz(w:J)(n first:Int):
 aR aj 71 #[.int .i64 n,.int .i64 first] w (λv w'=>(¬(1<=n/\n<=1600/\0<=first/\first<=n)/\v=.tuple #[.pointer none,.int .i64 1]/\w=w')\/
  (1<=n/\n<=1600/\0<=first/\first<=n/\∃b s1 s2,v=.tuple #[.pointer (some ⟨b,0,none⟩),.int .i64 0]/\eX w' b n.toNat (λi=>decide (i<first.toNat)) (λi=>decide (i<first.toNat)) s1 s2/\Ext w w'/\∀k,fy b s1 s2 k->w.heap.size<=k)):=by
 refine okF (af.pz n first) aA.pz func71 ?_;(delta af.pz al aO ak aC ky U ag aU av;dsimp only);refine(BX w n).use ?_;rintro _ _ ⟨rfl,rfl⟩;refine⟨_,rfl,λh=>.inl ⟨λhc=>?_,rfl,rfl⟩,λh=>?_⟩
 .simp at h;omega
 simp at h;obtain⟨⟨⟨E,F⟩,G⟩,H⟩:=h;obtain⟨n,rfl⟩:=qI (by omega:0<=n);obtain⟨first,rfl⟩:=qI (by omega:0<=first);refine(BY w n I).use ?_;rintro _ _ ⟨rfl,rfl⟩;refine⟨_,rfl,I,?_⟩;simp only[dd];rw[GA];obtain⟨m,f⟩:∃m,m=(n+7)/8:=⟨_,rfl⟩;rw[←f];have l:=bd.new (sz:=1) (T:=5) w (List.replicate m (.int .u8 0)) m (by simp) (by show m<=2^63-1;omega);rw[←GJ]at l⊢;have ar:Ext w (w.alloc (.cells (eZ (λi=>decide (i<0)) m).toArray 5)):=ad.alloc (.refl _ _) _;generalize s:w.alloc (.cells (eZ (λi=>decide (i<0)) m).toArray 5)=w1 at*;have K:w1.heap.size=w.heap.size+1:=by rw[←s];simp
 have t:=bz.new w1 #[.int .i64 (n:Int),.slice (some ⟨w.heap.size,0,none⟩) m m,.slice none 0 0] 218;have u:=ad.alloc ar (.cells #[.int .i64 (n:Int),.slice (some ⟨w.heap.size,0,none⟩) m m,.slice none 0 0] 218);have x:=l.ext (ad.alloc (.refl _ w1) (.cells #[.int .i64 (n:Int),.slice (some ⟨w.heap.size,0,none⟩) m m,.slice none 0 0] 218));refine⟨λi w'=>∃j:Nat,i=j/\j<=first/\Ext w w'/\bz w' w1.heap.size #[.int .i64 (n:Int),.slice (some ⟨w.heap.size,0,none⟩) m m,.slice none 0 0] 218/\
  bd 1 5 w' ⟨some ⟨w.heap.size,0,none⟩,m,m⟩ (eZ (λi=>decide (i<j)) m),λi _=>((first:Int)-i).toNat,⟨0,rfl,I,u,t,x⟩,?_⟩
 rintro _ ah ⟨j,rfl,L,hx,d,o⟩;refine⟨λaK=>?_,λy=>?_⟩
 .have p:j<first:=by simpa using aK
  refine⟨_,rfl,⟨some ⟨w.heap.size,0,none⟩,m,m⟩,by rw[aw,d.cell];rfl,(BM o (k:=j) I I).use ?_⟩;rintro _ z ⟨rfl,q,hc⟩;rw[GK]at q;rw[bA I I];refine⟨rfl,⟨j+1,I,I,?_,d.ab hc ?_,q⟩,(show((first:Int)-((j:Int)+1)).toNat<((first:Int)-(j:Int)).toNat from I)⟩
  .exact((ad.cJ hx).trans hc).mono λk a c=>by rw[kX]at c;simp at c;omega
  .intro c
   rw[kX]at c;simp at c;omega
 .have p:j=first:=by
   have:¬(j:Int)<first:=by simpa using y
   omega
  subst p;have r:∀i,n<=i->decide (i<j)=false:=λi hi=>by simp;omega
  refine(yd d o (λk a e=>?_) I).use ?_
  .rw[kX]at a
   simp at a;omega
  rintro _ z ⟨rfl,A,h1,h2,B,C,g⟩;have M:=d.lt;refine⟨rfl,.inr ⟨I,I,I,I,w1.heap.size,⟨some ⟨w.heap.size,0,none⟩,m,m⟩,A,rfl,⟨h1,?_,?_,λk a=>⟨λe=>?_,λD=>?_⟩,λk a e=>?_,I,I,r,r⟩,?_,?_⟩⟩
  .simp only[←f];exact h2
  .simp only[←f];exact B
  .rw[kX]at a
   simp at a;omega
  .rw[kX]at a
   simp at a;have:=g k D;omega
  .have:=g k a
   omega
  .exact((ad.cJ hx).trans C).mono λk a e=>by omega
  .rintro k (rfl|a|a)
   .omega
   .rw[kX]at a
    simp at a;omega
   .have:=g k a
    have:=hx.size;omega
structure aN where
 aZ:Nat
 gen:Nat
 root:Nat
 aI:Nat
 C:b5
 sb:Nat
 n:Nat
 f:Nat->ai
 g:Nat->ai
 s1:Y
 s2:Y
 E:Nat->Prop
 G:Nat->Prop
 P:Nat->aq aD
def aN.ck(T:aN)(E G:Nat->Prop):aN:={T with E:=E,G:=G}
def aN.bm(T:aN)(C:b5)(P:Nat->aq aD):aN:={T with C:=C,P:=P}
def aN.X(T:aN)(q:Nat):Prop:=q=T.aZ\/fy T.sb T.s1 T.s2 q\/T.E q\/T.G q
def aN.M(T:aN)(q:Nat):Prop:=c4 T.C q\/T.X q
def aN.N(T:aN)(q:Nat):Prop:=c4 T.C q\/q=T.aZ\/fy T.sb T.s1 T.s2 q\/T.G q
theorem aN.gl{T:aN}{q:Nat}(h:T.N q):T.M q:=h.imp id (Or.imp id (Or.imp id .inr))
def gN(gen:Nat)(leaf:ai)(no:Nat)(l:cX)(n:aD):Prop:=
 ∃p:ir,dQ (no:Int) l=.ok p/\p.gen<=gen/\p.kind=(if leaf then 1 else 2)/\lK leaf p.body n/\2<=no
def k_(T:aN):O aa:=[.pointer (some T.C.c),.pointer (some T.sb),.int .u64 (T.gen:Nat),T.root,T.aI]
structure bJ(w:J)(T:aN):Prop where
 t:Var w T.aZ (k_ T) 239
 s:eX w T.sb T.n T.f T.g T.s1 T.s2
 ca:ek T.X w T.C
 jx:¬fy T.sb T.s1 T.s2 T.aZ
 c8:∀q,T.E q->q≠T.aZ/\¬fy T.sb T.s1 T.s2 q/\¬T.G q
 hD:∀q,T.G q->q≠T.aZ/\¬fy T.sb T.s1 T.s2 q
 n:T.C.D.n=T.n
 num:T.root<T.n/\T.aI<=12/\T.gen<18446744073709551616
 eo:∀no bj,T.P no=some bj->no<T.n/\gN T.gen bj.leaf no (T.C.view no) bj
 bL:∀j,T.C.D.bL j=true->T.g j=true\/T.C.D.ro
 low:T.g 0=true/\T.g 1=true
structure bQ(T ao:aN)(w w':J)(k:Nat):Prop where
 aZ:ao.aZ=T.aZ
 sb:ao.sb=T.sb
 n:ao.n=T.n
 g:ao.g=T.g
 s1:ao.s1=T.s1
 s2:ao.s2=T.s2
 c:ao.C.c=T.C.c
 d:ao.C.D.d=T.C.D.d
 bg:ao.C.D.key=T.C.D.key
 gen:ao.gen=T.gen
 aQ:ao.C.D.aQ<=T.C.D.aQ+k
 calm:∀m,T.C.D.calm (m+k)->ao.C.D.calm m
 ab:ad T.N w w'
 c7:∀q,ao.M q->T.M q\/w.heap.size<=q
 fn:∀q,ao.N q->T.N q\/w.heap.size<=q
theorem bQ.bL{T ao:aN}{w w':J}{k:Nat}(h:bQ T ao w w' k):ao.C.D.bL=T.C.D.bL/\ao.C.D.dH=T.C.D.dH:=by
 have:=congrArg Prod.fst h.bg;exact⟨congrArg (λp=>p.2.1) this,congrArg (λp=>p.2.2.1) this⟩
theorem bQ.refl(T:aN)(w:J):bQ T T w w 0:=⟨rfl,rfl,rfl,rfl,rfl,rfl,rfl,rfl,rfl,rfl,bl _,λ_ h=>h,.refl _ _,λ_ h=>.inl h,λ_ h=>.inl h⟩
theorem bQ.ext{w w':J}(T:aN)(h:Ext w w'):bQ T T w w' 0:=⟨rfl,rfl,rfl,rfl,rfl,rfl,rfl,rfl,rfl,rfl,bl _,λ_ h=>h,ad.cJ h,λ_ h=>.inl h,λ_ h=>.inl h⟩
theorem bQ.trans{T ao b:aN}{w w' e:J}{k l:Nat}(h1:bQ T ao w w' k)(h2:bQ ao b w' e l):bQ T b w e (k+l):=by
 have hs:=h1.ab.size;refine⟨h2.aZ.trans h1.aZ,h2.sb.trans h1.sb,h2.n.trans h1.n,h2.g.trans h1.g,h2.s1.trans h1.s1,h2.s2.trans h1.s2,h2.c.trans h1.c,h2.d.trans h1.d,h2.bg.trans h1.bg,h2.gen.trans h1.gen,by have:=h1.aQ;have:=h2.aQ;omega,
  λm f=>h2.calm m (h1.calm (m+l) (by rw[show m+l+k=m+(k+l) from I];exact f)),cu h1.ab h2.ab λq a h=>(h1.fn q h).resolve_right I,λq a=>?_,λq a=>?_⟩
 .rcases h2.c7 q a with h|h
  .exact h1.c7 q h
  .exact .inr I
 .rcases h2.fn q a with h|h
  .exact h1.fn q h
  .exact .inr I
theorem bQ.mono{T ao:aN}{w w':J}{k l:Nat}(h:bQ T ao w w' k)(b:k<=l):bQ T ao w w' l:=
 ⟨h.aZ,h.sb,h.n,h.g,h.s1,h.s2,h.c,h.d,h.bg,h.gen,by have:=h.aQ;omega,λm a=>h.calm m (gg a I),h.ab,h.c7,h.fn⟩
theorem bQ.bj{T ao:aN}{w w':J}{k lo:Nat}(h:bQ T ao w w' k){n:aD}{K V D:Y}(d:bF (λq=>lo<=q/\¬T.M q) w n K V D):bF (λq=>lo<=q/\¬ao.M q) w' n K V D:=by
 have h1:bF (λq=>q<w.heap.size/\lo<=q/\¬T.M q) w n K V D:=d.aY λq b a=>⟨b,a⟩;refine(bF.ab h1 h.ab λq b c=>b.2.2 (aN.gl c)).aY λq _ a=>⟨a.2.1,λc=>?_⟩;rcases h.c7 q c with h2|h2
 .exact a.2.2 h2
 .have:=a.1;omega
section
variable {w w':J}{T ao:aN}
theorem bQ.step{W E G:Nat->Prop}{w1:J}{k:Nat}(h:bQ T ao w w1 k)(hc:ad W w1 w')(cd:∀q,W q->q<w.heap.size->T.N q)(e:∀q,E q->ao.E q\/ao.G q\/w.heap.size<=q)(b:∀q,G q->ao.G q\/w.heap.size<=q):bQ T (ao.ck E G) w w' k:=by
 refine⟨h.aZ,h.sb,h.n,h.g,h.s1,h.s2,h.c,h.d,h.bg,h.gen,h.aQ,h.calm,cu h.ab hc λq a f=>cd q f a,λq a=>?_,λq a=>?_⟩
 .rcases a with a|a|a|a|a
  .exact h.c7 q (.inl a)
  .exact h.c7 q (.inr (.inl a))
  .exact h.c7 q (.inr (.inr (.inl a)))
  .rcases e q a with h1|h1|h1
   .exact h.c7 q (.inr (.inr (.inr (.inl h1))))
   .exact h.c7 q (.inr (.inr (.inr (.inr h1))))
   .exact .inr h1
  .rcases b q a with h1|h1
   .exact h.c7 q (.inr (.inr (.inr (.inr h1))))
   .exact .inr h1
 .rcases a with a|a|a|a
  .exact h.fn q (.inl a)
  .exact h.fn q (.inr (.inl a))
  .exact h.fn q (.inr (.inr (.inl a)))
  .rcases b q a with h1|h1
   .exact h.fn q (.inr (.inr (.inr h1)))
   .exact .inr h1
theorem bQ.local{bf kh a yf:Nat->Prop}{w1:J}{k:Nat}(h:bQ (T.ck bf a) ao w1 w' k)(hx:Ext w w1)(b:∀q,bf q->T.E q\/w.heap.size<=q)(c:∀q,a q->T.G q\/w.heap.size<=q)
 (d:∀q,kh q->ao.E q\/ao.G q) (e:∀q,yf q->ao.G q):bQ T (ao.ck kh yf) w w' k:=by
 have h0:bQ T (T.ck bf a) w w1 0:=(bQ.ext T (w:=w) (w':=w) (ad.refl _ _)).step (W:=λ_=>False) hx (λ_ h=>h.elim) (λq h=>(b q h).imp id .inr) c;have h1:=h0.trans h;rw[cy]at h1;exact h1.step (W:=λ_=>False) (ad.refl _ _) (λ_ h=>h.elim) (λq h=>(d q h).imp id .inl) λq h=>.inl (e q h)
theorem bJ.lt(h:bJ w T){q:Nat}(a:T.M q):q<w.heap.size:=by
 rcases a with a|a
 .exact h.ca.raw.lt a
 .exact(h.ca.inv.e6 q a).1
theorem bJ.jf(h:bJ w T){q:Nat}(b:T.E q):¬T.N q:=by
 rintro(a|a|a|a)
 .exact(h.ca.inv.e6 q (.inr (.inr (.inl b)))).2 a
 .exact(h.c8 q b).1 a
 .exact(h.c8 q b).2.1 a
 .exact(h.c8 q b).2.2 a
theorem bJ.ext(h:bJ w T)(hx:Ext w w'):bJ w' T:=⟨h.t.ext hx,h.s.ext hx,h.ca.ext hx,h.jx,h.c8,h.hD,h.n,h.num,h.eo,h.bL,h.low⟩
theorem ek.grow{X d W:Nat->Prop}{C:b5}(h:ek X w C)(hc:ad W w w')(cd:∀q,W q->q<w.heap.size->X q)(e:∀q,d q->X q\/(w.heap.size<=q/\q<w'.heap.size)):ek d w' C:=by
 have g:ad X w w':=cu (W:=X) (ad.refl _ _) hc λq a i=>cd q i a;refine⟨h.raw.ab g λq a hx=>(h.inv.e6 q hx).2 a,h.inv.pins,λf hf j=>?_,h.inv.un,λq a=>?_,h.inv.ke⟩
 .obtain⟨no,au,ay,k,m,n,o,p⟩:=h.inv.ok f hf j
  have r:a_ (λq=>q<w.heap.size/\¬c4 C q/\¬X q) w f.b f.l:=a_.aY k λq a c=>⟨a,c⟩;refine⟨no,au,ay,a_.aY (a_.ab r g λq a hx=>a.2.2 hx) λq _ c=>⟨c.2.1,λs=>?_⟩,m,n,o,p⟩;rcases e q s with h1|h1
  .exact c.2.2 h1
  .have:=c.1;omega
 .rcases e q a with h1|h1
  .exact⟨fU (h.inv.e6 q h1).1 hc.size,(h.inv.e6 q h1).2⟩
  .exact⟨h1.2,λhf=>by have:=h.raw.lt hf;omega⟩
theorem bJ.grow{E G W:Nat->Prop}(h:bJ w T)(hc:ad W w w')(cd:∀q,W q->q<w.heap.size->T.E q\/T.G q)(c:∀q,E q->T.E q\/T.G q\/(w.heap.size<=q/\q<w'.heap.size))(f:∀q,G q->T.E q\/T.G q\/(w.heap.size<=q/\q<w'.heap.size))(j:∀q,E q->¬G q):bJ w' (T.ck E G):=by
 have b:∀q,T.E q\/T.G q->q≠T.aZ/\¬fy T.sb T.s1 T.s2 q:=λq a=>by
  rcases a with a|a
  .exact⟨(h.c8 q a).1,(h.c8 q a).2.1⟩
  .exact h.hD q a
 have g:ad (λq=>T.E q\/T.G q) w w':=cu (W:=λq=>T.E q\/T.G q) (ad.refl _ _) hc λq a k=>cd q k a;have d:∀q,T.E q\/T.G q\/(w.heap.size<=q/\q<w'.heap.size)->q≠T.aZ/\¬fy T.sb T.s1 T.s2 q:=λq a=>by
  rcases a with a|a|a
  .exact b q (.inl a)
  .exact b q (.inr a)
  .exact⟨λe=>by have h2:=h.lt (q:=q) (.inr (.inl e));omega,λe=>by have h2:=h.lt (q:=q) (.inr (.inr (.inl e)));omega⟩
 have i:∀q,T.E q\/T.G q\/(w.heap.size<=q/\q<w'.heap.size)->T.X q\/(w.heap.size<=q/\q<w'.heap.size):=λq a=>by
  rcases a with a|a|a
  .exact .inl (.inr (.inr (.inl a)))
  .exact .inl (.inr (.inr (.inr a)))
  .exact .inr a
 refine⟨h.t.ab g λe=>(b _ e).1 rfl,h.s.ab g λq a e=>(b q e).2 a,h.ca.grow hc (λq a l=>.inr (.inr (cd q a l))) λq a=>?_,h.jx,λq a=>⟨(d q (c q a)).1,(d q (c q a)).2,j q a⟩,λq a=>d q (f q a),h.n,h.num,h.eo,h.bL,h.low⟩;rcases a with a|a|a|a
 .exact .inl (.inl a)
 .exact .inl (.inr (.inl a))
 .exact i q (c q a)
 .exact i q (f q a)
theorem bJ.cells(h:bJ w T):w.cell? T.aZ=some (.pointer (some T.C.c))/\w.cell? (Addr.add T.aZ 1)=some (.pointer (some T.sb))/\w.cell? (Addr.add T.aZ 2)=some (.int .u64 (T.gen:Nat))/\
 w.cell? (Addr.add T.aZ 3)=some (.int .i64 (T.root:Nat))/\w.cell? (Addr.add T.aZ 4)=some (.int .i64 (T.aI:Nat)):=by
 rw[aw,aw,aw,aw];exact⟨h.t.cell,h.t.cell,h.t.cell,h.t.cell,h.t.cell⟩
theorem bJ.GL(h:bJ w T){no:Nat}(a:no<T.n):(T.C.view no).length=256:=by
 unfold b5.view
 cases hf:T.C.an.find? λf=>f.full&&f.no==(no:Int) with
 |some f=>
  have h1:=jH hf;have h2:=ko hf;obtain⟨m,b⟩:=h.ca.inv.ok f h1 (by
   have:(f.full&&f.no==(no:Int))=true:=h2;exact(Bool.and_eq_true_iff.1 this).1)
  exact b.len
 |none=>exact h.ca.raw.dev.oB (by rw[h.n];exact a)
theorem bJ.qf{aF:b5}{k:Nat}{P:Nat->aq aD}(h:bJ w T)(e:ek T.X w' aF)(a:eI T.C aF w w' k)(f:∀no bj,P no=some bj->no<T.n/\gN T.gen bj.leaf no (aF.view no) bj):
 bJ w' (T.bm aF P)/\bQ T (T.bm aF P) w w' k:=by
 have hx:=h.ca.inv.e6;have hc:=a.ab;refine⟨⟨?_,h.s.ab hc λq b hf=>(hx q (.inr (.inl b))).2 hf,e,h.jx,h.c8,h.hD,?_,h.num,f,λj l=>by unfold a6.ro;show T.g j=true\/∀i,aF.D.bL i=true;rw[a.bL];exact h.bL j (by rw[←a.bL];exact l),h.low⟩,⟨rfl,rfl,rfl,rfl,rfl,rfl,a.c,a.d,a.bg,rfl,a.aQ,a.calm,hc.mono λq _ b=>.inl b,?_,?_⟩⟩
 .have:=h.t.ab hc λhf=>(hx T.aZ (.inl rfl)).2 hf
  unfold k_ at this⊢;rw[←a.c]at this;exact this
 .show aF.D.n=T.n
  rw[a.n,h.n]
 .rintro q (b|b)
  .rcases a.c7 q b with h1|h1
   .exact .inl (.inl h1)
   .exact .inr h1
  .exact .inl (.inr b)
 .rintro q (b|b)
  .rcases a.c7 q b with h1|h1
   .exact .inl (.inl h1)
   .exact .inr h1
  .exact .inl (.inr b)
end
def GM(T:aN)(leaf:ai)(no:Nat)(e:Int):Prop:=
 (e=3/\¬T.C.D.calm 2)\/dQ (no:Int) (T.C.view no)=.error e\/(e=4/\(∃p,dQ (no:Int) (T.C.view no)=.ok p)/\∀n,¬gN T.gen leaf no (T.C.view no) n)
def oF(T:aN)(leaf:ai)(no:Nat)(w:J)(v:aa)(w':J):Prop:=
 ∃aF:b5,bJ w' (T.bm aF T.P)/\bQ T (T.bm aF T.P) w w' 2/\(∀j,aF.view j=T.C.view j)/\
  ((∃ (n:aD) (K V D:Y),v=.tuple #[c2 n K V D,(0:Int)]/\gN T.gen leaf no (T.C.view no) n/\bF (λq=>w.heap.size<=q/\¬(T.bm aF T.P).M q) w' n K V D)\/
    (∃e:Int,v=.tuple #[c2 g_ bk bk bk,e]/\GM T leaf no e/\e≠0))
theorem BZ{no:Int}{l:cX}{e:Int}(h:dQ no l=.error e):e≠0:=by
 intro he;subst he;unfold dQ at h
 repeat' split at h
 all_goals first|(injection h with h;exact absurd h (by decide))|cases h
theorem GN{no:Int}{l:cX}{p:ir}(h:dQ no l=.ok p):p.body.length<=256:=by
 unfold dQ at h
 repeat' split at h
 all_goals first|(cases h;done)|skip
 rename_i h1 _ _ _ _ _;injection h with h
 rw[←h];show(List.take _ (List.drop 24 l)).length<=256;rw[cG,da];omega
theorem vM{w':J}{h:Nat}{vs:O aa}(n g:Int)(s:Y)(a:Var w' h vs 150)(b:vs.length=3){K:J->Prop}(c:∀ah,Var ah h [n,.int .u64 g,s] 150->ad (λq=>q=h) w' ah->ah.heap.size=w'.heap.size->K ah):
 bx w' h [n,.int .u64 g,s]/\(3:Nat)=3/\al (setCells w' h 0 [n,.int .u64 g,s]) K:=by
 refine⟨a.b9 (by rw[b];rfl) ?_,rfl,cr a (us:=[n,.int .u64 g,s]) (by rw[b];rfl) rfl c⟩;intro v a;simp only[cU,eL,eO]at a;rcases a with rfl|rfl|rfl<;>trivial
theorem yg{w:J}{T:aN}(h:bJ w T)(aG:T.C.D.aQ<=999999999){no:Nat}(al:no<T.n)(am:2<=no)(leaf:ai):
 aR aj 196 #[.pointer (some T.aZ),no,leaf] w (oF T leaf no w):=by
 have bb:=h.s.bC;have aH:=h.GL al;refine okF (af.uJ (some T.aZ) (no:Int) leaf) aA.uJ func196 ?_;(delta af.uJ cj cc ak xl U tq bc ag lG z3 br r1 fk g1;dsimp only);refine bh (vs:=[false,(),(),()]) rfl λw1 aI an be=>?_;obtain⟨o,L⟩:∃o,o=λq=>T.G q\/q=w.heap.size:=⟨_,rfl⟩;have ao:o w.heap.size:=by rw[L];exact .inr rfl
 have N:∀q,T.G q->o q:=λq c=>by rw[L];exact .inl c
 have O:∀q,o q->T.G q\/q=w.heap.size:=λq c=>by rw[L]at c;exact c
 have h1:bJ w1 (T.ck T.E o):=h.grow (W:=λ_=>False) an (λ_ h=>h.elim) (λq c=>.inl c) (λq c=>.inr ((O q c).imp id λe=>⟨I,I⟩)) λq c hg=>by
  rcases O q hg with h2|h2
  .exact(h.c8 q c).2.2 h2
  .have:=h.lt (q:=q) (.inr (.inr (.inr (.inl c))));omega
 refine⟨_,rfl,_,h1.cells.1,(F_ h1.ca aG (no:=no) (by rw[h1.n];exact al) am).use ?_⟩;rintro _ m ⟨aF,aJ,R,t,aK⟩;obtain⟨S,aL⟩:=h1.qf (P:=T.P) aJ R (λno bj aM=>by rw[t];exact h1.eo no bj aM);have bf:=R.ab.size;have ap:Var m w.heap.size [false,(),(),()] 202:=aI.ab R.ab λhf=>(h1.ca.inv.e6 _ (.inr (.inr (.inr ao)))).2 hf
 have fin:∀w':J,ad (λq=>q=w.heap.size) m w'->bJ w' (T.bm aF T.P)/\bQ T (T.bm aF T.P) w w' 2:=λw' hc=>by
  refine⟨S.grow (E:=T.E) (G:=T.G) hc (λq e _=>.inr (by rw[e];exact ao)) (λq c=>.inl c) (λq c=>.inr (.inl (N q c))) λq c=>(h.c8 q c).2.2,?_⟩;have aO:=aL.local an (λq c=>.inl c) (λq c=>(O q c).imp id λe=>I) (kh:=T.E) (yf:=T.G) (λq c=>.inl c) N;exact aO.step hc (λq e bg=>I) (λq c=>.inl c) λq c=>.inl c
 have aP:∀ {w':J}{n:aD}{K V D:Y}{B:Nat->Prop},bF (λq=>m.heap.size<=q) w' n K V D->bF (λq=>w.heap.size<=q/\¬(T.bm aF T.P).M q) w' n K V D:=λaS=>by
  refine aS.aY λq _ c=>⟨I,λj=>?_⟩;have:q<m.heap.size:=S.lt (q:=q) (by
   rcases j with j|j|j|j|j
   .exact .inl j
   .exact .inr (.inl j)
   .exact .inr (.inr (.inl j))
   .exact .inr (.inr (.inr (.inl j)))
   .exact .inr (.inr (.inr (.inr (N q j)))))
  omega
 rcases aK with ⟨s,rfl,hs⟩|⟨rfl,aT⟩
 .refine⟨s,0,rfl,λd=>(by cases d),λ_=>(mZ hs.1 hs.2.1 (by show(T.C.view no).length<=1000;rw[aH];omega) _).use ?_⟩
  rintro _ aU ⟨y,F⟩;have aq:=ap.ext F;have bi:=F.size;have aV:(T.ck T.E o).C.view no=T.C.view no:=rfl;rw[aV]at y
  cases g:dQ (no:Int) (T.C.view no) with
  |error e=>
   rw[g]at y;obtain rfl:=y;refine⟨0,0,⟨none,0,0⟩,e,rfl,bh (vs:=[(0:Int),.int .u64 0,()]) rfl λaX X u a0=>?_⟩;refine vM 0 0 ⟨none,0,0⟩ X rfl λf ar v a1=>⟨λ_=>?_,λd=>?_⟩
   .have Z:Var f w.heap.size [false,(),(),()] 202:=(aq.ext u).ab v I
    refine je false bk bk bk Z rfl (Q:=λb K V D ah=>oF T leaf no w (.tuple #[.agg #[b,K,V,D],e]) ah) λl i=>?_;obtain⟨f1,f2⟩:=fin l (cu (W:=λq=>q=w.heap.size) (ad.cJ (Ext.cn (F.trans u) v I)) i λq _ e=>e);exact⟨aF,f1,f2,t,.inr ⟨e,rfl,.inr (.inl g),BZ g⟩⟩
   .have:=BZ g
    simp at d;omega
  |ok p=>
   rw[g]at y;obtain⟨z,rfl,aa,bl⟩:=y;refine⟨p.kind,p.gen,z,0,rfl,bh (vs:=[(0:Int),.int .u64 0,()]) rfl λaX X u a0=>?_⟩;refine vM p.kind p.gen z X rfl λf ar v a1=>⟨λd=>(by cases d),λ_=>aW ?_⟩;have Z:Var f w.heap.size [false,(),(),()] 202:=(aq.ext u).ab v I;have a2:Ext m f:=Ext.cn (F.trans u) v I;have A:Ext m f.drew:=a2.trans (cf _);have ac:Var f.drew w.heap.size [false,(),(),()] 202:=Z.drew;have H:=ar.drew;have a3:=(S.ext A).cells;obtain⟨b,d⟩:∃b,b=aU.heap.size:=⟨_,rfl⟩;rw[←d]at H⊢;have ae:f.drew.cell? b=some (.int .i64 (p.kind:Nat)):=H.cell;have a4:f.drew.cell? (Addr.add b 1)=some (.int .u64 (p.gen:Nat)):=by rw[aw];exact H.cell
   have a5:f.drew.cell? (Addr.add b 2)=some (.slice z.a z.len z.cap):=by rw[aw];exact H.cell
   have bn:m.heap.size<=f.drew.heap.size:=A.size;refine⟨id,_,a4,_,rfl,id,_,a3.2.2.1,λhg=>?_,λhg=>⟨id,_,ae,?_⟩⟩
   .have hg:T.gen<p.gen:=by
     have:(p.gen:Int)>(T.gen:Int):=b8 hg;omega
    refine cq (λb w'=>b=true/\w'=f.drew) (λq c=>⟨λ_=>c _ _ ⟨rfl,rfl⟩,λh=>by cases h⟩) ?_;rintro _ _ ⟨rfl,rfl⟩;refine⟨λ_=>?_,λh=>(by cases h)⟩;refine je false bk bk bk ac rfl (Q:=λb K V D ah=>oF T leaf no w (.tuple #[.agg #[b,K,V,D],(4:Int)]) ah) λl i=>?_;obtain⟨f1,f2⟩:=fin l (cu (W:=λq=>q=w.heap.size) (ad.cJ A) i λq _ e=>e);refine⟨aF,f1,f2,t,.inr ⟨4,rfl,.inr (.inr ⟨rfl,⟨p,g⟩,?_⟩),by decide⟩⟩;rintro n ⟨av,au,ay,_⟩;rw[g]at au;cases au;omega
   .have hg:p.gen<=T.gen:=by
     have:¬(p.gen:Int)>(T.gen:Int):=cv hg;omega
    refine cq (λb w'=>w'=f.drew/\(b=false↔p.kind=(if leaf then 1 else 2))) (λq c=>⟨λh=>c _ _ ⟨rfl,?_⟩,λh=>⟨_,ae,cq (λb w'=>w'=f.drew/\(b=false↔p.kind=(if leaf then 1 else 2))) (λr ax=>⟨λh2=>⟨_,ae,ax _ _ ⟨rfl,?_⟩⟩,λh2=>ax _ _ ⟨rfl,?_⟩⟩) λb w' a6=>c b w' a6⟩⟩) ?_
    .refine⟨λh=>(by cases h),λx=>?_⟩
     rw[x]at h
     cases leaf<;>simp at h
    .cases leaf
     .simp
      exact Int.ofNat_inj
     .simp at h2 h;omega
    .cases leaf
     .simp at h2 h;omega
     .simp at h2
      simp;omega
    rintro bo _ ⟨rfl,x⟩;refine⟨λd=>?_,λd=>⟨_,a5,(pN ((aa.ext (Ext.cn u v I|>.trans (cf _))).src) ?_ ?_ ?_ leaf).use ?_⟩⟩
    .refine je false bk bk bk ac rfl (Q:=λb K V D ah=>oF T leaf no w (.tuple #[.agg #[b,K,V,D],(4:Int)]) ah) λl i=>?_
     obtain⟨f1,f2⟩:=fin l (cu (W:=λq=>q=w.heap.size) (ad.cJ A) i λq _ e=>e);refine⟨aF,f1,f2,t,.inr ⟨4,rfl,.inr (.inr ⟨rfl,⟨p,g⟩,?_⟩),by decide⟩⟩;rintro n ⟨av,au,ay,az,_⟩;rw[g]at au;cases au;rw[x.2 az]at d;cases d
    .exact aa.2.1
    .intro k x
     have:=bd.lt aa k x;have:=u.size;show k<f.heap.size;omega
    .have:=GN g
     omega
    rintro _ a7 ⟨a8,aB⟩;have aC:Ext m a7:=A.trans aB;have aE:=ac.ext aB;rcases a8 with ⟨n,K,V,D,rfl,a9,c9⟩|⟨rfl,a_⟩
    .refine⟨n.leaf,K,V,D,0,rfl,?_⟩
     refine je n.leaf K V D aE rfl (Q:=λb K V D ah=>oF T leaf no w (.tuple #[.agg #[b,K,V,D],(0:Int)]) ah) λl i=>?_;obtain⟨f1,f2⟩:=fin l (cu (W:=λq=>q=w.heap.size) (ad.cJ aC) i λq _ e=>e);refine⟨aF,f1,f2,t,.inl ⟨n,K,V,D,rfl,⟨p,g,hg,x.1 d,a9,am⟩,?_⟩⟩;refine aP (B:=λ_=>True) (bF.ab (c9.aY λq _ c=>?_) i λq c e=>?_)
     .omega
     .have:m.heap.size<=q:=c
      omega
    .refine⟨false,bk,bk,bk,4,rfl,?_⟩
     refine je false bk bk bk aE rfl (Q:=λb K V D ah=>oF T leaf no w (.tuple #[.agg #[b,K,V,D],(4:Int)]) ah) λl i=>?_;obtain⟨f1,f2⟩:=fin l (cu (W:=λq=>q=w.heap.size) (ad.cJ aC) i λq _ e=>e);refine⟨aF,f1,f2,t,.inr ⟨4,rfl,.inr (.inr ⟨rfl,⟨p,g⟩,?_⟩),by decide⟩⟩;rintro n ⟨av,au,ay,az,ba,_⟩;rw[g]at au;cases au;exact a_ n ba
 .refine⟨⟨none,0,0⟩,3,rfl,λ_=>?_,λd=>(by cases d)⟩
  refine je false bk bk bk ap rfl (Q:=λb K V D ah=>oF T leaf no w (.tuple #[.agg #[b,K,V,D],(3:Int)]) ah) λl i=>?_;obtain⟨f1,f2⟩:=fin l i;exact⟨aF,f1,f2,t,.inr ⟨3,rfl,.inl ⟨rfl,aT⟩,by decide⟩⟩
structure dD where
 no:Nat
 n:aD
 cY:Nat
 K:Y
 V:Y
 D:Y
def dD.c(s:dD):O aa:=[s.no,s.n.leaf,s.K,s.V,s.D,s.cY]
def dD.st(s:dD):Nat×aD×Nat:=(s.no,s.n,s.cY)
theorem nj(l:O dD):∀x∈l,(dD.c x).length=6:=λ_ _=>rfl
structure ki(B:Nat->Prop)(w:J)(s:Y)(l:O dD):Prop where
 own:bd 6 232 w s (bV dD.c l)
 oG:∀q,aB s q->B q
 bj:∀x∈l,bF B w x.n x.K x.V x.D
def nk(P:Nat->aq aD)(k:Key):Nat->Nat->O (Nat×aD×Nat)->Prop
 |0,_,l=>l=[]
 |h+1,no,l=>∃n rest,P no=some n/\n.leaf=decide (h=0)/\l=(no,n,if h=0 then 0 else dt n.keys k)::rest/\nk P k h (n.kids.getD (dt n.keys k) 0) rest
theorem nk.length{P:Nat->aq aD}{k:Key}:∀ {h no:Nat}{l:O (Nat×aD×Nat)},nk P k h no l->l.length=h
 |0,_,_,h=>by rw[h];rfl
 |h+1,_,_,⟨n,rest,_,_,a,b⟩=>by rw[a,e8,nk.length b]
theorem gN.uniq{gen no:Nat}{leaf:ai}{l:cX}{n m:aD}(h1:gN gen leaf no l n)(h2:gN gen leaf no l m):n=m:=by
 obtain⟨p,a1,a2,a3,a4⟩:=h1;obtain⟨q,b_,bO,b,a⟩:=h2;rw[a1]at b_
 cases b_;exact lK.uniq a4.1 a.1
theorem gN.is{gen no:Nat}{leaf:ai}{l:cX}{n:aD}(h:gN gen leaf no l n):n.leaf=leaf/\cH n/\bM n<=232:=by
 obtain⟨p,_,_,_,a,_⟩:=h;exact⟨a.2.1,a.1,a.2.2.1⟩
theorem gN.two{gen no:Nat}{leaf:ai}{l:cX}{n:aD}(h:gN gen leaf no l n):2<=no:=by
 obtain⟨p,_,_,_,_,a⟩:=h;exact a
theorem cH.fb{n:aD}(h:cH n):n.keys.Pairwise bK:=by
 rcases h with h|h
 .exact h.fb
 .exact h.fb
def GO(T:aN)(steps:O (Nat×aD×Nat))(w:J)(v:aa)(w':J):Prop:=
 ∃aF:b5,bJ w' (T.bm aF T.P)/\bQ T (T.bm aF T.P) w w' (2*T.aI)/\(∀j,aF.view j=T.C.view j)/\
  ((∃ (s:Y) (l:O dD),v=.tuple #[s,(0:Int)]/\l.map dD.st=steps/\ki (λq=>w.heap.size<=q/\¬(T.bm aF T.P).M q) w' s l)\/(v=.tuple #[(),(3:Int)]/\¬T.C.D.calm (2*T.aI)))
theorem GP(w:J)(cs:Array aa)(h:cs.size=6):Sem.run aj (Instr.buildSlice 228 1 #[(0,.agg cs)]) w=.ok (.slice (some w.heap.size) 1 1) (w.alloc (.cells cs 232)):=by
 have h0:((Tryz.prog.info? 232).bind (·.zero)).isSome=true:=by kernel_rfl
 obtain⟨z,a⟩:=mB.1 h0;obtain⟨i,hi,b⟩:=rM a;have h1:(Tryz.prog.underlying 232).isSome=true:=by kernel_rfl
 obtain⟨d,hd⟩:=mB.1 h1;exact x1 (sz:=6) w (by kernel_rfl) hd (by kernel_rfl) hi b h (by decide) (by decide)
theorem GQ:hM aj 228 232 6 96:=⟨by kernel_rfl⟩
theorem yh{h:Nat}{n:aD}(a:n.leaf=decide (h=0)):((((h+1:Nat):Int):Int)==1)=n.leaf:=by
 rw[a,fY,kn,cS];omega
theorem yi{w:J}{T:aN}{tk:Y}{k:Key}{steps:O (Nat×aD×Nat)}(h:bJ w T)(co:T.C.D.aQ<=900000000)(bz:Src 1 w tk (aJ k))(bB:∀q,aB tk q->q<w.heap.size/\¬T.M q)(bD:nk T.P k T.aI T.root steps):
 aR aj 142 #[.pointer (some T.aZ),tk] w (GO T steps w):=by
 have cp:=h.num.2.1;refine okF (af.ux (some T.aZ) tk) aA.ux func142 ?_;(delta af.ux r1 ak g1 cj U bc ag gy aC st aL av;dsimp only);refine⟨_,rfl,_,h.cells.2.2.2.1,_,rfl,_,h.cells.2.2.2.2,λs n8 n9 w'=>∃ (eT no:Nat) (l:O dD) (rest:O (Nat×aD×Nat)) (bf:Nat->Prop) (aF:b5),n9=(eT:Nat)/\n8=(no:Nat)/\nk T.P k eT no rest/\l.map dD.st++rest=steps/\l.length+eT=T.aI/\
  bf=(λq=>T.E q\/aB s q)/\(∀q,aB s q->w.heap.size<=q)/\bJ w' ((T.ck bf T.G).bm aF T.P)/\bQ T ((T.ck bf T.G).bm aF T.P) w w' (2*l.length)/\(∀j,aF.view j=T.C.view j)/\bd 6 232 w' s (bV dD.c l)/\
  ∀x∈l,bF (λq=>w.heap.size<=q/\¬((T.ck bf T.G).bm aF T.P).M q) w' x.n x.K x.V x.D,λ_ _ n9 _=>n9.toNat,?_,?_⟩
 .have bE:T.E=λq=>T.E q\/aB ⟨none,0,0⟩ q:=by
   funext q;refine propext ⟨.inl,λh=>h.resolve_right ?_⟩;rintro⟨A,ar,_⟩
   cases ar
  have a7:(T.ck T.E T.G).bm T.C T.P=T:=rfl;refine⟨T.aI,T.root,[],steps,T.E,T.C,rfl,rfl,bD,rfl,by simp,bE,?_,by rw[a7];exact h,by rw[a7];exact .refl _ _,λ_=>rfl,?_,λx hx=>(by cases hx)⟩
  .rintro q ⟨A,ar,_⟩
   cases ar
  .exact⟨rfl,bl _,by decide,.inl ⟨rfl,rfl⟩⟩
 have fin:∀ {w':J}{bf:Nat->Prop}{aF:b5}{s:Y}{k:Nat},bJ w' ((T.ck bf T.G).bm aF T.P)->bQ T ((T.ck bf T.G).bm aF T.P) w w' k->bf=(λq=>T.E q\/aB s q)->(∀q,aB s q->w.heap.size<=q)->bJ w' (T.bm aF T.P)/\bQ T (T.bm aF T.P) w w' k:=by
  intro w' bf aF s k h1 h2 g z;have F:∀q,T.E q->bf q:=λq a=>by rw[g];exact .inl a
  exact⟨h1.grow (W:=λ_=>False) (E:=T.E) (G:=T.G) (ad.refl _ _) (λ_ h=>h.elim) (λq a=>.inl (F q a)) (λq a=>.inr (.inl a)) λq a=>(h.c8 q a).2.2,
   h2.step (W:=λ_=>False) (ad.refl _ _) (λ_ h=>h.elim) (λq a=>.inl (F q a)) λq a=>.inl a⟩
 rintro s _ _ cs ⟨eT,no,l,rest,bf,ac,rfl,rfl,a8,a9,hlen,H,L,t,R,f,aq,c9⟩;have ct:=R.ab.size;refine⟨λaK=>?_,λbG=>?_⟩
 .obtain⟨o,rfl⟩:∃bI,eT=bI+1:=⟨eT-1,by have:(eT:Int)>0:=b8 aK;omega⟩
  obtain⟨n,bK,bL,a_,rfl,ba⟩:=a8;obtain⟨bM,S⟩:=t.eo no n bL;have bN:ac.D.aQ<=999999999:=by
   have:ac.D.aQ<=T.C.D.aQ+2*l.length:=R.aQ;omega
  refine(yg t bN bM S.two _).use ?_;rintro _ r ⟨B,h2,ae,bb,be⟩;have ax:=R.trans ae;have cu:=ae.ab.size;rw[yh a_]at be;rcases be with ⟨bC,K,V,D,rfl,bO,az⟩|⟨e,rfl,bP,bR⟩
  .obtain rfl:=gN.uniq S bO
   obtain⟨_,aE,cw⟩:=S.is;have bS:=aE.fb;have cx:=vo aE;refine⟨n.leaf,K,V,D,0,rfl,bh (vs:=[false,(),(),()]) rfl λbT X aG bU=>?_⟩;refine⟨X.b9 rfl ?_,rfl,cr X (us:=[n.leaf,K,V,D]) rfl rfl λah aH aM bW=>⟨λd=>(by cases d),λ_=>?_⟩⟩
   .intro v f
    simp only[cU,eL,eO]at f;rcases f with rfl|rfl|rfl|rfl<;>trivial
   have bg:Ext r ah:=Ext.cn aG aM (bl _);have cy:=bg.size;obtain⟨bX,aC,aU,aO⟩:=bH aH;refine⟨_,bX,K,aC,V,aU,D,aO,#[no,n.leaf,K,V,D,(0:Int)],by kernel_rfl,?_⟩;refine bh (vs:=[(0:Int),false,(),(),(),(0:Int)]) rfl λcA bi bn cB=>?_;refine⟨bi.b9 rfl ?_,rfl,cr bi (us:=[no,n.leaf,K,V,D,(0:Int)]) rfl rfl λaP aS bo cC=>?_⟩
   .intro v f
    simp only[cU,eL,eO]at f;rcases f with rfl|rfl|rfl|rfl|rfl|rfl<;>trivial
   have ai:Ext r aP:=Ext.cn (bg.trans bn) bo I;have aT:Var aP r.heap.size [n.leaf,K,V,D] 202:=(aH.ext bn).ab bo I;obtain⟨sb,bY⟩:∃sb,sb=ah.heap.size:=⟨_,rfl⟩;obtain⟨nb,bZ⟩:∃nb,nb=r.heap.size:=⟨_,rfl⟩;rw[←bY]at aS⊢;rw[←bZ]at aT⊢;have b0:=az.ext ai;refine cq (λn40 u=>n40=(((if o=0 then no else n.kids.getD (dt n.keys k) 0:Nat)):Int)/\Ext r u/\Var u sb (dD.c ⟨no,n,if o=0 then 0 else dt n.keys k,K,V,D⟩) 232) (λq a=>⟨λal=>?_,λal=>?_⟩) ?_
   .have N:o≠0:=by
     have:((o+1:Nat):Int)>1:=b8 al;omega
    have b1:n.leaf=false:=by rw[a_];simp[N]
    have cD:=aE.p7 b1;have cE:=vi n.keys k;obtain⟨bX,aC,aU,aO⟩:=bH aT;have b2:Src 1 aP tk (aJ k):=(bz.ab ax.ab λq a b3=>(bB q a).2 (aN.gl b3)).ext ai;refine⟨_,bX,K,aC,V,aU,D,aO,(nZ b0 b2 bS I).use ?_⟩;rintro _ bp ⟨rfl,aV⟩;have bq:=aS.ext aV;obtain⟨au,ay⟩:=dI bq (i:=5) (by simp);rw[aw];refine⟨_,rfl,au,ay,aW ?_⟩;have br:=dk bp sb 5 (.int .i64 ((dt n.keys k:Nat):Int));have bs:=dN bq (i:=5) (.int .i64 ((dt n.keys k:Nat):Int));have bt:Ext r (bp.setCell ⟨sb,5,none⟩ (.int .i64 ((dt n.keys k:Nat):Int))):=Ext.cn (ai.trans aV) br I;have b4:=(aT.ext aV).ab br I;obtain⟨d0,d1,d2,d3⟩:=bH b4;obtain⟨A,ar,d,b6⟩:=cK.at (az.ext bt).kids (i:=dt n.keys k) I;refine⟨D,d3,_,bs.cell,A,ar,d,_,b6,a _ _ ⟨?_,bt,?_⟩⟩
    .rw[if_neg N,fC,dE I];rfl
    .rw[if_neg N]
     exact bs
   .have N:o=0:=by
     have:¬((o+1:Nat):Int)>1:=cv al;omega
    refine a _ _ ⟨by rw[if_pos N],ai,?_⟩;rw[if_pos N];exact aS
   rintro _ u ⟨rfl,bu,b7⟩;have cF:=bu.size;refine⟨_,b7.rd rfl,⟨some u.heap.size,1,1⟩,_,GP _ _ rfl,?_⟩;have aX:=eS u (.cells (dD.c ⟨no,n,if o=0 then 0 else dt n.keys k,K,V,D⟩).toArray 232);have Q:=bu.trans aX;have b_:=Q.size;have cb:=aX.size;have cc:=aq.1;rw[gM _ (nj l)]at cc;have Z:∀q,aB s q->bf q:=λq a=>by rw[H];exact .inr a
   have cd:bd 6 232 r s (bV dD.c l):=aq.ab ae.ab λq a b=>t.jf (Z q a) b;obtain⟨x,a0⟩:∃x:dD,x=⟨no,n,if o=0 then 0 else dt n.keys k,K,V,D⟩:=⟨_,rfl⟩;rw[←a0]at aX Q b_ cb⊢;have ce:∀v∈dD.c x,Plain v:=by
    intro v f;unfold dD.c at f;simp only[cU,eL,eO]at f;rcases f with rfl|rfl|rfl|rfl|rfl|rfl<;>trivial
   obtain⟨am,an,a1,a2,a3,a4,a5⟩:=GQ.append (cM:=228) (x:=⟨some u.heap.size,1,1⟩) (Src.new (T:=232) u (dD.c x) 1 rfl) (cd.ext Q) ce (by show(2*(s.len+1)+1000)*96<=_;omega);have cG:=a4.size;have a6:∀q,aB am q->w.heap.size<=q:=λq a=>by
    rcases a5 q a with h1|h1
    .exact L q h1
    .omega
   obtain⟨kh,bv⟩:∃kh,kh=λq=>T.E q\/aB am q:=⟨_,rfl⟩;have ao:∀q,kh q->T.E q\/aB am q:=λq a=>by rw[bv]at a;exact a
   have F:∀q,T.E q->bf q:=λq a=>by rw[H];exact .inl a
   have cf:bV dD.c (l++ [x])=bV dD.c l++dD.c x:=by rw[mj];simp[bV]
   have cg:bJ an ((T.ck kh T.G).bm B T.P):=by
    refine(h2.ext Q).grow (E:=kh) (G:=T.G) a4 (λq a _=>.inl (Z q a)) (λq a=>?_) (λq a=>.inr (.inl a)) λq a hg=>?_
    .rcases ao q a with h1|h1
     .exact .inl (F q h1)
     .rcases a5 q h1 with g|g
      .exact .inl (Z q g)
      .exact .inr (.inr ⟨g,bd.lt a2 q h1⟩)
    .rcases ao q a with h1|h1
     .exact(h.c8 q h1).2.2 hg
     .have g:=h.lt (q:=q) (.inr (.inr (.inr (.inr hg))))
      have:=a6 q h1;omega
   have ch:bQ T ((T.ck kh T.G).bm B T.P) w an (2*(l++ [x]).length):=by
    have h1:=(ax.trans (bQ.ext _ Q)).mono (l:=2*(l++ [x]).length) (by rw[cz,jn];omega);refine h1.step (E:=kh) (G:=T.G) a4 (λq a al=>by have:=L q a;omega) (λq a=>?_) λq a=>.inl a;rcases ao q a with h1|h1
    .exact .inl (F q h1)
    .exact .inr (.inr (a6 q h1))
   have bw:∀ {m:aD}{K V D:Y},bF (λq=>w.heap.size<=q/\¬((T.ck bf T.G).bm B T.P).M q) r m K V D->bF (λq=>w.heap.size<=q/\¬((T.ck kh T.G).bm B T.P).M q) an m K V D:=λ{m K V D} b=>by
    have h1:=(b.ext Q).aY (C:=λq=>q<(u.alloc (.cells (dD.c x).toArray 232)).heap.size/\w.heap.size<=q/\¬((T.ck bf T.G).bm B T.P).M q) λq a d=>⟨a,d⟩;refine(bF.ab h1 a4 λq a ci=>a.2.2 (.inr (.inr (.inr (.inl (Z q ci)))))).aY λq _ d=>⟨d.2.1,λb=>d.2.2 ?_⟩;rcases b with b|b|b|b|b
    .exact .inl b
    .exact .inr (.inl b)
    .exact .inr (.inr (.inl b))
    .refine .inr (.inr (.inr (.inl ?_)))
     show bf q;rcases ao q b with g|g
     .exact F q g
     .rcases a5 q g with z|z
      .exact Z q z
      .have:=d.1;omega
    .exact .inr (.inr (.inr (.inr b)))
   have bx:IntKind.wrap .i64 (((o+1:Nat):Int)-1)=(o:Nat):=by rw[bA I I];omega
   refine⟨am,an,a1,⟨o,_,l++ [x],bK,kh,B,bx,rfl,?_,?_,by rw[cz,jn];omega,bv,a6,cg,ch,λj=>(bb j).trans (f j),by rw[cf];exact a2,?_⟩,?_⟩
   .cases o with
    |zero=>exact ba
    |succ m=>rw[if_neg I];exact ba
   .rw[←a9,fZ,cP,a0];rfl
   .intro y aa
    rcases cT.1 aa with aa|aa
    .exact bw (ae.bj (c9 y aa))
    .obtain rfl:=ff.1 aa
     subst a0;exact bw (az.aY λq _ d=>⟨by have:=d.1;omega,d.2⟩)
   .rw[bx]
    show(o:Int).toNat<(((o+1:Nat):Int)).toNat;omega
  .refine⟨false,bk,bk,bk,e,rfl,bh (vs:=[false,(),(),()]) rfl λbT X aG bU=>?_⟩
   refine⟨X.b9 rfl ?_,rfl,cr X (us:=[false,(),(),()]) rfl rfl λah aH aM bW=>⟨λ_=>?_,λd=>?_⟩⟩
   .intro v f
    simp only[cU,eL,eO]at f;rcases f with rfl|rfl|rfl|rfl<;>trivial
   .have hx:Ext r ah:=Ext.cn aG aM (bl _)
    have he:e=3/\¬ac.D.calm 2:=by
     rcases bP with h1|h1|⟨_,_,h1⟩
     .exact h1
     .obtain⟨p,au,_⟩:=S
      rw[au]at h1;cases h1
     .exact absurd S (h1 n)
    obtain⟨rfl,cl⟩:=he;obtain⟨g,z⟩:=fin (k:=2*T.aI) (h2.ext hx) ((ax.trans (bQ.ext _ hx)).mono I) H L;exact⟨B,g,z,λj=>(bb j).trans (f j),.inr ⟨rfl,λhc=>cl (R.calm 2 (gg hc I))⟩⟩
   .simp at d;exact absurd d bR
 .have h0:eT=0:=by
   have:¬(eT:Int)>0:=cv bG;omega
  subst h0;have cm:rest=[]:=a8;subst cm;obtain⟨g,z⟩:=fin (k:=2*T.aI) t (R.mono I) H L;refine⟨ac,g,z,f,.inl ⟨s,l,rfl,by rw[←a9,f_],aq,λq a=>⟨L q a,λb=>?_⟩,λx hx=>?_⟩⟩
  .have cH:=L q a
   have ap:bf q:=by rw[H];exact .inr a
   rcases b with b|b|b|b|b
   .exact(t.ca.inv.e6 q (.inr (.inr (.inl ap)))).2 b
   .exact(t.c8 q ap).1 b
   .exact(t.c8 q ap).2.1 b
   .have:=h.lt (q:=q) (.inr (.inr (.inr (.inl b))));omega
   .exact(t.c8 q ap).2.2 b
  .refine(c9 x hx).aY λq _ d=>⟨d.1,λb=>d.2 ?_⟩
   rcases b with b|b|b|b|b
   .exact .inl b
   .exact .inr (.inl b)
   .exact .inr (.inr (.inl b))
   .refine .inr (.inr (.inr (.inl ?_)))
    show bf q;rw[H];exact .inl b
   .exact .inr (.inr (.inr (.inr b)))
def aN.iP(T:aN)(f:Nat->ai):aN:={T with f:=f}
structure dJ where
 cb:Nat
 ma:Y
 gD:Y
 made:O Nat
 left:O Nat
structure du(w:J)(T:aN)(c:dJ):Prop where
 t:bJ w T
 v:Var w c.cb [.pointer (some T.aZ),c.ma,c.gD] 297
 ma:bd 1 3 w c.ma (ee c.made)
 gD:bd 1 3 w c.gD (ee c.left)
 gc:T.G c.cb
 fz:∀q,aB c.ma q->T.G q/\q≠c.cb/\¬aB c.gD q
 kI:∀q,aB c.gD q->T.G q/\q≠c.cb
 ns:¬T.C.D.ro
theorem yj{w:J}{s:Y}{ds:O Nat}(d:Nat)(b:bd 1 3 w s (ee ds))(i:ds.length<=1000000):
 ∃ (a:Y) (w':J),Sem.run aj (Builtin.append_ #[58,58] 58 #[s,.slice (some w.heap.size) 1 1]) (w.alloc (.cells #[d] 3))=.ok a w'/\
  bd 1 3 w' a (ee (ds++ [d]))/\ad (aB s) w w'/\(∀k,aB a k->aB s k\/w.heap.size<=k)/\ad (aB s) (w.alloc (.cells #[d] 3)) w':=by
 have j:s.len=ds.length:=by have:=b.1;rw[nc]at this;omega
 have hc:Ext w (w.alloc (.cells #[d] 3)):=eS _ _;have l:(w.alloc (.cells #[d] 3)).heap.size=w.heap.size+1:=rJ _ _;obtain⟨a,w',h1,h2,m,c,e⟩:=p6.append (cM:=58) (x:=⟨some w.heap.size,1,1⟩) (Src.new (T:=3) w [d] 1 rfl) (b.ext hc) (λv f=>by rw[ff.1 f];trivial) (by show(2*(s.len+1)+1000)*8<=_;omega);exact⟨a,w',h1,by simpa[ee] using h2,(ad.cJ hc).trans c,λk g=>(e k g).imp id (λh=>I),c⟩
section
variable {w w':J}{T ao:aN}{c:dJ}
theorem du.of{W:Nat->Prop}(h:du w T c)(d:bJ w' ao)(hc:ad W w w')(cd:∀q,T.G q->¬W q)(f:ao.aZ=T.aZ)(b:∀q,T.G q->ao.G q)(g:ao.C.D.bL=T.C.D.bL:=by rfl):du w' ao c:=
 ⟨d,by rw[f];exact h.v.ab hc (cd _ h.gc),h.ma.ab hc λq a=>cd q (h.fz q a).1,h.gD.ab hc λq a=>cd q (h.kI q a).1,b _ h.gc,λq a=>⟨b q (h.fz q a).1,(h.fz q a).2⟩,λq a=>⟨b q (h.kI q a).1,(h.kI q a).2⟩,λe=>h.ns λi=>g▸e i⟩
theorem du.ext(h:du w T c)(hx:Ext w w'):du w' T c:=h.of (h.t.ext hx) hx (λ_ _ h=>h) rfl λ_ h=>h
theorem du.cells(h:du w T c):w.cell? c.cb=some (.pointer (some T.aZ))/\w.cell? (Addr.add c.cb 1)=some (.slice c.ma.a c.ma.len c.ma.cap)/\w.cell? (Addr.add c.cb 2)=some (.slice c.gD.a c.gD.len c.gD.cap):=by
 rw[aw,aw];exact⟨h.v.cell,h.v.cell,h.v.cell⟩
theorem bJ.rX(h:bJ w T){q:Nat}(a:T.G q):¬c4 T.C q:=λhf=>(h.ca.inv.e6 q (.inr (.inr (.inr a)))).2 hf
theorem bJ.vN{f:Nat->ai}(h:bJ w T)(hs:eX w' T.sb T.n f T.g T.s1 T.s2)(hc:ad (fy T.sb T.s1 T.s2) w w'):bJ w' (T.iP f)/\bQ T (T.iP f) w w' 0:=
 ⟨⟨h.t.ab hc h.jx,hs,h.ca.ab hc λq a=>.inr (.inl a),h.jx,h.c8,h.hD,h.n,h.num,h.eo,h.bL,h.low⟩,
  ⟨rfl,rfl,rfl,rfl,rfl,rfl,rfl,rfl,rfl,rfl,bl _,λ_ h=>h,hc.mono λq _ a=>.inr (.inr (.inl a)),λq h=>.inl h,λq h=>.inl h⟩⟩
theorem GR(h:du w T c)(no:Nat)(x:c.made.length<=100000):
 ∃ (b:Y) (ah:J),Sem.run aj (Builtin.append_ #[58,58] 58 #[c.ma,.slice (some w.heap.size) 1 1]) (w.alloc (.cells #[no] 3))=.ok b ah/\
  ad (aB c.ma) (w.alloc (.cells #[no] 3)) ah/\(∃u:aa,ah.cell? ⟨c.cb,1,none⟩=some u)/\ah.frozen? ⟨c.cb,1,none⟩=false/\
  ∀j,j=ah.setCell ⟨c.cb,1,none⟩ b->du j (T.ck T.E λq=>T.G q\/aB b q) {c with ma:=b,made:=c.made++ [no]}/\bQ T (T.ck T.E λq=>T.G q\/aB b q) w j 0:=by
 obtain⟨b,ah,au,ay,d,f,o⟩:=yj no h.ma I;have cd:∀q,aB c.ma q->T.G q:=λq a=>(h.fz q a).1;have y:=d.size;have l:=h.v.ab d λa=>(h.fz _ a).2.1 rfl;obtain⟨bG,bI⟩:=dI l (i:=1) (by simp);refine⟨b,ah,au,o,bG,bI,?_⟩;rintro _ rfl;have g:=dk ah c.cb 1 b;have p:=dN l (i:=1) b;have k:ad T.G w (ah.setCell ⟨c.cb,1,none⟩ b):=cu (d.mono λq _ a=>cd q a) g λq _ e=>by rw[e];exact h.gc
 have z:=k.size;have aK:∀q,aB b q->q<ah.heap.size:=λq a=>bd.lt ay q a;have m:∀q,aB b q->T.G q\/(w.heap.size<=q/\q<(ah.setCell ⟨c.cb,1,none⟩ b).heap.size):=λq a=>by
  rcases f q a with h1|h1
  .exact .inl (cd q h1)
  .exact .inr ⟨h1,by have:=aK q a;have:=g.size;omega⟩
 have n:∀q,aB b q->q≠c.cb:=λq a e=>by
  rcases f q a with h1|h1
  .exact(h.fz q h1).2.1 e
  .have:=h.v.lt;omega
 have r:∀q,aB b q->¬aB c.gD q:=λq a e=>by
  rcases f q a with h1|h1
  .exact(h.fz q h1).2.2 e
  .have:=bd.lt h.gD q e;omega
 have s:=h.t.grow (E:=T.E) (G:=λq=>T.G q\/aB b q) k (λq a _=>.inr a) (λq a=>.inl a) (λq a=>by
  rcases a with a|a
  .exact .inr (.inl a)
  .exact .inr (m q a)) λq a hg=>by
  rcases hg with hg|hg
  .exact(h.t.c8 q a).2.2 hg
  .rcases f q hg with h1|h1
   .exact(h.t.c8 q a).2.2 (cd q h1)
   .have:=h.t.lt (q:=q) (.inr (.inr (.inr (.inl a))));omega
 refine⟨⟨s,p,?_,(h.gD.ab d λq a e=>(h.fz q e).2.2 a).ab g λq a e=>(h.kI q a).2 e,.inl h.gc,λq a=>⟨.inr a,n q a,r q a⟩,λq a=>⟨.inl (h.kI q a).1,(h.kI q a).2⟩,h.ns⟩,?_⟩
 .have:bd 1 3 ah b (ee (c.made++ [no])):=ay
  exact this.ab g λq a e=>n q a e
 .have h0:bQ T T w w 0:=.refl _ _
  exact h0.step k (λq a _=>.inr (.inr (.inr a))) (λq a=>.inl a) λq a=>by
   rcases a with a|a
   .exact .inl a
   .exact(m q a).imp id λe=>e.1
theorem B0(h:du w T c)(no:Nat)(x:c.left.length<=100000):
 ∃ (b:Y) (ah:J),Sem.run aj (Builtin.append_ #[58,58] 58 #[c.gD,.slice (some w.heap.size) 1 1]) (w.alloc (.cells #[no] 3))=.ok b ah/\
  ad (aB c.gD) (w.alloc (.cells #[no] 3)) ah/\(∃u:aa,ah.cell? ⟨c.cb,2,none⟩=some u)/\ah.frozen? ⟨c.cb,2,none⟩=false/\
  ∀j,j=ah.setCell ⟨c.cb,2,none⟩ b->du j (T.ck T.E λq=>T.G q\/aB b q) {c with gD:=b,left:=c.left++ [no]}/\bQ T (T.ck T.E λq=>T.G q\/aB b q) w j 0:=by
 obtain⟨b,ah,au,ay,d,f,o⟩:=yj no h.gD I;have cd:∀q,aB c.gD q->T.G q:=λq a=>(h.kI q a).1;have y:=d.size;have l:=h.v.ab d λa=>(h.kI _ a).2 rfl;obtain⟨bG,bI⟩:=dI l (i:=2) (by simp);refine⟨b,ah,au,o,bG,bI,?_⟩;rintro _ rfl;have g:=dk ah c.cb 2 b;have p:=dN l (i:=2) b;have k:ad T.G w (ah.setCell ⟨c.cb,2,none⟩ b):=cu (d.mono λq _ a=>cd q a) g λq _ e=>by rw[e];exact h.gc
 have z:=k.size;have aK:∀q,aB b q->q<ah.heap.size:=λq a=>bd.lt ay q a;have m:∀q,aB b q->T.G q\/(w.heap.size<=q/\q<(ah.setCell ⟨c.cb,2,none⟩ b).heap.size):=λq a=>by
  rcases f q a with h1|h1
  .exact .inl (cd q h1)
  .exact .inr ⟨h1,by have:=aK q a;have:=g.size;omega⟩
 have n:∀q,aB b q->q≠c.cb:=λq a e=>by
  rcases f q a with h1|h1
  .exact(h.kI q h1).2 e
  .have:=h.v.lt;omega
 have r:∀q,aB c.ma q->¬aB b q:=λq e a=>by
  rcases f q a with h1|h1
  .exact(h.fz q e).2.2 h1
  .have:=bd.lt h.ma q e;omega
 have s:=h.t.grow (E:=T.E) (G:=λq=>T.G q\/aB b q) k (λq a _=>.inr a) (λq a=>.inl a) (λq a=>by
  rcases a with a|a
  .exact .inr (.inl a)
  .exact .inr (m q a)) λq a hg=>by
  rcases hg with hg|hg
  .exact(h.t.c8 q a).2.2 hg
  .rcases f q hg with h1|h1
   .exact(h.t.c8 q a).2.2 (cd q h1)
   .have:=h.t.lt (q:=q) (.inr (.inr (.inr (.inl a))));omega
 refine⟨⟨s,p,(h.ma.ab d λq a e=>(h.fz q a).2.2 e).ab g λq a e=>(h.fz q a).2.1 e,?_,.inl h.gc,λq a=>⟨.inl (h.fz q a).1,(h.fz q a).2.1,r q a⟩,λq a=>⟨.inr a,n q a⟩,h.ns⟩,?_⟩
 .have:bd 1 3 ah b (ee (c.left++ [no])):=ay
  exact this.ab g λq a e=>n q a e
 .have h0:bQ T T w w 0:=.refl _ _
  exact h0.step k (λq a _=>.inr (.inr (.inr a))) (λq a=>.inl a) λq a=>by
   rcases a with a|a
   .exact .inl a
   .exact(m q a).imp id λe=>e.1
end
def cl(T:aN):Nat:=T.n-eY (λi=>T.f i||T.g i) T.n
theorem B1{s t:Nat->ai}:∀ {n:Nat},(∀i,i<n->s i=t i)->eY s n=eY t n
 |0,_=>rfl
 |n+1,h=>by
  unfold eY
  rw[B1 (n:=n) λi hi=>h i I,h n I]
theorem rY{s t:Nat->ai}{k:Nat}(a:s k=false)(ht:t k=true)(he:∀i,i≠k->t i=s i):∀ {n:Nat},k<n->eY t n=eY s n+1
 |0,h=>by omega
 |n+1,h=>by
  unfold eY
  by_cases e:k=n
  .subst e
   rw[B1 (s:=t) (t:=s) (n:=k) λi hi=>he i I,a,ht]
   simp
  .rw[rY a ht he (n:=n) I,he n I]
   omega
theorem B2{t:Nat->ai}:∀ {n:Nat},(∀i,i<n->t i=true)->eY t n=n
 |0,_=>rfl
 |n+1,h=>by
  unfold eY
  rw[B2 (n:=n) λi hi=>h i I,h n I]
  simp
theorem B3{T:aN}(h:1<=cl T):∃no,firstFree (λi=>T.f i||T.g i) T.n=some no:=by
 cases hf:firstFree (λi=>T.f i||T.g i) T.n with
 |some no=>exact⟨no,rfl⟩
 |none=>
  have:=B2 (Gr hf);unfold cl at h;rw[this]at h;omega
structure dv(T ao:aN)(c c':dJ)(m l:O Nat)(w w':J)(k:Nat):Prop where
 to:bQ T ao w w' k
 E:ao.E=T.E
 G:∀q,T.G q->ao.G q
 root:ao.root=T.root
 aI:ao.aI=T.aI
 cb:c'.cb=c.cb
 made:c'.made=c.made++m
 left:c'.left=c.left++l
 bj:m.Nodup
 jQ:∀no∈m,(T.f no||T.g no)=false/\no<T.n
 f:∀no,ao.f no=(T.f no||decide (no∈m))
 eN:∀no,(T.f no||T.g no)=true->ao.P no=T.P no/\ao.C.view no=T.C.view no
 room:cl ao+m.length=cl T
theorem dv.ext{w w':J}(T:aN)(c:dJ)(h:Ext w w'):dv T T c c [] [] w w' 0:=
 ⟨.ext T h,rfl,λ_ h=>h,rfl,rfl,rfl,by simp,by simp,List.nodup_nil,λ_ h=>(by cases h),λno=>by simp,λ_ _=>⟨rfl,rfl⟩,by simp⟩
theorem dv.trans{T ao j:aN}{c c' o:dJ}{m m' l p:O Nat}{w w' r:J}{k s:Nat}(h1:dv T ao c c' m l w w' k)(h2:dv ao j c' o m' p w' r s):dv T j c o (m++m') (l++p) w r (k+s):=by
 have hg:ao.g=T.g:=h1.to.g;have t:ao.n=T.n:=h1.to.n;have hf:∀no,(T.f no||T.g no)=true->(ao.f no||ao.g no)=true:=λno h=>by
  rw[h1.f,hg]
  cases d:T.f no<;>cases i:T.g no<;>simp[d,i]at h⊢
 refine⟨h1.to.trans h2.to,h2.E.trans h1.E,λq h=>h2.G q (h1.G q h),h2.root.trans h1.root,h2.aI.trans h1.aI,h2.cb.trans h1.cb,by rw[h2.made,h1.made,cP],by rw[h2.left,h1.left,cP],?_,λno h=>?_,λno=>?_,λno h=>?_,?_⟩
 .rw[oQ]
  refine⟨h1.bj,h2.bj,λa u b v e=>?_⟩;subst e;have:=(h2.jQ a v).1;rw[h1.f]at this;simp[u]at this
 .rcases cT.1 h with h|h
  .exact h1.jQ no h
  .have d:=h2.jQ no h
   rw[h1.f,hg,t]at d;refine⟨?_,d.2⟩
   cases x:T.f no<;>cases y:T.g no<;>simp[x,y]at d⊢
 .rw[h2.f,h1.f]
  simp only[cT,Bool.decide_or,Bool.or_assoc]
 .have d:=h2.eN no (hf no h)
  have i:=h1.eN no h;exact⟨d.1.trans i.1,d.2.trans i.2⟩
 .have:=h1.room
  have:=h2.room;rw[cz];omega
theorem dv.mono{T ao:aN}{c c':dJ}{m l:O Nat}{w w':J}{k j:Nat}(h:dv T ao c c' m l w w' k)(a:k<=j):dv T ao c c' m l w w' j:=⟨h.to.mono a,h.E,h.G,h.root,h.aI,h.cb,h.made,h.left,h.bj,h.jQ,h.f,h.eN,h.room⟩
def B4(T:aN)(c:dJ)(n:aD)(w:J)(v:aa)(w':J):Prop:=
 ∃ (no:Nat) (ao:aN) (c':dJ),du w' ao c'/\dv T ao c c' [no] [] w w' 1/\
  ((v=.tuple #[no,(0:Int)]/\ao.P no=some n)\/(v=.tuple #[no,(3:Int)]/\¬T.C.D.calm 1))
theorem cH.eB{n:aD}(h:cH n)(h2:bM n<=400):n.keys.length<=200/\n.vals.length<=200/\n.kids.length<=201:=by
 have:=vo h;rcases h with h|h
 .have:=h.len
  have a:n.kids.length=0:=by rw[h.kids];rfl
  omega
 .have:=h.len
  have a:n.vals.length=0:=by rw[h.vals];rfl
  omega
theorem vO{B:Nat->Prop}{w:J}{T:aN}{c:dJ}{n:aD}{K V D:Y}(h:du w T c)(bf:T.C.D.aQ<=900000100)(W:1<=cl T)(bg:c.made.length<=1000)(aG:bF B w n K V D)(hs:cH n)(h2:bM n<=232):
 aR aj 283 #[.pointer (some c.cb),c2 n K V D] w (B4 T c n w):=by
 obtain⟨no,X⟩:=B3 W;obtain⟨u,y,_⟩:=BN X;have H:=h.t.s.bC;have bi:=hs.eB I;refine okF (af.u4 (some c.cb) n.leaf K V D) aA.u4 func283 ?_;(delta af.u4 bc U ag cc ak eP st br aC;dsimp only);refine bh (vs:=[n.leaf,K,V,D]) rfl λw1 Z ac bk=>?_;obtain⟨bX,aC,aU,aO⟩:=bH Z;refine⟨_,bX,K,aC,V,aU,D,aO,(pS (aG.ext ac) I I I).use ?_⟩;rintro _ aH ⟨aI,ae⟩;rcases aI with ⟨s,rfl,aK,aL,_,_⟩|⟨e,rfl,he,aM⟩
 rotate_left
 .have:=aM hs;omega
 have L:=ac.trans ae;have r:=h.ext L;refine⟨s,0,rfl,λd=>(by cases d),λ_=>⟨_,rfl,_,r.cells.1,_,rfl,_,r.t.cells.2.1,(BP r.t.s).use ?_⟩⟩;rintro _ aP ⟨rfl,gj,ah⟩;rw[X]at gj⊢;obtain⟨aS,M⟩:=r.t.vN gj ah;have ai:du aP (T.iP (dn T.f no true)) c:=r.of aS ah (λq a hf=>(h.t.hD q a).2 hf) rfl λ_ h=>h;refine⟨(no:Nat),0,rfl,λd=>(by cases d),λ_=>⟨_,rfl,_,ai.cells.2.1,?_⟩⟩;obtain⟨z,al,au,ay,aT,aV,aX⟩:=GR ai no I;refine aW ⟨z,al,au,_,rfl,by rw[aw];exact aT,by rw[aw];exact aV,aW ?_⟩;rw[aw];obtain⟨o,am⟩:∃o,o=al.setCell ⟨c.cb,0+1,none⟩ z:=⟨_,rfl⟩;rw[←am];obtain⟨A,O⟩:=aX o am;obtain⟨an,bn⟩:∃an,an=λq=>T.G q\/aB z q:=⟨_,rfl⟩;have ap:∀q,T.N q->q<w.heap.size:=λq a=>h.t.lt (aN.gl a);have bo:=L.size;have bp:=M.ab.size;have bq:=O.ab.size;have ar:ad T.N aH o:=M.ab.trans O.ab;have aY:Var o w.heap.size [n.leaf,K,V,D] 202:=(Z.ext ae).ab ar λa=>by have:=ap _ a;omega
 have aZ:bd 1 5 o s (aJ (jv n)):=aK.ab ar λq a a0=>by have:=ap _ a0;have:=aL q a;omega
 have hlen:=xG hs;have H:2<=no:=by
  have e:(T.f no||T.g no)=false:=y;have F:T.g no=false:=by cases hg:T.g no<;>simp_all
  have:=h.t.low;rcases dO no 2 with Q|Q
  .rcases ny no with av|av
   .rw[av,this.1]at F;cases F
   .rw[show no=1 from I,this.2]at F;cases F
  .exact Q
 have R:m9 ⟨if n.leaf then 1 else 2,T.gen,jv n⟩:=by
  refine⟨?_,?_,h.t.num.2.2,by show(jv n).length<=232;omega⟩
  .show 1<=(if n.leaf then 1 else 2);split<;>omega
  .show(if n.leaf then 1 else 2)<=4;split<;>omega
 refine cq (λn27 a1=>n27=((if n.leaf then 1 else 2:Nat):Int)/\a1=o) (λq a=>⟨n.leaf,aY.cell,λd=>a _ _ ⟨by rw[d];rfl,rfl⟩,λd=>a _ _ ⟨by rw[d];rfl,rfl⟩⟩) ?_;rintro _ _ ⟨rfl,rfl⟩;refine⟨_,rfl,_,A.cells.1,_,rfl,_,A.t.cells.2.2.1,(vz (no:=no) (p:=⟨if n.leaf then 1 else 2,T.gen,jv n⟩) aZ.src I R).use ?_⟩;rintro _ bs ⟨s2,rfl,ax,az,a2⟩;have l:=A.ext az;refine⟨s2,0,rfl,λd=>(by cases d),λ_=>⟨_,rfl,_,l.cells.1,_,rfl,_,l.t.cells.1,(BG l.t.ca (by show T.C.D.aQ<=999999999;omega) (no:=no) (by rw[l.t.n];exact u) H (λhs=>by have:=l.t.bL no hs;have e:(T.f no||T.g no)=false:=y;rcases this with this|this;(rw[show T.g no=true from this,Bool.or_true]at e;cases e);exact l.ns this) ax.src (rH no R) λq a=>⟨bd.lt ax q a,λhf=>?_⟩).use ?_⟩⟩
 .have:=a2 q a
  have:=A.t.lt (q:=q) (.inl hf);omega
 rintro _ a3 ⟨aF,a4,S,a5⟩;have a6:∀j,dn T.f no true j=(T.f j||decide (j∈ [no])):=λj=>by
  unfold dn;by_cases e:j=no
  .subst e;simp
  .simp[e]
 have aE:(T.f no||T.g no)=false:=y;have a7:T.n-eY (λi=>dn T.f no true i||T.g i) T.n+1=cl T:=by
  have:=rY (s:=λi=>T.f i||T.g i) (t:=λi=>dn T.f no true i||T.g i) (k:=no) y (by simp[dn]) (λi hi=>by simp[dn,hi]) u;unfold cl at W⊢;have Q:=mn (λi=>T.f i||T.g i) T.n;omega
 have main:∀ (P':Nat->aq aD) (v:aa),(∀j,j≠no->P' j=T.P j)->(∀j,j≠no->aF.view j=T.C.view j)->(∀j bj,P' j=some bj->j<T.n/\gN T.gen bj.leaf j (aF.view j) bj)->
  ((v=.tuple #[no,(0:Int)]/\P' no=some n)\/(v=.tuple #[no,(3:Int)]/\¬T.C.D.calm 1))->B4 T c n w v a3:=by
  intro P' v a8 dR a9 m;obtain⟨a_,ba⟩:=l.t.qf (P:=P') a4 S a9;have bb:=l.of (ao:=((T.iP (dn T.f no true)).ck T.E λq=>T.G q\/aB z q).bm aF P') a_ S.ab (λq a=>l.t.rX a) rfl (λ_ h=>h) S.bL;refine⟨no,_,_,bb,⟨?_,rfl,λq a=>.inl a,rfl,rfl,rfl,rfl,(f_ _).symm,by simp,λx hx=>?_,a6,λj b=>?_,a7⟩,m⟩
  .have:=(((bQ.ext T L).trans M).trans O).trans ((bQ.ext _ az).trans ba)
   exact this.mono I
  .obtain rfl:=ff.1 hx
   exact⟨aE,u⟩
  .have:j≠no:=λe=>by rw[e,aE]at b;cases b
   exact⟨a8 j this,dR j this⟩
 rcases a5 with ⟨rfl,m⟩|⟨rfl,be,m⟩
 .refine⟨0,rfl,main (λj=>if j=no then some n else T.P j) _ (λj b=>if_neg b) (λj b=>(m j).trans (if_neg b)) (λj bj b=>?_) (.inl ⟨rfl,if_pos rfl⟩)⟩
  by_cases e:j=no
  .subst e
   rw[if_pos rfl]at b
   cases b;rw[m,if_pos rfl];exact⟨u,_,vu I R,bl _,rfl,⟨hs,rfl,h2,rfl⟩,H⟩
  .rw[if_neg e]at b
   rw[m,if_neg e];exact h.t.eo j bj b
 .refine⟨3,rfl,main T.P _ (λ_ _=>rfl) (λj _=>m j) (λj bj b=>?_) (.inr ⟨rfl,be⟩)⟩
  rw[m];exact h.t.eo j bj b
end Go.Proofs.YtkdhdlfonmgheaaGreat
