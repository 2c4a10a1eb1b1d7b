/- Contracts of the functions that the statement reaches, and the plain laws over them; each theorem stands with its conditions. -/
import Derived.OpenShut
import Derived.Test.YtkdhdlfonmgheaaGreatRows
import Derived.Test.YtkdhdlfonmgheaaGreatBSpoilt2
namespace Go.Proofs.YtkdhdlfonmgheaaGreat
open Go a_ Go.Proofs.Tryz
def a6.dc(D:a6)(i:Nat):O cJ:=match D.waits.find? λx=>x.i==i with
 |some x=>x.secs
 |none=> []
theorem vS(D:a6)(h:∀x∈D.waits,x.secs≠ [])(i:Nat):D.now i=if D.dc i=[] then D.aZ.getD i [] else (D.dc i).getLastD []:=by
 unfold a6.now a6.dc
 cases hf:D.waits.find? λx=>x.i==i with
 |some x=>
  have hx:=iA hf;simp only;rw[if_neg (h x hx)]
 |none=>simp
def a6.calm(D:a6)(k:Nat):Prop:=(D.cl.getD 1 0= -1\/(k:Int)<=D.cl.getD 1 0)/\(D.cl.getD 2 0= -1\/(k:Int)<=D.cl.getD 2 0)
def a6.j8(D:a6):Int->Prop:=λn=>(∀j,D.bK j=true)->D.writes=n
def a6.ro(D:a6):Prop:=∀i,D.bK i=true
def a6.key(D:a6):(O cJ×(Nat->aj)×(Nat->O cJ)×(Int->Prop))×Int:=((D.aZ,D.bK,D.er,D.j8),D.cl.getD 3 0)
theorem ct{W V:Nat->Prop}{w w' c:J}(h1:ab W w w')(a:ab V w' c)(h:∀q,q<w.heap.size->V q->W q):ab W w c:=
 ⟨a.os.trans h1.os,a.tape.trans h1.tape,a.output.trans h1.output,ey h1.size a.size,λk b cd=>(a.block k (fO b h1.size) λd=>cd (h k b d)).trans (h1.block k b cd)⟩
theorem ga{D:a6}{k l:Nat}(h:D.calm k)(a:l<=k):D.calm l:=⟨h.1.imp id λh=>I,h.2.imp id λh=>I⟩
theorem jL{D:a6}{k m:Nat}(d:k=1\/k=2)(g:D.cl.length=4)(h:D.calm (m+1)):(D.cz k).calm m/\D.fS k=false:=by
 obtain⟨h1,a⟩:=h;have e:1<D.cl.length:=by omega
 have f:2<D.cl.length:=by omega
 rcases d with rfl|rfl
 .have b:(D.cz 1).cl.getD 1 0=(gA (D.cl.getD 1 0)).2:=by
   show(D.cl.set 1 _).getD 1 0=_;rw[eu (by rw[cY];omega),hJ]
  have c:(D.cz 1).cl.getD 2 0=D.cl.getD 2 0:=by
   show(D.cl.set 1 _).getD 2 0=_;rw[eu (by rw[cY];omega),fA I,eu f]
  unfold a6.calm a6.fS;rw[b,c];unfold gA;rcases h1 with h1|h1
  .rw[if_pos h1]
   exact⟨⟨.inl rfl,a.imp id λh=>I⟩,rfl⟩
  .rw[if_neg I,if_neg I]
   exact⟨⟨.inr (by show(m:Int)<=_-1;omega),a.imp id λh=>I⟩,rfl⟩
 .have b:(D.cz 2).cl.getD 2 0=(gA (D.cl.getD 2 0)).2:=by
   show(D.cl.set 2 _).getD 2 0=_;rw[eu (by rw[cY];omega),hJ]
  have c:(D.cz 2).cl.getD 1 0=D.cl.getD 1 0:=by
   show(D.cl.set 2 _).getD 1 0=_;rw[eu (by rw[cY];omega),fA I,eu e]
  unfold a6.calm a6.fS;rw[b,c];unfold gA;rcases a with a|a
  .rw[if_pos a]
   exact⟨⟨h1.imp id λh=>I,.inl rfl⟩,rfl⟩
  .rw[if_neg I,if_neg I]
   exact⟨⟨h1.imp id λh=>I,.inr (by show(m:Int)<=_-1;omega)⟩,rfl⟩
theorem qm(D:a6){k:Nat}(a:k=1\/k=2):(D.cz k).key=D.key:=by
 unfold a6.key a6.cz;rcases a with rfl|rfl<;>simp[eX]<;>rfl
theorem x7{sz:Nat}{w:J}{s:U}{α:Type}{c:α->O aa}{l:O α}(h:Src sz w s (bE c l))(hc:∀x∈l,(c x).length=sz)(e:0<sz){i:Nat}(hi:i<l.length):
 s.len=l.length/\∃A,s.a=some A/\cL w (A.add (i*sz)) 0 sz=some (c l[i]):=by
 have b:s.len=l.length:=by
  have:=h.len;rw[gn l hc]at this;exact(Nat.eq_of_mul_eq_mul_right e this).symm
 refine⟨b,?_⟩
 cases d:s.a with
 |none=>
  have:=congrArg List.length (h.nil d);rw[gn l hc,jE]at this;have:l.length*sz≠0:=Nat.mul_ne_zero I I;omega
 |some A=>
  refine⟨A,rfl,?_⟩;have f:i*sz+sz<=s.len*sz:=by
   rw[b,←Nat.succ_mul];exact lX _ hi
  rw[Aw (h.rd A d) f,Bq hc hi]
def qn:O aa:=aF (List.replicate 256 0)
def x8(D:a6)(i:Nat)(w:J)(v:aa)(w':J):Prop:=v=.agg (aF (D.now i)).toArray/\Ext w w'
theorem Bs{w:J}{D:a6}(h:b_ w D){i:Nat}(hi:i<D.n)(R:D.aN<=1000000000):
 aP ai 137 #[.pointer (some D.d),i] w (x8 D i w):=by
 have S:=h.bp;have f:=h.oM hi;refine okF (af.uH (some D.d) (i:Int)) ay.uH func137 ?_;(delta af.uH z4 ak av xt Y ag tw;dsimp only);refine bh (vs:=qn) (by kernel_rfl) λw1 g u _=>?_;have hd:=h.ext u;refine⟨_,rfl,some D.mr,hd.ba,?_⟩;have y:qn.length=256:=by rw[qn,dV,mQ]
 have fin:∀ (K:O aa->J->Prop),(∀a,Ext w a->K (aF (D.now i)) a)->bA w1 w.heap.size (Array.toList (aF (D.now i)).toArray)/\Array.size (aF (D.now i)).toArray=256/\al (setCells w1 w.heap.size 0 (Array.toList (aF (D.now i)).toArray)) λa=>∃b:O aa,cL a w.heap.size 0 256=some b/\K b a:=by
  intro K E;refine⟨g.cc (by rw[qX,dV,f,y]) (by rw[qX];exact k8 _),by simp[dV,f],cy g (us:=aF (D.now i)) (by rw[dV,f,y]) rfl λa F G _=>⟨_,F.rd (by rw[dV,f]),E a (Ext.cu u G (bo _))⟩⟩
 cases hf:D.waits.find? λx=>x.i==i with
 |some x=>
  have hx:=iA hf;have H:x.i=i:=by
   have:=jX hf;exact eq_of_beq this
  have j:=hd.m.tj mv kG (k:=(i:Int)) (v:=x.s) (dv.2 ⟨x,hx,by unfold dB.e;rw[H]⟩) false;have L:=(h.wn x hx).1;have hlen:0<x.secs.length:=sC.2 L;have T:=(h.wn x hx).2.2;obtain⟨z,A,ar,p⟩:=x7 (hd.ws x hx).src (λs hs=>by rw[dV];exact h.je x hx s hs) (by decide) (i:=x.secs.length-1) I;have q:D.now i=x.secs[x.secs.length-1]'I:=by
   unfold a6.now;rw[hf];show x.secs.getLastD []=_;rw[List.getLastD_eq_getLast?,List.getLast?_eq_getElem?,c_ I];rfl
  refine⟨x.s,w1,j,λ_=>⟨A,ar,?_⟩,λr=>?_⟩
  .rw[z,bu (n:=(x.secs.length:Int)-1) I I]
   have M:Int.toNat ((x.secs.length:Int)-1)=x.secs.length-1:=by omega
   rw[M];refine⟨⟨I,I⟩,_,p,?_⟩;rw[←q];exact fin (λb a=>x8 D i w (.agg b.toArray) a) λa t=>⟨rfl,t⟩
  .have:=cr r
   omega
 |none=>
  obtain⟨U,h1,N⟩:=qk x4;have j:=hd.m.xf mv kG (k:=(i:Int)) h1 N (λv g=>by
   obtain⟨x,hx,he⟩:=dv.1 g;have P:=ig.1 hf x hx;unfold dB.e at he;simp only[Prod.mk.injEq]at he;apply P;have:x.i=i:=by omega
   rw[this];simp) false
  have B:i<D.aZ.length:=hi;have q:D.now i=D.aZ[i]:=by
   unfold a6.now;rw[hf];exact eu B
  have Q:Src 256 w1 ⟨some D.lb,D.aZ.length,D.aZ.length⟩ (bE aF D.aZ):=by
   have C:=gn (c:=aF) (sz:=256) D.aZ λs hs=>by rw[dV];exact h.sl s hs
   have:=bq.rp (sz:=256) (o:=0) (n:=D.aZ.length) (cap:=D.aZ.length) hd.l (by simp[C]);rw[lu,qX,dI (by rw[C];exact bo _)]at this;exact this
  obtain⟨z,A,ar,p⟩:=x7 Q (λs hs=>by rw[dV];exact h.sl s hs) (by decide) B;refine⟨⟨none,0,0⟩,w1,j,λr=>by simp at r,λ_=>⟨_,rfl,_,hd.de,A,ar,⟨I,by show(i:Int)<(D.aZ.length:Int);omega⟩,_,p,?_⟩⟩;rw[←q];exact fin (λb a=>x8 D i w (.agg b.toArray) a) λa t=>⟨rfl,t⟩
def F1(D:a6)(i:Nat)(w:J)(v:aa)(w':J):Prop:=
 b_ w' (D.cz 1)/\ab (λq=>q=D.d) w w'/\
  ((D.fS 1=true/\v=.tuple #[(),(3:Int)])\/
   (D.fS 1=false/\∃s:U,v=.tuple #[s,(0:Int)]/\a7 (λq=>w.heap.size<=q) w' s (D.now i)))
theorem x9{w:J}{D:a6}(h:b_ w D){i:Nat}(hi:i<D.n)(x:D.aN<=1000000000):
 aP ai 114 #[.pointer (some D.d),i] w (F1 D i w):=by
 refine okF (af.uA (some D.d) (i:Int)) ay.uA func114 ?_;(delta af.uA aK ak tx gl z4 Y;dsimp only);refine(x5 h _).use ?_;rintro _ _ ⟨rfl,rfl⟩;refine⟨_,rfl,λa=>?_,λ_=>⟨_,rfl,(x6 h (k:=1) (by decide)).use ?_⟩⟩
 .have a:¬(0<=(i:Int)/\(i:Int)<D.n):=by simpa using a
  omega
 rintro _ ah ⟨rfl,b,j,z⟩;refine⟨_,rfl,λa=>⟨b,j,.inl ⟨a,rfl⟩⟩,λa=>(Bs b (i:=i) hi x).use ?_⟩;rintro _ m ⟨rfl,g⟩;have f:=h.oM hi;refine⟨_,rfl,bh (vs:=qn) (by kernel_rfl) λB p r C=>⟨p.cc (by rw[qX,dV];show(D.now i).length=_;rw[f,qn,dV,mQ]) (by rw[qX];exact k8 _),by rw[sK,dV];exact f,cy p (us:=aF (D.now i)) (by rw[dV,f,qn,dV,mQ]) rfl λE s t F=>?_⟩⟩;have G:=g.size;have aH:D.d<ah.heap.size:=b.v.lt;refine⟨(b.ext (g.trans r)).ad t (λq u e=>by have:=b.lt u;omega),ct (j.trans (ab.cK (g.trans r))) t λq u e=>I,.inr ⟨a,⟨some m.heap.size,256,256⟩,rfl,?_,bo _,λk y=>?_⟩⟩
 .have:=s.AV (o:=0) (n:=256) (c:=256) (l:=D.now i) (by rw[dV,f];decide) (by rw[lu,dI (by rw[dV,f];decide)])
  exact this
 .obtain⟨A,ar,rfl⟩:=y
  cases ar;have:=s.lt;exact⟨by show w.heap.size<=m.heap.size;omega,this⟩
theorem Bt:∀ (l:O aa) (k:Nat) (a:Array aa),(l.zipIdx k).foldl (λcs (p:aa×Nat)=>cs.setIfInBounds p.2 p.1) a=gH a k l
 | [],_,_=>rfl
 |v::l,k,a=>by
  rw[List.zipIdx_cons,List.foldl_cons]
  exact Bt l (k+1) (a.setIfInBounds k v)
theorem x_{P:Program}{T e:TypeId}{d:TypeDesc}{i:TypeInfo}{z:aa}{sz:Nat}{cs:Array aa}(w:J)(h1:P.underlying T=some (.slice e))(f:P.underlying e=some d)(g:P.cellsOf e=sz)(hi:P.info? e=some i)(h:i.zero=some z)(a:cs.size=sz)(q:sz≠0)(r:sz<=16777216):
 Sem.run P (Instr.buildSlice T 1 #[(0,.agg cs)]) w=.ok (.slice (some w.heap.size) 1 1) (w.alloc (.cells cs e)):=by
 have b:=iC (P:=P) (w:=w) f;rw[g]at b;have k:Instr.fill (λi=>some (i*sz,sz)) ((Array.range (1*sz)).map λx=>z.cells[x%z.cells.size]!) [(0,.agg cs)]=some cs:=by
  have hc:(Value.agg cs).cells=cs:=rfl;rw[Instr.fill];simp only[hc];rw[if_neg (by simp[a]),Instr.fill];rw[←Array.foldl_toList,Array.toList_zipIdx];have e:(λ(cs:Array aa) (x:aa×Nat)=>match x with|(c,j)=>cs.setIfInBounds (0*sz+j) c)=λcs (p:aa×Nat)=>cs.setIfInBounds p.2 p.1:=by
   funext cs x;obtain⟨c,j⟩:=x;simp
  rw[e,Bt]
  congr 1
  apply Array.toList_inj.1;rw[lD _ _ _ (by simp[a])];simp[a]
 have l:=mR (w:=w) hi;have m:¬(1*sz>2^24):=by
  have:(2:Nat)^24=16777216:=rfl;omega
 have n:¬(1*sz=0):=by omega
 have o:Instr.fill (λi=>some (i*sz,sz)) ((Array.range (1*sz)).map λx=>z.cells[x%z.cells.size]!) (#[(0,Value.agg cs)]:Array (Nat×aa)).toList=some cs:=k;simp only[Instr.buildSlice,Sem.run_bind,dm h1,b,Result.andThen,m,n,if_false,zeroValue,l,h,Sem.run_pure,o];simp[newRow,newObj,Sem.run]
theorem Bu(w:J)(l:cJ)(a:l.length=256):
 Sem.run ai (Instr.buildSlice 136 1 #[(0,.agg (aF l).toArray)]) w=.ok (.slice (some w.heap.size) 1 1) (w.alloc (.cells (aF l).toArray 182)):=by
 have h:((Tryz.prog.info? 182).bind (·.zero)).isSome=true:=by kernel_rfl
 obtain⟨z,b⟩:=mH.1 h;obtain⟨i,hi,c⟩:=qk b;exact x_ (d:=.array 256 5) (sz:=256) w (by kernel_rfl) (by kernel_rfl) (by kernel_rfl) hi c (by rw[sK,dV,a]) (by decide) (by decide)
theorem F2:hM ai 136 182 256 256:=⟨by kernel_rfl⟩
def a6.put(D:a6)(i:Nat)(s:U)(l:cJ):a6:=
 {D.cz 2 with waits:=⟨i,s,D.dc i++ [l]⟩::D.waits.filter (λx=>x.i !=i),writes:=IntKind.wrap .i64 (D.writes+1),aN:=D.aN+1}
theorem Bv{D:a6}{i j:Nat}(h:j≠i):(D.waits.filter λx=>x.i !=i).find? (λx=>x.i==j)=D.waits.find? λx=>x.i==j:=by
 rw[List.find?_filter]
 congr 1
 funext x;by_cases e:x.i=j
 .rw[e];simp[h]
 .simp[e]
theorem Bw(D:a6)(i:Nat)(s:U)(l:cJ)(j:Nat):(D.put i s l).dc j=if j=i then D.dc i++ [l] else D.dc j:=by
 unfold a6.dc a6.put;by_cases h:j=i
 .subst h
  simp[a6.dc]
 .rw[if_neg h]
  simp only;rw[List.find?_cons_of_neg (by simp;omega),Bv h]
theorem oN(D:a6)(i:Nat)(s:U)(l:cJ)(j:Nat):(D.put i s l).now j=if j=i then l else D.now j:=by
 unfold a6.now a6.put;by_cases h:j=i
 .subst h
  simp
 .rw[if_neg h]
  simp only;rw[List.find?_cons_of_neg (by simp;omega),Bv h];rfl
def Bx(D:a6)(i:Nat)(l:cJ)(w:J)(v:aa)(w':J):Prop:=
 (D.fS 2=true/\v=.int .i64 3/\b_ w' (D.cz 2)/\ab (λq=>q=D.d) w w')\/
 (D.fS 2=false/\v=.int .i64 0/\∃s:U,b_ w' (D.put i s l)/\ab (bD D) w w'/\∀q,az s q->bD D q\/w.heap.size<=q)
theorem vT{w:J}{D:a6}{b:U}{l:cJ}(h:b_ w D){i:Nat}(hi:i<D.n)(bh:D.aN<=1000000000)(Z:Src 1 w b (aF l))(H:l.length=256)(hd:∀q,az b q->¬bD D q):
 aP ai 75 #[.pointer (some ⟨D.d,0,none⟩),.int .i64 ((i:Nat):Int),.slice b.a b.len b.cap] w (Bx D i l w):=by
 have aC:=len8 Z;have bi:=h.bp;refine okF (af.uh (some ⟨D.d,0,none⟩) ((i:Nat):Int) b) ay.uh func75 ?_;(delta af.uh aK ak xm r1 st av;dsimp only);refine(x5 h _).use ?_;rintro _ _ ⟨rfl,rfl⟩;have aU:decide (0<=(i:Int)/\(i:Int)<D.n)=true:=dw ⟨I,I⟩;refine⟨_,rfl,λh1=>?_,λ_=>⟨_,rfl,(x6 h (k:=2) (by decide)).use ?_⟩⟩
 .rw[aU,aC,H]at h1
  simp at h1
 rintro _ ah ⟨rfl,K,ac,bj⟩;refine⟨_,rfl,λag=>.inl ⟨ag,rfl,K,ac⟩,λag=>aS ?_⟩;obtain⟨p,hold⟩:∃p:U,(match D.waits.find? λx=>x.i==i with|some x=>x.s|none=>⟨none,0,0⟩)=p:=⟨_,rfl⟩;have t:=K.ext (b6 ah);have aV:Src 1 ah.drew b (aF l):=(Z.ad ac λq f e=>hd q f (.inl e)).ext (b6 ah)
 have aW:a8 256 182 ah.drew p (bE aF (D.dc i))/\(∀q,az p q->bD D q/\q≠D.d/\q≠D.lb/\q≠D.mr)/\(∀x∈D.waits,x.i≠i->∀q,az x.s q->¬az p q)/\(D.dc i).length<=D.aN/\(∀s∈D.dc i,s.length=256)/\
  ∀w':J,eo w' D.mr encZ (D.waits.map dB.e)->Sem.run ai (Instr.lookup 137 (.map (some D.mr)) (.int .i64 ((i:Nat):Int)) false) w'=.ok (.slice p.a p.len p.cap) w':=by
  cases hf:D.waits.find? λx=>x.i==i with
  |some x=>
   rw[hf]at hold;have hold:x.s=p:=hold;subst hold;have hx:=iA hf;have V:x.i=i:=by
    have:=jX hf;exact eq_of_beq this
   have e:D.dc i=x.secs:=by unfold a6.dc;rw[hf]
   rw[e];refine⟨t.ws x hx,λq f=>⟨.inr (.inr (.inr ⟨x,hx,f⟩)),λe=>(h.a2 x hx).1 (e▸f),λe=>(h.a2 x hx).2.1 (e▸f),λe=>(h.a2 x hx).2.2 (e▸f)⟩,λy r z=>h.a3 y r x hx I,(h.wn x hx).2.2,h.je x hx,λw' L=>L.tj mv kG (k:=(i:Int)) (v:=.slice x.s.a x.s.len x.s.cap) (dv.2 ⟨x,hx,by unfold dB.e;rw[V]⟩) false⟩
  |none=>
   rw[hf]at hold;have hold:(⟨none,0,0⟩:U)=p:=hold;subst hold;have e:D.dc i=[]:=by unfold a6.dc;rw[hf]
   rw[e];obtain⟨bk,h1,M⟩:=qk x4;refine⟨a8.none _ _ _,λq f=>(gg q f).elim,λx _ _ q _ f=>(gg q f).elim,cE _,λs hs=>(by cases hs),λw' L=>L.xf mv kG (k:=(i:Int)) h1 M (λv aj=>?_) false⟩;obtain⟨x,hx,he⟩:=dv.1 aj;have aX:=ig.1 hf x hx;unfold dB.e at he;simp only[Prod.mk.injEq]at he;apply aX;have:x.i=i:=by omega
   rw[this];simp
 obtain⟨aD,B,aE,bl,aG,aH⟩:=aW;obtain⟨A,ar,aY⟩:∃A,b.a=some A/\cL ah.drew A 0 256=some (aF l):=by
  cases aI:b.a with
  |none=>
   have:=congrArg List.length (Z.nil aI);rw[dV,H]at this
   cases this
  |some A=>
   refine⟨A,rfl,?_⟩;have:=aV.rd A aI;rwa[aC,H]at this
 have a0:¬az p A.block:=λf=>hd _ ⟨A,ar,rfl⟩ (B _ f).1
 have aJ:∀C:J,Ext ah.drew C->∃ (g:U) (j:J),Sem.run ai (Builtin.append_ #[136,136] 136 #[.slice p.a p.len p.cap,.slice (some ⟨C.heap.size,0,none⟩) 1 1]) (C.alloc (.cells (aF l).toArray 182))=.ok (.slice g.a g.len g.cap) j/\
  a8 256 182 j g (bE aF (D.dc i++ [l]))/\ab (az p) C j/\(∀k,az g k->az p k\/C.heap.size<=k)/\ab (az p) (C.alloc (.cells (aF l).toArray 182)) j:=by
  intro C a4;have hlen:p.len=(D.dc i).length:=by
   have:=aD.1;rw[gn (c:=aF) (sz:=256) _ λs hs=>by rw[dV];exact aG s hs]at this;omega
  have am:=eB C (.cells (aF l).toArray 182);obtain⟨g,j,au,F,E,N,O⟩:=F2.append (cH:=136) (x:=⟨some ⟨C.heap.size,0,none⟩,1,1⟩) (Src.new (T:=182) C (aF l) 1 (by rw[dV,H])) (aD.ext (a4.trans am)) (k8 l) (by rw[hlen];show(2*(_+1)+1000)*256<=_;omega);refine⟨g,j,au,?_,(ab.cK am).trans N,λk a5=>(O k a5).imp id λh=>?_,N⟩
  .rw[lM]
   have:bE aF [l]=aF l:=by simp[bE]
   rw[this];exact F
  .have:=am.size;omega
 have aL:∀ (j:J) (g:U),eo j D.mr encZ (D.waits.map dB.e)->∃o:J,Sem.run ai (Instr.mapUpdate 137 (.map (some D.mr)) (.int .i64 ((i:Nat):Int)) (.slice g.a g.len g.cap)) j=.ok () o/\ab (λq=>q=D.mr) j o/\
  eo o D.mr encZ ((dB.mk i g (D.dc i++ [l])::D.waits.filter λx=>x.i !=i).map dB.e):=by
  intro j g L;have an:=L.keys;rw[ic]at an
  cases hf:D.waits.find? λx=>x.i==i with
  |some x=>
   have hx:=iA hf;have V:x.i=i:=by
    have:=jX hf;exact eq_of_beq this
   obtain⟨bf,bB,he⟩:=List.append_of_mem hx;have z:∀y∈bf++bB,y.i≠i:=by
    intro y r e;rw[he,fP,jm]at an;have h1:=(mK.nodup_iff).1 an;rw[List.nodup_cons]at h1;apply h1.1;rw[←fP];refine dv.2 ⟨y,r,?_⟩;show((y.i:Nat):Int)=((x.i:Nat):Int);omega
   have ao:D.waits.filter (λx=>x.i !=i)=bf++bB:=by
    rw[he,kV,List.filter_cons_of_neg (by simp[V])];rw[jW.2 λy r=>by have:=z y (jC _ r);simpa using this,jW.2 λy r=>by have:=z y (ie _ r);simpa using this]
   have a7:(D.waits.map dB.e).Perm (((i:Int),.slice x.s.a x.s.len x.s.cap)::(bf++bB).map dB.e):=by
    rw[he,fP,jm,fP];have:x.e=((i:Int),.slice x.s.a x.s.len x.s.cap):=by unfold dB.e;rw[V]
    rw[this];exact mK
   obtain⟨o,au,F,_,E⟩:=FX mv kG (L.perm a7) (.slice g.a g.len g.cap);refine⟨o,au,F,?_⟩;rw[ao];exact E
  |none=>
   have z:∀y∈D.waits,y.i≠i:=λy r e=>by
    have:=ig.1 hf y r;rw[e]at this;simp at this
   have ao:D.waits.filter (λx=>x.i !=i)=D.waits:=jW.2 λy r=>by simpa using z y r
   obtain⟨o,au,F,_,E⟩:=FW mv kG (k:=(i:Int)) L (λv aj=>by
    obtain⟨x,hx,he⟩:=dv.1 aj;unfold dB.e at he;simp only[Prod.mk.injEq]at he;exact z x hx I) (.slice g.a g.len g.cap)
   refine⟨o,au,F,?_⟩;rw[ao];exact E
 have fin:∀ (j o:J) (g:U),ab (az p) ah.drew j->a8 256 182 j g (bE aF (D.dc i++ [l]))->(∀k,az g k->az p k\/ah.drew.heap.size<=k)->ab (λq=>q=D.mr) j o->eo o D.mr encZ ((dB.mk i g (D.dc i++ [l])::D.waits.filter λx=>x.i !=i).map dB.e)->
  ∃aM:ae,(some ⟨D.d,0,none⟩:aq ae)=some aM/\∃n24:Int,o.cell? (aM.add 6)=some (.int .i64 n24)/\∃W:ae,(some ⟨D.d,0,none⟩:aq ae)=some W/\(∃u:aa,o.cell? (W.add 6)=some u)/\o.frozen? (W.add 6)=false/\al (o.setCell (W.add 6) (.int .i64 (IntKind.wrap .i64 (n24+1)))) λa9=>Bx D i l w (.int .i64 0) a9:=by
  intro j o g X a_ ap aO bb;have bc:=t.v.ad X λf=>(B _ f).2.1 rfl;have ax:Var o D.d (D.cz 2).c 141:=bc.ad aO h.a1.2.1;have hlen:(D.cz 2).c.length=7:=K.vR;obtain⟨s1,s2⟩:=dF ax (i:=6) (by rw[hlen];decide);have b8:o.cell? (Addr.add ⟨D.d,0,none⟩ 6)=some (.int .i64 D.writes):=by
   rw[aw,cA,ax.cell];unfold a6.c;have:=K.f4;rw[ko (by rw[dL];omega),dL,this];rfl
  rw[aw,cA]at b8;refine⟨_,rfl,D.writes,by rw[aw,cA];exact b8,_,rfl,by rw[aw,cA];exact s1,by rw[aw,cA];exact s2,?_⟩;rw[aw,cA];have aQ:=dp o D.d 6 (.int .i64 (IntKind.wrap .i64 (D.writes+1)));have aR:=dM ax (i:=6) (.int .i64 (IntKind.wrap .i64 (D.writes+1)));have bd:(D.cz 2).c.set 6 (.int .i64 (IntKind.wrap .i64 (D.writes+1)))=(D.put i g l).c:=by
   have be:=K.f4;have P:(D.put i g l).c=(D.cz 2).cl.map (.int .i64)++ [.slice (some ⟨D.lb,0,none⟩) D.aZ.length D.aZ.length,.map (some D.mr),.int .i64 (IntKind.wrap .i64 (D.writes+1))]:=rfl;have Q:(D.cz 2).c=(D.cz 2).cl.map (.int .i64)++ [.slice (some ⟨D.lb,0,none⟩) D.aZ.length D.aZ.length,.map (some D.mr),.int .i64 D.writes]:=rfl;rw[P,Q,sJ _ _ (by rw[dL];omega),dL,be];rfl
  rw[bd]at aR;have Y:ab (λq=>q=D.mr\/q=D.d) j (o.setCell ⟨D.d,6,none⟩ (.int .i64 (IntKind.wrap .i64 (D.writes+1)))):=(aO.mono λq _ e=>.inl e).trans (aQ.mono λq _ e=>.inr e);have R:∀q,az g q->q≠D.d/\q≠D.lb/\q≠D.mr:=λq f=>by
   have bm:=t.lt (q:=D.d) (.inl rfl);have bn:=t.lt (q:=D.lb) (.inr (.inl rfl));have bo:=t.lt (q:=D.mr) (.inr (.inr (.inl rfl)));rcases ap q f with h1|h1
   .exact(B q h1).2
   .exact⟨I,I,I⟩
  have G:∀x∈D.waits.filter (λx=>x.i !=i),x∈D.waits/\x.i≠i:=λx hx=>by
   obtain⟨h1,M⟩:=hE.1 hx;exact⟨h1,by simpa using M⟩
  refine aS (.inr ⟨ag,rfl,g,⟨aR,?_,?_,?_,?_,h.sl,?_,h.bS,h.bp,K.f4,K.fr,h.a1,?_,?_⟩,?_,?_⟩)
  .exact bq.ad (bq.ad t.l X λf=>(B _ f).2.2.1 rfl) Y (by
    rintro(e|e)
    .exact h.a1.2.2 e
    .exact h.a1.1 e.symm)
  .exact bb.ad aQ (λe=>h.a1.2.1 e.symm)
  .intro x hx
   rcases cU.1 hx with rfl|hx
   .exact a_.ad Y λq f=>by
     rintro(e|e)
     .exact(R q f).2.2 e
     .exact(R q f).1 e
   .obtain⟨h1,M⟩:=G x hx
    refine((t.ws x h1).ad X λq f=>aE x h1 M q f).ad Y λq f=>?_;rintro(e|e)
    .exact(h.a2 x h1).2.2 (e▸f)
    .exact(h.a2 x h1).1 (e▸f)
  .intro x hx
   rcases cU.1 hx with rfl|hx
   .refine⟨by simp,hi,?_⟩
    show(D.dc i++ [l]).length<=D.aN+1;rw[cx,iS];omega
   .obtain⟨h1,M⟩:=G x hx
    have:=h.wn x h1;exact⟨this.1,this.2.1,Nat.le_succ_of_le this.2.2⟩
  .intro x hx
   rcases cU.1 hx with rfl|hx
   .intro s hs
    rcases cR.1 hs with hs|hs
    .exact aG s hs
    .rw[fi.1 hs];exact H
   .exact h.je x (G x hx).1
  .intro x hx
   rcases cU.1 hx with rfl|hx
   .exact⟨λf=>(R _ f).1 rfl,λf=>(R _ f).2.1 rfl,λf=>(R _ f).2.2 rfl⟩
   .exact h.a2 x (G x hx).1
  .have aT:∀y∈D.waits,y.i≠i->∀q,az y.s q->¬az g q:=λy r z q f S=>by
    rcases ap q S with h1|h1
    .exact aE y r z q f h1
    .have:=(t.ws y r).lt q f;omega
   intro x hx y r z q f S;rcases cU.1 hx with rfl|hx
   .rcases cU.1 r with rfl|r
    .exact z rfl
    .exact aT y (G y r).1 (λe=>z e.symm) q S f
   .rcases cU.1 r with rfl|r
    .exact aT x (G x hx).1 z q f S
    .exact h.a3 x (G x hx).1 y (G y r).1 z q f S
  .refine((ac.mono λq _ e=>.inl e).trans ((ab.cK (b6 ah)).trans (X.mono λq _ f=>(B q f).1))).trans (Y.mono λq _ f=>?_)
   rcases f with e|e
   .exact .inr (.inr (.inl e))
   .exact .inl e
  .intro q f
   rcases ap q f with h1|h1
   .exact .inl (B q h1).1
   .have:ah.drew.heap.size=ah.heap.size:=rfl
    exact .inr I
 refine⟨az p,_,rfl,λf=>(B _ f).2.1 rfl,some D.mr,t.ba,_,rfl,λf=>(B _ f).2.1 rfl,some D.mr,t.ba,I,A,ar,a0,_,aY,⟨?_,?_⟩⟩
 .obtain⟨g,j,au,F,E,N,O⟩:=aJ ah.drew (.refl _ _)
  have aA:=t.m.ad E λf=>(B _ f).2.2.2 rfl;obtain⟨o,P,Q,aB⟩:=aL j g aA;exact⟨p,_,aH _ t.m,.refl _ _,⟨some ⟨ah.drew.heap.size,0,none⟩,1,1⟩,_,Bu _ l H,ab.cK (eB _ _),g,j,au,O,o,P,fin j o g E F N Q aB⟩
 .obtain⟨g,j,au,F,E,N,O⟩:=aJ ah.drew (.refl _ _)
  have bg:=t.m.ext (eB ah.drew (.cells (aF l).toArray 182));have aA:=t.m.ad E λf=>(B _ f).2.2.2 rfl;obtain⟨o,P,Q,aB⟩:=aL j g aA;exact⟨⟨some ⟨ah.drew.heap.size,0,none⟩,1,1⟩,_,Bu _ l H,ab.cK (eB _ _),p,_,aH _ bg,.refl _ _,g,j,au,O,o,P,fin j o g E F N Q aB⟩
theorem F3{P:Program}{e:TypeId}{v:aa}{sz:Nat}(a:((P.info? e).bind (·.zero)).map (·.cells)=some (List.replicate sz v).toArray)(hc:P.cellsOf e=sz)(hs:0<sz)(n:Nat):g5 P e n=(List.replicate (n*sz) v).toArray:=by
 unfold g5;rw[hc]
 cases hi:(P.info? e).bind (·.zero) with
 |none=>rw[hi]at a;cases a
 |some z=>
  rw[hi]at a;simp only[lq,Option.some.injEq]at a;simp only[qN];apply Array.ext
  .simp
  .intro i h1 b
   have c:n*sz≠0:=by
    intro h;simp[h]at b
   simp only[c,if_false,a,Array.getElem_map,Array.getElem_range];have aH:i%sz<sz:=g4 _ hs;simp[aH]
theorem F4(m n:Nat):bE aF (List.replicate n (List.replicate m 0))=List.replicate (n*m) (.int .u8 0):=by
 induction n with
 |zero=>simp[bE]
 |succ n a=>
  rw[List.replicate_succ,qj,a,km,Nat.one_mul,Nat.add_comm];have e:aF (List.replicate m 0)=List.replicate m (Value.int .u8 0):=by simp[aF]
  rw[e,List.replicate_append_replicate]
def e4:cJ:=List.replicate 256 0
theorem F5(n:Nat):g5 ai 182 n=(bE aF (List.replicate n e4)).toArray:=by
 unfold e4;rw[F4];exact F3 (by kernel_rfl) (by kernel_rfl) (by decide) n
def nm(n d lb mr:Nat):a6:=⟨d,lb,mr,[-1, -1, -1, -1],List.replicate n e4,[],0,0,λ_=>false,λ_=> []⟩
theorem By{w:J}{b:Nat}{vs:O aa}{T:TypeId}(h:Var w b vs T)(g:4<=vs.length):
 aP ai 69 #[.pointer (some b)] w (λv w'=>v=.tuple #[]/\Var w' b (List.replicate 4 (.int .i64 (-1))++vs.drop 4) T/\ab (λq=>q=b) w w'/\w'.heap.size=w.heap.size):=by
 refine okF (af.ue (some b)) ay.ue func69 ?_;(delta af.ue ak st av;dsimp only);refine⟨λi w'=>∃j:Nat,i=j/\j<=4/\Var w' b (List.replicate j (.int .i64 (-1))++vs.drop j) T/\ab (λq=>q=b) w w'/\w'.heap.size=w.heap.size,λi _=>((4:Int)-i).toNat,⟨0,rfl,I,h,.refl _ _,rfl⟩,?_⟩;rintro _ w1 ⟨j,rfl,k,c,hc,f⟩;refine⟨λaH=>?_,λd=>?_⟩
 .have aH:j<4:=by have:=b2 aH;omega
  have a:Addr.add b (Int.toNat (j:Int)*1)=⟨b,j,none⟩:=by rw[c8,fz,aw,cA]
  obtain⟨s1,s2⟩:=dF c (i:=j) (by simp;omega);rw[bu (n:=(j:Int)+1) I I];refine⟨_,rfl,⟨I,by show(j:Int)<4;omega⟩,by rw[a];exact s1,by rw[a];exact s2,aS ⟨⟨j+1,I,I,?_,?_,?_⟩,?_⟩⟩
  .have:=dM c (i:=j) (.int .i64 (-1))
   rw[a];have e:(List.replicate j (Value.int .i64 (-1))++vs.drop j).set j (.int .i64 (-1))=List.replicate (j+1) (.int .i64 (-1))++vs.drop (j+1):=by
    rw[sJ _ _ (by simp),mQ,lW,iQ (show j<vs.length from I),List.set_cons_zero,List.replicate_succ',cD];rfl
   rwa[e]at this
  .rw[a];exact hc.trans (dp _ _ _ _)
  .rw[a];simpa[World.setCell] using f
  .show((4:Int)-((j:Int)+1)).toNat<((4:Int)-(j:Int)).toNat
   omega
 .have d:j=4:=by have:=cr d;omega
  subst d;exact⟨rfl,c,hc,f⟩
theorem n3{n:Nat}(h1:16<=n)(k:n<=1600)(w:J):
 aP ai 18 #[n] w (λv w'=>∃d lb mr:Nat,v=.tuple #[.pointer (some d),(0:Int)]/\b_ w' (nm n d lb mr)/\Ext w w'/\∀q,bD (nm n d lb mr) q->w.heap.size<=q):=by
 refine okF (af.n3 (n:Int)) ay.n3 func18 ?_;(delta af.n3 ak kz de Y aR;dsimp only);refine⟨λh=>?_,λ_=>⟨⟨I,I,I,I⟩,?_⟩⟩
 .simp only[jl,cS]at h;omega
 rw[F5,c8];have g:=bq.new w (bE aF (List.replicate n e4)).toArray 182;have i:=eB w (.cells (bE aF (List.replicate n e4)).toArray 182);have l:=rZ w (.cells (bE aF (List.replicate n e4)).toArray 182);obtain⟨w1,m⟩:∃w1,w1=w.alloc (.cells (bE aF (List.replicate n e4)).toArray 182):=⟨_,rfl⟩;rw[←m]at g i l⊢;obtain⟨au,j⟩:=eo.make (P:=ai) (enc:=encZ) 137 w1;have a:=eB w1 (.map #[] 0);have o:=rZ w1 (.map #[] 0);obtain⟨ah,p⟩:∃ah,ah=w1.alloc (.map #[] 0):=⟨_,rfl⟩;rw[←p]at au j a o;refine aS ⟨some w1.heap.size,ah,au,#[(0:Int),(0:Int),(0:Int),(0:Int),.slice (some w.heap.size) n n,.map (some w1.heap.size),(0:Int)],by kernel_rfl,bh (vs:=[(0:Int),(0:Int),(0:Int),(0:Int),.slice (some w.heap.size) n n,.map (some w1.heap.size),(0:Int)]) rfl λu r b y=>⟨_,rfl,(By r (by show 4<=7;decide)).use ?_⟩⟩;rintro _ z ⟨rfl,t,f,A⟩;refine⟨rfl,ah.heap.size,w.heap.size,w1.heap.size,rfl,⟨?_,?_,?_,λx hx=>(by cases hx),λx hx=>(by cases hx),λs hs=>?_,λx hx=>(by cases hx),?_,?_,rfl,λx hx=>?_,?_,λx hx=>(by cases hx),λx hx=>(by cases hx)⟩,Ext.cu (i.trans (a.trans b)) f I,?_⟩
 .have e:(nm n ah.heap.size w.heap.size w1.heap.size).c=List.replicate 4 (.int .i64 (-1))++ [Value.int .i64 0,(0:Int),(0:Int),(0:Int),.slice (some w.heap.size) n n,.map (some w1.heap.size),(0:Int)].drop 4:=by
   unfold a6.c nm;simp
  rw[e];exact t
 .exact bq.ad ((g.ext a).ext b) f (by show¬w.heap.size=ah.heap.size;omega)
 .exact(j.ext b).ad f I
 .rw[o_ hs,e4,mQ]
 .show 16<=(List.replicate n e4).length;simpa using h1
 .show(List.replicate n e4).length<=1600;simpa using k
 .have:x= -1:=by
   simp[nm]at hx;exact hx
  subst this;exact⟨by decide,by decide⟩
 .exact⟨by show ah.heap.size≠w.heap.size;omega,by show ah.heap.size≠w1.heap.size;omega,by show w.heap.size≠w1.heap.size;omega⟩
 .rintro q (rfl|rfl|rfl|⟨x,hx,_⟩)
  .show w.heap.size<=ah.heap.size;omega
  .exact bo _
  .show w.heap.size<=w1.heap.size;omega
  .cases hx
structure Fr where
 full:aj
 fT:aj
 used:aj
 no:Int
 pins:Int
 b:U
 l:cJ
def Fr.c(f:Fr):O aa:=[f.full,f.fT,f.used,f.no,f.pins,f.b]
def dC:Fr:=⟨false,false,false,0,0,⟨none,0,0⟩,[]⟩
structure b1 where
 c:Nat
 aU:Nat
 an:O Fr
 hand:Nat
 D:a6
def c3(C:b1)(q:Nat):Prop:=q=C.c\/q=C.aU\/bD C.D q
structure fm(w:J)(C:b1):Prop where
 v:Var w C.c [.pointer (some C.D.d),.slice (some C.aU) C.an.length C.an.length,C.hand] 281
 f:bq w C.aU (bE Fr.c C.an).toArray 288
 dev:b_ w C.D
 bx:8<=C.an.length
 bG:C.an.length<=64
 hd:C.hand<C.an.length
 a1:C.c≠C.aU/\¬bD C.D C.c/\¬bD C.D C.aU
structure Bz(X:Nat->Prop)(w:J)(C:b1)(f:Fr)(no:Nat):Prop where
 num:f.no=no
 lt:no<C.D.n
 Jk:a7 (λq=>¬c3 C q/\¬X q) w f.b f.l
 len:f.l.length=256
 clean:f.fT=false->f.l=C.D.now no
 bK:C.D.bK no=true->f.fT=false
 two:2<=no
structure gB(X:Nat->Prop)(w:J)(C:b1):Prop where
 pins:∀f∈C.an,f.pins=0
 ok:∀f∈C.an,f.full=true->∃no:Nat,Bz X w C f no
 un:∀ (i j:Nat) (hi:i<C.an.length) (a:j<C.an.length),(C.an[i]).full=true->(C.an[j]).full=true->(C.an[i]).no=(C.an[j]).no->i=j
 fh:∀q,X q->q<w.heap.size/\¬c3 C q
 kH:∀j,C.D.bK j=true->C.D.dc j=C.D.er j
def kI(ax D:a6):Prop:=ax.n=D.n/\(∀j,ax.bK j=true->D.bK j=true)/\∀j,ax.bK j=true->ax.dc j=ax.er j
theorem gB.r2{X:Nat->Prop}{w:J}{C:b1}(h:gB X w C):kI C.D C.D:=⟨rfl,λ_ h=>h,h.kH⟩
theorem gB.cz{X:Nat->Prop}{w:J}{C:b1}(h:gB X w C)(k:Nat):kI (C.D.cz k) C.D:=⟨rfl,λ_ h=>h,h.kH⟩
structure ec(X:Nat->Prop)(w:J)(C:b1):Prop where
 raw:fm w C
 inv:gB X w C
def b1.view(C:b1)(no:Nat):cJ:=match C.an.find? λf=>f.full&&f.no==(no:Int) with
 |some f=>f.l
 |none=>C.D.now no
theorem Fr.ya(f:Fr):f.c.length=6:=rfl
theorem vU(l:O Fr):∀x∈l,(Fr.c x).length=6:=λx _=>rfl
section
variable {w w':J}{C:b1}{X:Nat->Prop}
theorem fm.lt(h:fm w C){q:Nat}(a:c3 C q):q<w.heap.size:=by
 rcases a with rfl|rfl|a
 .exact h.v.lt
 .exact bq.lt h.f
 .exact h.dev.lt a
theorem fm.ad{W:Nat->Prop}(h:fm w C)(hc:ab W w w')(a:∀q,c3 C q->¬W q):fm w' C:=
 ⟨h.v.ad hc (a _ (.inl rfl)),bq.ad h.f hc (a _ (.inr (.inl rfl))),h.dev.ad hc λq b=>a q (.inr (.inr b)),h.bx,h.bG,h.hd,h.a1⟩
theorem fm.ext(h:fm w C)(hc:Ext w w'):fm w' C:=h.ad hc λ_ _ h=>h
theorem gB.ad{W:Nat->Prop}(h:gB X w C)(hc:ab W w w')(b:∀q,W q->c3 C q\/X q):gB X w' C:=
 ⟨h.pins,λf hf c=>by
  obtain⟨no,au,d,e,g,i,j,k⟩:=h.ok f hf c
  exact⟨no,au,d,a7.ad e hc λq a l=>by
   rcases b q l with h1|h1
   .exact a.1 h1
   .exact a.2 h1,g,i,j,k⟩,h.un,λq a=>⟨fO (h.fh q a).1 hc.size,(h.fh q a).2⟩,h.kH⟩
theorem ec.ad{W:Nat->Prop}(h:ec X w C)(hc:ab W w w')(b:∀q,W q->X q):ec X w' C:=
 ⟨h.raw.ad hc λq c a=>(h.inv.fh q (b q a)).2 c,h.inv.ad hc λq a=>.inr (b q a)⟩
theorem ec.ext(h:ec X w C)(hc:Ext w w'):ec X w' C:=h.ad hc λ_ h=>h.elim
theorem r3(aU i:Nat):Addr.add aU (Int.toNat (i:Int)*6)=⟨aU,i*6,none⟩:=by rw[c8,aw,cA]
theorem fm.cells(h:fm w C):w.cell? C.c=some (.pointer (some C.D.d))/\w.cell? (Addr.add C.c 1)=some (.slice (some C.aU) C.an.length C.an.length)/\w.cell? (Addr.add C.c 2)=some (.int .i64 C.hand):=by
 rw[aw,aw];exact⟨h.v.cell,h.v.cell,h.v.cell⟩
theorem j9{w:J}{aU:Nat}{fs:O Fr}{T:TypeId}(h:bq w aU (bE Fr.c fs).toArray T){i j:Nat}(hi:i<fs.length)(a:j<6):w.cell? ⟨aU,i*6+j,none⟩=((fs[i]).c)[j]? :=by
 rw[bq.cell h];simp only[qL];exact oL (vU fs) hi a
theorem np{w:J}{aU:Nat}{fs:O Fr}{T:TypeId}(h:bq w aU (bE Fr.c fs).toArray T){i j:Nat}(hi:i<fs.length)(a:j<6){v:aa}(b:Fr)(hf:b.c=(fs[i]).c.set j v):
 (∃u:aa,w.cell? ⟨aU,i*6+j,none⟩=some u)/\w.frozen? ⟨aU,i*6+j,none⟩=false/\bq (w.setCell ⟨aU,i*6+j,none⟩ v) aU (bE Fr.c (fs.set i b)).toArray T/\ab (λq=>q=aU) w (w.setCell ⟨aU,i*6+j,none⟩ v):=by
 refine⟨⟨((fs[i]).c)[j]'(by rw[Fr.ya];exact a),by rw[j9 h hi a,c_ (by rw[Fr.ya];exact a)]⟩,bq.frozen h _ rfl,?_,dp _ _ _ _⟩;have:=dM (vs:=bE Fr.c fs) h (i:=i*6+j) v;rw[x3 (vU fs) hi a hf]at this;exact this
theorem yb{w:J}{aU:Nat}{fs:O Fr}{T:TypeId}(h:bq w aU (bE Fr.c fs).toArray T){i:Nat}(hi:i<fs.length)(a:Fr):
 bA w ⟨aU,i*6,none⟩ a.c/\bq (setCells w ⟨aU,i*6,none⟩ 0 a.c) aU (bE Fr.c (fs.set i a)).toArray T/\ab (λq=>q=aU) w (setCells w ⟨aU,i*6,none⟩ 0 a.c):=by
 have f:=gn (c:=Fr.c) fs (vU fs);have d:i*6+a.c.length<=(bE Fr.c fs).toArray.size:=by
  rw[sK,f,Fr.ya];omega
 refine⟨bq.cc h _ _ d ?_,?_,ab.k1 (.refl _ _) _ 0⟩
 .intro v b
  unfold Fr.c at b;simp only[cU,eV,eZ]at b;rcases b with rfl|rfl|rfl|rfl|rfl|rfl<;>trivial
 .have h0:=bq.j2 (o:=i*6) h a.c
  have e:gH (bE Fr.c fs).toArray (i*6) a.c=(bE Fr.c (fs.set i a)).toArray:=by
   have h1:=lD a.c (bE Fr.c fs).toArray (i*6) d;have g:=Br (vU fs) hi a;have j:a.c.length=6:=rfl;rw[j]at h1;have k:(gH (bE Fr.c fs).toArray (i*6) a.c).toList=bE Fr.c (fs.set i a):=h1.trans g;rw[←k]
  rw[e]at h0;exact h0
theorem BA(h:fm w C)(no:Int):aP ai 220 #[.pointer (some C.c),no] w (λv w'=>v=.bool (decide (0<=no/\no<C.D.n))/\w=w'):=by
 refine okF (af.u3 (some C.c) no) ay.u3 func220 ?_;(delta af.u3 ak aA;dsimp only);refine cm (λb w'=>b=decide (0<=no/\no<C.D.n)/\w=w') (λq d=>⟨λa=>⟨_,rfl,_,h.cells.1,(ql h.dev).use ?_⟩,λa=>d _ _ ⟨?_,rfl⟩⟩) ?_
 .rintro _ _ ⟨rfl,rfl⟩
  have a:0<=no:=by simpa using a
  refine⟨_,rfl,d _ _ ⟨?_,rfl⟩⟩;rw[fW,cS,cS];exact⟨λh=>⟨a,h⟩,λh=>h.2⟩
 .have a:¬0<=no:=by simpa using a
  rw[hG (λh=>a h.1)]
 .rintro _ _ ⟨rfl,rfl⟩
  exact⟨rfl,rfl⟩
def AtR(C:b1)(no:Int)(v:aa):Prop:=
 (∃ (i:Nat) (hi:i<C.an.length),v=.pointer (some ⟨C.aU,i*6,none⟩)/\(C.an[i]).full=true/\(C.an[i]).no=no)\/
 (v=.pointer none/\∀f∈C.an,f.full=true->f.no≠no)
theorem vV(h:fm w C)(no:Int):aP ai 201 #[.pointer (some C.c),no] w (λv w'=>AtR C no v/\w=w'):=by
 obtain⟨bU,aA,aR⟩:=h.cells;have d:=h.bG;refine okF (af.uW (some C.c) no) ay.uW func201 ?_;(delta af.uW ak ag aI bc r1 av;dsimp only);refine⟨λh=>(by cases h),λ_=>⟨_,rfl,⟨some C.aU,C.an.length,C.an.length⟩,aA,λi w'=>∃j:Nat,i=j/\j<=C.an.length/\w=w'/\∀ (k:Nat) (d:k<C.an.length),k<j->(C.an[k]).full=true->(C.an[k]).no≠no,λi _=>((C.an.length:Int)-i).toNat,⟨0,rfl,cE _,rfl,λk _ h=>I⟩,?_⟩⟩;rintro _ _ ⟨j,rfl,s,rfl,g⟩;refine⟨λaH=>?_,λe=>?_⟩
 .have aH:(j:Int)<(C.an.length:Int):=b2 aH
  have aH:j<C.an.length:=by omega
  refine⟨_,rfl,⟨some C.aU,C.an.length,C.an.length⟩,aA,_,rfl,⟨I,by show(j:Int)<(C.an.length:Int);omega⟩,_,rfl,?_⟩;rw[r3];have f0:=j9 h.f aH (j:=0) (by decide);have f3:=j9 h.f aH (j:=3) (by decide);refine⟨(C.an[j]).full,f0,cm (λb w'=>w=w'/\(b=true↔((C.an[j]).full=true/\(C.an[j]).no=no))) (λq l=>⟨λa=>⟨_,rfl,(C.an[j]).no,by rw[aw];exact f3,l _ _ ⟨rfl,?_⟩⟩,λa=>l _ _ ⟨rfl,?_⟩⟩) ?_⟩
  .rw[kU]
   exact⟨λh=>⟨a,h⟩,λh=>h.2⟩
  .rw[a]
   exact⟨λh=>(by cases h),λh=>(by cases h.1)⟩
  rintro b w' ⟨rfl,a⟩;refine⟨λh1=>⟨.inl ⟨j,aH,rfl,(a.1 h1).1,(a.1 h1).2⟩,rfl⟩,λh1=>?_⟩;rw[bu (n:=(j:Int)+1) I I];refine⟨⟨j+1,I,I,rfl,λk d t m=>?_⟩,?_⟩
  .rcases dH k j with o|o
   .exact g k d o m
   .have:k=j:=by omega
    subst this;intro p;rw[a.2 ⟨m,p⟩]at h1;cases h1
  .show((C.an.length:Int)-((j:Int)+1)).toNat<((C.an.length:Int)-(j:Int)).toNat
   omega
 .have e:j=C.an.length:=by
   have:¬((j:Int)<(C.an.length:Int)):=cr e;omega
  subst e;refine⟨.inr ⟨rfl,λf hf r=>?_⟩,rfl⟩;obtain⟨k,d,rfl⟩:=eY hf;exact g k d d r
theorem F6(h:fm w C):aP ai 267 #[.pointer (some C.c)] w (λv w'=>((∃ (i:Nat) (hi:i<C.an.length),v=.pointer (some ⟨C.aU,i*6,none⟩)/\(C.an[i]).full=false)\/(v=.pointer none/\∀f∈C.an,f.full=true))/\w=w'):=by
 obtain⟨bU,aA,aR⟩:=h.cells;have a:=h.bG;refine okF (af.va (some C.c)) ay.va func267 ?_;(delta af.va ag ak aI bc av;dsimp only);refine⟨_,rfl,⟨some C.aU,C.an.length,C.an.length⟩,aA,λi w'=>∃j:Nat,i=j/\j<=C.an.length/\w=w'/\∀ (k:Nat) (a:k<C.an.length),k<j->(C.an[k]).full=true,λi _=>((C.an.length:Int)-i).toNat,⟨0,rfl,cE _,rfl,λk _ h=>I⟩,?_⟩;rintro _ _ ⟨j,rfl,l,rfl,e⟩;refine⟨λaH=>?_,λb=>?_⟩
 .have aH:(j:Int)<(C.an.length:Int):=b2 aH
  have aH:j<C.an.length:=by omega
  have f0:=j9 h.f aH (j:=0) (by decide);refine⟨_,rfl,⟨some C.aU,C.an.length,C.an.length⟩,aA,_,rfl,⟨I,by show(j:Int)<(C.an.length:Int);omega⟩,(C.an[j]).full,by rw[r3];exact f0,λd=>⟨_,rfl,⟨some C.aU,C.an.length,C.an.length⟩,aA,_,rfl,⟨I,by show(j:Int)<(C.an.length:Int);omega⟩,.inl ⟨j,aH,by rw[r3],by simpa using d⟩,rfl⟩,λd=>?_⟩;rw[bu (n:=(j:Int)+1) I I];refine⟨⟨j+1,I,I,rfl,λk a m=>?_⟩,?_⟩
  .rcases dH k j with g|g
   .exact e k a g
   .have:k=j:=by omega
    subst this;simpa using d
  .show((C.an.length:Int)-((j:Int)+1)).toNat<((C.an.length:Int)-(j:Int)).toNat
   omega
 .have b:j=C.an.length:=by
   have:¬((j:Int)<(C.an.length:Int)):=cr b;omega
  subst b;refine⟨.inr ⟨rfl,λf hf=>?_⟩,rfl⟩;obtain⟨k,a,rfl⟩:=eY hf;exact e k a a
def h4(fs gs:O Fr):Prop:=gs.length=fs.length/\∀ (i:Nat) (h1:i<fs.length) (a:i<gs.length),gs[i]={fs[i] with used:=(gs[i]).used}
theorem h4.refl(fs:O Fr):h4 fs fs:=⟨rfl,λi h1 a=>rfl⟩
theorem h4.set{fs gs:O Fr}(h:h4 fs gs){i:Nat}(hi:i<gs.length)(u:aj):h4 fs (gs.set i {gs[i] with used:=u}):=by
 refine⟨by rw[cY];exact h.1,λj h1 a=>?_⟩;rw[sI];split
 .rename_i e
  subst e;have:=h.2 i h1 hi;rw[this]
 .exact h.2 j h1 _
theorem F7(h:fm w C)(B:∀f∈C.an,f.pins=0):aP ai 268 #[.pointer (some C.c)] w (λv w'=>∃ (i:Nat) (gs:O Fr) (hd:Nat),i<C.an.length/\v=.pointer (some ⟨C.aU,i*6,none⟩)/\h4 C.an gs/\fm w' {C with an:=gs,hand:=hd}/\ab (λq=>q=C.c\/q=C.aU) w w'):=by
 obtain⟨bU,aA,aR⟩:=h.cells;have S:=h.bx;have T:=h.bG;have D:=h.hd;refine okF (af.vb (some C.c)) ay.vb func268 ?_;(delta af.vb r1 ag ak av aI bc st;dsimp only);refine⟨_,rfl,_,aR,_,rfl,⟨some C.aU,C.an.length,C.an.length⟩,aA,λE i w'=>∃ (s:Nat) (gs:O Fr),i=s/\s<=C.an.length/\E=(((C.hand+s)%C.an.length:Nat):Int)/\h4 C.an gs/\fm w' {C with an:=gs}/\ab (λq=>q=C.c\/q=C.aU) w w'/\∀ (t:Nat) (hx:(C.hand+t)%C.an.length<gs.length),t<s->(gs[(C.hand+t)%C.an.length]).used=false,
  λ_ i _=>(2*(C.an.length:Int)-i).toNat,⟨0,C.an,rfl,cE _,by rw[kk,iT D],h4.refl _,h,.refl _ _,λt _ h=>I⟩,?_⟩
 rintro _ _ w1 ⟨s,gs,rfl,hs,rfl,m,b,hc,r⟩;have u:gs.length=C.an.length:=m.1;obtain⟨i,hi⟩:∃i,i=(C.hand+s)%C.an.length:=⟨_,rfl⟩;have d:i<gs.length:=by rw[hi,u];exact g4 _ I
 rw[←hi];obtain⟨d0,d1,d2⟩:=b.cells;have d1:w1.cell? (Addr.add C.c 1)=some (.slice (some C.aU) gs.length gs.length):=d1;have hf:bq w1 C.aU (bE Fr.c gs).toArray 288:=b.f;rw[bu (n:=2*(C.an.length:Int)) I I];have F:IntKind.wrap .i64 ((i:Int)+1)=((i+1:Nat):Int):=by rw[bu I I];rfl
 have x:Int.tmod ((i+1:Nat):Int) (gs.length:Int)=(((i+1)%gs.length:Nat):Int):=by
  rw[sL I];rfl
 have G:(i+1)%gs.length=(C.hand+(s+1))%C.an.length:=by
  rw[hi,u,Nat.mod_add_mod];rfl
 refine⟨λaH=>?_,λH=>?_⟩
 .refine cm (λa w'=>a=(((C.hand+(s+1))%C.an.length:Nat):Int)/\∃g:O Fr,s+1<=C.an.length/\h4 C.an g/\fm w' {C with an:=g}/\ab (λq=>q=C.c\/q=C.aU) w w'/\∀ (t:Nat) (hx:(C.hand+t)%C.an.length<g.length),t<s+1->(g[(C.hand+t)%C.an.length]).used=false) (λq k=>⟨_,rfl,⟨some C.aU,gs.length,gs.length⟩,d1,_,rfl,⟨I,by show(i:Int)<(gs.length:Int);omega⟩,_,rfl,⟨some C.aU,gs.length,gs.length⟩,d1,by show(gs.length:Int)≠0;omega,_,rfl,?_⟩) ?_
  .rw[r3,F]
   have f4:=j9 hf d (j:=4) (by decide);have f2:=j9 hf d (j:=2) (by decide);have J:(gs[i]).pins=0:=by
    have h1:=m.2 i I d;have l:(gs[i]).pins=(C.an[i]'I).pins:=by rw[h1]
    rw[l];exact B _ (cw _)
   refine⟨(gs[i]).pins,by rw[aw];exact f4,λy=>?_,λ_=>⟨_,rfl,(gs[i]).used,by rw[aw];exact f2,λhu=>⟨_,rfl,?_⟩,λhu=>⟨_,rfl,?_⟩⟩⟩
   .rw[J]at y;simp at y
   .have K:s<C.an.length:=by
     rcases dH s C.an.length with h1|h1
     .exact h1
     .have es:s=C.an.length:=by omega
      have z:(C.hand+0)%C.an.length=i:=by rw[hi,es,Nat.add_mod_right];rfl
      have l:=r 0 (by rw[z];exact d) I;have o:(gs[i]).used=false:=by
       have e:gs[(C.hand+0)%C.an.length]'(by rw[z];exact d)=gs[i]:=by congr 1
       rw[←e];exact l
      rw[o]at hu;cases hu
    obtain⟨au,L,M,p⟩:=np hf d (j:=2) (by decide) (v:=false) {gs[i] with used:=false} rfl;rw[aw];refine⟨au,L,aS (k _ _ ⟨by rw[x,G],gs.set i {gs[i] with used:=false},K,m.set d false,?_,hc.trans (p.mono λq _ e=>.inr e),λt hx ht=>?_⟩)⟩
    .have N:=b.v.ad p h.a1.1
     refine⟨?_,M,b.dev.ad p (λq k e=>h.a1.2.2 (e▸k)),?_,?_,?_,h.a1⟩
     .show Var _ _ [_,.slice (some C.aU) (gs.set i _).length (gs.set i _).length,_] _
      rw[cY];exact N
     .show 8<=(gs.set i _).length;rw[cY];omega
     .show(gs.set i _).length<=64;rw[cY];omega
     .show C.hand<(gs.set i _).length;rw[cY];omega
    .rw[sI]
     split
     .rfl
     .rename_i P
      rcases dH t s with h1|h1
      .exact r t _ h1
      .have:t=s:=by omega
       subst this;exact absurd hi P
   .obtain⟨s1,s2⟩:=dF b.v (i:=2) (by simp)
    rw[aw,x];refine⟨s1,s2,aS ⟨i,gs,(i+1)%gs.length,I,rfl,m,?_,hc.trans ((dp _ _ _ _).mono λq _ e=>.inl e)⟩⟩;have A:=dp w1 C.c 2 (.int .i64 (((i+1)%gs.length:Nat):Int));refine⟨dM b.v (i:=2) (.int .i64 (((i+1)%gs.length:Nat):Int)),bq.ad hf A (λe=>h.a1.1 e.symm),b.dev.ad A (λq k e=>h.a1.2.1 (e▸k)),b.bx,b.bG,?_,h.a1⟩;exact g4 _ I
  .rintro a w' ⟨rfl,g,h1,l,o,Q,R⟩
   rw[bu (n:=(s:Int)+1) I I];refine⟨⟨s+1,g,I,h1,rfl,l,o,Q,R⟩,?_⟩;show(2*(C.an.length:Int)-((s:Int)+1)).toNat<(2*(C.an.length:Int)-(s:Int)).toNat;omega
 .have:=cr H
  omega
end
structure eC(C aE:b1)(w w':J)(k:Nat):Prop where
 c:aE.c=C.c
 d:aE.D.d=C.D.d
 len:aE.an.length=C.an.length
 aZ:aE.D.key=C.D.key
 aN:aE.D.aN<=C.D.aN+k
 calm:∀m,C.D.calm (m+k)->aE.D.calm m
 ad:ab (c3 C) w w'
 c4:∀q,c3 aE q->c3 C q\/w.heap.size<=q
theorem eC.refl(C:b1)(w:J):eC C C w w 0:=⟨rfl,rfl,rfl,rfl,bo _,λ_ h=>h,.refl _ _,λ_ h=>.inl h⟩
theorem eC.ext{w w':J}(C:b1)(h:Ext w w'):eC C C w w' 0:=⟨rfl,rfl,rfl,rfl,bo _,λ_ h=>h,ab.cK h,λ_ h=>.inl h⟩
theorem eC.trans{C aE b:b1}{w w' e:J}{k l:Nat}(h1:eC C aE w w' k)(a:eC aE b w' e l):eC C b w e (k+l):=by
 have hs:=h1.ad.size;refine⟨a.c.trans h1.c,a.d.trans h1.d,a.len.trans h1.len,a.aZ.trans h1.aZ,by have:=h1.aN;have:=a.aN;omega,λm g=>a.calm m (h1.calm (m+l) (by rw[show m+l+k=m+(k+l) from I];exact g)),ct h1.ad a.ad λq f h=>(h1.c4 q h).resolve_right I,λq f=>?_⟩;rcases a.c4 q f with h|h
 .exact h1.c4 q h
 .exact .inr I
theorem eC.mono{C aE:b1}{w w':J}{k l:Nat}(h:eC C aE w w' k)(b:k<=l):eC C aE w w' l:=
 ⟨h.c,h.d,h.len,h.aZ,by have:=h.aN;omega,λm a=>h.calm m (ga a I),h.ad,h.c4⟩
theorem eC.bK{C aE:b1}{w w':J}{k:Nat}(h:eC C aE w w' k):aE.D.bK=C.D.bK:=congrArg (λk:(O cJ×(Nat->aj)×(Nat->O cJ)×(Int->Prop))×Int=>k.1.2.1) h.aZ
theorem eC.nq{C aE:b1}{w w':J}{k:Nat}(h:eC C aE w w' k):aE.D.bK=C.D.bK/\aE.D.er=C.D.er:=⟨h.bK,congrArg (λk:(O cJ×(Nat->aj)×(Nat->O cJ)×(Int->Prop))×Int=>k.1.2.2.1) h.aZ⟩
theorem eC.n{C aE:b1}{w w':J}{k:Nat}(h:eC C aE w w' k):aE.D.n=C.D.n:=congrArg (λk:(O cJ×(Nat->aj)×(Nat->O cJ)×(Int->Prop))×Int=>k.1.1.length) h.aZ
section
variable {w w':J}{C:b1}{X:Nat->Prop}
theorem mw{fs:O Fr}{D:a6}{c aU hd:Nat}(un:∀ (i j:Nat) (hi:i<fs.length) (d:j<fs.length),(fs[i]).full=true->(fs[j]).full=true->(fs[i]).no=(fs[j]).no->i=j){i:Nat}(hi:i<fs.length){no:Nat}(hf:(fs[i]).full=true)(e:(fs[i]).no=no):(b1.mk c aU fs hd D).view no=(fs[i]).l:=by
 unfold b1.view
 cases a:fs.find? λf=>f.full&&f.no==(no:Int) with
 |none=>
  have:=ig.1 a _ (cw hi);simp[hf,e]at this
 |some f=>
  have g:=iA a;have b:=jX a;simp only[ed,kU]at b;obtain⟨j,d,rfl⟩:=eY g;have:=un i j hi d hf b.1 (by rw[e,b.2]);subst this;simp only
theorem mx{fs:O Fr}{D:a6}{c aU hd:Nat}{no:Nat}(h:∀f∈fs,f.full=true->f.no≠no):(b1.mk c aU fs hd D).view no=D.now no:=by
 unfold b1.view
 cases b:fs.find? λf=>f.full&&f.no==(no:Int) with
 |none=>rfl
 |some f=>
  have d:=iA b;have a:=jX b;simp only[ed,kU]at a;exact absurd a.2 (h f d a.1)
theorem r4(D:a6)(k i:Nat):(D.cz k).now i=D.now i:=rfl
theorem a7.re{B b:Nat->Prop}{w w':J}{t:U}{l:Key}{V:Nat->Prop}(h:a7 B w t l)(hc:ab V w w')(c:∀q,q<w.heap.size->B q->¬V q)(d:∀q,q<w.heap.size->B q->b q):a7 b w' t l:=
 ⟨h.1.ad hc λq a=>c q (h.2.2 q a).2 (h.2.2 q a).1,h.2.1,λq a=>⟨d q (h.2.2 q a).2 (h.2.2 q a).1,fO (h.2.2 q a).2 hc.size⟩⟩
theorem r5{gs:O Fr}{hd:Nat}{ax:a6}{V:Nat->Prop}(h:gB X w C)(hs:h4 C.an gs)(hc:ab V w w')(dR:∀q,q<w.heap.size->V q->c3 C q)(m:kI ax C.D)(u:∀i,ax.now i=C.D.now i)(v:∀q,bD ax q->bD C.D q\/w.heap.size<=q):gB X w' {C with an:=gs,hand:=hd,D:=ax}:=by
 have x:=hc.size;have r:∀q,q<w.heap.size->c3 {C with an:=gs,hand:=hd,D:=ax} q->c3 C q:=λq a hf=>by
  rcases hf with h1|h1|h1
  .exact .inl h1
  .exact .inr (.inl h1)
  .exact .inr (.inr ((v q h1).resolve_right I))
 have g:∀ (i:Nat) (hi:i<gs.length),∃c:i<C.an.length,gs[i]={C.an[i] with used:=(gs[i]).used}:=λi hi=>⟨by rw[←hs.1];exact hi,hs.2 i (by rw[←hs.1];exact hi) hi⟩;refine⟨λf hf=>?_,λf hf y=>?_,λi j hi z h1 A B=>?_,λq a=>⟨fO (h.fh q a).1 x,λhf=>(h.fh q a).2 (r q (h.fh q a).1 hf)⟩,m.2.2⟩
 .obtain⟨i,hi,rfl⟩:=eY hf
  obtain⟨c,e⟩:=g i hi;have:(gs[i]).pins=(C.an[i]).pins:=by rw[e]
  rw[this];exact h.pins _ (cw c)
 .obtain⟨i,hi,rfl⟩:=eY hf
  obtain⟨c,e⟩:=g i hi;have n:(gs[i]).full=(C.an[i]).full:=by rw[e]
  have o:(gs[i]).no=(C.an[i]).no:=by rw[e]
  have p:(gs[i]).b=(C.an[i]).b:=by rw[e]
  have d:(gs[i]).l=(C.an[i]).l:=by rw[e]
  have s:(gs[i]).fT=(C.an[i]).fT:=by rw[e]
  obtain⟨no,au,E,F,G,H,J,K⟩:=h.ok _ (cw c) (by rw[←n];exact y);refine⟨no,by rw[o];exact au,by rw[m.1];exact E,?_,by rw[d];exact G,λhd=>by rw[d,u];exact H (by rw[←s];exact hd),λhs=>by rw[s];exact J (m.2.1 _ hs),K⟩;rw[p,d];exact a7.re F hc (λq a k L=>k.1 (dR q a L)) λq a k=>⟨λhf=>k.1 (r q a hf),k.2⟩
 .obtain⟨c,e⟩:=g i hi
  obtain⟨M,t⟩:=g j z;have n:(gs[i]).full=(C.an[i]).full:=by rw[e]
  have o:(gs[i]).no=(C.an[i]).no:=by rw[e]
  have p:(gs[j]).full=(C.an[j]).full:=by rw[t]
  have d:(gs[j]).no=(C.an[j]).no:=by rw[t]
  exact h.un i j c M (by rw[←n];exact h1) (by rw[←p];exact A) (by rw[←o,←d];exact B)
theorem r6{gs:O Fr}{hd:Nat}{ax:a6}(h:gB X w C)(hs:h4 C.an gs)(s:∀i,ax.now i=C.D.now i)(no:Nat):(b1.mk C.c C.aU gs hd ax).view no=C.view no:=by
 have g:∀ (i:Nat) (hi:i<gs.length),∃k:i<C.an.length,gs[i]={C.an[i] with used:=(gs[i]).used}:=λi hi=>⟨by rw[←hs.1];exact hi,hs.2 i (by rw[←hs.1];exact hi) hi⟩;by_cases hex:∃ (i:Nat) (hi:i<C.an.length),(C.an[i]).full=true/\(C.an[i]).no=no
 .obtain⟨i,hi,h1,d⟩:=hex
  have o:i<gs.length:=by rw[hs.1];exact hi
  obtain⟨k,e⟩:=g i o;have m:(gs[i]).full=(C.an[i]).full:=by rw[e]
  have n:(gs[i]).no=(C.an[i]).no:=by rw[e]
  have t:(gs[i]).l=(C.an[i]).l:=by rw[e]
  have u:∀ (i j:Nat) (hi:i<gs.length) (B:j<gs.length),(gs[i]).full=true->(gs[j]).full=true->(gs[i]).no=(gs[j]).no->i=j:=by
   intro a b v x bx bG y;obtain⟨z,p⟩:=g a v;obtain⟨A,q⟩:=g b x;have f1:(gs[a]).full=(C.an[a]).full:=by rw[p]
   have f2:(gs[a]).no=(C.an[a]).no:=by rw[p]
   have f3:(gs[b]).full=(C.an[b]).full:=by rw[q]
   have f4:(gs[b]).no=(C.an[b]).no:=by rw[q]
   exact h.un a b z A (by rw[←f1];exact bx) (by rw[←f3];exact bG) (by rw[←f2,←f4];exact y)
  rw[mw u o (by rw[m];exact h1) (by rw[n];exact d),t];exact(mw (fs:=C.an) (D:=C.D) (c:=C.c) (aU:=C.aU) (hd:=C.hand) h.un hi h1 d).symm
 .have r:∀f∈C.an,f.full=true->f.no≠no:=λf hf h1 d=>by
   obtain⟨i,hi,rfl⟩:=eY hf;exact hex ⟨i,hi,h1,d⟩
  have e:C.view no=C.D.now no:=mx (fs:=C.an) (D:=C.D) (c:=C.c) (aU:=C.aU) (hd:=C.hand) r;rw[e,←s];refine mx λf hf h1 d=>?_;obtain⟨i,hi,rfl⟩:=eY hf;obtain⟨k,e⟩:=g i hi;have m:(gs[i]).full=(C.an[i]).full:=by rw[e]
  have n:(gs[i]).no=(C.an[i]).no:=by rw[e]
  exact r _ (cw k) (by rw[←m];exact h1) (by rw[←n];exact d)
theorem yc{i:Nat}(hi:i<C.an.length){ax:a6}{V:Nat->Prop}(h:gB X w C)(hc:ab V w w')(dR:∀q,q<w.heap.size->V q->c3 C q)(m:kI ax C.D)
 (u:∀j:Nat,((C.an[i]).full=true->(C.an[i]).no≠j)->ax.now j=C.D.now j) (v:∀q,bD ax q->bD C.D q\/w.heap.size<=q) (f0:Fr) (n:f0.full=false) (x:f0.pins=0):gB X w' {C with an:=C.an.set i f0,D:=ax}:=by
 have y:=hc.size;have p:∀q,q<w.heap.size->c3 {C with an:=C.an.set i f0,D:=ax} q->c3 C q:=λq c hf=>by
  rcases hf with h1|h1|h1
  .exact .inl h1
  .exact .inr (.inl h1)
  .exact .inr (.inr ((v q h1).resolve_right I))
 refine⟨λf hf=>?_,λf hf d=>?_,λa b z g h1 l o=>?_,λq c=>⟨fO (h.fh q c).1 y,λhf=>(h.fh q c).2 (p q (h.fh q c).1 hf)⟩,m.2.2⟩
 .rcases lv hf with hf|rfl
  .exact h.pins f hf
  .exact x
 .obtain⟨k,A,rfl⟩:=eY hf
  have r:k<C.an.length:=by simpa using A
  by_cases e:i=k
  .subst e
   simp only[hJ]at d;rw[n]at d;cases d
  .simp only[fA e]at d⊢
   obtain⟨no,au,B,E,F,G,H,J⟩:=h.ok _ (cw r) d;refine⟨no,au,by rw[m.1];exact B,a7.re E hc (λq c g K=>g.1 (dR q c K)) λq c g=>⟨λhf=>g.1 (p q c hf),g.2⟩,F,λhd=>?_,λhs=>H (m.2.1 _ hs),J⟩;show _=ax.now no;rw[u no λL he=>e (h.un i k hi r L d (by rw[he,au]))];exact G hd
 .have M:a<C.an.length:=by simpa using z
  have N:b<C.an.length:=by simpa using g
  by_cases s:i=a
  .subst s
   simp only[hJ]at h1;rw[n]at h1;cases h1
  by_cases t:i=b
  .subst t
   simp only[hJ]at l;rw[n]at l;cases l
  simp only[fA s]at h1 o;simp only[fA t]at l o;exact h.un a b M N h1 l o
theorem BB{i:Nat}(hi:i<C.an.length){ax:a6}{hd:Nat}(h:gB X w C)(y:(C.an[i]).full=true->∀j:Nat,(C.an[i]).no=j->ax.now j=(C.an[i]).l)(z:∀j:Nat,((C.an[i]).full=true->(C.an[i]).no≠j)->ax.now j=C.D.now j)(f0:Fr)(n:f0.full=false)(no:Nat):
 (b1.mk C.c C.aU (C.an.set i f0) hd ax).view no=C.view no:=by
 by_cases hex:∃ (k:Nat) (m:k<C.an.length),(C.an[k]).full=true/\(C.an[k]).no=no
 .obtain⟨k,m,h1,d⟩:=hex
  have p:=mw (fs:=C.an) (D:=C.D) (c:=C.c) (aU:=C.aU) (hd:=C.hand) h.un m h1 d;have p:C.view no=(C.an[k]).l:=p;rw[p];by_cases e:i=k
  .subst e
   rw[←y h1 no d];refine mx λf hf au u=>?_;obtain⟨a,o,rfl⟩:=eY hf;have q:a<C.an.length:=by simpa using o
   by_cases g:i=a
   .subst g
    simp only[hJ]at au;rw[n]at au;cases au
   .simp only[fA g]at au u
    exact g (h.un i a hi q h1 au (by rw[d,u]))
  .have A:k<(C.an.set i f0).length:=by simpa using m
   have r:(C.an.set i f0)[k]=C.an[k]:=fA e _;have B:∀ (a b:Nat) (o:a<(C.an.set i f0).length) (v:b<(C.an.set i f0).length),((C.an.set i f0)[a]).full=true->((C.an.set i f0)[b]).full=true->((C.an.set i f0)[a]).no=((C.an.set i f0)[b]).no->a=b:=by
    intro a b o v h1 d s;have q:a<C.an.length:=by simpa using o
    have E:b<C.an.length:=by simpa using v
    by_cases g:i=a
    .subst g
     simp only[hJ]at h1;rw[n]at h1;cases h1
    by_cases x:i=b
    .subst x
     simp only[hJ]at d;rw[n]at d;cases d
    simp only[fA g]at h1 s;simp only[fA x]at d s;exact h.un a b q E h1 d s
   rw[mw B A (by rw[r];exact h1) (by rw[r];exact d),r]
 .have t:∀f∈C.an,f.full=true->f.no≠no:=λf hf h1 d=>by
   obtain⟨k,m,rfl⟩:=eY hf;exact hex ⟨k,m,h1,d⟩
  have e:C.view no=C.D.now no:=mx (fs:=C.an) (D:=C.D) (c:=C.c) (aU:=C.aU) (hd:=C.hand) t;rw[e,←z no λh1 d=>t _ (cw hi) h1 d];refine mx λf hf h1 d=>?_;rcases lv hf with hf|rfl
  .exact t f hf h1 d
  .rw[n]at h1;cases h1
theorem BC{X:Nat->Prop}{w:J}{C:b1}(h:gB X w C){no:Nat}{s:U}{l:cJ}(hs:¬C.D.bK no=true):kI (C.D.put no s l) C.D:=
 ⟨rfl,λ_ h=>h,λj a=>by
  have a:C.D.bK j=true:=a
  rw[Bw,if_neg λe=>hs (by rw[←e];exact a)];exact h.kH j a⟩
theorem BD(D:a6){no:Nat}{s:U}{l:cJ}(hs:¬D.bK no=true):(D.put no s l).key=D.key:=by
 have h1:=qm D (k:=2) (.inr rfl);unfold a6.key at h1⊢;have b:(D.put no s l).j8=D.j8:=by
  funext n;exact propext ⟨λ_ h=>absurd (h no) hs,λ_ h=>absurd (h no) hs⟩
 rw[b];have a:=congrArg Prod.snd h1;show((D.aZ,D.bK,D.er,D.j8),(D.cz 2).cl.getD 3 0)=_;have a:(D.cz 2).cl.getD 3 0=D.cl.getD 3 0:=a;rw[a]
def BE(X:Nat->Prop)(C:b1)(w:J)(v:aa)(w':J):Prop:=
 ∃aE:b1,ec X w' aE/\eC C aE w w' 1/\aE.aU=C.aU/\(∀j,aE.view j=C.view j)/\(∀f∈aE.an,f.full=true->∃g∈C.an,g.full=true/\g.no=f.no)/\
  ((∃ (i:Nat) (hi:i<aE.an.length),v=.tuple #[.pointer (some ⟨C.aU,i*6,none⟩),(0:Int)]/\(aE.an[i]).full=false/\((aE.an[i]).pins=0))\/
   (v=.tuple #[.pointer none,(3:Int)]/\¬C.D.calm 1))
theorem BF(h:ec X w C)(az:C.D.aN<=1000000000):aP ai 221 #[.pointer (some C.c)] w (BE X C w):=by
 have U:=h.raw;refine okF (af.u4 (some C.c)) ay.u4 func221 ?_;(delta af.u4 js ak bc r1 ag aA;dsimp only);refine(F6 U).use ?_;rintro _ _ ⟨he,rfl⟩;rcases he with ⟨i,hi,rfl,hf⟩|⟨rfl,aB⟩
 .exact⟨_,rfl,λ_=>⟨C,h,(eC.refl C w).mono (cE _),rfl,λ_=>rfl,λf hf H=>⟨f,hf,H,rfl⟩,.inl ⟨i,hi,rfl,hf,h.inv.pins _ (cw hi)⟩⟩,λh=>(by cases h)⟩
 refine⟨_,rfl,λh=>(by cases h),λ_=>(F7 U h.inv.pins).use ?_⟩;rintro _ w1 ⟨i,gs,hd,hi,rfl,z,r,aC⟩;have W:i<gs.length:=by rw[z.1];exact hi
 have L:ab (c3 C) w w1:=aC.mono λq _ n=>by
  rcases n with n|n
  .exact .inl n
  .exact .inr (.inl n)
 have E:=r5 (hd:=hd) (ax:=C.D) h.inv z L (λq _ h=>h) h.inv.r2 (λ_=>rfl) λq n=>.inl n;have P:=r6 (hd:=hd) (ax:=C.D) h.inv z λ_=>rfl;obtain⟨a,F⟩:∃a:b1,a={C with an:=gs,hand:=hd}:=⟨_,rfl⟩;have E:gB X w1 a:=by rw[F];exact E
 have r:fm w1 a:=by rw[F];exact r
 have P:∀no,a.view no=C.view no:=by rw[F];exact P
 have Y:∀q,c3 a q↔c3 C q:=by rw[F];exact λq=>Iff.rfl
 have o:a.D=C.D:=by rw[F]
 have p:a.c=C.c/\a.aU=C.aU:=by rw[F];exact⟨rfl,rfl⟩
 have I:a.an=gs:=by rw[F]
 have A:i<a.an.length:=by rw[I];exact W
 have R:(a.an[i]).full=true:=by
  have e:=z.2 i hi W;have:(gs[i]).full=(C.an[i]).full:=by rw[e]
  simp only[I];rw[this];exact aB _ (cw hi)
 have Z:∀f∈a.an,f.full=true->∃g∈C.an,g.full=true/\g.no=f.no:=by
  rw[I];intro f hf H;obtain⟨k,aa,rfl⟩:=eY hf;have ac:k<C.an.length:=by rw[←z.1];exact aa
  have e:=z.2 k ac aa;have aD:(gs[k]).full=(C.an[k]).full:=by rw[e]
  have aE:(gs[k]).no=(C.an[k]).no:=by rw[e]
  exact⟨C.an[k],cw ac,by rw[←aD];exact H,aE.symm⟩
 obtain⟨no,au,aF,aj,aG,aH,aI⟩:=E.ok _ (cw A) R;have f1:=j9 r.f A (j:=1) (by decide)
 have fin:∀ (ah:J) (ax:a6),ab (c3 C) w1 ah->fm ah {a with D:=ax}->eC C {a with D:=ax} w ah 1->kI ax C.D->(∀j:Nat,(a.an[i]).no≠j->ax.now j=C.D.now j)->(∀j:Nat,(a.an[i]).no=j->ax.now j=(a.an[i]).l)->(∀q,bD ax q->bD C.D q\/w1.heap.size<=q)->
  ∃S:ae,(some ⟨C.aU,i*6,none⟩:aq ae)=some S/\bA ah S [false,false,false,(0:Int),(0:Int),()]/\(6:Nat)=6/\al (setCells ah S 0 [false,false,false,(0:Int),(0:Int),()]) λaJ=>BE X C w (.tuple #[.pointer (some ⟨C.aU,i*6,none⟩),(0:Int)]) aJ:=by
  intro ah ax aK t B aL am aM K;have aO:bq ah a.aU (bE Fr.c a.an).toArray 288:=t.f;obtain⟨s1,s2,M⟩:=yb aO A dC;rw[p.2]at s1 s2 M;have aQ:gB X (setCells ah ⟨C.aU,i*6,none⟩ 0 dC.c) {a with an:=a.an.set i dC,D:=ax}:=by
   refine yc (V:=c3 C) (w:=w1) A E (aK.trans (M.mono λq _ e=>.inr (.inl e))) (λq _ n=>(Y q).2 n) (by rw[o];exact aL) (λj u=>by rw[o];exact am j λe=>u R e) (λq n=>by rw[o];exact K q n) dC rfl rfl
  have aR:=t.v;refine⟨_,rfl,s1,rfl,aS ⟨{a with an:=a.an.set i dC,D:=ax},⟨?_,aQ⟩,?_,p.2,λj=>?_,λf hf H=>?_,.inl ⟨i,by show i<(a.an.set i dC).length;rw[cY];exact A,rfl,by simp[dC],by simp[dC]⟩⟩⟩
  .have aT:a.c≠C.aU:=by have:=t.a1.1;rw[←p.2];exact this
   refine⟨?_,by show bq _ a.aU _ _;rw[p.2];exact s2,t.dev.ad M (λq n e=>t.a1.2.2 (by rw[show({a with D:=ax}:b1).aU=a.aU from rfl,p.2,←e];exact n)),?_,?_,?_,t.a1⟩
   .have:=aR.ad M aT
    show Var _ _ [_,.slice _ (a.an.set i dC).length (a.an.set i dC).length,_] _;rw[cY];exact this
   .show 8<=(a.an.set i dC).length;rw[cY];exact t.bx
   .show(a.an.set i dC).length<=64;rw[cY];exact t.bG
   .show a.hand<(a.an.set i dC).length;rw[cY];exact t.hd
  .refine⟨B.c,B.d,by show(a.an.set i dC).length=_;rw[cY];exact B.len,B.aZ,B.aN,B.calm,B.ad.trans (M.mono λq _ e=>.inr (.inl e)),B.c4⟩
  .rw[←P]
   exact BB A E (λ_ j u=>aM j u) (λj u=>by rw[o];exact am j λe=>u R e) dC rfl j
  .rcases lv hf with hf|rfl
   .exact Z f hf H
   .cases H
 refine⟨_,rfl,λh=>(by cases h),λ_=>hL (λah=>∃ax:a6,ab (c3 C) w1 ah/\fm ah {a with D:=ax}/\eC C {a with D:=ax} w ah 1/\kI ax C.D/\(∀j:Nat,(a.an[i]).no≠j->ax.now j=C.D.now j)/\(∀j:Nat,(a.an[i]).no=j->ax.now j=(a.an[i]).l)/\(∀q,bD ax q->bD C.D q\/w1.heap.size<=q)) (λq n=>⟨_,rfl,(a.an[i]).fT,?_,λaV=>?_,λaW=>n _ ⟨C.D,.refl _ _,?_,?_,h.inv.r2,λ_ _=>rfl,λj u=>?_,λq h=>.inl h⟩⟩) ?_⟩
 .rw[aw,←p.2];exact f1
 .
  have Q:=b6 w1;have y:=r.ext Q;obtain⟨ao,_,_⟩:=y.cells;rw[p.1,o]at ao;have f3:=j9 y.f A (j:=3) (by decide);have f5:=j9 y.f A (j:=5) (by decide);rw[p.2]at f3 f5;refine aS ⟨_,rfl,id,_,ao,_,rfl,id,(no:Int),?_,_,rfl,id,(a.an[i]).b,by rw[aw];exact f5,?_⟩
  .rw[aw,f3]
   show some (Value.int .i64 (a.an[i]).no)=_;rw[au]
  have aX:b_ w1.drew C.D:=by rw[←o];exact y.dev
  have ap:¬C.D.bK no=true:=λhs=>by
   have:=aI (by rw[o];exact hs);rw[aV]at this;cases this
  refine(vT aX (i:=no) (by rw[←o];exact aF) az (aj.1.ext Q) aG λq n hf=>(aj.2.2 q n).1.1 (.inr (.inr (by rw[o];exact hf)))).use ?_;rintro a9 ah aY;rcases aY with ⟨ar,rfl,T,G⟩|⟨ar,rfl,s,T,G,a0⟩
  .have N:ab (c3 C) w1 ah:=(ab.cK Q).trans (G.mono λq _ e=>.inr (.inr (.inl e)))
   refine⟨3,rfl,λ_=>⟨{a with D:=C.D.cz 2},⟨?_,?_⟩,?_,p.2,λj=>?_,Z,.inr ⟨rfl,λa7=>?_⟩⟩,λh=>(by cases h)⟩
   .have t:=y.v.ad G (λe=>y.a1.2.1 (.inl (by rw[o];exact e)))
    rw[o]at t;have av:=r.a1;rw[o]at av;exact⟨t,bq.ad y.f G (λe=>y.a1.2.2 (.inl (by rw[o];exact e))),T,r.bx,r.bG,r.hd,av⟩
   .have:=r5 (C:=a) (hd:=a.hand) (ax:=C.D.cz 2) E (h4.refl _) N (λq _ n=>(Y q).2 n) (by rw[o];exact h.inv.cz 2) (λj=>by rw[o];rfl) λq n=>.inl (by rw[o];exact n)
    exact this
   .refine⟨p.1,rfl,by show a.an.length=_;rw[I];exact z.1,qm C.D (.inr rfl),Nat.le_succ _,λm O=>(jL (.inr rfl) h.raw.dev.f4 O).1,L.trans N,λq n=>.inl ?_⟩
    rcases n with e|e|e
    .exact .inl (by rw[←p.1];exact e)
    .exact .inr (.inl (by rw[←p.2];exact e))
    .exact .inr (.inr e)
   .rw[←P]
    exact r6 (C:=a) E (h4.refl _) (λj=>by rw[o];rfl) j
   .have:=(jL (k:=2) (m:=0) (.inr rfl) h.raw.dev.f4 a7).2
    rw[ar]at this;cases this
  .have N:ab (c3 C) w1 ah:=(ab.cK Q).trans (G.mono λq _ e=>.inr (.inr e))
   have K:∀q,bD (C.D.put no s (a.an[i]).l) q->bD C.D q\/w1.heap.size<=q:=by
    rintro q (e|e|e|⟨x,hx,e⟩)
    .exact .inl (.inl e)
    .exact .inl (.inr (.inl e))
    .exact .inl (.inr (.inr (.inl e)))
    .rcases cU.1 hx with rfl|hx
     .exact a0 q e
     .exact .inl (.inr (.inr (.inr ⟨x,(hE.1 hx).1,e⟩)))
   have c6:∀q,bD C.D q->q≠a.c/\q≠a.aU:=λq n=>⟨λe=>r.a1.2.1 (by rw[o,←e];exact n),λe=>r.a1.2.2 (by rw[o,←e];exact n)⟩;refine⟨0,rfl,λh=>(by cases h),λ_=>n _ ⟨C.D.put no s (a.an[i]).l,N,?_,?_,BC h.inv ap,λj u=>?_,λj u=>?_,K⟩⟩
   .have t:=y.v.ad G (λe=>(c6 _ e).1 rfl)
    rw[o]at t;have a8:a.c<w1.heap.size:=r.v.lt;have a_:a.aU<w1.heap.size:=bq.lt r.f;refine⟨t,bq.ad y.f G (λe=>(c6 _ e).2 rfl),T,r.bx,r.bG,r.hd,r.a1.1,λe=>?_,λe=>?_⟩
    .rcases K _ e with h1|h1
     .exact(c6 _ h1).1 rfl
     .have:a.c<w1.heap.size:=a8
      have h1:w1.heap.size<=a.c:=h1;omega
    .rcases K _ e with h1|h1
     .exact(c6 _ h1).2 rfl
     .have h1:w1.heap.size<=a.aU:=h1
      omega
   .refine⟨p.1,rfl,by show a.an.length=_;rw[I];exact z.1,BD C.D ap,bo _,λm O=>(jL (.inr rfl) h.raw.dev.f4 O).1,L.trans N,λq n=>?_⟩
    rcases n with e|e|e
    .exact .inl (.inl (by rw[←p.1];exact e))
    .exact .inl (.inr (.inl (by rw[←p.2];exact e)))
    .rcases K q e with h1|h1
     .exact .inl (.inr (.inr h1))
     .exact .inr (ey L.size h1)
   .rw[oN,if_neg (λe=>u (by rw[au,e]))]
   .rw[oN,if_pos (by rw[au]at u;omega)]
 .rw[←o];exact r
 .refine⟨p.1,rfl,by show a.an.length=_;rw[I];exact z.1,rfl,Nat.le_succ _,λm O=>ga O (Nat.le_succ _),L,λq n=>.inl ?_⟩
  rcases n with e|e|e
  .exact .inl (by rw[←p.1];exact e)
  .exact .inr (.inl (by rw[←p.2];exact e))
  .exact .inr (.inr e)
 .have:no=j:=by rw[au]at u;omega
  subst this;rw[←o];exact(aH aW).symm
 .rintro ah ⟨ax,a1,a2,a3,a4,a5,c1,dx⟩
  exact fin ah ax a1 a2 a3 a4 a5 c1 dx
end
def r7(fs:O Fr):Prop:=∀ (i j:Nat) (hi:i<fs.length) (a:j<fs.length),(fs[i]).full=true->(fs[j]).full=true->(fs[i]).no=(fs[j]).no->i=j
theorem BG{fs gs:O Fr}{D ax:a6}{c aU hd c' n o j:Nat}(p:r7 fs)(q:r7 gs)(h1:∀ (i:Nat) (hi:i<fs.length),(fs[i]).full=true->(fs[i]).no=j->∃ (k:Nat) (a:k<gs.length),(gs[k]).full=true/\(gs[k]).no=j/\(gs[k]).l=(fs[i]).l)
 (b:(∀f∈fs,f.full=true->f.no≠j)->(∀f∈gs,f.full=true->f.no≠j)/\ax.now j=D.now j):(b1.mk c' n gs o ax).view j=(b1.mk c aU fs hd D).view j:=by
 by_cases hex:∃ (k:Nat) (a:k<fs.length),(fs[k]).full=true/\(fs[k]).no=j
 .obtain⟨k,a,au,g⟩:=hex
  obtain⟨m,r,d,e,s⟩:=h1 k a au g;rw[mw p a au g,mw q r d e,s]
 .have h:∀f∈fs,f.full=true->f.no≠j:=λf hf h1 b=>by
   obtain⟨k,a,rfl⟩:=eY hf;exact hex ⟨k,a,h1,b⟩
  obtain⟨d,e⟩:=b h;rw[mx h,mx d,e]
section
variable {w w':J}{C:b1}{X:Nat->Prop}
theorem yd{i:Nat}(hi:i<C.an.length){no:Nat}{V:Nat->Prop}(h:gB X w C)(hc:ab V w w')(dR:∀q,q<w.heap.size->V q->c3 C q){ax:a6}(s:kI ax C.D)(B:∀j,ax.now j=C.D.now j)(E:∀q,bD ax q↔bD C.D q)
 (d:Fr) (Q:d.full=true) (F:d.pins=0) (t:Bz X w' {C with an:=C.an.set i d,D:=ax} d no) (u:∀ (k:Nat) (v:k<C.an.length),k≠i->(C.an[k]).full=true->(C.an[k]).no≠no):gB X w' {C with an:=C.an.set i d,D:=ax}:=by
 have G:=hc.size;have x:∀q,c3 {C with an:=C.an.set i d,D:=ax} q->c3 C q:=λq hf=>by
  rcases hf with h1|h1|h1
  .exact .inl h1
  .exact .inr (.inl h1)
  .exact .inr (.inr ((E q).1 h1))
 refine⟨λf hf=>?_,λf hf y=>?_,λa b H g h1 o c=>?_,λq p=>⟨fO (h.fh q p).1 G,λhf=>(h.fh q p).2 (x q hf)⟩,s.2.2⟩
 .rcases lv hf with hf|rfl
  .exact h.pins f hf
  .exact F
 .obtain⟨k,v,rfl⟩:=eY hf
  have I:k<C.an.length:=by simpa using v
  by_cases e:i=k
  .subst e
   simp only[hJ];exact⟨no,t⟩
  .simp only[fA e]at y⊢
   obtain⟨m,au,J,K,L,M,N,O⟩:=h.ok _ (cw I) y;exact⟨m,au,by show m<ax.n;rw[s.1];exact J,a7.re K hc (λq p g P=>g.1 (dR q p P)) λq _ g=>⟨λhf=>g.1 (x q hf),g.2⟩,L,λhd=>by show _=ax.now m;rw[B];exact M hd,λhs=>N (s.2.1 _ hs),O⟩
 .have z:a<C.an.length:=by simpa using H
  have A:b<C.an.length:=by simpa using g
  by_cases r:i=a
  .by_cases l:i=b
   .omega
   .subst r
    simp only[hJ]at c;simp only[fA l]at o c;exact absurd (by rw[←c];exact t.num) (u b A (λe=>l e.symm) o)
  .by_cases l:i=b
   .subst l
    simp only[hJ]at c;simp only[fA r]at h1 c;exact absurd (by rw[c];exact t.num) (u a z (λe=>r e.symm) h1)
   .simp only[fA r]at h1 c
    simp only[fA l]at o c;exact h.un a b z A h1 o c
theorem F8{i:Nat}(hi:i<C.an.length){no:Nat}(h:r7 C.an)(j:Fr)(l:j.no=no)(m:∀ (k:Nat) (r:k<C.an.length),k≠i->(C.an[k]).full=true->(C.an[k]).no≠no):r7 (C.an.set i j):=by
 intro a b p q h1 f c;have n:a<C.an.length:=by simpa using p
 have o:b<C.an.length:=by simpa using q
 by_cases g:i=a
 .by_cases d:i=b
  .omega
  .subst g
   simp only[hJ]at c;simp only[fA d]at f c;exact absurd (by rw[←c];exact l) (m b o (λe=>d e.symm) f)
 .by_cases d:i=b
  .subst d
   simp only[hJ]at c;simp only[fA g]at h1 c;exact absurd (by rw[c];exact l) (m a n (λe=>g e.symm) h1)
  .simp only[fA g]at h1 c
   simp only[fA d]at f c;exact h a b n o h1 f c
theorem ye{i:Nat}(hi:i<C.an.length){no:Nat}(h:r7 C.an){ax:a6}(n:∀j,ax.now j=C.D.now j)(a:Fr)(o:a.full=true)(d:a.no=no)(hold:(C.an[i]).full=true->(C.an[i]).no=no)(p:∀ (k:Nat) (m:k<C.an.length),k≠i->(C.an[k]).full=true->(C.an[k]).no≠no){hd:Nat}(j:Nat):
 (b1.mk C.c C.aU (C.an.set i a) hd ax).view j=if j=no then a.l else C.view j:=by
 have hu:=F8 hi h a d p;have q:i<(C.an.set i a).length:=by simpa using hi
 by_cases e:j=no
 .subst e
  rw[if_pos rfl,mw hu q (by simp[o]) (by simpa using d)];simp
 .rw[if_neg e]
  refine BG (fs:=C.an) (D:=C.D) (c:=C.c) (aU:=C.aU) (hd:=C.hand) h hu (λk m au b=>?_) λr=>⟨λf hf au b=>?_,n j⟩
  .have g:i≠k:=λs=>by
    subst s;have:=hold au;rw[b]at this;exact e I
   have t:k<(C.an.set i a).length:=by simpa using m
   exact⟨k,t,by simp only[fA g];exact au,by simp only[fA g];exact b,by simp only[fA g]⟩
  .rcases lv hf with hf|rfl
   .exact r f hf au b
   .rw[d]at b
    exact e I
def F9(X:Nat->Prop)(C:b1)(no:Nat)(w:J)(v:aa)(w':J):Prop:=
 ∃aE:b1,ec X w' aE/\eC C aE w w' 2/\(∀j,aE.view j=C.view j)/\
  ((∃s:U,v=.tuple #[s,(0:Int)]/\a7 (λq=>w.heap.size<=q/\¬c3 aE q/\¬X q) w' s (C.view no))\/(v=.tuple #[(),(3:Int)]/\¬C.D.calm 2))
theorem F_(h:ec X w C)(a_:C.D.aN<=999999999){no:Nat}(aD:no<C.D.n)(aE:2<=no):aP ai 239 #[.pointer (some C.c),no] w (F9 X C no w):=by
 have r:=h.raw;refine okF (af.u5 (some C.c) (no:Int)) ay.u5 func239 ?_;(delta af.u5 aK ak js st ag ba de b8;dsimp only);refine(BA r _).use ?_;rintro _ _ ⟨rfl,rfl⟩;refine⟨_,rfl,λF=>?_,λ_=>(vV r _).use ?_⟩
 .have:decide (0<=(no:Int)/\(no:Int)<C.D.n)=true:=dw ⟨I,I⟩
  rw[this]at F;cases F
 rintro _ _ ⟨aF,rfl⟩;rcases aF with ⟨i,hi,rfl,hf,aG⟩|⟨rfl,aH⟩
 .
  obtain⟨au,aI,M,J⟩:=np r.f hi (j:=2) (by decide) (v:=true) {C.an[i] with used:=true} rfl;have ac:h4 C.an (C.an.set i {C.an[i] with used:=true}):=(h4.refl C.an).set hi true;have K:ab (c3 C) w (w.setCell ⟨C.aU,i*6+2,none⟩ true):=J.mono λq _ e=>.inr (.inl e);have hinv:=r5 (hd:=C.hand) (ax:=C.D) h.inv ac K (λq _ h=>h) h.inv.r2 (λ_=>rfl) λq p=>.inl p;have aJ:=r6 (hd:=C.hand) (ax:=C.D) h.inv ac λ_=>rfl;obtain⟨w1,ae⟩:∃w1,w1=w.setCell ⟨C.aU,i*6+2,none⟩ true:=⟨_,rfl⟩;rw[←ae]at M J K hinv;have N:fm w1 {C with an:=C.an.set i {C.an[i] with used:=true}}:=by
   refine⟨?_,M,r.dev.ad J (λq p e=>r.a1.2.2 (e▸p)),?_,?_,?_,r.a1⟩
   .have:=r.v.ad J r.a1.1
    show Var _ _ [_,.slice _ (C.an.set i _).length (C.an.set i _).length,_] _;rw[cY];exact this
   .show 8<=(C.an.set i _).length;rw[cY];exact r.bx
   .show(C.an.set i _).length<=64;rw[cY];exact r.bG
   .show C.hand<(C.an.set i _).length;rw[cY];exact r.hd
  obtain⟨a,O⟩:∃a:b1,a={C with an:=C.an.set i {C.an[i] with used:=true}}:=⟨_,rfl⟩;have P:ec X w1 a:=by rw[O];exact⟨N,hinv⟩
  have dK:i<(C.an.set i {C.an[i] with used:=true}).length:=by simpa using hi
  have f5:=j9 M dK (j:=5) (by decide);obtain⟨m,bx,bG,aj,al,bb,bc,bd⟩:=hinv.ok ((C.an.set i {C.an[i] with used:=true})[i]) (cw dK) (by simp[hf]);have aL:((C.an.set i {C.an[i] with used:=true})[i]).b=(C.an[i]).b:=by simp
  have am:((C.an.set i {C.an[i] with used:=true})[i]).l=(C.an[i]).l:=by simp
  rw[aL,am]at aj;rw[am]at al;refine⟨_,rfl,λ_=>⟨_,rfl,by rw[aw];exact au,by rw[aw];exact aI,?_⟩,λh=>(by cases h)⟩;rw[aw,←ae];refine aS ⟨_,rfl,(C.an[i]).b,by rw[aw,f5];simp[Fr.c],(kE (B:=λq=>w1.heap.size<=q) aj.1 (by rw[al];omega) (λq p=>p)).use ?_⟩;rintro _ ah ⟨s,rfl,hs,ao,_⟩;have aM:C.view no=(C.an[i]).l:=mw (fs:=C.an) (D:=C.D) (c:=C.c) (aU:=C.aU) (hd:=C.hand) h.inv.un hi hf aG;have aO:=K.size;refine⟨s,rfl,a,P.ext ao,?_,?_,.inl ⟨s,rfl,?_⟩⟩
  .rw[O]
   exact⟨rfl,rfl,by show(C.an.set i _).length=_;rw[cY],rfl,Nat.le_add_right _ _,λm Q=>ga Q I,K.trans (ab.cK ao),λq p=>.inl p⟩
  .intro j;rw[O];exact aJ j
  .rw[aM]
   refine a7.aW hs λq _ p=>⟨I,λhf=>?_,λG=>?_⟩
   .have:=P.raw.lt hf;omega
   .have:=(P.inv.fh q G).1;omega
 .
  refine⟨_,rfl,λh=>(by cases h),λ_=>(BF h I).use ?_⟩;rintro _ w1 ⟨a,o,y,A,H,aQ,N⟩;rcases N with ⟨i,hi,rfl,aR,be⟩|⟨rfl,aT⟩
  .refine⟨_,_,rfl,λh=>(by simp at h),λ_=>⟨_,rfl,some C.D.d,?_,?_⟩⟩
   .have:=o.raw.cells.1
    rw[y.c,y.d]at this;exact this
   have R:no<a.D.n:=by rw[y.n];exact aD
   have bf:=y.aN;rw[←y.d];refine(x9 o.raw.dev R I).use ?_;rintro bg ah ⟨ap,L,aV⟩;have aq:=λq=>o.raw.lt (q:=q);have S:ab (c3 a) w1 ah:=L.mono λq _ e=>.inr (.inr (.inl e))
   have T:∀f∈a.an,f.full=true->f.no≠no:=λf hf aX aY=>by
    obtain⟨g,hg,h1,a0⟩:=aQ f hf aX;exact aH g hg h1 (by rw[a0,aY])
   have a2:a.D.calm 1\/¬C.D.calm 2:=by
    rcases Classical.em (C.D.calm 2) with h1|h1
    .exact .inl (y.calm 1 h1)
    .exact .inr h1
   have ar:a.view no=a.D.now no:=mx (fs:=a.an) (D:=a.D) (c:=a.c) (aU:=a.aU) (hd:=a.hand) T;have U:∀q,bD a.D q->q≠a.c/\q≠a.aU:=λq p=>⟨λe=>o.raw.a1.2.1 (e▸p),λe=>o.raw.a1.2.2 (e▸p)⟩;have a3:gB X ah {a with D:=a.D.cz 1}:=r5 (C:=a) (hd:=a.hand) (ax:=a.D.cz 1) o.inv (h4.refl _) S (λq _ h=>h) (o.inv.cz 1) (λ_=>rfl) λq p=>.inl p;have u:eC C {a with D:=a.D.cz 1} w ah 2:=by
    have:eC a {a with D:=a.D.cz 1} w1 ah 1:=⟨rfl,rfl,rfl,qm a.D (.inl rfl),Nat.le_succ _,λm Q=>(jL (.inl rfl) o.raw.dev.f4 Q).1,S,λq p=>.inl p⟩;exact y.trans this
   have a4:∀j,({a with D:=a.D.cz 1}:b1).view j=C.view j:=λj=>by rw[←H];exact r6 (C:=a) o.inv (h4.refl _) (λ_=>rfl) j
   have W:fm ah {a with D:=a.D.cz 1}:=⟨o.raw.v.ad L (λe=>(U _ (.inl rfl)).1 e.symm),bq.ad o.raw.f L (λe=>(U _ (.inl rfl)).2 e.symm),ap,o.raw.bx,o.raw.bG,o.raw.hd,o.raw.a1⟩;rcases aV with ⟨F,rfl⟩|⟨F,s,rfl,hs⟩
   .refine⟨⟨none,0,0⟩,3,rfl,λ_=>⟨{a with D:=a.D.cz 1},⟨W,a3⟩,u,a4,.inr ⟨rfl,?_⟩⟩,λh=>(by simp at h)⟩
    rcases a2 with h1|h1
    .have:=(jL (k:=1) (m:=0) (.inl rfl) o.raw.dev.f4 h1).2
     rw[F]at this;cases this
    .exact h1
   .have av:(a.D.now no).length=256:=o.raw.dev.oM R
    obtain⟨s1,s2,z⟩:=yb W.f hi ⟨true,false,true,(no:Int),0,s,a.D.now no⟩;rw[A]at s1 s2 z;have bh:=L.size;have aO:=y.ad.size;refine⟨s,_,rfl,λh=>(by simp at h),λ_=>⟨_,rfl,s1,rfl,?_⟩⟩;obtain⟨x,az⟩:∃x,x=setCells ah ⟨C.aU,i*6,none⟩ 0 (Fr.c ⟨true,false,true,(no:Int),0,s,a.D.now no⟩):=⟨_,rfl⟩;rw[←az]at s2 z;have hg:setCells ah ⟨C.aU,i*6,none⟩ 0 [true,false,true,no,(0:Int),s]=x:=az.symm;rw[hg];have aA:ab (c3 a) ah x:=z.mono λq _ e=>.inr (.inl (by rw[A];exact e));have aB:a7 (λq=>w1.heap.size<=q) x s (a.D.now no):=a7.ad hs z λq p e=>by
     have:=aq C.aU (.inr (.inl A.symm));omega
    have a5:gB X x {a with an:=a.an.set i ⟨true,false,true,(no:Int),0,s,a.D.now no⟩,D:=a.D.cz 1}:=by
     refine yd (w:=w1) (V:=c3 a) (ax:=a.D.cz 1) hi (no:=no) o.inv (S.trans aA) (λq _ h=>h) (o.inv.cz 1) (λ_=>rfl) (λq=>Iff.rfl) ⟨true,false,true,(no:Int),0,s,a.D.now no⟩ rfl rfl ⟨rfl,R,?_,av,λ_=>rfl,λ_=>rfl,aE⟩ λk Y _ h1=>T _ (cw Y) h1;refine a7.aW aB λq _ p=>⟨λhf=>?_,λG=>?_⟩
     .have:c3 a q:=hf
      have:=aq q this;omega
     .have:=(o.inv.fh q G).1;omega
    have a6:∀j,({a with an:=a.an.set i ⟨true,false,true,(no:Int),0,s,a.D.now no⟩,D:=a.D.cz 1}:b1).view j=C.view j:=λj=>by
     have:=ye (hd:=a.hand) (ax:=a.D.cz 1) hi (no:=no) o.inv.un (λ_=>rfl) ⟨true,false,true,(no:Int),0,s,a.D.now no⟩ rfl rfl (λh1=>by rw[aR]at h1;cases h1) (λk Y _ h1=>T _ (cw Y) h1) j;rw[show({a with an:=a.an.set i ⟨true,false,true,(no:Int),0,s,a.D.now no⟩,D:=a.D.cz 1}:b1)=b1.mk a.c a.aU (a.an.set i ⟨true,false,true,(no:Int),0,s,a.D.now no⟩) a.hand (a.D.cz 1) from rfl,this];by_cases e:j=no
     .rw[if_pos e,e,←H,ar]
     .rw[if_neg e,H]
    have a8:fm x {a with an:=a.an.set i ⟨true,false,true,(no:Int),0,s,a.D.now no⟩,D:=a.D.cz 1}:=by
     refine⟨?_,by show bq _ a.aU _ _;rw[A];exact s2,ap.ad z (λq p e=>(U q p).2 (by rw[A];exact e)),?_,?_,?_,o.raw.a1⟩
     .have:=W.v.ad z (λe=>o.raw.a1.1 (by rw[A];exact e))
      show Var _ _ [_,.slice _ (a.an.set i _).length (a.an.set i _).length,_] _;rw[cY];exact this
     .show 8<=(a.an.set i _).length;rw[cY];exact o.raw.bx
     .show(a.an.set i _).length<=64;rw[cY];exact o.raw.bG
     .show a.hand<(a.an.set i _).length;rw[cY];exact o.raw.hd
    obtain⟨E,Z⟩:∃E:b1,E={a with an:=a.an.set i ⟨true,false,true,(no:Int),0,s,a.D.now no⟩,D:=a.D.cz 1}:=⟨_,rfl⟩;have aa:ec X x E:=by rw[Z];exact⟨a8,a5⟩
    have a9:eC C E w x 2:=by
     rw[Z];exact⟨u.c,u.d,by show(a.an.set i _).length=_;rw[cY];exact u.len,u.aZ,u.aN,u.calm,ct u.ad aA λq p h=>(u.c4 q h).resolve_right I,u.c4⟩
    refine aS ((kE (B:=λq=>x.heap.size<=q) aB.1 (by rw[av];omega) (λq p=>p)).use ?_);rintro _ bi ⟨t,rfl,ht,aC,_⟩;have bj:=z.size;refine⟨t,rfl,E,aa.ext aC,?_,?_,.inl ⟨t,rfl,?_⟩⟩
    .exact(a9.trans (eC.ext E aC)).mono I
    .intro j;rw[Z];exact a6 j
    .rw[←H,ar]
     refine a7.aW ht λq _ p=>⟨I,λhf=>?_,λG=>?_⟩
     .have:=aa.raw.lt hf;omega
     .have:=(aa.inv.fh q G).1;omega
  .refine⟨_,_,rfl,λ_=>⟨a,o,y.mono I,H,.inr ⟨rfl,λhc=>aT (ga hc I)⟩⟩,λh=>(by simp at h)⟩
end
section
variable {w w':J}{C:b1}{X:Nat->Prop}
def BH(X:Nat->Prop)(C:b1)(no:Nat)(l:cJ)(w:J)(v:aa)(w':J):Prop:=
 ∃aE:b1,ec X w' aE/\eC C aE w w' 1/\
  ((v=.int .i64 0/\∀j,aE.view j=if j=no then l else C.view j)\/(v=.int .i64 3/\¬C.D.calm 1/\∀j,aE.view j=C.view j))
theorem yf{i:Nat}{a:Fr}(h:fm w C)(hc:ab (λq=>q=C.aU) w w')(b:bq w' C.aU (bE Fr.c (C.an.set i a)).toArray 288):fm w' {C with an:=C.an.set i a}:=by
 refine⟨?_,b,h.dev.ad hc (λq d e=>h.a1.2.2 (e▸d)),?_,?_,?_,h.a1⟩
 .have:=h.v.ad hc h.a1.1
  show Var _ _ [_,.slice _ (C.an.set i _).length (C.an.set i _).length,_] _;rw[cY];exact this
 .show 8<=(C.an.set i _).length;rw[cY];exact h.bx
 .show(C.an.set i _).length<=64;rw[cY];exact h.bG
 .show C.hand<(C.an.set i _).length;rw[cY];exact h.hd
theorem set_set{fs:O Fr}{i:Nat}(f g:Fr):(fs.set i f).set i g=fs.set i g:=List.set_set ..
theorem BI (h:ec X w C) (bv:C.D.aN≤999999999) {no:Nat} (aD:no<C.D.n) (aE:2≤no) (aG:¬C.D.bK no=true) {b:U} {l:cJ} (aj:Src 1 w b (aF l)) (am:l.length=256) (ao:∀q,az b q→q<w.heap.size∧¬c3 C q):
   aP ai 162 #[.pointer (some C.c),no,b] w (BH X C no l w):=by
 have P:=h.raw
 have aH:=len8 aj
 refine okF (af.uN (some C.c) (no:Int) b) ay.uN func162 ?_
 (delta af.uN aK ak js de st ba;dsimp only)
 refine(BA P _).use ?_
 rintro _ _ ⟨rfl,rfl⟩
 have aI:decide (0≤(no:Int)∧(no:Int)<C.D.n)=true:=dw ⟨by omega,by omega⟩
 refine⟨_,rfl,fun h1=>?_,fun _=>(vV P _).use ?_⟩
 · rw[aI,aH,am] at h1
   simp at h1
 rintro _ _ ⟨aJ,rfl⟩
 have fin:∀ (w1:J) (a:b1) (i:Nat) (hi:i<a.an.length) (f1:Fr),ec X w1 a→eC C a w w1 1→a.aU=C.aU→(∀j,a.view j=C.view j)→f1.pins=0→∀ah:J,bq ah a.aU (bE Fr.c (a.an.set i f1)).toArray 288→ab (fun q=>q=a.aU) w1 ah→f1.full=true→f1.no=(no:Int)→
     ((a.an[i]).full=true→(a.an[i]).no=(no:Int))→(∀ (k:Nat) (E:k<a.an.length),k≠i→(a.an[k]).full=true→(a.an[k]).no≠(no:Int))→
     Calls ai 135 #[b] ah fun aL Q=>∃ap:U,aL= .returned ap∧∃H:ae,(some ⟨C.aU,i*6,none⟩:aq ae)=some H∧(∃u:aa,Q.cell? (H.add 5)=some u)∧Q.frozen? (H.add 5)=false∧
       al (Q.setCell (H.add 5) ap) fun R=>∃I:ae,(some ⟨C.aU,i*6,none⟩:aq ae)=some I∧(∃u:aa,R.cell? (I.add 1)=some u)∧R.frozen? (I.add 1)=false∧
       al (R.setCell (I.add 1) true) fun S=>∃K:ae,(some ⟨C.aU,i*6,none⟩:aq ae)=some K∧(∃u:aa,S.cell? (K.add 2)=some u)∧S.frozen? (K.add 2)=false∧
       al (S.setCell (K.add 2) true) fun aM=>BH X C no l w (0:Int) aM:=by
   intro w1 a i hi f1 y o x aO T ah aQ L M ar hold av
   have bw:=o.ad.size
   have bx:=L.size
   have bz:a.aU<w1.heap.size:=y.raw.lt (.inr (.inl rfl))
   have aR:Src 1 ah b (aF l):=by
     refine(aj.ad o.ad fun q m hf=>(ao q m).2 hf).ad L fun q m e=>(ao q m).2 (.inr (.inl (by rw[←x];exact e)))
   refine(kE (B:=fun q=>ah.heap.size≤q) aR (by omega) (fun q m=>m)).use ?_
   rintro _ aT ⟨s,rfl,hs,aA,_⟩
   have aV:=bq.ext aQ aA
   have W:i<(a.an.set i f1).length:=by rw[cY];exact hi
   have Y:(a.an.set i f1)[i]=f1:=by simp
   obtain⟨a1,a2,a3,a4⟩:=np aV W (j:=5) (by decide) (v:=s) {f1 with b:=s} (by rw[Y];rfl)
   rw[set_set] at a3
   have aX:i<(a.an.set i {f1 with b:=s}).length:=by rw[cY];exact hi
   have aY:(a.an.set i {f1 with b:=s})[i]={f1 with b:=s}:=by simp
   obtain⟨b9,bQ,z,A⟩:=np a3 aX (j:=1) (by decide) (v:=true) {f1 with b:=s,fT:=true} (by rw[aY];rfl)
   rw[set_set] at z
   have a0:i<(a.an.set i {f1 with b:=s,fT:=true}).length:=by rw[cY];exact hi
   have a5:(a.an.set i {f1 with b:=s,fT:=true})[i]={f1 with b:=s,fT:=true}:=by simp
   obtain⟨d1,d2,d3,d4⟩:=np z a0 (j:=2) (by decide) (v:=true) {f1 with b:=s,fT:=true,used:=true,l:=l} (by rw[a5];rfl)
   rw[set_set] at d3
   rw[x] at a1 a2 a3 a4 b9 bQ z A d1 d2 d3 d4 L
   refine⟨s,rfl,_,rfl,by rw[aw];exact a1,by rw[aw];exact a2,?_⟩
   rw[aw]
   refine aS ⟨_,rfl,by rw[aw];exact b9,by rw[aw];exact bQ,?_⟩
   rw[aw]
   refine aS ⟨_,rfl,by rw[aw];exact d1,by rw[aw];exact d2,?_⟩
   rw[aw]
   have N:=(L.trans (ab.cK aA)).trans (a4.trans (A.trans d4))
   obtain⟨t,r⟩:∃t:Fr,t={f1 with b:=s,fT:=true,used:=true,l:=l}:=⟨_,rfl⟩
   obtain⟨F,Z⟩:∃F,F=(((aT.setCell ⟨C.aU,i*6+5,none⟩ s).setCell ⟨C.aU,i*6+1,none⟩ true).setCell ⟨C.aU,i*6+2,none⟩ true):=⟨_,rfl⟩
   rw[←Z,←r] at d3
   rw[←Z] at N⊢
   have a6:a7 (fun q=>ah.heap.size≤q) F s l:=by
     have h1:=a7.ad hs a4 fun q m e=>by rw[←x] at e;omega
     have G:=a7.ad h1 A fun q m e=>by rw[←x] at e;omega
     have a8:=a7.ad G d4 fun q m e=>by rw[←x] at e;omega
     rw[Z];exact a8
   have a9:fm F {a with an:=a.an.set i t}:=yf y.raw (by rw[x];exact N) (by rw[x];exact d3)
   have a_:gB X F {a with an:=a.an.set i t}:=by
     refine yd (w:=w1) (V:=fun q=>q=C.aU) (ax:=a.D) hi (no:=no) y.inv N (fun q _ e=> .inr (.inl (by rw[x];exact e))) y.inv.r2 (fun _=>rfl) (fun q=>Iff.rfl) t (by rw[r];exact M) (by rw[r];exact T) ⟨by rw[r];exact ar,by show no<a.D.n;rw[o.n];exact aD,?_,by rw[r];exact am,fun hd=>(by rw[r] at hd;cases hd),fun hs=>absurd (by rw[←o.bK];exact hs) aG,aE⟩ av
     rw[r]
     refine a7.aW a6 fun q _ m=>⟨fun hf=>?_,fun bb=>?_⟩
     · have:c3 a q:=hf
       have:=y.raw.lt this;omega
     · have:=(y.inv.fh q bb).1;omega
   refine aS ⟨{a with an:=a.an.set i t},⟨a9,a_⟩,⟨o.c,o.d,by show(a.an.set i _).length=_;rw[cY];exact o.len,o.aZ,o.aN,o.calm,ct o.ad N fun q m e=> .inr (.inl e),o.c4⟩, .inl ⟨rfl,fun j=>?_⟩⟩
   have:=ye (C:=a) (hd:=a.hand) (ax:=a.D) hi (no:=no) y.inv.un (fun _=>rfl) t (by rw[r];exact M) (by rw[r];exact ar) hold av j
   rw[show({a with an:=a.an.set i t}:b1)=b1.mk a.c a.aU (a.an.set i t) a.hand a.D from rfl,this,aO]
   rw[r]
 rcases aJ with ⟨i,hi,rfl,hf,ac⟩|⟨rfl,bc⟩
 · refine⟨_,rfl,cm (fun p w'=>p=some ⟨C.aU,i*6,none⟩∧w=w') (fun q m=>⟨fun h=>(by cases h),fun _=>m _ _ ⟨rfl,rfl⟩⟩) ?_⟩
   rintro _ _ ⟨rfl,rfl⟩
   have e:C.an.set i C.an[i]=C.an:=List.set_getElem_self _
   exact fin w C i hi C.an[i] h ((eC.refl C w).mono (cE _)) rfl (fun _=>rfl) (h.inv.pins _ (cw hi)) w (by rw[e];exact P.f) (.refl _ _) hf ac (fun _=>ac) fun k E bd h1 G=>bd (h.inv.un k i E hi h1 hf (by rw[G,ac]))
 · refine⟨_,rfl,cm (fun p ah=>∃ (w1:J) (a:b1) (i:Nat) (hi:i<a.an.length) (f1:Fr),p=some ⟨C.aU,i*6,none⟩∧ec X w1 a∧eC C a w w1 1∧a.aU=C.aU∧(∀j,a.view j=C.view j)∧f1.pins=0∧bq ah a.aU (bE Fr.c (a.an.set i f1)).toArray 288∧ab (fun q=>q=a.aU) w1 ah∧f1.full=true∧f1.no=(no:Int)∧
     ((a.an[i]).full=true→(a.an[i]).no=(no:Int))∧(∀ (k:Nat) (E:k<a.an.length),k≠i→(a.an[k]).full=true→(a.an[k]).no≠(no:Int))) (fun q m=>⟨fun _=>(BF h (by omega)).use ?_,fun h=>(by cases h)⟩) ?_⟩
   · rintro _ w1 ⟨a,ag,aB,O,aC,be,bf⟩
     have bg:∀f∈a.an,f.full=true→f.no≠(no:Int):=fun f hf M bh=>by
       obtain⟨g,hg,h1,G⟩:=be f hf M
       exact bc g hg h1 (by rw[G,bh])
     rcases bf with ⟨i,hi,rfl,bi,T⟩|⟨rfl,bj⟩
     · obtain⟨a1,a2,a3,a4⟩:=np ag.raw.f hi (j:=0) (by decide) (v:=true) {a.an[i] with full:=true} rfl
       have W:i<(a.an.set i {a.an[i] with full:=true}).length:=by rw[cY];exact hi
       have Y:(a.an.set i {a.an[i] with full:=true})[i]={a.an[i] with full:=true}:=by simp
       obtain⟨b9,bQ,z,A⟩:=np a3 W (j:=3) (by decide) (v:=no) {a.an[i] with full:=true,no:=(no:Int)} (by rw[Y];rfl)
       rw[set_set] at z
       rw[O] at a1 a2 b9 bQ z a4 A
       refine⟨_,_,rfl,fun h=>(by simp at h),fun _=>⟨_,rfl,a1,a2,aS ⟨_,rfl,by rw[aw];exact b9,by rw[aw];exact bQ,aS ?_⟩⟩⟩
       rw[aw]
       exact m _ _ ⟨w1,a,i,hi,{a.an[i] with full:=true,no:=(no:Int)},rfl,ag,aB,O,aC,T,by rw[O];exact z,by rw[O];exact a4.trans A,rfl,rfl,fun h1=>(by rw[bi] at h1;cases h1),fun k E _ h1=>bg _ (cw E) h1⟩
     · exact⟨_,_,rfl,fun _=>⟨a,ag,aB, .inr ⟨rfl,bj,aC⟩⟩,fun h=>(by simp at h)⟩
   · rintro p ah ⟨w1,a,i,hi,f1,rfl,au,bk,bl,bm,bn,bo,bp,br,bs,bt,bu⟩
     exact fin w1 a i hi f1 au bk bl bm bn ah bo bp br bs bt bu
theorem BJ(h:ec X w C)(no:Nat):aP ai 146 #[.pointer (some C.c),no] w (λv w'=>(∃b:aj,v=b)/\∃aE:b1,ec X w' aE/\eC C aE w w' 0/\(∀j,j≠no->aE.view j=C.view j)/\aE.D=C.D/\∀f∈aE.an,f.full=true->f∈C.an/\f.no≠(no:Int)):=by
 have g:=h.raw;refine okF (af.uK (some C.c) (no:Int)) ay.uK func146 ?_;(delta af.uK js ak r1;dsimp only);refine(vV g _).use ?_;rintro _ _ ⟨y,rfl⟩;rcases y with ⟨i,hi,rfl,hf,s⟩|⟨rfl,z⟩
 .have f4:=j9 g.f hi (j:=4) (by decide)
  have A:=h.inv.pins _ (cw hi);refine⟨_,rfl,cm (λb w'=>b=false/\w=w') (λq l=>⟨λh=>(by cases h),λ_=>⟨_,rfl,(C.an[i]).pins,by rw[aw];exact f4,l _ _ ⟨by rw[A];rfl,rfl⟩⟩⟩) ?_⟩;rintro _ _ ⟨rfl,rfl⟩;obtain⟨s1,s2,m⟩:=yb g.f hi dC;refine⟨λh=>(by cases h),λ_=>⟨_,rfl,s1,rfl,aS ⟨⟨true,rfl⟩,{C with an:=C.an.set i dC},⟨yf g m s2,?_⟩,?_,λj B=>?_,rfl,λf E au=>?_⟩⟩⟩
  .exact yc (V:=λq=>q=C.aU) (ax:=C.D) hi h.inv m (λq _ e=>.inr (.inl e)) h.inv.r2 (λ_ _=>rfl) (λq h=>.inl h) dC rfl rfl
  .exact⟨rfl,rfl,by show(C.an.set i _).length=_;rw[cY],rfl,bo _,λ_ h=>h,m.mono λq _ e=>.inr (.inl e),λq h=>.inl h⟩
  .refine BG (fs:=C.an) (D:=C.D) (c:=C.c) (aU:=C.aU) (hd:=C.hand) h.inv.un (λa b F G h1 n o=>?_) (λk p au d=>?_) λH=>⟨λf hf au d=>?_,rfl⟩
   .have J:a<C.an.length:=by simpa using F
    have K:b<C.an.length:=by simpa using G
    by_cases t:i=a
    .subst t
     simp[dC]at h1
    by_cases u:i=b
    .subst u
     simp[dC]at n
    simp only[fA t]at h1 o;simp only[fA u]at n o;exact h.inv.un a b J K h1 n o
   .have r:i≠k:=λe=>by
     subst e;rw[s]at d;exact B I
    exact⟨k,by rw[cY];exact p,by simp only[fA r];exact au,by simp only[fA r];exact d,by simp only[fA r]⟩
   .rcases lv hf with hf|rfl
    .exact H f hf au d
    .cases au
  .obtain⟨k,p,rfl⟩:=eY E
   have x:k<C.an.length:=by simpa using p
   by_cases e:i=k
   .subst e
    simp[dC]at au
   .simp only[fA e]at au⊢
    exact⟨cw x,λd=>e (h.inv.un i k hi x hf au (s.trans d.symm))⟩
 .refine⟨_,rfl,cm (λb w'=>b=true/\w=w') (λq l=>⟨λ_=>l _ _ ⟨rfl,rfl⟩,λh=>(by cases h)⟩) ?_⟩
  rintro _ _ ⟨rfl,rfl⟩;exact⟨λ_=>⟨⟨false,rfl⟩,C,h,eC.refl C w,λ_ _=>rfl,rfl,λf hf au=>⟨hf,z f hf au⟩⟩,λh=>(by cases h)⟩
end
theorem Ga(n:Nat):g5 ai 288 n=(bE Fr.c (List.replicate n dC)).toArray:=by
 have a:((Tryz.prog.info? 288).bind (·.zero)).map (·.cells)=some dC.c.toArray:=by kernel_rfl
 have hc:Tryz.prog.cellsOf 288=6:=by kernel_rfl
 unfold g5;rw[hc]
 cases hi:(Tryz.prog.info? 288).bind (·.zero) with
 |none=>rw[hi]at a;cases a
 |some z=>
  rw[hi]at a;simp only[lq,Option.some.injEq]at a;simp only[qN,a];apply Array.ext
  .simp[gn (c:=Fr.c) (sz:=6) (List.replicate n dC) (λx _=>rfl)]
  .intro i h1 d
   have e:n*6≠0:=by
    intro h;simp[h]at h1
   have k:i<n*6:=by simpa using h1
   simp only[e,if_false,Array.getElem_map,Array.getElem_range,List.getElem_toArray];have b:dC.c.toArray.size=6:=rfl;have aH:i%6<6:=g4 _ I;have f:i/6<(List.replicate n dC).length:=by rw[mQ];omega
   have hg:=oL (c:=Fr.c) (sz:=6) (l:=List.replicate n dC) (λx _=>rfl) (i:=i/6) (j:=i%6) f aH;rw[show i/6*6+i%6=i from I]at hg;have g:i<(bE Fr.c (List.replicate n dC)).length:=by simpa using d
   rw[c_ g]at hg;have he:((List.replicate n dC)[i/6]).c=dC.c:=by simp
   rw[he,c_ (show i%6<dC.c.length from aH)]at hg;have hg:=Option.some.inj hg;rw[hg,b,getElem!_pos dC.c.toArray (i%6) (by rw[b];exact aH)];simp
def iN(c aU k:Nat)(D:a6):b1:=⟨c,aU,List.replicate k dC,0,D⟩
theorem yg(c aU k:Nat)(D:a6)(j:Nat):(iN c aU k D).view j=D.now j:=by
 refine mx λf hf h1=>?_;rw[o_ hf]at h1
 cases h1
theorem pO{w:J}{D:a6}(h:b_ w D){k:Nat}(h1:8<=k)(m:k<=64)(n:∀j,D.bK j=true->D.dc j=D.er j):aP ai 139 #[.pointer (some D.d),k] w (λv w'=>∃c aU:Nat,v=.tuple #[.pointer (some c),(0:Int)]/\ec (λ_=>False) w' (iN c aU k D)/\Ext w w'/\w.heap.size<=c/\w.heap.size<=aU):=by
 refine okF (af.pO (some D.d) (k:Int)) ay.pO func139 ?_;delta af.pO ak kz Y;refine⟨λh=>?_,λ_=>⟨⟨I,I,I,I⟩,?_⟩⟩
 .simp only[Option.isNone_some,kT,jl,cS]at h;omega
 rw[Ga,c8];have g:=bq.new w (bE Fr.c (List.replicate k dC)).toArray 288;have a:=eB w (.cells (bE Fr.c (List.replicate k dC)).toArray 288);have o:=rZ w (.cells (bE Fr.c (List.replicate k dC)).toArray 288);obtain⟨w1,p⟩:∃w1,w1=w.alloc (.cells (bE Fr.c (List.replicate k dC)).toArray 288):=⟨_,rfl⟩;rw[←p]at g a o⊢;refine aS (bh (vs:=[.pointer (some D.d),.slice (some w.heap.size) k k,(0:Int)]) rfl λah r b t=>⟨w1.heap.size,w.heap.size,rfl,⟨⟨?_,bq.ext g b,h.ext (a.trans b),?_,?_,?_,?_,?_,?_⟩,⟨λf hf=>?_,λf hf l=>?_,λi j hi u h1=>?_,λq s=>s.elim,n⟩⟩,a.trans b,I,bo _⟩)
 .show Var _ _ [_,.slice _ (List.replicate k dC).length (List.replicate k dC).length,_] _
  rw[mQ];exact r
 .show 8<=(List.replicate k dC).length;simpa using h1
 .show(List.replicate k dC).length<=64;simpa using m
 .show 0<(List.replicate k dC).length;simp;omega
 .show w1.heap.size≠w.heap.size;omega
 .intro e
  have:=h.lt e;have:w1.heap.size<w.heap.size:=this;omega
 .intro e
  have:=h.lt e;have:w.heap.size<w.heap.size:=this;omega
 .rw[o_ hf];rfl
 .rw[o_ hf]at l;cases l
 .simp[iN,dC]at h1
def ld(a b9 bQ b c d e f:aj):Nat:=
 a.toNat+2*b9.toNat+4*bQ.toNat+8*b.toNat+16*c.toNat+32*d.toNat+64*e.toNat+128*f.toNat
def byteOf(f:Nat->aj)(i:Nat):Nat:=ld (f (8*i)) (f (8*i+1)) (f (8*i+2)) (f (8*i+3)) (f (8*i+4)) (f (8*i+5)) (f (8*i+6)) (f (8*i+7))
theorem Gb:∀a b9 bQ b c d e f:aj,ld a b9 bQ b c d e f<256:=by decide+kernel
theorem Gc:∀a b9 bQ b c d e f:aj,
 (ld a b9 bQ b c d e f).testBit 0=a/\(ld a b9 bQ b c d e f).testBit 1=b9/\(ld a b9 bQ b c d e f).testBit 2=bQ/\(ld a b9 bQ b c d e f).testBit 3=b/\
 (ld a b9 bQ b c d e f).testBit 4=c/\(ld a b9 bQ b c d e f).testBit 5=d/\(ld a b9 bQ b c d e f).testBit 6=e/\(ld a b9 bQ b c d e f).testBit 7=f:=by decide+kernel
theorem j_(f:Nat->aj)(i:Nat):byteOf f i<256:=Gb _ _ _ _ _ _ _ _
theorem nr(f:Nat->aj)(i j:Nat)(a:j<8):(byteOf f i).testBit j=f (8*i+j):=by
 obtain⟨h0,h1,b,c,d,e,g,h⟩:=Gc (f (8*i)) (f (8*i+1)) (f (8*i+2)) (f (8*i+3)) (f (8*i+4)) (f (8*i+5)) (f (8*i+6)) (f (8*i+7));have:j=0\/j=1\/j=2\/j=3\/j=4\/j=5\/j=6\/j=7:=by omega
 unfold byteOf;rcases this with rfl|rfl|rfl|rfl|rfl|rfl|rfl|rfl<;>assumption
theorem Gd{x y:Nat}(hx:x<256)(b:y<256)(h:∀j,j<8->x.testBit j=y.testBit j):x=y:=by
 apply Nat.eq_of_testBit_eq;intro j;by_cases a:j<8
 .exact h j a
 .have p:256<=2^j:=by
   have:=sE (n:=2) I (by omega:8<=j);simpa using this
  rw[sH I,sH I]
theorem vW(f:Nat->aj)(i x:Nat)(hx:x<256)(h:∀j,j<8->x.testBit j=f (8*i+j)):x=byteOf f i:=
 Gd hx (j_ f i) λj a=>by rw[h j a,nr f i j a]
def dh(f:Nat->aj)(k:Nat)(b:aj):Nat->aj:=λi=>if i=k then b else f i
theorem Ge:∀x:Nat,x<256->∀j:Nat,j<8->(j1 .u8 (Int.fdiv (x:Int) (2^(min (Int.toNat (j:Int)) 8))) 1==1)=x.testBit j:=by decide+kernel
theorem Gf:∀x:Nat,x<256->∀j:Nat,j<8->mT .u8 (x:Int) (IntKind.wrap .u8 (1*2^(min (Int.toNat (j:Int)) 8)))=((x|||2^j:Nat):Int):=by decide+kernel
theorem Gg:∀x:Nat,x<256->∀j:Nat,j<8->zA .u8 (x:Int) (IntKind.wrap .u8 (1*2^(min (Int.toNat (j:Int)) 8)))=((x&&&(255-2^j):Nat):Int):=by decide+kernel
theorem yh:∀x:Nat,x<256->∀y:Nat,y<256->x|||y<256:=λ_ hx _ a=>Nat.or_lt_two_pow (n:=8) hx a
theorem Gh:∀j:Nat,j<8->∀k:Nat,k<8->(255-2^j).testBit k=(k !=j):=by decide+kernel
theorem Gi(x y:Nat)(hx:x<256)(a:y<256):mT .u8 (x:Int) (y:Int)=((x|||y:Nat):Int):=by
 have h:=yh x hx y a;have e:(BitVec.ofInt 8 (x:Int)|||BitVec.ofInt 8 (y:Int)).toNat=x|||y:=by
  simp only[BitVec.ofInt_natCast,BitVec.toNat_or,BitVec.toNat_ofNat];rw[iT (by simpa using hx),iT (by simpa using a)]
 show IntKind.wrap .u8 (((BitVec.ofInt 8 (x:Int)|||BitVec.ofInt 8 (y:Int)).toNat:Nat):Int)=_;rw[e];have:((x|||y:Nat):Int)%256=((x|||y:Nat):Int):=Int.emod_eq_of_lt I I;simp[IntKind.wrap,IntKind.signed,IntKind.bits,this]
theorem BK(k:Nat):8*(k/8)+k%8=k:=Nat.div_add_mod k 8
theorem Gj(f:Nat->aj)(k:Nat):byteOf f (k/8)|||2^(k%8)=byteOf (dh f k true) (k/8):=by
 refine vW _ _ _ (yh _ (j_ _ _) _ ?_) λj b=>?_
 .have:k%8<8:=g4 _ I
  have:=Nat.pow_lt_pow_right (a:=2) I this;simpa using this
 .rw[mI,nr _ _ _ b,qJ,dh]
  by_cases h:8*(k/8)+j=k
  .rw[if_pos h]
   have:k%8=j:=by omega
   simp[this]
  .rw[if_neg h]
   have:¬k%8=j:=by omega
   simp[this]
theorem Gk(f:Nat->aj)(k:Nat):byteOf f (k/8)&&&(255-2^(k%8))=byteOf (dh f k false) (k/8):=by
 refine vW _ _ _ (Nat.lt_of_le_of_lt Nat.and_le_left (j_ _ _)) λj a=>?_;rw[Nat.testBit_and,nr _ _ _ a,Gh _ (g4 _ I) _ a,dh];by_cases h:8*(k/8)+j=k
 .rw[if_pos h]
  have:j=k%8:=by omega
  simp[this]
 .rw[if_neg h]
  have:¬j=k%8:=by omega
  simp[this]
theorem Gl(f:Nat->aj)(k i:Nat)(b:aj)(h:i≠k/8):byteOf (dh f k b) i=byteOf f i:=by
 have e:∀j,j<8->dh f k b (8*i+j)=f (8*i+j):=λj a=>by
  unfold dh;rw[if_neg];omega
 unfold byteOf;rw[e 1 I,e 2 I,e 3 I,e 4 I,e 5 I,e 6 I,e 7 I];have:=e 0 I;simp only[kk]at this;rw[this]
def eW(f:Nat->aj)(m:Nat):O aa:=(List.range m).map λi=>.int .u8 (byteOf f i)
theorem yi(f:Nat->aj)(m:Nat):(eW f m).length=m:=by simp[eW]
theorem oO(f:Nat->aj){m i:Nat}(h:i<m):(eW f m)[i]? =some (.int .u8 (byteOf f i)):=by simp[eW,h]
theorem BL(f:Nat->aj)(k m:Nat)(b:aj):(eW f m).set (k/8) (.int .u8 (byteOf (dh f k b) (k/8)))=eW (dh f k b) m:=by
 apply List.ext_getElem?;intro i;rw[List.getElem?_set];by_cases hi:i<m
 .rw[oO (dh f k b) hi]
  by_cases h:k/8=i
  .subst h
   simp[yi,hi]
  .rw[if_neg h,oO _ hi,Gl f k i b I]
 .have h1:(eW (dh f k b) m)[i]? =none:=by simp[eW];omega
  have a:(eW f m)[i]? =none:=by simp[eW];omega
  rw[h1,a];split
  .simp[yi];omega
  .rfl
theorem BM(k:Nat):Int.tdiv (k:Int) 8=((k/8:Nat):Int):=by
 rw[Int.tdiv_eq_ediv_of_nonneg I];omega
theorem r8(k:Nat):Int.tmod (k:Int) 8=((k%8:Nat):Int):=by
 rw[sL I];omega
theorem yj{k:Nat}(h:k<=9223372036854775807):IntKind.wrap .i64 (Int.tdiv (k:Int) 8)=((k/8:Nat):Int):=by
 rw[BM,bu I I]
theorem BN{s:U}{b:Nat}(h:s.a=some ⟨b,0,none⟩):az s b:=⟨_,h,rfl⟩
theorem oP{w:J}{s:U}{f:Nat->aj}{m k:Nat}(h:a8 1 5 w s (eW f m))(a:k/8<m)(d:k<=9223372036854775807):
 aP ai 214 #[s,k] w (λv w'=>v=.bool (f k)/\w=w'):=by
 refine okF (af.uZ s k) ay.uZ func214 ?_;(delta af.uZ aI av bX;dsimp only);obtain⟨b,c,e,g,i,hi,j,hc,_⟩:=h.cell (oO f a);refine⟨by decide,_,e,?_⟩;rw[yj d,r8];refine⟨⟨I,I⟩,(byteOf f (k/8):Int),?_,by decide,I,?_,rfl⟩
 .rw[fz,c8,aw,cA];exact hc
 .rw[Ge _ (j_ _ _) _ (g4 _ I),nr _ _ _ (g4 _ I),BK]
theorem BO{w:J}{s:U}{f:Nat->aj}{m k:Nat}(h:a8 1 5 w s (eW f m))(e:k/8<m)(g:k<=9223372036854775807):
 aP ai 130 #[s,k] w (λv w'=>v=.tuple #[]/\a8 1 5 w' s (eW (dh f k true) m)/\ab (az s) w w'):=by
 refine okF (af.uD s k) ay.uD func130 ?_;(delta af.uD al aI av bX st;dsimp only);obtain⟨b,c,d,i,l,hi,n,hc,_⟩:=h.cell (oO f e);have a:(Addr.mk b 0 none).add (Int.toNat ((k/8:Nat):Int)*1)=⟨b,k/8,none⟩:=by rw[fz,c8,aw,cA]
 rw[yj g,r8];refine⟨by decide,_,d,⟨I,I⟩,by simp,(byteOf f (k/8):Int),by rw[a];exact hc,by decide,I,_,d,⟨I,I⟩,⟨_,by rw[a];exact hc⟩,by rw[a];exact i.drew.frozen _ rfl,rfl,?_,?_⟩
 .rw[a,Gf _ (j_ _ _) _ (g4 _ I),Gj,←BL]
  have j:a8 1 5 w.drew s (eW f m):=h.ad (W:=λ_=>False) (ab.drew (.refl _ _)) (λ_ _ h=>h);exact j.set d _
 .rw[a]
  exact ab.set (ab.drew (.refl _ _)) (λ_=>BN d) _
theorem Gm{w:J}{s:U}{f:Nat->aj}{m k:Nat}(h:a8 1 5 w s (eW f m))(e:k/8<m)(g:k<=9223372036854775807):
 aP ai 219 #[s,k] w (λv w'=>v=.tuple #[]/\a8 1 5 w' s (eW (dh f k false) m)/\ab (az s) w w'):=by
 refine okF (af.u0 s k) ay.u0 func219 ?_;(delta af.u0 al aI av bX st;dsimp only);obtain⟨b,c,d,i,l,hi,n,hc,_⟩:=h.cell (oO f e);have a:(Addr.mk b 0 none).add (Int.toNat ((k/8:Nat):Int)*1)=⟨b,k/8,none⟩:=by rw[fz,c8,aw,cA]
 rw[yj g,r8];refine⟨by decide,_,d,⟨I,I⟩,by simp,(byteOf f (k/8):Int),by rw[a];exact hc,by decide,I,_,d,⟨I,I⟩,⟨_,by rw[a];exact hc⟩,by rw[a];exact i.drew.frozen _ rfl,rfl,?_,?_⟩
 .rw[a,Gg _ (j_ _ _) _ (g4 _ I),Gk,←BL]
  have j:a8 1 5 w.drew s (eW f m):=h.ad (W:=λ_=>False) (ab.drew (.refl _ _)) (λ_ _ h=>h);exact j.set d _
 .rw[a]
  exact ab.set (ab.drew (.refl _ _)) (λ_=>BN d) _
structure eR(w:J)(b n:Nat)(f g:Nat->aj)(s1 s2:U):Prop where
 bN:bq w b #[n,s1,s2] 218
 now:a8 1 5 w s1 (eW f ((n+7)/8))
 sure:a8 1 5 w s2 (eW g ((n+7)/8))
 d1:∀k,az s1 k->k≠b/\¬az s2 k
 d2:∀k,az s2 k->k≠b
 bS:1<=n
 bp:n<=1600
 pf:∀i,n<=i->f i=false
 dX:∀i,n<=i->g i=false
def fo(b:Nat)(s1 s2:U)(k:Nat):Prop:=k=b\/az s1 k\/az s2 k
section
variable {w w':J}{b n:Nat}{f g:Nat->aj}{s1 s2:U}
theorem eR.ad{W:Nat->Prop}(h:eR w b n f g s1 s2)(hc:ab W w w')(a:∀k,fo b s1 s2 k->¬W k):eR w' b n f g s1 s2:=
 ⟨h.bN.ad hc (a b (.inl rfl)),h.now.ad hc λk c=>a k (.inr (.inl c)),h.sure.ad hc λk c=>a k (.inr (.inr c)),h.d1,h.d2,h.bS,h.bp,h.pf,h.dX⟩
theorem eR.ext(h:eR w b n f g s1 s2)(hc:Ext w w'):eR w' b n f g s1 s2:=h.ad hc λ_ _ h=>h
theorem eR.lt(h:eR w b n f g s1 s2):∀k,fo b s1 s2 k->k<w.heap.size:=by
 rintro k (rfl|a|a)
 .exact h.bN.lt
 .exact h.now.lt k a
 .exact h.sure.lt k a
theorem eR.bU(h:eR w b n f g s1 s2):w.cell? b=some (.int .i64 n):=by rw[h.bN.cell];rfl
theorem eR.aA(h:eR w b n f g s1 s2):w.cell? ((Addr.mk b 0 none).add 1)=some (.slice s1.a s1.len s1.cap):=by rw[aw,h.bN.cell];rfl
theorem eR.aR(h:eR w b n f g s1 s2):w.cell? ((Addr.mk b 0 none).add 2)=some (.slice s2.a s2.len s2.cap):=by rw[aw,h.bN.cell];rfl
theorem Gn(h:eR w b n f g s1 s2){k:Nat}(a:k<n):
 aP ai 217 #[.pointer (some b),k] w (λv w'=>v=.bool (f k||g k)/\w=w'):=by
 have c:=h.bp;refine af.EN _ k w _ ?_;(delta af.rQ ag aK ak;dsimp only);refine⟨_,rfl,s1,h.aA,(oP h.now (k:=k) I I).use ?_⟩;rintro _ _ ⟨rfl,rfl⟩;refine⟨_,rfl,⟨λhf=>⟨by rw[hf];rfl,rfl⟩,λhf=>⟨_,rfl,s2,h.aR,(oP h.sure (k:=k) I I).use ?_⟩⟩⟩;rintro _ _ ⟨rfl,rfl⟩;exact⟨_,rfl,by rw[hf];rfl,rfl⟩
theorem yk(h:eR w b n f g s1 s2)(k:Int):
 aP ai 218 #[.pointer (some b),k] w (λv w'=>v=.bool (decide (0<=k)&&decide (k<n))/\w=w'):=by
 refine af.EO _ k w _ ?_;(delta af.rR ak r1;dsimp only);refine⟨?_⟩;refine⟨λh1=>⟨_,rfl,n,h.bU,?_,rfl⟩,λh1=>⟨?_,rfl⟩⟩
 .have:0<=k:=by simpa using h1
  simp[this]
 .have:¬0<=k:=by simpa using h1
  simp[this]
def firstFree(t:Nat->aj)(n:Nat):aq Nat:=(List.range n).find? λi=> !t i
theorem Gp{t:Nat->aj}{n k:Nat}(e:k<n)(ht:t k=false)(c:∀i,i<k->t i=true):firstFree t n=some k:=by
 unfold firstFree;rw[List.find?_eq_some_iff_append];refine⟨by simp[ht],List.range k,(List.range' (k+1) (n-(k+1))),?_,λa d=>?_⟩
 .have b:=List.range'_append (s:=0) (m:=k) (n:=n-(k+1)+1) (step:=1)
  rw[sB,sB,←List.range'_succ];rw[Nat.one_mul,cA]at b;rw[b]
  congr 1
  omega
 .simp[c a (jB.1 d)]
theorem Gq{t:Nat->aj}{n:Nat}(b:∀i,i<n->t i=true):firstFree t n=none:=by
 unfold firstFree;rw[ig];intro a c;simp[b a (jB.1 c)]
theorem BP{t:Nat->aj}{n k:Nat}(h:firstFree t n=some k):k<n/\t k=false/\∀i,i<k->t i=true:=by
 unfold firstFree at h;obtain⟨h1,b,lb,a,e⟩:=List.find?_eq_some_iff_append.1 h;have f:k<n:=jB.1 (by rw[a];simp);refine⟨f,by simpa using h1,λi hi=>?_⟩;have hlen:b.length=k:=by
  have c:(List.range n)[b.length]? =some k:=by rw[a];simp
  rw[List.getElem?_range (by
   have:=congrArg List.length a;simp at this;omega)]at c
  simpa using c
 have d:(List.range n)[i]? =some i:=List.getElem?_range I;rw[a,List.getElem?_append_left I]at d;have:=e i (List.mem_of_getElem? d);simpa using this
theorem Gr{t:Nat->aj}{n:Nat}(h:firstFree t n=none):∀i,i<n->t i=true:=by
 unfold firstFree at h;rw[ig]at h;intro i hi;have:=h i (jB.2 hi);simpa using this
def Gs(o:aq Nat):aa:=
 match o with
 |some k=>.tuple #[.int .i64 (k:Int),(0:Int)]
 |none=>.tuple #[.int .i64 (-1),(2:Int)]
def Gt(o:aq Nat)(f:Nat->aj):Nat->aj:=
 match o with
 |some k=>dh f k true
 |none=>f
theorem BQ{f:Nat->aj}{n k:Nat}{x:aj}(h:∀i,n<=i->f i=false)(a:k<n):∀i,n<=i->dh f k x i=false:=λi hi=>by
 unfold dh
 rw[if_neg I]
 exact h i hi
theorem BR(h:eR w b n f g s1 s2):
 aP ai 160 #[.pointer (some b)] w (λv w'=>v=Gs (firstFree (λi=>f i||g i) n)/\eR w' b n (Gt (firstFree (λi=>f i||g i) n) f) g s1 s2/\ab (fo b s1 s2) w w'):=by
 have r:=h.bp;refine af.EF _ w _ ?_;(delta af.rL ak r1 aK ag aR av;dsimp only);refine⟨λh1=>by simp at h1,λ_=>⟨_,rfl,n,h.bU,λi w'=>∃k:Nat,i=k/\k<=n/\w=w'/\∀j,j<k->(f j||g j)=true,λi _=>(n-i).toNat,⟨0,rfl,I,rfl,λj l=>I⟩,?_⟩⟩;rintro _ _ ⟨k,rfl,a,rfl,d⟩;refine⟨λaH=>(Gn h (k:=k) (by simpa using aH)).use ?_,λm=>?_⟩
 .have c:k<n:=by simpa using aH
  rintro _ _ ⟨rfl,rfl⟩;refine⟨_,rfl,λht=>⟨_,rfl,s1,h.aA,(BO h.now (k:=k) I I).use ?_⟩,λht=>?_⟩
  .rintro _ w' ⟨rfl,o,hc⟩
   have e:(f k||g k)=false:=by simpa using ht
   have p:=Gp (t:=λi=>f i||g i) c e d;rw[p];refine⟨rfl,rfl,⟨h.bN.ad hc λq=>(h.d1 b q).1 rfl,o,h.sure.ad hc λk a h1=>(h.d1 k h1).2 a,h.d1,h.d2,h.bS,h.bp,BQ h.pf c,h.dX⟩,hc.mono λk _ a=>.inr (.inl a)⟩
  .have e:(f k||g k)=true:=by cases hx:(f k||g k)<;>simp[hx]at ht⊢
   rw[bu I I];refine⟨⟨k+1,I,I,rfl,λj l=>?_⟩,(show((n:Int)-((k:Int)+1)).toNat<((n:Int)-(k:Int)).toNat from I)⟩;rcases dH j k with h1|h1
   .exact d j h1
   .have:j=k:=by omega
    subst this;exact e
 .have c:k=n:=by
   have:¬(k:Int)<n:=by simpa using m
   omega
  subst c;rw[Gq d];exact⟨rfl,h,.refl _ _⟩
def vX(f:Nat->aj)(n:Nat)(k:Int):Int:=if 0<=k/\k<n then (if f k.toNat then 0 else 6) else 1
def nt(f:Nat->aj)(n:Nat)(k:Int):Nat->aj:=if 0<=k/\k<n then dh f k.toNat false else f
theorem Gu{f:Nat->aj}{k:Nat}{x:aj}(h:f k=x):dh f k x=f:=by
 funext i;unfold dh;split
 .rename_i hi;rw[hi,h]
 .rfl
theorem BS(h:eR w b n f g s1 s2)(k:Int):
 aP ai 161 #[.pointer (some b),k] w (λv w'=>v=.int .i64 (vX f n k)/\eR w' b n (nt f n k) g s1 s2/\ab (fo b s1 s2) w w'):=by
 have o:=h.bp;refine af.EG _ k w _ ?_;(delta af.rM aK ak ag aR;dsimp only);refine(yk h k).use ?_;rintro _ _ ⟨rfl,rfl⟩;refine⟨_,rfl,λh1=>?_,λh1=>?_⟩
 .have:¬(0<=k/\k<n):=by
   rintro⟨a,e⟩;simp[a,e]at h1
  exact⟨by rw[vX,if_neg this],by rw[nt,if_neg this];exact h,.refl _ _⟩
 .have c:0<=k/\k<n:=by simpa using h1
  obtain⟨m,rfl⟩:=qY c.1;have i:m<n:=by omega
  refine⟨_,rfl,s1,h.aA,(oP h.now (k:=m) I I).use ?_⟩;rintro _ _ ⟨rfl,rfl⟩;refine⟨_,rfl,λa=>?_,λa=>⟨_,rfl,s1,h.aA,(Gm h.now (k:=m) I I).use ?_⟩⟩
  .have hf:f m=false:=by simpa using a
   refine⟨by rw[vX,if_pos c,c8,hf];rfl,?_,.refl _ _⟩;rw[nt,if_pos c,c8,Gu hf];exact h
  .rintro _ w' ⟨rfl,j,hc⟩
   have hf:f m=true:=by simpa using a
   refine⟨rfl,by rw[vX,if_pos c,c8,hf];rfl,?_,hc.mono λk _ d=>.inr (.inl d)⟩;rw[nt,if_pos c,c8];exact⟨h.bN.ad hc λl=>(h.d1 b l).1 rfl,j,h.sure.ad hc λk d h1=>(h.d1 k h1).2 d,h.d1,h.d2,h.bS,h.bp,BQ h.pf i,h.dX⟩
theorem Gv(h:eR w b n f g s1 s2)(k:Int):
 aP ai 183 #[.pointer (some b),k] w (λv w'=>v=.bool (decide (0<=k)&&decide (k<n)&&f k.toNat)/\w=w'):=by
 have c:=h.bp;refine af.EJ _ k w _ ?_;(delta af.rO aK ak ag;dsimp only);refine(yk h k).use ?_;rintro _ _ ⟨rfl,rfl⟩;refine⟨_,rfl,⟨λh1=>?_,λh1=>⟨by rw[h1];rfl,rfl⟩⟩⟩;have a:0<=k/\k<n:=by simpa using h1
 obtain⟨m,rfl⟩:=qY a.1;refine⟨_,rfl,s1,h.aA,(oP h.now (k:=m) I I).use ?_⟩;rintro _ _ ⟨rfl,rfl⟩;exact⟨_,rfl,by rw[h1,c8];rfl,rfl⟩
theorem Gw(h:eR w b n f g s1 s2)(k:Int):
 aP ai 246 #[.pointer (some b),k] w (λv w'=>v=.bool (decide (0<=k)&&decide (k<n)&&f k.toNat&& !(g k.toNat))/\w=w'):=by
 have d:=h.bp;refine af.ET _ k w _ ?_;(delta af.rT aK ak ag;dsimp only);refine(yk h k).use ?_;rintro _ _ ⟨rfl,rfl⟩;refine⟨_,rfl,⟨λh1=>?_,λh1=>⟨(λh=>by cases h),λ_=>⟨by rw[h1];rfl,rfl⟩⟩⟩⟩;have c:0<=k/\k<n:=by simpa using h1
 obtain⟨m,rfl⟩:=qY c.1;refine⟨_,rfl,s1,h.aA,(oP h.now (k:=m) I I).use ?_⟩;rintro _ _ ⟨rfl,rfl⟩;refine⟨_,rfl,λa=>⟨_,rfl,s2,h.aR,(oP h.sure (k:=m) I I).use ?_⟩,λa=>⟨by rw[h1,c8,a];rfl,rfl⟩⟩;rintro _ _ ⟨rfl,rfl⟩;exact⟨_,rfl,by rw[h1,c8,a];rfl,rfl⟩
end
theorem Gx:hM ai 215 5 1 1:=⟨by kernel_rfl⟩
theorem Gy:hM ai 48 5 1 1:=⟨by kernel_rfl⟩
theorem Gz:hM ai 58 3 1 8:=⟨by kernel_rfl⟩
theorem GA(n:Nat):g5 ai 5 n=(List.replicate n (.int .u8 0)).toArray:=An (by kernel_rfl) (by kernel_rfl) n
theorem yl(f:Nat->aj)(m:Nat):∀v∈eW f m,Plain v:=by
 intro v a;obtain⟨i,_,rfl⟩:=dv.1 a;trivial
theorem BT{w:J}{s:U}{xs:O aa}(h:Src 1 w s xs)(d:∀v∈xs,Plain v)(j:s.len<=1000000):
 aP ai 194 #[s] w (λv w'=>∃b:U,v=b/\a8 1 5 w' b xs/\Ext w w'/\∀k,az b k->w.heap.size<=k):=by
 refine okF (af.tO s) ay.tO func194 ?_;delta af.tO al ak Y;refine⟨λc=>?_,λ_=>?_⟩
 .have c:s.a=none:=by simpa using c
  rw[h.nil c];exact⟨⟨none,0,0⟩,rfl,a8.none _ _ _,.refl _ _,λk e=>(gg k e).elim⟩
 .obtain⟨b,w',h1,f,l,g,i,_⟩:=Gx.clone (cH:=215) h d I
  exact⟨b,w',h1,b,rfl,f,g,i⟩
theorem BU{w:J}{s:U}{xs:O aa}(h:Src 1 w s xs)(d:∀v∈xs,Plain v)(j:s.len<=1000000):
 aP ai 135 #[s] w (λv w'=>∃b:U,v=b/\a8 1 5 w' b xs/\Ext w w'/\∀k,az b k->w.heap.size<=k):=by
 refine okF (af.n2 s) ay.n2 func135 ?_;delta af.n2 al ak Y;refine⟨λc=>?_,λ_=>?_⟩
 .have c:s.a=none:=by simpa using c
  rw[h.nil c];exact⟨⟨none,0,0⟩,rfl,a8.none _ _ _,.refl _ _,λk e=>(gg k e).elim⟩
 .obtain⟨b,w',h1,f,l,g,i,_⟩:=Gy.clone (cH:=48) h d I
  exact⟨b,w',h1,b,rfl,f,g,i⟩
section
variable {w w':J}{b n:Nat}{f g:Nat->aj}{s1 s2:U}
theorem r9{T:TypeId}{m:Nat}(h:a8 1 T w s1 (eW f m)):s1.len=m:=by
 have:=h.1;rw[yi]at this;omega
theorem ym{m:Nat}{u:aa}(c:bq w b #[n,s1,u] 218)(h1:a8 1 5 w s1 (eW f m))(hd:∀k,az s1 k->k≠b)(g:m<=1000000):
 aP ai 131 #[.pointer (some b)] w (λv w'=>v=.tuple #[]/\∃a:U,bq w' b #[n,s1,a] 218/\
  a8 1 5 w' s1 (eW f m)/\a8 1 5 w' a (eW f m)/\ab (λk=>k=b) w w'/\∀k,az a k->w.heap.size<=k):=by
 refine af.Ez _ w _ ?_;(delta af.rG al ak ag ba st;dsimp only);refine⟨λ_=>⟨_,rfl,s1,by rw[aw,c.cell];rfl,(BT h1.src (yl f m) (by rw[r9 h1];exact g)).use ?_⟩,λh=>by simp at h⟩;rintro _ ah ⟨a,rfl,i,hx,hf⟩;have d:=c.ext hx;have j:∀k,az a k->k≠b:=λk l e=>by have:=hf k l;have:=c.lt;omega
 refine⟨a,rfl,_,rfl,⟨_,by rw[aw,d.cell];rfl⟩,d.frozen _ rfl,rfl,a,?_,?_,?_,?_,hf⟩
 .rw[aw];exact d.set 2 _
 .exact(h1.ext hx).ad (W:=λk=>k=b) (ab.set (.refl _ _) (λ_=>by rw[aw]) _) hd
 .exact i.ad (W:=λk=>k=b) (ab.set (.refl _ _) (λ_=>by rw[aw]) _) j
 .exact(ab.cK hx).set (λ_=>by rw[aw]) _
theorem GB(h:eR w b n f g s1 s2):
 aP ai 131 #[.pointer (some b)] w (λv w'=>v=.tuple #[]/\∃c:U,eR w' b n f f s1 c/\ab (fo b s1 s2) w w'/\∀k,fo b s1 c k->fo b s1 s2 k\/w.heap.size<=k):=by
 have o:=h.bp;refine(ym h.bN h.now (λk a=>(h.d1 k a).1) I).mono ?_;rintro _ w' ⟨rfl,c,h1,i,j,l,d⟩;refine⟨rfl,c,⟨h1,i,j,λk a=>⟨(h.d1 k a).1,λm=>?_⟩,λk a e=>?_,h.bS,h.bp,h.pf,h.pf⟩,l.mono λk _ a=>.inl a,λk a=>?_⟩
 .have:=d k m;have:=h.now.lt k a;omega
 .have:=d k a;have:=h.bN.lt;omega
 .rcases a with rfl|a|a
  .exact .inl (.inl rfl)
  .exact .inl (.inr (.inl a))
  .exact .inr (d k a)
theorem GC(h:eR w b n f g s1 s2):
 aP ai 144 #[.pointer (some b)] w (λv w'=>v=.tuple #[]/\∃c:U,eR w' b n g g c s2/\ab (fo b s1 s2) w w'/\∀k,fo b c s2 k->fo b s1 s2 k\/w.heap.size<=k):=by
 have m:=h.bp;refine af.EA _ w _ ?_;(delta af.rH al ak ag ba st;dsimp only);refine⟨λ_=>⟨_,rfl,s2,h.aR,(BT h.sure.src (yl g _) (by rw[r9 h.sure];omega)).use ?_⟩,λh=>by simp at h⟩;rintro _ ah ⟨c,rfl,j,hx,hf⟩;have d:=h.bN.ext hx;have i:∀k,az c k->k≠b:=λk a e=>by have:=hf k a;have:=h.bN.lt;omega
 refine⟨c,rfl,_,rfl,⟨_,by rw[aw,d.cell];rfl⟩,d.frozen _ rfl,rfl,c,⟨?_,?_,?_,λk a=>⟨i k a,λl=>?_⟩,h.d2,h.bS,h.bp,h.dX,h.dX⟩,?_,λk a=>?_⟩
 .rw[aw];exact d.set 1 _
 .exact j.ad (W:=λk=>k=b) (ab.set (.refl _ _) (λ_=>by rw[aw]) _) i
 .exact(h.sure.ext hx).ad (W:=λk=>k=b) (ab.set (.refl _ _) (λ_=>by rw[aw]) _) h.d2
 .have:=hf k a;have:=h.sure.lt k l;omega
 .exact(ab.cK hx).set (λ_=>by rw[aw];exact .inl rfl) _
 .rcases a with rfl|a|a
  .exact .inl (.inl rfl)
  .exact .inr (hf k a)
  .exact .inl (.inr (.inr a))
def qo(x:Nat):Nat:=(x.testBit 0).toNat+(x.testBit 1).toNat+(x.testBit 2).toNat+(x.testBit 3).toNat+(x.testBit 4).toNat+(x.testBit 5).toNat+(x.testBit 6).toNat+(x.testBit 7).toNat
def eS(t:Nat->aj):Nat->Nat
 |0=>0
 |k+1=>eS t k+(t k).toNat
theorem my(t:Nat->aj):∀k,eS t k<=k
 |0=>bo _
 |k+1=>by have:=my t k;have:=Bool.toNat_le (t k);simp only[eS];omega
theorem GD(t:Nat->aj)(i:Nat):eS t (8*(i+1))=eS t (8*i)+qo (byteOf t i):=by
 have h:∀j,j<8->(byteOf t i).testBit j=t (8*i+j):=λj a=>nr t i j a;unfold qo;rw[h 0 I,h 1 I,h 2 I,h 3 I,h 4 I,h 5 I,h 6 I,h 7 I];show eS t (8*i+7+1)=_;simp only[eS,kk];omega
theorem BV(t:Nat->aj)(n:Nat)(h:∀i,n<=i->t i=false):∀k,eS t (n+k)=eS t n
 |0=>rfl
 |k+1=>by
  have:=BV t n h k
  show eS t (n+k)+(t (n+k)).toNat=_
  rw[this,h (n+k) I]
  rfl
theorem GF:∀x:Nat,x<256->(wM (ByteArray.mk #[0,1,1,2,1,2,2,3,1,2,2,3,2,3,3,4,1,2,2,3,2,3,3,4,2,3,3,4,3,4,4,5,1,2,2,3,2,3,3,4,2,3,3,4,3,4,4,5,2,3,3,4,3,4,4,5,3,4,4,5,4,5,5,6,1,2,2,3,2,3,3,4,2,3,3,4,3,4,4,5,2,3,3,4,3,4,4,5,3,4,4,5,4,5,5,6,2,3,3,4,3,4,4,5,3,4,4,5,4,5,5,6,3,4,4,5,4,5,5,6,4,5,5,6,5,6,6,7,1,2,2,3,2,3,3,4,2,3,3,4,3,4,4,5,2,3,3,4,3,4,4,5,3,4,4,5,4,5,5,6,2,3,3,4,3,4,4,5,3,4,4,5,4,5,5,6,3,4,4,5,4,5,5,6,4,5,5,6,5,6,6,7,2,3,3,4,3,4,4,5,3,4,4,5,4,5,5,6,3,4,4,5,4,5,5,6,4,5,5,6,5,6,6,7,3,4,4,5,4,5,5,6,4,5,5,6,5,6,6,7,4,5,5,6,5,6,6,7,5,6,6,7,6,7,7,8]) x).map (·.toNat)=some (qo x):=by decide+kernel
theorem BW(x:Nat):qo x<=8:=by
 unfold qo;have h:∀b:aj,b.toNat<=1:=Bool.toNat_le;have:=h (x.testBit 0);have:=h (x.testBit 1);have:=h (x.testBit 2);have:=h (x.testBit 3);have:=h (x.testBit 4);have:=h (x.testBit 5);have:=h (x.testBit 6);have:=h (x.testBit 7);omega
theorem GG(w:J)(x:Nat)(hx:x<256):aP ai 202 #[.int .u8 x] w (λv w'=>v=.int .i64 (qo x)/\w=w'):=by
 refine okF (af.tP x) ay.tP func202 ?_;delta af.tP av;have h:=GF x hx;refine⟨I,?_⟩
 cases a:wM _ x with
 |none=>rw[a]at h;cases h
 |some y=>
  rw[a]at h;simp only[lq,Option.some.injEq]at h;refine⟨y,a,?_,rfl⟩;rw[h,bu I (by have:=BW x;omega)]
theorem GH(f g:Nat->aj)(i:Nat):byteOf f i|||byteOf g i=byteOf (λk=>f k||g k) i:=
 vW _ _ _ (yh _ (j_ _ _) _ (j_ _ _)) λj a=>by rw[mI,nr _ _ _ a,nr _ _ _ a]
theorem yn(h:eR w b n f g s1 s2):
 aP ai 148 #[.pointer (some b)] w (λv w'=>v=.int .i64 ((n:Int)-eS (λi=>f i||g i) n)/\Ext w w'):=by
 have p:=h.bp;have q:=r9 h.now;have s:=r9 h.sure;refine af.EB _ w _ ?_;(delta af.rI al ak r1 ag aI bX aA av;dsimp only);refine⟨λh1=>by simp at h1,λ_=>⟨_,rfl,n,h.bU,_,rfl,s1,h.aA,λr i w'=>∃k:Nat,i=k/\k<=s1.len/\Ext w w'/\r=(n:Int)-eS (λi=>f i||g i) (8*k),λ_ i _=>((s1.len:Int)-i).toNat,⟨0,rfl,I,.refl _ _,by simp[eS]⟩,?_⟩⟩;rintro _ _ w1 ⟨k,rfl,t,hx,rfl⟩;refine⟨λaH=>?_,λc=>?_⟩
 .have d:k<s1.len:=by simpa using aH
  have h1:=h.ext hx.drew;obtain⟨b9,aA,j,u,_,_,_,l,_⟩:=h1.now.cell (oO f (i:=k) I);obtain⟨bQ,aR,m,x,_,_,_,o,_⟩:=h1.sure.cell (oO g (i:=k) I);have a:∀b:Nat,(Addr.mk b 0 none).add (Int.toNat (k:Int)*1)=⟨b,k,none⟩:=λb=>by rw[fz,c8,aw,cA]
  refine⟨λ_=>False,_,rfl,by simp,s1,h1.aA,_,j,I,by simp,_,by rw[a];exact l,_,rfl,by simp,s2,h1.aR,_,m,I,by simp,_,by rw[a];exact o,?_⟩;rw[Gi _ _ (j_ _ _) (j_ _ _),GH];refine(GG _ _ (j_ _ _)).use ?_;rintro _ _ ⟨rfl,rfl⟩;have:=BW (byteOf (λi=>f i||g i) k);have:=my (λi=>f i||g i) (8*k);refine⟨_,rfl,.refl _ _,?_⟩;rw[bu (n:=(n:Int)-_-_) I I,bu (n:=(k:Int)+1) I I];exact⟨⟨k+1,I,I,hx.drew,by rw[GD];omega⟩,(show((s1.len:Int)-((k:Int)+1)).toNat<((s1.len:Int)-(k:Int)).toNat from I)⟩
 .have d:k=s1.len:=by
   have:¬(k:Int)<s1.len:=by simpa using c
   omega
  refine⟨?_,hx⟩;have e:8*k=n+(8*k-n):=by omega
  rw[e,BV _ _ (λi hi=>by simp[h.pf i hi,h.dX i hi])]
def jM(f:Nat->aj):Nat->O Int
 |0=> []
 |k+1=>jM f k++(if f k then [(k:Int)] else [])
def mz(f:Nat->aj)(k:Nat):O aa:=(jM f k).map (.int .i64)
theorem BX(f:Nat->aj):∀k,(jM f k).length<=k
 |0=>bo _
 |k+1=>by have:=BX f k;simp only[jM,cx];split<;>simp<;>omega
theorem GI(h:eR w b n f g s1 s2):
 aP ai 155 #[.pointer (some b)] w (λv w'=>∃s:U,v=s/\a8 1 3 w' s (mz f n)/\Ext w w'/\∀k,az s k->w.heap.size<=k):=by
 have B:=h.bp;refine af.EE _ w _ ?_;(delta af.rK al ak r1 ag aK tH Y av;dsimp only);refine⟨λh1=>by simp at h1,λ_=>⟨_,rfl,n,h.bU,λs i w'=>∃k:Nat,i=k/\k<=n/\Ext w w'/\a8 1 3 w' s (mz f k)/\∀k,az s k->w.heap.size<=k,λ_ i _=>((n:Int)-i).toNat,
  ⟨0,rfl,I,.refl _ _,a8.none _ _ _,λk l=>(gg k l).elim⟩,?_⟩⟩
 rintro s _ w1 ⟨k,rfl,l,hx,c,d⟩;refine⟨λaH=>?_,λp=>?_⟩
 .have m:k<n:=by simpa using aH
  have h1:=h.ext hx;refine cm (λa w'=>Ext w w'/\a8 1 3 w' a (mz f (k+1))/\∀k,az a k->w.heap.size<=k) (λq o=>⟨_,rfl,s1,h1.aA,(oP h1.now (k:=k) I I).use ?_⟩) ?_
  .rintro _ _ ⟨rfl,rfl⟩
   refine⟨_,rfl,λhf=>?_,λhf=>?_⟩
   .have hlen:s.len<=k:=by
     have:=c.1;have:=BX f k;simp[mz]at*;omega
    obtain⟨a,w',h1,r,C,t,u⟩:=Gz.push (cH:=58) (xs:=[k]) rfl c (by simp[Plain]) I;refine⟨a,w',h1,o _ _ ⟨?_,?_,?_⟩⟩
    .exact((ab.cK hx).trans t).mono λk l x=>by have:=d k x;omega
    .simpa[mz,jM,hf] using r
    .intro j e
     rcases u j e with e|e
     .exact d j e
     .have:=hx.size;omega
   .exact o _ _ ⟨hx,by simpa[mz,jM,hf] using c,d⟩
  .rintro a w' ⟨y,z,A⟩
   rw[bu I I];exact⟨⟨k+1,I,I,y,z,A⟩,(show((n:Int)-((k:Int)+1)).toNat<((n:Int)-(k:Int)).toNat from I)⟩
 .have m:k=n:=by
   have:¬(k:Int)<n:=by simpa using p
   omega
  subst m;exact⟨s,rfl,c,hx,d⟩
theorem BY(h:eR w b n f g s1 s2):
 aP ai 74 #[.pointer (some b)] w (λv w'=>∃s:U,v=s/\a8 1 5 w' s (eW f ((n+7)/8))/\Ext w w'/\∀k,az s k->w.heap.size<=k):=by
 have c:=h.bp;refine af.Ew _ w _ ?_;(delta af.rF ak ag ba;dsimp only);refine⟨λh1=>by simp at h1,λ_=>⟨_,rfl,s1,h.aA,(BU h.now.src (yl f _) (by rw[r9 h.now];omega)).use ?_⟩⟩;rintro _ ah ⟨s,rfl,a,hx,hf⟩;exact⟨s,rfl,s,rfl,a,hx,hf⟩
end
theorem BZ(w:J)(n:Int):aP ai 128 #[n] w (λv w'=>v=.bool (decide (1<=n/\n<=1600))/\w=w'):=by
 refine okF (af.uB n) ay.uB func128 ?_;unfold af.uB;refine⟨?_,rfl⟩;simp[Bool.decide_and]
theorem B0(w:J)(n:Nat)(a:n<=1600):aP ai 129 #[n] w (λv w'=>v=.int .i64 (((n+7)/8:Nat):Int)/\w=w'):=by
 refine okF (af.uC n) ay.uC func129 ?_;delta af.uC av;refine⟨by decide,?_,rfl⟩;rw[bu (n:=(n:Int)+8) I I,bu (n:=(n:Int)+8-1) I I,show(n:Int)+8-1=((n+7:Nat):Int) from I,BM,bu I I]
theorem GJ(m:Nat):eW (λi=>decide (i<0)) m=List.replicate m (.int .u8 0):=by
 apply List.ext_getElem
 .simp[eW]
 .intro i h1 a
  simp[eW,byteOf,ld]
theorem GK(j:Nat):dh (λi=>decide (i<j)) j true=λi=>decide (i<j+1):=by
 funext i;unfold dh;split
 .rename_i h;simp[h]
 .rename_i h;simp;omega
theorem pJ(w:J)(n first:Int):
 aP ai 71 #[.int .i64 n,.int .i64 first] w (λv w'=>(¬(1<=n/\n<=1600/\0<=first/\first<=n)/\v=.tuple #[.pointer none,.int .i64 1]/\w=w')\/
  (1<=n/\n<=1600/\0<=first/\first<=n/\∃b s1 s2,v=.tuple #[.pointer (some ⟨b,0,none⟩),.int .i64 0]/\eR w' b n.toNat (λi=>decide (i<first.toNat)) (λi=>decide (i<first.toNat)) s1 s2/\Ext w w'/\∀k,fo b s1 s2 k->w.heap.size<=k)):=by
 refine okF (af.pJ n first) ay.pJ func71 ?_;(delta af.pJ al aK ak aA kz Y ag aR av;dsimp only);refine(BZ w n).use ?_;rintro _ _ ⟨rfl,rfl⟩;refine⟨_,rfl,λh=>.inl ⟨λhc=>?_,rfl,rfl⟩,λh=>?_⟩
 .simp at h;omega
 simp at h;obtain⟨⟨⟨F,G⟩,H⟩,K⟩:=h;obtain⟨n,rfl⟩:=qY (by omega:0<=n);obtain⟨first,rfl⟩:=qY (by omega:0<=first);refine(B0 w n I).use ?_;rintro _ _ ⟨rfl,rfl⟩;refine⟨_,rfl,I,?_⟩;simp only[c8];rw[GA];obtain⟨m,f⟩:∃m,m=(n+7)/8:=⟨_,rfl⟩;rw[←f];have l:=a8.new (sz:=1) (T:=5) w (List.replicate m (.int .u8 0)) m (by simp) (by show m<=2^63-1;omega);rw[←GJ]at l⊢;have ar:Ext w (w.alloc (.cells (eW (λi=>decide (i<0)) m).toArray 5)):=ab.alloc (.refl _ _) _;generalize s:w.alloc (.cells (eW (λi=>decide (i<0)) m).toArray 5)=w1 at*;have L:w1.heap.size=w.heap.size+1:=by rw[←s];simp
 have t:=bq.new w1 #[.int .i64 (n:Int),.slice (some ⟨w.heap.size,0,none⟩) m m,.slice none 0 0] 218;have u:=ab.alloc ar (.cells #[.int .i64 (n:Int),.slice (some ⟨w.heap.size,0,none⟩) m m,.slice none 0 0] 218);have x:=l.ext (ab.alloc (.refl _ w1) (.cells #[.int .i64 (n:Int),.slice (some ⟨w.heap.size,0,none⟩) m m,.slice none 0 0] 218));refine⟨λi w'=>∃j:Nat,i=j/\j<=first/\Ext w w'/\bq w' w1.heap.size #[.int .i64 (n:Int),.slice (some ⟨w.heap.size,0,none⟩) m m,.slice none 0 0] 218/\
  a8 1 5 w' ⟨some ⟨w.heap.size,0,none⟩,m,m⟩ (eW (λi=>decide (i<j)) m),λi _=>((first:Int)-i).toNat,⟨0,rfl,I,u,t,x⟩,?_⟩
 rintro _ ah ⟨j,rfl,M,hx,d,o⟩;refine⟨λaH=>?_,λy=>?_⟩
 .have p:j<first:=by simpa using aH
  refine⟨_,rfl,⟨some ⟨w.heap.size,0,none⟩,m,m⟩,by rw[aw,d.cell];rfl,(BO o (k:=j) I I).use ?_⟩;rintro _ z ⟨rfl,q,hc⟩;rw[GK]at q;rw[bu I I];refine⟨rfl,⟨j+1,I,I,?_,d.ad hc ?_,q⟩,(show((first:Int)-((j:Int)+1)).toNat<((first:Int)-(j:Int)).toNat from I)⟩
  .exact((ab.cK hx).trans hc).mono λk a c=>by rw[ky]at c;simp at c;omega
  .intro c
   rw[ky]at c;simp at c;omega
 .have p:j=first:=by
   have:¬(j:Int)<first:=by simpa using y
   omega
  subst p;have r:∀i,n<=i->decide (i<j)=false:=λi hi=>by simp;omega
  refine(ym d o (λk a e=>?_) I).use ?_
  .rw[ky]at a
   simp at a;omega
  rintro _ z ⟨rfl,A,h1,B,C,D,g⟩;have N:=d.lt;refine⟨rfl,.inr ⟨I,I,I,I,w1.heap.size,⟨some ⟨w.heap.size,0,none⟩,m,m⟩,A,rfl,⟨h1,?_,?_,λk a=>⟨λe=>?_,λE=>?_⟩,λk a e=>?_,I,I,r,r⟩,?_,?_⟩⟩
  .simp only[←f];exact B
  .simp only[←f];exact C
  .rw[ky]at a
   simp at a;omega
  .rw[ky]at a
   simp at a;have:=g k E;omega
  .have:=g k a
   omega
  .exact((ab.cK hx).trans D).mono λk a e=>by omega
  .rintro k (rfl|a|a)
   .omega
   .rw[ky]at a
    simp at a;omega
   .have:=g k a
    have:=hx.size;omega
structure aM where
 aY:Nat
 gen:Nat
 root:Nat
 aG:Nat
 C:b1
 sb:Nat
 n:Nat
 f:Nat->aj
 g:Nat->aj
 s1:U
 s2:U
 E:Nat->Prop
 G:Nat->Prop
 P:Nat->aq aB
def aM.cf(T:aM)(E G:Nat->Prop):aM:={T with E:=E,G:=G}
def aM.bk(T:aM)(C:b1)(P:Nat->aq aB):aM:={T with C:=C,P:=P}
def aM.X(T:aM)(q:Nat):Prop:=q=T.aY\/fo T.sb T.s1 T.s2 q\/T.E q\/T.G q
def aM.M(T:aM)(q:Nat):Prop:=c3 T.C q\/T.X q
def aM.N(T:aM)(q:Nat):Prop:=c3 T.C q\/q=T.aY\/fo T.sb T.s1 T.s2 q\/T.G q
theorem aM.gh{T:aM}{q:Nat}(h:T.N q):T.M q:=h.imp id (Or.imp id (Or.imp id .inr))
def gK(gen:Nat)(leaf:aj)(no:Nat)(l:cJ)(n:aB):Prop:=
 ∃p:hX,da (no:Int) l=.ok p/\p.gen<=gen/\p.kind=(if leaf then 1 else 2)/\lK leaf p.body n/\2<=no
def lf(T:aM):O aa:=[.pointer (some T.C.c),.pointer (some T.sb),.int .u64 (T.gen:Nat),T.root,T.aG]
structure bM(w:J)(T:aM):Prop where
 t:Var w T.aY (lf T) 239
 s:eR w T.sb T.n T.f T.g T.s1 T.s2
 ca:ec T.X w T.C
 jN:¬fo T.sb T.s1 T.s2 T.aY
 c7:∀q,T.E q->q≠T.aY/\¬fo T.sb T.s1 T.s2 q/\¬T.G q
 h5:∀q,T.G q->q≠T.aY/\¬fo T.sb T.s1 T.s2 q
 n:T.C.D.n=T.n
 num:T.root<T.n/\T.aG<=12/\T.gen<18446744073709551616
 ep:∀no bm,T.P no=some bm->no<T.n/\gK T.gen bm.leaf no (T.C.view no) bm
 bK:∀j,T.C.D.bK j=true->T.g j=true\/T.C.D.ro
 low:T.g 0=true/\T.g 1=true
structure bO(T ao:aM)(w w':J)(k:Nat):Prop where
 aY:ao.aY=T.aY
 sb:ao.sb=T.sb
 n:ao.n=T.n
 g:ao.g=T.g
 s1:ao.s1=T.s1
 s2:ao.s2=T.s2
 c:ao.C.c=T.C.c
 d:ao.C.D.d=T.C.D.d
 aZ:ao.C.D.key=T.C.D.key
 gen:ao.gen=T.gen
 aN:ao.C.D.aN<=T.C.D.aN+k
 calm:∀m,T.C.D.calm (m+k)->ao.C.D.calm m
 ad:ab T.N w w'
 c4:∀q,ao.M q->T.M q\/w.heap.size<=q
 fn:∀q,ao.N q->T.N q\/w.heap.size<=q
theorem bO.bK{T ao:aM}{w w':J}{k:Nat}(h:bO T ao w w' k):ao.C.D.bK=T.C.D.bK/\ao.C.D.er=T.C.D.er:=by
 have:=congrArg Prod.fst h.aZ;exact⟨congrArg (λp=>p.2.1) this,congrArg (λp=>p.2.2.1) this⟩
theorem bO.refl(T:aM)(w:J):bO T T w w 0:=⟨rfl,rfl,rfl,rfl,rfl,rfl,rfl,rfl,rfl,rfl,bo _,λ_ h=>h,.refl _ _,λ_ h=>.inl h,λ_ h=>.inl h⟩
theorem bO.ext{w w':J}(T:aM)(h:Ext w w'):bO T T w w' 0:=⟨rfl,rfl,rfl,rfl,rfl,rfl,rfl,rfl,rfl,rfl,bo _,λ_ h=>h,ab.cK h,λ_ h=>.inl h,λ_ h=>.inl h⟩
theorem bO.trans{T ao e:aM}{w w' f:J}{k l:Nat}(h1:bO T ao w w' k)(a:bO ao e w' f l):bO T e w f (k+l):=by
 have hs:=h1.ad.size;refine⟨a.aY.trans h1.aY,a.sb.trans h1.sb,a.n.trans h1.n,a.g.trans h1.g,a.s1.trans h1.s1,a.s2.trans h1.s2,a.c.trans h1.c,a.d.trans h1.d,a.aZ.trans h1.aZ,a.gen.trans h1.gen,by have:=h1.aN;have:=a.aN;omega,
  λm i=>a.calm m (h1.calm (m+l) (by rw[show m+l+k=m+(k+l) from I];exact i)),ct h1.ad a.ad λq b h=>(h1.fn q h).resolve_right I,λq b=>?_,λq b=>?_⟩
 .rcases a.c4 q b with h|h
  .exact h1.c4 q h
  .exact .inr I
 .rcases a.fn q b with h|h
  .exact h1.fn q h
  .exact .inr I
theorem bO.mono{T ao:aM}{w w':J}{k l:Nat}(h:bO T ao w w' k)(b:k<=l):bO T ao w w' l:=
 ⟨h.aY,h.sb,h.n,h.g,h.s1,h.s2,h.c,h.d,h.aZ,h.gen,by have:=h.aN;omega,λm a=>h.calm m (ga a I),h.ad,h.c4,h.fn⟩
theorem bO.bm{T ao:aM}{w w':J}{k lo:Nat}(h:bO T ao w w' k){n:aB}{K V D:U}(e:bz (λq=>lo<=q/\¬T.M q) w n K V D):bz (λq=>lo<=q/\¬ao.M q) w' n K V D:=by
 have h1:bz (λq=>q<w.heap.size/\lo<=q/\¬T.M q) w n K V D:=e.aW λq b a=>⟨b,a⟩;refine(bz.ad h1 h.ad λq b c=>b.2.2 (aM.gh c)).aW λq _ a=>⟨a.2.1,λc=>?_⟩;rcases h.c4 q c with d|d
 .exact a.2.2 d
 .have:=a.1;omega
section
variable {w w':J}{T ao:aM}
theorem bO.step{W E G:Nat->Prop}{w1:J}{k:Nat}(h:bO T ao w w1 k)(hc:ab W w1 w')(cd:∀q,W q->q<w.heap.size->T.N q)(e:∀q,E q->ao.E q\/ao.G q\/w.heap.size<=q)(b:∀q,G q->ao.G q\/w.heap.size<=q):bO T (ao.cf E G) w w' k:=by
 refine⟨h.aY,h.sb,h.n,h.g,h.s1,h.s2,h.c,h.d,h.aZ,h.gen,h.aN,h.calm,ct h.ad hc λq a f=>cd q f a,λq a=>?_,λq a=>?_⟩
 .rcases a with a|a|a|a|a
  .exact h.c4 q (.inl a)
  .exact h.c4 q (.inr (.inl a))
  .exact h.c4 q (.inr (.inr (.inl a)))
  .rcases e q a with h1|h1|h1
   .exact h.c4 q (.inr (.inr (.inr (.inl h1))))
   .exact h.c4 q (.inr (.inr (.inr (.inr h1))))
   .exact .inr h1
  .rcases b q a with h1|h1
   .exact h.c4 q (.inr (.inr (.inr (.inr h1))))
   .exact .inr h1
 .rcases a with a|a|a|a
  .exact h.fn q (.inl a)
  .exact h.fn q (.inr (.inl a))
  .exact h.fn q (.inr (.inr (.inl a)))
  .rcases b q a with h1|h1
   .exact h.fn q (.inr (.inr (.inr h1)))
   .exact .inr h1
theorem bO.local{bV kc a yo:Nat->Prop}{w1:J}{k:Nat}(h:bO (T.cf bV a) ao w1 w' k)(hx:Ext w w1)(b:∀q,bV q->T.E q\/w.heap.size<=q)(c:∀q,a q->T.G q\/w.heap.size<=q)
 (d:∀q,kc q->ao.E q\/ao.G q) (e:∀q,yo q->ao.G q):bO T (ao.cf kc yo) w w' k:=by
 have h0:bO T (T.cf bV a) w w1 0:=(bO.ext T (w:=w) (w':=w) (ab.refl _ _)).step (W:=λ_=>False) hx (λ_ h=>h.elim) (λq h=>(b q h).imp id .inr) c;have h1:=h0.trans h;rw[cA]at h1;exact h1.step (W:=λ_=>False) (ab.refl _ _) (λ_ h=>h.elim) (λq h=>(d q h).imp id .inl) λq h=>.inl (e q h)
theorem bM.lt(h:bM w T){q:Nat}(a:T.M q):q<w.heap.size:=by
 rcases a with a|a
 .exact h.ca.raw.lt a
 .exact(h.ca.inv.fh q a).1
theorem bM.jd(h:bM w T){q:Nat}(b:T.E q):¬T.N q:=by
 rintro(a|a|a|a)
 .exact(h.ca.inv.fh q (.inr (.inr (.inl b)))).2 a
 .exact(h.c7 q b).1 a
 .exact(h.c7 q b).2.1 a
 .exact(h.c7 q b).2.2 a
theorem bM.ext(h:bM w T)(hx:Ext w w'):bM w' T:=⟨h.t.ext hx,h.s.ext hx,h.ca.ext hx,h.jN,h.c7,h.h5,h.n,h.num,h.ep,h.bK,h.low⟩
theorem ec.grow{X d W:Nat->Prop}{C:b1}(h:ec X w C)(hc:ab W w w')(cd:∀q,W q->q<w.heap.size->X q)(e:∀q,d q->X q\/(w.heap.size<=q/\q<w'.heap.size)):ec d w' C:=by
 have g:ab X w w':=ct (W:=X) (ab.refl _ _) hc λq a i=>cd q i a;refine⟨h.raw.ad g λq a hx=>(h.inv.fh q hx).2 a,h.inv.pins,λf hf j=>?_,h.inv.un,λq a=>?_,h.inv.kH⟩
 .obtain⟨no,au,k,m,n,o,p,r⟩:=h.inv.ok f hf j
  have s:a7 (λq=>q<w.heap.size/\¬c3 C q/\¬X q) w f.b f.l:=a7.aW m λq a c=>⟨a,c⟩;refine⟨no,au,k,a7.aW (a7.ad s g λq a hx=>a.2.2 hx) λq _ c=>⟨c.2.1,λt=>?_⟩,n,o,p,r⟩;rcases e q t with h1|h1
  .exact c.2.2 h1
  .have:=c.1;omega
 .rcases e q a with h1|h1
  .exact⟨fO (h.inv.fh q h1).1 hc.size,(h.inv.fh q h1).2⟩
  .exact⟨h1.2,λhf=>by have:=h.raw.lt hf;omega⟩
theorem bM.grow{E G W:Nat->Prop}(h:bM w T)(hc:ab W w w')(cd:∀q,W q->q<w.heap.size->T.E q\/T.G q)(c:∀q,E q->T.E q\/T.G q\/(w.heap.size<=q/\q<w'.heap.size))(f:∀q,G q->T.E q\/T.G q\/(w.heap.size<=q/\q<w'.heap.size))(j:∀q,E q->¬G q):bM w' (T.cf E G):=by
 have b:∀q,T.E q\/T.G q->q≠T.aY/\¬fo T.sb T.s1 T.s2 q:=λq a=>by
  rcases a with a|a
  .exact⟨(h.c7 q a).1,(h.c7 q a).2.1⟩
  .exact h.h5 q a
 have g:ab (λq=>T.E q\/T.G q) w w':=ct (W:=λq=>T.E q\/T.G q) (ab.refl _ _) hc λq a k=>cd q k a;have d:∀q,T.E q\/T.G q\/(w.heap.size<=q/\q<w'.heap.size)->q≠T.aY/\¬fo T.sb T.s1 T.s2 q:=λq a=>by
  rcases a with a|a|a
  .exact b q (.inl a)
  .exact b q (.inr a)
  .exact⟨λe=>by have l:=h.lt (q:=q) (.inr (.inl e));omega,λe=>by have l:=h.lt (q:=q) (.inr (.inr (.inl e)));omega⟩
 have i:∀q,T.E q\/T.G q\/(w.heap.size<=q/\q<w'.heap.size)->T.X q\/(w.heap.size<=q/\q<w'.heap.size):=λq a=>by
  rcases a with a|a|a
  .exact .inl (.inr (.inr (.inl a)))
  .exact .inl (.inr (.inr (.inr a)))
  .exact .inr a
 refine⟨h.t.ad g λe=>(b _ e).1 rfl,h.s.ad g λq a e=>(b q e).2 a,h.ca.grow hc (λq a m=>.inr (.inr (cd q a m))) λq a=>?_,h.jN,λq a=>⟨(d q (c q a)).1,(d q (c q a)).2,j q a⟩,λq a=>d q (f q a),h.n,h.num,h.ep,h.bK,h.low⟩;rcases a with a|a|a|a
 .exact .inl (.inl a)
 .exact .inl (.inr (.inl a))
 .exact i q (c q a)
 .exact i q (f q a)
theorem bM.cells(h:bM w T):w.cell? T.aY=some (.pointer (some T.C.c))/\w.cell? (Addr.add T.aY 1)=some (.pointer (some T.sb))/\w.cell? (Addr.add T.aY 2)=some (.int .u64 (T.gen:Nat))/\
 w.cell? (Addr.add T.aY 3)=some (.int .i64 (T.root:Nat))/\w.cell? (Addr.add T.aY 4)=some (.int .i64 (T.aG:Nat)):=by
 rw[aw,aw,aw,aw];exact⟨h.t.cell,h.t.cell,h.t.cell,h.t.cell,h.t.cell⟩
theorem bM.GL(h:bM w T){no:Nat}(a:no<T.n):(T.C.view no).length=256:=by
 unfold b1.view
 cases hf:T.C.an.find? λf=>f.full&&f.no==(no:Int) with
 |some f=>
  have h1:=iA hf;have b:=jX hf;obtain⟨m,c⟩:=h.ca.inv.ok f h1 (by
   have:(f.full&&f.no==(no:Int))=true:=b;exact(Bool.and_eq_true_iff.1 this).1)
  exact c.len
 |none=>exact h.ca.raw.dev.oM (by rw[h.n];exact a)
theorem bM.qp{aE:b1}{k:Nat}{P:Nat->aq aB}(h:bM w T)(e:ec T.X w' aE)(a:eC T.C aE w w' k)(f:∀no bm,P no=some bm->no<T.n/\gK T.gen bm.leaf no (aE.view no) bm):
 bM w' (T.bk aE P)/\bO T (T.bk aE P) w w' k:=by
 have hx:=h.ca.inv.fh;have hc:=a.ad;refine⟨⟨?_,h.s.ad hc λq b hf=>(hx q (.inr (.inl b))).2 hf,e,h.jN,h.c7,h.h5,?_,h.num,f,λj l=>by unfold a6.ro;show T.g j=true\/∀i,aE.D.bK i=true;rw[a.bK];exact h.bK j (by rw[←a.bK];exact l),h.low⟩,⟨rfl,rfl,rfl,rfl,rfl,rfl,a.c,a.d,a.aZ,rfl,a.aN,a.calm,hc.mono λq _ b=>.inl b,?_,?_⟩⟩
 .have:=h.t.ad hc λhf=>(hx T.aY (.inl rfl)).2 hf
  unfold lf at this⊢;rw[←a.c]at this;exact this
 .show aE.D.n=T.n
  rw[a.n,h.n]
 .rintro q (b|b)
  .rcases a.c4 q b with h1|h1
   .exact .inl (.inl h1)
   .exact .inr h1
  .exact .inl (.inr b)
 .rintro q (b|b)
  .rcases a.c4 q b with h1|h1
   .exact .inl (.inl h1)
   .exact .inr h1
  .exact .inl (.inr b)
end
def GM(T:aM)(leaf:aj)(no:Nat)(e:Int):Prop:=
 (e=3/\¬T.C.D.calm 2)\/da (no:Int) (T.C.view no)=.error e\/(e=4/\(∃p,da (no:Int) (T.C.view no)=.ok p)/\∀n,¬gK T.gen leaf no (T.C.view no) n)
def oQ(T:aM)(leaf:aj)(no:Nat)(w:J)(v:aa)(w':J):Prop:=
 ∃aE:b1,bM w' (T.bk aE T.P)/\bO T (T.bk aE T.P) w w' 2/\(∀j,aE.view j=T.C.view j)/\
  ((∃ (n:aB) (K V D:U),v=.tuple #[cX n K V D,(0:Int)]/\gK T.gen leaf no (T.C.view no) n/\bz (λq=>w.heap.size<=q/\¬(T.bk aE T.P).M q) w' n K V D)\/
    (∃e:Int,v=.tuple #[cX g8 bg bg bg,e]/\GM T leaf no e/\e≠0))
theorem B1{no:Int}{l:cJ}{e:Int}(h:da no l=.error e):e≠0:=by
 intro he;subst he;unfold da at h
 repeat' split at h
 all_goals first|(injection h with h;exact absurd h (by decide))|cases h
theorem GN{no:Int}{l:cJ}{p:hX}(h:da no l=.ok p):p.body.length<=256:=by
 unfold da at h
 repeat' split at h
 all_goals first|(cases h;done)|skip
 rename_i h1 _ _ _ _ _;injection h with h
 rw[←h];show(List.take _ (List.drop 24 l)).length<=256;rw[cv,c5];omega
theorem vY{w':J}{h:Nat}{vs:O aa}(n g:Int)(s:U)(a:Var w' h vs 150)(b:vs.length=3){K:J->Prop}(c:∀ah,Var ah h [n,.int .u64 g,s] 150->ab (λq=>q=h) w' ah->ah.heap.size=w'.heap.size->K ah):
 bA w' h [n,.int .u64 g,s]/\(3:Nat)=3/\al (setCells w' h 0 [n,.int .u64 g,s]) K:=by
 refine⟨a.cc (by rw[b];rfl) ?_,rfl,cy a (us:=[n,.int .u64 g,s]) (by rw[b];rfl) rfl c⟩;intro v a;simp only[cU,eV,eZ]at a;rcases a with rfl|rfl|rfl<;>trivial
theorem yp{w:J}{T:aM}(h:bM w T)(aH:T.C.D.aN<=999999999){no:Nat}(am:no<T.n)(an:2<=no)(leaf:aj):
 aP ai 196 #[.pointer (some T.aY),no,leaf] w (oQ T leaf no w):=by
 have be:=h.s.bp;have aI:=h.GL am;refine okF (af.uU (some T.aY) (no:Int) leaf) ay.uU func196 ?_;(delta af.uU cp b8 ak xv Y tG bc ag lF z3 bw r1 rA g6;dsimp only);refine bh (vs:=[false,(),(),()]) rfl λw1 aJ ao bf=>?_;obtain⟨o,N⟩:∃o,o=λq=>T.G q\/q=w.heap.size:=⟨_,rfl⟩;have ap:o w.heap.size:=by rw[N];exact .inr rfl
 have O:∀q,T.G q->o q:=λq c=>by rw[N];exact .inl c
 have R:∀q,o q->T.G q\/q=w.heap.size:=λq c=>by rw[N]at c;exact c
 have h1:bM w1 (T.cf T.E o):=h.grow (W:=λ_=>False) ao (λ_ h=>h.elim) (λq c=>.inl c) (λq c=>.inr ((R q c).imp id λe=>⟨I,I⟩)) λq c hg=>by
  rcases R q hg with t|t
  .exact(h.c7 q c).2.2 t
  .have:=h.lt (q:=q) (.inr (.inr (.inr (.inl c))));omega
 refine⟨_,rfl,_,h1.cells.1,(F_ h1.ca aH (no:=no) (by rw[h1.n];exact am) an).use ?_⟩;rintro _ m ⟨aE,aK,S,u,aL⟩;obtain⟨X,aO⟩:=h1.qp (P:=T.P) aK S (λno bm aQ=>by rw[u];exact h1.ep no bm aQ);have bi:=S.ad.size;have aq:Var m w.heap.size [false,(),(),()] 202:=aJ.ad S.ad λhf=>(h1.ca.inv.fh _ (.inr (.inr (.inr ap)))).2 hf
 have fin:∀w':J,ab (λq=>q=w.heap.size) m w'->bM w' (T.bk aE T.P)/\bO T (T.bk aE T.P) w w' 2:=λw' hc=>by
  refine⟨X.grow (E:=T.E) (G:=T.G) hc (λq e _=>.inr (by rw[e];exact ap)) (λq c=>.inl c) (λq c=>.inr (.inl (O q c))) λq c=>(h.c7 q c).2.2,?_⟩;have aR:=aO.local ao (λq c=>.inl c) (λq c=>(R q c).imp id λe=>I) (kc:=T.E) (yo:=T.G) (λq c=>.inl c) O;exact aR.step hc (λq e bj=>I) (λq c=>.inl c) λq c=>.inl c
 have aT:∀ {w':J}{n:aB}{K V D:U}{B:Nat->Prop},bz (λq=>m.heap.size<=q) w' n K V D->bz (λq=>w.heap.size<=q/\¬(T.bk aE T.P).M q) w' n K V D:=λaU=>by
  refine aU.aW λq _ c=>⟨I,λj=>?_⟩;have:q<m.heap.size:=X.lt (q:=q) (by
   rcases j with j|j|j|j|j
   .exact .inl j
   .exact .inr (.inl j)
   .exact .inr (.inr (.inl j))
   .exact .inr (.inr (.inr (.inl j)))
   .exact .inr (.inr (.inr (.inr (O q j)))))
  omega
 rcases aL with ⟨s,rfl,hs⟩|⟨rfl,aV⟩
 .refine⟨s,0,rfl,λd=>(by cases d),λ_=>(m6 hs.1 hs.2.1 (by show(T.C.view no).length<=1000;rw[aI];omega) _).use ?_⟩
  rintro _ aX ⟨z,H⟩;have ar:=aq.ext H;have bl:=H.size;have aZ:(T.cf T.E o).C.view no=T.C.view no:=rfl;rw[aZ]at z
  cases g:da (no:Int) (T.C.view no) with
  |error e=>
   rw[g]at z;obtain rfl:=z;refine⟨0,0,⟨none,0,0⟩,e,rfl,bh (vs:=[(0:Int),.int .u64 0,()]) rfl λa0 Z v a1=>?_⟩;refine vY 0 0 ⟨none,0,0⟩ Z rfl λf av x a2=>⟨λ_=>?_,λd=>?_⟩
   .have aa:Var f w.heap.size [false,(),(),()] 202:=(ar.ext v).ad x I
    refine jb false bg bg bg aa rfl (Q:=λb K V D ah=>oQ T leaf no w (.tuple #[.agg #[b,K,V,D],e]) ah) λl i=>?_;obtain⟨f1,f2⟩:=fin l (ct (W:=λq=>q=w.heap.size) (ab.cK (Ext.cu (H.trans v) x I)) i λq _ e=>e);exact⟨aE,f1,f2,u,.inr ⟨e,rfl,.inr (.inl g),B1 g⟩⟩
   .have:=B1 g
    simp at d;omega
  |ok p=>
   rw[g]at z;obtain⟨A,rfl,ac,bn⟩:=z;refine⟨p.kind,p.gen,A,0,rfl,bh (vs:=[(0:Int),.int .u64 0,()]) rfl λa0 Z v a1=>?_⟩;refine vY p.kind p.gen A Z rfl λf av x a2=>⟨λd=>(by cases d),λ_=>aS ?_⟩;have aa:Var f w.heap.size [false,(),(),()] 202:=(ar.ext v).ad x I;have a3:Ext m f:=Ext.cu (H.trans v) x I;have F:Ext m f.drew:=a3.trans (b6 _);have ae:Var f.drew w.heap.size [false,(),(),()] 202:=aa.drew;have L:=av.drew;have a4:=(X.ext F).cells;obtain⟨b,d⟩:∃b,b=aX.heap.size:=⟨_,rfl⟩;rw[←d]at L⊢;have al:f.drew.cell? b=some (.int .i64 (p.kind:Nat)):=L.cell;have a5:f.drew.cell? (Addr.add b 1)=some (.int .u64 (p.gen:Nat)):=by rw[aw];exact L.cell
   have a6:f.drew.cell? (Addr.add b 2)=some (.slice A.a A.len A.cap):=by rw[aw];exact L.cell
   have bo:m.heap.size<=f.drew.heap.size:=F.size;refine⟨id,_,a5,_,rfl,id,_,a4.2.2.1,λhg=>?_,λhg=>⟨id,_,al,?_⟩⟩
   .have hg:T.gen<p.gen:=by
     have:(p.gen:Int)>(T.gen:Int):=b2 hg;omega
    refine cm (λb w'=>b=true/\w'=f.drew) (λq c=>⟨λ_=>c _ _ ⟨rfl,rfl⟩,λh=>by cases h⟩) ?_;rintro _ _ ⟨rfl,rfl⟩;refine⟨λ_=>?_,λh=>(by cases h)⟩;refine jb false bg bg bg ae rfl (Q:=λb K V D ah=>oQ T leaf no w (.tuple #[.agg #[b,K,V,D],(4:Int)]) ah) λl i=>?_;obtain⟨f1,f2⟩:=fin l (ct (W:=λq=>q=w.heap.size) (ab.cK F) i λq _ e=>e);refine⟨aE,f1,f2,u,.inr ⟨4,rfl,.inr (.inr ⟨rfl,⟨p,g⟩,?_⟩),by decide⟩⟩;rintro n ⟨ax,au,az,_⟩;rw[g]at au;cases au;omega
   .have hg:p.gen<=T.gen:=by
     have:¬(p.gen:Int)>(T.gen:Int):=cr hg;omega
    refine cm (λb w'=>w'=f.drew/\(b=false↔p.kind=(if leaf then 1 else 2))) (λq c=>⟨λh=>c _ _ ⟨rfl,?_⟩,λh=>⟨_,al,cm (λb w'=>w'=f.drew/\(b=false↔p.kind=(if leaf then 1 else 2))) (λr aA=>⟨λt=>⟨_,al,aA _ _ ⟨rfl,?_⟩⟩,λt=>aA _ _ ⟨rfl,?_⟩⟩) λb w' a7=>c b w' a7⟩⟩) ?_
    .refine⟨λh=>(by cases h),λy=>?_⟩
     rw[y]at h
     cases leaf<;>simp at h
    .cases leaf
     .simp
      exact Int.ofNat_inj
     .simp at t h;omega
    .cases leaf
     .simp at t h;omega
     .simp at t
      simp;omega
    rintro bq _ ⟨rfl,y⟩;refine⟨λd=>?_,λd=>⟨_,a6,(pX ((ac.ext (Ext.cu v x I|>.trans (b6 _))).src) ?_ ?_ ?_ leaf).use ?_⟩⟩
    .refine jb false bg bg bg ae rfl (Q:=λb K V D ah=>oQ T leaf no w (.tuple #[.agg #[b,K,V,D],(4:Int)]) ah) λl i=>?_
     obtain⟨f1,f2⟩:=fin l (ct (W:=λq=>q=w.heap.size) (ab.cK F) i λq _ e=>e);refine⟨aE,f1,f2,u,.inr ⟨4,rfl,.inr (.inr ⟨rfl,⟨p,g⟩,?_⟩),by decide⟩⟩;rintro n ⟨ax,au,az,aC,_⟩;rw[g]at au;cases au;rw[y.2 aC]at d;cases d
    .exact ac.2.1
    .intro k y
     have:=a8.lt ac k y;have:=v.size;show k<f.heap.size;omega
    .have:=GN g
     omega
    rintro _ a9 ⟨a_,aD⟩;have aF:Ext m a9:=F.trans aD;have aG:=ae.ext aD;rcases a_ with ⟨n,K,V,D,rfl,ba,c6⟩|⟨rfl,bb⟩
    .refine⟨n.leaf,K,V,D,0,rfl,?_⟩
     refine jb n.leaf K V D aG rfl (Q:=λb K V D ah=>oQ T leaf no w (.tuple #[.agg #[b,K,V,D],(0:Int)]) ah) λl i=>?_;obtain⟨f1,f2⟩:=fin l (ct (W:=λq=>q=w.heap.size) (ab.cK aF) i λq _ e=>e);refine⟨aE,f1,f2,u,.inl ⟨n,K,V,D,rfl,⟨p,g,hg,y.1 d,ba,an⟩,?_⟩⟩;refine aT (B:=λ_=>True) (bz.ad (c6.aW λq _ c=>?_) i λq c e=>?_)
     .omega
     .have:m.heap.size<=q:=c
      omega
    .refine⟨false,bg,bg,bg,4,rfl,?_⟩
     refine jb false bg bg bg aG rfl (Q:=λb K V D ah=>oQ T leaf no w (.tuple #[.agg #[b,K,V,D],(4:Int)]) ah) λl i=>?_;obtain⟨f1,f2⟩:=fin l (ct (W:=λq=>q=w.heap.size) (ab.cK aF) i λq _ e=>e);refine⟨aE,f1,f2,u,.inr ⟨4,rfl,.inr (.inr ⟨rfl,⟨p,g⟩,?_⟩),by decide⟩⟩;rintro n ⟨ax,au,az,aC,bd,_⟩;rw[g]at au;cases au;exact bb n bd
 .refine⟨⟨none,0,0⟩,3,rfl,λ_=>?_,λd=>(by cases d)⟩
  refine jb false bg bg bg aq rfl (Q:=λb K V D ah=>oQ T leaf no w (.tuple #[.agg #[b,K,V,D],(3:Int)]) ah) λl i=>?_;obtain⟨f1,f2⟩:=fin l i;exact⟨aE,f1,f2,u,.inr ⟨3,rfl,.inl ⟨rfl,aV⟩,by decide⟩⟩
structure dD where
 no:Nat
 n:aB
 cT:Nat
 K:U
 V:U
 D:U
def dD.c(s:dD):O aa:=[s.no,s.n.leaf,s.K,s.V,s.D,s.cT]
def dD.st(s:dD):Nat×aB×Nat:=(s.no,s.n,s.cT)
theorem nu(l:O dD):∀x∈l,(dD.c x).length=6:=λ_ _=>rfl
structure ke(B:Nat->Prop)(w:J)(s:U)(l:O dD):Prop where
 own:a8 6 232 w s (bE dD.c l)
 oR:∀q,az s q->B q
 bm:∀x∈l,bz B w x.n x.K x.V x.D
def nv(P:Nat->aq aB)(k:Key):Nat->Nat->O (Nat×aB×Nat)->Prop
 |0,_,l=>l=[]
 |h+1,no,l=>∃n rest,P no=some n/\n.leaf=decide (h=0)/\l=(no,n,if h=0 then 0 else dn n.keys k)::rest/\nv P k h (n.kids.getD (dn n.keys k) 0) rest
theorem nv.length{P:Nat->aq aB}{k:Key}:∀ {h no:Nat}{l:O (Nat×aB×Nat)},nv P k h no l->l.length=h
 |0,_,_,h=>by rw[h];rfl
 |h+1,_,_,⟨n,rest,_,_,a,b⟩=>by rw[a,eU,nv.length b]
theorem gK.uniq{gen no:Nat}{leaf:aj}{l:cJ}{n m:aB}(h1:gK gen leaf no l n)(a:gK gen leaf no l m):n=m:=by
 obtain⟨p,a1,a2,a3,a4⟩:=h1;obtain⟨q,b9,bQ,c,b⟩:=a;rw[a1]at b9
 cases b9;exact lK.uniq a4.1 b.1
theorem gK.is{gen no:Nat}{leaf:aj}{l:cJ}{n:aB}(h:gK gen leaf no l n):n.leaf=leaf/\cF n/\bI n<=232:=by
 obtain⟨p,_,_,_,a,_⟩:=h;exact⟨a.2.1,a.1,a.2.2.1⟩
theorem gK.two{gen no:Nat}{leaf:aj}{l:cJ}{n:aB}(h:gK gen leaf no l n):2<=no:=by
 obtain⟨p,_,_,_,_,a⟩:=h;exact a
theorem cF.e_{n:aB}(h:cF n):n.keys.Pairwise bH:=by
 rcases h with h|h
 .exact h.e_
 .exact h.e_
def GO(T:aM)(steps:O (Nat×aB×Nat))(w:J)(v:aa)(w':J):Prop:=
 ∃aE:b1,bM w' (T.bk aE T.P)/\bO T (T.bk aE T.P) w w' (2*T.aG)/\(∀j,aE.view j=T.C.view j)/\
  ((∃ (s:U) (l:O dD),v=.tuple #[s,(0:Int)]/\l.map dD.st=steps/\ke (λq=>w.heap.size<=q/\¬(T.bk aE T.P).M q) w' s l)\/(v=.tuple #[(),(3:Int)]/\¬T.C.D.calm (2*T.aG)))
theorem GP(w:J)(cs:Array aa)(h:cs.size=6):Sem.run ai (Instr.buildSlice 228 1 #[(0,.agg cs)]) w=.ok (.slice (some w.heap.size) 1 1) (w.alloc (.cells cs 232)):=by
 have h0:((Tryz.prog.info? 232).bind (·.zero)).isSome=true:=by kernel_rfl
 obtain⟨z,a⟩:=mH.1 h0;obtain⟨i,hi,b⟩:=qk a;have h1:(Tryz.prog.underlying 232).isSome=true:=by kernel_rfl
 obtain⟨d,hd⟩:=mH.1 h1;exact x_ (sz:=6) w (by kernel_rfl) hd (by kernel_rfl) hi b h (by decide) (by decide)
theorem GQ:hM ai 228 232 6 96:=⟨by kernel_rfl⟩
theorem yq{h:Nat}{n:aB}(a:n.leaf=decide (h=0)):((((h+1:Nat):Int):Int)==1)=n.leaf:=by
 rw[a,fW,kU,cS];omega
theorem yr{w:J}{T:aM}{tk:U}{k:Key}{steps:O (Nat×aB×Nat)}(h:bM w T)(co:T.C.D.aN<=900000000)(bB:Src 1 w tk (aF k))(bD:∀q,az tk q->q<w.heap.size/\¬T.M q)(bF:nv T.P k T.aG T.root steps):
 aP ai 142 #[.pointer (some T.aY),tk] w (GO T steps w):=by
 have cq:=h.num.2.1;refine okF (af.uI (some T.aY) tk) ay.uI func142 ?_;(delta af.uI r1 ak g6 cp Y bc ag gw aA st aI av;dsimp only);refine⟨_,rfl,_,h.cells.2.2.2.1,_,rfl,_,h.cells.2.2.2.2,λs n8 n9 w'=>∃ (eK no:Nat) (l:O dD) (rest:O (Nat×aB×Nat)) (bV:Nat->Prop) (aE:b1),n9=(eK:Nat)/\n8=(no:Nat)/\nv T.P k eK no rest/\l.map dD.st++rest=steps/\l.length+eK=T.aG/\
  bV=(λq=>T.E q\/az s q)/\(∀q,az s q->w.heap.size<=q)/\bM w' ((T.cf bV T.G).bk aE T.P)/\bO T ((T.cf bV T.G).bk aE T.P) w w' (2*l.length)/\(∀j,aE.view j=T.C.view j)/\a8 6 232 w' s (bE dD.c l)/\
  ∀x∈l,bz (λq=>w.heap.size<=q/\¬((T.cf bV T.G).bk aE T.P).M q) w' x.n x.K x.V x.D,λ_ _ n9 _=>n9.toNat,?_,?_⟩
 .have bG:T.E=λq=>T.E q\/az ⟨none,0,0⟩ q:=by
   funext q;refine propext ⟨.inl,λh=>h.resolve_right ?_⟩;rintro⟨A,ar,_⟩
   cases ar
  have a7:(T.cf T.E T.G).bk T.C T.P=T:=rfl;refine⟨T.aG,T.root,[],steps,T.E,T.C,rfl,rfl,bF,rfl,by simp,bG,?_,by rw[a7];exact h,by rw[a7];exact .refl _ _,λ_=>rfl,?_,λx hx=>(by cases hx)⟩
  .rintro q ⟨A,ar,_⟩
   cases ar
  .exact⟨rfl,bo _,by decide,.inl ⟨rfl,rfl⟩⟩
 have fin:∀ {w':J}{bV:Nat->Prop}{aE:b1}{s:U}{k:Nat},bM w' ((T.cf bV T.G).bk aE T.P)->bO T ((T.cf bV T.G).bk aE T.P) w w' k->bV=(λq=>T.E q\/az s q)->(∀q,az s q->w.heap.size<=q)->bM w' (T.bk aE T.P)/\bO T (T.bk aE T.P) w w' k:=by
  intro w' bV aE s k h1 ac g z;have F:∀q,T.E q->bV q:=λq a=>by rw[g];exact .inl a
  exact⟨h1.grow (W:=λ_=>False) (E:=T.E) (G:=T.G) (ab.refl _ _) (λ_ h=>h.elim) (λq a=>.inl (F q a)) (λq a=>.inr (.inl a)) λq a=>(h.c7 q a).2.2,
   ac.step (W:=λ_=>False) (ab.refl _ _) (λ_ h=>h.elim) (λq a=>.inl (F q a)) λq a=>.inl a⟩
 rintro s _ _ cs ⟨eK,no,l,rest,bV,ae,rfl,rfl,a9,a_,hlen,H,L,t,R,f,ax,c6⟩;have ct:=R.ad.size;refine⟨λaH=>?_,λbH=>?_⟩
 .obtain⟨o,rfl⟩:∃bI,eK=bI+1:=⟨eK-1,by have:(eK:Int)>0:=b2 aH;omega⟩
  obtain⟨n,bJ,bK,ba,rfl,bb⟩:=a9;obtain⟨bL,S⟩:=t.ep no n bK;have bN:ae.D.aN<=999999999:=by
   have:ae.D.aN<=T.C.D.aN+2*l.length:=R.aN;omega
  refine(yp t bN bL S.two _).use ?_;rintro _ r ⟨B,ac,ah,bd,be⟩;have aC:=R.trans ah;have cv:=ah.ad.size;rw[yq ba]at be;rcases be with ⟨bp,K,V,D,rfl,bP,aD⟩|⟨e,rfl,bQ,bR⟩
  .obtain rfl:=gK.uniq S bP
   obtain⟨_,aJ,cw⟩:=S.is;have bS:=aJ.e_;have cz:=vB aJ;refine⟨n.leaf,K,V,D,0,rfl,bh (vs:=[false,(),(),()]) rfl λbT X aL bW=>?_⟩;refine⟨X.cc rfl ?_,rfl,cy X (us:=[n.leaf,K,V,D]) rfl rfl λaj aO aQ bX=>⟨λd=>(by cases d),λ_=>?_⟩⟩
   .intro v f
    simp only[cU,eV,eZ]at f;rcases f with rfl|rfl|rfl|rfl<;>trivial
   have bf:Ext r aj:=Ext.cu aL aQ (bo _);have cA:=bf.size;obtain⟨bU,aA,aR,aK⟩:=bC aO;refine⟨_,bU,K,aA,V,aR,D,aK,#[no,n.leaf,K,V,D,(0:Int)],by kernel_rfl,?_⟩;refine bh (vs:=[(0:Int),false,(),(),(),(0:Int)]) rfl λcB bi bj cC=>?_;refine⟨bi.cc rfl ?_,rfl,cy bi (us:=[no,n.leaf,K,V,D,(0:Int)]) rfl rfl λaT aU bl cE=>?_⟩
   .intro v f
    simp only[cU,eV,eZ]at f;rcases f with rfl|rfl|rfl|rfl|rfl|rfl<;>trivial
   have al:Ext r aT:=Ext.cu (bf.trans bj) bl I;have aV:Var aT r.heap.size [n.leaf,K,V,D] 202:=(aO.ext bj).ad bl I;obtain⟨sb,bY⟩:∃sb,sb=aj.heap.size:=⟨_,rfl⟩;obtain⟨nb,bZ⟩:∃nb,nb=r.heap.size:=⟨_,rfl⟩;rw[←bY]at aU⊢;rw[←bZ]at aV⊢;have b0:=aD.ext al;refine cm (λn40 u=>n40=(((if o=0 then no else n.kids.getD (dn n.keys k) 0:Nat)):Int)/\Ext r u/\Var u sb (dD.c ⟨no,n,if o=0 then 0 else dn n.keys k,K,V,D⟩) 232) (λq a=>⟨λam=>?_,λam=>?_⟩) ?_
   .have N:o≠0:=by
     have:((o+1:Nat):Int)>1:=b2 am;omega
    have b3:n.leaf=false:=by rw[ba];simp[N]
    have cF:=aJ.qf b3;have cG:=vv n.keys k;obtain⟨bU,aA,aR,aK⟩:=bC aV;have b4:Src 1 aT tk (aF k):=(bB.ad aC.ad λq a b5=>(bD q a).2 (aM.gh b5)).ext al;refine⟨_,bU,K,aA,V,aR,D,aK,(od b0 b4 bS I).use ?_⟩;rintro _ bn ⟨rfl,aX⟩;have bq:=aU.ext aX;obtain⟨au,b6⟩:=dF bq (i:=5) (by simp);rw[aw];refine⟨_,rfl,au,b6,aS ?_⟩;have br:=dp bn sb 5 (.int .i64 ((dn n.keys k:Nat):Int));have bs:=dM bq (i:=5) (.int .i64 ((dn n.keys k:Nat):Int));have bt:Ext r (bn.setCell ⟨sb,5,none⟩ (.int .i64 ((dn n.keys k:Nat):Int))):=Ext.cu (al.trans aX) br I;have b7:=(aV.ext aX).ad br I;obtain⟨d0,d1,d2,d3⟩:=bC b7;obtain⟨A,ar,d,b8⟩:=cI.at (aD.ext bt).kids (i:=dn n.keys k) I;refine⟨D,d3,_,bs.cell,A,ar,d,_,b8,a _ _ ⟨?_,bt,?_⟩⟩
    .rw[if_neg N,eX,c_ I];rfl
    .rw[if_neg N]
     exact bs
   .have N:o=0:=by
     have:¬((o+1:Nat):Int)>1:=cr am;omega
    refine a _ _ ⟨by rw[if_pos N],al,?_⟩;rw[if_pos N];exact aU
   rintro _ u ⟨rfl,bv,b9⟩;have cJ:=bv.size;refine⟨_,b9.rd rfl,⟨some u.heap.size,1,1⟩,_,GP _ _ rfl,?_⟩;have aZ:=eB u (.cells (dD.c ⟨no,n,if o=0 then 0 else dn n.keys k,K,V,D⟩).toArray 232);have Q:=bv.trans aZ;have b_:=Q.size;have cb:=aZ.size;have cd:=ax.1;rw[gn _ (nu l)]at cd;have Z:∀q,az s q->bV q:=λq a=>by rw[H];exact .inr a
   have ce:a8 6 232 r s (bE dD.c l):=ax.ad ah.ad λq a b=>t.jd (Z q a) b;obtain⟨x,a0⟩:∃x:dD,x=⟨no,n,if o=0 then 0 else dn n.keys k,K,V,D⟩:=⟨_,rfl⟩;rw[←a0]at aZ Q b_ cb⊢;have cg:∀v∈dD.c x,Plain v:=by
    intro v f;unfold dD.c at f;simp only[cU,eV,eZ]at f;rcases f with rfl|rfl|rfl|rfl|rfl|rfl<;>trivial
   obtain⟨an,ao,a1,a2,a3,a4,a5⟩:=GQ.append (cH:=228) (x:=⟨some u.heap.size,1,1⟩) (Src.new (T:=232) u (dD.c x) 1 rfl) (ce.ext Q) cg (by show(2*(s.len+1)+1000)*96<=_;omega);have cK:=a4.size;have a6:∀q,az an q->w.heap.size<=q:=λq a=>by
    rcases a5 q a with h1|h1
    .exact L q h1
    .omega
   obtain⟨kc,bw⟩:∃kc,kc=λq=>T.E q\/az an q:=⟨_,rfl⟩;have ap:∀q,kc q->T.E q\/az an q:=λq a=>by rw[bw]at a;exact a
   have F:∀q,T.E q->bV q:=λq a=>by rw[H];exact .inl a
   have ch:bE dD.c (l++ [x])=bE dD.c l++dD.c x:=by rw[lM];simp[bE]
   have ci:bM ao ((T.cf kc T.G).bk B T.P):=by
    refine(ac.ext Q).grow (E:=kc) (G:=T.G) a4 (λq a _=>.inl (Z q a)) (λq a=>?_) (λq a=>.inr (.inl a)) λq a hg=>?_
    .rcases ap q a with h1|h1
     .exact .inl (F q h1)
     .rcases a5 q h1 with g|g
      .exact .inl (Z q g)
      .exact .inr (.inr ⟨g,a8.lt a2 q h1⟩)
    .rcases ap q a with h1|h1
     .exact(h.c7 q h1).2.2 hg
     .have g:=h.lt (q:=q) (.inr (.inr (.inr (.inr hg))))
      have:=a6 q h1;omega
   have cj:bO T ((T.cf kc T.G).bk B T.P) w ao (2*(l++ [x]).length):=by
    have h1:=(aC.trans (bO.ext _ Q)).mono (l:=2*(l++ [x]).length) (by rw[cx,iS];omega);refine h1.step (E:=kc) (G:=T.G) a4 (λq a am=>by have:=L q a;omega) (λq a=>?_) λq a=>.inl a;rcases ap q a with h1|h1
    .exact .inl (F q h1)
    .exact .inr (.inr (a6 q h1))
   have bx:∀ {m:aB}{K V D:U},bz (λq=>w.heap.size<=q/\¬((T.cf bV T.G).bk B T.P).M q) r m K V D->bz (λq=>w.heap.size<=q/\¬((T.cf kc T.G).bk B T.P).M q) ao m K V D:=λ{m K V D} b=>by
    have h1:=(b.ext Q).aW (C:=λq=>q<(u.alloc (.cells (dD.c x).toArray 232)).heap.size/\w.heap.size<=q/\¬((T.cf bV T.G).bk B T.P).M q) λq a d=>⟨a,d⟩;refine(bz.ad h1 a4 λq a ck=>a.2.2 (.inr (.inr (.inr (.inl (Z q ck)))))).aW λq _ d=>⟨d.2.1,λb=>d.2.2 ?_⟩;rcases b with b|b|b|b|b
    .exact .inl b
    .exact .inr (.inl b)
    .exact .inr (.inr (.inl b))
    .refine .inr (.inr (.inr (.inl ?_)))
     show bV q;rcases ap q b with g|g
     .exact F q g
     .rcases a5 q g with z|z
      .exact Z q z
      .have:=d.1;omega
    .exact .inr (.inr (.inr (.inr b)))
   have bA:IntKind.wrap .i64 (((o+1:Nat):Int)-1)=(o:Nat):=by rw[bu I I];omega
   refine⟨an,ao,a1,⟨o,_,l++ [x],bJ,kc,B,bA,rfl,?_,?_,by rw[cx,iS];omega,bw,a6,ci,cj,λj=>(bd j).trans (f j),by rw[ch];exact a2,?_⟩,?_⟩
   .cases o with
    |zero=>exact bb
    |succ m=>rw[if_neg I];exact bb
   .rw[←a_,fP,cD,a0];rfl
   .intro y aa
    rcases cR.1 aa with aa|aa
    .exact bx (ah.bm (c6 y aa))
    .obtain rfl:=fi.1 aa
     subst a0;exact bx (aD.aW λq _ d=>⟨by have:=d.1;omega,d.2⟩)
   .rw[bA]
    show(o:Int).toNat<(((o+1:Nat):Int)).toNat;omega
  .refine⟨false,bg,bg,bg,e,rfl,bh (vs:=[false,(),(),()]) rfl λbT X aL bW=>?_⟩
   refine⟨X.cc rfl ?_,rfl,cy X (us:=[false,(),(),()]) rfl rfl λaj aO aQ bX=>⟨λ_=>?_,λd=>?_⟩⟩
   .intro v f
    simp only[cU,eV,eZ]at f;rcases f with rfl|rfl|rfl|rfl<;>trivial
   .have hx:Ext r aj:=Ext.cu aL aQ (bo _)
    have he:e=3/\¬ae.D.calm 2:=by
     rcases bQ with h1|h1|⟨_,_,h1⟩
     .exact h1
     .obtain⟨p,au,_⟩:=S
      rw[au]at h1;cases h1
     .exact absurd S (h1 n)
    obtain⟨rfl,cl⟩:=he;obtain⟨g,z⟩:=fin (k:=2*T.aG) (ac.ext hx) ((aC.trans (bO.ext _ hx)).mono I) H L;exact⟨B,g,z,λj=>(bd j).trans (f j),.inr ⟨rfl,λhc=>cl (R.calm 2 (ga hc I))⟩⟩
   .simp at d;exact absurd d bR
 .have h0:eK=0:=by
   have:¬(eK:Int)>0:=cr bH;omega
  subst h0;have cn:rest=[]:=a9;subst cn;obtain⟨g,z⟩:=fin (k:=2*T.aG) t (R.mono I) H L;refine⟨ae,g,z,f,.inl ⟨s,l,rfl,by rw[←a_,fQ],ax,λq a=>⟨L q a,λb=>?_⟩,λx hx=>?_⟩⟩
  .have cL:=L q a
   have aq:bV q:=by rw[H];exact .inr a
   rcases b with b|b|b|b|b
   .exact(t.ca.inv.fh q (.inr (.inr (.inl aq)))).2 b
   .exact(t.c7 q aq).1 b
   .exact(t.c7 q aq).2.1 b
   .have:=h.lt (q:=q) (.inr (.inr (.inr (.inl b))));omega
   .exact(t.c7 q aq).2.2 b
  .refine(c6 x hx).aW λq _ d=>⟨d.1,λb=>d.2 ?_⟩
   rcases b with b|b|b|b|b
   .exact .inl b
   .exact .inr (.inl b)
   .exact .inr (.inr (.inl b))
   .refine .inr (.inr (.inr (.inl ?_)))
    show bV q;rw[H];exact .inl b
   .exact .inr (.inr (.inr (.inr b)))
def aM.iO(T:aM)(f:Nat->aj):aM:={T with f:=f}
structure dG where
 cb:Nat
 ma:U
 gC:U
 made:O Nat
 left:O Nat
structure dr(w:J)(T:aM)(c:dG):Prop where
 t:bM w T
 v:Var w c.cb [.pointer (some T.aY),c.ma,c.gC] 297
 ma:a8 1 3 w c.ma (dW c.made)
 gC:a8 1 3 w c.gC (dW c.left)
 gc:T.G c.cb
 fp:∀q,az c.ma q->T.G q/\q≠c.cb/\¬az c.gC q
 kJ:∀q,az c.gC q->T.G q/\q≠c.cb
 ns:¬T.C.D.ro
theorem yt{w:J}{s:U}{ds:O Nat}(d:Nat)(b:a8 1 3 w s (dW ds))(j:ds.length<=1000000):
 ∃ (a:U) (w':J),Sem.run ai (Builtin.append_ #[58,58] 58 #[s,.slice (some w.heap.size) 1 1]) (w.alloc (.cells #[d] 3))=.ok a w'/\
  a8 1 3 w' a (dW (ds++ [d]))/\ab (az s) w w'/\(∀k,az a k->az s k\/w.heap.size<=k)/\ab (az s) (w.alloc (.cells #[d] 3)) w':=by
 have l:s.len=ds.length:=by have:=b.1;rw[nk]at this;omega
 have hc:Ext w (w.alloc (.cells #[d] 3)):=eB _ _;have m:(w.alloc (.cells #[d] 3)).heap.size=w.heap.size+1:=rZ _ _;obtain⟨a,w',h1,e,n,c,f⟩:=qe.append (cH:=58) (x:=⟨some w.heap.size,1,1⟩) (Src.new (T:=3) w [d] 1 rfl) (b.ext hc) (λv g=>by rw[fi.1 g];trivial) (by show(2*(s.len+1)+1000)*8<=_;omega);exact⟨a,w',h1,by simpa[dW] using e,(ab.cK hc).trans c,λk i=>(f k i).imp id (λh=>I),c⟩
section
variable {w w':J}{T ao:aM}{c:dG}
theorem dr.of{W:Nat->Prop}(h:dr w T c)(d:bM w' ao)(hc:ab W w w')(cd:∀q,T.G q->¬W q)(f:ao.aY=T.aY)(b:∀q,T.G q->ao.G q)(g:ao.C.D.bK=T.C.D.bK:=by rfl):dr w' ao c:=
 ⟨d,by rw[f];exact h.v.ad hc (cd _ h.gc),h.ma.ad hc λq a=>cd q (h.fp q a).1,h.gC.ad hc λq a=>cd q (h.kJ q a).1,b _ h.gc,λq a=>⟨b q (h.fp q a).1,(h.fp q a).2⟩,λq a=>⟨b q (h.kJ q a).1,(h.kJ q a).2⟩,λe=>h.ns λi=>g▸e i⟩
theorem dr.ext(h:dr w T c)(hx:Ext w w'):dr w' T c:=h.of (h.t.ext hx) hx (λ_ _ h=>h) rfl λ_ h=>h
theorem dr.cells(h:dr w T c):w.cell? c.cb=some (.pointer (some T.aY))/\w.cell? (Addr.add c.cb 1)=some (.slice c.ma.a c.ma.len c.ma.cap)/\w.cell? (Addr.add c.cb 2)=some (.slice c.gC.a c.gC.len c.gC.cap):=by
 rw[aw,aw];exact⟨h.v.cell,h.v.cell,h.v.cell⟩
theorem bM.r_(h:bM w T){q:Nat}(a:T.G q):¬c3 T.C q:=λhf=>(h.ca.inv.fh q (.inr (.inr (.inr a)))).2 hf
theorem bM.vZ{f:Nat->aj}(h:bM w T)(hs:eR w' T.sb T.n f T.g T.s1 T.s2)(hc:ab (fo T.sb T.s1 T.s2) w w'):bM w' (T.iO f)/\bO T (T.iO f) w w' 0:=
 ⟨⟨h.t.ad hc h.jN,hs,h.ca.ad hc λq a=>.inr (.inl a),h.jN,h.c7,h.h5,h.n,h.num,h.ep,h.bK,h.low⟩,
  ⟨rfl,rfl,rfl,rfl,rfl,rfl,rfl,rfl,rfl,rfl,bo _,λ_ h=>h,hc.mono λq _ a=>.inr (.inr (.inl a)),λq h=>.inl h,λq h=>.inl h⟩⟩
theorem GR(h:dr w T c)(no:Nat)(y:c.made.length<=100000):
 ∃ (b:U) (ah:J),Sem.run ai (Builtin.append_ #[58,58] 58 #[c.ma,.slice (some w.heap.size) 1 1]) (w.alloc (.cells #[no] 3))=.ok b ah/\
  ab (az c.ma) (w.alloc (.cells #[no] 3)) ah/\(∃u:aa,ah.cell? ⟨c.cb,1,none⟩=some u)/\ah.frozen? ⟨c.cb,1,none⟩=false/\
  ∀j,j=ah.setCell ⟨c.cb,1,none⟩ b->dr j (T.cf T.E λq=>T.G q\/az b q) {c with ma:=b,made:=c.made++ [no]}/\bO T (T.cf T.E λq=>T.G q\/az b q) w j 0:=by
 obtain⟨b,ah,au,l,d,f,p⟩:=yt no h.ma I;have cd:∀q,az c.ma q->T.G q:=λq a=>(h.fp q a).1;have z:=d.size;have m:=h.v.ad d λa=>(h.fp _ a).2.1 rfl;obtain⟨bx,bG⟩:=dF m (i:=1) (by simp);refine⟨b,ah,au,p,bx,bG,?_⟩;rintro _ rfl;have g:=dp ah c.cb 1 b;have r:=dM m (i:=1) b;have k:ab T.G w (ah.setCell ⟨c.cb,1,none⟩ b):=ct (d.mono λq _ a=>cd q a) g λq _ e=>by rw[e];exact h.gc
 have A:=k.size;have aH:∀q,az b q->q<ah.heap.size:=λq a=>a8.lt l q a;have n:∀q,az b q->T.G q\/(w.heap.size<=q/\q<(ah.setCell ⟨c.cb,1,none⟩ b).heap.size):=λq a=>by
  rcases f q a with h1|h1
  .exact .inl (cd q h1)
  .exact .inr ⟨h1,by have:=aH q a;have:=g.size;omega⟩
 have o:∀q,az b q->q≠c.cb:=λq a e=>by
  rcases f q a with h1|h1
  .exact(h.fp q h1).2.1 e
  .have:=h.v.lt;omega
 have s:∀q,az b q->¬az c.gC q:=λq a e=>by
  rcases f q a with h1|h1
  .exact(h.fp q h1).2.2 e
  .have:=a8.lt h.gC q e;omega
 have x:=h.t.grow (E:=T.E) (G:=λq=>T.G q\/az b q) k (λq a _=>.inr a) (λq a=>.inl a) (λq a=>by
  rcases a with a|a
  .exact .inr (.inl a)
  .exact .inr (n q a)) λq a hg=>by
  rcases hg with hg|hg
  .exact(h.t.c7 q a).2.2 hg
  .rcases f q hg with h1|h1
   .exact(h.t.c7 q a).2.2 (cd q h1)
   .have:=h.t.lt (q:=q) (.inr (.inr (.inr (.inl a))));omega
 refine⟨⟨x,r,?_,(h.gC.ad d λq a e=>(h.fp q e).2.2 a).ad g λq a e=>(h.kJ q a).2 e,.inl h.gc,λq a=>⟨.inr a,o q a,s q a⟩,λq a=>⟨.inl (h.kJ q a).1,(h.kJ q a).2⟩,h.ns⟩,?_⟩
 .have:a8 1 3 ah b (dW (c.made++ [no])):=l
  exact this.ad g λq a e=>o q a e
 .have h0:bO T T w w 0:=.refl _ _
  exact h0.step k (λq a _=>.inr (.inr (.inr a))) (λq a=>.inl a) λq a=>by
   rcases a with a|a
   .exact .inl a
   .exact(n q a).imp id λe=>e.1
theorem B2(h:dr w T c)(no:Nat)(y:c.left.length<=100000):
 ∃ (b:U) (ah:J),Sem.run ai (Builtin.append_ #[58,58] 58 #[c.gC,.slice (some w.heap.size) 1 1]) (w.alloc (.cells #[no] 3))=.ok b ah/\
  ab (az c.gC) (w.alloc (.cells #[no] 3)) ah/\(∃u:aa,ah.cell? ⟨c.cb,2,none⟩=some u)/\ah.frozen? ⟨c.cb,2,none⟩=false/\
  ∀j,j=ah.setCell ⟨c.cb,2,none⟩ b->dr j (T.cf T.E λq=>T.G q\/az b q) {c with gC:=b,left:=c.left++ [no]}/\bO T (T.cf T.E λq=>T.G q\/az b q) w j 0:=by
 obtain⟨b,ah,au,l,d,f,p⟩:=yt no h.gC I;have cd:∀q,az c.gC q->T.G q:=λq a=>(h.kJ q a).1;have z:=d.size;have m:=h.v.ad d λa=>(h.kJ _ a).2 rfl;obtain⟨bx,bG⟩:=dF m (i:=2) (by simp);refine⟨b,ah,au,p,bx,bG,?_⟩;rintro _ rfl;have g:=dp ah c.cb 2 b;have r:=dM m (i:=2) b;have k:ab T.G w (ah.setCell ⟨c.cb,2,none⟩ b):=ct (d.mono λq _ a=>cd q a) g λq _ e=>by rw[e];exact h.gc
 have A:=k.size;have aH:∀q,az b q->q<ah.heap.size:=λq a=>a8.lt l q a;have n:∀q,az b q->T.G q\/(w.heap.size<=q/\q<(ah.setCell ⟨c.cb,2,none⟩ b).heap.size):=λq a=>by
  rcases f q a with h1|h1
  .exact .inl (cd q h1)
  .exact .inr ⟨h1,by have:=aH q a;have:=g.size;omega⟩
 have o:∀q,az b q->q≠c.cb:=λq a e=>by
  rcases f q a with h1|h1
  .exact(h.kJ q h1).2 e
  .have:=h.v.lt;omega
 have s:∀q,az c.ma q->¬az b q:=λq e a=>by
  rcases f q a with h1|h1
  .exact(h.fp q e).2.2 h1
  .have:=a8.lt h.ma q e;omega
 have x:=h.t.grow (E:=T.E) (G:=λq=>T.G q\/az b q) k (λq a _=>.inr a) (λq a=>.inl a) (λq a=>by
  rcases a with a|a
  .exact .inr (.inl a)
  .exact .inr (n q a)) λq a hg=>by
  rcases hg with hg|hg
  .exact(h.t.c7 q a).2.2 hg
  .rcases f q hg with h1|h1
   .exact(h.t.c7 q a).2.2 (cd q h1)
   .have:=h.t.lt (q:=q) (.inr (.inr (.inr (.inl a))));omega
 refine⟨⟨x,r,(h.ma.ad d λq a e=>(h.fp q a).2.2 e).ad g λq a e=>(h.fp q a).2.1 e,?_,.inl h.gc,λq a=>⟨.inl (h.fp q a).1,(h.fp q a).2.1,s q a⟩,λq a=>⟨.inr a,o q a⟩,h.ns⟩,?_⟩
 .have:a8 1 3 ah b (dW (c.left++ [no])):=l
  exact this.ad g λq a e=>o q a e
 .have h0:bO T T w w 0:=.refl _ _
  exact h0.step k (λq a _=>.inr (.inr (.inr a))) (λq a=>.inl a) λq a=>by
   rcases a with a|a
   .exact .inl a
   .exact(n q a).imp id λe=>e.1
end
def cg(T:aM):Nat:=T.n-eS (λi=>T.f i||T.g i) T.n
theorem B3{s t:Nat->aj}:∀ {n:Nat},(∀i,i<n->s i=t i)->eS s n=eS t n
 |0,_=>rfl
 |n+1,h=>by
  unfold eS
  rw[B3 (n:=n) λi hi=>h i I,h n I]
theorem sd{s t:Nat->aj}{k:Nat}(a:s k=false)(ht:t k=true)(he:∀i,i≠k->t i=s i):∀ {n:Nat},k<n->eS t n=eS s n+1
 |0,h=>by omega
 |n+1,h=>by
  unfold eS
  by_cases e:k=n
  .subst e
   rw[B3 (s:=t) (t:=s) (n:=k) λi hi=>he i I,a,ht]
   simp
  .rw[sd a ht he (n:=n) I,he n I]
   omega
theorem B4{t:Nat->aj}:∀ {n:Nat},(∀i,i<n->t i=true)->eS t n=n
 |0,_=>rfl
 |n+1,h=>by
  unfold eS
  rw[B4 (n:=n) λi hi=>h i I,h n I]
  simp
theorem B5{T:aM}(h:1<=cg T):∃no,firstFree (λi=>T.f i||T.g i) T.n=some no:=by
 cases hf:firstFree (λi=>T.f i||T.g i) T.n with
 |some no=>exact⟨no,rfl⟩
 |none=>
  have:=B4 (Gr hf);unfold cg at h;rw[this]at h;omega
structure dt(T ao:aM)(c c':dG)(m l:O Nat)(w w':J)(k:Nat):Prop where
 to:bO T ao w w' k
 E:ao.E=T.E
 G:∀q,T.G q->ao.G q
 root:ao.root=T.root
 aG:ao.aG=T.aG
 cb:c'.cb=c.cb
 made:c'.made=c.made++m
 left:c'.left=c.left++l
 bm:m.Nodup
 jO:∀no∈m,(T.f no||T.g no)=false/\no<T.n
 f:∀no,ao.f no=(T.f no||decide (no∈m))
 eG:∀no,(T.f no||T.g no)=true->ao.P no=T.P no/\ao.C.view no=T.C.view no
 room:cg ao+m.length=cg T
theorem dt.ext{w w':J}(T:aM)(c:dG)(h:Ext w w'):dt T T c c [] [] w w' 0:=
 ⟨.ext T h,rfl,λ_ h=>h,rfl,rfl,rfl,by simp,by simp,List.nodup_nil,λ_ h=>(by cases h),λno=>by simp,λ_ _=>⟨rfl,rfl⟩,by simp⟩
theorem dt.trans{T ao o:aM}{c c' p:dG}{m r l s:O Nat}{w w' t:J}{k u:Nat}(h1:dt T ao c c' m l w w' k)(d:dt ao o c' p r s w' t u):dt T o c p (m++r) (l++s) w t (k+u):=by
 have hg:ao.g=T.g:=h1.to.g;have v:ao.n=T.n:=h1.to.n;have hf:∀no,(T.f no||T.g no)=true->(ao.f no||ao.g no)=true:=λno h=>by
  rw[h1.f,hg]
  cases i:T.f no<;>cases j:T.g no<;>simp[i,j]at h⊢
 refine⟨h1.to.trans d.to,d.E.trans h1.E,λq h=>d.G q (h1.G q h),d.root.trans h1.root,d.aG.trans h1.aG,d.cb.trans h1.cb,by rw[d.made,h1.made,cD],by rw[d.left,h1.left,cD],?_,λno h=>?_,λno=>?_,λno h=>?_,?_⟩
 .rw[o6]
  refine⟨h1.bm,d.bm,λa x b y e=>?_⟩;subst e;have:=(d.jO a y).1;rw[h1.f]at this;simp[x]at this
 .rcases cR.1 h with h|h
  .exact h1.jO no h
  .have i:=d.jO no h
   rw[h1.f,hg,v]at i;refine⟨?_,i.2⟩
   cases z:T.f no<;>cases A:T.g no<;>simp[z,A]at i⊢
 .rw[d.f,h1.f]
  simp only[cR,Bool.decide_or,Bool.or_assoc]
 .have i:=d.eG no (hf no h)
  have j:=h1.eG no h;exact⟨i.1.trans j.1,i.2.trans j.2⟩
 .have:=h1.room
  have:=d.room;rw[cx];omega
theorem dt.mono{T ao:aM}{c c':dG}{m l:O Nat}{w w':J}{k j:Nat}(h:dt T ao c c' m l w w' k)(a:k<=j):dt T ao c c' m l w w' j:=⟨h.to.mono a,h.E,h.G,h.root,h.aG,h.cb,h.made,h.left,h.bm,h.jO,h.f,h.eG,h.room⟩
def B6(T:aM)(c:dG)(n:aB)(w:J)(v:aa)(w':J):Prop:=
 ∃ (no:Nat) (ao:aM) (c':dG),dr w' ao c'/\dt T ao c c' [no] [] w w' 1/\
  ((v=.tuple #[no,(0:Int)]/\ao.P no=some n)\/(v=.tuple #[no,(3:Int)]/\¬T.C.D.calm 1))
theorem cF.eQ{n:aB}(h:cF n)(b:bI n<=400):n.keys.length<=200/\n.vals.length<=200/\n.kids.length<=201:=by
 have:=vB h;rcases h with h|h
 .have:=h.len
  have a:n.kids.length=0:=by rw[h.kids];rfl
  omega
 .have:=h.len
  have a:n.vals.length=0:=by rw[h.vals];rfl
  omega
theorem v7{B:Nat->Prop}{w:J}{T:aM}{c:dG}{n:aB}{K V D:U}(h:dr w T c)(bf:T.C.D.aN<=900000100)(W:1<=cg T)(bg:c.made.length<=1000)(aG:bz B w n K V D)(hs:cF n)(aH:bI n<=232):
 aP ai 283 #[.pointer (some c.cb),cX n K V D] w (B6 T c n w):=by
 obtain⟨no,X⟩:=B5 W;obtain⟨u,y,_⟩:=BP X;have H:=h.t.s.bp;have bi:=hs.eQ I;refine okF (af.vf (some c.cb) n.leaf K V D) ay.vf func283 ?_;(delta af.vf bc Y ag b8 ak eI st bw aA;dsimp only);refine bh (vs:=[n.leaf,K,V,D]) rfl λw1 Z ac bj=>?_;obtain⟨bU,aA,aR,aK⟩:=bC Z;refine⟨_,bU,K,aA,V,aR,D,aK,(p2 (aG.ext ac) I I I).use ?_⟩;rintro _ aI ⟨aJ,ae⟩;rcases aJ with ⟨s,rfl,aL,aO,_,_⟩|⟨e,rfl,he,aQ⟩
 rotate_left
 .have:=aQ hs;omega
 have L:=ac.trans ae;have r:=h.ext L;refine⟨s,0,rfl,λd=>(by cases d),λ_=>⟨_,rfl,_,r.cells.1,_,rfl,_,r.t.cells.2.1,(BR r.t.s).use ?_⟩⟩;rintro _ aT ⟨rfl,fR,ah⟩;rw[X]at fR⊢;obtain⟨aU,M⟩:=r.t.vZ fR ah;have aj:dr aT (T.iO (dh T.f no true)) c:=r.of aU ah (λq a hf=>(h.t.h5 q a).2 hf) rfl λ_ h=>h;refine⟨(no:Nat),0,rfl,λd=>(by cases d),λ_=>⟨_,rfl,_,aj.cells.2.1,?_⟩⟩;obtain⟨z,al,au,bl,aV,aW,aX⟩:=GR aj no I;refine aS ⟨z,al,au,_,rfl,by rw[aw];exact aV,by rw[aw];exact aW,aS ?_⟩;rw[aw];obtain⟨o,am⟩:∃o,o=al.setCell ⟨c.cb,0+1,none⟩ z:=⟨_,rfl⟩;rw[←am];obtain⟨A,O⟩:=aX o am;obtain⟨an,bn⟩:∃an,an=λq=>T.G q\/az z q:=⟨_,rfl⟩;have ap:∀q,T.N q->q<w.heap.size:=λq a=>h.t.lt (aM.gh a);have bq:=L.size;have br:=M.ad.size;have bs:=O.ad.size;have ar:ab T.N aI o:=M.ad.trans O.ad;have aY:Var o w.heap.size [n.leaf,K,V,D] 202:=(Z.ext ae).ad ar λa=>by have:=ap _ a;omega
 have aZ:a8 1 5 o s (aF (ju n)):=aL.ad ar λq a a0=>by have:=ap _ a0;have:=aO q a;omega
 have hlen:=xO hs;have H:2<=no:=by
  have e:(T.f no||T.g no)=false:=y;have F:T.g no=false:=by cases hg:T.g no<;>simp_all
  have:=h.t.low;rcases dH no 2 with Q|Q
  .rcases nJ no with av|av
   .rw[av,this.1]at F;cases F
   .rw[show no=1 from I,this.2]at F;cases F
  .exact Q
 have R:nh ⟨if n.leaf then 1 else 2,T.gen,ju n⟩:=by
  refine⟨?_,?_,h.t.num.2.2,by show(ju n).length<=232;omega⟩
  .show 1<=(if n.leaf then 1 else 2);split<;>omega
  .show(if n.leaf then 1 else 2)<=4;split<;>omega
 refine cm (λn27 a1=>n27=((if n.leaf then 1 else 2:Nat):Int)/\a1=o) (λq a=>⟨n.leaf,aY.cell,λd=>a _ _ ⟨by rw[d];rfl,rfl⟩,λd=>a _ _ ⟨by rw[d];rfl,rfl⟩⟩) ?_;rintro _ _ ⟨rfl,rfl⟩;refine⟨_,rfl,_,A.cells.1,_,rfl,_,A.t.cells.2.2.1,(vK (no:=no) (p:=⟨if n.leaf then 1 else 2,T.gen,ju n⟩) aZ.src I R).use ?_⟩;rintro _ bt ⟨s2,rfl,ax,aC,a2⟩;have l:=A.ext aC;refine⟨s2,0,rfl,λd=>(by cases d),λ_=>⟨_,rfl,_,l.cells.1,_,rfl,_,l.t.cells.1,(BI l.t.ca (by show T.C.D.aN<=999999999;omega) (no:=no) (by rw[l.t.n];exact u) H (λhs=>by have:=l.t.bK no hs;have e:(T.f no||T.g no)=false:=y;rcases this with this|this;(rw[show T.g no=true from this,Bool.or_true]at e;cases e);exact l.ns this) ax.src (rX no R) λq a=>⟨a8.lt ax q a,λhf=>?_⟩).use ?_⟩⟩
 .have:=a2 q a
  have:=A.t.lt (q:=q) (.inl hf);omega
 rintro _ a3 ⟨aE,a4,S,a5⟩;have a6:∀j,dh T.f no true j=(T.f j||decide (j∈ [no])):=λj=>by
  unfold dh;by_cases e:j=no
  .subst e;simp
  .simp[e]
 have aD:(T.f no||T.g no)=false:=y;have a7:T.n-eS (λi=>dh T.f no true i||T.g i) T.n+1=cg T:=by
  have:=sd (s:=λi=>T.f i||T.g i) (t:=λi=>dh T.f no true i||T.g i) (k:=no) y (by simp[dh]) (λi hi=>by simp[dh,hi]) u;unfold cg at W⊢;have Q:=my (λi=>T.f i||T.g i) T.n;omega
 have main:∀ (P':Nat->aq aB) (v:aa),(∀j,j≠no->P' j=T.P j)->(∀j,j≠no->aE.view j=T.C.view j)->(∀j bm,P' j=some bm->j<T.n/\gK T.gen bm.leaf j (aE.view j) bm)->
  ((v=.tuple #[no,(0:Int)]/\P' no=some n)\/(v=.tuple #[no,(3:Int)]/\¬T.C.D.calm 1))->B6 T c n w v a3:=by
  intro P' v a9 dR a_ m;obtain⟨ba,bb⟩:=l.t.qp (P:=P') a4 S a_;have bd:=l.of (ao:=((T.iO (dh T.f no true)).cf T.E λq=>T.G q\/az z q).bk aE P') ba S.ad (λq a=>l.t.r_ a) rfl (λ_ h=>h) S.bK;refine⟨no,_,_,bd,⟨?_,rfl,λq a=>.inl a,rfl,rfl,rfl,rfl,(fQ _).symm,by simp,λx hx=>?_,a6,λj b=>?_,a7⟩,m⟩
  .have:=(((bO.ext T L).trans M).trans O).trans ((bO.ext _ aC).trans bb)
   exact this.mono I
  .obtain rfl:=fi.1 hx
   exact⟨aD,u⟩
  .have:j≠no:=λe=>by rw[e,aD]at b;cases b
   exact⟨a9 j this,dR j this⟩
 rcases a5 with ⟨rfl,m⟩|⟨rfl,be,m⟩
 .refine⟨0,rfl,main (λj=>if j=no then some n else T.P j) _ (λj b=>if_neg b) (λj b=>(m j).trans (if_neg b)) (λj bm b=>?_) (.inl ⟨rfl,if_pos rfl⟩)⟩
  by_cases e:j=no
  .subst e
   rw[if_pos rfl]at b
   cases b;rw[m,if_pos rfl];exact⟨u,_,vF I R,bo _,rfl,⟨hs,rfl,aH,rfl⟩,H⟩
  .rw[if_neg e]at b
   rw[m,if_neg e];exact h.t.ep j bm b
 .refine⟨3,rfl,main T.P _ (λ_ _=>rfl) (λj _=>m j) (λj bm b=>?_) (.inr ⟨rfl,be⟩)⟩
  rw[m];exact h.t.ep j bm b
end Go.Proofs.YtkdhdlfonmgheaaGreat
