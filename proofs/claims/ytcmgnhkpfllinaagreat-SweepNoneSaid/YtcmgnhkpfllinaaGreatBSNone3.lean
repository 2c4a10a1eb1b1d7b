/- Contracts of the functions that the statement reaches, and the plain laws over them; each theorem stands with its conditions. -/
import Derived.OpenShut
import Derived.Shelf.SlIterI.Nil
import Derived.Shelf.SortM.Plain
import Derived.Shelf.SortM.SortNone
import Derived.Test.YtcmgnhkpfllinaaGreatProg
import Derived.Test.YtcmgnhkpfllinaaGreatRows
import Derived.Test.YtcmgnhkpfllinaaGreatBSNone2
namespace Go.Proofs.YtcmgnhkpfllinaaGreat
open Go aP Go.Proofs.Tryz
def aZ.eT(D:aZ)(i:Nat):O c0:=match D.waits.find? λx=>x.i==i with
 |some x=>x.hJ
 |none=> []
theorem xq(D:aZ)(h:∀x∈D.waits,x.hJ≠ [])(i:Nat):D.now i=if D.eT i=[] then D.bP.getD i [] else (D.eT i).getLastD []:=by
 unfold aZ.now aZ.eT
 cases hf:D.waits.find? λx=>x.i==i with
 |some x=>
  have hx:=ji hf;simp only;rw[if_neg (h x hx)]
 |none=>simp
def aZ.calm(D:aZ)(k:Nat):Prop:=(D.b3.getD 1 0= -1\/(k:Int)<=D.b3.getD 1 0)/\(D.b3.getD 2 0= -1\/(k:Int)<=D.b3.getD 2 0)
def aZ.jz(D:aZ):Int->Prop:=λn=>(∀j,D.bT j=true)->D.writes=n
def aZ.ro(D:aZ):Prop:=∀i,D.bT i=true
def aZ.key(D:aZ):(O c0×(Nat->al)×(Nat->O c0)×(Int->Prop)×al)×Int:=((D.bP,D.bT,D.ei,D.jz,D.r1),D.b3.getD 3 0)
theorem c5{W V:Nat->Prop}{w w' d:J}(a:af W w w')(b:af V w' d)(h:∀q,q<w.heap.size->V q->W q):af W w d:=
 ⟨b.os.trans a.os,b.tape.trans a.tape,b.output.trans a.output,eH a.size b.size,λk c cp=>(b.block k (e_ c a.size) λe=>cp (h k c e)).trans (a.block k c cp)⟩
theorem fK{D:aZ}{k l:Nat}(h:D.calm k)(a:l<=k):D.calm l:=⟨h.1.imp id λh=>I,h.2.imp id λh=>I⟩
theorem iW{D:aZ}{k m:Nat}(e:k=1\/k=2)(i:D.b3.length=4)(h:D.calm (m+1)):(D.ct k).calm m/\D.fD k=false:=by
 obtain⟨a,b⟩:=h;have f:1<D.b3.length:=by omega
 have g:2<D.b3.length:=by omega
 rcases e with rfl|rfl
 .have c:(D.ct 1).b3.getD 1 0=(ga (D.b3.getD 1 0)).2:=by
   show(D.b3.set 1 _).getD 1 0=_;rw[ff (by rw[c_];omega),g7]
  have d:(D.ct 1).b3.getD 2 0=D.b3.getD 2 0:=by
   show(D.b3.set 1 _).getD 2 0=_;rw[ff (by rw[c_];omega),e4 I,ff g]
  unfold aZ.calm aZ.fD;rw[c,d];unfold ga;rcases a with a|a
  .rw[if_pos a]
   exact⟨⟨.inl rfl,b.imp id λh=>I⟩,rfl⟩
  .rw[if_neg I,if_neg I]
   exact⟨⟨.inr (by show(m:Int)<=_-1;omega),b.imp id λh=>I⟩,rfl⟩
 .have c:(D.ct 2).b3.getD 2 0=(ga (D.b3.getD 2 0)).2:=by
   show(D.b3.set 2 _).getD 2 0=_;rw[ff (by rw[c_];omega),g7]
  have d:(D.ct 2).b3.getD 1 0=D.b3.getD 1 0:=by
   show(D.b3.set 2 _).getD 1 0=_;rw[ff (by rw[c_];omega),e4 I,ff f]
  unfold aZ.calm aZ.fD;rw[c,d];unfold ga;rcases b with b|b
  .rw[if_pos b]
   exact⟨⟨a.imp id λh=>I,.inl rfl⟩,rfl⟩
  .rw[if_neg I,if_neg I]
   exact⟨⟨a.imp id λh=>I,.inr (by show(m:Int)<=_-1;omega)⟩,rfl⟩
theorem pW(D:aZ){k:Nat}(a:k=1\/k=2):(D.ct k).key=D.key:=by
 unfold aZ.key aZ.ct;rcases a with rfl|rfl<;>simp[fv]<;>rfl
theorem AE{sz:Nat}{w:J}{s:ad}{α:Type}{c:α->O aa}{l:O α}(h:Src sz w s (bQ c l))(hc:∀x∈l,(c x).length=sz)(e:0<sz){i:Nat}(hi:i<l.length):
 s.len=l.length/\∃A,s.a=some A/\bV w (A.add (i*sz)) 0 sz=some (c l[i]):=by
 have b:s.len=l.length:=by
  have:=h.len;rw[gu l hc]at this;exact(Nat.eq_of_mul_eq_mul_right e this).symm
 refine⟨b,?_⟩
 cases d:s.a with
 |none=>
  have:=congrArg List.length (h.nil d);rw[gu l hc,kg]at this;have:l.length*sz≠0:=Nat.mul_ne_zero I I;omega
 |some A=>
  refine⟨A,rfl,?_⟩;have f:i*sz+sz<=s.len*sz:=by
   rw[b,←Nat.succ_mul];exact mZ _ hi
  rw[zo (h.rd A d) f,Az hc hi]
def pX:O aa:=ax (List.replicate 256 0)
def xr(D:aZ)(i:Nat)(w:J)(v:aa)(w':J):Prop:=v=.agg (ax (D.now i)).toArray/\Ext w w'
theorem AF{w:J}{D:aZ}(h:c1 w D){i:Nat}(hi:i<D.n)(S:D.aT<=1000000000):
 aJ aj 118 #[.pointer (some D.d),i] w (xr D i w):=by
 have T:=h.bp;have f:=h.rB hi;refine okF (ae.tD (some D.d) (i:Int)) aw.tD func118 ?_;(delta ae.tD z5 an av wy Y r1 nu;dsimp only);refine a_ (vs:=pX) (by kernel_rfl) λw1 g u _=>?_;have hd:=h.ext u;refine⟨_,rfl,some D.mr,hd.h5,?_⟩;have y:pX.length=256:=by rw[pX,da,l7]
 have fin:∀ (K:O aa->J->Prop),(∀a,Ext w a->K (ax (D.now i)) a)->bC w1 w.heap.size (Array.toList (ax (D.now i)).toArray)/\Array.size (ax (D.now i)).toArray=256/\aq (setCells w1 w.heap.size 0 (Array.toList (ax (D.now i)).toArray)) λa=>∃b:O aa,bV a w.heap.size 0 256=some b/\K b a:=by
  intro K E;refine⟨g.cd (by rw[ql,da,f,y]) (by rw[ql];exact kp _),by simp[da,f],cK g (us:=ax (D.now i)) (by rw[da,f,y]) rfl λa F G _=>⟨_,F.rd (by rw[da,f]),E a (Ext.cx u G (bk _))⟩⟩
 cases hf:D.waits.find? λx=>x.i==i with
 |some x=>
  have hx:=ji hf;have H:x.i=i:=by
   have:=kf hf;exact eq_of_beq this
  have j:=hd.m.zj pV mJ (k:=(i:Int)) (v:=x.s) (fq.2 ⟨x,hx,by unfold gQ.e;rw[H]⟩) false;have L:=(h.wn x hx).1;have hlen:0<x.hJ.length:=List.length_pos_iff.2 L;have U:=(h.wn x hx).2.2;obtain⟨z,A,ar,p⟩:=AE (hd.ws x hx).src (λs hs=>by rw[da];exact h.mK x hx s hs) (by decide) (i:=x.hJ.length-1) I;have q:D.now i=x.hJ[x.hJ.length-1]'I:=by
   unfold aZ.now;rw[hf];show x.hJ.getLastD []=_;rw[List.getLastD_eq_getLast?,List.getLast?_eq_getElem?,dr I];rfl
  refine⟨x.s,w1,j,λ_=>⟨A,ar,?_⟩,λr=>?_⟩
  .rw[z,bw (n:=(x.hJ.length:Int)-1) I I]
   have M:Int.toNat ((x.hJ.length:Int)-1)=x.hJ.length-1:=by omega
   rw[M];refine⟨⟨I,I⟩,_,p,?_⟩;rw[←q];exact fin (λb a=>xr D i w (.agg b.toArray) a) λa t=>⟨rfl,t⟩
  .have:=cG r
   omega
 |none=>
  obtain⟨V,N,P⟩:=rA AB;have j:=hd.m.zk pV mJ (k:=(i:Int)) N P (λv g=>by
   obtain⟨x,hx,he⟩:=fq.1 g;have Q:=jh.1 hf x hx;unfold gQ.e at he;simp only[Prod.mk.injEq]at he;apply Q;have:x.i=i:=by omega
   rw[this];simp) false
  have B:i<D.bP.length:=hi;have q:D.now i=D.bP[i]:=by
   unfold aZ.now;rw[hf];exact ff B
  have R:Src 256 w1 ⟨some D.lb,D.bP.length,D.bP.length⟩ (bQ ax D.bP):=by
   have C:=gu (c:=ax) (sz:=256) D.bP λs hs=>by rw[da];exact h.sl s hs
   have:=bf.qN (sz:=256) (o:=0) (n:=D.bP.length) (cap:=D.bP.length) hd.l (by simp[C]);rw[iK,ql,dT (by rw[C];exact bk _)]at this;exact this
  obtain⟨z,A,ar,p⟩:=AE R (λs hs=>by rw[da];exact h.sl s hs) (by decide) B;refine⟨⟨none,0,0⟩,w1,j,λr=>by simp at r,λ_=>⟨_,rfl,_,hd.fo,A,ar,⟨I,by show(i:Int)<(D.bP.length:Int);omega⟩,_,p,?_⟩⟩;rw[←q];exact fin (λb a=>xr D i w (.agg b.toArray) a) λa t=>⟨rfl,t⟩
def Fa(D:aZ)(i:Nat)(w:J)(v:aa)(w':J):Prop:=
 c1 w' (D.ct 1)/\af (λq=>q=D.d) w w'/\
  ((D.fD 1=true/\v=.tuple #[(),(3:Int)])\/
   (D.fD 1=false/\∃s:ad,v=.tuple #[s,(0:Int)]/\bg (λq=>w.heap.size<=q) w' s (D.now i)))
theorem Fb{w:J}{D:aZ}(h:c1 w D){i:Nat}(hi:i<D.n)(x:D.aT<=1000000000):
 aJ aj 75 #[.pointer (some D.d),i] w (Fa D i w):=by
 refine okF (ae.tq (some D.d) (i:Int)) aw.tq func75 ?_;delta ae.tq b6 an oY z5 Y;refine(AD h _).use ?_;rintro _ _ ⟨rfl,rfl⟩;refine⟨_,rfl,λa=>?_,λ_=>⟨_,rfl,(xp h (k:=1) (by decide)).use ?_⟩⟩
 .have a:¬(0<=(i:Int)/\(i:Int)<D.n):=by simpa using a
  omega
 rintro _ ai ⟨rfl,b,j,z⟩;refine⟨_,rfl,λa=>⟨b,j,.inl ⟨a,rfl⟩⟩,λa=>(AF b (i:=i) hi x).use ?_⟩;rintro _ m ⟨rfl,g⟩;have f:=h.rB hi;refine⟨_,rfl,a_ (vs:=pX) (by kernel_rfl) λB p r C=>⟨p.cd (by rw[ql,da];show(D.now i).length=_;rw[f,pX,da,l7]) (by rw[ql];exact kp _),by rw[r4,da];exact f,cK p (us:=ax (D.now i)) (by rw[da,f,pX,da,l7]) rfl λE s t F=>?_⟩⟩;have G:=g.size;have aH:D.d<ai.heap.size:=b.v.lt;refine⟨(b.ext (g.trans r)).ag t (λq u e=>by have:=b.lt u;omega),c5 (j.trans (af.c7 (g.trans r))) t λq u e=>I,.inr ⟨a,⟨some m.heap.size,256,256⟩,rfl,?_,bk _,λk y=>?_⟩⟩
 .have:=s.q_ (o:=0) (n:=256) (c:=256) (l:=D.now i) (by rw[da,f];decide) (by rw[iK,dT (by rw[da,f];decide)])
  exact this
 .obtain⟨A,ar,rfl⟩:=y
  cases ar;have:=s.lt;exact⟨by show w.heap.size<=m.heap.size;omega,this⟩
theorem AG:∀ (l:O aa) (k:Nat) (a:Array aa),(l.zipIdx k).foldl (λcs (p:aa×Nat)=>cs.setIfInBounds p.2 p.1) a=fP a k l
 | [],_,_=>rfl
 |v::l,k,a=>by
  rw[List.zipIdx_cons,List.foldl_cons]
  exact AG l (k+1) (a.setIfInBounds k v)
theorem xt{P:Program}{T e:TypeId}{d:TypeDesc}{i:TypeInfo}{z:aa}{sz:Nat}{cs:Array aa}(w:J)(f:P.underlying T=some (.slice e))(g:P.underlying e=some d)(h:P.cellsOf e=sz)(hi:P.info? e=some i)(k:i.zero=some z)(a:cs.size=sz)(r:sz≠0)(s:sz<=16777216):
 Sem.run P (Instr.buildSlice T 1 #[(0,.agg cs)]) w=.ok (.slice (some w.heap.size) 1 1) (w.alloc (.cells cs e)):=by
 have b:=gH (P:=P) (w:=w) g;rw[h]at b;have l:Instr.fill (λi=>some (i*sz,sz)) ((Array.range (1*sz)).map λx=>z.cells[x%z.cells.size]!) [(0,.agg cs)]=some cs:=by
  have hc:(Value.agg cs).cells=cs:=rfl;rw[Instr.fill];simp only[hc];rw[if_neg (by simp[a]),Instr.fill];rw[←Array.foldl_toList,Array.toList_zipIdx];have e:(λ(cs:Array aa) (x:aa×Nat)=>match x with|(c,j)=>cs.setIfInBounds (0*sz+j) c)=λcs (p:aa×Nat)=>cs.setIfInBounds p.2 p.1:=by
   funext cs x;obtain⟨c,j⟩:=x;simp
  rw[e,AG]
  congr 1
  apply Array.toList_inj.1;rw[kP _ _ _ (by simp[a])];simp[a]
 have m:=l8 (w:=w) hi;have n:¬(1*sz>2^24):=by
  have:(2:Nat)^24=16777216:=rfl;omega
 have o:¬(1*sz=0):=by omega
 have q:Instr.fill (λi=>some (i*sz,sz)) ((Array.range (1*sz)).map λx=>z.cells[x%z.cells.size]!) (#[(0,Value.agg cs)]:Array (Nat×aa)).toList=some cs:=l;simp only[Instr.buildSlice,Sem.run_bind,cP f,b,Result.andThen,n,o,if_false,zeroValue,m,k,Sem.run_pure,q];simp[newRow,newObj,Sem.run]
theorem AH(w:J)(l:c0)(a:l.length=256):
 Sem.run aj (Instr.buildSlice 124 1 #[(0,.agg (ax l).toArray)]) w=.ok (.slice (some w.heap.size) 1 1) (w.alloc (.cells (ax l).toArray 151)):=by
 have h:((Tryz.prog.info? 151).bind (·.zero)).isSome=true:=by kernel_rfl
 obtain⟨z,b⟩:=lU.1 h;obtain⟨i,hi,c⟩:=rA b;exact xt (d:=.array 256 5) (sz:=256) w (by kernel_rfl) (by kernel_rfl) (by kernel_rfl) hi c (by rw[r4,da,a]) (by decide) (by decide)
theorem Fc:hW aj 124 151 256 256:=⟨by kernel_rfl⟩
def aZ.put(D:aZ)(i:Nat)(s:ad)(l:c0):aZ:=
 {D.ct 2 with waits:=⟨i,s,D.eT i++ [l]⟩::D.waits.filter (λx=>x.i !=i),writes:=IntKind.wrap .i64 (D.writes+1),aT:=D.aT+1}
theorem AI{D:aZ}{i j:Nat}(h:j≠i):(D.waits.filter λx=>x.i !=i).find? (λx=>x.i==j)=D.waits.find? λx=>x.i==j:=by
 rw[List.find?_filter]
 congr 1
 funext x;by_cases e:x.i=j
 .rw[e];simp[h]
 .simp[e]
theorem AJ(D:aZ)(i:Nat)(s:ad)(l:c0)(j:Nat):(D.put i s l).eT j=if j=i then D.eT i++ [l] else D.eT j:=by
 unfold aZ.eT aZ.put;by_cases h:j=i
 .subst h
  simp[aZ.eT]
 .rw[if_neg h]
  simp only;rw[List.find?_cons_of_neg (by simp;omega),AI h]
theorem n2(D:aZ)(i:Nat)(s:ad)(l:c0)(j:Nat):(D.put i s l).now j=if j=i then l else D.now j:=by
 unfold aZ.now aZ.put;by_cases h:j=i
 .subst h
  simp
 .rw[if_neg h]
  simp only;rw[List.find?_cons_of_neg (by simp;omega),AI h];rfl
def AK(D:aZ)(i:Nat)(l:c0)(w:J)(v:aa)(w':J):Prop:=
 (D.fD 2=true/\v=.int .i64 3/\c1 w' (D.ct 2)/\af (λq=>q=D.d) w w')\/
 (D.fD 2=false/\v=.int .i64 0/\∃s:ad,c1 w' (D.put i s l)/\af (b9 D) w w'/\∀q,ay s q->b9 D q\/w.heap.size<=q)
theorem uV{w:J}{D:aZ}{b:ad}{l:c0}(h:c1 w D){i:Nat}(hi:i<D.n)(bk:D.aT<=1000000000)(ac:Src 1 w b (ax l))(N:l.length=256)(hd:∀q,ay b q->¬b9 D q):
 aJ aj 58 #[.pointer (some ⟨D.d,0,none⟩),.int .i64 ((i:Nat):Int),.slice b.a b.len b.cap] w (AK D i l w):=by
 have aG:=len8 ac;have bl:=h.bp;refine okF (ae.tf (some ⟨D.d,0,none⟩) ((i:Nat):Int) b) aw.tf func58 ?_;(delta ae.tf b6 an wi aD st av;dsimp only);refine(AD h _).use ?_;rintro _ _ ⟨rfl,rfl⟩;have aX:decide (0<=(i:Int)/\(i:Int)<D.n)=true:=dO ⟨I,I⟩;refine⟨_,rfl,λj=>?_,λ_=>⟨_,rfl,(xp h (k:=2) (by decide)).use ?_⟩⟩
 .rw[aX,aG,N]at j
  simp at j
 rintro _ ai ⟨rfl,L,ak,bm⟩;refine⟨_,rfl,λal=>.inl ⟨al,rfl,L,ak⟩,λal=>aY ?_⟩;obtain⟨t,hold⟩:∃t:ad,(match D.waits.find? λx=>x.i==i with|some x=>x.s|none=>⟨none,0,0⟩)=t:=⟨_,rfl⟩;have B:=L.ext (cH ai);have a0:Src 1 ai.drew b (ax l):=(ac.ag ak λq f e=>hd q f (.inl e)).ext (cH ai)
 have a4:aV 256 151 ai.drew t (bQ ax (D.eT i))/\(∀q,ay t q->b9 D q/\q≠D.d/\q≠D.lb/\q≠D.mr)/\(∀x∈D.waits,x.i≠i->∀q,ay x.s q->¬ay t q)/\(D.eT i).length<=D.aT/\(∀s∈D.eT i,s.length=256)/\
  ∀w':J,ee w' D.mr encZ (D.waits.map gQ.e)->Sem.run aj (Instr.lookup 125 (.map (some D.mr)) (.int .i64 ((i:Nat):Int)) false) w'=.ok (.slice t.a t.len t.cap) w':=by
  cases hf:D.waits.find? λx=>x.i==i with
  |some x=>
   rw[hf]at hold;have hold:x.s=t:=hold;subst hold;have hx:=ji hf;have X:x.i=i:=by
    have:=kf hf;exact eq_of_beq this
   have e:D.eT i=x.hJ:=by unfold aZ.eT;rw[hf]
   rw[e];refine⟨B.ws x hx,λq f=>⟨.inr (.inr (.inr ⟨x,hx,f⟩)),λe=>(h.a2 x hx).1 (e▸f),λe=>(h.a2 x hx).2.1 (e▸f),λe=>(h.a2 x hx).2.2 (e▸f)⟩,λy z C=>h.a3 y z x hx I,(h.wn x hx).2.2,h.mK x hx,λw' O=>O.zj pV mJ (k:=(i:Int)) (v:=.slice x.s.a x.s.len x.s.cap) (fq.2 ⟨x,hx,by unfold gQ.e;rw[X]⟩) false⟩
  |none=>
   rw[hf]at hold;have hold:(⟨none,0,0⟩:ad)=t:=hold;subst hold;have e:D.eT i=[]:=by unfold aZ.eT;rw[hf]
   rw[e];obtain⟨bn,j,P⟩:=rA AB;refine⟨aV.none _ _ _,λq f=>(fZ q f).elim,λx _ _ q _ f=>(fZ q f).elim,cO _,λs hs=>(by cases hs),λw' O=>O.zk pV mJ (k:=(i:Int)) j P (λv am=>?_) false⟩;obtain⟨x,hx,he⟩:=fq.1 am;have a5:=jh.1 hf x hx;unfold gQ.e at he;simp only[Prod.mk.injEq]at he;apply a5;have:x.i=i:=by omega
   rw[this];simp
 obtain⟨aH,E,aI,bo,aK,aL⟩:=a4;obtain⟨A,ar,a6⟩:∃A,b.a=some A/\bV ai.drew A 0 256=some (ax l):=by
  cases aM:b.a with
  |none=>
   have:=congrArg List.length (ac.nil aM);rw[da,N]at this
   cases this
  |some A=>
   refine⟨A,rfl,?_⟩;have:=a0.rd A aM;rwa[aG,N]at this
 have a8:¬ay t A.block:=λf=>hd _ ⟨A,ar,rfl⟩ (E _ f).1
 have aN:∀F:J,Ext ai.drew F->∃ (g:ad) (o:J),Sem.run aj (Builtin.append_ #[124,124] 124 #[.slice t.a t.len t.cap,.slice (some ⟨F.heap.size,0,none⟩) 1 1]) (F.alloc (.cells (ax l).toArray 151))=.ok (.slice g.a g.len g.cap) o/\
  aV 256 151 o g (bQ ax (D.eT i++ [l]))/\af (ay t) F o/\(∀k,ay g k->ay t k\/F.heap.size<=k)/\af (ay t) (F.alloc (.cells (ax l).toArray 151)) o:=by
  intro F a9;have hlen:t.len=(D.eT i).length:=by
   have:=aH.1;rw[gu (c:=ax) (sz:=256) _ λs hs=>by rw[da];exact aK s hs]at this;omega
  have ao:=dE F (.cells (ax l).toArray 151);obtain⟨g,o,H,K,G,Q,R⟩:=Fc.append (dD:=124) (x:=⟨some ⟨F.heap.size,0,none⟩,1,1⟩) (Src.new (T:=151) F (ax l) 1 (by rw[da,N])) (aH.ext (a9.trans ao)) (kp l) (by rw[hlen];show(2*(_+1)+1000)*256<=_;omega);refine⟨g,o,H,?_,(af.c7 ao).trans Q,λk a_=>(R k a_).imp id λh=>?_,Q⟩
  .rw[pT]
   have:bQ ax [l]=ax l:=by simp[bQ]
   rw[this];exact K
  .have:=ao.size;omega
 have aO:∀ (o:J) (g:ad),ee o D.mr encZ (D.waits.map gQ.e)->∃p:J,Sem.run aj (Instr.mapUpdate 125 (.map (some D.mr)) (.int .i64 ((i:Nat):Int)) (.slice g.a g.len g.cap)) o=.ok () p/\af (λq=>q=D.mr) o p/\
  ee p D.mr encZ ((gQ.mk i g (D.eT i++ [l])::D.waits.filter λx=>x.i !=i).map gQ.e):=by
  intro o g O;have ap:=O.keys;rw[ov]at ap
  cases hf:D.waits.find? λx=>x.i==i with
  |some x=>
   have hx:=ji hf;have X:x.i=i:=by
    have:=kf hf;exact eq_of_beq this
   obtain⟨a7,bj,he⟩:=List.append_of_mem hx;have C:∀y∈a7++bj,y.i≠i:=by
    intro y z e;rw[he,fG,g5]at ap;have j:=(l2.nodup_iff).1 ap;rw[List.nodup_cons]at j;apply j.1;rw[←fG];refine fq.2 ⟨y,z,?_⟩;show((y.i:Nat):Int)=((x.i:Nat):Int);omega
   have az:D.waits.filter (λx=>x.i !=i)=a7++bj:=by
    rw[he,jK,List.filter_cons_of_neg (by simp[X])];rw[jJ.2 λy z=>by have:=C y (jf _ z);simpa using this,jJ.2 λy z=>by have:=C y (g6 _ z);simpa using this]
   have ba:(D.waits.map gQ.e).Perm (((i:Int),.slice x.s.a x.s.len x.s.cap)::(a7++bj).map gQ.e):=by
    rw[he,fG,g5,fG];have:x.e=((i:Int),.slice x.s.a x.s.len x.s.cap):=by unfold gQ.e;rw[X]
    rw[this];exact l2
   obtain⟨p,H,K,_,G⟩:=E6 pV mJ (O.perm ba) (.slice g.a g.len g.cap);refine⟨p,H,K,?_⟩;rw[az];exact G
  |none=>
   have C:∀y∈D.waits,y.i≠i:=λy z e=>by
    have:=jh.1 hf y z;rw[e]at this;simp at this
   have az:D.waits.filter (λx=>x.i !=i)=D.waits:=jJ.2 λy z=>by simpa using C y z
   obtain⟨p,H,K,_,G⟩:=E5 pV mJ (k:=(i:Int)) O (λv am=>by
    obtain⟨x,hx,he⟩:=fq.1 am;unfold gQ.e at he;simp only[Prod.mk.injEq]at he;exact C x hx I) (.slice g.a g.len g.cap)
   refine⟨p,H,K,?_⟩;rw[az];exact G
 have fin:∀ (o p:J) (g:ad),af (ay t) ai.drew o->aV 256 151 o g (bQ ax (D.eT i++ [l]))->(∀k,ay g k->ay t k\/ai.drew.heap.size<=k)->af (λq=>q=D.mr) o p->ee p D.mr encZ ((gQ.mk i g (D.eT i++ [l])::D.waits.filter λx=>x.i !=i).map gQ.e)->
  ∃aP:ah,(some ⟨D.d,0,none⟩:au ah)=some aP/\∃n24:Int,p.cell? (aP.add 6)=some (.int .i64 n24)/\∃Y:ah,(some ⟨D.d,0,none⟩:au ah)=some Y/\(∃u:aa,p.cell? (Y.add 6)=some u)/\p.frozen? (Y.add 6)=false/\aq (p.setCell (Y.add 6) (.int .i64 (IntKind.wrap .i64 (n24+1)))) λbb=>AK D i l w (.int .i64 0) bb:=by
  intro o p g Z bc aA aQ bd;have be:=B.v.ag Z λf=>(E _ f).2.1 rfl;have aC:Var p D.d (D.ct 2).c 129:=be.ag aQ h.a1.2.1;have hlen:(D.ct 2).c.length=7:=L.xo;obtain⟨s1,s2⟩:=ek aC (i:=6) (by rw[hlen];decide);have aR:p.cell? (Addr.add ⟨D.d,0,none⟩ 6)=some (.int .i64 D.writes):=by
   rw[aB,cQ,aC.cell];unfold aZ.c;have:=L.f4;rw[ij (by rw[c8];omega),c8,this];rfl
  rw[aB,cQ]at aR;refine⟨_,rfl,D.writes,by rw[aB,cQ];exact aR,_,rfl,by rw[aB,cQ];exact s1,by rw[aB,cQ];exact s2,?_⟩;rw[aB,cQ];have aS:=dJ p D.d 6 (.int .i64 (IntKind.wrap .i64 (D.writes+1)));have aU:=ej aC (i:=6) (.int .i64 (IntKind.wrap .i64 (D.writes+1)));have bg:(D.ct 2).c.set 6 (.int .i64 (IntKind.wrap .i64 (D.writes+1)))=(D.put i g l).c:=by
   have bh:=L.f4;have S:(D.put i g l).c=(D.ct 2).b3.map (.int .i64)++ [.slice (some ⟨D.lb,0,none⟩) D.bP.length D.bP.length,.map (some D.mr),.int .i64 (IntKind.wrap .i64 (D.writes+1))]:=rfl;have U:(D.ct 2).c=(D.ct 2).b3.map (.int .i64)++ [.slice (some ⟨D.lb,0,none⟩) D.bP.length D.bP.length,.map (some D.mr),.int .i64 D.writes]:=rfl;rw[S,U,List.set_append_right _ _ (by rw[c8];omega),c8,bh];rfl
  rw[bg]at aU;have ab:af (λq=>q=D.mr\/q=D.d) o (p.setCell ⟨D.d,6,none⟩ (.int .i64 (IntKind.wrap .i64 (D.writes+1)))):=(aQ.mono λq _ e=>.inl e).trans (aS.mono λq _ e=>.inr e);have V:∀q,ay g q->q≠D.d/\q≠D.lb/\q≠D.mr:=λq f=>by
   have bq:=B.lt (q:=D.d) (.inl rfl);have br:=B.lt (q:=D.lb) (.inr (.inl rfl));have bs:=B.lt (q:=D.mr) (.inr (.inr (.inl rfl)));rcases aA q f with j|j
   .exact(E q j).2
   .exact⟨I,I,I⟩
  have M:∀x∈D.waits.filter (λx=>x.i !=i),x∈D.waits/\x.i≠i:=λx hx=>by
   obtain⟨j,P⟩:=gk.1 hx;exact⟨j,by simpa using P⟩
  refine aY (.inr ⟨al,rfl,g,⟨aU,?_,?_,?_,?_,h.sl,?_,h.b2,h.bp,L.f4,L.fr,h.a1,?_,?_,L.r⟩,?_,?_⟩)
  .exact bf.ag (bf.ag B.l Z λf=>(E _ f).2.2.1 rfl) ab (by
    rintro(e|e)
    .exact h.a1.2.2 e
    .exact h.a1.1 e.symm)
  .exact bd.ag aS (λe=>h.a1.2.1 e.symm)
  .intro x hx
   rcases cN.1 hx with rfl|hx
   .exact bc.ag ab λq f=>by
     rintro(e|e)
     .exact(V q f).2.2 e
     .exact(V q f).1 e
   .obtain⟨j,P⟩:=M x hx
    refine((B.ws x j).ag Z λq f=>aI x j P q f).ag ab λq f=>?_;rintro(e|e)
    .exact(h.a2 x j).2.2 (e▸f)
    .exact(h.a2 x j).1 (e▸f)
  .intro x hx
   rcases cN.1 hx with rfl|hx
   .refine⟨by simp,hi,?_⟩
    show(D.eT i++ [l]).length<=D.aT+1;rw[cn,ig];omega
   .obtain⟨j,P⟩:=M x hx
    have:=h.wn x j;exact⟨this.1,this.2.1,Nat.le_succ_of_le this.2.2⟩
  .intro x hx
   rcases cN.1 hx with rfl|hx
   .intro s hs
    rcases cD.1 hs with hs|hs
    .exact aK s hs
    .rw[fi.1 hs];exact N
   .exact h.mK x (M x hx).1
  .intro x hx
   rcases cN.1 hx with rfl|hx
   .exact⟨λf=>(V _ f).1 rfl,λf=>(V _ f).2.1 rfl,λf=>(V _ f).2.2 rfl⟩
   .exact h.a2 x (M x hx).1
  .have aW:∀y∈D.waits,y.i≠i->∀q,ay y.s q->¬ay g q:=λy z C q f W=>by
    rcases aA q W with j|j
    .exact aI y z C q f j
    .have:=(B.ws y z).lt q f;omega
   intro x hx y z C q f W;rcases cN.1 hx with rfl|hx
   .rcases cN.1 z with rfl|z
    .exact C rfl
    .exact aW y (M y z).1 (λe=>C e.symm) q W f
   .rcases cN.1 z with rfl|z
    .exact aW x (M x hx).1 C q f W
    .exact h.a3 x (M x hx).1 y (M y z).1 C q f W
  .refine((ak.mono λq _ e=>.inl e).trans ((af.c7 (cH ai)).trans (Z.mono λq _ f=>(E q f).1))).trans (ab.mono λq _ f=>?_)
   rcases f with e|e
   .exact .inr (.inr (.inl e))
   .exact .inl e
  .intro q f
   rcases aA q f with j|j
   .exact .inl (E q j).1
   .have:ai.drew.heap.size=ai.heap.size:=rfl
    exact .inr I
 refine⟨ay t,_,rfl,λf=>(E _ f).2.1 rfl,some D.mr,B.h5,_,rfl,λf=>(E _ f).2.1 rfl,some D.mr,B.h5,I,A,ar,a8,_,a6,⟨?_,?_⟩⟩
 .obtain⟨g,o,H,K,G,Q,R⟩:=aN ai.drew (.refl _ _)
  have aE:=B.m.ag G λf=>(E _ f).2.2.2 rfl;obtain⟨p,S,U,aF⟩:=aO o g aE;exact⟨t,_,aL _ B.m,.refl _ _,⟨some ⟨ai.drew.heap.size,0,none⟩,1,1⟩,_,AH _ l N,af.c7 (dE _ _),g,o,H,R,p,S,fin o p g G K Q U aF⟩
 .obtain⟨g,o,H,K,G,Q,R⟩:=aN ai.drew (.refl _ _)
  have bi:=B.m.ext (dE ai.drew (.cells (ax l).toArray 151));have aE:=B.m.ag G λf=>(E _ f).2.2.2 rfl;obtain⟨p,S,U,aF⟩:=aO o g aE;exact⟨⟨some ⟨ai.drew.heap.size,0,none⟩,1,1⟩,_,AH _ l N,af.c7 (dE _ _),t,_,aL _ bi,.refl _ _,g,o,H,R,p,S,fin o p g G K Q U aF⟩
theorem Fe{P:Program}{e:TypeId}{v:aa}{sz:Nat}(a:((P.info? e).bind (·.zero)).map (·.cells)=some (List.replicate sz v).toArray)(hc:P.cellsOf e=sz)(hs:0<sz)(n:Nat):gy P e n=(List.replicate (n*sz) v).toArray:=by
 unfold gy;rw[hc]
 cases hi:(P.info? e).bind (·.zero) with
 |none=>rw[hi]at a;cases a
 |some z=>
  rw[hi]at a;simp only[l1,Option.some.injEq]at a;simp only[Option.getD_some];apply Array.ext
  .simp
  .intro i d b
   have c:n*sz≠0:=by
    intro h;simp[h]at b
   simp only[c,if_false,a,Array.getElem_map,Array.getElem_range];have aH:i%sz<sz:=g4 _ hs;simp[aH]
theorem Ff(m n:Nat):bQ ax (List.replicate n (List.replicate m 0))=List.replicate (n*m) (.int .u8 0):=by
 induction n with
 |zero=>simp[bQ]
 |succ n a=>
  rw[List.replicate_succ,pU,a,jd,Nat.one_mul,Nat.add_comm];have e:ax (List.replicate m 0)=List.replicate m (Value.int .u8 0):=by simp[ax]
  rw[e,List.replicate_append_replicate]
def gR:c0:=List.replicate 256 0
theorem Fg(n:Nat):gy aj 151 n=(bQ ax (List.replicate n gR)).toArray:=by
 unfold gR;rw[Ff];exact Fe (by kernel_rfl) (by kernel_rfl) (by decide) n
def pY(n d lb mr:Nat):aZ:=⟨d,lb,mr,[-1, -1, -1, -1],List.replicate n gR,[],0,0,λ_=>false,λ_=> [],true⟩
theorem Fh{w:J}{b:Nat}{vs:O aa}{T:TypeId}(h:Var w b vs T)(g:4<=vs.length):
 aJ aj 52 #[.pointer (some b)] w (λv w'=>v=.tuple #[]/\Var w' b (List.replicate 4 (.int .i64 (-1))++vs.drop 4) T/\af (λq=>q=b) w w'/\w'.heap.size=w.heap.size):=by
 refine okF (ae.tc (some b)) aw.tc func52 ?_;(delta ae.tc an st av;dsimp only);refine⟨λi w'=>∃j:Nat,i=j/\j<=4/\Var w' b (List.replicate j (.int .i64 (-1))++vs.drop j) T/\af (λq=>q=b) w w'/\w'.heap.size=w.heap.size,λi _=>((4:Int)-i).toNat,⟨0,rfl,I,h,.refl _ _,rfl⟩,?_⟩;rintro _ w1 ⟨j,rfl,k,c,hc,f⟩;refine⟨λaH=>?_,λd=>?_⟩
 .have aH:j<4:=by have:=ck aH;omega
  have a:Addr.add b (Int.toNat (j:Int)*1)=⟨b,j,none⟩:=by rw[dm,fj,aB,cQ]
  obtain⟨s1,s2⟩:=ek c (i:=j) (by simp;omega);rw[bw (n:=(j:Int)+1) I I];refine⟨_,rfl,⟨I,by show(j:Int)<4;omega⟩,by rw[a];exact s1,by rw[a];exact s2,aY ⟨⟨j+1,I,I,?_,?_,?_⟩,?_⟩⟩
  .have:=ej c (i:=j) (.int .i64 (-1))
   rw[a];have e:(List.replicate j (Value.int .i64 (-1))++vs.drop j).set j (.int .i64 (-1))=List.replicate (j+1) (.int .i64 (-1))++vs.drop (j+1):=by
    rw[List.set_append_right _ _ (by simp),l7,mX,k7 (show j<vs.length from I),List.set_cons_zero,List.replicate_succ',cy];rfl
   rwa[e]at this
  .rw[a];exact hc.trans (dJ _ _ _ _)
  .rw[a];simpa[World.setCell] using f
  .show((4:Int)-((j:Int)+1)).toNat<((4:Int)-(j:Int)).toNat
   omega
 .have d:j=4:=by have:=cG d;omega
  subst d;exact⟨rfl,c,hc,f⟩
theorem o8{n:Nat}(l:16<=n)(m:n<=1600)(w:J):
 aJ aj 20 #[n] w (λv w'=>∃d lb mr:Nat,v=.tuple #[.pointer (some d),(0:Int)]/\c1 w' (pY n d lb mr)/\Ext w w'/\∀q,b9 (pY n d lb mr) q->w.heap.size<=q):=by
 refine okF (ae.o8 (n:Int)) aw.o8 func20 ?_;delta ae.o8 an jS Y gm;refine⟨λh=>?_,λ_=>⟨⟨I,I,I,I⟩,?_⟩⟩
 .simp only[ie,cu]at h;omega
 rw[Fg,dm];have g:=bf.new w (bQ ax (List.replicate n gR)).toArray 151;have i:=dE w (.cells (bQ ax (List.replicate n gR)).toArray 151);have o:=rp w (.cells (bQ ax (List.replicate n gR)).toArray 151);obtain⟨w1,p⟩:∃w1,w1=w.alloc (.cells (bQ ax (List.replicate n gR)).toArray 151):=⟨_,rfl⟩;rw[←p]at g i o⊢;obtain⟨j,k⟩:=ee.make (P:=aj) (enc:=encZ) 125 w1;have a:=dE w1 (.map #[] 0);have r:=rp w1 (.map #[] 0);obtain⟨ai,t⟩:∃ai,ai=w1.alloc (.map #[] 0):=⟨_,rfl⟩;rw[←t]at j k a r;refine aY ⟨some w1.heap.size,ai,j,#[(0:Int),(0:Int),(0:Int),(0:Int),.slice (some w.heap.size) n n,.map (some w1.heap.size),(0:Int)],by kernel_rfl,a_ (vs:=[(0:Int),(0:Int),(0:Int),(0:Int),.slice (some w.heap.size) n n,.map (some w1.heap.size),(0:Int)]) rfl λz u b A=>⟨_,rfl,(Fh u (by show 4<=7;decide)).use ?_⟩⟩;rintro _ B ⟨rfl,y,f,C⟩;refine⟨rfl,ai.heap.size,w.heap.size,w1.heap.size,rfl,⟨?_,?_,?_,λx hx=>(by cases hx),λx hx=>(by cases hx),λs hs=>?_,λx hx=>(by cases hx),?_,?_,rfl,λx hx=>?_,?_,λx hx=>(by cases hx),λx hx=>(by cases hx),λ_=>rfl⟩,Ext.cx (i.trans (a.trans b)) f I,?_⟩
 .have e:(pY n ai.heap.size w.heap.size w1.heap.size).c=List.replicate 4 (.int .i64 (-1))++ [Value.int .i64 0,(0:Int),(0:Int),(0:Int),.slice (some w.heap.size) n n,.map (some w1.heap.size),(0:Int)].drop 4:=by
   unfold aZ.c pY;simp
  rw[e];exact y
 .exact bf.ag ((g.ext a).ext b) f (by show¬w.heap.size=ai.heap.size;omega)
 .exact(k.ext b).ag f I
 .rw[vn hs,gR,l7]
 .show 16<=(List.replicate n gR).length;simpa using l
 .show(List.replicate n gR).length<=1600;simpa using m
 .have:x= -1:=by
   simp[pY]at hx;exact hx
  subst this;exact⟨by decide,by decide⟩
 .exact⟨by show ai.heap.size≠w.heap.size;omega,by show ai.heap.size≠w1.heap.size;omega,by show w.heap.size≠w1.heap.size;omega⟩
 .rintro q (rfl|rfl|rfl|⟨x,hx,_⟩)
  .show w.heap.size<=ai.heap.size;omega
  .exact bk _
  .show w.heap.size<=w1.heap.size;omega
  .cases hx
structure ew where
 root:Nat
 aG:Nat
 map:Nat
 clock:Nat
 db:Nat
 keys:Nat
 deriving DecidableEq
def AL:ew:=⟨0,0,0,0,0,0⟩
def ew.c(u:ew):O aa:=[u.root,u.aG,u.map,.int .u64 (u.clock:Nat),.int .u64 (u.db:Nat),u.keys]
structure mL(u:ew):Prop where
 root:u.root<4294967296
 aG:u.aG<256
 map:u.map<4294967296
 clock:u.clock<18446744073709551616
 db:u.db<18446744073709551616
 keys:u.keys<4294967296
def gv(u:ew)(n:Nat):O UInt8:=[]++bJ u.root 4++bJ u.aG 1++bJ u.map 4++bJ n 4++bJ u.clock 8++bJ u.db 8++bJ u.keys 4
def pZ(b:O UInt8):ew:=⟨di b 0 4,di b 4 1,di b 5 4,di b 13 8,di b 21 8,di b 29 4⟩
def mM(u:ew)(n:Nat):Prop:=(u.root=0↔u.aG=0)/\u.aG<=12/\u.root<n/\u.map<n/\2<=u.map/\n<=1600
instance H9(u:ew)(n:Nat):Decidable (mM u n):=by unfold mM;infer_instance
def rC(no:Int)(l:O UInt8):Except Int (ew×Nat×Nat):=match eY no l with
 | .error e=>.error e
 | .ok p=>if p.kind≠3\/p.body.length≠33 then .error 4 else if mM (pZ p.body) (di p.body 9 4) then .ok (pZ p.body,di p.body 9 4,p.gen) else .error 4
theorem AM(u:ew)(n:Nat):(gv u n).length=33:=by simp[gv,du]
theorem Fi{u:ew}{n:Nat}(h:mL u)(c:n<4294967296):pZ (gv u n)=u/\di (gv u n) 9 4=n:=by
 have e:∀ {k x m:Nat} (a b:O UInt8),gv u n=a++(bJ x k++b)->a.length=m->x<256^k->di (gv u n) m k=x:=λa b he d hx=>by rw[he];exact rn d hx
 have f:=h.keys;refine⟨?_,e (bJ u.root 4++bJ u.aG 1++bJ u.map 4) (bJ u.clock 8++(bJ u.db 8++bJ u.keys 4)) (by simp[gv]) (by simp[du]) c⟩;unfold pZ;rw[e (m:=0) [] (bJ u.aG 1++(bJ u.map 4++(bJ n 4++(bJ u.clock 8++(bJ u.db 8++bJ u.keys 4))))) (by simp[gv]) rfl h.root,
  e (bJ u.root 4) (bJ u.map 4++(bJ n 4++(bJ u.clock 8++(bJ u.db 8++bJ u.keys 4)))) (by simp[gv]) (by simp[du]) h.aG,
  e (bJ u.root 4++bJ u.aG 1) (bJ n 4++(bJ u.clock 8++(bJ u.db 8++bJ u.keys 4))) (by simp[gv]) (by simp[du]) h.map,
  e (bJ u.root 4++bJ u.aG 1++bJ u.map 4++bJ n 4) (bJ u.db 8++bJ u.keys 4) (by simp[gv]) (by simp[du]) h.clock,
  e (bJ u.root 4++bJ u.aG 1++bJ u.map 4++bJ n 4++bJ u.clock 8) (bJ u.keys 4) (by simp[gv]) (by simp[du]) h.db,
  e (bJ u.root 4++bJ u.aG 1++bJ u.map 4++bJ n 4++bJ u.clock 8++bJ u.db 8) [] (by simp[gv]) (by simp[du]) f]
def iX(u:ew)(n gen:Nat):iz:=⟨3,gen,gv u n⟩
theorem xu{u:ew}{n gen:Nat}(hg:gen<18446744073709551616):mF (iX u n gen):=⟨(by decide:1<=3),(by decide:3<=4),hg,by show(gv u n).length<=232;rw[AM];decide⟩
theorem AN{u:ew}{n gen no:Nat}(h:mL u)(hu:mM u n)(hg:gen<18446744073709551616)(a:no<1600):rC no (ef no (iX u n gen))=.ok (u,n,gen):=by
 unfold rC;rw[uE a (xu hg)];have b:n<4294967296:=by have:=hu.2.2.2.2.2;omega
 obtain⟨c,d⟩:=Fi h b;show(if (3:Nat)≠3\/(gv u n).length≠33 then _ else if mM (pZ (gv u n)) (di (gv u n) 9 4) then Except.ok (pZ (gv u n),di (gv u n) 9 4,gen) else _)=_;rw[c,d,if_neg (by rw[AM];simp),if_pos hu]
section
variable {w w':J}{h:Nat}{vs:O aa}{u:ew}
theorem ew.plain(u:ew):∀v∈u.c,Plain v:=by
 intro v a;simp only[ew.c,cN,e3,fb]at a;rcases a with rfl|rfl|rfl|rfl|rfl|rfl<;>trivial
theorem p0(a:Var w h u.c 90){K:Int->Int->Int->Int->Int->Int->Prop}(d:K (u.root:Nat) (u.aG:Nat) (u.map:Nat) (u.clock:Nat) (u.db:Nat) (u.keys:Nat)):
 ∃b2:Int,w.cell? h=some (.int .i64 b2)/\∃bp:Int,w.cell? (Addr.add h 1)=some (.int .i64 bp)/\∃b:Int,w.cell? (Addr.add h 2)=some (.int .i64 b)/\
  ∃cg:Int,w.cell? (Addr.add h 3)=some (.int .u64 cg)/\∃n5:Int,w.cell? (Addr.add h 4)=some (.int .u64 n5)/\∃n6:Int,w.cell? (Addr.add h 5)=some (.int .i64 n6)/\K b2 bp b cg n5 n6:=
 ⟨_,a.cell,_,by rw[aB];exact a.cell,_,by rw[aB];exact a.cell,_,by rw[aB];exact a.cell,_,by rw[aB];exact a.cell,_,by rw[aB];exact a.cell,d⟩
theorem AO(a:Var w h vs 90)(b:vs.length=6)(u:ew){K:J->Prop}(d:∀ai,Var ai h u.c 90->af (λq=>q=h) w ai->ai.heap.size=w.heap.size->K ai):
 bC w h [u.root,u.aG,u.map,.int .u64 (u.clock:Nat),.int .u64 (u.db:Nat),u.keys]/\(6:Nat)=6/\
  aq (setCells w h 0 [u.root,u.aG,u.map,.int .u64 (u.clock:Nat),.int .u64 (u.db:Nat),u.keys]) K:=
 ⟨a.cd (by rw[b];rfl) u.plain,rfl,cK a (us:=u.c) (by rw[b];rfl) rfl λai e hc f=>d ai e hc f⟩
end
theorem ph{w:J}{u:ew}(h:mL u){n:Nat}(y:n<4294967296):aJ aj 119 #[.agg u.c.toArray,n] w (λv w'=>∃s:ad,v=s/\aV 1 5 w' s (ax (gv u n))/\Ext w w'/\gi w s):=by
 have z:=h.root;have W:=h.aG;have A:=h.map;have X:=h.clock;have Z:=h.db;have B:=h.keys;have a:∀ {x:Nat},x<4294967296->IntKind.wrap .u64 (x:Int)=(x:Int):=λ{x} hx=>gz I I;refine okF (ae.ph (u.root:Nat) (u.aG:Nat) (u.map:Nat) (u.clock:Nat) (u.db:Nat) (u.keys:Nat) (n:Nat)) aw.ph func119 ?_;(delta ae.ph aD Y bG cl;dsimp only);refine a_ (vs:=u.c) rfl λw1 b C aa=>⟨_,b.cell,?_⟩;rw[a z];refine(gn (s:=⟨none,0,0⟩) (l:=[]) (aV.none 1 5 w1).src (cO _) (n:=u.root) I (by decide)).use ?_;rintro _ ai ⟨s2,rfl,D,d,ab⟩;have e:=b.ext d;refine⟨s2,rfl,_,by rw[aB];exact e.cell,?_⟩;rw[a (x:=u.aG) I];refine(gn D.src (by simp[du]) (n:=u.aG) I (by decide)).use ?_;rintro _ ac ⟨E,rfl,F,f,af⟩;have g:=e.ext f;refine⟨E,rfl,_,by rw[aB];exact g.cell,?_⟩;rw[a A];refine(gn F.src (by simp[du]) (n:=u.map) I (by decide)).use ?_;rintro _ ag ⟨G,rfl,H,i,ah⟩;have K:=g.ext i;refine⟨G,rfl,?_⟩;rw[a y];refine(gn H.src (by simp[du]) (n:=n) I (by decide)).use ?_;rintro _ ak ⟨L,rfl,M,j,al⟩;have k:=K.ext j;refine⟨L,rfl,_,by rw[aB];exact k.cell,?_⟩;refine(gn M.src (by simp[du]) (n:=u.clock) I (by decide)).use ?_;rintro _ am ⟨N,rfl,O,m,an⟩;have o:=k.ext m;refine⟨N,rfl,_,by rw[aB];exact o.cell,?_⟩;refine(gn O.src (by simp[du]) (n:=u.db) I (by decide)).use ?_;rintro _ ao ⟨P,rfl,Q,p,ap⟩;have R:=o.ext p;refine⟨P,rfl,_,by rw[aB];exact R.cell,?_⟩;rw[a B];refine(gn Q.src (by simp[du]) (n:=u.keys) I (by decide)).use ?_;rintro _ aq ⟨r,rfl,S,T,U⟩;have t:=Ext.trans (Ext.trans (Ext.trans (Ext.trans (Ext.trans (Ext.trans C d) f) i) j) m) p;refine⟨r,rfl,r,rfl,S,Ext.trans t T,λq V=>?_⟩;have:=U q V;have:=t.size;omega
variable {w w':J}
theorem Src.cut{sz:Nat}{s:ad}{vs:O aa}{lo hi:Nat}(h:Src sz w s vs)(hc:s.len<=s.cap)(d:lo<=hi)(f:hi<=s.len):
 Src sz w ⟨aU s.a sz lo s.cap,hi-lo,s.cap-lo⟩ ((vs.drop (lo*sz)).take ((hi-lo)*sz)):=by
 have i:=h.len;have j:hi*sz<=s.len*sz:=mZ _ f;have k:lo*sz+(hi-lo)*sz=hi*sz:=by rw[←jd,Nat.add_sub_cancel' d]
 refine⟨by simp;omega,λc=>?_,λa b=>?_⟩
 .have g:s.a=none:=by
   unfold aU at c;split at c
   .exact c
   .simpa using c
  simp[h.nil g]
 .show bV w a 0 ((hi-lo)*sz)=_
  by_cases e:hi=lo
  .rw[show hi-lo=0 from I];simp[bV]
  .have ar:∃A,s.a=some A/\a=A.add (lo*sz):=by
    unfold aU at b;rw[if_neg I]at b
    cases hs:s.a with
    |none=>rw[hs]at b;cases b
    |some A=>rw[hs]at b;exact⟨A,rfl,by simpa using b.symm⟩
   obtain⟨A,ar,rfl⟩:=ar;exact zo (h.rd A ar) I
theorem Fj{s:ad}{sz n:Nat}{q:Nat}:ay ⟨aU s.a sz 0 s.cap,n-0,s.cap-0⟩ q↔ay s q:=by
 rw[v8];exact Iff.rfl
section
variable {P:Program}{dP e dD:TypeId}{sz bytes:Nat}
end
end Go.Proofs.YtcmgnhkpfllinaaGreat
namespace Go.Proofs.YtcmgnhkpfllinaaGreat
open Go Go.Proofs Go.Shelf
def Fk:Go.Shelf.Ren:=⟨λ |5=>140|8=>197|7=>196|19=>246|20=>247|10=>237|11=>238|12=>239|13=>240|14=>241|15=>242|16=>243|17=>244|18=>245|30=>267|31=>268|32=>269|33=>270|34=>271|35=>272|40=>278|n=>n,λ |23=>72|25=>3|3=>3|32=>30|22=>72|0=>0|44=>211|46=>23|4=>4|36=>330|35=>329|41=>224|5=>5|9=>9|53=>351|57=>355|63=>359|64=>226|n=>n,λ |n=>n⟩
theorem AP:Go.Proofs.SlLaysM.n5 Tryz.prog Fk:={
 mixed:=by kernel_rfl
 f5:=⟨Tryz.f140.name,by decide,Tryz.func140.trans (congrArg some (by kernel_rfl))⟩
 f7:=⟨Tryz.f196.name,by decide,Tryz.func196.trans (congrArg some (by kernel_rfl))⟩
 f8:=Tryz.func197.trans (congrArg some (by kernel_rfl))
 f10:=⟨Tryz.f237.name,by decide,Tryz.func237.trans (congrArg some (by kernel_rfl))⟩
 f11:=⟨Tryz.f238.name,by decide,Tryz.func238.trans (congrArg some (by kernel_rfl))⟩
 f12:=⟨Tryz.f239.name,by decide,Tryz.func239.trans (congrArg some (by kernel_rfl))⟩
 f13:=⟨Tryz.f240.name,by decide,Tryz.func240.trans (congrArg some (by kernel_rfl))⟩
 f14:=⟨Tryz.f241.name,by decide,Tryz.func241.trans (congrArg some (by kernel_rfl))⟩
 f15:=⟨Tryz.f242.name,by decide,Tryz.func242.trans (congrArg some (by kernel_rfl))⟩
 f16:=⟨Tryz.f243.name,by decide,Tryz.func243.trans (congrArg some (by kernel_rfl))⟩
 f17:=⟨Tryz.f244.name,by decide,Tryz.func244.trans (congrArg some (by kernel_rfl))⟩
 f18:=⟨Tryz.f245.name,by decide,Tryz.func245.trans (congrArg some (by kernel_rfl))⟩
 f19:=Tryz.func246.trans (congrArg some (by kernel_rfl))
 f20:=Tryz.func247.trans (congrArg some (by kernel_rfl))
 f30:=⟨Tryz.f267.name,by decide,Tryz.func267.trans (congrArg some (by kernel_rfl))⟩
 f31:=Tryz.func268.trans (congrArg some (by kernel_rfl))
 f32:=Tryz.func269.trans (congrArg some (by kernel_rfl))
 f33:=⟨Tryz.f270.name,by decide,Tryz.func270.trans (congrArg some (by kernel_rfl))⟩
 f34:=⟨Tryz.f271.name,by decide,Tryz.func271.trans (congrArg some (by kernel_rfl))⟩
 f35:=⟨Tryz.f272.name,by decide,Tryz.func272.trans (congrArg some (by kernel_rfl))⟩
 f40:=⟨Tryz.f278.name,by decide,Tryz.func278.trans (congrArg some (by kernel_rfl))⟩
 t0:=Tryz.underlying0
 a0:=Tryz.isAgg0
 z0:=Tryz.sizeOf0
 v0:=Tryz.zeroValue0
 t3:=Tryz.underlying3
 a3:=Tryz.isAgg3
 z3:=Tryz.sizeOf3
 v3:=Tryz.zeroValue3
 t4:=Tryz.underlying4
 a4:=Tryz.isAgg4
 z4:=Tryz.sizeOf4
 v4:=Tryz.zeroValue4
 t5:=Tryz.underlying5
 a5:=Tryz.isAgg5
 z5:=Tryz.sizeOf5
 v5:=Tryz.zeroValue5
 t9:=Tryz.underlying9
 a9:=Tryz.isAgg9
 z9:=Tryz.sizeOf9
 v9:=Tryz.zeroValue9
 t22:=Tryz.underlying72
 a22:=Tryz.isAgg72
 z22:=Tryz.sizeOf72
 v22:=Tryz.zeroValue72
 t23:=Tryz.underlying72
 a23:=Tryz.isAgg72
 z23:=Tryz.sizeOf72
 v23:=Tryz.zeroValue72
 t25:=Tryz.underlying3
 a25:=Tryz.isAgg3
 z25:=Tryz.sizeOf3
 v25:=Tryz.zeroValue3
 t32:=Tryz.underlying30
 a32:=Tryz.isAgg30
 z32:=Tryz.sizeOf30
 v32:=Tryz.zeroValue30
 t35:=Tryz.underlying329
 a35:=Tryz.isAgg329
 z35:=Tryz.sizeOf329
 v35:=Tryz.zeroValue329
 t36:=Tryz.underlying330
 a36:=Tryz.isAgg330
 z36:=Tryz.sizeOf330
 v36:=Tryz.zeroValue330
 t41:=Tryz.underlying224
 a41:=Tryz.isAgg224
 z41:=Tryz.sizeOf224
 v41:=Tryz.zeroValue224
 t44:=Tryz.underlying211
 a44:=Tryz.isAgg211
 z44:=Tryz.sizeOf211
 v44:=Tryz.zeroValue211
 t46:=Tryz.underlying23
 a46:=Tryz.isAgg23
 z46:=Tryz.sizeOf23
 v46:=Tryz.zeroValue23
 t53:=Tryz.underlying351
 a53:=Tryz.isAgg351
 z53:=Tryz.sizeOf351
 v53:=Tryz.zeroValue351
 t57:=Tryz.underlying355
 a57:=Tryz.isAgg355
 z57:=Tryz.sizeOf355
 v57:=Tryz.zeroValue355
 t63:=Tryz.underlying359
 a63:=Tryz.isAgg359
 z63:=Tryz.sizeOf359
 v63:=Tryz.zeroValue359
 t64:=Tryz.underlying226
 a64:=Tryz.isAgg226
 z64:=Tryz.sizeOf226
 v64:=Tryz.zeroValue226}
end Go.Proofs.YtcmgnhkpfllinaaGreat
namespace Go.Proofs.YtcmgnhkpfllinaaGreat
open Go aP Go.Proofs.Tryz
theorem Fl{w:J}{b n:Nat}{c:Array aa}{T:TypeId}{os:Array Obj}{zs:O Int}(h:bf w b c T)(g:zs.length<=c.size):
 ∃c':Array aa,bf (Go.Sort.grow (Go.Sort.putRow (Value.int .i64) (Go.Sort.ahead w n) b 0 zs.toArray) os) b c' T/\c'.size=c.size/\c'.toList.take zs.length=zs.map encZ/\af (λq=>q=b) w (Go.Sort.grow (Go.Sort.putRow (Value.int .i64) (Go.Sort.ahead w n) b 0 zs.toArray) os):=by
 have aH:=h.lt;have d:∀k,k<w.heap.size->(Go.Sort.grow (Go.Sort.putRow (Value.int .i64) (Go.Sort.ahead w n) b 0 zs.toArray) os).heap[k]? =(w.heap.modify b (Go.Sort.onCells (Go.Sort.putCells (Value.int .i64) 0 zs.toArray)))[k]? :=λk a=>by
  show((w.heap.modify b _)++os)[k]? =_;rw[Array.getElem?_append_left (by simpa using a)]
 refine⟨Go.Sort.putCells (Value.int .i64) 0 zs.toArray c,?_,by simp[Go.Sort.putCells],?_,rfl,rfl,rfl,?_,λk a f=>?_⟩
 .unfold bf at h⊢
  rw[d b aH,rQ,if_pos rfl,h];rfl
 .apply List.ext_getElem?
  intro i;rw[rU];split
  .rename_i hi
   rw[Array.getElem?_toList,Go.Sort.putCells,Array.getElem?_mapIdx,Array.getElem?_eq_getElem I,l1,if_pos ⟨cO _,by simpa using hi⟩,m5,dr hi];simp[hi]
  .rename_i hi
   rw[m7 (by simpa using hi)]
 .show w.heap.size<=((w.heap.modify b _)++os).size
  simp
 .rw[d k a,rQ,if_neg (λe=>f e.symm)]
theorem Fm{w:J}{s:ad}{zs:O Int}(h:aV 1 3 w s (zs.map encZ))(K:zs.length<=1000000):
 aJ aj 140 #[s] w (λv w'=>v=.tuple #[]/\af (ay s) w w'/\∃ys:O Int,aV 1 3 w' s (ys.map encZ)/\ys.Perm zs/\ys.Pairwise λa b=>a<=b):=by
 have L:s.len=zs.length:=by have:=h.1;rw[c8]at this;omega
 rcases m8 zs.length with h0|h0
 .have hd:zs=[]:=k8.1 h0
  have e:s.len=0:=by omega
  rw[e];refine Calls.mono (AnyM.slices_Sort_int_none AP s.a s.cap w) ?_;rintro _ _ ⟨rfl,rfl⟩;exact⟨_,rfl,rfl,.refl _ _,[],by rw[hd]at h;exact h,by rw[hd],List.Pairwise.nil⟩
 obtain⟨z,k,A,B⟩:=h;rcases B with ⟨_,f⟩|⟨b,c,g,d,C,D⟩
 .omega
 have E:Go.Sort.Holds (Value.int .i64) w b 0 zs.toArray:=λj F=>by
  have m:j<zs.length:=by simpa using F
  refine⟨?_,bf.frozen d _ rfl⟩;rw[d.cell,cQ];have e:=congrArg (λl=>l[j]?) D;simp only[rU,m5,dr m,l1]at e;rw[if_pos I,Array.getElem?_toList]at e;rw[e];simp[m]
 have G:=AnyM.slices_Sort_int AP b 0 s.cap zs w E d.lt I;rw[g];have e:s.len=zs.length:=by omega
 rw[e];refine Calls.mono G ?_;rintro _ w' ⟨rfl,n,os,rfl⟩;obtain⟨c',o,p,r,t⟩:=Fl (n:=n) (os:=os) (zs:=zs.mergeSort λx y=>decide (x<=y)) d (by rw[List.length_mergeSort];omega);have i:=List.mergeSort_perm zs λx y=>decide (x<=y);have u:(zs.mergeSort λx y=>decide (x<=y)).Pairwise λa b=>decide (a<=b)=true:=List.pairwise_mergeSort (λa b c z k=>by simp only[cu]at*;omega) (λa b=>by simp only[ie,cu];omega) zs;generalize (zs.mergeSort λx y=>decide (x<=y))=ys at o p r t i u;refine⟨_,rfl,rfl,t.mono λq _ e=>⟨b,g,e.symm⟩,ys,?_,i,u.imp λh=>ck h⟩;have H:=i.length_eq;have f:=aV.mk' (sz:=1) (n:=s.len) (cap:=s.cap) o (vs:=ys.map encZ) (by rw[c8];omega) k A (by rw[p];exact C) (by rw[fj,e,←H];exact r);rw[←g]at f;exact f
def ky(a cv bS b c d e f:al):Nat:=
 a.toNat+2*cv.toNat+4*bS.toNat+8*b.toNat+16*c.toNat+32*d.toNat+64*e.toNat+128*f.toNat
def byteOf(f:Nat->al)(i:Nat):Nat:=ky (f (8*i)) (f (8*i+1)) (f (8*i+2)) (f (8*i+3)) (f (8*i+4)) (f (8*i+5)) (f (8*i+6)) (f (8*i+7))
theorem Fo:∀a cv bS b c d e f:al,ky a cv bS b c d e f<256:=by decide+kernel
theorem Fp:∀a cv bS b c d e f:al,
 (ky a cv bS b c d e f).testBit 0=a/\(ky a cv bS b c d e f).testBit 1=cv/\(ky a cv bS b c d e f).testBit 2=bS/\(ky a cv bS b c d e f).testBit 3=b/\
 (ky a cv bS b c d e f).testBit 4=c/\(ky a cv bS b c d e f).testBit 5=d/\(ky a cv bS b c d e f).testBit 6=e/\(ky a cv bS b c d e f).testBit 7=f:=by decide+kernel
theorem jZ(f:Nat->al)(i:Nat):byteOf f i<256:=Fo _ _ _ _ _ _ _ _
theorem n3(f:Nat->al)(i j:Nat)(a:j<8):(byteOf f i).testBit j=f (8*i+j):=by
 obtain⟨h0,b,c,d,e,g,h,k⟩:=Fp (f (8*i)) (f (8*i+1)) (f (8*i+2)) (f (8*i+3)) (f (8*i+4)) (f (8*i+5)) (f (8*i+6)) (f (8*i+7));have:j=0\/j=1\/j=2\/j=3\/j=4\/j=5\/j=6\/j=7:=by omega
 unfold byteOf;rcases this with rfl|rfl|rfl|rfl|rfl|rfl|rfl|rfl<;>assumption
theorem Fq{x y:Nat}(hx:x<256)(b:y<256)(h:∀j,j<8->x.testBit j=y.testBit j):x=y:=by
 apply Nat.eq_of_testBit_eq;intro j;by_cases a:j<8
 .exact h j a
 .have p:256<=2^j:=by
   have:=rX (n:=2) I (by omega:8<=j);simpa using this
  rw[Nat.testBit_lt_two_pow I,Nat.testBit_lt_two_pow I]
theorem xv(f:Nat->al)(i x:Nat)(hx:x<256)(h:∀j,j<8->x.testBit j=f (8*i+j)):x=byteOf f i:=
 Fq hx (jZ f i) λj a=>by rw[h j a,n3 f i j a]
def c9(f:Nat->al)(k:Nat)(b:al):Nat->al:=λi=>if i=k then b else f i
theorem Fs:∀x:Nat,x<256->∀j:Nat,j<8->(ik .u8 (Int.fdiv (x:Int) (2^(min (Int.toNat (j:Int)) 8))) 1==1)=x.testBit j:=by decide+kernel
theorem Ft:∀x:Nat,x<256->∀j:Nat,j<8->l_ .u8 (x:Int) (IntKind.wrap .u8 (1*2^(min (Int.toNat (j:Int)) 8)))=((x|||2^j:Nat):Int):=by decide+kernel
theorem Fu:∀x:Nat,x<256->∀j:Nat,j<8->yq .u8 (x:Int) (IntKind.wrap .u8 (1*2^(min (Int.toNat (j:Int)) 8)))=((x&&&(255-2^j):Nat):Int):=by decide+kernel
theorem xw:∀x:Nat,x<256->∀y:Nat,y<256->x|||y<256:=λ_ hx _ a=>Nat.or_lt_two_pow (n:=8) hx a
theorem Fv:∀j:Nat,j<8->∀k:Nat,k<8->(255-2^j).testBit k=(k !=j):=by decide+kernel
theorem Fw(x y:Nat)(hx:x<256)(a:y<256):l_ .u8 (x:Int) (y:Int)=((x|||y:Nat):Int):=by
 have h:=xw x hx y a;have e:(BitVec.ofInt 8 (x:Int)|||BitVec.ofInt 8 (y:Int)).toNat=x|||y:=by
  simp only[BitVec.ofInt_natCast,BitVec.toNat_or,BitVec.toNat_ofNat];rw[je (by simpa using hx),je (by simpa using a)]
 show IntKind.wrap .u8 (((BitVec.ofInt 8 (x:Int)|||BitVec.ofInt 8 (y:Int)).toNat:Nat):Int)=_;rw[e];have:((x|||y:Nat):Int)%256=((x|||y:Nat):Int):=Int.emod_eq_of_lt I I;simp[IntKind.wrap,IntKind.signed,IntKind.bits,this]
theorem Fx(k:Nat):8*(k/8)+k%8=k:=Nat.div_add_mod k 8
theorem Fy(f:Nat->al)(k:Nat):byteOf f (k/8)|||2^(k%8)=byteOf (c9 f k true) (k/8):=by
 refine xv _ _ _ (xw _ (jZ _ _) _ ?_) λj b=>?_
 .have:k%8<8:=g4 _ I
  have:=Nat.pow_lt_pow_right (a:=2) I this;simpa using this
 .rw[lX,n3 _ _ _ b,qb,c9]
  by_cases h:8*(k/8)+j=k
  .rw[if_pos h]
   have:k%8=j:=by omega
   simp[this]
  .rw[if_neg h]
   have:¬k%8=j:=by omega
   simp[this]
theorem Fz(f:Nat->al)(k:Nat):byteOf f (k/8)&&&(255-2^(k%8))=byteOf (c9 f k false) (k/8):=by
 refine xv _ _ _ (Nat.lt_of_le_of_lt Nat.and_le_left (jZ _ _)) λj a=>?_;rw[Nat.testBit_and,n3 _ _ _ a,Fv _ (g4 _ I) _ a,c9];by_cases h:8*(k/8)+j=k
 .rw[if_pos h]
  have:j=k%8:=by omega
  simp[this]
 .rw[if_neg h]
  have:¬j=k%8:=by omega
  simp[this]
theorem FA(f:Nat->al)(k i:Nat)(b:al)(h:i≠k/8):byteOf (c9 f k b) i=byteOf f i:=by
 have e:∀j,j<8->c9 f k b (8*i+j)=f (8*i+j):=λj a=>by
  unfold c9;rw[if_neg];omega
 unfold byteOf;rw[e 1 I,e 2 I,e 3 I,e 4 I,e 5 I,e 6 I,e 7 I];have:=e 0 I;simp only[lV]at this;rw[this]
def eM(f:Nat->al)(m:Nat):O aa:=(List.range m).map λi=>.int .u8 (byteOf f i)
theorem xx(f:Nat->al)(m:Nat):(eM f m).length=m:=by simp[eM]
theorem n4(f:Nat->al){m i:Nat}(h:i<m):(eM f m)[i]? =some (.int .u8 (byteOf f i)):=by simp[eM,h]
theorem AQ(f:Nat->al)(k m:Nat)(b:al):(eM f m).set (k/8) (.int .u8 (byteOf (c9 f k b) (k/8)))=eM (c9 f k b) m:=by
 apply List.ext_getElem?;intro i;rw[List.getElem?_set];by_cases hi:i<m
 .rw[n4 (c9 f k b) hi]
  by_cases h:k/8=i
  .subst h
   simp[xx,hi]
  .rw[if_neg h,n4 _ hi,FA f k i b I]
 .have a:(eM (c9 f k b) m)[i]? =none:=by simp[eM];omega
  have c:(eM f m)[i]? =none:=by simp[eM];omega
  rw[a,c];split
  .simp[xx];omega
  .rfl
theorem AR(k:Nat):Int.tdiv (k:Int) 8=((k/8:Nat):Int):=by
 rw[Int.tdiv_eq_ediv_of_nonneg I];omega
theorem xy(k:Nat):Int.tmod (k:Int) 8=((k%8:Nat):Int):=by
 rw[r5 I];omega
theorem xz{k:Nat}(h:k<=9223372036854775807):IntKind.wrap .i64 (Int.tdiv (k:Int) 8)=((k/8:Nat):Int):=by
 rw[AR,bw I I]
theorem AS{s:ad}{b:Nat}(h:s.a=some ⟨b,0,none⟩):ay s b:=⟨_,h,rfl⟩
theorem rD{w:J}{s:ad}{f:Nat->al}{m k:Nat}(h:aV 1 5 w s (eM f m))(a:k/8<m)(d:k<=9223372036854775807):
 aJ aj 198 #[s,k] w (λv w'=>v=.bool (f k)/\w=w'):=by
 refine okF (ae.tR s k) aw.tR func198 ?_;(delta ae.tR aN av dN;dsimp only);obtain⟨b,c,e,g,i,hi,j,hc,_⟩:=h.cell (n4 f a);refine⟨by decide,_,e,?_⟩;rw[xz d,xy];refine⟨⟨I,I⟩,(byteOf f (k/8):Int),?_,by decide,I,?_,rfl⟩
 .rw[fj,dm,aB,cQ];exact hc
 .rw[Fs _ (jZ _ _) _ (g4 _ I),n3 _ _ _ (g4 _ I),Fx]
theorem AT{w:J}{s:ad}{f:Nat->al}{m k:Nat}(h:aV 1 5 w s (eM f m))(e:k/8<m)(g:k<=9223372036854775807):
 aJ aj 111 #[s,k] w (λv w'=>v=.tuple #[]/\aV 1 5 w' s (eM (c9 f k true) m)/\af (ay s) w w'):=by
 refine okF (ae.tz s k) aw.tz func111 ?_;(delta ae.tz aq aN av dN st;dsimp only);obtain⟨b,c,d,i,l,hi,n,hc,_⟩:=h.cell (n4 f e);have a:(Addr.mk b 0 none).add (Int.toNat ((k/8:Nat):Int)*1)=⟨b,k/8,none⟩:=by rw[fj,dm,aB,cQ]
 rw[xz g,xy];refine⟨by decide,_,d,⟨I,I⟩,by simp,(byteOf f (k/8):Int),by rw[a];exact hc,by decide,I,_,d,⟨I,I⟩,⟨_,by rw[a];exact hc⟩,by rw[a];exact i.drew.frozen _ rfl,rfl,?_,?_⟩
 .rw[a,Ft _ (jZ _ _) _ (g4 _ I),Fy,←AQ]
  have j:aV 1 5 w.drew s (eM f m):=h.ag (W:=λ_=>False) (af.drew (.refl _ _)) (λ_ _ h=>h);exact j.set d _
 .rw[a]
  exact af.set (af.drew (.refl _ _)) (λ_=>AS d) _
theorem FB{w:J}{s:ad}{f:Nat->al}{m k:Nat}(h:aV 1 5 w s (eM f m))(e:k/8<m)(g:k<=9223372036854775807):
 aJ aj 203 #[s,k] w (λv w'=>v=.tuple #[]/\aV 1 5 w' s (eM (c9 f k false) m)/\af (ay s) w w'):=by
 refine okF (ae.tS s k) aw.tS func203 ?_;(delta ae.tS aq aN av dN st;dsimp only);obtain⟨b,c,d,i,l,hi,n,hc,_⟩:=h.cell (n4 f e);have a:(Addr.mk b 0 none).add (Int.toNat ((k/8:Nat):Int)*1)=⟨b,k/8,none⟩:=by rw[fj,dm,aB,cQ]
 rw[xz g,xy];refine⟨by decide,_,d,⟨I,I⟩,by simp,(byteOf f (k/8):Int),by rw[a];exact hc,by decide,I,_,d,⟨I,I⟩,⟨_,by rw[a];exact hc⟩,by rw[a];exact i.drew.frozen _ rfl,rfl,?_,?_⟩
 .rw[a,Fu _ (jZ _ _) _ (g4 _ I),Fz,←AQ]
  have j:aV 1 5 w.drew s (eM f m):=h.ag (W:=λ_=>False) (af.drew (.refl _ _)) (λ_ _ h=>h);exact j.set d _
 .rw[a]
  exact af.set (af.drew (.refl _ _)) (λ_=>AS d) _
structure e1(w:J)(b n:Nat)(f g:Nat->al)(s1 s2:ad):Prop where
 bY:bf w b #[n,s1,s2] 209
 now:aV 1 5 w s1 (eM f ((n+7)/8))
 sure:aV 1 5 w s2 (eM g ((n+7)/8))
 d1:∀k,ay s1 k->k≠b/\¬ay s2 k
 d2:∀k,ay s2 k->k≠b
 b2:1<=n
 bp:n<=1600
 pf:∀i,n<=i->f i=false
 dd:∀i,n<=i->g i=false
def gb(b:Nat)(s1 s2:ad)(k:Nat):Prop:=k=b\/ay s1 k\/ay s2 k
section
variable {w w':J}{b n:Nat}{f g:Nat->al}{s1 s2:ad}
theorem e1.ag{W:Nat->Prop}(h:e1 w b n f g s1 s2)(hc:af W w w')(a:∀k,gb b s1 s2 k->¬W k):e1 w' b n f g s1 s2:=
 ⟨h.bY.ag hc (a b (.inl rfl)),h.now.ag hc λk c=>a k (.inr (.inl c)),h.sure.ag hc λk c=>a k (.inr (.inr c)),h.d1,h.d2,h.b2,h.bp,h.pf,h.dd⟩
theorem e1.ext(h:e1 w b n f g s1 s2)(hc:Ext w w'):e1 w' b n f g s1 s2:=h.ag hc λ_ _ h=>h
theorem e1.lt(h:e1 w b n f g s1 s2):∀k,gb b s1 s2 k->k<w.heap.size:=by
 rintro k (rfl|a|a)
 .exact h.bY.lt
 .exact h.now.lt k a
 .exact h.sure.lt k a
theorem e1.bH(h:e1 w b n f g s1 s2):w.cell? b=some (.int .i64 n):=by rw[h.bY.cell];rfl
theorem e1.aQ(h:e1 w b n f g s1 s2):w.cell? ((Addr.mk b 0 none).add 1)=some (.slice s1.a s1.len s1.cap):=by rw[aB,h.bY.cell];rfl
theorem e1.a6(h:e1 w b n f g s1 s2):w.cell? ((Addr.mk b 0 none).add 2)=some (.slice s2.a s2.len s2.cap):=by rw[aB,h.bY.cell];rfl
theorem FC(h:e1 w b n f g s1 s2){k:Nat}(a:k<n):
 aJ aj 201 #[.pointer (some b),k] w (λv w'=>v=.bool (f k||g k)/\w=w'):=by
 have c:=h.bp;refine ae.Dz _ k w _ ?_;(delta ae.q4 r1 b6 an;dsimp only);refine⟨_,rfl,s1,h.aQ,(rD h.now (k:=k) I I).use ?_⟩;rintro _ _ ⟨rfl,rfl⟩;refine⟨_,rfl,⟨λhf=>⟨by rw[hf];rfl,rfl⟩,λhf=>⟨_,rfl,s2,h.a6,(rD h.sure (k:=k) I I).use ?_⟩⟩⟩;rintro _ _ ⟨rfl,rfl⟩;exact⟨_,rfl,by rw[hf];rfl,rfl⟩
theorem AU(h:e1 w b n f g s1 s2)(k:Int):
 aJ aj 202 #[.pointer (some b),k] w (λv w'=>v=.bool (decide (0<=k)&&decide (k<n))/\w=w'):=by
 refine ae.DA _ k w _ ?_;(delta ae.q5 an aD;dsimp only);refine⟨?_⟩;refine⟨λa=>⟨_,rfl,n,h.bH,?_,rfl⟩,λa=>⟨?_,rfl⟩⟩
 .have:0<=k:=by simpa using a
  simp[this]
 .have:¬0<=k:=by simpa using a
  simp[this]
def firstFree(t:Nat->al)(n:Nat):au Nat:=(List.range n).find? λi=> !t i
theorem FD{t:Nat->al}{n k:Nat}(e:k<n)(ht:t k=false)(c:∀i,i<k->t i=true):firstFree t n=some k:=by
 unfold firstFree;rw[List.find?_eq_some_iff_append];refine⟨by simp[ht],List.range k,(List.range' (k+1) (n-(k+1))),?_,λa d=>?_⟩
 .have b:=List.range'_append (s:=0) (m:=k) (n:=n-(k+1)+1) (step:=1)
  rw[rS,rS,←List.range'_succ];rw[Nat.one_mul,cQ]at b;rw[b]
  congr 1
  omega
 .simp[c a (jG.1 d)]
theorem FE{t:Nat->al}{n:Nat}(b:∀i,i<n->t i=true):firstFree t n=none:=by
 unfold firstFree;rw[jh];intro a c;simp[b a (jG.1 c)]
theorem AV{t:Nat->al}{n k:Nat}(h:firstFree t n=some k):k<n/\t k=false/\∀i,i<k->t i=true:=by
 unfold firstFree at h;obtain⟨d,la,lb,a,e⟩:=List.find?_eq_some_iff_append.1 h;have f:k<n:=jG.1 (by rw[a];simp);refine⟨f,by simpa using d,λi hi=>?_⟩;have hlen:la.length=k:=by
  have b:(List.range n)[la.length]? =some k:=by rw[a];simp
  rw[List.getElem?_range (by
   have:=congrArg List.length a;simp at this;omega)]at b
  simpa using b
 have c:(List.range n)[i]? =some i:=List.getElem?_range I;rw[a,List.getElem?_append_left I]at c;have:=e i (List.mem_of_getElem? c);simpa using this
theorem FF{t:Nat->al}{n:Nat}(h:firstFree t n=none):∀i,i<n->t i=true:=by
 unfold firstFree at h;rw[jh]at h;intro i hi;have:=h i (jG.2 hi);simpa using this
def FG(o:au Nat):aa:=
 match o with
 |some k=>.tuple #[.int .i64 (k:Int),(0:Int)]
 |none=>.tuple #[.int .i64 (-1),(2:Int)]
def FH(o:au Nat)(f:Nat->al):Nat->al:=
 match o with
 |some k=>c9 f k true
 |none=>f
theorem AW{f:Nat->al}{n k:Nat}{x:al}(h:∀i,n<=i->f i=false)(a:k<n):∀i,n<=i->c9 f k x i=false:=λi hi=>by
 unfold c9
 rw[if_neg I]
 exact h i hi
theorem AX(h:e1 w b n f g s1 s2):
 aJ aj 144 #[.pointer (some b)] w (λv w'=>v=FG (firstFree (λi=>f i||g i) n)/\e1 w' b n (FH (firstFree (λi=>f i||g i) n) f) g s1 s2/\af (gb b s1 s2) w w'):=by
 have s:=h.bp;refine ae.Dr _ w _ ?_;(delta ae.q0 an aD b6 r1 gm av;dsimp only);refine⟨λa=>by simp at a,λ_=>⟨_,rfl,n,h.bH,λi w'=>∃k:Nat,i=k/\k<=n/\w=w'/\∀j,j<k->(f j||g j)=true,λi _=>(n-i).toNat,⟨0,rfl,I,rfl,λj m=>I⟩,?_⟩⟩;rintro _ _ ⟨k,rfl,c,rfl,e⟩;refine⟨λaH=>(FC h (k:=k) (by simpa using aH)).use ?_,λo=>?_⟩
 .have d:k<n:=by simpa using aH
  rintro _ _ ⟨rfl,rfl⟩;refine⟨_,rfl,λht=>⟨_,rfl,s1,h.aQ,(AT h.now (k:=k) I I).use ?_⟩,λht=>?_⟩
  .rintro _ w' ⟨rfl,p,hc⟩
   have l:(f k||g k)=false:=by simpa using ht
   have q:=FD (t:=λi=>f i||g i) d l e;rw[q];refine⟨rfl,rfl,⟨h.bY.ag hc λr=>(h.d1 b r).1 rfl,p,h.sure.ag hc λk c a=>(h.d1 k a).2 c,h.d1,h.d2,h.b2,h.bp,AW h.pf d,h.dd⟩,hc.mono λk _ c=>.inr (.inl c)⟩
  .have l:(f k||g k)=true:=by cases hx:(f k||g k)<;>simp[hx]at ht⊢
   rw[bw I I];refine⟨⟨k+1,I,I,rfl,λj m=>?_⟩,(show((n:Int)-((k:Int)+1)).toNat<((n:Int)-(k:Int)).toNat from I)⟩;rcases ec j k with a|a
   .exact e j a
   .have:j=k:=by omega
    subst this;exact l
 .have d:k=n:=by
   have:¬(k:Int)<n:=by simpa using o
   omega
  subst d;rw[FE e];exact⟨rfl,h,.refl _ _⟩
def uW(f:Nat->al)(n:Nat)(k:Int):Int:=if 0<=k/\k<n then (if f k.toNat then 0 else 6) else 1
def mN(f:Nat->al)(n:Nat)(k:Int):Nat->al:=if 0<=k/\k<n then c9 f k.toNat false else f
theorem FI{f:Nat->al}{k:Nat}{x:al}(h:f k=x):c9 f k x=f:=by
 funext i;unfold c9;split
 .rename_i hi;rw[hi,h]
 .rfl
theorem AY(h:e1 w b n f g s1 s2)(k:Int):
 aJ aj 145 #[.pointer (some b),k] w (λv w'=>v=.int .i64 (uW f n k)/\e1 w' b n (mN f n k) g s1 s2/\af (gb b s1 s2) w w'):=by
 have p:=h.bp;refine ae.Ds _ k w _ ?_;(delta ae.q1 b6 an r1 gm;dsimp only);refine(AU h k).use ?_;rintro _ _ ⟨rfl,rfl⟩;refine⟨_,rfl,λa=>?_,λa=>?_⟩
 .have:¬(0<=k/\k<n):=by
   rintro⟨c,i⟩;simp[c,i]at a
  exact⟨by rw[uW,if_neg this],by rw[mN,if_neg this];exact h,.refl _ _⟩
 .have d:0<=k/\k<n:=by simpa using a
  obtain⟨m,rfl⟩:=vo d.1;have j:m<n:=by omega
  refine⟨_,rfl,s1,h.aQ,(rD h.now (k:=m) I I).use ?_⟩;rintro _ _ ⟨rfl,rfl⟩;refine⟨_,rfl,λc=>?_,λc=>⟨_,rfl,s1,h.aQ,(FB h.now (k:=m) I I).use ?_⟩⟩
  .have hf:f m=false:=by simpa using c
   refine⟨by rw[uW,if_pos d,dm,hf];rfl,?_,.refl _ _⟩;rw[mN,if_pos d,dm,FI hf];exact h
  .rintro _ w' ⟨rfl,l,hc⟩
   have hf:f m=true:=by simpa using c
   refine⟨rfl,by rw[uW,if_pos d,dm,hf];rfl,?_,hc.mono λk _ e=>.inr (.inl e)⟩;rw[mN,if_pos d,dm];exact⟨h.bY.ag hc λo=>(h.d1 b o).1 rfl,l,h.sure.ag hc λk e a=>(h.d1 k a).2 e,h.d1,h.d2,h.b2,h.bp,AW h.pf j,h.dd⟩
theorem FJ(h:e1 w b n f g s1 s2)(k:Int):
 aJ aj 229 #[.pointer (some b),k] w (λv w'=>v=.bool (decide (0<=k)&&decide (k<n)&&f k.toNat&& !(g k.toNat))/\w=w'):=by
 have e:=h.bp;refine ae.DF _ k w _ ?_;(delta ae.q6 b6 an r1;dsimp only);refine(AU h k).use ?_;rintro _ _ ⟨rfl,rfl⟩;refine⟨_,rfl,⟨λa=>?_,λa=>⟨(λh=>by cases h),λ_=>⟨by rw[a];rfl,rfl⟩⟩⟩⟩;have d:0<=k/\k<n:=by simpa using a
 obtain⟨m,rfl⟩:=vo d.1;refine⟨_,rfl,s1,h.aQ,(rD h.now (k:=m) I I).use ?_⟩;rintro _ _ ⟨rfl,rfl⟩;refine⟨_,rfl,λc=>⟨_,rfl,s2,h.a6,(rD h.sure (k:=m) I I).use ?_⟩,λc=>⟨by rw[a,dm,c];rfl,rfl⟩⟩;rintro _ _ ⟨rfl,rfl⟩;exact⟨_,rfl,by rw[a,dm,c];rfl,rfl⟩
end
theorem FK:hW aj 206 5 1 1:=⟨by kernel_rfl⟩
theorem FL:hW aj 39 5 1 1:=⟨by kernel_rfl⟩
theorem FM(n:Nat):gy aj 5 n=(List.replicate n (.int .u8 0)).toArray:=y9 (by kernel_rfl) (by kernel_rfl) n
theorem AZ(f:Nat->al)(m:Nat):∀v∈eM f m,Plain v:=by
 intro v a;obtain⟨i,_,rfl⟩:=fq.1 a;trivial
theorem FN{w:J}{s:ad}{xs:O aa}(h:Src 1 w s xs)(d:∀v∈xs,Plain v)(l:s.len<=1000000):
 aJ aj 173 #[s] w (λv w'=>∃b:ad,v=b/\aV 1 5 w' b xs/\Ext w w'/\∀k,ay b k->w.heap.size<=k):=by
 refine okF (ae.sU s) aw.sU func173 ?_;delta ae.sU aq an Y;refine⟨λc=>?_,λ_=>?_⟩
 .have c:s.a=none:=by simpa using c
  rw[h.nil c];exact⟨⟨none,0,0⟩,rfl,aV.none _ _ _,.refl _ _,λk e=>(fZ k e).elim⟩
 .obtain⟨b,w',f,g,m,i,j,_⟩:=FK.clone (dD:=206) h d I
  exact⟨b,w',f,b,rfl,g,i,j⟩
theorem FO{w:J}{s:ad}{xs:O aa}(h:Src 1 w s xs)(d:∀v∈xs,Plain v)(l:s.len<=1000000):
 aJ aj 46 #[s] w (λv w'=>∃b:ad,v=b/\aV 1 5 w' b xs/\Ext w w'/\∀k,ay b k->w.heap.size<=k):=by
 refine okF (ae.nx s) aw.nx func46 ?_;delta ae.nx aq an Y;refine⟨λc=>?_,λ_=>?_⟩
 .have c:s.a=none:=by simpa using c
  rw[h.nil c];exact⟨⟨none,0,0⟩,rfl,aV.none _ _ _,.refl _ _,λk e=>(fZ k e).elim⟩
 .obtain⟨b,w',f,g,m,i,j,_⟩:=FL.clone (dD:=39) h d I
  exact⟨b,w',f,b,rfl,g,i,j⟩
section
variable {w w':J}{b n:Nat}{f g:Nat->al}{s1 s2:ad}
theorem uX{T:TypeId}{m:Nat}(h:aV 1 T w s1 (eM f m)):s1.len=m:=by
 have:=h.1;rw[xx]at this;omega
theorem A0{m:Nat}{u:aa}(c:bf w b #[n,s1,u] 209)(d:aV 1 5 w s1 (eM f m))(hd:∀k,ay s1 k->k≠b)(i:m<=1000000):
 aJ aj 112 #[.pointer (some b)] w (λv w'=>v=.tuple #[]/\∃a:ad,bf w' b #[n,s1,a] 209/\
  aV 1 5 w' s1 (eM f m)/\aV 1 5 w' a (eM f m)/\af (λk=>k=b) w w'/\∀k,ay a k->w.heap.size<=k):=by
 refine ae.Dm _ w _ ?_;(delta ae.qX aq an r1 bG st;dsimp only);refine⟨λ_=>⟨_,rfl,s1,by rw[aB,c.cell];rfl,(FN d.src (AZ f m) (by rw[uX d];exact i)).use ?_⟩,λh=>by simp at h⟩;rintro _ ai ⟨a,rfl,j,hx,hf⟩;have g:=c.ext hx;have l:∀k,ay a k->k≠b:=λk o e=>by have:=hf k o;have:=c.lt;omega
 refine⟨a,rfl,_,rfl,⟨_,by rw[aB,g.cell];rfl⟩,g.frozen _ rfl,rfl,a,?_,?_,?_,?_,hf⟩
 .rw[aB];exact g.set 2 _
 .exact(d.ext hx).ag (W:=λk=>k=b) (af.set (.refl _ _) (λ_=>by rw[aB]) _) hd
 .exact j.ag (W:=λk=>k=b) (af.set (.refl _ _) (λ_=>by rw[aB]) _) l
 .exact(af.c7 hx).set (λ_=>by rw[aB]) _
theorem FP(h:e1 w b n f g s1 s2):
 aJ aj 112 #[.pointer (some b)] w (λv w'=>v=.tuple #[]/\∃c:ad,e1 w' b n f f s1 c/\af (gb b s1 s2) w w'/\∀k,gb b s1 c k->gb b s1 s2 k\/w.heap.size<=k):=by
 have p:=h.bp;refine(A0 h.bY h.now (λk a=>(h.d1 k a).1) I).mono ?_;rintro _ w' ⟨rfl,c,i,j,l,m,d⟩;refine⟨rfl,c,⟨i,j,l,λk a=>⟨(h.d1 k a).1,λo=>?_⟩,λk a e=>?_,h.b2,h.bp,h.pf,h.pf⟩,m.mono λk _ a=>.inl a,λk a=>?_⟩
 .have:=d k o;have:=h.now.lt k a;omega
 .have:=d k a;have:=h.bY.lt;omega
 .rcases a with rfl|a|a
  .exact .inl (.inl rfl)
  .exact .inl (.inr (.inl a))
  .exact .inr (d k a)
def p1(x:Nat):Nat:=(x.testBit 0).toNat+(x.testBit 1).toNat+(x.testBit 2).toNat+(x.testBit 3).toNat+(x.testBit 4).toNat+(x.testBit 5).toNat+(x.testBit 6).toNat+(x.testBit 7).toNat
def ey(t:Nat->al):Nat->Nat
 |0=>0
 |k+1=>ey t k+(t k).toNat
theorem mO(t:Nat->al):∀k,ey t k<=k
 |0=>bk _
 |k+1=>by have:=mO t k;have:=Bool.toNat_le (t k);simp only[ey];omega
theorem FQ(t:Nat->al)(i:Nat):ey t (8*(i+1))=ey t (8*i)+p1 (byteOf t i):=by
 have h:∀j,j<8->(byteOf t i).testBit j=t (8*i+j):=λj a=>n3 t i j a;unfold p1;rw[h 0 I,h 1 I,h 2 I,h 3 I,h 4 I,h 5 I,h 6 I,h 7 I];show ey t (8*i+7+1)=_;simp only[ey,lV];omega
theorem A1(t:Nat->al)(n:Nat)(h:∀i,n<=i->t i=false):∀k,ey t (n+k)=ey t n
 |0=>rfl
 |k+1=>by
  have:=A1 t n h k
  show ey t (n+k)+(t (n+k)).toNat=_
  rw[this,h (n+k) I]
  rfl
theorem FR:∀x:Nat,x<256->(vy (ByteArray.mk #[0,1,1,2,1,2,2,3,1,2,2,3,2,3,3,4,1,2,2,3,2,3,3,4,2,3,3,4,3,4,4,5,1,2,2,3,2,3,3,4,2,3,3,4,3,4,4,5,2,3,3,4,3,4,4,5,3,4,4,5,4,5,5,6,1,2,2,3,2,3,3,4,2,3,3,4,3,4,4,5,2,3,3,4,3,4,4,5,3,4,4,5,4,5,5,6,2,3,3,4,3,4,4,5,3,4,4,5,4,5,5,6,3,4,4,5,4,5,5,6,4,5,5,6,5,6,6,7,1,2,2,3,2,3,3,4,2,3,3,4,3,4,4,5,2,3,3,4,3,4,4,5,3,4,4,5,4,5,5,6,2,3,3,4,3,4,4,5,3,4,4,5,4,5,5,6,3,4,4,5,4,5,5,6,4,5,5,6,5,6,6,7,2,3,3,4,3,4,4,5,3,4,4,5,4,5,5,6,3,4,4,5,4,5,5,6,4,5,5,6,5,6,6,7,3,4,4,5,4,5,5,6,4,5,5,6,5,6,6,7,4,5,5,6,5,6,6,7,5,6,6,7,6,7,7,8]) x).map (·.toNat)=some (p1 x):=by decide+kernel
theorem A2(x:Nat):p1 x<=8:=by
 unfold p1;have h:∀b:al,b.toNat<=1:=Bool.toNat_le;have:=h (x.testBit 0);have:=h (x.testBit 1);have:=h (x.testBit 2);have:=h (x.testBit 3);have:=h (x.testBit 4);have:=h (x.testBit 5);have:=h (x.testBit 6);have:=h (x.testBit 7);omega
theorem FT(w:J)(x:Nat)(hx:x<256):aJ aj 181 #[.int .u8 x] w (λv w'=>v=.int .i64 (p1 x)/\w=w'):=by
 refine okF (ae.sV x) aw.sV func181 ?_;delta ae.sV av;have h:=FR x hx;refine⟨I,?_⟩
 cases a:vy _ x with
 |none=>rw[a]at h;cases h
 |some y=>
  rw[a]at h;simp only[l1,Option.some.injEq]at h;refine⟨y,a,?_,rfl⟩;rw[h,bw I (by have:=A2 x;omega)]
theorem FU(f g:Nat->al)(i:Nat):byteOf f i|||byteOf g i=byteOf (λk=>f k||g k) i:=
 xv _ _ _ (xw _ (jZ _ _) _ (jZ _ _)) λj a=>by rw[lX,n3 _ _ _ a,n3 _ _ _ a]
theorem xA(h:e1 w b n f g s1 s2):
 aJ aj 129 #[.pointer (some b)] w (λv w'=>v=.int .i64 ((n:Int)-ey (λi=>f i||g i) n)/\Ext w w'):=by
 have q:=h.bp;have s:=uX h.now;have t:=uX h.sure;refine ae.Dn _ w _ ?_;(delta ae.qY aq an aD r1 aN dN bW av;dsimp only);refine⟨λa=>by simp at a,λ_=>⟨_,rfl,n,h.bH,_,rfl,s1,h.aQ,λr i w'=>∃k:Nat,i=k/\k<=s1.len/\Ext w w'/\r=(n:Int)-ey (λi=>f i||g i) (8*k),λ_ i _=>((s1.len:Int)-i).toNat,⟨0,rfl,I,.refl _ _,by simp[ey]⟩,?_⟩⟩;rintro _ _ w1 ⟨k,rfl,u,hx,rfl⟩;refine⟨λaH=>?_,λd=>?_⟩
 .have j:k<s1.len:=by simpa using aH
  have a:=h.ext hx.drew;obtain⟨cv,aQ,l,x,_,_,_,m,_⟩:=a.now.cell (n4 f (i:=k) I);obtain⟨bS,a6,o,y,_,_,_,p,_⟩:=a.sure.cell (n4 g (i:=k) I);have c:∀b:Nat,(Addr.mk b 0 none).add (Int.toNat (k:Int)*1)=⟨b,k,none⟩:=λb=>by rw[fj,dm,aB,cQ]
  refine⟨λ_=>False,_,rfl,by simp,s1,a.aQ,_,l,I,by simp,_,by rw[c];exact m,_,rfl,by simp,s2,a.a6,_,o,I,by simp,_,by rw[c];exact p,?_⟩;rw[Fw _ _ (jZ _ _) (jZ _ _),FU];refine(FT _ _ (jZ _ _)).use ?_;rintro _ _ ⟨rfl,rfl⟩;have:=A2 (byteOf (λi=>f i||g i) k);have:=mO (λi=>f i||g i) (8*k);refine⟨_,rfl,.refl _ _,?_⟩;rw[bw (n:=(n:Int)-_-_) I I,bw (n:=(k:Int)+1) I I];exact⟨⟨k+1,I,I,hx.drew,by rw[FQ];omega⟩,(show((s1.len:Int)-((k:Int)+1)).toNat<((s1.len:Int)-(k:Int)).toNat from I)⟩
 .have j:k=s1.len:=by
   have:¬(k:Int)<s1.len:=by simpa using d
   omega
  refine⟨?_,hx⟩;have e:8*k=n+(8*k-n):=by omega
  rw[e,A1 _ _ (λi hi=>by simp[h.pf i hi,h.dd i hi])]
theorem A3(h:e1 w b n f g s1 s2):
 aJ aj 57 #[.pointer (some b)] w (λv w'=>∃s:ad,v=s/\aV 1 5 w' s (eM f ((n+7)/8))/\Ext w w'/\∀k,ay s k->w.heap.size<=k):=by
 have d:=h.bp;refine ae.Df _ w _ ?_;(delta ae.qV sS an r1 bG;dsimp only);refine⟨λa=>by simp at a,λ_=>⟨_,rfl,s1,h.aQ,(FO h.now.src (AZ f _) (by rw[uX h.now];omega)).use ?_⟩⟩;rintro _ ai ⟨s,rfl,c,hx,hf⟩;exact⟨s,rfl,s,rfl,c,hx,hf⟩
end
theorem FV(w:J)(n:Int):aJ aj 109 #[n] w (λv w'=>v=.bool (decide (1<=n/\n<=1600))/\w=w'):=by
 refine okF (ae.tw n) aw.tw func109 ?_;unfold ae.tw;refine⟨?_,rfl⟩;simp[Bool.decide_and]
theorem FW(w:J)(n:Nat)(a:n<=1600):aJ aj 110 #[n] w (λv w'=>v=.int .i64 (((n+7)/8:Nat):Int)/\w=w'):=by
 refine okF (ae.tx n) aw.tx func110 ?_;delta ae.tx av;refine⟨by decide,?_,rfl⟩;rw[bw (n:=(n:Int)+8) I I,bw (n:=(n:Int)+8-1) I I,show(n:Int)+8-1=((n+7:Nat):Int) from I,AR,bw I I]
theorem FX(m:Nat):eM (λi=>decide (i<0)) m=List.replicate m (.int .u8 0):=by
 apply rW
 .simp[eM]
 .intro i a b
  simp[eM,byteOf,ky]
theorem FY(j:Nat):c9 (λi=>decide (i<j)) j true=λi=>decide (i<j+1):=by
 funext i;unfold c9;split
 .rename_i h;simp[h]
 .rename_i h;simp;omega
theorem pc(w:J)(n first:Int):
 aJ aj 54 #[.int .i64 n,.int .i64 first] w (λv w'=>(¬(1<=n/\n<=1600/\0<=first/\first<=n)/\v=.tuple #[.pointer none,.int .i64 1]/\w=w')\/
  (1<=n/\n<=1600/\0<=first/\first<=n/\∃b s1 s2,v=.tuple #[.pointer (some ⟨b,0,none⟩),.int .i64 0]/\e1 w' b n.toNat (λi=>decide (i<first.toNat)) (λi=>decide (i<first.toNat)) s1 s2/\Ext w w'/\∀k,gb b s1 s2 k->w.heap.size<=k)):=by
 refine okF (ae.pc n first) aw.pc func54 ?_;(delta ae.pc aq b6 an bW jS Y r1 gm av;dsimp only);refine(FV w n).use ?_;rintro _ _ ⟨rfl,rfl⟩;refine⟨_,rfl,λh=>.inl ⟨λhc=>?_,rfl,rfl⟩,λh=>?_⟩
 .simp at h;omega
 simp at h;obtain⟨⟨⟨G,H⟩,K⟩,L⟩:=h;obtain⟨n,rfl⟩:=vo (by omega:0<=n);obtain⟨first,rfl⟩:=vo (by omega:0<=first);refine(FW w n I).use ?_;rintro _ _ ⟨rfl,rfl⟩;refine⟨_,rfl,I,?_⟩;simp only[dm];rw[FM];obtain⟨m,f⟩:∃m,m=(n+7)/8:=⟨_,rfl⟩;rw[←f];have l:=aV.new (sz:=1) (T:=5) w (List.replicate m (.int .u8 0)) m (by simp) (by show m<=2^63-1;omega);rw[←FX]at l⊢;have ar:Ext w (w.alloc (.cells (eM (λi=>decide (i<0)) m).toArray 5)):=af.alloc (.refl _ _) _;generalize s:w.alloc (.cells (eM (λi=>decide (i<0)) m).toArray 5)=w1 at*;have M:w1.heap.size=w.heap.size+1:=by rw[←s];simp
 have t:=bf.new w1 #[.int .i64 (n:Int),.slice (some ⟨w.heap.size,0,none⟩) m m,.slice none 0 0] 209;have u:=af.alloc ar (.cells #[.int .i64 (n:Int),.slice (some ⟨w.heap.size,0,none⟩) m m,.slice none 0 0] 209);have x:=l.ext (af.alloc (.refl _ w1) (.cells #[.int .i64 (n:Int),.slice (some ⟨w.heap.size,0,none⟩) m m,.slice none 0 0] 209));refine⟨λi w'=>∃j:Nat,i=j/\j<=first/\Ext w w'/\bf w' w1.heap.size #[.int .i64 (n:Int),.slice (some ⟨w.heap.size,0,none⟩) m m,.slice none 0 0] 209/\
  aV 1 5 w' ⟨some ⟨w.heap.size,0,none⟩,m,m⟩ (eM (λi=>decide (i<j)) m),λi _=>((first:Int)-i).toNat,⟨0,rfl,I,u,t,x⟩,?_⟩
 rintro _ ai ⟨j,rfl,N,hx,d,o⟩;refine⟨λaH=>?_,λy=>?_⟩
 .have p:j<first:=by simpa using aH
  refine⟨_,rfl,⟨some ⟨w.heap.size,0,none⟩,m,m⟩,by rw[aB,d.cell];rfl,(AT o (k:=j) I I).use ?_⟩;rintro _ z ⟨rfl,q,hc⟩;rw[FY]at q;rw[bw I I];refine⟨rfl,⟨j+1,I,I,?_,d.ag hc ?_,q⟩,(show((first:Int)-((j:Int)+1)).toNat<((first:Int)-(j:Int)).toNat from I)⟩
  .exact((af.c7 hx).trans hc).mono λk a c=>by rw[oU]at c;simp at c;omega
  .intro c
   rw[oU]at c;simp at c;omega
 .have p:j=first:=by
   have:¬(j:Int)<first:=by simpa using y
   omega
  subst p;have r:∀i,n<=i->decide (i<j)=false:=λi hi=>by simp;omega
  refine(A0 d o (λk a e=>?_) I).use ?_
  .rw[oU]at a
   simp at a;omega
  rintro _ z ⟨rfl,A,B,C,D,E,g⟩;have O:=d.lt;refine⟨rfl,.inr ⟨I,I,I,I,w1.heap.size,⟨some ⟨w.heap.size,0,none⟩,m,m⟩,A,rfl,⟨B,?_,?_,λk a=>⟨λe=>?_,λF=>?_⟩,λk a e=>?_,I,I,r,r⟩,?_,?_⟩⟩
  .simp only[←f];exact C
  .simp only[←f];exact D
  .rw[oU]at a
   simp at a;omega
  .rw[oU]at a
   simp at a;have:=g k F;omega
  .have:=g k a
   omega
  .exact((af.c7 hx).trans E).mono λk a e=>by omega
  .rintro k (rfl|a|a)
   .omega
   .rw[oU]at a
    simp at a;omega
   .have:=g k a
    have:=hx.size;omega
structure Fr where
 full:al
 fL:al
 used:al
 no:Int
 pins:Int
 b:ad
 l:c0
def Fr.c(f:Fr):O aa:=[f.full,f.fL,f.used,f.no,f.pins,f.b]
def dp:Fr:=⟨false,false,false,0,0,⟨none,0,0⟩,[]⟩
structure bO where
 c:Nat
 aR:Nat
 ak:O Fr
 hand:Nat
 D:aZ
def cV(C:bO)(q:Nat):Prop:=q=C.c\/q=C.aR\/b9 C.D q
structure eU(w:J)(C:bO):Prop where
 v:Var w C.c [.pointer (some C.D.d),.slice (some C.aR) C.ak.length C.ak.length,C.hand] 268
 f:bf w C.aR (bQ Fr.c C.ak).toArray 275
 dev:c1 w C.D
 b7:8<=C.ak.length
 cA:C.ak.length<=64
 hd:C.hand<C.ak.length
 a1:C.c≠C.aR/\¬b9 C.D C.c/\¬b9 C.D C.aR
structure A4(X:Nat->Prop)(w:J)(C:bO)(f:Fr)(no:Nat):Prop where
 num:f.no=no
 lt:no<C.D.n
 xB:bg (λq=>¬cV C q/\¬X q) w f.b f.l
 len:f.l.length=256
 clean:f.fL=false->f.l=C.D.now no
 bT:C.D.bT no=true->f.fL=false
 two:2<=no
structure fU(X:Nat->Prop)(w:J)(C:bO):Prop where
 pins:∀f∈C.ak,f.pins=0
 ok:∀f∈C.ak,f.full=true->∃no:Nat,A4 X w C f no
 un:∀ (i j:Nat) (hi:i<C.ak.length) (a:j<C.ak.length),(C.ak[i]).full=true->(C.ak[j]).full=true->(C.ak[i]).no=(C.ak[j]).no->i=j
 eV:∀q,X q->q<w.heap.size/\¬cV C q
 n_:∀j,C.D.bT j=true->C.D.eT j=C.D.ei j
def j0(az D:aZ):Prop:=az.n=D.n/\(∀j,az.bT j=true->D.bT j=true)/\∀j,az.bT j=true->az.eT j=az.ei j
theorem fU.rE{X:Nat->Prop}{w:J}{C:bO}(h:fU X w C):j0 C.D C.D:=⟨rfl,λ_ h=>h,h.n_⟩
theorem fU.ct{X:Nat->Prop}{w:J}{C:bO}(h:fU X w C)(k:Nat):j0 (C.D.ct k) C.D:=⟨rfl,λ_ h=>h,h.n_⟩
structure dH(X:Nat->Prop)(w:J)(C:bO):Prop where
 raw:eU w C
 inv:fU X w C
def bO.view(C:bO)(no:Nat):c0:=match C.ak.find? λf=>f.full&&f.no==(no:Int) with
 |some f=>f.l
 |none=>C.D.now no
theorem Fr.cf(f:Fr):f.c.length=6:=rfl
theorem uY(l:O Fr):∀x∈l,(Fr.c x).length=6:=λx _=>rfl
section
variable {w w':J}{C:bO}{X:Nat->Prop}
theorem eU.lt(h:eU w C){q:Nat}(a:cV C q):q<w.heap.size:=by
 rcases a with rfl|rfl|a
 .exact h.v.lt
 .exact bf.lt h.f
 .exact h.dev.lt a
theorem eU.ag{W:Nat->Prop}(h:eU w C)(hc:af W w w')(a:∀q,cV C q->¬W q):eU w' C:=
 ⟨h.v.ag hc (a _ (.inl rfl)),bf.ag h.f hc (a _ (.inr (.inl rfl))),h.dev.ag hc λq b=>a q (.inr (.inr b)),h.b7,h.cA,h.hd,h.a1⟩
theorem eU.ext(h:eU w C)(hc:Ext w w'):eU w' C:=h.ag hc λ_ _ h=>h
theorem fU.ag{W:Nat->Prop}(h:fU X w C)(hc:af W w w')(c:∀q,W q->cV C q\/X q):fU X w' C:=
 ⟨h.pins,λf hf d=>by
  obtain⟨no,e,g,i,j,k,l,m⟩:=h.ok f hf d
  exact⟨no,e,g,bg.ag i hc λq a n=>by
   rcases c q n with b|b
   .exact a.1 b
   .exact a.2 b,j,k,l,m⟩,h.un,λq a=>⟨e_ (h.eV q a).1 hc.size,(h.eV q a).2⟩,h.n_⟩
theorem dH.ag{W:Nat->Prop}(h:dH X w C)(hc:af W w w')(b:∀q,W q->X q):dH X w' C:=
 ⟨h.raw.ag hc λq c a=>(h.inv.eV q (b q a)).2 c,h.inv.ag hc λq a=>.inr (b q a)⟩
theorem dH.ext(h:dH X w C)(hc:Ext w w'):dH X w' C:=h.ag hc λ_ h=>h.elim
theorem rF(aR i:Nat):Addr.add aR (Int.toNat (i:Int)*6)=⟨aR,i*6,none⟩:=by rw[dm,aB,cQ]
theorem eU.cells(h:eU w C):w.cell? C.c=some (.pointer (some C.D.d))/\w.cell? (Addr.add C.c 1)=some (.slice (some C.aR) C.ak.length C.ak.length)/\w.cell? (Addr.add C.c 2)=some (.int .i64 C.hand):=by
 rw[aB,aB];exact⟨h.v.cell,h.v.cell,h.v.cell⟩
theorem jA{w:J}{aR:Nat}{fs:O Fr}{T:TypeId}(h:bf w aR (bQ Fr.c fs).toArray T){i j:Nat}(hi:i<fs.length)(a:j<6):w.cell? ⟨aR,i*6+j,none⟩=((fs[i]).c)[j]? :=by
 rw[bf.cell h];simp only[qd];exact uT (uY fs) hi a
theorem mP{w:J}{aR:Nat}{fs:O Fr}{T:TypeId}(h:bf w aR (bQ Fr.c fs).toArray T){i j:Nat}(hi:i<fs.length)(a:j<6){v:aa}(b:Fr)(hf:b.c=(fs[i]).c.set j v):
 (∃u:aa,w.cell? ⟨aR,i*6+j,none⟩=some u)/\w.frozen? ⟨aR,i*6+j,none⟩=false/\bf (w.setCell ⟨aR,i*6+j,none⟩ v) aR (bQ Fr.c (fs.set i b)).toArray T/\af (λq=>q=aR) w (w.setCell ⟨aR,i*6+j,none⟩ v):=by
 refine⟨⟨((fs[i]).c)[j]'(by rw[Fr.cf];exact a),by rw[jA h hi a,dr (by rw[Fr.cf];exact a)]⟩,bf.frozen h _ rfl,?_,dJ _ _ _ _⟩;have:=ej (vs:=bQ Fr.c fs) h (i:=i*6+j) v;rw[E4 (uY fs) hi a hf]at this;exact this
theorem xC{w:J}{aR:Nat}{fs:O Fr}{T:TypeId}(h:bf w aR (bQ Fr.c fs).toArray T){i:Nat}(hi:i<fs.length)(a:Fr):
 bC w ⟨aR,i*6,none⟩ a.c/\bf (setCells w ⟨aR,i*6,none⟩ 0 a.c) aR (bQ Fr.c (fs.set i a)).toArray T/\af (λq=>q=aR) w (setCells w ⟨aR,i*6,none⟩ 0 a.c):=by
 have g:=gu (c:=Fr.c) fs (uY fs);have d:i*6+a.c.length<=(bQ Fr.c fs).toArray.size:=by
  rw[r4,g,Fr.cf];omega
 refine⟨bf.cd h _ _ d ?_,?_,af.jn (.refl _ _) _ 0⟩
 .intro v b
  unfold Fr.c at b;simp only[cN,e3,fb]at b;rcases b with rfl|rfl|rfl|rfl|rfl|rfl<;>trivial
 .have h0:=bf.kQ (o:=i*6) h a.c
  have e:fP (bQ Fr.c fs).toArray (i*6) a.c=(bQ Fr.c (fs.set i a)).toArray:=by
   have f:=kP a.c (bQ Fr.c fs).toArray (i*6) d;have j:=AA (uY fs) hi a;have k:a.c.length=6:=rfl;rw[k]at f;have l:(fP (bQ Fr.c fs).toArray (i*6) a.c).toList=bQ Fr.c (fs.set i a):=f.trans j;rw[←l]
  rw[e]at h0;exact h0
theorem A5(h:eU w C)(no:Int):aJ aj 204 #[.pointer (some C.c),no] w (λv w'=>v=.bool (decide (0<=no/\no<C.D.n))/\w=w'):=by
 refine okF (ae.tT (some C.c) no) aw.tT func204 ?_;delta ae.tT an bW;refine cz (λb w'=>b=decide (0<=no/\no<C.D.n)/\w=w') (λq d=>⟨λa=>⟨_,rfl,_,h.cells.1,(uU h.dev).use ?_⟩,λa=>d _ _ ⟨?_,rfl⟩⟩) ?_
 .rintro _ _ ⟨rfl,rfl⟩
  have a:0<=no:=by simpa using a
  refine⟨_,rfl,d _ _ ⟨?_,rfl⟩⟩;rw[fh,cu,cu];exact⟨λh=>⟨a,h⟩,λh=>h.2⟩
 .have a:¬0<=no:=by simpa using a
  rw[ih (λh=>a h.1)]
 .rintro _ _ ⟨rfl,rfl⟩
  exact⟨rfl,rfl⟩
def AtR(C:bO)(no:Int)(v:aa):Prop:=
 (∃ (i:Nat) (hi:i<C.ak.length),v=.pointer (some ⟨C.aR,i*6,none⟩)/\(C.ak[i]).full=true/\(C.ak[i]).no=no)\/
 (v=.pointer none/\∀f∈C.ak,f.full=true->f.no≠no)
theorem uZ(h:eU w C)(no:Int):aJ aj 180 #[.pointer (some C.c),no] w (λv w'=>AtR C no v/\w=w'):=by
 obtain⟨bH,aQ,a6⟩:=h.cells;have d:=h.cA;refine okF (ae.tP (some C.c) no) aw.tP func180 ?_;(delta ae.tP an r1 aN aS aD av;dsimp only);refine⟨λh=>(by cases h),λ_=>⟨_,rfl,⟨some C.aR,C.ak.length,C.ak.length⟩,aQ,λi w'=>∃j:Nat,i=j/\j<=C.ak.length/\w=w'/\∀ (k:Nat) (d:k<C.ak.length),k<j->(C.ak[k]).full=true->(C.ak[k]).no≠no,λi _=>((C.ak.length:Int)-i).toNat,⟨0,rfl,cO _,rfl,λk _ h=>I⟩,?_⟩⟩;rintro _ _ ⟨j,rfl,t,rfl,l⟩;refine⟨λaH=>?_,λg=>?_⟩
 .have aH:(j:Int)<(C.ak.length:Int):=ck aH
  have aH:j<C.ak.length:=by omega
  refine⟨_,rfl,⟨some C.aR,C.ak.length,C.ak.length⟩,aQ,_,rfl,⟨I,by show(j:Int)<(C.ak.length:Int);omega⟩,_,rfl,?_⟩;rw[rF];have f0:=jA h.f aH (j:=0) (by decide);have f3:=jA h.f aH (j:=3) (by decide);refine⟨(C.ak[j]).full,f0,cz (λb w'=>w=w'/\(b=true↔((C.ak[j]).full=true/\(C.ak[j]).no=no))) (λq m=>⟨λa=>⟨_,rfl,(C.ak[j]).no,by rw[aB];exact f3,m _ _ ⟨rfl,?_⟩⟩,λa=>m _ _ ⟨rfl,?_⟩⟩) ?_⟩
  .rw[jH]
   exact⟨λh=>⟨a,h⟩,λh=>h.2⟩
  .rw[a]
   exact⟨λh=>(by cases h),λh=>(by cases h.1)⟩
  rintro b w' ⟨rfl,a⟩;refine⟨λe=>⟨.inl ⟨j,aH,rfl,(a.1 e).1,(a.1 e).2⟩,rfl⟩,λe=>?_⟩;rw[bw (n:=(j:Int)+1) I I];refine⟨⟨j+1,I,I,rfl,λk d u o=>?_⟩,?_⟩
  .rcases ec k j with p|p
   .exact l k d p o
   .have:k=j:=by omega
    subst this;intro r;rw[a.2 ⟨o,r⟩]at e;cases e
  .show((C.ak.length:Int)-((j:Int)+1)).toNat<((C.ak.length:Int)-(j:Int)).toNat
   omega
 .have g:j=C.ak.length:=by
   have:¬((j:Int)<(C.ak.length:Int)):=cG g;omega
  subst g;refine⟨.inr ⟨rfl,λf hf s=>?_⟩,rfl⟩;obtain⟨k,d,rfl⟩:=fa hf;exact l k d d s
theorem FZ(h:eU w C):aJ aj 250 #[.pointer (some C.c)] w (λv w'=>((∃ (i:Nat) (hi:i<C.ak.length),v=.pointer (some ⟨C.aR,i*6,none⟩)/\(C.ak[i]).full=false)\/(v=.pointer none/\∀f∈C.ak,f.full=true))/\w=w'):=by
 obtain⟨bH,aQ,a6⟩:=h.cells;have a:=h.cA;refine okF (ae.uc (some C.c)) aw.uc func250 ?_;(delta ae.uc r1 an aN aS av;dsimp only);refine⟨_,rfl,⟨some C.aR,C.ak.length,C.ak.length⟩,aQ,λi w'=>∃j:Nat,i=j/\j<=C.ak.length/\w=w'/\∀ (k:Nat) (a:k<C.ak.length),k<j->(C.ak[k]).full=true,λi _=>((C.ak.length:Int)-i).toNat,⟨0,rfl,cO _,rfl,λk _ h=>I⟩,?_⟩;rintro _ _ ⟨j,rfl,l,rfl,e⟩;refine⟨λaH=>?_,λb=>?_⟩
 .have aH:(j:Int)<(C.ak.length:Int):=ck aH
  have aH:j<C.ak.length:=by omega
  have f0:=jA h.f aH (j:=0) (by decide);refine⟨_,rfl,⟨some C.aR,C.ak.length,C.ak.length⟩,aQ,_,rfl,⟨I,by show(j:Int)<(C.ak.length:Int);omega⟩,(C.ak[j]).full,by rw[rF];exact f0,λd=>⟨_,rfl,⟨some C.aR,C.ak.length,C.ak.length⟩,aQ,_,rfl,⟨I,by show(j:Int)<(C.ak.length:Int);omega⟩,.inl ⟨j,aH,by rw[rF],by simpa using d⟩,rfl⟩,λd=>?_⟩;rw[bw (n:=(j:Int)+1) I I];refine⟨⟨j+1,I,I,rfl,λk a m=>?_⟩,?_⟩
  .rcases ec k j with g|g
   .exact e k a g
   .have:k=j:=by omega
    subst this;simpa using d
  .show((C.ak.length:Int)-((j:Int)+1)).toNat<((C.ak.length:Int)-(j:Int)).toNat
   omega
 .have b:j=C.ak.length:=by
   have:¬((j:Int)<(C.ak.length:Int)):=cG b;omega
  subst b;refine⟨.inr ⟨rfl,λf hf=>?_⟩,rfl⟩;obtain⟨k,a,rfl⟩:=fa hf;exact e k a a
def gS(fs gs:O Fr):Prop:=gs.length=fs.length/\∀ (i:Nat) (a:i<fs.length) (b:i<gs.length),gs[i]={fs[i] with used:=(gs[i]).used}
theorem gS.refl(fs:O Fr):gS fs fs:=⟨rfl,λi a b=>rfl⟩
theorem gS.set{fs gs:O Fr}(h:gS fs gs){i:Nat}(hi:i<gs.length)(u:al):gS fs (gs.set i {gs[i] with used:=u}):=by
 refine⟨by rw[c_];exact h.1,λj a b=>?_⟩;rw[qg];split
 .rename_i e
  subst e;have:=h.2 i a hi;rw[this]
 .exact h.2 j a _
theorem F0(h:eU w C)(D:∀f∈C.ak,f.pins=0):aJ aj 251 #[.pointer (some C.c)] w (λv w'=>∃ (i:Nat) (gs:O Fr) (hd:Nat),i<C.ak.length/\v=.pointer (some ⟨C.aR,i*6,none⟩)/\gS C.ak gs/\eU w' {C with ak:=gs,hand:=hd}/\af (λq=>q=C.c\/q=C.aR) w w'):=by
 obtain⟨bH,aQ,a6⟩:=h.cells;have U:=h.b7;have V:=h.cA;have E:=h.hd;refine okF (ae.ud (some C.c)) aw.ud func251 ?_;(delta ae.ud aD r1 an av aN aS st;dsimp only);refine⟨_,rfl,_,a6,_,rfl,⟨some C.aR,C.ak.length,C.ak.length⟩,aQ,λF i w'=>∃ (s:Nat) (gs:O Fr),i=s/\s<=C.ak.length/\F=(((C.hand+s)%C.ak.length:Nat):Int)/\gS C.ak gs/\eU w' {C with ak:=gs}/\af (λq=>q=C.c\/q=C.aR) w w'/\∀ (t:Nat) (hx:(C.hand+t)%C.ak.length<gs.length),t<s->(gs[(C.hand+t)%C.ak.length]).used=false,
  λ_ i _=>(2*(C.ak.length:Int)-i).toNat,⟨0,C.ak,rfl,cO _,by rw[lV,je E],gS.refl _,h,.refl _ _,λt _ h=>I⟩,?_⟩
 rintro _ _ w1 ⟨s,gs,rfl,hs,rfl,o,b,hc,u⟩;have x:gs.length=C.ak.length:=o.1;obtain⟨i,hi⟩:∃i,i=(C.hand+s)%C.ak.length:=⟨_,rfl⟩;have g:i<gs.length:=by rw[hi,x];exact g4 _ I
 rw[←hi];obtain⟨d0,d1,d2⟩:=b.cells;have d1:w1.cell? (Addr.add C.c 1)=some (.slice (some C.aR) gs.length gs.length):=d1;have hf:bf w1 C.aR (bQ Fr.c gs).toArray 275:=b.f;rw[bw (n:=2*(C.ak.length:Int)) I I];have G:IntKind.wrap .i64 ((i:Int)+1)=((i+1:Nat):Int):=by rw[bw I I];rfl
 have y:Int.tmod ((i+1:Nat):Int) (gs.length:Int)=(((i+1)%gs.length:Nat):Int):=by
  rw[r5 I];rfl
 have H:(i+1)%gs.length=(C.hand+(s+1))%C.ak.length:=by
  rw[hi,x,Nat.mod_add_mod];rfl
 refine⟨λaH=>?_,λJ=>?_⟩
 .refine cz (λa w'=>a=(((C.hand+(s+1))%C.ak.length:Nat):Int)/\∃k:O Fr,s+1<=C.ak.length/\gS C.ak k/\eU w' {C with ak:=k}/\af (λq=>q=C.c\/q=C.aR) w w'/\∀ (t:Nat) (hx:(C.hand+t)%C.ak.length<k.length),t<s+1->(k[(C.hand+t)%C.ak.length]).used=false) (λq l=>⟨_,rfl,⟨some C.aR,gs.length,gs.length⟩,d1,_,rfl,⟨I,by show(i:Int)<(gs.length:Int);omega⟩,_,rfl,⟨some C.aR,gs.length,gs.length⟩,d1,by show(gs.length:Int)≠0;omega,_,rfl,?_⟩) ?_
  .rw[rF,G]
   have f4:=jA hf g (j:=4) (by decide);have f2:=jA hf g (j:=2) (by decide);have K:(gs[i]).pins=0:=by
    have d:=o.2 i I g;have m:(gs[i]).pins=(C.ak[i]'I).pins:=by rw[d]
    rw[m];exact D _ (cJ _)
   refine⟨(gs[i]).pins,by rw[aB];exact f4,λz=>?_,λ_=>⟨_,rfl,(gs[i]).used,by rw[aB];exact f2,λhu=>⟨_,rfl,?_⟩,λhu=>⟨_,rfl,?_⟩⟩⟩
   .rw[K]at z;simp at z
   .have L:s<C.ak.length:=by
     rcases ec s C.ak.length with d|d
     .exact d
     .have es:s=C.ak.length:=by omega
      have A:(C.hand+0)%C.ak.length=i:=by rw[hi,es,Nat.add_mod_right];rfl
      have m:=u 0 (by rw[A];exact g) I;have p:(gs[i]).used=false:=by
       have e:gs[(C.hand+0)%C.ak.length]'(by rw[A];exact g)=gs[i]:=by congr 1
       rw[←e];exact m
      rw[p]at hu;cases hu
    obtain⟨M,N,P,r⟩:=mP hf g (j:=2) (by decide) (v:=false) {gs[i] with used:=false} rfl;rw[aB];refine⟨M,N,aY (l _ _ ⟨by rw[y,H],gs.set i {gs[i] with used:=false},L,o.set g false,?_,hc.trans (r.mono λq _ e=>.inr e),λt hx ht=>?_⟩)⟩
    .have Q:=b.v.ag r h.a1.1
     refine⟨?_,P,b.dev.ag r (λq l e=>h.a1.2.2 (e▸l)),?_,?_,?_,h.a1⟩
     .show Var _ _ [_,.slice (some C.aR) (gs.set i _).length (gs.set i _).length,_] _
      rw[c_];exact Q
     .show 8<=(gs.set i _).length;rw[c_];omega
     .show(gs.set i _).length<=64;rw[c_];omega
     .show C.hand<(gs.set i _).length;rw[c_];omega
    .rw[qg]
     split
     .rfl
     .rename_i R
      rcases ec t s with d|d
      .exact u t _ d
      .have:t=s:=by omega
       subst this;exact absurd hi R
   .obtain⟨s1,s2⟩:=ek b.v (i:=2) (by simp)
    rw[aB,y];refine⟨s1,s2,aY ⟨i,gs,(i+1)%gs.length,I,rfl,o,?_,hc.trans ((dJ _ _ _ _).mono λq _ e=>.inl e)⟩⟩;have B:=dJ w1 C.c 2 (.int .i64 (((i+1)%gs.length:Nat):Int));refine⟨ej b.v (i:=2) (.int .i64 (((i+1)%gs.length:Nat):Int)),bf.ag hf B (λe=>h.a1.1 e.symm),b.dev.ag B (λq l e=>h.a1.2.1 (e▸l)),b.b7,b.cA,?_,h.a1⟩;exact g4 _ I
  .rintro a w' ⟨rfl,k,d,m,p,S,T⟩
   rw[bw (n:=(s:Int)+1) I I];refine⟨⟨s+1,k,I,d,rfl,m,p,S,T⟩,?_⟩;show(2*(C.ak.length:Int)-((s:Int)+1)).toNat<(2*(C.ak.length:Int)-(s:Int)).toNat;omega
 .have:=cG J
  omega
end
structure dV(C aE:bO)(w w':J)(k:Nat):Prop where
 c:aE.c=C.c
 d:aE.D.d=C.D.d
 len:aE.ak.length=C.ak.length
 bP:aE.D.key=C.D.key
 aT:aE.D.aT<=C.D.aT+k
 calm:∀m,C.D.calm (m+k)->aE.D.calm m
 ag:af (cV C) w w'
 cS:∀q,cV aE q->cV C q\/w.heap.size<=q
theorem dV.refl(C:bO)(w:J):dV C C w w 0:=⟨rfl,rfl,rfl,rfl,bk _,λ_ h=>h,.refl _ _,λ_ h=>.inl h⟩
theorem dV.ext{w w':J}(C:bO)(h:Ext w w'):dV C C w w' 0:=⟨rfl,rfl,rfl,rfl,bk _,λ_ h=>h,af.c7 h,λ_ h=>.inl h⟩
theorem dV.trans{C aE e:bO}{w w' f:J}{k l:Nat}(a:dV C aE w w' k)(b:dV aE e w' f l):dV C e w f (k+l):=by
 have hs:=a.ag.size;refine⟨b.c.trans a.c,b.d.trans a.d,b.len.trans a.len,b.bP.trans a.bP,by have:=a.aT;have:=b.aT;omega,λm i=>b.calm m (a.calm (m+l) (by rw[show m+l+k=m+(k+l) from I];exact i)),c5 a.ag b.ag λq g h=>(a.cS q h).resolve_right I,λq g=>?_⟩;rcases b.cS q g with h|h
 .exact a.cS q h
 .exact .inr I
theorem dV.mono{C aE:bO}{w w':J}{k l:Nat}(h:dV C aE w w' k)(b:k<=l):dV C aE w w' l:=
 ⟨h.c,h.d,h.len,h.bP,by have:=h.aT;omega,λm a=>h.calm m (fK a I),h.ag,h.cS⟩
theorem dV.bT{C aE:bO}{w w':J}{k:Nat}(h:dV C aE w w' k):aE.D.bT=C.D.bT:=congrArg (λk:(O c0×(Nat->al)×(Nat->O c0)×(Int->Prop)×al)×Int=>k.1.2.1) h.bP
theorem dV.oa{C aE:bO}{w w':J}{k:Nat}(h:dV C aE w w' k):aE.D.bT=C.D.bT/\aE.D.ei=C.D.ei:=⟨h.bT,congrArg (λk:(O c0×(Nat->al)×(Nat->O c0)×(Int->Prop)×al)×Int=>k.1.2.2.1) h.bP⟩
theorem dV.n{C aE:bO}{w w':J}{k:Nat}(h:dV C aE w w' k):aE.D.n=C.D.n:=congrArg (λk:(O c0×(Nat->al)×(Nat->O c0)×(Int->Prop)×al)×Int=>k.1.1.length) h.bP
section
variable {w w':J}{C:bO}{X:Nat->Prop}
theorem lL{fs:O Fr}{D:aZ}{c aR hd:Nat}(un:∀ (i j:Nat) (hi:i<fs.length) (d:j<fs.length),(fs[i]).full=true->(fs[j]).full=true->(fs[i]).no=(fs[j]).no->i=j){i:Nat}(hi:i<fs.length){no:Nat}(hf:(fs[i]).full=true)(e:(fs[i]).no=no):(bO.mk c aR fs hd D).view no=(fs[i]).l:=by
 unfold bO.view
 cases a:fs.find? λf=>f.full&&f.no==(no:Int) with
 |none=>
  have:=jh.1 a _ (cJ hi);simp[hf,e]at this
 |some f=>
  have g:=ji a;have b:=kf a;simp only[dk,jH]at b;obtain⟨j,d,rfl⟩:=fa g;have:=un i j hi d hf b.1 (by rw[e,b.2]);subst this;simp only
theorem mQ{fs:O Fr}{D:aZ}{c aR hd:Nat}{no:Nat}(h:∀f∈fs,f.full=true->f.no≠no):(bO.mk c aR fs hd D).view no=D.now no:=by
 unfold bO.view
 cases b:fs.find? λf=>f.full&&f.no==(no:Int) with
 |none=>rfl
 |some f=>
  have d:=ji b;have a:=kf b;simp only[dk,jH]at a;exact absurd a.2 (h f d a.1)
theorem u0(D:aZ)(k i:Nat):(D.ct k).now i=D.now i:=rfl
theorem bg.re{B b:Nat->Prop}{w w':J}{t:ad}{l:Key}{V:Nat->Prop}(h:bg B w t l)(hc:af V w w')(c:∀q,q<w.heap.size->B q->¬V q)(d:∀q,q<w.heap.size->B q->b q):bg b w' t l:=
 ⟨h.1.ag hc λq a=>c q (h.2.2 q a).2 (h.2.2 q a).1,h.2.1,λq a=>⟨d q (h.2.2 q a).2 (h.2.2 q a).1,e_ (h.2.2 q a).2 hc.size⟩⟩
theorem rG{gs:O Fr}{hd:Nat}{az:aZ}{V:Nat->Prop}(h:fU X w C)(hs:gS C.ak gs)(hc:af V w w')(fJ:∀q,q<w.heap.size->V q->cV C q)(n:j0 az C.D)(v:∀i,az.now i=C.D.now i)(x:∀q,b9 az q->b9 C.D q\/w.heap.size<=q):fU X w' {C with ak:=gs,hand:=hd,D:=az}:=by
 have y:=hc.size;have s:∀q,q<w.heap.size->cV {C with ak:=gs,hand:=hd,D:=az} q->cV C q:=λq a hf=>by
  rcases hf with c|c|c
  .exact .inl c
  .exact .inr (.inl c)
  .exact .inr (.inr ((x q c).resolve_right I))
 have k:∀ (i:Nat) (hi:i<gs.length),∃d:i<C.ak.length,gs[i]={C.ak[i] with used:=(gs[i]).used}:=λi hi=>⟨by rw[←hs.1];exact hi,hs.2 i (by rw[←hs.1];exact hi) hi⟩;refine⟨λf hf=>?_,λf hf z=>?_,λi j hi A c B E=>?_,λq a=>⟨e_ (h.eV q a).1 y,λhf=>(h.eV q a).2 (s q (h.eV q a).1 hf)⟩,n.2.2⟩
 .obtain⟨i,hi,rfl⟩:=fa hf
  obtain⟨d,e⟩:=k i hi;have:(gs[i]).pins=(C.ak[i]).pins:=by rw[e]
  rw[this];exact h.pins _ (cJ d)
 .obtain⟨i,hi,rfl⟩:=fa hf
  obtain⟨d,e⟩:=k i hi;have o:(gs[i]).full=(C.ak[i]).full:=by rw[e]
  have p:(gs[i]).no=(C.ak[i]).no:=by rw[e]
  have r:(gs[i]).b=(C.ak[i]).b:=by rw[e]
  have g:(gs[i]).l=(C.ak[i]).l:=by rw[e]
  have t:(gs[i]).fL=(C.ak[i]).fL:=by rw[e]
  obtain⟨no,F,G,H,J,K,L,M⟩:=h.ok _ (cJ d) (by rw[←o];exact z);refine⟨no,by rw[p];exact F,by rw[n.1];exact G,?_,by rw[g];exact J,λhd=>by rw[g,v];exact K (by rw[←t];exact hd),λhs=>by rw[t];exact L (n.2.1 _ hs),M⟩;rw[r,g];exact bg.re H hc (λq a m N=>m.1 (fJ q a N)) λq a m=>⟨λhf=>m.1 (s q a hf),m.2⟩
 .obtain⟨d,e⟩:=k i hi
  obtain⟨P,u⟩:=k j A;have o:(gs[i]).full=(C.ak[i]).full:=by rw[e]
  have p:(gs[i]).no=(C.ak[i]).no:=by rw[e]
  have r:(gs[j]).full=(C.ak[j]).full:=by rw[u]
  have g:(gs[j]).no=(C.ak[j]).no:=by rw[u]
  exact h.un i j d P (by rw[←o];exact c) (by rw[←r];exact B) (by rw[←p,←g];exact E)
theorem rH{gs:O Fr}{hd:Nat}{az:aZ}(h:fU X w C)(hs:gS C.ak gs)(t:∀i,az.now i=C.D.now i)(no:Nat):(bO.mk C.c C.aR gs hd az).view no=C.view no:=by
 have k:∀ (i:Nat) (hi:i<gs.length),∃m:i<C.ak.length,gs[i]={C.ak[i] with used:=(gs[i]).used}:=λi hi=>⟨by rw[←hs.1];exact hi,hs.2 i (by rw[←hs.1];exact hi) hi⟩;by_cases hex:∃ (i:Nat) (hi:i<C.ak.length),(C.ak[i]).full=true/\(C.ak[i]).no=no
 .obtain⟨i,hi,d,g⟩:=hex
  have p:i<gs.length:=by rw[hs.1];exact hi
  obtain⟨m,e⟩:=k i p;have n:(gs[i]).full=(C.ak[i]).full:=by rw[e]
  have o:(gs[i]).no=(C.ak[i]).no:=by rw[e]
  have u:(gs[i]).l=(C.ak[i]).l:=by rw[e]
  have v:∀ (i j:Nat) (hi:i<gs.length) (E:j<gs.length),(gs[i]).full=true->(gs[j]).full=true->(gs[i]).no=(gs[j]).no->i=j:=by
   intro a b x y b7 cA z;obtain⟨A,q⟩:=k a x;obtain⟨B,r⟩:=k b y;have f1:(gs[a]).full=(C.ak[a]).full:=by rw[q]
   have f2:(gs[a]).no=(C.ak[a]).no:=by rw[q]
   have f3:(gs[b]).full=(C.ak[b]).full:=by rw[r]
   have f4:(gs[b]).no=(C.ak[b]).no:=by rw[r]
   exact h.un a b A B (by rw[←f1];exact b7) (by rw[←f3];exact cA) (by rw[←f2,←f4];exact z)
  rw[lL v p (by rw[n];exact d) (by rw[o];exact g),u];exact(lL (fs:=C.ak) (D:=C.D) (c:=C.c) (aR:=C.aR) (hd:=C.hand) h.un hi d g).symm
 .have s:∀f∈C.ak,f.full=true->f.no≠no:=λf hf d g=>by
   obtain⟨i,hi,rfl⟩:=fa hf;exact hex ⟨i,hi,d,g⟩
  have e:C.view no=C.D.now no:=mQ (fs:=C.ak) (D:=C.D) (c:=C.c) (aR:=C.aR) (hd:=C.hand) s;rw[e,←t];refine mQ λf hf d g=>?_;obtain⟨i,hi,rfl⟩:=fa hf;obtain⟨m,e⟩:=k i hi;have n:(gs[i]).full=(C.ak[i]).full:=by rw[e]
  have o:(gs[i]).no=(C.ak[i]).no:=by rw[e]
  exact s _ (cJ m) (by rw[←n];exact d) (by rw[←o];exact g)
theorem xD{i:Nat}(hi:i<C.ak.length){az:aZ}{V:Nat->Prop}(h:fU X w C)(hc:af V w w')(fJ:∀q,q<w.heap.size->V q->cV C q)(n:j0 az C.D)
 (x:∀j:Nat,((C.ak[i]).full=true->(C.ak[i]).no≠j)->az.now j=C.D.now j) (y:∀q,b9 az q->b9 C.D q\/w.heap.size<=q) (f0:Fr) (o:f0.full=false) (z:f0.pins=0):fU X w' {C with ak:=C.ak.set i f0,D:=az}:=by
 have A:=hc.size;have r:∀q,q<w.heap.size->cV {C with ak:=C.ak.set i f0,D:=az} q->cV C q:=λq d hf=>by
  rcases hf with c|c|c
  .exact .inl c
  .exact .inr (.inl c)
  .exact .inr (.inr ((y q c).resolve_right I))
 refine⟨λf hf=>?_,λf hf g=>?_,λa b B l c m p=>?_,λq d=>⟨e_ (h.eV q d).1 A,λhf=>(h.eV q d).2 (r q (h.eV q d).1 hf)⟩,n.2.2⟩
 .rcases l6 hf with hf|rfl
  .exact h.pins f hf
  .exact z
 .obtain⟨k,E,rfl⟩:=fa hf
  have s:k<C.ak.length:=by simpa using E
  by_cases e:i=k
  .subst e
   simp only[g7]at g;rw[o]at g;cases g
  .simp only[e4 e]at g⊢
   obtain⟨no,t,F,G,H,J,K,L⟩:=h.ok _ (cJ s) g;refine⟨no,t,by rw[n.1];exact F,bg.re G hc (λq d l M=>l.1 (fJ q d M)) λq d l=>⟨λhf=>l.1 (r q d hf),l.2⟩,H,λhd=>?_,λhs=>K (n.2.1 _ hs),L⟩;show _=az.now no;rw[x no λN he=>e (h.un i k hi s N g (by rw[he,t]))];exact J hd
 .have O:a<C.ak.length:=by simpa using B
  have P:b<C.ak.length:=by simpa using l
  by_cases u:i=a
  .subst u
   simp only[g7]at c;rw[o]at c;cases c
  by_cases v:i=b
  .subst v
   simp only[g7]at m;rw[o]at m;cases m
  simp only[e4 u]at c p;simp only[e4 v]at m p;exact h.un a b O P c m p
theorem A6{i:Nat}(hi:i<C.ak.length){az:aZ}{hd:Nat}(h:fU X w C)(A:(C.ak[i]).full=true->∀j:Nat,(C.ak[i]).no=j->az.now j=(C.ak[i]).l)(B:∀j:Nat,((C.ak[i]).full=true->(C.ak[i]).no≠j)->az.now j=C.D.now j)(f0:Fr)(p:f0.full=false)(no:Nat):
 (bO.mk C.c C.aR (C.ak.set i f0) hd az).view no=C.view no:=by
 by_cases hex:∃ (k:Nat) (n:k<C.ak.length),(C.ak[k]).full=true/\(C.ak[k]).no=no
 .obtain⟨k,n,d,g⟩:=hex
  have r:=lL (fs:=C.ak) (D:=C.D) (c:=C.c) (aR:=C.aR) (hd:=C.hand) h.un n d g;have r:C.view no=(C.ak[k]).l:=r;rw[r];by_cases e:i=k
  .subst e
   rw[←A d no g];refine mQ λf hf o x=>?_;obtain⟨a,q,rfl⟩:=fa hf;have s:a<C.ak.length:=by simpa using q
   by_cases m:i=a
   .subst m
    simp only[g7]at o;rw[p]at o;cases o
   .simp only[e4 m]at o x
    exact m (h.un i a hi s d o (by rw[g,x]))
  .have E:k<(C.ak.set i f0).length:=by simpa using n
   have t:(C.ak.set i f0)[k]=C.ak[k]:=e4 e _;have F:∀ (a b:Nat) (q:a<(C.ak.set i f0).length) (y:b<(C.ak.set i f0).length),((C.ak.set i f0)[a]).full=true->((C.ak.set i f0)[b]).full=true->((C.ak.set i f0)[a]).no=((C.ak.set i f0)[b]).no->a=b:=by
    intro a b q y d g u;have s:a<C.ak.length:=by simpa using q
    have G:b<C.ak.length:=by simpa using y
    by_cases m:i=a
    .subst m
     simp only[g7]at d;rw[p]at d;cases d
    by_cases z:i=b
    .subst z
     simp only[g7]at g;rw[p]at g;cases g
    simp only[e4 m]at d u;simp only[e4 z]at g u;exact h.un a b s G d g u
   rw[lL F E (by rw[t];exact d) (by rw[t];exact g),t]
 .have v:∀f∈C.ak,f.full=true->f.no≠no:=λf hf d g=>by
   obtain⟨k,n,rfl⟩:=fa hf;exact hex ⟨k,n,d,g⟩
  have e:C.view no=C.D.now no:=mQ (fs:=C.ak) (D:=C.D) (c:=C.c) (aR:=C.aR) (hd:=C.hand) v;rw[e,←B no λd g=>v _ (cJ hi) d g];refine mQ λf hf d g=>?_;rcases l6 hf with hf|rfl
  .exact v f hf d g
  .rw[p]at d;cases d
theorem A7{X:Nat->Prop}{w:J}{C:bO}(h:fU X w C){no:Nat}{s:ad}{l:c0}(hs:¬C.D.bT no=true):j0 (C.D.put no s l) C.D:=
 ⟨rfl,λ_ h=>h,λj a=>by
  have a:C.D.bT j=true:=a
  rw[AJ,if_neg λe=>hs (by rw[←e];exact a)];exact h.n_ j a⟩
theorem A8(D:aZ){no:Nat}{s:ad}{l:c0}(hs:¬D.bT no=true):(D.put no s l).key=D.key:=by
 have b:=pW D (k:=2) (.inr rfl);unfold aZ.key at b⊢;have c:(D.put no s l).jz=D.jz:=by
  funext n;exact propext ⟨λ_ h=>absurd (h no) hs,λ_ h=>absurd (h no) hs⟩
 rw[c];have a:=congrArg Prod.snd b;show((D.bP,D.bT,D.ei,D.jz,D.r1),(D.ct 2).b3.getD 3 0)=_;have a:(D.ct 2).b3.getD 3 0=D.b3.getD 3 0:=a;rw[a]
def A9(X:Nat->Prop)(C:bO)(w:J)(v:aa)(w':J):Prop:=
 ∃aE:bO,dH X w' aE/\dV C aE w w' 1/\aE.aR=C.aR/\(∀j,aE.view j=C.view j)/\(∀f∈aE.ak,f.full=true->∃g∈C.ak,g.full=true/\g.no=f.no)/\
  ((∃ (i:Nat) (hi:i<aE.ak.length),v=.tuple #[.pointer (some ⟨C.aR,i*6,none⟩),(0:Int)]/\(aE.ak[i]).full=false/\((aE.ak[i]).pins=0))\/
   (v=.tuple #[.pointer none,(3:Int)]/\¬C.D.calm 1))
theorem A_(h:dH X w C)(ax:C.D.aT<=1000000000):aJ aj 205 #[.pointer (some C.c)] w (A9 X C w):=by
 have Y:=h.raw;refine okF (ae.tU (some C.c)) aw.tU func205 ?_;(delta ae.tU jo an aS aD r1 bW;dsimp only);refine(FZ Y).use ?_;rintro _ _ ⟨he,rfl⟩;rcases he with ⟨i,hi,rfl,hf⟩|⟨rfl,ay⟩
 .exact⟨_,rfl,λ_=>⟨C,h,(dV.refl C w).mono (cO _),rfl,λ_=>rfl,λf hf I=>⟨f,hf,I,rfl⟩,.inl ⟨i,hi,rfl,hf,h.inv.pins _ (cJ hi)⟩⟩,λh=>(by cases h)⟩
 refine⟨_,rfl,λh=>(by cases h),λ_=>(F0 Y h.inv.pins).use ?_⟩;rintro _ w1 ⟨i,gs,hd,hi,rfl,A,r,aA⟩;have Z:i<gs.length:=by rw[A.1];exact hi
 have M:af (cV C) w w1:=aA.mono λq _ n=>by
  rcases n with n|n
  .exact .inl n
  .exact .inr (.inl n)
 have F:=rG (hd:=hd) (az:=C.D) h.inv A M (λq _ h=>h) h.inv.rE (λ_=>rfl) λq n=>.inl n;have Q:=rH (hd:=hd) (az:=C.D) h.inv A λ_=>rfl;obtain⟨a,G⟩:∃a:bO,a={C with ak:=gs,hand:=hd}:=⟨_,rfl⟩;have F:fU X w1 a:=by rw[G];exact F
 have r:eU w1 a:=by rw[G];exact r
 have Q:∀no,a.view no=C.view no:=by rw[G];exact Q
 have aa:∀q,cV a q↔cV C q:=by rw[G];exact λq=>Iff.rfl
 have o:a.D=C.D:=by rw[G]
 have p:a.c=C.c/\a.aR=C.aR:=by rw[G];exact⟨rfl,rfl⟩
 have K:a.ak=gs:=by rw[G]
 have B:i<a.ak.length:=by rw[K];exact Z
 have T:(a.ak[i]).full=true:=by
  have e:=A.2 i hi Z;have:(gs[i]).full=(C.ak[i]).full:=by rw[e]
  simp only[K];rw[this];exact ay _ (cJ hi)
 have ab:∀f∈a.ak,f.full=true->∃g∈C.ak,g.full=true/\g.no=f.no:=by
  rw[K];intro f hf I;obtain⟨k,ac,rfl⟩:=fa hf;have ad:k<C.ak.length:=by rw[←A.1];exact ac
  have e:=A.2 k ad ac;have aC:(gs[k]).full=(C.ak[k]).full:=by rw[e]
  have aE:(gs[k]).no=(C.ak[k]).no:=by rw[e]
  exact⟨C.ak[k],cJ ad,by rw[←aC];exact I,aE.symm⟩
 obtain⟨no,R,aF,al,aG,aH,aI⟩:=F.ok _ (cJ B) T;have f1:=jA r.f B (j:=1) (by decide)
 have fin:∀ (ai:J) (az:aZ),af (cV C) w1 ai->eU ai {a with D:=az}->dV C {a with D:=az} w ai 1->j0 az C.D->(∀j:Nat,(a.ak[i]).no≠j->az.now j=C.D.now j)->(∀j:Nat,(a.ak[i]).no=j->az.now j=(a.ak[i]).l)->(∀q,b9 az q->b9 C.D q\/w1.heap.size<=q)->
  ∃U:ah,(some ⟨C.aR,i*6,none⟩:au ah)=some U/\bC ai U [false,false,false,(0:Int),(0:Int),()]/\(6:Nat)=6/\aq (setCells ai U 0 [false,false,false,(0:Int),(0:Int),()]) λaK=>A9 X C w (.tuple #[.pointer (some ⟨C.aR,i*6,none⟩),(0:Int)]) aK:=by
  intro ai az aL t E aM am aN L;have aO:bf ai a.aR (bQ Fr.c a.ak).toArray 275:=t.f;obtain⟨s1,s2,N⟩:=xC aO B dp;rw[p.2]at s1 s2 N;have aP:fU X (setCells ai ⟨C.aR,i*6,none⟩ 0 dp.c) {a with ak:=a.ak.set i dp,D:=az}:=by
   refine xD (V:=cV C) (w:=w1) B F (aL.trans (N.mono λq _ e=>.inr (.inl e))) (λq _ n=>(aa q).2 n) (by rw[o];exact aM) (λj y=>by rw[o];exact am j λe=>y T e) (λq n=>by rw[o];exact L q n) dp rfl rfl
  have aQ:=t.v;refine⟨_,rfl,s1,rfl,aY ⟨{a with ak:=a.ak.set i dp,D:=az},⟨?_,aP⟩,?_,p.2,λj=>?_,λf hf I=>?_,.inl ⟨i,by show i<(a.ak.set i dp).length;rw[c_];exact B,rfl,by simp[dp],by simp[dp]⟩⟩⟩
  .have aU:a.c≠C.aR:=by have:=t.a1.1;rw[←p.2];exact this
   refine⟨?_,by show bf _ a.aR _ _;rw[p.2];exact s2,t.dev.ag N (λq n e=>t.a1.2.2 (by rw[show({a with D:=az}:bO).aR=a.aR from rfl,p.2,←e];exact n)),?_,?_,?_,t.a1⟩
   .have:=aQ.ag N aU
    show Var _ _ [_,.slice _ (a.ak.set i dp).length (a.ak.set i dp).length,_] _;rw[c_];exact this
   .show 8<=(a.ak.set i dp).length;rw[c_];exact t.b7
   .show(a.ak.set i dp).length<=64;rw[c_];exact t.cA
   .show a.hand<(a.ak.set i dp).length;rw[c_];exact t.hd
  .refine⟨E.c,E.d,by show(a.ak.set i dp).length=_;rw[c_];exact E.len,E.bP,E.aT,E.calm,E.ag.trans (N.mono λq _ e=>.inr (.inl e)),E.cS⟩
  .rw[←Q]
   exact A6 B F (λ_ j y=>aN j y) (λj y=>by rw[o];exact am j λe=>y T e) dp rfl j
  .rcases l6 hf with hf|rfl
   .exact ab f hf I
   .cases I
 refine⟨_,rfl,λh=>(by cases h),λ_=>kN (λai=>∃az:aZ,af (cV C) w1 ai/\eU ai {a with D:=az}/\dV C {a with D:=az} w ai 1/\j0 az C.D/\(∀j:Nat,(a.ak[i]).no≠j->az.now j=C.D.now j)/\(∀j:Nat,(a.ak[i]).no=j->az.now j=(a.ak[i]).l)/\(∀q,b9 az q->b9 C.D q\/w1.heap.size<=q)) (λq n=>⟨_,rfl,(a.ak[i]).fL,?_,λaV=>?_,λaW=>n _ ⟨C.D,.refl _ _,?_,?_,h.inv.rE,λ_ _=>rfl,λj y=>?_,λq h=>.inl h⟩⟩) ?_⟩
 .rw[aB,←p.2];exact f1
 .
  have S:=cH w1;have z:=r.ext S;obtain⟨ao,_,_⟩:=z.cells;rw[p.1,o]at ao;have f3:=jA z.f B (j:=3) (by decide);have f5:=jA z.f B (j:=5) (by decide);rw[p.2]at f3 f5;refine aY ⟨_,rfl,id,_,ao,_,rfl,id,(no:Int),?_,_,rfl,id,(a.ak[i]).b,by rw[aB];exact f5,?_⟩
  .rw[aB,f3]
   show some (Value.int .i64 (a.ak[i]).no)=_;rw[R]
  have aX:c1 w1.drew C.D:=by rw[←o];exact z.dev
  have ap:¬C.D.bT no=true:=λhs=>by
   have:=aI (by rw[o];exact hs);rw[aV]at this;cases this
  refine(uV aX (i:=no) (by rw[←o];exact aF) ax (al.1.ext S) aG λq n hf=>(al.2.2 q n).1.1 (.inr (.inr (by rw[o];exact hf)))).use ?_;rintro a9 ai a0;rcases a0 with ⟨ar,rfl,W,H⟩|⟨ar,rfl,s,W,H,a6⟩
  .have O:af (cV C) w1 ai:=(af.c7 S).trans (H.mono λq _ e=>.inr (.inr (.inl e)))
   refine⟨3,rfl,λ_=>⟨{a with D:=C.D.ct 2},⟨?_,?_⟩,?_,p.2,λj=>?_,ab,.inr ⟨rfl,λa7=>?_⟩⟩,λh=>(by cases h)⟩
   .have t:=z.v.ag H (λe=>z.a1.2.1 (.inl (by rw[o];exact e)))
    rw[o]at t;have av:=r.a1;rw[o]at av;exact⟨t,bf.ag z.f H (λe=>z.a1.2.2 (.inl (by rw[o];exact e))),W,r.b7,r.cA,r.hd,av⟩
   .have:=rG (C:=a) (hd:=a.hand) (az:=C.D.ct 2) F (gS.refl _) O (λq _ n=>(aa q).2 n) (by rw[o];exact h.inv.ct 2) (λj=>by rw[o];rfl) λq n=>.inl (by rw[o];exact n)
    exact this
   .refine⟨p.1,rfl,by show a.ak.length=_;rw[K];exact A.1,pW C.D (.inr rfl),Nat.le_succ _,λm P=>(iW (.inr rfl) h.raw.dev.f4 P).1,M.trans O,λq n=>.inl ?_⟩
    rcases n with e|e|e
    .exact .inl (by rw[←p.1];exact e)
    .exact .inr (.inl (by rw[←p.2];exact e))
    .exact .inr (.inr e)
   .rw[←Q]
    exact rH (C:=a) F (gS.refl _) (λj=>by rw[o];rfl) j
   .have:=(iW (k:=2) (m:=0) (.inr rfl) h.raw.dev.f4 a7).2
    rw[ar]at this;cases this
  .have O:af (cV C) w1 ai:=(af.c7 S).trans (H.mono λq _ e=>.inr (.inr e))
   have L:∀q,b9 (C.D.put no s (a.ak[i]).l) q->b9 C.D q\/w1.heap.size<=q:=by
    rintro q (e|e|e|⟨x,hx,e⟩)
    .exact .inl (.inl e)
    .exact .inl (.inr (.inl e))
    .exact .inl (.inr (.inr (.inl e)))
    .rcases cN.1 hx with rfl|hx
     .exact a6 q e
     .exact .inl (.inr (.inr (.inr ⟨x,(gk.1 hx).1,e⟩)))
   have dM:∀q,b9 C.D q->q≠a.c/\q≠a.aR:=λq n=>⟨λe=>r.a1.2.1 (by rw[o,←e];exact n),λe=>r.a1.2.2 (by rw[o,←e];exact n)⟩;refine⟨0,rfl,λh=>(by cases h),λ_=>n _ ⟨C.D.put no s (a.ak[i]).l,O,?_,?_,A7 h.inv ap,λj y=>?_,λj y=>?_,L⟩⟩
   .have t:=z.v.ag H (λe=>(dM _ e).1 rfl)
    rw[o]at t;have a8:a.c<w1.heap.size:=r.v.lt;have a_:a.aR<w1.heap.size:=bf.lt r.f;refine⟨t,bf.ag z.f H (λe=>(dM _ e).2 rfl),W,r.b7,r.cA,r.hd,r.a1.1,λe=>?_,λe=>?_⟩
    .rcases L _ e with u|u
     .exact(dM _ u).1 rfl
     .have:a.c<w1.heap.size:=a8
      have u:w1.heap.size<=a.c:=u;omega
    .rcases L _ e with u|u
     .exact(dM _ u).2 rfl
     .have u:w1.heap.size<=a.aR:=u
      omega
   .refine⟨p.1,rfl,by show a.ak.length=_;rw[K];exact A.1,A8 C.D ap,bk _,λm P=>(iW (.inr rfl) h.raw.dev.f4 P).1,M.trans O,λq n=>?_⟩
    rcases n with e|e|e
    .exact .inl (.inl (by rw[←p.1];exact e))
    .exact .inl (.inr (.inl (by rw[←p.2];exact e)))
    .rcases L q e with u|u
     .exact .inl (.inr (.inr u))
     .exact .inr (eH M.size u)
   .rw[n2,if_neg (λe=>y (by rw[R,e]))]
   .rw[n2,if_pos (by rw[R]at y;omega)]
 .rw[←o];exact r
 .refine⟨p.1,rfl,by show a.ak.length=_;rw[K];exact A.1,rfl,Nat.le_succ _,λm P=>fK P (Nat.le_succ _),M,λq n=>.inl ?_⟩
  rcases n with e|e|e
  .exact .inl (by rw[←p.1];exact e)
  .exact .inr (.inl (by rw[←p.2];exact e))
  .exact .inr (.inr e)
 .have:no=j:=by rw[R]at y;omega
  subst this;rw[←o];exact(aH aW).symm
 .rintro ai ⟨az,a1,a2,a3,a4,a5,dU,cX⟩
  exact fin ai az a1 a2 a3 a4 a5 dU cX
end
def rI(fs:O Fr):Prop:=∀ (i j:Nat) (hi:i<fs.length) (a:j<fs.length),(fs[i]).full=true->(fs[j]).full=true->(fs[i]).no=(fs[j]).no->i=j
theorem Ba{fs gs:O Fr}{D az:aZ}{c aR hd c' p q j:Nat}(r:rI fs)(s:rI gs)(b:∀ (i:Nat) (hi:i<fs.length),(fs[i]).full=true->(fs[i]).no=j->∃ (k:Nat) (a:k<gs.length),(gs[k]).full=true/\(gs[k]).no=j/\(gs[k]).l=(fs[i]).l)
 (d:(∀f∈fs,f.full=true->f.no≠j)->(∀f∈gs,f.full=true->f.no≠j)/\az.now j=D.now j):(bO.mk c' p gs q az).view j=(bO.mk c aR fs hd D).view j:=by
 by_cases hex:∃ (k:Nat) (a:k<fs.length),(fs[k]).full=true/\(fs[k]).no=j
 .obtain⟨k,a,h,n⟩:=hex
  obtain⟨m,t,e,g,u⟩:=b k a h n;rw[lL r a h n,lL s t e g,u]
 .have o:∀f∈fs,f.full=true->f.no≠j:=λf hf b d=>by
   obtain⟨k,a,rfl⟩:=fa hf;exact hex ⟨k,a,b,d⟩
  obtain⟨e,g⟩:=d o;rw[mQ o,mQ e,g]
section
variable {w w':J}{C:bO}{X:Nat->Prop}
theorem xE{i:Nat}(hi:i<C.ak.length){no:Nat}{V:Nat->Prop}(h:fU X w C)(hc:af V w w')(fJ:∀q,q<w.heap.size->V q->cV C q){az:aZ}(t:j0 az C.D)(E:∀j,az.now j=C.D.now j)(F:∀q,b9 az q↔b9 C.D q)
 (g:Fr) (S:g.full=true) (G:g.pins=0) (u:A4 X w' {C with ak:=C.ak.set i g,D:=az} g no) (v:∀ (k:Nat) (x:k<C.ak.length),k≠i->(C.ak[k]).full=true->(C.ak[k]).no≠no):fU X w' {C with ak:=C.ak.set i g,D:=az}:=by
 have H:=hc.size;have y:∀q,cV {C with ak:=C.ak.set i g,D:=az} q->cV C q:=λq hf=>by
  rcases hf with c|c|c
  .exact .inl c
  .exact .inr (.inl c)
  .exact .inr (.inr ((F q).1 c))
 refine⟨λf hf=>?_,λf hf z=>?_,λa b I l c p d=>?_,λq r=>⟨e_ (h.eV q r).1 H,λhf=>(h.eV q r).2 (y q hf)⟩,t.2.2⟩
 .rcases l6 hf with hf|rfl
  .exact h.pins f hf
  .exact G
 .obtain⟨k,x,rfl⟩:=fa hf
  have J:k<C.ak.length:=by simpa using x
  by_cases e:i=k
  .subst e
   simp only[g7];exact⟨no,u⟩
  .simp only[e4 e]at z⊢
   obtain⟨m,K,L,M,N,O,P,Q⟩:=h.ok _ (cJ J) z;exact⟨m,K,by show m<az.n;rw[t.1];exact L,bg.re M hc (λq r l R=>l.1 (fJ q r R)) λq _ l=>⟨λhf=>l.1 (y q hf),l.2⟩,N,λhd=>by show _=az.now m;rw[E];exact O hd,λhs=>P (t.2.1 _ hs),Q⟩
 .have A:a<C.ak.length:=by simpa using I
  have B:b<C.ak.length:=by simpa using l
  by_cases s:i=a
  .by_cases o:i=b
   .omega
   .subst s
    simp only[g7]at d;simp only[e4 o]at p d;exact absurd (by rw[←d];exact u.num) (v b B (λe=>o e.symm) p)
  .by_cases o:i=b
   .subst o
    simp only[g7]at d;simp only[e4 s]at c d;exact absurd (by rw[d];exact u.num) (v a A (λe=>s e.symm) c)
   .simp only[e4 s]at c d
    simp only[e4 o]at p d;exact h.un a b A B c p d
theorem F1{i:Nat}(hi:i<C.ak.length){no:Nat}(h:rI C.ak)(l:Fr)(m:l.no=no)(n:∀ (k:Nat) (s:k<C.ak.length),k≠i->(C.ak[k]).full=true->(C.ak[k]).no≠no):rI (C.ak.set i l):=by
 intro a b q r f g c;have o:a<C.ak.length:=by simpa using q
 have p:b<C.ak.length:=by simpa using r
 by_cases j:i=a
 .by_cases d:i=b
  .omega
  .subst j
   simp only[g7]at c;simp only[e4 d]at g c;exact absurd (by rw[←c];exact m) (n b p (λe=>d e.symm) g)
 .by_cases d:i=b
  .subst d
   simp only[g7]at c;simp only[e4 j]at f c;exact absurd (by rw[c];exact m) (n a o (λe=>j e.symm) f)
  .simp only[e4 j]at f c
   simp only[e4 d]at g c;exact h a b o p f g c
theorem xF{i:Nat}(hi:i<C.ak.length){no:Nat}(h:rI C.ak){az:aZ}(o:∀j,az.now j=C.D.now j)(a:Fr)(p:a.full=true)(g:a.no=no)(hold:(C.ak[i]).full=true->(C.ak[i]).no=no)(q:∀ (k:Nat) (n:k<C.ak.length),k≠i->(C.ak[k]).full=true->(C.ak[k]).no≠no){hd:Nat}(j:Nat):
 (bO.mk C.c C.aR (C.ak.set i a) hd az).view j=if j=no then a.l else C.view j:=by
 have hu:=F1 hi h a g q;have r:i<(C.ak.set i a).length:=by simpa using hi
 by_cases e:j=no
 .subst e
  rw[if_pos rfl,lL hu r (by simp[p]) (by simpa using g)];simp
 .rw[if_neg e]
  refine Ba (fs:=C.ak) (D:=C.D) (c:=C.c) (aR:=C.aR) (hd:=C.hand) h hu (λk n d b=>?_) λs=>⟨λf hf d b=>?_,o j⟩
  .have m:i≠k:=λt=>by
    subst t;have:=hold d;rw[b]at this;exact e I
   have u:k<(C.ak.set i a).length:=by simpa using n
   exact⟨k,u,by simp only[e4 m];exact d,by simp only[e4 m];exact b,by simp only[e4 m]⟩
  .rcases l6 hf with hf|rfl
   .exact s f hf d b
   .rw[g]at b
    exact e I
def F2(X:Nat->Prop)(C:bO)(no:Nat)(w:J)(v:aa)(w':J):Prop:=
 ∃aE:bO,dH X w' aE/\dV C aE w w' 2/\(∀j,aE.view j=C.view j)/\
  ((∃s:ad,v=.tuple #[s,(0:Int)]/\bg (λq=>w.heap.size<=q/\¬cV aE q/\¬X q) w' s (C.view no))\/(v=.tuple #[(),(3:Int)]/\¬C.D.calm 2))
theorem F3(h:dH X w C)(a7:C.D.aT<=999999999){no:Nat}(aC:no<C.D.n)(aD:2<=no):aJ aj 222 #[.pointer (some C.c),no] w (F2 X C no w):=by
 have u:=h.raw;refine okF (ae.tX (some C.c) (no:Int)) aw.tX func222 ?_;(delta ae.tX b6 an jo st r1 bG gY dZ;dsimp only);refine(A5 u _).use ?_;rintro _ _ ⟨rfl,rfl⟩;refine⟨_,rfl,λG=>?_,λ_=>(uZ u _).use ?_⟩
 .have:decide (0<=(no:Int)/\(no:Int)<C.D.n)=true:=dO ⟨I,I⟩
  rw[this]at G;cases G
 rintro _ _ ⟨aE,rfl⟩;rcases aE with ⟨i,hi,rfl,hf,aF⟩|⟨rfl,aG⟩
 .
  obtain⟨aH,aI,N,K⟩:=mP u.f hi (j:=2) (by decide) (v:=true) {C.ak[i] with used:=true} rfl;have ac:gS C.ak (C.ak.set i {C.ak[i] with used:=true}):=(gS.refl C.ak).set hi true;have L:af (cV C) w (w.setCell ⟨C.aR,i*6+2,none⟩ true):=K.mono λq _ e=>.inr (.inl e);have hinv:=rG (hd:=C.hand) (az:=C.D) h.inv ac L (λq _ h=>h) h.inv.rE (λ_=>rfl) λq p=>.inl p;have aK:=rH (hd:=C.hand) (az:=C.D) h.inv ac λ_=>rfl;obtain⟨w1,ad⟩:∃w1,w1=w.setCell ⟨C.aR,i*6+2,none⟩ true:=⟨_,rfl⟩;rw[←ad]at N K L hinv;have O:eU w1 {C with ak:=C.ak.set i {C.ak[i] with used:=true}}:=by
   refine⟨?_,N,u.dev.ag K (λq p e=>u.a1.2.2 (e▸p)),?_,?_,?_,u.a1⟩
   .have:=u.v.ag K u.a1.1
    show Var _ _ [_,.slice _ (C.ak.set i _).length (C.ak.set i _).length,_] _;rw[c_];exact this
   .show 8<=(C.ak.set i _).length;rw[c_];exact u.b7
   .show(C.ak.set i _).length<=64;rw[c_];exact u.cA
   .show C.hand<(C.ak.set i _).length;rw[c_];exact u.hd
  obtain⟨a,P⟩:∃a:bO,a={C with ak:=C.ak.set i {C.ak[i] with used:=true}}:=⟨_,rfl⟩;have Q:dH X w1 a:=by rw[P];exact⟨O,hinv⟩
  have dz:i<(C.ak.set i {C.ak[i] with used:=true}).length:=by simpa using hi
  have f5:=jA N dz (j:=5) (by decide);obtain⟨m,b7,cA,ah,al,a8,a9,a_⟩:=hinv.ok ((C.ak.set i {C.ak[i] with used:=true})[i]) (cJ dz) (by simp[hf]);have aL:((C.ak.set i {C.ak[i] with used:=true})[i]).b=(C.ak[i]).b:=by simp
  have am:((C.ak.set i {C.ak[i] with used:=true})[i]).l=(C.ak[i]).l:=by simp
  rw[aL,am]at ah;rw[am]at al;refine⟨_,rfl,λ_=>⟨_,rfl,by rw[aB];exact aH,by rw[aB];exact aI,?_⟩,λh=>(by cases h)⟩;rw[aB,←ad];refine aY ⟨_,rfl,(C.ak[i]).b,by rw[aB,f5];simp[Fr.c],(kY (B:=λq=>w1.heap.size<=q) ah.1 (by rw[al];omega) (λq p=>p)).use ?_⟩;rintro _ ai ⟨s,rfl,hs,ao,_⟩;have aM:C.view no=(C.ak[i]).l:=lL (fs:=C.ak) (D:=C.D) (c:=C.c) (aR:=C.aR) (hd:=C.hand) h.inv.un hi hf aF;have aN:=L.size;refine⟨s,rfl,a,Q.ext ao,?_,?_,.inl ⟨s,rfl,?_⟩⟩
  .rw[P]
   exact⟨rfl,rfl,by show(C.ak.set i _).length=_;rw[c_],rfl,Nat.le_add_right _ _,λm R=>fK R I,L.trans (af.c7 ao),λq p=>.inl p⟩
  .intro j;rw[P];exact aK j
  .rw[aM]
   refine bg.aX hs λq _ p=>⟨I,λhf=>?_,λH=>?_⟩
   .have:=Q.raw.lt hf;omega
   .have:=(Q.inv.eV q H).1;omega
 .
  refine⟨_,rfl,λh=>(by cases h),λ_=>(A_ h I).use ?_⟩;rintro _ w1 ⟨a,o,z,E,J,aO,O⟩;rcases O with ⟨i,hi,rfl,aP,ba⟩|⟨rfl,aQ⟩
  .refine⟨_,_,rfl,λh=>(by simp at h),λ_=>⟨_,rfl,some C.D.d,?_,?_⟩⟩
   .have:=o.raw.cells.1
    rw[z.c,z.d]at this;exact this
   have S:no<a.D.n:=by rw[z.n];exact aC
   have bb:=z.aT;rw[←z.d];refine(Fb o.raw.dev S I).use ?_;rintro bc ai ⟨ap,M,aS⟩;have aq:=λq=>o.raw.lt (q:=q);have T:af (cV a) w1 ai:=M.mono λq _ e=>.inr (.inr (.inl e))
   have U:∀f∈a.ak,f.full=true->f.no≠no:=λf hf aU aV=>by
    obtain⟨g,hg,r,aW⟩:=aO f hf aU;exact aG g hg r (by rw[aW,aV])
   have aZ:a.D.calm 1\/¬C.D.calm 2:=by
    rcases Classical.em (C.D.calm 2) with r|r
    .exact .inl (z.calm 1 r)
    .exact .inr r
   have ar:a.view no=a.D.now no:=mQ (fs:=a.ak) (D:=a.D) (c:=a.c) (aR:=a.aR) (hd:=a.hand) U;have W:∀q,b9 a.D q->q≠a.c/\q≠a.aR:=λq p=>⟨λe=>o.raw.a1.2.1 (e▸p),λe=>o.raw.a1.2.2 (e▸p)⟩;have a0:fU X ai {a with D:=a.D.ct 1}:=rG (C:=a) (hd:=a.hand) (az:=a.D.ct 1) o.inv (gS.refl _) T (λq _ h=>h) (o.inv.ct 1) (λ_=>rfl) λq p=>.inl p;have x:dV C {a with D:=a.D.ct 1} w ai 2:=by
    have:dV a {a with D:=a.D.ct 1} w1 ai 1:=⟨rfl,rfl,rfl,pW a.D (.inl rfl),Nat.le_succ _,λm R=>(iW (.inl rfl) o.raw.dev.f4 R).1,T,λq p=>.inl p⟩;exact z.trans this
   have a2:∀j,({a with D:=a.D.ct 1}:bO).view j=C.view j:=λj=>by rw[←J];exact rH (C:=a) o.inv (gS.refl _) (λ_=>rfl) j
   have Y:eU ai {a with D:=a.D.ct 1}:=⟨o.raw.v.ag M (λe=>(W _ (.inl rfl)).1 e.symm),bf.ag o.raw.f M (λe=>(W _ (.inl rfl)).2 e.symm),ap,o.raw.b7,o.raw.cA,o.raw.hd,o.raw.a1⟩;rcases aS with ⟨G,rfl⟩|⟨G,s,rfl,hs⟩
   .refine⟨⟨none,0,0⟩,3,rfl,λ_=>⟨{a with D:=a.D.ct 1},⟨Y,a0⟩,x,a2,.inr ⟨rfl,?_⟩⟩,λh=>(by simp at h)⟩
    rcases aZ with r|r
    .have:=(iW (k:=1) (m:=0) (.inl rfl) o.raw.dev.f4 r).2
     rw[G]at this;cases this
    .exact r
   .have au:(a.D.now no).length=256:=o.raw.dev.rB S
    obtain⟨s1,s2,A⟩:=xC Y.f hi ⟨true,false,true,(no:Int),0,s,a.D.now no⟩;rw[E]at s1 s2 A;have bd:=M.size;have aN:=z.ag.size;refine⟨s,_,rfl,λh=>(by simp at h),λ_=>⟨_,rfl,s1,rfl,?_⟩⟩;obtain⟨y,av⟩:∃y,y=setCells ai ⟨C.aR,i*6,none⟩ 0 (Fr.c ⟨true,false,true,(no:Int),0,s,a.D.now no⟩):=⟨_,rfl⟩;rw[←av]at s2 A;have hg:setCells ai ⟨C.aR,i*6,none⟩ 0 [true,false,true,no,(0:Int),s]=y:=av.symm;rw[hg];have ax:af (cV a) ai y:=A.mono λq _ e=>.inr (.inl (by rw[E];exact e));have ay:bg (λq=>w1.heap.size<=q) y s (a.D.now no):=bg.ag hs A λq p e=>by
     have:=aq C.aR (.inr (.inl E.symm));omega
    have a3:fU X y {a with ak:=a.ak.set i ⟨true,false,true,(no:Int),0,s,a.D.now no⟩,D:=a.D.ct 1}:=by
     refine xE (w:=w1) (V:=cV a) (az:=a.D.ct 1) hi (no:=no) o.inv (T.trans ax) (λq _ h=>h) (o.inv.ct 1) (λ_=>rfl) (λq=>Iff.rfl) ⟨true,false,true,(no:Int),0,s,a.D.now no⟩ rfl rfl ⟨rfl,S,?_,au,λ_=>rfl,λ_=>rfl,aD⟩ λk Z _ r=>U _ (cJ Z) r;refine bg.aX ay λq _ p=>⟨λhf=>?_,λH=>?_⟩
     .have:cV a q:=hf
      have:=aq q this;omega
     .have:=(o.inv.eV q H).1;omega
    have a4:∀j,({a with ak:=a.ak.set i ⟨true,false,true,(no:Int),0,s,a.D.now no⟩,D:=a.D.ct 1}:bO).view j=C.view j:=λj=>by
     have:=xF (hd:=a.hand) (az:=a.D.ct 1) hi (no:=no) o.inv.un (λ_=>rfl) ⟨true,false,true,(no:Int),0,s,a.D.now no⟩ rfl rfl (λr=>by rw[aP]at r;cases r) (λk Z _ r=>U _ (cJ Z) r) j;rw[show({a with ak:=a.ak.set i ⟨true,false,true,(no:Int),0,s,a.D.now no⟩,D:=a.D.ct 1}:bO)=bO.mk a.c a.aR (a.ak.set i ⟨true,false,true,(no:Int),0,s,a.D.now no⟩) a.hand (a.D.ct 1) from rfl,this];by_cases e:j=no
     .rw[if_pos e,e,←J,ar]
     .rw[if_neg e,J]
    have a5:eU y {a with ak:=a.ak.set i ⟨true,false,true,(no:Int),0,s,a.D.now no⟩,D:=a.D.ct 1}:=by
     refine⟨?_,by show bf _ a.aR _ _;rw[E];exact s2,ap.ag A (λq p e=>(W q p).2 (by rw[E];exact e)),?_,?_,?_,o.raw.a1⟩
     .have:=Y.v.ag A (λe=>o.raw.a1.1 (by rw[E];exact e))
      show Var _ _ [_,.slice _ (a.ak.set i _).length (a.ak.set i _).length,_] _;rw[c_];exact this
     .show 8<=(a.ak.set i _).length;rw[c_];exact o.raw.b7
     .show(a.ak.set i _).length<=64;rw[c_];exact o.raw.cA
     .show a.hand<(a.ak.set i _).length;rw[c_];exact o.raw.hd
    obtain⟨F,aa⟩:∃F:bO,F={a with ak:=a.ak.set i ⟨true,false,true,(no:Int),0,s,a.D.now no⟩,D:=a.D.ct 1}:=⟨_,rfl⟩;have ab:dH X y F:=by rw[aa];exact⟨a5,a3⟩
    have a6:dV C F w y 2:=by
     rw[aa];exact⟨x.c,x.d,by show(a.ak.set i _).length=_;rw[c_];exact x.len,x.bP,x.aT,x.calm,c5 x.ag ax λq p h=>(x.cS q h).resolve_right I,x.cS⟩
    refine aY ((kY (B:=λq=>y.heap.size<=q) ay.1 (by rw[au];omega) (λq p=>p)).use ?_);rintro _ be ⟨t,rfl,ht,aA,_⟩;have bh:=A.size;refine⟨t,rfl,F,ab.ext aA,?_,?_,.inl ⟨t,rfl,?_⟩⟩
    .exact(a6.trans (dV.ext F aA)).mono I
    .intro j;rw[aa];exact a4 j
    .rw[←J,ar]
     refine bg.aX ht λq _ p=>⟨I,λhf=>?_,λH=>?_⟩
     .have:=ab.raw.lt hf;omega
     .have:=(ab.inv.eV q H).1;omega
  .refine⟨_,_,rfl,λ_=>⟨a,o,z.mono I,J,.inr ⟨rfl,λhc=>aQ (fK hc I)⟩⟩,λh=>(by simp at h)⟩
end
section
variable {w w':J}{C:bO}{X:Nat->Prop}
def Bb(X:Nat->Prop)(C:bO)(no:Nat)(l:c0)(w:J)(v:aa)(w':J):Prop:=
 ∃aE:bO,dH X w' aE/\dV C aE w w' 1/\
  ((v=.int .i64 0/\∀j,aE.view j=if j=no then l else C.view j)\/(v=.int .i64 3/\¬C.D.calm 1/\∀j,aE.view j=C.view j))
theorem xG{i:Nat}{a:Fr}(h:eU w C)(hc:af (λq=>q=C.aR) w w')(b:bf w' C.aR (bQ Fr.c (C.ak.set i a)).toArray 275):eU w' {C with ak:=C.ak.set i a}:=by
 refine⟨?_,b,h.dev.ag hc (λq d e=>h.a1.2.2 (e▸d)),?_,?_,?_,h.a1⟩
 .have:=h.v.ag hc h.a1.1
  show Var _ _ [_,.slice _ (C.ak.set i _).length (C.ak.set i _).length,_] _;rw[c_];exact this
 .show 8<=(C.ak.set i _).length;rw[c_];exact h.b7
 .show(C.ak.set i _).length<=64;rw[c_];exact h.cA
 .show C.hand<(C.ak.set i _).length;rw[c_];exact h.hd
theorem set_set{fs:O Fr}{i:Nat}(f g:Fr):(fs.set i f).set i g=fs.set i g:=List.set_set ..
theorem Bc(h:dH X w C)(bu:C.D.aT<=999999999){no:Nat}(aF:no<C.D.n)(aG:2<=no)(aH:¬C.D.bT no=true){b:ad}{l:c0}(am:Src 1 w b (ax l))(ao:l.length=256)(ap:∀q,ay b q->q<w.heap.size/\¬cV C q):
 aJ aj 146 #[.pointer (some C.c),no,b] w (Bb X C no l w):=by
 have R:=h.raw;have aI:=len8 am;refine okF (ae.tI (some C.c) (no:Int) b) aw.tI func146 ?_;(delta ae.tI b6 an jo gY st bG;dsimp only);refine(A5 R _).use ?_;rintro _ _ ⟨rfl,rfl⟩;have aK:decide (0<=(no:Int)/\(no:Int)<C.D.n)=true:=dO ⟨I,I⟩;refine⟨_,rfl,λo=>?_,λ_=>(uZ R _).use ?_⟩
 .rw[aK,aI,ao]at o
  simp at o
 rintro _ _ ⟨aL,rfl⟩
 have fin:∀ (w1:J) (a:bO) (i:Nat) (hi:i<a.ak.length) (f1:Fr),dH X w1 a->dV C a w w1 1->a.aR=C.aR->(∀j,a.view j=C.view j)->f1.pins=0->∀ai:J,bf ai a.aR (bQ Fr.c (a.ak.set i f1)).toArray 275->af (λq=>q=a.aR) w1 ai->f1.full=true->f1.no=(no:Int)->
  ((a.ak[i]).full=true->(a.ak[i]).no=(no:Int))->(∀ (k:Nat) (F:k<a.ak.length),k≠i->(a.ak[k]).full=true->(a.ak[k]).no≠(no:Int))->
  Calls aj 46 #[b] ai λaM S=>∃ar:ad,aM=.returned ar/\∃K:ah,(some ⟨C.aR,i*6,none⟩:au ah)=some K/\(∃u:aa,S.cell? (K.add 5)=some u)/\S.frozen? (K.add 5)=false/\
   aq (S.setCell (K.add 5) ar) λT=>∃L:ah,(some ⟨C.aR,i*6,none⟩:au ah)=some L/\(∃u:aa,T.cell? (L.add 1)=some u)/\T.frozen? (L.add 1)=false/\
   aq (T.setCell (L.add 1) true) λU=>∃M:ah,(some ⟨C.aR,i*6,none⟩:au ah)=some M/\(∃u:aa,U.cell? (M.add 2)=some u)/\U.frozen? (M.add 2)=false/\
   aq (U.setCell (M.add 2) true) λaN=>Bb X C no l w (0:Int) aN:=by
  intro w1 a i hi f1 z r y aO W ai aP N O av hold aA;have bv:=r.ag.size;have bw:=N.size;have bx:a.aR<w1.heap.size:=z.raw.lt (.inr (.inl rfl));have aQ:Src 1 ai b (ax l):=by
   refine(am.ag r.ag λq m hf=>(ap q m).2 hf).ag N λq m e=>(ap q m).2 (.inr (.inl (by rw[←y];exact e)))
  refine(kY (B:=λq=>ai.heap.size<=q) aQ I (λq m=>m)).use ?_;rintro _ aS ⟨s,rfl,hs,aC,_⟩;have aU:=bf.ext aP aC;have Y:i<(a.ak.set i f1).length:=by rw[c_];exact hi
  have Z:(a.ak.set i f1)[i]=f1:=by simp
  obtain⟨a1,a2,a3,a4⟩:=mP aU Y (j:=5) (by decide) (v:=s) {f1 with b:=s} (by rw[Z];rfl);rw[set_set]at a3;have aV:i<(a.ak.set i {f1 with b:=s}).length:=by rw[c_];exact hi
  have aW:(a.ak.set i {f1 with b:=s})[i]={f1 with b:=s}:=by simp
  obtain⟨cv,bS,A,E⟩:=mP a3 aV (j:=1) (by decide) (v:=true) {f1 with b:=s,fL:=true} (by rw[aW];rfl);rw[set_set]at A;have aZ:i<(a.ak.set i {f1 with b:=s,fL:=true}).length:=by rw[c_];exact hi
  have a0:(a.ak.set i {f1 with b:=s,fL:=true})[i]={f1 with b:=s,fL:=true}:=by simp
  obtain⟨d1,d2,d3,d4⟩:=mP A aZ (j:=2) (by decide) (v:=true) {f1 with b:=s,fL:=true,used:=true,l:=l} (by rw[a0];rfl);rw[set_set]at d3;rw[y]at a1 a2 a3 a4 cv bS A E d1 d2 d3 d4 N;refine⟨s,rfl,_,rfl,by rw[aB];exact a1,by rw[aB];exact a2,?_⟩;rw[aB];refine aY ⟨_,rfl,by rw[aB];exact cv,by rw[aB];exact bS,?_⟩;rw[aB];refine aY ⟨_,rfl,by rw[aB];exact d1,by rw[aB];exact d2,?_⟩;rw[aB];have P:=(N.trans (af.c7 aC)).trans (a4.trans (E.trans d4));obtain⟨x,t⟩:∃x:Fr,x={f1 with b:=s,fL:=true,used:=true,l:=l}:=⟨_,rfl⟩;obtain⟨G,ab⟩:∃G,G=(((aS.setCell ⟨C.aR,i*6+5,none⟩ s).setCell ⟨C.aR,i*6+1,none⟩ true).setCell ⟨C.aR,i*6+2,none⟩ true):=⟨_,rfl⟩;rw[←ab,←t]at d3;rw[←ab]at P⊢;have a5:bg (λq=>ai.heap.size<=q) G s l:=by
   have o:=bg.ag hs a4 λq m e=>by rw[←y]at e;omega
   have H:=bg.ag o E λq m e=>by rw[←y]at e;omega
   have a6:=bg.ag H d4 λq m e=>by rw[←y]at e;omega
   rw[ab];exact a6
  have a7:eU G {a with ak:=a.ak.set i x}:=xG z.raw (by rw[y];exact P) (by rw[y];exact d3);have a8:fU X G {a with ak:=a.ak.set i x}:=by
   refine xE (w:=w1) (V:=λq=>q=C.aR) (az:=a.D) hi (no:=no) z.inv P (λq _ e=>.inr (.inl (by rw[y];exact e))) z.inv.rE (λ_=>rfl) (λq=>Iff.rfl) x (by rw[t];exact O) (by rw[t];exact W) ⟨by rw[t];exact av,by show no<a.D.n;rw[r.n];exact aF,?_,by rw[t];exact ao,λhd=>(by rw[t]at hd;cases hd),λhs=>absurd (by rw[←r.bT];exact hs) aH,aG⟩ aA;rw[t];refine bg.aX a5 λq _ m=>⟨λhf=>?_,λa9=>?_⟩
   .have:cV a q:=hf
    have:=z.raw.lt this;omega
   .have:=(z.inv.eV q a9).1;omega
  refine aY ⟨{a with ak:=a.ak.set i x},⟨a7,a8⟩,⟨r.c,r.d,by show(a.ak.set i _).length=_;rw[c_];exact r.len,r.bP,r.aT,r.calm,c5 r.ag P λq m e=>.inr (.inl e),r.cS⟩,.inl ⟨rfl,λj=>?_⟩⟩;have:=xF (C:=a) (hd:=a.hand) (az:=a.D) hi (no:=no) z.inv.un (λ_=>rfl) x (by rw[t];exact O) (by rw[t];exact av) hold aA j;rw[show({a with ak:=a.ak.set i x}:bO)=bO.mk a.c a.aR (a.ak.set i x) a.hand a.D from rfl,this,aO];rw[t]
 rcases aL with ⟨i,hi,rfl,hf,ac⟩|⟨rfl,a_⟩
 .refine⟨_,rfl,cz (λp w'=>p=some ⟨C.aR,i*6,none⟩/\w=w') (λq m=>⟨λh=>(by cases h),λ_=>m _ _ ⟨rfl,rfl⟩⟩) ?_⟩
  rintro _ _ ⟨rfl,rfl⟩;have e:C.ak.set i C.ak[i]=C.ak:=List.set_getElem_self _;exact fin w C i hi C.ak[i] h ((dV.refl C w).mono (cO _)) rfl (λ_=>rfl) (h.inv.pins _ (cJ hi)) w (by rw[e];exact R.f) (.refl _ _) hf ac (λ_=>ac) λk F ba o H=>ba (h.inv.un k i F hi o hf (by rw[H,ac]))
 .refine⟨_,rfl,cz (λp ai=>∃ (w1:J) (a:bO) (i:Nat) (hi:i<a.ak.length) (f1:Fr),p=some ⟨C.aR,i*6,none⟩/\dH X w1 a/\dV C a w w1 1/\a.aR=C.aR/\(∀j,a.view j=C.view j)/\f1.pins=0/\bf ai a.aR (bQ Fr.c (a.ak.set i f1)).toArray 275/\af (λq=>q=a.aR) w1 ai/\f1.full=true/\f1.no=(no:Int)/\
   ((a.ak[i]).full=true->(a.ak[i]).no=(no:Int))/\(∀ (k:Nat) (F:k<a.ak.length),k≠i->(a.ak[k]).full=true->(a.ak[k]).no≠(no:Int))) (λq m=>⟨λ_=>(A_ h I).use ?_,λh=>(by cases h)⟩) ?_⟩
  .rintro _ w1 ⟨a,al,aD,Q,aE,bb,bc⟩
   have bd:∀f∈a.ak,f.full=true->f.no≠(no:Int):=λf hf O be=>by
    obtain⟨g,hg,o,H⟩:=bb f hf O;exact a_ g hg o (by rw[H,be])
   rcases bc with ⟨i,hi,rfl,bh,W⟩|⟨rfl,bi⟩
   .obtain⟨a1,a2,a3,a4⟩:=mP al.raw.f hi (j:=0) (by decide) (v:=true) {a.ak[i] with full:=true} rfl
    have Y:i<(a.ak.set i {a.ak[i] with full:=true}).length:=by rw[c_];exact hi
    have Z:(a.ak.set i {a.ak[i] with full:=true})[i]={a.ak[i] with full:=true}:=by simp
    obtain⟨cv,bS,A,E⟩:=mP a3 Y (j:=3) (by decide) (v:=no) {a.ak[i] with full:=true,no:=(no:Int)} (by rw[Z];rfl);rw[set_set]at A;rw[Q]at a1 a2 cv bS A a4 E;refine⟨_,_,rfl,λh=>(by simp at h),λ_=>⟨_,rfl,a1,a2,aY ⟨_,rfl,by rw[aB];exact cv,by rw[aB];exact bS,aY ?_⟩⟩⟩;rw[aB];exact m _ _ ⟨w1,a,i,hi,{a.ak[i] with full:=true,no:=(no:Int)},rfl,al,aD,Q,aE,W,by rw[Q];exact A,by rw[Q];exact a4.trans E,rfl,rfl,λo=>(by rw[bh]at o;cases o),λk F _ o=>bd _ (cJ F) o⟩
   .exact⟨_,_,rfl,λ_=>⟨a,al,aD,.inr ⟨rfl,bi,aE⟩⟩,λh=>(by simp at h)⟩
  .rintro p ai ⟨w1,a,i,hi,f1,rfl,bj,bk,bl,bm,bn,bo,bp,bq,br,bs,bt⟩
   exact fin w1 a i hi f1 bj bk bl bm bn ai bo bp bq br bs bt
theorem F4(h:dH X w C)(no:Nat):aJ aj 127 #[.pointer (some C.c),no] w (λv w'=>(∃b:al,v=b)/\∃aE:bO,dH X w' aE/\dV C aE w w' 0/\(∀j,j≠no->aE.view j=C.view j)/\aE.D=C.D/\∀f∈aE.ak,f.full=true->f∈C.ak/\f.no≠(no:Int)):=by
 have l:=h.raw;refine okF (ae.tG (some C.c) (no:Int)) aw.tG func127 ?_;(delta ae.tG jo an aD;dsimp only);refine(uZ l _).use ?_;rintro _ _ ⟨A,rfl⟩;rcases A with ⟨i,hi,rfl,hf,u⟩|⟨rfl,B⟩
 .have f4:=jA l.f hi (j:=4) (by decide)
  have E:=h.inv.pins _ (cJ hi);refine⟨_,rfl,cz (λb w'=>b=false/\w=w') (λq m=>⟨λh=>(by cases h),λ_=>⟨_,rfl,(C.ak[i]).pins,by rw[aB];exact f4,m _ _ ⟨by rw[E];rfl,rfl⟩⟩⟩) ?_⟩;rintro _ _ ⟨rfl,rfl⟩;obtain⟨s1,s2,n⟩:=xC l.f hi dp;refine⟨λh=>(by cases h),λ_=>⟨_,rfl,s1,rfl,aY ⟨⟨true,rfl⟩,{C with ak:=C.ak.set i dp},⟨xG l n s2,?_⟩,?_,λj F=>?_,rfl,λf G d=>?_⟩⟩⟩
  .exact xD (V:=λq=>q=C.aR) (az:=C.D) hi h.inv n (λq _ e=>.inr (.inl e)) h.inv.rE (λ_ _=>rfl) (λq h=>.inl h) dp rfl rfl
  .exact⟨rfl,rfl,by show(C.ak.set i _).length=_;rw[c_],rfl,bk _,λ_ h=>h,n.mono λq _ e=>.inr (.inl e),λq h=>.inl h⟩
  .refine Ba (fs:=C.ak) (D:=C.D) (c:=C.c) (aR:=C.aR) (hd:=C.hand) h.inv.un (λa b H J o p r=>?_) (λk s d g=>?_) λK=>⟨λf hf d g=>?_,rfl⟩
   .have L:a<C.ak.length:=by simpa using H
    have M:b<C.ak.length:=by simpa using J
    by_cases x:i=a
    .subst x
     simp[dp]at o
    by_cases y:i=b
    .subst y
     simp[dp]at p
    simp only[e4 x]at o r;simp only[e4 y]at p r;exact h.inv.un a b L M o p r
   .have t:i≠k:=λe=>by
     subst e;rw[u]at g;exact F I
    exact⟨k,by rw[c_];exact s,by simp only[e4 t];exact d,by simp only[e4 t];exact g,by simp only[e4 t]⟩
   .rcases l6 hf with hf|rfl
    .exact K f hf d g
    .cases d
  .obtain⟨k,s,rfl⟩:=fa G
   have z:k<C.ak.length:=by simpa using s
   by_cases e:i=k
   .subst e
    simp[dp]at d
   .simp only[e4 e]at d⊢
    exact⟨cJ z,λg=>e (h.inv.un i k hi z hf d (u.trans g.symm))⟩
 .refine⟨_,rfl,cz (λb w'=>b=true/\w=w') (λq m=>⟨λ_=>m _ _ ⟨rfl,rfl⟩,λh=>(by cases h)⟩) ?_⟩
  rintro _ _ ⟨rfl,rfl⟩;exact⟨λ_=>⟨⟨false,rfl⟩,C,h,dV.refl C w,λ_ _=>rfl,rfl,λf hf d=>⟨hf,B f hf d⟩⟩,λh=>(by cases h)⟩
end
theorem F5(n:Nat):gy aj 275 n=(bQ Fr.c (List.replicate n dp)).toArray:=by
 have a:((Tryz.prog.info? 275).bind (·.zero)).map (·.cells)=some dp.c.toArray:=by kernel_rfl
 have hc:Tryz.prog.cellsOf 275=6:=by kernel_rfl
 unfold gy;rw[hc]
 cases hi:(Tryz.prog.info? 275).bind (·.zero) with
 |none=>rw[hi]at a;cases a
 |some z=>
  rw[hi]at a;simp only[l1,Option.some.injEq]at a;simp only[Option.getD_some,a];apply Array.ext
  .simp[gu (c:=Fr.c) (sz:=6) (List.replicate n dp) (λx _=>rfl)]
  .intro i b e
   have f:n*6≠0:=by
    intro h;simp[h]at b
   have m:i<n*6:=by simpa using b
   simp only[f,if_false,Array.getElem_map,Array.getElem_range,List.getElem_toArray];have d:dp.c.toArray.size=6:=rfl;have aH:i%6<6:=g4 _ I;have g:i/6<(List.replicate n dp).length:=by rw[l7];omega
   have hg:=uT (c:=Fr.c) (sz:=6) (l:=List.replicate n dp) (λx _=>rfl) (i:=i/6) (j:=i%6) g aH;rw[show i/6*6+i%6=i from I]at hg;have k:i<(bQ Fr.c (List.replicate n dp)).length:=by simpa using e
   rw[dr k]at hg;have he:((List.replicate n dp)[i/6]).c=dp.c:=by simp
   rw[he,dr (show i%6<dp.c.length from aH)]at hg;have hg:=Option.some.inj hg;rw[hg,d,getElem!_pos dp.c.toArray (i%6) (by rw[d];exact aH)];simp
def k0(c aR k:Nat)(D:aZ):bO:=⟨c,aR,List.replicate k dp,0,D⟩
theorem pj{w:J}{D:aZ}(h:c1 w D){k:Nat}(a:8<=k)(n:k<=64)(o:∀j,D.bT j=true->D.eT j=D.ei j):aJ aj 120 #[.pointer (some D.d),k] w (λv w'=>∃c aR:Nat,v=.tuple #[.pointer (some c),(0:Int)]/\dH (λ_=>False) w' (k0 c aR k D)/\Ext w w'/\w.heap.size<=c/\w.heap.size<=aR):=by
 refine okF (ae.pj (some D.d) (k:Int)) aw.pj func120 ?_;delta ae.pj an jS Y;refine⟨λh=>?_,λ_=>⟨⟨I,I,I,I⟩,?_⟩⟩
 .simp only[Option.isNone_some,lZ,ie,cu]at h;omega
 rw[F5,dm];have l:=bf.new w (bQ Fr.c (List.replicate k dp)).toArray 275;have b:=dE w (.cells (bQ Fr.c (List.replicate k dp)).toArray 275);have p:=rp w (.cells (bQ Fr.c (List.replicate k dp)).toArray 275);obtain⟨w1,r⟩:∃w1,w1=w.alloc (.cells (bQ Fr.c (List.replicate k dp)).toArray 275):=⟨_,rfl⟩;rw[←r]at l b p⊢;refine aY (a_ (vs:=[.pointer (some D.d),.slice (some w.heap.size) k k,(0:Int)]) rfl λai s g u=>⟨w1.heap.size,w.heap.size,rfl,⟨⟨?_,bf.ext l g,h.ext (b.trans g),?_,?_,?_,?_,?_,?_⟩,⟨λf hf=>?_,λf hf m=>?_,λi j hi x a=>?_,λq t=>t.elim,o⟩⟩,b.trans g,I,bk _⟩)
 .show Var _ _ [_,.slice _ (List.replicate k dp).length (List.replicate k dp).length,_] _
  rw[l7];exact s
 .show 8<=(List.replicate k dp).length;simpa using a
 .show(List.replicate k dp).length<=64;simpa using n
 .show 0<(List.replicate k dp).length;simp;omega
 .show w1.heap.size≠w.heap.size;omega
 .intro e
  have:=h.lt e;have:w1.heap.size<w.heap.size:=this;omega
 .intro e
  have:=h.lt e;have:w.heap.size<w.heap.size:=this;omega
 .rw[vn hf];rfl
 .rw[vn hf]at m;cases m
 .simp[k0,dp]at a
structure aF where
 a8:Nat
 gen:Nat
 root:Nat
 aG:Nat
 C:bO
 sb:Nat
 n:Nat
 f:Nat->al
 g:Nat->al
 s1:ad
 s2:ad
 E:Nat->Prop
 G:Nat->Prop
 P:Nat->au aA
def aF.cj(T:aF)(E G:Nat->Prop):aF:={T with E:=E,G:=G}
def aF.bm(T:aF)(C:bO)(P:Nat->au aA):aF:={T with C:=C,P:=P}
def aF.X(T:aF)(q:Nat):Prop:=q=T.a8\/gb T.sb T.s1 T.s2 q\/T.E q\/T.G q
def aF.M(T:aF)(q:Nat):Prop:=cV T.C q\/T.X q
def aF.N(T:aF)(q:Nat):Prop:=cV T.C q\/q=T.a8\/gb T.sb T.s1 T.s2 q\/T.G q
theorem aF.gd{T:aF}{q:Nat}(h:T.N q):T.M q:=h.imp id (Or.imp id (Or.imp id .inr))
def gw(gen:Nat)(leaf:al)(no:Nat)(l:c0)(n:aA):Prop:=
 ∃p:iz,eY (no:Int) l=.ok p/\p.gen<=gen/\p.kind=(if leaf then 1 else 2)/\kX leaf p.body n/\2<=no
def k1(T:aF):O aa:=[.pointer (some T.C.c),.pointer (some T.sb),.int .u64 (T.gen:Nat),T.root,T.aG]
structure bU(w:J)(T:aF):Prop where
 t:Var w T.a8 (k1 T) 243
 s:e1 w T.sb T.n T.f T.g T.s1 T.s2
 ca:dH T.X w T.C
 jB:¬gb T.sb T.s1 T.s2 T.a8
 dA:∀q,T.E q->q≠T.a8/\¬gb T.sb T.s1 T.s2 q/\¬T.G q
 iC:∀q,T.G q->q≠T.a8/\¬gb T.sb T.s1 T.s2 q
 n:T.C.D.n=T.n
 num:T.root<T.n/\T.aG<=12/\T.gen<18446744073709551616
 ez:∀no b1,T.P no=some b1->no<T.n/\gw T.gen b1.leaf no (T.C.view no) b1
 bT:∀j,T.C.D.bT j=true->T.g j=true\/T.C.D.ro
 low:T.g 0=true/\T.g 1=true
structure bD(T ao:aF)(w w':J)(k:Nat):Prop where
 a8:ao.a8=T.a8
 sb:ao.sb=T.sb
 n:ao.n=T.n
 g:ao.g=T.g
 s1:ao.s1=T.s1
 s2:ao.s2=T.s2
 c:ao.C.c=T.C.c
 d:ao.C.D.d=T.C.D.d
 bP:ao.C.D.key=T.C.D.key
 gen:ao.gen=T.gen
 aT:ao.C.D.aT<=T.C.D.aT+k
 calm:∀m,T.C.D.calm (m+k)->ao.C.D.calm m
 ag:af T.N w w'
 cS:∀q,ao.M q->T.M q\/w.heap.size<=q
 fn:∀q,ao.N q->T.N q\/w.heap.size<=q
theorem bD.bT{T ao:aF}{w w':J}{k:Nat}(h:bD T ao w w' k):ao.C.D.bT=T.C.D.bT/\ao.C.D.ei=T.C.D.ei:=by
 have:=congrArg Prod.fst h.bP;exact⟨congrArg (λp=>p.2.1) this,congrArg (λp=>p.2.2.1) this⟩
theorem bD.refl(T:aF)(w:J):bD T T w w 0:=⟨rfl,rfl,rfl,rfl,rfl,rfl,rfl,rfl,rfl,rfl,bk _,λ_ h=>h,.refl _ _,λ_ h=>.inl h,λ_ h=>.inl h⟩
theorem bD.ext{w w':J}(T:aF)(h:Ext w w'):bD T T w w' 0:=⟨rfl,rfl,rfl,rfl,rfl,rfl,rfl,rfl,rfl,rfl,bk _,λ_ h=>h,af.c7 h,λ_ h=>.inl h,λ_ h=>.inl h⟩
theorem bD.trans{T ao f:aF}{w w' i:J}{k l:Nat}(a:bD T ao w w' k)(b:bD ao f w' i l):bD T f w i (k+l):=by
 have hs:=a.ag.size;refine⟨b.a8.trans a.a8,b.sb.trans a.sb,b.n.trans a.n,b.g.trans a.g,b.s1.trans a.s1,b.s2.trans a.s2,b.c.trans a.c,b.d.trans a.d,b.bP.trans a.bP,b.gen.trans a.gen,by have:=a.aT;have:=b.aT;omega,
  λm j=>b.calm m (a.calm (m+l) (by rw[show m+l+k=m+(k+l) from I];exact j)),c5 a.ag b.ag λq e h=>(a.fn q h).resolve_right I,λq e=>?_,λq e=>?_⟩
 .rcases b.cS q e with h|h
  .exact a.cS q h
  .exact .inr I
 .rcases b.fn q e with h|h
  .exact a.fn q h
  .exact .inr I
theorem bD.mono{T ao:aF}{w w':J}{k l:Nat}(h:bD T ao w w' k)(b:k<=l):bD T ao w w' l:=
 ⟨h.a8,h.sb,h.n,h.g,h.s1,h.s2,h.c,h.d,h.bP,h.gen,by have:=h.aT;omega,λm a=>h.calm m (fK a I),h.ag,h.cS,h.fn⟩
theorem bD.b1{T ao:aF}{w w':J}{k lo:Nat}(h:bD T ao w w' k){n:aA}{K V D:ad}(e:bF (λq=>lo<=q/\¬T.M q) w n K V D):bF (λq=>lo<=q/\¬ao.M q) w' n K V D:=by
 have f:bF (λq=>q<w.heap.size/\lo<=q/\¬T.M q) w n K V D:=e.aX λq b a=>⟨b,a⟩;refine(bF.ag f h.ag λq b c=>b.2.2 (aF.gd c)).aX λq _ a=>⟨a.2.1,λc=>?_⟩;rcases h.cS q c with d|d
 .exact a.2.2 d
 .have:=a.1;omega
section
variable {w w':J}{T ao:aF}
theorem bD.step{W E G:Nat->Prop}{w1:J}{k:Nat}(h:bD T ao w w1 k)(hc:af W w1 w')(cp:∀q,W q->q<w.heap.size->T.N q)(f:∀q,E q->ao.E q\/ao.G q\/w.heap.size<=q)(e:∀q,G q->ao.G q\/w.heap.size<=q):bD T (ao.cj E G) w w' k:=by
 refine⟨h.a8,h.sb,h.n,h.g,h.s1,h.s2,h.c,h.d,h.bP,h.gen,h.aT,h.calm,c5 h.ag hc λq a i=>cp q i a,λq a=>?_,λq a=>?_⟩
 .rcases a with a|a|a|a|a
  .exact h.cS q (.inl a)
  .exact h.cS q (.inr (.inl a))
  .exact h.cS q (.inr (.inr (.inl a)))
  .rcases f q a with b|b|b
   .exact h.cS q (.inr (.inr (.inr (.inl b))))
   .exact h.cS q (.inr (.inr (.inr (.inr b))))
   .exact .inr b
  .rcases e q a with b|b
   .exact h.cS q (.inr (.inr (.inr (.inr b))))
   .exact .inr b
 .rcases a with a|a|a|a
  .exact h.fn q (.inl a)
  .exact h.fn q (.inr (.inl a))
  .exact h.fn q (.inr (.inr (.inl a)))
  .rcases e q a with b|b
   .exact h.fn q (.inr (.inr (.inr b)))
   .exact .inr b
theorem bD.local{bE jC a xH:Nat->Prop}{w1:J}{k:Nat}(h:bD (T.cj bE a) ao w1 w' k)(hx:Ext w w1)(c:∀q,bE q->T.E q\/w.heap.size<=q)(d:∀q,a q->T.G q\/w.heap.size<=q)
 (e:∀q,jC q->ao.E q\/ao.G q) (f:∀q,xH q->ao.G q):bD T (ao.cj jC xH) w w' k:=by
 have h0:bD T (T.cj bE a) w w1 0:=(bD.ext T (w:=w) (w':=w) (af.refl _ _)).step (W:=λ_=>False) hx (λ_ h=>h.elim) (λq h=>(c q h).imp id .inr) d;have b:=h0.trans h;rw[cQ]at b;exact b.step (W:=λ_=>False) (af.refl _ _) (λ_ h=>h.elim) (λq h=>(e q h).imp id .inl) λq h=>.inl (f q h)
theorem bU.lt(h:bU w T){q:Nat}(a:T.M q):q<w.heap.size:=by
 rcases a with a|a
 .exact h.ca.raw.lt a
 .exact(h.ca.inv.eV q a).1
theorem bU.jY(h:bU w T){q:Nat}(b:T.E q):¬T.N q:=by
 rintro(a|a|a|a)
 .exact(h.ca.inv.eV q (.inr (.inr (.inl b)))).2 a
 .exact(h.dA q b).1 a
 .exact(h.dA q b).2.1 a
 .exact(h.dA q b).2.2 a
theorem bU.ext(h:bU w T)(hx:Ext w w'):bU w' T:=⟨h.t.ext hx,h.s.ext hx,h.ca.ext hx,h.jB,h.dA,h.iC,h.n,h.num,h.ez,h.bT,h.low⟩
theorem dH.grow{X e W:Nat->Prop}{C:bO}(h:dH X w C)(hc:af W w w')(cp:∀q,W q->q<w.heap.size->X q)(g:∀q,e q->X q\/(w.heap.size<=q/\q<w'.heap.size)):dH e w' C:=by
 have i:af X w w':=c5 (W:=X) (af.refl _ _) hc λq a j=>cp q j a;refine⟨h.raw.ag i λq a hx=>(h.inv.eV q hx).2 a,h.inv.pins,λf hf k=>?_,h.inv.un,λq a=>?_,h.inv.n_⟩
 .obtain⟨no,m,n,o,p,r,s,t⟩:=h.inv.ok f hf k
  have u:bg (λq=>q<w.heap.size/\¬cV C q/\¬X q) w f.b f.l:=bg.aX o λq a d=>⟨a,d⟩;refine⟨no,m,n,bg.aX (bg.ag u i λq a hx=>a.2.2 hx) λq _ d=>⟨d.2.1,λv=>?_⟩,p,r,s,t⟩;rcases g q v with c|c
  .exact d.2.2 c
  .have:=d.1;omega
 .rcases g q a with c|c
  .exact⟨e_ (h.inv.eV q c).1 hc.size,(h.inv.eV q c).2⟩
  .exact⟨c.2,λhf=>by have:=h.raw.lt hf;omega⟩
theorem bU.grow{E G W:Nat->Prop}(h:bU w T)(hc:af W w w')(cp:∀q,W q->q<w.heap.size->T.E q\/T.G q)(c:∀q,E q->T.E q\/T.G q\/(w.heap.size<=q/\q<w'.heap.size))(f:∀q,G q->T.E q\/T.G q\/(w.heap.size<=q/\q<w'.heap.size))(j:∀q,E q->¬G q):bU w' (T.cj E G):=by
 have b:∀q,T.E q\/T.G q->q≠T.a8/\¬gb T.sb T.s1 T.s2 q:=λq a=>by
  rcases a with a|a
  .exact⟨(h.dA q a).1,(h.dA q a).2.1⟩
  .exact h.iC q a
 have g:af (λq=>T.E q\/T.G q) w w':=c5 (W:=λq=>T.E q\/T.G q) (af.refl _ _) hc λq a k=>cp q k a;have d:∀q,T.E q\/T.G q\/(w.heap.size<=q/\q<w'.heap.size)->q≠T.a8/\¬gb T.sb T.s1 T.s2 q:=λq a=>by
  rcases a with a|a|a
  .exact b q (.inl a)
  .exact b q (.inr a)
  .exact⟨λe=>by have l:=h.lt (q:=q) (.inr (.inl e));omega,λe=>by have l:=h.lt (q:=q) (.inr (.inr (.inl e)));omega⟩
 have i:∀q,T.E q\/T.G q\/(w.heap.size<=q/\q<w'.heap.size)->T.X q\/(w.heap.size<=q/\q<w'.heap.size):=λq a=>by
  rcases a with a|a|a
  .exact .inl (.inr (.inr (.inl a)))
  .exact .inl (.inr (.inr (.inr a)))
  .exact .inr a
 refine⟨h.t.ag g λe=>(b _ e).1 rfl,h.s.ag g λq a e=>(b q e).2 a,h.ca.grow hc (λq a m=>.inr (.inr (cp q a m))) λq a=>?_,h.jB,λq a=>⟨(d q (c q a)).1,(d q (c q a)).2,j q a⟩,λq a=>d q (f q a),h.n,h.num,h.ez,h.bT,h.low⟩;rcases a with a|a|a|a
 .exact .inl (.inl a)
 .exact .inl (.inr (.inl a))
 .exact i q (c q a)
 .exact i q (f q a)
theorem bU.cells(h:bU w T):w.cell? T.a8=some (.pointer (some T.C.c))/\w.cell? (Addr.add T.a8 1)=some (.pointer (some T.sb))/\w.cell? (Addr.add T.a8 2)=some (.int .u64 (T.gen:Nat))/\
 w.cell? (Addr.add T.a8 3)=some (.int .i64 (T.root:Nat))/\w.cell? (Addr.add T.a8 4)=some (.int .i64 (T.aG:Nat)):=by
 rw[aB,aB,aB,aB];exact⟨h.t.cell,h.t.cell,h.t.cell,h.t.cell,h.t.cell⟩
theorem bU.F6(h:bU w T){no:Nat}(a:no<T.n):(T.C.view no).length=256:=by
 unfold bO.view
 cases hf:T.C.ak.find? λf=>f.full&&f.no==(no:Int) with
 |some f=>
  have b:=ji hf;have c:=kf hf;obtain⟨m,d⟩:=h.ca.inv.ok f b (by
   have:(f.full&&f.no==(no:Int))=true:=c;exact(Bool.and_eq_true_iff.1 this).1)
  exact d.len
 |none=>exact h.ca.raw.dev.rB (by rw[h.n];exact a)
theorem bU.u3{aE:bO}{k:Nat}{P:Nat->au aA}(h:bU w T)(f:dH T.X w' aE)(a:dV T.C aE w w' k)(l:∀no b1,P no=some b1->no<T.n/\gw T.gen b1.leaf no (aE.view no) b1):
 bU w' (T.bm aE P)/\bD T (T.bm aE P) w w' k:=by
 have hx:=h.ca.inv.eV;have hc:=a.ag;refine⟨⟨?_,h.s.ag hc λq b hf=>(hx q (.inr (.inl b))).2 hf,f,h.jB,h.dA,h.iC,?_,h.num,l,λj m=>by unfold aZ.ro;show T.g j=true\/∀i,aE.D.bT i=true;rw[a.bT];exact h.bT j (by rw[←a.bT];exact m),h.low⟩,⟨rfl,rfl,rfl,rfl,rfl,rfl,a.c,a.d,a.bP,rfl,a.aT,a.calm,hc.mono λq _ b=>.inl b,?_,?_⟩⟩
 .have:=h.t.ag hc λhf=>(hx T.a8 (.inl rfl)).2 hf
  unfold k1 at this⊢;rw[←a.c]at this;exact this
 .show aE.D.n=T.n
  rw[a.n,h.n]
 .rintro q (b|b)
  .rcases a.cS q b with e|e
   .exact .inl (.inl e)
   .exact .inr e
  .exact .inl (.inr b)
 .rintro q (b|b)
  .rcases a.cS q b with e|e
   .exact .inl (.inl e)
   .exact .inr e
  .exact .inl (.inr b)
end
def F7(T:aF)(leaf:al)(no:Nat)(e:Int):Prop:=
 (e=3/\¬T.C.D.calm 2)\/eY (no:Int) (T.C.view no)=.error e\/(e=4/\(∃p,eY (no:Int) (T.C.view no)=.ok p)/\∀n,¬gw T.gen leaf no (T.C.view no) n)
def ob(T:aF)(leaf:al)(no:Nat)(w:J)(v:aa)(w':J):Prop:=
 ∃aE:bO,bU w' (T.bm aE T.P)/\bD T (T.bm aE T.P) w w' 2/\(∀j,aE.view j=T.C.view j)/\
  ((∃ (n:aA) (K V D:ad),v=.tuple #[cZ n K V D,(0:Int)]/\gw T.gen leaf no (T.C.view no) n/\bF (λq=>w.heap.size<=q/\¬(T.bm aE T.P).M q) w' n K V D)\/
    (∃e:Int,v=.tuple #[cZ hZ bu bu bu,e]/\F7 T leaf no e/\e≠0))
theorem Bd{no:Int}{l:c0}{e:Int}(h:eY no l=.error e):e≠0:=by
 intro he;subst he;unfold eY at h
 repeat' split at h
 all_goals first|(injection h with h;exact absurd h (by decide))|cases h
theorem F8{no:Int}{l:c0}{p:iz}(h:eY no l=.ok p):p.body.length<=256:=by
 unfold eY at h
 repeat' split at h
 all_goals first|(cases h;done)|skip
 rename_i a _ _ _ _ _;injection h with h
 rw[←h];show(List.take _ (List.drop 24 l)).length<=256;rw[cE,ed];omega
theorem Be{w':J}{h:Nat}{vs:O aa}(n g:Int)(s:ad)(a:Var w' h vs 137)(b:vs.length=3){K:J->Prop}(c:∀ai,Var ai h [n,.int .u64 g,s] 137->af (λq=>q=h) w' ai->ai.heap.size=w'.heap.size->K ai):
 bC w' h [n,.int .u64 g,s]/\(3:Nat)=3/\aq (setCells w' h 0 [n,.int .u64 g,s]) K:=by
 refine⟨a.cd (by rw[b];rfl) ?_,rfl,cK a (us:=[n,.int .u64 g,s]) (by rw[b];rfl) rfl c⟩;intro v a;simp only[cN,e3,fb]at a;rcases a with rfl|rfl|rfl<;>trivial
theorem xI{w:J}{T:aF}(h:bU w T)(aK:T.C.D.aT<=999999999){no:Nat}(am:no<T.n)(ao:2<=no)(leaf:al):
 aJ aj 175 #[.pointer (some T.a8),no,leaf] w (ob T leaf no w):=by
 have bg:=h.s.bp;have aL:=h.F6 am;refine okF (ae.tN (some T.a8) (no:Int) leaf) aw.tN func175 ?_;(delta ae.tN z4 dZ an wB Y sQ aS r1 zp sO cl aD qQ kn;dsimp only);refine a_ (vs:=[false,(),(),()]) rfl λw1 aM ap bh=>?_;obtain⟨t,R⟩:∃t,t=λq=>T.G q\/q=w.heap.size:=⟨_,rfl⟩;have aq:t w.heap.size:=by rw[R];exact .inr rfl
 have S:∀q,T.G q->t q:=λq c=>by rw[R];exact .inl c
 have U:∀q,t q->T.G q\/q=w.heap.size:=λq c=>by rw[R]at c;exact c
 have y:bU w1 (T.cj T.E t):=h.grow (W:=λ_=>False) ap (λ_ h=>h.elim) (λq c=>.inl c) (λq c=>.inr ((U q c).imp id λe=>⟨I,I⟩)) λq c hg=>by
  rcases U q hg with u|u
  .exact(h.dA q c).2.2 u
  .have:=h.lt (q:=q) (.inr (.inr (.inr (.inl c))));omega
 refine⟨_,rfl,_,y.cells.1,(F3 y.ca aK (no:=no) (by rw[y.n];exact am) ao).use ?_⟩;rintro _ m ⟨aE,aN,X,v,aO⟩;obtain⟨Z,aP⟩:=y.u3 (P:=T.P) aN X (λno b1 aQ=>by rw[v];exact y.ez no b1 aQ);have bi:=X.ag.size;have ar:Var m w.heap.size [false,(),(),()] 169:=aM.ag X.ag λhf=>(y.ca.inv.eV _ (.inr (.inr (.inr aq)))).2 hf
 have fin:∀w':J,af (λq=>q=w.heap.size) m w'->bU w' (T.bm aE T.P)/\bD T (T.bm aE T.P) w w' 2:=λw' hc=>by
  refine⟨Z.grow (E:=T.E) (G:=T.G) hc (λq e _=>.inr (by rw[e];exact aq)) (λq c=>.inl c) (λq c=>.inr (.inl (S q c))) λq c=>(h.dA q c).2.2,?_⟩;have aR:=aP.local ap (λq c=>.inl c) (λq c=>(U q c).imp id λe=>I) (jC:=T.E) (xH:=T.G) (λq c=>.inl c) S;exact aR.step hc (λq e bj=>I) (λq c=>.inl c) λq c=>.inl c
 have aU:∀ {w':J}{n:aA}{K V D:ad}{B:Nat->Prop},bF (λq=>m.heap.size<=q) w' n K V D->bF (λq=>w.heap.size<=q/\¬(T.bm aE T.P).M q) w' n K V D:=λaW=>by
  refine aW.aX λq _ c=>⟨I,λj=>?_⟩;have:q<m.heap.size:=Z.lt (q:=q) (by
   rcases j with j|j|j|j|j
   .exact .inl j
   .exact .inr (.inl j)
   .exact .inr (.inr (.inl j))
   .exact .inr (.inr (.inr (.inl j)))
   .exact .inr (.inr (.inr (.inr (S q j)))))
  omega
 rcases aO with ⟨s,rfl,hs⟩|⟨rfl,aZ⟩
 .refine⟨s,0,rfl,λd=>(by cases d),λ_=>(pq hs.1 hs.2.1 (by show(T.C.view no).length<=1000;rw[aL];omega) _).use ?_⟩
  rintro _ a0 ⟨F,N⟩;have au:=ar.ext N;have bk:=N.size;have a1:(T.cj T.E t).C.view no=T.C.view no:=rfl;rw[a1]at F
  cases g:eY (no:Int) (T.C.view no) with
  |error e=>
   rw[g]at F;obtain rfl:=F;refine⟨0,0,⟨none,0,0⟩,e,rfl,a_ (vs:=[(0:Int),.int .u64 0,()]) rfl λa2 aa x a3=>?_⟩;refine Be 0 0 ⟨none,0,0⟩ aa rfl λf av z a4=>⟨λ_=>?_,λd=>?_⟩
   .have ab:Var f w.heap.size [false,(),(),()] 169:=(au.ext x).ag z I
    refine h4 false bu bu bu ab rfl (Q:=λb K V D ai=>ob T leaf no w (.tuple #[.agg #[b,K,V,D],e]) ai) λl i=>?_;obtain⟨f1,f2⟩:=fin l (c5 (W:=λq=>q=w.heap.size) (af.c7 (Ext.cx (N.trans x) z I)) i λq _ e=>e);exact⟨aE,f1,f2,v,.inr ⟨e,rfl,.inr (.inl g),Bd g⟩⟩
   .have:=Bd g
    simp at d;omega
  |ok p=>
   rw[g]at F;obtain⟨H,rfl,ac,bl⟩:=F;refine⟨p.kind,p.gen,H,0,rfl,a_ (vs:=[(0:Int),.int .u64 0,()]) rfl λa2 aa x a3=>?_⟩;refine Be p.kind p.gen H aa rfl λf av z a4=>⟨λd=>(by cases d),λ_=>aY ?_⟩;have ab:Var f w.heap.size [false,(),(),()] 169:=(au.ext x).ag z I;have a5:Ext m f:=Ext.cx (N.trans x) z I;have L:Ext m f.drew:=a5.trans (cH _);have ah:Var f.drew w.heap.size [false,(),(),()] 169:=ab.drew;have O:=av.drew;have a6:=(Z.ext L).cells;obtain⟨b,d⟩:∃b,b=a0.heap.size:=⟨_,rfl⟩;rw[←d]at O⊢;have ak:f.drew.cell? b=some (.int .i64 (p.kind:Nat)):=O.cell;have a7:f.drew.cell? (Addr.add b 1)=some (.int .u64 (p.gen:Nat)):=by rw[aB];exact O.cell
   have a9:f.drew.cell? (Addr.add b 2)=some (.slice H.a H.len H.cap):=by rw[aB];exact O.cell
   have bn:m.heap.size<=f.drew.heap.size:=L.size;refine⟨id,_,a7,_,rfl,id,_,a6.2.2.1,λhg=>?_,λhg=>⟨id,_,ak,?_⟩⟩
   .have hg:T.gen<p.gen:=by
     have:(p.gen:Int)>(T.gen:Int):=ck hg;omega
    refine cz (λb w'=>b=true/\w'=f.drew) (λq c=>⟨λ_=>c _ _ ⟨rfl,rfl⟩,λh=>by cases h⟩) ?_;rintro _ _ ⟨rfl,rfl⟩;refine⟨λ_=>?_,λh=>(by cases h)⟩;refine h4 false bu bu bu ah rfl (Q:=λb K V D ai=>ob T leaf no w (.tuple #[.agg #[b,K,V,D],(4:Int)]) ai) λl i=>?_;obtain⟨f1,f2⟩:=fin l (c5 (W:=λq=>q=w.heap.size) (af.c7 L) i λq _ e=>e);refine⟨aE,f1,f2,v,.inr ⟨4,rfl,.inr (.inr ⟨rfl,⟨p,g⟩,?_⟩),by decide⟩⟩;rintro n ⟨ax,o,ay,_⟩;rw[g]at o;cases o;omega
   .have hg:p.gen<=T.gen:=by
     have:¬(p.gen:Int)>(T.gen:Int):=cG hg;omega
    refine cz (λb w'=>w'=f.drew/\(b=false↔p.kind=(if leaf then 1 else 2))) (λq c=>⟨λh=>c _ _ ⟨rfl,?_⟩,λh=>⟨_,ak,cz (λb w'=>w'=f.drew/\(b=false↔p.kind=(if leaf then 1 else 2))) (λr az=>⟨λu=>⟨_,ak,az _ _ ⟨rfl,?_⟩⟩,λu=>az _ _ ⟨rfl,?_⟩⟩) λb w' ba=>c b w' ba⟩⟩) ?_
    .refine⟨λh=>(by cases h),λA=>?_⟩
     rw[A]at h
     cases leaf<;>simp at h
    .cases leaf
     .simp
      exact Int.ofNat_inj
     .simp at u h;omega
    .cases leaf
     .simp at u h;omega
     .simp at u
      simp;omega
    rintro bo _ ⟨rfl,A⟩;refine⟨λd=>?_,λd=>⟨_,a9,(px ((ac.ext (Ext.cx x z I|>.trans (cH _))).src) ?_ ?_ ?_ leaf).use ?_⟩⟩
    .refine h4 false bu bu bu ah rfl (Q:=λb K V D ai=>ob T leaf no w (.tuple #[.agg #[b,K,V,D],(4:Int)]) ai) λl i=>?_
     obtain⟨f1,f2⟩:=fin l (c5 (W:=λq=>q=w.heap.size) (af.c7 L) i λq _ e=>e);refine⟨aE,f1,f2,v,.inr ⟨4,rfl,.inr (.inr ⟨rfl,⟨p,g⟩,?_⟩),by decide⟩⟩;rintro n ⟨ax,o,ay,aC,_⟩;rw[g]at o;cases o;rw[A.2 aC]at d;cases d
    .exact ac.2.1
    .intro k A
     have:=aV.lt ac k A;have:=x.size;show k<f.heap.size;omega
    .have:=F8 g
     omega
    rintro _ bb ⟨bc,aG⟩;have aH:Ext m bb:=L.trans aG;have aI:=ah.ext aG;rcases bc with ⟨n,K,V,D,rfl,bd,dM⟩|⟨rfl,be⟩
    .refine⟨n.leaf,K,V,D,0,rfl,?_⟩
     refine h4 n.leaf K V D aI rfl (Q:=λb K V D ai=>ob T leaf no w (.tuple #[.agg #[b,K,V,D],(0:Int)]) ai) λl i=>?_;obtain⟨f1,f2⟩:=fin l (c5 (W:=λq=>q=w.heap.size) (af.c7 aH) i λq _ e=>e);refine⟨aE,f1,f2,v,.inl ⟨n,K,V,D,rfl,⟨p,g,hg,A.1 d,bd,ao⟩,?_⟩⟩;refine aU (B:=λ_=>True) (bF.ag (dM.aX λq _ c=>?_) i λq c e=>?_)
     .omega
     .have:m.heap.size<=q:=c
      omega
    .refine⟨false,bu,bu,bu,4,rfl,?_⟩
     refine h4 false bu bu bu aI rfl (Q:=λb K V D ai=>ob T leaf no w (.tuple #[.agg #[b,K,V,D],(4:Int)]) ai) λl i=>?_;obtain⟨f1,f2⟩:=fin l (c5 (W:=λq=>q=w.heap.size) (af.c7 aH) i λq _ e=>e);refine⟨aE,f1,f2,v,.inr ⟨4,rfl,.inr (.inr ⟨rfl,⟨p,g⟩,?_⟩),by decide⟩⟩;rintro n ⟨ax,o,ay,aC,bf,_⟩;rw[g]at o;cases o;exact be n bf
 .refine⟨⟨none,0,0⟩,3,rfl,λ_=>?_,λd=>(by cases d)⟩
  refine h4 false bu bu bu ar rfl (Q:=λb K V D ai=>ob T leaf no w (.tuple #[.agg #[b,K,V,D],(3:Int)]) ai) λl i=>?_;obtain⟨f1,f2⟩:=fin l i;exact⟨aE,f1,f2,v,.inr ⟨3,rfl,.inl ⟨rfl,aZ⟩,by decide⟩⟩
structure dc where
 no:Nat
 n:aA
 cC:Nat
 K:ad
 V:ad
 D:ad
def dc.c(s:dc):O aa:=[s.no,s.n.leaf,s.K,s.V,s.D,s.cC]
def dc.st(s:dc):Nat×aA×Nat:=(s.no,s.n,s.cC)
theorem mR(l:O dc):∀x∈l,(dc.c x).length=6:=λ_ _=>rfl
structure jD(B:Nat->Prop)(w:J)(s:ad)(l:O dc):Prop where
 own:aV 6 223 w s (bQ dc.c l)
 oc:∀q,ay s q->B q
 b1:∀x∈l,bF B w x.n x.K x.V x.D
def mS(P:Nat->au aA)(k:Key):Nat->Nat->O (Nat×aA×Nat)->Prop
 |0,_,l=>l=[]
 |h+1,no,l=>∃n rest,P no=some n/\n.leaf=decide (h=0)/\l=(no,n,if h=0 then 0 else cY n.keys k)::rest/\mS P k h (n.kids.getD (cY n.keys k) 0) rest
theorem mS.length{P:Nat->au aA}{k:Key}:∀ {h no:Nat}{l:O (Nat×aA×Nat)},mS P k h no l->l.length=h
 |0,_,_,h=>by rw[h];rfl
 |h+1,_,_,⟨n,rest,_,_,a,b⟩=>by rw[a,fF,mS.length b]
theorem gw.uniq{gen no:Nat}{leaf:al}{l:c0}{n m:aA}(a:gw gen leaf no l n)(b:gw gen leaf no l m):n=m:=by
 obtain⟨p,a1,a2,a3,a4⟩:=a;obtain⟨q,cv,bS,d,c⟩:=b;rw[a1]at cv
 cases cv;exact kX.uniq a4.1 c.1
theorem gw.is{gen no:Nat}{leaf:al}{l:c0}{n:aA}(h:gw gen leaf no l n):n.leaf=leaf/\cr n/\bn n<=232:=by
 obtain⟨p,_,_,_,a,_⟩:=h;exact⟨a.2.1,a.1,a.2.2.1⟩
theorem gw.two{gen no:Nat}{leaf:al}{l:c0}{n:aA}(h:gw gen leaf no l n):2<=no:=by
 obtain⟨p,_,_,_,_,a⟩:=h;exact a
theorem cr.eE{n:aA}(h:cr n):n.keys.Pairwise bz:=by
 rcases h with h|h
 .exact h.eE
 .exact h.eE
def F9(T:aF)(steps:O (Nat×aA×Nat))(w:J)(v:aa)(w':J):Prop:=
 ∃aE:bO,bU w' (T.bm aE T.P)/\bD T (T.bm aE T.P) w w' (2*T.aG)/\(∀j,aE.view j=T.C.view j)/\
  ((∃ (s:ad) (l:O dc),v=.tuple #[s,(0:Int)]/\l.map dc.st=steps/\jD (λq=>w.heap.size<=q/\¬(T.bm aE T.P).M q) w' s l)\/(v=.tuple #[(),(3:Int)]/\¬T.C.D.calm (2*T.aG)))
theorem F_(w:J)(cs:Array aa)(h:cs.size=6):Sem.run aj (Instr.buildSlice 219 1 #[(0,.agg cs)]) w=.ok (.slice (some w.heap.size) 1 1) (w.alloc (.cells cs 223)):=by
 have h0:((Tryz.prog.info? 223).bind (·.zero)).isSome=true:=by kernel_rfl
 obtain⟨z,a⟩:=lU.1 h0;obtain⟨i,hi,b⟩:=rA a;have c:(Tryz.prog.underlying 223).isSome=true:=by kernel_rfl
 obtain⟨d,hd⟩:=lU.1 c;exact xt (sz:=6) w (by kernel_rfl) hd (by kernel_rfl) hi b h (by decide) (by decide)
theorem Ga:hW aj 219 223 6 96:=⟨by kernel_rfl⟩
theorem Bf{h:Nat}{n:aA}(a:n.leaf=decide (h=0)):((((h+1:Nat):Int):Int)==1)=n.leaf:=by
 rw[a,fh,jH,cu];omega
theorem xJ{w:J}{T:aF}{tk:ad}{k:Key}{steps:O (Nat×aA×Nat)}(h:bU w T)(cq:T.C.D.aT<=900000000)(bB:Src 1 w tk (ax k))(bC:∀q,ay tk q->q<w.heap.size/\¬T.M q)(bG:mS T.P k T.aG T.root steps):
 aJ aj 123 #[.pointer (some T.a8),tk] w (F9 T steps w):=by
 have cr:=h.num.2.1;refine okF (ae.tE (some T.a8) tk) aw.tE func123 ?_;(delta ae.tE aD an kn z4 Y aS r1 bW st aN av;dsimp only);refine⟨_,rfl,_,h.cells.2.2.2.1,_,rfl,_,h.cells.2.2.2.2,λs n8 n9 w'=>∃ (eo no:Nat) (l:O dc) (rest:O (Nat×aA×Nat)) (bE:Nat->Prop) (aE:bO),n9=(eo:Nat)/\n8=(no:Nat)/\mS T.P k eo no rest/\l.map dc.st++rest=steps/\l.length+eo=T.aG/\
  bE=(λq=>T.E q\/ay s q)/\(∀q,ay s q->w.heap.size<=q)/\bU w' ((T.cj bE T.G).bm aE T.P)/\bD T ((T.cj bE T.G).bm aE T.P) w w' (2*l.length)/\(∀j,aE.view j=T.C.view j)/\aV 6 223 w' s (bQ dc.c l)/\
  ∀x∈l,bF (λq=>w.heap.size<=q/\¬((T.cj bE T.G).bm aE T.P).M q) w' x.n x.K x.V x.D,λ_ _ n9 _=>n9.toNat,?_,?_⟩
 .have bI:T.E=λq=>T.E q\/ay ⟨none,0,0⟩ q:=by
   funext q;refine propext ⟨.inl,λh=>h.resolve_right ?_⟩;rintro⟨A,ar,_⟩
   cases ar
  have a9:(T.cj T.E T.G).bm T.C T.P=T:=rfl;refine⟨T.aG,T.root,[],steps,T.E,T.C,rfl,rfl,bG,rfl,by simp,bI,?_,by rw[a9];exact h,by rw[a9];exact .refl _ _,λ_=>rfl,?_,λx hx=>(by cases hx)⟩
  .rintro q ⟨A,ar,_⟩
   cases ar
  .exact⟨rfl,bk _,by decide,.inl ⟨rfl,rfl⟩⟩
 have fin:∀ {w':J}{bE:Nat->Prop}{aE:bO}{s:ad}{k:Nat},bU w' ((T.cj bE T.G).bm aE T.P)->bD T ((T.cj bE T.G).bm aE T.P) w w' k->bE=(λq=>T.E q\/ay s q)->(∀q,ay s q->w.heap.size<=q)->bU w' (T.bm aE T.P)/\bD T (T.bm aE T.P) w w' k:=by
  intro w' bE aE s k d ab o B;have H:∀q,T.E q->bE q:=λq a=>by rw[o];exact .inl a
  exact⟨d.grow (W:=λ_=>False) (E:=T.E) (G:=T.G) (af.refl _ _) (λ_ h=>h.elim) (λq a=>.inl (H q a)) (λq a=>.inr (.inl a)) λq a=>(h.dA q a).2.2,
   ab.step (W:=λ_=>False) (af.refl _ _) (λ_ h=>h.elim) (λq a=>.inl (H q a)) λq a=>.inl a⟩
 rintro s _ _ cs ⟨eo,no,l,rest,bE,ac,rfl,rfl,bb,bc,hlen,L,N,u,S,g,au,dM⟩;have ct:=S.ag.size;refine⟨λaH=>?_,λbJ=>?_⟩
 .obtain⟨r,rfl⟩:∃bK,eo=bK+1:=⟨eo-1,by have:(eo:Int)>0:=ck aH;omega⟩
  obtain⟨n,bL,bM,bd,rfl,be⟩:=bb;obtain⟨bN,U⟩:=u.ez no n bM;have bP:ac.D.aT<=999999999:=by
   have:ac.D.aT<=T.C.D.aT+2*l.length:=S.aT;omega
  refine(xI u bP bN U.two _).use ?_;rintro _ t ⟨F,ab,ah,bf,bg⟩;have az:=S.trans ah;have cu:=ah.ag.size;rw[Bf bd]at bg;rcases bg with ⟨bp,K,V,D,rfl,bR,aC⟩|⟨e,rfl,bS,bT⟩
  .obtain rfl:=gw.uniq U bR
   obtain⟨_,aI,cv⟩:=U.is;have bV:=aI.eE;have cw:=uz aI;refine⟨n.leaf,K,V,D,0,rfl,a_ (vs:=[false,(),(),()]) rfl λbX X aK bY=>?_⟩;refine⟨X.cd rfl ?_,rfl,cK X (us:=[n.leaf,K,V,D]) rfl rfl λai aL aM bZ=>⟨λf=>(by cases f),λ_=>?_⟩⟩
   .intro v g
    simp only[cN,e3,fb]at g;rcases g with rfl|rfl|rfl|rfl<;>trivial
   have bh:Ext t ai:=Ext.cx aK aM (bk _);have cA:=bh.size;obtain⟨bH,aQ,a6,ba⟩:=bx aL;refine⟨_,bH,K,aQ,V,a6,D,ba,#[no,n.leaf,K,V,D,(0:Int)],by kernel_rfl,?_⟩;refine a_ (vs:=[(0:Int),false,(),(),(),(0:Int)]) rfl λcB bi bj cC=>?_;refine⟨bi.cd rfl ?_,rfl,cK bi (us:=[no,n.leaf,K,V,D,(0:Int)]) rfl rfl λaO aP bl cE=>?_⟩
   .intro v g
    simp only[cN,e3,fb]at g;rcases g with rfl|rfl|rfl|rfl|rfl|rfl<;>trivial
   have ak:Ext t aO:=Ext.cx (bh.trans bj) bl I;have aR:Var aO t.heap.size [n.leaf,K,V,D] 169:=(aL.ext bj).ag bl I;obtain⟨sb,b0⟩:∃sb,sb=ai.heap.size:=⟨_,rfl⟩;obtain⟨nb,b2⟩:∃nb,nb=t.heap.size:=⟨_,rfl⟩;rw[←b0]at aP⊢;rw[←b2]at aR⊢;have b3:=aC.ext ak;refine cz (λn40 z=>n40=(((if r=0 then no else n.kids.getD (cY n.keys k) 0:Nat)):Int)/\Ext t z/\Var z sb (dc.c ⟨no,n,if r=0 then 0 else cY n.keys k,K,V,D⟩) 223) (λq a=>⟨λal=>?_,λal=>?_⟩) ?_
   .have Q:r≠0:=by
     have:((r+1:Nat):Int)>1:=ck al;omega
    have b4:n.leaf=false:=by rw[bd];simp[Q]
    have cF:=aI.uL b4;have cH:=uu n.keys k;obtain⟨bH,aQ,a6,ba⟩:=bx aR;have b5:Src 1 aO tk (ax k):=(bB.ag az.ag λq a b6=>(bC q a).2 (aF.gd b6)).ext ak;refine⟨_,bH,K,aQ,V,a6,D,ba,(nG b3 b5 bV I).use ?_⟩;rintro _ bn ⟨rfl,aU⟩;have bo:=aP.ext aU;obtain⟨aW,b7⟩:=ek bo (i:=5) (by simp);rw[aB];refine⟨_,rfl,aW,b7,aY ?_⟩;have bq:=dJ bn sb 5 (.int .i64 ((cY n.keys k:Nat):Int));have br:=ej bo (i:=5) (.int .i64 ((cY n.keys k:Nat):Int));have bs:Ext t (bn.setCell ⟨sb,5,none⟩ (.int .i64 ((cY n.keys k:Nat):Int))):=Ext.cx (ak.trans aU) bq I;have b8:=(aR.ext aU).ag bq I;obtain⟨d0,d1,d2,d3⟩:=bx b8;obtain⟨A,ar,f,b9⟩:=cM.at (aC.ext bs).kids (i:=cY n.keys k) I;refine⟨D,d3,_,br.cell,A,ar,f,_,b9,a _ _ ⟨?_,bs,?_⟩⟩
    .rw[if_neg Q,fv,dr I];rfl
    .rw[if_neg Q]
     exact br
   .have Q:r=0:=by
     have:¬((r+1:Nat):Int)>1:=cG al;omega
    refine a _ _ ⟨by rw[if_pos Q],ak,?_⟩;rw[if_pos Q];exact aP
   rintro _ z ⟨rfl,bt,b_⟩;have cI:=bt.size;refine⟨_,b_.rd rfl,⟨some z.heap.size,1,1⟩,_,F_ _ _ rfl,?_⟩;have aZ:=dE z (.cells (dc.c ⟨no,n,if r=0 then 0 else cY n.keys k,K,V,D⟩).toArray 223);have R:=bt.trans aZ;have cb:=R.size;have cc:=aZ.size;have ce:=au.1;rw[gu _ (mR l)]at ce;have Z:∀q,ay s q->bE q:=λq a=>by rw[L];exact .inr a
   have cf:aV 6 223 t s (bQ dc.c l):=au.ag ah.ag λq a b=>u.jY (Z q a) b;obtain⟨x,a0⟩:∃x:dc,x=⟨no,n,if r=0 then 0 else cY n.keys k,K,V,D⟩:=⟨_,rfl⟩;rw[←a0]at aZ R cb cc⊢;have cg:∀v∈dc.c x,Plain v:=by
    intro v g;unfold dc.c at g;simp only[cN,e3,fb]at g;rcases g with rfl|rfl|rfl|rfl|rfl|rfl<;>trivial
   obtain⟨am,ao,a1,a2,a3,a4,a5⟩:=Ga.append (dD:=219) (x:=⟨some z.heap.size,1,1⟩) (Src.new (T:=223) z (dc.c x) 1 rfl) (cf.ext R) cg (by show(2*(s.len+1)+1000)*96<=_;omega);have cJ:=a4.size;have a7:∀q,ay am q->w.heap.size<=q:=λq a=>by
    rcases a5 q a with d|d
    .exact N q d
    .omega
   obtain⟨jC,bv⟩:∃jC,jC=λq=>T.E q\/ay am q:=⟨_,rfl⟩;have ap:∀q,jC q->T.E q\/ay am q:=λq a=>by rw[bv]at a;exact a
   have H:∀q,T.E q->bE q:=λq a=>by rw[L];exact .inl a
   have ch:bQ dc.c (l++ [x])=bQ dc.c l++dc.c x:=by rw[pT];simp[bQ]
   have ci:bU ao ((T.cj jC T.G).bm F T.P):=by
    refine(ab.ext R).grow (E:=jC) (G:=T.G) a4 (λq a _=>.inl (Z q a)) (λq a=>?_) (λq a=>.inr (.inl a)) λq a hg=>?_
    .rcases ap q a with d|d
     .exact .inl (H q d)
     .rcases a5 q d with o|o
      .exact .inl (Z q o)
      .exact .inr (.inr ⟨o,aV.lt a2 q d⟩)
    .rcases ap q a with d|d
     .exact(h.dA q d).2.2 hg
     .have o:=h.lt (q:=q) (.inr (.inr (.inr (.inr hg))))
      have:=a7 q d;omega
   have cl:bD T ((T.cj jC T.G).bm F T.P) w ao (2*(l++ [x]).length):=by
    have d:=(az.trans (bD.ext _ R)).mono (l:=2*(l++ [x]).length) (by rw[cn,ig];omega);refine d.step (E:=jC) (G:=T.G) a4 (λq a al=>by have:=N q a;omega) (λq a=>?_) λq a=>.inl a;rcases ap q a with d|d
    .exact .inl (H q d)
    .exact .inr (.inr (a7 q d))
   have bz:∀ {m:aA}{K V D:ad},bF (λq=>w.heap.size<=q/\¬((T.cj bE T.G).bm F T.P).M q) t m K V D->bF (λq=>w.heap.size<=q/\¬((T.cj jC T.G).bm F T.P).M q) ao m K V D:=λ{m K V D} b=>by
    have d:=(b.ext R).aX (C:=λq=>q<(z.alloc (.cells (dc.c x).toArray 223)).heap.size/\w.heap.size<=q/\¬((T.cj bE T.G).bm F T.P).M q) λq a f=>⟨a,f⟩;refine(bF.ag d a4 λq a cm=>a.2.2 (.inr (.inr (.inr (.inl (Z q cm)))))).aX λq _ f=>⟨f.2.1,λb=>f.2.2 ?_⟩;rcases b with b|b|b|b|b
    .exact .inl b
    .exact .inr (.inl b)
    .exact .inr (.inr (.inl b))
    .refine .inr (.inr (.inr (.inl ?_)))
     show bE q;rcases ap q b with o|o
     .exact H q o
     .rcases a5 q o with B|B
      .exact Z q B
      .have:=f.1;omega
    .exact .inr (.inr (.inr (.inr b)))
   have bA:IntKind.wrap .i64 (((r+1:Nat):Int)-1)=(r:Nat):=by rw[bw I I];omega
   refine⟨am,ao,a1,⟨r,_,l++ [x],bL,jC,F,bA,rfl,?_,?_,by rw[cn,ig];omega,bv,a7,ci,cl,λj=>(bf j).trans (g j),by rw[ch];exact a2,?_⟩,?_⟩
   .cases r with
    |zero=>exact be
    |succ m=>rw[if_neg I];exact be
   .rw[←bc,fG,cy,a0];rfl
   .intro y aa
    rcases cD.1 aa with aa|aa
    .exact bz (ah.b1 (dM y aa))
    .obtain rfl:=fi.1 aa
     subst a0;exact bz (aC.aX λq _ f=>⟨by have:=f.1;omega,f.2⟩)
   .rw[bA]
    show(r:Int).toNat<(((r+1:Nat):Int)).toNat;omega
  .refine⟨false,bu,bu,bu,e,rfl,a_ (vs:=[false,(),(),()]) rfl λbX X aK bY=>?_⟩
   refine⟨X.cd rfl ?_,rfl,cK X (us:=[false,(),(),()]) rfl rfl λai aL aM bZ=>⟨λ_=>?_,λf=>?_⟩⟩
   .intro v g
    simp only[cN,e3,fb]at g;rcases g with rfl|rfl|rfl|rfl<;>trivial
   .have hx:Ext t ai:=Ext.cx aK aM (bk _)
    have he:e=3/\¬ac.D.calm 2:=by
     rcases bS with d|d|⟨_,_,d⟩
     .exact d
     .obtain⟨p,aW,_⟩:=U
      rw[aW]at d;cases d
     .exact absurd U (d n)
    obtain⟨rfl,co⟩:=he;obtain⟨o,B⟩:=fin (k:=2*T.aG) (ab.ext hx) ((az.trans (bD.ext _ hx)).mono I) L N;exact⟨F,o,B,λj=>(bf j).trans (g j),.inr ⟨rfl,λhc=>co (S.calm 2 (fK hc I))⟩⟩
   .simp at f;exact absurd f bT
 .have h0:eo=0:=by
   have:¬(eo:Int)>0:=cG bJ;omega
  subst h0;have cp:rest=[]:=bb;subst cp;obtain⟨o,B⟩:=fin (k:=2*T.aG) u (S.mono I) L N;refine⟨ac,o,B,g,.inl ⟨s,l,rfl,by rw[←bc,fk],au,λq a=>⟨N q a,λb=>?_⟩,λx hx=>?_⟩⟩
  .have cL:=N q a
   have aq:bE q:=by rw[L];exact .inr a
   rcases b with b|b|b|b|b
   .exact(u.ca.inv.eV q (.inr (.inr (.inl aq)))).2 b
   .exact(u.dA q aq).1 b
   .exact(u.dA q aq).2.1 b
   .have:=h.lt (q:=q) (.inr (.inr (.inr (.inl b))));omega
   .exact(u.dA q aq).2.2 b
  .refine(dM x hx).aX λq _ f=>⟨f.1,λb=>f.2 ?_⟩
   rcases b with b|b|b|b|b
   .exact .inl b
   .exact .inr (.inl b)
   .exact .inr (.inr (.inl b))
   .refine .inr (.inr (.inr (.inl ?_)))
    show bE q;rw[L];exact .inl b
   .exact .inr (.inr (.inr (.inr b)))
def aF.iD(T:aF)(f:Nat->al):aF:={T with f:=f}
structure de where
 cb:Nat
 ma:ad
 fV:ad
 made:O Nat
 left:O Nat
structure c2(w:J)(T:aF)(c:de):Prop where
 t:bU w T
 v:Var w c.cb [.pointer (some T.a8),c.ma,c.fV] 284
 ma:aV 1 3 w c.ma (fA c.made)
 fV:aV 1 3 w c.fV (fA c.left)
 gc:T.G c.cb
 hK:∀q,ay c.ma q->T.G q/\q≠c.cb/\¬ay c.fV q
 j1:∀q,ay c.fV q->T.G q/\q≠c.cb
 ns:¬T.C.D.ro
theorem Bg{w:J}{s:ad}{ds:O Nat}(d:Nat)(b:aV 1 3 w s (fA ds))(l:ds.length<=1000000):
 ∃ (a:ad) (w':J),Sem.run aj (Builtin.append_ #[72,72] 72 #[s,.slice (some w.heap.size) 1 1]) (w.alloc (.cells #[d] 3))=.ok a w'/\
  aV 1 3 w' a (fA (ds++ [d]))/\af (ay s) w w'/\(∀k,ay a k->ay s k\/w.heap.size<=k)/\af (ay s) (w.alloc (.cells #[d] 3)) w':=by
 have m:s.len=ds.length:=by have:=b.1;rw[pN]at this;omega
 have hc:Ext w (w.alloc (.cells #[d] 3)):=dE _ _;have n:(w.alloc (.cells #[d] 3)).heap.size=w.heap.size+1:=rp _ _;obtain⟨a,w',e,f,o,c,g⟩:=rq.append (dD:=72) (x:=⟨some w.heap.size,1,1⟩) (Src.new (T:=3) w [d] 1 rfl) (b.ext hc) (λv i=>by rw[fi.1 i];trivial) (by show(2*(s.len+1)+1000)*8<=_;omega);exact⟨a,w',e,by simpa[fA] using f,(af.c7 hc).trans c,λk j=>(g k j).imp id (λh=>I),c⟩
section
variable {w w':J}{T ao:aF}{c:de}
theorem c2.of{W:Nat->Prop}(h:c2 w T c)(d:bU w' ao)(hc:af W w w')(cp:∀q,T.G q->¬W q)(f:ao.a8=T.a8)(b:∀q,T.G q->ao.G q)(g:ao.C.D.bT=T.C.D.bT:=by rfl):c2 w' ao c:=
 ⟨d,by rw[f];exact h.v.ag hc (cp _ h.gc),h.ma.ag hc λq a=>cp q (h.hK q a).1,h.fV.ag hc λq a=>cp q (h.j1 q a).1,b _ h.gc,λq a=>⟨b q (h.hK q a).1,(h.hK q a).2⟩,λq a=>⟨b q (h.j1 q a).1,(h.j1 q a).2⟩,λe=>h.ns λi=>g▸e i⟩
theorem c2.ext(h:c2 w T c)(hx:Ext w w'):c2 w' T c:=h.of (h.t.ext hx) hx (λ_ _ h=>h) rfl λ_ h=>h
theorem c2.cells(h:c2 w T c):w.cell? c.cb=some (.pointer (some T.a8))/\w.cell? (Addr.add c.cb 1)=some (.slice c.ma.a c.ma.len c.ma.cap)/\w.cell? (Addr.add c.cb 2)=some (.slice c.fV.a c.fV.len c.fV.cap):=by
 rw[aB,aB];exact⟨h.v.cell,h.v.cell,h.v.cell⟩
theorem bU.u4(h:bU w T){q:Nat}(a:T.G q):¬cV T.C q:=λhf=>(h.ca.inv.eV q (.inr (.inr (.inr a)))).2 hf
theorem bU.u5{f:Nat->al}(h:bU w T)(hs:e1 w' T.sb T.n f T.g T.s1 T.s2)(hc:af (gb T.sb T.s1 T.s2) w w'):bU w' (T.iD f)/\bD T (T.iD f) w w' 0:=
 ⟨⟨h.t.ag hc h.jB,hs,h.ca.ag hc λq a=>.inr (.inl a),h.jB,h.dA,h.iC,h.n,h.num,h.ez,h.bT,h.low⟩,
  ⟨rfl,rfl,rfl,rfl,rfl,rfl,rfl,rfl,rfl,rfl,bk _,λ_ h=>h,hc.mono λq _ a=>.inr (.inr (.inl a)),λq h=>.inl h,λq h=>.inl h⟩⟩
theorem Gb(h:c2 w T c)(no:Nat)(A:c.made.length<=100000):
 ∃ (b:ad) (ai:J),Sem.run aj (Builtin.append_ #[72,72] 72 #[c.ma,.slice (some w.heap.size) 1 1]) (w.alloc (.cells #[no] 3))=.ok b ai/\
  af (ay c.ma) (w.alloc (.cells #[no] 3)) ai/\(∃u:aa,ai.cell? ⟨c.cb,1,none⟩=some u)/\ai.frozen? ⟨c.cb,1,none⟩=false/\
  ∀k,k=ai.setCell ⟨c.cb,1,none⟩ b->c2 k (T.cj T.E λq=>T.G q\/ay b q) {c with ma:=b,made:=c.made++ [no]}/\bD T (T.cj T.E λq=>T.G q\/ay b q) w k 0:=by
 obtain⟨b,ai,r,m,f,g,s⟩:=Bg no h.ma I;have cp:∀q,ay c.ma q->T.G q:=λq a=>(h.hK q a).1;have B:=f.size;have n:=h.v.ag f λa=>(h.hK _ a).2.1 rfl;obtain⟨b7,cA⟩:=ek n (i:=1) (by simp);refine⟨b,ai,r,s,b7,cA,?_⟩;rintro _ rfl;have j:=dJ ai c.cb 1 b;have x:=ej n (i:=1) b;have l:af T.G w (ai.setCell ⟨c.cb,1,none⟩ b):=c5 (f.mono λq _ a=>cp q a) j λq _ e=>by rw[e];exact h.gc
 have C:=l.size;have aH:∀q,ay b q->q<ai.heap.size:=λq a=>aV.lt m q a;have o:∀q,ay b q->T.G q\/(w.heap.size<=q/\q<(ai.setCell ⟨c.cb,1,none⟩ b).heap.size):=λq a=>by
  rcases g q a with d|d
  .exact .inl (cp q d)
  .exact .inr ⟨d,by have:=aH q a;have:=j.size;omega⟩
 have p:∀q,ay b q->q≠c.cb:=λq a e=>by
  rcases g q a with d|d
  .exact(h.hK q d).2.1 e
  .have:=h.v.lt;omega
 have y:∀q,ay b q->¬ay c.fV q:=λq a e=>by
  rcases g q a with d|d
  .exact(h.hK q d).2.2 e
  .have:=aV.lt h.fV q e;omega
 have z:=h.t.grow (E:=T.E) (G:=λq=>T.G q\/ay b q) l (λq a _=>.inr a) (λq a=>.inl a) (λq a=>by
  rcases a with a|a
  .exact .inr (.inl a)
  .exact .inr (o q a)) λq a hg=>by
  rcases hg with hg|hg
  .exact(h.t.dA q a).2.2 hg
  .rcases g q hg with d|d
   .exact(h.t.dA q a).2.2 (cp q d)
   .have:=h.t.lt (q:=q) (.inr (.inr (.inr (.inl a))));omega
 refine⟨⟨z,x,?_,(h.fV.ag f λq a e=>(h.hK q e).2.2 a).ag j λq a e=>(h.j1 q a).2 e,.inl h.gc,λq a=>⟨.inr a,p q a,y q a⟩,λq a=>⟨.inl (h.j1 q a).1,(h.j1 q a).2⟩,h.ns⟩,?_⟩
 .have:aV 1 3 ai b (fA (c.made++ [no])):=m
  exact this.ag j λq a e=>p q a e
 .have h0:bD T T w w 0:=.refl _ _
  exact h0.step l (λq a _=>.inr (.inr (.inr a))) (λq a=>.inl a) λq a=>by
   rcases a with a|a
   .exact .inl a
   .exact(o q a).imp id λe=>e.1
theorem Bh(h:c2 w T c)(no:Nat)(A:c.left.length<=100000):
 ∃ (b:ad) (ai:J),Sem.run aj (Builtin.append_ #[72,72] 72 #[c.fV,.slice (some w.heap.size) 1 1]) (w.alloc (.cells #[no] 3))=.ok b ai/\
  af (ay c.fV) (w.alloc (.cells #[no] 3)) ai/\(∃u:aa,ai.cell? ⟨c.cb,2,none⟩=some u)/\ai.frozen? ⟨c.cb,2,none⟩=false/\
  ∀k,k=ai.setCell ⟨c.cb,2,none⟩ b->c2 k (T.cj T.E λq=>T.G q\/ay b q) {c with fV:=b,left:=c.left++ [no]}/\bD T (T.cj T.E λq=>T.G q\/ay b q) w k 0:=by
 obtain⟨b,ai,r,m,f,g,s⟩:=Bg no h.fV I;have cp:∀q,ay c.fV q->T.G q:=λq a=>(h.j1 q a).1;have B:=f.size;have n:=h.v.ag f λa=>(h.j1 _ a).2 rfl;obtain⟨b7,cA⟩:=ek n (i:=2) (by simp);refine⟨b,ai,r,s,b7,cA,?_⟩;rintro _ rfl;have j:=dJ ai c.cb 2 b;have x:=ej n (i:=2) b;have l:af T.G w (ai.setCell ⟨c.cb,2,none⟩ b):=c5 (f.mono λq _ a=>cp q a) j λq _ e=>by rw[e];exact h.gc
 have C:=l.size;have aH:∀q,ay b q->q<ai.heap.size:=λq a=>aV.lt m q a;have o:∀q,ay b q->T.G q\/(w.heap.size<=q/\q<(ai.setCell ⟨c.cb,2,none⟩ b).heap.size):=λq a=>by
  rcases g q a with d|d
  .exact .inl (cp q d)
  .exact .inr ⟨d,by have:=aH q a;have:=j.size;omega⟩
 have p:∀q,ay b q->q≠c.cb:=λq a e=>by
  rcases g q a with d|d
  .exact(h.j1 q d).2 e
  .have:=h.v.lt;omega
 have y:∀q,ay c.ma q->¬ay b q:=λq e a=>by
  rcases g q a with d|d
  .exact(h.hK q e).2.2 d
  .have:=aV.lt h.ma q e;omega
 have z:=h.t.grow (E:=T.E) (G:=λq=>T.G q\/ay b q) l (λq a _=>.inr a) (λq a=>.inl a) (λq a=>by
  rcases a with a|a
  .exact .inr (.inl a)
  .exact .inr (o q a)) λq a hg=>by
  rcases hg with hg|hg
  .exact(h.t.dA q a).2.2 hg
  .rcases g q hg with d|d
   .exact(h.t.dA q a).2.2 (cp q d)
   .have:=h.t.lt (q:=q) (.inr (.inr (.inr (.inl a))));omega
 refine⟨⟨z,x,(h.ma.ag f λq a e=>(h.hK q a).2.2 e).ag j λq a e=>(h.hK q a).2.1 e,?_,.inl h.gc,λq a=>⟨.inl (h.hK q a).1,(h.hK q a).2.1,y q a⟩,λq a=>⟨.inr a,p q a⟩,h.ns⟩,?_⟩
 .have:aV 1 3 ai b (fA (c.left++ [no])):=m
  exact this.ag j λq a e=>p q a e
 .have h0:bD T T w w 0:=.refl _ _
  exact h0.step l (λq a _=>.inr (.inr (.inr a))) (λq a=>.inl a) λq a=>by
   rcases a with a|a
   .exact .inl a
   .exact(o q a).imp id λe=>e.1
end
def b4(T:aF):Nat:=T.n-ey (λi=>T.f i||T.g i) T.n
theorem Bi{s t:Nat->al}:∀ {n:Nat},(∀i,i<n->s i=t i)->ey s n=ey t n
 |0,_=>rfl
 |n+1,h=>by
  unfold ey
  rw[Bi (n:=n) λi hi=>h i I,h n I]
theorem u6{s t:Nat->al}{k:Nat}(a:s k=false)(ht:t k=true)(he:∀i,i≠k->t i=s i):∀ {n:Nat},k<n->ey t n=ey s n+1
 |0,h=>by omega
 |n+1,h=>by
  unfold ey
  by_cases e:k=n
  .subst e
   rw[Bi (s:=t) (t:=s) (n:=k) λi hi=>he i I,a,ht]
   simp
  .rw[u6 a ht he (n:=n) I,he n I]
   omega
theorem Bj{t:Nat->al}:∀ {n:Nat},(∀i,i<n->t i=true)->ey t n=n
 |0,_=>rfl
 |n+1,h=>by
  unfold ey
  rw[Bj (n:=n) λi hi=>h i I,h n I]
  simp
theorem Bk{T:aF}(h:1<=b4 T):∃no,firstFree (λi=>T.f i||T.g i) T.n=some no:=by
 cases hf:firstFree (λi=>T.f i||T.g i) T.n with
 |some no=>exact⟨no,rfl⟩
 |none=>
  have:=Bj (FF hf);unfold b4 at h;rw[this]at h;omega
structure c3(T ao:aF)(c c':de)(m l:O Nat)(w w':J)(k:Nat):Prop where
 to:bD T ao w w' k
 E:ao.E=T.E
 G:∀q,T.G q->ao.G q
 root:ao.root=T.root
 aG:ao.aG=T.aG
 cb:c'.cb=c.cb
 made:c'.made=c.made++m
 left:c'.left=c.left++l
 b1:m.Nodup
 iY:∀no∈m,(T.f no||T.g no)=false/\no<T.n
 f:∀no,ao.f no=(T.f no||decide (no∈m))
 dX:∀no,(T.f no||T.g no)=true->ao.P no=T.P no/\ao.C.view no=T.C.view no
 room:b4 ao+m.length=b4 T
theorem c3.ext{w w':J}(T:aF)(c:de)(h:Ext w w'):c3 T T c c [] [] w w' 0:=
 ⟨.ext T h,rfl,λ_ h=>h,rfl,rfl,rfl,by simp,by simp,List.nodup_nil,λ_ h=>(by cases h),λno=>by simp,λ_ _=>⟨rfl,rfl⟩,by simp⟩
theorem c3.trans{T ao p:aF}{c c' r:de}{m s l t:O Nat}{w w' u:J}{k v:Nat}(d:c3 T ao c c' m l w w' k)(i:c3 ao p c' r s t w' u v):c3 T p c r (m++s) (l++t) w u (k+v):=by
 have hg:ao.g=T.g:=d.to.g;have x:ao.n=T.n:=d.to.n;have hf:∀no,(T.f no||T.g no)=true->(ao.f no||ao.g no)=true:=λno h=>by
  rw[d.f,hg]
  cases j:T.f no<;>cases o:T.g no<;>simp[j,o]at h⊢
 refine⟨d.to.trans i.to,i.E.trans d.E,λq h=>i.G q (d.G q h),i.root.trans d.root,i.aG.trans d.aG,i.cb.trans d.cb,by rw[i.made,d.made,cy],by rw[i.left,d.left,cy],?_,λno h=>?_,λno=>?_,λno h=>?_,?_⟩
 .rw[rV]
  refine⟨d.b1,i.b1,λa y b z e=>?_⟩;subst e;have:=(i.iY a z).1;rw[d.f]at this;simp[y]at this
 .rcases cD.1 h with h|h
  .exact d.iY no h
  .have j:=i.iY no h
   rw[d.f,hg,x]at j;refine⟨?_,j.2⟩
   cases A:T.f no<;>cases B:T.g no<;>simp[A,B]at j⊢
 .rw[i.f,d.f]
  simp only[cD,Bool.decide_or,Bool.or_assoc]
 .have j:=i.dX no (hf no h)
  have o:=d.dX no h;exact⟨j.1.trans o.1,j.2.trans o.2⟩
 .have:=d.room
  have:=i.room;rw[cn];omega
theorem c3.mono{T ao:aF}{c c':de}{m l:O Nat}{w w':J}{k j:Nat}(h:c3 T ao c c' m l w w' k)(a:k<=j):c3 T ao c c' m l w w' j:=⟨h.to.mono a,h.E,h.G,h.root,h.aG,h.cb,h.made,h.left,h.b1,h.iY,h.f,h.dX,h.room⟩
end Go.Proofs.YtcmgnhkpfllinaaGreat
