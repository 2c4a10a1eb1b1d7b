/- Contracts of the functions that the statement reaches, and the plain laws over them; each theorem stands with its conditions. -/
import Derived.OpenShut
import Derived.Test.YtkdhdlfonmgheaaGreatRows
import Derived.Test.YtkdhdlfonmgheaaGreatBPlays2
namespace Go.Proofs.YtkdhdlfonmgheaaGreat
open Go a6 Go.Proofs.Tryz
def a_.dv(D:a_)(i:Nat):O cT:=match D.waits.find? λx=>x.i==i with
 |some x=>x.gm
 |none=> []
theorem vF(D:a_)(h:∀x∈D.waits,x.gm≠ [])(i:Nat):D.now i=if D.dv i=[] then D.bh.getD i [] else (D.dv i).getLastD []:=by
 unfold a_.now a_.dv
 cases hf:D.waits.find? λx=>x.i==i with
 |some x=>
  have hx:=ju hf;simp only;rw[if_neg (h x hx)]
 |none=>simp
def a_.calm(D:a_)(k:Nat):Prop:=(D.cg.getD 1 0= -1\/(k:Int)<=D.cg.getD 1 0)/\(D.cg.getD 2 0= -1\/(k:Int)<=D.cg.getD 2 0)
def a_.j2(D:a_):Int->Prop:=λn=>(∀j,D.bI j=true)->D.writes=n
def a_.ro(D:a_):Prop:=∀i,D.bI i=true
def a_.key(D:a_):(O cT×(Nat->ah)×(Nat->O cT)×(Int->Prop))×Int:=((D.bh,D.bI,D.eo,D.j2),D.cg.getD 3 0)
theorem cr{W V:Nat->Prop}{w w' b:J}(h1:ad W w w')(h2:ad V w' b)(h:∀q,q<w.heap.size->V q->W q):ad W w b:=
 ⟨h2.os.trans h1.os,h2.tape.trans h1.tape,h2.output.trans h1.output,ew h1.size h2.size,λk a b8=>(h2.block k (fN a h1.size) λc=>b8 (h k a c)).trans (h1.block k a b8)⟩
theorem f_{D:a_}{k l:Nat}(h:D.calm k)(a:l<=k):D.calm l:=⟨h.1.imp id λh=>I,h.2.imp id λh=>I⟩
theorem jD{D:a_}{k m:Nat}(c:k=1\/k=2)(e:D.cg.length=4)(h:D.calm (m+1)):(D.cw k).calm m/\D.fP k=false:=by
 obtain⟨h1,h2⟩:=h;have iy:1<D.cg.length:=by omega
 have d:2<D.cg.length:=by omega
 rcases c with rfl|rfl
 .have a:(D.cw 1).cg.getD 1 0=(gx (D.cg.getD 1 0)).2:=by
   show(D.cg.set 1 _).getD 1 0=_;rw[ff (by rw[dc];omega),h5]
  have b:(D.cw 1).cg.getD 2 0=D.cg.getD 2 0:=by
   show(D.cg.set 1 _).getD 2 0=_;rw[ff (by rw[dc];omega),fA I,ff d]
  unfold a_.calm a_.fP;rw[a,b];unfold gx;rcases h1 with h1|h1
  .rw[if_pos h1]
   exact⟨⟨.inl rfl,h2.imp id λh=>I⟩,rfl⟩
  .rw[if_neg I,if_neg I]
   exact⟨⟨.inr (by show(m:Int)<=_-1;omega),h2.imp id λh=>I⟩,rfl⟩
 .have a:(D.cw 2).cg.getD 2 0=(gx (D.cg.getD 2 0)).2:=by
   show(D.cg.set 2 _).getD 2 0=_;rw[ff (by rw[dc];omega),h5]
  have b:(D.cw 2).cg.getD 1 0=D.cg.getD 1 0:=by
   show(D.cg.set 2 _).getD 1 0=_;rw[ff (by rw[dc];omega),fA I,ff iy]
  unfold a_.calm a_.fP;rw[a,b];unfold gx;rcases h2 with h2|h2
  .rw[if_pos h2]
   exact⟨⟨h1.imp id λh=>I,.inl rfl⟩,rfl⟩
  .rw[if_neg I,if_neg I]
   exact⟨⟨h1.imp id λh=>I,.inr (by show(m:Int)<=_-1;omega)⟩,rfl⟩
theorem p8(D:a_){k:Nat}(a:k=1\/k=2):(D.cw k).key=D.key:=by
 unfold a_.key a_.cw;rcases a with rfl|rfl<;>simp[ft]<;>rfl
theorem xW{sz:Nat}{w:J}{s:Y}{α:Type}{c:α->O aa}{l:O α}(h:Src sz w s (bH c l))(hc:∀x∈l,(c x).length=sz)(e:0<sz){i:Nat}(hi:i<l.length):
 s.len=l.length/\∃A,s.a=some A/\cJ w (A.add (i*sz)) 0 sz=some (c l[i]):=by
 have b:s.len=l.length:=by
  have:=h.len;rw[gK l hc]at this;exact(Nat.eq_of_mul_eq_mul_right e this).symm
 refine⟨b,?_⟩
 cases d:s.a with
 |none=>
  have:=congrArg List.length (h.nil d);rw[gK l hc,jw]at this;have:l.length*sz≠0:=Nat.mul_ne_zero I I;omega
 |some A=>
  refine⟨A,rfl,?_⟩;have f:i*sz+sz<=s.len*sz:=by
   rw[b,←Nat.succ_mul];exact mD _ hi
  rw[Ai (h.rd A d) f,Bf hc hi]
def p9:O aa:=aG (List.replicate 256 0)
def xX(D:a_)(i:Nat)(w:J)(v:aa)(w':J):Prop:=v=.agg (aG (D.now i)).toArray/\Ext w w'
theorem Bj{w:J}{D:a_}(h:cB w D){i:Nat}(hi:i<D.n)(Q:D.aO<=1000000000):
 aN aj 137 #[.pointer (some D.d),i] w (xX D i w):=by
 have R:=h.bq;have f:=h.oy hi;refine okF (I7.ur (some D.d) (i:Int)) I6.ur func137 ?_;(delta I7.ur z4 ai ar xe U af tc;dsimp only);refine bd (vs:=p9) (by kernel_rfl) λw1 g u _=>?_;have hd:=h.ext u;refine⟨_,rfl,some D.mr,hd.aZ,?_⟩;have y:p9.length=256:=by rw[p9,ej,mJ]
 have fin:∀ (K:O aa->J->Prop),(∀a,Ext w a->K (aG (D.now i)) a)->bx w1 w.heap.size (Array.toList (aG (D.now i)).toArray)/\Array.size (aG (D.now i)).toArray=256/\ak (setCells w1 w.heap.size 0 (Array.toList (aG (D.now i)).toArray)) λa=>∃b:O aa,cJ a w.heap.size 0 256=some b/\K b a:=by
  intro K E;refine⟨g.b9 (by rw[qE,ej,f,y]) (by rw[qE];exact kZ _),by simp[ej,f],cu g (us:=aG (D.now i)) (by rw[ej,f,y]) rfl λa F G _=>⟨_,F.rd (by rw[ej,f]),E a (Ext.cm u G (bn _))⟩⟩
 cases hf:D.waits.find? λx=>x.i==i with
 |some x=>
  have hx:=ju hf;have H:x.i=i:=by
   have:=kc hf;exact eq_of_beq this
  have j:=hd.m.wZ ox lG (k:=(i:Int)) (v:=x.s) (ep.2 ⟨x,hx,by unfold g0.e;rw[H]⟩) false;have L:=(h.wn x hx).1;have hlen:0<x.gm.length:=sj.2 L;have S:=(h.wn x hx).2.2;obtain⟨z,A,aq,p⟩:=xW (hd.ws x hx).src (λs hs=>by rw[ej];exact h.ku x hx s hs) (by decide) (i:=x.gm.length-1) I;have q:D.now i=x.gm[x.gm.length-1]'I:=by
   unfold a_.now;rw[hf];show x.gm.getLastD []=_;rw[List.getLastD_eq_getLast?,List.getLast?_eq_getElem?,du I];rfl
  refine⟨x.s,w1,j,λ_=>⟨A,aq,?_⟩,λr=>?_⟩
  .rw[z,bu (n:=(x.gm.length:Int)-1) I I]
   have M:Int.toNat ((x.gm.length:Int)-1)=x.gm.length-1:=by omega
   rw[M];refine⟨⟨I,I⟩,_,p,?_⟩;rw[←q];exact fin (λb a=>xX D i w (.agg b.toArray) a) λa t=>⟨rfl,t⟩
  .have:=cp r
   omega
 |none=>
  obtain⟨T,h1,h2⟩:=rJ Bh;have j:=hd.m.Af ox lG (k:=(i:Int)) h1 h2 (λv g=>by
   obtain⟨x,hx,he⟩:=ep.1 g;have N:=iO.1 hf x hx;unfold g0.e at he;simp only[Prod.mk.injEq]at he;apply N;have:x.i=i:=by omega
   rw[this];simp) false
  have B:i<D.bh.length:=hi;have q:D.now i=D.bh[i]:=by
   unfold a_.now;rw[hf];exact ff B
  have P:Src 256 w1 ⟨some D.lb,D.bh.length,D.bh.length⟩ (bH aG D.bh):=by
   have C:=gK (c:=aG) (sz:=256) D.bh λs hs=>by rw[ej];exact h.sl s hs
   have:=bt.q3 (sz:=256) (o:=0) (n:=D.bh.length) (cap:=D.bh.length) hd.l (by simp[C]);rw[lh,qE,dD (by rw[C];exact bn _)]at this;exact this
  obtain⟨z,A,aq,p⟩:=xW P (λs hs=>by rw[ej];exact h.sl s hs) (by decide) B;refine⟨⟨none,0,0⟩,w1,j,λr=>by simp at r,λ_=>⟨_,rfl,_,hd.c9,A,aq,⟨I,by show(i:Int)<(D.bh.length:Int);omega⟩,_,p,?_⟩⟩;rw[←q];exact fin (λb a=>xX D i w (.agg b.toArray) a) λa t=>⟨rfl,t⟩
def FQ(D:a_)(i:Nat)(w:J)(v:aa)(w':J):Prop:=
 cB w' (D.cw 1)/\ad (λq=>q=D.d) w w'/\
  ((D.fP 1=true/\v=.tuple #[(),(3:Int)])\/
   (D.fP 1=false/\∃s:Y,v=.tuple #[s,(0:Int)]/\aY (λq=>w.heap.size<=q) w' s (D.now i)))
theorem xY{w:J}{D:a_}(h:cB w D){i:Nat}(hi:i<D.n)(x:D.aO<=1000000000):
 aN aj 114 #[.pointer (some D.d),i] w (FQ D i w):=by
 refine okF (I7.uh (some D.d) (i:Int)) I6.uh func114 ?_;(delta I7.uh aF ai td gF z4 U;dsimp only);refine(Bi h _).use ?_;rintro _ _ ⟨rfl,rfl⟩;refine⟨_,rfl,λa=>?_,λ_=>⟨_,rfl,(xV h (k:=1) (by decide)).use ?_⟩⟩
 .have a:¬(0<=(i:Int)/\(i:Int)<D.n):=by simpa using a
  omega
 rintro _ ag ⟨rfl,b,j,z⟩;refine⟨_,rfl,λa=>⟨b,j,.inl ⟨a,rfl⟩⟩,λa=>(Bj b (i:=i) hi x).use ?_⟩;rintro _ m ⟨rfl,g⟩;have f:=h.oy hi;refine⟨_,rfl,bd (vs:=p9) (by kernel_rfl) λB p r C=>⟨p.b9 (by rw[qE,ej];show(D.now i).length=_;rw[f,p9,ej,mJ]) (by rw[qE];exact kZ _),by rw[sw,ej];exact f,cu p (us:=aG (D.now i)) (by rw[ej,f,p9,ej,mJ]) rfl λE s t F=>?_⟩⟩;have G:=g.size;have aJ:D.d<ag.heap.size:=b.v.lt;refine⟨(b.ext (g.trans r)).ae t (λq u e=>by have:=b.lt u;omega),cr (j.trans (ad.cF (g.trans r))) t λq u e=>I,.inr ⟨a,⟨some m.heap.size,256,256⟩,rfl,?_,bn _,λk y=>?_⟩⟩
 .have:=s.AK (o:=0) (n:=256) (c:=256) (l:=D.now i) (by rw[ej,f];decide) (by rw[lh,dD (by rw[ej,f];decide)])
  exact this
 .obtain⟨A,aq,rfl⟩:=y
  cases aq;have:=s.lt;exact⟨by show w.heap.size<=m.heap.size;omega,this⟩
theorem Bk:∀ (l:O aa) (k:Nat) (a:Array aa),(l.zipIdx k).foldl (λcs (p:aa×Nat)=>cs.setIfInBounds p.2 p.1) a=gE a k l
 | [],_,_=>rfl
 |v::l,k,a=>by
  rw[List.zipIdx_cons,List.foldl_cons]
  exact Bk l (k+1) (a.setIfInBounds k v)
theorem xZ{P:Program}{T e:TypeId}{d:TypeDesc}{i:TypeInfo}{z:aa}{sz:Nat}{cs:Array aa}(w:J)(h1:P.underlying T=some (.slice e))(h2:P.underlying e=some d)(f:P.cellsOf e=sz)(hi:P.info? e=some i)(g:i.zero=some z)(a:cs.size=sz)(o:sz≠0)(q:sz<=16777216):
 Sem.run P (Instr.buildSlice T 1 #[(0,.agg cs)]) w=.ok (.slice (some w.heap.size) 1 1) (w.alloc (.cells cs e)):=by
 have b:=iw (P:=P) (w:=w) h2;rw[f]at b;have h:Instr.fill (λi=>some (i*sz,sz)) ((Array.range (1*sz)).map λx=>z.cells[x%z.cells.size]!) [(0,.agg cs)]=some cs:=by
  have hc:(Value.agg cs).cells=cs:=rfl;rw[Instr.fill];simp only[hc];rw[if_neg (by simp[a]),Instr.fill];rw[←Array.foldl_toList,Array.toList_zipIdx];have e:(λ(cs:Array aa) (x:aa×Nat)=>match x with|(c,j)=>cs.setIfInBounds (0*sz+j) c)=λcs (p:aa×Nat)=>cs.setIfInBounds p.2 p.1:=by
   funext cs x;obtain⟨c,j⟩:=x;simp
  rw[e,Bk]
  congr 1
  apply Array.toList_inj.1;rw[lu _ _ _ (by simp[a])];simp[a]
 have k:=mK (w:=w) hi;have l:¬(1*sz>2^24):=by
  have:(2:Nat)^24=16777216:=rfl;omega
 have m:¬(1*sz=0):=by omega
 have n:Instr.fill (λi=>some (i*sz,sz)) ((Array.range (1*sz)).map λx=>z.cells[x%z.cells.size]!) (#[(0,Value.agg cs)]:Array (Nat×aa)).toList=some cs:=h;simp only[Instr.buildSlice,Sem.run_bind,dh h1,b,Result.andThen,l,m,if_false,zeroValue,k,g,Sem.run_pure,n];simp[newRow,newObj,Sem.run]
theorem Bl(w:J)(l:cT)(a:l.length=256):
 Sem.run aj (Instr.buildSlice 136 1 #[(0,.agg (aG l).toArray)]) w=.ok (.slice (some w.heap.size) 1 1) (w.alloc (.cells (aG l).toArray 182)):=by
 have h:((Tryz.prog.info? 182).bind (·.zero)).isSome=true:=by kernel_rfl
 obtain⟨z,b⟩:=mz.1 h;obtain⟨i,hi,c⟩:=rJ b;exact xZ (d:=.array 256 5) (sz:=256) w (by kernel_rfl) (by kernel_rfl) (by kernel_rfl) hi c (by rw[sw,ej,a]) (by decide) (by decide)
theorem FR:hG aj 136 182 256 256:=⟨by kernel_rfl⟩
def a_.put(D:a_)(i:Nat)(s:Y)(l:cT):a_:=
 {D.cw 2 with waits:=⟨i,s,D.dv i++ [l]⟩::D.waits.filter (λx=>x.i !=i),writes:=IntKind.wrap .i64 (D.writes+1),aO:=D.aO+1}
theorem Bm{D:a_}{i j:Nat}(h:j≠i):(D.waits.filter λx=>x.i !=i).find? (λx=>x.i==j)=D.waits.find? λx=>x.i==j:=by
 rw[List.find?_filter]
 congr 1
 funext x;by_cases e:x.i=j
 .rw[e];simp[h]
 .simp[e]
theorem Bn(D:a_)(i:Nat)(s:Y)(l:cT)(j:Nat):(D.put i s l).dv j=if j=i then D.dv i++ [l] else D.dv j:=by
 unfold a_.dv a_.put;by_cases h:j=i
 .subst h
  simp[a_.dv]
 .rw[if_neg h]
  simp only;rw[List.find?_cons_of_neg (by simp;omega),Bm h]
theorem oz(D:a_)(i:Nat)(s:Y)(l:cT)(j:Nat):(D.put i s l).now j=if j=i then l else D.now j:=by
 unfold a_.now a_.put;by_cases h:j=i
 .subst h
  simp
 .rw[if_neg h]
  simp only;rw[List.find?_cons_of_neg (by simp;omega),Bm h];rfl
def Bo(D:a_)(i:Nat)(l:cT)(w:J)(v:aa)(w':J):Prop:=
 (D.fP 2=true/\v=.int .i64 3/\cB w' (D.cw 2)/\ad (λq=>q=D.d) w w')\/
 (D.fP 2=false/\v=.int .i64 0/\∃s:Y,cB w' (D.put i s l)/\ad (bT D) w w'/\∀q,az s q->bT D q\/w.heap.size<=q)
theorem vG{w:J}{D:a_}{b:Y}{l:cT}(h:cB w D){i:Nat}(hi:i<D.n)(bd:D.aO<=1000000000)(W:Src 1 w b (aG l))(G:l.length=256)(hd:∀q,az b q->¬bT D q):
 aN aj 75 #[.pointer (some ⟨D.d,0,none⟩),.int .i64 ((i:Nat):Int),.slice b.a b.len b.cap] w (Bo D i l w):=by
 have ay:=len8 W;have be:=h.bq;refine okF (I7.tT (some ⟨D.d,0,none⟩) ((i:Nat):Int) b) I6.tT func75 ?_;(delta I7.tT aF ai w8 r1 st ar;dsimp only);refine(Bi h _).use ?_;rintro _ _ ⟨rfl,rfl⟩;have aQ:decide (0<=(i:Int)/\(i:Int)<D.n)=true:=dm ⟨I,I⟩;refine⟨_,rfl,λh1=>?_,λ_=>⟨_,rfl,(xV h (k:=2) (by decide)).use ?_⟩⟩
 .rw[aQ,ay,G]at h1
  simp at h1
 rintro _ ag ⟨rfl,H,X,bf⟩;refine⟨_,rfl,λZ=>.inl ⟨Z,rfl,H,X⟩,λZ=>aS ?_⟩;obtain⟨p,hold⟩:∃p:Y,(match D.waits.find? λx=>x.i==i with|some x=>x.s|none=>⟨none,0,0⟩)=p:=⟨_,rfl⟩;have t:=H.ext (b4 ag);have aR:Src 1 ag.drew b (aG l):=(W.ae X λq f e=>hd q f (.inl e)).ext (b4 ag)
 have aT:a8 256 182 ag.drew p (bH aG (D.dv i))/\(∀q,az p q->bT D q/\q≠D.d/\q≠D.lb/\q≠D.mr)/\(∀x∈D.waits,x.i≠i->∀q,az x.s q->¬az p q)/\(D.dv i).length<=D.aO/\(∀s∈D.dv i,s.length=256)/\
  ∀w':J,er w' D.mr encZ (D.waits.map g0.e)->Sem.run aj (Instr.lookup 137 (.map (some D.mr)) (.int .i64 ((i:Nat):Int)) false) w'=.ok (.slice p.a p.len p.cap) w':=by
  cases hf:D.waits.find? λx=>x.i==i with
  |some x=>
   rw[hf]at hold;have hold:x.s=p:=hold;subst hold;have hx:=ju hf;have R:x.i=i:=by
    have:=kc hf;exact eq_of_beq this
   have e:D.dv i=x.gm:=by unfold a_.dv;rw[hf]
   rw[e];refine⟨t.ws x hx,λq f=>⟨.inr (.inr (.inr ⟨x,hx,f⟩)),λe=>(h.a2 x hx).1 (e▸f),λe=>(h.a2 x hx).2.1 (e▸f),λe=>(h.a2 x hx).2.2 (e▸f)⟩,λy r z=>h.a3 y r x hx I,(h.wn x hx).2.2,h.ku x hx,λw' K=>K.wZ ox lG (k:=(i:Int)) (v:=.slice x.s.a x.s.len x.s.cap) (ep.2 ⟨x,hx,by unfold g0.e;rw[R]⟩) false⟩
  |none=>
   rw[hf]at hold;have hold:(⟨none,0,0⟩:Y)=p:=hold;subst hold;have e:D.dv i=[]:=by unfold a_.dv;rw[hf]
   rw[e];obtain⟨bg,h1,h2⟩:=rJ Bh;refine⟨a8.none _ _ _,λq f=>(gf q f).elim,λx _ _ q _ f=>(gf q f).elim,cE _,λs hs=>(by cases hs),λw' K=>K.Af ox lG (k:=(i:Int)) h1 h2 (λv ac=>?_) false⟩;obtain⟨x,hx,he⟩:=ep.1 ac;have aU:=iO.1 hf x hx;unfold g0.e at he;simp only[Prod.mk.injEq]at he;apply aU;have:x.i=i:=by omega
   rw[this];simp
 obtain⟨aA,B,aB,bi,aC,aD⟩:=aT;obtain⟨A,aq,aV⟩:∃A,b.a=some A/\cJ ag.drew A 0 256=some (aG l):=by
  cases aE:b.a with
  |none=>
   have:=congrArg List.length (W.nil aE);rw[ej,G]at this
   cases this
  |some A=>
   refine⟨A,rfl,?_⟩;have:=aR.rd A aE;rwa[ay,G]at this
 have aW:¬az p A.block:=λf=>hd _ ⟨A,aq,rfl⟩ (B _ f).1
 have aH:∀C:J,Ext ag.drew C->∃ (g:Y) (j:J),Sem.run aj (Builtin.append_ #[136,136] 136 #[.slice p.a p.len p.cap,.slice (some ⟨C.heap.size,0,none⟩) 1 1]) (C.alloc (.cells (aG l).toArray 182))=.ok (.slice g.a g.len g.cap) j/\
  a8 256 182 j g (bH aG (D.dv i++ [l]))/\ad (az p) C j/\(∀k,az g k->az p k\/C.heap.size<=k)/\ad (az p) (C.alloc (.cells (aG l).toArray 182)) j:=by
  intro C aX;have hlen:p.len=(D.dv i).length:=by
   have:=aA.1;rw[gK (c:=aG) (sz:=256) _ λs hs=>by rw[ej];exact aC s hs]at this;omega
  have af:=eA C (.cells (aG l).toArray 182);obtain⟨g,j,au,aw,E,L,M⟩:=FR.append (cG:=136) (x:=⟨some ⟨C.heap.size,0,none⟩,1,1⟩) (Src.new (T:=182) C (aG l) 1 (by rw[ej,G])) (aA.ext (aX.trans af)) (kZ l) (by rw[hlen];show(2*(_+1)+1000)*256<=_;omega);refine⟨g,j,au,?_,(ad.cF af).trans L,λk aY=>(M k aY).imp id λh=>?_,L⟩
  .rw[lF]
   have:bH aG [l]=aG l:=by simp[bH]
   rw[this];exact aw
  .have:=af.size;omega
 have aI:∀ (j:J) (g:Y),er j D.mr encZ (D.waits.map g0.e)->∃o:J,Sem.run aj (Instr.mapUpdate 137 (.map (some D.mr)) (.int .i64 ((i:Nat):Int)) (.slice g.a g.len g.cap)) j=.ok () o/\ad (λq=>q=D.mr) j o/\
  er o D.mr encZ ((g0.mk i g (D.dv i++ [l])::D.waits.filter λx=>x.i !=i).map g0.e):=by
  intro j g K;have ah:=K.keys;rw[iu]at ah
  cases hf:D.waits.find? λx=>x.i==i with
  |some x=>
   have hx:=ju hf;have R:x.i=i:=by
    have:=kc hf;exact eq_of_beq this
   obtain⟨ba,bB,he⟩:=List.append_of_mem hx;have z:∀y∈ba++bB,y.i≠i:=by
    intro y r e;rw[he,fV,jd]at ah;have h1:=(mE.nodup_iff).1 ah;rw[List.nodup_cons]at h1;apply h1.1;rw[←fV];refine ep.2 ⟨y,r,?_⟩;show((y.i:Nat):Int)=((x.i:Nat):Int);omega
   have al:D.waits.filter (λx=>x.i !=i)=ba++bB:=by
    rw[he,kK,List.filter_cons_of_neg (by simp[R])];rw[jQ.2 λy r=>by have:=z y (js _ r);simpa using this,jQ.2 λy r=>by have:=z y (h4 _ r);simpa using this]
   have a0:(D.waits.map g0.e).Perm (((i:Int),.slice x.s.a x.s.len x.s.cap)::(ba++bB).map g0.e):=by
    rw[he,fV,jd,fV];have:x.e=((i:Int),.slice x.s.a x.s.len x.s.cap):=by unfold g0.e;rw[R]
    rw[this];exact mE
   obtain⟨o,au,aw,_,E⟩:=FM ox lG (K.perm a0) (.slice g.a g.len g.cap);refine⟨o,au,aw,?_⟩;rw[al];exact E
  |none=>
   have z:∀y∈D.waits,y.i≠i:=λy r e=>by
    have:=iO.1 hf y r;rw[e]at this;simp at this
   have al:D.waits.filter (λx=>x.i !=i)=D.waits:=jQ.2 λy r=>by simpa using z y r
   obtain⟨o,au,aw,_,E⟩:=FL ox lG (k:=(i:Int)) K (λv ac=>by
    obtain⟨x,hx,he⟩:=ep.1 ac;unfold g0.e at he;simp only[Prod.mk.injEq]at he;exact z x hx I) (.slice g.a g.len g.cap)
   refine⟨o,au,aw,?_⟩;rw[al];exact E
 have fin:∀ (j o:J) (g:Y),ad (az p) ag.drew j->a8 256 182 j g (bH aG (D.dv i++ [l]))->(∀k,az g k->az p k\/ag.drew.heap.size<=k)->ad (λq=>q=D.mr) j o->er o D.mr encZ ((g0.mk i g (D.dv i++ [l])::D.waits.filter λx=>x.i !=i).map g0.e)->
  ∃aJ:ab,(some ⟨D.d,0,none⟩:ao ab)=some aJ/\∃n24:Int,o.cell? (aJ.add 6)=some (.int .i64 n24)/\∃S:ab,(some ⟨D.d,0,none⟩:ao ab)=some S/\(∃u:aa,o.cell? (S.add 6)=some u)/\o.frozen? (S.add 6)=false/\ak (o.setCell (S.add 6) (.int .i64 (IntKind.wrap .i64 (n24+1)))) λa4=>Bo D i l w (.int .i64 0) a4:=by
  intro j o g U a5 am aK a6;have a7:=t.v.ae U λf=>(B _ f).2.1 rfl;have an:Var o D.d (D.cw 2).c 141:=a7.ae aK h.a1.2.1;have hlen:(D.cw 2).c.length=7:=H.vE;obtain⟨s1,s2⟩:=dH an (i:=6) (by rw[hlen];decide);have b6:o.cell? (Addr.add ⟨D.d,0,none⟩ 6)=some (.int .i64 D.writes):=by
   rw[av,cx,an.cell];unfold a_.c;have:=H.f4;rw[kL (by rw[dN];omega),dN,this];rfl
  rw[av,cx]at b6;refine⟨_,rfl,D.writes,by rw[av,cx];exact b6,_,rfl,by rw[av,cx];exact s1,by rw[av,cx];exact s2,?_⟩;rw[av,cx];have aL:=dn o D.d 6 (.int .i64 (IntKind.wrap .i64 (D.writes+1)));have aM:=dJ an (i:=6) (.int .i64 (IntKind.wrap .i64 (D.writes+1)));have a9:(D.cw 2).c.set 6 (.int .i64 (IntKind.wrap .i64 (D.writes+1)))=(D.put i g l).c:=by
   have bb:=H.f4;have N:(D.put i g l).c=(D.cw 2).cg.map (.int .i64)++ [.slice (some ⟨D.lb,0,none⟩) D.bh.length D.bh.length,.map (some D.mr),.int .i64 (IntKind.wrap .i64 (D.writes+1))]:=rfl;have O:(D.cw 2).c=(D.cw 2).cg.map (.int .i64)++ [.slice (some ⟨D.lb,0,none⟩) D.bh.length D.bh.length,.map (some D.mr),.int .i64 D.writes]:=rfl;rw[N,O,List.set_append_right _ _ (by rw[dN];omega),dN,bb];rfl
  rw[a9]at aM;have V:ad (λq=>q=D.mr\/q=D.d) j (o.setCell ⟨D.d,6,none⟩ (.int .i64 (IntKind.wrap .i64 (D.writes+1)))):=(aK.mono λq _ e=>.inl e).trans (aL.mono λq _ e=>.inr e);have P:∀q,az g q->q≠D.d/\q≠D.lb/\q≠D.mr:=λq f=>by
   have bj:=t.lt (q:=D.d) (.inl rfl);have bk:=t.lt (q:=D.lb) (.inr (.inl rfl));have bl:=t.lt (q:=D.mr) (.inr (.inr (.inl rfl)));rcases am q f with h1|h1
   .exact(B q h1).2
   .exact⟨I,I,I⟩
  have F:∀x∈D.waits.filter (λx=>x.i !=i),x∈D.waits/\x.i≠i:=λx hx=>by
   obtain⟨h1,h2⟩:=hC.1 hx;exact⟨h1,by simpa using h2⟩
  refine aS (.inr ⟨Z,rfl,g,⟨aM,?_,?_,?_,?_,h.sl,?_,h.bR,h.bq,H.f4,H.fr,h.a1,?_,?_⟩,?_,?_⟩)
  .exact bt.ae (bt.ae t.l U λf=>(B _ f).2.2.1 rfl) V (by
    rintro(e|e)
    .exact h.a1.2.2 e
    .exact h.a1.1 e.symm)
  .exact a6.ae aL (λe=>h.a1.2.1 e.symm)
  .intro x hx
   rcases cS.1 hx with rfl|hx
   .exact a5.ae V λq f=>by
     rintro(e|e)
     .exact(P q f).2.2 e
     .exact(P q f).1 e
   .obtain⟨h1,h2⟩:=F x hx
    refine((t.ws x h1).ae U λq f=>aB x h1 h2 q f).ae V λq f=>?_;rintro(e|e)
    .exact(h.a2 x h1).2.2 (e▸f)
    .exact(h.a2 x h1).1 (e▸f)
  .intro x hx
   rcases cS.1 hx with rfl|hx
   .refine⟨by simp,hi,?_⟩
    show(D.dv i++ [l]).length<=D.aO+1;rw[ct,iN];omega
   .obtain⟨h1,h2⟩:=F x hx
    have:=h.wn x h1;exact⟨this.1,this.2.1,Nat.le_succ_of_le this.2.2⟩
  .intro x hx
   rcases cS.1 hx with rfl|hx
   .intro s hs
    rcases cP.1 hs with hs|hs
    .exact aC s hs
    .rw[fh.1 hs];exact G
   .exact h.ku x (F x hx).1
  .intro x hx
   rcases cS.1 hx with rfl|hx
   .exact⟨λf=>(P _ f).1 rfl,λf=>(P _ f).2.1 rfl,λf=>(P _ f).2.2 rfl⟩
   .exact h.a2 x (F x hx).1
  .have aP:∀y∈D.waits,y.i≠i->∀q,az y.s q->¬az g q:=λy r z q f Q=>by
    rcases am q Q with h1|h1
    .exact aB y r z q f h1
    .have:=(t.ws y r).lt q f;omega
   intro x hx y r z q f Q;rcases cS.1 hx with rfl|hx
   .rcases cS.1 r with rfl|r
    .exact z rfl
    .exact aP y (F y r).1 (λe=>z e.symm) q Q f
   .rcases cS.1 r with rfl|r
    .exact aP x (F x hx).1 z q f Q
    .exact h.a3 x (F x hx).1 y (F y r).1 z q f Q
  .refine((X.mono λq _ e=>.inl e).trans ((ad.cF (b4 ag)).trans (U.mono λq _ f=>(B q f).1))).trans (V.mono λq _ f=>?_)
   rcases f with e|e
   .exact .inr (.inr (.inl e))
   .exact .inl e
  .intro q f
   rcases am q f with h1|h1
   .exact .inl (B q h1).1
   .have:ag.drew.heap.size=ag.heap.size:=rfl
    exact .inr I
 refine⟨az p,_,rfl,λf=>(B _ f).2.1 rfl,some D.mr,t.aZ,_,rfl,λf=>(B _ f).2.1 rfl,some D.mr,t.aZ,I,A,aq,aW,_,aV,⟨?_,?_⟩⟩
 .obtain⟨g,j,au,aw,E,L,M⟩:=aH ag.drew (.refl _ _)
  have ap:=t.m.ae E λf=>(B _ f).2.2.2 rfl;obtain⟨o,N,O,ax⟩:=aI j g ap;exact⟨p,_,aD _ t.m,.refl _ _,⟨some ⟨ag.drew.heap.size,0,none⟩,1,1⟩,_,Bl _ l G,ad.cF (eA _ _),g,j,au,M,o,N,fin j o g E aw L O ax⟩
 .obtain⟨g,j,au,aw,E,L,M⟩:=aH ag.drew (.refl _ _)
  have bc:=t.m.ext (eA ag.drew (.cells (aG l).toArray 182));have ap:=t.m.ae E λf=>(B _ f).2.2.2 rfl;obtain⟨o,N,O,ax⟩:=aI j g ap;exact⟨⟨some ⟨ag.drew.heap.size,0,none⟩,1,1⟩,_,Bl _ l G,ad.cF (eA _ _),p,_,aD _ bc,.refl _ _,g,j,au,M,o,N,fin j o g E aw L O ax⟩
theorem FT{P:Program}{e:TypeId}{v:aa}{sz:Nat}(a:((P.info? e).bind (·.zero)).map (·.cells)=some (List.replicate sz v).toArray)(hc:P.cellsOf e=sz)(hs:0<sz)(n:Nat):g7 P e n=(List.replicate (n*sz) v).toArray:=by
 unfold g7;rw[hc]
 cases hi:(P.info? e).bind (·.zero) with
 |none=>rw[hi]at a;cases a
 |some z=>
  rw[hi]at a;simp only[ld,Option.some.injEq]at a;simp only[qw];apply Array.ext
  .simp
  .intro i h1 h2
   have b:n*sz≠0:=by
    intro h;simp[h]at h2
   simp only[b,if_false,a,Array.getElem_map,Array.getElem_range];have aJ:i%sz<sz:=g6 _ hs;simp[aJ]
theorem FU(m n:Nat):bH aG (List.replicate n (List.replicate m 0))=List.replicate (n*m) (.int .u8 0):=by
 induction n with
 |zero=>simp[bH]
 |succ n a=>
  rw[List.replicate_succ,p6,a,kI,Nat.one_mul,Nat.add_comm];have e:aG (List.replicate m 0)=List.replicate m (Value.int .u8 0):=by simp[aG]
  rw[e,List.replicate_append_replicate]
def gy:cT:=List.replicate 256 0
theorem FV(n:Nat):g7 aj 182 n=(bH aG (List.replicate n gy)).toArray:=by
 unfold gy;rw[FU];exact FT (by kernel_rfl) (by kernel_rfl) (by decide) n
def na(n d lb mr:Nat):a_:=⟨d,lb,mr,[-1, -1, -1, -1],List.replicate n gy,[],0,0,λ_=>false,λ_=> []⟩
theorem Bp{w:J}{b:Nat}{vs:O aa}{T:TypeId}(h:Var w b vs T)(g:4<=vs.length):
 aN aj 69 #[.pointer (some b)] w (λv w'=>v=.tuple #[]/\Var w' b (List.replicate 4 (.int .i64 (-1))++vs.drop 4) T/\ad (λq=>q=b) w w'/\w'.heap.size=w.heap.size):=by
 refine okF (I7.tQ (some b)) I6.tQ func69 ?_;(delta I7.tQ ai st ar;dsimp only);refine⟨λi w'=>∃j:Nat,i=j/\j<=4/\Var w' b (List.replicate j (.int .i64 (-1))++vs.drop j) T/\ad (λq=>q=b) w w'/\w'.heap.size=w.heap.size,λi _=>((4:Int)-i).toNat,⟨0,rfl,I,h,.refl _ _,rfl⟩,?_⟩;rintro _ w1 ⟨j,rfl,k,c,hc,f⟩;refine⟨λaJ=>?_,λd=>?_⟩
 .have aJ:j<4:=by have:=b1 aJ;omega
  have a:Addr.add b (Int.toNat (j:Int)*1)=⟨b,j,none⟩:=by rw[c8,fF,av,cx]
  obtain⟨s1,s2⟩:=dH c (i:=j) (by simp;omega);rw[bu (n:=(j:Int)+1) I I];refine⟨_,rfl,⟨I,by show(j:Int)<4;omega⟩,by rw[a];exact s1,by rw[a];exact s2,aS ⟨⟨j+1,I,I,?_,?_,?_⟩,?_⟩⟩
  .have:=dJ c (i:=j) (.int .i64 (-1))
   rw[a];have e:(List.replicate j (Value.int .i64 (-1))++vs.drop j).set j (.int .i64 (-1))=List.replicate (j+1) (.int .i64 (-1))++vs.drop (j+1):=by
    rw[List.set_append_right _ _ (by simp),mJ,nt,jr (show j<vs.length from I),List.set_cons_zero,List.replicate_succ',cM];rfl
   rwa[e]at this
  .rw[a];exact hc.trans (dn _ _ _ _)
  .rw[a];simpa[World.setCell] using f
  .show((4:Int)-((j:Int)+1)).toNat<((4:Int)-(j:Int)).toNat
   omega
 .have d:j=4:=by have:=cp d;omega
  subst d;exact⟨rfl,c,hc,f⟩
theorem nQ{n:Nat}(h1:16<=n)(h2:n<=1600)(w:J):
 aN aj 18 #[n] w (λv w'=>∃d lb mr:Nat,v=.tuple #[.pointer (some d),(0:Int)]/\cB w' (na n d lb mr)/\Ext w w'/\∀q,bT (na n d lb mr) q->w.heap.size<=q):=by
 refine okF (I7.nQ (n:Int)) I6.nQ func18 ?_;(delta I7.nQ ai km c9 U aR;dsimp only);refine⟨λh=>?_,λ_=>⟨⟨I,I,I,I⟩,?_⟩⟩
 .simp only[jc,cQ]at h;omega
 rw[FV,c8];have g:=bt.new w (bH aG (List.replicate n gy)).toArray 182;have i:=eA w (.cells (bH aG (List.replicate n gy)).toArray 182);have j:=rG w (.cells (bH aG (List.replicate n gy)).toArray 182);obtain⟨w1,k⟩:∃w1,w1=w.alloc (.cells (bH aG (List.replicate n gy)).toArray 182):=⟨_,rfl⟩;rw[←k]at g i j⊢;obtain⟨au,aw⟩:=er.make (P:=aj) (enc:=encZ) 137 w1;have a:=eA w1 (.map #[] 0);have l:=rG w1 (.map #[] 0);obtain⟨ag,m⟩:∃ag,ag=w1.alloc (.map #[] 0):=⟨_,rfl⟩;rw[←m]at au aw a l;refine aS ⟨some w1.heap.size,ag,au,#[(0:Int),(0:Int),(0:Int),(0:Int),.slice (some w.heap.size) n n,.map (some w1.heap.size),(0:Int)],by kernel_rfl,bd (vs:=[(0:Int),(0:Int),(0:Int),(0:Int),.slice (some w.heap.size) n n,.map (some w1.heap.size),(0:Int)]) rfl λr o b t=>⟨_,rfl,(Bp o (by show 4<=7;decide)).use ?_⟩⟩;rintro _ u ⟨rfl,p,f,y⟩;refine⟨rfl,ag.heap.size,w.heap.size,w1.heap.size,rfl,⟨?_,?_,?_,λx hx=>(by cases hx),λx hx=>(by cases hx),λs hs=>?_,λx hx=>(by cases hx),?_,?_,rfl,λx hx=>?_,?_,λx hx=>(by cases hx),λx hx=>(by cases hx)⟩,Ext.cm (i.trans (a.trans b)) f I,?_⟩
 .have e:(na n ag.heap.size w.heap.size w1.heap.size).c=List.replicate 4 (.int .i64 (-1))++ [Value.int .i64 0,(0:Int),(0:Int),(0:Int),.slice (some w.heap.size) n n,.map (some w1.heap.size),(0:Int)].drop 4:=by
   unfold a_.c na;simp
  rw[e];exact p
 .exact bt.ae ((g.ext a).ext b) f (by show¬w.heap.size=ag.heap.size;omega)
 .exact(aw.ext b).ae f I
 .rw[so hs,gy,mJ]
 .show 16<=(List.replicate n gy).length;simpa using h1
 .show(List.replicate n gy).length<=1600;simpa using h2
 .have:x= -1:=by
   simp[na]at hx;exact hx
  subst this;exact⟨by decide,by decide⟩
 .exact⟨by show ag.heap.size≠w.heap.size;omega,by show ag.heap.size≠w1.heap.size;omega,by show w.heap.size≠w1.heap.size;omega⟩
 .rintro q (rfl|rfl|rfl|⟨x,hx,_⟩)
  .show w.heap.size<=ag.heap.size;omega
  .exact bn _
  .show w.heap.size<=w1.heap.size;omega
  .cases hx
structure Fr where
 full:ah
 fQ:ah
 used:ah
 no:Int
 pins:Int
 b:Y
 l:cT
def Fr.c(f:Fr):O aa:=[f.full,f.fQ,f.used,f.no,f.pins,f.b]
def dw:Fr:=⟨false,false,false,0,0,⟨none,0,0⟩,[]⟩
structure bZ where
 c:Nat
 aU:Nat
 al:O Fr
 hand:Nat
 D:a_
def cY(C:bZ)(q:Nat):Prop:=q=C.c\/q=C.aU\/bT C.D q
structure fl(w:J)(C:bZ):Prop where
 v:Var w C.c [.pointer (some C.D.d),.slice (some C.aU) C.al.length C.al.length,C.hand] 281
 f:bt w C.aU (bH Fr.c C.al).toArray 288
 dev:cB w C.D
 bA:8<=C.al.length
 bO:C.al.length<=64
 hd:C.hand<C.al.length
 a1:C.c≠C.aU/\¬bT C.D C.c/\¬bT C.D C.aU
structure Bq(X:Nat->Prop)(w:J)(C:bZ)(f:Fr)(no:Nat):Prop where
 num:f.no=no
 lt:no<C.D.n
 IY:aY (λq=>¬cY C q/\¬X q) w f.b f.l
 len:f.l.length=256
 clean:f.fQ=false->f.l=C.D.now no
 bI:C.D.bI no=true->f.fQ=false
 two:2<=no
structure gz(X:Nat->Prop)(w:J)(C:bZ):Prop where
 pins:∀f∈C.al,f.pins=0
 ok:∀f∈C.al,f.full=true->∃no:Nat,Bq X w C f no
 un:∀ (i j:Nat) (hi:i<C.al.length) (a:j<C.al.length),(C.al[i]).full=true->(C.al[j]).full=true->(C.al[i]).no=(C.al[j]).no->i=j
 fg:∀q,X q->q<w.heap.size/\¬cY C q
 k3:∀j,C.D.bI j=true->C.D.dv j=C.D.eo j
def kv(ax D:a_):Prop:=ax.n=D.n/\(∀j,ax.bI j=true->D.bI j=true)/\∀j,ax.bI j=true->ax.dv j=ax.eo j
theorem gz.rK{X:Nat->Prop}{w:J}{C:bZ}(h:gz X w C):kv C.D C.D:=⟨rfl,λ_ h=>h,h.k3⟩
theorem gz.cw{X:Nat->Prop}{w:J}{C:bZ}(h:gz X w C)(k:Nat):kv (C.D.cw k) C.D:=⟨rfl,λ_ h=>h,h.k3⟩
structure dW(X:Nat->Prop)(w:J)(C:bZ):Prop where
 raw:fl w C
 inv:gz X w C
def bZ.view(C:bZ)(no:Nat):cT:=match C.al.find? λf=>f.full&&f.no==(no:Int) with
 |some f=>f.l
 |none=>C.D.now no
theorem Fr.x0(f:Fr):f.c.length=6:=rfl
theorem vH(l:O Fr):∀x∈l,(Fr.c x).length=6:=λx _=>rfl
section
variable {w w':J}{C:bZ}{X:Nat->Prop}
theorem fl.lt(h:fl w C){q:Nat}(a:cY C q):q<w.heap.size:=by
 rcases a with rfl|rfl|a
 .exact h.v.lt
 .exact bt.lt h.f
 .exact h.dev.lt a
theorem fl.ae{W:Nat->Prop}(h:fl w C)(hc:ad W w w')(a:∀q,cY C q->¬W q):fl w' C:=
 ⟨h.v.ae hc (a _ (.inl rfl)),bt.ae h.f hc (a _ (.inr (.inl rfl))),h.dev.ae hc λq b=>a q (.inr (.inr b)),h.bA,h.bO,h.hd,h.a1⟩
theorem fl.ext(h:fl w C)(hc:Ext w w'):fl w' C:=h.ae hc λ_ _ h=>h
theorem gz.ae{W:Nat->Prop}(h:gz X w C)(hc:ad W w w')(b:∀q,W q->cY C q\/X q):gz X w' C:=
 ⟨h.pins,λf hf c=>by
  obtain⟨no,au,aw,d,e,g,i,j⟩:=h.ok f hf c
  exact⟨no,au,aw,aY.ae d hc λq a k=>by
   rcases b q k with h1|h1
   .exact a.1 h1
   .exact a.2 h1,e,g,i,j⟩,h.un,λq a=>⟨fN (h.fg q a).1 hc.size,(h.fg q a).2⟩,h.k3⟩
theorem dW.ae{W:Nat->Prop}(h:dW X w C)(hc:ad W w w')(b:∀q,W q->X q):dW X w' C:=
 ⟨h.raw.ae hc λq c a=>(h.inv.fg q (b q a)).2 c,h.inv.ae hc λq a=>.inr (b q a)⟩
theorem dW.ext(h:dW X w C)(hc:Ext w w'):dW X w' C:=h.ae hc λ_ h=>h.elim
theorem rL(aU i:Nat):Addr.add aU (Int.toNat (i:Int)*6)=⟨aU,i*6,none⟩:=by rw[c8,av,cx]
theorem fl.cells(h:fl w C):w.cell? C.c=some (.pointer (some C.D.d))/\w.cell? (Addr.add C.c 1)=some (.slice (some C.aU) C.al.length C.al.length)/\w.cell? (Addr.add C.c 2)=some (.int .i64 C.hand):=by
 rw[av,av];exact⟨h.v.cell,h.v.cell,h.v.cell⟩
theorem j3{w:J}{aU:Nat}{fs:O Fr}{T:TypeId}(h:bt w aU (bH Fr.c fs).toArray T){i j:Nat}(hi:i<fs.length)(a:j<6):w.cell? ⟨aU,i*6+j,none⟩=((fs[i]).c)[j]? :=by
 rw[bt.cell h];simp only[qv];exact rI (vH fs) hi a
theorem nc{w:J}{aU:Nat}{fs:O Fr}{T:TypeId}(h:bt w aU (bH Fr.c fs).toArray T){i j:Nat}(hi:i<fs.length)(a:j<6){v:aa}(b:Fr)(hf:b.c=(fs[i]).c.set j v):
 (∃u:aa,w.cell? ⟨aU,i*6+j,none⟩=some u)/\w.frozen? ⟨aU,i*6+j,none⟩=false/\bt (w.setCell ⟨aU,i*6+j,none⟩ v) aU (bH Fr.c (fs.set i b)).toArray T/\ad (λq=>q=aU) w (w.setCell ⟨aU,i*6+j,none⟩ v):=by
 refine⟨⟨((fs[i]).c)[j]'(by rw[Fr.x0];exact a),by rw[j3 h hi a,du (by rw[Fr.x0];exact a)]⟩,bt.frozen h _ rfl,?_,dn _ _ _ _⟩;have:=dJ (vs:=bH Fr.c fs) h (i:=i*6+j) v;rw[FK (vH fs) hi a hf]at this;exact this
theorem x1{w:J}{aU:Nat}{fs:O Fr}{T:TypeId}(h:bt w aU (bH Fr.c fs).toArray T){i:Nat}(hi:i<fs.length)(a:Fr):
 bx w ⟨aU,i*6,none⟩ a.c/\bt (setCells w ⟨aU,i*6,none⟩ 0 a.c) aU (bH Fr.c (fs.set i a)).toArray T/\ad (λq=>q=aU) w (setCells w ⟨aU,i*6,none⟩ 0 a.c):=by
 have f:=gK (c:=Fr.c) fs (vH fs);have d:i*6+a.c.length<=(bH Fr.c fs).toArray.size:=by
  rw[sw,f,Fr.x0];omega
 refine⟨bt.b9 h _ _ d ?_,?_,ad.kR (.refl _ _) _ 0⟩
 .intro v b
  unfold Fr.c at b;simp only[cS,eS,eW]at b;rcases b with rfl|rfl|rfl|rfl|rfl|rfl<;>trivial
 .have h0:=bt.jV (o:=i*6) h a.c
  have e:gE (bH Fr.c fs).toArray (i*6) a.c=(bH Fr.c (fs.set i a)).toArray:=by
   have h1:=lu a.c (bH Fr.c fs).toArray (i*6) d;have h2:=Bg (vH fs) hi a;have g:a.c.length=6:=rfl;rw[g]at h1;have j:(gE (bH Fr.c fs).toArray (i*6) a.c).toList=bH Fr.c (fs.set i a):=h1.trans h2;rw[←j]
  rw[e]at h0;exact h0
theorem Br(h:fl w C)(no:Int):aN aj 220 #[.pointer (some C.c),no] w (λv w'=>v=.bool (decide (0<=no/\no<C.D.n))/\w=w'):=by
 refine okF (I7.uN (some C.c) no) I6.uN func220 ?_;(delta I7.uN ai ay;dsimp only);refine cj (λb w'=>b=decide (0<=no/\no<C.D.n)/\w=w') (λq d=>⟨λa=>⟨_,rfl,_,h.cells.1,(p7 h.dev).use ?_⟩,λa=>d _ _ ⟨?_,rfl⟩⟩) ?_
 .rintro _ _ ⟨rfl,rfl⟩
  have a:0<=no:=by simpa using a
  refine⟨_,rfl,d _ _ ⟨?_,rfl⟩⟩;rw[fU,cQ,cQ];exact⟨λh=>⟨a,h⟩,λh=>h.2⟩
 .have a:¬0<=no:=by simpa using a
  rw[hD (λh=>a h.1)]
 .rintro _ _ ⟨rfl,rfl⟩
  exact⟨rfl,rfl⟩
def AtR(C:bZ)(no:Int)(v:aa):Prop:=
 (∃ (i:Nat) (hi:i<C.al.length),v=.pointer (some ⟨C.aU,i*6,none⟩)/\(C.al[i]).full=true/\(C.al[i]).no=no)\/
 (v=.pointer none/\∀f∈C.al,f.full=true->f.no≠no)
theorem vI(h:fl w C)(no:Int):aN aj 201 #[.pointer (some C.c),no] w (λv w'=>AtR C no v/\w=w'):=by
 obtain⟨bS,ay,aR⟩:=h.cells;have d:=h.bO;refine okF (I7.uI (some C.c) no) I6.uI func201 ?_;(delta I7.uI ai af aK a7 r1 ar;dsimp only);refine⟨λh=>(by cases h),λ_=>⟨_,rfl,⟨some C.aU,C.al.length,C.al.length⟩,ay,λi w'=>∃j:Nat,i=j/\j<=C.al.length/\w=w'/\∀ (k:Nat) (d:k<C.al.length),k<j->(C.al[k]).full=true->(C.al[k]).no≠no,λi _=>((C.al.length:Int)-i).toNat,⟨0,rfl,cE _,rfl,λk _ h=>I⟩,?_⟩⟩;rintro _ _ ⟨j,rfl,s,rfl,g⟩;refine⟨λaJ=>?_,λe=>?_⟩
 .have aJ:(j:Int)<(C.al.length:Int):=b1 aJ
  have aJ:j<C.al.length:=by omega
  refine⟨_,rfl,⟨some C.aU,C.al.length,C.al.length⟩,ay,_,rfl,⟨I,by show(j:Int)<(C.al.length:Int);omega⟩,_,rfl,?_⟩;rw[rL];have f0:=j3 h.f aJ (j:=0) (by decide);have f3:=j3 h.f aJ (j:=3) (by decide);refine⟨(C.al[j]).full,f0,cj (λb w'=>w=w'/\(b=true↔((C.al[j]).full=true/\(C.al[j]).no=no))) (λq l=>⟨λa=>⟨_,rfl,(C.al[j]).no,by rw[av];exact f3,l _ _ ⟨rfl,?_⟩⟩,λa=>l _ _ ⟨rfl,?_⟩⟩) ?_⟩
  .rw[kJ]
   exact⟨λh=>⟨a,h⟩,λh=>h.2⟩
  .rw[a]
   exact⟨λh=>(by cases h),λh=>(by cases h.1)⟩
  rintro b w' ⟨rfl,a⟩;refine⟨λh1=>⟨.inl ⟨j,aJ,rfl,(a.1 h1).1,(a.1 h1).2⟩,rfl⟩,λh1=>?_⟩;rw[bu (n:=(j:Int)+1) I I];refine⟨⟨j+1,I,I,rfl,λk d h2 m=>?_⟩,?_⟩
  .rcases dC k j with o|o
   .exact g k d o m
   .have:k=j:=by omega
    subst this;intro p;rw[a.2 ⟨m,p⟩]at h1;cases h1
  .show((C.al.length:Int)-((j:Int)+1)).toNat<((C.al.length:Int)-(j:Int)).toNat
   omega
 .have e:j=C.al.length:=by
   have:¬((j:Int)<(C.al.length:Int)):=cp e;omega
  subst e;refine⟨.inr ⟨rfl,λf hf r=>?_⟩,rfl⟩;obtain⟨k,d,rfl⟩:=fb hf;exact g k d d r
theorem FW(h:fl w C):aN aj 267 #[.pointer (some C.c)] w (λv w'=>((∃ (i:Nat) (hi:i<C.al.length),v=.pointer (some ⟨C.aU,i*6,none⟩)/\(C.al[i]).full=false)\/(v=.pointer none/\∀f∈C.al,f.full=true))/\w=w'):=by
 obtain⟨bS,ay,aR⟩:=h.cells;have a:=h.bO;refine okF (I7.uU (some C.c)) I6.uU func267 ?_;(delta I7.uU af ai aK a7 ar;dsimp only);refine⟨_,rfl,⟨some C.aU,C.al.length,C.al.length⟩,ay,λi w'=>∃j:Nat,i=j/\j<=C.al.length/\w=w'/\∀ (k:Nat) (a:k<C.al.length),k<j->(C.al[k]).full=true,λi _=>((C.al.length:Int)-i).toNat,⟨0,rfl,cE _,rfl,λk _ h=>I⟩,?_⟩;rintro _ _ ⟨j,rfl,l,rfl,e⟩;refine⟨λaJ=>?_,λb=>?_⟩
 .have aJ:(j:Int)<(C.al.length:Int):=b1 aJ
  have aJ:j<C.al.length:=by omega
  have f0:=j3 h.f aJ (j:=0) (by decide);refine⟨_,rfl,⟨some C.aU,C.al.length,C.al.length⟩,ay,_,rfl,⟨I,by show(j:Int)<(C.al.length:Int);omega⟩,(C.al[j]).full,by rw[rL];exact f0,λd=>⟨_,rfl,⟨some C.aU,C.al.length,C.al.length⟩,ay,_,rfl,⟨I,by show(j:Int)<(C.al.length:Int);omega⟩,.inl ⟨j,aJ,by rw[rL],by simpa using d⟩,rfl⟩,λd=>?_⟩;rw[bu (n:=(j:Int)+1) I I];refine⟨⟨j+1,I,I,rfl,λk a h2=>?_⟩,?_⟩
  .rcases dC k j with g|g
   .exact e k a g
   .have:k=j:=by omega
    subst this;simpa using d
  .show((C.al.length:Int)-((j:Int)+1)).toNat<((C.al.length:Int)-(j:Int)).toNat
   omega
 .have b:j=C.al.length:=by
   have:¬((j:Int)<(C.al.length:Int)):=cp b;omega
  subst b;refine⟨.inr ⟨rfl,λf hf=>?_⟩,rfl⟩;obtain⟨k,a,rfl⟩:=fb hf;exact e k a a
def hU(fs gs:O Fr):Prop:=gs.length=fs.length/\∀ (i:Nat) (h1:i<fs.length) (h2:i<gs.length),gs[i]={fs[i] with used:=(gs[i]).used}
theorem hU.refl(fs:O Fr):hU fs fs:=⟨rfl,λi h1 h2=>rfl⟩
theorem hU.set{fs gs:O Fr}(h:hU fs gs){i:Nat}(hi:i<gs.length)(u:ah):hU fs (gs.set i {gs[i] with used:=u}):=by
 refine⟨by rw[dc];exact h.1,λj h1 h2=>?_⟩;rw[su];split
 .rename_i e
  subst e;have:=h.2 i h1 hi;rw[this]
 .exact h.2 j h1 _
theorem FX(h:fl w C)(A:∀f∈C.al,f.pins=0):aN aj 268 #[.pointer (some C.c)] w (λv w'=>∃ (i:Nat) (gs:O Fr) (hd:Nat),i<C.al.length/\v=.pointer (some ⟨C.aU,i*6,none⟩)/\hU C.al gs/\fl w' {C with al:=gs,hand:=hd}/\ad (λq=>q=C.c\/q=C.aU) w w'):=by
 obtain⟨bS,ay,aR⟩:=h.cells;have Q:=h.bA;have R:=h.bO;have B:=h.hd;refine okF (I7.uV (some C.c)) I6.uV func268 ?_;(delta I7.uV r1 af ai ar aK a7 st;dsimp only);refine⟨_,rfl,_,aR,_,rfl,⟨some C.aU,C.al.length,C.al.length⟩,ay,λD i w'=>∃ (s:Nat) (gs:O Fr),i=s/\s<=C.al.length/\D=(((C.hand+s)%C.al.length:Nat):Int)/\hU C.al gs/\fl w' {C with al:=gs}/\ad (λq=>q=C.c\/q=C.aU) w w'/\∀ (t:Nat) (hx:(C.hand+t)%C.al.length<gs.length),t<s->(gs[(C.hand+t)%C.al.length]).used=false,
  λ_ i _=>(2*(C.al.length:Int)-i).toNat,⟨0,C.al,rfl,cE _,by rw[kF,jv B],hU.refl _,h,.refl _ _,λt _ h=>I⟩,?_⟩
 rintro _ _ w1 ⟨s,gs,rfl,hs,rfl,l,b,hc,p⟩;have r:gs.length=C.al.length:=l.1;obtain⟨i,hi⟩:∃i,i=(C.hand+s)%C.al.length:=⟨_,rfl⟩;have d:i<gs.length:=by rw[hi,r];exact g6 _ I
 rw[←hi];obtain⟨d0,d1,d2⟩:=b.cells;have d1:w1.cell? (Addr.add C.c 1)=some (.slice (some C.aU) gs.length gs.length):=d1;have hf:bt w1 C.aU (bH Fr.c gs).toArray 288:=b.f;rw[bu (n:=2*(C.al.length:Int)) I I];have E:IntKind.wrap .i64 ((i:Int)+1)=((i+1:Nat):Int):=by rw[bu I I];rfl
 have u:Int.tmod ((i+1:Nat):Int) (gs.length:Int)=(((i+1)%gs.length:Nat):Int):=by
  rw[qF I];rfl
 have F:(i+1)%gs.length=(C.hand+(s+1))%C.al.length:=by
  rw[hi,r,Nat.mod_add_mod];rfl
 refine⟨λaJ=>?_,λG=>?_⟩
 .refine cj (λa w'=>a=(((C.hand+(s+1))%C.al.length:Nat):Int)/\∃g:O Fr,s+1<=C.al.length/\hU C.al g/\fl w' {C with al:=g}/\ad (λq=>q=C.c\/q=C.aU) w w'/\∀ (t:Nat) (hx:(C.hand+t)%C.al.length<g.length),t<s+1->(g[(C.hand+t)%C.al.length]).used=false) (λq k=>⟨_,rfl,⟨some C.aU,gs.length,gs.length⟩,d1,_,rfl,⟨I,by show(i:Int)<(gs.length:Int);omega⟩,_,rfl,⟨some C.aU,gs.length,gs.length⟩,d1,by show(gs.length:Int)≠0;omega,_,rfl,?_⟩) ?_
  .rw[rL,E]
   have f4:=j3 hf d (j:=4) (by decide);have f2:=j3 hf d (j:=2) (by decide);have H:(gs[i]).pins=0:=by
    have h1:=l.2 i I d;have h2:(gs[i]).pins=(C.al[i]'I).pins:=by rw[h1]
    rw[h2];exact A _ (cA _)
   refine⟨(gs[i]).pins,by rw[av];exact f4,λx=>?_,λ_=>⟨_,rfl,(gs[i]).used,by rw[av];exact f2,λhu=>⟨_,rfl,?_⟩,λhu=>⟨_,rfl,?_⟩⟩⟩
   .rw[H]at x;simp at x
   .have J:s<C.al.length:=by
     rcases dC s C.al.length with h1|h1
     .exact h1
     .have es:s=C.al.length:=by omega
      have y:(C.hand+0)%C.al.length=i:=by rw[hi,es,Nat.add_mod_right];rfl
      have h2:=p 0 (by rw[y];exact d) I;have m:(gs[i]).used=false:=by
       have e:gs[(C.hand+0)%C.al.length]'(by rw[y];exact d)=gs[i]:=by congr 1
       rw[←e];exact h2
      rw[m]at hu;cases hu
    obtain⟨au,aw,K,o⟩:=nc hf d (j:=2) (by decide) (v:=false) {gs[i] with used:=false} rfl;rw[av];refine⟨au,aw,aS (k _ _ ⟨by rw[u,F],gs.set i {gs[i] with used:=false},J,l.set d false,?_,hc.trans (o.mono λq _ e=>.inr e),λt hx ht=>?_⟩)⟩
    .have L:=b.v.ae o h.a1.1
     refine⟨?_,K,b.dev.ae o (λq k e=>h.a1.2.2 (e▸k)),?_,?_,?_,h.a1⟩
     .show Var _ _ [_,.slice (some C.aU) (gs.set i _).length (gs.set i _).length,_] _
      rw[dc];exact L
     .show 8<=(gs.set i _).length;rw[dc];omega
     .show(gs.set i _).length<=64;rw[dc];omega
     .show C.hand<(gs.set i _).length;rw[dc];omega
    .rw[su]
     split
     .rfl
     .rename_i M
      rcases dC t s with h1|h1
      .exact p t _ h1
      .have:t=s:=by omega
       subst this;exact absurd hi M
   .obtain⟨s1,s2⟩:=dH b.v (i:=2) (by simp)
    rw[av,u];refine⟨s1,s2,aS ⟨i,gs,(i+1)%gs.length,I,rfl,l,?_,hc.trans ((dn _ _ _ _).mono λq _ e=>.inl e)⟩⟩;have z:=dn w1 C.c 2 (.int .i64 (((i+1)%gs.length:Nat):Int));refine⟨dJ b.v (i:=2) (.int .i64 (((i+1)%gs.length:Nat):Int)),bt.ae hf z (λe=>h.a1.1 e.symm),b.dev.ae z (λq k e=>h.a1.2.1 (e▸k)),b.bA,b.bO,?_,h.a1⟩;exact g6 _ I
  .rintro a w' ⟨rfl,g,h1,h2,m,N,P⟩
   rw[bu (n:=(s:Int)+1) I I];refine⟨⟨s+1,g,I,h1,rfl,h2,m,N,P⟩,?_⟩;show(2*(C.al.length:Int)-((s:Int)+1)).toNat<(2*(C.al.length:Int)-(s:Int)).toNat;omega
 .have:=cp G
  omega
end
structure eB(C aD:bZ)(w w':J)(k:Nat):Prop where
 c:aD.c=C.c
 d:aD.D.d=C.D.d
 len:aD.al.length=C.al.length
 bh:aD.D.key=C.D.key
 aO:aD.D.aO<=C.D.aO+k
 calm:∀m,C.D.calm (m+k)->aD.D.calm m
 ae:ad (cY C) w w'
 cZ:∀q,cY aD q->cY C q\/w.heap.size<=q
theorem eB.refl(C:bZ)(w:J):eB C C w w 0:=⟨rfl,rfl,rfl,rfl,bn _,λ_ h=>h,.refl _ _,λ_ h=>.inl h⟩
theorem eB.ext{w w':J}(C:bZ)(h:Ext w w'):eB C C w w' 0:=⟨rfl,rfl,rfl,rfl,bn _,λ_ h=>h,ad.cF h,λ_ h=>.inl h⟩
theorem eB.trans{C aD a:bZ}{w w' b:J}{k l:Nat}(h1:eB C aD w w' k)(h2:eB aD a w' b l):eB C a w b (k+l):=by
 have hs:=h1.ae.size;refine⟨h2.c.trans h1.c,h2.d.trans h1.d,h2.len.trans h1.len,h2.bh.trans h1.bh,by have:=h1.aO;have:=h2.aO;omega,λm f=>h2.calm m (h1.calm (m+l) (by rw[show m+l+k=m+(k+l) from I];exact f)),cr h1.ae h2.ae λq e h=>(h1.cZ q h).resolve_right I,λq e=>?_⟩;rcases h2.cZ q e with h|h
 .exact h1.cZ q h
 .exact .inr I
theorem eB.mono{C aD:bZ}{w w':J}{k l:Nat}(h:eB C aD w w' k)(b:k<=l):eB C aD w w' l:=
 ⟨h.c,h.d,h.len,h.bh,by have:=h.aO;omega,λm a=>h.calm m (f_ a I),h.ae,h.cZ⟩
theorem eB.bI{C aD:bZ}{w w':J}{k:Nat}(h:eB C aD w w' k):aD.D.bI=C.D.bI:=congrArg (λk:(O cT×(Nat->ah)×(Nat->O cT)×(Int->Prop))×Int=>k.1.2.1) h.bh
theorem eB.nd{C aD:bZ}{w w':J}{k:Nat}(h:eB C aD w w' k):aD.D.bI=C.D.bI/\aD.D.eo=C.D.eo:=⟨h.bI,congrArg (λk:(O cT×(Nat->ah)×(Nat->O cT)×(Int->Prop))×Int=>k.1.2.2.1) h.bh⟩
theorem eB.n{C aD:bZ}{w w':J}{k:Nat}(h:eB C aD w w' k):aD.D.n=C.D.n:=congrArg (λk:(O cT×(Nat->ah)×(Nat->O cT)×(Int->Prop))×Int=>k.1.1.length) h.bh
section
variable {w w':J}{C:bZ}{X:Nat->Prop}
theorem mh{fs:O Fr}{D:a_}{c aU hd:Nat}(un:∀ (i j:Nat) (hi:i<fs.length) (d:j<fs.length),(fs[i]).full=true->(fs[j]).full=true->(fs[i]).no=(fs[j]).no->i=j){i:Nat}(hi:i<fs.length){no:Nat}(hf:(fs[i]).full=true)(e:(fs[i]).no=no):(bZ.mk c aU fs hd D).view no=(fs[i]).l:=by
 unfold bZ.view
 cases a:fs.find? λf=>f.full&&f.no==(no:Int) with
 |none=>
  have:=iO.1 a _ (cA hi);simp[hf,e]at this
 |some f=>
  have g:=ju a;have b:=kc a;simp only[dX,kJ]at b;obtain⟨j,d,rfl⟩:=fb g;have:=un i j hi d hf b.1 (by rw[e,b.2]);subst this;simp only
theorem mi{fs:O Fr}{D:a_}{c aU hd:Nat}{no:Nat}(h:∀f∈fs,f.full=true->f.no≠no):(bZ.mk c aU fs hd D).view no=D.now no:=by
 unfold bZ.view
 cases b:fs.find? λf=>f.full&&f.no==(no:Int) with
 |none=>rfl
 |some f=>
  have d:=ju b;have a:=kc b;simp only[dX,kJ]at a;exact absurd a.2 (h f d a.1)
theorem rM(D:a_)(k i:Nat):(D.cw k).now i=D.now i:=rfl
theorem aY.re{B b:Nat->Prop}{w w':J}{t:Y}{l:Key}{V:Nat->Prop}(h:aY B w t l)(hc:ad V w w')(c:∀q,q<w.heap.size->B q->¬V q)(d:∀q,q<w.heap.size->B q->b q):aY b w' t l:=
 ⟨h.1.ae hc λq a=>c q (h.2.2 q a).2 (h.2.2 q a).1,h.2.1,λq a=>⟨d q (h.2.2 q a).2 (h.2.2 q a).1,fN (h.2.2 q a).2 hc.size⟩⟩
theorem rN{gs:O Fr}{hd:Nat}{ax:a_}{V:Nat->Prop}(h:gz X w C)(hs:hU C.al gs)(hc:ad V w w')(ed:∀q,q<w.heap.size->V q->cY C q)(m:kv ax C.D)(u:∀i,ax.now i=C.D.now i)(v:∀q,bT ax q->bT C.D q\/w.heap.size<=q):gz X w' {C with al:=gs,hand:=hd,D:=ax}:=by
 have x:=hc.size;have r:∀q,q<w.heap.size->cY {C with al:=gs,hand:=hd,D:=ax} q->cY C q:=λq a hf=>by
  rcases hf with h1|h1|h1
  .exact .inl h1
  .exact .inr (.inl h1)
  .exact .inr (.inr ((v q h1).resolve_right I))
 have g:∀ (i:Nat) (hi:i<gs.length),∃c:i<C.al.length,gs[i]={C.al[i] with used:=(gs[i]).used}:=λi hi=>⟨by rw[←hs.1];exact hi,hs.2 i (by rw[←hs.1];exact hi) hi⟩;refine⟨λf hf=>?_,λf hf y=>?_,λi j hi z h1 h2 A=>?_,λq a=>⟨fN (h.fg q a).1 x,λhf=>(h.fg q a).2 (r q (h.fg q a).1 hf)⟩,m.2.2⟩
 .obtain⟨i,hi,rfl⟩:=fb hf
  obtain⟨c,e⟩:=g i hi;have:(gs[i]).pins=(C.al[i]).pins:=by rw[e]
  rw[this];exact h.pins _ (cA c)
 .obtain⟨i,hi,rfl⟩:=fb hf
  obtain⟨c,e⟩:=g i hi;have n:(gs[i]).full=(C.al[i]).full:=by rw[e]
  have o:(gs[i]).no=(C.al[i]).no:=by rw[e]
  have p:(gs[i]).b=(C.al[i]).b:=by rw[e]
  have d:(gs[i]).l=(C.al[i]).l:=by rw[e]
  have s:(gs[i]).fQ=(C.al[i]).fQ:=by rw[e]
  obtain⟨no,au,aw,B,E,F,G,H⟩:=h.ok _ (cA c) (by rw[←n];exact y);refine⟨no,by rw[o];exact au,by rw[m.1];exact aw,?_,by rw[d];exact E,λhd=>by rw[d,u];exact F (by rw[←s];exact hd),λhs=>by rw[s];exact G (m.2.1 _ hs),H⟩;rw[p,d];exact aY.re B hc (λq a k J=>k.1 (ed q a J)) λq a k=>⟨λhf=>k.1 (r q a hf),k.2⟩
 .obtain⟨c,e⟩:=g i hi
  obtain⟨K,t⟩:=g j z;have n:(gs[i]).full=(C.al[i]).full:=by rw[e]
  have o:(gs[i]).no=(C.al[i]).no:=by rw[e]
  have p:(gs[j]).full=(C.al[j]).full:=by rw[t]
  have d:(gs[j]).no=(C.al[j]).no:=by rw[t]
  exact h.un i j c K (by rw[←n];exact h1) (by rw[←p];exact h2) (by rw[←o,←d];exact A)
theorem rO{gs:O Fr}{hd:Nat}{ax:a_}(h:gz X w C)(hs:hU C.al gs)(r:∀i,ax.now i=C.D.now i)(no:Nat):(bZ.mk C.c C.aU gs hd ax).view no=C.view no:=by
 have d:∀ (i:Nat) (hi:i<gs.length),∃g:i<C.al.length,gs[i]={C.al[i] with used:=(gs[i]).used}:=λi hi=>⟨by rw[←hs.1];exact hi,hs.2 i (by rw[←hs.1];exact hi) hi⟩;by_cases hex:∃ (i:Nat) (hi:i<C.al.length),(C.al[i]).full=true/\(C.al[i]).no=no
 .obtain⟨i,hi,h1,h2⟩:=hex
  have n:i<gs.length:=by rw[hs.1];exact hi
  obtain⟨g,e⟩:=d i n;have k:(gs[i]).full=(C.al[i]).full:=by rw[e]
  have m:(gs[i]).no=(C.al[i]).no:=by rw[e]
  have s:(gs[i]).l=(C.al[i]).l:=by rw[e]
  have t:∀ (i j:Nat) (hi:i<gs.length) (A:j<gs.length),(gs[i]).full=true->(gs[j]).full=true->(gs[i]).no=(gs[j]).no->i=j:=by
   intro a b u v bA bO x;obtain⟨y,o⟩:=d a u;obtain⟨z,p⟩:=d b v;have f1:(gs[a]).full=(C.al[a]).full:=by rw[o]
   have f2:(gs[a]).no=(C.al[a]).no:=by rw[o]
   have f3:(gs[b]).full=(C.al[b]).full:=by rw[p]
   have f4:(gs[b]).no=(C.al[b]).no:=by rw[p]
   exact h.un a b y z (by rw[←f1];exact bA) (by rw[←f3];exact bO) (by rw[←f2,←f4];exact x)
  rw[mh t n (by rw[k];exact h1) (by rw[m];exact h2),s];exact(mh (fs:=C.al) (D:=C.D) (c:=C.c) (aU:=C.aU) (hd:=C.hand) h.un hi h1 h2).symm
 .have q:∀f∈C.al,f.full=true->f.no≠no:=λf hf h1 h2=>by
   obtain⟨i,hi,rfl⟩:=fb hf;exact hex ⟨i,hi,h1,h2⟩
  have e:C.view no=C.D.now no:=mi (fs:=C.al) (D:=C.D) (c:=C.c) (aU:=C.aU) (hd:=C.hand) q;rw[e,←r];refine mi λf hf h1 h2=>?_;obtain⟨i,hi,rfl⟩:=fb hf;obtain⟨g,e⟩:=d i hi;have k:(gs[i]).full=(C.al[i]).full:=by rw[e]
  have m:(gs[i]).no=(C.al[i]).no:=by rw[e]
  exact q _ (cA g) (by rw[←k];exact h1) (by rw[←m];exact h2)
theorem x2{i:Nat}(hi:i<C.al.length){ax:a_}{V:Nat->Prop}(h:gz X w C)(hc:ad V w w')(ed:∀q,q<w.heap.size->V q->cY C q)(l:kv ax C.D)
 (t:∀j:Nat,((C.al[i]).full=true->(C.al[i]).no≠j)->ax.now j=C.D.now j) (u:∀q,bT ax q->bT C.D q\/w.heap.size<=q) (f0:Fr) (m:f0.full=false) (v:f0.pins=0):gz X w' {C with al:=C.al.set i f0,D:=ax}:=by
 have x:=hc.size;have o:∀q,q<w.heap.size->cY {C with al:=C.al.set i f0,D:=ax} q->cY C q:=λq c hf=>by
  rcases hf with h1|h1|h1
  .exact .inl h1
  .exact .inr (.inl h1)
  .exact .inr (.inr ((u q h1).resolve_right I))
 refine⟨λf hf=>?_,λf hf d=>?_,λa b y g h1 h2 n=>?_,λq c=>⟨fN (h.fg q c).1 x,λhf=>(h.fg q c).2 (o q (h.fg q c).1 hf)⟩,l.2.2⟩
 .rcases lU hf with hf|rfl
  .exact h.pins f hf
  .exact v
 .obtain⟨k,z,rfl⟩:=fb hf
  have p:k<C.al.length:=by simpa using z
  by_cases e:i=k
  .subst e
   simp only[h5]at d;rw[m]at d;cases d
  .simp only[fA e]at d⊢
   obtain⟨no,au,aw,A,B,E,F,G⟩:=h.ok _ (cA p) d;refine⟨no,au,by rw[l.1];exact aw,aY.re A hc (λq c g H=>g.1 (ed q c H)) λq c g=>⟨λhf=>g.1 (o q c hf),g.2⟩,B,λhd=>?_,λhs=>F (l.2.1 _ hs),G⟩;show _=ax.now no;rw[t no λJ he=>e (h.un i k hi p J d (by rw[he,au]))];exact E hd
 .have K:a<C.al.length:=by simpa using y
  have L:b<C.al.length:=by simpa using g
  by_cases r:i=a
  .subst r
   simp only[h5]at h1;rw[m]at h1;cases h1
  by_cases s:i=b
  .subst s
   simp only[h5]at h2;rw[m]at h2;cases h2
  simp only[fA r]at h1 n;simp only[fA s]at h2 n;exact h.un a b K L h1 h2 n
theorem Bs{i:Nat}(hi:i<C.al.length){ax:a_}{hd:Nat}(h:gz X w C)(v:(C.al[i]).full=true->∀j:Nat,(C.al[i]).no=j->ax.now j=(C.al[i]).l)(x:∀j:Nat,((C.al[i]).full=true->(C.al[i]).no≠j)->ax.now j=C.D.now j)(f0:Fr)(m:f0.full=false)(no:Nat):
 (bZ.mk C.c C.aU (C.al.set i f0) hd ax).view no=C.view no:=by
 by_cases hex:∃ (k:Nat) (g:k<C.al.length),(C.al[k]).full=true/\(C.al[k]).no=no
 .obtain⟨k,g,h1,h2⟩:=hex
  have o:=mh (fs:=C.al) (D:=C.D) (c:=C.c) (aU:=C.aU) (hd:=C.hand) h.un g h1 h2;have o:C.view no=(C.al[k]).l:=o;rw[o];by_cases e:i=k
  .subst e
   rw[←v h1 no h2];refine mi λf hf au aw=>?_;obtain⟨a,n,rfl⟩:=fb hf;have p:a<C.al.length:=by simpa using n
   by_cases d:i=a
   .subst d
    simp only[h5]at au;rw[m]at au;cases au
   .simp only[fA d]at au aw
    exact d (h.un i a hi p h1 au (by rw[h2,aw]))
  .have y:k<(C.al.set i f0).length:=by simpa using g
   have q:(C.al.set i f0)[k]=C.al[k]:=fA e _;have z:∀ (a b:Nat) (n:a<(C.al.set i f0).length) (t:b<(C.al.set i f0).length),((C.al.set i f0)[a]).full=true->((C.al.set i f0)[b]).full=true->((C.al.set i f0)[a]).no=((C.al.set i f0)[b]).no->a=b:=by
    intro a b n t h1 h2 r;have p:a<C.al.length:=by simpa using n
    have A:b<C.al.length:=by simpa using t
    by_cases d:i=a
    .subst d
     simp only[h5]at h1;rw[m]at h1;cases h1
    by_cases u:i=b
    .subst u
     simp only[h5]at h2;rw[m]at h2;cases h2
    simp only[fA d]at h1 r;simp only[fA u]at h2 r;exact h.un a b p A h1 h2 r
   rw[mh z y (by rw[q];exact h1) (by rw[q];exact h2),q]
 .have s:∀f∈C.al,f.full=true->f.no≠no:=λf hf h1 h2=>by
   obtain⟨k,g,rfl⟩:=fb hf;exact hex ⟨k,g,h1,h2⟩
  have e:C.view no=C.D.now no:=mi (fs:=C.al) (D:=C.D) (c:=C.c) (aU:=C.aU) (hd:=C.hand) s;rw[e,←x no λh1 h2=>s _ (cA hi) h1 h2];refine mi λf hf h1 h2=>?_;rcases lU hf with hf|rfl
  .exact s f hf h1 h2
  .rw[m]at h1;cases h1
theorem Bt{X:Nat->Prop}{w:J}{C:bZ}(h:gz X w C){no:Nat}{s:Y}{l:cT}(hs:¬C.D.bI no=true):kv (C.D.put no s l) C.D:=
 ⟨rfl,λ_ h=>h,λj a=>by
  have a:C.D.bI j=true:=a
  rw[Bn,if_neg λe=>hs (by rw[←e];exact a)];exact h.k3 j a⟩
theorem Bu(D:a_){no:Nat}{s:Y}{l:cT}(hs:¬D.bI no=true):(D.put no s l).key=D.key:=by
 have h1:=p8 D (k:=2) (.inr rfl);unfold a_.key at h1⊢;have h2:(D.put no s l).j2=D.j2:=by
  funext n;exact propext ⟨λ_ h=>absurd (h no) hs,λ_ h=>absurd (h no) hs⟩
 rw[h2];have a:=congrArg Prod.snd h1;show((D.bh,D.bI,D.eo,D.j2),(D.cw 2).cg.getD 3 0)=_;have a:(D.cw 2).cg.getD 3 0=D.cg.getD 3 0:=a;rw[a]
def Bv(X:Nat->Prop)(C:bZ)(w:J)(v:aa)(w':J):Prop:=
 ∃aD:bZ,dW X w' aD/\eB C aD w w' 1/\aD.aU=C.aU/\(∀j,aD.view j=C.view j)/\(∀f∈aD.al,f.full=true->∃g∈C.al,g.full=true/\g.no=f.no)/\
  ((∃ (i:Nat) (hi:i<aD.al.length),v=.tuple #[.pointer (some ⟨C.aU,i*6,none⟩),(0:Int)]/\(aD.al[i]).full=false/\((aD.al[i]).pins=0))\/
   (v=.tuple #[.pointer none,(3:Int)]/\¬C.D.calm 1))
theorem Bw(h:dW X w C)(az:C.D.aO<=1000000000):aN aj 221 #[.pointer (some C.c)] w (Bv X C w):=by
 have U:=h.raw;refine okF (I7.uO (some C.c)) I6.uO func221 ?_;(delta I7.uO kT ai a7 r1 af ay;dsimp only);refine(FW U).use ?_;rintro _ _ ⟨he,rfl⟩;rcases he with ⟨i,hi,rfl,hf⟩|⟨rfl,aA⟩
 .exact⟨_,rfl,λ_=>⟨C,h,(eB.refl C w).mono (cE _),rfl,λ_=>rfl,λf hf H=>⟨f,hf,H,rfl⟩,.inl ⟨i,hi,rfl,hf,h.inv.pins _ (cA hi)⟩⟩,λh=>(by cases h)⟩
 refine⟨_,rfl,λh=>(by cases h),λ_=>(FX U h.inv.pins).use ?_⟩;rintro _ w1 ⟨i,gs,hd,hi,rfl,z,r,aB⟩;have W:i<gs.length:=by rw[z.1];exact hi
 have L:ad (cY C) w w1:=aB.mono λq _ n=>by
  rcases n with n|n
  .exact .inl n
  .exact .inr (.inl n)
 have E:=rN (hd:=hd) (ax:=C.D) h.inv z L (λq _ h=>h) h.inv.rK (λ_=>rfl) λq n=>.inl n;have P:=rO (hd:=hd) (ax:=C.D) h.inv z λ_=>rfl;obtain⟨a,F⟩:∃a:bZ,a={C with al:=gs,hand:=hd}:=⟨_,rfl⟩;have E:gz X w1 a:=by rw[F];exact E
 have r:fl w1 a:=by rw[F];exact r
 have P:∀no,a.view no=C.view no:=by rw[F];exact P
 have Y:∀q,cY a q↔cY C q:=by rw[F];exact λq=>Iff.rfl
 have o:a.D=C.D:=by rw[F]
 have p:a.c=C.c/\a.aU=C.aU:=by rw[F];exact⟨rfl,rfl⟩
 have I:a.al=gs:=by rw[F]
 have A:i<a.al.length:=by rw[I];exact W
 have R:(a.al[i]).full=true:=by
  have e:=z.2 i hi W;have:(gs[i]).full=(C.al[i]).full:=by rw[e]
  simp only[I];rw[this];exact aA _ (cA hi)
 have Z:∀f∈a.al,f.full=true->∃g∈C.al,g.full=true/\g.no=f.no:=by
  rw[I];intro f hf H;obtain⟨k,aa,rfl⟩:=fb hf;have ac:k<C.al.length:=by rw[←z.1];exact aa
  have e:=z.2 k ac aa;have aC:(gs[k]).full=(C.al[k]).full:=by rw[e]
  have aD:(gs[k]).no=(C.al[k]).no:=by rw[e]
  exact⟨C.al[k],cA ac,by rw[←aC];exact H,aD.symm⟩
 obtain⟨no,au,aw,ah,aE,aF,aG⟩:=E.ok _ (cA A) R;have f1:=j3 r.f A (j:=1) (by decide)
 have fin:∀ (ag:J) (ax:a_),ad (cY C) w1 ag->fl ag {a with D:=ax}->eB C {a with D:=ax} w ag 1->kv ax C.D->(∀j:Nat,(a.al[i]).no≠j->ax.now j=C.D.now j)->(∀j:Nat,(a.al[i]).no=j->ax.now j=(a.al[i]).l)->(∀q,bT ax q->bT C.D q\/w1.heap.size<=q)->
  ∃S:ab,(some ⟨C.aU,i*6,none⟩:ao ab)=some S/\bx ag S [false,false,false,(0:Int),(0:Int),()]/\(6:Nat)=6/\ak (setCells ag S 0 [false,false,false,(0:Int),(0:Int),()]) λaH=>Bv X C w (.tuple #[.pointer (some ⟨C.aU,i*6,none⟩),(0:Int)]) aH:=by
  intro ag ax aI t B aJ am aK K;have aL:bt ag a.aU (bH Fr.c a.al).toArray 288:=t.f;obtain⟨s1,s2,M⟩:=x1 aL A dw;rw[p.2]at s1 s2 M;have aM:gz X (setCells ag ⟨C.aU,i*6,none⟩ 0 dw.c) {a with al:=a.al.set i dw,D:=ax}:=by
   refine x2 (V:=cY C) (w:=w1) A E (aI.trans (M.mono λq _ e=>.inr (.inl e))) (λq _ n=>(Y q).2 n) (by rw[o];exact aJ) (λj u=>by rw[o];exact am j λe=>u R e) (λq n=>by rw[o];exact K q n) dw rfl rfl
  have aP:=t.v;refine⟨_,rfl,s1,rfl,aS ⟨{a with al:=a.al.set i dw,D:=ax},⟨?_,aM⟩,?_,p.2,λj=>?_,λf hf H=>?_,.inl ⟨i,by show i<(a.al.set i dw).length;rw[dc];exact A,rfl,by simp[dw],by simp[dw]⟩⟩⟩
  .have aQ:a.c≠C.aU:=by have:=t.a1.1;rw[←p.2];exact this
   refine⟨?_,by show bt _ a.aU _ _;rw[p.2];exact s2,t.dev.ae M (λq n e=>t.a1.2.2 (by rw[show({a with D:=ax}:bZ).aU=a.aU from rfl,p.2,←e];exact n)),?_,?_,?_,t.a1⟩
   .have:=aP.ae M aQ
    show Var _ _ [_,.slice _ (a.al.set i dw).length (a.al.set i dw).length,_] _;rw[dc];exact this
   .show 8<=(a.al.set i dw).length;rw[dc];exact t.bA
   .show(a.al.set i dw).length<=64;rw[dc];exact t.bO
   .show a.hand<(a.al.set i dw).length;rw[dc];exact t.hd
  .refine⟨B.c,B.d,by show(a.al.set i dw).length=_;rw[dc];exact B.len,B.bh,B.aO,B.calm,B.ae.trans (M.mono λq _ e=>.inr (.inl e)),B.cZ⟩
  .rw[←P]
   exact Bs A E (λ_ j u=>aK j u) (λj u=>by rw[o];exact am j λe=>u R e) dw rfl j
  .rcases lU hf with hf|rfl
   .exact Z f hf H
   .cases H
 refine⟨_,rfl,λh=>(by cases h),λ_=>hF (λag=>∃ax:a_,ad (cY C) w1 ag/\fl ag {a with D:=ax}/\eB C {a with D:=ax} w ag 1/\kv ax C.D/\(∀j:Nat,(a.al[i]).no≠j->ax.now j=C.D.now j)/\(∀j:Nat,(a.al[i]).no=j->ax.now j=(a.al[i]).l)/\(∀q,bT ax q->bT C.D q\/w1.heap.size<=q)) (λq n=>⟨_,rfl,(a.al[i]).fQ,?_,λaR=>?_,λaT=>n _ ⟨C.D,.refl _ _,?_,?_,h.inv.rK,λ_ _=>rfl,λj u=>?_,λq h=>.inl h⟩⟩) ?_⟩
 .rw[av,←p.2];exact f1
 .
  have Q:=b4 w1;have y:=r.ext Q;obtain⟨an,_,_⟩:=y.cells;rw[p.1,o]at an;have f3:=j3 y.f A (j:=3) (by decide);have f5:=j3 y.f A (j:=5) (by decide);rw[p.2]at f3 f5;refine aS ⟨_,rfl,id,_,an,_,rfl,id,(no:Int),?_,_,rfl,id,(a.al[i]).b,by rw[av];exact f5,?_⟩
  .rw[av,f3]
   show some (Value.int .i64 (a.al[i]).no)=_;rw[au]
  have aV:cB w1.drew C.D:=by rw[←o];exact y.dev
  have ap:¬C.D.bI no=true:=λhs=>by
   have:=aG (by rw[o];exact hs);rw[aR]at this;cases this
  refine(vG aV (i:=no) (by rw[←o];exact aw) az (ah.1.ext Q) aE λq n hf=>(ah.2.2 q n).1.1 (.inr (.inr (by rw[o];exact hf)))).use ?_;rintro v2 ag aW;rcases aW with ⟨aq,rfl,T,G⟩|⟨aq,rfl,s,T,G,aX⟩
  .have N:ad (cY C) w1 ag:=(ad.cF Q).trans (G.mono λq _ e=>.inr (.inr (.inl e)))
   refine⟨3,rfl,λ_=>⟨{a with D:=C.D.cw 2},⟨?_,?_⟩,?_,p.2,λj=>?_,Z,.inr ⟨rfl,λaY=>?_⟩⟩,λh=>(by cases h)⟩
   .have t:=y.v.ae G (λe=>y.a1.2.1 (.inl (by rw[o];exact e)))
    rw[o]at t;have ar:=r.a1;rw[o]at ar;exact⟨t,bt.ae y.f G (λe=>y.a1.2.2 (.inl (by rw[o];exact e))),T,r.bA,r.bO,r.hd,ar⟩
   .have:=rN (C:=a) (hd:=a.hand) (ax:=C.D.cw 2) E (hU.refl _) N (λq _ n=>(Y q).2 n) (by rw[o];exact h.inv.cw 2) (λj=>by rw[o];rfl) λq n=>.inl (by rw[o];exact n)
    exact this
   .refine⟨p.1,rfl,by show a.al.length=_;rw[I];exact z.1,p8 C.D (.inr rfl),Nat.le_succ _,λm O=>(jD (.inr rfl) h.raw.dev.f4 O).1,L.trans N,λq n=>.inl ?_⟩
    rcases n with e|e|e
    .exact .inl (by rw[←p.1];exact e)
    .exact .inr (.inl (by rw[←p.2];exact e))
    .exact .inr (.inr e)
   .rw[←P]
    exact rO (C:=a) E (hU.refl _) (λj=>by rw[o];rfl) j
   .have:=(jD (k:=2) (m:=0) (.inr rfl) h.raw.dev.f4 aY).2
    rw[aq]at this;cases this
  .have N:ad (cY C) w1 ag:=(ad.cF Q).trans (G.mono λq _ e=>.inr (.inr e))
   have K:∀q,bT (C.D.put no s (a.al[i]).l) q->bT C.D q\/w1.heap.size<=q:=by
    rintro q (e|e|e|⟨x,hx,e⟩)
    .exact .inl (.inl e)
    .exact .inl (.inr (.inl e))
    .exact .inl (.inr (.inr (.inl e)))
    .rcases cS.1 hx with rfl|hx
     .exact aX q e
     .exact .inl (.inr (.inr (.inr ⟨x,(hC.1 hx).1,e⟩)))
   have c1:∀q,bT C.D q->q≠a.c/\q≠a.aU:=λq n=>⟨λe=>r.a1.2.1 (by rw[o,←e];exact n),λe=>r.a1.2.2 (by rw[o,←e];exact n)⟩;refine⟨0,rfl,λh=>(by cases h),λ_=>n _ ⟨C.D.put no s (a.al[i]).l,N,?_,?_,Bt h.inv ap,λj u=>?_,λj u=>?_,K⟩⟩
   .have t:=y.v.ae G (λe=>(c1 _ e).1 rfl)
    rw[o]at t;have aZ:a.c<w1.heap.size:=r.v.lt;have a0:a.aU<w1.heap.size:=bt.lt r.f;refine⟨t,bt.ae y.f G (λe=>(c1 _ e).2 rfl),T,r.bA,r.bO,r.hd,r.a1.1,λe=>?_,λe=>?_⟩
    .rcases K _ e with h1|h1
     .exact(c1 _ h1).1 rfl
     .have:a.c<w1.heap.size:=aZ
      have h1:w1.heap.size<=a.c:=h1;omega
    .rcases K _ e with h1|h1
     .exact(c1 _ h1).2 rfl
     .have h1:w1.heap.size<=a.aU:=h1
      omega
   .refine⟨p.1,rfl,by show a.al.length=_;rw[I];exact z.1,Bu C.D ap,bn _,λm O=>(jD (.inr rfl) h.raw.dev.f4 O).1,L.trans N,λq n=>?_⟩
    rcases n with e|e|e
    .exact .inl (.inl (by rw[←p.1];exact e))
    .exact .inl (.inr (.inl (by rw[←p.2];exact e)))
    .rcases K q e with h1|h1
     .exact .inl (.inr (.inr h1))
     .exact .inr (ew L.size h1)
   .rw[oz,if_neg (λe=>u (by rw[au,e]))]
   .rw[oz,if_pos (by rw[au]at u;omega)]
 .rw[←o];exact r
 .refine⟨p.1,rfl,by show a.al.length=_;rw[I];exact z.1,rfl,Nat.le_succ _,λm O=>f_ O (Nat.le_succ _),L,λq n=>.inl ?_⟩
  rcases n with e|e|e
  .exact .inl (by rw[←p.1];exact e)
  .exact .inr (.inl (by rw[←p.2];exact e))
  .exact .inr (.inr e)
 .have:no=j:=by rw[au]at u;omega
  subst this;rw[←o];exact(aF aT).symm
 .rintro ag ⟨ax,a1,a2,a3,a4,a5,c3,dE⟩
  exact fin ag ax a1 a2 a3 a4 a5 c3 dE
end
def rP(fs:O Fr):Prop:=∀ (i j:Nat) (hi:i<fs.length) (a:j<fs.length),(fs[i]).full=true->(fs[j]).full=true->(fs[i]).no=(fs[j]).no->i=j
theorem Bx{fs gs:O Fr}{D ax:a_}{c aU hd c' g h j:Nat}(n:rP fs)(o:rP gs)(h1:∀ (i:Nat) (hi:i<fs.length),(fs[i]).full=true->(fs[i]).no=j->∃ (k:Nat) (a:k<gs.length),(gs[k]).full=true/\(gs[k]).no=j/\(gs[k]).l=(fs[i]).l)
 (h2:(∀f∈fs,f.full=true->f.no≠j)->(∀f∈gs,f.full=true->f.no≠j)/\ax.now j=D.now j):(bZ.mk c' g gs h ax).view j=(bZ.mk c aU fs hd D).view j:=by
 by_cases hex:∃ (k:Nat) (a:k<fs.length),(fs[k]).full=true/\(fs[k]).no=j
 .obtain⟨k,a,au,aw⟩:=hex
  obtain⟨m,p,b,d,q⟩:=h1 k a au aw;rw[mh n a au aw,mh o p b d,q]
 .have e:∀f∈fs,f.full=true->f.no≠j:=λf hf h1 h2=>by
   obtain⟨k,a,rfl⟩:=fb hf;exact hex ⟨k,a,h1,h2⟩
  obtain⟨b,d⟩:=h2 e;rw[mi e,mi b,d]
section
variable {w w':J}{C:bZ}{X:Nat->Prop}
theorem x3{i:Nat}(hi:i<C.al.length){no:Nat}{V:Nat->Prop}(h:gz X w C)(hc:ad V w w')(ed:∀q,q<w.heap.size->V q->cY C q){ax:a_}(r:kv ax C.D)(A:∀j,ax.now j=C.D.now j)(B:∀q,bT ax q↔bT C.D q)
 (d:Fr) (O:d.full=true) (E:d.pins=0) (s:Bq X w' {C with al:=C.al.set i d,D:=ax} d no) (t:∀ (k:Nat) (u:k<C.al.length),k≠i->(C.al[k]).full=true->(C.al[k]).no≠no):gz X w' {C with al:=C.al.set i d,D:=ax}:=by
 have F:=hc.size;have v:∀q,cY {C with al:=C.al.set i d,D:=ax} q->cY C q:=λq hf=>by
  rcases hf with h1|h1|h1
  .exact .inl h1
  .exact .inr (.inl h1)
  .exact .inr (.inr ((B q).1 h1))
 refine⟨λf hf=>?_,λf hf x=>?_,λa b G g h1 h2 c=>?_,λq o=>⟨fN (h.fg q o).1 F,λhf=>(h.fg q o).2 (v q hf)⟩,r.2.2⟩
 .rcases lU hf with hf|rfl
  .exact h.pins f hf
  .exact E
 .obtain⟨k,u,rfl⟩:=fb hf
  have H:k<C.al.length:=by simpa using u
  by_cases e:i=k
  .subst e
   simp only[h5];exact⟨no,s⟩
  .simp only[fA e]at x⊢
   obtain⟨m,au,aw,I,J,K,L,M⟩:=h.ok _ (cA H) x;exact⟨m,au,by show m<ax.n;rw[r.1];exact aw,aY.re I hc (λq o g N=>g.1 (ed q o N)) λq _ g=>⟨λhf=>g.1 (v q hf),g.2⟩,J,λhd=>by show _=ax.now m;rw[A];exact K hd,λhs=>L (r.2.1 _ hs),M⟩
 .have y:a<C.al.length:=by simpa using G
  have z:b<C.al.length:=by simpa using g
  by_cases p:i=a
  .by_cases l:i=b
   .omega
   .subst p
    simp only[h5]at c;simp only[fA l]at h2 c;exact absurd (by rw[←c];exact s.num) (t b z (λe=>l e.symm) h2)
  .by_cases l:i=b
   .subst l
    simp only[h5]at c;simp only[fA p]at h1 c;exact absurd (by rw[c];exact s.num) (t a y (λe=>p e.symm) h1)
   .simp only[fA p]at h1 c
    simp only[fA l]at h2 c;exact h.un a b y z h1 h2 c
theorem FY{i:Nat}(hi:i<C.al.length){no:Nat}(h:rP C.al)(g:Fr)(j:g.no=no)(l:∀ (k:Nat) (q:k<C.al.length),k≠i->(C.al[k]).full=true->(C.al[k]).no≠no):rP (C.al.set i g):=by
 intro a b o p h1 h2 c;have m:a<C.al.length:=by simpa using o
 have n:b<C.al.length:=by simpa using p
 by_cases f:i=a
 .by_cases d:i=b
  .omega
  .subst f
   simp only[h5]at c;simp only[fA d]at h2 c;exact absurd (by rw[←c];exact j) (l b n (λe=>d e.symm) h2)
 .by_cases d:i=b
  .subst d
   simp only[h5]at c;simp only[fA f]at h1 c;exact absurd (by rw[c];exact j) (l a m (λe=>f e.symm) h1)
  .simp only[fA f]at h1 c
   simp only[fA d]at h2 c;exact h a b m n h1 h2 c
theorem x4{i:Nat}(hi:i<C.al.length){no:Nat}(h:rP C.al){ax:a_}(m:∀j,ax.now j=C.D.now j)(a:Fr)(n:a.full=true)(b:a.no=no)(hold:(C.al[i]).full=true->(C.al[i]).no=no)(o:∀ (k:Nat) (g:k<C.al.length),k≠i->(C.al[k]).full=true->(C.al[k]).no≠no){hd:Nat}(j:Nat):
 (bZ.mk C.c C.aU (C.al.set i a) hd ax).view j=if j=no then a.l else C.view j:=by
 have hu:=FY hi h a b o;have p:i<(C.al.set i a).length:=by simpa using hi
 by_cases e:j=no
 .subst e
  rw[if_pos rfl,mh hu p (by simp[n]) (by simpa using b)];simp
 .rw[if_neg e]
  refine Bx (fs:=C.al) (D:=C.D) (c:=C.c) (aU:=C.aU) (hd:=C.hand) h hu (λk g au aw=>?_) λq=>⟨λf hf au aw=>?_,m j⟩
  .have d:i≠k:=λr=>by
    subst r;have:=hold au;rw[aw]at this;exact e I
   have s:k<(C.al.set i a).length:=by simpa using g
   exact⟨k,s,by simp only[fA d];exact au,by simp only[fA d];exact aw,by simp only[fA d]⟩
  .rcases lU hf with hf|rfl
   .exact q f hf au aw
   .rw[b]at aw
    exact e I
def FZ(X:Nat->Prop)(C:bZ)(no:Nat)(w:J)(v:aa)(w':J):Prop:=
 ∃aD:bZ,dW X w' aD/\eB C aD w w' 2/\(∀j,aD.view j=C.view j)/\
  ((∃s:Y,v=.tuple #[s,(0:Int)]/\aY (λq=>w.heap.size<=q/\¬cY aD q/\¬X q) w' s (C.view no))\/(v=.tuple #[(),(3:Int)]/\¬C.D.calm 2))
theorem F0(h:dW X w C)(a7:C.D.aO<=999999999){no:Nat}(aC:no<C.D.n)(aD:2<=no):aN aj 239 #[.pointer (some C.c),no] w (FZ X C no w):=by
 have r:=h.raw;refine okF (I7.uP (some C.c) (no:Int)) I6.uP func239 ?_;(delta I7.uP aF ai kT st af aZ c9 b6;dsimp only);refine(Br r _).use ?_;rintro _ _ ⟨rfl,rfl⟩;refine⟨_,rfl,λF=>?_,λ_=>(vI r _).use ?_⟩
 .have:decide (0<=(no:Int)/\(no:Int)<C.D.n)=true:=dm ⟨I,I⟩
  rw[this]at F;cases F
 rintro _ _ ⟨aE,rfl⟩;rcases aE with ⟨i,hi,rfl,hf,aG⟩|⟨rfl,aH⟩
 .
  obtain⟨au,aw,M,J⟩:=nc r.f hi (j:=2) (by decide) (v:=true) {C.al[i] with used:=true} rfl;have ab:hU C.al (C.al.set i {C.al[i] with used:=true}):=(hU.refl C.al).set hi true;have K:ad (cY C) w (w.setCell ⟨C.aU,i*6+2,none⟩ true):=J.mono λq _ e=>.inr (.inl e);have hinv:=rN (hd:=C.hand) (ax:=C.D) h.inv ab K (λq _ h=>h) h.inv.rK (λ_=>rfl) λq p=>.inl p;have aI:=rO (hd:=C.hand) (ax:=C.D) h.inv ab λ_=>rfl;obtain⟨w1,ac⟩:∃w1,w1=w.setCell ⟨C.aU,i*6+2,none⟩ true:=⟨_,rfl⟩;rw[←ac]at M J K hinv;have N:fl w1 {C with al:=C.al.set i {C.al[i] with used:=true}}:=by
   refine⟨?_,M,r.dev.ae J (λq p e=>r.a1.2.2 (e▸p)),?_,?_,?_,r.a1⟩
   .have:=r.v.ae J r.a1.1
    show Var _ _ [_,.slice _ (C.al.set i _).length (C.al.set i _).length,_] _;rw[dc];exact this
   .show 8<=(C.al.set i _).length;rw[dc];exact r.bA
   .show(C.al.set i _).length<=64;rw[dc];exact r.bO
   .show C.hand<(C.al.set i _).length;rw[dc];exact r.hd
  obtain⟨a,O⟩:∃a:bZ,a={C with al:=C.al.set i {C.al[i] with used:=true}}:=⟨_,rfl⟩;have P:dW X w1 a:=by rw[O];exact⟨N,hinv⟩
  have dG:i<(C.al.set i {C.al[i] with used:=true}).length:=by simpa using hi
  have f5:=j3 M dG (j:=5) (by decide);obtain⟨m,bA,bO,ah,ak,a8,a9,a_⟩:=hinv.ok ((C.al.set i {C.al[i] with used:=true})[i]) (cA dG) (by simp[hf]);have aJ:((C.al.set i {C.al[i] with used:=true})[i]).b=(C.al[i]).b:=by simp
  have am:((C.al.set i {C.al[i] with used:=true})[i]).l=(C.al[i]).l:=by simp
  rw[aJ,am]at ah;rw[am]at ak;refine⟨_,rfl,λ_=>⟨_,rfl,by rw[av];exact au,by rw[av];exact aw,?_⟩,λh=>(by cases h)⟩;rw[av,←ac];refine aS ⟨_,rfl,(C.al[i]).b,by rw[av,f5];simp[Fr.c],(kr (B:=λq=>w1.heap.size<=q) ah.1 (by rw[ak];omega) (λq p=>p)).use ?_⟩;rintro _ ag ⟨s,rfl,hs,an,_⟩;have aK:C.view no=(C.al[i]).l:=mh (fs:=C.al) (D:=C.D) (c:=C.c) (aU:=C.aU) (hd:=C.hand) h.inv.un hi hf aG;have aL:=K.size;refine⟨s,rfl,a,P.ext an,?_,?_,.inl ⟨s,rfl,?_⟩⟩
  .rw[O]
   exact⟨rfl,rfl,by show(C.al.set i _).length=_;rw[dc],rfl,Nat.le_add_right _ _,λm Q=>f_ Q I,K.trans (ad.cF an),λq p=>.inl p⟩
  .intro j;rw[O];exact aI j
  .rw[aK]
   refine aY.aW hs λq _ p=>⟨I,λhf=>?_,λG=>?_⟩
   .have:=P.raw.lt hf;omega
   .have:=(P.inv.fg q G).1;omega
 .
  refine⟨_,rfl,λh=>(by cases h),λ_=>(Bw h I).use ?_⟩;rintro _ w1 ⟨a,o,y,A,H,aM,N⟩;rcases N with ⟨i,hi,rfl,aP,ba⟩|⟨rfl,aQ⟩
  .refine⟨_,_,rfl,λh=>(by simp at h),λ_=>⟨_,rfl,some C.D.d,?_,?_⟩⟩
   .have:=o.raw.cells.1
    rw[y.c,y.d]at this;exact this
   have R:no<a.D.n:=by rw[y.n];exact aC
   have bb:=y.aO;rw[←y.d];refine(xY o.raw.dev R I).use ?_;rintro v2 ag ⟨ao,L,aR⟩;have ap:=λq=>o.raw.lt (q:=q);have S:ad (cY a) w1 ag:=L.mono λq _ e=>.inr (.inr (.inl e))
   have T:∀f∈a.al,f.full=true->f.no≠no:=λf hf aT aV=>by
    obtain⟨g,hg,h1,h2⟩:=aM f hf aT;exact aH g hg h1 (by rw[h2,aV])
   have aX:a.D.calm 1\/¬C.D.calm 2:=by
    rcases Classical.em (C.D.calm 2) with h1|h1
    .exact .inl (y.calm 1 h1)
    .exact .inr h1
   have aq:a.view no=a.D.now no:=mi (fs:=a.al) (D:=a.D) (c:=a.c) (aU:=a.aU) (hd:=a.hand) T;have U:∀q,bT a.D q->q≠a.c/\q≠a.aU:=λq p=>⟨λe=>o.raw.a1.2.1 (e▸p),λe=>o.raw.a1.2.2 (e▸p)⟩;have a0:gz X ag {a with D:=a.D.cw 1}:=rN (C:=a) (hd:=a.hand) (ax:=a.D.cw 1) o.inv (hU.refl _) S (λq _ h=>h) (o.inv.cw 1) (λ_=>rfl) λq p=>.inl p;have u:eB C {a with D:=a.D.cw 1} w ag 2:=by
    have:eB a {a with D:=a.D.cw 1} w1 ag 1:=⟨rfl,rfl,rfl,p8 a.D (.inl rfl),Nat.le_succ _,λm Q=>(jD (.inl rfl) o.raw.dev.f4 Q).1,S,λq p=>.inl p⟩;exact y.trans this
   have a2:∀j,({a with D:=a.D.cw 1}:bZ).view j=C.view j:=λj=>by rw[←H];exact rO (C:=a) o.inv (hU.refl _) (λ_=>rfl) j
   have W:fl ag {a with D:=a.D.cw 1}:=⟨o.raw.v.ae L (λe=>(U _ (.inl rfl)).1 e.symm),bt.ae o.raw.f L (λe=>(U _ (.inl rfl)).2 e.symm),ao,o.raw.bA,o.raw.bO,o.raw.hd,o.raw.a1⟩;rcases aR with ⟨F,rfl⟩|⟨F,s,rfl,hs⟩
   .refine⟨⟨none,0,0⟩,3,rfl,λ_=>⟨{a with D:=a.D.cw 1},⟨W,a0⟩,u,a2,.inr ⟨rfl,?_⟩⟩,λh=>(by simp at h)⟩
    rcases aX with h1|h1
    .have:=(jD (k:=1) (m:=0) (.inl rfl) o.raw.dev.f4 h1).2
     rw[F]at this;cases this
    .exact h1
   .have ar:(a.D.now no).length=256:=o.raw.dev.oy R
    obtain⟨s1,s2,z⟩:=x1 W.f hi ⟨true,false,true,(no:Int),0,s,a.D.now no⟩;rw[A]at s1 s2 z;have bc:=L.size;have aL:=y.ae.size;refine⟨s,_,rfl,λh=>(by simp at h),λ_=>⟨_,rfl,s1,rfl,?_⟩⟩;obtain⟨x,ay⟩:∃x,x=setCells ag ⟨C.aU,i*6,none⟩ 0 (Fr.c ⟨true,false,true,(no:Int),0,s,a.D.now no⟩):=⟨_,rfl⟩;rw[←ay]at s2 z;have hg:setCells ag ⟨C.aU,i*6,none⟩ 0 [true,false,true,no,(0:Int),s]=x:=ay.symm;rw[hg];have az:ad (cY a) ag x:=z.mono λq _ e=>.inr (.inl (by rw[A];exact e));have aA:aY (λq=>w1.heap.size<=q) x s (a.D.now no):=aY.ae hs z λq p e=>by
     have:=ap C.aU (.inr (.inl A.symm));omega
    have a3:gz X x {a with al:=a.al.set i ⟨true,false,true,(no:Int),0,s,a.D.now no⟩,D:=a.D.cw 1}:=by
     refine x3 (w:=w1) (V:=cY a) (ax:=a.D.cw 1) hi (no:=no) o.inv (S.trans az) (λq _ h=>h) (o.inv.cw 1) (λ_=>rfl) (λq=>Iff.rfl) ⟨true,false,true,(no:Int),0,s,a.D.now no⟩ rfl rfl ⟨rfl,R,?_,ar,λ_=>rfl,λ_=>rfl,aD⟩ λk Y _ h1=>T _ (cA Y) h1;refine aY.aW aA λq _ p=>⟨λhf=>?_,λG=>?_⟩
     .have:cY a q:=hf
      have:=ap q this;omega
     .have:=(o.inv.fg q G).1;omega
    have a4:∀j,({a with al:=a.al.set i ⟨true,false,true,(no:Int),0,s,a.D.now no⟩,D:=a.D.cw 1}:bZ).view j=C.view j:=λj=>by
     have:=x4 (hd:=a.hand) (ax:=a.D.cw 1) hi (no:=no) o.inv.un (λ_=>rfl) ⟨true,false,true,(no:Int),0,s,a.D.now no⟩ rfl rfl (λh1=>by rw[aP]at h1;cases h1) (λk Y _ h1=>T _ (cA Y) h1) j;rw[show({a with al:=a.al.set i ⟨true,false,true,(no:Int),0,s,a.D.now no⟩,D:=a.D.cw 1}:bZ)=bZ.mk a.c a.aU (a.al.set i ⟨true,false,true,(no:Int),0,s,a.D.now no⟩) a.hand (a.D.cw 1) from rfl,this];by_cases e:j=no
     .rw[if_pos e,e,←H,aq]
     .rw[if_neg e,H]
    have a5:fl x {a with al:=a.al.set i ⟨true,false,true,(no:Int),0,s,a.D.now no⟩,D:=a.D.cw 1}:=by
     refine⟨?_,by show bt _ a.aU _ _;rw[A];exact s2,ao.ae z (λq p e=>(U q p).2 (by rw[A];exact e)),?_,?_,?_,o.raw.a1⟩
     .have:=W.v.ae z (λe=>o.raw.a1.1 (by rw[A];exact e))
      show Var _ _ [_,.slice _ (a.al.set i _).length (a.al.set i _).length,_] _;rw[dc];exact this
     .show 8<=(a.al.set i _).length;rw[dc];exact o.raw.bA
     .show(a.al.set i _).length<=64;rw[dc];exact o.raw.bO
     .show a.hand<(a.al.set i _).length;rw[dc];exact o.raw.hd
    obtain⟨E,Z⟩:∃E:bZ,E={a with al:=a.al.set i ⟨true,false,true,(no:Int),0,s,a.D.now no⟩,D:=a.D.cw 1}:=⟨_,rfl⟩;have aa:dW X x E:=by rw[Z];exact⟨a5,a3⟩
    have a6:eB C E w x 2:=by
     rw[Z];exact⟨u.c,u.d,by show(a.al.set i _).length=_;rw[dc];exact u.len,u.bh,u.aO,u.calm,cr u.ae az λq p h=>(u.cZ q h).resolve_right I,u.cZ⟩
    refine aS ((kr (B:=λq=>x.heap.size<=q) aA.1 (by rw[ar];omega) (λq p=>p)).use ?_);rintro _ bd ⟨t,rfl,ht,aB,_⟩;have be:=z.size;refine⟨t,rfl,E,aa.ext aB,?_,?_,.inl ⟨t,rfl,?_⟩⟩
    .exact(a6.trans (eB.ext E aB)).mono I
    .intro j;rw[Z];exact a4 j
    .rw[←H,aq]
     refine aY.aW ht λq _ p=>⟨I,λhf=>?_,λG=>?_⟩
     .have:=aa.raw.lt hf;omega
     .have:=(aa.inv.fg q G).1;omega
  .refine⟨_,_,rfl,λ_=>⟨a,o,y.mono I,H,.inr ⟨rfl,λhc=>aQ (f_ hc I)⟩⟩,λh=>(by simp at h)⟩
end
section
variable {w w':J}{C:bZ}{X:Nat->Prop}
def By(X:Nat->Prop)(C:bZ)(no:Nat)(l:cT)(w:J)(v:aa)(w':J):Prop:=
 ∃aD:bZ,dW X w' aD/\eB C aD w w' 1/\
  ((v=.int .i64 0/\∀j,aD.view j=if j=no then l else C.view j)\/(v=.int .i64 3/\¬C.D.calm 1/\∀j,aD.view j=C.view j))
theorem x5{i:Nat}{a:Fr}(h:fl w C)(hc:ad (λq=>q=C.aU) w w')(b:bt w' C.aU (bH Fr.c (C.al.set i a)).toArray 288):fl w' {C with al:=C.al.set i a}:=by
 refine⟨?_,b,h.dev.ae hc (λq d e=>h.a1.2.2 (e▸d)),?_,?_,?_,h.a1⟩
 .have:=h.v.ae hc h.a1.1
  show Var _ _ [_,.slice _ (C.al.set i _).length (C.al.set i _).length,_] _;rw[dc];exact this
 .show 8<=(C.al.set i _).length;rw[dc];exact h.bA
 .show(C.al.set i _).length<=64;rw[dc];exact h.bO
 .show C.hand<(C.al.set i _).length;rw[dc];exact h.hd
theorem set_set{fs:O Fr}{i:Nat}(f g:Fr):(fs.set i f).set i g=fs.set i g:=List.set_set ..
theorem Bz (h:dW X w C) (br:C.D.aO≤999999999) {no:Nat} (aB:no<C.D.n) (aC:2≤no) (aD:¬C.D.bI no=true) {b:Y} {l:cT} (af:Src 1 w b (aG l)) (ah:l.length=256) (am:∀q,az b q→q<w.heap.size∧¬cY C q):
   aN aj 162 #[.pointer (some C.c),no,b] w (By X C no l w):=by
 have O:=h.raw
 have aE:=len8 af
 refine okF (I7.uz (some C.c) (no:Int) b) I6.uz func162 ?_
 (delta I7.uz aF ai kT c9 st aZ;dsimp only)
 refine(Br O _).use ?_
 rintro _ _ ⟨rfl,rfl⟩
 have aH:decide (0≤(no:Int)∧(no:Int)<C.D.n)=true:=dm ⟨by omega,by omega⟩
 refine⟨_,rfl,fun h1=>?_,fun _=>(vI O _).use ?_⟩
 · rw[aH,aE,ah] at h1
   simp at h1
 rintro _ _ ⟨aI,rfl⟩
 have fin:∀ (w1:J) (a:bZ) (i:Nat) (hi:i<a.al.length) (f1:Fr),dW X w1 a→eB C a w w1 1→a.aU=C.aU→(∀j,a.view j=C.view j)→f1.pins=0→∀ag:J,bt ag a.aU (bH Fr.c (a.al.set i f1)).toArray 288→ad (fun q=>q=a.aU) w1 ag→f1.full=true→f1.no=(no:Int)→
     ((a.al[i]).full=true→(a.al[i]).no=(no:Int))→(∀ (k:Nat) (E:k<a.al.length),k≠i→(a.al[k]).full=true→(a.al[k]).no≠(no:Int))→
     Calls aj 135 #[b] ag fun aJ P=>∃an:Y,aJ= .returned an∧∃G:ab,(some ⟨C.aU,i*6,none⟩:ao ab)=some G∧(∃u:aa,P.cell? (G.add 5)=some u)∧P.frozen? (G.add 5)=false∧
       ak (P.setCell (G.add 5) an) fun Q=>∃H:ab,(some ⟨C.aU,i*6,none⟩:ao ab)=some H∧(∃u:aa,Q.cell? (H.add 1)=some u)∧Q.frozen? (H.add 1)=false∧
       ak (Q.setCell (H.add 1) true) fun R=>∃I:ab,(some ⟨C.aU,i*6,none⟩:ao ab)=some I∧(∃u:aa,R.cell? (I.add 2)=some u)∧R.frozen? (I.add 2)=false∧
       ak (R.setCell (I.add 2) true) fun aK=>By X C no l w (0:Int) aK:=by
   intro w1 a i hi f1 y o x aL S ag aM K L ap hold aq
   have bs:=o.ae.size
   have bu:=K.size
   have bv:a.aU<w1.heap.size:=y.raw.lt (.inr (.inl rfl))
   have aP:Src 1 ag b (aG l):=by
     refine(af.ae o.ae fun q m hf=>(am q m).2 hf).ae K fun q m e=>(am q m).2 (.inr (.inl (by rw[←x];exact e)))
   refine(kr (B:=fun q=>ag.heap.size≤q) aP (by omega) (fun q m=>m)).use ?_
   rintro _ aQ ⟨s,rfl,hs,ar,_⟩
   have aR:=bt.ext aM ar
   have T:i<(a.al.set i f1).length:=by rw[dc];exact hi
   have U:(a.al.set i f1)[i]=f1:=by simp
   obtain⟨a1,a2,a3,a4⟩:=nc aR T (j:=5) (by decide) (v:=s) {f1 with b:=s} (by rw[U];rfl)
   rw[set_set] at a3
   have aT:i<(a.al.set i {f1 with b:=s}).length:=by rw[dc];exact hi
   have aV:(a.al.set i {f1 with b:=s})[i]={f1 with b:=s}:=by simp
   obtain⟨b5,bM,z,A⟩:=nc a3 aT (j:=1) (by decide) (v:=true) {f1 with b:=s,fQ:=true} (by rw[aV];rfl)
   rw[set_set] at z
   have aX:i<(a.al.set i {f1 with b:=s,fQ:=true}).length:=by rw[dc];exact hi
   have a0:(a.al.set i {f1 with b:=s,fQ:=true})[i]={f1 with b:=s,fQ:=true}:=by simp
   obtain⟨d1,d2,d3,d4⟩:=nc z aX (j:=2) (by decide) (v:=true) {f1 with b:=s,fQ:=true,used:=true,l:=l} (by rw[a0];rfl)
   rw[set_set] at d3
   rw[x] at a1 a2 a3 a4 b5 bM z A d1 d2 d3 d4 K
   refine⟨s,rfl,_,rfl,by rw[av];exact a1,by rw[av];exact a2,?_⟩
   rw[av]
   refine aS ⟨_,rfl,by rw[av];exact b5,by rw[av];exact bM,?_⟩
   rw[av]
   refine aS ⟨_,rfl,by rw[av];exact d1,by rw[av];exact d2,?_⟩
   rw[av]
   have M:=(K.trans (ad.cF ar)).trans (a4.trans (A.trans d4))
   obtain⟨t,r⟩:∃t:Fr,t={f1 with b:=s,fQ:=true,used:=true,l:=l}:=⟨_,rfl⟩
   obtain⟨F,W⟩:∃F,F=(((aQ.setCell ⟨C.aU,i*6+5,none⟩ s).setCell ⟨C.aU,i*6+1,none⟩ true).setCell ⟨C.aU,i*6+2,none⟩ true):=⟨_,rfl⟩
   rw[←W,←r] at d3
   rw[←W] at M⊢
   have a5:aY (fun q=>ag.heap.size≤q) F s l:=by
     have h1:=aY.ae hs a4 fun q m e=>by rw[←x] at e;omega
     have h2:=aY.ae h1 A fun q m e=>by rw[←x] at e;omega
     have a6:=aY.ae h2 d4 fun q m e=>by rw[←x] at e;omega
     rw[W];exact a6
   have a7:fl F {a with al:=a.al.set i t}:=x5 y.raw (by rw[x];exact M) (by rw[x];exact d3)
   have a8:gz X F {a with al:=a.al.set i t}:=by
     refine x3 (w:=w1) (V:=fun q=>q=C.aU) (ax:=a.D) hi (no:=no) y.inv M (fun q _ e=> .inr (.inl (by rw[x];exact e))) y.inv.rK (fun _=>rfl) (fun q=>Iff.rfl) t (by rw[r];exact L) (by rw[r];exact S) ⟨by rw[r];exact ap,by show no<a.D.n;rw[o.n];exact aB,?_,by rw[r];exact ah,fun hd=>(by rw[r] at hd;cases hd),fun hs=>absurd (by rw[←o.bI];exact hs) aD,aC⟩ aq
     rw[r]
     refine aY.aW a5 fun q _ m=>⟨fun hf=>?_,fun a9=>?_⟩
     · have:cY a q:=hf
       have:=y.raw.lt this;omega
     · have:=(y.inv.fg q a9).1;omega
   refine aS ⟨{a with al:=a.al.set i t},⟨a7,a8⟩,⟨o.c,o.d,by show(a.al.set i _).length=_;rw[dc];exact o.len,o.bh,o.aO,o.calm,cr o.ae M fun q m e=> .inr (.inl e),o.cZ⟩, .inl ⟨rfl,fun j=>?_⟩⟩
   have:=x4 (C:=a) (hd:=a.hand) (ax:=a.D) hi (no:=no) y.inv.un (fun _=>rfl) t (by rw[r];exact L) (by rw[r];exact ap) hold aq j
   rw[show({a with al:=a.al.set i t}:bZ)=bZ.mk a.c a.aU (a.al.set i t) a.hand a.D from rfl,this,aL]
   rw[r]
 rcases aI with ⟨i,hi,rfl,hf,Z⟩|⟨rfl,a_⟩
 · refine⟨_,rfl,cj (fun p w'=>p=some ⟨C.aU,i*6,none⟩∧w=w') (fun q m=>⟨fun h=>(by cases h),fun _=>m _ _ ⟨rfl,rfl⟩⟩) ?_⟩
   rintro _ _ ⟨rfl,rfl⟩
   have e:C.al.set i C.al[i]=C.al:=List.set_getElem_self _
   exact fin w C i hi C.al[i] h ((eB.refl C w).mono (cE _)) rfl (fun _=>rfl) (h.inv.pins _ (cA hi)) w (by rw[e];exact O.f) (.refl _ _) hf Z (fun _=>Z) fun k E ba h1 h2=>ba (h.inv.un k i E hi h1 hf (by rw[h2,Z]))
 · refine⟨_,rfl,cj (fun p ag=>∃ (w1:J) (a:bZ) (i:Nat) (hi:i<a.al.length) (f1:Fr),p=some ⟨C.aU,i*6,none⟩∧dW X w1 a∧eB C a w w1 1∧a.aU=C.aU∧(∀j,a.view j=C.view j)∧f1.pins=0∧bt ag a.aU (bH Fr.c (a.al.set i f1)).toArray 288∧ad (fun q=>q=a.aU) w1 ag∧f1.full=true∧f1.no=(no:Int)∧
     ((a.al[i]).full=true→(a.al[i]).no=(no:Int))∧(∀ (k:Nat) (E:k<a.al.length),k≠i→(a.al[k]).full=true→(a.al[k]).no≠(no:Int))) (fun q m=>⟨fun _=>(Bw h (by omega)).use ?_,fun h=>(by cases h)⟩) ?_⟩
   · rintro _ w1 ⟨a,ac,ay,N,aA,bb,bc⟩
     have bd:∀f∈a.al,f.full=true→f.no≠(no:Int):=fun f hf L be=>by
       obtain⟨g,hg,h1,h2⟩:=bb f hf L
       exact a_ g hg h1 (by rw[h2,be])
     rcases bc with ⟨i,hi,rfl,bf,S⟩|⟨rfl,bg⟩
     · obtain⟨a1,a2,a3,a4⟩:=nc ac.raw.f hi (j:=0) (by decide) (v:=true) {a.al[i] with full:=true} rfl
       have T:i<(a.al.set i {a.al[i] with full:=true}).length:=by rw[dc];exact hi
       have U:(a.al.set i {a.al[i] with full:=true})[i]={a.al[i] with full:=true}:=by simp
       obtain⟨b5,bM,z,A⟩:=nc a3 T (j:=3) (by decide) (v:=no) {a.al[i] with full:=true,no:=(no:Int)} (by rw[U];rfl)
       rw[set_set] at z
       rw[N] at a1 a2 b5 bM z a4 A
       refine⟨_,_,rfl,fun h=>(by simp at h),fun _=>⟨_,rfl,a1,a2,aS ⟨_,rfl,by rw[av];exact b5,by rw[av];exact bM,aS ?_⟩⟩⟩
       rw[av]
       exact m _ _ ⟨w1,a,i,hi,{a.al[i] with full:=true,no:=(no:Int)},rfl,ac,ay,N,aA,S,by rw[N];exact z,by rw[N];exact a4.trans A,rfl,rfl,fun h1=>(by rw[bf] at h1;cases h1),fun k E _ h1=>bd _ (cA E) h1⟩
     · exact⟨_,_,rfl,fun _=>⟨a,ac,ay, .inr ⟨rfl,bg,aA⟩⟩,fun h=>(by simp at h)⟩
   · rintro p ag ⟨w1,a,i,hi,f1,rfl,au,aw,bi,bj,bk,bl,bm,bn,bo,bp,bq⟩
     exact fin w1 a i hi f1 au aw bi bj bk ag bl bm bn bo bp bq
theorem BA(h:dW X w C)(no:Nat):aN aj 146 #[.pointer (some C.c),no] w (λv w'=>(∃b:ah,v=b)/\∃aD:bZ,dW X w' aD/\eB C aD w w' 0/\(∀j,j≠no->aD.view j=C.view j)/\aD.D=C.D/\∀f∈aD.al,f.full=true->f∈C.al/\f.no≠(no:Int)):=by
 have d:=h.raw;refine okF (I7.uw (some C.c) (no:Int)) I6.uw func146 ?_;(delta I7.uw kT ai r1;dsimp only);refine(vI d _).use ?_;rintro _ _ ⟨u,rfl⟩;rcases u with ⟨i,hi,rfl,hf,p⟩|⟨rfl,x⟩
 .have f4:=j3 d.f hi (j:=4) (by decide)
  have y:=h.inv.pins _ (cA hi);refine⟨_,rfl,cj (λb w'=>b=false/\w=w') (λq g=>⟨λh=>(by cases h),λ_=>⟨_,rfl,(C.al[i]).pins,by rw[av];exact f4,g _ _ ⟨by rw[y];rfl,rfl⟩⟩⟩) ?_⟩;rintro _ _ ⟨rfl,rfl⟩;obtain⟨s1,s2,l⟩:=x1 d.f hi dw;refine⟨λh=>(by cases h),λ_=>⟨_,rfl,s1,rfl,aS ⟨⟨true,rfl⟩,{C with al:=C.al.set i dw},⟨x5 d l s2,?_⟩,?_,λj z=>?_,rfl,λf A au=>?_⟩⟩⟩
  .exact x2 (V:=λq=>q=C.aU) (ax:=C.D) hi h.inv l (λq _ e=>.inr (.inl e)) h.inv.rK (λ_ _=>rfl) (λq h=>.inl h) dw rfl rfl
  .exact⟨rfl,rfl,by show(C.al.set i _).length=_;rw[dc],rfl,bn _,λ_ h=>h,l.mono λq _ e=>.inr (.inl e),λq h=>.inl h⟩
  .refine Bx (fs:=C.al) (D:=C.D) (c:=C.c) (aU:=C.aU) (hd:=C.hand) h.inv.un (λa b B E h1 h2 m=>?_) (λk n au aw=>?_) λF=>⟨λf hf au aw=>?_,rfl⟩
   .have G:a<C.al.length:=by simpa using B
    have H:b<C.al.length:=by simpa using E
    by_cases r:i=a
    .subst r
     simp[dw]at h1
    by_cases s:i=b
    .subst s
     simp[dw]at h2
    simp only[fA r]at h1 m;simp only[fA s]at h2 m;exact h.inv.un a b G H h1 h2 m
   .have o:i≠k:=λe=>by
     subst e;rw[p]at aw;exact z I
    exact⟨k,by rw[dc];exact n,by simp only[fA o];exact au,by simp only[fA o];exact aw,by simp only[fA o]⟩
   .rcases lU hf with hf|rfl
    .exact F f hf au aw
    .cases au
  .obtain⟨k,n,rfl⟩:=fb A
   have t:k<C.al.length:=by simpa using n
   by_cases e:i=k
   .subst e
    simp[dw]at au
   .simp only[fA e]at au⊢
    exact⟨cA t,λaw=>e (h.inv.un i k hi t hf au (p.trans aw.symm))⟩
 .refine⟨_,rfl,cj (λb w'=>b=true/\w=w') (λq g=>⟨λ_=>g _ _ ⟨rfl,rfl⟩,λh=>(by cases h)⟩) ?_⟩
  rintro _ _ ⟨rfl,rfl⟩;exact⟨λ_=>⟨⟨false,rfl⟩,C,h,eB.refl C w,λ_ _=>rfl,rfl,λf hf au=>⟨hf,x f hf au⟩⟩,λh=>(by cases h)⟩
end
theorem F1(n:Nat):g7 aj 288 n=(bH Fr.c (List.replicate n dw)).toArray:=by
 have a:((Tryz.prog.info? 288).bind (·.zero)).map (·.cells)=some dw.c.toArray:=by kernel_rfl
 have hc:Tryz.prog.cellsOf 288=6:=by kernel_rfl
 unfold g7;rw[hc]
 cases hi:(Tryz.prog.info? 288).bind (·.zero) with
 |none=>rw[hi]at a;cases a
 |some z=>
  rw[hi]at a;simp only[ld,Option.some.injEq]at a;simp only[qw,a];apply Array.ext
  .simp[gK (c:=Fr.c) (sz:=6) (List.replicate n dw) (λx _=>rfl)]
  .intro i h1 h2
   have d:n*6≠0:=by
    intro h;simp[h]at h1
   have g:i<n*6:=by simpa using h1
   simp only[d,if_false,Array.getElem_map,Array.getElem_range,List.getElem_toArray];have b:dw.c.toArray.size=6:=rfl;have aJ:i%6<6:=g6 _ I;have e:i/6<(List.replicate n dw).length:=by rw[mJ];omega
   have hg:=rI (c:=Fr.c) (sz:=6) (l:=List.replicate n dw) (λx _=>rfl) (i:=i/6) (j:=i%6) e aJ;rw[show i/6*6+i%6=i from I]at hg;have f:i<(bH Fr.c (List.replicate n dw)).length:=by simpa using h2
   rw[du f]at hg;have he:((List.replicate n dw)[i/6]).c=dw.c:=by simp
   rw[he,du (show i%6<dw.c.length from aJ)]at hg;have hg:=Option.some.inj hg;rw[hg,b,getElem!_pos dw.c.toArray (i%6) (by rw[b];exact aJ)];simp
def iI(c aU k:Nat)(D:a_):bZ:=⟨c,aU,List.replicate k dw,0,D⟩
theorem x6(c aU k:Nat)(D:a_)(j:Nat):(iI c aU k D).view j=D.now j:=by
 refine mi λf hf h1=>?_;rw[so hf]at h1
 cases h1
theorem pB{w:J}{D:a_}(h:cB w D){k:Nat}(h1:8<=k)(h2:k<=64)(m:∀j,D.bI j=true->D.dv j=D.eo j):aN aj 139 #[.pointer (some D.d),k] w (λv w'=>∃c aU:Nat,v=.tuple #[.pointer (some c),(0:Int)]/\dW (λ_=>False) w' (iI c aU k D)/\Ext w w'/\w.heap.size<=c/\w.heap.size<=aU):=by
 refine okF (I7.pB (some D.d) (k:Int)) I6.pB func139 ?_;delta I7.pB ai km U;refine⟨λh=>?_,λ_=>⟨⟨I,I,I,I⟩,?_⟩⟩
 .simp only[Option.isNone_some,kG,jc,cQ]at h;omega
 rw[F1,c8];have g:=bt.new w (bH Fr.c (List.replicate k dw)).toArray 288;have a:=eA w (.cells (bH Fr.c (List.replicate k dw)).toArray 288);have n:=rG w (.cells (bH Fr.c (List.replicate k dw)).toArray 288);obtain⟨w1,o⟩:∃w1,w1=w.alloc (.cells (bH Fr.c (List.replicate k dw)).toArray 288):=⟨_,rfl⟩;rw[←o]at g a n⊢;refine aS (bd (vs:=[.pointer (some D.d),.slice (some w.heap.size) k k,(0:Int)]) rfl λag p b s=>⟨w1.heap.size,w.heap.size,rfl,⟨⟨?_,bt.ext g b,h.ext (a.trans b),?_,?_,?_,?_,?_,?_⟩,⟨λf hf=>?_,λf hf l=>?_,λi j hi t h1=>?_,λq r=>r.elim,m⟩⟩,a.trans b,I,bn _⟩)
 .show Var _ _ [_,.slice _ (List.replicate k dw).length (List.replicate k dw).length,_] _
  rw[mJ];exact p
 .show 8<=(List.replicate k dw).length;simpa using h1
 .show(List.replicate k dw).length<=64;simpa using h2
 .show 0<(List.replicate k dw).length;simp;omega
 .show w1.heap.size≠w.heap.size;omega
 .intro e
  have:=h.lt e;have:w1.heap.size<w.heap.size:=this;omega
 .intro e
  have:=h.lt e;have:w.heap.size<w.heap.size:=this;omega
 .rw[so hf];rfl
 .rw[so hf]at l;cases l
 .simp[iI,dw]at h1
def k4(a b5 bM b c d e f:ah):Nat:=
 a.toNat+2*b5.toNat+4*bM.toNat+8*b.toNat+16*c.toNat+32*d.toNat+64*e.toNat+128*f.toNat
def byteOf(f:Nat->ah)(i:Nat):Nat:=k4 (f (8*i)) (f (8*i+1)) (f (8*i+2)) (f (8*i+3)) (f (8*i+4)) (f (8*i+5)) (f (8*i+6)) (f (8*i+7))
theorem F2:∀a b5 bM b c d e f:ah,k4 a b5 bM b c d e f<256:=by decide+kernel
theorem F3:∀a b5 bM b c d e f:ah,
 (k4 a b5 bM b c d e f).testBit 0=a/\(k4 a b5 bM b c d e f).testBit 1=b5/\(k4 a b5 bM b c d e f).testBit 2=bM/\(k4 a b5 bM b c d e f).testBit 3=b/\
 (k4 a b5 bM b c d e f).testBit 4=c/\(k4 a b5 bM b c d e f).testBit 5=d/\(k4 a b5 bM b c d e f).testBit 6=e/\(k4 a b5 bM b c d e f).testBit 7=f:=by decide+kernel
theorem j4(f:Nat->ah)(i:Nat):byteOf f i<256:=F2 _ _ _ _ _ _ _ _
theorem nf(f:Nat->ah)(i j:Nat)(a:j<8):(byteOf f i).testBit j=f (8*i+j):=by
 obtain⟨h0,h1,h2,b,c,d,e,g⟩:=F3 (f (8*i)) (f (8*i+1)) (f (8*i+2)) (f (8*i+3)) (f (8*i+4)) (f (8*i+5)) (f (8*i+6)) (f (8*i+7));have:j=0\/j=1\/j=2\/j=3\/j=4\/j=5\/j=6\/j=7:=by omega
 unfold byteOf;rcases this with rfl|rfl|rfl|rfl|rfl|rfl|rfl|rfl<;>assumption
theorem F4{x y:Nat}(hx:x<256)(b:y<256)(h:∀j,j<8->x.testBit j=y.testBit j):x=y:=by
 apply Nat.eq_of_testBit_eq;intro j;by_cases a:j<8
 .exact h j a
 .have p:256<=2^j:=by
   have:=sm (n:=2) I (by omega:8<=j);simpa using this
  rw[Nat.testBit_lt_two_pow I,Nat.testBit_lt_two_pow I]
theorem vJ(f:Nat->ah)(i x:Nat)(hx:x<256)(h:∀j,j<8->x.testBit j=f (8*i+j)):x=byteOf f i:=
 F4 hx (j4 f i) λj a=>by rw[h j a,nf f i j a]
def df(f:Nat->ah)(k:Nat)(b:ah):Nat->ah:=λi=>if i=k then b else f i
theorem F5:∀x:Nat,x<256->∀j:Nat,j<8->(jU .u8 (Int.fdiv (x:Int) (2^(min (Int.toNat (j:Int)) 8))) 1==1)=x.testBit j:=by decide+kernel
theorem F6:∀x:Nat,x<256->∀j:Nat,j<8->mM .u8 (x:Int) (IntKind.wrap .u8 (1*2^(min (Int.toNat (j:Int)) 8)))=((x|||2^j:Nat):Int):=by decide+kernel
theorem F7:∀x:Nat,x<256->∀j:Nat,j<8->zl .u8 (x:Int) (IntKind.wrap .u8 (1*2^(min (Int.toNat (j:Int)) 8)))=((x&&&(255-2^j):Nat):Int):=by decide+kernel
theorem x7:∀x:Nat,x<256->∀y:Nat,y<256->x|||y<256:=λ_ hx _ a=>Nat.or_lt_two_pow (n:=8) hx a
theorem F8:∀j:Nat,j<8->∀k:Nat,k<8->(255-2^j).testBit k=(k !=j):=by decide+kernel
theorem F9(x y:Nat)(hx:x<256)(a:y<256):mM .u8 (x:Int) (y:Int)=((x|||y:Nat):Int):=by
 have h:=x7 x hx y a;have e:(BitVec.ofInt 8 (x:Int)|||BitVec.ofInt 8 (y:Int)).toNat=x|||y:=by
  simp only[BitVec.ofInt_natCast,BitVec.toNat_or,BitVec.toNat_ofNat];rw[jv (by simpa using hx),jv (by simpa using a)]
 show IntKind.wrap .u8 (((BitVec.ofInt 8 (x:Int)|||BitVec.ofInt 8 (y:Int)).toNat:Nat):Int)=_;rw[e];have:((x|||y:Nat):Int)%256=((x|||y:Nat):Int):=Int.emod_eq_of_lt I I;simp[IntKind.wrap,IntKind.signed,IntKind.bits,this]
theorem BB(k:Nat):8*(k/8)+k%8=k:=Nat.div_add_mod k 8
theorem F_(f:Nat->ah)(k:Nat):byteOf f (k/8)|||2^(k%8)=byteOf (df f k true) (k/8):=by
 refine vJ _ _ _ (x7 _ (j4 _ _) _ ?_) λj b=>?_
 .have:k%8<8:=g6 _ I
  have:=Nat.pow_lt_pow_right (a:=2) I this;simpa using this
 .rw[mB,nf _ _ _ b,qu,df]
  by_cases h:8*(k/8)+j=k
  .rw[if_pos h]
   have:k%8=j:=by omega
   simp[this]
  .rw[if_neg h]
   have:¬k%8=j:=by omega
   simp[this]
theorem Ga(f:Nat->ah)(k:Nat):byteOf f (k/8)&&&(255-2^(k%8))=byteOf (df f k false) (k/8):=by
 refine vJ _ _ _ (Nat.lt_of_le_of_lt Nat.and_le_left (j4 _ _)) λj a=>?_;rw[Nat.testBit_and,nf _ _ _ a,F8 _ (g6 _ I) _ a,df];by_cases h:8*(k/8)+j=k
 .rw[if_pos h]
  have:j=k%8:=by omega
  simp[this]
 .rw[if_neg h]
  have:¬j=k%8:=by omega
  simp[this]
theorem Gb(f:Nat->ah)(k i:Nat)(b:ah)(h:i≠k/8):byteOf (df f k b) i=byteOf f i:=by
 have e:∀j,j<8->df f k b (8*i+j)=f (8*i+j):=λj a=>by
  unfold df;rw[if_neg];omega
 unfold byteOf;rw[e 1 I,e 2 I,e 3 I,e 4 I,e 5 I,e 6 I,e 7 I];have:=e 0 I;simp only[kF]at this;rw[this]
def eT(f:Nat->ah)(m:Nat):O aa:=(List.range m).map λi=>.int .u8 (byteOf f i)
theorem x8(f:Nat->ah)(m:Nat):(eT f m).length=m:=by simp[eT]
theorem oA(f:Nat->ah){m i:Nat}(h:i<m):(eT f m)[i]? =some (.int .u8 (byteOf f i)):=by simp[eT,h]
theorem BC(f:Nat->ah)(k m:Nat)(b:ah):(eT f m).set (k/8) (.int .u8 (byteOf (df f k b) (k/8)))=eT (df f k b) m:=by
 apply List.ext_getElem?;intro i;rw[List.getElem?_set];by_cases hi:i<m
 .rw[oA (df f k b) hi]
  by_cases h:k/8=i
  .subst h
   simp[x8,hi]
  .rw[if_neg h,oA _ hi,Gb f k i b I]
 .have h1:(eT (df f k b) m)[i]? =none:=by simp[eT];omega
  have h2:(eT f m)[i]? =none:=by simp[eT];omega
  rw[h1,h2];split
  .simp[x8];omega
  .rfl
theorem BD(k:Nat):Int.tdiv (k:Int) 8=((k/8:Nat):Int):=by
 rw[Int.tdiv_eq_ediv_of_nonneg I];omega
theorem rQ(k:Nat):Int.tmod (k:Int) 8=((k%8:Nat):Int):=by
 rw[qF I];omega
theorem x9{k:Nat}(h:k<=9223372036854775807):IntKind.wrap .i64 (Int.tdiv (k:Int) 8)=((k/8:Nat):Int):=by
 rw[BD,bu I I]
theorem BE{s:Y}{b:Nat}(h:s.a=some ⟨b,0,none⟩):az s b:=⟨_,h,rfl⟩
theorem oB{w:J}{s:Y}{f:Nat->ah}{m k:Nat}(h:a8 1 5 w s (eT f m))(a:k/8<m)(d:k<=9223372036854775807):
 aN aj 214 #[s,k] w (λv w'=>v=.bool (f k)/\w=w'):=by
 refine okF (I7.uL s k) I6.uL func214 ?_;(delta I7.uL aK ar bY;dsimp only);obtain⟨b,c,e,g,i,hi,j,hc,_⟩:=h.cell (oA f a);refine⟨by decide,_,e,?_⟩;rw[x9 d,rQ];refine⟨⟨I,I⟩,(byteOf f (k/8):Int),?_,by decide,I,?_,rfl⟩
 .rw[fF,c8,av,cx];exact hc
 .rw[F5 _ (j4 _ _) _ (g6 _ I),nf _ _ _ (g6 _ I),BB]
theorem BF{w:J}{s:Y}{f:Nat->ah}{m k:Nat}(h:a8 1 5 w s (eT f m))(e:k/8<m)(g:k<=9223372036854775807):
 aN aj 130 #[s,k] w (λv w'=>v=.tuple #[]/\a8 1 5 w' s (eT (df f k true) m)/\ad (az s) w w'):=by
 refine okF (I7.uk s k) I6.uk func130 ?_;(delta I7.uk ak aK ar bY st;dsimp only);obtain⟨b,c,d,i,l,hi,n,hc,_⟩:=h.cell (oA f e);have a:(Addr.mk b 0 none).add (Int.toNat ((k/8:Nat):Int)*1)=⟨b,k/8,none⟩:=by rw[fF,c8,av,cx]
 rw[x9 g,rQ];refine⟨by decide,_,d,⟨I,I⟩,by simp,(byteOf f (k/8):Int),by rw[a];exact hc,by decide,I,_,d,⟨I,I⟩,⟨_,by rw[a];exact hc⟩,by rw[a];exact i.drew.frozen _ rfl,rfl,?_,?_⟩
 .rw[a,F6 _ (j4 _ _) _ (g6 _ I),F_,←BC]
  have j:a8 1 5 w.drew s (eT f m):=h.ae (W:=λ_=>False) (ad.drew (.refl _ _)) (λ_ _ h=>h);exact j.set d _
 .rw[a]
  exact ad.set (ad.drew (.refl _ _)) (λ_=>BE d) _
theorem Gc{w:J}{s:Y}{f:Nat->ah}{m k:Nat}(h:a8 1 5 w s (eT f m))(e:k/8<m)(g:k<=9223372036854775807):
 aN aj 219 #[s,k] w (λv w'=>v=.tuple #[]/\a8 1 5 w' s (eT (df f k false) m)/\ad (az s) w w'):=by
 refine okF (I7.uM s k) I6.uM func219 ?_;(delta I7.uM ak aK ar bY st;dsimp only);obtain⟨b,c,d,i,l,hi,n,hc,_⟩:=h.cell (oA f e);have a:(Addr.mk b 0 none).add (Int.toNat ((k/8:Nat):Int)*1)=⟨b,k/8,none⟩:=by rw[fF,c8,av,cx]
 rw[x9 g,rQ];refine⟨by decide,_,d,⟨I,I⟩,by simp,(byteOf f (k/8):Int),by rw[a];exact hc,by decide,I,_,d,⟨I,I⟩,⟨_,by rw[a];exact hc⟩,by rw[a];exact i.drew.frozen _ rfl,rfl,?_,?_⟩
 .rw[a,F7 _ (j4 _ _) _ (g6 _ I),Ga,←BC]
  have j:a8 1 5 w.drew s (eT f m):=h.ae (W:=λ_=>False) (ad.drew (.refl _ _)) (λ_ _ h=>h);exact j.set d _
 .rw[a]
  exact ad.set (ad.drew (.refl _ _)) (λ_=>BE d) _
structure eP(w:J)(b n:Nat)(f g:Nat->ah)(s1 s2:Y):Prop where
 bN:bt w b #[n,s1,s2] 218
 now:a8 1 5 w s1 (eT f ((n+7)/8))
 sure:a8 1 5 w s2 (eT g ((n+7)/8))
 d1:∀k,az s1 k->k≠b/\¬az s2 k
 d2:∀k,az s2 k->k≠b
 bR:1<=n
 bq:n<=1600
 pf:∀i,n<=i->f i=false
 dS:∀i,n<=i->g i=false
def fm(b:Nat)(s1 s2:Y)(k:Nat):Prop:=k=b\/az s1 k\/az s2 k
section
variable {w w':J}{b n:Nat}{f g:Nat->ah}{s1 s2:Y}
theorem eP.ae{W:Nat->Prop}(h:eP w b n f g s1 s2)(hc:ad W w w')(a:∀k,fm b s1 s2 k->¬W k):eP w' b n f g s1 s2:=
 ⟨h.bN.ae hc (a b (.inl rfl)),h.now.ae hc λk c=>a k (.inr (.inl c)),h.sure.ae hc λk c=>a k (.inr (.inr c)),h.d1,h.d2,h.bR,h.bq,h.pf,h.dS⟩
theorem eP.ext(h:eP w b n f g s1 s2)(hc:Ext w w'):eP w' b n f g s1 s2:=h.ae hc λ_ _ h=>h
theorem eP.lt(h:eP w b n f g s1 s2):∀k,fm b s1 s2 k->k<w.heap.size:=by
 rintro k (rfl|a|a)
 .exact h.bN.lt
 .exact h.now.lt k a
 .exact h.sure.lt k a
theorem eP.bS(h:eP w b n f g s1 s2):w.cell? b=some (.int .i64 n):=by rw[h.bN.cell];rfl
theorem eP.ay(h:eP w b n f g s1 s2):w.cell? ((Addr.mk b 0 none).add 1)=some (.slice s1.a s1.len s1.cap):=by rw[av,h.bN.cell];rfl
theorem eP.aR(h:eP w b n f g s1 s2):w.cell? ((Addr.mk b 0 none).add 2)=some (.slice s2.a s2.len s2.cap):=by rw[av,h.bN.cell];rfl
theorem Gd(h:eP w b n f g s1 s2){k:Nat}(a:k<n):
 aN aj 217 #[.pointer (some b),k] w (λv w'=>v=.bool (f k||g k)/\w=w'):=by
 have c:=h.bq;refine I7.Ez _ k w _ ?_;(delta I7.ry af aF ai;dsimp only);refine⟨_,rfl,s1,h.ay,(oB h.now (k:=k) I I).use ?_⟩;rintro _ _ ⟨rfl,rfl⟩;refine⟨_,rfl,⟨λhf=>⟨by rw[hf];rfl,rfl⟩,λhf=>⟨_,rfl,s2,h.aR,(oB h.sure (k:=k) I I).use ?_⟩⟩⟩;rintro _ _ ⟨rfl,rfl⟩;exact⟨_,rfl,by rw[hf];rfl,rfl⟩
theorem x_(h:eP w b n f g s1 s2)(k:Int):
 aN aj 218 #[.pointer (some b),k] w (λv w'=>v=.bool (decide (0<=k)&&decide (k<n))/\w=w'):=by
 refine I7.EA _ k w _ ?_;(delta I7.rz ai r1;dsimp only);refine⟨?_⟩;refine⟨λh1=>⟨_,rfl,n,h.bS,?_,rfl⟩,λh1=>⟨?_,rfl⟩⟩
 .have:0<=k:=by simpa using h1
  simp[this]
 .have:¬0<=k:=by simpa using h1
  simp[this]
def firstFree(t:Nat->ah)(n:Nat):ao Nat:=(List.range n).find? λi=> !t i
theorem Ge{t:Nat->ah}{n k:Nat}(e:k<n)(ht:t k=false)(c:∀i,i<k->t i=true):firstFree t n=some k:=by
 unfold firstFree;rw[List.find?_eq_some_iff_append];refine⟨by simp[ht],List.range k,(List.range' (k+1) (n-(k+1))),?_,λa d=>?_⟩
 .have b:=List.range'_append (s:=0) (m:=k) (n:=n-(k+1)+1) (step:=1)
  rw[sh,sh,←List.range'_succ];rw[Nat.one_mul,cx]at b;rw[b]
  congr 1
  omega
 .simp[c a (jq.1 d)]
theorem Gf{t:Nat->ah}{n:Nat}(b:∀i,i<n->t i=true):firstFree t n=none:=by
 unfold firstFree;rw[iO];intro a c;simp[b a (jq.1 c)]
theorem BG{t:Nat->ah}{n k:Nat}(h:firstFree t n=some k):k<n/\t k=false/\∀i,i<k->t i=true:=by
 unfold firstFree at h;obtain⟨h1,a,lb,h2,d⟩:=List.find?_eq_some_iff_append.1 h;have e:k<n:=jq.1 (by rw[h2];simp);refine⟨e,by simpa using h1,λi hi=>?_⟩;have hlen:a.length=k:=by
  have b:(List.range n)[a.length]? =some k:=by rw[h2];simp
  rw[List.getElem?_range (by
   have:=congrArg List.length h2;simp at this;omega)]at b
  simpa using b
 have c:(List.range n)[i]? =some i:=List.getElem?_range I;rw[h2,List.getElem?_append_left I]at c;have:=d i (List.mem_of_getElem? c);simpa using this
theorem Gg{t:Nat->ah}{n:Nat}(h:firstFree t n=none):∀i,i<n->t i=true:=by
 unfold firstFree at h;rw[iO]at h;intro i hi;have:=h i (jq.2 hi);simpa using this
def Gh(o:ao Nat):aa:=
 match o with
 |some k=>.tuple #[.int .i64 (k:Int),(0:Int)]
 |none=>.tuple #[.int .i64 (-1),(2:Int)]
def Gi(o:ao Nat)(f:Nat->ah):Nat->ah:=
 match o with
 |some k=>df f k true
 |none=>f
theorem BH{f:Nat->ah}{n k:Nat}{x:ah}(h:∀i,n<=i->f i=false)(a:k<n):∀i,n<=i->df f k x i=false:=λi hi=>by
 unfold df
 rw[if_neg I]
 exact h i hi
theorem BI(h:eP w b n f g s1 s2):
 aN aj 160 #[.pointer (some b)] w (λv w'=>v=Gh (firstFree (λi=>f i||g i) n)/\eP w' b n (Gi (firstFree (λi=>f i||g i) n) f) g s1 s2/\ad (fm b s1 s2) w w'):=by
 have r:=h.bq;refine I7.Er _ w _ ?_;(delta I7.rn ai r1 aF af aR ar;dsimp only);refine⟨λh1=>by simp at h1,λ_=>⟨_,rfl,n,h.bS,λi w'=>∃k:Nat,i=k/\k<=n/\w=w'/\∀j,j<k->(f j||g j)=true,λi _=>(n-i).toNat,⟨0,rfl,I,rfl,λj l=>I⟩,?_⟩⟩;rintro _ _ ⟨k,rfl,a,rfl,d⟩;refine⟨λaJ=>(Gd h (k:=k) (by simpa using aJ)).use ?_,λm=>?_⟩
 .have c:k<n:=by simpa using aJ
  rintro _ _ ⟨rfl,rfl⟩;refine⟨_,rfl,λht=>⟨_,rfl,s1,h.ay,(BF h.now (k:=k) I I).use ?_⟩,λht=>?_⟩
  .rintro _ w' ⟨rfl,o,hc⟩
   have e:(f k||g k)=false:=by simpa using ht
   have p:=Ge (t:=λi=>f i||g i) c e d;rw[p];refine⟨rfl,rfl,⟨h.bN.ae hc λq=>(h.d1 b q).1 rfl,o,h.sure.ae hc λk a h1=>(h.d1 k h1).2 a,h.d1,h.d2,h.bR,h.bq,BH h.pf c,h.dS⟩,hc.mono λk _ a=>.inr (.inl a)⟩
  .have e:(f k||g k)=true:=by cases hx:(f k||g k)<;>simp[hx]at ht⊢
   rw[bu I I];refine⟨⟨k+1,I,I,rfl,λj l=>?_⟩,(show((n:Int)-((k:Int)+1)).toNat<((n:Int)-(k:Int)).toNat from I)⟩;rcases dC j k with h1|h1
   .exact d j h1
   .have:j=k:=by omega
    subst this;exact e
 .have c:k=n:=by
   have:¬(k:Int)<n:=by simpa using m
   omega
  subst c;rw[Gf d];exact⟨rfl,h,.refl _ _⟩
def vK(f:Nat->ah)(n:Nat)(k:Int):Int:=if 0<=k/\k<n then (if f k.toNat then 0 else 6) else 1
def ng(f:Nat->ah)(n:Nat)(k:Int):Nat->ah:=if 0<=k/\k<n then df f k.toNat false else f
theorem Gj{f:Nat->ah}{k:Nat}{x:ah}(h:f k=x):df f k x=f:=by
 funext i;unfold df;split
 .rename_i hi;rw[hi,h]
 .rfl
theorem BJ(h:eP w b n f g s1 s2)(k:Int):
 aN aj 161 #[.pointer (some b),k] w (λv w'=>v=.int .i64 (vK f n k)/\eP w' b n (ng f n k) g s1 s2/\ad (fm b s1 s2) w w'):=by
 have l:=h.bq;refine I7.Es _ k w _ ?_;(delta I7.rp aF ai af aR;dsimp only);refine(x_ h k).use ?_;rintro _ _ ⟨rfl,rfl⟩;refine⟨_,rfl,λh1=>?_,λh1=>?_⟩
 .have:¬(0<=k/\k<n):=by
   rintro⟨h2,d⟩;simp[h2,d]at h1
  exact⟨by rw[vK,if_neg this],by rw[ng,if_neg this];exact h,.refl _ _⟩
 .have a:0<=k/\k<n:=by simpa using h1
  obtain⟨m,rfl⟩:=qG a.1;have e:m<n:=by omega
  refine⟨_,rfl,s1,h.ay,(oB h.now (k:=m) I I).use ?_⟩;rintro _ _ ⟨rfl,rfl⟩;refine⟨_,rfl,λh2=>?_,λh2=>⟨_,rfl,s1,h.ay,(Gc h.now (k:=m) I I).use ?_⟩⟩
  .have hf:f m=false:=by simpa using h2
   refine⟨by rw[vK,if_pos a,c8,hf];rfl,?_,.refl _ _⟩;rw[ng,if_pos a,c8,Gj hf];exact h
  .rintro _ w' ⟨rfl,i,hc⟩
   have hf:f m=true:=by simpa using h2
   refine⟨rfl,by rw[vK,if_pos a,c8,hf];rfl,?_,hc.mono λk _ c=>.inr (.inl c)⟩;rw[ng,if_pos a,c8];exact⟨h.bN.ae hc λj=>(h.d1 b j).1 rfl,i,h.sure.ae hc λk c h1=>(h.d1 k h1).2 c,h.d1,h.d2,h.bR,h.bq,BH h.pf e,h.dS⟩
theorem Gk(h:eP w b n f g s1 s2)(k:Int):
 aN aj 183 #[.pointer (some b),k] w (λv w'=>v=.bool (decide (0<=k)&&decide (k<n)&&f k.toNat)/\w=w'):=by
 have c:=h.bq;refine I7.Ev _ k w _ ?_;(delta I7.ru aF ai af;dsimp only);refine(x_ h k).use ?_;rintro _ _ ⟨rfl,rfl⟩;refine⟨_,rfl,⟨λh1=>?_,λh1=>⟨by rw[h1];rfl,rfl⟩⟩⟩;have a:0<=k/\k<n:=by simpa using h1
 obtain⟨m,rfl⟩:=qG a.1;refine⟨_,rfl,s1,h.ay,(oB h.now (k:=m) I I).use ?_⟩;rintro _ _ ⟨rfl,rfl⟩;exact⟨_,rfl,by rw[h1,c8];rfl,rfl⟩
theorem Gl(h:eP w b n f g s1 s2)(k:Int):
 aN aj 246 #[.pointer (some b),k] w (λv w'=>v=.bool (decide (0<=k)&&decide (k<n)&&f k.toNat&& !(g k.toNat))/\w=w'):=by
 have c:=h.bq;refine I7.EE _ k w _ ?_;(delta I7.rB aF ai af;dsimp only);refine(x_ h k).use ?_;rintro _ _ ⟨rfl,rfl⟩;refine⟨_,rfl,⟨λh1=>?_,λh1=>⟨(λh=>by cases h),λ_=>⟨by rw[h1];rfl,rfl⟩⟩⟩⟩;have a:0<=k/\k<n:=by simpa using h1
 obtain⟨m,rfl⟩:=qG a.1;refine⟨_,rfl,s1,h.ay,(oB h.now (k:=m) I I).use ?_⟩;rintro _ _ ⟨rfl,rfl⟩;refine⟨_,rfl,λh2=>⟨_,rfl,s2,h.aR,(oB h.sure (k:=m) I I).use ?_⟩,λh2=>⟨by rw[h1,c8,h2];rfl,rfl⟩⟩;rintro _ _ ⟨rfl,rfl⟩;exact⟨_,rfl,by rw[h1,c8,h2];rfl,rfl⟩
end
theorem Gm:hG aj 215 5 1 1:=⟨by kernel_rfl⟩
theorem Gn:hG aj 48 5 1 1:=⟨by kernel_rfl⟩
theorem Gp:hG aj 58 3 1 8:=⟨by kernel_rfl⟩
theorem Gq(n:Nat):g7 aj 5 n=(List.replicate n (.int .u8 0)).toArray:=z8 (by kernel_rfl) (by kernel_rfl) n
theorem ya(f:Nat->ah)(m:Nat):∀v∈eT f m,Plain v:=by
 intro v a;obtain⟨i,_,rfl⟩:=ep.1 a;trivial
theorem BK{w:J}{s:Y}{xs:O aa}(h:Src 1 w s xs)(d:∀v∈xs,Plain v)(i:s.len<=1000000):
 aN aj 194 #[s] w (λv w'=>∃b:Y,v=b/\a8 1 5 w' b xs/\Ext w w'/\∀k,az b k->w.heap.size<=k):=by
 refine okF (I7.tx s) I6.tx func194 ?_;delta I7.tx ak ai U;refine⟨λc=>?_,λ_=>?_⟩
 .have c:s.a=none:=by simpa using c
  rw[h.nil c];exact⟨⟨none,0,0⟩,rfl,a8.none _ _ _,.refl _ _,λk e=>(gf k e).elim⟩
 .obtain⟨b,w',h1,h2,j,f,g,_⟩:=Gm.clone (cG:=215) h d I
  exact⟨b,w',h1,b,rfl,h2,f,g⟩
theorem BL{w:J}{s:Y}{xs:O aa}(h:Src 1 w s xs)(d:∀v∈xs,Plain v)(i:s.len<=1000000):
 aN aj 135 #[s] w (λv w'=>∃b:Y,v=b/\a8 1 5 w' b xs/\Ext w w'/\∀k,az b k->w.heap.size<=k):=by
 refine okF (I7.nP s) I6.nP func135 ?_;delta I7.nP ak ai U;refine⟨λc=>?_,λ_=>?_⟩
 .have c:s.a=none:=by simpa using c
  rw[h.nil c];exact⟨⟨none,0,0⟩,rfl,a8.none _ _ _,.refl _ _,λk e=>(gf k e).elim⟩
 .obtain⟨b,w',h1,h2,j,f,g,_⟩:=Gn.clone (cG:=48) h d I
  exact⟨b,w',h1,b,rfl,h2,f,g⟩
section
variable {w w':J}{b n:Nat}{f g:Nat->ah}{s1 s2:Y}
theorem rR{T:TypeId}{m:Nat}(h:a8 1 T w s1 (eT f m)):s1.len=m:=by
 have:=h.1;rw[x8]at this;omega
theorem yb{m:Nat}{u:aa}(c:bt w b #[n,s1,u] 218)(h1:a8 1 5 w s1 (eT f m))(hd:∀k,az s1 k->k≠b)(g:m<=1000000):
 aN aj 131 #[.pointer (some b)] w (λv w'=>v=.tuple #[]/\∃a:Y,bt w' b #[n,s1,a] 218/\
  a8 1 5 w' s1 (eT f m)/\a8 1 5 w' a (eT f m)/\ad (λk=>k=b) w w'/\∀k,az a k->w.heap.size<=k):=by
 refine I7.Ek _ w _ ?_;(delta I7.ri ak ai af aZ st;dsimp only);refine⟨λ_=>⟨_,rfl,s1,by rw[av,c.cell];rfl,(BK h1.src (ya f m) (by rw[rR h1];exact g)).use ?_⟩,λh=>by simp at h⟩;rintro _ ag ⟨a,rfl,h2,hx,hf⟩;have d:=c.ext hx;have i:∀k,az a k->k≠b:=λk j e=>by have:=hf k j;have:=c.lt;omega
 refine⟨a,rfl,_,rfl,⟨_,by rw[av,d.cell];rfl⟩,d.frozen _ rfl,rfl,a,?_,?_,?_,?_,hf⟩
 .rw[av];exact d.set 2 _
 .exact(h1.ext hx).ae (W:=λk=>k=b) (ad.set (.refl _ _) (λ_=>by rw[av]) _) hd
 .exact h2.ae (W:=λk=>k=b) (ad.set (.refl _ _) (λ_=>by rw[av]) _) i
 .exact(ad.cF hx).set (λ_=>by rw[av]) _
theorem Gr(h:eP w b n f g s1 s2):
 aN aj 131 #[.pointer (some b)] w (λv w'=>v=.tuple #[]/\∃c:Y,eP w' b n f f s1 c/\ad (fm b s1 s2) w w'/\∀k,fm b s1 c k->fm b s1 s2 k\/w.heap.size<=k):=by
 have m:=h.bq;refine(yb h.bN h.now (λk a=>(h.d1 k a).1) I).mono ?_;rintro _ w' ⟨rfl,c,h1,h2,i,j,d⟩;refine⟨rfl,c,⟨h1,h2,i,λk a=>⟨(h.d1 k a).1,λl=>?_⟩,λk a e=>?_,h.bR,h.bq,h.pf,h.pf⟩,j.mono λk _ a=>.inl a,λk a=>?_⟩
 .have:=d k l;have:=h.now.lt k a;omega
 .have:=d k a;have:=h.bN.lt;omega
 .rcases a with rfl|a|a
  .exact .inl (.inl rfl)
  .exact .inl (.inr (.inl a))
  .exact .inr (d k a)
theorem Gs(h:eP w b n f g s1 s2):
 aN aj 144 #[.pointer (some b)] w (λv w'=>v=.tuple #[]/\∃c:Y,eP w' b n g g c s2/\ad (fm b s1 s2) w w'/\∀k,fm b c s2 k->fm b s1 s2 k\/w.heap.size<=k):=by
 have l:=h.bq;refine I7.El _ w _ ?_;(delta I7.rj ak ai af aZ st;dsimp only);refine⟨λ_=>⟨_,rfl,s2,h.aR,(BK h.sure.src (ya g _) (by rw[rR h.sure];omega)).use ?_⟩,λh=>by simp at h⟩;rintro _ ag ⟨c,rfl,h2,hx,hf⟩;have d:=h.bN.ext hx;have i:∀k,az c k->k≠b:=λk a e=>by have:=hf k a;have:=h.bN.lt;omega
 refine⟨c,rfl,_,rfl,⟨_,by rw[av,d.cell];rfl⟩,d.frozen _ rfl,rfl,c,⟨?_,?_,?_,λk a=>⟨i k a,λj=>?_⟩,h.d2,h.bR,h.bq,h.dS,h.dS⟩,?_,λk a=>?_⟩
 .rw[av];exact d.set 1 _
 .exact h2.ae (W:=λk=>k=b) (ad.set (.refl _ _) (λ_=>by rw[av]) _) i
 .exact(h.sure.ext hx).ae (W:=λk=>k=b) (ad.set (.refl _ _) (λ_=>by rw[av]) _) h.d2
 .have:=hf k a;have:=h.sure.lt k j;omega
 .exact(ad.cF hx).set (λ_=>by rw[av];exact .inl rfl) _
 .rcases a with rfl|a|a
  .exact .inl (.inl rfl)
  .exact .inr (hf k a)
  .exact .inl (.inr (.inr a))
def p_(x:Nat):Nat:=(x.testBit 0).toNat+(x.testBit 1).toNat+(x.testBit 2).toNat+(x.testBit 3).toNat+(x.testBit 4).toNat+(x.testBit 5).toNat+(x.testBit 6).toNat+(x.testBit 7).toNat
def eQ(t:Nat->ah):Nat->Nat
 |0=>0
 |k+1=>eQ t k+(t k).toNat
theorem mj(t:Nat->ah):∀k,eQ t k<=k
 |0=>bn _
 |k+1=>by have:=mj t k;have:=Bool.toNat_le (t k);simp only[eQ];omega
theorem Gt(t:Nat->ah)(i:Nat):eQ t (8*(i+1))=eQ t (8*i)+p_ (byteOf t i):=by
 have h:∀j,j<8->(byteOf t i).testBit j=t (8*i+j):=λj a=>nf t i j a;unfold p_;rw[h 0 I,h 1 I,h 2 I,h 3 I,h 4 I,h 5 I,h 6 I,h 7 I];show eQ t (8*i+7+1)=_;simp only[eQ,kF];omega
theorem BM(t:Nat->ah)(n:Nat)(h:∀i,n<=i->t i=false):∀k,eQ t (n+k)=eQ t n
 |0=>rfl
 |k+1=>by
  have:=BM t n h k
  show eQ t (n+k)+(t (n+k)).toNat=_
  rw[this,h (n+k) I]
  rfl
theorem Gu:∀x:Nat,x<256->(wu (ByteArray.mk #[0,1,1,2,1,2,2,3,1,2,2,3,2,3,3,4,1,2,2,3,2,3,3,4,2,3,3,4,3,4,4,5,1,2,2,3,2,3,3,4,2,3,3,4,3,4,4,5,2,3,3,4,3,4,4,5,3,4,4,5,4,5,5,6,1,2,2,3,2,3,3,4,2,3,3,4,3,4,4,5,2,3,3,4,3,4,4,5,3,4,4,5,4,5,5,6,2,3,3,4,3,4,4,5,3,4,4,5,4,5,5,6,3,4,4,5,4,5,5,6,4,5,5,6,5,6,6,7,1,2,2,3,2,3,3,4,2,3,3,4,3,4,4,5,2,3,3,4,3,4,4,5,3,4,4,5,4,5,5,6,2,3,3,4,3,4,4,5,3,4,4,5,4,5,5,6,3,4,4,5,4,5,5,6,4,5,5,6,5,6,6,7,2,3,3,4,3,4,4,5,3,4,4,5,4,5,5,6,3,4,4,5,4,5,5,6,4,5,5,6,5,6,6,7,3,4,4,5,4,5,5,6,4,5,5,6,5,6,6,7,4,5,5,6,5,6,6,7,5,6,6,7,6,7,7,8]) x).map (·.toNat)=some (p_ x):=by decide+kernel
theorem BN(x:Nat):p_ x<=8:=by
 unfold p_;have h:∀b:ah,b.toNat<=1:=Bool.toNat_le;have:=h (x.testBit 0);have:=h (x.testBit 1);have:=h (x.testBit 2);have:=h (x.testBit 3);have:=h (x.testBit 4);have:=h (x.testBit 5);have:=h (x.testBit 6);have:=h (x.testBit 7);omega
theorem Gv(w:J)(x:Nat)(hx:x<256):aN aj 202 #[.int .u8 x] w (λv w'=>v=.int .i64 (p_ x)/\w=w'):=by
 refine okF (I7.tz x) I6.tz func202 ?_;delta I7.tz ar;have h:=Gu x hx;refine⟨I,?_⟩
 cases a:wu _ x with
 |none=>rw[a]at h;cases h
 |some y=>
  rw[a]at h;simp only[ld,Option.some.injEq]at h;refine⟨y,a,?_,rfl⟩;rw[h,bu I (by have:=BN x;omega)]
theorem Gw(f g:Nat->ah)(i:Nat):byteOf f i|||byteOf g i=byteOf (λk=>f k||g k) i:=
 vJ _ _ _ (x7 _ (j4 _ _) _ (j4 _ _)) λj a=>by rw[mB,nf _ _ _ a,nf _ _ _ a]
theorem yc(h:eP w b n f g s1 s2):
 aN aj 148 #[.pointer (some b)] w (λv w'=>v=.int .i64 ((n:Int)-eQ (λi=>f i||g i) n)/\Ext w w'):=by
 have p:=h.bq;have q:=rR h.now;have s:=rR h.sure;refine I7.Em _ w _ ?_;(delta I7.rk ak ai r1 af aK bY ay ar;dsimp only);refine⟨λh1=>by simp at h1,λ_=>⟨_,rfl,n,h.bS,_,rfl,s1,h.ay,λr i w'=>∃k:Nat,i=k/\k<=s1.len/\Ext w w'/\r=(n:Int)-eQ (λi=>f i||g i) (8*k),λ_ i _=>((s1.len:Int)-i).toNat,⟨0,rfl,I,.refl _ _,by simp[eQ]⟩,?_⟩⟩;rintro _ _ w1 ⟨k,rfl,t,hx,rfl⟩;refine⟨λaJ=>?_,λc=>?_⟩
 .have d:k<s1.len:=by simpa using aJ
  have h1:=h.ext hx.drew;obtain⟨b5,ay,j,u,_,_,_,l,_⟩:=h1.now.cell (oA f (i:=k) I);obtain⟨bM,aR,m,x,_,_,_,o,_⟩:=h1.sure.cell (oA g (i:=k) I);have a:∀b:Nat,(Addr.mk b 0 none).add (Int.toNat (k:Int)*1)=⟨b,k,none⟩:=λb=>by rw[fF,c8,av,cx]
  refine⟨λ_=>False,_,rfl,by simp,s1,h1.ay,_,j,I,by simp,_,by rw[a];exact l,_,rfl,by simp,s2,h1.aR,_,m,I,by simp,_,by rw[a];exact o,?_⟩;rw[F9 _ _ (j4 _ _) (j4 _ _),Gw];refine(Gv _ _ (j4 _ _)).use ?_;rintro _ _ ⟨rfl,rfl⟩;have:=BN (byteOf (λi=>f i||g i) k);have:=mj (λi=>f i||g i) (8*k);refine⟨_,rfl,.refl _ _,?_⟩;rw[bu (n:=(n:Int)-_-_) I I,bu (n:=(k:Int)+1) I I];exact⟨⟨k+1,I,I,hx.drew,by rw[Gt];omega⟩,(show((s1.len:Int)-((k:Int)+1)).toNat<((s1.len:Int)-(k:Int)).toNat from I)⟩
 .have d:k=s1.len:=by
   have:¬(k:Int)<s1.len:=by simpa using c
   omega
  refine⟨?_,hx⟩;have e:8*k=n+(8*k-n):=by omega
  rw[e,BM _ _ (λi hi=>by simp[h.pf i hi,h.dS i hi])]
def jE(f:Nat->ah):Nat->O Int
 |0=> []
 |k+1=>jE f k++(if f k then [(k:Int)] else [])
def ml(f:Nat->ah)(k:Nat):O aa:=(jE f k).map (.int .i64)
theorem BO(f:Nat->ah):∀k,(jE f k).length<=k
 |0=>bn _
 |k+1=>by have:=BO f k;simp only[jE,ct];split<;>simp<;>omega
theorem Gx(h:eP w b n f g s1 s2):
 aN aj 155 #[.pointer (some b)] w (λv w'=>∃s:Y,v=s/\a8 1 3 w' s (ml f n)/\Ext w w'/\∀k,az s k->w.heap.size<=k):=by
 have A:=h.bq;refine I7.Ep _ w _ ?_;(delta I7.rm ak ai r1 af aF tn U ar;dsimp only);refine⟨λh1=>by simp at h1,λ_=>⟨_,rfl,n,h.bS,λs i w'=>∃k:Nat,i=k/\k<=n/\Ext w w'/\a8 1 3 w' s (ml f k)/\∀k,az s k->w.heap.size<=k,λ_ i _=>((n:Int)-i).toNat,
  ⟨0,rfl,I,.refl _ _,a8.none _ _ _,λk l=>(gf k l).elim⟩,?_⟩⟩
 rintro s _ w1 ⟨k,rfl,l,hx,c,d⟩;refine⟨λaJ=>?_,λp=>?_⟩
 .have m:k<n:=by simpa using aJ
  have h1:=h.ext hx;refine cj (λa w'=>Ext w w'/\a8 1 3 w' a (ml f (k+1))/\∀k,az a k->w.heap.size<=k) (λq o=>⟨_,rfl,s1,h1.ay,(oB h1.now (k:=k) I I).use ?_⟩) ?_
  .rintro _ _ ⟨rfl,rfl⟩
   refine⟨_,rfl,λhf=>?_,λhf=>?_⟩
   .have hlen:s.len<=k:=by
     have:=c.1;have:=BO f k;simp[ml]at*;omega
    obtain⟨a,w',h1,h2,B,r,t⟩:=Gp.push (cG:=58) (xs:=[k]) rfl c (by simp[Plain]) I;refine⟨a,w',h1,o _ _ ⟨?_,?_,?_⟩⟩
    .exact((ad.cF hx).trans r).mono λk l u=>by have:=d k u;omega
    .simpa[ml,jE,hf] using h2
    .intro j e
     rcases t j e with e|e
     .exact d j e
     .have:=hx.size;omega
   .exact o _ _ ⟨hx,by simpa[ml,jE,hf] using c,d⟩
  .rintro a w' ⟨x,y,z⟩
   rw[bu I I];exact⟨⟨k+1,I,I,x,y,z⟩,(show((n:Int)-((k:Int)+1)).toNat<((n:Int)-(k:Int)).toNat from I)⟩
 .have m:k=n:=by
   have:¬(k:Int)<n:=by simpa using p
   omega
  subst m;exact⟨s,rfl,c,hx,d⟩
theorem BP(h:eP w b n f g s1 s2):
 aN aj 74 #[.pointer (some b)] w (λv w'=>∃s:Y,v=s/\a8 1 5 w' s (eT f ((n+7)/8))/\Ext w w'/\∀k,az s k->w.heap.size<=k):=by
 have a:=h.bq;refine I7.Eh _ w _ ?_;(delta I7.rh ai af aZ;dsimp only);refine⟨λh1=>by simp at h1,λ_=>⟨_,rfl,s1,h.ay,(BL h.now.src (ya f _) (by rw[rR h.now];omega)).use ?_⟩⟩;rintro _ ag ⟨s,rfl,h2,hx,hf⟩;exact⟨s,rfl,s,rfl,h2,hx,hf⟩
end
theorem BQ(w:J)(n:Int):aN aj 128 #[n] w (λv w'=>v=.bool (decide (1<=n/\n<=1600))/\w=w'):=by
 refine okF (I7.ui n) I6.ui func128 ?_;unfold I7.ui;refine⟨?_,rfl⟩;simp[Bool.decide_and]
theorem BR(w:J)(n:Nat)(a:n<=1600):aN aj 129 #[n] w (λv w'=>v=.int .i64 (((n+7)/8:Nat):Int)/\w=w'):=by
 refine okF (I7.uj n) I6.uj func129 ?_;delta I7.uj ar;refine⟨by decide,?_,rfl⟩;rw[bu (n:=(n:Int)+8) I I,bu (n:=(n:Int)+8-1) I I,show(n:Int)+8-1=((n+7:Nat):Int) from I,BD,bu I I]
theorem Gy(m:Nat):eT (λi=>decide (i<0)) m=List.replicate m (.int .u8 0):=by
 apply List.ext_getElem
 .simp[eT]
 .intro i h1 h2
  simp[eT,byteOf,k4]
theorem Gz(j:Nat):df (λi=>decide (i<j)) j true=λi=>decide (i<j+1):=by
 funext i;unfold df;split
 .rename_i h;simp[h]
 .rename_i h;simp;omega
theorem pw(w:J)(n first:Int):
 aN aj 71 #[.int .i64 n,.int .i64 first] w (λv w'=>(¬(1<=n/\n<=1600/\0<=first/\first<=n)/\v=.tuple #[.pointer none,.int .i64 1]/\w=w')\/
  (1<=n/\n<=1600/\0<=first/\first<=n/\∃b s1 s2,v=.tuple #[.pointer (some ⟨b,0,none⟩),.int .i64 0]/\eP w' b n.toNat (λi=>decide (i<first.toNat)) (λi=>decide (i<first.toNat)) s1 s2/\Ext w w'/\∀k,fm b s1 s2 k->w.heap.size<=k)):=by
 refine okF (I7.pw n first) I6.pw func71 ?_;(delta I7.pw ak aF ai ay km U af aR ar;dsimp only);refine(BQ w n).use ?_;rintro _ _ ⟨rfl,rfl⟩;refine⟨_,rfl,λh=>.inl ⟨λhc=>?_,rfl,rfl⟩,λh=>?_⟩
 .simp at h;omega
 simp at h;obtain⟨⟨⟨E,F⟩,G⟩,H⟩:=h;obtain⟨n,rfl⟩:=qG (by omega:0<=n);obtain⟨first,rfl⟩:=qG (by omega:0<=first);refine(BR w n I).use ?_;rintro _ _ ⟨rfl,rfl⟩;refine⟨_,rfl,I,?_⟩;simp only[c8];rw[Gq];obtain⟨m,f⟩:∃m,m=(n+7)/8:=⟨_,rfl⟩;rw[←f];have l:=a8.new (sz:=1) (T:=5) w (List.replicate m (.int .u8 0)) m (by simp) (by show m<=2^63-1;omega);rw[←Gy]at l⊢;have aq:Ext w (w.alloc (.cells (eT (λi=>decide (i<0)) m).toArray 5)):=ad.alloc (.refl _ _) _;generalize s:w.alloc (.cells (eT (λi=>decide (i<0)) m).toArray 5)=w1 at*;have K:w1.heap.size=w.heap.size+1:=by rw[←s];simp
 have t:=bt.new w1 #[.int .i64 (n:Int),.slice (some ⟨w.heap.size,0,none⟩) m m,.slice none 0 0] 218;have u:=ad.alloc aq (.cells #[.int .i64 (n:Int),.slice (some ⟨w.heap.size,0,none⟩) m m,.slice none 0 0] 218);have x:=l.ext (ad.alloc (.refl _ w1) (.cells #[.int .i64 (n:Int),.slice (some ⟨w.heap.size,0,none⟩) m m,.slice none 0 0] 218));refine⟨λi w'=>∃j:Nat,i=j/\j<=first/\Ext w w'/\bt w' w1.heap.size #[.int .i64 (n:Int),.slice (some ⟨w.heap.size,0,none⟩) m m,.slice none 0 0] 218/\
  a8 1 5 w' ⟨some ⟨w.heap.size,0,none⟩,m,m⟩ (eT (λi=>decide (i<j)) m),λi _=>((first:Int)-i).toNat,⟨0,rfl,I,u,t,x⟩,?_⟩
 rintro _ ag ⟨j,rfl,L,hx,d,o⟩;refine⟨λaJ=>?_,λy=>?_⟩
 .have p:j<first:=by simpa using aJ
  refine⟨_,rfl,⟨some ⟨w.heap.size,0,none⟩,m,m⟩,by rw[av,d.cell];rfl,(BF o (k:=j) I I).use ?_⟩;rintro _ z ⟨rfl,q,hc⟩;rw[Gz]at q;rw[bu I I];refine⟨rfl,⟨j+1,I,I,?_,d.ae hc ?_,q⟩,(show((first:Int)-((j:Int)+1)).toNat<((first:Int)-(j:Int)).toNat from I)⟩
  .exact((ad.cF hx).trans hc).mono λk a c=>by rw[kl]at c;simp at c;omega
  .intro c
   rw[kl]at c;simp at c;omega
 .have p:j=first:=by
   have:¬(j:Int)<first:=by simpa using y
   omega
  subst p;have r:∀i,n<=i->decide (i<j)=false:=λi hi=>by simp;omega
  refine(yb d o (λk a e=>?_) I).use ?_
  .rw[kl]at a
   simp at a;omega
  rintro _ z ⟨rfl,A,h1,h2,B,C,g⟩;have M:=d.lt;refine⟨rfl,.inr ⟨I,I,I,I,w1.heap.size,⟨some ⟨w.heap.size,0,none⟩,m,m⟩,A,rfl,⟨h1,?_,?_,λk a=>⟨λe=>?_,λD=>?_⟩,λk a e=>?_,I,I,r,r⟩,?_,?_⟩⟩
  .simp only[←f];exact h2
  .simp only[←f];exact B
  .rw[kl]at a
   simp at a;omega
  .rw[kl]at a
   simp at a;have:=g k D;omega
  .have:=g k a
   omega
  .exact((ad.cF hx).trans C).mono λk a e=>by omega
  .rintro k (rfl|a|a)
   .omega
   .rw[kl]at a
    simp at a;omega
   .have:=g k a
    have:=hx.size;omega
structure aL where
 aX:Nat
 gen:Nat
 root:Nat
 aE:Nat
 C:bZ
 sb:Nat
 n:Nat
 f:Nat->ah
 g:Nat->ah
 s1:Y
 s2:Y
 E:Nat->Prop
 G:Nat->Prop
 P:Nat->ao aB
def aL.b_(T:aL)(E G:Nat->Prop):aL:={T with E:=E,G:=G}
def aL.bg(T:aL)(C:bZ)(P:Nat->ao aB):aL:={T with C:=C,P:=P}
def aL.X(T:aL)(q:Nat):Prop:=q=T.aX\/fm T.sb T.s1 T.s2 q\/T.E q\/T.G q
def aL.M(T:aL)(q:Nat):Prop:=cY T.C q\/T.X q
def aL.N(T:aL)(q:Nat):Prop:=cY T.C q\/q=T.aX\/fm T.sb T.s1 T.s2 q\/T.G q
theorem aL.gh{T:aL}{q:Nat}(h:T.N q):T.M q:=h.imp id (Or.imp id (Or.imp id .inr))
def gL(gen:Nat)(leaf:ah)(no:Nat)(l:cT)(n:aB):Prop:=
 ∃p:ig,dI (no:Int) l=.ok p/\p.gen<=gen/\p.kind=(if leaf then 1 else 2)/\lD leaf p.body n/\2<=no
def k5(T:aL):O aa:=[.pointer (some T.C.c),.pointer (some T.sb),.int .u64 (T.gen:Nat),T.root,T.aE]
structure bJ(w:J)(T:aL):Prop where
 t:Var w T.aX (k5 T) 239
 s:eP w T.sb T.n T.f T.g T.s1 T.s2
 ca:dW T.X w T.C
 jF:¬fm T.sb T.s1 T.s2 T.aX
 c2:∀q,T.E q->q≠T.aX/\¬fm T.sb T.s1 T.s2 q/\¬T.G q
 hV:∀q,T.G q->q≠T.aX/\¬fm T.sb T.s1 T.s2 q
 n:T.C.D.n=T.n
 num:T.root<T.n/\T.aE<=12/\T.gen<18446744073709551616
 ek:∀no bk,T.P no=some bk->no<T.n/\gL T.gen bk.leaf no (T.C.view no) bk
 bI:∀j,T.C.D.bI j=true->T.g j=true\/T.C.D.ro
 low:T.g 0=true/\T.g 1=true
structure bL(T an:aL)(w w':J)(k:Nat):Prop where
 aX:an.aX=T.aX
 sb:an.sb=T.sb
 n:an.n=T.n
 g:an.g=T.g
 s1:an.s1=T.s1
 s2:an.s2=T.s2
 c:an.C.c=T.C.c
 d:an.C.D.d=T.C.D.d
 bh:an.C.D.key=T.C.D.key
 gen:an.gen=T.gen
 aO:an.C.D.aO<=T.C.D.aO+k
 calm:∀m,T.C.D.calm (m+k)->an.C.D.calm m
 ae:ad T.N w w'
 cZ:∀q,an.M q->T.M q\/w.heap.size<=q
 fn:∀q,an.N q->T.N q\/w.heap.size<=q
theorem bL.bI{T an:aL}{w w':J}{k:Nat}(h:bL T an w w' k):an.C.D.bI=T.C.D.bI/\an.C.D.eo=T.C.D.eo:=by
 have:=congrArg Prod.fst h.bh;exact⟨congrArg (λp=>p.2.1) this,congrArg (λp=>p.2.2.1) this⟩
theorem bL.refl(T:aL)(w:J):bL T T w w 0:=⟨rfl,rfl,rfl,rfl,rfl,rfl,rfl,rfl,rfl,rfl,bn _,λ_ h=>h,.refl _ _,λ_ h=>.inl h,λ_ h=>.inl h⟩
theorem bL.ext{w w':J}(T:aL)(h:Ext w w'):bL T T w w' 0:=⟨rfl,rfl,rfl,rfl,rfl,rfl,rfl,rfl,rfl,rfl,bn _,λ_ h=>h,ad.cF h,λ_ h=>.inl h,λ_ h=>.inl h⟩
theorem bL.trans{T an b:aL}{w w' e:J}{k l:Nat}(h1:bL T an w w' k)(h2:bL an b w' e l):bL T b w e (k+l):=by
 have hs:=h1.ae.size;refine⟨h2.aX.trans h1.aX,h2.sb.trans h1.sb,h2.n.trans h1.n,h2.g.trans h1.g,h2.s1.trans h1.s1,h2.s2.trans h1.s2,h2.c.trans h1.c,h2.d.trans h1.d,h2.bh.trans h1.bh,h2.gen.trans h1.gen,by have:=h1.aO;have:=h2.aO;omega,
  λm f=>h2.calm m (h1.calm (m+l) (by rw[show m+l+k=m+(k+l) from I];exact f)),cr h1.ae h2.ae λq a h=>(h1.fn q h).resolve_right I,λq a=>?_,λq a=>?_⟩
 .rcases h2.cZ q a with h|h
  .exact h1.cZ q h
  .exact .inr I
 .rcases h2.fn q a with h|h
  .exact h1.fn q h
  .exact .inr I
theorem bL.mono{T an:aL}{w w':J}{k l:Nat}(h:bL T an w w' k)(b:k<=l):bL T an w w' l:=
 ⟨h.aX,h.sb,h.n,h.g,h.s1,h.s2,h.c,h.d,h.bh,h.gen,by have:=h.aO;omega,λm a=>h.calm m (f_ a I),h.ae,h.cZ,h.fn⟩
theorem bL.bk{T an:aL}{w w':J}{k lo:Nat}(h:bL T an w w' k){n:aB}{K V D:Y}(d:bz (λq=>lo<=q/\¬T.M q) w n K V D):bz (λq=>lo<=q/\¬an.M q) w' n K V D:=by
 have h1:bz (λq=>q<w.heap.size/\lo<=q/\¬T.M q) w n K V D:=d.aW λq b a=>⟨b,a⟩;refine(bz.ae h1 h.ae λq b c=>b.2.2 (aL.gh c)).aW λq _ a=>⟨a.2.1,λc=>?_⟩;rcases h.cZ q c with h2|h2
 .exact a.2.2 h2
 .have:=a.1;omega
section
variable {w w':J}{T an:aL}
theorem bL.step{W E G:Nat->Prop}{w1:J}{k:Nat}(h:bL T an w w1 k)(hc:ad W w1 w')(b8:∀q,W q->q<w.heap.size->T.N q)(e:∀q,E q->an.E q\/an.G q\/w.heap.size<=q)(b:∀q,G q->an.G q\/w.heap.size<=q):bL T (an.b_ E G) w w' k:=by
 refine⟨h.aX,h.sb,h.n,h.g,h.s1,h.s2,h.c,h.d,h.bh,h.gen,h.aO,h.calm,cr h.ae hc λq a f=>b8 q f a,λq a=>?_,λq a=>?_⟩
 .rcases a with a|a|a|a|a
  .exact h.cZ q (.inl a)
  .exact h.cZ q (.inr (.inl a))
  .exact h.cZ q (.inr (.inr (.inl a)))
  .rcases e q a with h1|h1|h1
   .exact h.cZ q (.inr (.inr (.inr (.inl h1))))
   .exact h.cZ q (.inr (.inr (.inr (.inr h1))))
   .exact .inr h1
  .rcases b q a with h1|h1
   .exact h.cZ q (.inr (.inr (.inr (.inr h1))))
   .exact .inr h1
 .rcases a with a|a|a|a
  .exact h.fn q (.inl a)
  .exact h.fn q (.inr (.inl a))
  .exact h.fn q (.inr (.inr (.inl a)))
  .rcases b q a with h1|h1
   .exact h.fn q (.inr (.inr (.inr h1)))
   .exact .inr h1
theorem bL.local{bU j5 a yd:Nat->Prop}{w1:J}{k:Nat}(h:bL (T.b_ bU a) an w1 w' k)(hx:Ext w w1)(b:∀q,bU q->T.E q\/w.heap.size<=q)(c:∀q,a q->T.G q\/w.heap.size<=q)
 (d:∀q,j5 q->an.E q\/an.G q) (e:∀q,yd q->an.G q):bL T (an.b_ j5 yd) w w' k:=by
 have h0:bL T (T.b_ bU a) w w1 0:=(bL.ext T (w:=w) (w':=w) (ad.refl _ _)).step (W:=λ_=>False) hx (λ_ h=>h.elim) (λq h=>(b q h).imp id .inr) c;have h1:=h0.trans h;rw[cx]at h1;exact h1.step (W:=λ_=>False) (ad.refl _ _) (λ_ h=>h.elim) (λq h=>(d q h).imp id .inl) λq h=>.inl (e q h)
theorem bJ.lt(h:bJ w T){q:Nat}(a:T.M q):q<w.heap.size:=by
 rcases a with a|a
 .exact h.ca.raw.lt a
 .exact(h.ca.inv.fg q a).1
theorem bJ.jC(h:bJ w T){q:Nat}(b:T.E q):¬T.N q:=by
 rintro(a|a|a|a)
 .exact(h.ca.inv.fg q (.inr (.inr (.inl b)))).2 a
 .exact(h.c2 q b).1 a
 .exact(h.c2 q b).2.1 a
 .exact(h.c2 q b).2.2 a
theorem bJ.ext(h:bJ w T)(hx:Ext w w'):bJ w' T:=⟨h.t.ext hx,h.s.ext hx,h.ca.ext hx,h.jF,h.c2,h.hV,h.n,h.num,h.ek,h.bI,h.low⟩
theorem dW.grow{X d W:Nat->Prop}{C:bZ}(h:dW X w C)(hc:ad W w w')(b8:∀q,W q->q<w.heap.size->X q)(e:∀q,d q->X q\/(w.heap.size<=q/\q<w'.heap.size)):dW d w' C:=by
 have g:ad X w w':=cr (W:=X) (ad.refl _ _) hc λq a i=>b8 q i a;refine⟨h.raw.ae g λq a hx=>(h.inv.fg q hx).2 a,h.inv.pins,λf hf j=>?_,h.inv.un,λq a=>?_,h.inv.k3⟩
 .obtain⟨no,au,aw,k,m,n,o,p⟩:=h.inv.ok f hf j
  have r:aY (λq=>q<w.heap.size/\¬cY C q/\¬X q) w f.b f.l:=aY.aW k λq a c=>⟨a,c⟩;refine⟨no,au,aw,aY.aW (aY.ae r g λq a hx=>a.2.2 hx) λq _ c=>⟨c.2.1,λs=>?_⟩,m,n,o,p⟩;rcases e q s with h1|h1
  .exact c.2.2 h1
  .have:=c.1;omega
 .rcases e q a with h1|h1
  .exact⟨fN (h.inv.fg q h1).1 hc.size,(h.inv.fg q h1).2⟩
  .exact⟨h1.2,λhf=>by have:=h.raw.lt hf;omega⟩
theorem bJ.grow{E G W:Nat->Prop}(h:bJ w T)(hc:ad W w w')(b8:∀q,W q->q<w.heap.size->T.E q\/T.G q)(c:∀q,E q->T.E q\/T.G q\/(w.heap.size<=q/\q<w'.heap.size))(f:∀q,G q->T.E q\/T.G q\/(w.heap.size<=q/\q<w'.heap.size))(j:∀q,E q->¬G q):bJ w' (T.b_ E G):=by
 have b:∀q,T.E q\/T.G q->q≠T.aX/\¬fm T.sb T.s1 T.s2 q:=λq a=>by
  rcases a with a|a
  .exact⟨(h.c2 q a).1,(h.c2 q a).2.1⟩
  .exact h.hV q a
 have g:ad (λq=>T.E q\/T.G q) w w':=cr (W:=λq=>T.E q\/T.G q) (ad.refl _ _) hc λq a k=>b8 q k a;have d:∀q,T.E q\/T.G q\/(w.heap.size<=q/\q<w'.heap.size)->q≠T.aX/\¬fm T.sb T.s1 T.s2 q:=λq a=>by
  rcases a with a|a|a
  .exact b q (.inl a)
  .exact b q (.inr a)
  .exact⟨λe=>by have h2:=h.lt (q:=q) (.inr (.inl e));omega,λe=>by have h2:=h.lt (q:=q) (.inr (.inr (.inl e)));omega⟩
 have i:∀q,T.E q\/T.G q\/(w.heap.size<=q/\q<w'.heap.size)->T.X q\/(w.heap.size<=q/\q<w'.heap.size):=λq a=>by
  rcases a with a|a|a
  .exact .inl (.inr (.inr (.inl a)))
  .exact .inl (.inr (.inr (.inr a)))
  .exact .inr a
 refine⟨h.t.ae g λe=>(b _ e).1 rfl,h.s.ae g λq a e=>(b q e).2 a,h.ca.grow hc (λq a l=>.inr (.inr (b8 q a l))) λq a=>?_,h.jF,λq a=>⟨(d q (c q a)).1,(d q (c q a)).2,j q a⟩,λq a=>d q (f q a),h.n,h.num,h.ek,h.bI,h.low⟩;rcases a with a|a|a|a
 .exact .inl (.inl a)
 .exact .inl (.inr (.inl a))
 .exact i q (c q a)
 .exact i q (f q a)
theorem bJ.cells(h:bJ w T):w.cell? T.aX=some (.pointer (some T.C.c))/\w.cell? (Addr.add T.aX 1)=some (.pointer (some T.sb))/\w.cell? (Addr.add T.aX 2)=some (.int .u64 (T.gen:Nat))/\
 w.cell? (Addr.add T.aX 3)=some (.int .i64 (T.root:Nat))/\w.cell? (Addr.add T.aX 4)=some (.int .i64 (T.aE:Nat)):=by
 rw[av,av,av,av];exact⟨h.t.cell,h.t.cell,h.t.cell,h.t.cell,h.t.cell⟩
theorem bJ.GA(h:bJ w T){no:Nat}(a:no<T.n):(T.C.view no).length=256:=by
 unfold bZ.view
 cases hf:T.C.al.find? λf=>f.full&&f.no==(no:Int) with
 |some f=>
  have h1:=ju hf;have h2:=kc hf;obtain⟨m,b⟩:=h.ca.inv.ok f h1 (by
   have:(f.full&&f.no==(no:Int))=true:=h2;exact(Bool.and_eq_true_iff.1 this).1)
  exact b.len
 |none=>exact h.ca.raw.dev.oy (by rw[h.n];exact a)
theorem bJ.qa{aD:bZ}{k:Nat}{P:Nat->ao aB}(h:bJ w T)(e:dW T.X w' aD)(a:eB T.C aD w w' k)(f:∀no bk,P no=some bk->no<T.n/\gL T.gen bk.leaf no (aD.view no) bk):
 bJ w' (T.bg aD P)/\bL T (T.bg aD P) w w' k:=by
 have hx:=h.ca.inv.fg;have hc:=a.ae;refine⟨⟨?_,h.s.ae hc λq b hf=>(hx q (.inr (.inl b))).2 hf,e,h.jF,h.c2,h.hV,?_,h.num,f,λj l=>by unfold a_.ro;show T.g j=true\/∀i,aD.D.bI i=true;rw[a.bI];exact h.bI j (by rw[←a.bI];exact l),h.low⟩,⟨rfl,rfl,rfl,rfl,rfl,rfl,a.c,a.d,a.bh,rfl,a.aO,a.calm,hc.mono λq _ b=>.inl b,?_,?_⟩⟩
 .have:=h.t.ae hc λhf=>(hx T.aX (.inl rfl)).2 hf
  unfold k5 at this⊢;rw[←a.c]at this;exact this
 .show aD.D.n=T.n
  rw[a.n,h.n]
 .rintro q (b|b)
  .rcases a.cZ q b with h1|h1
   .exact .inl (.inl h1)
   .exact .inr h1
  .exact .inl (.inr b)
 .rintro q (b|b)
  .rcases a.cZ q b with h1|h1
   .exact .inl (.inl h1)
   .exact .inr h1
  .exact .inl (.inr b)
end
def GB(T:aL)(leaf:ah)(no:Nat)(e:Int):Prop:=
 (e=3/\¬T.C.D.calm 2)\/dI (no:Int) (T.C.view no)=.error e\/(e=4/\(∃p,dI (no:Int) (T.C.view no)=.ok p)/\∀n,¬gL T.gen leaf no (T.C.view no) n)
def oC(T:aL)(leaf:ah)(no:Nat)(w:J)(v:aa)(w':J):Prop:=
 ∃aD:bZ,bJ w' (T.bg aD T.P)/\bL T (T.bg aD T.P) w w' 2/\(∀j,aD.view j=T.C.view j)/\
  ((∃ (n:aB) (K V D:Y),v=.tuple #[cW n K V D,(0:Int)]/\gL T.gen leaf no (T.C.view no) n/\bz (λq=>w.heap.size<=q/\¬(T.bg aD T.P).M q) w' n K V D)\/
    (∃e:Int,v=.tuple #[cW g8 bc bc bc,e]/\GB T leaf no e/\e≠0))
theorem BS{no:Int}{l:cT}{e:Int}(h:dI no l=.error e):e≠0:=by
 intro he;subst he;unfold dI at h
 repeat' split at h
 all_goals first|(injection h with h;exact absurd h (by decide))|cases h
theorem GC{no:Int}{l:cT}{p:ig}(h:dI no l=.ok p):p.body.length<=256:=by
 unfold dI at h
 repeat' split at h
 all_goals first|(cases h;done)|skip
 rename_i h1 _ _ _ _ _;injection h with h
 rw[←h];show(List.take _ (List.drop 24 l)).length<=256;rw[cy,c5];omega
theorem vL{w':J}{h:Nat}{vs:O aa}(n g:Int)(s:Y)(a:Var w' h vs 150)(b:vs.length=3){K:J->Prop}(c:∀ag,Var ag h [n,.int .u64 g,s] 150->ad (λq=>q=h) w' ag->ag.heap.size=w'.heap.size->K ag):
 bx w' h [n,.int .u64 g,s]/\(3:Nat)=3/\ak (setCells w' h 0 [n,.int .u64 g,s]) K:=by
 refine⟨a.b9 (by rw[b];rfl) ?_,rfl,cu a (us:=[n,.int .u64 g,s]) (by rw[b];rfl) rfl c⟩;intro v a;simp only[cS,eS,eW]at a;rcases a with rfl|rfl|rfl<;>trivial
theorem ye{w:J}{T:aL}(h:bJ w T)(aE:T.C.D.aO<=999999999){no:Nat}(ak:no<T.n)(al:2<=no)(leaf:ah):
 aN aj 196 #[.pointer (some T.aX),no,leaf] w (oC T leaf no w):=by
 have bb:=h.s.bq;have aF:=h.GA ak;refine okF (I7.uG (some T.aX) (no:Int) leaf) I6.uG func196 ?_;(delta I7.uG cl b6 ai xg U tm a7 af ly z3 bl r1 q9 gY;dsimp only);refine bd (vs:=[false,(),(),()]) rfl λw1 aG am be=>?_;obtain⟨o,L⟩:∃o,o=λq=>T.G q\/q=w.heap.size:=⟨_,rfl⟩;have an:o w.heap.size:=by rw[L];exact .inr rfl
 have N:∀q,T.G q->o q:=λq c=>by rw[L];exact .inl c
 have O:∀q,o q->T.G q\/q=w.heap.size:=λq c=>by rw[L]at c;exact c
 have h1:bJ w1 (T.b_ T.E o):=h.grow (W:=λ_=>False) am (λ_ h=>h.elim) (λq c=>.inl c) (λq c=>.inr ((O q c).imp id λe=>⟨I,I⟩)) λq c hg=>by
  rcases O q hg with h2|h2
  .exact(h.c2 q c).2.2 h2
  .have:=h.lt (q:=q) (.inr (.inr (.inr (.inl c))));omega
 refine⟨_,rfl,_,h1.cells.1,(F0 h1.ca aE (no:=no) (by rw[h1.n];exact ak) al).use ?_⟩;rintro _ m ⟨aD,aH,R,t,aI⟩;obtain⟨S,aJ⟩:=h1.qa (P:=T.P) aH R (λno bk aK=>by rw[t];exact h1.ek no bk aK);have bf:=R.ae.size;have ao:Var m w.heap.size [false,(),(),()] 202:=aG.ae R.ae λhf=>(h1.ca.inv.fg _ (.inr (.inr (.inr an)))).2 hf
 have fin:∀w':J,ad (λq=>q=w.heap.size) m w'->bJ w' (T.bg aD T.P)/\bL T (T.bg aD T.P) w w' 2:=λw' hc=>by
  refine⟨S.grow (E:=T.E) (G:=T.G) hc (λq e _=>.inr (by rw[e];exact an)) (λq c=>.inl c) (λq c=>.inr (.inl (N q c))) λq c=>(h.c2 q c).2.2,?_⟩;have aM:=aJ.local am (λq c=>.inl c) (λq c=>(O q c).imp id λe=>I) (j5:=T.E) (yd:=T.G) (λq c=>.inl c) N;exact aM.step hc (λq e bh=>I) (λq c=>.inl c) λq c=>.inl c
 have aP:∀ {w':J}{n:aB}{K V D:Y}{B:Nat->Prop},bz (λq=>m.heap.size<=q) w' n K V D->bz (λq=>w.heap.size<=q/\¬(T.bg aD T.P).M q) w' n K V D:=λaQ=>by
  refine aQ.aW λq _ c=>⟨I,λj=>?_⟩;have:q<m.heap.size:=S.lt (q:=q) (by
   rcases j with j|j|j|j|j
   .exact .inl j
   .exact .inr (.inl j)
   .exact .inr (.inr (.inl j))
   .exact .inr (.inr (.inr (.inl j)))
   .exact .inr (.inr (.inr (.inr (N q j)))))
  omega
 rcases aI with ⟨s,rfl,hs⟩|⟨rfl,aR⟩
 .refine⟨s,0,rfl,λd=>(by cases d),λ_=>(mW hs.1 hs.2.1 (by show(T.C.view no).length<=1000;rw[aF];omega) _).use ?_⟩
  rintro _ aT ⟨y,F⟩;have ap:=ao.ext F;have bi:=F.size;have aU:(T.b_ T.E o).C.view no=T.C.view no:=rfl;rw[aU]at y
  cases g:dI (no:Int) (T.C.view no) with
  |error e=>
   rw[g]at y;obtain rfl:=y;refine⟨0,0,⟨none,0,0⟩,e,rfl,bd (vs:=[(0:Int),.int .u64 0,()]) rfl λaV X u aY=>?_⟩;refine vL 0 0 ⟨none,0,0⟩ X rfl λf aq v aZ=>⟨λ_=>?_,λd=>?_⟩
   .have Z:Var f w.heap.size [false,(),(),()] 202:=(ap.ext u).ae v I
    refine iW false bc bc bc Z rfl (Q:=λb K V D ag=>oC T leaf no w (.tuple #[.agg #[b,K,V,D],e]) ag) λl i=>?_;obtain⟨f1,f2⟩:=fin l (cr (W:=λq=>q=w.heap.size) (ad.cF (Ext.cm (F.trans u) v I)) i λq _ e=>e);exact⟨aD,f1,f2,t,.inr ⟨e,rfl,.inr (.inl g),BS g⟩⟩
   .have:=BS g
    simp at d;omega
  |ok p=>
   rw[g]at y;obtain⟨z,rfl,aa,bj⟩:=y;refine⟨p.kind,p.gen,z,0,rfl,bd (vs:=[(0:Int),.int .u64 0,()]) rfl λaV X u aY=>?_⟩;refine vL p.kind p.gen z X rfl λf aq v aZ=>⟨λd=>(by cases d),λ_=>aS ?_⟩;have Z:Var f w.heap.size [false,(),(),()] 202:=(ap.ext u).ae v I;have a0:Ext m f:=Ext.cm (F.trans u) v I;have A:Ext m f.drew:=a0.trans (b4 _);have ab:Var f.drew w.heap.size [false,(),(),()] 202:=Z.drew;have H:=aq.drew;have a1:=(S.ext A).cells;obtain⟨b,d⟩:∃b,b=aT.heap.size:=⟨_,rfl⟩;rw[←d]at H⊢;have ac:f.drew.cell? b=some (.int .i64 (p.kind:Nat)):=H.cell;have a2:f.drew.cell? (Addr.add b 1)=some (.int .u64 (p.gen:Nat)):=by rw[av];exact H.cell
   have a3:f.drew.cell? (Addr.add b 2)=some (.slice z.a z.len z.cap):=by rw[av];exact H.cell
   have bm:m.heap.size<=f.drew.heap.size:=A.size;refine⟨id,_,a2,_,rfl,id,_,a1.2.2.1,λhg=>?_,λhg=>⟨id,_,ac,?_⟩⟩
   .have hg:T.gen<p.gen:=by
     have:(p.gen:Int)>(T.gen:Int):=b1 hg;omega
    refine cj (λb w'=>b=true/\w'=f.drew) (λq c=>⟨λ_=>c _ _ ⟨rfl,rfl⟩,λh=>by cases h⟩) ?_;rintro _ _ ⟨rfl,rfl⟩;refine⟨λ_=>?_,λh=>(by cases h)⟩;refine iW false bc bc bc ab rfl (Q:=λb K V D ag=>oC T leaf no w (.tuple #[.agg #[b,K,V,D],(4:Int)]) ag) λl i=>?_;obtain⟨f1,f2⟩:=fin l (cr (W:=λq=>q=w.heap.size) (ad.cF A) i λq _ e=>e);refine⟨aD,f1,f2,t,.inr ⟨4,rfl,.inr (.inr ⟨rfl,⟨p,g⟩,?_⟩),by decide⟩⟩;rintro n ⟨ar,au,aw,_⟩;rw[g]at au;cases au;omega
   .have hg:p.gen<=T.gen:=by
     have:¬(p.gen:Int)>(T.gen:Int):=cp hg;omega
    refine cj (λb w'=>w'=f.drew/\(b=false↔p.kind=(if leaf then 1 else 2))) (λq c=>⟨λh=>c _ _ ⟨rfl,?_⟩,λh=>⟨_,ac,cj (λb w'=>w'=f.drew/\(b=false↔p.kind=(if leaf then 1 else 2))) (λr ax=>⟨λh2=>⟨_,ac,ax _ _ ⟨rfl,?_⟩⟩,λh2=>ax _ _ ⟨rfl,?_⟩⟩) λb w' a4=>c b w' a4⟩⟩) ?_
    .refine⟨λh=>(by cases h),λx=>?_⟩
     rw[x]at h
     cases leaf<;>simp at h
    .cases leaf
     .simp
      exact Int.ofNat_inj
     .simp at h2 h;omega
    .cases leaf
     .simp at h2 h;omega
     .simp at h2
      simp;omega
    rintro bn _ ⟨rfl,x⟩;refine⟨λd=>?_,λd=>⟨_,a3,(pK ((aa.ext (Ext.cm u v I|>.trans (b4 _))).src) ?_ ?_ ?_ leaf).use ?_⟩⟩
    .refine iW false bc bc bc ab rfl (Q:=λb K V D ag=>oC T leaf no w (.tuple #[.agg #[b,K,V,D],(4:Int)]) ag) λl i=>?_
     obtain⟨f1,f2⟩:=fin l (cr (W:=λq=>q=w.heap.size) (ad.cF A) i λq _ e=>e);refine⟨aD,f1,f2,t,.inr ⟨4,rfl,.inr (.inr ⟨rfl,⟨p,g⟩,?_⟩),by decide⟩⟩;rintro n ⟨ar,au,aw,ay,_⟩;rw[g]at au;cases au;rw[x.2 ay]at d;cases d
    .exact aa.2.1
    .intro k x
     have:=a8.lt aa k x;have:=u.size;show k<f.heap.size;omega
    .have:=GC g
     omega
    rintro _ a5 ⟨a6,az⟩;have aA:Ext m a5:=A.trans az;have aC:=ab.ext az;rcases a6 with ⟨n,K,V,D,rfl,a9,c1⟩|⟨rfl,a_⟩
    .refine⟨n.leaf,K,V,D,0,rfl,?_⟩
     refine iW n.leaf K V D aC rfl (Q:=λb K V D ag=>oC T leaf no w (.tuple #[.agg #[b,K,V,D],(0:Int)]) ag) λl i=>?_;obtain⟨f1,f2⟩:=fin l (cr (W:=λq=>q=w.heap.size) (ad.cF aA) i λq _ e=>e);refine⟨aD,f1,f2,t,.inl ⟨n,K,V,D,rfl,⟨p,g,hg,x.1 d,a9,al⟩,?_⟩⟩;refine aP (B:=λ_=>True) (bz.ae (c1.aW λq _ c=>?_) i λq c e=>?_)
     .omega
     .have:m.heap.size<=q:=c
      omega
    .refine⟨false,bc,bc,bc,4,rfl,?_⟩
     refine iW false bc bc bc aC rfl (Q:=λb K V D ag=>oC T leaf no w (.tuple #[.agg #[b,K,V,D],(4:Int)]) ag) λl i=>?_;obtain⟨f1,f2⟩:=fin l (cr (W:=λq=>q=w.heap.size) (ad.cF aA) i λq _ e=>e);refine⟨aD,f1,f2,t,.inr ⟨4,rfl,.inr (.inr ⟨rfl,⟨p,g⟩,?_⟩),by decide⟩⟩;rintro n ⟨ar,au,aw,ay,ba,_⟩;rw[g]at au;cases au;exact a_ n ba
 .refine⟨⟨none,0,0⟩,3,rfl,λ_=>?_,λd=>(by cases d)⟩
  refine iW false bc bc bc ao rfl (Q:=λb K V D ag=>oC T leaf no w (.tuple #[.agg #[b,K,V,D],(3:Int)]) ag) λl i=>?_;obtain⟨f1,f2⟩:=fin l i;exact⟨aD,f1,f2,t,.inr ⟨3,rfl,.inl ⟨rfl,aR⟩,by decide⟩⟩
structure dx where
 no:Nat
 n:aB
 cR:Nat
 K:Y
 V:Y
 D:Y
def dx.c(s:dx):O aa:=[s.no,s.n.leaf,s.K,s.V,s.D,s.cR]
def dx.st(s:dx):Nat×aB×Nat:=(s.no,s.n,s.cR)
theorem nh(l:O dx):∀x∈l,(dx.c x).length=6:=λ_ _=>rfl
structure j6(B:Nat->Prop)(w:J)(s:Y)(l:O dx):Prop where
 own:a8 6 232 w s (bH dx.c l)
 oD:∀q,az s q->B q
 bk:∀x∈l,bz B w x.n x.K x.V x.D
def ni(P:Nat->ao aB)(k:Key):Nat->Nat->O (Nat×aB×Nat)->Prop
 |0,_,l=>l=[]
 |h+1,no,l=>∃n rest,P no=some n/\n.leaf=decide (h=0)/\l=(no,n,if h=0 then 0 else di n.keys k)::rest/\ni P k h (n.kids.getD (di n.keys k) 0) rest
theorem ni.length{P:Nat->ao aB}{k:Key}:∀ {h no:Nat}{l:O (Nat×aB×Nat)},ni P k h no l->l.length=h
 |0,_,_,h=>by rw[h];rfl
 |h+1,_,_,⟨n,rest,_,_,a,b⟩=>by rw[a,e1,ni.length b]
theorem gL.uniq{gen no:Nat}{leaf:ah}{l:cT}{n m:aB}(h1:gL gen leaf no l n)(h2:gL gen leaf no l m):n=m:=by
 obtain⟨p,a1,a2,a3,a4⟩:=h1;obtain⟨q,b5,bM,b,a⟩:=h2;rw[a1]at b5
 cases b5;exact lD.uniq a4.1 a.1
theorem gL.is{gen no:Nat}{leaf:ah}{l:cT}{n:aB}(h:gL gen leaf no l n):n.leaf=leaf/\cC n/\bF n<=232:=by
 obtain⟨p,_,_,_,a,_⟩:=h;exact⟨a.2.1,a.1,a.2.2.1⟩
theorem gL.two{gen no:Nat}{leaf:ah}{l:cT}{n:aB}(h:gL gen leaf no l n):2<=no:=by
 obtain⟨p,_,_,_,_,a⟩:=h;exact a
theorem cC.e4{n:aB}(h:cC n):n.keys.Pairwise bD:=by
 rcases h with h|h
 .exact h.e4
 .exact h.e4
def GD(T:aL)(steps:O (Nat×aB×Nat))(w:J)(v:aa)(w':J):Prop:=
 ∃aD:bZ,bJ w' (T.bg aD T.P)/\bL T (T.bg aD T.P) w w' (2*T.aE)/\(∀j,aD.view j=T.C.view j)/\
  ((∃ (s:Y) (l:O dx),v=.tuple #[s,(0:Int)]/\l.map dx.st=steps/\j6 (λq=>w.heap.size<=q/\¬(T.bg aD T.P).M q) w' s l)\/(v=.tuple #[(),(3:Int)]/\¬T.C.D.calm (2*T.aE)))
theorem GF(w:J)(cs:Array aa)(h:cs.size=6):Sem.run aj (Instr.buildSlice 228 1 #[(0,.agg cs)]) w=.ok (.slice (some w.heap.size) 1 1) (w.alloc (.cells cs 232)):=by
 have h0:((Tryz.prog.info? 232).bind (·.zero)).isSome=true:=by kernel_rfl
 obtain⟨z,a⟩:=mz.1 h0;obtain⟨i,hi,b⟩:=rJ a;have h1:(Tryz.prog.underlying 232).isSome=true:=by kernel_rfl
 obtain⟨d,hd⟩:=mz.1 h1;exact xZ (sz:=6) w (by kernel_rfl) hd (by kernel_rfl) hi b h (by decide) (by decide)
theorem GG:hG aj 228 232 6 96:=⟨by kernel_rfl⟩
theorem yf{h:Nat}{n:aB}(a:n.leaf=decide (h=0)):((((h+1:Nat):Int):Int)==1)=n.leaf:=by
 rw[a,fU,kJ,cQ];omega
theorem yg{w:J}{T:aL}{tk:Y}{k:Key}{steps:O (Nat×aB×Nat)}(h:bJ w T)(cn:T.C.D.aO<=900000000)(bx:Src 1 w tk (aG k))(bA:∀q,az tk q->q<w.heap.size/\¬T.M q)(bB:ni T.P k T.aE T.root steps):
 aN aj 142 #[.pointer (some T.aX),tk] w (GD T steps w):=by
 have co:=h.num.2.1;refine okF (I7.uu (some T.aX) tk) I6.uu func142 ?_;(delta I7.uu r1 ai gY cl U a7 af gg ay st aK ar;dsimp only);refine⟨_,rfl,_,h.cells.2.2.2.1,_,rfl,_,h.cells.2.2.2.2,λs n8 n9 w'=>∃ (eK no:Nat) (l:O dx) (rest:O (Nat×aB×Nat)) (bU:Nat->Prop) (aD:bZ),n9=(eK:Nat)/\n8=(no:Nat)/\ni T.P k eK no rest/\l.map dx.st++rest=steps/\l.length+eK=T.aE/\
  bU=(λq=>T.E q\/az s q)/\(∀q,az s q->w.heap.size<=q)/\bJ w' ((T.b_ bU T.G).bg aD T.P)/\bL T ((T.b_ bU T.G).bg aD T.P) w w' (2*l.length)/\(∀j,aD.view j=T.C.view j)/\a8 6 232 w' s (bH dx.c l)/\
  ∀x∈l,bz (λq=>w.heap.size<=q/\¬((T.b_ bU T.G).bg aD T.P).M q) w' x.n x.K x.V x.D,λ_ _ n9 _=>n9.toNat,?_,?_⟩
 .have bD:T.E=λq=>T.E q\/az ⟨none,0,0⟩ q:=by
   funext q;refine propext ⟨.inl,λh=>h.resolve_right ?_⟩;rintro⟨A,aq,_⟩
   cases aq
  have a0:(T.b_ T.E T.G).bg T.C T.P=T:=rfl;refine⟨T.aE,T.root,[],steps,T.E,T.C,rfl,rfl,bB,rfl,by simp,bD,?_,by rw[a0];exact h,by rw[a0];exact .refl _ _,λ_=>rfl,?_,λx hx=>(by cases hx)⟩
  .rintro q ⟨A,aq,_⟩
   cases aq
  .exact⟨rfl,bn _,by decide,.inl ⟨rfl,rfl⟩⟩
 have fin:∀ {w':J}{bU:Nat->Prop}{aD:bZ}{s:Y}{k:Nat},bJ w' ((T.b_ bU T.G).bg aD T.P)->bL T ((T.b_ bU T.G).bg aD T.P) w w' k->bU=(λq=>T.E q\/az s q)->(∀q,az s q->w.heap.size<=q)->bJ w' (T.bg aD T.P)/\bL T (T.bg aD T.P) w w' k:=by
  intro w' bU aD s k h1 h2 g z;have F:∀q,T.E q->bU q:=λq a=>by rw[g];exact .inl a
  exact⟨h1.grow (W:=λ_=>False) (E:=T.E) (G:=T.G) (ad.refl _ _) (λ_ h=>h.elim) (λq a=>.inl (F q a)) (λq a=>.inr (.inl a)) λq a=>(h.c2 q a).2.2,
   h2.step (W:=λ_=>False) (ad.refl _ _) (λ_ h=>h.elim) (λq a=>.inl (F q a)) λq a=>.inl a⟩
 rintro s _ _ cq ⟨eK,no,l,rest,bU,ab,rfl,rfl,a6,a9,hlen,H,L,t,R,f,ap,c1⟩;have cr:=R.ae.size;refine⟨λaJ=>?_,λbE=>?_⟩
 .obtain⟨o,rfl⟩:∃bF,eK=bF+1:=⟨eK-1,by have:(eK:Int)>0:=b1 aJ;omega⟩
  obtain⟨n,bG,bI,a_,rfl,ba⟩:=a6;obtain⟨bK,S⟩:=t.ek no n bI;have bM:ab.D.aO<=999999999:=by
   have:ab.D.aO<=T.C.D.aO+2*l.length:=R.aO;omega
  refine(ye t bM bK S.two _).use ?_;rintro _ r ⟨B,h2,ac,bb,be⟩;have ax:=R.trans ac;have cs:=ac.ae.size;rw[yf a_]at be;rcases be with ⟨bq,K,V,D,rfl,bN,aA⟩|⟨e,rfl,bO,bP⟩
  .obtain rfl:=gL.uniq S bN
   obtain⟨_,aC,cv⟩:=S.is;have bQ:=aC.e4;have cw:=vm aC;refine⟨n.leaf,K,V,D,0,rfl,bd (vs:=[false,(),(),()]) rfl λbR X aH bT=>?_⟩;refine⟨X.b9 rfl ?_,rfl,cu X (us:=[n.leaf,K,V,D]) rfl rfl λag aI aM bV=>⟨λd=>(by cases d),λ_=>?_⟩⟩
   .intro v f
    simp only[cS,eS,eW]at f;rcases f with rfl|rfl|rfl|rfl<;>trivial
   have bf:Ext r ag:=Ext.cm aH aM (bn _);have cx:=bf.size;obtain⟨bS,ay,aR,aF⟩:=bC aI;refine⟨_,bS,K,ay,V,aR,D,aF,#[no,n.leaf,K,V,D,(0:Int)],by kernel_rfl,?_⟩;refine bd (vs:=[(0:Int),false,(),(),(),(0:Int)]) rfl λcy bh bi cz=>?_;refine⟨bh.b9 rfl ?_,rfl,cu bh (us:=[no,n.leaf,K,V,D,(0:Int)]) rfl rfl λaP aQ bj cA=>?_⟩
   .intro v f
    simp only[cS,eS,eW]at f;rcases f with rfl|rfl|rfl|rfl|rfl|rfl<;>trivial
   have ah:Ext r aP:=Ext.cm (bf.trans bi) bj I;have aT:Var aP r.heap.size [n.leaf,K,V,D] 202:=(aI.ext bi).ae bj I;obtain⟨sb,bW⟩:∃sb,sb=ag.heap.size:=⟨_,rfl⟩;obtain⟨nb,bX⟩:∃nb,nb=r.heap.size:=⟨_,rfl⟩;rw[←bW]at aQ⊢;rw[←bX]at aT⊢;have bY:=aA.ext ah;refine cj (λn40 u=>n40=(((if o=0 then no else n.kids.getD (di n.keys k) 0:Nat)):Int)/\Ext r u/\Var u sb (dx.c ⟨no,n,if o=0 then 0 else di n.keys k,K,V,D⟩) 232) (λq a=>⟨λak=>?_,λak=>?_⟩) ?_
   .have N:o≠0:=by
     have:((o+1:Nat):Int)>1:=b1 ak;omega
    have b0:n.leaf=false:=by rw[a_];simp[N]
    have cB:=aC.p2 b0;have cC:=vg n.keys k;obtain⟨bS,ay,aR,aF⟩:=bC aT;have b2:Src 1 aP tk (aG k):=(bx.ae ax.ae λq a b3=>(bA q a).2 (aL.gh b3)).ext ah;refine⟨_,bS,K,ay,V,aR,D,aF,(nV bY b2 bQ I).use ?_⟩;rintro _ bl ⟨rfl,aU⟩;have bm:=aQ.ext aU;obtain⟨au,aw⟩:=dH bm (i:=5) (by simp);rw[av];refine⟨_,rfl,au,aw,aS ?_⟩;have bo:=dn bl sb 5 (.int .i64 ((di n.keys k:Nat):Int));have bp:=dJ bm (i:=5) (.int .i64 ((di n.keys k:Nat):Int));have br:Ext r (bl.setCell ⟨sb,5,none⟩ (.int .i64 ((di n.keys k:Nat):Int))):=Ext.cm (ah.trans aU) bo I;have b4:=(aT.ext aU).ae bo I;obtain⟨d0,d1,d2,d3⟩:=bC b4;obtain⟨A,aq,d,b5⟩:=cH.at (aA.ext br).kids (i:=di n.keys k) I;refine⟨D,d3,_,bp.cell,A,aq,d,_,b5,a _ _ ⟨?_,br,?_⟩⟩
    .rw[if_neg N,ft,du I];rfl
    .rw[if_neg N]
     exact bp
   .have N:o=0:=by
     have:¬((o+1:Nat):Int)>1:=cp ak;omega
    refine a _ _ ⟨by rw[if_pos N],ah,?_⟩;rw[if_pos N];exact aQ
   rintro _ u ⟨rfl,bs,b6⟩;have cD:=bs.size;refine⟨_,b6.rd rfl,⟨some u.heap.size,1,1⟩,_,GF _ _ rfl,?_⟩;have aV:=eA u (.cells (dx.c ⟨no,n,if o=0 then 0 else di n.keys k,K,V,D⟩).toArray 232);have Q:=bs.trans aV;have b7:=Q.size;have b8:=aV.size;have cb:=ap.1;rw[gK _ (nh l)]at cb;have Z:∀q,az s q->bU q:=λq a=>by rw[H];exact .inr a
   have cc:a8 6 232 r s (bH dx.c l):=ap.ae ac.ae λq a b=>t.jC (Z q a) b;obtain⟨x,aY⟩:∃x:dx,x=⟨no,n,if o=0 then 0 else di n.keys k,K,V,D⟩:=⟨_,rfl⟩;rw[←aY]at aV Q b7 b8⊢;have cd:∀v∈dx.c x,Plain v:=by
    intro v f;unfold dx.c at f;simp only[cS,eS,eW]at f;rcases f with rfl|rfl|rfl|rfl|rfl|rfl<;>trivial
   obtain⟨al,am,a1,a2,a3,a4,a5⟩:=GG.append (cG:=228) (x:=⟨some u.heap.size,1,1⟩) (Src.new (T:=232) u (dx.c x) 1 rfl) (cc.ext Q) cd (by show(2*(s.len+1)+1000)*96<=_;omega);have cE:=a4.size;have aZ:∀q,az al q->w.heap.size<=q:=λq a=>by
    rcases a5 q a with h1|h1
    .exact L q h1
    .omega
   obtain⟨j5,bt⟩:∃j5,j5=λq=>T.E q\/az al q:=⟨_,rfl⟩;have an:∀q,j5 q->T.E q\/az al q:=λq a=>by rw[bt]at a;exact a
   have F:∀q,T.E q->bU q:=λq a=>by rw[H];exact .inl a
   have ce:bH dx.c (l++ [x])=bH dx.c l++dx.c x:=by rw[lF];simp[bH]
   have cf:bJ am ((T.b_ j5 T.G).bg B T.P):=by
    refine(h2.ext Q).grow (E:=j5) (G:=T.G) a4 (λq a _=>.inl (Z q a)) (λq a=>?_) (λq a=>.inr (.inl a)) λq a hg=>?_
    .rcases an q a with h1|h1
     .exact .inl (F q h1)
     .rcases a5 q h1 with g|g
      .exact .inl (Z q g)
      .exact .inr (.inr ⟨g,a8.lt a2 q h1⟩)
    .rcases an q a with h1|h1
     .exact(h.c2 q h1).2.2 hg
     .have g:=h.lt (q:=q) (.inr (.inr (.inr (.inr hg))))
      have:=aZ q h1;omega
   have cg:bL T ((T.b_ j5 T.G).bg B T.P) w am (2*(l++ [x]).length):=by
    have h1:=(ax.trans (bL.ext _ Q)).mono (l:=2*(l++ [x]).length) (by rw[ct,iN];omega);refine h1.step (E:=j5) (G:=T.G) a4 (λq a ak=>by have:=L q a;omega) (λq a=>?_) λq a=>.inl a;rcases an q a with h1|h1
    .exact .inl (F q h1)
    .exact .inr (.inr (aZ q h1))
   have bv:∀ {m:aB}{K V D:Y},bz (λq=>w.heap.size<=q/\¬((T.b_ bU T.G).bg B T.P).M q) r m K V D->bz (λq=>w.heap.size<=q/\¬((T.b_ j5 T.G).bg B T.P).M q) am m K V D:=λ{m K V D} b=>by
    have h1:=(b.ext Q).aW (C:=λq=>q<(u.alloc (.cells (dx.c x).toArray 232)).heap.size/\w.heap.size<=q/\¬((T.b_ bU T.G).bg B T.P).M q) λq a d=>⟨a,d⟩;refine(bz.ae h1 a4 λq a ch=>a.2.2 (.inr (.inr (.inr (.inl (Z q ch)))))).aW λq _ d=>⟨d.2.1,λb=>d.2.2 ?_⟩;rcases b with b|b|b|b|b
    .exact .inl b
    .exact .inr (.inl b)
    .exact .inr (.inr (.inl b))
    .refine .inr (.inr (.inr (.inl ?_)))
     show bU q;rcases an q b with g|g
     .exact F q g
     .rcases a5 q g with z|z
      .exact Z q z
      .have:=d.1;omega
    .exact .inr (.inr (.inr (.inr b)))
   have bw:IntKind.wrap .i64 (((o+1:Nat):Int)-1)=(o:Nat):=by rw[bu I I];omega
   refine⟨al,am,a1,⟨o,_,l++ [x],bG,j5,B,bw,rfl,?_,?_,by rw[ct,iN];omega,bt,aZ,cf,cg,λj=>(bb j).trans (f j),by rw[ce];exact a2,?_⟩,?_⟩
   .cases o with
    |zero=>exact ba
    |succ m=>rw[if_neg I];exact ba
   .rw[←a9,fV,cM,aY];rfl
   .intro y aa
    rcases cP.1 aa with aa|aa
    .exact bv (ac.bk (c1 y aa))
    .obtain rfl:=fh.1 aa
     subst aY;exact bv (aA.aW λq _ d=>⟨by have:=d.1;omega,d.2⟩)
   .rw[bw]
    show(o:Int).toNat<(((o+1:Nat):Int)).toNat;omega
  .refine⟨false,bc,bc,bc,e,rfl,bd (vs:=[false,(),(),()]) rfl λbR X aH bT=>?_⟩
   refine⟨X.b9 rfl ?_,rfl,cu X (us:=[false,(),(),()]) rfl rfl λag aI aM bV=>⟨λ_=>?_,λd=>?_⟩⟩
   .intro v f
    simp only[cS,eS,eW]at f;rcases f with rfl|rfl|rfl|rfl<;>trivial
   .have hx:Ext r ag:=Ext.cm aH aM (bn _)
    have he:e=3/\¬ab.D.calm 2:=by
     rcases bO with h1|h1|⟨_,_,h1⟩
     .exact h1
     .obtain⟨p,au,_⟩:=S
      rw[au]at h1;cases h1
     .exact absurd S (h1 n)
    obtain⟨rfl,ci⟩:=he;obtain⟨g,z⟩:=fin (k:=2*T.aE) (h2.ext hx) ((ax.trans (bL.ext _ hx)).mono I) H L;exact⟨B,g,z,λj=>(bb j).trans (f j),.inr ⟨rfl,λhc=>ci (R.calm 2 (f_ hc I))⟩⟩
   .simp at d;exact absurd d bP
 .have h0:eK=0:=by
   have:¬(eK:Int)>0:=cp bE;omega
  subst h0;have ck:rest=[]:=a6;subst ck;obtain⟨g,z⟩:=fin (k:=2*T.aE) t (R.mono I) H L;refine⟨ab,g,z,f,.inl ⟨s,l,rfl,by rw[←a9,fO],ap,λq a=>⟨L q a,λb=>?_⟩,λx hx=>?_⟩⟩
  .have cF:=L q a
   have ao:bU q:=by rw[H];exact .inr a
   rcases b with b|b|b|b|b
   .exact(t.ca.inv.fg q (.inr (.inr (.inl ao)))).2 b
   .exact(t.c2 q ao).1 b
   .exact(t.c2 q ao).2.1 b
   .have:=h.lt (q:=q) (.inr (.inr (.inr (.inl b))));omega
   .exact(t.c2 q ao).2.2 b
  .refine(c1 x hx).aW λq _ d=>⟨d.1,λb=>d.2 ?_⟩
   rcases b with b|b|b|b|b
   .exact .inl b
   .exact .inr (.inl b)
   .exact .inr (.inr (.inl b))
   .refine .inr (.inr (.inr (.inl ?_)))
    show bU q;rw[H];exact .inl b
   .exact .inr (.inr (.inr (.inr b)))
def aL.iJ(T:aL)(f:Nat->ah):aL:={T with f:=f}
structure dB where
 cb:Nat
 ma:Y
 gA:Y
 made:O Nat
 left:O Nat
structure dj(w:J)(T:aL)(c:dB):Prop where
 t:bJ w T
 v:Var w c.cb [.pointer (some T.aX),c.ma,c.gA] 297
 ma:a8 1 3 w c.ma (dR c.made)
 gA:a8 1 3 w c.gA (dR c.left)
 gc:T.G c.cb
 fo:∀q,az c.ma q->T.G q/\q≠c.cb/\¬az c.gA q
 kx:∀q,az c.gA q->T.G q/\q≠c.cb
 ns:¬T.C.D.ro
theorem yh{w:J}{s:Y}{ds:O Nat}(d:Nat)(b:a8 1 3 w s (dR ds))(i:ds.length<=1000000):
 ∃ (a:Y) (w':J),Sem.run aj (Builtin.append_ #[58,58] 58 #[s,.slice (some w.heap.size) 1 1]) (w.alloc (.cells #[d] 3))=.ok a w'/\
  a8 1 3 w' a (dR (ds++ [d]))/\ad (az s) w w'/\(∀k,az a k->az s k\/w.heap.size<=k)/\ad (az s) (w.alloc (.cells #[d] 3)) w':=by
 have j:s.len=ds.length:=by have:=b.1;rw[m_]at this;omega
 have hc:Ext w (w.alloc (.cells #[d] 3)):=eA _ _;have l:(w.alloc (.cells #[d] 3)).heap.size=w.heap.size+1:=rG _ _;obtain⟨a,w',h1,h2,m,c,e⟩:=p1.append (cG:=58) (x:=⟨some w.heap.size,1,1⟩) (Src.new (T:=3) w [d] 1 rfl) (b.ext hc) (λv f=>by rw[fh.1 f];trivial) (by show(2*(s.len+1)+1000)*8<=_;omega);exact⟨a,w',h1,by simpa[dR] using h2,(ad.cF hc).trans c,λk g=>(e k g).imp id (λh=>I),c⟩
section
variable {w w':J}{T an:aL}{c:dB}
theorem dj.of{W:Nat->Prop}(h:dj w T c)(d:bJ w' an)(hc:ad W w w')(b8:∀q,T.G q->¬W q)(f:an.aX=T.aX)(b:∀q,T.G q->an.G q)(g:an.C.D.bI=T.C.D.bI:=by rfl):dj w' an c:=
 ⟨d,by rw[f];exact h.v.ae hc (b8 _ h.gc),h.ma.ae hc λq a=>b8 q (h.fo q a).1,h.gA.ae hc λq a=>b8 q (h.kx q a).1,b _ h.gc,λq a=>⟨b q (h.fo q a).1,(h.fo q a).2⟩,λq a=>⟨b q (h.kx q a).1,(h.kx q a).2⟩,λe=>h.ns λi=>g▸e i⟩
theorem dj.ext(h:dj w T c)(hx:Ext w w'):dj w' T c:=h.of (h.t.ext hx) hx (λ_ _ h=>h) rfl λ_ h=>h
theorem dj.cells(h:dj w T c):w.cell? c.cb=some (.pointer (some T.aX))/\w.cell? (Addr.add c.cb 1)=some (.slice c.ma.a c.ma.len c.ma.cap)/\w.cell? (Addr.add c.cb 2)=some (.slice c.gA.a c.gA.len c.gA.cap):=by
 rw[av,av];exact⟨h.v.cell,h.v.cell,h.v.cell⟩
theorem bJ.rS(h:bJ w T){q:Nat}(a:T.G q):¬cY T.C q:=λhf=>(h.ca.inv.fg q (.inr (.inr (.inr a)))).2 hf
theorem bJ.vM{f:Nat->ah}(h:bJ w T)(hs:eP w' T.sb T.n f T.g T.s1 T.s2)(hc:ad (fm T.sb T.s1 T.s2) w w'):bJ w' (T.iJ f)/\bL T (T.iJ f) w w' 0:=
 ⟨⟨h.t.ae hc h.jF,hs,h.ca.ae hc λq a=>.inr (.inl a),h.jF,h.c2,h.hV,h.n,h.num,h.ek,h.bI,h.low⟩,
  ⟨rfl,rfl,rfl,rfl,rfl,rfl,rfl,rfl,rfl,rfl,bn _,λ_ h=>h,hc.mono λq _ a=>.inr (.inr (.inl a)),λq h=>.inl h,λq h=>.inl h⟩⟩
theorem GH(h:dj w T c)(no:Nat)(x:c.made.length<=100000):
 ∃ (b:Y) (ag:J),Sem.run aj (Builtin.append_ #[58,58] 58 #[c.ma,.slice (some w.heap.size) 1 1]) (w.alloc (.cells #[no] 3))=.ok b ag/\
  ad (az c.ma) (w.alloc (.cells #[no] 3)) ag/\(∃u:aa,ag.cell? ⟨c.cb,1,none⟩=some u)/\ag.frozen? ⟨c.cb,1,none⟩=false/\
  ∀j,j=ag.setCell ⟨c.cb,1,none⟩ b->dj j (T.b_ T.E λq=>T.G q\/az b q) {c with ma:=b,made:=c.made++ [no]}/\bL T (T.b_ T.E λq=>T.G q\/az b q) w j 0:=by
 obtain⟨b,ag,au,aw,d,f,o⟩:=yh no h.ma I;have b8:∀q,az c.ma q->T.G q:=λq a=>(h.fo q a).1;have y:=d.size;have l:=h.v.ae d λa=>(h.fo _ a).2.1 rfl;obtain⟨bA,bO⟩:=dH l (i:=1) (by simp);refine⟨b,ag,au,o,bA,bO,?_⟩;rintro _ rfl;have g:=dn ag c.cb 1 b;have p:=dJ l (i:=1) b;have k:ad T.G w (ag.setCell ⟨c.cb,1,none⟩ b):=cr (d.mono λq _ a=>b8 q a) g λq _ e=>by rw[e];exact h.gc
 have z:=k.size;have aJ:∀q,az b q->q<ag.heap.size:=λq a=>a8.lt aw q a;have m:∀q,az b q->T.G q\/(w.heap.size<=q/\q<(ag.setCell ⟨c.cb,1,none⟩ b).heap.size):=λq a=>by
  rcases f q a with h1|h1
  .exact .inl (b8 q h1)
  .exact .inr ⟨h1,by have:=aJ q a;have:=g.size;omega⟩
 have n:∀q,az b q->q≠c.cb:=λq a e=>by
  rcases f q a with h1|h1
  .exact(h.fo q h1).2.1 e
  .have:=h.v.lt;omega
 have r:∀q,az b q->¬az c.gA q:=λq a e=>by
  rcases f q a with h1|h1
  .exact(h.fo q h1).2.2 e
  .have:=a8.lt h.gA q e;omega
 have s:=h.t.grow (E:=T.E) (G:=λq=>T.G q\/az b q) k (λq a _=>.inr a) (λq a=>.inl a) (λq a=>by
  rcases a with a|a
  .exact .inr (.inl a)
  .exact .inr (m q a)) λq a hg=>by
  rcases hg with hg|hg
  .exact(h.t.c2 q a).2.2 hg
  .rcases f q hg with h1|h1
   .exact(h.t.c2 q a).2.2 (b8 q h1)
   .have:=h.t.lt (q:=q) (.inr (.inr (.inr (.inl a))));omega
 refine⟨⟨s,p,?_,(h.gA.ae d λq a e=>(h.fo q e).2.2 a).ae g λq a e=>(h.kx q a).2 e,.inl h.gc,λq a=>⟨.inr a,n q a,r q a⟩,λq a=>⟨.inl (h.kx q a).1,(h.kx q a).2⟩,h.ns⟩,?_⟩
 .have:a8 1 3 ag b (dR (c.made++ [no])):=aw
  exact this.ae g λq a e=>n q a e
 .have h0:bL T T w w 0:=.refl _ _
  exact h0.step k (λq a _=>.inr (.inr (.inr a))) (λq a=>.inl a) λq a=>by
   rcases a with a|a
   .exact .inl a
   .exact(m q a).imp id λe=>e.1
theorem BT(h:dj w T c)(no:Nat)(x:c.left.length<=100000):
 ∃ (b:Y) (ag:J),Sem.run aj (Builtin.append_ #[58,58] 58 #[c.gA,.slice (some w.heap.size) 1 1]) (w.alloc (.cells #[no] 3))=.ok b ag/\
  ad (az c.gA) (w.alloc (.cells #[no] 3)) ag/\(∃u:aa,ag.cell? ⟨c.cb,2,none⟩=some u)/\ag.frozen? ⟨c.cb,2,none⟩=false/\
  ∀j,j=ag.setCell ⟨c.cb,2,none⟩ b->dj j (T.b_ T.E λq=>T.G q\/az b q) {c with gA:=b,left:=c.left++ [no]}/\bL T (T.b_ T.E λq=>T.G q\/az b q) w j 0:=by
 obtain⟨b,ag,au,aw,d,f,o⟩:=yh no h.gA I;have b8:∀q,az c.gA q->T.G q:=λq a=>(h.kx q a).1;have y:=d.size;have l:=h.v.ae d λa=>(h.kx _ a).2 rfl;obtain⟨bA,bO⟩:=dH l (i:=2) (by simp);refine⟨b,ag,au,o,bA,bO,?_⟩;rintro _ rfl;have g:=dn ag c.cb 2 b;have p:=dJ l (i:=2) b;have k:ad T.G w (ag.setCell ⟨c.cb,2,none⟩ b):=cr (d.mono λq _ a=>b8 q a) g λq _ e=>by rw[e];exact h.gc
 have z:=k.size;have aJ:∀q,az b q->q<ag.heap.size:=λq a=>a8.lt aw q a;have m:∀q,az b q->T.G q\/(w.heap.size<=q/\q<(ag.setCell ⟨c.cb,2,none⟩ b).heap.size):=λq a=>by
  rcases f q a with h1|h1
  .exact .inl (b8 q h1)
  .exact .inr ⟨h1,by have:=aJ q a;have:=g.size;omega⟩
 have n:∀q,az b q->q≠c.cb:=λq a e=>by
  rcases f q a with h1|h1
  .exact(h.kx q h1).2 e
  .have:=h.v.lt;omega
 have r:∀q,az c.ma q->¬az b q:=λq e a=>by
  rcases f q a with h1|h1
  .exact(h.fo q e).2.2 h1
  .have:=a8.lt h.ma q e;omega
 have s:=h.t.grow (E:=T.E) (G:=λq=>T.G q\/az b q) k (λq a _=>.inr a) (λq a=>.inl a) (λq a=>by
  rcases a with a|a
  .exact .inr (.inl a)
  .exact .inr (m q a)) λq a hg=>by
  rcases hg with hg|hg
  .exact(h.t.c2 q a).2.2 hg
  .rcases f q hg with h1|h1
   .exact(h.t.c2 q a).2.2 (b8 q h1)
   .have:=h.t.lt (q:=q) (.inr (.inr (.inr (.inl a))));omega
 refine⟨⟨s,p,(h.ma.ae d λq a e=>(h.fo q a).2.2 e).ae g λq a e=>(h.fo q a).2.1 e,?_,.inl h.gc,λq a=>⟨.inl (h.fo q a).1,(h.fo q a).2.1,r q a⟩,λq a=>⟨.inr a,n q a⟩,h.ns⟩,?_⟩
 .have:a8 1 3 ag b (dR (c.left++ [no])):=aw
  exact this.ae g λq a e=>n q a e
 .have h0:bL T T w w 0:=.refl _ _
  exact h0.step k (λq a _=>.inr (.inr (.inr a))) (λq a=>.inl a) λq a=>by
   rcases a with a|a
   .exact .inl a
   .exact(m q a).imp id λe=>e.1
end
def cc(T:aL):Nat:=T.n-eQ (λi=>T.f i||T.g i) T.n
theorem BU{s t:Nat->ah}:∀ {n:Nat},(∀i,i<n->s i=t i)->eQ s n=eQ t n
 |0,_=>rfl
 |n+1,h=>by
  unfold eQ
  rw[BU (n:=n) λi hi=>h i I,h n I]
theorem rT{s t:Nat->ah}{k:Nat}(a:s k=false)(ht:t k=true)(he:∀i,i≠k->t i=s i):∀ {n:Nat},k<n->eQ t n=eQ s n+1
 |0,h=>by omega
 |n+1,h=>by
  unfold eQ
  by_cases e:k=n
  .subst e
   rw[BU (s:=t) (t:=s) (n:=k) λi hi=>he i I,a,ht]
   simp
  .rw[rT a ht he (n:=n) I,he n I]
   omega
theorem BV{t:Nat->ah}:∀ {n:Nat},(∀i,i<n->t i=true)->eQ t n=n
 |0,_=>rfl
 |n+1,h=>by
  unfold eQ
  rw[BV (n:=n) λi hi=>h i I,h n I]
  simp
theorem BW{T:aL}(h:1<=cc T):∃no,firstFree (λi=>T.f i||T.g i) T.n=some no:=by
 cases hf:firstFree (λi=>T.f i||T.g i) T.n with
 |some no=>exact⟨no,rfl⟩
 |none=>
  have:=BV (Gg hf);unfold cc at h;rw[this]at h;omega
structure dk(T an:aL)(c c':dB)(m l:O Nat)(w w':J)(k:Nat):Prop where
 to:bL T an w w' k
 E:an.E=T.E
 G:∀q,T.G q->an.G q
 root:an.root=T.root
 aE:an.aE=T.aE
 cb:c'.cb=c.cb
 made:c'.made=c.made++m
 left:c'.left=c.left++l
 bk:m.Nodup
 jG:∀no∈m,(T.f no||T.g no)=false/\no<T.n
 f:∀no,an.f no=(T.f no||decide (no∈m))
 eF:∀no,(T.f no||T.g no)=true->an.P no=T.P no/\an.C.view no=T.C.view no
 room:cc an+m.length=cc T
theorem dk.ext{w w':J}(T:aL)(c:dB)(h:Ext w w'):dk T T c c [] [] w w' 0:=
 ⟨.ext T h,rfl,λ_ h=>h,rfl,rfl,rfl,by simp,by simp,List.nodup_nil,λ_ h=>(by cases h),λno=>by simp,λ_ _=>⟨rfl,rfl⟩,by simp⟩
theorem dk.trans{T an j:aL}{c c' o:dB}{m p l r:O Nat}{w w' s:J}{k t:Nat}(h1:dk T an c c' m l w w' k)(h2:dk an j c' o p r w' s t):dk T j c o (m++p) (l++r) w s (k+t):=by
 have hg:an.g=T.g:=h1.to.g;have u:an.n=T.n:=h1.to.n;have hf:∀no,(T.f no||T.g no)=true->(an.f no||an.g no)=true:=λno h=>by
  rw[h1.f,hg]
  cases d:T.f no<;>cases i:T.g no<;>simp[d,i]at h⊢
 refine⟨h1.to.trans h2.to,h2.E.trans h1.E,λq h=>h2.G q (h1.G q h),h2.root.trans h1.root,h2.aE.trans h1.aE,h2.cb.trans h1.cb,by rw[h2.made,h1.made,cM],by rw[h2.left,h1.left,cM],?_,λno h=>?_,λno=>?_,λno h=>?_,?_⟩
 .rw[oQ]
  refine⟨h1.bk,h2.bk,λa v b x e=>?_⟩;subst e;have:=(h2.jG a x).1;rw[h1.f]at this;simp[v]at this
 .rcases cP.1 h with h|h
  .exact h1.jG no h
  .have d:=h2.jG no h
   rw[h1.f,hg,u]at d;refine⟨?_,d.2⟩
   cases y:T.f no<;>cases z:T.g no<;>simp[y,z]at d⊢
 .rw[h2.f,h1.f]
  simp only[cP,Bool.decide_or,Bool.or_assoc]
 .have d:=h2.eF no (hf no h)
  have i:=h1.eF no h;exact⟨d.1.trans i.1,d.2.trans i.2⟩
 .have:=h1.room
  have:=h2.room;rw[ct];omega
theorem dk.mono{T an:aL}{c c':dB}{m l:O Nat}{w w':J}{k j:Nat}(h:dk T an c c' m l w w' k)(a:k<=j):dk T an c c' m l w w' j:=⟨h.to.mono a,h.E,h.G,h.root,h.aE,h.cb,h.made,h.left,h.bk,h.jG,h.f,h.eF,h.room⟩
def BX(T:aL)(c:dB)(n:aB)(w:J)(v:aa)(w':J):Prop:=
 ∃ (no:Nat) (an:aL) (c':dB),dj w' an c'/\dk T an c c' [no] [] w w' 1/\
  ((v=.tuple #[no,(0:Int)]/\an.P no=some n)\/(v=.tuple #[no,(3:Int)]/\¬T.C.D.calm 1))
theorem cC.eG{n:aB}(h:cC n)(h2:bF n<=400):n.keys.length<=200/\n.vals.length<=200/\n.kids.length<=201:=by
 have:=vm h;rcases h with h|h
 .have:=h.len
  have a:n.kids.length=0:=by rw[h.kids];rfl
  omega
 .have:=h.len
  have a:n.vals.length=0:=by rw[h.vals];rfl
  omega
theorem vN{B:Nat->Prop}{w:J}{T:aL}{c:dB}{n:aB}{K V D:Y}(h:dj w T c)(be:T.C.D.aO<=900000100)(W:1<=cc T)(bf:c.made.length<=1000)(aE:bz B w n K V D)(hs:cC n)(h2:bF n<=232):
 aN aj 283 #[.pointer (some c.cb),cW n K V D] w (BX T c n w):=by
 obtain⟨no,X⟩:=BW W;obtain⟨u,y,_⟩:=BG X;have H:=h.t.s.bq;have bh:=hs.eG I;refine okF (I7.uZ (some c.cb) n.leaf K V D) I6.uZ func283 ?_;(delta I7.uZ a7 U af b6 ai eH st bl ay;dsimp only);refine bd (vs:=[n.leaf,K,V,D]) rfl λw1 Z ab bi=>?_;obtain⟨bS,ay,aR,aF⟩:=bC Z;refine⟨_,bS,K,ay,V,aR,D,aF,(pP (aE.ext ab) I I I).use ?_⟩;rintro _ aH ⟨aI,ac⟩;rcases aI with ⟨s,rfl,aJ,aK,_,_⟩|⟨e,rfl,he,aM⟩
 rotate_left
 .have:=aM hs;omega
 have L:=ab.trans ac;have r:=h.ext L;refine⟨s,0,rfl,λd=>(by cases d),λ_=>⟨_,rfl,_,r.cells.1,_,rfl,_,r.t.cells.2.1,(BI r.t.s).use ?_⟩⟩;rintro _ aP ⟨rfl,gd,ag⟩;rw[X]at gd⊢;obtain⟨aQ,M⟩:=r.t.vM gd ag;have ah:dj aP (T.iJ (df T.f no true)) c:=r.of aQ ag (λq a hf=>(h.t.hV q a).2 hf) rfl λ_ h=>h;refine⟨(no:Nat),0,rfl,λd=>(by cases d),λ_=>⟨_,rfl,_,ah.cells.2.1,?_⟩⟩;obtain⟨z,ak,au,aw,aT,aU,aV⟩:=GH ah no I;refine aS ⟨z,ak,au,_,rfl,by rw[av];exact aT,by rw[av];exact aU,aS ?_⟩;rw[av];obtain⟨o,al⟩:∃o,o=ak.setCell ⟨c.cb,0+1,none⟩ z:=⟨_,rfl⟩;rw[←al];obtain⟨A,O⟩:=aV o al;obtain⟨am,bj⟩:∃am,am=λq=>T.G q\/az z q:=⟨_,rfl⟩;have ap:∀q,T.N q->q<w.heap.size:=λq a=>h.t.lt (aL.gh a);have bm:=L.size;have bo:=M.ae.size;have bp:=O.ae.size;have aq:ad T.N aH o:=M.ae.trans O.ae;have aW:Var o w.heap.size [n.leaf,K,V,D] 202:=(Z.ext ac).ae aq λa=>by have:=ap _ a;omega
 have aX:a8 1 5 o s (aG (jj n)):=aJ.ae aq λq a aY=>by have:=ap _ aY;have:=aK q a;omega
 have hlen:=xE hs;have H:2<=no:=by
  have e:(T.f no||T.g no)=false:=y;have F:T.g no=false:=by cases hg:T.g no<;>simp_all
  have:=h.t.low;rcases dC no 2 with Q|Q
  .rcases nw no with ar|ar
   .rw[ar,this.1]at F;cases F
   .rw[show no=1 from I,this.2]at F;cases F
  .exact Q
 have R:m7 ⟨if n.leaf then 1 else 2,T.gen,jj n⟩:=by
  refine⟨?_,?_,h.t.num.2.2,by show(jj n).length<=232;omega⟩
  .show 1<=(if n.leaf then 1 else 2);split<;>omega
  .show(if n.leaf then 1 else 2)<=4;split<;>omega
 refine cj (λn27 aZ=>n27=((if n.leaf then 1 else 2:Nat):Int)/\aZ=o) (λq a=>⟨n.leaf,aW.cell,λd=>a _ _ ⟨by rw[d];rfl,rfl⟩,λd=>a _ _ ⟨by rw[d];rfl,rfl⟩⟩) ?_;rintro _ _ ⟨rfl,rfl⟩;refine⟨_,rfl,_,A.cells.1,_,rfl,_,A.t.cells.2.2.1,(vx (no:=no) (p:=⟨if n.leaf then 1 else 2,T.gen,jj n⟩) aX.src I R).use ?_⟩;rintro _ br ⟨s2,rfl,ax,aA,a0⟩;have l:=A.ext aA;refine⟨s2,0,rfl,λd=>(by cases d),λ_=>⟨_,rfl,_,l.cells.1,_,rfl,_,l.t.cells.1,(Bz l.t.ca (by show T.C.D.aO<=999999999;omega) (no:=no) (by rw[l.t.n];exact u) H (λhs=>by have:=l.t.bI no hs;have e:(T.f no||T.g no)=false:=y;rcases this with this|this;(rw[show T.g no=true from this,Bool.or_true]at e;cases e);exact l.ns this) ax.src (rE no R) λq a=>⟨a8.lt ax q a,λhf=>?_⟩).use ?_⟩⟩
 .have:=a0 q a
  have:=A.t.lt (q:=q) (.inl hf);omega
 rintro _ a1 ⟨aD,a2,S,a3⟩;have a4:∀j,df T.f no true j=(T.f j||decide (j∈ [no])):=λj=>by
  unfold df;by_cases e:j=no
  .subst e;simp
  .simp[e]
 have aC:(T.f no||T.g no)=false:=y;have a5:T.n-eQ (λi=>df T.f no true i||T.g i) T.n+1=cc T:=by
  have:=rT (s:=λi=>T.f i||T.g i) (t:=λi=>df T.f no true i||T.g i) (k:=no) y (by simp[df]) (λi hi=>by simp[df,hi]) u;unfold cc at W⊢;have Q:=mj (λi=>T.f i||T.g i) T.n;omega
 have main:∀ (P':Nat->ao aB) (v:aa),(∀j,j≠no->P' j=T.P j)->(∀j,j≠no->aD.view j=T.C.view j)->(∀j bk,P' j=some bk->j<T.n/\gL T.gen bk.leaf j (aD.view j) bk)->
  ((v=.tuple #[no,(0:Int)]/\P' no=some n)\/(v=.tuple #[no,(3:Int)]/\¬T.C.D.calm 1))->BX T c n w v a1:=by
  intro P' v a6 ed a9 m;obtain⟨a_,ba⟩:=l.t.qa (P:=P') a2 S a9;have bb:=l.of (an:=((T.iJ (df T.f no true)).b_ T.E λq=>T.G q\/az z q).bg aD P') a_ S.ae (λq a=>l.t.rS a) rfl (λ_ h=>h) S.bI;refine⟨no,_,_,bb,⟨?_,rfl,λq a=>.inl a,rfl,rfl,rfl,rfl,(fO _).symm,by simp,λx hx=>?_,a4,λj b=>?_,a5⟩,m⟩
  .have:=(((bL.ext T L).trans M).trans O).trans ((bL.ext _ aA).trans ba)
   exact this.mono I
  .obtain rfl:=fh.1 hx
   exact⟨aC,u⟩
  .have:j≠no:=λe=>by rw[e,aC]at b;cases b
   exact⟨a6 j this,ed j this⟩
 rcases a3 with ⟨rfl,m⟩|⟨rfl,bc,m⟩
 .refine⟨0,rfl,main (λj=>if j=no then some n else T.P j) _ (λj b=>if_neg b) (λj b=>(m j).trans (if_neg b)) (λj bk b=>?_) (.inl ⟨rfl,if_pos rfl⟩)⟩
  by_cases e:j=no
  .subst e
   rw[if_pos rfl]at b
   cases b;rw[m,if_pos rfl];exact⟨u,_,vr I R,bn _,rfl,⟨hs,rfl,h2,rfl⟩,H⟩
  .rw[if_neg e]at b
   rw[m,if_neg e];exact h.t.ek j bk b
 .refine⟨3,rfl,main T.P _ (λ_ _=>rfl) (λj _=>m j) (λj bk b=>?_) (.inr ⟨rfl,bc⟩)⟩
  rw[m];exact h.t.ek j bk b
end Go.Proofs.YtkdhdlfonmgheaaGreat
