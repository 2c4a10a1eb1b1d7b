/- Contracts of the functions that the statement reaches, and the plain laws over them; each theorem stands with its conditions. -/
import Derived.OpenShut
import Derived.Shelf.SlIterI.Nil
import Derived.Shelf.SortM.Plain
import Derived.Shelf.SortM.SortNone
import Derived.Test.YtbjddgakboindaaGreatProg
import Derived.Test.YtbjddgakboindaaGreatRows
import Derived.Test.YtbjddgakboindaaGreatBLNone2
namespace Go.Proofs.YtbjddgakboindaaGreat
open Go aQ Go.Proofs.Tryz
def br.fG(D:br)(i:Nat):O dA:=match D.waits.find? λx=>x.i==i with
 |some x=>x.jo
 |none=> []
theorem Cm(D:br)(h:∀x∈D.waits,x.jo≠ [])(i:Nat):D.now i=if D.fG i=[] then D.cd.getD i [] else (D.fG i).getLastD []:=by
 unfold br.now br.fG
 cases hf:D.waits.find? λx=>x.i==i with
 |some x=>
  have hx:=j0 hf;simp only;rw[if_neg (h x hx)]
 |none=>simp
def br.calm(D:br)(k:Nat):Prop:=(D.cE.getD 1 0= -1\/(k:Int)<=D.cE.getD 1 0)/\(D.cE.getD 2 0= -1\/(k:Int)<=D.cE.getD 2 0)
def br.ln(D:br):Int->Prop:=λn=>(∀j,D.cy j=true)->D.writes=n
def br.ro(D:br):Prop:=∀i,D.cy i=true
def br.key(D:br):(O dA×(Nat->aj)×(Nat->O dA)×(Int->Prop)×aj)×Int:=((D.cd,D.cy,D.e7,D.ln,D.r1),D.cE.getD 3 0)
theorem de{W V:Nat->Prop}{w w' c:I}(h1:af W w w')(a:af V w' c)(h:∀q,q<w.heap.size->V q->W q):af W w c:=
 ⟨a.os.trans h1.os,a.tape.trans h1.tape,a.output.trans h1.output,dQ h1.size a.size,λk b cU=>(a.block k (fB b h1.size) λd=>cU (h k b d)).trans (h1.block k b cU)⟩
theorem ig{D:br}{k l:Nat}(h:D.calm k)(a:l<=k):D.calm l:=⟨h.1.imp id λh=>J,h.2.imp id λh=>J⟩
theorem kG{D:br}{k m:Nat}(b:k=1\/k=2)(e:D.cE.length=4)(h:D.calm (m+1)):(D.cR k).calm m/\D.gR k=false:=by
 obtain⟨h1,a⟩:=h;have c:1<D.cE.length:=by omega
 have d:2<D.cE.length:=by omega
 rcases b with rfl|rfl
 .have aG:(D.cR 1).cE.getD 1 0=(hV (D.cE.getD 1 0)).2:=by
   show(D.cE.set 1 _).getD 1 0=_;rw[gn (by rw[dE];omega),jd]
  have aM:(D.cR 1).cE.getD 2 0=D.cE.getD 2 0:=by
   show(D.cE.set 1 _).getD 2 0=_;rw[gn (by rw[dE];omega),gf J,gn d]
  unfold br.calm br.gR;rw[aG,aM];unfold hV;rcases h1 with h1|h1
  .rw[if_pos h1]
   exact⟨⟨.inl rfl,a.imp id λh=>J⟩,rfl⟩
  .rw[if_neg J,if_neg J]
   exact⟨⟨.inr (by show(m:Int)<=_-1;omega),a.imp id λh=>J⟩,rfl⟩
 .have aG:(D.cR 2).cE.getD 2 0=(hV (D.cE.getD 2 0)).2:=by
   show(D.cE.set 2 _).getD 2 0=_;rw[gn (by rw[dE];omega),jd]
  have aM:(D.cR 2).cE.getD 1 0=D.cE.getD 1 0:=by
   show(D.cE.set 2 _).getD 1 0=_;rw[gn (by rw[dE];omega),gf J,gn c]
  unfold br.calm br.gR;rw[aG,aM];unfold hV;rcases a with a|a
  .rw[if_pos a]
   exact⟨⟨h1.imp id λh=>J,.inl rfl⟩,rfl⟩
  .rw[if_neg J,if_neg J]
   exact⟨⟨h1.imp id λh=>J,.inr (by show(m:Int)<=_-1;omega)⟩,rfl⟩
theorem ta(D:br){k:Nat}(a:k=1\/k=2):(D.cR k).key=D.key:=by
 unfold br.key br.cR;rcases a with rfl|rfl<;>simp[g4]<;>rfl
theorem tb{sz:Nat}{w:I}{s:ae}{α:Type}{c:α->O Y}{l:O α}(h:Src sz w s (bt c l))(hc:∀x∈l,(c x).length=sz)(e:0<sz){i:Nat}(hi:i<l.length):
 s.len=l.length/\∃A,s.a=some A/\aV w (A.add (i*sz)) 0 sz=some (c l[i]):=by
 have b:s.len=l.length:=by
  have:=h.len;rw[jR l hc]at this;exact(Nat.eq_of_mul_eq_mul_right e this).symm
 refine⟨b,?_⟩
 cases d:s.a with
 |none=>
  have:=congrArg List.length (h.nil d);rw[jR l hc,mX]at this;have:l.length*sz≠0:=Nat.mul_ne_zero J J;omega
 |some A=>
  refine⟨A,rfl,?_⟩;have f:i*sz+sz<=s.len*sz:=by
   rw[b,←Nat.succ_mul];exact rh _ hi
  rw[Ev (h.rd A d) f,FM hc hi]
def tc:O Y:=ax (List.replicate 256 0)
def Cn(D:br)(i:Nat)(w:I)(v:Y)(w':I):Prop:=v=.agg (ax (D.now i)).toArray/\Ext w w'
theorem FQ{w:I}{D:br}(h:dw w D){i:Nat}(hi:i<D.n)(R:D.bx<=1000000000):
 aC ai 164 #[.pointer (some D.d),i] w (Cn D i w):=by
 have S:=h.bB;have f:=h.vq hi;refine okF (aa.x8 (some D.d) (i:Int)) ao.x8 func164 ?_;(delta aa.x8 uy ay ah al Bk ad aR k9 bq;dsimp only);refine aN (vs:=tc) (by kernel_rfl) λw1 g u _=>?_;have hd:=h.ext u;refine⟨_,rfl,some D.mr,hd.g_,?_⟩;have y:tc.length=256:=by rw[tc,dh,mg]
 have fin:∀ (K:O Y->I->Prop),(∀a,Ext w a->K (ax (D.now i)) a)->b_ w1 w.heap.size (Array.toList (ax (D.now i)).toArray)/\Array.size (ax (D.now i)).toArray=256/\an (setCells w1 w.heap.size 0 (Array.toList (ax (D.now i)).toArray)) λa=>∃b:O Y,aV a w.heap.size 0 256=some b/\K b a:=by
  intro K E;refine⟨g.bX (by rw[rn,dh,f,y]) (by rw[rn];exact ic _),by simp[dh,f],cA g (us:=ax (D.now i)) (by rw[dh,f,y]) rfl λa F G _=>⟨_,F.rd (by rw[dh,f]),E a (Ext.bN u G (ba _))⟩⟩
 cases hf:D.waits.find? λx=>x.i==i with
 |some x=>
  have hx:=j0 hf;have H:x.i=i:=by
   have:=kX hf;exact eq_of_beq this
  have j:=hd.m.uv s_ pd (k:=(i:Int)) (v:=x.s) (ew.2 ⟨x,hx,by unfold iN.e;rw[H]⟩) false;have L:=(h.wn x hx).1;have hlen:0<x.jo.length:=List.length_pos_iff.2 L;have T:=(h.wn x hx).2.2;obtain⟨z,A,ar,p⟩:=tb (hd.ws x hx).src (λs hs=>by rw[dh];exact h.c1 x hx s hs) (by decide) (i:=x.jo.length-1) J;have q:D.now i=x.jo[x.jo.length-1]'J:=by
   unfold br.now;rw[hf];show x.jo.getLastD []=_;rw[List.getLastD_eq_getLast?,List.getLast?_eq_getElem?,eJ J];rfl
  refine⟨x.s,w1,j,λ_=>⟨A,ar,?_⟩,λr=>?_⟩
  .rw[z,bT (n:=(x.jo.length:Int)-1) J J]
   have M:Int.toNat ((x.jo.length:Int)-1)=x.jo.length-1:=by omega
   rw[M];refine⟨⟨J,J⟩,_,p,?_⟩;rw[←q];exact fin (λb a=>Cn D i w (.agg b.toArray) a) λa t=>⟨rfl,t⟩
  .have:=cL r
   omega
 |none=>
  obtain⟨U,h1,N⟩:=zl FO;have j:=hd.m.oL s_ pd (k:=(i:Int)) h1 N (λv g=>by
   obtain⟨x,hx,he⟩:=ew.1 g;have P:=ky.1 hf x hx;unfold iN.e at he;simp only[Prod.mk.injEq]at he;apply P;have:x.i=i:=by omega
   rw[this];simp) false
  have B:i<D.cd.length:=hi;have q:D.now i=D.cd[i]:=by
   unfold br.now;rw[hf];exact gn B
  have Q:Src 256 w1 ⟨some D.lb,D.cd.length,D.cd.length⟩ (bt ax D.cd):=by
   have C:=jR (c:=ax) (sz:=256) D.cd λs hs=>by rw[dh];exact h.sl s hs
   have:=bc.pY (sz:=256) (o:=0) (n:=D.cd.length) (cap:=D.cd.length) hd.l (by simp[C]);rw[kx,rn,ey (by rw[C];exact ba _)]at this;exact this
  obtain⟨z,A,ar,p⟩:=tb Q (λs hs=>by rw[dh];exact h.sl s hs) (by decide) B;refine⟨⟨none,0,0⟩,w1,j,λr=>by simp at r,λ_=>⟨_,rfl,_,hd.fk,A,ar,⟨J,by show(i:Int)<(D.cd.length:Int);omega⟩,_,p,?_⟩⟩;rw[←q];exact fin (λb a=>Cn D i w (.agg b.toArray) a) λa t=>⟨rfl,t⟩
def Lf(D:br)(i:Nat)(w:I)(v:Y)(w':I):Prop:=
 dw w' (D.cR 1)/\af (λq=>q=D.d) w w'/\
  ((D.gR 1=true/\v=.tuple #[(),(3:Int)])\/
   (D.gR 1=false/\∃s:ae,v=.tuple #[s,(0:Int)]/\b5 (λq=>w.heap.size<=q) w' s (D.now i)))
theorem Lg{w:I}{D:br}(h:dw w D){i:Nat}(hi:i<D.n)(u:D.bx<=1000000000):
 aC ai 332 #[.pointer (some D.d),i] w (Lf D i w):=by
 refine okF (aa.yK (some D.d) (i:Int)) ao.yK func332 ?_;(delta aa.yK bF ah ay mq uy ad;dsimp only);refine(FP h _).use ?_;rintro _ _ ⟨rfl,rfl⟩;refine⟨_,rfl,λhb=>?_,λ_=>⟨_,rfl,(Cl h (k:=1) (by decide)).use ?_⟩⟩
 .have hb:¬(0<=(i:Int)/\(i:Int)<D.n):=by simpa using hb
  omega
 rintro _ ag ⟨rfl,a,g,y⟩;refine⟨_,rfl,λhb=>⟨a,g,.inl ⟨hb,rfl⟩⟩,λhb=>(FQ a (i:=i) hi u).use ?_⟩;rintro _ j ⟨rfl,f⟩;have b:=h.vq hi;refine⟨_,rfl,aN (vs:=tc) (by kernel_rfl) λz m p B=>⟨m.bX (by rw[rn,dh];show(D.now i).length=_;rw[b,tc,dh,mg]) (by rw[rn];exact ic _),by rw[we,dh];exact b,cA m (us:=ax (D.now i)) (by rw[dh,b,tc,dh,mg]) rfl λaF r s C=>?_⟩⟩;have E:=f.size;have aJ:D.d<ag.heap.size:=a.v.lt;refine⟨(a.ext (f.trans p)).ak s (λq t e=>by have:=a.lt t;omega),de (g.trans (af.bL (f.trans p))) s λq t e=>J,.inr ⟨hb,⟨some j.heap.size,256,256⟩,rfl,?_,ba _,λk x=>?_⟩⟩
 .have:=r.u_ (o:=0) (n:=256) (c:=256) (l:=D.now i) (by rw[dh,b];decide) (by rw[kx,ey (by rw[dh,b];decide)])
  exact this
 .obtain⟨A,ar,rfl⟩:=x
  cases ar;have:=r.lt;exact⟨by show w.heap.size<=j.heap.size;omega,this⟩
theorem FR:∀ (l:O Y) (k:Nat) (a:Array Y),(l.zipIdx k).foldl (λcs (p:Y×Nat)=>cs.setIfInBounds p.2 p.1) a=gE a k l
 | [],_,_=>rfl
 |v::l,k,a=>by
  rw[List.zipIdx_cons,List.foldl_cons]
  exact FR l (k+1) (a.setIfInBounds k v)
theorem FT{P:Program}{T e:TypeId}{d:TypeDesc}{i:TypeInfo}{z:Y}{sz:Nat}{cs:Array Y}(w:I)(h1:P.underlying T=some (.slice e))(f:P.underlying e=some d)(g:P.cellsOf e=sz)(hi:P.info? e=some i)(h:i.zero=some z)(a:cs.size=sz)(q:sz≠0)(r:sz<=16777216):
 Sem.run P (Instr.buildSlice T 1 #[(0,.agg cs)]) w=.ok (.slice (some w.heap.size) 1 1) (w.alloc (.cells cs e)):=by
 have b:=iq (P:=P) (w:=w) f;rw[g]at b;have k:Instr.fill (λi=>some (i*sz,sz)) ((Array.range (1*sz)).map λx=>z.cells[x%z.cells.size]!) [(0,.agg cs)]=some cs:=by
  have hc:(Value.agg cs).cells=cs:=rfl;rw[Instr.fill];simp only[hc];rw[if_neg (by simp[a]),Instr.fill];rw[←Array.foldl_toList,Array.toList_zipIdx];have e:(λ(cs:Array Y) (x:Y×Nat)=>match x with|(c,j)=>cs.setIfInBounds (0*sz+j) c)=λcs (p:Y×Nat)=>cs.setIfInBounds p.2 p.1:=by
   funext cs x;obtain⟨c,j⟩:=x;simp
  rw[e,FR]
  congr 1
  apply tE.1;rw[j5 _ _ _ (by simp[a])];simp[a]
 have l:=oC (w:=w) hi;have m:¬(1*sz>2^24):=by
  have:(2:Nat)^24=16777216:=rfl;omega
 have n:¬(1*sz=0):=by omega
 have o:Instr.fill (λi=>some (i*sz,sz)) ((Array.range (1*sz)).map λx=>z.cells[x%z.cells.size]!) (#[(0,Value.agg cs)]:Array (Nat×Y)).toList=some cs:=k;simp only[Instr.buildSlice,Sem.run_bind,db h1,b,Result.andThen,m,n,if_false,zeroValue,l,h,Sem.run_pure,o];simp[newRow,newObj,Sem.run]
theorem FU(w:I)(l:dA)(a:l.length=256):
 Sem.run ai (Instr.buildSlice 214 1 #[(0,.agg (ax l).toArray)]) w=.ok (.slice (some w.heap.size) 1 1) (w.alloc (.cells (ax l).toArray 300)):=by
 have h:((Tryz.prog.info? 300).bind (·.zero)).isSome=true:=by kernel_rfl
 obtain⟨z,b⟩:=q5.1 h;obtain⟨i,hi,c⟩:=zl b;exact FT (d:=.array 256 5) (sz:=256) w (by kernel_rfl) (by kernel_rfl) (by kernel_rfl) hi c (by rw[we,dh,a]) (by decide) (by decide)
theorem Lh:iG ai 214 300 256 256:=⟨by kernel_rfl⟩
def br.put(D:br)(i:Nat)(s:ae)(l:dA):br:=
 {D.cR 2 with waits:=⟨i,s,D.fG i++ [l]⟩::D.waits.filter (λx=>x.i !=i),writes:=IntKind.wrap .i64 (D.writes+1),bx:=D.bx+1}
theorem FV{D:br}{i j:Nat}(h:j≠i):(D.waits.filter λx=>x.i !=i).find? (λx=>x.i==j)=D.waits.find? λx=>x.i==j:=by
 rw[List.find?_filter]
 congr 1
 funext x;by_cases e:x.i=j
 .rw[e];simp[h]
 .simp[e]
theorem FW(D:br)(i:Nat)(s:ae)(l:dA)(j:Nat):(D.put i s l).fG j=if j=i then D.fG i++ [l] else D.fG j:=by
 unfold br.fG br.put;by_cases h:j=i
 .subst h
  simp[br.fG]
 .rw[if_neg h]
  simp only;rw[List.find?_cons_of_neg (by simp;omega),FV h]
theorem qL(D:br)(i:Nat)(s:ae)(l:dA)(j:Nat):(D.put i s l).now j=if j=i then l else D.now j:=by
 unfold br.now br.put;by_cases h:j=i
 .subst h
  simp
 .rw[if_neg h]
  simp only;rw[List.find?_cons_of_neg (by simp;omega),FV h];rfl
def FX(D:br)(i:Nat)(l:dA)(w:I)(v:Y)(w':I):Prop:=
 (D.gR 2=true/\v=.int .i64 3/\dw w' (D.cR 2)/\af (λq=>q=D.d) w w')\/
 (D.gR 2=false/\v=.int .i64 0/\∃s:ae,dw w' (D.put i s l)/\af (cH D) w w'/\∀q,aB s q->cH D q\/w.heap.size<=q)
theorem zn{w:I}{D:br}{b:ae}{l:dA}(h:dw w D){i:Nat}(hi:i<D.n)(be:D.bx<=1000000000)(hb:Src 1 w b (ax l))(K:l.length=256)(hd:∀q,aB b q->¬cH D q):
 aC ai 95 #[.pointer (some ⟨D.d,0,none⟩),.int .i64 ((i:Nat):Int),.slice b.a b.len b.cap] w (FX D i l w):=by
 have az:=len8 hb;have bf:=h.bB;refine okF (aa.xQ (some ⟨D.d,0,none⟩) ((i:Nat):Int) b) ao.xQ func95 ?_;(delta aa.xQ bF ah ay bC Be ap r1 st al;dsimp only);refine(FP h _).use ?_;rintro _ _ ⟨rfl,rfl⟩;have aU:decide (0<=(i:Int)/\(i:Int)<D.n)=true:=eL ⟨J,J⟩;refine⟨_,rfl,λh1=>?_,λ_=>⟨_,rfl,(Cl h (k:=2) (by decide)).use ?_⟩⟩
 .rw[aU,az,K]at h1
  simp at h1
 rintro _ ag ⟨rfl,G,V,bg⟩;refine⟨_,rfl,λW=>.inl ⟨W,rfl,G,V⟩,λW=>aO ?_⟩;obtain⟨o,hold⟩:∃o:ae,(match D.waits.find? λx=>x.i==i with|some x=>x.s|none=>⟨none,0,0⟩)=o:=⟨_,rfl⟩;have t:=G.ext (b1 ag);have aW:Src 1 ag.drew b (ax l):=(hb.ak V λq f e=>hd q f (.inl e)).ext (b1 ag)
 have aX:aT 256 300 ag.drew o (bt ax (D.fG i))/\(∀q,aB o q->cH D q/\q≠D.d/\q≠D.lb/\q≠D.mr)/\(∀x∈D.waits,x.i≠i->∀q,aB x.s q->¬aB o q)/\(D.fG i).length<=D.bx/\(∀s∈D.fG i,s.length=256)/\
  ∀w':I,dc w' D.mr encZ (D.waits.map iN.e)->Sem.run ai (Instr.lookup 215 (.map (some D.mr)) (.int .i64 ((i:Nat):Int)) false) w'=.ok (.slice o.a o.len o.cap) w':=by
  cases hf:D.waits.find? λx=>x.i==i with
  |some x=>
   rw[hf]at hold;have hold:x.s=o:=hold;subst hold;have hx:=j0 hf;have Q:x.i=i:=by
    have:=kX hf;exact eq_of_beq this
   have e:D.fG i=x.jo:=by unfold br.fG;rw[hf]
   rw[e];refine⟨t.ws x hx,λq f=>⟨.inr (.inr (.inr ⟨x,hx,f⟩)),λe=>(h.a2 x hx).1 (e▸f),λe=>(h.a2 x hx).2.1 (e▸f),λe=>(h.a2 x hx).2.2 (e▸f)⟩,λy p z=>h.a3 y p x hx J,(h.wn x hx).2.2,h.c1 x hx,λw' hm=>hm.uv s_ pd (k:=(i:Int)) (v:=.slice x.s.a x.s.len x.s.cap) (ew.2 ⟨x,hx,by unfold iN.e;rw[Q]⟩) false⟩
  |none=>
   rw[hf]at hold;have hold:(⟨none,0,0⟩:ae)=o:=hold;subst hold;have e:D.fG i=[]:=by unfold br.fG;rw[hf]
   rw[e];obtain⟨bh,h1,L⟩:=zl FO;refine⟨aT.none _ _ _,λq f=>(gU q f).elim,λx _ _ q _ f=>(gU q f).elim,c8 _,λs hs=>(by cases hs),λw' hm=>hm.oL s_ pd (k:=(i:Int)) h1 L (λv X=>?_) false⟩;obtain⟨x,hx,he⟩:=ew.1 X;have aY:=ky.1 hf x hx;unfold iN.e at he;simp only[Prod.mk.injEq]at he;apply aY;have:x.i=i:=by omega
   rw[this];simp
 obtain⟨aD,B,aE,bi,aH,aI⟩:=aX;obtain⟨A,ar,aZ⟩:∃A,b.a=some A/\aV ag.drew A 0 256=some (ax l):=by
  cases aJ:b.a with
  |none=>
   have:=congrArg List.length (hb.nil aJ);rw[dh,K]at this
   cases this
  |some A=>
   refine⟨A,rfl,?_⟩;have:=aW.rd A aJ;rwa[az,K]at this
 have a0:¬aB o A.block:=λf=>hd _ ⟨A,ar,rfl⟩ (B _ f).1
 have aK:∀C:I,Ext ag.drew C->∃ (g:ae) (aF:I),Sem.run ai (Builtin.append_ #[214,214] 214 #[.slice o.a o.len o.cap,.slice (some ⟨C.heap.size,0,none⟩) 1 1]) (C.alloc (.cells (ax l).toArray 300))=.ok (.slice g.a g.len g.cap) aF/\
  aT 256 300 aF g (bt ax (D.fG i++ [l]))/\af (aB o) C aF/\(∀k,aB g k->aB o k\/C.heap.size<=k)/\af (aB o) (C.alloc (.cells (ax l).toArray 300)) aF:=by
  intro C a4;have hlen:o.len=(D.fG i).length:=by
   have:=aD.1;rw[jR (c:=ax) (sz:=256) _ λs hs=>by rw[dh];exact aH s hs]at this;omega
  have Z:=c5 C (.cells (ax l).toArray 300);obtain⟨g,aF,aA,F,E,M,N⟩:=Lh.append (df:=214) (x:=⟨some ⟨C.heap.size,0,none⟩,1,1⟩) (Src.new (T:=300) C (ax l) 1 (by rw[dh,K])) (aD.ext (a4.trans Z)) (ic l) (by rw[hlen];show(2*(_+1)+1000)*256<=_;omega);refine⟨g,aF,aA,?_,(af.bL Z).trans M,λk a5=>(N k a5).imp id λh=>?_,M⟩
  .rw[vo]
   have:bt ax [l]=ax l:=by simp[bt]
   rw[this];exact F
  .have:=Z.size;omega
 have aL:∀ (aF:I) (g:ae),dc aF D.mr encZ (D.waits.map iN.e)->∃j:I,Sem.run ai (Instr.mapUpdate 215 (.map (some D.mr)) (.int .i64 ((i:Nat):Int)) (.slice g.a g.len g.cap)) aF=.ok () j/\af (λq=>q=D.mr) aF j/\
  dc j D.mr encZ ((iN.mk i g (D.fG i++ [l])::D.waits.filter λx=>x.i !=i).map iN.e):=by
  intro aF g hm;have ab:=hm.keys;rw[kV]at ab
  cases hf:D.waits.find? λx=>x.i==i with
  |some x=>
   have hx:=j0 hf;have Q:x.i=i:=by
    have:=kX hf;exact eq_of_beq this
   obtain⟨bp,bM,he⟩:=List.append_of_mem hx;have z:∀y∈bp++bM,y.i≠i:=by
    intro y p e;rw[he,e_,gu]at ab;have h1:=(mT.nodup_iff).1 ab;rw[List.nodup_cons]at h1;apply h1.1;rw[←e_];refine ew.2 ⟨y,p,?_⟩;show((y.i:Nat):Int)=((x.i:Nat):Int);omega
   have ac:D.waits.filter (λx=>x.i !=i)=bp++bM:=by
    rw[he,nw,List.filter_cons_of_neg (by simp[Q])];rw[nv.2 λy p=>by have:=z y (kW _ p);simpa using this,nv.2 λy p=>by have:=z y (jc _ p);simpa using this]
   have a6:(D.waits.map iN.e).Perm (((i:Int),.slice x.s.a x.s.len x.s.cap)::(bp++bM).map iN.e):=by
    rw[he,e_,gu,e_];have:x.e=((i:Int),.slice x.s.a x.s.len x.s.cap):=by unfold iN.e;rw[Q]
    rw[this];exact mT
   obtain⟨j,aA,F,_,E⟩:=La s_ pd (hm.perm a6) (.slice g.a g.len g.cap);refine⟨j,aA,F,?_⟩;rw[ac];exact E
  |none=>
   have z:∀y∈D.waits,y.i≠i:=λy p e=>by
    have:=ky.1 hf y p;rw[e]at this;simp at this
   have ac:D.waits.filter (λx=>x.i !=i)=D.waits:=nv.2 λy p=>by simpa using z y p
   obtain⟨j,aA,F,_,E⟩:=K_ s_ pd (k:=(i:Int)) hm (λv X=>by
    obtain⟨x,hx,he⟩:=ew.1 X;unfold iN.e at he;simp only[Prod.mk.injEq]at he;exact z x hx J) (.slice g.a g.len g.cap)
   refine⟨j,aA,F,?_⟩;rw[ac];exact E
 have fin:∀ (aF j:I) (g:ae),af (aB o) ag.drew aF->aT 256 300 aF g (bt ax (D.fG i++ [l]))->(∀k,aB g k->aB o k\/ag.drew.heap.size<=k)->af (λq=>q=D.mr) aF j->dc j D.mr encZ ((iN.mk i g (D.fG i++ [l])::D.waits.filter λx=>x.i !=i).map iN.e)->
  ∃a23:av,(some ⟨D.d,0,none⟩:aq av)=some a23/\∃n24:Int,j.cell? (a23.add 6)=some (.int .i64 n24)/\∃R:av,(some ⟨D.d,0,none⟩:aq av)=some R/\(∃u:Y,j.cell? (R.add 6)=some u)/\j.frozen? (R.add 6)=false/\an (j.setCell (R.add 6) (.int .i64 (IntKind.wrap .i64 (n24+1)))) λa7=>FX D i l w (.int .i64 0) a7:=by
  intro aF j g S a8 ad aN a9;have a_:=t.v.ak S λf=>(B _ f).2.1 rfl;have aj:Var j D.d (D.cR 2).c 219:=a_.ak aN h.a1.2.1;have hlen:(D.cR 2).c.length=7:=G.Ck;obtain⟨s1,s2⟩:=eP aj (i:=6) (by rw[hlen];decide);have aP:j.cell? (Addr.add ⟨D.d,0,none⟩ 6)=some (.int .i64 D.writes):=by
   rw[aw,cz,aj.cell];unfold br.c;have:=G.f4;rw[kY (by rw[dU];omega),dU,this];rfl
  rw[aw,cz]at aP;refine⟨_,rfl,D.writes,by rw[aw,cz];exact aP,_,rfl,by rw[aw,cz];exact s1,by rw[aw,cz];exact s2,?_⟩;rw[aw,cz];have aQ:=dX j D.d 6 (.int .i64 (IntKind.wrap .i64 (D.writes+1)));have aR:=eO aj (i:=6) (.int .i64 (IntKind.wrap .i64 (D.writes+1)));have ba:(D.cR 2).c.set 6 (.int .i64 (IntKind.wrap .i64 (D.writes+1)))=(D.put i g l).c:=by
   have bb:=G.f4;have aG:(D.put i g l).c=(D.cR 2).cE.map (.int .i64)++ [.slice (some ⟨D.lb,0,none⟩) D.cd.length D.cd.length,.map (some D.mr),.int .i64 (IntKind.wrap .i64 (D.writes+1))]:=rfl;have aM:(D.cR 2).c=(D.cR 2).cE.map (.int .i64)++ [.slice (some ⟨D.lb,0,none⟩) D.cd.length D.cd.length,.map (some D.mr),.int .i64 D.writes]:=rfl;rw[aG,aM,wc _ _ (by rw[dU];omega),dU,bb];rfl
  rw[ba]at aR;have U:af (λq=>q=D.mr\/q=D.d) aF (j.setCell ⟨D.d,6,none⟩ (.int .i64 (IntKind.wrap .i64 (D.writes+1)))):=(aN.mono λq _ e=>.inl e).trans (aQ.mono λq _ e=>.inr e);have O:∀q,aB g q->q≠D.d/\q≠D.lb/\q≠D.mr:=λq f=>by
   have bj:=t.lt (q:=D.d) (.inl rfl);have bk:=t.lt (q:=D.lb) (.inr (.inl rfl));have bl:=t.lt (q:=D.mr) (.inr (.inr (.inl rfl)));rcases ad q f with h1|h1
   .exact(B q h1).2
   .exact⟨J,J,J⟩
  have H:∀x∈D.waits.filter (λx=>x.i !=i),x∈D.waits/\x.i≠i:=λx hx=>by
   obtain⟨h1,L⟩:=hY.1 hx;exact⟨h1,by simpa using L⟩
  refine aO (.inr ⟨W,rfl,g,⟨aR,?_,?_,?_,?_,h.sl,?_,h.cw,h.bB,G.f4,G.fr,h.a1,?_,?_,G.r⟩,?_,?_⟩)
  .exact bc.ak (bc.ak t.l S λf=>(B _ f).2.2.1 rfl) U (by
    rintro(e|e)
    .exact h.a1.2.2 e
    .exact h.a1.1 e.symm)
  .exact a9.ak aQ (λe=>h.a1.2.1 e.symm)
  .intro x hx
   rcases cY.1 hx with rfl|hx
   .exact a8.ak U λq f=>by
     rintro(e|e)
     .exact(O q f).2.2 e
     .exact(O q f).1 e
   .obtain⟨h1,L⟩:=H x hx
    refine((t.ws x h1).ak S λq f=>aE x h1 L q f).ak U λq f=>?_;rintro(e|e)
    .exact(h.a2 x h1).2.2 (e▸f)
    .exact(h.a2 x h1).1 (e▸f)
  .intro x hx
   rcases cY.1 hx with rfl|hx
   .refine⟨by simp,hi,?_⟩
    show(D.fG i++ [l]).length<=D.bx+1;rw[cT,jZ];omega
   .obtain⟨h1,L⟩:=H x hx
    have:=h.wn x h1;exact⟨this.1,this.2.1,Nat.le_succ_of_le this.2.2⟩
  .intro x hx
   rcases cY.1 hx with rfl|hx
   .intro s hs
    rcases cS.1 hs with hs|hs
    .exact aH s hs
    .rw[ej.1 hs];exact K
   .exact h.c1 x (H x hx).1
  .intro x hx
   rcases cY.1 hx with rfl|hx
   .exact⟨λf=>(O _ f).1 rfl,λf=>(O _ f).2.1 rfl,λf=>(O _ f).2.2 rfl⟩
   .exact h.a2 x (H x hx).1
  .have aS:∀y∈D.waits,y.i≠i->∀q,aB y.s q->¬aB g q:=λy p z q f P=>by
    rcases ad q P with h1|h1
    .exact aE y p z q f h1
    .have:=(t.ws y p).lt q f;omega
   intro x hx y p z q f P;rcases cY.1 hx with rfl|hx
   .rcases cY.1 p with rfl|p
    .exact z rfl
    .exact aS y (H y p).1 (λe=>z e.symm) q P f
   .rcases cY.1 p with rfl|p
    .exact aS x (H x hx).1 z q f P
    .exact h.a3 x (H x hx).1 y (H y p).1 z q f P
  .refine((V.mono λq _ e=>.inl e).trans ((af.bL (b1 ag)).trans (S.mono λq _ f=>(B q f).1))).trans (U.mono λq _ f=>?_)
   rcases f with e|e
   .exact .inr (.inr (.inl e))
   .exact .inl e
  .intro q f
   rcases ad q f with h1|h1
   .exact .inl (B q h1).1
   .have:ag.drew.heap.size=ag.heap.size:=rfl
    exact .inr J
 refine⟨aB o,_,rfl,λf=>(B _ f).2.1 rfl,some D.mr,t.g_,_,rfl,λf=>(B _ f).2.1 rfl,some D.mr,t.g_,J,A,ar,a0,_,aZ,⟨?_,?_⟩⟩
 .obtain⟨g,aF,aA,F,E,M,N⟩:=aK ag.drew (.refl _ _)
  have am:=t.m.ak E λf=>(B _ f).2.2.2 rfl;obtain⟨j,aG,aM,au⟩:=aL aF g am;exact⟨o,_,aI _ t.m,.refl _ _,⟨some ⟨ag.drew.heap.size,0,none⟩,1,1⟩,_,FU _ l K,af.bL (c5 _ _),g,aF,aA,N,j,aG,fin aF j g E F M aM au⟩
 .obtain⟨g,aF,aA,F,E,M,N⟩:=aK ag.drew (.refl _ _)
  have bd:=t.m.ext (c5 ag.drew (.cells (ax l).toArray 300));have am:=t.m.ak E λf=>(B _ f).2.2.2 rfl;obtain⟨j,aG,aM,au⟩:=aL aF g am;exact⟨⟨some ⟨ag.drew.heap.size,0,none⟩,1,1⟩,_,FU _ l K,af.bL (c5 _ _),o,_,aI _ bd,.refl _ _,g,aF,aA,N,j,aG,fin aF j g E F M aM au⟩
theorem Li{P:Program}{e:TypeId}{v:Y}{sz:Nat}(a:((P.info? e).bind (·.zero)).map (·.cells)=some (List.replicate sz v).toArray)(hc:P.cellsOf e=sz)(hs:0<sz)(n:Nat):hL P e n=(List.replicate (n*sz) v).toArray:=by
 unfold hL;rw[hc]
 cases hi:(P.info? e).bind (·.zero) with
 |none=>rw[hi]at a;cases a
 |some z=>
  rw[hi]at a;simp only[mS,Option.some.injEq]at a;simp only[Option.getD_some];apply Array.ext
  .simp
  .intro i h1 b
   have c:n*sz≠0:=by
    intro h;simp[h]at b
   simp only[c,if_false,a,Array.getElem_map,Array.getElem_range];have aJ:i%sz<sz:=hZ _ hs;simp[aJ]
theorem Lj(m n:Nat):bt ax (List.replicate n (List.replicate m 0))=List.replicate (n*m) (.int .u8 0):=by
 induction n with
 |zero=>simp[bt]
 |succ n a=>
  rw[List.replicate_succ,vp,a,ku,Nat.one_mul,Nat.add_comm];have e:ax (List.replicate m 0)=List.replicate m (Value.int .u8 0):=by simp[ax]
  rw[e,List.replicate_append_replicate]
def iO:dA:=List.replicate 256 0
theorem Lk(n:Nat):hL ai 300 n=(bt ax (List.replicate n iO)).toArray:=by
 unfold iO;rw[Lj];exact Li (by kernel_rfl) (by kernel_rfl) (by decide) n
def td(n d lb mr:Nat):br:=⟨d,lb,mr,[-1, -1, -1, -1],List.replicate n iO,[],0,0,λ_=>false,λ_=> [],true⟩
theorem Ll{w:I}{b:Nat}{vs:O Y}{T:TypeId}(h:Var w b vs T)(g:4<=vs.length):
 aC ai 89 #[.pointer (some b)] w (λv w'=>v=.tuple #[]/\Var w' b (List.replicate 4 (.int .i64 (-1))++vs.drop 4) T/\af (λq=>q=b) w w'/\w'.heap.size=w.heap.size):=by
 refine okF (aa.xN (some b)) ao.xN func89 ?_;(delta aa.xN dj ah ay st al;dsimp only);refine⟨λi w'=>∃j:Nat,i=j/\j<=4/\Var w' b (List.replicate j (.int .i64 (-1))++vs.drop j) T/\af (λq=>q=b) w w'/\w'.heap.size=w.heap.size,λi _=>((4:Int)-i).toNat,⟨0,rfl,J,h,.refl _ _,rfl⟩,?_⟩;rintro _ w1 ⟨j,rfl,k,c,hc,f⟩;refine⟨λaJ=>?_,λd=>?_⟩
 .have aJ:j<4:=by have:=b8 aJ;omega
  have a:Addr.add b (Int.toNat (j:Int)*1)=⟨b,j,none⟩:=by rw[d_,gd,aw,cz]
  obtain⟨s1,s2⟩:=eP c (i:=j) (by simp;omega);rw[bT (n:=(j:Int)+1) J J];refine⟨_,rfl,⟨J,by show(j:Int)<4;omega⟩,by rw[a];exact s1,by rw[a];exact s2,aO ⟨⟨j+1,J,J,?_,?_,?_⟩,?_⟩⟩
  .have:=eO c (i:=j) (.int .i64 (-1))
   rw[a];have e:(List.replicate j (Value.int .i64 (-1))++vs.drop j).set j (.int .i64 (-1))=List.replicate (j+1) (.int .i64 (-1))++vs.drop (j+1):=by
    rw[wc _ _ (by simp),mg,q9,lG (show j<vs.length from J),List.set_cons_zero,List.replicate_succ',c_];rfl
   rwa[e]at this
  .rw[a];exact hc.trans (dX _ _ _ _)
  .rw[a];simpa[World.setCell] using f
  .show((4:Int)-((j:Int)+1)).toNat<((4:Int)-(j:Int)).toNat
   omega
 .have d:j=4:=by have:=cL d;omega
  subst d;exact⟨rfl,c,hc,f⟩
theorem r0{n:Nat}(h1:16<=n)(k:n<=1600)(w:I):
 aC ai 43 #[n] w (λv w'=>∃d lb mr:Nat,v=.tuple #[.pointer (some d),(0:Int)]/\dw w' (td n d lb mr)/\Ext w w'/\∀q,cH (td n d lb mr) q->w.heap.size<=q):=by
 refine okF (aa.r0 (n:Int)) ao.r0 func43 ?_;(delta aa.r0 ah j7 ad xs eM;dsimp only);refine⟨λh=>?_,λ_=>⟨⟨J,J,J,J⟩,?_⟩⟩
 .simp only[jX,cX]at h;omega
 rw[Lk,d_];have g:=bc.new w (bt ax (List.replicate n iO)).toArray 300;have i:=c5 w (.cells (bt ax (List.replicate n iO)).toArray 300);have l:=na w (.cells (bt ax (List.replicate n iO)).toArray 300);obtain⟨w1,m⟩:∃w1,w1=w.alloc (.cells (bt ax (List.replicate n iO)).toArray 300):=⟨_,rfl⟩;rw[←m]at g i l⊢;obtain⟨aA,j⟩:=dc.make (P:=ai) (enc:=encZ) 215 w1;have a:=c5 w1 (.map #[] 0);have o:=na w1 (.map #[] 0);obtain⟨ag,p⟩:∃ag,ag=w1.alloc (.map #[] 0):=⟨_,rfl⟩;rw[←p]at aA j a o;refine aO ⟨some w1.heap.size,ag,aA,#[(0:Int),(0:Int),(0:Int),(0:Int),.slice (some w.heap.size) n n,.map (some w1.heap.size),(0:Int)],by kernel_rfl,aN (vs:=[(0:Int),(0:Int),(0:Int),(0:Int),.slice (some w.heap.size) n n,.map (some w1.heap.size),(0:Int)]) rfl λu r b y=>⟨_,rfl,(Ll r (by show 4<=7;decide)).use ?_⟩⟩;rintro _ z ⟨rfl,t,f,A⟩;refine⟨rfl,ag.heap.size,w.heap.size,w1.heap.size,rfl,⟨?_,?_,?_,λx hx=>(by cases hx),λx hx=>(by cases hx),λs hs=>?_,λx hx=>(by cases hx),?_,?_,rfl,λx hx=>?_,?_,λx hx=>(by cases hx),λx hx=>(by cases hx),λ_=>rfl⟩,Ext.bN (i.trans (a.trans b)) f J,?_⟩
 .have e:(td n ag.heap.size w.heap.size w1.heap.size).c=List.replicate 4 (.int .i64 (-1))++ [Value.int .i64 0,(0:Int),(0:Int),(0:Int),.slice (some w.heap.size) n n,.map (some w1.heap.size),(0:Int)].drop 4:=by
   unfold br.c td;simp
  rw[e];exact t
 .exact bc.ak ((g.ext a).ext b) f (by show¬w.heap.size=ag.heap.size;omega)
 .exact(j.ext b).ak f J
 .rw[Aj hs,iO,mg]
 .show 16<=(List.replicate n iO).length;simpa using h1
 .show(List.replicate n iO).length<=1600;simpa using k
 .have:x= -1:=by
   simp[td]at hx;exact hx
  subst this;exact⟨by decide,by decide⟩
 .exact⟨by show ag.heap.size≠w.heap.size;omega,by show ag.heap.size≠w1.heap.size;omega,by show w.heap.size≠w1.heap.size;omega⟩
 .rintro q (rfl|rfl|rfl|⟨x,hx,_⟩)
  .show w.heap.size<=ag.heap.size;omega
  .exact ba _
  .show w.heap.size<=w1.heap.size;omega
  .cases hx
structure fe where
 root:Nat
 aY:Nat
 map:Nat
 clock:Nat
 dL:Nat
 keys:Nat
 deriving DecidableEq
def FY:fe:=⟨0,0,0,0,0,0⟩
def fe.c(u:fe):O Y:=[u.root,u.aY,u.map,.int .u64 (u.clock:Nat),.int .u64 (u.dL:Nat),u.keys]
structure pe(u:fe):Prop where
 root:u.root<4294967296
 aY:u.aY<256
 map:u.map<4294967296
 clock:u.clock<18446744073709551616
 dL:u.dL<18446744073709551616
 keys:u.keys<4294967296
def ih(u:fe)(n:Nat):O UInt8:=[]++bU u.root 4++bU u.aY 1++bU u.map 4++bU n 4++bU u.clock 8++bU u.dL 8++bU u.keys 4
def te(b:O UInt8):fe:=⟨dS b 0 4,dS b 4 1,dS b 5 4,dS b 13 8,dS b 21 8,dS b 29 4⟩
def pg(u:fe)(n:Nat):Prop:=(u.root=0↔u.aY=0)/\u.aY<=12/\u.root<n/\u.map<n/\2<=u.map/\n<=1600
instance PC(u:fe)(n:Nat):Decidable (pg u n):=by unfold pg;infer_instance
def vr(no:Int)(l:O UInt8):Except Int (fe×Nat×Nat):=match gA no l with
 | .error e=>.error e
 | .ok p=>if p.kind≠3\/p.body.length≠33 then .error 4 else if pg (te p.body) (dS p.body 9 4) then .ok (te p.body,dS p.body 9 4,p.gen) else .error 4
theorem FZ(u:fe)(n:Nat):(ih u n).length=33:=by simp[ih,dR]
theorem Lm{u:fe}{n:Nat}(h:pe u)(c:n<4294967296):te (ih u n)=u/\dS (ih u n) 9 4=n:=by
 have e:∀ {k x m:Nat} (a b:O UInt8),ih u n=a++(bU x k++b)->a.length=m->x<256^k->dS (ih u n) m k=x:=λa b he d hx=>by rw[he];exact vg d hx
 have f:=h.keys;refine⟨?_,e (bU u.root 4++bU u.aY 1++bU u.map 4) (bU u.clock 8++(bU u.dL 8++bU u.keys 4)) (by simp[ih]) (by simp[dR]) c⟩;unfold te;rw[e (m:=0) [] (bU u.aY 1++(bU u.map 4++(bU n 4++(bU u.clock 8++(bU u.dL 8++bU u.keys 4))))) (by simp[ih]) rfl h.root,
  e (bU u.root 4) (bU u.map 4++(bU n 4++(bU u.clock 8++(bU u.dL 8++bU u.keys 4)))) (by simp[ih]) (by simp[dR]) h.aY,
  e (bU u.root 4++bU u.aY 1) (bU n 4++(bU u.clock 8++(bU u.dL 8++bU u.keys 4))) (by simp[ih]) (by simp[dR]) h.map,
  e (bU u.root 4++bU u.aY 1++bU u.map 4++bU n 4) (bU u.dL 8++bU u.keys 4) (by simp[ih]) (by simp[dR]) h.clock,
  e (bU u.root 4++bU u.aY 1++bU u.map 4++bU n 4++bU u.clock 8) (bU u.keys 4) (by simp[ih]) (by simp[dR]) h.dL,
  e (bU u.root 4++bU u.aY 1++bU u.map 4++bU n 4++bU u.clock 8++bU u.dL 8) [] (by simp[ih]) (by simp[dR]) f]
def kH(u:fe)(n gen:Nat):kh:=⟨3,gen,ih u n⟩
theorem Co{u:fe}{n gen:Nat}(hg:gen<18446744073709551616):o9 (kH u n gen):=⟨(by decide:1<=3),(by decide:3<=4),hg,by show(ih u n).length<=232;rw[FZ];decide⟩
theorem F0{u:fe}{n gen no:Nat}(h:pe u)(hu:pg u n)(hg:gen<18446744073709551616)(a:no<1600):vr no (e0 no (kH u n gen))=.ok (u,n,gen):=by
 unfold vr;rw[y7 a (Co hg)];have b:n<4294967296:=by have:=hu.2.2.2.2.2;omega
 obtain⟨h1,c⟩:=Lm h b;show(if (3:Nat)≠3\/(ih u n).length≠33 then _ else if pg (te (ih u n)) (dS (ih u n) 9 4) then Except.ok (te (ih u n),dS (ih u n) 9 4,gen) else _)=_;rw[h1,c,if_neg (by rw[FZ];simp),if_pos hu]
section
variable {w w':I}{h:Nat}{vs:O Y}{u:fe}
theorem fe.plain(u:fe):∀v∈u.c,Plain v:=by
 intro v a;simp only[fe.c,cY,fC,fM]at a;rcases a with rfl|rfl|rfl|rfl|rfl|rfl<;>trivial
theorem tf(a:Var w h u.c 169){K:Int->Int->Int->Int->Int->Int->Prop}(d:K (u.root:Nat) (u.aY:Nat) (u.map:Nat) (u.clock:Nat) (u.dL:Nat) (u.keys:Nat)):
 ∃cw:Int,w.cell? h=some (.int .i64 cw)/\∃bB:Int,w.cell? (Addr.add h 1)=some (.int .i64 bB)/\∃b:Int,w.cell? (Addr.add h 2)=some (.int .i64 b)/\
  ∃bk:Int,w.cell? (Addr.add h 3)=some (.int .u64 bk)/\∃n5:Int,w.cell? (Addr.add h 4)=some (.int .u64 n5)/\∃n6:Int,w.cell? (Addr.add h 5)=some (.int .i64 n6)/\K cw bB b bk n5 n6:=
 ⟨_,a.cell,_,by rw[aw];exact a.cell,_,by rw[aw];exact a.cell,_,by rw[aw];exact a.cell,_,by rw[aw];exact a.cell,_,by rw[aw];exact a.cell,d⟩
theorem F1(a:Var w h vs 169)(b:vs.length=6)(u:fe){K:I->Prop}(d:∀ag,Var ag h u.c 169->af (λq=>q=h) w ag->ag.heap.size=w.heap.size->K ag):
 b_ w h [u.root,u.aY,u.map,.int .u64 (u.clock:Nat),.int .u64 (u.dL:Nat),u.keys]/\(6:Nat)=6/\
  an (setCells w h 0 [u.root,u.aY,u.map,.int .u64 (u.clock:Nat),.int .u64 (u.dL:Nat),u.keys]) K:=
 ⟨a.bX (by rw[b];rfl) u.plain,rfl,cA a (us:=u.c) (by rw[b];rfl) rfl λag e hc f=>d ag e hc f⟩
end
theorem sm{w:I}{u:fe}(h:pe u){n:Nat}(y:n<4294967296):aC ai 165 #[.agg u.c.toArray,n] w (λv w'=>∃s:ae,v=s/\aT 1 5 w' s (ax (ih u n))/\Ext w w'/\fW w s):=by
 have h1:=h.root;have V:=h.aY;have z:=h.map;have W:=h.clock;have X:=h.dL;have A:=h.keys;have a:∀ {x:Nat},x<4294967296->IntKind.wrap .u64 (x:Int)=(x:Int):=λ{x} hx=>eZ J J;refine okF (aa.sm (u.root:Nat) (u.aY:Nat) (u.map:Nat) (u.clock:Nat) (u.dL:Nat) (u.keys:Nat) (n:Nat)) ao.sm func165 ?_;(delta aa.sm aZ r1 ad bn bh dJ dC;dsimp only);refine aN (vs:=u.c) rfl λw1 b B Y=>⟨_,b.cell,?_⟩;rw[a h1];refine(gV (s:=⟨none,0,0⟩) (l:=[]) (aT.none 1 5 w1).src (c8 _) (n:=u.root) J (by decide)).use ?_;rintro _ ag ⟨s2,rfl,C,d,Z⟩;have e:=b.ext d;refine⟨s2,rfl,_,by rw[aw];exact e.cell,?_⟩;rw[a (x:=u.aY) J];refine(gV C.src (by simp[dR]) (n:=u.aY) J (by decide)).use ?_;rintro _ ab ⟨D,rfl,E,f,ac⟩;have g:=e.ext f;refine⟨D,rfl,_,by rw[aw];exact g.cell,?_⟩;rw[a z];refine(gV E.src (by simp[dR]) (n:=u.map) J (by decide)).use ?_;rintro _ af ⟨F,rfl,G,i,ah⟩;have H:=g.ext i;refine⟨F,rfl,?_⟩;rw[a y];refine(gV G.src (by simp[dR]) (n:=n) J (by decide)).use ?_;rintro _ aF ⟨K,rfl,L,j,aj⟩;have k:=H.ext j;refine⟨K,rfl,_,by rw[aw];exact k.cell,?_⟩;refine(gV L.src (by simp[dR]) (n:=u.clock) J (by decide)).use ?_;rintro _ ak ⟨M,rfl,N,m,al⟩;have o:=k.ext m;refine⟨M,rfl,_,by rw[aw];exact o.cell,?_⟩;refine(gV N.src (by simp[dR]) (n:=u.dL) J (by decide)).use ?_;rintro _ am ⟨O,rfl,P,p,an⟩;have Q:=o.ext p;refine⟨O,rfl,_,by rw[aw];exact Q.cell,?_⟩;rw[a A];refine(gV P.src (by simp[dR]) (n:=u.keys) J (by decide)).use ?_;rintro _ ap ⟨r,rfl,R,S,T⟩;have t:=Ext.trans (Ext.trans (Ext.trans (Ext.trans (Ext.trans (Ext.trans B d) f) i) j) m) p;refine⟨r,rfl,r,rfl,R,Ext.trans t S,λq U=>?_⟩;have:=T q U;have:=t.size;omega
variable {w w':I}
theorem Ln{s:ae}{sz n:Nat}{q:Nat}:aB ⟨aW s.a sz 0 s.cap,n-0,s.cap-0⟩ q↔aB s q:=by
 rw[A0];exact Iff.rfl
section
variable {P:Program}{dV e df:TypeId}{sz bytes:Nat}
structure lV(sz:Nat)(e:TypeId)(w0 w:I)(s:ae)(l:O Y):Prop where
 o:aT sz e w s l
 x:Ext w0 w
 f:∀q,aB s q->w0.heap.size<=q
theorem Ext.new{a:Nat->Prop}{w0 w1 ag:I}(hx:Ext w0 w1)(h:af a w1 ag)(cU:∀q,a q->w0.heap.size<=q):Ext w0 ag/\af (λq=>w0.heap.size<=q) w1 ag:=
 ⟨Ext.ee hx h cU,h.mono λq _ b=>cU q b⟩
theorem lV.app(h:iG P dV e sz bytes){w0 w1:I}{s x:ae}{l xs:O Y}(hs:lV sz e w0 w1 s l)(hx:Src sz w1 x xs)(d:∀v∈xs,Plain v)(g:(2*(s.len+x.len)+1000)*bytes<=281474976710656):
 ∃ (a:ae) (ag:I),Sem.run P (Builtin.append_ #[dV,dV] df #[s,x]) w1=.ok a ag/\af (λq=>w0.heap.size<=q) w1 ag/\lV sz e w0 ag a (l++xs)/\
  a.len=s.len+x.len/\af (aB s) w1 ag/\∀q,aB a q->aB s q\/w1.heap.size<=q:=by
 obtain⟨a,ag,aA,i,j,b,c⟩:=h.append (df:=df) hx hs.o d g;obtain⟨bW,b9⟩:=Ext.new hs.x b hs.f;exact⟨a,ag,aA,b9,⟨i,bW,λq k=>(c q k).elim (hs.f q) λh=>dQ hs.x.size h⟩,j,b,c⟩
end
end Go.Proofs.YtbjddgakboindaaGreat
namespace Go.Proofs.YtbjddgakboindaaGreat
open Go Go.Proofs Go.Shelf
def Lo:Go.Shelf.Ren:=⟨λ |5=>139|8=>148|7=>212|19=>226|20=>227|10=>266|11=>267|12=>268|13=>269|14=>270|15=>271|16=>272|17=>273|18=>274|30=>299|31=>279|32=>280|33=>300|34=>301|35=>238|40=>317|n=>n,λ |23=>181|25=>3|3=>3|32=>248|22=>181|0=>0|44=>296|46=>22|4=>4|36=>368|35=>367|41=>49|5=>5|9=>9|53=>408|57=>411|63=>433|64=>260|n=>n,λ |n=>n⟩
theorem F2:Go.Proofs.SlLaysM.n5 Tryz.prog Lo:={
 mixed:=by kernel_rfl
 f5:=⟨Tryz.f139.name,by decide,Tryz.func139.trans (congrArg some (by kernel_rfl))⟩
 f7:=⟨Tryz.f212.name,by decide,Tryz.func212.trans (congrArg some (by kernel_rfl))⟩
 f8:=Tryz.func148.trans (congrArg some (by kernel_rfl))
 f10:=⟨Tryz.f266.name,by decide,Tryz.func266.trans (congrArg some (by kernel_rfl))⟩
 f11:=⟨Tryz.f267.name,by decide,Tryz.func267.trans (congrArg some (by kernel_rfl))⟩
 f12:=⟨Tryz.f268.name,by decide,Tryz.func268.trans (congrArg some (by kernel_rfl))⟩
 f13:=⟨Tryz.f269.name,by decide,Tryz.func269.trans (congrArg some (by kernel_rfl))⟩
 f14:=⟨Tryz.f270.name,by decide,Tryz.func270.trans (congrArg some (by kernel_rfl))⟩
 f15:=⟨Tryz.f271.name,by decide,Tryz.func271.trans (congrArg some (by kernel_rfl))⟩
 f16:=⟨Tryz.f272.name,by decide,Tryz.func272.trans (congrArg some (by kernel_rfl))⟩
 f17:=⟨Tryz.f273.name,by decide,Tryz.func273.trans (congrArg some (by kernel_rfl))⟩
 f18:=⟨Tryz.f274.name,by decide,Tryz.func274.trans (congrArg some (by kernel_rfl))⟩
 f19:=Tryz.func226.trans (congrArg some (by kernel_rfl))
 f20:=Tryz.func227.trans (congrArg some (by kernel_rfl))
 f30:=⟨Tryz.f299.name,by decide,Tryz.func299.trans (congrArg some (by kernel_rfl))⟩
 f31:=Tryz.func279.trans (congrArg some (by kernel_rfl))
 f32:=Tryz.func280.trans (congrArg some (by kernel_rfl))
 f33:=⟨Tryz.f300.name,by decide,Tryz.func300.trans (congrArg some (by kernel_rfl))⟩
 f34:=⟨Tryz.f301.name,by decide,Tryz.func301.trans (congrArg some (by kernel_rfl))⟩
 f35:=⟨Tryz.f238.name,by decide,Tryz.func238.trans (congrArg some (by kernel_rfl))⟩
 f40:=⟨Tryz.f317.name,by decide,Tryz.func317.trans (congrArg some (by kernel_rfl))⟩
 t0:=Tryz.underlying0
 a0:=Tryz.isAgg0
 z0:=Tryz.sizeOf0
 v0:=Tryz.zeroValue0
 t3:=Tryz.underlying3
 a3:=Tryz.isAgg3
 z3:=Tryz.sizeOf3
 v3:=Tryz.zeroValue3
 t4:=Tryz.underlying4
 a4:=Tryz.isAgg4
 z4:=Tryz.sizeOf4
 v4:=Tryz.zeroValue4
 t5:=Tryz.underlying5
 a5:=Tryz.isAgg5
 z5:=Tryz.sizeOf5
 v5:=Tryz.zeroValue5
 t9:=Tryz.underlying9
 a9:=Tryz.isAgg9
 z9:=Tryz.sizeOf9
 v9:=Tryz.zeroValue9
 t22:=Tryz.underlying181
 a22:=Tryz.isAgg181
 z22:=Tryz.sizeOf181
 v22:=Tryz.zeroValue181
 t23:=Tryz.underlying181
 a23:=Tryz.isAgg181
 z23:=Tryz.sizeOf181
 v23:=Tryz.zeroValue181
 t25:=Tryz.underlying3
 a25:=Tryz.isAgg3
 z25:=Tryz.sizeOf3
 v25:=Tryz.zeroValue3
 t32:=Tryz.underlying248
 a32:=Tryz.isAgg248
 z32:=Tryz.sizeOf248
 v32:=Tryz.zeroValue248
 t35:=Tryz.underlying367
 a35:=Tryz.isAgg367
 z35:=Tryz.sizeOf367
 v35:=Tryz.zeroValue367
 t36:=Tryz.underlying368
 a36:=Tryz.isAgg368
 z36:=Tryz.sizeOf368
 v36:=Tryz.zeroValue368
 t41:=Tryz.underlying49
 a41:=Tryz.isAgg49
 z41:=Tryz.sizeOf49
 v41:=Tryz.zeroValue49
 t44:=Tryz.underlying296
 a44:=Tryz.isAgg296
 z44:=Tryz.sizeOf296
 v44:=Tryz.zeroValue296
 t46:=Tryz.underlying22
 a46:=Tryz.isAgg22
 z46:=Tryz.sizeOf22
 v46:=Tryz.zeroValue22
 t53:=Tryz.underlying408
 a53:=Tryz.isAgg408
 z53:=Tryz.sizeOf408
 v53:=Tryz.zeroValue408
 t57:=Tryz.underlying411
 a57:=Tryz.isAgg411
 z57:=Tryz.sizeOf411
 v57:=Tryz.zeroValue411
 t63:=Tryz.underlying433
 a63:=Tryz.isAgg433
 z63:=Tryz.sizeOf433
 v63:=Tryz.zeroValue433
 t64:=Tryz.underlying260
 a64:=Tryz.isAgg260
 z64:=Tryz.sizeOf260
 v64:=Tryz.zeroValue260}
end Go.Proofs.YtbjddgakboindaaGreat
namespace Go.Proofs.YtbjddgakboindaaGreat
open Go aQ Go.Proofs.Tryz
theorem Lp{w:I}{b n:Nat}{c:Array Y}{T:TypeId}{os:Array Obj}{zs:O Int}(h:bc w b c T)(g:zs.length<=c.size):
 ∃c':Array Y,bc (Go.Sort.grow (Go.Sort.putRow (Value.int .i64) (Go.Sort.ahead w n) b 0 zs.toArray) os) b c' T/\c'.size=c.size/\c'.toList.take zs.length=zs.map encZ/\af (λq=>q=b) w (Go.Sort.grow (Go.Sort.putRow (Value.int .i64) (Go.Sort.ahead w n) b 0 zs.toArray) os):=by
 have aJ:=h.lt;have d:∀k,k<w.heap.size->(Go.Sort.grow (Go.Sort.putRow (Value.int .i64) (Go.Sort.ahead w n) b 0 zs.toArray) os).heap[k]? =(w.heap.modify b (Go.Sort.onCells (Go.Sort.putCells (Value.int .i64) 0 zs.toArray)))[k]? :=λk a=>by
  show((w.heap.modify b _)++os)[k]? =_;rw[Array.getElem?_append_left (by simpa using a)]
 refine⟨Go.Sort.putCells (Value.int .i64) 0 zs.toArray c,?_,by simp[Go.Sort.putCells],?_,rfl,rfl,rfl,?_,λk a f=>?_⟩
 .unfold bc at h⊢
  rw[d b aJ,vS,if_pos rfl,h];rfl
 .apply List.ext_getElem?
  intro i;rw[vW];split
  .rename_i hi
   rw[Array.getElem?_toList,Go.Sort.putCells,Array.getElem?_mapIdx,Array.getElem?_eq_getElem J,mS,if_pos ⟨c8 _,by simpa using hi⟩,oy,eJ hi];simp[hi]
  .rename_i hi
   rw[ny (by simpa using hi)]
 .show w.heap.size<=((w.heap.modify b _)++os).size
  simp
 .rw[d k a,vS,if_neg (λe=>f e.symm)]
theorem F3{w:I}{s:ae}{zs:O Int}(h:aT 1 3 w s (zs.map encZ))(F:zs.length<=1000000):
 aC ai 139 #[s] w (λv w'=>v=.tuple #[]/\af (aB s) w w'/\∃ys:O Int,aT 1 3 w' s (ys.map encZ)/\ys.Perm zs/\ys.Pairwise λa b=>a<=b):=by
 have G:s.len=zs.length:=by have:=h.1;rw[dU]at this;omega
 rcases pG zs.length with h0|h0
 .have hd:zs=[]:=rf.1 h0
  have e:s.len=0:=by omega
  rw[e];refine Calls.mono (AnyM.slices_Sort_int_none F2 s.a s.cap w) ?_;rintro _ _ ⟨rfl,rfl⟩;exact⟨_,rfl,rfl,.refl _ _,[],by rw[hd]at h;exact h,by rw[hd],List.Pairwise.nil⟩
 obtain⟨h1,i,t,u⟩:=h;rcases u with ⟨_,d⟩|⟨b,c,f,hb,z,A⟩
 .omega
 have B:Go.Sort.Holds (Value.int .i64) w b 0 zs.toArray:=λj C=>by
  have k:j<zs.length:=by simpa using C
  refine⟨?_,bc.frozen hb _ rfl⟩;rw[hb.cell,cz];have e:=congrArg (λl=>l[j]?) A;simp only[vW,oy,eJ k,mS]at e;rw[if_pos J,Array.getElem?_toList]at e;rw[e];simp[k]
 have D:=AnyM.slices_Sort_int F2 b 0 s.cap zs w B hb.lt J;rw[f];have e:s.len=zs.length:=by omega
 rw[e];refine Calls.mono D ?_;rintro _ w' ⟨rfl,n,os,rfl⟩;obtain⟨c',aA,m,o,p⟩:=Lp (n:=n) (os:=os) (zs:=zs.mergeSort λx y=>decide (x<=y)) hb (by rw[List.length_mergeSort];omega);have g:=List.mergeSort_perm zs λx y=>decide (x<=y);have r:(zs.mergeSort λx y=>decide (x<=y)).Pairwise λa b=>decide (a<=b)=true:=List.pairwise_mergeSort (λa b c h1 i=>by simp only[cX]at*;omega) (λa b=>by simp only[jX,cX];omega) zs;generalize (zs.mergeSort λx y=>decide (x<=y))=ys at aA m o p g r;refine⟨_,rfl,rfl,p.mono λq _ e=>⟨b,f,e.symm⟩,ys,?_,g,r.imp λh=>b8 h⟩;have E:=g.length_eq;have d:=aT.mk' (sz:=1) (n:=s.len) (cap:=s.cap) aA (vs:=ys.map encZ) (by rw[dU];omega) i t (by rw[m];exact z) (by rw[gd,e,←E];exact o);rw[←f]at d;exact d
def mH(b0 bz cf a b c d e:aj):Nat:=
 b0.toNat+2*bz.toNat+4*cf.toNat+8*a.toNat+16*b.toNat+32*c.toNat+64*d.toNat+128*e.toNat
def byteOf(f:Nat->aj)(i:Nat):Nat:=mH (f (8*i)) (f (8*i+1)) (f (8*i+2)) (f (8*i+3)) (f (8*i+4)) (f (8*i+5)) (f (8*i+6)) (f (8*i+7))
theorem Lq:∀b0 bz cf a b c d e:aj,mH b0 bz cf a b c d e<256:=by decide+kernel
theorem Lr:∀b0 bz cf a b c d e:aj,
 (mH b0 bz cf a b c d e).testBit 0=b0/\(mH b0 bz cf a b c d e).testBit 1=bz/\(mH b0 bz cf a b c d e).testBit 2=cf/\(mH b0 bz cf a b c d e).testBit 3=a/\
 (mH b0 bz cf a b c d e).testBit 4=b/\(mH b0 bz cf a b c d e).testBit 5=c/\(mH b0 bz cf a b c d e).testBit 6=d/\(mH b0 bz cf a b c d e).testBit 7=e:=by decide+kernel
theorem lW(f:Nat->aj)(i:Nat):byteOf f i<256:=Lq _ _ _ _ _ _ _ _
theorem qM(f:Nat->aj)(i j:Nat)(a:j<8):(byteOf f i).testBit j=f (8*i+j):=by
 obtain⟨h0,h1,b,c,d,e,g,h⟩:=Lr (f (8*i)) (f (8*i+1)) (f (8*i+2)) (f (8*i+3)) (f (8*i+4)) (f (8*i+5)) (f (8*i+6)) (f (8*i+7));have:j=0\/j=1\/j=2\/j=3\/j=4\/j=5\/j=6\/j=7:=by omega
 unfold byteOf;rcases this with rfl|rfl|rfl|rfl|rfl|rfl|rfl|rfl<;>assumption
theorem Ls{x y:Nat}(hx:x<256)(b:y<256)(h:∀j,j<8->x.testBit j=y.testBit j):x=y:=by
 apply Nat.eq_of_testBit_eq;intro j;by_cases a:j<8
 .exact h j a
 .have p:256<=2^j:=by
   have:=v7 (n:=2) J (by omega:8<=j);simpa using this
  rw[Nat.testBit_lt_two_pow J,Nat.testBit_lt_two_pow J]
theorem Cp(f:Nat->aj)(i x:Nat)(hx:x<256)(h:∀j,j<8->x.testBit j=f (8*i+j)):x=byteOf f i:=
 Ls hx (lW f i) λj a=>by rw[h j a,qM f i j a]
def dG(f:Nat->aj)(k:Nat)(b:aj):Nat->aj:=λi=>if i=k then b else f i
theorem Lt:∀x:Nat,x<256->∀j:Nat,j<8->(eS .u8 (Int.fdiv (x:Int) (2^(min (Int.toNat (j:Int)) 8))) 1==1)=x.testBit j:=by decide+kernel
theorem Lu:∀x:Nat,x<256->∀j:Nat,j<8->lI .u8 (x:Int) (IntKind.wrap .u8 (1*2^(min (Int.toNat (j:Int)) 8)))=((x|||2^j:Nat):Int):=by decide+kernel
theorem Lv:∀x:Nat,x<256->∀j:Nat,j<8->Dv .u8 (x:Int) (IntKind.wrap .u8 (1*2^(min (Int.toNat (j:Int)) 8)))=((x&&&(255-2^j):Nat):Int):=by decide+kernel
theorem Cq:∀x:Nat,x<256->∀y:Nat,y<256->x|||y<256:=λ_ hx _ a=>Nat.or_lt_two_pow (n:=8) hx a
theorem Lw:∀j:Nat,j<8->∀k:Nat,k<8->(255-2^j).testBit k=(k !=j):=by decide+kernel
theorem Lx(x y:Nat)(hx:x<256)(a:y<256):lI .u8 (x:Int) (y:Int)=((x|||y:Nat):Int):=by
 have h:=Cq x hx y a;have e:(BitVec.ofInt 8 (x:Int)|||BitVec.ofInt 8 (y:Int)).toNat=x|||y:=by
  simp only[BitVec.ofInt_natCast,BitVec.toNat_or,BitVec.toNat_ofNat];rw[iF (by simpa using hx),iF (by simpa using a)]
 show IntKind.wrap .u8 (((BitVec.ofInt 8 (x:Int)|||BitVec.ofInt 8 (y:Int)).toNat:Nat):Int)=_;rw[e];have:((x|||y:Nat):Int)%256=((x|||y:Nat):Int):=Int.emod_eq_of_lt J J;simp[IntKind.wrap,IntKind.signed,IntKind.bits,this]
theorem Ly(k:Nat):8*(k/8)+k%8=k:=Nat.div_add_mod k 8
theorem Lz(f:Nat->aj)(k:Nat):byteOf f (k/8)|||2^(k%8)=byteOf (dG f k true) (k/8):=by
 refine Cp _ _ _ (Cq _ (lW _ _) _ ?_) λj b=>?_
 .have:k%8<8:=hZ _ J
  have:=Nat.pow_lt_pow_right (a:=2) J this;simpa using this
 .rw[ot,qM _ _ _ b,tB,dG]
  by_cases h:8*(k/8)+j=k
  .rw[if_pos h]
   have:k%8=j:=by omega
   simp[this]
  .rw[if_neg h]
   have:¬k%8=j:=by omega
   simp[this]
theorem LA(f:Nat->aj)(k:Nat):byteOf f (k/8)&&&(255-2^(k%8))=byteOf (dG f k false) (k/8):=by
 refine Cp _ _ _ (Nat.lt_of_le_of_lt Nat.and_le_left (lW _ _)) λj a=>?_;rw[Nat.testBit_and,qM _ _ _ a,Lw _ (hZ _ J) _ a,dG];by_cases h:8*(k/8)+j=k
 .rw[if_pos h]
  have:j=k%8:=by omega
  simp[this]
 .rw[if_neg h]
  have:¬j=k%8:=by omega
  simp[this]
theorem LB(f:Nat->aj)(k i:Nat)(b:aj)(h:i≠k/8):byteOf (dG f k b) i=byteOf f i:=by
 have e:∀j,j<8->dG f k b (8*i+j)=f (8*i+j):=λj a=>by
  unfold dG;rw[if_neg];omega
 unfold byteOf;rw[e 1 J,e 2 J,e 3 J,e 4 J,e 5 J,e 6 J,e 7 J];have:=e 0 J;simp only[kT]at this;rw[this]
def fz(f:Nat->aj)(m:Nat):O Y:=(List.range m).map λi=>.int .u8 (byteOf f i)
theorem Cr(f:Nat->aj)(m:Nat):(fz f m).length=m:=by simp[fz]
theorem qN(f:Nat->aj){m i:Nat}(h:i<m):(fz f m)[i]? =some (.int .u8 (byteOf f i)):=by simp[fz,h]
theorem F4(f:Nat->aj)(k m:Nat)(b:aj):(fz f m).set (k/8) (.int .u8 (byteOf (dG f k b) (k/8)))=fz (dG f k b) m:=by
 apply List.ext_getElem?;intro i;rw[List.getElem?_set];by_cases hi:i<m
 .rw[qN (dG f k b) hi]
  by_cases h:k/8=i
  .subst h
   simp[Cr,hi]
  .rw[if_neg h,qN _ hi,LB f k i b J]
 .have h1:(fz (dG f k b) m)[i]? =none:=by simp[fz];omega
  have a:(fz f m)[i]? =none:=by simp[fz];omega
  rw[h1,a];split
  .simp[Cr];omega
  .rfl
theorem F5(k:Nat):Int.tdiv (k:Int) 8=((k/8:Nat):Int):=by
 rw[Int.tdiv_eq_ediv_of_nonneg J];omega
theorem Cs(k:Nat):Int.tmod (k:Int) 8=((k%8:Nat):Int):=by
 rw[tO J];omega
theorem Ct{k:Nat}(h:k<=9223372036854775807):IntKind.wrap .i64 (Int.tdiv (k:Int) 8)=((k/8:Nat):Int):=by
 rw[F5,bT J J]
theorem F6{s:ae}{b:Nat}(h:s.a=some ⟨b,0,none⟩):aB s b:=⟨_,h,rfl⟩
theorem vt{w:I}{s:ae}{f:Nat->aj}{m k:Nat}(h:aT 1 5 w s (fz f m))(a:k/8<m)(d:k<=9223372036854775807):
 aC ai 204 #[s,k] w (λv w'=>v=.bool (f k)/\w=w'):=by
 refine okF (aa.yg s k) ao.yg func204 ?_;(delta aa.yg bl bq al cG;dsimp only);obtain⟨b,c,hb,e,g,hi,i,hc,_⟩:=h.cell (qN f a);refine⟨by decide,_,hb,?_⟩;rw[Ct d,Cs];refine⟨⟨J,J⟩,(byteOf f (k/8):Int),?_,by decide,J,?_,rfl⟩
 .rw[gd,d_,aw,cz];exact hc
 .rw[Lt _ (lW _ _) _ (hZ _ J),qM _ _ _ (hZ _ J),Ly]
theorem F7{w:I}{s:ae}{f:Nat->aj}{m k:Nat}(h:aT 1 5 w s (fz f m))(d:k/8<m)(e:k<=9223372036854775807):
 aC ai 156 #[s,k] w (λv w'=>v=.tuple #[]/\aT 1 5 w' s (fz (dG f k true) m)/\af (aB s) w w'):=by
 refine okF (aa.x3 s k) ao.x3 func156 ?_;(delta aa.x3 an bl bq al cG st;dsimp only);obtain⟨b,c,hb,g,j,hi,l,hc,_⟩:=h.cell (qN f d);have a:(Addr.mk b 0 none).add (Int.toNat ((k/8:Nat):Int)*1)=⟨b,k/8,none⟩:=by rw[gd,d_,aw,cz]
 rw[Ct e,Cs];refine⟨by decide,_,hb,⟨J,J⟩,by simp,(byteOf f (k/8):Int),by rw[a];exact hc,by decide,J,_,hb,⟨J,J⟩,⟨_,by rw[a];exact hc⟩,by rw[a];exact g.drew.frozen _ rfl,rfl,?_,?_⟩
 .rw[a,Lu _ (lW _ _) _ (hZ _ J),Lz,←F4]
  have i:aT 1 5 w.drew s (fz f m):=h.ak (W:=λ_=>False) (af.drew (.refl _ _)) (λ_ _ h=>h);exact i.set hb _
 .rw[a]
  exact af.set (af.drew (.refl _ _)) (λ_=>F6 hb) _
theorem LC{w:I}{s:ae}{f:Nat->aj}{m k:Nat}(h:aT 1 5 w s (fz f m))(d:k/8<m)(e:k<=9223372036854775807):
 aC ai 205 #[s,k] w (λv w'=>v=.tuple #[]/\aT 1 5 w' s (fz (dG f k false) m)/\af (aB s) w w'):=by
 refine okF (aa.yh s k) ao.yh func205 ?_;(delta aa.yh an bl bq al cG st;dsimp only);obtain⟨b,c,hb,g,j,hi,l,hc,_⟩:=h.cell (qN f d);have a:(Addr.mk b 0 none).add (Int.toNat ((k/8:Nat):Int)*1)=⟨b,k/8,none⟩:=by rw[gd,d_,aw,cz]
 rw[Ct e,Cs];refine⟨by decide,_,hb,⟨J,J⟩,by simp,(byteOf f (k/8):Int),by rw[a];exact hc,by decide,J,_,hb,⟨J,J⟩,⟨_,by rw[a];exact hc⟩,by rw[a];exact g.drew.frozen _ rfl,rfl,?_,?_⟩
 .rw[a,Lv _ (lW _ _) _ (hZ _ J),LA,←F4]
  have i:aT 1 5 w.drew s (fz f m):=h.ak (W:=λ_=>False) (af.drew (.refl _ _)) (λ_ _ h=>h);exact i.set hb _
 .rw[a]
  exact af.set (af.drew (.refl _ _)) (λ_=>F6 hb) _
structure fY(w:I)(b n:Nat)(f g:Nat->aj)(s1 s2:ae):Prop where
 bj:bc w b #[n,s1,s2] 294
 now:aT 1 5 w s1 (fz f ((n+7)/8))
 sure:aT 1 5 w s2 (fz g ((n+7)/8))
 d1:∀k,aB s1 k->k≠b/\¬aB s2 k
 d2:∀k,aB s2 k->k≠b
 cw:1<=n
 bB:n<=1600
 pf:∀i,n<=i->f i=false
 cZ:∀i,n<=i->g i=false
def hW(b:Nat)(s1 s2:ae)(k:Nat):Prop:=k=b\/aB s1 k\/aB s2 k
section
variable {w w':I}{b n:Nat}{f g:Nat->aj}{s1 s2:ae}
theorem fY.ak{W:Nat->Prop}(h:fY w b n f g s1 s2)(hc:af W w w')(a:∀k,hW b s1 s2 k->¬W k):fY w' b n f g s1 s2:=
 ⟨h.bj.ak hc (a b (.inl rfl)),h.now.ak hc λk c=>a k (.inr (.inl c)),h.sure.ak hc λk c=>a k (.inr (.inr c)),h.d1,h.d2,h.cw,h.bB,h.pf,h.cZ⟩
theorem fY.ext(h:fY w b n f g s1 s2)(hc:Ext w w'):fY w' b n f g s1 s2:=h.ak hc λ_ _ h=>h
theorem fY.lt(h:fY w b n f g s1 s2):∀k,hW b s1 s2 k->k<w.heap.size:=by
 rintro k (rfl|a|a)
 .exact h.bj.lt
 .exact h.now.lt k a
 .exact h.sure.lt k a
theorem fY.cu(h:fY w b n f g s1 s2):w.cell? b=some (.int .i64 n):=by rw[h.bj.cell];rfl
theorem fY.bd(h:fY w b n f g s1 s2):w.cell? ((Addr.mk b 0 none).add 1)=some (.slice s1.a s1.len s1.cap):=by rw[aw,h.bj.cell];rfl
theorem fY.bo(h:fY w b n f g s1 s2):w.cell? ((Addr.mk b 0 none).add 2)=some (.slice s2.a s2.len s2.cap):=by rw[aw,h.bj.cell];rfl
theorem LD(h:fY w b n f g s1 s2){k:Nat}(a:k<n):
 aC ai 199 #[.pointer (some b),k] w (λv w'=>v=.bool (f k||g k)/\w=w'):=by
 have c:=h.bB;refine aa.Js _ k w _ ?_;(delta aa.uX ay aR bF ah;dsimp only);refine⟨_,rfl,s1,h.bd,(vt h.now (k:=k) J J).use ?_⟩;rintro _ _ ⟨rfl,rfl⟩;refine⟨_,rfl,⟨λhf=>⟨by rw[hf];rfl,rfl⟩,λhf=>⟨_,rfl,s2,h.bo,(vt h.sure (k:=k) J J).use ?_⟩⟩⟩;rintro _ _ ⟨rfl,rfl⟩;exact⟨_,rfl,by rw[hf];rfl,rfl⟩
theorem F8(h:fY w b n f g s1 s2)(k:Int):
 aC ai 203 #[.pointer (some b),k] w (λv w'=>v=.bool (decide (0<=k)&&decide (k<n))/\w=w'):=by
 refine aa.Jt _ k w _ ?_;(delta aa.uY ah ay r1;dsimp only);refine⟨?_⟩;refine⟨λh1=>⟨_,rfl,n,h.cu,?_,rfl⟩,λh1=>⟨?_,rfl⟩⟩
 .have:0<=k:=by simpa using h1
  simp[this]
 .have:¬0<=k:=by simpa using h1
  simp[this]
def firstFree(t:Nat->aj)(n:Nat):aq Nat:=(List.range n).find? λi=> !t i
theorem LF{t:Nat->aj}{n k:Nat}(d:k<n)(ht:t k=false)(b:∀i,i<k->t i=true):firstFree t n=some k:=by
 unfold firstFree;rw[List.find?_eq_some_iff_append];refine⟨by simp[ht],List.range k,(List.range' (k+1) (n-(k+1))),?_,λa c=>?_⟩
 .have aG:=List.range'_append (s:=0) (m:=k) (n:=n-(k+1)+1) (step:=1)
  rw[vU,vU,←List.range'_succ];rw[Nat.one_mul,cz]at aG;rw[aG]
  congr 1
  omega
 .simp[b a (jY.1 c)]
theorem LG{t:Nat->aj}{n:Nat}(b:∀i,i<n->t i=true):firstFree t n=none:=by
 unfold firstFree;rw[ky];intro a c;simp[b a (jY.1 c)]
theorem F9{t:Nat->aj}{n k:Nat}(h:firstFree t n=some k):k<n/\t k=false/\∀i,i<k->t i=true:=by
 unfold firstFree at h;obtain⟨h1,la,lb,a,d⟩:=List.find?_eq_some_iff_append.1 h;have e:k<n:=jY.1 (by rw[a];simp);refine⟨e,by simpa using h1,λi hi=>?_⟩;have hlen:la.length=k:=by
  have b:(List.range n)[la.length]? =some k:=by rw[a];simp
  rw[List.getElem?_range (by
   have:=congrArg List.length a;simp at this;omega)]at b
  simpa using b
 have c:(List.range n)[i]? =some i:=List.getElem?_range J;rw[a,List.getElem?_append_left J]at c;have:=d i (List.mem_of_getElem? c);simpa using this
theorem LH{t:Nat->aj}{n:Nat}(h:firstFree t n=none):∀i,i<n->t i=true:=by
 unfold firstFree at h;rw[ky]at h;intro i hi;have:=h i (jY.2 hi);simpa using this
def LI(o:aq Nat):Y:=
 match o with
 |some k=>.tuple #[.int .i64 (k:Int),(0:Int)]
 |none=>.tuple #[.int .i64 (-1),(2:Int)]
def LJ(o:aq Nat)(f:Nat->aj):Nat->aj:=
 match o with
 |some k=>dG f k true
 |none=>f
theorem F_{f:Nat->aj}{n k:Nat}{x:aj}(h:∀i,n<=i->f i=false)(a:k<n):∀i,n<=i->dG f k x i=false:=λi hi=>by
 unfold dG
 rw[if_neg J]
 exact h i hi
theorem Ga(h:fY w b n f g s1 s2):
 aC ai 126 #[.pointer (some b)] w (λv w'=>v=LI (firstFree (λi=>f i||g i) n)/\fY w' b n (LJ (firstFree (λi=>f i||g i) n) f) g s1 s2/\af (hW b s1 s2) w w'):=by
 have q:=h.bB;refine aa.Jh _ w _ ?_;(delta aa.uS ah ay r1 dj bF aR eM al;dsimp only);refine⟨λh1=>by simp at h1,λ_=>⟨_,rfl,n,h.cu,λi w'=>∃k:Nat,i=k/\k<=n/\w=w'/\∀j,j<k->(f j||g j)=true,λi _=>(n-i).toNat,⟨0,rfl,J,rfl,λj l=>J⟩,?_⟩⟩;rintro _ _ ⟨k,rfl,a,rfl,d⟩;refine⟨λaJ=>(LD h (k:=k) (by simpa using aJ)).use ?_,λm=>?_⟩
 .have c:k<n:=by simpa using aJ
  rintro _ _ ⟨rfl,rfl⟩;refine⟨_,rfl,λht=>⟨_,rfl,s1,h.bd,(F7 h.now (k:=k) J J).use ?_⟩,λht=>?_⟩
  .rintro _ w' ⟨rfl,o,hc⟩
   have e:(f k||g k)=false:=by simpa using ht
   have p:=LF (t:=λi=>f i||g i) c e d;rw[p];refine⟨rfl,rfl,⟨h.bj.ak hc λhb=>(h.d1 b hb).1 rfl,o,h.sure.ak hc λk a h1=>(h.d1 k h1).2 a,h.d1,h.d2,h.cw,h.bB,F_ h.pf c,h.cZ⟩,hc.mono λk _ a=>.inr (.inl a)⟩
  .have e:(f k||g k)=true:=by cases hx:(f k||g k)<;>simp[hx]at ht⊢
   rw[bT J J];refine⟨⟨k+1,J,J,rfl,λj l=>?_⟩,(show((n:Int)-((k:Int)+1)).toNat<((n:Int)-(k:Int)).toNat from J)⟩;rcases eF j k with h1|h1
   .exact d j h1
   .have:j=k:=by omega
    subst this;exact e
 .have c:k=n:=by
   have:¬(k:Int)<n:=by simpa using m
   omega
  subst c;rw[LG d];exact⟨rfl,h,.refl _ _⟩
def zo(f:Nat->aj)(n:Nat)(k:Int):Int:=if 0<=k/\k<n then (if f k.toNat then 0 else 6) else 1
def ph(f:Nat->aj)(n:Nat)(k:Int):Nat->aj:=if 0<=k/\k<n then dG f k.toNat false else f
theorem LK{f:Nat->aj}{k:Nat}{x:aj}(h:f k=x):dG f k x=f:=by
 funext i;unfold dG;split
 .rename_i hi;rw[hi,h]
 .rfl
theorem Gb(h:fY w b n f g s1 s2)(k:Int):
 aC ai 128 #[.pointer (some b),k] w (λv w'=>v=.int .i64 (zo f n k)/\fY w' b n (ph f n k) g s1 s2/\af (hW b s1 s2) w w'):=by
 have j:=h.bB;refine aa.Ji _ k w _ ?_;(delta aa.uT bF ah ay aR eM;dsimp only);refine(F8 h k).use ?_;rintro _ _ ⟨rfl,rfl⟩;refine⟨_,rfl,λh1=>?_,λh1=>?_⟩
 .have:¬(0<=k/\k<n):=by
   rintro⟨a,e⟩;simp[a,e]at h1
  exact⟨by rw[zo,if_neg this],by rw[ph,if_neg this];exact h,.refl _ _⟩
 .have c:0<=k/\k<n:=by simpa using h1
  obtain⟨m,rfl⟩:=Ak c.1;have hm:m<n:=by omega
  refine⟨_,rfl,s1,h.bd,(vt h.now (k:=m) J J).use ?_⟩;rintro _ _ ⟨rfl,rfl⟩;refine⟨_,rfl,λa=>?_,λa=>⟨_,rfl,s1,h.bd,(LC h.now (k:=m) J J).use ?_⟩⟩
  .have hf:f m=false:=by simpa using a
   refine⟨by rw[zo,if_pos c,d_,hf];rfl,?_,.refl _ _⟩;rw[ph,if_pos c,d_,LK hf];exact h
  .rintro _ w' ⟨rfl,i,hc⟩
   have hf:f m=true:=by simpa using a
   refine⟨rfl,by rw[zo,if_pos c,d_,hf];rfl,?_,hc.mono λk _ d=>.inr (.inl d)⟩;rw[ph,if_pos c,d_];exact⟨h.bj.ak hc λhb=>(h.d1 b hb).1 rfl,i,h.sure.ak hc λk d h1=>(h.d1 k h1).2 d,h.d1,h.d2,h.cw,h.bB,F_ h.pf hm,h.cZ⟩
theorem LL(h:fY w b n f g s1 s2)(k:Int):
 aC ai 324 #[.pointer (some b),k] w (λv w'=>v=.bool (decide (0<=k)&&decide (k<n)&&f k.toNat&& !(g k.toNat))/\w=w'):=by
 have d:=h.bB;refine aa.JD _ k w _ ?_;(delta aa.u6 bF ah ay aR;dsimp only);refine(F8 h k).use ?_;rintro _ _ ⟨rfl,rfl⟩;refine⟨_,rfl,⟨λh1=>?_,λh1=>⟨(λh=>by cases h),λ_=>⟨by rw[h1];rfl,rfl⟩⟩⟩⟩;have c:0<=k/\k<n:=by simpa using h1
 obtain⟨m,rfl⟩:=Ak c.1;refine⟨_,rfl,s1,h.bd,(vt h.now (k:=m) J J).use ?_⟩;rintro _ _ ⟨rfl,rfl⟩;refine⟨_,rfl,λa=>⟨_,rfl,s2,h.bo,(vt h.sure (k:=m) J J).use ?_⟩,λa=>⟨by rw[h1,d_,a];rfl,rfl⟩⟩;rintro _ _ ⟨rfl,rfl⟩;exact⟨_,rfl,by rw[h1,d_,a];rfl,rfl⟩
end
theorem LM:iG ai 291 5 1 1:=⟨by kernel_rfl⟩
theorem zq:iG ai 31 5 1 1:=⟨by kernel_rfl⟩
theorem LN(n:Nat):hL ai 5 n=(List.replicate n (.int .u8 0)).toArray:=Ef (by kernel_rfl) (by kernel_rfl) n
theorem Gc(f:Nat->aj)(m:Nat):∀v∈fz f m,Plain v:=by
 intro v a;obtain⟨i,_,rfl⟩:=ew.1 a;trivial
theorem LO{w:I}{s:ae}{xs:O Y}(h:Src 1 w s xs)(d:∀v∈xs,Plain v)(j:s.len<=1000000):
 aC ai 209 #[s] w (λv w'=>∃b:ae,v=b/\aT 1 5 w' b xs/\Ext w w'/\∀k,aB b k->w.heap.size<=k):=by
 refine okF (aa.xm s) ao.xm func209 ?_;(delta aa.xm an ah ap ad;dsimp only);refine⟨λc=>?_,λ_=>?_⟩
 .have c:s.a=none:=by simpa using c
  rw[h.nil c];exact⟨⟨none,0,0⟩,rfl,aT.none _ _ _,.refl _ _,λk e=>(gU k e).elim⟩
 .obtain⟨b,w',h1,f,l,g,i,_⟩:=LM.clone (df:=291) h d J
  exact⟨b,w',h1,b,rfl,f,g,i⟩
theorem LP{w:I}{s:ae}{xs:O Y}(h:Src 1 w s xs)(d:∀v∈xs,Plain v)(j:s.len<=1000000):
 aC ai 161 #[s] w (λv w'=>∃b:ae,v=b/\aT 1 5 w' b xs/\Ext w w'/\∀k,aB b k->w.heap.size<=k):=by
 refine okF (aa.p1 s) ao.p1 func161 ?_;(delta aa.p1 an ah ap ad;dsimp only);refine⟨λc=>?_,λ_=>?_⟩
 .have c:s.a=none:=by simpa using c
  rw[h.nil c];exact⟨⟨none,0,0⟩,rfl,aT.none _ _ _,.refl _ _,λk e=>(gU k e).elim⟩
 .obtain⟨b,w',h1,f,l,g,i,_⟩:=zq.clone (df:=31) h d J
  exact⟨b,w',h1,b,rfl,f,g,i⟩
section
variable {w w':I}{b n:Nat}{f g:Nat->aj}{s1 s2:ae}
theorem zr{T:TypeId}{m:Nat}(h:aT 1 T w s1 (fz f m)):s1.len=m:=by
 have:=h.1;rw[Cr]at this;omega
theorem Gd{m:Nat}{u:Y}(hb:bc w b #[n,s1,u] 294)(h1:aT 1 5 w s1 (fz f m))(hd:∀k,aB s1 k->k≠b)(hm:m<=1000000):
 aC ai 132 #[.pointer (some b)] w (λv w'=>v=.tuple #[]/\∃a:ae,bc w' b #[n,s1,a] 294/\
  aT 1 5 w' s1 (fz f m)/\aT 1 5 w' a (fz f m)/\af (λk=>k=b) w w'/\∀k,aB a k->w.heap.size<=k):=by
 refine aa.Jj _ w _ ?_;(delta aa.uU an ah ay aR bn st;dsimp only);refine⟨λ_=>⟨_,rfl,s1,by rw[aw,hb.cell];rfl,(LO h1.src (Gc f m) (by rw[zr h1];exact hm)).use ?_⟩,λh=>by simp at h⟩;rintro _ ag ⟨a,rfl,d,hx,hf⟩;have c:=hb.ext hx;have g:∀k,aB a k->k≠b:=λk i e=>by have:=hf k i;have:=hb.lt;omega
 refine⟨a,rfl,_,rfl,⟨_,by rw[aw,c.cell];rfl⟩,c.frozen _ rfl,rfl,a,?_,?_,?_,?_,hf⟩
 .rw[aw];exact c.set 2 _
 .exact(h1.ext hx).ak (W:=λk=>k=b) (af.set (.refl _ _) (λ_=>by rw[aw]) _) hd
 .exact d.ak (W:=λk=>k=b) (af.set (.refl _ _) (λ_=>by rw[aw]) _) g
 .exact(af.bL hx).set (λ_=>by rw[aw]) _
theorem LQ(h:fY w b n f g s1 s2):
 aC ai 132 #[.pointer (some b)] w (λv w'=>v=.tuple #[]/\∃c:ae,fY w' b n f f s1 c/\af (hW b s1 s2) w w'/\∀k,hW b s1 c k->hW b s1 s2 k\/w.heap.size<=k):=by
 have o:=h.bB;refine(Gd h.bj h.now (λk a=>(h.d1 k a).1) J).mono ?_;rintro _ w' ⟨rfl,c,h1,i,j,l,d⟩;refine⟨rfl,c,⟨h1,i,j,λk a=>⟨(h.d1 k a).1,λm=>?_⟩,λk a e=>?_,h.cw,h.bB,h.pf,h.pf⟩,l.mono λk _ a=>.inl a,λk a=>?_⟩
 .have:=d k m;have:=h.now.lt k a;omega
 .have:=d k a;have:=h.bj.lt;omega
 .rcases a with rfl|a|a
  .exact .inl (.inl rfl)
  .exact .inl (.inr (.inl a))
  .exact .inr (d k a)
def tg(x:Nat):Nat:=(x.testBit 0).toNat+(x.testBit 1).toNat+(x.testBit 2).toNat+(x.testBit 3).toNat+(x.testBit 4).toNat+(x.testBit 5).toNat+(x.testBit 6).toNat+(x.testBit 7).toNat
def ff(t:Nat->aj):Nat->Nat
 |0=>0
 |k+1=>ff t k+(t k).toNat
theorem pj(t:Nat->aj):∀k,ff t k<=k
 |0=>ba _
 |k+1=>by have:=pj t k;have:=Bool.toNat_le (t k);simp only[ff];omega
theorem LR(t:Nat->aj)(i:Nat):ff t (8*(i+1))=ff t (8*i)+tg (byteOf t i):=by
 have h:∀j,j<8->(byteOf t i).testBit j=t (8*i+j):=λj a=>qM t i j a;unfold tg;rw[h 0 J,h 1 J,h 2 J,h 3 J,h 4 J,h 5 J,h 6 J,h 7 J];show ff t (8*i+7+1)=_;simp only[ff,kT];omega
theorem Ge(t:Nat->aj)(n:Nat)(h:∀i,n<=i->t i=false):∀k,ff t (n+k)=ff t n
 |0=>rfl
 |k+1=>by
  have:=Ge t n h k
  show ff t (n+k)+(t (n+k)).toNat=_
  rw[this,h (n+k) J]
  rfl
theorem LS:∀x:Nat,x<256->(Av (ByteArray.mk #[0,1,1,2,1,2,2,3,1,2,2,3,2,3,3,4,1,2,2,3,2,3,3,4,2,3,3,4,3,4,4,5,1,2,2,3,2,3,3,4,2,3,3,4,3,4,4,5,2,3,3,4,3,4,4,5,3,4,4,5,4,5,5,6,1,2,2,3,2,3,3,4,2,3,3,4,3,4,4,5,2,3,3,4,3,4,4,5,3,4,4,5,4,5,5,6,2,3,3,4,3,4,4,5,3,4,4,5,4,5,5,6,3,4,4,5,4,5,5,6,4,5,5,6,5,6,6,7,1,2,2,3,2,3,3,4,2,3,3,4,3,4,4,5,2,3,3,4,3,4,4,5,3,4,4,5,4,5,5,6,2,3,3,4,3,4,4,5,3,4,4,5,4,5,5,6,3,4,4,5,4,5,5,6,4,5,5,6,5,6,6,7,2,3,3,4,3,4,4,5,3,4,4,5,4,5,5,6,3,4,4,5,4,5,5,6,4,5,5,6,5,6,6,7,3,4,4,5,4,5,5,6,4,5,5,6,5,6,6,7,4,5,5,6,5,6,6,7,5,6,6,7,6,7,7,8]) x).map (·.toNat)=some (tg x):=by decide+kernel
theorem Gf(x:Nat):tg x<=8:=by
 unfold tg;have h:∀b:aj,b.toNat<=1:=Bool.toNat_le;have:=h (x.testBit 0);have:=h (x.testBit 1);have:=h (x.testBit 2);have:=h (x.testBit 3);have:=h (x.testBit 4);have:=h (x.testBit 5);have:=h (x.testBit 6);have:=h (x.testBit 7);omega
theorem LU(w:I)(x:Nat)(hx:x<256):aC ai 304 #[.int .u8 x] w (λv w'=>v=.int .i64 (tg x)/\w=w'):=by
 refine okF (aa.xq x) ao.xq func304 ?_;delta aa.xq al;have h:=LS x hx;refine⟨J,?_⟩
 cases hb:Av _ x with
 |none=>rw[hb]at h;cases h
 |some y=>
  rw[hb]at h;simp only[mS,Option.some.injEq]at h;refine⟨y,hb,?_,rfl⟩;rw[h,bT J (by have:=Gf x;omega)]
theorem LV(f g:Nat->aj)(i:Nat):byteOf f i|||byteOf g i=byteOf (λk=>f k||g k) i:=
 Cp _ _ _ (Cq _ (lW _ _) _ (lW _ _)) λj a=>by rw[ot,qM _ _ _ a,qM _ _ _ a]
theorem Cu(h:fY w b n f g s1 s2):
 aC ai 287 #[.pointer (some b)] w (λv w'=>v=.int .i64 ((n:Int)-ff (λi=>f i||g i) n)/\Ext w w'):=by
 have p:=h.bB;have q:=zr h.now;have s:=zr h.sure;refine aa.Jx _ w _ ?_;(delta aa.u4 an ah ay r1 aR fO bC eU bl bq lQ cG bw b4 al;dsimp only);refine⟨λh1=>by simp at h1,λ_=>⟨_,rfl,n,h.cu,_,rfl,s1,h.bd,λr i w'=>∃k:Nat,i=k/\k<=s1.len/\Ext w w'/\r=(n:Int)-ff (λi=>f i||g i) (8*k),λ_ i _=>((s1.len:Int)-i).toNat,⟨0,rfl,J,.refl _ _,by simp[ff]⟩,?_⟩⟩;rintro _ _ w1 ⟨k,rfl,t,hx,rfl⟩;refine⟨λaJ=>?_,λc=>?_⟩
 .have d:k<s1.len:=by simpa using aJ
  have h1:=h.ext hx.drew;obtain⟨bz,bd,j,u,_,_,_,l,_⟩:=h1.now.cell (qN f (i:=k) J);obtain⟨cf,bo,m,x,_,_,_,o,_⟩:=h1.sure.cell (qN g (i:=k) J);have a:∀b:Nat,(Addr.mk b 0 none).add (Int.toNat (k:Int)*1)=⟨b,k,none⟩:=λb=>by rw[gd,d_,aw,cz]
  refine⟨λ_=>False,_,rfl,by simp,s1,h1.bd,_,j,J,by simp,_,by rw[a];exact l,_,rfl,by simp,s2,h1.bo,_,m,J,by simp,_,by rw[a];exact o,?_⟩;rw[Lx _ _ (lW _ _) (lW _ _),LV];refine(LU _ _ (lW _ _)).use ?_;rintro _ _ ⟨rfl,rfl⟩;have:=Gf (byteOf (λi=>f i||g i) k);have:=pj (λi=>f i||g i) (8*k);refine⟨_,rfl,.refl _ _,?_⟩;rw[bT (n:=(n:Int)-_-_) J J,bT (n:=(k:Int)+1) J J];exact⟨⟨k+1,J,J,hx.drew,by rw[LR];omega⟩,(show((s1.len:Int)-((k:Int)+1)).toNat<((s1.len:Int)-(k:Int)).toNat from J)⟩
 .have d:k=s1.len:=by
   have:¬(k:Int)<s1.len:=by simpa using c
   omega
  refine⟨?_,hx⟩;have e:8*k=n+(8*k-n):=by omega
  rw[e,Ge _ _ (λi hi=>by simp[h.pf i hi,h.cZ i hi])]
theorem Gg(h:fY w b n f g s1 s2):
 aC ai 94 #[.pointer (some b)] w (λv w'=>∃s:ae,v=s/\aT 1 5 w' s (fz f ((n+7)/8))/\Ext w w'/\∀k,aB s k->w.heap.size<=k):=by
 have c:=h.bB;refine aa.Ja _ w _ ?_;(delta aa.uO ah ay aR bn;dsimp only);refine⟨λh1=>by simp at h1,λ_=>⟨_,rfl,s1,h.bd,(LP h.now.src (Gc f _) (by rw[zr h.now];omega)).use ?_⟩⟩;rintro _ ag ⟨s,rfl,a,hx,hf⟩;exact⟨s,rfl,s,rfl,a,hx,hf⟩
end
theorem LW(w:I)(n:Int):aC ai 154 #[n] w (λv w'=>v=.bool (decide (1<=n/\n<=1600))/\w=w'):=by
 refine okF (aa.x1 n) ao.x1 func154 ?_;unfold aa.x1;refine⟨?_,rfl⟩;simp[Bool.decide_and]
theorem LX(w:I)(n:Nat)(a:n<=1600):aC ai 155 #[n] w (λv w'=>v=.int .i64 (((n+7)/8:Nat):Int)/\w=w'):=by
 refine okF (aa.x2 n) ao.x2 func155 ?_;delta aa.x2 al;refine⟨by decide,?_,rfl⟩;rw[bT (n:=(n:Int)+8) J J,bT (n:=(n:Int)+8-1) J J,show(n:Int)+8-1=((n+7:Nat):Int) from J,F5,bT J J]
theorem LY(m:Nat):fz (λi=>decide (i<0)) m=List.replicate m (.int .u8 0):=by
 apply tF
 .simp[fz]
 .intro i h1 a
  simp[fz,byteOf,mH]
theorem LZ(j:Nat):dG (λi=>decide (i<j)) j true=λi=>decide (i<j+1):=by
 funext i;unfold dG;split
 .rename_i h;simp[h]
 .rename_i h;simp;omega
theorem r8(w:I)(n first:Int):
 aC ai 91 #[.int .i64 n,.int .i64 first] w (λv w'=>(¬(1<=n/\n<=1600/\0<=first/\first<=n)/\v=.tuple #[.pointer none,.int .i64 1]/\w=w')\/
  (1<=n/\n<=1600/\0<=first/\first<=n/\∃b s1 s2,v=.tuple #[.pointer (some ⟨b,0,none⟩),.int .i64 0]/\fY w' b n.toNat (λi=>decide (i<first.toNat)) (λi=>decide (i<first.toNat)) s1 s2/\Ext w w'/\∀k,hW b s1 s2 k->w.heap.size<=k)):=by
 refine okF (aa.r8 n first) ao.r8 func91 ?_;(delta aa.r8 an bF ah b4 j7 ad dj xs aR eM al;dsimp only);refine(LW w n).use ?_;rintro _ _ ⟨rfl,rfl⟩;refine⟨_,rfl,λh=>.inl ⟨λhc=>?_,rfl,rfl⟩,λh=>?_⟩
 .simp at h;omega
 simp at h;obtain⟨⟨⟨E,F⟩,G⟩,H⟩:=h;obtain⟨n,rfl⟩:=Ak (by omega:0<=n);obtain⟨first,rfl⟩:=Ak (by omega:0<=first);refine(LX w n J).use ?_;rintro _ _ ⟨rfl,rfl⟩;refine⟨_,rfl,J,?_⟩;simp only[d_];rw[LN];obtain⟨m,hm⟩:∃m,m=(n+7)/8:=⟨_,rfl⟩;rw[←hm];have g:=aT.new (sz:=1) (T:=5) w (List.replicate m (.int .u8 0)) m (by simp) (by show m<=2^63-1;omega);rw[←LY]at g⊢;have ar:Ext w (w.alloc (.cells (fz (λi=>decide (i<0)) m).toArray 5)):=af.alloc (.refl _ _) _;generalize r:w.alloc (.cells (fz (λi=>decide (i<0)) m).toArray 5)=w1 at*;have K:w1.heap.size=w.heap.size+1:=by rw[←r];simp
 have s:=bc.new w1 #[.int .i64 (n:Int),.slice (some ⟨w.heap.size,0,none⟩) m m,.slice none 0 0] 294;have t:=af.alloc ar (.cells #[.int .i64 (n:Int),.slice (some ⟨w.heap.size,0,none⟩) m m,.slice none 0 0] 294);have u:=g.ext (af.alloc (.refl _ w1) (.cells #[.int .i64 (n:Int),.slice (some ⟨w.heap.size,0,none⟩) m m,.slice none 0 0] 294));refine⟨λi w'=>∃j:Nat,i=j/\j<=first/\Ext w w'/\bc w' w1.heap.size #[.int .i64 (n:Int),.slice (some ⟨w.heap.size,0,none⟩) m m,.slice none 0 0] 294/\
  aT 1 5 w' ⟨some ⟨w.heap.size,0,none⟩,m,m⟩ (fz (λi=>decide (i<j)) m),λi _=>((first:Int)-i).toNat,⟨0,rfl,J,t,s,u⟩,?_⟩
 rintro _ ag ⟨j,rfl,L,hx,d,l⟩;refine⟨λaJ=>?_,λx=>?_⟩
 .have o:j<first:=by simpa using aJ
  refine⟨_,rfl,⟨some ⟨w.heap.size,0,none⟩,m,m⟩,by rw[aw,d.cell];rfl,(F7 l (k:=j) J J).use ?_⟩;rintro _ y ⟨rfl,p,hc⟩;rw[LZ]at p;rw[bT J J];refine⟨rfl,⟨j+1,J,J,?_,d.ak hc ?_,p⟩,(show((first:Int)-((j:Int)+1)).toNat<((first:Int)-(j:Int)).toNat from J)⟩
  .exact((af.bL hx).trans hc).mono λk a c=>by rw[mm]at c;simp at c;omega
  .intro c
   rw[mm]at c;simp at c;omega
 .have o:j=first:=by
   have:¬(j:Int)<first:=by simpa using x
   omega
  subst o;have q:∀i,n<=i->decide (i<j)=false:=λi hi=>by simp;omega
  refine(Gd d l (λk a e=>?_) J).use ?_
  .rw[mm]at a
   simp at a;omega
  rintro _ y ⟨rfl,z,h1,A,B,C,f⟩;have M:=d.lt;refine⟨rfl,.inr ⟨J,J,J,J,w1.heap.size,⟨some ⟨w.heap.size,0,none⟩,m,m⟩,z,rfl,⟨h1,?_,?_,λk a=>⟨λe=>?_,λD=>?_⟩,λk a e=>?_,J,J,q,q⟩,?_,?_⟩⟩
  .simp only[←hm];exact A
  .simp only[←hm];exact B
  .rw[mm]at a
   simp at a;omega
  .rw[mm]at a
   simp at a;have:=f k D;omega
  .have:=f k a
   omega
  .exact((af.bL hx).trans C).mono λk a e=>by omega
  .rintro k (rfl|a|a)
   .omega
   .rw[mm]at a
    simp at a;omega
   .have:=f k a
    have:=hx.size;omega
structure Fr where
 full:aj
 gY:aj
 used:aj
 no:Int
 pins:Int
 b:ae
 l:dA
def Fr.c(f:Fr):O Y:=[f.full,f.gY,f.used,f.no,f.pins,f.b]
def dY:Fr:=⟨false,false,false,0,0,⟨none,0,0⟩,[]⟩
structure cv where
 c:Nat
 a8:Nat
 au:O Fr
 hand:Nat
 D:br
def dm(C:cv)(q:Nat):Prop:=q=C.c\/q=C.a8\/cH C.D q
structure fH(w:I)(C:cv):Prop where
 v:Var w C.c [.pointer (some C.D.d),.slice (some C.a8) C.au.length C.au.length,C.hand] 354
 f:bc w C.a8 (bt Fr.c C.au).toArray 351
 dev:dw w C.D
 bW:8<=C.au.length
 b9:C.au.length<=64
 hd:C.hand<C.au.length
 a1:C.c≠C.a8/\¬cH C.D C.c/\¬cH C.D C.a8
structure Gh(X:Nat->Prop)(w:I)(C:cv)(f:Fr)(no:Nat):Prop where
 num:f.no=no
 lt:no<C.D.n
 PD:b5 (λq=>¬dm C q/\¬X q) w f.b f.l
 len:f.l.length=256
 clean:f.gY=false->f.l=C.D.now no
 cy:C.D.cy no=true->f.gY=false
 two:2<=no
structure hE(X:Nat->Prop)(w:I)(C:cv):Prop where
 pins:∀f∈C.au,f.pins=0
 ok:∀f∈C.au,f.full=true->∃no:Nat,Gh X w C f no
 un:∀ (i j:Nat) (hi:i<C.au.length) (a:j<C.au.length),(C.au[i]).full=true->(C.au[j]).full=true->(C.au[i]).no=(C.au[j]).no->i=j
 fI:∀q,X q->q<w.heap.size/\¬dm C q
 qO:∀j,C.D.cy j=true->C.D.fG j=C.D.e7 j
def lX(aI D:br):Prop:=aI.n=D.n/\(∀j,aI.cy j=true->D.cy j=true)/\∀j,aI.cy j=true->aI.fG j=aI.e7 j
theorem hE.vu{X:Nat->Prop}{w:I}{C:cv}(h:hE X w C):lX C.D C.D:=⟨rfl,λ_ h=>h,h.qO⟩
theorem hE.cR{X:Nat->Prop}{w:I}{C:cv}(h:hE X w C)(k:Nat):lX (C.D.cR k) C.D:=⟨rfl,λ_ h=>h,h.qO⟩
structure er(X:Nat->Prop)(w:I)(C:cv):Prop where
 raw:fH w C
 inv:hE X w C
def cv.view(C:cv)(no:Nat):dA:=match C.au.find? λf=>f.full&&f.no==(no:Int) with
 |some f=>f.l
 |none=>C.D.now no
theorem Fr.aX(f:Fr):f.c.length=6:=rfl
theorem zt(l:O Fr):∀x∈l,(Fr.c x).length=6:=λx _=>rfl
section
variable {w w':I}{C:cv}{X:Nat->Prop}
theorem fH.lt(h:fH w C){q:Nat}(a:dm C q):q<w.heap.size:=by
 rcases a with rfl|rfl|a
 .exact h.v.lt
 .exact bc.lt h.f
 .exact h.dev.lt a
theorem fH.ak{W:Nat->Prop}(h:fH w C)(hc:af W w w')(a:∀q,dm C q->¬W q):fH w' C:=
 ⟨h.v.ak hc (a _ (.inl rfl)),bc.ak h.f hc (a _ (.inr (.inl rfl))),h.dev.ak hc λq b=>a q (.inr (.inr b)),h.bW,h.b9,h.hd,h.a1⟩
theorem fH.ext(h:fH w C)(hc:Ext w w'):fH w' C:=h.ak hc λ_ _ h=>h
theorem hE.ak{W:Nat->Prop}(h:hE X w C)(hc:af W w w')(b:∀q,W q->dm C q\/X q):hE X w' C:=
 ⟨h.pins,λf hf c=>by
  obtain⟨no,aA,d,e,g,i,j,k⟩:=h.ok f hf c
  exact⟨no,aA,d,b5.ak e hc λq a l=>by
   rcases b q l with h1|h1
   .exact a.1 h1
   .exact a.2 h1,g,i,j,k⟩,h.un,λq a=>⟨fB (h.fI q a).1 hc.size,(h.fI q a).2⟩,h.qO⟩
theorem er.ak{W:Nat->Prop}(h:er X w C)(hc:af W w w')(b:∀q,W q->X q):er X w' C:=
 ⟨h.raw.ak hc λq c a=>(h.inv.fI q (b q a)).2 c,h.inv.ak hc λq a=>.inr (b q a)⟩
theorem er.ext(h:er X w C)(hc:Ext w w'):er X w' C:=h.ak hc λ_ h=>h.elim
theorem vv(a8 i:Nat):Addr.add a8 (Int.toNat (i:Int)*6)=⟨a8,i*6,none⟩:=by rw[d_,aw,cz]
theorem fH.cells(h:fH w C):w.cell? C.c=some (.pointer (some C.D.d))/\w.cell? (Addr.add C.c 1)=some (.slice (some C.a8) C.au.length C.au.length)/\w.cell? (Addr.add C.c 2)=some (.int .i64 C.hand):=by
 rw[aw,aw];exact⟨h.v.cell,h.v.cell,h.v.cell⟩
theorem lp{w:I}{a8:Nat}{fs:O Fr}{T:TypeId}(h:bc w a8 (bt Fr.c fs).toArray T){i j:Nat}(hi:i<fs.length)(a:j<6):w.cell? ⟨a8,i*6+j,none⟩=((fs[i]).c)[j]? :=by
 rw[bc.cell h];simp only[tC];exact Cj (zt fs) hi a
theorem pk{w:I}{a8:Nat}{fs:O Fr}{T:TypeId}(h:bc w a8 (bt Fr.c fs).toArray T){i j:Nat}(hi:i<fs.length)(a:j<6){v:Y}(f':Fr)(hf:f'.c=(fs[i]).c.set j v):
 (∃u:Y,w.cell? ⟨a8,i*6+j,none⟩=some u)/\w.frozen? ⟨a8,i*6+j,none⟩=false/\bc (w.setCell ⟨a8,i*6+j,none⟩ v) a8 (bt Fr.c (fs.set i f')).toArray T/\af (λq=>q=a8) w (w.setCell ⟨a8,i*6+j,none⟩ v):=by
 refine⟨⟨((fs[i]).c)[j]'(by rw[Fr.aX];exact a),by rw[lp h hi a,eJ (by rw[Fr.aX];exact a)]⟩,bc.frozen h _ rfl,?_,dX _ _ _ _⟩;have:=eO (vs:=bt Fr.c fs) h (i:=i*6+j) v;rw[K9 (zt fs) hi a hf]at this;exact this
theorem Cv{w:I}{a8:Nat}{fs:O Fr}{T:TypeId}(h:bc w a8 (bt Fr.c fs).toArray T){i:Nat}(hi:i<fs.length)(f':Fr):
 b_ w ⟨a8,i*6,none⟩ f'.c/\bc (setCells w ⟨a8,i*6,none⟩ 0 f'.c) a8 (bt Fr.c (fs.set i f')).toArray T/\af (λq=>q=a8) w (setCells w ⟨a8,i*6,none⟩ 0 f'.c):=by
 have d:=jR (c:=Fr.c) fs (zt fs);have b:i*6+f'.c.length<=(bt Fr.c fs).toArray.size:=by
  rw[we,d,Fr.aX];omega
 refine⟨bc.bX h _ _ b ?_,?_,af.iV (.refl _ _) _ 0⟩
 .intro v a
  unfold Fr.c at a;simp only[cY,fC,fM]at a;rcases a with rfl|rfl|rfl|rfl|rfl|rfl<;>trivial
 .have h0:=bc.k8 (o:=i*6) h f'.c
  have e:gE (bt Fr.c fs).toArray (i*6) f'.c=(bt Fr.c (fs.set i f')).toArray:=by
   have h1:=j5 f'.c (bt Fr.c fs).toArray (i*6) b;have f:=FN (zt fs) hi f';have g:f'.c.length=6:=rfl;rw[g]at h1;have j:(gE (bt Fr.c fs).toArray (i*6) f'.c).toList=bt Fr.c (fs.set i f'):=h1.trans f;rw[←j]
  rw[e]at h0;exact h0
theorem Gi(h:fH w C)(no:Int):aC ai 206 #[.pointer (some C.c),no] w (λv w'=>v=.bool (decide (0<=no/\no<C.D.n))/\w=w'):=by
 refine okF (aa.yi (some C.c) no) ao.yi func206 ?_;(delta aa.yi ah ay b4;dsimp only);refine cc (λb w'=>b=decide (0<=no/\no<C.D.n)/\w=w') (λq a=>⟨λhb=>⟨_,rfl,_,h.cells.1,(zm h.dev).use ?_⟩,λhb=>a _ _ ⟨?_,rfl⟩⟩) ?_
 .rintro _ _ ⟨rfl,rfl⟩
  have hb:0<=no:=by simpa using hb
  refine⟨_,rfl,a _ _ ⟨?_,rfl⟩⟩;rw[fL,cX,cX];exact⟨λh=>⟨hb,h⟩,λh=>h.2⟩
 .have hb:¬0<=no:=by simpa using hb
  rw[im (λh=>hb h.1)]
 .rintro _ _ ⟨rfl,rfl⟩
  exact⟨rfl,rfl⟩
def AtR(C:cv)(no:Int)(v:Y):Prop:=
 (∃ (i:Nat) (hi:i<C.au.length),v=.pointer (some ⟨C.a8,i*6,none⟩)/\(C.au[i]).full=true/\(C.au[i]).no=no)\/
 (v=.pointer none/\∀f∈C.au,f.full=true->f.no≠no)
theorem zu(h:fH w C)(no:Int):aC ai 207 #[.pointer (some C.c),no] w (λv w'=>AtR C no v/\w=w'):=by
 obtain⟨cu,bd,bo⟩:=h.cells;have a:=h.b9;refine okF (aa.yj (some C.c) no) ao.yj func207 ?_;(delta aa.yj ah ay aR dj bl bq bw aS r1 al;dsimp only);refine⟨λh=>(by cases h),λ_=>⟨_,rfl,⟨some C.a8,C.au.length,C.au.length⟩,bd,λi w'=>∃j:Nat,i=j/\j<=C.au.length/\w=w'/\∀ (k:Nat) (a:k<C.au.length),k<j->(C.au[k]).full=true->(C.au[k]).no≠no,λi _=>((C.au.length:Int)-i).toNat,⟨0,rfl,c8 _,rfl,λk _ h=>J⟩,?_⟩⟩;rintro _ _ ⟨j,rfl,r,rfl,e⟩;refine⟨λaJ=>?_,λd=>?_⟩
 .have aJ:(j:Int)<(C.au.length:Int):=b8 aJ
  have aJ:j<C.au.length:=by omega
  refine⟨_,rfl,⟨some C.a8,C.au.length,C.au.length⟩,bd,_,rfl,⟨J,by show(j:Int)<(C.au.length:Int);omega⟩,_,rfl,?_⟩;rw[vv];have f0:=lp h.f aJ (j:=0) (by decide);have f3:=lp h.f aJ (j:=3) (by decide);refine⟨(C.au[j]).full,f0,cc (λb w'=>w=w'/\(b=true↔((C.au[j]).full=true/\(C.au[j]).no=no))) (λq g=>⟨λhb=>⟨_,rfl,(C.au[j]).no,by rw[aw];exact f3,g _ _ ⟨rfl,?_⟩⟩,λhb=>g _ _ ⟨rfl,?_⟩⟩) ?_⟩
  .rw[jy]
   exact⟨λh=>⟨hb,h⟩,λh=>h.2⟩
  .rw[hb]
   exact⟨λh=>(by cases h),λh=>(by cases h.1)⟩
  rintro b w' ⟨rfl,hb⟩;refine⟨λh1=>⟨.inl ⟨j,aJ,rfl,(hb.1 h1).1,(hb.1 h1).2⟩,rfl⟩,λh1=>?_⟩;rw[bT (n:=(j:Int)+1) J J];refine⟨⟨j+1,J,J,rfl,λk a s l=>?_⟩,?_⟩
  .rcases eF k j with m|m
   .exact e k a m l
   .have:k=j:=by omega
    subst this;intro o;rw[hb.2 ⟨l,o⟩]at h1;cases h1
  .show((C.au.length:Int)-((j:Int)+1)).toNat<((C.au.length:Int)-(j:Int)).toNat
   omega
 .have d:j=C.au.length:=by
   have:¬((j:Int)<(C.au.length:Int)):=cL d;omega
  subst d;refine⟨.inr ⟨rfl,λf hf p=>?_⟩,rfl⟩;obtain⟨k,a,rfl⟩:=fi hf;exact e k a a p
theorem L0(h:fH w C):aC ai 262 #[.pointer (some C.c)] w (λv w'=>((∃ (i:Nat) (hi:i<C.au.length),v=.pointer (some ⟨C.a8,i*6,none⟩)/\(C.au[i]).full=false)\/(v=.pointer none/\∀f∈C.au,f.full=true))/\w=w'):=by
 obtain⟨cu,bd,bo⟩:=h.cells;have a:=h.b9;refine okF (aa.yx (some C.c)) ao.yx func262 ?_;(delta aa.yx ay aR dj ah bl bq aS bw al;dsimp only);refine⟨_,rfl,⟨some C.a8,C.au.length,C.au.length⟩,bd,λi w'=>∃j:Nat,i=j/\j<=C.au.length/\w=w'/\∀ (k:Nat) (a:k<C.au.length),k<j->(C.au[k]).full=true,λi _=>((C.au.length:Int)-i).toNat,⟨0,rfl,c8 _,rfl,λk _ h=>J⟩,?_⟩;rintro _ _ ⟨j,rfl,g,rfl,d⟩;refine⟨λaJ=>?_,λb=>?_⟩
 .have aJ:(j:Int)<(C.au.length:Int):=b8 aJ
  have aJ:j<C.au.length:=by omega
  have f0:=lp h.f aJ (j:=0) (by decide);refine⟨_,rfl,⟨some C.a8,C.au.length,C.au.length⟩,bd,_,rfl,⟨J,by show(j:Int)<(C.au.length:Int);omega⟩,(C.au[j]).full,by rw[vv];exact f0,λhb=>⟨_,rfl,⟨some C.a8,C.au.length,C.au.length⟩,bd,_,rfl,⟨J,by show(j:Int)<(C.au.length:Int);omega⟩,.inl ⟨j,aJ,by rw[vv],by simpa using hb⟩,rfl⟩,λhb=>?_⟩;rw[bT (n:=(j:Int)+1) J J];refine⟨⟨j+1,J,J,rfl,λk a l=>?_⟩,?_⟩
  .rcases eF k j with e|e
   .exact d k a e
   .have:k=j:=by omega
    subst this;simpa using hb
  .show((C.au.length:Int)-((j:Int)+1)).toNat<((C.au.length:Int)-(j:Int)).toNat
   omega
 .have b:j=C.au.length:=by
   have:¬((j:Int)<(C.au.length:Int)):=cL b;omega
  subst b;refine⟨.inr ⟨rfl,λf hf=>?_⟩,rfl⟩;obtain⟨k,a,rfl⟩:=fi hf;exact d k a a
def iP(fs gs:O Fr):Prop:=gs.length=fs.length/\∀ (i:Nat) (h1:i<fs.length) (a:i<gs.length),gs[i]={fs[i] with used:=(gs[i]).used}
theorem iP.refl(fs:O Fr):iP fs fs:=⟨rfl,λi h1 a=>rfl⟩
theorem iP.set{fs gs:O Fr}(h:iP fs gs){i:Nat}(hi:i<gs.length)(u:aj):iP fs (gs.set i {gs[i] with used:=u}):=by
 refine⟨by rw[dE];exact h.1,λj h1 a=>?_⟩;rw[tG];split
 .rename_i e
  subst e;have:=h.2 i h1 hi;rw[this]
 .exact h.2 j h1 _
theorem L1(h:fH w C)(A:∀f∈C.au,f.pins=0):aC ai 263 #[.pointer (some C.c)] w (λv w'=>∃ (i:Nat) (gs:O Fr) (hd:Nat),i<C.au.length/\v=.pointer (some ⟨C.a8,i*6,none⟩)/\iP C.au gs/\fH w' {C with au:=gs,hand:=hd}/\af (λq=>q=C.c\/q=C.a8) w w'):=by
 obtain⟨cu,bd,bo⟩:=h.cells;have Q:=h.bW;have R:=h.b9;have B:=h.hd;refine okF (aa.yy (some C.c)) ao.yy func263 ?_;(delta aa.yy ay r1 aR fO ah al bl bq bw aS st;dsimp only);refine⟨_,rfl,_,bo,_,rfl,⟨some C.a8,C.au.length,C.au.length⟩,bd,λat' i w'=>∃ (s:Nat) (gs:O Fr),i=s/\s<=C.au.length/\at'=(((C.hand+s)%C.au.length:Nat):Int)/\iP C.au gs/\fH w' {C with au:=gs}/\af (λq=>q=C.c\/q=C.a8) w w'/\∀ (t:Nat) (hx:(C.hand+t)%C.au.length<gs.length),t<s->(gs[(C.hand+t)%C.au.length]).used=false,
  λ_ i _=>(2*(C.au.length:Int)-i).toNat,⟨0,C.au,rfl,c8 _,by rw[kT,iF B],iP.refl _,h,.refl _ _,λt _ h=>J⟩,?_⟩
 rintro _ _ w1 ⟨s,gs,rfl,hs,rfl,m,b,hc,r⟩;have u:gs.length=C.au.length:=m.1;obtain⟨i,hi⟩:∃i,i=(C.hand+s)%C.au.length:=⟨_,rfl⟩;have d:i<gs.length:=by rw[hi,u];exact hZ _ J
 rw[←hi];obtain⟨d0,d1,d2⟩:=b.cells;have d1:w1.cell? (Addr.add C.c 1)=some (.slice (some C.a8) gs.length gs.length):=d1;have hf:bc w1 C.a8 (bt Fr.c gs).toArray 351:=b.f;rw[bT (n:=2*(C.au.length:Int)) J J];have D:IntKind.wrap .i64 ((i:Int)+1)=((i+1:Nat):Int):=by rw[bT J J];rfl
 have x:Int.tmod ((i+1:Nat):Int) (gs.length:Int)=(((i+1)%gs.length:Nat):Int):=by
  rw[tO J];rfl
 have E:(i+1)%gs.length=(C.hand+(s+1))%C.au.length:=by
  rw[hi,u,Nat.mod_add_mod];rfl
 refine⟨λaJ=>?_,λF=>?_⟩
 .refine cc (λa w'=>a=(((C.hand+(s+1))%C.au.length:Nat):Int)/\∃g:O Fr,s+1<=C.au.length/\iP C.au g/\fH w' {C with au:=g}/\af (λq=>q=C.c\/q=C.a8) w w'/\∀ (t:Nat) (hx:(C.hand+t)%C.au.length<g.length),t<s+1->(g[(C.hand+t)%C.au.length]).used=false) (λq k=>⟨_,rfl,⟨some C.a8,gs.length,gs.length⟩,d1,_,rfl,⟨J,by show(i:Int)<(gs.length:Int);omega⟩,_,rfl,⟨some C.a8,gs.length,gs.length⟩,d1,by show(gs.length:Int)≠0;omega,_,rfl,?_⟩) ?_
  .rw[vv,D]
   have f4:=lp hf d (j:=4) (by decide);have f2:=lp hf d (j:=2) (by decide);have G:(gs[i]).pins=0:=by
    have h1:=m.2 i J d;have l:(gs[i]).pins=(C.au[i]'J).pins:=by rw[h1]
    rw[l];exact A _ (c3 _)
   refine⟨(gs[i]).pins,by rw[aw];exact f4,λhb=>?_,λ_=>⟨_,rfl,(gs[i]).used,by rw[aw];exact f2,λhu=>⟨_,rfl,?_⟩,λhu=>⟨_,rfl,?_⟩⟩⟩
   .rw[G]at hb;simp at hb
   .have H:s<C.au.length:=by
     rcases eF s C.au.length with h1|h1
     .exact h1
     .have es:s=C.au.length:=by omega
      have y:(C.hand+0)%C.au.length=i:=by rw[hi,es,Nat.add_mod_right];rfl
      have l:=r 0 (by rw[y];exact d) J;have o:(gs[i]).used=false:=by
       have e:gs[(C.hand+0)%C.au.length]'(by rw[y];exact d)=gs[i]:=by congr 1
       rw[←e];exact l
      rw[o]at hu;cases hu
    obtain⟨aA,I,K,p⟩:=pk hf d (j:=2) (by decide) (v:=false) {gs[i] with used:=false} rfl;rw[aw];refine⟨aA,I,aO (k _ _ ⟨by rw[x,E],gs.set i {gs[i] with used:=false},H,m.set d false,?_,hc.trans (p.mono λq _ e=>.inr e),λt hx ht=>?_⟩)⟩
    .have L:=b.v.ak p h.a1.1
     refine⟨?_,K,b.dev.ak p (λq k e=>h.a1.2.2 (e▸k)),?_,?_,?_,h.a1⟩
     .show Var _ _ [_,.slice (some C.a8) (gs.set i _).length (gs.set i _).length,_] _
      rw[dE];exact L
     .show 8<=(gs.set i _).length;rw[dE];omega
     .show(gs.set i _).length<=64;rw[dE];omega
     .show C.hand<(gs.set i _).length;rw[dE];omega
    .rw[tG]
     split
     .rfl
     .rename_i M
      rcases eF t s with h1|h1
      .exact r t _ h1
      .have:t=s:=by omega
       subst this;exact absurd hi M
   .obtain⟨s1,s2⟩:=eP b.v (i:=2) (by simp)
    rw[aw,x];refine⟨s1,s2,aO ⟨i,gs,(i+1)%gs.length,J,rfl,m,?_,hc.trans ((dX _ _ _ _).mono λq _ e=>.inl e)⟩⟩;have z:=dX w1 C.c 2 (.int .i64 (((i+1)%gs.length:Nat):Int));refine⟨eO b.v (i:=2) (.int .i64 (((i+1)%gs.length:Nat):Int)),bc.ak hf z (λe=>h.a1.1 e.symm),b.dev.ak z (λq k e=>h.a1.2.1 (e▸k)),b.bW,b.b9,?_,h.a1⟩;exact hZ _ J
  .rintro a w' ⟨rfl,g,h1,l,o,N,P⟩
   rw[bT (n:=(s:Int)+1) J J];refine⟨⟨s+1,g,J,h1,rfl,l,o,N,P⟩,?_⟩;show(2*(C.au.length:Int)-((s:Int)+1)).toNat<(2*(C.au.length:Int)-(s:Int)).toNat;omega
 .have:=cL F
  omega
end
structure eQ(C aU:cv)(w w':I)(k:Nat):Prop where
 c:aU.c=C.c
 d:aU.D.d=C.D.d
 len:aU.au.length=C.au.length
 cd:aU.D.key=C.D.key
 bx:aU.D.bx<=C.D.bx+k
 calm:∀m,C.D.calm (m+k)->aU.D.calm m
 ak:af (dm C) w w'
 dZ:∀q,dm aU q->dm C q\/w.heap.size<=q
theorem eQ.refl(C:cv)(w:I):eQ C C w w 0:=⟨rfl,rfl,rfl,rfl,ba _,λ_ h=>h,.refl _ _,λ_ h=>.inl h⟩
theorem eQ.ext{w w':I}(C:cv)(h:Ext w w'):eQ C C w w' 0:=⟨rfl,rfl,rfl,rfl,ba _,λ_ h=>h,af.bL h,λ_ h=>.inl h⟩
theorem eQ.trans{C aU b:cv}{w w' e:I}{k l:Nat}(h1:eQ C aU w w' k)(a:eQ aU b w' e l):eQ C b w e (k+l):=by
 have hs:=h1.ak.size;refine⟨a.c.trans h1.c,a.d.trans h1.d,a.len.trans h1.len,a.cd.trans h1.cd,by have:=h1.bx;have:=a.bx;omega,λm hm=>a.calm m (h1.calm (m+l) (by rw[show m+l+k=m+(k+l) from J];exact hm)),de h1.ak a.ak λq f h=>(h1.dZ q h).resolve_right J,λq f=>?_⟩;rcases a.dZ q f with h|h
 .exact h1.dZ q h
 .exact .inr J
theorem eQ.mono{C aU:cv}{w w':I}{k l:Nat}(h:eQ C aU w w' k)(a:k<=l):eQ C aU w w' l:=
 ⟨h.c,h.d,h.len,h.cd,by have:=h.bx;omega,λm hm=>h.calm m (ig hm J),h.ak,h.dZ⟩
theorem eQ.cy{C aU:cv}{w w':I}{k:Nat}(h:eQ C aU w w' k):aU.D.cy=C.D.cy:=congrArg (λk:(O dA×(Nat->aj)×(Nat->O dA)×(Int->Prop)×aj)×Int=>k.1.2.1) h.cd
theorem eQ.qP{C aU:cv}{w w':I}{k:Nat}(h:eQ C aU w w' k):aU.D.cy=C.D.cy/\aU.D.e7=C.D.e7:=⟨h.cy,congrArg (λk:(O dA×(Nat->aj)×(Nat->O dA)×(Int->Prop)×aj)×Int=>k.1.2.2.1) h.cd⟩
theorem eQ.n{C aU:cv}{w w':I}{k:Nat}(h:eQ C aU w w' k):aU.D.n=C.D.n:=congrArg (λk:(O dA×(Nat->aj)×(Nat->O dA)×(Int->Prop)×aj)×Int=>k.1.1.length) h.cd
section
variable {w w':I}{C:cv}{X:Nat->Prop}
theorem n2{fs:O Fr}{D:br}{c a8 hd:Nat}(un:∀ (i j:Nat) (hi:i<fs.length) (d:j<fs.length),(fs[i]).full=true->(fs[j]).full=true->(fs[i]).no=(fs[j]).no->i=j){i:Nat}(hi:i<fs.length){no:Nat}(hf:(fs[i]).full=true)(e:(fs[i]).no=no):(cv.mk c a8 fs hd D).view no=(fs[i]).l:=by
 unfold cv.view
 cases a:fs.find? λf=>f.full&&f.no==(no:Int) with
 |none=>
  have:=ky.1 a _ (c3 hi);simp[hf,e]at this
 |some f=>
  have hm:=j0 a;have b:=kX a;simp only[dH,jy]at b;obtain⟨j,d,rfl⟩:=fi hm;have:=un i j hi d hf b.1 (by rw[e,b.2]);subst this;simp only
theorem pn{fs:O Fr}{D:br}{c a8 hd:Nat}{no:Nat}(h:∀f∈fs,f.full=true->f.no≠no):(cv.mk c a8 fs hd D).view no=D.now no:=by
 unfold cv.view
 cases b:fs.find? λf=>f.full&&f.no==(no:Int) with
 |none=>rfl
 |some f=>
  have hm:=j0 b;have a:=kX b;simp only[dH,jy]at a;exact absurd a.2 (h f hm a.1)
theorem zv(D:br)(k i:Nat):(D.cR k).now i=D.now i:=rfl
theorem b5.re{B b:Nat->Prop}{w w':I}{t:ae}{l:Key}{V:Nat->Prop}(h:b5 B w t l)(hc:af V w w')(c:∀q,q<w.heap.size->B q->¬V q)(hb:∀q,q<w.heap.size->B q->b q):b5 b w' t l:=
 ⟨h.1.ak hc λq a=>c q (h.2.2 q a).2 (h.2.2 q a).1,h.2.1,λq a=>⟨hb q (h.2.2 q a).2 (h.2.2 q a).1,fB (h.2.2 q a).2 hc.size⟩⟩
theorem vw{gs:O Fr}{hd:Nat}{aI:br}{V:Nat->Prop}(h:hE X w C)(hs:iP C.au gs)(hc:af V w w')(gp:∀q,q<w.heap.size->V q->dm C q)(k:lX aI C.D)(p:∀i,aI.now i=C.D.now i)(r:∀q,cH aI q->cH C.D q\/w.heap.size<=q):hE X w' {C with au:=gs,hand:=hd,D:=aI}:=by
 have s:=hc.size;have n:∀q,q<w.heap.size->dm {C with au:=gs,hand:=hd,D:=aI} q->dm C q:=λq a hf=>by
  rcases hf with h1|h1|h1
  .exact .inl h1
  .exact .inr (.inl h1)
  .exact .inr (.inr ((r q h1).resolve_right J))
 have g:∀ (i:Nat) (hi:i<gs.length),∃c:i<C.au.length,gs[i]={C.au[i] with used:=(gs[i]).used}:=λi hi=>⟨by rw[←hs.1];exact hi,hs.2 i (by rw[←hs.1];exact hi) hi⟩;refine⟨λf hf=>?_,λf hf t=>?_,λi j hi u h1 v x=>?_,λq a=>⟨fB (h.fI q a).1 s,λhf=>(h.fI q a).2 (n q (h.fI q a).1 hf)⟩,k.2.2⟩
 .obtain⟨i,hi,rfl⟩:=fi hf
  obtain⟨c,e⟩:=g i hi;have:(gs[i]).pins=(C.au[i]).pins:=by rw[e]
  rw[this];exact h.pins _ (c3 c)
 .obtain⟨i,hi,rfl⟩:=fi hf
  obtain⟨c,e⟩:=g i hi;have aG:(gs[i]).full=(C.au[i]).full:=by rw[e]
  have aM:(gs[i]).no=(C.au[i]).no:=by rw[e]
  have m:(gs[i]).b=(C.au[i]).b:=by rw[e]
  have d:(gs[i]).l=(C.au[i]).l:=by rw[e]
  have o:(gs[i]).gY=(C.au[i]).gY:=by rw[e]
  obtain⟨no,aA,y,z,A,B,E,F⟩:=h.ok _ (c3 c) (by rw[←aG];exact t);refine⟨no,by rw[aM];exact aA,by rw[k.1];exact y,?_,by rw[d];exact A,λhd=>by rw[d,p];exact B (by rw[←o];exact hd),λhs=>by rw[o];exact E (k.2.1 _ hs),F⟩;rw[m,d];exact b5.re z hc (λq a hb G=>hb.1 (gp q a G)) λq a hb=>⟨λhf=>hb.1 (n q a hf),hb.2⟩
 .obtain⟨c,e⟩:=g i hi
  obtain⟨H,e'⟩:=g j u;have aG:(gs[i]).full=(C.au[i]).full:=by rw[e]
  have aM:(gs[i]).no=(C.au[i]).no:=by rw[e]
  have m:(gs[j]).full=(C.au[j]).full:=by rw[e']
  have d:(gs[j]).no=(C.au[j]).no:=by rw[e']
  exact h.un i j c H (by rw[←aG];exact h1) (by rw[←m];exact v) (by rw[←aM,←d];exact x)
theorem vx{gs:O Fr}{hd:Nat}{aI:br}(h:hE X w C)(hs:iP C.au gs)(q:∀i,aI.now i=C.D.now i)(no:Nat):(cv.mk C.c C.a8 gs hd aI).view no=C.view no:=by
 have g:∀ (i:Nat) (hi:i<gs.length),∃k:i<C.au.length,gs[i]={C.au[i] with used:=(gs[i]).used}:=λi hi=>⟨by rw[←hs.1];exact hi,hs.2 i (by rw[←hs.1];exact hi) hi⟩;by_cases hex:∃ (i:Nat) (hi:i<C.au.length),(C.au[i]).full=true/\(C.au[i]).no=no
 .obtain⟨i,hi,h1,d⟩:=hex
  have m:i<gs.length:=by rw[hs.1];exact hi
  obtain⟨k,e⟩:=g i m;have aG:(gs[i]).full=(C.au[i]).full:=by rw[e]
  have aM:(gs[i]).no=(C.au[i]).no:=by rw[e]
  have r:(gs[i]).l=(C.au[i]).l:=by rw[e]
  have s:∀ (i j:Nat) (hi:i<gs.length) (y:j<gs.length),(gs[i]).full=true->(gs[j]).full=true->(gs[i]).no=(gs[j]).no->i=j:=by
   intro a b t hb bW b9 u;obtain⟨v,n⟩:=g a t;obtain⟨x,o⟩:=g b hb;have f1:(gs[a]).full=(C.au[a]).full:=by rw[n]
   have f2:(gs[a]).no=(C.au[a]).no:=by rw[n]
   have f3:(gs[b]).full=(C.au[b]).full:=by rw[o]
   have f4:(gs[b]).no=(C.au[b]).no:=by rw[o]
   exact h.un a b v x (by rw[←f1];exact bW) (by rw[←f3];exact b9) (by rw[←f2,←f4];exact u)
  rw[n2 s m (by rw[aG];exact h1) (by rw[aM];exact d),r];exact(n2 (fs:=C.au) (D:=C.D) (c:=C.c) (a8:=C.a8) (hd:=C.hand) h.un hi h1 d).symm
 .have p:∀f∈C.au,f.full=true->f.no≠no:=λf hf h1 d=>by
   obtain⟨i,hi,rfl⟩:=fi hf;exact hex ⟨i,hi,h1,d⟩
  have e:C.view no=C.D.now no:=pn (fs:=C.au) (D:=C.D) (c:=C.c) (a8:=C.a8) (hd:=C.hand) p;rw[e,←q];refine pn λf hf h1 d=>?_;obtain⟨i,hi,rfl⟩:=fi hf;obtain⟨k,e⟩:=g i hi;have aG:(gs[i]).full=(C.au[i]).full:=by rw[e]
  have aM:(gs[i]).no=(C.au[i]).no:=by rw[e]
  exact p _ (c3 k) (by rw[←aG];exact h1) (by rw[←aM];exact d)
theorem Cw{i:Nat}(hi:i<C.au.length){aI:br}{V:Nat->Prop}(h:hE X w C)(hc:af V w w')(gp:∀q,q<w.heap.size->V q->dm C q)(l:lX aI C.D)
 (t:∀j:Nat,((C.au[i]).full=true->(C.au[i]).no≠j)->aI.now j=C.D.now j) (u:∀q,cH aI q->cH C.D q\/w.heap.size<=q) (f0:Fr) (m:f0.full=false) (v:f0.pins=0):hE X w' {C with au:=C.au.set i f0,D:=aI}:=by
 have x:=hc.size;have o:∀q,q<w.heap.size->dm {C with au:=C.au.set i f0,D:=aI} q->dm C q:=λq c hf=>by
  rcases hf with h1|h1|h1
  .exact .inl h1
  .exact .inr (.inl h1)
  .exact .inr (.inr ((u q h1).resolve_right J))
 refine⟨λf hf=>?_,λf hf d=>?_,λa b y hb h1 g n=>?_,λq c=>⟨fB (h.fI q c).1 x,λhf=>(h.fI q c).2 (o q (h.fI q c).1 hf)⟩,l.2.2⟩
 .rcases oB hf with hf|rfl
  .exact h.pins f hf
  .exact v
 .obtain⟨k,z,rfl⟩:=fi hf
  have p:k<C.au.length:=by simpa using z
  by_cases e:i=k
  .subst e
   simp only[jd]at d;rw[m]at d;cases d
  .simp only[gf e]at d⊢
   obtain⟨no,aA,A,B,E,F,G,H⟩:=h.ok _ (c3 p) d;refine⟨no,aA,by rw[l.1];exact A,b5.re B hc (λq c hb I=>hb.1 (gp q c I)) λq c hb=>⟨λhf=>hb.1 (o q c hf),hb.2⟩,E,λhd=>?_,λhs=>G (l.2.1 _ hs),H⟩;show _=aI.now no;rw[t no λK he=>e (h.un i k hi p K d (by rw[he,aA]))];exact F hd
 .have L:a<C.au.length:=by simpa using y
  have M:b<C.au.length:=by simpa using hb
  by_cases r:i=a
  .subst r
   simp only[jd]at h1;rw[m]at h1;cases h1
  by_cases s:i=b
  .subst s
   simp only[jd]at g;rw[m]at g;cases g
  simp only[gf r]at h1 n;simp only[gf s]at g n;exact h.un a b L M h1 g n
theorem Gj{i:Nat}(hi:i<C.au.length){aI:br}{hd:Nat}(h:hE X w C)(x:(C.au[i]).full=true->∀j:Nat,(C.au[i]).no=j->aI.now j=(C.au[i]).l)(y:∀j:Nat,((C.au[i]).full=true->(C.au[i]).no≠j)->aI.now j=C.D.now j)(f0:Fr)(n:f0.full=false)(no:Nat):
 (cv.mk C.c C.a8 (C.au.set i f0) hd aI).view no=C.view no:=by
 by_cases hex:∃ (k:Nat) (m:k<C.au.length),(C.au[k]).full=true/\(C.au[k]).no=no
 .obtain⟨k,m,h1,d⟩:=hex
  have p:=n2 (fs:=C.au) (D:=C.D) (c:=C.c) (a8:=C.a8) (hd:=C.hand) h.un m h1 d;have p:C.view no=(C.au[k]).l:=p;rw[p];by_cases e:i=k
  .subst e
   rw[←x h1 no d];refine pn λf hf aA u=>?_;obtain⟨a,o,rfl⟩:=fi hf;have q:a<C.au.length:=by simpa using o
   by_cases g:i=a
   .subst g
    simp only[jd]at aA;rw[n]at aA;cases aA
   .simp only[gf g]at aA u
    exact g (h.un i a hi q h1 aA (by rw[d,u]))
  .have z:k<(C.au.set i f0).length:=by simpa using m
   have r:(C.au.set i f0)[k]=C.au[k]:=gf e _;have A:∀ (a b:Nat) (o:a<(C.au.set i f0).length) (hb:b<(C.au.set i f0).length),((C.au.set i f0)[a]).full=true->((C.au.set i f0)[b]).full=true->((C.au.set i f0)[a]).no=((C.au.set i f0)[b]).no->a=b:=by
    intro a b o hb h1 d s;have q:a<C.au.length:=by simpa using o
    have B:b<C.au.length:=by simpa using hb
    by_cases g:i=a
    .subst g
     simp only[jd]at h1;rw[n]at h1;cases h1
    by_cases v:i=b
    .subst v
     simp only[jd]at d;rw[n]at d;cases d
    simp only[gf g]at h1 s;simp only[gf v]at d s;exact h.un a b q B h1 d s
   rw[n2 A z (by rw[r];exact h1) (by rw[r];exact d),r]
 .have t:∀f∈C.au,f.full=true->f.no≠no:=λf hf h1 d=>by
   obtain⟨k,m,rfl⟩:=fi hf;exact hex ⟨k,m,h1,d⟩
  have e:C.view no=C.D.now no:=pn (fs:=C.au) (D:=C.D) (c:=C.c) (a8:=C.a8) (hd:=C.hand) t;rw[e,←y no λh1 d=>t _ (c3 hi) h1 d];refine pn λf hf h1 d=>?_;rcases oB hf with hf|rfl
  .exact t f hf h1 d
  .rw[n]at h1;cases h1
theorem Gk{X:Nat->Prop}{w:I}{C:cv}(h:hE X w C){no:Nat}{s:ae}{l:dA}(hs:¬C.D.cy no=true):lX (C.D.put no s l) C.D:=
 ⟨rfl,λ_ h=>h,λj a=>by
  have a:C.D.cy j=true:=a
  rw[FW,if_neg λe=>hs (by rw[←e];exact a)];exact h.qO j a⟩
theorem Gl(D:br){no:Nat}{s:ae}{l:dA}(hs:¬D.cy no=true):(D.put no s l).key=D.key:=by
 have h1:=ta D (k:=2) (.inr rfl);unfold br.key at h1⊢;have b:(D.put no s l).ln=D.ln:=by
  funext n;exact propext ⟨λ_ h=>absurd (h no) hs,λ_ h=>absurd (h no) hs⟩
 rw[b];have a:=congrArg Prod.snd h1;show((D.cd,D.cy,D.e7,D.ln,D.r1),(D.cR 2).cE.getD 3 0)=_;have a:(D.cR 2).cE.getD 3 0=D.cE.getD 3 0:=a;rw[a]
def Gm(X:Nat->Prop)(C:cv)(w:I)(v:Y)(w':I):Prop:=
 ∃aU:cv,er X w' aU/\eQ C aU w w' 1/\aU.a8=C.a8/\(∀j,aU.view j=C.view j)/\(∀f∈aU.au,f.full=true->∃g∈C.au,g.full=true/\g.no=f.no)/\
  ((∃ (i:Nat) (hi:i<aU.au.length),v=.tuple #[.pointer (some ⟨C.a8,i*6,none⟩),(0:Int)]/\(aU.au[i]).full=false/\((aU.au[i]).pins=0))\/
   (v=.tuple #[.pointer none,(3:Int)]/\¬C.D.calm 1))
theorem Gn(h:er X w C)(al:C.D.bx<=1000000000):aC ai 208 #[.pointer (some C.c)] w (Gm X C w):=by
 have S:=h.raw;refine okF (aa.yk (some C.c)) ao.yk func208 ?_;(delta aa.yk g7 ah ay aS r1 aR b4 bH;dsimp only);refine(L0 S).use ?_;rintro _ _ ⟨he,rfl⟩;rcases he with ⟨i,hi,rfl,hf⟩|⟨rfl,am⟩
 .exact⟨_,rfl,λ_=>⟨C,h,(eQ.refl C w).mono (c8 _),rfl,λ_=>rfl,λf hf H=>⟨f,hf,H,rfl⟩,.inl ⟨i,hi,rfl,hf,h.inv.pins _ (c3 hi)⟩⟩,λh=>(by cases h)⟩
 refine⟨_,rfl,λh=>(by cases h),λ_=>(L1 S h.inv.pins).use ?_⟩;rintro _ w1 ⟨i,gs,hd,hi,rfl,z,r,ap⟩;have T:i<gs.length:=by rw[z.1];exact hi
 have L:af (dm C) w w1:=ap.mono λq _ n=>by
  rcases n with n|n
  .exact .inl n
  .exact .inr (.inl n)
 have E:=vw (hd:=hd) (aI:=C.D) h.inv z L (λq _ h=>h) h.inv.vu (λ_=>rfl) λq n=>.inl n;have O:=vx (hd:=hd) (aI:=C.D) h.inv z λ_=>rfl;obtain⟨a,F⟩:∃a:cv,a={C with au:=gs,hand:=hd}:=⟨_,rfl⟩;have E:hE X w1 a:=by rw[F];exact E
 have r:fH w1 a:=by rw[F];exact r
 have O:∀no,a.view no=C.view no:=by rw[F];exact O
 have U:∀q,dm a q↔dm C q:=by rw[F];exact λq=>Iff.rfl
 have o:a.D=C.D:=by rw[F]
 have p:a.c=C.c/\a.a8=C.a8:=by rw[F];exact⟨rfl,rfl⟩
 have J:a.au=gs:=by rw[F]
 have A:i<a.au.length:=by rw[J];exact T
 have Q:(a.au[i]).full=true:=by
  have e:=z.2 i hi T;have:(gs[i]).full=(C.au[i]).full:=by rw[e]
  simp only[J];rw[this];exact am _ (c3 hi)
 have W:∀f∈a.au,f.full=true->∃g∈C.au,g.full=true/\g.no=f.no:=by
  rw[J];intro f hf H;obtain⟨k,Y,rfl⟩:=fi hf;have Z:k<C.au.length:=by rw[←z.1];exact Y
  have e:=z.2 k Z Y;have aG:(gs[k]).full=(C.au[k]).full:=by rw[e]
  have aM:(gs[k]).no=(C.au[k]).no:=by rw[e]
  exact⟨C.au[k],c3 Z,by rw[←aG];exact H,aM.symm⟩
 obtain⟨no,aA,ar,ab,ax,az,aB⟩:=E.ok _ (c3 A) Q;have f1:=lp r.f A (j:=1) (by decide)
 have fin:∀ (ag:I) (aI:br),af (dm C) w1 ag->fH ag {a with D:=aI}->eQ C {a with D:=aI} w ag 1->lX aI C.D->(∀j:Nat,(a.au[i]).no≠j->aI.now j=C.D.now j)->(∀j:Nat,(a.au[i]).no=j->aI.now j=(a.au[i]).l)->(∀q,cH aI q->cH C.D q\/w1.heap.size<=q)->
  ∃e6:av,(some ⟨C.a8,i*6,none⟩:aq av)=some e6/\b_ ag e6 [false,false,false,(0:Int),(0:Int),()]/\(6:Nat)=6/\an (setCells ag e6 0 [false,false,false,(0:Int),(0:Int),()]) λbm=>Gm X C w (.tuple #[.pointer (some ⟨C.a8,i*6,none⟩),(0:Int)]) bm:=by
  intro ag aI aD t B aE ac aF K;have aH:bc ag a.a8 (bt Fr.c a.au).toArray 351:=t.f;obtain⟨s1,s2,M⟩:=Cv aH A dY;rw[p.2]at s1 s2 M;have aJ:hE X (setCells ag ⟨C.a8,i*6,none⟩ 0 dY.c) {a with au:=a.au.set i dY,D:=aI}:=by
   refine Cw (V:=dm C) (w:=w1) A E (aD.trans (M.mono λq _ e=>.inr (.inl e))) (λq _ n=>(U q).2 n) (by rw[o];exact aE) (λj u=>by rw[o];exact ac j λe=>u Q e) (λq n=>by rw[o];exact K q n) dY rfl rfl
  have aK:=t.v;refine⟨_,rfl,s1,rfl,aO ⟨{a with au:=a.au.set i dY,D:=aI},⟨?_,aJ⟩,?_,p.2,λj=>?_,λf hf H=>?_,.inl ⟨i,by show i<(a.au.set i dY).length;rw[dE];exact A,rfl,by simp[dY],by simp[dY]⟩⟩⟩
  .have aL:a.c≠C.a8:=by have:=t.a1.1;rw[←p.2];exact this
   refine⟨?_,by show bc _ a.a8 _ _;rw[p.2];exact s2,t.dev.ak M (λq n e=>t.a1.2.2 (by rw[show({a with D:=aI}:cv).a8=a.a8 from rfl,p.2,←e];exact n)),?_,?_,?_,t.a1⟩
   .have:=aK.ak M aL
    show Var _ _ [_,.slice _ (a.au.set i dY).length (a.au.set i dY).length,_] _;rw[dE];exact this
   .show 8<=(a.au.set i dY).length;rw[dE];exact t.bW
   .show(a.au.set i dY).length<=64;rw[dE];exact t.b9
   .show a.hand<(a.au.set i dY).length;rw[dE];exact t.hd
  .refine⟨B.c,B.d,by show(a.au.set i dY).length=_;rw[dE];exact B.len,B.cd,B.bx,B.calm,B.ak.trans (M.mono λq _ e=>.inr (.inl e)),B.dZ⟩
  .rw[←O]
   exact Gj A E (λ_ j u=>aF j u) (λj u=>by rw[o];exact ac j λe=>u Q e) dY rfl j
  .rcases oB hf with hf|rfl
   .exact W f hf H
   .cases H
 refine⟨_,rfl,λh=>(by cases h),λ_=>k3 (λag=>∃aI:br,af (dm C) w1 ag/\fH ag {a with D:=aI}/\eQ C {a with D:=aI} w ag 1/\lX aI C.D/\(∀j:Nat,(a.au[i]).no≠j->aI.now j=C.D.now j)/\(∀j:Nat,(a.au[i]).no=j->aI.now j=(a.au[i]).l)/\(∀q,cH aI q->cH C.D q\/w1.heap.size<=q)) (λq n=>⟨_,rfl,(a.au[i]).gY,?_,λaN=>?_,λaP=>n _ ⟨C.D,.refl _ _,?_,?_,h.inv.vu,λ_ _=>rfl,λj u=>?_,λq h=>.inl h⟩⟩) ?_⟩
 .rw[aw,←p.2];exact f1
 .
  have P:=b1 w1;have y:=r.ext P;obtain⟨ad,_,_⟩:=y.cells;rw[p.1,o]at ad;have f3:=lp y.f A (j:=3) (by decide);have f5:=lp y.f A (j:=5) (by decide);rw[p.2]at f3 f5;refine aO ⟨_,rfl,id,_,ad,_,rfl,id,(no:Int),?_,_,rfl,id,(a.au[i]).b,by rw[aw];exact f5,?_⟩
  .rw[aw,f3]
   show some (Value.int .i64 (a.au[i]).no)=_;rw[aA]
  have aQ:dw w1.drew C.D:=by rw[←o];exact y.dev
  have ae:¬C.D.cy no=true:=λhs=>by
   have:=aB (by rw[o];exact hs);rw[aN]at this;cases this
  refine(zn aQ (i:=no) (by rw[←o];exact ar) al (ab.1.ext P) ax λq n hf=>(ab.2.2 q n).1.1 (.inr (.inr (by rw[o];exact hf)))).use ?_;rintro aX ag aT;rcases aT with ⟨hb,rfl,R,G⟩|⟨hb,rfl,s,R,G,aU⟩
  .have N:af (dm C) w1 ag:=(af.bL P).trans (G.mono λq _ e=>.inr (.inr (.inl e)))
   refine⟨3,rfl,λ_=>⟨{a with D:=C.D.cR 2},⟨?_,?_⟩,?_,p.2,λj=>?_,W,.inr ⟨rfl,λaV=>?_⟩⟩,λh=>(by cases h)⟩
   .have t:=y.v.ak G (λe=>y.a1.2.1 (.inl (by rw[o];exact e)))
    rw[o]at t;have aj:=r.a1;rw[o]at aj;exact⟨t,bc.ak y.f G (λe=>y.a1.2.2 (.inl (by rw[o];exact e))),R,r.bW,r.b9,r.hd,aj⟩
   .have:=vw (C:=a) (hd:=a.hand) (aI:=C.D.cR 2) E (iP.refl _) N (λq _ n=>(U q).2 n) (by rw[o];exact h.inv.cR 2) (λj=>by rw[o];rfl) λq n=>.inl (by rw[o];exact n)
    exact this
   .refine⟨p.1,rfl,by show a.au.length=_;rw[J];exact z.1,ta C.D (.inr rfl),Nat.le_succ _,λm hm=>(kG (.inr rfl) h.raw.dev.f4 hm).1,L.trans N,λq n=>.inl ?_⟩
    rcases n with e|e|e
    .exact .inl (by rw[←p.1];exact e)
    .exact .inr (.inl (by rw[←p.2];exact e))
    .exact .inr (.inr e)
   .rw[←O]
    exact vx (C:=a) E (iP.refl _) (λj=>by rw[o];rfl) j
   .have:=(kG (k:=2) (m:=0) (.inr rfl) h.raw.dev.f4 aV).2
    rw[hb]at this;cases this
  .have N:af (dm C) w1 ag:=(af.bL P).trans (G.mono λq _ e=>.inr (.inr e))
   have K:∀q,cH (C.D.put no s (a.au[i]).l) q->cH C.D q\/w1.heap.size<=q:=by
    rintro q (e|e|e|⟨x,hx,e⟩)
    .exact .inl (.inl e)
    .exact .inl (.inr (.inl e))
    .exact .inl (.inr (.inr (.inl e)))
    .rcases cY.1 hx with rfl|hx
     .exact aU q e
     .exact .inl (.inr (.inr (.inr ⟨x,(hY.1 hx).1,e⟩)))
   have eY:∀q,cH C.D q->q≠a.c/\q≠a.a8:=λq n=>⟨λe=>r.a1.2.1 (by rw[o,←e];exact n),λe=>r.a1.2.2 (by rw[o,←e];exact n)⟩;refine⟨0,rfl,λh=>(by cases h),λ_=>n _ ⟨C.D.put no s (a.au[i]).l,N,?_,?_,Gk h.inv ae,λj u=>?_,λj u=>?_,K⟩⟩
   .have t:=y.v.ak G (λe=>(eY _ e).1 rfl)
    rw[o]at t;have aW:a.c<w1.heap.size:=r.v.lt;have aY:a.a8<w1.heap.size:=bc.lt r.f;refine⟨t,bc.ak y.f G (λe=>(eY _ e).2 rfl),R,r.bW,r.b9,r.hd,r.a1.1,λe=>?_,λe=>?_⟩
    .rcases K _ e with h1|h1
     .exact(eY _ h1).1 rfl
     .have:a.c<w1.heap.size:=aW
      have h1:w1.heap.size<=a.c:=h1;omega
    .rcases K _ e with h1|h1
     .exact(eY _ h1).2 rfl
     .have h1:w1.heap.size<=a.a8:=h1
      omega
   .refine⟨p.1,rfl,by show a.au.length=_;rw[J];exact z.1,Gl C.D ae,ba _,λm hm=>(kG (.inr rfl) h.raw.dev.f4 hm).1,L.trans N,λq n=>?_⟩
    rcases n with e|e|e
    .exact .inl (.inl (by rw[←p.1];exact e))
    .exact .inl (.inr (.inl (by rw[←p.2];exact e)))
    .rcases K q e with h1|h1
     .exact .inl (.inr (.inr h1))
     .exact .inr (dQ L.size h1)
   .rw[qL,if_neg (λe=>u (by rw[aA,e]))]
   .rw[qL,if_pos (by rw[aA]at u;omega)]
 .rw[←o];exact r
 .refine⟨p.1,rfl,by show a.au.length=_;rw[J];exact z.1,rfl,Nat.le_succ _,λm hm=>ig hm (Nat.le_succ _),L,λq n=>.inl ?_⟩
  rcases n with e|e|e
  .exact .inl (by rw[←p.1];exact e)
  .exact .inr (.inl (by rw[←p.2];exact e))
  .exact .inr (.inr e)
 .have:no=j:=by rw[aA]at u;omega
  subst this;rw[←o];exact(az aP).symm
 .rintro ag ⟨aI,a1,a2,a3,a4,a5,dF,eV⟩
  exact fin ag aI a1 a2 a3 a4 a5 dF eV
end
def vy(fs:O Fr):Prop:=∀ (i j:Nat) (hi:i<fs.length) (a:j<fs.length),(fs[i]).full=true->(fs[j]).full=true->(fs[i]).no=(fs[j]).no->i=j
theorem Gp{fs gs:O Fr}{D aI:br}{c a8 hd c' g h j:Nat}(n:vy fs)(o:vy gs)(h1:∀ (i:Nat) (hi:i<fs.length),(fs[i]).full=true->(fs[i]).no=j->∃ (k:Nat) (a:k<gs.length),(gs[k]).full=true/\(gs[k]).no=j/\(gs[k]).l=(fs[i]).l)
 (b:(∀f∈fs,f.full=true->f.no≠j)->(∀f∈gs,f.full=true->f.no≠j)/\aI.now j=D.now j):(cv.mk c' g gs h aI).view j=(cv.mk c a8 fs hd D).view j:=by
 by_cases hex:∃ (k:Nat) (a:k<fs.length),(fs[k]).full=true/\(fs[k]).no=j
 .obtain⟨k,a,aA,d⟩:=hex
  obtain⟨m,hm,aG,aM,p⟩:=h1 k a aA d;rw[n2 n a aA d,n2 o hm aG aM,p]
 .have e:∀f∈fs,f.full=true->f.no≠j:=λf hf h1 b=>by
   obtain⟨k,a,rfl⟩:=fi hf;exact hex ⟨k,a,h1,b⟩
  obtain⟨aG,aM⟩:=b e;rw[pn e,pn aG,aM]
section
variable {w w':I}{C:cv}{X:Nat->Prop}
theorem Cx{i:Nat}(hi:i<C.au.length){no:Nat}{V:Nat->Prop}(h:hE X w C)(hc:af V w w')(gp:∀q,q<w.heap.size->V q->dm C q){aI:br}(p:lX aI C.D)(z:∀j,aI.now j=C.D.now j)(A:∀q,cH aI q↔cH C.D q)
 (f':Fr) (O:f'.full=true) (B:f'.pins=0) (r:Gh X w' {C with au:=C.au.set i f',D:=aI} f' no) (s:∀ (k:Nat) (t:k<C.au.length),k≠i->(C.au[k]).full=true->(C.au[k]).no≠no):hE X w' {C with au:=C.au.set i f',D:=aI}:=by
 have E:=hc.size;have u:∀q,dm {C with au:=C.au.set i f',D:=aI} q->dm C q:=λq hf=>by
  rcases hf with h1|h1|h1
  .exact .inl h1
  .exact .inr (.inl h1)
  .exact .inr (.inr ((A q).1 h1))
 refine⟨λf hf=>?_,λf hf v=>?_,λa b F hb h1 g c=>?_,λq l=>⟨fB (h.fI q l).1 E,λhf=>(h.fI q l).2 (u q hf)⟩,p.2.2⟩
 .rcases oB hf with hf|rfl
  .exact h.pins f hf
  .exact B
 .obtain⟨k,t,rfl⟩:=fi hf
  have G:k<C.au.length:=by simpa using t
  by_cases e:i=k
  .subst e
   simp only[jd];exact⟨no,r⟩
  .simp only[gf e]at v⊢
   obtain⟨m,aA,H,I,J,K,L,M⟩:=h.ok _ (c3 G) v;exact⟨m,aA,by show m<aI.n;rw[p.1];exact H,b5.re I hc (λq l hb N=>hb.1 (gp q l N)) λq _ hb=>⟨λhf=>hb.1 (u q hf),hb.2⟩,J,λhd=>by show _=aI.now m;rw[z];exact K hd,λhs=>L (p.2.1 _ hs),M⟩
 .have x:a<C.au.length:=by simpa using F
  have y:b<C.au.length:=by simpa using hb
  by_cases o:i=a
  .by_cases d:i=b
   .omega
   .subst o
    simp only[jd]at c;simp only[gf d]at g c;exact absurd (by rw[←c];exact r.num) (s b y (λe=>d e.symm) g)
  .by_cases d:i=b
   .subst d
    simp only[jd]at c;simp only[gf o]at h1 c;exact absurd (by rw[c];exact r.num) (s a x (λe=>o e.symm) h1)
   .simp only[gf o]at h1 c
    simp only[gf d]at g c;exact h.un a b x y h1 g c
theorem L2{i:Nat}(hi:i<C.au.length){no:Nat}(h:vy C.au)(f':Fr)(j:f'.no=no)(l:∀ (k:Nat) (p:k<C.au.length),k≠i->(C.au[k]).full=true->(C.au[k]).no≠no):vy (C.au.set i f'):=by
 intro a b o hb h1 f c;have m:a<C.au.length:=by simpa using o
 have n:b<C.au.length:=by simpa using hb
 by_cases g:i=a
 .by_cases d:i=b
  .omega
  .subst g
   simp only[jd]at c;simp only[gf d]at f c;exact absurd (by rw[←c];exact j) (l b n (λe=>d e.symm) f)
 .by_cases d:i=b
  .subst d
   simp only[jd]at c;simp only[gf g]at h1 c;exact absurd (by rw[c];exact j) (l a m (λe=>g e.symm) h1)
  .simp only[gf g]at h1 c
   simp only[gf d]at f c;exact h a b m n h1 f c
theorem Cy{i:Nat}(hi:i<C.au.length){no:Nat}(h:vy C.au){aI:br}(m:∀j,aI.now j=C.D.now j)(f':Fr)(n:f'.full=true)(b:f'.no=no)(hold:(C.au[i]).full=true->(C.au[i]).no=no)(o:∀ (k:Nat) (g:k<C.au.length),k≠i->(C.au[k]).full=true->(C.au[k]).no≠no){hd:Nat}(j:Nat):
 (cv.mk C.c C.a8 (C.au.set i f') hd aI).view j=if j=no then f'.l else C.view j:=by
 have hu:=L2 hi h f' b o;have p:i<(C.au.set i f').length:=by simpa using hi
 by_cases e:j=no
 .subst e
  rw[if_pos rfl,n2 hu p (by simp[n]) (by simpa using b)];simp
 .rw[if_neg e]
  refine Gp (fs:=C.au) (D:=C.D) (c:=C.c) (a8:=C.a8) (hd:=C.hand) h hu (λk g aA a=>?_) λq=>⟨λf hf aA a=>?_,m j⟩
  .have d:i≠k:=λaM=>by
    subst aM;have:=hold aA;rw[a]at this;exact e J
   have r:k<(C.au.set i f').length:=by simpa using g
   exact⟨k,r,by simp only[gf d];exact aA,by simp only[gf d];exact a,by simp only[gf d]⟩
  .rcases oB hf with hf|rfl
   .exact q f hf aA a
   .rw[b]at a
    exact e J
def L3(X:Nat->Prop)(C:cv)(no:Nat)(w:I)(v:Y)(w':I):Prop:=
 ∃aU:cv,er X w' aU/\eQ C aU w w' 2/\(∀j,aU.view j=C.view j)/\
  ((∃s:ae,v=.tuple #[s,(0:Int)]/\b5 (λq=>w.heap.size<=q/\¬dm aU q/\¬X q) w' s (C.view no))\/(v=.tuple #[(),(3:Int)]/\¬C.D.calm 2))
theorem L4(h:er X w C)(a4:C.D.bx<=999999999){no:Nat}(aB:no<C.D.n)(aD:2<=no):aC ai 314 #[.pointer (some C.c),no] w (L3 X C no w):=by
 have r:=h.raw;refine okF (aa.yF (some C.c) (no:Int)) ao.yF func314 ?_;(delta aa.yF bF ah g7 ay st aR bn gM eG bH;dsimp only);refine(Gi r _).use ?_;rintro _ _ ⟨rfl,rfl⟩;refine⟨_,rfl,λhb=>?_,λ_=>(zu r _).use ?_⟩
 .have:decide (0<=(no:Int)/\(no:Int)<C.D.n)=true:=eL ⟨J,J⟩
  rw[this]at hb;cases hb
 rintro _ _ ⟨aE,rfl⟩;rcases aE with ⟨i,hi,rfl,hf,aF⟩|⟨rfl,aG⟩
 .
  obtain⟨aA,aH,L,H⟩:=pk r.f hi (j:=2) (by decide) (v:=true) {C.au[i] with used:=true} rfl;have Z:iP C.au (C.au.set i {C.au[i] with used:=true}):=(iP.refl C.au).set hi true;have I:af (dm C) w (w.setCell ⟨C.a8,i*6+2,none⟩ true):=H.mono λq _ e=>.inr (.inl e);have hinv:=vw (hd:=C.hand) (aI:=C.D) h.inv Z I (λq _ h=>h) h.inv.vu (λ_=>rfl) λq p=>.inl p;have aJ:=vx (hd:=C.hand) (aI:=C.D) h.inv Z λ_=>rfl;obtain⟨w1,ab⟩:∃w1,w1=w.setCell ⟨C.a8,i*6+2,none⟩ true:=⟨_,rfl⟩;rw[←ab]at L H I hinv;have M:fH w1 {C with au:=C.au.set i {C.au[i] with used:=true}}:=by
   refine⟨?_,L,r.dev.ak H (λq p e=>r.a1.2.2 (e▸p)),?_,?_,?_,r.a1⟩
   .have:=r.v.ak H r.a1.1
    show Var _ _ [_,.slice _ (C.au.set i _).length (C.au.set i _).length,_] _;rw[dE];exact this
   .show 8<=(C.au.set i _).length;rw[dE];exact r.bW
   .show(C.au.set i _).length<=64;rw[dE];exact r.b9
   .show C.hand<(C.au.set i _).length;rw[dE];exact r.hd
  obtain⟨a,N⟩:∃a:cv,a={C with au:=C.au.set i {C.au[i] with used:=true}}:=⟨_,rfl⟩;have O:er X w1 a:=by rw[N];exact⟨M,hinv⟩
  have ac:i<(C.au.set i {C.au[i] with used:=true}).length:=by simpa using hi
  have f5:=lp L ac (j:=5) (by decide);obtain⟨m,bW,b9,ad,ae,a5,a6,a7⟩:=hinv.ok ((C.au.set i {C.au[i] with used:=true})[i]) (c3 ac) (by simp[hf]);have aK:((C.au.set i {C.au[i] with used:=true})[i]).b=(C.au[i]).b:=by simp
  have aj:((C.au.set i {C.au[i] with used:=true})[i]).l=(C.au[i]).l:=by simp
  rw[aK,aj]at ad;rw[aj]at ae;refine⟨_,rfl,λ_=>⟨_,rfl,by rw[aw];exact aA,by rw[aw];exact aH,?_⟩,λh=>(by cases h)⟩;rw[aw,←ab];refine aO ⟨_,rfl,(C.au[i]).b,by rw[aw,f5];simp[Fr.c],(nc (B:=λq=>w1.heap.size<=q) ad.1 (by rw[ae];omega) (λq p=>p)).use ?_⟩;rintro _ ag ⟨s,rfl,hs,al,_⟩;have aL:C.view no=(C.au[i]).l:=n2 (fs:=C.au) (D:=C.D) (c:=C.c) (a8:=C.a8) (hd:=C.hand) h.inv.un hi hf aF;have aM:=I.size;refine⟨s,rfl,a,O.ext al,?_,?_,.inl ⟨s,rfl,?_⟩⟩
  .rw[N]
   exact⟨rfl,rfl,by show(C.au.set i _).length=_;rw[dE],rfl,Nat.le_add_right _ _,λm hm=>ig hm J,I.trans (af.bL al),λq p=>.inl p⟩
  .intro j;rw[N];exact aJ j
  .rw[aL]
   refine b5.bG hs λq _ p=>⟨J,λhf=>?_,λF=>?_⟩
   .have:=O.raw.lt hf;omega
   .have:=(O.inv.fI q F).1;omega
 .
  refine⟨_,rfl,λh=>(by cases h),λ_=>(Gn h J).use ?_⟩;rintro _ w1 ⟨a,o,y,A,G,aN,M⟩;rcases M with ⟨i,hi,rfl,aP,a9⟩|⟨rfl,aQ⟩
  .refine⟨_,_,rfl,λh=>(by simp at h),λ_=>⟨_,rfl,some C.D.d,?_,?_⟩⟩
   .have:=o.raw.cells.1
    rw[y.c,y.d]at this;exact this
   have P:no<a.D.n:=by rw[y.n];exact aB
   have a_:=y.bx;rw[←y.d];refine(Lg o.raw.dev P J).use ?_;rintro ba ag ⟨am,K,aS⟩;have an:=λq=>o.raw.lt (q:=q);have Q:af (dm a) w1 ag:=K.mono λq _ e=>.inr (.inr (.inl e))
   have R:∀f∈a.au,f.full=true->f.no≠no:=λf hf aT aU=>by
    obtain⟨g,hg,h1,aV⟩:=aN f hf aT;exact aG g hg h1 (by rw[aV,aU])
   have aW:a.D.calm 1\/¬C.D.calm 2:=by
    rcases Classical.em (C.D.calm 2) with h1|h1
    .exact .inl (y.calm 1 h1)
    .exact .inr h1
   have ap:a.view no=a.D.now no:=pn (fs:=a.au) (D:=a.D) (c:=a.c) (a8:=a.a8) (hd:=a.hand) R;have S:∀q,cH a.D q->q≠a.c/\q≠a.a8:=λq p=>⟨λe=>o.raw.a1.2.1 (e▸p),λe=>o.raw.a1.2.2 (e▸p)⟩;have aX:hE X ag {a with D:=a.D.cR 1}:=vw (C:=a) (hd:=a.hand) (aI:=a.D.cR 1) o.inv (iP.refl _) Q (λq _ h=>h) (o.inv.cR 1) (λ_=>rfl) λq p=>.inl p;have u:eQ C {a with D:=a.D.cR 1} w ag 2:=by
    have:eQ a {a with D:=a.D.cR 1} w1 ag 1:=⟨rfl,rfl,rfl,ta a.D (.inl rfl),Nat.le_succ _,λm hm=>(kG (.inl rfl) o.raw.dev.f4 hm).1,Q,λq p=>.inl p⟩;exact y.trans this
   have aY:∀j,({a with D:=a.D.cR 1}:cv).view j=C.view j:=λj=>by rw[←G];exact vx (C:=a) o.inv (iP.refl _) (λ_=>rfl) j
   have T:fH ag {a with D:=a.D.cR 1}:=⟨o.raw.v.ak K (λe=>(S _ (.inl rfl)).1 e.symm),bc.ak o.raw.f K (λe=>(S _ (.inl rfl)).2 e.symm),am,o.raw.bW,o.raw.b9,o.raw.hd,o.raw.a1⟩;rcases aS with ⟨hb,rfl⟩|⟨hb,s,rfl,hs⟩
   .refine⟨⟨none,0,0⟩,3,rfl,λ_=>⟨{a with D:=a.D.cR 1},⟨T,aX⟩,u,aY,.inr ⟨rfl,?_⟩⟩,λh=>(by simp at h)⟩
    rcases aW with h1|h1
    .have:=(kG (k:=1) (m:=0) (.inl rfl) o.raw.dev.f4 h1).2
     rw[hb]at this;cases this
    .exact h1
   .have aq:(a.D.now no).length=256:=o.raw.dev.vq P
    obtain⟨s1,s2,z⟩:=Cv T.f hi ⟨true,false,true,(no:Int),0,s,a.D.now no⟩;rw[A]at s1 s2 z;have bb:=K.size;have aM:=y.ak.size;refine⟨s,_,rfl,λh=>(by simp at h),λ_=>⟨_,rfl,s1,rfl,?_⟩⟩;obtain⟨x,ar⟩:∃x,x=setCells ag ⟨C.a8,i*6,none⟩ 0 (Fr.c ⟨true,false,true,(no:Int),0,s,a.D.now no⟩):=⟨_,rfl⟩;rw[←ar]at s2 z;have hg:setCells ag ⟨C.a8,i*6,none⟩ 0 [true,false,true,no,(0:Int),s]=x:=ar.symm;rw[hg];have av:af (dm a) ag x:=z.mono λq _ e=>.inr (.inl (by rw[A];exact e));have ax:b5 (λq=>w1.heap.size<=q) x s (a.D.now no):=b5.ak hs z λq p e=>by
     have:=an C.a8 (.inr (.inl A.symm));omega
    have aZ:hE X x {a with au:=a.au.set i ⟨true,false,true,(no:Int),0,s,a.D.now no⟩,D:=a.D.cR 1}:=by
     refine Cx (w:=w1) (V:=dm a) (aI:=a.D.cR 1) hi (no:=no) o.inv (Q.trans av) (λq _ h=>h) (o.inv.cR 1) (λ_=>rfl) (λq=>Iff.rfl) ⟨true,false,true,(no:Int),0,s,a.D.now no⟩ rfl rfl ⟨rfl,P,?_,aq,λ_=>rfl,λ_=>rfl,aD⟩ λk U _ h1=>R _ (c3 U) h1;refine b5.bG ax λq _ p=>⟨λhf=>?_,λF=>?_⟩
     .have:dm a q:=hf
      have:=an q this;omega
     .have:=(o.inv.fI q F).1;omega
    have a0:∀j,({a with au:=a.au.set i ⟨true,false,true,(no:Int),0,s,a.D.now no⟩,D:=a.D.cR 1}:cv).view j=C.view j:=λj=>by
     have:=Cy (hd:=a.hand) (aI:=a.D.cR 1) hi (no:=no) o.inv.un (λ_=>rfl) ⟨true,false,true,(no:Int),0,s,a.D.now no⟩ rfl rfl (λh1=>by rw[aP]at h1;cases h1) (λk U _ h1=>R _ (c3 U) h1) j;rw[show({a with au:=a.au.set i ⟨true,false,true,(no:Int),0,s,a.D.now no⟩,D:=a.D.cR 1}:cv)=cv.mk a.c a.a8 (a.au.set i ⟨true,false,true,(no:Int),0,s,a.D.now no⟩) a.hand (a.D.cR 1) from rfl,this];by_cases e:j=no
     .rw[if_pos e,e,←G,ap]
     .rw[if_neg e,G]
    have a2:fH x {a with au:=a.au.set i ⟨true,false,true,(no:Int),0,s,a.D.now no⟩,D:=a.D.cR 1}:=by
     refine⟨?_,by show bc _ a.a8 _ _;rw[A];exact s2,am.ak z (λq p e=>(S q p).2 (by rw[A];exact e)),?_,?_,?_,o.raw.a1⟩
     .have:=T.v.ak z (λe=>o.raw.a1.1 (by rw[A];exact e))
      show Var _ _ [_,.slice _ (a.au.set i _).length (a.au.set i _).length,_] _;rw[dE];exact this
     .show 8<=(a.au.set i _).length;rw[dE];exact o.raw.bW
     .show(a.au.set i _).length<=64;rw[dE];exact o.raw.b9
     .show a.hand<(a.au.set i _).length;rw[dE];exact o.raw.hd
    obtain⟨E,W⟩:∃E:cv,E={a with au:=a.au.set i ⟨true,false,true,(no:Int),0,s,a.D.now no⟩,D:=a.D.cR 1}:=⟨_,rfl⟩;have Y:er X x E:=by rw[W];exact⟨a2,aZ⟩
    have a3:eQ C E w x 2:=by
     rw[W];exact⟨u.c,u.d,by show(a.au.set i _).length=_;rw[dE];exact u.len,u.cd,u.bx,u.calm,de u.ak av λq p h=>(u.dZ q h).resolve_right J,u.dZ⟩
    refine aO ((nc (B:=λq=>x.heap.size<=q) ax.1 (by rw[aq];omega) (λq p=>p)).use ?_);rintro _ bd ⟨t,rfl,ht,az,_⟩;have be:=z.size;refine⟨t,rfl,E,Y.ext az,?_,?_,.inl ⟨t,rfl,?_⟩⟩
    .exact(a3.trans (eQ.ext E az)).mono J
    .intro j;rw[W];exact a0 j
    .rw[←G,ap]
     refine b5.bG ht λq _ p=>⟨J,λhf=>?_,λF=>?_⟩
     .have:=Y.raw.lt hf;omega
     .have:=(Y.inv.fI q F).1;omega
  .refine⟨_,_,rfl,λ_=>⟨a,o,y.mono J,G,.inr ⟨rfl,λhc=>aQ (ig hc J)⟩⟩,λh=>(by simp at h)⟩
end
section
variable {w w':I}{C:cv}{X:Nat->Prop}
def Gq(X:Nat->Prop)(C:cv)(no:Nat)(l:dA)(w:I)(v:Y)(w':I):Prop:=
 ∃aU:cv,er X w' aU/\eQ C aU w w' 1/\
  ((v=.int .i64 0/\∀j,aU.view j=if j=no then l else C.view j)\/(v=.int .i64 3/\¬C.D.calm 1/\∀j,aU.view j=C.view j))
theorem Cz{i:Nat}{f':Fr}(h:fH w C)(hc:af (λq=>q=C.a8) w w')(hb:bc w' C.a8 (bt Fr.c (C.au.set i f')).toArray 351):fH w' {C with au:=C.au.set i f'}:=by
 refine⟨?_,hb,h.dev.ak hc (λq a e=>h.a1.2.2 (e▸a)),?_,?_,?_,h.a1⟩
 .have:=h.v.ak hc h.a1.1
  show Var _ _ [_,.slice _ (C.au.set i _).length (C.au.set i _).length,_] _;rw[dE];exact this
 .show 8<=(C.au.set i _).length;rw[dE];exact h.bW
 .show(C.au.set i _).length<=64;rw[dE];exact h.b9
 .show C.hand<(C.au.set i _).length;rw[dE];exact h.hd
theorem set_set{fs:O Fr}{i:Nat}(f g:Fr):(fs.set i f).set i g=fs.set i g:=List.set_set ..
theorem Gr(h:er X w C)(bl:C.D.bx<=999999999){no:Nat}(ap:no<C.D.n)(ar:2<=no)(az:¬C.D.cy no=true){b:ae}{l:dA}(hb:Src 1 w b (ax l))(W:l.length=256)(Z:∀q,aB b q->q<w.heap.size/\¬dm C q):
 aC ai 129 #[.pointer (some C.c),no,b] w (Gq X C no l w):=by
 have N:=h.raw;have aD:=len8 hb;refine okF (aa.xW (some C.c) (no:Int) b) ao.xW func129 ?_;(delta aa.xW bF ah g7 gM ay st bn;dsimp only);refine(Gi N _).use ?_;rintro _ _ ⟨rfl,rfl⟩;have aE:decide (0<=(no:Int)/\(no:Int)<C.D.n)=true:=eL ⟨J,J⟩;refine⟨_,rfl,λh1=>?_,λ_=>(zu N _).use ?_⟩
 .rw[aE,aD,W]at h1
  simp at h1
 rintro _ _ ⟨aF,rfl⟩
 have fin:∀ (w1:I) (a:cv) (i:Nat) (hi:i<a.au.length) (f1:Fr),er X w1 a->eQ C a w w1 1->a.a8=C.a8->(∀j,a.view j=C.view j)->f1.pins=0->∀ag:I,bc ag a.a8 (bt Fr.c (a.au.set i f1)).toArray 351->af (λq=>q=a.a8) w1 ag->f1.full=true->f1.no=(no:Int)->
  ((a.au[i]).full=true->(a.au[i]).no=(no:Int))->(∀ (k:Nat) (A:k<a.au.length),k≠i->(a.au[k]).full=true->(a.au[k]).no≠(no:Int))->
  Calls ai 161 #[b] ag λaH bJ=>∃ab:ae,aH=.returned ab/\∃e6:av,(some ⟨C.a8,i*6,none⟩:aq av)=some e6/\(∃u:Y,bJ.cell? (e6.add 5)=some u)/\bJ.frozen? (e6.add 5)=false/\
   an (bJ.setCell (e6.add 5) ab) λbm=>∃a23:av,(some ⟨C.a8,i*6,none⟩:aq av)=some a23/\(∃u:Y,bm.cell? (a23.add 1)=some u)/\bm.frozen? (a23.add 1)=false/\
   an (bm.setCell (a23.add 1) true) λO=>∃G:av,(some ⟨C.a8,i*6,none⟩:aq av)=some G/\(∃u:Y,O.cell? (G.add 2)=some u)/\O.frozen? (G.add 2)=false/\
   an (O.setCell (G.add 2) true) λaJ=>Gq X C no l w (0:Int) aJ:=by
  intro w1 a i hi f1 x o t aK P ag aL H K ac hold ad;have bo:=o.ak.size;have bp:=H.size;have bq:a.a8<w1.heap.size:=x.raw.lt (.inr (.inl rfl));have aN:Src 1 ag b (ax l):=by
   refine(hb.ak o.ak λq m hf=>(Z q m).2 hf).ak H λq m e=>(Z q m).2 (.inr (.inl (by rw[←t];exact e)))
  refine(nc (B:=λq=>ag.heap.size<=q) aN J (λq m=>m)).use ?_;rintro _ aP ⟨s,rfl,hs,aj,_⟩;have aQ:=bc.ext aL aj;have Q:i<(a.au.set i f1).length:=by rw[dE];exact hi
  have R:(a.au.set i f1)[i]=f1:=by simp
  obtain⟨a1,a2,a3,a4⟩:=pk aQ Q (j:=5) (by decide) (v:=s) {f1 with b:=s} (by rw[R];rfl);rw[set_set]at a3;have aR:i<(a.au.set i {f1 with b:=s}).length:=by rw[dE];exact hi
  have aG:(a.au.set i {f1 with b:=s})[i]={f1 with b:=s}:=by simp
  obtain⟨bz,cf,y,z⟩:=pk a3 aR (j:=1) (by decide) (v:=true) {f1 with b:=s,gY:=true} (by rw[aG];rfl);rw[set_set]at y;have aS:i<(a.au.set i {f1 with b:=s,gY:=true}).length:=by rw[dE];exact hi
  have aM:(a.au.set i {f1 with b:=s,gY:=true})[i]={f1 with b:=s,gY:=true}:=by simp
  obtain⟨d1,d2,d3,d4⟩:=pk y aS (j:=2) (by decide) (v:=true) {f1 with b:=s,gY:=true,used:=true,l:=l} (by rw[aM];rfl);rw[set_set]at d3;rw[t]at a1 a2 a3 a4 bz cf y z d1 d2 d3 d4 H;refine⟨s,rfl,_,rfl,by rw[aw];exact a1,by rw[aw];exact a2,?_⟩;rw[aw];refine aO ⟨_,rfl,by rw[aw];exact bz,by rw[aw];exact cf,?_⟩;rw[aw];refine aO ⟨_,rfl,by rw[aw];exact d1,by rw[aw];exact d2,?_⟩;rw[aw];have L:=(H.trans (af.bL aj)).trans (a4.trans (z.trans d4));obtain⟨f',r⟩:∃f':Fr,f'={f1 with b:=s,gY:=true,used:=true,l:=l}:=⟨_,rfl⟩;obtain⟨E,S⟩:∃E,E=(((aP.setCell ⟨C.a8,i*6+5,none⟩ s).setCell ⟨C.a8,i*6+1,none⟩ true).setCell ⟨C.a8,i*6+2,none⟩ true):=⟨_,rfl⟩;rw[←S,←r]at d3;rw[←S]at L⊢;have aT:b5 (λq=>ag.heap.size<=q) E s l:=by
   have h1:=b5.ak hs a4 λq m e=>by rw[←t]at e;omega
   have F:=b5.ak h1 z λq m e=>by rw[←t]at e;omega
   have aU:=b5.ak F d4 λq m e=>by rw[←t]at e;omega
   rw[S];exact aU
  have aV:fH E {a with au:=a.au.set i f'}:=Cz x.raw (by rw[t];exact L) (by rw[t];exact d3);have aW:hE X E {a with au:=a.au.set i f'}:=by
   refine Cx (w:=w1) (V:=λq=>q=C.a8) (aI:=a.D) hi (no:=no) x.inv L (λq _ e=>.inr (.inl (by rw[t];exact e))) x.inv.vu (λ_=>rfl) (λq=>Iff.rfl) f' (by rw[r];exact K) (by rw[r];exact P) ⟨by rw[r];exact ac,by show no<a.D.n;rw[o.n];exact ap,?_,by rw[r];exact W,λhd=>(by rw[r]at hd;cases hd),λhs=>absurd (by rw[←o.cy];exact hs) az,ar⟩ ad;rw[r];refine b5.bG aT λq _ m=>⟨λhf=>?_,λaX=>?_⟩
   .have:dm a q:=hf
    have:=x.raw.lt this;omega
   .have:=(x.inv.fI q aX).1;omega
  refine aO ⟨{a with au:=a.au.set i f'},⟨aV,aW⟩,⟨o.c,o.d,by show(a.au.set i _).length=_;rw[dE];exact o.len,o.cd,o.bx,o.calm,de o.ak L λq m e=>.inr (.inl e),o.dZ⟩,.inl ⟨rfl,λj=>?_⟩⟩;have:=Cy (C:=a) (hd:=a.hand) (aI:=a.D) hi (no:=no) x.inv.un (λ_=>rfl) f' (by rw[r];exact K) (by rw[r];exact ac) hold ad j;rw[show({a with au:=a.au.set i f'}:cv)=cv.mk a.c a.a8 (a.au.set i f') a.hand a.D from rfl,this,aK];rw[r]
 rcases aF with ⟨i,hi,rfl,hf,T⟩|⟨rfl,aY⟩
 .refine⟨_,rfl,cc (λp w'=>p=some ⟨C.a8,i*6,none⟩/\w=w') (λq m=>⟨λh=>(by cases h),λ_=>m _ _ ⟨rfl,rfl⟩⟩) ?_⟩
  rintro _ _ ⟨rfl,rfl⟩;have e:C.au.set i C.au[i]=C.au:=List.set_getElem_self _;exact fin w C i hi C.au[i] h ((eQ.refl C w).mono (c8 _)) rfl (λ_=>rfl) (h.inv.pins _ (c3 hi)) w (by rw[e];exact N.f) (.refl _ _) hf T (λ_=>T) λk A aZ h1 F=>aZ (h.inv.un k i A hi h1 hf (by rw[F,T]))
 .refine⟨_,rfl,cc (λp ag=>∃ (w1:I) (a:cv) (i:Nat) (hi:i<a.au.length) (f1:Fr),p=some ⟨C.a8,i*6,none⟩/\er X w1 a/\eQ C a w w1 1/\a.a8=C.a8/\(∀j,a.view j=C.view j)/\f1.pins=0/\bc ag a.a8 (bt Fr.c (a.au.set i f1)).toArray 351/\af (λq=>q=a.a8) w1 ag/\f1.full=true/\f1.no=(no:Int)/\
   ((a.au[i]).full=true->(a.au[i]).no=(no:Int))/\(∀ (k:Nat) (A:k<a.au.length),k≠i->(a.au[k]).full=true->(a.au[k]).no≠(no:Int))) (λq m=>⟨λ_=>(Gn h J).use ?_,λh=>(by cases h)⟩) ?_⟩
  .rintro _ w1 ⟨a,U,al,M,am,a0,a5⟩
   have a6:∀f∈a.au,f.full=true->f.no≠(no:Int):=λf hf K a7=>by
    obtain⟨g,hg,h1,F⟩:=a0 f hf K;exact aY g hg h1 (by rw[F,a7])
   rcases a5 with ⟨i,hi,rfl,a9,P⟩|⟨rfl,a_⟩
   .obtain⟨a1,a2,a3,a4⟩:=pk U.raw.f hi (j:=0) (by decide) (v:=true) {a.au[i] with full:=true} rfl
    have Q:i<(a.au.set i {a.au[i] with full:=true}).length:=by rw[dE];exact hi
    have R:(a.au.set i {a.au[i] with full:=true})[i]={a.au[i] with full:=true}:=by simp
    obtain⟨bz,cf,y,z⟩:=pk a3 Q (j:=3) (by decide) (v:=no) {a.au[i] with full:=true,no:=(no:Int)} (by rw[R];rfl);rw[set_set]at y;rw[M]at a1 a2 bz cf y a4 z;refine⟨_,_,rfl,λh=>(by simp at h),λ_=>⟨_,rfl,a1,a2,aO ⟨_,rfl,by rw[aw];exact bz,by rw[aw];exact cf,aO ?_⟩⟩⟩;rw[aw];exact m _ _ ⟨w1,a,i,hi,{a.au[i] with full:=true,no:=(no:Int)},rfl,U,al,M,am,P,by rw[M];exact y,by rw[M];exact a4.trans z,rfl,rfl,λh1=>(by rw[a9]at h1;cases h1),λk A _ h1=>a6 _ (c3 A) h1⟩
   .exact⟨_,_,rfl,λ_=>⟨a,U,al,.inr ⟨rfl,a_,am⟩⟩,λh=>(by simp at h)⟩
  .rintro p ag ⟨w1,a,i,hi,f1,rfl,aA,ba,bb,bd,be,bf,bg,bh,bi,bj,bk⟩
   exact fin w1 a i hi f1 aA ba bb bd be ag bf bg bh bi bj bk
theorem L5(h:er X w C)(no:Nat):aC ai 202 #[.pointer (some C.c),no] w (λv w'=>(∃b:aj,v=b)/\∃aU:cv,er X w' aU/\eQ C aU w w' 0/\(∀j,j≠no->aU.view j=C.view j)/\aU.D=C.D/\∀f∈aU.au,f.full=true->f∈C.au/\f.no≠(no:Int)):=by
 have g:=h.raw;refine okF (aa.yf (some C.c) (no:Int)) ao.yf func202 ?_;(delta aa.yf g7 ah ay r1 bH;dsimp only);refine(zu g _).use ?_;rintro _ _ ⟨y,rfl⟩;rcases y with ⟨i,hi,rfl,hf,s⟩|⟨rfl,z⟩
 .have f4:=lp g.f hi (j:=4) (by decide)
  have A:=h.inv.pins _ (c3 hi);refine⟨_,rfl,cc (λb w'=>b=false/\w=w') (λq l=>⟨λh=>(by cases h),λ_=>⟨_,rfl,(C.au[i]).pins,by rw[aw];exact f4,l _ _ ⟨by rw[A];rfl,rfl⟩⟩⟩) ?_⟩;rintro _ _ ⟨rfl,rfl⟩;obtain⟨s1,s2,m⟩:=Cv g.f hi dY;refine⟨λh=>(by cases h),λ_=>⟨_,rfl,s1,rfl,aO ⟨⟨true,rfl⟩,{C with au:=C.au.set i dY},⟨Cz g m s2,?_⟩,?_,λj B=>?_,rfl,λf hm aA=>?_⟩⟩⟩
  .exact Cw (V:=λq=>q=C.a8) (aI:=C.D) hi h.inv m (λq _ e=>.inr (.inl e)) h.inv.vu (λ_ _=>rfl) (λq h=>.inl h) dY rfl rfl
  .exact⟨rfl,rfl,by show(C.au.set i _).length=_;rw[dE],rfl,ba _,λ_ h=>h,m.mono λq _ e=>.inr (.inl e),λq h=>.inl h⟩
  .refine Gp (fs:=C.au) (D:=C.D) (c:=C.c) (a8:=C.a8) (hd:=C.hand) h.inv.un (λa b E hb h1 n o=>?_) (λk p aA d=>?_) λF=>⟨λf hf aA d=>?_,rfl⟩
   .have G:a<C.au.length:=by simpa using E
    have H:b<C.au.length:=by simpa using hb
    by_cases t:i=a
    .subst t
     simp[dY]at h1
    by_cases u:i=b
    .subst u
     simp[dY]at n
    simp only[gf t]at h1 o;simp only[gf u]at n o;exact h.inv.un a b G H h1 n o
   .have r:i≠k:=λe=>by
     subst e;rw[s]at d;exact B J
    exact⟨k,by rw[dE];exact p,by simp only[gf r];exact aA,by simp only[gf r];exact d,by simp only[gf r]⟩
   .rcases oB hf with hf|rfl
    .exact F f hf aA d
    .cases aA
  .obtain⟨k,p,rfl⟩:=fi hm
   have x:k<C.au.length:=by simpa using p
   by_cases e:i=k
   .subst e
    simp[dY]at aA
   .simp only[gf e]at aA⊢
    exact⟨c3 x,λd=>e (h.inv.un i k hi x hf aA (s.trans d.symm))⟩
 .refine⟨_,rfl,cc (λb w'=>b=true/\w=w') (λq l=>⟨λ_=>l _ _ ⟨rfl,rfl⟩,λh=>(by cases h)⟩) ?_⟩
  rintro _ _ ⟨rfl,rfl⟩;exact⟨λ_=>⟨⟨false,rfl⟩,C,h,eQ.refl C w,λ_ _=>rfl,rfl,λf hf aA=>⟨hf,z f hf aA⟩⟩,λh=>(by cases h)⟩
end
theorem L6(n:Nat):hL ai 351 n=(bt Fr.c (List.replicate n dY)).toArray:=by
 have a:((Tryz.prog.info? 351).bind (·.zero)).map (·.cells)=some dY.c.toArray:=by kernel_rfl
 have hc:Tryz.prog.cellsOf 351=6:=by kernel_rfl
 unfold hL;rw[hc]
 cases hi:(Tryz.prog.info? 351).bind (·.zero) with
 |none=>rw[hi]at a;cases a
 |some z=>
  rw[hi]at a;simp only[mS,Option.some.injEq]at a;simp only[Option.getD_some,a];apply Array.ext
  .simp[jR (c:=Fr.c) (sz:=6) (List.replicate n dY) (λx _=>rfl)]
  .intro i h1 d
   have e:n*6≠0:=by
    intro h;simp[h]at h1
   have k:i<n*6:=by simpa using h1
   simp only[e,if_false,Array.getElem_map,Array.getElem_range,List.getElem_toArray];have b:dY.c.toArray.size=6:=rfl;have aJ:i%6<6:=hZ _ J;have f:i/6<(List.replicate n dY).length:=by rw[mg];omega
   have hg:=Cj (c:=Fr.c) (sz:=6) (l:=List.replicate n dY) (λx _=>rfl) (i:=i/6) (j:=i%6) f aJ;rw[show i/6*6+i%6=i from J]at hg;have g:i<(bt Fr.c (List.replicate n dY)).length:=by simpa using d
   rw[eJ g]at hg;have he:((List.replicate n dY)[i/6]).c=dY.c:=by simp
   rw[he,eJ (show i%6<dY.c.length from aJ)]at hg;have hg:=Option.some.inj hg;rw[hg,b,getElem!_pos dY.c.toArray (i%6) (by rw[b];exact aJ)];simp
def nd(c a8 k:Nat)(D:br):cv:=⟨c,a8,List.replicate k dY,0,D⟩
theorem sn{w:I}{D:br}(h:dw w D){k:Nat}(h1:8<=k)(m:k<=64)(n:∀j,D.cy j=true->D.fG j=D.e7 j):aC ai 166 #[.pointer (some D.d),k] w (λv w'=>∃c a8:Nat,v=.tuple #[.pointer (some c),(0:Int)]/\er (λ_=>False) w' (nd c a8 k D)/\Ext w w'/\w.heap.size<=c/\w.heap.size<=a8):=by
 refine okF (aa.sn (some D.d) (k:Int)) ao.sn func166 ?_;delta aa.sn ah j7 ad;refine⟨λh=>?_,λ_=>⟨⟨J,J,J,J⟩,?_⟩⟩
 .simp only[Option.isNone_some,nu,jX,cX]at h;omega
 rw[L6,d_];have g:=bc.new w (bt Fr.c (List.replicate k dY)).toArray 351;have a:=c5 w (.cells (bt Fr.c (List.replicate k dY)).toArray 351);have o:=na w (.cells (bt Fr.c (List.replicate k dY)).toArray 351);obtain⟨w1,p⟩:∃w1,w1=w.alloc (.cells (bt Fr.c (List.replicate k dY)).toArray 351):=⟨_,rfl⟩;rw[←p]at g a o⊢;refine aO (aN (vs:=[.pointer (some D.d),.slice (some w.heap.size) k k,(0:Int)]) rfl λag r b t=>⟨w1.heap.size,w.heap.size,rfl,⟨⟨?_,bc.ext g b,h.ext (a.trans b),?_,?_,?_,?_,?_,?_⟩,⟨λf hf=>?_,λf hf l=>?_,λi j hi u h1=>?_,λq s=>s.elim,n⟩⟩,a.trans b,J,ba _⟩)
 .show Var _ _ [_,.slice _ (List.replicate k dY).length (List.replicate k dY).length,_] _
  rw[mg];exact r
 .show 8<=(List.replicate k dY).length;simpa using h1
 .show(List.replicate k dY).length<=64;simpa using m
 .show 0<(List.replicate k dY).length;simp;omega
 .show w1.heap.size≠w.heap.size;omega
 .intro e
  have:=h.lt e;have:w1.heap.size<w.heap.size:=this;omega
 .intro e
  have:=h.lt e;have:w.heap.size<w.heap.size:=this;omega
 .rw[Aj hf];rfl
 .rw[Aj hf]at l;cases l
 .simp[nd,dY]at h1
structure a7 where
 bE:Nat
 gen:Nat
 root:Nat
 aY:Nat
 C:cv
 sb:Nat
 n:Nat
 f:Nat->aj
 g:Nat->aj
 s1:ae
 s2:ae
 E:Nat->Prop
 G:Nat->Prop
 P:Nat->aq aK
def a7.cW(T:a7)(E G:Nat->Prop):a7:={T with E:=E,G:=G}
def a7.cB(T:a7)(C:cv)(P:Nat->aq aK):a7:={T with C:=C,P:=P}
def a7.X(T:a7)(q:Nat):Prop:=q=T.bE\/hW T.sb T.s1 T.s2 q\/T.E q\/T.G q
def a7.M(T:a7)(q:Nat):Prop:=dm T.C q\/T.X q
def a7.N(T:a7)(q:Nat):Prop:=dm T.C q\/q=T.bE\/hW T.sb T.s1 T.s2 q\/T.G q
theorem a7.jq{T:a7}{q:Nat}(h:T.N q):T.M q:=h.imp id (Or.imp id (Or.imp id .inr))
def iw(gen:Nat)(leaf:aj)(no:Nat)(l:dA)(n:aK):Prop:=
 ∃p:kh,gA (no:Int) l=.ok p/\p.gen<=gen/\p.kind=(if leaf then 1 else 2)/\m_ leaf p.body n/\2<=no
def nf(T:a7):O Y:=[.pointer (some T.C.c),.pointer (some T.sb),.int .u64 (T.gen:Nat),T.root,T.aY]
structure cM(w:I)(T:a7):Prop where
 t:Var w T.bE (nf T) 356
 s:fY w T.sb T.n T.f T.g T.s1 T.s2
 ca:er T.X w T.C
 lq:¬hW T.sb T.s1 T.s2 T.bE
 eR:∀q,T.E q->q≠T.bE/\¬hW T.sb T.s1 T.s2 q/\¬T.G q
 lr:∀q,T.G q->q≠T.bE/\¬hW T.sb T.s1 T.s2 q
 n:T.C.D.n=T.n
 num:T.root<T.n/\T.aY<=12/\T.gen<18446744073709551616
 fZ:∀no cF,T.P no=some cF->no<T.n/\iw T.gen cF.leaf no (T.C.view no) cF
 cy:∀j,T.C.D.cy j=true->T.g j=true\/T.C.D.ro
 low:T.g 0=true/\T.g 1=true
structure cI(T az:a7)(w w':I)(k:Nat):Prop where
 bE:az.bE=T.bE
 sb:az.sb=T.sb
 n:az.n=T.n
 g:az.g=T.g
 s1:az.s1=T.s1
 s2:az.s2=T.s2
 c:az.C.c=T.C.c
 d:az.C.D.d=T.C.D.d
 cd:az.C.D.key=T.C.D.key
 gen:az.gen=T.gen
 bx:az.C.D.bx<=T.C.D.bx+k
 calm:∀m,T.C.D.calm (m+k)->az.C.D.calm m
 ak:af T.N w w'
 dZ:∀q,az.M q->T.M q\/w.heap.size<=q
 fn:∀q,az.N q->T.N q\/w.heap.size<=q
theorem cI.cy{T az:a7}{w w':I}{k:Nat}(h:cI T az w w' k):az.C.D.cy=T.C.D.cy/\az.C.D.e7=T.C.D.e7:=by
 have:=congrArg Prod.fst h.cd;exact⟨congrArg (λp=>p.2.1) this,congrArg (λp=>p.2.2.1) this⟩
theorem cI.refl(T:a7)(w:I):cI T T w w 0:=⟨rfl,rfl,rfl,rfl,rfl,rfl,rfl,rfl,rfl,rfl,ba _,λ_ h=>h,.refl _ _,λ_ h=>.inl h,λ_ h=>.inl h⟩
theorem cI.ext{w w':I}(T:a7)(h:Ext w w'):cI T T w w' 0:=⟨rfl,rfl,rfl,rfl,rfl,rfl,rfl,rfl,rfl,rfl,ba _,λ_ h=>h,af.bL h,λ_ h=>.inl h,λ_ h=>.inl h⟩
theorem cI.trans{T az e:a7}{w w' f:I}{k l:Nat}(h1:cI T az w w' k)(a:cI az e w' f l):cI T e w f (k+l):=by
 have hs:=h1.ak.size;refine⟨a.bE.trans h1.bE,a.sb.trans h1.sb,a.n.trans h1.n,a.g.trans h1.g,a.s1.trans h1.s1,a.s2.trans h1.s2,a.c.trans h1.c,a.d.trans h1.d,a.cd.trans h1.cd,a.gen.trans h1.gen,by have:=h1.bx;have:=a.bx;omega,
  λm hm=>a.calm m (h1.calm (m+l) (by rw[show m+l+k=m+(k+l) from J];exact hm)),de h1.ak a.ak λq b h=>(h1.fn q h).resolve_right J,λq b=>?_,λq b=>?_⟩
 .rcases a.dZ q b with h|h
  .exact h1.dZ q h
  .exact .inr J
 .rcases a.fn q b with h|h
  .exact h1.fn q h
  .exact .inr J
theorem cI.mono{T az:a7}{w w':I}{k l:Nat}(h:cI T az w w' k)(a:k<=l):cI T az w w' l:=
 ⟨h.bE,h.sb,h.n,h.g,h.s1,h.s2,h.c,h.d,h.cd,h.gen,by have:=h.bx;omega,λm hm=>h.calm m (ig hm J),h.ak,h.dZ,h.fn⟩
theorem cI.cF{T az:a7}{w w':I}{k lo:Nat}(h:cI T az w w' k){n:aK}{K V D:ae}(c:cr (λq=>lo<=q/\¬T.M q) w n K V D):cr (λq=>lo<=q/\¬az.M q) w' n K V D:=by
 have h1:cr (λq=>q<w.heap.size/\lo<=q/\¬T.M q) w n K V D:=c.bG λq a hb=>⟨a,hb⟩;refine(cr.ak h1 h.ak λq a hm=>a.2.2 (a7.jq hm)).bG λq _ hb=>⟨hb.2.1,λhm=>?_⟩;rcases h.dZ q hm with b|b
 .exact hb.2.2 b
 .have:=hb.1;omega
section
variable {w w':I}{T az:a7}
theorem cI.step{W E G:Nat->Prop}{w1:I}{k:Nat}(h:cI T az w w1 k)(hc:af W w1 w')(cU:∀q,W q->q<w.heap.size->T.N q)(e:∀q,E q->az.E q\/az.G q\/w.heap.size<=q)(b:∀q,G q->az.G q\/w.heap.size<=q):cI T (az.cW E G) w w' k:=by
 refine⟨h.bE,h.sb,h.n,h.g,h.s1,h.s2,h.c,h.d,h.cd,h.gen,h.bx,h.calm,de h.ak hc λq a f=>cU q f a,λq a=>?_,λq a=>?_⟩
 .rcases a with a|a|a|a|a
  .exact h.dZ q (.inl a)
  .exact h.dZ q (.inr (.inl a))
  .exact h.dZ q (.inr (.inr (.inl a)))
  .rcases e q a with h1|h1|h1
   .exact h.dZ q (.inr (.inr (.inr (.inl h1))))
   .exact h.dZ q (.inr (.inr (.inr (.inr h1))))
   .exact .inr h1
  .rcases b q a with h1|h1
   .exact h.dZ q (.inr (.inr (.inr (.inr h1))))
   .exact .inr h1
 .rcases a with a|a|a|a
  .exact h.fn q (.inl a)
  .exact h.fn q (.inr (.inl a))
  .exact h.fn q (.inr (.inr (.inl a)))
  .rcases b q a with h1|h1
   .exact h.fn q (.inr (.inr (.inr h1)))
   .exact .inr h1
theorem cI.local{cp lu a CA:Nat->Prop}{w1:I}{k:Nat}(h:cI (T.cW cp a) az w1 w' k)(hx:Ext w w1)(b:∀q,cp q->T.E q\/w.heap.size<=q)(c:∀q,a q->T.G q\/w.heap.size<=q)
 (d:∀q,lu q->az.E q\/az.G q) (e:∀q,CA q->az.G q):cI T (az.cW lu CA) w w' k:=by
 have h0:cI T (T.cW cp a) w w1 0:=(cI.ext T (w:=w) (w':=w) (af.refl _ _)).step (W:=λ_=>False) hx (λ_ h=>h.elim) (λq h=>(b q h).imp id .inr) c;have h1:=h0.trans h;rw[cz]at h1;exact h1.step (W:=λ_=>False) (af.refl _ _) (λ_ h=>h.elim) (λq h=>(d q h).imp id .inl) λq h=>.inl (e q h)
theorem cM.lt(h:cM w T){q:Nat}(a:T.M q):q<w.heap.size:=by
 rcases a with a|a
 .exact h.ca.raw.lt a
 .exact(h.ca.inv.fI q a).1
theorem cM.mG(h:cM w T){q:Nat}(b:T.E q):¬T.N q:=by
 rintro(a|a|a|a)
 .exact(h.ca.inv.fI q (.inr (.inr (.inl b)))).2 a
 .exact(h.eR q b).1 a
 .exact(h.eR q b).2.1 a
 .exact(h.eR q b).2.2 a
theorem cM.ext(h:cM w T)(hx:Ext w w'):cM w' T:=⟨h.t.ext hx,h.s.ext hx,h.ca.ext hx,h.lq,h.eR,h.lr,h.n,h.num,h.fZ,h.cy,h.low⟩
theorem er.grow{X c W:Nat->Prop}{C:cv}(h:er X w C)(hc:af W w w')(cU:∀q,W q->q<w.heap.size->X q)(d:∀q,c q->X q\/(w.heap.size<=q/\q<w'.heap.size)):er c w' C:=by
 have e:af X w w':=de (W:=X) (af.refl _ _) hc λq a g=>cU q g a;refine⟨h.raw.ak e λq a hx=>(h.inv.fI q hx).2 a,h.inv.pins,λf hf i=>?_,h.inv.un,λq a=>?_,h.inv.qO⟩
 .obtain⟨no,aA,j,k,m,n,o,p⟩:=h.inv.ok f hf i
  have r:b5 (λq=>q<w.heap.size/\¬dm C q/\¬X q) w f.b f.l:=b5.bG k λq a hb=>⟨a,hb⟩;refine⟨no,aA,j,b5.bG (b5.ak r e λq a hx=>a.2.2 hx) λq _ hb=>⟨hb.2.1,λs=>?_⟩,m,n,o,p⟩;rcases d q s with h1|h1
  .exact hb.2.2 h1
  .have:=hb.1;omega
 .rcases d q a with h1|h1
  .exact⟨fB (h.inv.fI q h1).1 hc.size,(h.inv.fI q h1).2⟩
  .exact⟨h1.2,λhf=>by have:=h.raw.lt hf;omega⟩
theorem cM.grow{E G W:Nat->Prop}(h:cM w T)(hc:af W w w')(cU:∀q,W q->q<w.heap.size->T.E q\/T.G q)(c:∀q,E q->T.E q\/T.G q\/(w.heap.size<=q/\q<w'.heap.size))(f:∀q,G q->T.E q\/T.G q\/(w.heap.size<=q/\q<w'.heap.size))(j:∀q,E q->¬G q):cM w' (T.cW E G):=by
 have b:∀q,T.E q\/T.G q->q≠T.bE/\¬hW T.sb T.s1 T.s2 q:=λq a=>by
  rcases a with a|a
  .exact⟨(h.eR q a).1,(h.eR q a).2.1⟩
  .exact h.lr q a
 have g:af (λq=>T.E q\/T.G q) w w':=de (W:=λq=>T.E q\/T.G q) (af.refl _ _) hc λq a k=>cU q k a;have d:∀q,T.E q\/T.G q\/(w.heap.size<=q/\q<w'.heap.size)->q≠T.bE/\¬hW T.sb T.s1 T.s2 q:=λq a=>by
  rcases a with a|a|a
  .exact b q (.inl a)
  .exact b q (.inr a)
  .exact⟨λe=>by have l:=h.lt (q:=q) (.inr (.inl e));omega,λe=>by have l:=h.lt (q:=q) (.inr (.inr (.inl e)));omega⟩
 have i:∀q,T.E q\/T.G q\/(w.heap.size<=q/\q<w'.heap.size)->T.X q\/(w.heap.size<=q/\q<w'.heap.size):=λq a=>by
  rcases a with a|a|a
  .exact .inl (.inr (.inr (.inl a)))
  .exact .inl (.inr (.inr (.inr a)))
  .exact .inr a
 refine⟨h.t.ak g λe=>(b _ e).1 rfl,h.s.ak g λq a e=>(b q e).2 a,h.ca.grow hc (λq a m=>.inr (.inr (cU q a m))) λq a=>?_,h.lq,λq a=>⟨(d q (c q a)).1,(d q (c q a)).2,j q a⟩,λq a=>d q (f q a),h.n,h.num,h.fZ,h.cy,h.low⟩;rcases a with a|a|a|a
 .exact .inl (.inl a)
 .exact .inl (.inr (.inl a))
 .exact i q (c q a)
 .exact i q (f q a)
theorem cM.cells(h:cM w T):w.cell? T.bE=some (.pointer (some T.C.c))/\w.cell? (Addr.add T.bE 1)=some (.pointer (some T.sb))/\w.cell? (Addr.add T.bE 2)=some (.int .u64 (T.gen:Nat))/\
 w.cell? (Addr.add T.bE 3)=some (.int .i64 (T.root:Nat))/\w.cell? (Addr.add T.bE 4)=some (.int .i64 (T.aY:Nat)):=by
 rw[aw,aw,aw,aw];exact⟨h.t.cell,h.t.cell,h.t.cell,h.t.cell,h.t.cell⟩
theorem cM.L7(h:cM w T){no:Nat}(a:no<T.n):(T.C.view no).length=256:=by
 unfold cv.view
 cases hf:T.C.au.find? λf=>f.full&&f.no==(no:Int) with
 |some f=>
  have h1:=j0 hf;have b:=kX hf;obtain⟨m,c⟩:=h.ca.inv.ok f h1 (by
   have:(f.full&&f.no==(no:Int))=true:=b;exact(Bool.and_eq_true_iff.1 this).1)
  exact c.len
 |none=>exact h.ca.raw.dev.vq (by rw[h.n];exact a)
theorem cM.zw{aU:cv}{k:Nat}{P:Nat->aq aK}(h:cM w T)(e:er T.X w' aU)(a:eQ T.C aU w w' k)(f:∀no cF,P no=some cF->no<T.n/\iw T.gen cF.leaf no (aU.view no) cF):
 cM w' (T.cB aU P)/\cI T (T.cB aU P) w w' k:=by
 have hx:=h.ca.inv.fI;have hc:=a.ak;refine⟨⟨?_,h.s.ak hc λq b hf=>(hx q (.inr (.inl b))).2 hf,e,h.lq,h.eR,h.lr,?_,h.num,f,λj l=>by unfold br.ro;show T.g j=true\/∀i,aU.D.cy i=true;rw[a.cy];exact h.cy j (by rw[←a.cy];exact l),h.low⟩,⟨rfl,rfl,rfl,rfl,rfl,rfl,a.c,a.d,a.cd,rfl,a.bx,a.calm,hc.mono λq _ b=>.inl b,?_,?_⟩⟩
 .have:=h.t.ak hc λhf=>(hx T.bE (.inl rfl)).2 hf
  unfold nf at this⊢;rw[←a.c]at this;exact this
 .show aU.D.n=T.n
  rw[a.n,h.n]
 .rintro q (b|b)
  .rcases a.dZ q b with h1|h1
   .exact .inl (.inl h1)
   .exact .inr h1
  .exact .inl (.inr b)
 .rintro q (b|b)
  .rcases a.dZ q b with h1|h1
   .exact .inl (.inl h1)
   .exact .inr h1
  .exact .inl (.inr b)
end
def L8(T:a7)(leaf:aj)(no:Nat)(e:Int):Prop:=
 (e=3/\¬T.C.D.calm 2)\/gA (no:Int) (T.C.view no)=.error e\/(e=4/\(∃p,gA (no:Int) (T.C.view no)=.ok p)/\∀n,¬iw T.gen leaf no (T.C.view no) n)
def qQ(T:a7)(leaf:aj)(no:Nat)(w:I)(v:Y)(w':I):Prop:=
 ∃aU:cv,cM w' (T.cB aU T.P)/\cI T (T.cB aU T.P) w w' 2/\(∀j,aU.view j=T.C.view j)/\
  ((∃ (n:aK) (K V D:ae),v=.tuple #[dT n K V D,(0:Int)]/\iw T.gen leaf no (T.C.view no) n/\cr (λq=>w.heap.size<=q/\¬(T.cB aU T.P).M q) w' n K V D)\/
    (∃e:Int,v=.tuple #[dT vm cJ cJ cJ,e]/\L8 T leaf no e/\e≠0))
theorem Gs{no:Int}{l:dA}{e:Int}(h:gA no l=.error e):e≠0:=by
 intro he;subst he;unfold gA at h
 repeat' split at h
 all_goals first|(injection h with h;exact absurd h (by decide))|cases h
theorem L9{no:Int}{l:dA}{p:kh}(h:gA no l=.ok p):p.body.length<=256:=by
 unfold gA at h
 repeat' split at h
 all_goals first|(cases h;done)|skip
 rename_i h1 _ _ _ _ _;injection h with h
 rw[←h];show(List.take _ (List.drop 24 l)).length<=256;rw[c9,ek];omega
theorem Gt{w':I}{h:Nat}{vs:O Y}(n g:Int)(s:ae)(a:Var w' h vs 227)(b:vs.length=3){K:I->Prop}(c:∀ag,Var ag h [n,.int .u64 g,s] 227->af (λq=>q=h) w' ag->ag.heap.size=w'.heap.size->K ag):
 b_ w' h [n,.int .u64 g,s]/\(3:Nat)=3/\an (setCells w' h 0 [n,.int .u64 g,s]) K:=by
 refine⟨a.bX (by rw[b];rfl) ?_,rfl,cA a (us:=[n,.int .u64 g,s]) (by rw[b];rfl) rfl c⟩;intro v a;simp only[cY,fC,fM]at a;rcases a with rfl|rfl|rfl<;>trivial
theorem Gu{w:I}{T:a7}(h:cM w T)(aD:T.C.D.bx<=999999999){no:Nat}(Z:no<T.n)(ab:2<=no)(leaf:aj):
 aC ai 297 #[.pointer (some T.bE),no,leaf] w (qQ T leaf no w):=by
 have bd:=h.s.bB;have aH:=h.L7 Z;refine okF (aa.yC (some T.bE) (no:Int) leaf) ao.yC func297 ?_;(delta aa.yC c0 ay eG ah bH ad uC aS aE aR EA w8 aZ dJ dC r1 uD nJ;dsimp only);refine aN (vs:=[false,(),(),()]) rfl λw1 aI ac be=>?_;obtain⟨j,F⟩:∃j,j=λq=>T.G q\/q=w.heap.size:=⟨_,rfl⟩;have al:j w.heap.size:=by rw[F];exact .inr rfl
 have H:∀q,T.G q->j q:=λq c=>by rw[F];exact .inl c
 have L:∀q,j q->T.G q\/q=w.heap.size:=λq c=>by rw[F]at c;exact c
 have h1:cM w1 (T.cW T.E j):=h.grow (W:=λ_=>False) ac (λ_ h=>h.elim) (λq c=>.inl c) (λq c=>.inr ((L q c).imp id λe=>⟨J,J⟩)) λq c hg=>by
  rcases L q hg with l|l
  .exact(h.eR q c).2.2 l
  .have:=h.lt (q:=q) (.inr (.inr (.inr (.inl c))));omega
 refine⟨_,rfl,_,h1.cells.1,(L4 h1.ca aD (no:=no) (by rw[h1.n];exact Z) ab).use ?_⟩;rintro _ i ⟨aU,aJ,N,m,aL⟩;obtain⟨O,aM⟩:=h1.zw (P:=T.P) aJ N (λno cF aP=>by rw[m];exact h1.fZ no cF aP);have bf:=N.ak.size;have am:Var i w.heap.size [false,(),(),()] 397:=aI.ak N.ak λhf=>(h1.ca.inv.fI _ (.inr (.inr (.inr al)))).2 hf
 have fin:∀w':I,af (λq=>q=w.heap.size) i w'->cM w' (T.cB aU T.P)/\cI T (T.cB aU T.P) w w' 2:=λw' hc=>by
  refine⟨O.grow (E:=T.E) (G:=T.G) hc (λq e _=>.inr (by rw[e];exact al)) (λq c=>.inl c) (λq c=>.inr (.inl (H q c))) λq c=>(h.eR q c).2.2,?_⟩;have aQ:=aM.local ac (λq c=>.inl c) (λq c=>(L q c).imp id λe=>J) (lu:=T.E) (CA:=T.G) (λq c=>.inl c) H;exact aQ.step hc (λq e bg=>J) (λq c=>.inl c) λq c=>.inl c
 have aV:∀ {w':I}{n:aK}{K V D:ae}{B:Nat->Prop},cr (λq=>i.heap.size<=q) w' n K V D->cr (λq=>w.heap.size<=q/\¬(T.cB aU T.P).M q) w' n K V D:=λaW=>by
  refine aW.bG λq _ c=>⟨J,λhm=>?_⟩;have:q<i.heap.size:=O.lt (q:=q) (by
   rcases hm with hm|hm|hm|hm|hm
   .exact .inl hm
   .exact .inr (.inl hm)
   .exact .inr (.inr (.inl hm))
   .exact .inr (.inr (.inr (.inl hm)))
   .exact .inr (.inr (.inr (.inr (H q hm)))))
  omega
 rcases aL with ⟨s,rfl,hs⟩|⟨rfl,aX⟩
 .refine⟨s,0,rfl,λhb=>(by cases hb),λ_=>(sG hs.1 hs.2.1 (by show(T.C.view no).length<=1000;rw[aH];omega) _).use ?_⟩
  rintro _ aY ⟨v,z⟩;have an:=am.ext z;have bh:=z.size;have aG:(T.cW T.E j).C.view no=T.C.view no:=rfl;rw[aG]at v
  cases f:gA (no:Int) (T.C.view no) with
  |error e=>
   rw[f]at v;obtain rfl:=v;refine⟨0,0,⟨none,0,0⟩,e,rfl,aN (vs:=[(0:Int),.int .u64 0,()]) rfl λa0 R o a1=>?_⟩;refine Gt 0 0 ⟨none,0,0⟩ R rfl λd ap t a2=>⟨λ_=>?_,λhb=>?_⟩
   .have S:Var d w.heap.size [false,(),(),()] 397:=(an.ext o).ak t J
    refine kE false cJ cJ cJ S rfl (Q:=λb K V D ag=>qQ T leaf no w (.tuple #[.agg #[b,K,V,D],e]) ag) λaF g=>?_;obtain⟨f1,f2⟩:=fin aF (de (W:=λq=>q=w.heap.size) (af.bL (Ext.bN (z.trans o) t J)) g λq _ e=>e);exact⟨aU,f1,f2,m,.inr ⟨e,rfl,.inr (.inl f),Gs f⟩⟩
   .have:=Gs f
    simp at hb;omega
  |ok p=>
   rw[f]at v;obtain⟨x,rfl,U,bi⟩:=v;refine⟨p.kind,p.gen,x,0,rfl,aN (vs:=[(0:Int),.int .u64 0,()]) rfl λa0 R o a1=>?_⟩;refine Gt p.kind p.gen x R rfl λd ap t a2=>⟨λhb=>(by cases hb),λ_=>aO ?_⟩;have S:Var d w.heap.size [false,(),(),()] 397:=(an.ext o).ak t J;have a3:Ext i d:=Ext.bN (z.trans o) t J;have y:Ext i d.drew:=a3.trans (b1 _);have X:Var d.drew w.heap.size [false,(),(),()] 397:=S.drew;have A:=ap.drew;have a4:=(O.ext y).cells;obtain⟨b,hb⟩:∃b,b=aY.heap.size:=⟨_,rfl⟩;rw[←hb]at A⊢;have Y:d.drew.cell? b=some (.int .i64 (p.kind:Nat)):=A.cell;have a5:d.drew.cell? (Addr.add b 1)=some (.int .u64 (p.gen:Nat)):=by rw[aw];exact A.cell
   have a6:d.drew.cell? (Addr.add b 2)=some (.slice x.a x.len x.cap):=by rw[aw];exact A.cell
   have bj:i.heap.size<=d.drew.heap.size:=y.size;refine⟨id,_,a5,_,rfl,id,_,a4.2.2.1,λhg=>?_,λhg=>⟨id,_,Y,?_⟩⟩
   .have hg:T.gen<p.gen:=by
     have:(p.gen:Int)>(T.gen:Int):=b8 hg;omega
    refine cc (λb w'=>b=true/\w'=d.drew) (λq c=>⟨λ_=>c _ _ ⟨rfl,rfl⟩,λh=>by cases h⟩) ?_;rintro _ _ ⟨rfl,rfl⟩;refine⟨λ_=>?_,λh=>(by cases h)⟩;refine kE false cJ cJ cJ X rfl (Q:=λb K V D ag=>qQ T leaf no w (.tuple #[.agg #[b,K,V,D],(4:Int)]) ag) λaF g=>?_;obtain⟨f1,f2⟩:=fin aF (de (W:=λq=>q=w.heap.size) (af.bL y) g λq _ e=>e);refine⟨aU,f1,f2,m,.inr ⟨4,rfl,.inr (.inr ⟨rfl,⟨p,f⟩,?_⟩),by decide⟩⟩;rintro n ⟨aq,aA,ar,_⟩;rw[f]at aA;cases aA;omega
   .have hg:p.gen<=T.gen:=by
     have:¬(p.gen:Int)>(T.gen:Int):=cL hg;omega
    refine cc (λb w'=>w'=d.drew/\(b=false↔p.kind=(if leaf then 1 else 2))) (λq c=>⟨λh=>c _ _ ⟨rfl,?_⟩,λh=>⟨_,Y,cc (λb w'=>w'=d.drew/\(b=false↔p.kind=(if leaf then 1 else 2))) (λr au=>⟨λl=>⟨_,Y,au _ _ ⟨rfl,?_⟩⟩,λl=>au _ _ ⟨rfl,?_⟩⟩) λb w' a8=>c b w' a8⟩⟩) ?_
    .refine⟨λh=>(by cases h),λu=>?_⟩
     rw[u]at h
     cases leaf<;>simp at h
    .cases leaf
     .simp
      exact Int.ofNat_inj
     .simp at l h;omega
    .cases leaf
     .simp at l h;omega
     .simp at l
      simp;omega
    rintro b' _ ⟨rfl,u⟩;refine⟨λhb=>?_,λhb=>⟨_,a6,(sH ((U.ext (Ext.bN o t J|>.trans (b1 _))).src) ?_ ?_ ?_ leaf).use ?_⟩⟩
    .refine kE false cJ cJ cJ X rfl (Q:=λb K V D ag=>qQ T leaf no w (.tuple #[.agg #[b,K,V,D],(4:Int)]) ag) λaF g=>?_
     obtain⟨f1,f2⟩:=fin aF (de (W:=λq=>q=w.heap.size) (af.bL y) g λq _ e=>e);refine⟨aU,f1,f2,m,.inr ⟨4,rfl,.inr (.inr ⟨rfl,⟨p,f⟩,?_⟩),by decide⟩⟩;rintro n ⟨aq,aA,ar,av,_⟩;rw[f]at aA;cases aA;rw[u.2 av]at hb;cases hb
    .exact U.2.1
    .intro k u
     have:=aT.lt U k u;have:=o.size;show k<d.heap.size;omega
    .have:=L9 f
     omega
    rintro _ a9 ⟨a_,ax⟩;have az:Ext i a9:=y.trans ax;have aB:=X.ext ax;rcases a_ with ⟨n,K,V,D,rfl,ba,eY⟩|⟨rfl,bb⟩
    .refine⟨n.leaf,K,V,D,0,rfl,?_⟩
     refine kE n.leaf K V D aB rfl (Q:=λb K V D ag=>qQ T leaf no w (.tuple #[.agg #[b,K,V,D],(0:Int)]) ag) λaF g=>?_;obtain⟨f1,f2⟩:=fin aF (de (W:=λq=>q=w.heap.size) (af.bL az) g λq _ e=>e);refine⟨aU,f1,f2,m,.inl ⟨n,K,V,D,rfl,⟨p,f,hg,u.1 hb,ba,ab⟩,?_⟩⟩;refine aV (B:=λ_=>True) (cr.ak (eY.bG λq _ c=>?_) g λq c e=>?_)
     .omega
     .have:i.heap.size<=q:=c
      omega
    .refine⟨false,cJ,cJ,cJ,4,rfl,?_⟩
     refine kE false cJ cJ cJ aB rfl (Q:=λb K V D ag=>qQ T leaf no w (.tuple #[.agg #[b,K,V,D],(4:Int)]) ag) λaF g=>?_;obtain⟨f1,f2⟩:=fin aF (de (W:=λq=>q=w.heap.size) (af.bL az) g λq _ e=>e);refine⟨aU,f1,f2,m,.inr ⟨4,rfl,.inr (.inr ⟨rfl,⟨p,f⟩,?_⟩),by decide⟩⟩;rintro n ⟨aq,aA,ar,av,bc,_⟩;rw[f]at aA;cases aA;exact bb n bc
 .refine⟨⟨none,0,0⟩,3,rfl,λ_=>?_,λhb=>(by cases hb)⟩
  refine kE false cJ cJ cJ am rfl (Q:=λb K V D ag=>qQ T leaf no w (.tuple #[.agg #[b,K,V,D],(3:Int)]) ag) λaF g=>?_;obtain⟨f1,f2⟩:=fin aF g;exact⟨aU,f1,f2,m,.inr ⟨3,rfl,.inl ⟨rfl,aX⟩,by decide⟩⟩
structure dM where
 no:Nat
 n:aK
 c2:Nat
 K:ae
 V:ae
 D:ae
def dM.c(s:dM):O Y:=[s.no,s.n.leaf,s.K,s.V,s.D,s.c2]
def dM.st(s:dM):Nat×aK×Nat:=(s.no,s.n,s.c2)
theorem qR(l:O dM):∀x∈l,(dM.c x).length=6:=λ_ _=>rfl
structure lv(B:Nat->Prop)(w:I)(s:ae)(l:O dM):Prop where
 own:aT 6 417 w s (bt dM.c l)
 qS:∀q,aB s q->B q
 cF:∀x∈l,cr B w x.n x.K x.V x.D
def po(P:Nat->aq aK)(k:Key):Nat->Nat->O (Nat×aK×Nat)->Prop
 |0,_,l=>l=[]
 |h+1,no,l=>∃n rest,P no=some n/\n.leaf=decide (h=0)/\l=(no,n,if h=0 then 0 else fl n.keys k)::rest/\po P k h (n.kids.getD (fl n.keys k) 0) rest
theorem po.length{P:Nat->aq aK}{k:Key}:∀ {h no:Nat}{l:O (Nat×aK×Nat)},po P k h no l->l.length=h
 |0,_,_,h=>by rw[h];rfl
 |h+1,_,_,⟨n,rest,_,_,a,b⟩=>by rw[a,iR,po.length b]
theorem iw.uniq{gen no:Nat}{leaf:aj}{l:dA}{n m:aK}(h1:iw gen leaf no l n)(a:iw gen leaf no l m):n=m:=by
 obtain⟨p,a1,a2,a3,a4⟩:=h1;obtain⟨q,bz,cf,c,b⟩:=a;rw[a1]at bz
 cases bz;exact m_.uniq a4.1 b.1
theorem iw.is{gen no:Nat}{leaf:aj}{l:dA}{n:aK}(h:iw gen leaf no l n):n.leaf=leaf/\cV n/\bV n<=232:=by
 obtain⟨p,_,_,_,a,_⟩:=h;exact⟨a.2.1,a.1,a.2.2.1⟩
theorem iw.two{gen no:Nat}{leaf:aj}{l:dA}{n:aK}(h:iw gen leaf no l n):2<=no:=by
 obtain⟨p,_,_,_,_,a⟩:=h;exact a
theorem cV.du{n:aK}(h:cV n):n.keys.Pairwise ct:=by
 rcases h with h|h
 .exact h.du
 .exact h.du
def L_(T:a7)(steps:O (Nat×aK×Nat))(w:I)(v:Y)(w':I):Prop:=
 ∃aU:cv,cM w' (T.cB aU T.P)/\cI T (T.cB aU T.P) w w' (2*T.aY)/\(∀j,aU.view j=T.C.view j)/\
  ((∃ (s:ae) (l:O dM),v=.tuple #[s,(0:Int)]/\l.map dM.st=steps/\lv (λq=>w.heap.size<=q/\¬(T.cB aU T.P).M q) w' s l)\/(v=.tuple #[(),(3:Int)]/\¬T.C.D.calm (2*T.aY)))
theorem Ma(w:I)(cs:Array Y)(h:cs.size=6):Sem.run ai (Instr.buildSlice 413 1 #[(0,.agg cs)]) w=.ok (.slice (some w.heap.size) 1 1) (w.alloc (.cells cs 417)):=by
 have h0:((Tryz.prog.info? 417).bind (·.zero)).isSome=true:=by kernel_rfl
 obtain⟨z,a⟩:=q5.1 h0;obtain⟨i,hi,b⟩:=zl a;have h1:(Tryz.prog.underlying 417).isSome=true:=by kernel_rfl
 obtain⟨d,hd⟩:=q5.1 h1;exact FT (sz:=6) w (by kernel_rfl) hd (by kernel_rfl) hi b h (by decide) (by decide)
theorem Mb:iG ai 413 417 6 96:=⟨by kernel_rfl⟩
theorem Mc{h:Nat}{n:aK}(a:n.leaf=decide (h=0)):((((h+1:Nat):Int):Int)==1)=n.leaf:=by
 rw[a,fL,jy,cX];omega
theorem Gv{w:I}{T:a7}{tk:ae}{k:Key}{steps:O (Nat×aK×Nat)}(h:cM w T)(ck:T.C.D.bx<=900000000)(bu:Src 1 w tk (ax k))(bv:∀q,aB tk q->q<w.heap.size/\¬T.M q)(bz:po T.P k T.aY T.root steps):
 aC ai 285 #[.pointer (some T.bE),tk] w (L_ T steps w):=by
 have cm:=h.num.2.1;refine okF (aa.yA (some T.bE) tk) ao.yA func285 ?_;(delta aa.yA ay r1 w6 ah nJ c0 bH ad aS aE aR b4 st bh bl bq bw ap al;dsimp only);refine⟨_,rfl,_,h.cells.2.2.2.1,_,rfl,_,h.cells.2.2.2.2,λs n8 n9 w'=>∃ (e1 no:Nat) (l:O dM) (rest:O (Nat×aK×Nat)) (cp:Nat->Prop) (aU:cv),n9=(e1:Nat)/\n8=(no:Nat)/\po T.P k e1 no rest/\l.map dM.st++rest=steps/\l.length+e1=T.aY/\
  cp=(λq=>T.E q\/aB s q)/\(∀q,aB s q->w.heap.size<=q)/\cM w' ((T.cW cp T.G).cB aU T.P)/\cI T ((T.cW cp T.G).cB aU T.P) w w' (2*l.length)/\(∀j,aU.view j=T.C.view j)/\aT 6 417 w' s (bt dM.c l)/\
  ∀x∈l,cr (λq=>w.heap.size<=q/\¬((T.cW cp T.G).cB aU T.P).M q) w' x.n x.K x.V x.D,λ_ _ n9 _=>n9.toNat,?_,?_⟩
 .have bC:T.E=λq=>T.E q\/aB ⟨none,0,0⟩ q:=by
   funext q;refine propext ⟨.inl,λh=>h.resolve_right ?_⟩;rintro⟨A,ar,_⟩
   cases ar
  have aX:(T.cW T.E T.G).cB T.C T.P=T:=rfl;refine⟨T.aY,T.root,[],steps,T.E,T.C,rfl,rfl,bz,rfl,by simp,bC,?_,by rw[aX];exact h,by rw[aX];exact .refl _ _,λ_=>rfl,?_,λx hx=>(by cases hx)⟩
  .rintro q ⟨A,ar,_⟩
   cases ar
  .exact⟨rfl,ba _,by decide,.inl ⟨rfl,rfl⟩⟩
 have fin:∀ {w':I}{cp:Nat->Prop}{aU:cv}{s:ae}{k:Nat},cM w' ((T.cW cp T.G).cB aU T.P)->cI T ((T.cW cp T.G).cB aU T.P) w w' k->cp=(λq=>T.E q\/aB s q)->(∀q,aB s q->w.heap.size<=q)->cM w' (T.cB aU T.P)/\cI T (T.cB aU T.P) w w' k:=by
  intro w' cp aU s k h1 X d t;have z:∀q,T.E q->cp q:=λq a=>by rw[d];exact .inl a
  exact⟨h1.grow (W:=λ_=>False) (E:=T.E) (G:=T.G) (af.refl _ _) (λ_ h=>h.elim) (λq a=>.inl (z q a)) (λq a=>.inr (.inl a)) λq a=>(h.eR q a).2.2,
   X.step (W:=λ_=>False) (af.refl _ _) (λ_ h=>h.elim) (λq a=>.inl (z q a)) λq a=>.inl a⟩
 rintro s _ _ cn ⟨e1,no,l,rest,cp,Y,rfl,rfl,aZ,a0,hlen,B,F,o,N,b,au,eY⟩;have co:=N.ak.size;refine⟨λaJ=>?_,λbD=>?_⟩
 .obtain⟨f,rfl⟩:∃bF,e1=bF+1:=⟨e1-1,by have:(e1:Int)>0:=b8 aJ;omega⟩
  obtain⟨n,bI,bK,a6,rfl,a8⟩:=aZ;obtain⟨bL,Q⟩:=o.fZ no n bK;have bM:Y.D.bx<=999999999:=by
   have:Y.D.bx<=T.C.D.bx+2*l.length:=N.bx;omega
  refine(Gu o bM bL Q.two _).use ?_;rintro _ g ⟨u,X,Z,a9,a_⟩;have av:=N.trans Z;have cq:=Z.ak.size;rw[Mc a6]at a_;rcases a_ with ⟨bB,K,V,D,rfl,bO,az⟩|⟨e,rfl,bP,bQ⟩
  .obtain rfl:=iw.uniq Q bO
   obtain⟨_,aD,cs⟩:=Q.is;have bR:=aD.du;have ct:=y2 aD;refine⟨n.leaf,K,V,D,0,rfl,aN (vs:=[false,(),(),()]) rfl λbJ R aF bS=>?_⟩;refine⟨R.bX rfl ?_,rfl,cA R (us:=[n.leaf,K,V,D]) rfl rfl λab aG aH bU=>⟨λhb=>(by cases hb),λ_=>?_⟩⟩
   .intro v b
    simp only[cY,fC,fM]at b;rcases b with rfl|rfl|rfl|rfl<;>trivial
   have bb:Ext g ab:=Ext.bN aF aH (ba _);have cw:=bb.size;obtain⟨cu,bd,bo,bA⟩:=cl aG;refine⟨_,cu,K,bd,V,bo,D,bA,#[no,n.leaf,K,V,D,(0:Int)],by kernel_rfl,?_⟩;refine aN (vs:=[(0:Int),false,(),(),(),(0:Int)]) rfl λcx bc be cy=>?_;refine⟨bc.bX rfl ?_,rfl,cA bc (us:=[no,n.leaf,K,V,D,(0:Int)]) rfl rfl λaI aL bf cz=>?_⟩
   .intro v b
    simp only[cY,fC,fM]at b;rcases b with rfl|rfl|rfl|rfl|rfl|rfl<;>trivial
   have ac:Ext g aI:=Ext.bN (bb.trans be) bf J;have aM:Var aI g.heap.size [n.leaf,K,V,D] 397:=(aG.ext be).ak bf J;obtain⟨sb,bV⟩:∃sb,sb=ab.heap.size:=⟨_,rfl⟩;obtain⟨nb,bW⟩:∃nb,nb=g.heap.size:=⟨_,rfl⟩;rw[←bV]at aL⊢;rw[←bW]at aM⊢;have bY:=az.ext ac;refine cc (λn40 r=>n40=(((if f=0 then no else n.kids.getD (fl n.keys k) 0:Nat)):Int)/\Ext g r/\Var r sb (dM.c ⟨no,n,if f=0 then 0 else fl n.keys k,K,V,D⟩) 417) (λq a=>⟨λag=>?_,λag=>?_⟩) ?_
   .have H:f≠0:=by
     have:((f+1:Nat):Int)>1:=b8 ag;omega
    have bZ:n.leaf=false:=by rw[a6];simp[H]
    have cC:=aD.zd bZ;have cD:=BN n.keys k;obtain⟨cu,bd,bo,bA⟩:=cl aM;have b0:Src 1 aI tk (ax k):=(bu.ak av.ak λq a b1=>(bv q a).2 (a7.jq b1)).ext ac;refine⟨_,cu,K,bd,V,bo,D,bA,(sE bY b0 bR J).use ?_⟩;rintro _ bg ⟨rfl,aP⟩;have bi:=aL.ext aP;obtain⟨aA,b2⟩:=eP bi (i:=5) (by simp);rw[aw];refine⟨_,rfl,aA,b2,aO ?_⟩;have bj:=dX bg sb 5 (.int .i64 ((fl n.keys k:Nat):Int));have bk:=eO bi (i:=5) (.int .i64 ((fl n.keys k:Nat):Int));have bm:Ext g (bg.setCell ⟨sb,5,none⟩ (.int .i64 ((fl n.keys k:Nat):Int))):=Ext.bN (ac.trans aP) bj J;have b3:=(aM.ext aP).ak bj J;obtain⟨d0,d1,d2,d3⟩:=cl b3;obtain⟨A,ar,hb,b5⟩:=dd.at (az.ext bm).kids (i:=fl n.keys k) J;refine⟨D,d3,_,bk.cell,A,ar,hb,_,b5,a _ _ ⟨?_,bm,?_⟩⟩
    .rw[if_neg H,g4,eJ J];rfl
    .rw[if_neg H]
     exact bk
   .have H:f=0:=by
     have:¬((f+1:Nat):Int)>1:=cL ag;omega
    refine a _ _ ⟨by rw[if_pos H],ac,?_⟩;rw[if_pos H];exact aL
   rintro _ r ⟨rfl,bn,b6⟩;have cE:=bn.size;refine⟨_,b6.rd rfl,⟨some r.heap.size,1,1⟩,_,Ma _ _ rfl,?_⟩;have aQ:=c5 r (.cells (dM.c ⟨no,n,if f=0 then 0 else fl n.keys k,K,V,D⟩).toArray 417);have L:=bn.trans aQ;have b7:=L.size;have b9:=aQ.size;have b_:=au.1;rw[jR _ (qR l)]at b_;have S:∀q,aB s q->cp q:=λq a=>by rw[B];exact .inr a
   have cb:aT 6 417 g s (bt dM.c l):=au.ak Z.ak λq a hm=>o.mG (S q a) hm;obtain⟨x,aV⟩:∃x:dM,x=⟨no,n,if f=0 then 0 else fl n.keys k,K,V,D⟩:=⟨_,rfl⟩;rw[←aV]at aQ L b7 b9⊢;have cd:∀v∈dM.c x,Plain v:=by
    intro v b;unfold dM.c at b;simp only[cY,fC,fM]at b;rcases b with rfl|rfl|rfl|rfl|rfl|rfl<;>trivial
   obtain⟨aj,am,a1,a2,a3,a4,a5⟩:=Mb.append (df:=413) (x:=⟨some r.heap.size,1,1⟩) (Src.new (T:=417) r (dM.c x) 1 rfl) (cb.ext L) cd (by show(2*(s.len+1)+1000)*96<=_;omega);have cG:=a4.size;have aW:∀q,aB aj q->w.heap.size<=q:=λq a=>by
    rcases a5 q a with h1|h1
    .exact F q h1
    .omega
   obtain⟨lu,bp⟩:∃lu,lu=λq=>T.E q\/aB aj q:=⟨_,rfl⟩;have an:∀q,lu q->T.E q\/aB aj q:=λq a=>by rw[bp]at a;exact a
   have z:∀q,T.E q->cp q:=λq a=>by rw[B];exact .inl a
   have ce:bt dM.c (l++ [x])=bt dM.c l++dM.c x:=by rw[vo];simp[bt]
   have cf:cM am ((T.cW lu T.G).cB u T.P):=by
    refine(X.ext L).grow (E:=lu) (G:=T.G) a4 (λq a _=>.inl (S q a)) (λq a=>?_) (λq a=>.inr (.inl a)) λq a hg=>?_
    .rcases an q a with h1|h1
     .exact .inl (z q h1)
     .rcases a5 q h1 with d|d
      .exact .inl (S q d)
      .exact .inr (.inr ⟨d,aT.lt a2 q h1⟩)
    .rcases an q a with h1|h1
     .exact(h.eR q h1).2.2 hg
     .have d:=h.lt (q:=q) (.inr (.inr (.inr (.inr hg))))
      have:=aW q h1;omega
   have cg:cI T ((T.cW lu T.G).cB u T.P) w am (2*(l++ [x]).length):=by
    have h1:=(av.trans (cI.ext _ L)).mono (l:=2*(l++ [x]).length) (by rw[cT,jZ];omega);refine h1.step (E:=lu) (G:=T.G) a4 (λq a ag=>by have:=F q a;omega) (λq a=>?_) λq a=>.inl a;rcases an q a with h1|h1
    .exact .inl (z q h1)
    .exact .inr (.inr (aW q h1))
   have br:∀ {m:aK}{K V D:ae},cr (λq=>w.heap.size<=q/\¬((T.cW cp T.G).cB u T.P).M q) g m K V D->cr (λq=>w.heap.size<=q/\¬((T.cW lu T.G).cB u T.P).M q) am m K V D:=λ{m K V D} hm=>by
    have h1:=(hm.ext L).bG (C:=λq=>q<(r.alloc (.cells (dM.c x).toArray 417)).heap.size/\w.heap.size<=q/\¬((T.cW cp T.G).cB u T.P).M q) λq a hb=>⟨a,hb⟩;refine(cr.ak h1 a4 λq a ch=>a.2.2 (.inr (.inr (.inr (.inl (S q ch)))))).bG λq _ hb=>⟨hb.2.1,λhm=>hb.2.2 ?_⟩;rcases hm with hm|hm|hm|hm|hm
    .exact .inl hm
    .exact .inr (.inl hm)
    .exact .inr (.inr (.inl hm))
    .refine .inr (.inr (.inr (.inl ?_)))
     show cp q;rcases an q hm with d|d
     .exact z q d
     .rcases a5 q d with t|t
      .exact S q t
      .have:=hb.1;omega
    .exact .inr (.inr (.inr (.inr hm)))
   have bs:IntKind.wrap .i64 (((f+1:Nat):Int)-1)=(f:Nat):=by rw[bT J J];omega
   refine⟨aj,am,a1,⟨f,_,l++ [x],bI,lu,u,bs,rfl,?_,?_,by rw[cT,jZ];omega,bp,aW,cf,cg,λj=>(a9 j).trans (b j),by rw[ce];exact a2,?_⟩,?_⟩
   .cases f with
    |zero=>exact a8
    |succ m=>rw[if_neg J];exact a8
   .rw[←a0,e_,c_,aV];rfl
   .intro y U
    rcases cS.1 U with U|U
    .exact br (Z.cF (eY y U))
    .obtain rfl:=ej.1 U
     subst aV;exact br (az.bG λq _ hb=>⟨by have:=hb.1;omega,hb.2⟩)
   .rw[bs]
    show(f:Int).toNat<(((f+1:Nat):Int)).toNat;omega
  .refine⟨false,cJ,cJ,cJ,e,rfl,aN (vs:=[false,(),(),()]) rfl λbJ R aF bS=>?_⟩
   refine⟨R.bX rfl ?_,rfl,cA R (us:=[false,(),(),()]) rfl rfl λab aG aH bU=>⟨λ_=>?_,λhb=>?_⟩⟩
   .intro v b
    simp only[cY,fC,fM]at b;rcases b with rfl|rfl|rfl|rfl<;>trivial
   .have hx:Ext g ab:=Ext.bN aF aH (ba _)
    have he:e=3/\¬Y.D.calm 2:=by
     rcases bP with h1|h1|⟨_,_,h1⟩
     .exact h1
     .obtain⟨p,aA,_⟩:=Q
      rw[aA]at h1;cases h1
     .exact absurd Q (h1 n)
    obtain⟨rfl,ci⟩:=he;obtain⟨d,t⟩:=fin (k:=2*T.aY) (X.ext hx) ((av.trans (cI.ext _ hx)).mono J) B F;exact⟨u,d,t,λj=>(a9 j).trans (b j),.inr ⟨rfl,λhc=>ci (N.calm 2 (ig hc J))⟩⟩
   .simp at hb;exact absurd hb bQ
 .have h0:e1=0:=by
   have:¬(e1:Int)>0:=cL bD;omega
  subst h0;have cj:rest=[]:=aZ;subst cj;obtain⟨d,t⟩:=fin (k:=2*T.aY) o (N.mono J) B F;refine⟨Y,d,t,b,.inl ⟨s,l,rfl,by rw[←a0,g3],au,λq a=>⟨F q a,λhm=>?_⟩,λx hx=>?_⟩⟩
  .have cH:=F q a
   have aq:cp q:=by rw[B];exact .inr a
   rcases hm with hm|hm|hm|hm|hm
   .exact(o.ca.inv.fI q (.inr (.inr (.inl aq)))).2 hm
   .exact(o.eR q aq).1 hm
   .exact(o.eR q aq).2.1 hm
   .have:=h.lt (q:=q) (.inr (.inr (.inr (.inl hm))));omega
   .exact(o.eR q aq).2.2 hm
  .refine(eY x hx).bG λq _ hb=>⟨hb.1,λhm=>hb.2 ?_⟩
   rcases hm with hm|hm|hm|hm|hm
   .exact .inl hm
   .exact .inr (.inl hm)
   .exact .inr (.inr (.inl hm))
   .refine .inr (.inr (.inr (.inl ?_)))
    show cp q;rw[B];exact .inl hm
   .exact .inr (.inr (.inr (.inr hm)))
def a7.kk(T:a7)(f:Nat->aj):a7:={T with f:=f}
structure dO where
 cb:Nat
 ma:ae
 hF:ae
 made:O Nat
 left:O Nat
structure dx(w:I)(T:a7)(c:dO):Prop where
 t:cM w T
 v:Var w c.cb [.pointer (some T.bE),c.ma,c.hF] 441
 ma:aT 1 3 w c.ma (gJ c.made)
 hF:aT 1 3 w c.hF (gJ c.left)
 gc:T.G c.cb
 jr:∀q,aB c.ma q->T.G q/\q≠c.cb/\¬aB c.hF q
 lY:∀q,aB c.hF q->T.G q/\q≠c.cb
 ns:¬T.C.D.ro
theorem Gw{w:I}{s:ae}{ds:O Nat}(d:Nat)(b:aT 1 3 w s (gJ ds))(j:ds.length<=1000000):
 ∃ (a:ae) (w':I),Sem.run ai (Builtin.append_ #[181,181] 181 #[s,.slice (some w.heap.size) 1 1]) (w.alloc (.cells #[d] 3))=.ok a w'/\
  aT 1 3 w' a (gJ (ds++ [d]))/\af (aB s) w w'/\(∀k,aB a k->aB s k\/w.heap.size<=k)/\af (aB s) (w.alloc (.cells #[d] 3)) w':=by
 have l:s.len=ds.length:=by have:=b.1;rw[s7]at this;omega
 have hc:Ext w (w.alloc (.cells #[d] 3)):=c5 _ _;have m:(w.alloc (.cells #[d] 3)).heap.size=w.heap.size+1:=na _ _;obtain⟨a,w',h1,e,n,c,f⟩:=vj.append (df:=181) (x:=⟨some w.heap.size,1,1⟩) (Src.new (T:=3) w [d] 1 rfl) (b.ext hc) (λv g=>by rw[ej.1 g];trivial) (by show(2*(s.len+1)+1000)*8<=_;omega);exact⟨a,w',h1,by simpa[gJ] using e,(af.bL hc).trans c,λk i=>(f k i).imp id (λh=>J),c⟩
section
variable {w w':I}{T az:a7}{c:dO}
theorem dx.of{W:Nat->Prop}(h:dx w T c)(d:cM w' az)(hc:af W w w')(cU:∀q,T.G q->¬W q)(f:az.bE=T.bE)(b:∀q,T.G q->az.G q)(g:az.C.D.cy=T.C.D.cy:=by rfl):dx w' az c:=
 ⟨d,by rw[f];exact h.v.ak hc (cU _ h.gc),h.ma.ak hc λq a=>cU q (h.jr q a).1,h.hF.ak hc λq a=>cU q (h.lY q a).1,b _ h.gc,λq a=>⟨b q (h.jr q a).1,(h.jr q a).2⟩,λq a=>⟨b q (h.lY q a).1,(h.lY q a).2⟩,λe=>h.ns λi=>g▸e i⟩
theorem dx.ext(h:dx w T c)(hx:Ext w w'):dx w' T c:=h.of (h.t.ext hx) hx (λ_ _ h=>h) rfl λ_ h=>h
theorem dx.cells(h:dx w T c):w.cell? c.cb=some (.pointer (some T.bE))/\w.cell? (Addr.add c.cb 1)=some (.slice c.ma.a c.ma.len c.ma.cap)/\w.cell? (Addr.add c.cb 2)=some (.slice c.hF.a c.hF.len c.hF.cap):=by
 rw[aw,aw];exact⟨h.v.cell,h.v.cell,h.v.cell⟩
theorem cM.CB(h:cM w T){q:Nat}(a:T.G q):¬dm T.C q:=λhf=>(h.ca.inv.fI q (.inr (.inr (.inr a)))).2 hf
theorem cM.zx{f:Nat->aj}(h:cM w T)(hs:fY w' T.sb T.n f T.g T.s1 T.s2)(hc:af (hW T.sb T.s1 T.s2) w w'):cM w' (T.kk f)/\cI T (T.kk f) w w' 0:=
 ⟨⟨h.t.ak hc h.lq,hs,h.ca.ak hc λq a=>.inr (.inl a),h.lq,h.eR,h.lr,h.n,h.num,h.fZ,h.cy,h.low⟩,
  ⟨rfl,rfl,rfl,rfl,rfl,rfl,rfl,rfl,rfl,rfl,ba _,λ_ h=>h,hc.mono λq _ a=>.inr (.inr (.inl a)),λq h=>.inl h,λq h=>.inl h⟩⟩
theorem Md(h:dx w T c)(no:Nat)(y:c.made.length<=100000):
 ∃ (b:ae) (ag:I),Sem.run ai (Builtin.append_ #[181,181] 181 #[c.ma,.slice (some w.heap.size) 1 1]) (w.alloc (.cells #[no] 3))=.ok b ag/\
  af (aB c.ma) (w.alloc (.cells #[no] 3)) ag/\(∃u:Y,ag.cell? ⟨c.cb,1,none⟩=some u)/\ag.frozen? ⟨c.cb,1,none⟩=false/\
  ∀j,j=ag.setCell ⟨c.cb,1,none⟩ b->dx j (T.cW T.E λq=>T.G q\/aB b q) {c with ma:=b,made:=c.made++ [no]}/\cI T (T.cW T.E λq=>T.G q\/aB b q) w j 0:=by
 obtain⟨b,ag,aA,l,d,f,p⟩:=Gw no h.ma J;have cU:∀q,aB c.ma q->T.G q:=λq a=>(h.jr q a).1;have z:=d.size;have m:=h.v.ak d λa=>(h.jr _ a).2.1 rfl;obtain⟨bW,b9⟩:=eP m (i:=1) (by simp);refine⟨b,ag,aA,p,bW,b9,?_⟩;rintro _ rfl;have g:=dX ag c.cb 1 b;have r:=eO m (i:=1) b;have k:af T.G w (ag.setCell ⟨c.cb,1,none⟩ b):=de (d.mono λq _ a=>cU q a) g λq _ e=>by rw[e];exact h.gc
 have A:=k.size;have aJ:∀q,aB b q->q<ag.heap.size:=λq a=>aT.lt l q a;have n:∀q,aB b q->T.G q\/(w.heap.size<=q/\q<(ag.setCell ⟨c.cb,1,none⟩ b).heap.size):=λq a=>by
  rcases f q a with h1|h1
  .exact .inl (cU q h1)
  .exact .inr ⟨h1,by have:=aJ q a;have:=g.size;omega⟩
 have o:∀q,aB b q->q≠c.cb:=λq a e=>by
  rcases f q a with h1|h1
  .exact(h.jr q h1).2.1 e
  .have:=h.v.lt;omega
 have s:∀q,aB b q->¬aB c.hF q:=λq a e=>by
  rcases f q a with h1|h1
  .exact(h.jr q h1).2.2 e
  .have:=aT.lt h.hF q e;omega
 have x:=h.t.grow (E:=T.E) (G:=λq=>T.G q\/aB b q) k (λq a _=>.inr a) (λq a=>.inl a) (λq a=>by
  rcases a with a|a
  .exact .inr (.inl a)
  .exact .inr (n q a)) λq a hg=>by
  rcases hg with hg|hg
  .exact(h.t.eR q a).2.2 hg
  .rcases f q hg with h1|h1
   .exact(h.t.eR q a).2.2 (cU q h1)
   .have:=h.t.lt (q:=q) (.inr (.inr (.inr (.inl a))));omega
 refine⟨⟨x,r,?_,(h.hF.ak d λq a e=>(h.jr q e).2.2 a).ak g λq a e=>(h.lY q a).2 e,.inl h.gc,λq a=>⟨.inr a,o q a,s q a⟩,λq a=>⟨.inl (h.lY q a).1,(h.lY q a).2⟩,h.ns⟩,?_⟩
 .have:aT 1 3 ag b (gJ (c.made++ [no])):=l
  exact this.ak g λq a e=>o q a e
 .have h0:cI T T w w 0:=.refl _ _
  exact h0.step k (λq a _=>.inr (.inr (.inr a))) (λq a=>.inl a) λq a=>by
   rcases a with a|a
   .exact .inl a
   .exact(n q a).imp id λe=>e.1
theorem Gx(h:dx w T c)(no:Nat)(y:c.left.length<=100000):
 ∃ (b:ae) (ag:I),Sem.run ai (Builtin.append_ #[181,181] 181 #[c.hF,.slice (some w.heap.size) 1 1]) (w.alloc (.cells #[no] 3))=.ok b ag/\
  af (aB c.hF) (w.alloc (.cells #[no] 3)) ag/\(∃u:Y,ag.cell? ⟨c.cb,2,none⟩=some u)/\ag.frozen? ⟨c.cb,2,none⟩=false/\
  ∀j,j=ag.setCell ⟨c.cb,2,none⟩ b->dx j (T.cW T.E λq=>T.G q\/aB b q) {c with hF:=b,left:=c.left++ [no]}/\cI T (T.cW T.E λq=>T.G q\/aB b q) w j 0:=by
 obtain⟨b,ag,aA,l,d,f,p⟩:=Gw no h.hF J;have cU:∀q,aB c.hF q->T.G q:=λq a=>(h.lY q a).1;have z:=d.size;have m:=h.v.ak d λa=>(h.lY _ a).2 rfl;obtain⟨bW,b9⟩:=eP m (i:=2) (by simp);refine⟨b,ag,aA,p,bW,b9,?_⟩;rintro _ rfl;have g:=dX ag c.cb 2 b;have r:=eO m (i:=2) b;have k:af T.G w (ag.setCell ⟨c.cb,2,none⟩ b):=de (d.mono λq _ a=>cU q a) g λq _ e=>by rw[e];exact h.gc
 have A:=k.size;have aJ:∀q,aB b q->q<ag.heap.size:=λq a=>aT.lt l q a;have n:∀q,aB b q->T.G q\/(w.heap.size<=q/\q<(ag.setCell ⟨c.cb,2,none⟩ b).heap.size):=λq a=>by
  rcases f q a with h1|h1
  .exact .inl (cU q h1)
  .exact .inr ⟨h1,by have:=aJ q a;have:=g.size;omega⟩
 have o:∀q,aB b q->q≠c.cb:=λq a e=>by
  rcases f q a with h1|h1
  .exact(h.lY q h1).2 e
  .have:=h.v.lt;omega
 have s:∀q,aB c.ma q->¬aB b q:=λq e a=>by
  rcases f q a with h1|h1
  .exact(h.jr q e).2.2 h1
  .have:=aT.lt h.ma q e;omega
 have x:=h.t.grow (E:=T.E) (G:=λq=>T.G q\/aB b q) k (λq a _=>.inr a) (λq a=>.inl a) (λq a=>by
  rcases a with a|a
  .exact .inr (.inl a)
  .exact .inr (n q a)) λq a hg=>by
  rcases hg with hg|hg
  .exact(h.t.eR q a).2.2 hg
  .rcases f q hg with h1|h1
   .exact(h.t.eR q a).2.2 (cU q h1)
   .have:=h.t.lt (q:=q) (.inr (.inr (.inr (.inl a))));omega
 refine⟨⟨x,r,(h.ma.ak d λq a e=>(h.jr q a).2.2 e).ak g λq a e=>(h.jr q a).2.1 e,?_,.inl h.gc,λq a=>⟨.inl (h.jr q a).1,(h.jr q a).2.1,s q a⟩,λq a=>⟨.inr a,o q a⟩,h.ns⟩,?_⟩
 .have:aT 1 3 ag b (gJ (c.left++ [no])):=l
  exact this.ak g λq a e=>o q a e
 .have h0:cI T T w w 0:=.refl _ _
  exact h0.step k (λq a _=>.inr (.inr (.inr a))) (λq a=>.inl a) λq a=>by
   rcases a with a|a
   .exact .inl a
   .exact(n q a).imp id λe=>e.1
end
def cN(T:a7):Nat:=T.n-ff (λi=>T.f i||T.g i) T.n
theorem Gy{s t:Nat->aj}:∀ {n:Nat},(∀i,i<n->s i=t i)->ff s n=ff t n
 |0,_=>rfl
 |n+1,h=>by
  unfold ff
  rw[Gy (n:=n) λi hi=>h i J,h n J]
theorem zy{s t:Nat->aj}{k:Nat}(a:s k=false)(ht:t k=true)(he:∀i,i≠k->t i=s i):∀ {n:Nat},k<n->ff t n=ff s n+1
 |0,h=>by omega
 |n+1,h=>by
  unfold ff
  by_cases e:k=n
  .subst e
   rw[Gy (s:=t) (t:=s) (n:=k) λi hi=>he i J,a,ht]
   simp
  .rw[zy a ht he (n:=n) J,he n J]
   omega
theorem Gz{t:Nat->aj}:∀ {n:Nat},(∀i,i<n->t i=true)->ff t n=n
 |0,_=>rfl
 |n+1,h=>by
  unfold ff
  rw[Gz (n:=n) λi hi=>h i J,h n J]
  simp
theorem GA{T:a7}(h:1<=cN T):∃no,firstFree (λi=>T.f i||T.g i) T.n=some no:=by
 cases hf:firstFree (λi=>T.f i||T.g i) T.n with
 |some no=>exact⟨no,rfl⟩
 |none=>
  have:=Gz (LH hf);unfold cN at h;rw[this]at h;omega
structure dy(T az:a7)(c c':dO)(m l:O Nat)(w w':I)(k:Nat):Prop where
 to:cI T az w w' k
 E:az.E=T.E
 G:∀q,T.G q->az.G q
 root:az.root=T.root
 aY:az.aY=T.aY
 cb:c'.cb=c.cb
 made:c'.made=c.made++m
 left:c'.left=c.left++l
 cF:m.Nodup
 kI:∀no∈m,(T.f no||T.g no)=false/\no<T.n
 f:∀no,az.f no=(T.f no||decide (no∈m))
 e4:∀no,(T.f no||T.g no)=true->az.P no=T.P no/\az.C.view no=T.C.view no
 room:cN az+m.length=cN T
theorem dy.ext{w w':I}(T:a7)(c:dO)(h:Ext w w'):dy T T c c [] [] w w' 0:=
 ⟨.ext T h,rfl,λ_ h=>h,rfl,rfl,rfl,by simp,by simp,List.nodup_nil,λ_ h=>(by cases h),λno=>by simp,λ_ _=>⟨rfl,rfl⟩,by simp⟩
theorem dy.trans{T az o:a7}{c c' p:dO}{m r l s:O Nat}{w w' t:I}{k u:Nat}(h1:dy T az c c' m l w w' k)(d:dy az o c' p r s w' t u):dy T o c p (m++r) (l++s) w t (k+u):=by
 have hg:az.g=T.g:=h1.to.g;have v:az.n=T.n:=h1.to.n;have hf:∀no,(T.f no||T.g no)=true->(az.f no||az.g no)=true:=λno h=>by
  rw[h1.f,hg]
  cases i:T.f no<;>cases j:T.g no<;>simp[i,j]at h⊢
 refine⟨h1.to.trans d.to,d.E.trans h1.E,λq h=>d.G q (h1.G q h),d.root.trans h1.root,d.aY.trans h1.aY,d.cb.trans h1.cb,by rw[d.made,h1.made,c_],by rw[d.left,h1.left,c_],?_,λno h=>?_,λno=>?_,λno h=>?_,?_⟩
 .rw[ri]
  refine⟨h1.cF,d.cF,λa x b hb e=>?_⟩;subst e;have:=(d.kI a hb).1;rw[h1.f]at this;simp[x]at this
 .rcases cS.1 h with h|h
  .exact h1.kI no h
  .have i:=d.kI no h
   rw[h1.f,hg,v]at i;refine⟨?_,i.2⟩
   cases y:T.f no<;>cases z:T.g no<;>simp[y,z]at i⊢
 .rw[d.f,h1.f]
  simp only[cS,Bool.decide_or,Bool.or_assoc]
 .have i:=d.e4 no (hf no h)
  have j:=h1.e4 no h;exact⟨i.1.trans j.1,i.2.trans j.2⟩
 .have:=h1.room
  have:=d.room;rw[cT];omega
theorem dy.mono{T az:a7}{c c':dO}{m l:O Nat}{w w':I}{k j:Nat}(h:dy T az c c' m l w w' k)(a:k<=j):dy T az c c' m l w w' j:=⟨h.to.mono a,h.E,h.G,h.root,h.aY,h.cb,h.made,h.left,h.cF,h.kI,h.f,h.e4,h.room⟩
end Go.Proofs.YtbjddgakboindaaGreat
