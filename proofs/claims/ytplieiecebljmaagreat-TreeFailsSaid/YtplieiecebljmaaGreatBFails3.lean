/- Contracts of the functions that the statement reaches, and the plain laws over them; each theorem stands with its conditions. -/
import Derived.OpenShut
import Derived.Test.YtplieiecebljmaaGreatRows
import Derived.Test.YtplieiecebljmaaGreatBFails2
namespace Go.Proofs.YtplieiecebljmaaGreat
open Go b_
section
def dF.tf (D:dF) (i:Nat):List mD:=match D.waits.find? fun x=>x.i==i with
 |some x=>x.rL
 |none=> []
def dF.calm (D:dF) (k:Nat):Prop:=(D.fN.getD 1 0= -1∨(k:Int)≤D.fN.getD 1 0)∧(D.fN.getD 2 0= -1∨(k:Int)≤D.fN.getD 2 0)
def dF.key (D:dF):List mD×Int:=(D.gQ,D.fN.getD 3 0)
theorem na {W V:Nat→Prop} {w w' iG:World} (U:ao W w w') (ad:ao V w' iG) (h:∀q,q<w.heap.size→V q→W q):ao W w iG:=
 ⟨ad.os.trans U.os,ad.tape.trans U.tape,ad.output.trans U.output,jb U.size ad.size,fun k ae dq=>(ad.block k (lE ae U.size) fun ak=>dq (h k ae ak)).trans (U.block k ae dq)⟩
theorem mE {D:dF} {k l:Nat} (h:D.calm k) (az:l≤k):D.calm l:=⟨h.1.imp id fun h=>by omega,h.2.imp id fun h=>by omega⟩
theorem KM {D:dF} {k m:Nat} (ae:k=1∨k=2) (aJ:D.fN.length=4) (h:D.calm (m+1)):(D.iU k).calm m∧D.te k=false:=by
 obtain ⟨U,ad⟩:=h
 have qT:1<D.fN.length:=by omega
 have qU:2<D.fN.length:=by omega
 rcases ae with rfl|rfl
 · have aY:(D.iU 1).fN.getD 1 0=(o1 (D.fN.getD 1 0)).2:=by
     show (D.fN.set 1 _).getD 1 0=_
     rw[oy (by rw[jc];omega),va]
   have bo:(D.iU 1).fN.getD 2 0=D.fN.getD 2 0:=by
     show (D.fN.set 1 _).getD 2 0=_
     rw[oy (by rw[jc];omega),m6 (by omega),oy qU]
   unfold dF.calm dF.te
   rw[aY,bo]
   unfold o1
   rcases U with U|U
   · rw[if_pos U]
     exact ⟨⟨.inl rfl,ad.imp id fun h=>by omega⟩,rfl⟩
   · rw[if_neg (by omega),if_neg (by omega)]
     exact ⟨⟨.inr (by show (m:Int)≤_-1;omega),ad.imp id fun h=>by omega⟩,rfl⟩
 · have aY:(D.iU 2).fN.getD 2 0=(o1 (D.fN.getD 2 0)).2:=by
     show (D.fN.set 2 _).getD 2 0=_
     rw[oy (by rw[jc];omega),va]
   have bo:(D.iU 2).fN.getD 1 0=D.fN.getD 1 0:=by
     show (D.fN.set 2 _).getD 1 0=_
     rw[oy (by rw[jc];omega),m6 (by omega),oy qT]
   unfold dF.calm dF.te
   rw[aY,bo]
   unfold o1
   rcases ad with ad|ad
   · rw[if_pos ad]
     exact ⟨⟨U.imp id fun h=>by omega, .inl rfl⟩,rfl⟩
   · rw[if_neg (by omega),if_neg (by omega)]
     exact ⟨⟨U.imp id fun h=>by omega, .inr (by show (m:Int)≤_-1;omega)⟩,rfl⟩
theorem S8 (D:dF) {k:Nat} (ae:k=1∨k=2):(D.iU k).key=D.key:=by
 unfold dF.key dF.iU
 rcases ae with rfl|rfl<;>simp[pD]
theorem Z4 {sz:Nat} {w:World} {s:aa} {α:Type} {c:α→List Value} {l:List α} (h:Src sz w s (cI c l)) (al:∀x∈l,(c x).length=sz) (dR:0<sz) {i:Nat} (hi:i<l.length):
   s.len=l.length∧∃A,s.a=some A∧eN w (A.add (i*sz)) 0 sz=some (c l[i]):=by
 have az:s.len=l.length:=by
   have:=h.len
   rw[oC l al] at this
   exact (Nat.eq_of_mul_eq_mul_right dR this).symm
 refine ⟨az,?_⟩
 cases aR:s.a with
 |none=>
   have:=congrArg List.length (h.nil aR)
   rw[oC l al,vb] at this
   have:l.length*sz≠0:=Nat.mul_ne_zero (by omega) (by omega)
   omega
 |some A=>
   refine ⟨A,rfl,?_⟩
   have hle:i*sz+sz≤s.len*sz:=by
     rw[az,←Nat.succ_mul]
     exact Cf _ hi
   rw[Z5 (h.rd A aR) hle,ZS al hi]
def HH:List Value:=bn (List.replicate 256 0)
def S9 (D:dF) (i:Nat) (w:World) (v:Value) (w':World):Prop:=v= .agg (bn (D.now i)).toArray∧Ext w w'
theorem ala {w:World} {D:dF} (h:ji w D) {i:Nat} (hi:i<D.n) (gC:D.cR≤1000000000):
   aQ Tryz.prog F.CX #[.pointer (some ⟨D.d,0,none⟩), .int .i64 ((i:Nat):Int)] w (S9 D i w):=by
 have oz:=h.db
 have sx:=h.OM hi
 refine W.alb (some ⟨D.d,0,none⟩) ((i:Nat):Int) w _ ?_
 (delta W.CX pN aB aC S_ ai aq ON;dsimp only)
 refine cn (vs:=HH) (by kernel_rfl) fun ag ak bD _=> ?_
 have hd:=h.ext bD
 refine ⟨_,rfl,some D.jZ,hd.dN,?_⟩
 have CJ:HH.length=256:=by rw[HH,kz,G1]
 have fin:∀ (K:List Value→World→Prop),(∀bW,Ext w bW→K (bn (D.now i)) bW)→cZ ag ⟨w.heap.size,0,none⟩ (Array.toList (bn (D.now i)).toArray)∧Array.size (bn (D.now i)).toArray=256∧ay (setCells ag ⟨w.heap.size,0,none⟩ 0 (Array.toList (bn (D.now i)).toArray)) fun bW=>∃AM:List Value,eN bW ⟨w.heap.size,0,none⟩ 0 256=some AM∧K AM bW:=by
   intro K bu
   refine ⟨ak.dA (by rw[JH,kz,sx,CJ]) (by rw[JH];exact yl _),by simp[kz,sx],ek ak (us:=bn (D.now i)) (by rw[kz,sx,CJ]) rfl fun bW SC CG _=>⟨_,SC.rd (by rw[kz,sx]),bu bW (Ext.eX bD CG (cV _))⟩⟩
 cases aH:D.waits.find? fun x=>x.i==i with
 |some x=>
   have af:=ED aH
   have HI:x.i=i:=by
     have:=GS aH
     exact eq_of_beq this
   have az:=hd.m.Z6 HF HG (k:=(i:Int)) (v:= .slice x.s.a x.s.len x.s.cap) (nq.2 ⟨x,af,by unfold pW.e;rw[HI]⟩) false
   have c4:=(h.wn x af).1
   have hlen:0<x.rL.length:=List.length_pos_iff.2 c4
   have ajZ:=(h.wn x af).2.2
   obtain ⟨gw,A,ax,dQ⟩:=Z4 (hd.ws x af).src (fun s aj=>by rw[kz];exact h.Fs x af s aj) (by decide) (i:=x.rL.length-1) (by omega)
   have sy:D.now i=x.rL[x.rL.length-1]'(by omega):=by
     unfold dF.now
     rw[aH]
     show x.rL.getLastD []=_
     rw[List.getLastD_eq_getLast?,List.getLast?_eq_getElem?,gF (by omega)]
     rfl
   refine ⟨x.s,ag,az,fun _=>⟨A,ax,?_⟩,fun bN=> ?_⟩
   · rw[gw,cz (n:=((x.rL.length:Nat):Int)-1) (by omega) (by omega)]
     have Sp:Int.toNat (((x.rL.length:Nat):Int)-1)=x.rL.length-1:=by omega
     rw[Sp]
     refine ⟨⟨by omega,by omega⟩,_,dQ,?_⟩
     rw[←sy]
     exact fin (fun AM bW=>S9 D i w (.agg AM.toArray) bW) fun bW gd=>⟨rfl,gd⟩
   · have:=eW bN
     omega
 |none=>
   obtain ⟨alc,U,ad⟩:=KK Z0
   have az:=hd.m.Z7 HF HG (k:=(i:Int)) U ad (fun v ak=>by
     obtain ⟨x,af,he⟩:=nq.1 ak
     have au:=sd.1 aH x af
     unfold pW.e at he
     simp only[Prod.mk.injEq] at he
     apply au
     have:x.i=i:=by omega
     rw[this];simp) false
   have fm:i<D.gQ.length:=hi
   have sy:D.now i=D.gQ[i]:=by
     unfold dF.now
     rw[aH]
     exact oy fm
   have mM:Src 256 ag ⟨some ⟨D.ie,0,none⟩,D.gQ.length,D.gQ.length⟩ (cI bn D.gQ):=by
     have nZ:=oC (c:=bn) (sz:=256) D.gQ fun s aj=>by rw[kz];exact h.AI s aj
     have:=ct.J_ (sz:=256) (o:=0) (n:=D.gQ.length) (cap:=D.gQ.length) hd.l (by simp[nZ])
     rw[zW,JH,gX (by rw[nZ];exact cV _)] at this
     exact this
   obtain ⟨gw,A,ax,dQ⟩:=Z4 mM (fun s aj=>by rw[kz];exact h.AI s aj) (by decide) fm
   refine ⟨⟨none,0,0⟩,ag,az,fun bN=>by simp at bN,fun _=>⟨_,rfl,_,hd.gl,A,ax,⟨by omega,by show (i:Int)<((D.gQ.length:Nat):Int);omega⟩,_,dQ,?_⟩⟩
   rw[←sy]
   exact fin (fun AM bW=>S9 D i w (.agg AM.toArray) bW) fun bW gd=>⟨rfl,gd⟩
def ald (D:dF) (i:Nat) (w:World) (v:Value) (w':World):Prop:=
 ji w' (D.iU 1)∧ao (fun q=>q=D.d) w w'∧
   ((D.te 1=true∧v= .tuple #[.slice none 0 0, .int .i64 3])∨
    (D.te 1=false∧∃s:aa,v= .tuple #[.slice s.a s.len s.cap, .int .i64 0]∧bF (fun q=>w.heap.size≤q) w' s (D.now i)))
theorem ale {w:World} {D:dF} (h:ji w D) {i:Nat} (hi:i<D.n) (gC:D.cR≤1000000000):
   aQ Tryz.prog F.CY #[.pointer (some ⟨D.d,0,none⟩), .int .i64 ((i:Nat):Int)] w (ald D i w):=by
 refine W.alf (some ⟨D.d,0,none⟩) ((i:Nat):Int) w _ ?_
 (delta W.CY ba aB Z8 jt pN ai;dsimp only)
 refine (Z2 h _).use ?_
 rintro _ _ ⟨rfl,rfl⟩
 refine ⟨_,rfl,fun ab=> ?_,fun _=>⟨_,rfl,(Z3 h (k:=1) (by decide)).use ?_⟩⟩
 · have ab:¬(0≤(i:Int)∧(i:Int)<D.n):=by simpa using ab
   omega
 rintro _ aw ⟨rfl,l2,dY,vi⟩
 refine ⟨_,rfl,fun ab=>⟨l2,dY, .inl ⟨ab,rfl⟩⟩,fun ab=>(ala l2 (i:=i) hi gC).use ?_⟩
 rintro _ aS ⟨rfl,eU⟩
 have sx:=h.OM hi
 refine ⟨_,rfl,cn (vs:=HH) (by kernel_rfl) fun bp rJ fB Kq=>⟨rJ.dA (by rw[JH,kz];show (D.now i).length=_;rw[sx,HH,kz,G1]) (by rw[JH];exact yl _),by rw[List.size_toArray,kz];exact sx,ek rJ (us:=bn (D.now i)) (by rw[kz,sx,HH,kz,G1]) rfl fun bH OO l0 Ox=> ?_⟩⟩
 have avU:=eU.size
 have bd:D.d<aw.heap.size:=l2.v.lt
 refine ⟨(l2.ext (eU.trans fB)).an l0 (fun q J e=>by have:=l2.lt J;omega),na (dY.trans (ao.eQ (eU.trans fB))) l0 fun q J e=>by omega, .inr ⟨ab,⟨some ⟨aS.heap.size,0,none⟩,256,256⟩,rfl,?_,cV _,fun k ae=> ?_⟩⟩
 · have:=OO.ain (o:=0) (n:=256) (c:=256) (l:=D.now i) (by rw[kz,sx];decide) (by rw[zW,gX (by rw[kz,sx];decide)])
   exact this
 · obtain ⟨A,ax,rfl⟩:=ae
   cases ax
   have:=OO.lt
   exact ⟨by show w.heap.size≤aS.heap.size;omega,this⟩
end
section
theorem Z9:∀ (l:List Value) (k:Nat) (arr:Array Value),(l.zipIdx k).foldl (fun cs (p:Value×Nat)=>cs.setIfInBounds p.2 p.1) arr=oT arr k l
 | [],_,_=>rfl
 |v::l,k,arr=>by
   rw[List.zipIdx_cons,List.foldl_cons]
   exact Z9 l (k+1) (arr.setIfInBounds k v)
theorem Ta {P:Program} {T e:TypeId} {d:TypeDesc} {i:TypeInfo} {z:Value} {sz:Nat} {cs:Array Value} (w:World) (U:P.underlying T=some (.slice e)) (ad:P.underlying e=some d) (au:P.cellsOf e=sz) (hi:P.info? e=some i) (uf:i.zero=some z) (fc:cs.size=sz) (avV:sz≠0) (hle:sz≤16777216):
   Sem.run P (Instr.buildSlice T 1 #[(0, .agg cs)]) w= .ok (.slice (some ⟨w.heap.size,0,none⟩) 1 1) (w.alloc (.cells cs e)):=by
 have bN:=qI (P:=P) (w:=w) ad
 rw[au] at bN
 have alg:Instr.fill (fun i=>some (i*sz,sz)) ((Array.range (1*sz)).map fun x=>z.cells[x%z.cells.size]!) [(0, .agg cs)]=some cs:=by
   have al:(Value.agg cs).cells=cs:=rfl
   rw[Instr.fill]
   simp only[al]
   rw[if_neg (by simp[fc]),Instr.fill]
   rw[←Array.foldl_toList,Array.toList_zipIdx]
   have e:(fun (cs:Array Value) (x:Value×Nat)=>match x with|(c,j)=>cs.setIfInBounds (0*sz+j) c)=fun cs (p:Value×Nat)=>cs.setIfInBounds p.2 p.1:=by
     funext cs x
     obtain ⟨c,j⟩:=x
     simp
   rw[e,Z9]
   congr 1
   apply Array.toList_inj.1
   rw[Af _ _ _ (by simp[fc])]
   simp[fc]
 have CZ:=C0 (w:=w) hi
 have aD:¬(1*sz>2^24):=by
   have:(2:Nat)^24=16777216:=rfl
   omega
 have SK:¬(1*sz=0):=by omega
 have pI:Instr.fill (fun i=>some (i*sz,sz)) ((Array.range (1*sz)).map fun x=>z.cells[x%z.cells.size]!) (#[(0,Value.agg cs)]:Array (Nat×Value)).toList=some cs:=alg
 simp only[Instr.buildSlice,Sem.run_bind,gj U,bN,Result.andThen,aD,SK,if_false,zeroValue,CZ,uf,Sem.run_pure,pI]
 simp[newRow,newObj,Sem.run]
theorem Z_ (w:World) (l:mD) (az:l.length=256):
   Sem.run Tryz.prog (Instr.buildSlice ah.um 1 #[(0, .agg (bn l).toArray)]) w= .ok (.slice (some ⟨w.heap.size,0,none⟩) 1 1) (w.alloc (.cells (bn l).toArray ah.o0)):=by
 have h:((Tryz.prog.info? ah.o0).bind (·.zero)).isSome=true:=by kernel_rfl
 obtain ⟨z,bN⟩:=Cg.1 h
 obtain ⟨i,hi,uf⟩:=KK bN
 exact Ta (d:= .array 256 ah.uint8) (sz:=256) w (by kernel_rfl) (by kernel_rfl) (by kernel_rfl) hi uf (by rw[List.size_toArray,kz,az]) (by decide) (by decide)
theorem alh:qf Tryz.prog ah.um ah.o0 256 256:=⟨by kernel_rfl⟩
def dF.put (D:dF) (i:Nat) (s:aa) (l:mD):dF:=
 {D.iU 2 with waits:=⟨i,s,D.tf i++ [l]⟩::D.waits.filter (fun x=>x.i !=i),writes:=IntKind.wrap .i64 (D.writes+1),cR:=D.cR+1}
theorem ali {D:dF} {i j:Nat} (h:j≠i):(D.waits.filter fun x=>x.i !=i).find? (fun x=>x.i==j)=D.waits.find? fun x=>x.i==j:=by
 rw[List.find?_filter]
 congr 1
 funext x
 by_cases e:x.i=j
 · rw[e];simp[h]
 · simp[e]
theorem aaa (D:dF) (i:Nat) (s:aa) (l:mD) (j:Nat):(D.put i s l).now j=if j=i then l else D.now j:=by
 unfold dF.now dF.put
 by_cases h:j=i
 · subst h
   simp
 · rw[if_neg h]
   simp only
   rw[List.find?_cons_of_neg (by simp;omega),ali h]
   rfl
def aab (D:dF) (i:Nat) (l:mD) (w:World) (v:Value) (w':World):Prop:=
 (D.te 2=true∧v= .int .i64 3∧ji w' (D.iU 2)∧ao (fun q=>q=D.d) w w')∨
 (D.te 2=false∧v= .int .i64 0∧∃s:aa,ji w' (D.put i s l)∧ao (nB D) w w'∧∀q,aO s q→nB D q∨w.heap.size≤q)
theorem alj {w:World} {D:dF} {b:aa} {l:mD} (h:ji w D) {i:Nat} (hi:i<D.n) (gC:D.cR≤1000000000) (ab:Src 1 w b (bn l)) (az:l.length=256) (hd:∀q,aO b q→¬nB D q):
   aQ Tryz.prog F.C1 #[.pointer (some ⟨D.d,0,none⟩), .int .i64 ((i:Nat):Int), .slice b.a b.len b.cap] w (aab D i l w):=by
 have wM:=len8 ab
 have oz:=h.db
 refine W.alk (some ⟨D.d,0,none⟩) ((i:Nat):Int) b w _ ?_
 (delta W.C1 ba aB Tb bI st aC;dsimp only)
 refine (Z2 h _).use ?_
 rintro _ _ ⟨rfl,rfl⟩
 have fo:decide (0≤(i:Int)∧(i:Int)<D.n)=true:=iy ⟨by omega,by omega⟩
 refine ⟨_,rfl,fun U=> ?_,fun _=>⟨_,rfl,(Z3 h (k:=2) (by decide)).use ?_⟩⟩
 · rw[fo,wM,az] at U
   simp at U
 rintro _ aw ⟨rfl,l2,dY,vi⟩
 refine ⟨_,rfl,fun nA=> .inl ⟨nA,rfl,l2,dY⟩,fun nA=>bL ?_⟩
 obtain ⟨j0,hold⟩:∃j0:aa,(match D.waits.find? fun x=>x.i==i with|some x=>x.s|none=>⟨none,0,0⟩)=j0:=⟨_,rfl⟩
 have tg:=l2.ext (dL aw)
 have Hz:Src 1 aw.drew b (bn l):=(ab.an dY fun q J e=>hd q J (.inl e)).ext (dL aw)
 have wY:bV 256 ah.o0 aw.drew j0 (cI bn (D.tf i))∧(∀q,aO j0 q→nB D q∧q≠D.d∧q≠D.ie∧q≠D.jZ)∧(∀x∈D.waits,x.i≠i→∀q,aO x.s q→¬aO j0 q)∧(D.tf i).length≤D.cR∧(∀s∈D.tf i,s.length=256)∧
     ∀w':World,kE w' D.jZ encZ (D.waits.map pW.e)→Sem.run Tryz.prog (Instr.lookup ah.AH (.map (some D.jZ)) (.int .i64 ((i:Nat):Int)) false) w'= .ok (.slice j0.a j0.len j0.cap) w':=by
   cases aH:D.waits.find? fun x=>x.i==i with
   |some x=>
     rw[aH] at hold
     have hold:x.s=j0:=hold
     subst hold
     have af:=ED aH
     have HI:x.i=i:=by
       have:=GS aH
       exact eq_of_beq this
     have e:D.tf i=x.rL:=by unfold dF.tf;rw[aH]
     rw[e]
     refine ⟨tg.ws x af,fun q J=>⟨.inr (.inr (.inr ⟨x,af,J⟩)),fun e=>(h.cS x af).1 (e▸J),fun e=>(h.cS x af).2.1 (e▸J),fun e=>(h.cS x af).2.2 (e▸J)⟩,fun y b3 c4=>h.a3 y b3 x af (by omega),(h.wn x af).2.2,h.Fs x af,fun w' hm=>hm.Z6 HF HG (k:=(i:Int)) (v:= .slice x.s.a x.s.len x.s.cap) (nq.2 ⟨x,af,by unfold pW.e;rw[HI]⟩) false⟩
   |none=>
     rw[aH] at hold
     have hold:(⟨none,0,0⟩:aa)=j0:=hold
     subst hold
     have e:D.tf i=[]:=by unfold dF.tf;rw[aH]
     rw[e]
     obtain ⟨alc,U,ad⟩:=KK Z0
     refine ⟨bV.none _ _ _,fun q J=>(qJ q J).elim,fun x _ _ q _ J=>(qJ q J).elim,fl _,fun s aj=>(by cases aj),fun w' hm=>hm.Z7 HF HG (k:=(i:Int)) U ad (fun v ak=> ?_) false⟩
     obtain ⟨x,af,he⟩:=nq.1 ak
     have au:=sd.1 aH x af
     unfold pW.e at he
     simp only[Prod.mk.injEq] at he
     apply au
     have:x.i=i:=by omega
     rw[this];simp
 obtain ⟨bQ,yX,aac,avW,OP,aad⟩:=wY
 obtain ⟨A,ax,dQ⟩:∃A,b.a=some A∧eN aw.drew A 0 256=some (bn l):=by
   cases aR:b.a with
   |none=>
     have:=congrArg List.length (ab.nil aR)
     rw[kz,az] at this
     cases this
   |some A=>
     refine ⟨A,rfl,?_⟩
     have:=Hz.rd A aR
     rwa[wM,az] at this
 have alm:¬aO j0 A.block:=fun J=>hd _ ⟨A,ax,rfl⟩ (yX _ J).1
 have aae:∀bp:World,Ext aw.drew bp→∃ (ar:aa) (bH:World),Sem.run Tryz.prog (Builtin.append_ #[ah.um,ah.um] ah.um #[.slice j0.a j0.len j0.cap, .slice (some ⟨bp.heap.size,0,none⟩) 1 1]) (bp.alloc (.cells (bn l).toArray ah.o0))= .ok (.slice ar.a ar.len ar.cap) bH∧
     bV 256 ah.o0 bH ar (cI bn (D.tf i++ [l]))∧ao (aO j0) bp bH∧(∀k,aO ar k→aO j0 k∨bp.heap.size≤k)∧ao (aO j0) (bp.alloc (.cells (bn l).toArray ah.o0)) bH:=by
   intro bp fB
   have hlen:j0.len=(D.tf i).length:=by
     have:=bQ.1
     rw[oC (c:=bn) (sz:=256) _ fun s aj=>by rw[kz];exact OP s aj] at this
     omega
   have jE:=iR bp (.cells (bn l).toArray ah.o0)
   obtain ⟨ar,bH,aA,aE,aI,aL,cQ⟩:=alh.append (eB:=ah.um) (x:=⟨some ⟨bp.heap.size,0,none⟩,1,1⟩) (Src.new (T:=ah.o0) bp (bn l) 1 (by rw[kz,az])) (bQ.ext (fB.trans jE)) (yl l) (by rw[hlen];show (2*(_+1)+1000)*256≤_;omega)
   refine ⟨ar,bH,aA,?_,(ao.eQ jE).trans aL,fun k ae=>(cQ k ae).imp id fun h=> ?_,aL⟩
   · rw[yW]
     have:cI bn [l]=bn l:=by simp[cI]
     rw[this];exact aE
   · have:=jE.size;omega
 have OQ:∀ (bH:World) (ar:aa),kE bH D.jZ encZ (D.waits.map pW.e)→∃a8:World,Sem.run Tryz.prog (Instr.mapUpdate ah.AH (.map (some D.jZ)) (.int .i64 ((i:Nat):Int)) (.slice ar.a ar.len ar.cap)) bH= .ok () a8∧ao (fun q=>q=D.jZ) bH a8∧
     kE a8 D.jZ encZ ((pW.mk i ar (D.tf i++ [l])::D.waits.filter fun x=>x.i !=i).map pW.e):=by
   intro bH ar hm
   have Tc:=hm.keys
   rw[EG] at Tc
   cases aH:D.waits.find? fun x=>x.i==i with
   |some x=>
     have af:=ED aH
     have HI:x.i=i:=by
       have:=GS aH
       exact eq_of_beq this
     obtain ⟨bX,cf,he⟩:=List.append_of_mem af
     have c4:∀y∈bX++cf,y.i≠i:=by
       intro y b3 e
       rw[he,om,tR] at Tc
       have U:=(Cd.nodup_iff).1 Tc
       rw[List.nodup_cons] at U
       apply U.1
       rw[←om]
       refine nq.2 ⟨y,b3,?_⟩
       show ((y.i:Nat):Int)=((x.i:Nat):Int)
       omega
     have nZ:D.waits.filter (fun x=>x.i !=i)=bX++cf:=by
       rw[he,Ca,List.filter_cons_of_neg (by simp[HI])]
       rw[u6.2 fun y b3=>by have:=c4 y (tP _ b3);simpa using this,u6.2 fun y b3=>by have:=c4 y (qc _ b3);simpa using this]
     have aZ:(D.waits.map pW.e).Perm (((i:Int), .slice x.s.a x.s.len x.s.cap)::(bX++cf).map pW.e):=by
       rw[he,om,tR,om]
       have:x.e=((i:Int), .slice x.s.a x.s.len x.s.cap):=by unfold pW.e;rw[HI]
       rw[this]
       exact Cd
     obtain ⟨a8,aA,aE,_,aI⟩:=ak4 HF HG (hm.perm aZ) (.slice ar.a ar.len ar.cap)
     refine ⟨a8,aA,aE,?_⟩
     rw[nZ]
     exact aI
   |none=>
     have c4:∀y∈D.waits,y.i≠i:=fun y b3 e=>by
       have:=sd.1 aH y b3
       rw[e] at this;simp at this
     have nZ:D.waits.filter (fun x=>x.i !=i)=D.waits:=u6.2 fun y b3=>by simpa using c4 y b3
     obtain ⟨a8,aA,aE,_,aI⟩:=ak3 HF HG (k:=(i:Int)) hm (fun v ak=>by
       obtain ⟨x,af,he⟩:=nq.1 ak
       unfold pW.e at he
       simp only[Prod.mk.injEq] at he
       exact c4 x af (by omega)) (.slice ar.a ar.len ar.cap)
     refine ⟨a8,aA,aE,?_⟩
     rw[nZ]
     exact aI
 have fin:∀ (bH a8:World) (ar:aa),ao (aO j0) aw.drew bH→bV 256 ah.o0 bH ar (cI bn (D.tf i++ [l]))→(∀k,aO ar k→aO j0 k∨aw.drew.heap.size≤k)→ao (fun q=>q=D.jZ) bH a8→kE a8 D.jZ encZ ((pW.mk i ar (D.tf i++ [l])::D.waits.filter fun x=>x.i !=i).map pW.e)→
     ∃a23:Addr,(some ⟨D.d,0,none⟩:Option Addr)=some a23∧∃n24:Int,a8.cell? (a23.add 6)=some (.int .i64 n24)∧∃a25:Addr,(some ⟨D.d,0,none⟩:Option Addr)=some a25∧(∃u:Value,a8.cell? (a25.add 6)=some u)∧a8.frozen? (a25.add 6)=false∧ay (a8.setCell (a25.add 6) (.int .i64 (IntKind.wrap .i64 (n24+1)))) fun cv=>aab D i l w (.int .i64 0) cv:=by
   intro bH a8 ar l0 E8 gg qN lI
   have OO:=tg.v.an l0 fun J=>(yX _ J).2.1 rfl
   have KN:Var a8 D.d (D.iU 2).c ah.OK:=OO.an qN h.bc.2.1
   have hlen:(D.iU 2).c.length=7:=l2.OL
   obtain ⟨s1,s2⟩:=js KN (i:=6) (by rw[hlen];decide)
   have fE:a8.cell? (Addr.add ⟨D.d,0,none⟩ 6)=some (.int .i64 D.writes):=by
     rw[aW,gz,KN.cell]
     unfold dF.c
     have:=l2.f4
     rw[wF (by rw[lf];omega),lf,this];rfl
   rw[aW,gz] at fE
   refine ⟨_,rfl,D.writes,by rw[aW,gz];exact fE,_,rfl,by rw[aW,gz];exact s1,by rw[aW,gz];exact s2,?_⟩
   rw[aW,gz]
   have qS:=ig a8 D.d 6 (.int .i64 (IntKind.wrap .i64 (D.writes+1)))
   have Kh:=jr KN (i:=6) (.int .i64 (IntKind.wrap .i64 (D.writes+1)))
   have qm:(D.iU 2).c.set 6 (.int .i64 (IntKind.wrap .i64 (D.writes+1)))=(D.put i ar l).c:=by
     have aJ:=l2.f4
     have aY:(D.put i ar l).c=(D.iU 2).fN.map (.int .i64)++ [.slice (some ⟨D.ie,0,none⟩) D.gQ.length D.gQ.length, .map (some D.jZ), .int .i64 (IntKind.wrap .i64 (D.writes+1))]:=rfl
     have bo:(D.iU 2).c=(D.iU 2).fN.map (.int .i64)++ [.slice (some ⟨D.ie,0,none⟩) D.gQ.length D.gQ.length, .map (some D.jZ), .int .i64 D.writes]:=rfl
     rw[aY,bo,List.set_append_right _ _ (by rw[lf];omega),lf,aJ]
     rfl
   rw[qm] at Kh
   have C2:ao (fun q=>q=D.jZ∨q=D.d) bH (a8.setCell ⟨D.d,6,none⟩ (.int .i64 (IntKind.wrap .i64 (D.writes+1)))):=(qN.mono fun q _ e=> .inl e).trans (qS.mono fun q _ e=> .inr e)
   have rM:∀q,aO ar q→q≠D.d∧q≠D.ie∧q≠D.jZ:=fun q J=>by
     have avX:=tg.lt (q:=D.d) (.inl rfl)
     have avY:=tg.lt (q:=D.ie) (.inr (.inl rfl))
     have avZ:=tg.lt (q:=D.jZ) (.inr (.inr (.inl rfl)))
     rcases gg q J with U|U
     · exact (yX q U).2
     · exact ⟨by omega,by omega,by omega⟩
   have qZ:∀x∈D.waits.filter (fun x=>x.i !=i),x∈D.waits∧x.i≠i:=fun x af=>by
     obtain ⟨U,ad⟩:=GR.1 af
     exact ⟨U,by simpa using ad⟩
   refine bL (.inr ⟨nA,rfl,ar,⟨Kh,?_,?_,?_,?_,h.AI,?_,h.dk,h.db,l2.f4,l2.fr,h.bc,?_,?_⟩,?_,?_⟩)
   · exact ct.an (ct.an tg.l l0 fun J=>(yX _ J).2.2.1 rfl) C2 (by
       rintro (e|e)
       · exact h.bc.2.2 e
       · exact h.bc.1 e.symm)
   · exact lI.an qS (fun e=>h.bc.2.1 e.symm)
   · intro x af
     rcases gb.1 af with rfl|af
     · exact E8.an C2 fun q J=>by
         rintro (e|e)
         · exact (rM q J).2.2 e
         · exact (rM q J).1 e
     · obtain ⟨U,ad⟩:=qZ x af
       refine ((tg.ws x U).an l0 fun q J=>aac x U ad q J).an C2 fun q J=> ?_
       rintro (e|e)
       · exact (h.cS x U).2.2 (e▸J)
       · exact (h.cS x U).1 (e▸J)
   · intro x af
     rcases gb.1 af with rfl|af
     · refine ⟨by simp,hi,?_⟩
       show (D.tf i++ [l]).length≤D.cR+1
       rw[dU,ru];omega
     · obtain ⟨U,ad⟩:=qZ x af
       have:=h.wn x U
       exact ⟨this.1,this.2.1,Nat.le_succ_of_le this.2.2⟩
   · intro x af
     rcases gb.1 af with rfl|af
     · intro s aj
       rcases e8.1 aj with aj|aj
       · exact OP s aj
       · rw[lV.1 aj];exact az
     · exact h.Fs x (qZ x af).1
   · intro x af
     rcases gb.1 af with rfl|af
     · exact ⟨fun J=>(rM _ J).1 rfl,fun J=>(rM _ J).2.1 rfl,fun J=>(rM _ J).2.2 rfl⟩
     · exact h.cS x (qZ x af).1
   · have my:∀y∈D.waits,y.i≠i→∀q,aO y.s q→¬aO ar q:=fun y b3 c4 q J hF=>by
       rcases gg q hF with U|U
       · exact aac y b3 c4 q J U
       · have:=(tg.ws y b3).lt q J;omega
     intro x af y b3 c4 q J hF
     rcases gb.1 af with rfl|af
     · rcases gb.1 b3 with rfl|b3
       · exact c4 rfl
       · exact my y (qZ y b3).1 (fun e=>c4 e.symm) q hF J
     · rcases gb.1 b3 with rfl|b3
       · exact my x (qZ x af).1 c4 q J hF
       · exact h.a3 x (qZ x af).1 y (qZ y b3).1 c4 q J hF
   · refine ((dY.mono fun q _ e=> .inl e).trans ((ao.eQ (dL aw)).trans (l0.mono fun q _ J=>(yX q J).1))).trans (C2.mono fun q _ J=> ?_)
     rcases J with e|e
     · exact .inr (.inr (.inl e))
     · exact .inl e
   · intro q J
     rcases gg q J with U|U
     · exact .inl (yX q U).1
     · have:aw.drew.heap.size=aw.heap.size:=rfl
       exact .inr (by omega)
 refine ⟨aO j0,_,rfl,fun J=>(yX _ J).2.1 rfl,some D.jZ,tg.dN,_,rfl,fun J=>(yX _ J).2.1 rfl,some D.jZ,tg.dN,by omega,A,ax,alm,_,dQ,⟨?_,?_⟩⟩
 · obtain ⟨ar,bH,aA,aE,aI,aL,cQ⟩:=aae aw.drew (.refl _ _)
   have vC:=tg.m.an aI fun J=>(yX _ J).2.2.2 rfl
   obtain ⟨a8,aY,bo,en⟩:=OQ bH ar vC
   exact ⟨j0,_,aad _ tg.m, .refl _ _,⟨some ⟨aw.drew.heap.size,0,none⟩,1,1⟩,_,Z_ _ l az,ao.eQ (iR _ _),ar,bH,aA,cQ,a8,aY,fin bH a8 ar aI aE aL bo en⟩
 · obtain ⟨ar,bH,aA,aE,aI,aL,cQ⟩:=aae aw.drew (.refl _ _)
   have w6:=tg.m.ext (iR aw.drew (.cells (bn l).toArray ah.o0))
   have vC:=tg.m.an aI fun J=>(yX _ J).2.2.2 rfl
   obtain ⟨a8,aY,bo,en⟩:=OQ bH ar vC
   exact ⟨⟨some ⟨aw.drew.heap.size,0,none⟩,1,1⟩,_,Z_ _ l az,ao.eQ (iR _ _),j0,_,aad _ w6, .refl _ _,ar,bH,aA,cQ,a8,aY,fin bH a8 ar aI aE aL bo en⟩
end
section
theorem aln {P:Program} {e:TypeId} {v:Value} {sz:Nat} (bN:((P.info? e).bind (·.zero)).map (·.cells)=some (List.replicate sz v).toArray) (al:P.cellsOf e=sz) (aj:0<sz) (n:Nat):pM P e n=(List.replicate (n*sz) v).toArray:=by
 unfold pM
 rw[al]
 cases hi:(P.info? e).bind (·.zero) with
 |none=>rw[hi] at bN;cases bN
 |some z=>
   rw[hi] at bN
   simp only[yg,Option.some.injEq] at bN
   simp only[Option.getD_some]
   apply Array.ext
   · simp
   · intro i U ad
     have aD:n*sz≠0:=by
       intro h
       simp[h] at ad
     simp only[aD,if_false,bN,Array.getElem_map,Array.getElem_range]
     have bd:i%sz<sz:=sX _ aj
     simp[bd]
theorem alo (m n:Nat):cI bn (List.replicate n (List.replicate m 0))=List.replicate (n*m) (.int .u8 0):=by
 induction n with
 |zero=>simp[cI]
 |succ n du=>
   rw[List.replicate_succ,HD,du,wE,Nat.one_mul,Nat.add_comm]
   have e:bn (List.replicate m 0)=List.replicate m (Value.int .u8 0):=by simp[bn]
   rw[e,List.replicate_append_replicate]
def yY:mD:=List.replicate 256 0
theorem alp (n:Nat):pM Tryz.prog ah.o0 n=(cI bn (List.replicate n yY)).toArray:=by
 unfold yY
 rw[alo]
 exact aln (by kernel_rfl) (by kernel_rfl) (by decide) n
def vK (n d ie jZ:Nat):dF:=⟨d,ie,jZ,[-1, -1, -1, -1],List.replicate n yY,[],0,0⟩
theorem alq {w:World} {b:Nat} {vs:List Value} {T:TypeId} (h:Var w b vs T) (az:4≤vs.length):
   aQ Tryz.prog F.C3 #[.pointer (some ⟨b,0,none⟩)] w (fun v w'=>v= .tuple #[]∧Var w' b (List.replicate 4 (.int .i64 (-1))++vs.drop 4) T∧ao (fun q=>q=b) w w'∧w'.heap.size=w.heap.size):=by
 refine W.alr (some ⟨b,0,none⟩) w _ ?_
 (delta W.C3 aB st aC;dsimp only)
 refine ⟨fun i w'=>∃j:Nat,i=j∧j≤4∧Var w' b (List.replicate j (.int .i64 (-1))++vs.drop j) T∧ao (fun q=>q=b) w w'∧w'.heap.size=w.heap.size,fun i _=>((4:Int)-i).toNat,⟨0,rfl,by omega,h, .refl _ _,rfl⟩,?_⟩
 rintro _ ag ⟨j,rfl,a_,ak,al,bN⟩
 refine ⟨fun bd=> ?_,fun cg=> ?_⟩
 · have bd:j<4:=by have:=dD bd;omega
   have aR:Addr.add ⟨b,0,none⟩ (Int.toNat ((j:Nat):Int)*1)=⟨b,j,none⟩:=by rw[gY,lU,aW,gz]
   obtain ⟨s1,s2⟩:=js ak (i:=j) (by simp;omega)
   rw[cz (n:=(j:Int)+1) (by omega) (by omega)]
   refine ⟨_,rfl,⟨by omega,by show (j:Int)<4;omega⟩,by rw[aR];exact s1,by rw[aR];exact s2,bL ⟨⟨j+1,by omega,by omega,?_,?_,?_⟩,?_⟩⟩
   · have:=jr ak (i:=j) (.int .i64 (-1))
     rw[aR]
     have e:(List.replicate j (Value.int .i64 (-1))++vs.drop j).set j (.int .i64 (-1))=List.replicate (j+1) (.int .i64 (-1))++vs.drop (j+1):=by
       rw[List.set_append_right _ _ (by simp),G1,EF,tQ (show j<vs.length by omega),List.set_cons_zero,List.replicate_succ',eL]
       rfl
     rwa[e] at this
   · rw[aR];exact al.trans (ig _ _ _ _)
   · rw[aR];simpa[World.setCell] using bN
   · show ((4:Int)-((j:Int)+1)).toNat<((4:Int)-(j:Int)).toNat
     omega
 · have cg:j=4:=by have:=eW cg;omega
   subst cg
   exact ⟨rfl,ak,al,bN⟩
theorem yZ {n:Nat} (U:16≤n) (ad:n≤1600) (w:World):
   aQ Tryz.prog F.yZ #[.int .i64 ((n:Nat):Int)] w (fun v w'=>∃d ie jZ:Nat,v= .tuple #[.pointer (some ⟨d,0,none⟩), .int .i64 0]∧ji w' (vK n d ie jZ)∧Ext w w'∧∀q,nB (vK n d ie jZ) q→w.heap.size≤q):=by
 refine W.als ((n:Nat):Int) w _ ?_
 (delta W.yZ aB yp gl ai bC;dsimp only)
 refine ⟨fun h=> ?_,fun _=>⟨⟨by omega,by omega,by omega,by omega⟩,?_⟩⟩
 · simp only[u_,fu] at h;omega
 rw[alp,gY]
 have nA:=ct.new w (cI bn (List.replicate n yY)).toArray ah.o0
 have bD:=iR w (.cells (cI bn (List.replicate n yY)).toArray ah.o0)
 have m8:=JU w (.cells (cI bn (List.replicate n yY)).toArray ah.o0)
 obtain ⟨ag,xv⟩:∃ag,ag=w.alloc (.cells (cI bn (List.replicate n yY)).toArray ah.o0):=⟨_,rfl⟩
 rw[←xv] at nA bD m8⊢
 obtain ⟨aA,aE⟩:=kE.make (P:=Tryz.prog) (enc:=encZ) ah.AH ag
 have cA:=iR ag (.map #[] 0)
 have vi:=JU ag (.map #[] 0)
 obtain ⟨aw,tZ⟩:∃aw,aw=ag.alloc (.map #[] 0):=⟨_,rfl⟩
 rw[←tZ] at aA aE cA vi
 refine bL ⟨some ag.heap.size,aw,aA, #[.int .i64 0, .int .i64 0, .int .i64 0, .int .i64 0, .slice (some ⟨w.heap.size,0,none⟩) n n, .map (some ag.heap.size), .int .i64 0],by kernel_rfl,cn (vs:=[.int .i64 0, .int .i64 0, .int .i64 0, .int .i64 0, .slice (some ⟨w.heap.size,0,none⟩) n n, .map (some ag.heap.size), .int .i64 0]) rfl fun aS l3 eU CN=>⟨_,rfl,(alq l3 (by show 4≤7;decide)).use ?_⟩⟩
 rintro _ bp ⟨rfl,rJ,yw,Kq⟩
 refine ⟨rfl,aw.heap.size,w.heap.size,ag.heap.size,rfl,⟨?_,?_,?_,fun x af=>(by cases af),fun x af=>(by cases af),fun s aj=> ?_,fun x af=>(by cases af),?_,?_,rfl,fun x af=> ?_,?_,fun x af=>(by cases af),fun x af=>(by cases af)⟩,Ext.eX (bD.trans (cA.trans eU)) yw (by omega),?_⟩
 · have e:(vK n aw.heap.size w.heap.size ag.heap.size).c=List.replicate 4 (.int .i64 (-1))++ [Value.int .i64 0, .int .i64 0, .int .i64 0, .int .i64 0, .slice (some ⟨w.heap.size,0,none⟩) n n, .map (some ag.heap.size), .int .i64 0].drop 4:=by
     unfold dF.c vK
     simp
   rw[e];exact rJ
 · exact ct.an ((nA.ext cA).ext eU) yw (by show¬w.heap.size=aw.heap.size;omega)
 · exact (aE.ext eU).an yw (by omega)
 · rw[RH aj,yY,G1]
 · show 16≤(List.replicate n yY).length;simpa using U
 · show (List.replicate n yY).length≤1600;simpa using ad
 · have:x= -1:=by
     simp[vK] at af;exact af
   subst this;exact ⟨by decide,by decide⟩
 · exact ⟨by show aw.heap.size≠w.heap.size;omega,by show aw.heap.size≠ag.heap.size;omega,by show w.heap.size≠ag.heap.size;omega⟩
 · rintro q (rfl|rfl|rfl|⟨x,af,_⟩)
   · show w.heap.size≤aw.heap.size;omega
   · exact cV _
   · show w.heap.size≤ag.heap.size;omega
   · cases af
def dF.fail (D:dF) (k:Nat) (a:Int):dF:={D with fN:=D.fN.set k a}
theorem Td {w:World} {D:dF} (h:ji w D) {k:Nat} (ae:1≤k∧k≤3) {a:Int} (aR:0≤a∧a≤9223372036854775807):
   aQ Tryz.prog F.xw #[.pointer (some ⟨D.d,0,none⟩), .int .i64 ((k:Nat):Int), .int .i64 a] w (fun v w'=>v= .int .i64 0∧ji w' (D.fail k a)∧ao (fun q=>q=D.d) w w'∧w'.heap.size=w.heap.size):=by
 refine W.alt (some ⟨D.d,0,none⟩) ((k:Nat):Int) a w _ ?_
 (delta W.xw aB st;dsimp only)
 have aJ:=h.f4
 have Ft:Addr.add ⟨D.d,0,none⟩ (Int.toNat ((k:Nat):Int)*1)=⟨D.d,k,none⟩:=by rw[gY,lU,aW,gz]
 obtain ⟨s1,s2⟩:=js h.v (i:=k) (by rw[h.OL];omega)
 refine ⟨fun U=> ?_,fun _=>⟨_,rfl,⟨by omega,by show (k:Int)<4;omega⟩,by rw[Ft];exact s1,by rw[Ft];exact s2,bL ⟨rfl,?_,by rw[Ft];exact ig _ _ _ _,by rw[Ft];simp[World.setCell]⟩⟩⟩
 · simp only[Option.isNone_some,EK,u_,fu] at U;omega
 rw[Ft]
 have al:=ig w D.d k (.int .i64 a)
 have ak:=jr h.v (i:=k) (.int .i64 a)
 have e:D.c.set k (.int .i64 a)=(D.fail k a).c:=by
   unfold dF.c dF.fail
   rw[List.set_append_left _ _ (by rw[lf];omega),←List.map_set]
 rw[e] at ak
 refine ⟨ak,ct.an h.l al (fun e=>h.bc.1 e.symm),h.m.an al (fun e=>h.bc.2.1 e.symm),fun x af=>(h.ws x af).an al fun q J e=>(h.cS x af).1 (by subst e;exact J),h.wn,h.AI,h.Fs,h.dk,h.db,by show (D.fN.set k _).length=4;rw[jc];exact aJ,fun x af=> ?_,h.bc,h.cS,h.a3⟩
 rcases Ce af with af|rfl
 · exact h.fr x af
 · exact ⟨by omega,aR.2⟩
end
section
structure Fr where
 full:Bool
 xx:Bool
 used:Bool
 no:Int
 pins:Int
 b:aa
 l:mD
def Fr.c (f:Fr):List Value:=[.bool f.full, .bool f.xx, .bool f.used, .int .i64 f.no, .int .i64 f.pins, .slice f.b.a f.b.len f.b.cap]
def hK:Fr:=⟨false,false,false,0,0,⟨none,0,0⟩,[]⟩
structure eZ where
 c:Nat
 b1:Nat
 aF:List Fr
 hand:Nat
 D:dF
def iV (C:eZ) (q:Nat):Prop:=q=C.c∨q=C.b1∨nB C.D q
structure l9 (w:World) (C:eZ):Prop where
 v:Var w C.c [.pointer (some ⟨C.D.d,0,none⟩), .slice (some ⟨C.b1,0,none⟩) C.aF.length C.aF.length, .int .i64 C.hand] ah.aaf
 f:ct w C.b1 (cI Fr.c C.aF).toArray ah.rN
 dev:ji w C.D
 dI:8≤C.aF.length
 ew:C.aF.length≤64
 hd:C.hand<C.aF.length
 bc:C.c≠C.b1∧¬nB C.D C.c∧¬nB C.D C.b1
structure aag (X:Nat→Prop) (w:World) (C:eZ) (f:Fr) (no:Nat):Prop where
 num:f.no=no
 lt:no<C.D.n
 av0:bF (fun q=>¬iV C q∧¬X q) w f.b f.l
 len:f.l.length=256
 clean:f.xx=false→f.l=C.D.now no
structure q0 (X:Nat→Prop) (w:World) (C:eZ):Prop where
 pins:∀f∈C.aF,f.pins=0
 ok:∀f∈C.aF,f.full=true→∃no:Nat,aag X w C f no
 un:∀ (i j:Nat) (hi:i<C.aF.length) (a_:j<C.aF.length),(C.aF[i]).full=true→(C.aF[j]).full=true→(C.aF[i]).no=(C.aF[j]).no→i=j
 mQ:∀q,X q→q<w.heap.size∧¬iV C q
structure nc (X:Nat→Prop) (w:World) (C:eZ):Prop where
 raw:l9 w C
 inv:q0 X w C
def eZ.view (C:eZ) (no:Nat):mD:=match C.aF.find? fun f=>f.full&&f.no==(no:Int) with
 |some f=>f.l
 |none=>C.D.now no
theorem Fr.Te (f:Fr):f.c.length=6:=rfl
theorem OR (l:List Fr):∀x∈l,(Fr.c x).length=6:=fun x _=>rfl
section
variable {w w':World} {C:eZ} {X:Nat→Prop}
theorem l9.lt (h:l9 w C) {q:Nat} (J:iV C q):q<w.heap.size:=by
 rcases J with rfl|rfl|J
 · exact h.v.lt
 · exact ct.lt h.f
 · exact h.dev.lt J
theorem l9.an {W:Nat→Prop} (h:l9 w C) (al:ao W w w') (aD:∀q,iV C q→¬W q):l9 w' C:=
 ⟨h.v.an al (aD _ (.inl rfl)),ct.an h.f al (aD _ (.inr (.inl rfl))),h.dev.an al fun q J=>aD q (.inr (.inr J)),h.dI,h.ew,h.hd,h.bc⟩
theorem l9.ext (h:l9 w C) (al:Ext w w'):l9 w' C:=h.an al fun _ _ h=>h
theorem q0.an {W:Nat→Prop} (h:q0 X w C) (al:ao W w w') (aD:∀q,W q→iV C q∨X q):q0 X w' C:=
 ⟨h.pins,fun f aH lr=>by
   obtain ⟨no,aA,aE,aI,aL,cQ⟩:=h.ok f aH lr
   exact ⟨no,aA,aE,bF.an aI al fun q J hw=>by
     rcases aD q hw with U|U
     · exact J.1 U
     · exact J.2 U,aL,cQ⟩,h.un,fun q J=>⟨lE (h.mQ q J).1 al.size,(h.mQ q J).2⟩⟩
theorem nc.an {W:Nat→Prop} (h:nc X w C) (al:ao W w w') (aD:∀q,W q→X q):nc X w' C:=
 ⟨h.raw.an al fun q J hw=>(h.inv.mQ q (aD q hw)).2 J,h.inv.an al fun q hw=> .inr (aD q hw)⟩
theorem nc.ext (h:nc X w C) (al:Ext w w'):nc X w' C:=h.an al fun _ h=>h.elim
theorem OS (b1 i:Nat):Addr.add ⟨b1,0,none⟩ (Int.toNat ((i:Nat):Int)*6)=⟨b1,i*6,none⟩:=by rw[gY,aW,gz]
theorem l9.cells (h:l9 w C):w.cell? ⟨C.c,0,none⟩=some (.pointer (some ⟨C.D.d,0,none⟩))∧w.cell? (Addr.add ⟨C.c,0,none⟩ 1)=some (.slice (some ⟨C.b1,0,none⟩) C.aF.length C.aF.length)∧w.cell? (Addr.add ⟨C.c,0,none⟩ 2)=some (.int .i64 C.hand):=by
 rw[aW,aW]
 exact ⟨h.v.cell,h.v.cell,h.v.cell⟩
theorem xy {w:World} {b1:Nat} {fs:List Fr} {T:TypeId} (h:ct w b1 (cI Fr.c fs).toArray T) {i j:Nat} (hi:i<fs.length) (a_:j<6):w.cell? ⟨b1,i*6+j,none⟩=((fs[i]).c)[j]? :=by
 rw[ct.cell h]
 simp only[Ny]
 exact KJ (OR fs) hi a_
theorem Fu {w:World} {b1:Nat} {fs:List Fr} {T:TypeId} (h:ct w b1 (cI Fr.c fs).toArray T) {i j:Nat} (hi:i<fs.length) (a_:j<6) {v:Value} (hC:Fr) (aH:hC.c=(fs[i]).c.set j v):
   (∃u:Value,w.cell? ⟨b1,i*6+j,none⟩=some u)∧w.frozen? ⟨b1,i*6+j,none⟩=false∧ct (w.setCell ⟨b1,i*6+j,none⟩ v) b1 (cI Fr.c (fs.set i hC)).toArray T∧ao (fun q=>q=b1) w (w.setCell ⟨b1,i*6+j,none⟩ v):=by
 refine ⟨⟨((fs[i]).c)[j]'(by rw[Fr.Te];exact a_),by rw[xy h hi a_,gF (by rw[Fr.Te];exact a_)]⟩,ct.frozen h _ rfl,?_,ig _ _ _ _⟩
 have:=jr (vs:=cI Fr.c fs) h (i:=i*6+j) v
 rw[ak2 (OR fs) hi a_ aH] at this
 exact this
theorem Tf {w:World} {b1:Nat} {fs:List Fr} {T:TypeId} (h:ct w b1 (cI Fr.c fs).toArray T) {i:Nat} (hi:i<fs.length) (hC:Fr):
   cZ w ⟨b1,i*6,none⟩ hC.c∧ct (setCells w ⟨b1,i*6,none⟩ 0 hC.c) b1 (cI Fr.c (fs.set i hC)).toArray T∧ao (fun q=>q=b1) w (setCells w ⟨b1,i*6,none⟩ 0 hC.c):=by
 have az:=oC (c:=Fr.c) fs (OR fs)
 have hle:i*6+hC.c.length≤(cI Fr.c fs).toArray.size:=by
   rw[List.size_toArray,az,Fr.Te];omega
 refine ⟨ct.dA h _ _ hle ?_,?_,ao.Aa (.refl _ _) _ 0⟩
 · intro v ak
   unfold Fr.c at ak
   simp only[gb,m4,m5] at ak
   rcases ak with rfl|rfl|rfl|rfl|rfl|rfl<;>trivial
 · have b7:=ct.Cv (o:=i*6) h hC.c
   have e:oT (cI Fr.c fs).toArray (i*6) hC.c=(cI Fr.c (fs.set i hC)).toArray:=by
     have U:=Af hC.c (cI Fr.c fs).toArray (i*6) hle
     have ad:=ak1 (OR fs) hi hC
     have au:hC.c.length=6:=rfl
     rw[au] at U
     have aJ:(oT (cI Fr.c fs).toArray (i*6) hC.c).toList=cI Fr.c (fs.set i hC):=U.trans ad
     rw[←aJ]
   rw[e] at b7
   exact b7
theorem aah (h:l9 w C) (no:Int):aQ Tryz.prog F.AN #[.pointer (some ⟨C.c,0,none⟩), .int .i64 no] w (fun v w'=>v= .bool (decide (0≤no∧no<C.D.n))∧w=w'):=by
 refine W.alu (some ⟨C.c,0,none⟩) no w _ ?_
 (delta W.AN aB aT;dsimp only)
 refine eA (fun b w'=>b=decide (0≤no∧no<C.D.n)∧w=w') (fun q J=>⟨fun ab=>⟨_,rfl,_,h.cells.1,(Z1 h.dev).use ?_⟩,fun ab=>J _ _ ⟨?_,rfl⟩⟩) ?_
 · rintro _ _ ⟨rfl,rfl⟩
   have ab:0≤no:=by simpa using ab
   refine ⟨_,rfl,J _ _ ⟨?_,rfl⟩⟩
   rw[pc,fu,fu]
   exact ⟨fun h=>⟨ab,h⟩,fun h=>h.2⟩
 · have ab:¬0≤no:=by simpa using ab
   rw[sW (fun h=>ab h.1)]
 · rintro _ _ ⟨rfl,rfl⟩
   exact ⟨rfl,rfl⟩
def AtR (C:eZ) (no:Int) (v:Value):Prop:=
 (∃ (i:Nat) (hi:i<C.aF.length),v= .pointer (some ⟨C.b1,i*6,none⟩)∧(C.aF[i]).full=true∧(C.aF[i]).no=no)∨
 (v= .pointer none∧∀f∈C.aF,f.full=true→f.no≠no)
theorem Tg (h:l9 w C) (no:Int):aQ Tryz.prog F.y0 #[.pointer (some ⟨C.c,0,none⟩), .int .i64 no] w (fun v w'=>AtR C no v∧w=w'):=by
 obtain ⟨cH,aT,bC⟩:=h.cells
 have ae:=h.ew
 refine W.alv (some ⟨C.c,0,none⟩) no w _ ?_
 (delta W.y0 aB aq a7 bS bI aC;dsimp only)
 refine ⟨fun h=>(by cases h),fun _=>⟨_,rfl,⟨some ⟨C.b1,0,none⟩,C.aF.length,C.aF.length⟩,aT,fun i w'=>∃j:Nat,i=j∧j≤C.aF.length∧w=w'∧∀ (k:Nat) (ae:k<C.aF.length),k<j→(C.aF[k]).full=true→(C.aF[k]).no≠no,fun i _=>((C.aF.length:Int)-i).toNat,⟨0,rfl,fl _,rfl,fun k _ h=>by omega⟩,?_⟩⟩
 rintro _ _ ⟨j,rfl,a_,rfl,fx⟩
 refine ⟨fun bd=> ?_,fun cg=> ?_⟩
 · have bd:(j:Int)<((C.aF.length:Nat):Int):=dD bd
   have bd:j<C.aF.length:=by omega
   refine ⟨_,rfl,⟨some ⟨C.b1,0,none⟩,C.aF.length,C.aF.length⟩,aT,_,rfl,⟨by omega,by show (j:Int)<((C.aF.length:Nat):Int);omega⟩,_,rfl,?_⟩
   rw[OS]
   have f0:=xy h.f bd (j:=0) (by decide)
   have f3:=xy h.f bd (j:=3) (by decide)
   refine ⟨(C.aF[j]).full,f0,eA (fun b w'=>w=w'∧(b=true↔((C.aF[j]).full=true∧(C.aF[j]).no=no))) (fun q J=>⟨fun ab=>⟨_,rfl,(C.aF[j]).no,by rw[aW];exact f3,J _ _ ⟨rfl,?_⟩⟩,fun ab=>J _ _ ⟨rfl,?_⟩⟩) ?_⟩
   · rw[zZ]
     exact ⟨fun h=>⟨ab,h⟩,fun h=>h.2⟩
   · rw[ab]
     exact ⟨fun h=>(by cases h),fun h=>(by cases h.1)⟩
   rintro b w' ⟨rfl,ab⟩
   refine ⟨fun U=>⟨.inl ⟨j,bd,rfl,(ab.1 U).1,(ab.1 U).2⟩,rfl⟩,fun U=> ?_⟩
   rw[cz (n:=(j:Int)+1) (by omega) (by omega)]
   refine ⟨⟨j+1,by omega,by omega,rfl,fun k ae ad au=> ?_⟩,?_⟩
   · rcases g6 k j with aJ|aJ
     · exact fx k ae aJ au
     · have:k=j:=by omega
       subst this
       intro a6
       rw[ab.2 ⟨au,a6⟩] at U;cases U
   · show ((C.aF.length:Int)-((j:Int)+1)).toNat<((C.aF.length:Int)-(j:Int)).toNat
     omega
 · have cg:j=C.aF.length:=by
     have:¬((j:Int)<((C.aF.length:Nat):Int)):=eW cg
     omega
   subst cg
   refine ⟨.inr ⟨rfl,fun f aH lr=> ?_⟩,rfl⟩
   obtain ⟨k,ae,rfl⟩:=m3 aH
   exact fx k ae ae lr
theorem alw (h:l9 w C):aQ Tryz.prog F.C4 #[.pointer (some ⟨C.c,0,none⟩)] w (fun v w'=>((∃ (i:Nat) (hi:i<C.aF.length),v= .pointer (some ⟨C.b1,i*6,none⟩)∧(C.aF[i]).full=false)∨(v= .pointer none∧∀f∈C.aF,f.full=true))∧w=w'):=by
 obtain ⟨cH,aT,bC⟩:=h.cells
 have ae:=h.ew
 refine W.alx (some ⟨C.c,0,none⟩) w _ ?_
 (delta W.C4 aq aB a7 bS aC;dsimp only)
 refine ⟨_,rfl,⟨some ⟨C.b1,0,none⟩,C.aF.length,C.aF.length⟩,aT,fun i w'=>∃j:Nat,i=j∧j≤C.aF.length∧w=w'∧∀ (k:Nat) (ae:k<C.aF.length),k<j→(C.aF[k]).full=true,fun i _=>((C.aF.length:Int)-i).toNat,⟨0,rfl,fl _,rfl,fun k _ h=>by omega⟩,?_⟩
 rintro _ _ ⟨j,rfl,a_,rfl,fx⟩
 refine ⟨fun bd=> ?_,fun cg=> ?_⟩
 · have bd:(j:Int)<((C.aF.length:Nat):Int):=dD bd
   have bd:j<C.aF.length:=by omega
   have f0:=xy h.f bd (j:=0) (by decide)
   refine ⟨_,rfl,⟨some ⟨C.b1,0,none⟩,C.aF.length,C.aF.length⟩,aT,_,rfl,⟨by omega,by show (j:Int)<((C.aF.length:Nat):Int);omega⟩,(C.aF[j]).full,by rw[OS];exact f0,fun ab=>⟨_,rfl,⟨some ⟨C.b1,0,none⟩,C.aF.length,C.aF.length⟩,aT,_,rfl,⟨by omega,by show (j:Int)<((C.aF.length:Nat):Int);omega⟩, .inl ⟨j,bd,by rw[OS],by simpa using ab⟩,rfl⟩,fun ab=> ?_⟩
   rw[cz (n:=(j:Int)+1) (by omega) (by omega)]
   refine ⟨⟨j+1,by omega,by omega,rfl,fun k ae ad=> ?_⟩,?_⟩
   · rcases g6 k j with aJ|aJ
     · exact fx k ae aJ
     · have:k=j:=by omega
       subst this
       simpa using ab
   · show ((C.aF.length:Int)-((j:Int)+1)).toNat<((C.aF.length:Int)-(j:Int)).toNat
     omega
 · have cg:j=C.aF.length:=by
     have:¬((j:Int)<((C.aF.length:Nat):Int)):=eW cg
     omega
   subst cg
   refine ⟨.inr ⟨rfl,fun f aH=> ?_⟩,rfl⟩
   obtain ⟨k,ae,rfl⟩:=m3 aH
   exact fx k ae ae
def q1 (fs gs:List Fr):Prop:=gs.length=fs.length∧∀ (i:Nat) (U:i<fs.length) (ad:i<gs.length),gs[i]={fs[i] with used:=(gs[i]).used}
theorem q1.refl (fs:List Fr):q1 fs fs:=⟨rfl,fun i U ad=>rfl⟩
theorem q1.set {fs gs:List Fr} (h:q1 fs gs) {i:Nat} (hi:i<gs.length) (u:Bool):q1 fs (gs.set i {gs[i] with used:=u}):=by
 refine ⟨by rw[jc];exact h.1,fun j U ad=> ?_⟩
 rw[List.getElem_set]
 split
 · rename_i e
   subst e
   have:=h.2 i U hi
   rw[this]
 · exact h.2 j U _
theorem aly (h:l9 w C) (aZ:∀f∈C.aF,f.pins=0):aQ Tryz.prog F.C5 #[.pointer (some ⟨C.c,0,none⟩)] w (fun v w'=>∃ (i:Nat) (gs:List Fr) (hd:Nat),i<C.aF.length∧v= .pointer (some ⟨C.b1,i*6,none⟩)∧q1 C.aF gs∧l9 w' {C with aF:=gs,hand:=hd}∧ao (fun q=>q=C.c∨q=C.b1) w w'):=by
 obtain ⟨cH,aT,bC⟩:=h.cells
 have jQ:=h.dI
 have eC:=h.ew
 have alz:=h.hd
 refine W.alA (some ⟨C.c,0,none⟩) w _ ?_
 (delta W.C5 bI aq aB aC a7 bS st;dsimp only)
 refine ⟨_,rfl,_,bC,_,rfl,⟨some ⟨C.b1,0,none⟩,C.aF.length,C.aF.length⟩,aT,fun alB i w'=>∃ (s:Nat) (gs:List Fr),i=s∧s≤C.aF.length∧alB=(((C.hand+s)%C.aF.length:Nat):Int)∧q1 C.aF gs∧l9 w' {C with aF:=gs}∧ao (fun q=>q=C.c∨q=C.b1) w w'∧∀ (t:Nat) (af:(C.hand+t)%C.aF.length<gs.length),t<s→(gs[(C.hand+t)%C.aF.length]).used=false,
   fun _ i _=>(2*(C.aF.length:Int)-i).toNat,⟨0,C.aF,rfl,fl _,by rw[zV,u9 alz],q1.refl _,h, .refl _ _,fun t _ h=>by omega⟩,?_⟩
 rintro _ _ ag ⟨s,gs,rfl,aj,rfl,q2,aN,al,fx⟩
 have OT:gs.length=C.aF.length:=q2.1
 obtain ⟨i,hi⟩:∃i,i=(C.hand+s)%C.aF.length:=⟨_,rfl⟩
 have pq:i<gs.length:=by rw[hi,OT];exact sX _ (by omega)
 rw[←hi]
 obtain ⟨d0,d1,d2⟩:=aN.cells
 have d1:ag.cell? (Addr.add ⟨C.c,0,none⟩ 1)=some (.slice (some ⟨C.b1,0,none⟩) gs.length gs.length):=d1
 have aH:ct ag C.b1 (cI Fr.c gs).toArray ah.rN:=aN.f
 rw[cz (n:=2*((C.aF.length:Nat):Int)) (by omega) (by omega)]
 have hw:IntKind.wrap .i64 (((i:Nat):Int)+1)=((i+1:Nat):Int):=by rw[cz (by omega) (by omega)];rfl
 have aai:Int.tmod ((i+1:Nat):Int) ((gs.length:Nat):Int)=(((i+1)%gs.length:Nat):Int):=by
   rw[RJ (by omega)];rfl
 have alC:(i+1)%gs.length=(C.hand+(s+1))%C.aF.length:=by
   rw[hi,OT,Nat.mod_add_mod];rfl
 refine ⟨fun bd=> ?_,fun cg=> ?_⟩
 · refine eA (fun a w'=>a=(((C.hand+(s+1))%C.aF.length:Nat):Int)∧∃HJ:List Fr,s+1≤C.aF.length∧q1 C.aF HJ∧l9 w' {C with aF:=HJ}∧ao (fun q=>q=C.c∨q=C.b1) w w'∧∀ (t:Nat) (af:(C.hand+t)%C.aF.length<HJ.length),t<s+1→(HJ[(C.hand+t)%C.aF.length]).used=false) (fun q J=>⟨_,rfl,⟨some ⟨C.b1,0,none⟩,gs.length,gs.length⟩,d1,_,rfl,⟨by omega,by show (i:Int)<((gs.length:Nat):Int);omega⟩,_,rfl,⟨some ⟨C.b1,0,none⟩,gs.length,gs.length⟩,d1,by show ((gs.length:Nat):Int)≠0;omega,_,rfl,?_⟩) ?_
   · rw[OS,hw]
     have f4:=xy aH pq (j:=4) (by decide)
     have f2:=xy aH pq (j:=2) (by decide)
     have C6:(gs[i]).pins=0:=by
       have U:=q2.2 i (by omega) pq
       have ad:(gs[i]).pins=(C.aF[i]'(by omega)).pins:=by rw[U]
       rw[ad]
       exact aZ _ (fg _)
     refine ⟨(gs[i]).pins,by rw[aW];exact f4,fun ab=> ?_,fun _=>⟨_,rfl,(gs[i]).used,by rw[aW];exact f2,fun hu=>⟨_,rfl,?_⟩,fun hu=>⟨_,rfl,?_⟩⟩⟩
     · rw[C6] at ab;simp at ab
     · have OU:s<C.aF.length:=by
         rcases g6 s C.aF.length with U|U
         · exact U
         · have es:s=C.aF.length:=by omega
           have gk:(C.hand+0)%C.aF.length=i:=by rw[hi,es,Nat.add_mod_right];rfl
           have ad:=fx 0 (by rw[gk];exact pq) (by omega)
           have au:(gs[i]).used=false:=by
             have e:gs[(C.hand+0)%C.aF.length]'(by rw[gk];exact pq)=gs[i]:=by congr 1
             rw[←e];exact ad
           rw[au] at hu;cases hu
       obtain ⟨aA,aE,aI,aL⟩:=Fu aH pq (j:=2) (by decide) (v:= .bool false) {gs[i] with used:=false} rfl
       rw[aW]
       refine ⟨aA,aE,bL (J _ _ ⟨by rw[aai,alC],gs.set i {gs[i] with used:=false},OU,q2.set pq false,?_,al.trans (aL.mono fun q _ e=> .inr e),fun t af aV=> ?_⟩)⟩
       · have ak:=aN.v.an aL h.bc.1
         refine ⟨?_,aI,aN.dev.an aL (fun q J e=>h.bc.2.2 (e▸J)),?_,?_,?_,h.bc⟩
         · show Var _ _ [_, .slice (some ⟨C.b1,0,none⟩) (gs.set i _).length (gs.set i _).length,_] _
           rw[jc];exact ak
         · show 8≤(gs.set i _).length;rw[jc];omega
         · show (gs.set i _).length≤64;rw[jc];omega
         · show C.hand<(gs.set i _).length;rw[jc];omega
       · rw[List.getElem_set]
         split
         · rfl
         · rename_i c4
           rcases g6 t s with U|U
           · exact fx t _ U
           · have:t=s:=by omega
             subst this
             exact absurd hi c4
     · obtain ⟨s1,s2⟩:=js aN.v (i:=2) (by simp)
       rw[aW,aai]
       refine ⟨s1,s2,bL ⟨i,gs,(i+1)%gs.length,by omega,rfl,q2,?_,al.trans ((ig _ _ _ _).mono fun q _ e=> .inl e)⟩⟩
       have qm:=ig ag C.c 2 (.int .i64 (((i+1)%gs.length:Nat):Int))
       refine ⟨jr aN.v (i:=2) (.int .i64 (((i+1)%gs.length:Nat):Int)),ct.an aH qm (fun e=>h.bc.1 e.symm),aN.dev.an qm (fun q J e=>h.bc.2.1 (e▸J)),aN.dI,aN.ew,?_,h.bc⟩
       exact sX _ (by omega)
   · rintro a w' ⟨rfl,HJ,U,ad,au,aJ,a6⟩
     rw[cz (n:=(s:Int)+1) (by omega) (by omega)]
     refine ⟨⟨s+1,HJ,by omega,U,rfl,ad,au,aJ,a6⟩,?_⟩
     show (2*(C.aF.length:Int)-((s:Int)+1)).toNat<(2*(C.aF.length:Int)-(s:Int)).toNat
     omega
 · have:=eW cg
   omega
end
end
section
structure lM (C bx:eZ) (w w':World) (k:Nat):Prop where
 c:bx.c=C.c
 d:bx.D.d=C.D.d
 len:bx.aF.length=C.aF.length
 gQ:bx.D.key=C.D.key
 cR:bx.D.cR≤C.D.cR+k
 calm:∀m,C.D.calm (m+k)→bx.D.calm m
 an:ao (iV C) w w'
 jj:∀q,iV bx q→iV C q∨w.heap.size≤q
theorem lM.refl (C:eZ) (w:World):lM C C w w 0:=⟨rfl,rfl,rfl,rfl,cV _,fun _ h=>h, .refl _ _,fun _ h=> .inl h⟩
theorem lM.ext {w w':World} (C:eZ) (h:Ext w w'):lM C C w w' 0:=⟨rfl,rfl,rfl,rfl,cV _,fun _ h=>h,ao.eQ h,fun _ h=> .inl h⟩
theorem lM.trans {C bx aaj:eZ} {w w' iG:World} {k l:Nat} (U:lM C bx w w' k) (ad:lM bx aaj w' iG l):lM C aaj w iG (k+l):=by
 have aj:=U.an.size
 refine ⟨ad.c.trans U.c,ad.d.trans U.d,ad.len.trans U.len,ad.gQ.trans U.gQ,by have:=U.cR;have:=ad.cR;omega,fun m hm=>ad.calm m (U.calm (m+l) (by rw[show m+l+k=m+(k+l) by omega];exact hm)),na U.an ad.an fun q J h=>(U.jj q h).resolve_right (by omega),fun q J=> ?_⟩
 rcases ad.jj q J with h|h
 · exact U.jj q h
 · exact .inr (by omega)
theorem lM.mono {C bx:eZ} {w w':World} {k l:Nat} (h:lM C bx w w' k) (az:k≤l):lM C bx w w' l:=
 ⟨h.c,h.d,h.len,h.gQ,by have:=h.cR;omega,fun m hm=>h.calm m (mE hm (by omega)),h.an,h.jj⟩
theorem lM.n {C bx:eZ} {w w':World} {k:Nat} (h:lM C bx w w' k):bx.D.n=C.D.n:=congrArg (fun k:List mD×Int=>k.1.length) h.gQ
section
variable {w w':World} {C:eZ} {X:Nat→Prop}
theorem C7 {fs:List Fr} {D:dF} {c b1 hd:Nat} (un:∀ (i j:Nat) (hi:i<fs.length) (a_:j<fs.length),(fs[i]).full=true→(fs[j]).full=true→(fs[i]).no=(fs[j]).no→i=j) {i:Nat} (hi:i<fs.length) {no:Nat} (aH:(fs[i]).full=true) (aD:(fs[i]).no=no):(eZ.mk c b1 fs hd D).view no=(fs[i]).l:=by
 unfold eZ.view
 cases HK:fs.find? fun f=>f.full&&f.no==(no:Int) with
 |none=>
   have:=sd.1 HK _ (fg hi)
   simp[aH,aD] at this
 |some f=>
   have hm:=ED HK
   have aZ:=GS HK
   simp only[jD,zZ] at aZ
   obtain ⟨j,a_,rfl⟩:=m3 hm
   have:=un i j hi a_ aH aZ.1 (by rw[aD,aZ.2])
   subst this
   simp only
theorem C8 {fs:List Fr} {D:dF} {c b1 hd:Nat} {no:Nat} (h:∀f∈fs,f.full=true→f.no≠no):(eZ.mk c b1 fs hd D).view no=D.now no:=by
 unfold eZ.view
 cases HK:fs.find? fun f=>f.full&&f.no==(no:Int) with
 |none=>rfl
 |some f=>
   have hm:=ED HK
   have aZ:=GS HK
   simp only[jD,zZ] at aZ
   exact absurd aZ.2 (h f hm aZ.1)
theorem bF.Th {B xz:Nat→Prop} {w w':World} {t:aa} {l:Key} {V:Nat→Prop} (h:bF B w t l) (al:ao V w w') (ak:∀q,q<w.heap.size→B q→¬V q) (ab:∀q,q<w.heap.size→B q→xz q):bF xz w' t l:=
 ⟨h.1.an al fun q J=>ak q (h.2.2 q J).2 (h.2.2 q J).1,h.2.1,fun q J=>⟨ab q (h.2.2 q J).2 (h.2.2 q J).1,lE (h.2.2 q J).2 al.size⟩⟩
theorem OV {gs:List Fr} {hd:Nat} {aP:dF} {V:Nat→Prop} (h:q0 X w C) (aj:q1 C.aF gs) (al:ao V w w') (ud:∀q,q<w.heap.size→V q→iV C q) (aD:aP.n=C.D.n) (sy:∀i,aP.now i=C.D.now i) (uo:∀q,nB aP q→nB C.D q∨w.heap.size≤q):q0 X w' {C with aF:=gs,hand:=hd,D:=aP}:=by
 have dR:=al.size
 have vL:∀q,q<w.heap.size→iV {C with aF:=gs,hand:=hd,D:=aP} q→iV C q:=fun q J aH=>by
   rcases aH with U|U|U
   · exact .inl U
   · exact .inr (.inl U)
   · exact .inr (.inr ((uo q U).resolve_right (by omega)))
 have xA:∀ (i:Nat) (hi:i<gs.length),∃fm:i<C.aF.length,gs[i]={C.aF[i] with used:=(gs[i]).used}:=fun i hi=>⟨by rw[←aj.1];exact hi,aj.2 i (by rw[←aj.1];exact hi) hi⟩
 refine ⟨fun f aH=> ?_,fun f aH lr=> ?_,fun i j hi a_ U ad au=> ?_,fun q J=>⟨lE (h.mQ q J).1 dR,fun aH=>(h.mQ q J).2 (vL q (h.mQ q J).1 aH)⟩⟩
 · obtain ⟨i,hi,rfl⟩:=m3 aH
   obtain ⟨fm,e⟩:=xA i hi
   have:(gs[i]).pins=(C.aF[i]).pins:=by rw[e]
   rw[this]
   exact h.pins _ (fg fm)
 · obtain ⟨i,hi,rfl⟩:=m3 aH
   obtain ⟨fm,e⟩:=xA i hi
   have aY:(gs[i]).full=(C.aF[i]).full:=by rw[e]
   have bo:(gs[i]).no=(C.aF[i]).no:=by rw[e]
   have en:(gs[i]).b=(C.aF[i]).b:=by rw[e]
   have kT:(gs[i]).l=(C.aF[i]).l:=by rw[e]
   have lZ:(gs[i]).xx=(C.aF[i]).xx:=by rw[e]
   obtain ⟨no,aA,aE,aI,aL,cQ⟩:=h.ok _ (fg fm) (by rw[←aY];exact lr)
   refine ⟨no,by rw[bo];exact aA,by rw[aD];exact aE,?_,by rw[kT];exact aL,fun hd=>by rw[kT,sy];exact cQ (by rw[←lZ];exact hd)⟩
   rw[en,kT]
   exact bF.Th aI al (fun q J ab ak=>ab.1 (ud q J ak)) fun q J ab=>⟨fun aH=>ab.1 (vL q J aH),ab.2⟩
 · obtain ⟨fm,e⟩:=xA i hi
   obtain ⟨C9,eS⟩:=xA j a_
   have aY:(gs[i]).full=(C.aF[i]).full:=by rw[e]
   have bo:(gs[i]).no=(C.aF[i]).no:=by rw[e]
   have en:(gs[j]).full=(C.aF[j]).full:=by rw[eS]
   have kT:(gs[j]).no=(C.aF[j]).no:=by rw[eS]
   exact h.un i j fm C9 (by rw[←aY];exact U) (by rw[←en];exact ad) (by rw[←bo,←kT];exact au)
theorem OW {gs:List Fr} {hd:Nat} {aP:dF} (h:q0 X w C) (aj:q1 C.aF gs) (sy:∀i,aP.now i=C.D.now i) (no:Nat):(eZ.mk C.c C.b1 gs hd aP).view no=C.view no:=by
 have xA:∀ (i:Nat) (hi:i<gs.length),∃fm:i<C.aF.length,gs[i]={C.aF[i] with used:=(gs[i]).used}:=fun i hi=>⟨by rw[←aj.1];exact hi,aj.2 i (by rw[←aj.1];exact hi) hi⟩
 by_cases hex:∃ (i:Nat) (hi:i<C.aF.length),(C.aF[i]).full=true∧(C.aF[i]).no=no
 · obtain ⟨i,hi,U,ad⟩:=hex
   have fv:i<gs.length:=by rw[aj.1];exact hi
   obtain ⟨fm,e⟩:=xA i fv
   have aY:(gs[i]).full=(C.aF[i]).full:=by rw[e]
   have bo:(gs[i]).no=(C.aF[i]).no:=by rw[e]
   have en:(gs[i]).l=(C.aF[i]).l:=by rw[e]
   have vM:∀ (i j:Nat) (hi:i<gs.length) (a_:j<gs.length),(gs[i]).full=true→(gs[j]).full=true→(gs[i]).no=(gs[j]).no→i=j:=by
     intro a b aR ab dI ew mO
     obtain ⟨oD,nd⟩:=xA a aR
     obtain ⟨kB,n0⟩:=xA b ab
     have f1:(gs[a]).full=(C.aF[a]).full:=by rw[nd]
     have f2:(gs[a]).no=(C.aF[a]).no:=by rw[nd]
     have f3:(gs[b]).full=(C.aF[b]).full:=by rw[n0]
     have f4:(gs[b]).no=(C.aF[b]).no:=by rw[n0]
     exact h.un a b oD kB (by rw[←f1];exact dI) (by rw[←f3];exact ew) (by rw[←f2,←f4];exact mO)
   rw[C7 vM fv (by rw[aY];exact U) (by rw[bo];exact ad),en]
   exact (C7 (fs:=C.aF) (D:=C.D) (c:=C.c) (b1:=C.b1) (hd:=C.hand) h.un hi U ad).symm
 · have dd:∀f∈C.aF,f.full=true→f.no≠no:=fun f aH U ad=>by
     obtain ⟨i,hi,rfl⟩:=m3 aH
     exact hex ⟨i,hi,U,ad⟩
   have e:C.view no=C.D.now no:=C8 (fs:=C.aF) (D:=C.D) (c:=C.c) (b1:=C.b1) (hd:=C.hand) dd
   rw[e,←sy]
   refine C8 fun f aH U ad=> ?_
   obtain ⟨i,hi,rfl⟩:=m3 aH
   obtain ⟨fm,e⟩:=xA i hi
   have aY:(gs[i]).full=(C.aF[i]).full:=by rw[e]
   have bo:(gs[i]).no=(C.aF[i]).no:=by rw[e]
   exact dd _ (fg fm) (by rw[←aY];exact U) (by rw[←bo];exact ad)
theorem aak {i:Nat} (hi:i<C.aF.length) {aP:dF} {V:Nat→Prop} (h:q0 X w C) (al:ao V w w') (ud:∀q,q<w.heap.size→V q→iV C q) (aD:aP.n=C.D.n)
   (sy:∀j:Nat,((C.aF[i]).full=true→(C.aF[i]).no≠j)→aP.now j=C.D.now j) (uo:∀q,nB aP q→nB C.D q∨w.heap.size≤q) (f0:Fr) (vN:f0.full=false) (Ti:f0.pins=0):q0 X w' {C with aF:=C.aF.set i f0,D:=aP}:=by
 have dR:=al.size
 have vL:∀q,q<w.heap.size→iV {C with aF:=C.aF.set i f0,D:=aP} q→iV C q:=fun q J aH=>by
   rcases aH with U|U|U
   · exact .inl U
   · exact .inr (.inl U)
   · exact .inr (.inr ((uo q U).resolve_right (by omega)))
 refine ⟨fun f aH=> ?_,fun f aH lr=> ?_,fun a b aR ab U ad au=> ?_,fun q J=>⟨lE (h.mQ q J).1 dR,fun aH=>(h.mQ q J).2 (vL q (h.mQ q J).1 aH)⟩⟩
 · rcases Ce aH with aH|rfl
   · exact h.pins f aH
   · exact Ti
 · obtain ⟨k,ae,rfl⟩:=m3 aH
   have jP:k<C.aF.length:=by simpa using ae
   by_cases e:i=k
   · subst e
     simp only[va] at lr
     rw[vN] at lr;cases lr
   · simp only[m6 e] at lr⊢
     obtain ⟨no,aA,aE,aI,aL,cQ⟩:=h.ok _ (fg jP) lr
     refine ⟨no,aA,by rw[aD];exact aE,bF.Th aI al (fun q J ab ak=>ab.1 (ud q J ak)) fun q J ab=>⟨fun aH=>ab.1 (vL q J aH),ab.2⟩,aL,fun hd=> ?_⟩
     show _=aP.now no
     rw[sy no fun pI he=>e (h.un i k hi jP pI lr (by rw[he,aA]))]
     exact cQ hd
 · have oD:a<C.aF.length:=by simpa using aR
   have kB:b<C.aF.length:=by simpa using ab
   by_cases nd:i=a
   · subst nd
     simp only[va] at U
     rw[vN] at U;cases U
   by_cases n0:i=b
   · subst n0
     simp only[va] at ad
     rw[vN] at ad;cases ad
   simp only[m6 nd] at U au
   simp only[m6 n0] at ad au
   exact h.un a b oD kB U ad au
theorem alD {i:Nat} (hi:i<C.aF.length) {aP:dF} {hd:Nat} (h:q0 X w C) (az:(C.aF[i]).full=true→∀j:Nat,(C.aF[i]).no=j→aP.now j=(C.aF[i]).l) (sy:∀j:Nat,((C.aF[i]).full=true→(C.aF[i]).no≠j)→aP.now j=C.D.now j) (f0:Fr) (vN:f0.full=false) (no:Nat):
   (eZ.mk C.c C.b1 (C.aF.set i f0) hd aP).view no=C.view no:=by
 by_cases hex:∃ (k:Nat) (ae:k<C.aF.length),(C.aF[k]).full=true∧(C.aF[k]).no=no
 · obtain ⟨k,ae,U,ad⟩:=hex
   have gk:=C7 (fs:=C.aF) (D:=C.D) (c:=C.c) (b1:=C.b1) (hd:=C.hand) h.un ae U ad
   have gk:C.view no=(C.aF[k]).l:=gk
   rw[gk]
   by_cases e:i=k
   · subst e
     rw[←az U no ad]
     refine C8 fun f aH aA aE=> ?_
     obtain ⟨a,aR,rfl⟩:=m3 aH
     have oD:a<C.aF.length:=by simpa using aR
     by_cases nd:i=a
     · subst nd
       simp only[va] at aA
       rw[vN] at aA;cases aA
     · simp only[m6 nd] at aA aE
       exact nd (h.un i a hi oD U aA (by rw[ad,aE]))
   · have eC:k<(C.aF.set i f0).length:=by simpa using ae
     have sZ:(C.aF.set i f0)[k]=C.aF[k]:=m6 e _
     have vM:∀ (a b:Nat) (aR:a<(C.aF.set i f0).length) (ab:b<(C.aF.set i f0).length),((C.aF.set i f0)[a]).full=true→((C.aF.set i f0)[b]).full=true→((C.aF.set i f0)[a]).no=((C.aF.set i f0)[b]).no→a=b:=by
       intro a b aR ab U ad au
       have oD:a<C.aF.length:=by simpa using aR
       have kB:b<C.aF.length:=by simpa using ab
       by_cases nd:i=a
       · subst nd
         simp only[va] at U
         rw[vN] at U;cases U
       by_cases n0:i=b
       · subst n0
         simp only[va] at ad
         rw[vN] at ad;cases ad
       simp only[m6 nd] at U au
       simp only[m6 n0] at ad au
       exact h.un a b oD kB U ad au
     rw[C7 vM eC (by rw[sZ];exact U) (by rw[sZ];exact ad),sZ]
 · have dd:∀f∈C.aF,f.full=true→f.no≠no:=fun f aH U ad=>by
     obtain ⟨k,ae,rfl⟩:=m3 aH
     exact hex ⟨k,ae,U,ad⟩
   have e:C.view no=C.D.now no:=C8 (fs:=C.aF) (D:=C.D) (c:=C.c) (b1:=C.b1) (hd:=C.hand) dd
   rw[e,←sy no fun U ad=>dd _ (fg hi) U ad]
   refine C8 fun f aH U ad=> ?_
   rcases Ce aH with aH|rfl
   · exact dd f aH U ad
   · rw[vN] at U;cases U
def aal (X:Nat→Prop) (C:eZ) (w:World) (v:Value) (w':World):Prop:=
 ∃bx:eZ,nc X w' bx∧lM C bx w w' 1∧bx.b1=C.b1∧(∀j,bx.view j=C.view j)∧(∀f∈bx.aF,f.full=true→∃g∈C.aF,g.full=true∧g.no=f.no)∧
   ((∃ (i:Nat) (hi:i<bx.aF.length),v= .tuple #[.pointer (some ⟨C.b1,i*6,none⟩), .int .i64 0]∧(bx.aF[i]).full=false∧((bx.aF[i]).pins=0))∨
    (v= .tuple #[.pointer none, .int .i64 3]∧¬C.D.calm 1))
theorem aam (h:nc X w C) (gC:C.D.cR≤1000000000):aQ Tryz.prog F.AO #[.pointer (some ⟨C.c,0,none⟩)] w (aal X C w):=by
 have kX:=h.raw
 refine W.alE (some ⟨C.c,0,none⟩) w _ ?_
 (delta W.AO AP aB bS bI aq aT;dsimp only)
 refine (alw kX).use ?_
 rintro _ _ ⟨he,rfl⟩
 rcases he with ⟨i,hi,rfl,aH⟩|⟨rfl,fx⟩
 · exact ⟨_,rfl,fun _=>⟨C,h,(lM.refl C w).mono (fl _),rfl,fun _=>rfl,fun f aH nZ=>⟨f,aH,nZ,rfl⟩, .inl ⟨i,hi,rfl,aH,h.inv.pins _ (fg hi)⟩⟩,fun h=>(by cases h)⟩
 refine ⟨_,rfl,fun h=>(by cases h),fun _=>(aly kX h.inv.pins).use ?_⟩
 rintro _ ag ⟨i,gs,hd,hi,rfl,q2,lk,iN⟩
 have fv:i<gs.length:=by rw[q2.1];exact hi
 have KO:ao (iV C) w ag:=iN.mono fun q _ J=>by
   rcases J with J|J
   · exact .inl J
   · exact .inr (.inl J)
 have Fv:=OV (hd:=hd) (aP:=C.D) h.inv q2 KO (fun q _ h=>h) rfl (fun _=>rfl) fun q J=> .inl J
 have OX:=OW (hd:=hd) (aP:=C.D) h.inv q2 fun _=>rfl
 obtain ⟨bj,xB⟩:∃bj:eZ,bj={C with aF:=gs,hand:=hd}:=⟨_,rfl⟩
 have Fv:q0 X ag bj:=by rw[xB];exact Fv
 have lk:l9 ag bj:=by rw[xB];exact lk
 have OX:∀no,bj.view no=C.view no:=by rw[xB];exact OX
 have aan:∀q,iV bj q↔iV C q:=by rw[xB];exact fun q=>Iff.rfl
 have o2:bj.D=C.D:=by rw[xB]
 have pr:bj.c=C.c∧bj.b1=C.b1:=by rw[xB];exact ⟨rfl,rfl⟩
 have sA:bj.aF=gs:=by rw[xB]
 have se:i<bj.aF.length:=by rw[sA];exact fv
 have lr:(bj.aF[i]).full=true:=by
   have e:=q2.2 i hi fv
   have:(gs[i]).full=(C.aF[i]).full:=by rw[e]
   simp only[sA]
   rw[this]
   exact fx _ (fg hi)
 have ic:∀f∈bj.aF,f.full=true→∃g∈C.aF,g.full=true∧g.no=f.no:=by
   rw[sA]
   intro f aH nZ
   obtain ⟨k,ae,rfl⟩:=m3 aH
   have jP:k<C.aF.length:=by rw[←q2.1];exact ae
   have e:=q2.2 k jP ae
   have aY:(gs[k]).full=(C.aF[k]).full:=by rw[e]
   have bo:(gs[k]).no=(C.aF[k]).no:=by rw[e]
   exact ⟨C.aF[k],fg jP,by rw[←aY];exact nZ,bo.symm⟩
 obtain ⟨no,aA,aE,aI,aL,cQ⟩:=Fv.ok _ (fg se) lr
 have f1:=xy lk.f se (j:=1) (by decide)
 have fin:∀ (aw:World) (aP:dF),ao (iV C) ag aw→l9 aw {bj with D:=aP}→lM C {bj with D:=aP} w aw 1→aP.n=C.D.n→(∀j:Nat,(bj.aF[i]).no≠j→aP.now j=C.D.now j)→(∀j:Nat,(bj.aF[i]).no=j→aP.now j=(bj.aF[i]).l)→(∀q,nB aP q→nB C.D q∨ag.heap.size≤q)→
     ∃kF:Addr,(some ⟨C.b1,i*6,none⟩:Option Addr)=some kF∧cZ aw kF [.bool false, .bool false, .bool false, .int .i64 0, .int .i64 0, .slice none 0 0]∧(6:Nat)=6∧ay (setCells aw kF 0 [.bool false, .bool false, .bool false, .int .i64 0, .int .i64 0, .slice none 0 0]) fun c5=>aal X C w (.tuple #[.pointer (some ⟨C.b1,i*6,none⟩), .int .i64 0]) c5:=by
   intro aw aP alF fS cy C_ aao alG HL
   have gT:ct aw bj.b1 (cI Fr.c bj.aF).toArray ah.rN:=fS.f
   obtain ⟨s1,s2,bY⟩:=Tf gT se hK
   rw[pr.2] at s1 s2 bY
   have Tj:q0 X (setCells aw ⟨C.b1,i*6,none⟩ 0 hK.c) {bj with aF:=bj.aF.set i hK,D:=aP}:=by
     refine aak (V:=iV C) (w:=ag) se Fv (alF.trans (bY.mono fun q _ e=> .inr (.inl e))) (fun q _ J=>(aan q).2 J) (by rw[o2];exact C_) (fun j a_=>by rw[o2];exact aao j fun e=>a_ lr e) (fun q J=>by rw[o2];exact HL q J) hK rfl rfl
   have gM:=fS.v
   refine ⟨_,rfl,s1,rfl,bL ⟨{bj with aF:=bj.aF.set i hK,D:=aP},⟨?_,Tj⟩,?_,pr.2,fun j=> ?_,fun f aH nZ=> ?_, .inl ⟨i,by show i<(bj.aF.set i hK).length;rw[jc];exact se,rfl,by simp[hK],by simp[hK]⟩⟩⟩
   · have c4:bj.c≠C.b1:=by have:=fS.bc.1;rw[←pr.2];exact this
     refine ⟨?_,by show ct _ bj.b1 _ _;rw[pr.2];exact s2,fS.dev.an bY (fun q J e=>fS.bc.2.2 (by rw[show ({bj with D:=aP}:eZ).b1=bj.b1 from rfl,pr.2,←e];exact J)),?_,?_,?_,fS.bc⟩
     · have:=gM.an bY c4
       show Var _ _ [_, .slice _ (bj.aF.set i hK).length (bj.aF.set i hK).length,_] _
       rw[jc];exact this
     · show 8≤(bj.aF.set i hK).length;rw[jc];exact fS.dI
     · show (bj.aF.set i hK).length≤64;rw[jc];exact fS.ew
     · show bj.hand<(bj.aF.set i hK).length;rw[jc];exact fS.hd
   · refine ⟨cy.c,cy.d,by show (bj.aF.set i hK).length=_;rw[jc];exact cy.len,cy.gQ,cy.cR,cy.calm,cy.an.trans (bY.mono fun q _ e=> .inr (.inl e)),cy.jj⟩
   · rw[←OX]
     exact alD se Fv (fun _ j a_=>alG j a_) (fun j a_=>by rw[o2];exact aao j fun e=>a_ lr e) hK rfl j
   · rcases Ce aH with aH|rfl
     · exact ic f aH nZ
     · cases nZ
 refine ⟨_,rfl,fun h=>(by cases h),fun _=>wV (fun aw=>∃aP:dF,ao (iV C) ag aw∧l9 aw {bj with D:=aP}∧lM C {bj with D:=aP} w aw 1∧aP.n=C.D.n∧(∀j:Nat,(bj.aF[i]).no≠j→aP.now j=C.D.now j)∧(∀j:Nat,(bj.aF[i]).no=j→aP.now j=(bj.aF[i]).l)∧(∀q,nB aP q→nB C.D q∨ag.heap.size≤q)) (fun q J=>⟨_,rfl,(bj.aF[i]).xx,?_,fun av1=> ?_,fun alH=>J _ ⟨C.D, .refl _ _,?_,?_,rfl,fun _ _=>rfl,fun j a_=> ?_,fun q h=> .inl h⟩⟩) ?_⟩
 · rw[aW,←pr.2];exact f1
 ·
   have bA:=dL ag
   have dQ:=lk.ext bA
   obtain ⟨gk,_,_⟩:=dQ.cells
   rw[pr.1,o2] at gk
   have f3:=xy dQ.f se (j:=3) (by decide)
   have f5:=xy dQ.f se (j:=5) (by decide)
   rw[pr.2] at f3 f5
   refine bL ⟨_,rfl,id,_,gk,_,rfl,id,((no:Nat):Int),?_,_,rfl,id,(bj.aF[i]).b,by rw[aW];exact f5,?_⟩
   · rw[aW,f3]
     show some (Value.int .i64 (bj.aF[i]).no)=_
     rw[aA]
   have OY:ji ag.drew C.D:=by rw[←o2];exact dQ.dev
   refine (alj OY (i:=no) (by rw[←o2];exact aE) gC (aI.1.ext bA) aL fun q J aH=>(aI.2.2 q J).1.1 (.inr (.inr (by rw[o2];exact aH)))).use ?_
   rintro v2 aw hw
   rcases hw with ⟨ab,rfl,l2,dY⟩|⟨ab,rfl,s,l2,dY,gg⟩
   · have qm:ao (iV C) ag aw:=(ao.eQ bA).trans (dY.mono fun q _ e=> .inr (.inr (.inl e)))
     refine ⟨3,rfl,fun _=>⟨{bj with D:=C.D.iU 2},⟨?_,?_⟩,?_,pr.2,fun j=> ?_,ic, .inr ⟨rfl,fun Oi=> ?_⟩⟩,fun h=>(by cases h)⟩
     · have fS:=dQ.v.an dY (fun e=>dQ.bc.2.1 (.inl (by rw[o2];exact e)))
       rw[o2] at fS
       have aR:=lk.bc
       rw[o2] at aR
       exact ⟨fS,ct.an dQ.f dY (fun e=>dQ.bc.2.2 (.inl (by rw[o2];exact e))),l2,lk.dI,lk.ew,lk.hd,aR⟩
     · have:=OV (C:=bj) (hd:=bj.hand) (aP:=C.D.iU 2) Fv (q1.refl _) qm (fun q _ J=>(aan q).2 J) (by rw[o2];rfl) (fun j=>by rw[o2];rfl) fun q J=> .inl (by rw[o2];exact J)
       exact this
     · refine ⟨pr.1,rfl,by show bj.aF.length=_;rw[sA];exact q2.1,S8 C.D (.inr rfl),z1 _,fun m hm=>(KM (.inr rfl) h.raw.dev.f4 hm).1,KO.trans qm,fun q J=> .inl ?_⟩
       rcases J with e|e|e
       · exact .inl (by rw[←pr.1];exact e)
       · exact .inr (.inl (by rw[←pr.2];exact e))
       · exact .inr (.inr e)
     · rw[←OX]
       exact OW (C:=bj) Fv (q1.refl _) (fun j=>by rw[o2];rfl) j
     · have:=(KM (k:=2) (m:=0) (.inr rfl) h.raw.dev.f4 Oi).2
       rw[ab] at this;cases this
   · have qm:ao (iV C) ag aw:=(ao.eQ bA).trans (dY.mono fun q _ e=> .inr (.inr e))
     have HL:∀q,nB (C.D.put no s (bj.aF[i]).l) q→nB C.D q∨ag.heap.size≤q:=by
       rintro q (e|e|e|⟨x,af,e⟩)
       · exact .inl (.inl e)
       · exact .inl (.inr (.inl e))
       · exact .inl (.inr (.inr (.inl e)))
       · rcases gb.1 af with rfl|af
         · exact gg q e
         · exact .inl (.inr (.inr (.inr ⟨x,(GR.1 af).1,e⟩)))
     have hG:∀q,nB C.D q→q≠bj.c∧q≠bj.b1:=fun q J=>⟨fun e=>lk.bc.2.1 (by rw[o2,←e];exact J),fun e=>lk.bc.2.2 (by rw[o2,←e];exact J)⟩
     refine ⟨0,rfl,fun h=>(by cases h),fun _=>J _ ⟨C.D.put no s (bj.aF[i]).l,qm,?_,?_,rfl,fun j a_=> ?_,fun j a_=> ?_,HL⟩⟩
     · have fS:=dQ.v.an dY (fun e=>(hG _ e).1 rfl)
       rw[o2] at fS
       have rz:bj.c<ag.heap.size:=lk.v.lt
       have aap:bj.b1<ag.heap.size:=ct.lt lk.f
       refine ⟨fS,ct.an dQ.f dY (fun e=>(hG _ e).2 rfl),l2,lk.dI,lk.ew,lk.hd,lk.bc.1,fun e=> ?_,fun e=> ?_⟩
       · rcases HL _ e with U|U
         · exact (hG _ U).1 rfl
         · have:bj.c<ag.heap.size:=rz
           have U:ag.heap.size≤bj.c:=U
           omega
       · rcases HL _ e with U|U
         · exact (hG _ U).2 rfl
         · have U:ag.heap.size≤bj.b1:=U
           omega
     · refine ⟨pr.1,rfl,by show bj.aF.length=_;rw[sA];exact q2.1,S8 C.D (.inr rfl),cV _,fun m hm=>(KM (.inr rfl) h.raw.dev.f4 hm).1,KO.trans qm,fun q J=> ?_⟩
       rcases J with e|e|e
       · exact .inl (.inl (by rw[←pr.1];exact e))
       · exact .inl (.inr (.inl (by rw[←pr.2];exact e)))
       · rcases HL q e with U|U
         · exact .inl (.inr (.inr U))
         · exact .inr (jb KO.size U)
     · rw[aaa,if_neg (fun e=>a_ (by rw[aA,e]))]
     · rw[aaa,if_pos (by rw[aA] at a_;omega)]
 · rw[←o2];exact lk
 · refine ⟨pr.1,rfl,by show bj.aF.length=_;rw[sA];exact q2.1,rfl,z1 _,fun m hm=>mE hm (z1 _),KO,fun q J=> .inl ?_⟩
   rcases J with e|e|e
   · exact .inl (by rw[←pr.1];exact e)
   · exact .inr (.inl (by rw[←pr.2];exact e))
   · exact .inr (.inr e)
 · have:no=j:=by rw[aA] at a_;omega
   subst this
   rw[←o2]
   exact (cQ alH).symm
 · rintro aw ⟨aP,bc,cS,a3,a4,a5,hL,kl⟩
   exact fin aw aP bc cS a3 a4 a5 hL kl
end
end
section
def KP (fs:List Fr):Prop:=∀ (i j:Nat) (hi:i<fs.length) (a_:j<fs.length),(fs[i]).full=true→(fs[j]).full=true→(fs[i]).no=(fs[j]).no→i=j
theorem aaq {fs gs:List Fr} {D aP:dF} {c b1 hd c' alI alJ j:Nat} (alK:KP fs) (alL:KP gs) (U:∀ (i:Nat) (hi:i<fs.length),(fs[i]).full=true→(fs[i]).no=j→∃ (k:Nat) (ae:k<gs.length),(gs[k]).full=true∧(gs[k]).no=j∧(gs[k]).l=(fs[i]).l)
   (ad:(∀f∈fs,f.full=true→f.no≠j)→(∀f∈gs,f.full=true→f.no≠j)∧aP.now j=D.now j):(eZ.mk c' alI gs alJ aP).view j=(eZ.mk c b1 fs hd D).view j:=by
 by_cases hex:∃ (k:Nat) (ae:k<fs.length),(fs[k]).full=true∧(fs[k]).no=j
 · obtain ⟨k,ae,aA,aE⟩:=hex
   obtain ⟨m,hm,aY,bo,en⟩:=U k ae aA aE
   rw[C7 alK ae aA aE,C7 alL hm aY bo,en]
 · have dd:∀f∈fs,f.full=true→f.no≠j:=fun f aH U ad=>by
     obtain ⟨k,ae,rfl⟩:=m3 aH
     exact hex ⟨k,ae,U,ad⟩
   obtain ⟨aY,bo⟩:=ad dd
   rw[C8 dd,C8 aY,bo]
section
variable {w w':World} {C:eZ} {X:Nat→Prop}
theorem aar {i:Nat} (hi:i<C.aF.length) {no:Nat} {V:Nat→Prop} (h:q0 X w C) (al:ao V w w') (ud:∀q,q<w.heap.size→V q→iV C q) {aP:dF} (aD:aP.n=C.D.n) (sy:∀j,aP.now j=C.D.now j) (uo:∀q,nB aP q↔nB C.D q)
   (hC:Fr) (lr:hC.full=true) (C6:hC.pins=0) (dM:aag X w' {C with aF:=C.aF.set i hC,D:=aP} hC no) (dd:∀ (k:Nat) (ae:k<C.aF.length),k≠i→(C.aF[k]).full=true→(C.aF[k]).no≠no):q0 X w' {C with aF:=C.aF.set i hC,D:=aP}:=by
 have dR:=al.size
 have vL:∀q,iV {C with aF:=C.aF.set i hC,D:=aP} q→iV C q:=fun q aH=>by
   rcases aH with U|U|U
   · exact .inl U
   · exact .inr (.inl U)
   · exact .inr (.inr ((uo q).1 U))
 refine ⟨fun f aH=> ?_,fun f aH nZ=> ?_,fun a b aR ab U ad au=> ?_,fun q J=>⟨lE (h.mQ q J).1 dR,fun aH=>(h.mQ q J).2 (vL q aH)⟩⟩
 · rcases Ce aH with aH|rfl
   · exact h.pins f aH
   · exact C6
 · obtain ⟨k,ae,rfl⟩:=m3 aH
   have jP:k<C.aF.length:=by simpa using ae
   by_cases e:i=k
   · subst e
     simp only[va]
     exact ⟨no,dM⟩
   · simp only[m6 e] at nZ⊢
     obtain ⟨m,aA,aE,aI,aL,cQ⟩:=h.ok _ (fg jP) nZ
     exact ⟨m,aA,by show m<aP.n;rw[aD];exact aE,bF.Th aI al (fun q J ab ak=>ab.1 (ud q J ak)) fun q _ ab=>⟨fun aH=>ab.1 (vL q aH),ab.2⟩,aL,fun hd=>by show _=aP.now m;rw[sy];exact cQ hd⟩
 · have oD:a<C.aF.length:=by simpa using aR
   have kB:b<C.aF.length:=by simpa using ab
   by_cases nd:i=a
   · by_cases n0:i=b
     · omega
     · subst nd
       simp only[va] at au
       simp only[m6 n0] at ad au
       exact absurd (by rw[←au];exact dM.num) (dd b kB (fun e=>n0 e.symm) ad)
   · by_cases n0:i=b
     · subst n0
       simp only[va] at au
       simp only[m6 nd] at U au
       exact absurd (by rw[au];exact dM.num) (dd a oD (fun e=>nd e.symm) U)
     · simp only[m6 nd] at U au
       simp only[m6 n0] at ad au
       exact h.un a b oD kB U ad au
theorem alM {i:Nat} (hi:i<C.aF.length) {no:Nat} (h:KP C.aF) (hC:Fr) (AQ:hC.no=no) (dd:∀ (k:Nat) (ae:k<C.aF.length),k≠i→(C.aF[k]).full=true→(C.aF[k]).no≠no):KP (C.aF.set i hC):=by
 intro a b aR ab U ad au
 have oD:a<C.aF.length:=by simpa using aR
 have kB:b<C.aF.length:=by simpa using ab
 by_cases nd:i=a
 · by_cases n0:i=b
   · omega
   · subst nd
     simp only[va] at au
     simp only[m6 n0] at ad au
     exact absurd (by rw[←au];exact AQ) (dd b kB (fun e=>n0 e.symm) ad)
 · by_cases n0:i=b
   · subst n0
     simp only[va] at au
     simp only[m6 nd] at U au
     exact absurd (by rw[au];exact AQ) (dd a oD (fun e=>nd e.symm) U)
   · simp only[m6 nd] at U au
     simp only[m6 n0] at ad au
     exact h a b oD kB U ad au
theorem aas {i:Nat} (hi:i<C.aF.length) {no:Nat} (h:KP C.aF) {aP:dF} (sy:∀j,aP.now j=C.D.now j) (hC:Fr) (lr:hC.full=true) (AQ:hC.no=no) (hold:(C.aF[i]).full=true→(C.aF[i]).no=no) (dd:∀ (k:Nat) (ae:k<C.aF.length),k≠i→(C.aF[k]).full=true→(C.aF[k]).no≠no) {hd:Nat} (j:Nat):
   (eZ.mk C.c C.b1 (C.aF.set i hC) hd aP).view j=if j=no then hC.l else C.view j:=by
 have hu:=alM hi h hC AQ dd
 have fv:i<(C.aF.set i hC).length:=by simpa using hi
 by_cases e:j=no
 · subst e
   rw[if_pos rfl,C7 hu fv (by simp[lr]) (by simpa using AQ)]
   simp
 · rw[if_neg e]
   refine aaq (fs:=C.aF) (D:=C.D) (c:=C.c) (b1:=C.b1) (hd:=C.hand) h hu (fun k ae aA aE=> ?_) fun fx=>⟨fun f aH aA aE=> ?_,sy j⟩
   · have lu:i≠k:=fun bo=>by
       subst bo
       have:=hold aA
       rw[aE] at this
       exact e (by omega)
     have eC:k<(C.aF.set i hC).length:=by simpa using ae
     exact ⟨k,eC,by simp only[m6 lu];exact aA,by simp only[m6 lu];exact aE,by simp only[m6 lu]⟩
   · rcases Ce aH with aH|rfl
     · exact fx f aH aA aE
     · rw[AQ] at aE
       exact e (by omega)
def alN (X:Nat→Prop) (C:eZ) (no:Nat) (w:World) (v:Value) (w':World):Prop:=
 ∃bx:eZ,nc X w' bx∧lM C bx w w' 2∧(∀j,bx.view j=C.view j)∧
   ((∃s:aa,v= .tuple #[.slice s.a s.len s.cap, .int .i64 0]∧bF (fun q=>w.heap.size≤q∧¬iV bx q∧¬X q) w' s (C.view no))∨(v= .tuple #[.slice none 0 0, .int .i64 3]∧¬C.D.calm 2))
theorem alO (h:nc X w C) (gC:C.D.cR≤999999999) {no:Nat} (dd:no<C.D.n):aQ Tryz.prog F.Da #[.pointer (some ⟨C.c,0,none⟩), .int .i64 ((no:Nat):Int)] w (alN X C no w):=by
 have kX:=h.raw
 refine W.alP (some ⟨C.c,0,none⟩) ((no:Nat):Int) w _ ?_
 (delta W.Da ba aB AP st aq ee AR gl;dsimp only)
 refine (aah kX _).use ?_
 rintro _ _ ⟨rfl,rfl⟩
 refine ⟨_,rfl,fun ab=> ?_,fun _=>(Tg kX _).use ?_⟩
 · have:decide (0≤((no:Nat):Int)∧((no:Nat):Int)<C.D.n)=true:=iy ⟨by omega,by omega⟩
   rw[this] at ab;cases ab
 rintro _ _ ⟨pX,rfl⟩
 rcases pX with ⟨i,hi,rfl,aH,aD⟩|⟨rfl,OZ⟩
 ·
   obtain ⟨aA,aE,aI,aL⟩:=Fu kX.f hi (j:=2) (by decide) (v:= .bool true) {C.aF[i] with used:=true} rfl
   have q2:q1 C.aF (C.aF.set i {C.aF[i] with used:=true}):=(q1.refl C.aF).set hi true
   have qm:ao (iV C) w (w.setCell ⟨C.b1,i*6+2,none⟩ (.bool true)):=aL.mono fun q _ e=> .inr (.inl e)
   have hinv:=OV (hd:=C.hand) (aP:=C.D) h.inv q2 qm (fun q _ h=>h) rfl (fun _=>rfl) fun q J=> .inl J
   have ak:=OW (hd:=C.hand) (aP:=C.D) h.inv q2 fun _=>rfl
   obtain ⟨ag,xv⟩:∃ag,ag=w.setCell ⟨C.b1,i*6+2,none⟩ (.bool true):=⟨_,rfl⟩
   rw[←xv] at aI aL qm hinv
   have aN:l9 ag {C with aF:=C.aF.set i {C.aF[i] with used:=true}}:=by
     refine ⟨?_,aI,kX.dev.an aL (fun q J e=>kX.bc.2.2 (e▸J)),?_,?_,?_,kX.bc⟩
     · have:=kX.v.an aL kX.bc.1
       show Var _ _ [_, .slice _ (C.aF.set i _).length (C.aF.set i _).length,_] _
       rw[jc];exact this
     · show 8≤(C.aF.set i _).length;rw[jc];exact kX.dI
     · show (C.aF.set i _).length≤64;rw[jc];exact kX.ew
     · show C.hand<(C.aF.set i _).length;rw[jc];exact kX.hd
   obtain ⟨bj,xB⟩:∃bj:eZ,bj={C with aF:=C.aF.set i {C.aF[i] with used:=true}}:=⟨_,rfl⟩
   have n1:nc X ag bj:=by rw[xB];exact ⟨aN,hinv⟩
   have hT:i<(C.aF.set i {C.aF[i] with used:=true}).length:=by simpa using hi
   have f5:=xy aI hT (j:=5) (by decide)
   obtain ⟨m,dI,ew,mO,lN,oZ⟩:=hinv.ok ((C.aF.set i {C.aF[i] with used:=true})[i]) (fg hT) (by simp[aH])
   have N6:((C.aF.set i {C.aF[i] with used:=true})[i]).b=(C.aF[i]).b:=by simp
   have aat:((C.aF.set i {C.aF[i] with used:=true})[i]).l=(C.aF[i]).l:=by simp
   rw[N6,aat] at mO
   rw[aat] at lN
   refine ⟨_,rfl,fun _=>⟨_,rfl,by rw[aW];exact aA,by rw[aW];exact aE,?_⟩,fun h=>(by cases h)⟩
   rw[aW,←xv]
   refine bL ⟨_,rfl,(C.aF[i]).b,by rw[aW,f5];simp[Fr.c],(vo (B:=fun q=>ag.heap.size≤q) mO.1 (by rw[lN];omega) (fun q J=>J)).use ?_⟩
   rintro _ aw ⟨s,rfl,aj,cA,_⟩
   have alQ:C.view no=(C.aF[i]).l:=C7 (fs:=C.aF) (D:=C.D) (c:=C.c) (b1:=C.b1) (hd:=C.hand) h.inv.un hi aH aD
   have m8:=qm.size
   refine ⟨s,rfl,bj,n1.ext cA,?_,?_, .inl ⟨s,rfl,?_⟩⟩
   · rw[xB]
     exact ⟨rfl,rfl,by show (C.aF.set i _).length=_;rw[jc],rfl,Nat.le_add_right _ _,fun m hm=>mE hm (by omega),qm.trans (ao.eQ cA),fun q J=> .inl J⟩
   · intro j;rw[xB];exact ak j
   · rw[alQ]
     refine bF.bz aj fun q _ J=>⟨by omega,fun aH=> ?_,fun dS=> ?_⟩
     · have:=n1.raw.lt aH;omega
     · have:=(n1.inv.mQ q dS).1;omega
 ·
   refine ⟨_,rfl,fun h=>(by cases h),fun _=>(aam h (by omega)).use ?_⟩
   rintro _ ag ⟨bj,lO,g3,xC,mL,ic,aN⟩
   rcases aN with ⟨i,hi,rfl,Tk,C6⟩|⟨rfl,Tl⟩
   · refine ⟨_,_,rfl,fun h=>(by simp at h),fun _=>⟨_,rfl,some ⟨C.D.d,0,none⟩,?_,?_⟩⟩
     · have:=lO.raw.cells.1
       rw[g3.c,g3.d] at this
       exact this
     have Tm:no<bj.D.n:=by rw[g3.n];exact dd
     have HM:=g3.cR
     rw[←g3.d]
     refine (ale lO.raw.dev Tm (by omega)).use ?_
     rintro v2 aw ⟨l2,dY,eT⟩
     have w2:=fun q=>lO.raw.lt (q:=q)
     have Tn:ao (iV bj) ag aw:=dY.mono fun q _ e=> .inr (.inr (.inl e))
     have mz:∀f∈bj.aF,f.full=true→f.no≠no:=fun f aH lr Db=>by
       obtain ⟨g,bf,U,ad⟩:=ic f aH lr
       exact OZ g bf U (by rw[ad,Db])
     have alR:bj.D.calm 1∨¬C.D.calm 2:=by
       rcases Classical.em (C.D.calm 2) with U|U
       · exact .inl (g3.calm 1 U)
       · exact .inr U
     have aau:bj.view no=bj.D.now no:=C8 (fs:=bj.aF) (D:=bj.D) (c:=bj.c) (b1:=bj.b1) (hd:=bj.hand) mz
     have c4:∀q,nB bj.D q→q≠bj.c∧q≠bj.b1:=fun q J=>⟨fun e=>lO.raw.bc.2.1 (e▸J),fun e=>lO.raw.bc.2.2 (e▸J)⟩
     have alS:q0 X aw {bj with D:=bj.D.iU 1}:=OV (C:=bj) (hd:=bj.hand) (aP:=bj.D.iU 1) lO.inv (q1.refl _) Tn (fun q _ h=>h) rfl (fun _=>rfl) fun q J=> .inl J
     have gr:lM C {bj with D:=bj.D.iU 1} w aw 2:=by
       have:lM bj {bj with D:=bj.D.iU 1} ag aw 1:=⟨rfl,rfl,rfl,S8 bj.D (.inl rfl),z1 _,fun m hm=>(KM (.inl rfl) lO.raw.dev.f4 hm).1,Tn,fun q J=> .inl J⟩
       exact g3.trans this
     have gM:∀j,({bj with D:=bj.D.iU 1}:eZ).view j=C.view j:=fun j=>by rw[←mL];exact OW (C:=bj) lO.inv (q1.refl _) (fun _=>rfl) j
     have To:l9 aw {bj with D:=bj.D.iU 1}:=⟨lO.raw.v.an dY (fun e=>(c4 _ (.inl rfl)).1 e.symm),ct.an lO.raw.f dY (fun e=>(c4 _ (.inl rfl)).2 e.symm),l2,lO.raw.dI,lO.raw.ew,lO.raw.hd,lO.raw.bc⟩
     rcases eT with ⟨ab,rfl⟩|⟨ab,s,rfl,aj⟩
     · refine ⟨⟨none,0,0⟩,3,rfl,fun _=>⟨{bj with D:=bj.D.iU 1},⟨To,alS⟩,gr,gM, .inr ⟨rfl,?_⟩⟩,fun h=>(by simp at h)⟩
       rcases alR with U|U
       · have:=(KM (k:=1) (m:=0) (.inl rfl) lO.raw.dev.f4 U).2
         rw[ab] at this;cases this
       · exact U
     · have sx:(bj.D.now no).length=256:=lO.raw.dev.OM Tm
       obtain ⟨s1,s2,bY⟩:=Tf To.f hi ⟨true,false,true,((no:Nat):Int),0,s,bj.D.now no⟩
       rw[xC] at s1 s2 bY
       have vi:=dY.size
       have m8:=g3.an.size
       refine ⟨s,_,rfl,fun h=>(by simp at h),fun _=>⟨_,rfl,s1,rfl,?_⟩⟩
       obtain ⟨aS,mw⟩:∃aS,aS=setCells aw ⟨C.b1,i*6,none⟩ 0 (Fr.c ⟨true,false,true,((no:Nat):Int),0,s,bj.D.now no⟩):=⟨_,rfl⟩
       rw[←mw] at s2 bY
       have bf:setCells aw ⟨C.b1,i*6,none⟩ 0 [.bool true, .bool false, .bool true, .int .i64 ((no:Nat):Int), .int .i64 0, .slice s.a s.len s.cap]=aS:=mw.symm
       rw[bf]
       have aav:ao (iV bj) aw aS:=bY.mono fun q _ e=> .inr (.inl (by rw[xC];exact e))
       have vn:bF (fun q=>ag.heap.size≤q) aS s (bj.D.now no):=bF.an aj bY fun q J e=>by
         have:=w2 C.b1 (.inr (.inl xC.symm));omega
       have Tj:q0 X aS {bj with aF:=bj.aF.set i ⟨true,false,true,((no:Nat):Int),0,s,bj.D.now no⟩,D:=bj.D.iU 1}:=by
         refine aar (w:=ag) (V:=iV bj) (aP:=bj.D.iU 1) hi (no:=no) lO.inv (Tn.trans aav) (fun q _ h=>h) rfl (fun _=>rfl) (fun q=>Iff.rfl) ⟨true,false,true,((no:Nat):Int),0,s,bj.D.now no⟩ rfl rfl ⟨rfl,Tm,?_,sx,fun _=>rfl⟩ fun k ae _ U=>mz _ (fg ae) U
         refine bF.bz vn fun q _ J=>⟨fun aH=> ?_,fun dS=> ?_⟩
         · have:iV bj q:=aH
           have:=w2 q this;omega
         · have:=(lO.inv.mQ q dS).1;omega
       have l3:∀j,({bj with aF:=bj.aF.set i ⟨true,false,true,((no:Nat):Int),0,s,bj.D.now no⟩,D:=bj.D.iU 1}:eZ).view j=C.view j:=fun j=>by
         have:=aas (hd:=bj.hand) (aP:=bj.D.iU 1) hi (no:=no) lO.inv.un (fun _=>rfl) ⟨true,false,true,((no:Nat):Int),0,s,bj.D.now no⟩ rfl rfl (fun U=>by rw[Tk] at U;cases U) (fun k ae _ U=>mz _ (fg ae) U) j
         rw[show ({bj with aF:=bj.aF.set i ⟨true,false,true,((no:Nat):Int),0,s,bj.D.now no⟩,D:=bj.D.iU 1}:eZ)=eZ.mk bj.c bj.b1 (bj.aF.set i ⟨true,false,true,((no:Nat):Int),0,s,bj.D.now no⟩) bj.hand (bj.D.iU 1) from rfl,this]
         by_cases e:j=no
         · rw[if_pos e,e,←mL,aau]
         · rw[if_neg e,mL]
       have alT:l9 aS {bj with aF:=bj.aF.set i ⟨true,false,true,((no:Nat):Int),0,s,bj.D.now no⟩,D:=bj.D.iU 1}:=by
         refine ⟨?_,by show ct _ bj.b1 _ _;rw[xC];exact s2,l2.an bY (fun q J e=>(c4 q J).2 (by rw[xC];exact e)),?_,?_,?_,lO.raw.bc⟩
         · have:=To.v.an bY (fun e=>lO.raw.bc.1 (by rw[xC];exact e))
           show Var _ _ [_, .slice _ (bj.aF.set i _).length (bj.aF.set i _).length,_] _
           rw[jc];exact this
         · show 8≤(bj.aF.set i _).length;rw[jc];exact lO.raw.dI
         · show (bj.aF.set i _).length≤64;rw[jc];exact lO.raw.ew
         · show bj.hand<(bj.aF.set i _).length;rw[jc];exact lO.raw.hd
       obtain ⟨HN,Tp⟩:∃HN:eZ,HN={bj with aF:=bj.aF.set i ⟨true,false,true,((no:Nat):Int),0,s,bj.D.now no⟩,D:=bj.D.iU 1}:=⟨_,rfl⟩
       have Tq:nc X aS HN:=by rw[Tp];exact ⟨alT,Tj⟩
       have Dc:lM C HN w aS 2:=by
         rw[Tp]
         exact ⟨gr.c,gr.d,by show (bj.aF.set i _).length=_;rw[jc];exact gr.len,gr.gQ,gr.cR,gr.calm,na gr.an aav fun q J h=>(gr.jj q h).resolve_right (by omega),gr.jj⟩
       refine bL ((vo (B:=fun q=>aS.heap.size≤q) vn.1 (by rw[sx];omega) (fun q J=>J)).use ?_)
       rintro _ bp ⟨t,rfl,aV,fB,_⟩
       have CN:=bY.size
       refine ⟨t,rfl,HN,Tq.ext fB,?_,?_, .inl ⟨t,rfl,?_⟩⟩
       · exact (Dc.trans (lM.ext HN fB)).mono (by omega)
       · intro j;rw[Tp];exact l3 j
       · rw[←mL,aau]
         refine bF.bz aV fun q _ J=>⟨by omega,fun aH=> ?_,fun dS=> ?_⟩
         · have:=Tq.raw.lt aH;omega
         · have:=(Tq.inv.mQ q dS).1;omega
   · refine ⟨_,_,rfl,fun _=>⟨bj,lO,g3.mono (by omega),mL, .inr ⟨rfl,fun al=>Tl (mE al (by omega))⟩⟩,fun h=>(by simp at h)⟩
end
end
section
section
variable {w w':World} {C:eZ} {X:Nat→Prop}
def aaw (X:Nat→Prop) (C:eZ) (no:Nat) (l:mD) (w:World) (v:Value) (w':World):Prop:=
 ∃bx:eZ,nc X w' bx∧lM C bx w w' 1∧
   ((v= .int .i64 0∧∀j,bx.view j=if j=no then l else C.view j)∨(v= .int .i64 3∧¬C.D.calm 1∧∀j,bx.view j=C.view j))
theorem aax {i:Nat} {hC:Fr} (h:l9 w C) (al:ao (fun q=>q=C.b1) w w') (ab:ct w' C.b1 (cI Fr.c (C.aF.set i hC)).toArray ah.rN):l9 w' {C with aF:=C.aF.set i hC}:=by
 refine ⟨?_,ab,h.dev.an al (fun q J e=>h.bc.2.2 (e▸J)),?_,?_,?_,h.bc⟩
 · have:=h.v.an al h.bc.1
   show Var _ _ [_, .slice _ (C.aF.set i _).length (C.aF.set i _).length,_] _
   rw[jc];exact this
 · show 8≤(C.aF.set i _).length;rw[jc];exact h.dI
 · show (C.aF.set i _).length≤64;rw[jc];exact h.ew
 · show C.hand<(C.aF.set i _).length;rw[jc];exact h.hd
theorem set_set {fs:List Fr} {i:Nat} (f g:Fr):(fs.set i f).set i g=fs.set i g:=List.set_set ..
theorem alU (h:nc X w C) (gC:C.D.cR≤999999999) {no:Nat} (dd:no<C.D.n) {b:aa} {l:mD} (ab:Src 1 w b (bn l)) (az:l.length=256) (mN:∀q,aO b q→q<w.heap.size∧¬iV C q):
   aQ Tryz.prog F.Dd #[.pointer (some ⟨C.c,0,none⟩), .int .i64 ((no:Nat):Int), .slice b.a b.len b.cap] w (aaw X C no l w):=by
 have kX:=h.raw
 have wM:=len8 ab
 refine W.alV (some ⟨C.c,0,none⟩) ((no:Nat):Int) b w _ ?_
 (delta W.Dd ba aB AP AR st ee;dsimp only)
 refine (aah kX _).use ?_
 rintro _ _ ⟨rfl,rfl⟩
 have fo:decide (0≤((no:Nat):Int)∧((no:Nat):Int)<C.D.n)=true:=iy ⟨by omega,by omega⟩
 refine ⟨_,rfl,fun U=> ?_,fun _=>(Tg kX _).use ?_⟩
 · rw[fo,wM,az] at U
   simp at U
 rintro _ _ ⟨pX,rfl⟩
 have fin:∀ (ag:World) (bj:eZ) (i:Nat) (hi:i<bj.aF.length) (f1:Fr),nc X ag bj→lM C bj w ag 1→bj.b1=C.b1→(∀j,bj.view j=C.view j)→f1.pins=0→∀aw:World,ct aw bj.b1 (cI Fr.c (bj.aF.set i f1)).toArray ah.rN→ao (fun q=>q=bj.b1) ag aw→f1.full=true→f1.no=((no:Nat):Int)→
     ((bj.aF[i]).full=true→(bj.aF[i]).no=((no:Nat):Int))→(∀ (k:Nat) (ae:k<bj.aF.length),k≠i→(bj.aF[k]).full=true→(bj.aF[k]).no≠((no:Nat):Int))→
     Calls Tryz.prog F.mu #[.slice b.a b.len b.cap] aw fun alW e6=>∃e7:aa,alW= .returned (.slice e7.a e7.len e7.cap)∧∃kF:Addr,(some ⟨C.b1,i*6,none⟩:Option Addr)=some kF∧(∃u:Value,e6.cell? (kF.add 5)=some u)∧e6.frozen? (kF.add 5)=false∧
       ay (e6.setCell (kF.add 5) (.slice e7.a e7.len e7.cap)) fun c5=>∃a23:Addr,(some ⟨C.b1,i*6,none⟩:Option Addr)=some a23∧(∃u:Value,c5.cell? (a23.add 1)=some u)∧c5.frozen? (a23.add 1)=false∧
       ay (c5.setCell (a23.add 1) (.bool true)) fun cW=>∃a25:Addr,(some ⟨C.b1,i*6,none⟩:Option Addr)=some a25∧(∃u:Value,cW.cell? (a25.add 2)=some u)∧cW.frozen? (a25.add 2)=false∧
       ay (cW.setCell (a25.add 2) (.bool true)) fun cv=>aaw X C no l w (.int .i64 0) cv:=by
   intro ag bj i hi f1 n1 cy vO ak C6 aw gT dY lr AQ hold aay
   have m8:=cy.an.size
   have vi:=dY.size
   have dm:bj.b1<ag.heap.size:=n1.raw.lt (.inr (.inl rfl))
   have alX:Src 1 aw b (bn l):=by
     refine (ab.an cy.an fun q J aH=>(mN q J).2 aH).an dY fun q J e=>(mN q J).2 (.inr (.inl (by rw[←vO];exact e)))
   refine (vo (B:=fun q=>aw.heap.size≤q) alX (by omega) (fun q J=>J)).use ?_
   rintro _ aS ⟨s,rfl,aj,eU,_⟩
   have Hz:=ct.ext gT eU
   have se:i<(bj.aF.set i f1).length:=by rw[jc];exact hi
   have gk:(bj.aF.set i f1)[i]=f1:=by simp
   obtain ⟨bc,cS,a3,a4⟩:=Fu Hz se (j:=5) (by decide) (v:= .slice s.a s.len s.cap) {f1 with b:=s} (by rw[gk];rfl)
   rw[set_set] at a3
   have alY:i<(bj.aF.set i {f1 with b:=s}).length:=by rw[jc];exact hi
   have aY:(bj.aF.set i {f1 with b:=s})[i]={f1 with b:=s}:=by simp
   obtain ⟨c3,cG,eP,fa⟩:=Fu a3 alY (j:=1) (by decide) (v:= .bool true) {f1 with b:=s,xx:=true} (by rw[aY];rfl)
   rw[set_set] at eP
   have alZ:i<(bj.aF.set i {f1 with b:=s,xx:=true}).length:=by rw[jc];exact hi
   have bo:(bj.aF.set i {f1 with b:=s,xx:=true})[i]={f1 with b:=s,xx:=true}:=by simp
   obtain ⟨d1,d2,d3,d4⟩:=Fu eP alZ (j:=2) (by decide) (v:= .bool true) {f1 with b:=s,xx:=true,used:=true,l:=l} (by rw[bo];rfl)
   rw[set_set] at d3
   rw[vO] at bc cS a3 a4 c3 cG eP fa d1 d2 d3 d4 dY
   refine ⟨s,rfl,_,rfl,by rw[aW];exact bc,by rw[aW];exact cS,?_⟩
   rw[aW]
   refine bL ⟨_,rfl,by rw[aW];exact c3,by rw[aW];exact cG,?_⟩
   rw[aW]
   refine bL ⟨_,rfl,by rw[aW];exact d1,by rw[aW];exact d2,?_⟩
   rw[aW]
   have qN:=(dY.trans (ao.eQ eU)).trans (a4.trans (fa.trans d4))
   obtain ⟨hC,y1⟩:∃hC:Fr,hC={f1 with b:=s,xx:=true,used:=true,l:=l}:=⟨_,rfl⟩
   obtain ⟨a8,yC⟩:∃a8,a8=(((aS.setCell ⟨C.b1,i*6+5,none⟩ (.slice s.a s.len s.cap)).setCell ⟨C.b1,i*6+1,none⟩ (.bool true)).setCell ⟨C.b1,i*6+2,none⟩ (.bool true)):=⟨_,rfl⟩
   rw[←yC,←y1] at d3
   rw[←yC] at qN⊢
   have al0:bF (fun q=>aw.heap.size≤q) a8 s l:=by
     have U:=bF.an aj a4 fun q J e=>by rw[←vO] at e;omega
     have ad:=bF.an U fa fun q J e=>by rw[←vO] at e;omega
     have au:=bF.an ad d4 fun q J e=>by rw[←vO] at e;omega
     rw[yC];exact au
   have al1:l9 a8 {bj with aF:=bj.aF.set i hC}:=aax n1.raw (by rw[vO];exact qN) (by rw[vO];exact d3)
   have al2:q0 X a8 {bj with aF:=bj.aF.set i hC}:=by
     refine aar (w:=ag) (V:=fun q=>q=C.b1) (aP:=bj.D) hi (no:=no) n1.inv qN (fun q _ e=> .inr (.inl (by rw[vO];exact e))) rfl (fun _=>rfl) (fun q=>Iff.rfl) hC (by rw[y1];exact lr) (by rw[y1];exact C6) ⟨by rw[y1];exact AQ,by show no<bj.D.n;rw[cy.n];exact dd,?_,by rw[y1];exact az,fun hd=>by rw[y1] at hd;cases hd⟩ aay
     rw[y1]
     refine bF.bz al0 fun q _ J=>⟨fun aH=> ?_,fun dS=> ?_⟩
     · have:iV bj q:=aH
       have:=n1.raw.lt this;omega
     · have:=(n1.inv.mQ q dS).1;omega
   refine bL ⟨{bj with aF:=bj.aF.set i hC},⟨al1,al2⟩,⟨cy.c,cy.d,by show (bj.aF.set i _).length=_;rw[jc];exact cy.len,cy.gQ,cy.cR,cy.calm,na cy.an qN fun q J e=> .inr (.inl e),cy.jj⟩, .inl ⟨rfl,fun j=> ?_⟩⟩
   have:=aas (C:=bj) (hd:=bj.hand) (aP:=bj.D) hi (no:=no) n1.inv.un (fun _=>rfl) hC (by rw[y1];exact lr) (by rw[y1];exact AQ) hold aay j
   rw[show ({bj with aF:=bj.aF.set i hC}:eZ)=eZ.mk bj.c bj.b1 (bj.aF.set i hC) bj.hand bj.D from rfl,this,ak]
   rw[y1]
 rcases pX with ⟨i,hi,rfl,aH,aD⟩|⟨rfl,OZ⟩
 · refine ⟨_,rfl,eA (fun p w'=>p=some ⟨C.b1,i*6,none⟩∧w=w') (fun q J=>⟨fun h=>(by cases h),fun _=>J _ _ ⟨rfl,rfl⟩⟩) ?_⟩
   rintro _ _ ⟨rfl,rfl⟩
   have e:C.aF.set i C.aF[i]=C.aF:=List.set_getElem_self _
   exact fin w C i hi C.aF[i] h ((lM.refl C w).mono (fl _)) rfl (fun _=>rfl) (h.inv.pins _ (fg hi)) w (by rw[e];exact kX.f) (.refl _ _) aH aD (fun _=>aD) fun k ae lu U ad=>lu (h.inv.un k i ae hi U aH (by rw[ad,aD]))
 · refine ⟨_,rfl,eA (fun p aw=>∃ (ag:World) (bj:eZ) (i:Nat) (hi:i<bj.aF.length) (f1:Fr),p=some ⟨C.b1,i*6,none⟩∧nc X ag bj∧lM C bj w ag 1∧bj.b1=C.b1∧(∀j,bj.view j=C.view j)∧f1.pins=0∧ct aw bj.b1 (cI Fr.c (bj.aF.set i f1)).toArray ah.rN∧ao (fun q=>q=bj.b1) ag aw∧f1.full=true∧f1.no=((no:Nat):Int)∧
     ((bj.aF[i]).full=true→(bj.aF[i]).no=((no:Nat):Int))∧(∀ (k:Nat) (ae:k<bj.aF.length),k≠i→(bj.aF[k]).full=true→(bj.aF[k]).no≠((no:Nat):Int))) (fun q J=>⟨fun _=>(aam h (by omega)).use ?_,fun h=>(by cases h)⟩) ?_⟩
   · rintro _ ag ⟨bj,lO,g3,xC,mL,ic,aN⟩
     have mz:∀f∈bj.aF,f.full=true→f.no≠((no:Nat):Int):=fun f aH lr Db=>by
       obtain ⟨g,bf,U,ad⟩:=ic f aH lr
       exact OZ g bf U (by rw[ad,Db])
     rcases aN with ⟨i,hi,rfl,Tk,C6⟩|⟨rfl,Tl⟩
     · obtain ⟨bc,cS,a3,a4⟩:=Fu lO.raw.f hi (j:=0) (by decide) (v:= .bool true) {bj.aF[i] with full:=true} rfl
       have se:i<(bj.aF.set i {bj.aF[i] with full:=true}).length:=by rw[jc];exact hi
       have gk:(bj.aF.set i {bj.aF[i] with full:=true})[i]={bj.aF[i] with full:=true}:=by simp
       obtain ⟨c3,cG,eP,fa⟩:=Fu a3 se (j:=3) (by decide) (v:= .int .i64 ((no:Nat):Int)) {bj.aF[i] with full:=true,no:=((no:Nat):Int)} (by rw[gk];rfl)
       rw[set_set] at eP
       rw[xC] at bc cS c3 cG eP a4 fa
       refine ⟨_,_,rfl,fun h=>(by simp at h),fun _=>⟨_,rfl,bc,cS,bL ⟨_,rfl,by rw[aW];exact c3,by rw[aW];exact cG,bL ?_⟩⟩⟩
       rw[aW]
       exact J _ _ ⟨ag,bj,i,hi,{bj.aF[i] with full:=true,no:=((no:Nat):Int)},rfl,lO,g3,xC,mL,C6,by rw[xC];exact eP,by rw[xC];exact a4.trans fa,rfl,rfl,fun U=>(by rw[Tk] at U;cases U),fun k ae _ U=>mz _ (fg ae) U⟩
     · exact ⟨_,_,rfl,fun _=>⟨bj,lO,g3, .inr ⟨rfl,Tl,mL⟩⟩,fun h=>(by simp at h)⟩
   · rintro p aw ⟨ag,bj,i,hi,f1,rfl,aA,aE,aI,aL,cQ,vP,KQ,al3,al4,al5,al6⟩
     exact fin ag bj i hi f1 aA aE aI aL cQ aw vP KQ al3 al4 al5 al6
theorem al7 (h:nc X w C) (no:Nat):aQ Tryz.prog F.De #[.pointer (some ⟨C.c,0,none⟩), .int .i64 ((no:Nat):Int)] w (fun v w'=>(∃b:Bool,v= .bool b)∧∃bx:eZ,nc X w' bx∧lM C bx w w' 0∧∀j,j≠no→bx.view j=C.view j):=by
 have kX:=h.raw
 refine W.al8 (some ⟨C.c,0,none⟩) ((no:Nat):Int) w _ ?_
 (delta W.De AP aB bI;dsimp only)
 refine (Tg kX _).use ?_
 rintro _ _ ⟨pX,rfl⟩
 rcases pX with ⟨i,hi,rfl,aH,aD⟩|⟨rfl,OZ⟩
 · have f4:=xy kX.f hi (j:=4) (by decide)
   have aZ:=h.inv.pins _ (fg hi)
   refine ⟨_,rfl,eA (fun b w'=>b=false∧w=w') (fun q J=>⟨fun h=>(by cases h),fun _=>⟨_,rfl,(C.aF[i]).pins,by rw[aW];exact f4,J _ _ ⟨by rw[aZ];rfl,rfl⟩⟩⟩) ?_⟩
   rintro _ _ ⟨rfl,rfl⟩
   obtain ⟨s1,s2,bY⟩:=Tf kX.f hi hK
   refine ⟨fun h=>(by cases h),fun _=>⟨_,rfl,s1,rfl,bL ⟨⟨true,rfl⟩,{C with aF:=C.aF.set i hK},⟨aax kX bY s2,?_⟩,?_,fun j a_=> ?_⟩⟩⟩
   · exact aak (V:=fun q=>q=C.b1) (aP:=C.D) hi h.inv bY (fun q _ e=> .inr (.inl e)) rfl (fun _ _=>rfl) (fun q h=> .inl h) hK rfl rfl
   · exact ⟨rfl,rfl,by show (C.aF.set i _).length=_;rw[jc],rfl,cV _,fun _ h=>h,bY.mono fun q _ e=> .inr (.inl e),fun q h=> .inl h⟩
   · refine aaq (fs:=C.aF) (D:=C.D) (c:=C.c) (b1:=C.b1) (hd:=C.hand) h.inv.un (fun a b aR ab U ad au=> ?_) (fun k ae aA aE=> ?_) fun fx=>⟨fun f aH aA aE=> ?_,rfl⟩
     · have oD:a<C.aF.length:=by simpa using aR
       have kB:b<C.aF.length:=by simpa using ab
       by_cases nd:i=a
       · subst nd
         simp[hK] at U
       by_cases n0:i=b
       · subst n0
         simp[hK] at ad
       simp only[m6 nd] at U au
       simp only[m6 n0] at ad au
       exact h.inv.un a b oD kB U ad au
     · have lu:i≠k:=fun e=>by
         subst e
         rw[aD] at aE
         exact a_ (by omega)
       exact ⟨k,by rw[jc];exact ae,by simp only[m6 lu];exact aA,by simp only[m6 lu];exact aE,by simp only[m6 lu]⟩
     · rcases Ce aH with aH|rfl
       · exact fx f aH aA aE
       · cases aA
 · refine ⟨_,rfl,eA (fun b w'=>b=true∧w=w') (fun q J=>⟨fun _=>J _ _ ⟨rfl,rfl⟩,fun h=>(by cases h)⟩) ?_⟩
   rintro _ _ ⟨rfl,rfl⟩
   exact ⟨fun _=>⟨⟨false,rfl⟩,C,h,lM.refl C w,fun _ _=>rfl⟩,fun h=>(by cases h)⟩
end
theorem al9 (n:Nat):pM Tryz.prog ah.rN n=(cI Fr.c (List.replicate n hK)).toArray:=by
 have bN:((Tryz.prog.info? ah.rN).bind (·.zero)).map (·.cells)=some hK.c.toArray:=by kernel_rfl
 have al:Tryz.prog.cellsOf ah.rN=6:=by kernel_rfl
 unfold pM
 rw[al]
 cases hi:(Tryz.prog.info? ah.rN).bind (·.zero) with
 |none=>rw[hi] at bN;cases bN
 |some z=>
   rw[hi] at bN
   simp only[yg,Option.some.injEq] at bN
   simp only[Option.getD_some,bN]
   apply Array.ext
   · simp[oC (c:=Fr.c) (sz:=6) (List.replicate n hK) (fun x _=>rfl)]
   · intro i U ad
     have aD:n*6≠0:=by
       intro h
       simp[h] at U
     have fo:i<n*6:=by simpa using U
     simp only[aD,if_false,Array.getElem_map,Array.getElem_range,List.getElem_toArray]
     have dR:hK.c.toArray.size=6:=rfl
     have bd:i%6<6:=sX _ (by omega)
     have J:i/6<(List.replicate n hK).length:=by rw[G1];omega
     have bf:=KJ (c:=Fr.c) (sz:=6) (l:=List.replicate n hK) (fun x _=>rfl) (i:=i/6) (j:=i%6) J bd
     rw[show i/6*6+i%6=i by omega] at bf
     have Fh:i<(cI Fr.c (List.replicate n hK)).length:=by simpa using ad
     rw[gF Fh] at bf
     have he:((List.replicate n hK)[i/6]).c=hK.c:=by simp
     rw[he,gF (show i%6<hK.c.length from bd)] at bf
     have bf:=Option.some.inj bf
     rw[bf,dR,getElem!_pos hK.c.toArray (i%6) (by rw[dR];exact bd)]
     simp
def O0 (c b1 k:Nat) (D:dF):eZ:=⟨c,b1,List.replicate k hK,0,D⟩
theorem y2 {w:World} {D:dF} (h:ji w D) {k:Nat} (U:8≤k) (ad:k≤64):aQ Tryz.prog F.y2 #[.pointer (some ⟨D.d,0,none⟩), .int .i64 ((k:Nat):Int)] w (fun v w'=>∃c b1:Nat,v= .tuple #[.pointer (some ⟨c,0,none⟩), .int .i64 0]∧nc (fun _=>False) w' (O0 c b1 k D)∧Ext w w'∧w.heap.size≤c∧w.heap.size≤b1):=by
 refine W.al_ (some ⟨D.d,0,none⟩) ((k:Nat):Int) w _ ?_
 delta W.y2 aB yp ai
 refine ⟨fun h=> ?_,fun _=>⟨⟨by omega,by omega,by omega,by omega⟩,?_⟩⟩
 · simp only[Option.isNone_some,EK,u_,fu] at h;omega
 rw[al9,gY]
 have nA:=ct.new w (cI Fr.c (List.replicate k hK)).toArray ah.rN
 have bD:=iR w (.cells (cI Fr.c (List.replicate k hK)).toArray ah.rN)
 have m8:=JU w (.cells (cI Fr.c (List.replicate k hK)).toArray ah.rN)
 obtain ⟨ag,xv⟩:∃ag,ag=w.alloc (.cells (cI Fr.c (List.replicate k hK)).toArray ah.rN):=⟨_,rfl⟩
 rw[←xv] at nA bD m8⊢
 refine bL (cn (vs:=[.pointer (some ⟨D.d,0,none⟩), .slice (some ⟨w.heap.size,0,none⟩) k k, .int .i64 0]) rfl fun aw gM cA vi=>⟨ag.heap.size,w.heap.size,rfl,⟨⟨?_,ct.ext nA cA,h.ext (bD.trans cA),?_,?_,?_,?_,?_,?_⟩,⟨fun f aH=> ?_,fun f aH nZ=> ?_,fun i j hi a_ U=> ?_,fun q J=>J.elim⟩⟩,bD.trans cA,by omega,cV _⟩)
 · show Var _ _ [_, .slice _ (List.replicate k hK).length (List.replicate k hK).length,_] _
   rw[G1];exact gM
 · show 8≤(List.replicate k hK).length;simpa using U
 · show (List.replicate k hK).length≤64;simpa using ad
 · show 0<(List.replicate k hK).length;simp;omega
 · show ag.heap.size≠w.heap.size;omega
 · intro e
   have:=h.lt e
   have:ag.heap.size<w.heap.size:=this
   omega
 · intro e
   have:=h.lt e
   have:w.heap.size<w.heap.size:=this
   omega
 · rw[RH aH];rfl
 · rw[RH aH] at nZ;cases nZ
 · simp[O0,hK] at U
end
section
def xD (oE c3 cG eP fa h7 lv k6:Bool):Nat:=
 oE.toNat+2*c3.toNat+4*cG.toNat+8*eP.toNat+16*fa.toNat+32*h7.toNat+64*lv.toNat+128*k6.toNat
def byteOf (f:Nat→Bool) (i:Nat):Nat:=xD (f (8*i)) (f (8*i+1)) (f (8*i+2)) (f (8*i+3)) (f (8*i+4)) (f (8*i+5)) (f (8*i+6)) (f (8*i+7))
theorem ama:∀oE c3 cG eP fa h7 lv k6:Bool,xD oE c3 cG eP fa h7 lv k6<256:=by decide+kernel
theorem amb:∀oE c3 cG eP fa h7 lv k6:Bool,
   (xD oE c3 cG eP fa h7 lv k6).testBit 0=oE∧(xD oE c3 cG eP fa h7 lv k6).testBit 1=c3∧(xD oE c3 cG eP fa h7 lv k6).testBit 2=cG∧(xD oE c3 cG eP fa h7 lv k6).testBit 3=eP∧
   (xD oE c3 cG eP fa h7 lv k6).testBit 4=fa∧(xD oE c3 cG eP fa h7 lv k6).testBit 5=h7∧(xD oE c3 cG eP fa h7 lv k6).testBit 6=lv∧(xD oE c3 cG eP fa h7 lv k6).testBit 7=k6:=by decide+kernel
theorem xE (f:Nat→Bool) (i:Nat):byteOf f i<256:=ama _ _ _ _ _ _ _ _
theorem Fw (f:Nat→Bool) (i j:Nat) (a_:j<8):(byteOf f i).testBit j=f (8*i+j):=by
 obtain ⟨b7,U,ad,au,aJ,a6,b8,iA⟩:=amb (f (8*i)) (f (8*i+1)) (f (8*i+2)) (f (8*i+3)) (f (8*i+4)) (f (8*i+5)) (f (8*i+6)) (f (8*i+7))
 have:j=0∨j=1∨j=2∨j=3∨j=4∨j=5∨j=6∨j=7:=by omega
 unfold byteOf
 rcases this with rfl|rfl|rfl|rfl|rfl|rfl|rfl|rfl<;>assumption
theorem amc {x y:Nat} (af:x<256) (b3:y<256) (h:∀j,j<8→x.testBit j=y.testBit j):x=y:=by
 apply Nat.eq_of_testBit_eq
 intro j
 by_cases a_:j<8
 · exact h j a_
 · have p:256≤2^j:=by
     have:=Nt (n:=2) (by omega) (by omega:8≤j)
     simpa using this
   rw[Nat.testBit_lt_two_pow (by omega),Nat.testBit_lt_two_pow (by omega)]
theorem Tr (f:Nat→Bool) (i x:Nat) (af:x<256) (h:∀j,j<8→x.testBit j=f (8*i+j)):x=byteOf f i:=
 amc af (xE f i) fun j a_=>by rw[h j a_,Fw f i j a_]
def km (f:Nat→Bool) (k:Nat) (b:Bool):Nat→Bool:=fun i=>if i=k then b else f i
theorem amd:∀x:Nat,x<256→∀j:Nat,j<8→(tW .u8 (Int.fdiv (x:Int) (2^(min (Int.toNat (j:Int)) 8))) 1==1)=x.testBit j:=by decide+kernel
theorem ame:∀x:Nat,x<256→∀j:Nat,j<8→Cp .u8 (x:Int) (IntKind.wrap .u8 (1*2^(min (Int.toNat (j:Int)) 8)))=((x|||2^j:Nat):Int):=by decide+kernel
theorem amf:∀x:Nat,x<256→∀j:Nat,j<8→aaz .u8 (x:Int) (IntKind.wrap .u8 (1*2^(min (Int.toNat (j:Int)) 8)))=((x&&&(255-2^j):Nat):Int):=by decide+kernel
theorem Ts:∀x:Nat,x<256→∀y:Nat,y<256→x|||y<256:=fun _ af _ b3=>Nat.or_lt_two_pow (n:=8) af b3
theorem amg:∀j:Nat,j<8→∀k:Nat,k<8→(255-2^j).testBit k=(k !=j):=by decide+kernel
theorem amh (x y:Nat) (af:x<256) (b3:y<256):Cp .u8 (x:Int) (y:Int)=((x|||y:Nat):Int):=by
 have h:=Ts x af y b3
 have e:(BitVec.ofInt 8 (x:Int)|||BitVec.ofInt 8 (y:Int)).toNat=x|||y:=by
   simp only[BitVec.ofInt_natCast,BitVec.toNat_or,BitVec.toNat_ofNat]
   rw[u9 (by simpa using af),u9 (by simpa using b3)]
 show IntKind.wrap .u8 (((BitVec.ofInt 8 (x:Int)|||BitVec.ofInt 8 (y:Int)).toNat:Nat):Int)=_
 rw[e]
 have:((x|||y:Nat):Int)%256=((x|||y:Nat):Int):=Int.emod_eq_of_lt (by omega) (by omega)
 simp[IntKind.wrap,IntKind.signed,IntKind.bits,this]
theorem ami (k:Nat):8*(k/8)+k%8=k:=Nat.div_add_mod k 8
theorem amj (f:Nat→Bool) (k:Nat):byteOf f (k/8)|||2^(k%8)=byteOf (km f k true) (k/8):=by
 refine Tr _ _ _ (Ts _ (xE _ _) _ ?_) fun j a_=> ?_
 · have:k%8<8:=sX _ (by omega)
   have:=Nat.pow_lt_pow_right (a:=2) (by omega) this
   simpa using this
 · rw[Ch,Fw _ _ _ a_,JJ,km]
   by_cases h:8*(k/8)+j=k
   · rw[if_pos h]
     have:k%8=j:=by omega
     simp[this]
   · rw[if_neg h]
     have:¬k%8=j:=by omega
     simp[this]
theorem amk (f:Nat→Bool) (k:Nat):byteOf f (k/8)&&&(255-2^(k%8))=byteOf (km f k false) (k/8):=by
 refine Tr _ _ _ (Nat.lt_of_le_of_lt Nat.and_le_left (xE _ _)) fun j a_=> ?_
 rw[Nat.testBit_and,Fw _ _ _ a_,amg _ (sX _ (by omega)) _ a_,km]
 by_cases h:8*(k/8)+j=k
 · rw[if_pos h]
   have:j=k%8:=by omega
   simp[this]
 · rw[if_neg h]
   have:¬j=k%8:=by omega
   simp[this]
theorem aml (f:Nat→Bool) (k i:Nat) (b:Bool) (h:i≠k/8):byteOf (km f k b) i=byteOf f i:=by
 have e:∀j,j<8→km f k b (8*i+j)=f (8*i+j):=fun j a_=>by
   unfold km
   rw[if_neg]
   omega
 unfold byteOf
 rw[e 1 (by omega),e 2 (by omega),e 3 (by omega),e 4 (by omega),e 5 (by omega),e 6 (by omega),e 7 (by omega)]
 have:=e 0 (by omega)
 simp only[zV] at this
 rw[this]
def ly (f:Nat→Bool) (m:Nat):List Value:=(List.range m).map fun i=> .int .u8 (byteOf f i)
theorem Tt (f:Nat→Bool) (m:Nat):(ly f m).length=m:=by simp[ly]
theorem Fx (f:Nat→Bool) {m i:Nat} (h:i<m):(ly f m)[i]? =some (.int .u8 (byteOf f i)):=by simp[ly,h]
theorem aaA (f:Nat→Bool) (k m:Nat) (b:Bool):(ly f m).set (k/8) (.int .u8 (byteOf (km f k b) (k/8)))=ly (km f k b) m:=by
 apply List.ext_getElem?
 intro i
 rw[List.getElem?_set]
 by_cases hi:i<m
 · rw[Fx (km f k b) hi]
   by_cases h:k/8=i
   · subst h
     simp[Tt,hi]
   · rw[if_neg h,Fx _ hi,aml f k i b (by omega)]
 · have U:(ly (km f k b) m)[i]? =none:=by simp[ly];omega
   have ad:(ly f m)[i]? =none:=by simp[ly];omega
   rw[U,ad]
   split
   · simp[Tt];omega
   · rfl
end
section
theorem aaB (k:Nat):Int.tdiv (k:Int) 8=((k/8:Nat):Int):=by
 rw[Int.tdiv_eq_ediv_of_nonneg (by omega)];omega
theorem Tu (k:Nat):Int.tmod (k:Int) 8=((k%8:Nat):Int):=by
 rw[RJ (by omega)];omega
theorem Tv {k:Nat} (h:k≤9223372036854775807):IntKind.wrap .i64 (Int.tdiv (k:Int) 8)=((k/8:Nat):Int):=by
 rw[aaB,cz (by omega) (by omega)]
theorem aaC {s:aa} {b:Nat} (h:s.a=some ⟨b,0,none⟩):aO s b:=⟨_,h,rfl⟩
theorem Fy {w:World} {s:aa} {f:Nat→Bool} {m k:Nat} (h:bV 1 ah.uint8 w s (ly f m)) (ae:k/8<m) (eC:k≤9223372036854775807):
   aQ Tryz.prog F.th #[.slice s.a s.len s.cap, .int .i64 k] w (fun v w'=>v= .bool (f k)∧w=w'):=by
 refine W.amm s k w _ ?_
 (delta W.th a7 aC h8;dsimp only)
 obtain ⟨b,c,ab,jf,fc,hi,Tw,al,_⟩:=h.cell (Fx f ae)
 refine ⟨by decide,_,ab,?_⟩
 rw[Tv eC,Tu]
 refine ⟨⟨by omega,by omega⟩,(byteOf f (k/8):Int),?_,by decide,by omega,?_,rfl⟩
 · rw[lU,gY,aW,gz];exact al
 · rw[amd _ (xE _ _) _ (sX _ (by omega)),Fw _ _ _ (sX _ (by omega)),ami]
theorem aaD {w:World} {s:aa} {f:Nat→Bool} {m k:Nat} (h:bV 1 ah.uint8 w s (ly f m)) (ae:k/8<m) (eC:k≤9223372036854775807):
   aQ Tryz.prog F.AS #[.slice s.a s.len s.cap, .int .i64 k] w (fun v w'=>v= .tuple #[]∧bV 1 ah.uint8 w' s (ly (km f k true) m)∧ao (aO s) w w'):=by
 refine W.amn s k w _ ?_
 (delta W.AS ay a7 aC h8 st;dsimp only)
 obtain ⟨b,c,ab,jf,fc,hi,Tw,al,_⟩:=h.cell (Fx f ae)
 have aR:(Addr.mk b 0 none).add (Int.toNat ((k/8:Nat):Int)*1)=⟨b,k/8,none⟩:=by rw[lU,gY,aW,gz]
 rw[Tv eC,Tu]
 refine ⟨by decide,_,ab,⟨by omega,by omega⟩,by simp,(byteOf f (k/8):Int),by rw[aR];exact al,by decide,by omega,_,ab,⟨by omega,by omega⟩,⟨_,by rw[aR];exact al⟩,by rw[aR];exact jf.drew.frozen _ rfl,rfl,?_,?_⟩
 · rw[aR,ame _ (xE _ _) _ (sX _ (by omega)),amj,←aaA]
   have qh:bV 1 ah.uint8 w.drew s (ly f m):=h.an (W:=fun _=>False) (ao.drew (.refl _ _)) (fun _ _ h=>h)
   exact qh.set ab _
 · rw[aR]
   exact ao.set (ao.drew (.refl _ _)) (fun _=>aaC ab) _
theorem amo {w:World} {s:aa} {f:Nat→Bool} {m k:Nat} (h:bV 1 ah.uint8 w s (ly f m)) (ae:k/8<m) (eC:k≤9223372036854775807):
   aQ Tryz.prog F.Df #[.slice s.a s.len s.cap, .int .i64 k] w (fun v w'=>v= .tuple #[]∧bV 1 ah.uint8 w' s (ly (km f k false) m)∧ao (aO s) w w'):=by
 refine W.amp s k w _ ?_
 (delta W.Df ay a7 aC h8 st;dsimp only)
 obtain ⟨b,c,ab,jf,fc,hi,Tw,al,_⟩:=h.cell (Fx f ae)
 have aR:(Addr.mk b 0 none).add (Int.toNat ((k/8:Nat):Int)*1)=⟨b,k/8,none⟩:=by rw[lU,gY,aW,gz]
 rw[Tv eC,Tu]
 refine ⟨by decide,_,ab,⟨by omega,by omega⟩,by simp,(byteOf f (k/8):Int),by rw[aR];exact al,by decide,by omega,_,ab,⟨by omega,by omega⟩,⟨_,by rw[aR];exact al⟩,by rw[aR];exact jf.drew.frozen _ rfl,rfl,?_,?_⟩
 · rw[aR,amf _ (xE _ _) _ (sX _ (by omega)),amk,←aaA]
   have qh:bV 1 ah.uint8 w.drew s (ly f m):=h.an (W:=fun _=>False) (ao.drew (.refl _ _)) (fun _ _ h=>h)
   exact qh.set ab _
 · rw[aR]
   exact ao.set (ao.drew (.refl _ _)) (fun _=>aaC ab) _
structure mF (w:World) (b n:Nat) (f g:Nat→Bool) (s1 s2:aa):Prop where
 dn:ct w b #[.int .i64 n, .slice s1.a s1.len s1.cap, .slice s2.a s2.len s2.cap] ah.Dg
 now:bV 1 ah.uint8 w s1 (ly f ((n+7)/8))
 sure:bV 1 ah.uint8 w s2 (ly g ((n+7)/8))
 d1:∀k,aO s1 k→k≠b∧¬aO s2 k
 d2:∀k,aO s2 k→k≠b
 dk:1≤n
 db:n≤1600
 HO:∀i,n≤i→f i=false
 hW:∀i,n≤i→g i=false
def ti (b:Nat) (s1 s2:aa) (k:Nat):Prop:=k=b∨aO s1 k∨aO s2 k
section
variable {w w':World} {b n:Nat} {f g:Nat→Bool} {s1 s2:aa}
theorem mF.an {W:Nat→Prop} (h:mF w b n f g s1 s2) (al:ao W w w') (aD:∀k,ti b s1 s2 k→¬W k):mF w' b n f g s1 s2:=
 ⟨h.dn.an al (aD b (.inl rfl)),h.now.an al fun k ae=>aD k (.inr (.inl ae)),h.sure.an al fun k ae=>aD k (.inr (.inr ae)),h.d1,h.d2,h.dk,h.db,h.HO,h.hW⟩
theorem mF.ext (h:mF w b n f g s1 s2) (al:Ext w w'):mF w' b n f g s1 s2:=h.an al fun _ _ h=>h
theorem mF.lt (h:mF w b n f g s1 s2):∀k,ti b s1 s2 k→k<w.heap.size:=by
 rintro k (rfl|ae|ae)
 · exact h.dn.lt
 · exact h.now.lt k ae
 · exact h.sure.lt k ae
theorem mF.cH (h:mF w b n f g s1 s2):w.cell? ⟨b,0,none⟩=some (.int .i64 n):=by rw[h.dn.cell];rfl
theorem mF.aT (h:mF w b n f g s1 s2):w.cell? ((Addr.mk b 0 none).add 1)=some (.slice s1.a s1.len s1.cap):=by rw[aW,h.dn.cell];rfl
theorem mF.bC (h:mF w b n f g s1 s2):w.cell? ((Addr.mk b 0 none).add 2)=some (.slice s2.a s2.len s2.cap):=by rw[aW,h.dn.cell];rfl
theorem amq (h:mF w b n f g s1 s2) {k:Nat} (ae:k<n):
   aQ Tryz.prog F.Dh #[.pointer (some ⟨b,0,none⟩), .int .i64 k] w (fun v w'=>v= .bool (f k||g k)∧w=w'):=by
 have aD:=h.db
 refine W.amr _ k w _ ?_
 (delta W.Dh aq ba aB;dsimp only)
 refine ⟨_,rfl,s1,h.aT,(Fy h.now (k:=k) (by omega) (by omega)).use ?_⟩
 rintro _ _ ⟨rfl,rfl⟩
 refine ⟨_,rfl,⟨fun aH=>⟨by rw[aH];rfl,rfl⟩,fun aH=>⟨_,rfl,s2,h.bC,(Fy h.sure (k:=k) (by omega) (by omega)).use ?_⟩⟩⟩
 rintro _ _ ⟨rfl,rfl⟩
 exact ⟨_,rfl,by rw[aH];rfl,rfl⟩
theorem Tx (h:mF w b n f g s1 s2) (k:Int):
   aQ Tryz.prog F.y3 #[.pointer (some ⟨b,0,none⟩), .int .i64 k] w (fun v w'=>v= .bool (decide (0≤k)&&decide (k<n))∧w=w'):=by
 refine W.ams _ k w _ ?_
 (delta W.y3 aB bI;dsimp only)
 refine ⟨?_⟩
 refine ⟨fun U=>⟨_,rfl,n,h.cH,?_,rfl⟩,fun U=>⟨?_,rfl⟩⟩
 · have:0≤k:=by simpa using U
   simp[this]
 · have:¬0≤k:=by simpa using U
   simp[this]
def firstFree (t:Nat→Bool) (n:Nat):Option Nat:=(List.range n).find? fun i=> !t i
theorem amt {t:Nat→Bool} {n k:Nat} (ae:k<n) (aV:t k=false) (az:∀i,i<k→t i=true):firstFree t n=some k:=by
 unfold firstFree
 rw[List.find?_eq_some_iff_append]
 refine ⟨by simp[aV],List.range k,(List.range' (k+1) (n-(k+1))),?_,fun a aR=> ?_⟩
 · have aY:=List.range'_append (s:=0) (m:=k) (n:=n-(k+1)+1) (step:=1)
   rw[Nx,Nx,←List.range'_succ]
   rw[Nat.one_mul,gz] at aY
   rw[aY]
   congr 1
   omega
 · simp[az a (wD.1 aR)]
theorem amu {t:Nat→Bool} {n:Nat} (az:∀i,i<n→t i=true):firstFree t n=none:=by
 unfold firstFree
 rw[sd]
 intro a aR
 simp[az a (wD.1 aR)]
theorem amv {t:Nat→Bool} {n k:Nat} (h:firstFree t n=some k):k<n∧t k=false∧∀i,i<k→t i=true:=by
 unfold firstFree at h
 obtain ⟨U,pO,ie,ad,au⟩:=List.find?_eq_some_iff_append.1 h
 have ae:k<n:=wD.1 (by rw[ad];simp)
 refine ⟨ae,by simpa using U,fun i hi=> ?_⟩
 have hlen:pO.length=k:=by
   have aJ:(List.range n)[pO.length]? =some k:=by rw[ad];simp
   rw[List.getElem?_range (by
     have:=congrArg List.length ad
     simp at this
     omega)] at aJ
   simpa using aJ
 have a6:(List.range n)[i]? =some i:=List.getElem?_range (by omega)
 rw[ad,List.getElem?_append_left (by omega)] at a6
 have:=au i (List.mem_of_getElem? a6)
 simpa using this
theorem amw {t:Nat→Bool} {n:Nat} (h:firstFree t n=none):∀i,i<n→t i=true:=by
 unfold firstFree at h
 rw[sd] at h
 intro i hi
 have:=h i (wD.2 hi)
 simpa using this
def amx (o:Option Nat):Value:=
 match o with
 |some k=> .tuple #[.int .i64 (k:Int), .int .i64 0]
 |none=> .tuple #[.int .i64 (-1), .int .i64 2]
def amy (o:Option Nat) (f:Nat→Bool):Nat→Bool:=
 match o with
 |some k=>km f k true
 |none=>f
theorem aaE {f:Nat→Bool} {n k:Nat} {x:Bool} (h:∀i,n≤i→f i=false) (ae:k<n):∀i,n≤i→km f k x i=false:=fun i hi=>by
 unfold km
 rw[if_neg (by omega)]
 exact h i hi
theorem amz (h:mF w b n f g s1 s2):
   aQ Tryz.prog F.Di #[.pointer (some ⟨b,0,none⟩)] w (fun v w'=>v=amx (firstFree (fun i=>f i||g i) n)∧mF w' b n (amy (firstFree (fun i=>f i||g i) n) f) g s1 s2∧ao (ti b s1 s2) w w'):=by
 have oz:=h.db
 refine W.amA _ w _ ?_
 (delta W.Di aB bI ba aq bC aC;dsimp only)
 refine ⟨fun U=>by simp at U,fun _=>⟨_,rfl,n,h.cH,fun i w'=>∃k:Nat,i=k∧k≤n∧w=w'∧∀j,j<k→(f j||g j)=true,fun i _=>(n-i).toNat,⟨0,rfl,by omega,rfl,fun j a_=>by omega⟩,?_⟩⟩
 rintro _ _ ⟨k,rfl,ae,rfl,fx⟩
 refine ⟨fun bd=>(amq h (k:=k) (by simpa using bd)).use ?_,fun cg=> ?_⟩
 · have y4:k<n:=by simpa using bd
   rintro _ _ ⟨rfl,rfl⟩
   refine ⟨_,rfl,fun aV=>⟨_,rfl,s1,h.aT,(aaD h.now (k:=k) (by omega) (by omega)).use ?_⟩,fun aV=> ?_⟩
   · rintro _ w' ⟨rfl,jV,al⟩
     have Ay:(f k||g k)=false:=by simpa using aV
     have yN:=amt (t:=fun i=>f i||g i) y4 Ay fx
     rw[yN]
     refine ⟨rfl,rfl,⟨h.dn.an al fun ab=>(h.d1 b ab).1 rfl,jV,h.sure.an al fun k ae U=>(h.d1 k U).2 ae,h.d1,h.d2,h.dk,h.db,aaE h.HO y4,h.hW⟩,al.mono fun k _ ae=> .inr (.inl ae)⟩
   · have Ay:(f k||g k)=true:=by cases af:(f k||g k)<;>simp[af] at aV⊢
     rw[cz (by omega) (by omega)]
     refine ⟨⟨k+1,by omega,by omega,rfl,fun j a_=> ?_⟩,(show ((n:Int)-((k:Int)+1)).toNat<((n:Int)-(k:Int)).toNat by omega)⟩
     rcases g6 j k with U|U
     · exact fx j U
     · have:j=k:=by omega
       subst this;exact Ay
 · have y4:k=n:=by
     have:¬(k:Int)<n:=by simpa using cg
     omega
   subst y4
   rw[amu fx]
   exact ⟨rfl,h, .refl _ _⟩
def O1 (f:Nat→Bool) (n:Nat) (k:Int):Int:=if 0≤k∧k<n then (if f k.toNat then 0 else 6) else 1
def HP (f:Nat→Bool) (n:Nat) (k:Int):Nat→Bool:=if 0≤k∧k<n then km f k.toNat false else f
theorem amB {f:Nat→Bool} {k:Nat} {x:Bool} (h:f k=x):km f k x=f:=by
 funext i
 unfold km
 split
 · rename_i hi;rw[hi,h]
 · rfl
theorem amC (h:mF w b n f g s1 s2) (k:Int):
   aQ Tryz.prog F.Dj #[.pointer (some ⟨b,0,none⟩), .int .i64 k] w (fun v w'=>v= .int .i64 (O1 f n k)∧mF w' b n (HP f n k) g s1 s2∧ao (ti b s1 s2) w w'):=by
 have oz:=h.db
 refine W.amD _ k w _ ?_
 (delta W.Dj ba aB aq bC;dsimp only)
 refine (Tx h k).use ?_
 rintro _ _ ⟨rfl,rfl⟩
 refine ⟨_,rfl,fun U=> ?_,fun U=> ?_⟩
 · have:¬(0≤k∧k<n):=by
     rintro ⟨ad,au⟩
     simp[ad,au] at U
   exact ⟨by rw[O1,if_neg this],by rw[HP,if_neg this];exact h, .refl _ _⟩
 · have aN:0≤k∧k<n:=by simpa using U
   obtain ⟨m,rfl⟩:=Nz aN.1
   have hm:m<n:=by omega
   refine ⟨_,rfl,s1,h.aT,(Fy h.now (k:=m) (by omega) (by omega)).use ?_⟩
   rintro _ _ ⟨rfl,rfl⟩
   refine ⟨_,rfl,fun ad=> ?_,fun ad=>⟨_,rfl,s1,h.aT,(amo h.now (k:=m) (by omega) (by omega)).use ?_⟩⟩
   · have aH:f m=false:=by simpa using ad
     refine ⟨by rw[O1,if_pos aN,gY,aH];rfl,?_, .refl _ _⟩
     rw[HP,if_pos aN,gY,amB aH]
     exact h
   · rintro _ w' ⟨rfl,jV,al⟩
     have aH:f m=true:=by simpa using ad
     refine ⟨rfl,by rw[O1,if_pos aN,gY,aH];rfl,?_,al.mono fun k _ ae=> .inr (.inl ae)⟩
     rw[HP,if_pos aN,gY]
     exact ⟨h.dn.an al fun ab=>(h.d1 b ab).1 rfl,jV,h.sure.an al fun k ae U=>(h.d1 k U).2 ae,h.d1,h.d2,h.dk,h.db,aaE h.HO hm,h.hW⟩
theorem amE (h:mF w b n f g s1 s2) (k:Int):
   aQ Tryz.prog F.Dk #[.pointer (some ⟨b,0,none⟩), .int .i64 k] w (fun v w'=>v= .bool (decide (0≤k)&&decide (k<n)&&f k.toNat)∧w=w'):=by
 have oz:=h.db
 refine W.amF _ k w _ ?_
 (delta W.Dk ba aB aq;dsimp only)
 refine (Tx h k).use ?_
 rintro _ _ ⟨rfl,rfl⟩
 refine ⟨_,rfl,⟨fun U=> ?_,fun U=>⟨by rw[U];rfl,rfl⟩⟩⟩
 have aN:0≤k∧k<n:=by simpa using U
 obtain ⟨m,rfl⟩:=Nz aN.1
 refine ⟨_,rfl,s1,h.aT,(Fy h.now (k:=m) (by omega) (by omega)).use ?_⟩
 rintro _ _ ⟨rfl,rfl⟩
 exact ⟨_,rfl,by rw[U,gY];rfl,rfl⟩
theorem amG (h:mF w b n f g s1 s2) (k:Int):
   aQ Tryz.prog F.Dl #[.pointer (some ⟨b,0,none⟩), .int .i64 k] w (fun v w'=>v= .bool (decide (0≤k)&&decide (k<n)&&f k.toNat&& !(g k.toNat))∧w=w'):=by
 have oz:=h.db
 refine W.amH _ k w _ ?_
 (delta W.Dl ba aB aq;dsimp only)
 refine (Tx h k).use ?_
 rintro _ _ ⟨rfl,rfl⟩
 refine ⟨_,rfl,⟨fun U=> ?_,fun U=>⟨(fun h=>by cases h),fun _=>⟨by rw[U];rfl,rfl⟩⟩⟩⟩
 have aN:0≤k∧k<n:=by simpa using U
 obtain ⟨m,rfl⟩:=Nz aN.1
 refine ⟨_,rfl,s1,h.aT,(Fy h.now (k:=m) (by omega) (by omega)).use ?_⟩
 rintro _ _ ⟨rfl,rfl⟩
 refine ⟨_,rfl,fun ad=>⟨_,rfl,s2,h.bC,(Fy h.sure (k:=m) (by omega) (by omega)).use ?_⟩,fun ad=>⟨by rw[U,gY,ad];rfl,rfl⟩⟩
 rintro _ _ ⟨rfl,rfl⟩
 exact ⟨_,rfl,by rw[U,gY,ad];rfl,rfl⟩
end
end
section
theorem amI:qf Tryz.prog ah.KR ah.uint8 1 1:=⟨by kernel_rfl⟩
theorem amJ:qf Tryz.prog ah.eg ah.int 1 8:=⟨by kernel_rfl⟩
theorem amK (n:Nat):pM Tryz.prog ah.uint8 n=(List.replicate n (.int .u8 0)).toArray:=YE (by kernel_rfl) (by kernel_rfl) n
theorem amL (f:Nat→Bool) (m:Nat):∀v∈ly f m,Plain v:=by
 intro v ak
 obtain ⟨i,_,rfl⟩:=nq.1 ak
 trivial
theorem amM {w:World} {s:aa} {xs:List Value} (h:Src 1 w s xs) (aZ:∀v∈xs,Plain v) (aD:s.len≤1000000):
   aQ Tryz.prog F.Dm #[.slice s.a s.len s.cap] w (fun v w'=>∃ar:aa,v= .slice ar.a ar.len ar.cap∧bV 1 ah.uint8 w' ar xs∧Ext w w'∧∀k,aO ar k→w.heap.size≤k):=by
 refine W.amN s w _ ?_
 delta W.Dm ay aB ai
 refine ⟨fun aR=> ?_,fun _=> ?_⟩
 · have aR:s.a=none:=by simpa using aR
   rw[h.nil aR]
   exact ⟨⟨none,0,0⟩,rfl,bV.none _ _ _, .refl _ _,fun k ae=>(qJ k ae).elim⟩
 · obtain ⟨ar,w',U,ad,au,aJ,a6,_⟩:=amI.clone (eB:=ah.KR) h aZ (by omega)
   exact ⟨ar,w',U,ar,rfl,ad,aJ,a6⟩
section
variable {w w':World} {b n:Nat} {f g:Nat→Bool} {s1 s2:aa}
theorem Ty {T:TypeId} {m:Nat} (h:bV 1 T w s1 (ly f m)):s1.len=m:=by
 have:=h.1
 rw[Tt] at this
 omega
theorem amO {m:Nat} {u:Value} (ab:ct w b #[.int .i64 n, .slice s1.a s1.len s1.cap,u] ah.Dg) (U:bV 1 ah.uint8 w s1 (ly f m)) (hd:∀k,aO s1 k→k≠b) (hm:m≤1000000):
   aQ Tryz.prog F.Dn #[.pointer (some ⟨b,0,none⟩)] w (fun v w'=>v= .tuple #[]∧∃xF:aa,ct w' b #[.int .i64 n, .slice s1.a s1.len s1.cap, .slice xF.a xF.len xF.cap] ah.Dg∧
     bV 1 ah.uint8 w' s1 (ly f m)∧bV 1 ah.uint8 w' xF (ly f m)∧ao (fun k=>k=b) w w'∧∀k,aO xF k→w.heap.size≤k):=by
 refine W.amP _ w _ ?_
 (delta W.Dn ay aB aq ee st;dsimp only)
 refine ⟨fun _=>⟨_,rfl,s1,by rw[aW,ab.cell];rfl,(amM U.src (amL f m) (by rw[Ty U];exact hm)).use ?_⟩,fun h=>by simp at h⟩
 rintro _ aw ⟨xF,rfl,ad,af,aH⟩
 have gT:=ab.ext af
 have c4:∀k,aO xF k→k≠b:=fun k ae e=>by have:=aH k ae;have:=ab.lt;omega
 refine ⟨xF,rfl,_,rfl,⟨_,by rw[aW,gT.cell];rfl⟩,gT.frozen _ rfl,rfl,xF,?_,?_,?_,?_,aH⟩
 · rw[aW];exact gT.set 2 _
 · exact (U.ext af).an (W:=fun k=>k=b) (ao.set (.refl _ _) (fun _=>by rw[aW]) _) hd
 · exact ad.an (W:=fun k=>k=b) (ao.set (.refl _ _) (fun _=>by rw[aW]) _) c4
 · exact (ao.eQ af).set (fun _=>by rw[aW]) _
def HQ (x:Nat):Nat:=(x.testBit 0).toNat+(x.testBit 1).toNat+(x.testBit 2).toNat+(x.testBit 3).toNat+(x.testBit 4).toNat+(x.testBit 5).toNat+(x.testBit 6).toNat+(x.testBit 7).toNat
def mR (t:Nat→Bool):Nat→Nat
 |0=>0
 |k+1=>mR t k+(t k).toNat
theorem HR (t:Nat→Bool):∀k,mR t k≤k
 |0=>cV _
 |k+1=>by have:=HR t k;have:=Bool.toNat_le (t k);simp only[mR];omega
theorem amQ (t:Nat→Bool) (i:Nat):mR t (8*(i+1))=mR t (8*i)+HQ (byteOf t i):=by
 have h:∀j,j<8→(byteOf t i).testBit j=t (8*i+j):=fun j a_=>Fw t i j a_
 unfold HQ
 rw[h 0 (by omega),h 1 (by omega),h 2 (by omega),h 3 (by omega),h 4 (by omega),h 5 (by omega),h 6 (by omega),h 7 (by omega)]
 show mR t (8*i+7+1)=_
 simp only[mR,zV]
 omega
theorem aaF (t:Nat→Bool) (n:Nat) (h:∀i,n≤i→t i=false):∀k,mR t (n+k)=mR t n
 |0=>rfl
 |k+1=>by
   have:=aaF t n h k
   show mR t (n+k)+(t (n+k)).toNat=_
   rw[this,h (n+k) (by omega)]
   rfl
theorem amR:∀x:Nat,x<256→(Tz (ByteArray.mk #[0,1,1,2,1,2,2,3,1,2,2,3,2,3,3,4,1,2,2,3,2,3,3,4,2,3,3,4,3,4,4,5,1,2,2,3,2,3,3,4,2,3,3,4,3,4,4,5,2,3,3,4,3,4,4,5,3,4,4,5,4,5,5,6,1,2,2,3,2,3,3,4,2,3,3,4,3,4,4,5,2,3,3,4,3,4,4,5,3,4,4,5,4,5,5,6,2,3,3,4,3,4,4,5,3,4,4,5,4,5,5,6,3,4,4,5,4,5,5,6,4,5,5,6,5,6,6,7,1,2,2,3,2,3,3,4,2,3,3,4,3,4,4,5,2,3,3,4,3,4,4,5,3,4,4,5,4,5,5,6,2,3,3,4,3,4,4,5,3,4,4,5,4,5,5,6,3,4,4,5,4,5,5,6,4,5,5,6,5,6,6,7,2,3,3,4,3,4,4,5,3,4,4,5,4,5,5,6,3,4,4,5,4,5,5,6,4,5,5,6,5,6,6,7,3,4,4,5,4,5,5,6,4,5,5,6,5,6,6,7,4,5,5,6,5,6,6,7,5,6,6,7,6,7,7,8]) x).map (·.toNat)=some (HQ x):=by decide+kernel
theorem aaG (x:Nat):HQ x≤8:=by
 unfold HQ
 have h:∀b:Bool,b.toNat≤1:=Bool.toNat_le
 have:=h (x.testBit 0);have:=h (x.testBit 1);have:=h (x.testBit 2);have:=h (x.testBit 3)
 have:=h (x.testBit 4);have:=h (x.testBit 5);have:=h (x.testBit 6);have:=h (x.testBit 7)
 omega
theorem amS (w:World) (x:Nat) (af:x<256):aQ Tryz.prog F.Dp #[.int .u8 x] w (fun v w'=>v= .int .i64 (HQ x)∧w=w'):=by
 refine W.amT x w _ ?_
 delta W.Dp aC
 have h:=amR x af
 refine ⟨by omega,?_⟩
 cases ab:Tz _ x with
 |none=>rw[ab] at h;cases h
 |some y=>
   rw[ab] at h
   simp only[yg,Option.some.injEq] at h
   refine ⟨y,ab,?_,rfl⟩
   rw[h,cz (by omega) (by have:=aaG x;omega)]
theorem amU (f g:Nat→Bool) (i:Nat):byteOf f i|||byteOf g i=byteOf (fun k=>f k||g k) i:=
 Tr _ _ _ (Ts _ (xE _ _) _ (xE _ _)) fun j a_=>by rw[Ch,Fw _ _ _ a_,Fw _ _ _ a_]
theorem TA (h:mF w b n f g s1 s2):
   aQ Tryz.prog F.y5 #[.pointer (some ⟨b,0,none⟩)] w (fun v w'=>v= .int .i64 ((n:Int)-mR (fun i=>f i||g i) n)∧Ext w w'):=by
 have oz:=h.db
 have rz:=Ty h.now
 have aap:=Ty h.sure
 refine W.amV _ w _ ?_
 (delta W.y5 ay aB bI aq a7 h8 aT aC;dsimp only)
 refine ⟨fun U=>by simp at U,fun _=>⟨_,rfl,n,h.cH,_,rfl,s1,h.aT,fun r i w'=>∃k:Nat,i=k∧k≤s1.len∧Ext w w'∧r=(n:Int)-mR (fun i=>f i||g i) (8*k),fun _ i _=>((s1.len:Int)-i).toNat,⟨0,rfl,by omega, .refl _ _,by simp[mR]⟩,?_⟩⟩
 rintro _ _ ag ⟨k,rfl,ae,af,rfl⟩
 refine ⟨fun bd=> ?_,fun cg=> ?_⟩
 · have y4:k<s1.len:=by simpa using bd
   have U:=h.ext af.drew
   obtain ⟨c3,aT,nA,av2,_,_,_,iN,_⟩:=U.now.cell (Fx f (i:=k) (by omega))
   obtain ⟨cG,bC,gT,av3,_,_,_,dY,_⟩:=U.sure.cell (Fx g (i:=k) (by omega))
   have aR:∀b:Nat,(Addr.mk b 0 none).add (Int.toNat (k:Int)*1)=⟨b,k,none⟩:=fun b=>by rw[lU,gY,aW,gz]
   refine ⟨fun _=>False,_,rfl,by simp,s1,U.aT,_,nA,by omega,by simp,_,by rw[aR];exact iN,_,rfl,by simp,s2,U.bC,_,gT,by omega,by simp,_,by rw[aR];exact dY,?_⟩
   rw[amh _ _ (xE _ _) (xE _ _),amU]
   refine (amS _ _ (xE _ _)).use ?_
   rintro _ _ ⟨rfl,rfl⟩
   have:=aaG (byteOf (fun i=>f i||g i) k)
   have:=HR (fun i=>f i||g i) (8*k)
   refine ⟨_,rfl, .refl _ _,?_⟩
   rw[cz (n:=(n:Int)-_-_) (by omega) (by omega),cz (n:=(k:Int)+1) (by omega) (by omega)]
   exact ⟨⟨k+1,by omega,by omega,af.drew,by rw[amQ];omega⟩,(show ((s1.len:Int)-((k:Int)+1)).toNat<((s1.len:Int)-(k:Int)).toNat by omega)⟩
 · have y4:k=s1.len:=by
     have:¬(k:Int)<s1.len:=by simpa using cg
     omega
   refine ⟨?_,af⟩
   have e:8*k=n+(8*k-n):=by omega
   rw[e,aaF _ _ (fun i hi=>by simp[h.HO i hi,h.hW i hi])]
def uq (f:Nat→Bool):Nat→List Int
 |0=> []
 |k+1=>uq f k++(if f k then [(k:Int)] else [])
def vQ (f:Nat→Bool) (k:Nat):List Value:=(uq f k).map (.int .i64)
theorem TB (f:Nat→Bool):∀k,(uq f k).length≤k
 |0=>cV _
 |k+1=>by have:=TB f k;simp only[uq,dU];split<;>simp<;>omega
theorem TC (h:mF w b n f g s1 s2):
   aQ Tryz.prog F.y6 #[.pointer (some ⟨b,0,none⟩)] w (fun v w'=>∃s:aa,v= .slice s.a s.len s.cap∧bV 1 ah.int w' s (vQ f n)∧Ext w w'∧∀k,aO s k→w.heap.size≤k):=by
 have oz:=h.db
 refine W.amW _ w _ ?_
 (delta W.y6 ay aB bI aq ba ai aC;dsimp only)
 refine ⟨fun U=>by simp at U,fun _=>⟨_,rfl,n,h.cH,fun s i w'=>∃k:Nat,i=k∧k≤n∧Ext w w'∧bV 1 ah.int w' s (vQ f k)∧∀k,aO s k→w.heap.size≤k,fun _ i _=>((n:Int)-i).toNat,
   ⟨0,rfl,by omega, .refl _ _,bV.none _ _ _,fun k ae=>(qJ k ae).elim⟩,?_⟩⟩
 rintro s _ ag ⟨k,rfl,ae,af,jV,gg⟩
 refine ⟨fun bd=> ?_,fun cg=> ?_⟩
 · have y4:k<n:=by simpa using bd
   have U:=h.ext af
   refine eA (fun ar w'=>Ext w w'∧bV 1 ah.int w' ar (vQ f (k+1))∧∀k,aO ar k→w.heap.size≤k) (fun q J=>⟨_,rfl,s1,U.aT,(Fy U.now (k:=k) (by omega) (by omega)).use ?_⟩) ?_
   · rintro _ _ ⟨rfl,rfl⟩
     refine ⟨_,rfl,fun aH=> ?_,fun aH=> ?_⟩
     · have hlen:s.len≤k:=by
         have:=jV.1
         have:=TB f k
         simp[vQ] at*
         omega
       obtain ⟨ar,w',U,ad,au,aJ,a6⟩:=amJ.push (eB:=ah.eg) (xs:=[.int .i64 k]) rfl jV (by simp[Plain]) (by omega)
       refine ⟨ar,w',U,J _ _ ⟨?_,?_,?_⟩⟩
       · exact ((ao.eQ af).trans aJ).mono fun k ae bQ=>by have:=gg k bQ;omega
       · simpa[vQ,uq,aH] using ad
       · intro j a_
         rcases a6 j a_ with a_|a_
         · exact gg j a_
         · have:=af.size;omega
     · exact J _ _ ⟨af,by simpa[vQ,uq,aH] using jV,gg⟩
   · rintro ar w' ⟨JZ,amX,TD⟩
     rw[cz (by omega) (by omega)]
     exact ⟨⟨k+1,by omega,by omega,JZ,amX,TD⟩,(show ((n:Int)-((k:Int)+1)).toNat<((n:Int)-(k:Int)).toNat by omega)⟩
 · have y4:k=n:=by
     have:¬(k:Int)<n:=by simpa using cg
     omega
   subst y4
   exact ⟨s,rfl,jV,af,gg⟩
end
theorem amY (w:World) (n:Int):aQ Tryz.prog F.Dq #[.int .i64 n] w (fun v w'=>v= .bool (decide (1≤n∧n≤1600))∧w=w'):=by
 refine W.amZ n w _ ?_
 unfold W.Dq
 refine ⟨?_,rfl⟩
 simp[Bool.decide_and]
theorem am0 (w:World) (n:Nat) (aD:n≤1600):aQ Tryz.prog F.Dr #[.int .i64 n] w (fun v w'=>v= .int .i64 (((n+7)/8:Nat):Int)∧w=w'):=by
 refine W.am1 n w _ ?_
 delta W.Dr aC
 refine ⟨by decide,?_,rfl⟩
 rw[cz (n:=(n:Int)+8) (by omega) (by omega),cz (n:=(n:Int)+8-1) (by omega) (by omega),show (n:Int)+8-1=((n+7:Nat):Int) by omega,aaB,cz (by omega) (by omega)]
theorem am2 (m:Nat):ly (fun i=>decide (i<0)) m=List.replicate m (.int .u8 0):=by
 apply List.ext_getElem
 · simp[ly]
 · intro i U ad
   simp[ly,byteOf,xD]
theorem am3 (j:Nat):km (fun i=>decide (i<j)) j true=fun i=>decide (i<j+1):=by
 funext i
 unfold km
 split
 · rename_i h;simp[h]
 · rename_i h;simp;omega
theorem y7 (w:World) (n first:Int):
   aQ Tryz.prog F.y7 #[.int .i64 n, .int .i64 first] w (fun v w'=>(¬(1≤n∧n≤1600∧0≤first∧first≤n)∧v= .tuple #[.pointer none, .int .i64 1]∧w=w')∨
     (1≤n∧n≤1600∧0≤first∧first≤n∧∃b s1 s2,v= .tuple #[.pointer (some ⟨b,0,none⟩), .int .i64 0]∧mF w' b n.toNat (fun i=>decide (i<first.toNat)) (fun i=>decide (i<first.toNat)) s1 s2∧Ext w w'∧∀k,ti b s1 s2 k→w.heap.size≤k)):=by
 refine W.am4 n first w _ ?_
 (delta W.y7 ay ba aB aT yp ai aq bC aC;dsimp only)
 refine (amY w n).use ?_
 rintro _ _ ⟨rfl,rfl⟩
 refine ⟨_,rfl,fun h=> .inl ⟨fun al=> ?_,rfl,rfl⟩,fun h=> ?_⟩
 · simp at h;omega
 simp at h
 obtain ⟨⟨⟨mz,oz⟩,pH⟩,pI⟩:=h
 obtain ⟨n,rfl⟩:=Nz (by omega:0≤n)
 obtain ⟨first,rfl⟩:=Nz (by omega:0≤first)
 refine (am0 w n (by omega)).use ?_
 rintro _ _ ⟨rfl,rfl⟩
 refine ⟨_,rfl,by omega,?_⟩
 simp only[gY]
 rw[amK]
 obtain ⟨m,hm⟩:∃m,m=(n+7)/8:=⟨_,rfl⟩
 rw[←hm]
 have jV:=bV.new (sz:=1) (T:=ah.uint8) w (List.replicate m (.int .u8 0)) m (by simp) (by show m≤2^63-1;omega)
 rw[←am2] at jV⊢
 have ax:Ext w (w.alloc (.cells (ly (fun i=>decide (i<0)) m).toArray ah.uint8)):=ao.alloc (.refl _ _) _
 generalize xv:w.alloc (.cells (ly (fun i=>decide (i<0)) m).toArray ah.uint8)=ag at*
 have dR:ag.heap.size=w.heap.size+1:=by rw[←xv];simp
 have jf:=ct.new ag #[.int .i64 (n:Int), .slice (some ⟨w.heap.size,0,none⟩) m m, .slice none 0 0] ah.Dg
 have fw:=ao.alloc ax (.cells #[.int .i64 (n:Int), .slice (some ⟨w.heap.size,0,none⟩) m m, .slice none 0 0] ah.Dg)
 have am5:=jV.ext (ao.alloc (.refl _ ag) (.cells #[.int .i64 (n:Int), .slice (some ⟨w.heap.size,0,none⟩) m m, .slice none 0 0] ah.Dg))
 refine ⟨fun i w'=>∃j:Nat,i=j∧j≤first∧Ext w w'∧ct w' ag.heap.size #[.int .i64 (n:Int), .slice (some ⟨w.heap.size,0,none⟩) m m, .slice none 0 0] ah.Dg∧
   bV 1 ah.uint8 w' ⟨some ⟨w.heap.size,0,none⟩,m,m⟩ (ly (fun i=>decide (i<j)) m),fun i _=>((first:Int)-i).toNat,⟨0,rfl,by omega,fw,jf,am5⟩,?_⟩
 rintro _ aw ⟨j,rfl,a_,af,gT,vf⟩
 refine ⟨fun bd=> ?_,fun cg=> ?_⟩
 · have EX:j<first:=by simpa using bd
   refine ⟨_,rfl,⟨some ⟨w.heap.size,0,none⟩,m,m⟩,by rw[aW,gT.cell];rfl,(aaD vf (k:=j) (by omega) (by omega)).use ?_⟩
   rintro _ aS ⟨rfl,sk,al⟩
   rw[am3] at sk
   rw[cz (by omega) (by omega)]
   refine ⟨rfl,⟨j+1,by omega,by omega,?_,gT.an al ?_,sk⟩,(show ((first:Int)-((j:Int)+1)).toNat<((first:Int)-(j:Int)).toNat by omega)⟩
   · exact ((ao.eQ af).trans al).mono fun k ae bQ=>by rw[vR] at bQ;simp at bQ;omega
   · intro bQ
     rw[vR] at bQ
     simp at bQ
     omega
 · have EX:j=first:=by
     have:¬(j:Int)<first:=by simpa using cg
     omega
   subst EX
   have Fz:∀i,n≤i→decide (i<j)=false:=fun i hi=>by simp;omega
   refine (amO gT vf (fun k ae e=> ?_) (by omega)).use ?_
   · rw[vR] at ae
     simp at ae
     omega
   rintro _ aS ⟨rfl,xF,U,ad,au,aJ,a6⟩
   have Sg:=gT.lt
   refine ⟨rfl, .inr ⟨by omega,by omega,by omega,by omega,ag.heap.size,⟨some ⟨w.heap.size,0,none⟩,m,m⟩,xF,rfl,⟨U,?_,?_,fun k ae=>⟨fun e=> ?_,fun eC=> ?_⟩,fun k ae e=> ?_,by omega,by omega,Fz,Fz⟩,?_,?_⟩⟩
   · simp only[←hm];exact ad
   · simp only[←hm];exact au
   · rw[vR] at ae
     simp at ae
     omega
   · rw[vR] at ae
     simp at ae
     have:=a6 k eC
     omega
   · have:=a6 k ae
     omega
   · exact ((ao.eQ af).trans aJ).mono fun k ae e=>by omega
   · rintro k (rfl|ae|ae)
     · omega
     · rw[vR] at ae
       simp at ae
       omega
     · have:=a6 k ae
       have:=af.size
       omega
end
section
structure aX where
 cl:Nat
 gen:Nat
 root:Nat
 bw:Nat
 C:eZ
 eK:Nat
 n:Nat
 f:Nat→Bool
 g:Nat→Bool
 s1:aa
 s2:aa
 E:Nat→Prop
 G:Nat→Prop
 P:Nat→Option aM
def aX.dw (T:aX) (E G:Nat→Prop):aX:={T with E:=E,G:=G}
def aX.cP (T:aX) (C:eZ) (P:Nat→Option aM):aX:={T with C:=C,P:=P}
def aX.X (T:aX) (q:Nat):Prop:=q=T.cl∨ti T.eK T.s1 T.s2 q∨T.E q∨T.G q
def aX.M (T:aX) (q:Nat):Prop:=iV T.C q∨T.X q
def aX.N (T:aX) (q:Nat):Prop:=iV T.C q∨q=T.cl∨ti T.eK T.s1 T.s2 q∨T.G q
theorem aX.k7 {T:aX} {q:Nat} (h:T.N q):T.M q:=h.imp id (Or.imp id (Or.imp id .inr))
def ur (gen:Nat) (leaf:Bool) (no:Nat) (l:mD) (n:aM):Prop:=
 ∃p:tV,mv (no:Int) l= .ok p∧p.gen≤gen∧p.kind=(if leaf then 1 else 2)∧ym leaf p.body n
def FA (T:aX):List Value:=[.pointer (some ⟨T.C.c,0,none⟩), .pointer (some ⟨T.eK,0,none⟩), .int .u64 (T.gen:Nat), .int .i64 (T.root:Nat), .int .i64 (T.bw:Nat)]
structure c6 (w:World) (T:aX):Prop where
 t:Var w T.cl (FA T) ah.HS
 s:mF w T.eK T.n T.f T.g T.s1 T.s2
 oF:nc T.X w T.C
 Ds:¬ti T.eK T.s1 T.s2 T.cl
 ij:∀q,T.E q→q≠T.cl∧¬ti T.eK T.s1 T.s2 q∧¬T.G q
 uu:∀q,T.G q→q≠T.cl∧¬ti T.eK T.s1 T.s2 q
 n:T.C.D.n=T.n
 num:T.root<T.n∧T.bw≤12∧T.gen<18446744073709551616
 l_:∀no dT,T.P no=some dT→no<T.n∧ur T.gen dT.leaf no (T.C.view no) dT
structure b5 (T av:aX) (w w':World) (k:Nat):Prop where
 cl:av.cl=T.cl
 eK:av.eK=T.eK
 n:av.n=T.n
 g:av.g=T.g
 s1:av.s1=T.s1
 s2:av.s2=T.s2
 c:av.C.c=T.C.c
 d:av.C.D.d=T.C.D.d
 gQ:av.C.D.key=T.C.D.key
 gen:av.gen=T.gen
 cR:av.C.D.cR≤T.C.D.cR+k
 calm:∀m,T.C.D.calm (m+k)→av.C.D.calm m
 an:ao T.N w w'
 jj:∀q,av.M q→T.M q∨w.heap.size≤q
 fn:∀q,av.N q→T.N q∨w.heap.size≤q
theorem b5.refl (T:aX) (w:World):b5 T T w w 0:=⟨rfl,rfl,rfl,rfl,rfl,rfl,rfl,rfl,rfl,rfl,cV _,fun _ h=>h, .refl _ _,fun _ h=> .inl h,fun _ h=> .inl h⟩
theorem b5.ext {w w':World} (T:aX) (h:Ext w w'):b5 T T w w' 0:=⟨rfl,rfl,rfl,rfl,rfl,rfl,rfl,rfl,rfl,rfl,cV _,fun _ h=>h,ao.eQ h,fun _ h=> .inl h,fun _ h=> .inl h⟩
theorem b5.trans {T av xG:aX} {w w' iG:World} {k l:Nat} (U:b5 T av w w' k) (ad:b5 av xG w' iG l):b5 T xG w iG (k+l):=by
 have aj:=U.an.size
 refine ⟨ad.cl.trans U.cl,ad.eK.trans U.eK,ad.n.trans U.n,ad.g.trans U.g,ad.s1.trans U.s1,ad.s2.trans U.s2,ad.c.trans U.c,ad.d.trans U.d,ad.gQ.trans U.gQ,ad.gen.trans U.gen,by have:=U.cR;have:=ad.cR;omega,
   fun m hm=>ad.calm m (U.calm (m+l) (by rw[show m+l+k=m+(k+l) by omega];exact hm)),na U.an ad.an fun q J h=>(U.fn q h).resolve_right (by omega),fun q J=> ?_,fun q J=> ?_⟩
 · rcases ad.jj q J with h|h
   · exact U.jj q h
   · exact .inr (by omega)
 · rcases ad.fn q J with h|h
   · exact U.fn q h
   · exact .inr (by omega)
theorem b5.mono {T av:aX} {w w':World} {k l:Nat} (h:b5 T av w w' k) (az:k≤l):b5 T av w w' l:=
 ⟨h.cl,h.eK,h.n,h.g,h.s1,h.s2,h.c,h.d,h.gQ,h.gen,by have:=h.cR;omega,fun m hm=>h.calm m (mE hm (by omega)),h.an,h.jj,h.fn⟩
theorem b5.dT {T av:aX} {w w':World} {k lo:Nat} (h:b5 T av w w' k) {n:aM} {K V D:aa} (aD:cd (fun q=>lo≤q∧¬T.M q) w n K V D):cd (fun q=>lo≤q∧¬av.M q) w' n K V D:=by
 have U:cd (fun q=>q<w.heap.size∧lo≤q∧¬T.M q) w n K V D:=aD.bz fun q J ab=>⟨J,ab⟩
 refine (cd.an U h.an fun q J hm=>J.2.2 (aX.k7 hm)).bz fun q _ ab=>⟨ab.2.1,fun hm=> ?_⟩
 rcases h.jj q hm with ad|ad
 · exact ab.2.2 ad
 · have:=ab.1;omega
section
variable {w w':World} {T av:aX}
theorem b5.step {W E G:Nat→Prop} {ag:World} {k:Nat} (h:b5 T av w ag k) (al:ao W ag w') (dq:∀q,W q→q<w.heap.size→T.N q) (fh:∀q,E q→av.E q∨av.G q∨w.heap.size≤q) (ih:∀q,G q→av.G q∨w.heap.size≤q):b5 T (av.dw E G) w w' k:=by
 refine ⟨h.cl,h.eK,h.n,h.g,h.s1,h.s2,h.c,h.d,h.gQ,h.gen,h.cR,h.calm,na h.an al fun q J hw=>dq q hw J,fun q J=> ?_,fun q J=> ?_⟩
 · rcases J with J|J|J|J|J
   · exact h.jj q (.inl J)
   · exact h.jj q (.inr (.inl J))
   · exact h.jj q (.inr (.inr (.inl J)))
   · rcases fh q J with U|U|U
     · exact h.jj q (.inr (.inr (.inr (.inl U))))
     · exact h.jj q (.inr (.inr (.inr (.inr U))))
     · exact .inr U
   · rcases ih q J with U|U
     · exact h.jj q (.inr (.inr (.inr (.inr U))))
     · exact .inr U
 · rcases J with J|J|J|J
   · exact h.fn q (.inl J)
   · exact h.fn q (.inr (.inl J))
   · exact h.fn q (.inr (.inr (.inl J)))
   · rcases ih q J with U|U
     · exact h.fn q (.inr (.inr (.inr U)))
     · exact .inr U
theorem b5.local {c7 uv iW TE:Nat→Prop} {ag:World} {k:Nat} (h:b5 (T.dw c7 iW) av ag w' k) (af:Ext w ag) (lz:∀q,c7 q→T.E q∨w.heap.size≤q) (AT:∀q,iW q→T.G q∨w.heap.size≤q)
   (wX:∀q,uv q→av.E q∨av.G q) (am6:∀q,TE q→av.G q):b5 T (av.dw uv TE) w w' k:=by
 have b7:b5 T (T.dw c7 iW) w ag 0:=(b5.ext T (w:=w) (w':=w) (ao.refl _ _)).step (W:=fun _=>False) af (fun _ h=>h.elim) (fun q h=>(lz q h).imp id .inr) AT
 have U:=b7.trans h
 rw[gz] at U
 exact U.step (W:=fun _=>False) (ao.refl _ _) (fun _ h=>h.elim) (fun q h=>(wX q h).imp id .inl) fun q h=> .inl (am6 q h)
theorem c6.lt (h:c6 w T) {q:Nat} (J:T.M q):q<w.heap.size:=by
 rcases J with J|J
 · exact h.oF.raw.lt J
 · exact (h.oF.inv.mQ q J).1
theorem c6.su (h:c6 w T) {q:Nat} (J:T.E q):¬T.N q:=by
 rintro (aD|aD|aD|aD)
 · exact (h.oF.inv.mQ q (.inr (.inr (.inl J)))).2 aD
 · exact (h.ij q J).1 aD
 · exact (h.ij q J).2.1 aD
 · exact (h.ij q J).2.2 aD
theorem c6.ext (h:c6 w T) (af:Ext w w'):c6 w' T:=⟨h.t.ext af,h.s.ext af,h.oF.ext af,h.Ds,h.ij,h.uu,h.n,h.num,h.l_⟩
theorem nc.grow {X Y W:Nat→Prop} {C:eZ} (h:nc X w C) (al:ao W w w') (dq:∀q,W q→q<w.heap.size→X q) (aaH:∀q,Y q→X q∨(w.heap.size≤q∧q<w'.heap.size)):nc Y w' C:=by
 have pt:ao X w w':=na (W:=X) (ao.refl _ _) al fun q J hw=>dq q hw J
 refine ⟨h.raw.an pt fun q J af=>(h.inv.mQ q af).2 J,h.inv.pins,fun f aH lr=> ?_,h.inv.un,fun q J=> ?_⟩
 · obtain ⟨no,aA,aE,aI,aL,cQ⟩:=h.inv.ok f aH lr
   have vP:bF (fun q=>q<w.heap.size∧¬iV C q∧¬X q) w f.b f.l:=bF.bz aI fun q J ab=>⟨J,ab⟩
   refine ⟨no,aA,aE,bF.bz (bF.an vP pt fun q J af=>J.2.2 af) fun q _ ab=>⟨ab.2.1,fun b3=> ?_⟩,aL,cQ⟩
   rcases aaH q b3 with U|U
   · exact ab.2.2 U
   · have:=ab.1;omega
 · rcases aaH q J with U|U
   · exact ⟨lE (h.inv.mQ q U).1 al.size,(h.inv.mQ q U).2⟩
   · exact ⟨U.2,fun aH=>by have:=h.raw.lt aH;omega⟩
theorem c6.grow {E G W:Nat→Prop} (h:c6 w T) (al:ao W w w') (dq:∀q,W q→q<w.heap.size→T.E q∨T.G q) (fh:∀q,E q→T.E q∨T.G q∨(w.heap.size≤q∧q<w'.heap.size)) (ih:∀q,G q→T.E q∨T.G q∨(w.heap.size≤q∧q<w'.heap.size)) (am7:∀q,E q→¬G q):c6 w' (T.dw E G):=by
 have O2:∀q,T.E q∨T.G q→q≠T.cl∧¬ti T.eK T.s1 T.s2 q:=fun q J=>by
   rcases J with J|J
   · exact ⟨(h.ij q J).1,(h.ij q J).2.1⟩
   · exact h.uu q J
 have pt:ao (fun q=>T.E q∨T.G q) w w':=na (W:=fun q=>T.E q∨T.G q) (ao.refl _ _) al fun q J hw=>dq q hw J
 have aD:∀q,T.E q∨T.G q∨(w.heap.size≤q∧q<w'.heap.size)→q≠T.cl∧¬ti T.eK T.s1 T.s2 q:=fun q J=>by
   rcases J with J|J|J
   · exact O2 q (.inl J)
   · exact O2 q (.inr J)
   · exact ⟨fun e=>by have ad:=h.lt (q:=q) (.inr (.inl e));omega,fun e=>by have ad:=h.lt (q:=q) (.inr (.inr (.inl e)));omega⟩
 have dS:∀q,T.E q∨T.G q∨(w.heap.size≤q∧q<w'.heap.size)→T.X q∨(w.heap.size≤q∧q<w'.heap.size):=fun q J=>by
   rcases J with J|J|J
   · exact .inl (.inr (.inr (.inl J)))
   · exact .inl (.inr (.inr (.inr J)))
   · exact .inr J
 refine ⟨h.t.an pt fun e=>(O2 _ e).1 rfl,h.s.an pt fun q J e=>(O2 q e).2 J,h.oF.grow al (fun q J az=> .inr (.inr (dq q J az))) fun q J=> ?_,h.Ds,fun q J=>⟨(aD q (fh q J)).1,(aD q (fh q J)).2,am7 q J⟩,fun q J=>aD q (ih q J),h.n,h.num,h.l_⟩
 rcases J with J|J|J|J
 · exact .inl (.inl J)
 · exact .inl (.inr (.inl J))
 · exact dS q (fh q J)
 · exact dS q (ih q J)
theorem c6.cells (h:c6 w T):w.cell? ⟨T.cl,0,none⟩=some (.pointer (some ⟨T.C.c,0,none⟩))∧w.cell? (Addr.add ⟨T.cl,0,none⟩ 1)=some (.pointer (some ⟨T.eK,0,none⟩))∧w.cell? (Addr.add ⟨T.cl,0,none⟩ 2)=some (.int .u64 (T.gen:Nat))∧
   w.cell? (Addr.add ⟨T.cl,0,none⟩ 3)=some (.int .i64 (T.root:Nat))∧w.cell? (Addr.add ⟨T.cl,0,none⟩ 4)=some (.int .i64 (T.bw:Nat)):=by
 rw[aW,aW,aW,aW]
 exact ⟨h.t.cell,h.t.cell,h.t.cell,h.t.cell,h.t.cell⟩
theorem c6.am8 (h:c6 w T) {no:Nat} (dd:no<T.n):(T.C.view no).length=256:=by
 unfold eZ.view
 cases aH:T.C.aF.find? fun f=>f.full&&f.no==(no:Int) with
 |some f=>
   have U:=ED aH
   have ad:=GS aH
   obtain ⟨m,au⟩:=h.oF.inv.ok f U (by
     have:(f.full&&f.no==(no:Int))=true:=ad
     exact (Bool.and_eq_true_iff.1 this).1)
   exact au.len
 |none=>exact h.oF.raw.dev.OM (by rw[h.n];exact dd)
theorem c6.TF {bx:eZ} {k:Nat} {P:Nat→Option aM} (h:c6 w T) (n1:nc T.X w' bx) (cy:lM T.C bx w w' k) (gA:∀no dT,P no=some dT→no<T.n∧ur T.gen dT.leaf no (bx.view no) dT):
   c6 w' (T.cP bx P)∧b5 T (T.cP bx P) w w' k:=by
 have af:=h.oF.inv.mQ
 have al:=cy.an
 refine ⟨⟨?_,h.s.an al fun q J aH=>(af q (.inr (.inl J))).2 aH,n1,h.Ds,h.ij,h.uu,?_,h.num,gA⟩,⟨rfl,rfl,rfl,rfl,rfl,rfl,cy.c,cy.d,cy.gQ,rfl,cy.cR,cy.calm,al.mono fun q _ J=> .inl J,?_,?_⟩⟩
 · have:=h.t.an al fun aH=>(af T.cl (.inl rfl)).2 aH
   unfold FA at this⊢
   rw[←cy.c] at this
   exact this
 · show bx.D.n=T.n
   rw[cy.n,h.n]
 · rintro q (J|J)
   · rcases cy.jj q J with U|U
     · exact .inl (.inl U)
     · exact .inr U
   · exact .inl (.inr J)
 · rintro q (J|J)
   · rcases cy.jj q J with U|U
     · exact .inl (.inl U)
     · exact .inr U
   · exact .inl (.inr J)
end
end
section
def am9 (T:aX) (leaf:Bool) (no:Nat) (e:Int):Prop:=
 (e=3∧¬T.C.D.calm 2)∨mv (no:Int) (T.C.view no)= .error e∨(e=4∧(∃p,mv (no:Int) (T.C.view no)= .ok p)∧∀n,¬ur T.gen leaf no (T.C.view no) n)
def FB (T:aX) (leaf:Bool) (no:Nat) (w:World) (v:Value) (w':World):Prop:=
 ∃bx:eZ,c6 w' (T.cP bx T.P)∧b5 T (T.cP bx T.P) w w' 2∧(∀j,bx.view j=T.C.view j)∧
   ((∃ (n:aM) (K V D:aa),v= .tuple #[e9 n K V D, .int .i64 0]∧ur T.gen leaf no (T.C.view no) n∧cd (fun q=>w.heap.size≤q∧¬(T.cP bx T.P).M q) w' n K V D)∨
     (∃e:Int,v= .tuple #[e9 pj bU bU bU, .int .i64 e]∧am9 T leaf no e∧e≠0))
theorem aaI {no:Int} {l:mD} {e:Int} (h:mv no l= .error e):e≠0:=by
 intro he
 subst he
 unfold mv at h
 repeat' split at h
 all_goals first|(injection h with h;exact absurd h (by decide))|cases h
theorem am_ {no:Int} {l:mD} {p:tV} (h:mv no l= .ok p):p.body.length≤256:=by
 unfold mv at h
 repeat' split at h
 all_goals first|(cases h;done)|skip
 rename_i U _ _ _ _ _
 injection h with h
 rw[←h]
 show (List.take _ (List.drop 24 l)).length≤256
 rw[d_,fG]
 omega
theorem aaJ {w':World} {h:Nat} {vs:List Value} (n g:Int) (s:aa) (ak:Var w' h vs ah.JW) (az:vs.length=3) {K:World→Prop} (bu:∀aw,Var aw h [.int .i64 n, .int .u64 g, .slice s.a s.len s.cap] ah.JW→ao (fun q=>q=h) w' aw→aw.heap.size=w'.heap.size→K aw):
   cZ w' ⟨h,0,none⟩ [.int .i64 n, .int .u64 g, .slice s.a s.len s.cap]∧(3:Nat)=3∧ay (setCells w' ⟨h,0,none⟩ 0 [.int .i64 n, .int .u64 g, .slice s.a s.len s.cap]) K:=by
 refine ⟨ak.dA (by rw[az];rfl) ?_,rfl,ek ak (us:=[.int .i64 n, .int .u64 g, .slice s.a s.len s.cap]) (by rw[az];rfl) rfl bu⟩
 intro v ak
 simp only[gb,m4,m5] at ak
 rcases ak with rfl|rfl|rfl<;>trivial
theorem TG {w:World} {T:aX} (h:c6 w T) (gC:T.C.D.cR≤999999999) {no:Nat} (dd:no<T.n) (leaf:Bool):
   aQ Tryz.prog F.sB #[.pointer (some ⟨T.cl,0,none⟩), .int .i64 ((no:Nat):Int), .bool leaf] w (FB T leaf no w):=by
 have oz:=h.s.db
 have jq:=h.am8 dd
 refine W.ana (some ⟨T.cl,0,none⟩) ((no:Nat):Int) leaf w _ ?_
 (delta W.sB dx gl aB TH ai O3 bS aq aaK z3 kU bI J4 uw;dsimp only)
 refine cn (vs:=[.bool false, .slice none 0 0, .slice none 0 0, .slice none 0 0]) rfl fun ag m8 bD ky=> ?_
 obtain ⟨iW,AT⟩:∃iW,iW=fun q=>T.G q∨q=w.heap.size:=⟨_,rfl⟩
 have aaL:iW w.heap.size:=by rw[AT];exact .inr rfl
 have TI:∀q,T.G q→iW q:=fun q J=>by rw[AT];exact .inl J
 have TJ:∀q,iW q→T.G q∨q=w.heap.size:=fun q J=>by rw[AT] at J;exact J
 have U:c6 ag (T.dw T.E iW):=h.grow (W:=fun _=>False) bD (fun _ h=>h.elim) (fun q J=> .inl J) (fun q J=> .inr ((TJ q J).imp id fun e=>⟨by omega,by omega⟩)) fun q J bf=>by
   rcases TJ q bf with ad|ad
   · exact (h.ij q J).2.2 ad
   · have:=h.lt (q:=q) (.inr (.inr (.inr (.inl J))));omega
 refine ⟨_,rfl,_,U.cells.1,(alO U.oF gC (no:=no) (by rw[U.n];exact dd)).use ?_⟩
 rintro _ bp ⟨bx,n1,cy,ak,eT⟩
 obtain ⟨aJ,anb⟩:=U.TF (P:=T.P) n1 cy (fun no dT aZ=>by rw[ak];exact U.l_ no dT aZ)
 have J5:=cy.an.size
 have Kq:Var bp w.heap.size [.bool false, .slice none 0 0, .slice none 0 0, .slice none 0 0] ah.cO:=m8.an cy.an fun aH=>(U.oF.inv.mQ _ (.inr (.inr (.inr aaL)))).2 aH
 have fin:∀w':World,ao (fun q=>q=w.heap.size) bp w'→c6 w' (T.cP bx T.P)∧b5 T (T.cP bx T.P) w w' 2:=fun w' al=>by
   refine ⟨aJ.grow (E:=T.E) (G:=T.G) al (fun q e _=> .inr (by rw[e];exact aaL)) (fun q J=> .inl J) (fun q J=> .inr (.inl (TI q J))) fun q J=>(h.ij q J).2.2,?_⟩
   have a6:=anb.local bD (fun q J=> .inl J) (fun q J=>(TJ q J).imp id fun e=>by omega) (uv:=T.E) (TE:=T.G) (fun q J=> .inl J) TI
   exact a6.step al (fun q e az=>by omega) (fun q J=> .inl J) fun q J=> .inl J
 have anc:∀ {w':World} {n:aM} {K V D:aa} {B:Nat→Prop},cd (fun q=>bp.heap.size≤q) w' n K V D→cd (fun q=>w.heap.size≤q∧¬(T.cP bx T.P).M q) w' n K V D:=fun aD=>by
   refine aD.bz fun q _ J=>⟨by omega,fun hm=> ?_⟩
   have:q<bp.heap.size:=aJ.lt (q:=q) (by
     rcases hm with hm|hm|hm|hm|hm
     · exact .inl hm
     · exact .inr (.inl hm)
     · exact .inr (.inr (.inl hm))
     · exact .inr (.inr (.inr (.inl hm)))
     · exact .inr (.inr (.inr (.inr (TI q hm)))))
   omega
 rcases eT with ⟨s,rfl,aj⟩|⟨rfl,fj⟩
 · refine ⟨s,0,rfl,fun ab=>(by cases ab),fun _=>(yv aj.1 aj.2.1 (by show (T.C.view no).length≤1000;rw[jq];omega) _).use ?_⟩
   rintro _ b2 ⟨FC,jH⟩
   have Ko:=Kq.ext jH
   have SL:=jH.size
   have aY:(T.dw T.E iW).C.view no=T.C.view no:=rfl
   rw[aY] at FC
   cases lA:mv ((no:Nat):Int) (T.C.view no) with
   |error e=>
     rw[lA] at FC
     obtain rfl:=FC
     refine ⟨0,0,⟨none,0,0⟩,e,rfl,cn (vs:=[.int .i64 0, .int .u64 0, .slice none 0 0]) rfl fun dp AU ux Dt=> ?_⟩
     refine aaJ 0 0 ⟨none,0,0⟩ AU rfl fun cB FD AV TK=>⟨fun _=> ?_,fun ab=> ?_⟩
     · have O4:Var cB w.heap.size [.bool false, .slice none 0 0, .slice none 0 0, .slice none 0 0] ah.cO:=(Ko.ext ux).an AV (by omega)
       refine rD false bU bU bU O4 rfl (Q:=fun b K V D aw=>FB T leaf no w (.tuple #[.agg #[.bool b, .slice K.a K.len K.cap, .slice V.a V.len V.cap, .slice D.a D.len D.cap], .int .i64 e]) aw) fun bH l0=> ?_
       obtain ⟨f1,f2⟩:=fin bH (na (W:=fun q=>q=w.heap.size) (ao.eQ (Ext.eX (jH.trans ux) AV (by omega))) l0 fun q _ e=>e)
       exact ⟨bx,f1,f2,ak, .inr ⟨e,rfl, .inr (.inl lA),aaI lA⟩⟩
     · have:=aaI lA
       simp at ab;omega
   |ok p=>
     rw[lA] at FC
     obtain ⟨ar,rfl,mA,gg⟩:=FC
     refine ⟨p.kind,p.gen,ar,0,rfl,cn (vs:=[.int .i64 0, .int .u64 0, .slice none 0 0]) rfl fun dp AU ux Dt=> ?_⟩
     refine aaJ p.kind p.gen ar AU rfl fun cB FD AV TK=>⟨fun ab=>(by cases ab),fun _=>bL ?_⟩
     have O4:Var cB w.heap.size [.bool false, .slice none 0 0, .slice none 0 0, .slice none 0 0] ah.cO:=(Ko.ext ux).an AV (by omega)
     have o3:Ext bp cB:=Ext.eX (jH.trans ux) AV (by omega)
     have bA:Ext bp cB.drew:=o3.trans (dL _)
     have xi:Var cB.drew w.heap.size [.bool false, .slice none 0 0, .slice none 0 0, .slice none 0 0] ah.cO:=O4.drew
     have HT:=FD.drew
     have rO:=(aJ.ext bA).cells
     obtain ⟨b,ab⟩:∃b,b=b2.heap.size:=⟨_,rfl⟩
     rw[←ab] at HT⊢
     have TL:cB.drew.cell? ⟨b,0,none⟩=some (.int .i64 (p.kind:Nat)):=HT.cell
     have iN:cB.drew.cell? (Addr.add ⟨b,0,none⟩ 1)=some (.int .u64 (p.gen:Nat)):=by rw[aW];exact HT.cell
     have dY:cB.drew.cell? (Addr.add ⟨b,0,none⟩ 2)=some (.slice ar.a ar.len ar.cap):=by rw[aW];exact HT.cell
     have dR:bp.heap.size≤cB.drew.heap.size:=bA.size
     refine ⟨id,_,iN,_,rfl,id,_,rO.2.2.1,fun bf=> ?_,fun bf=>⟨id,_,TL,?_⟩⟩
     · have bf:T.gen<p.gen:=by
         have:((p.gen:Nat):Int)>((T.gen:Nat):Int):=dD bf
         omega
       refine eA (fun b w'=>b=true∧w'=cB.drew) (fun q J=>⟨fun _=>J _ _ ⟨rfl,rfl⟩,fun h=>by cases h⟩) ?_
       rintro _ _ ⟨rfl,rfl⟩
       refine ⟨fun _=> ?_,fun h=>(by cases h)⟩
       refine rD false bU bU bU xi rfl (Q:=fun b K V D aw=>FB T leaf no w (.tuple #[.agg #[.bool b, .slice K.a K.len K.cap, .slice V.a V.len V.cap, .slice D.a D.len D.cap], .int .i64 4]) aw) fun bH l0=> ?_
       obtain ⟨f1,f2⟩:=fin bH (na (W:=fun q=>q=w.heap.size) (ao.eQ bA) l0 fun q _ e=>e)
       refine ⟨bx,f1,f2,ak, .inr ⟨4,rfl, .inr (.inr ⟨rfl,⟨p,lA⟩,?_⟩),by decide⟩⟩
       rintro n ⟨e0,aA,aE,_⟩
       rw[lA] at aA;cases aA
       omega
     · have bf:p.gen≤T.gen:=by
         have:¬((p.gen:Nat):Int)>((T.gen:Nat):Int):=eW bf
         omega
       refine eA (fun b w'=>w'=cB.drew∧(b=false↔p.kind=(if leaf then 1 else 2))) (fun q J=>⟨fun h=>J _ _ ⟨rfl,?_⟩,fun h=>⟨_,TL,eA (fun b w'=>w'=cB.drew∧(b=false↔p.kind=(if leaf then 1 else 2))) (fun r aN=>⟨fun ad=>⟨_,TL,aN _ _ ⟨rfl,?_⟩⟩,fun ad=>aN _ _ ⟨rfl,?_⟩⟩) fun b w' ane=>J b w' ane⟩⟩) ?_
       · refine ⟨fun h=>(by cases h),fun ae=> ?_⟩
         rw[ae] at h
         cases leaf<;>simp at h
       · cases leaf
         · simp
           exact Int.ofNat_inj
         · simp at ad h;omega
       · cases leaf
         · simp at ad h;omega
         · simp at ad
           simp
           omega
       rintro jo _ ⟨rfl,ae⟩
       refine ⟨fun ab=> ?_,fun ab=>⟨_,dY,(wU ((mA.ext (Ext.eX ux AV (by omega)|>.trans (dL _))).src) ?_ ?_ ?_ leaf).use ?_⟩⟩
       · refine rD false bU bU bU xi rfl (Q:=fun b K V D aw=>FB T leaf no w (.tuple #[.agg #[.bool b, .slice K.a K.len K.cap, .slice V.a V.len V.cap, .slice D.a D.len D.cap], .int .i64 4]) aw) fun bH l0=> ?_
         obtain ⟨f1,f2⟩:=fin bH (na (W:=fun q=>q=w.heap.size) (ao.eQ bA) l0 fun q _ e=>e)
         refine ⟨bx,f1,f2,ak, .inr ⟨4,rfl, .inr (.inr ⟨rfl,⟨p,lA⟩,?_⟩),by decide⟩⟩
         rintro n ⟨e0,aA,aE,aI,_⟩
         rw[lA] at aA;cases aA
         rw[ae.2 aI] at ab;cases ab
       · exact mA.2.1
       · intro k ae
         have:=bV.lt mA k ae
         have:=ux.size
         show k<cB.heap.size
         omega
       · have:=am_ lA
         omega
       rintro _ mb ⟨anf,AW⟩
       have aaM:Ext bp mb:=bA.trans AW
       have O5:=xi.ext AW
       rcases anf with ⟨n,K,V,D,rfl,dM,hG⟩|⟨rfl,KS⟩
       · refine ⟨n.leaf,K,V,D,0,rfl,?_⟩
         refine rD n.leaf K V D O5 rfl (Q:=fun b K V D aw=>FB T leaf no w (.tuple #[.agg #[.bool b, .slice K.a K.len K.cap, .slice V.a V.len V.cap, .slice D.a D.len D.cap], .int .i64 0]) aw) fun bH l0=> ?_
         obtain ⟨f1,f2⟩:=fin bH (na (W:=fun q=>q=w.heap.size) (ao.eQ aaM) l0 fun q _ e=>e)
         refine ⟨bx,f1,f2,ak, .inl ⟨n,K,V,D,rfl,⟨p,lA,bf,ae.1 ab,dM⟩,?_⟩⟩
         refine anc (B:=fun _=>True) (cd.an (hG.bz fun q _ J=> ?_) l0 fun q J e=> ?_)
         · omega
         · have:bp.heap.size≤q:=J
           omega
       · refine ⟨false,bU,bU,bU,4,rfl,?_⟩
         refine rD false bU bU bU O5 rfl (Q:=fun b K V D aw=>FB T leaf no w (.tuple #[.agg #[.bool b, .slice K.a K.len K.cap, .slice V.a V.len V.cap, .slice D.a D.len D.cap], .int .i64 4]) aw) fun bH l0=> ?_
         obtain ⟨f1,f2⟩:=fin bH (na (W:=fun q=>q=w.heap.size) (ao.eQ aaM) l0 fun q _ e=>e)
         refine ⟨bx,f1,f2,ak, .inr ⟨4,rfl, .inr (.inr ⟨rfl,⟨p,lA⟩,?_⟩),by decide⟩⟩
         rintro n ⟨e0,aA,aE,aI,aL⟩
         rw[lA] at aA;cases aA
         exact KS n aL
 · refine ⟨⟨none,0,0⟩,3,rfl,fun _=> ?_,fun ab=>(by cases ab)⟩
   refine rD false bU bU bU Kq rfl (Q:=fun b K V D aw=>FB T leaf no w (.tuple #[.agg #[.bool b, .slice K.a K.len K.cap, .slice V.a V.len V.cap, .slice D.a D.len D.cap], .int .i64 3]) aw) fun bH l0=> ?_
   obtain ⟨f1,f2⟩:=fin bH l0
   exact ⟨bx,f1,f2,ak, .inr ⟨3,rfl, .inl ⟨rfl,fj⟩,by decide⟩⟩
end
section
structure gD where
 no:Nat
 n:aM
 e2:Nat
 K:aa
 V:aa
 D:aa
def gD.c (s:gD):List Value:=[.int .i64 (s.no:Nat), .bool s.n.leaf, .slice s.K.a s.K.len s.K.cap, .slice s.V.a s.V.len s.V.cap, .slice s.D.a s.D.len s.D.cap, .int .i64 (s.e2:Nat)]
def gD.st (s:gD):Nat×aM×Nat:=(s.no,s.n,s.e2)
theorem Du (l:List gD):∀x∈l,(gD.c x).length=6:=fun _ _=>rfl
structure uy (B:Nat→Prop) (w:World) (s:aa) (l:List gD):Prop where
 own:bV 6 ah.uz w s (cI gD.c l)
 FE:∀q,aO s q→B q
 dT:∀x∈l,cd B w x.n x.K x.V x.D
def Dv (P:Nat→Option aM) (k:Key):Nat→Nat→List (Nat×aM×Nat)→Prop
 |0,_,l=>l=[]
 |h+1,no,l=>∃n rest,P no=some n∧n.leaf=decide (h=0)∧l=(no,n,if h=0 then 0 else fR n.keys k)::rest∧Dv P k h (n.kids.getD (fR n.keys k) 0) rest
theorem Dv.length {P:Nat→Option aM} {k:Key}:∀ {h no:Nat} {l:List (Nat×aM×Nat)},Dv P k h no l→l.length=h
 |0,_,_,h=>by rw[h];rfl
 |h+1,_,_,⟨n,rest,_,_,au,aJ⟩=>by rw[au,ld,Dv.length aJ]
theorem ur.uniq {gen no:Nat} {leaf:Bool} {l:mD} {n m:aM} (U:ur gen leaf no l n) (ad:ur gen leaf no l m):n=m:=by
 obtain ⟨p,bc,cS,a3,a4⟩:=U
 obtain ⟨q,c3,cG,eP,fa⟩:=ad
 rw[bc] at c3
 cases c3
 exact ym.uniq a4 fa
theorem ur.is {gen no:Nat} {leaf:Bool} {l:mD} {n:aM} (h:ur gen leaf no l n):n.leaf=leaf∧ef n∧cr n≤232:=by
 obtain ⟨p,_,_,_,a⟩:=h
 exact ⟨a.2.1,a.1,a.2.2.1⟩
theorem ef.kg {n:aM} (h:ef n):n.keys.Pairwise cw:=by
 rcases h with h|h
 · exact h.kg
 · exact h.kg
def ang (T:aX) (steps:List (Nat×aM×Nat)) (w:World) (v:Value) (w':World):Prop:=
 ∃bx:eZ,c6 w' (T.cP bx T.P)∧b5 T (T.cP bx T.P) w w' (2*T.bw)∧(∀j,bx.view j=T.C.view j)∧
   ((∃ (s:aa) (l:List gD),v= .tuple #[.slice s.a s.len s.cap, .int .i64 0]∧l.map gD.st=steps∧uy (fun q=>w.heap.size≤q∧¬(T.cP bx T.P).M q) w' s l)∨(v= .tuple #[.slice none 0 0, .int .i64 3]∧¬T.C.D.calm (2*T.bw)))
theorem anh (w:World) (cs:Array Value) (h:cs.size=6):Sem.run Tryz.prog (Instr.buildSlice ah.FF 1 #[(0, .agg cs)]) w= .ok (.slice (some ⟨w.heap.size,0,none⟩) 1 1) (w.alloc (.cells cs ah.uz)):=by
 have b7:((Tryz.prog.info? ah.uz).bind (·.zero)).isSome=true:=by kernel_rfl
 obtain ⟨z,bN⟩:=Cg.1 b7
 obtain ⟨i,hi,uf⟩:=KK bN
 have U:(Tryz.prog.underlying ah.uz).isSome=true:=by kernel_rfl
 obtain ⟨d,hd⟩:=Cg.1 U
 exact Ta (sz:=6) w (by kernel_rfl) hd (by kernel_rfl) hi uf h (by decide) (by decide)
theorem ani:qf Tryz.prog ah.FF ah.uz 6 96:=⟨by kernel_rfl⟩
end
section
theorem TM {h:Nat} {n:aM} (dm:n.leaf=decide (h=0)):((((h+1:Nat):Int):Int)==1)=n.leaf:=by
 rw[dm,pc,zZ,fu]
 omega
theorem TN {w:World} {T:aX} {aG:aa} {k:Key} {steps:List (Nat×aM×Nat)} (h:c6 w T) (gC:T.C.D.cR≤900000000) (ae:Src 1 w aG (bn k)) (sC:∀q,aO aG q→q<w.heap.size∧¬T.M q) (hw:Dv T.P k T.bw T.root steps):
   aQ Tryz.prog F.y8 #[.pointer (some ⟨T.cl,0,none⟩), .slice aG.a aG.len aG.cap] w (ang T steps w):=by
 have cT:=h.num.2.1
 refine W.anj (some ⟨T.cl,0,none⟩) aG w _ ?_
 (delta W.y8 bI aB uw dx ai bS aq y9 aT st a7 aC;dsimp only)
 refine ⟨_,rfl,_,h.cells.2.2.2.1,_,rfl,_,h.cells.2.2.2.2,fun s n8 n9 w'=>∃ (jk no:Nat) (l:List gD) (rest:List (Nat×aM×Nat)) (c7:Nat→Prop) (bx:eZ),n9=(jk:Nat)∧n8=(no:Nat)∧Dv T.P k jk no rest∧l.map gD.st++rest=steps∧l.length+jk=T.bw∧
   c7=(fun q=>T.E q∨aO s q)∧(∀q,aO s q→w.heap.size≤q)∧c6 w' ((T.dw c7 T.G).cP bx T.P)∧b5 T ((T.dw c7 T.G).cP bx T.P) w w' (2*l.length)∧(∀j,bx.view j=T.C.view j)∧bV 6 ah.uz w' s (cI gD.c l)∧
   ∀x∈l,cd (fun q=>w.heap.size≤q∧¬((T.dw c7 T.G).cP bx T.P).M q) w' x.n x.K x.V x.D,fun _ _ n9 _=>n9.toNat,?_,?_⟩
 · have fh:T.E=fun q=>T.E q∨aO ⟨none,0,0⟩ q:=by
     funext q
     refine propext ⟨.inl,fun h=>h.resolve_right ?_⟩
     rintro ⟨A,ax,_⟩
     cases ax
   have HU:(T.dw T.E T.G).cP T.C T.P=T:=rfl
   refine ⟨T.bw,T.root,[],steps,T.E,T.C,rfl,rfl,hw,rfl,by simp,fh,?_,by rw[HU];exact h,by rw[HU];exact .refl _ _,fun _=>rfl,?_,fun x af=>(by cases af)⟩
   · rintro q ⟨A,ax,_⟩
     cases ax
   · exact ⟨rfl,cV _,by decide, .inl ⟨rfl,rfl⟩⟩
 have fin:∀ {w':World} {c7:Nat→Prop} {bx:eZ} {s:aa} {k:Nat},c6 w' ((T.dw c7 T.G).cP bx T.P)→b5 T ((T.dw c7 T.G).cP bx T.P) w w' k→c7=(fun q=>T.E q∨aO s q)→(∀q,aO s q→w.heap.size≤q)→c6 w' (T.cP bx T.P)∧b5 T (T.cP bx T.P) w w' k:=by
   intro w' c7 bx s k U ad au aJ
   have HV:∀q,T.E q→c7 q:=fun q J=>by rw[au];exact .inl J
   exact ⟨U.grow (W:=fun _=>False) (E:=T.E) (G:=T.G) (ao.refl _ _) (fun _ h=>h.elim) (fun q J=> .inl (HV q J)) (fun q J=> .inr (.inl J)) fun q J=>(h.ij q J).2.2,
     ad.step (W:=fun _=>False) (ao.refl _ _) (fun _ h=>h.elim) (fun q J=> .inl (HV q J)) fun q J=> .inl J⟩
 rintro s _ _ bK ⟨jk,no,l,rest,c7,bj,rfl,rfl,FG,g9,hlen,lz,Ak,bm,cy,ak,jV,hG⟩
 have aaN:=cy.an.size
 refine ⟨fun bd=> ?_,fun cg=> ?_⟩
 · obtain ⟨tj,rfl⟩:∃qh,jk=qh+1:=⟨jk-1,by have:((jk:Nat):Int)>0:=dD bd;omega⟩
   obtain ⟨n,ia,aZ,dm,rfl,aaO⟩:=FG
   obtain ⟨dd,lA⟩:=bm.l_ no n aZ
   have HM:bj.D.cR≤999999999:=by
     have:bj.D.cR≤T.C.D.cR+2*l.length:=cy.cR
     omega
   refine (TG bm HM dd _).use ?_
   rintro _ b9 ⟨FH,ad,nT,gM,eT⟩
   have TO:=cy.trans nT
   have dR:=nT.an.size
   rw[TM dm] at eT
   rcases eT with ⟨db,K,V,D,rfl,HW,TP⟩|⟨e,rfl,KT,c4⟩
   · obtain rfl:=ur.uniq lA HW
     obtain ⟨_,rM,av4⟩:=lA.is
     have Dw:=rM.kg
     have qn:=NR rM
     refine ⟨n.leaf,K,V,D,0,rfl,cn (vs:=[.bool false, .slice none 0 0, .slice none 0 0, .slice none 0 0]) rfl fun e6 FI y_ TQ=> ?_⟩
     refine ⟨FI.dA rfl ?_,rfl,ek FI (us:=[.bool n.leaf, .slice K.a K.len K.cap, .slice V.a V.len V.cap, .slice D.a D.len D.cap]) rfl rfl fun dp AU xH Dt=>⟨fun ab=>(by cases ab),fun _=> ?_⟩⟩
     · intro v ak
       simp only[gb,m4,m5] at ak
       rcases ak with rfl|rfl|rfl|rfl<;>trivial
     have ux:Ext b9 dp:=Ext.eX y_ xH (cV _)
     have av5:=ux.size
     obtain ⟨cH,aT,bC,ba⟩:=cj AU
     refine ⟨_,cH,K,aT,V,bC,D,ba, #[.int .i64 (no:Nat), .bool n.leaf, .slice K.a K.len K.cap, .slice V.a V.len V.cap, .slice D.a D.len D.cap, .int .i64 0],by kernel_rfl,?_⟩
     refine cn (vs:=[.int .i64 0, .bool false, .slice none 0 0, .slice none 0 0, .slice none 0 0, .int .i64 0]) rfl fun fH AX AY ank=> ?_
     refine ⟨AX.dA rfl ?_,rfl,ek AX (us:=[.int .i64 (no:Nat), .bool n.leaf, .slice K.a K.len K.cap, .slice V.a V.len V.cap, .slice D.a D.len D.cap, .int .i64 0]) rfl rfl fun cv TR aaP av6=> ?_⟩
     · intro v ak
       simp only[gb,m4,m5] at ak
       rcases ak with rfl|rfl|rfl|rfl|rfl|rfl<;>trivial
     have za:Ext b9 cv:=Ext.eX (ux.trans AY) aaP (by omega)
     have TS:Var cv b9.heap.size [.bool n.leaf, .slice K.a K.len K.cap, .slice V.a V.len V.cap, .slice D.a D.len D.cap] ah.cO:=(AU.ext AY).an aaP (by omega)
     obtain ⟨eK,anl⟩:∃eK,eK=dp.heap.size:=⟨_,rfl⟩
     obtain ⟨bE,kC⟩:∃bE,bE=b9.heap.size:=⟨_,rfl⟩
     rw[←anl] at TR⊢
     rw[←kC] at TS⊢
     have anm:=TP.ext za
     refine eA (fun n40 dE=>n40=(((if tj=0 then no else n.kids.getD (fR n.keys k) 0:Nat)):Int)∧Ext b9 dE∧Var dE eK (gD.c ⟨no,n,if tj=0 then 0 else fR n.keys k,K,V,D⟩) ah.uz) (fun q J=>⟨fun az=> ?_,fun az=> ?_⟩) ?_
     · have tl:tj≠0:=by
         have:((tj+1:Nat):Int)>1:=dD az
         omega
       have aaQ:n.leaf=false:=by rw[dm];simp[tl]
       have fp:=rM.Hp aaQ
       have lu:=NG n.keys k
       obtain ⟨cH,aT,bC,ba⟩:=cj TS
       have ann:Src 1 cv aG (bn k):=(ae.an TO.an fun q J aD=>(sC q J).2 (aX.k7 aD)).ext za
       refine ⟨_,cH,K,aT,V,bC,D,ba,(vy anm ann Dw (by omega)).use ?_⟩
       rintro _ nC ⟨rfl,KU⟩
       have aaR:=TR.ext KU
       obtain ⟨aA,aE⟩:=js aaR (i:=5) (by simp)
       rw[aW]
       refine ⟨_,rfl,aA,aE,bL ?_⟩
       have fc:=ig nC eK 5 (.int .i64 ((fR n.keys k:Nat):Int))
       have aaS:=jr aaR (i:=5) (.int .i64 ((fR n.keys k:Nat):Int))
       have HX:Ext b9 (nC.setCell ⟨eK,5,none⟩ (.int .i64 ((fR n.keys k:Nat):Int))):=Ext.eX (za.trans KU) fc (by omega)
       have ano:=(TS.ext KU).an fc (by omega)
       obtain ⟨d0,d1,d2,d3⟩:=cj ano
       obtain ⟨A,ax,ab,kS⟩:=eo.at (TP.ext HX).kids (i:=fR n.keys k) (by omega)
       refine ⟨D,d3,_,aaS.cell,A,ax,ab,_,kS,J _ _ ⟨?_,HX,?_⟩⟩
       · rw[if_neg tl,pD,gF (by omega)];rfl
       · rw[if_neg tl]
         exact aaS
     · have tl:tj=0:=by
         have:¬((tj+1:Nat):Int)>1:=eW az
         omega
       refine J _ _ ⟨by rw[if_pos tl],za,?_⟩
       rw[if_pos tl]
       exact TR
     rintro _ dE ⟨rfl,HY,O6⟩
     have av7:=HY.size
     refine ⟨_,O6.rd rfl,⟨some ⟨dE.heap.size,0,none⟩,1,1⟩,_,anh _ _ rfl,?_⟩
     have jE:=iR dE (.cells (gD.c ⟨no,n,if tj=0 then 0 else fR n.keys k,K,V,D⟩).toArray ah.uz)
     have AW:=HY.trans jE
     have O5:=AW.size
     have anp:=jE.size
     have gw:=jV.1
     rw[oC _ (Du l)] at gw
     have KV:∀q,aO s q→c7 q:=fun q J=>by rw[lz];exact .inr J
     have anq:bV 6 ah.uz b9 s (cI gD.c l):=jV.an nT.an fun q J hm=>bm.su (KV q J) hm
     obtain ⟨x,l1⟩:∃x:gD,x=⟨no,n,if tj=0 then 0 else fR n.keys k,K,V,D⟩:=⟨_,rfl⟩
     rw[←l1] at jE AW O5 anp⊢
     have yq:∀v∈gD.c x,Plain v:=by
       intro v ak
       unfold gD.c at ak
       simp only[gb,m4,m5] at ak
       rcases ak with rfl|rfl|rfl|rfl|rfl|rfl<;>trivial
     obtain ⟨ar,hX,bc,cS,a3,a4,a5⟩:=ani.append (eB:=ah.FF) (x:=⟨some ⟨dE.heap.size,0,none⟩,1,1⟩) (Src.new (T:=ah.uz) dE (gD.c x) 1 rfl) (anq.ext AW) yq (by show (2*(s.len+1)+1000)*96≤_;omega)
     have anr:=a4.size
     have mA:∀q,aO ar q→w.heap.size≤q:=fun q J=>by
       rcases a5 q J with U|U
       · exact Ak q U
       · omega
     obtain ⟨uv,wX⟩:∃uv,uv=fun q=>T.E q∨aO ar q:=⟨_,rfl⟩
     have O7:∀q,uv q→T.E q∨aO ar q:=fun q J=>by rw[wX] at J;exact J
     have HV:∀q,T.E q→c7 q:=fun q J=>by rw[lz];exact .inl J
     have nZ:cI gD.c (l++ [x])=cI gD.c l++gD.c x:=by rw[yW];simp[cI]
     have ans:c6 hX ((T.dw uv T.G).cP FH T.P):=by
       refine (ad.ext AW).grow (E:=uv) (G:=T.G) a4 (fun q J _=> .inl (KV q J)) (fun q J=> ?_) (fun q J=> .inr (.inl J)) fun q J bf=> ?_
       · rcases O7 q J with U|U
         · exact .inl (HV q U)
         · rcases a5 q U with au|au
           · exact .inl (KV q au)
           · exact .inr (.inr ⟨au,bV.lt cS q U⟩)
       · rcases O7 q J with U|U
         · exact (h.ij q U).2.2 bf
         · have au:=h.lt (q:=q) (.inr (.inr (.inr (.inr bf))))
           have:=mA q U
           omega
     have ant:b5 T ((T.dw uv T.G).cP FH T.P) w hX (2*(l++ [x]).length):=by
       have U:=(TO.trans (b5.ext _ AW)).mono (l:=2*(l++ [x]).length) (by rw[dU,ru];omega)
       refine U.step (E:=uv) (G:=T.G) a4 (fun q J az=>by have:=Ak q J;omega) (fun q J=> ?_) fun q J=> .inl J
       rcases O7 q J with U|U
       · exact .inl (HV q U)
       · exact .inr (.inr (mA q U))
     have aaT:∀ {m:aM} {K V D:aa},cd (fun q=>w.heap.size≤q∧¬((T.dw c7 T.G).cP FH T.P).M q) b9 m K V D→cd (fun q=>w.heap.size≤q∧¬((T.dw uv T.G).cP FH T.P).M q) hX m K V D:=fun {m K V D} hm=>by
       have U:=(hm.ext AW).bz (C:=fun q=>q<(dE.alloc (.cells (gD.c x).toArray ah.uz)).heap.size∧w.heap.size≤q∧¬((T.dw c7 T.G).cP FH T.P).M q) fun q J ab=>⟨J,ab⟩
       refine (cd.an U a4 fun q J bQ=>J.2.2 (.inr (.inr (.inr (.inl (KV q bQ)))))).bz fun q _ ab=>⟨ab.2.1,fun hm=>ab.2.2 ?_⟩
       rcases hm with hm|hm|hm|hm|hm
       · exact .inl hm
       · exact .inr (.inl hm)
       · exact .inr (.inr (.inl hm))
       · refine .inr (.inr (.inr (.inl ?_)))
         show c7 q
         rcases O7 q hm with au|au
         · exact HV q au
         · rcases a5 q au with aJ|aJ
           · exact KV q aJ
           · have:=ab.1;omega
       · exact .inr (.inr (.inr (.inr hm)))
     have kG:IntKind.wrap .i64 (((tj+1:Nat):Int)-1)=(tj:Nat):=by rw[cz (by omega) (by omega)];omega
     refine ⟨ar,hX,bc,⟨tj,_,l++ [x],ia,uv,FH,kG,rfl,?_,?_,by rw[dU,ru];omega,wX,mA,ans,ant,fun j=>(gM j).trans (ak j),by rw[nZ];exact cS,?_⟩,?_⟩
     · cases tj with
       |zero=>exact aaO
       |succ m=>rw[if_neg (by omega)];exact aaO
     · rw[←g9,om,eL,l1];rfl
     · intro y b3
       rcases e8.1 b3 with b3|b3
       · exact aaT (nT.dT (hG y b3))
       · obtain rfl:=lV.1 b3
         subst l1
         exact aaT (TP.bz fun q _ ab=>⟨by have:=ab.1;omega,ab.2⟩)
     · rw[kG]
       show ((tj:Nat):Int).toNat<(((tj+1:Nat):Int)).toNat
       omega
   · refine ⟨false,bU,bU,bU,e,rfl,cn (vs:=[.bool false, .slice none 0 0, .slice none 0 0, .slice none 0 0]) rfl fun e6 FI y_ TQ=> ?_⟩
     refine ⟨FI.dA rfl ?_,rfl,ek FI (us:=[.bool false, .slice none 0 0, .slice none 0 0, .slice none 0 0]) rfl rfl fun dp AU xH Dt=>⟨fun _=> ?_,fun ab=> ?_⟩⟩
     · intro v ak
       simp only[gb,m4,m5] at ak
       rcases ak with rfl|rfl|rfl|rfl<;>trivial
     · have af:Ext b9 dp:=Ext.eX y_ xH (cV _)
       have he:e=3∧¬bj.D.calm 2:=by
         rcases KT with U|U|⟨_,_,U⟩
         · exact U
         · obtain ⟨p,aA,_⟩:=lA
           rw[aA] at U;cases U
         · exact absurd lA (U n)
       obtain ⟨rfl,fj⟩:=he
       obtain ⟨au,aJ⟩:=fin (k:=2*T.bw) (ad.ext af) ((TO.trans (b5.ext _ af)).mono (by omega)) lz Ak
       exact ⟨FH,au,aJ,fun j=>(gM j).trans (ak j), .inr ⟨rfl,fun al=>fj (cy.calm 2 (mE al (by omega)))⟩⟩
     · simp at ab;exact absurd ab c4
 · have b7:jk=0:=by
     have:¬((jk:Nat):Int)>0:=eW cg
     omega
   subst b7
   have aN:rest=[]:=FG
   subst aN
   obtain ⟨au,aJ⟩:=fin (k:=2*T.bw) bm (cy.mono (by omega)) lz Ak
   refine ⟨bj,au,aJ,ak, .inl ⟨s,l,rfl,by rw[←g9,mn],jV,fun q J=>⟨Ak q J,fun hm=> ?_⟩,fun x af=> ?_⟩⟩
   · have hF:=Ak q J
     have O8:c7 q:=by rw[lz];exact .inr J
     rcases hm with hm|hm|hm|hm|hm
     · exact (bm.oF.inv.mQ q (.inr (.inr (.inl O8)))).2 hm
     · exact (bm.ij q O8).1 hm
     · exact (bm.ij q O8).2.1 hm
     · have:=h.lt (q:=q) (.inr (.inr (.inr (.inl hm))));omega
     · exact (bm.ij q O8).2.2 hm
   · refine (hG x af).bz fun q _ ab=>⟨ab.1,fun hm=>ab.2 ?_⟩
     rcases hm with hm|hm|hm|hm|hm
     · exact .inl hm
     · exact .inr (.inl hm)
     · exact .inr (.inr (.inl hm))
     · refine .inr (.inr (.inr (.inl ?_)))
       show c7 q
       rw[lz];exact .inl hm
     · exact .inr (.inr (.inr (.inr hm)))
end
section
def aX.HZ (T:aX) (f:Nat→Bool):aX:={T with f:=f}
structure gH where
 dt:Nat
 nD:aa
 mc:aa
 made:List Nat
 left:List Nat
structure fU (w:World) (T:aX) (c:gH):Prop where
 t:c6 w T
 v:Var w c.dt [.pointer (some ⟨T.cl,0,none⟩), .slice c.nD.a c.nD.len c.nD.cap, .slice c.mc.a c.mc.len c.mc.cap] ah.aaU
 nD:bV 1 ah.int w c.nD (gU c.made)
 mc:bV 1 ah.int w c.mc (gU c.left)
 gc:T.G c.dt
 tm:∀q,aO c.nD q→T.G q∧q≠c.dt∧¬aO c.mc q
 vS:∀q,aO c.mc q→T.G q∧q≠c.dt
theorem TT {w:World} {s:aa} {ds:List Nat} (d:Nat) (jV:bV 1 ah.int w s (gU ds)) (aD:ds.length≤1000000):
   ∃ (ar:aa) (w':World),Sem.run Tryz.prog (Builtin.append_ #[ah.eg,ah.eg] ah.eg #[.slice s.a s.len s.cap, .slice (some ⟨w.heap.size,0,none⟩) 1 1]) (w.alloc (.cells #[.int .i64 ((d:Nat):Int)] ah.int))= .ok (.slice ar.a ar.len ar.cap) w'∧
     bV 1 ah.int w' ar (gU (ds++ [d]))∧ao (aO s) w w'∧(∀k,aO ar k→aO s k∨w.heap.size≤k)∧ao (aO s) (w.alloc (.cells #[.int .i64 ((d:Nat):Int)] ah.int)) w':=by
 have gw:s.len=ds.length:=by have:=jV.1;rw[Al] at this;omega
 have al:Ext w (w.alloc (.cells #[.int .i64 ((d:Nat):Int)] ah.int)):=iR _ _
 have bN:(w.alloc (.cells #[.int .i64 ((d:Nat):Int)] ah.int)).heap.size=w.heap.size+1:=JU _ _
 obtain ⟨ar,w',U,ad,au,aJ,a6⟩:=JY.append (eB:=ah.eg) (x:=⟨some ⟨w.heap.size,0,none⟩,1,1⟩) (Src.new (T:=ah.int) w [.int .i64 ((d:Nat):Int)] 1 rfl) (jV.ext al) (fun v ak=>by rw[lV.1 ak];trivial) (by show (2*(s.len+1)+1000)*8≤_;omega)
 exact ⟨ar,w',U,by simpa[gU] using ad,(ao.eQ al).trans aJ,fun k ae=>(a6 k ae).imp id (fun h=>by omega),aJ⟩
section
variable {w w':World} {T av:aX} {c:gH}
theorem fU.of {W:Nat→Prop} (h:fU w T c) (bm:c6 w' av) (al:ao W w w') (dq:∀q,T.G q→¬W q) (q3:av.cl=T.cl) (ih:∀q,T.G q→av.G q):fU w' av c:=
 ⟨bm,by rw[q3];exact h.v.an al (dq _ h.gc),h.nD.an al fun q J=>dq q (h.tm q J).1,h.mc.an al fun q J=>dq q (h.vS q J).1,ih _ h.gc,fun q J=>⟨ih q (h.tm q J).1,(h.tm q J).2⟩,fun q J=>⟨ih q (h.vS q J).1,(h.vS q J).2⟩⟩
theorem fU.ext (h:fU w T c) (af:Ext w w'):fU w' T c:=h.of (h.t.ext af) af (fun _ _ h=>h) rfl fun _ h=>h
theorem fU.cells (h:fU w T c):w.cell? ⟨c.dt,0,none⟩=some (.pointer (some ⟨T.cl,0,none⟩))∧w.cell? (Addr.add ⟨c.dt,0,none⟩ 1)=some (.slice c.nD.a c.nD.len c.nD.cap)∧w.cell? (Addr.add ⟨c.dt,0,none⟩ 2)=some (.slice c.mc.a c.mc.len c.mc.cap):=by
 rw[aW,aW]
 exact ⟨h.v.cell,h.v.cell,h.v.cell⟩
theorem c6.KW (h:c6 w T) {q:Nat} (J:T.G q):¬iV T.C q:=fun aH=>(h.oF.inv.mQ q (.inr (.inr (.inr J)))).2 aH
theorem c6.aaV {f:Nat→Bool} (h:c6 w T) (aj:mF w' T.eK T.n f T.g T.s1 T.s2) (al:ao (ti T.eK T.s1 T.s2) w w'):c6 w' (T.HZ f)∧b5 T (T.HZ f) w w' 0:=
 ⟨⟨h.t.an al h.Ds,aj,h.oF.an al fun q J=> .inr (.inl J),h.Ds,h.ij,h.uu,h.n,h.num,h.l_⟩,
   ⟨rfl,rfl,rfl,rfl,rfl,rfl,rfl,rfl,rfl,rfl,cV _,fun _ h=>h,al.mono fun q _ J=> .inr (.inr (.inl J)),fun q h=> .inl h,fun q h=> .inl h⟩⟩
theorem anu (h:fU w T c) (no:Nat) (az:c.made.length≤100000):
   ∃ (ar:aa) (aw:World),Sem.run Tryz.prog (Builtin.append_ #[ah.eg,ah.eg] ah.eg #[.slice c.nD.a c.nD.len c.nD.cap, .slice (some ⟨w.heap.size,0,none⟩) 1 1]) (w.alloc (.cells #[.int .i64 ((no:Nat):Int)] ah.int))= .ok (.slice ar.a ar.len ar.cap) aw∧
     ao (aO c.nD) (w.alloc (.cells #[.int .i64 ((no:Nat):Int)] ah.int)) aw∧(∃u:Value,aw.cell? ⟨c.dt,1,none⟩=some u)∧aw.frozen? ⟨c.dt,1,none⟩=false∧
     ∀aS,aS=aw.setCell ⟨c.dt,1,none⟩ (.slice ar.a ar.len ar.cap)→fU aS (T.dw T.E fun q=>T.G q∨aO ar q) {c with nD:=ar,made:=c.made++ [no]}∧b5 T (T.dw T.E fun q=>T.G q∨aO ar q) w aS 0:=by
 obtain ⟨ar,aw,aA,aE,aL,cQ,vP⟩:=TT no h.nD (by omega)
 have dq:∀q,aO c.nD q→T.G q:=fun q J=>(h.tm q J).1
 have dR:=aL.size
 have gM:=h.v.an aL fun J=>(h.tm _ J).2.1 rfl
 obtain ⟨dI,ew⟩:=js gM (i:=1) (by simp)
 refine ⟨ar,aw,aA,vP,dI,ew,?_⟩
 rintro _ rfl
 have fc:=ig aw c.dt 1 (.slice ar.a ar.len ar.cap)
 have l3:=jr gM (i:=1) (.slice ar.a ar.len ar.cap)
 have jF:ao T.G w (aw.setCell ⟨c.dt,1,none⟩ (.slice ar.a ar.len ar.cap)):=na (aL.mono fun q _ J=>dq q J) fc fun q _ e=>by rw[e];exact h.gc
 have anv:=jF.size
 have bd:∀q,aO ar q→q<aw.heap.size:=fun q J=>bV.lt aE q J
 have my:∀q,aO ar q→T.G q∨(w.heap.size≤q∧q<(aw.setCell ⟨c.dt,1,none⟩ (.slice ar.a ar.len ar.cap)).heap.size):=fun q J=>by
   rcases cQ q J with U|U
   · exact .inl (dq q U)
   · exact .inr ⟨U,by have:=bd q J;have:=fc.size;omega⟩
 have rP:∀q,aO ar q→q≠c.dt:=fun q J e=>by
   rcases cQ q J with U|U
   · exact (h.tm q U).2.1 e
   · have:=h.v.lt;omega
 have dm:∀q,aO ar q→¬aO c.mc q:=fun q J e=>by
   rcases cQ q J with U|U
   · exact (h.tm q U).2.2 e
   · have:=bV.lt h.mc q e;omega
 have bm:=h.t.grow (E:=T.E) (G:=fun q=>T.G q∨aO ar q) jF (fun q J _=> .inr J) (fun q J=> .inl J) (fun q J=>by
   rcases J with J|J
   · exact .inr (.inl J)
   · exact .inr (my q J)) fun q J bf=>by
   rcases bf with bf|bf
   · exact (h.t.ij q J).2.2 bf
   · rcases cQ q bf with U|U
     · exact (h.t.ij q J).2.2 (dq q U)
     · have:=h.t.lt (q:=q) (.inr (.inr (.inr (.inl J))));omega
 refine ⟨⟨bm,l3,?_,(h.mc.an aL fun q J e=>(h.tm q e).2.2 J).an fc fun q J e=>(h.vS q J).2 e, .inl h.gc,fun q J=>⟨.inr J,rP q J,dm q J⟩,fun q J=>⟨.inl (h.vS q J).1,(h.vS q J).2⟩⟩,?_⟩
 · have:bV 1 ah.int aw ar (gU (c.made++ [no])):=aE
   exact this.an fc fun q J e=>rP q J e
 · have b7:b5 T T w w 0:= .refl _ _
   exact b7.step jF (fun q J _=> .inr (.inr (.inr J))) (fun q J=> .inl J) fun q J=>by
     rcases J with J|J
     · exact .inl J
     · exact (my q J).imp id fun e=>e.1
theorem aaW (h:fU w T c) (no:Nat) (az:c.left.length≤100000):
   ∃ (ar:aa) (aw:World),Sem.run Tryz.prog (Builtin.append_ #[ah.eg,ah.eg] ah.eg #[.slice c.mc.a c.mc.len c.mc.cap, .slice (some ⟨w.heap.size,0,none⟩) 1 1]) (w.alloc (.cells #[.int .i64 ((no:Nat):Int)] ah.int))= .ok (.slice ar.a ar.len ar.cap) aw∧
     ao (aO c.mc) (w.alloc (.cells #[.int .i64 ((no:Nat):Int)] ah.int)) aw∧(∃u:Value,aw.cell? ⟨c.dt,2,none⟩=some u)∧aw.frozen? ⟨c.dt,2,none⟩=false∧
     ∀aS,aS=aw.setCell ⟨c.dt,2,none⟩ (.slice ar.a ar.len ar.cap)→fU aS (T.dw T.E fun q=>T.G q∨aO ar q) {c with mc:=ar,left:=c.left++ [no]}∧b5 T (T.dw T.E fun q=>T.G q∨aO ar q) w aS 0:=by
 obtain ⟨ar,aw,aA,aE,aL,cQ,vP⟩:=TT no h.mc (by omega)
 have dq:∀q,aO c.mc q→T.G q:=fun q J=>(h.vS q J).1
 have dR:=aL.size
 have gM:=h.v.an aL fun J=>(h.vS _ J).2 rfl
 obtain ⟨dI,ew⟩:=js gM (i:=2) (by simp)
 refine ⟨ar,aw,aA,vP,dI,ew,?_⟩
 rintro _ rfl
 have fc:=ig aw c.dt 2 (.slice ar.a ar.len ar.cap)
 have l3:=jr gM (i:=2) (.slice ar.a ar.len ar.cap)
 have jF:ao T.G w (aw.setCell ⟨c.dt,2,none⟩ (.slice ar.a ar.len ar.cap)):=na (aL.mono fun q _ J=>dq q J) fc fun q _ e=>by rw[e];exact h.gc
 have anv:=jF.size
 have bd:∀q,aO ar q→q<aw.heap.size:=fun q J=>bV.lt aE q J
 have my:∀q,aO ar q→T.G q∨(w.heap.size≤q∧q<(aw.setCell ⟨c.dt,2,none⟩ (.slice ar.a ar.len ar.cap)).heap.size):=fun q J=>by
   rcases cQ q J with U|U
   · exact .inl (dq q U)
   · exact .inr ⟨U,by have:=bd q J;have:=fc.size;omega⟩
 have rP:∀q,aO ar q→q≠c.dt:=fun q J e=>by
   rcases cQ q J with U|U
   · exact (h.vS q U).2 e
   · have:=h.v.lt;omega
 have dm:∀q,aO c.nD q→¬aO ar q:=fun q e J=>by
   rcases cQ q J with U|U
   · exact (h.tm q e).2.2 U
   · have:=bV.lt h.nD q e;omega
 have bm:=h.t.grow (E:=T.E) (G:=fun q=>T.G q∨aO ar q) jF (fun q J _=> .inr J) (fun q J=> .inl J) (fun q J=>by
   rcases J with J|J
   · exact .inr (.inl J)
   · exact .inr (my q J)) fun q J bf=>by
   rcases bf with bf|bf
   · exact (h.t.ij q J).2.2 bf
   · rcases cQ q bf with U|U
     · exact (h.t.ij q J).2.2 (dq q U)
     · have:=h.t.lt (q:=q) (.inr (.inr (.inr (.inl J))));omega
 refine ⟨⟨bm,l3,(h.nD.an aL fun q J e=>(h.tm q J).2.2 e).an fc fun q J e=>(h.tm q J).2.1 e,?_, .inl h.gc,fun q J=>⟨.inl (h.tm q J).1,(h.tm q J).2.1,dm q J⟩,fun q J=>⟨.inr J,rP q J⟩⟩,?_⟩
 · have:bV 1 ah.int aw ar (gU (c.left++ [no])):=aE
   exact this.an fc fun q J e=>rP q J e
 · have b7:b5 T T w w 0:= .refl _ _
   exact b7.step jF (fun q J _=> .inr (.inr (.inr J))) (fun q J=> .inl J) fun q J=>by
     rcases J with J|J
     · exact .inl J
     · exact (my q J).imp id fun e=>e.1
end
end
section
def fO (T:aX):Nat:=T.n-mR (fun i=>T.f i||T.g i) T.n
theorem aaX {s t:Nat→Bool}:∀ {n:Nat},(∀i,i<n→s i=t i)→mR s n=mR t n
 |0,_=>rfl
 |n+1,h=>by
   unfold mR
   rw[aaX (n:=n) fun i hi=>h i (by omega),h n (by omega)]
theorem aaY {s t:Nat→Bool} {k:Nat} (ae:s k=false) (aV:t k=true) (he:∀i,i≠k→t i=s i):∀ {n:Nat},k<n→mR t n=mR s n+1
 |0,h=>by omega
 |n+1,h=>by
   unfold mR
   by_cases e:k=n
   · subst e
     rw[aaX (s:=t) (t:=s) (n:=k) fun i hi=>he i (by omega),ae,aV]
     simp
   · rw[aaY ae aV he (n:=n) (by omega),he n (by omega)]
     omega
theorem aaZ {t:Nat→Bool}:∀ {n:Nat},(∀i,i<n→t i=true)→mR t n=n
 |0,_=>rfl
 |n+1,h=>by
   unfold mR
   rw[aaZ (n:=n) fun i hi=>h i (by omega),h n (by omega)]
   simp
theorem anw {T:aX} (h:1≤fO T):∃no,firstFree (fun i=>T.f i||T.g i) T.n=some no:=by
 cases aH:firstFree (fun i=>T.f i||T.g i) T.n with
 |some no=>exact ⟨no,rfl⟩
 |none=>
   have:=aaZ (amw aH)
   unfold fO at h
   rw[this] at h
   omega
structure fV (T av:aX) (c c':gH) (m l:List Nat) (w w':World) (k:Nat):Prop where
 to:b5 T av w w' k
 E:av.E=T.E
 G:∀q,T.G q→av.G q
 root:av.root=T.root
 bw:av.bw=T.bw
 dt:c'.dt=c.dt
 made:c'.made=c.made++m
 left:c'.left=c.left++l
 dT:m.Nodup
 tn:∀no∈m,(T.f no||T.g no)=false∧no<T.n
 f:∀no,av.f no=(T.f no||decide (no∈m))
 g4:∀no,(T.f no||T.g no)=true→av.P no=T.P no∧av.C.view no=T.C.view no
 room:fO av+m.length=fO T
theorem fV.ext {w w':World} (T:aX) (c:gH) (h:Ext w w'):fV T T c c [] [] w w' 0:=
 ⟨.ext T h,rfl,fun _ h=>h,rfl,rfl,rfl,by simp,by simp,JK,fun _ h=>(by cases h),fun no=>by simp,fun _ _=>⟨rfl,rfl⟩,by simp⟩
theorem fV.trans {T av xG:aX} {c c' aa0:gH} {m O9 l H0:List Nat} {w w' iG:World} {k lP:Nat} (U:fV T av c c' m l w w' k) (ad:fV av xG c' aa0 O9 H0 w' iG lP):fV T xG c aa0 (m++O9) (l++H0) w iG (k+lP):=by
 have bf:av.g=T.g:=U.to.g
 have aD:av.n=T.n:=U.to.n
 have aH:∀no,(T.f no||T.g no)=true→(av.f no||av.g no)=true:=fun no h=>by
   rw[U.f,bf]
   cases au:T.f no<;>cases aJ:T.g no<;>simp[au,aJ] at h⊢
 refine ⟨U.to.trans ad.to,ad.E.trans U.E,fun q h=>ad.G q (U.G q h),ad.root.trans U.root,ad.bw.trans U.bw,ad.dt.trans U.dt,by rw[ad.made,U.made,eL],by rw[ad.left,U.left,eL],?_,fun no h=> ?_,fun no=> ?_,fun no h=> ?_,?_⟩
 · rw[JI]
   refine ⟨U.dT,ad.dT,fun a aR b ab e=> ?_⟩
   subst e
   have:=(ad.tn a ab).1
   rw[U.f] at this
   simp[aR] at this
 · rcases e8.1 h with h|h
   · exact U.tn no h
   · have au:=ad.tn no h
     rw[U.f,bf,aD] at au
     refine ⟨?_,au.2⟩
     cases a6:T.f no<;>cases b8:T.g no<;>simp[a6,b8] at au⊢
 · rw[ad.f,U.f]
   simp only[e8,Bool.decide_or,Bool.or_assoc]
 · have au:=ad.g4 no (aH no h)
   have aJ:=U.g4 no h
   exact ⟨au.1.trans aJ.1,au.2.trans aJ.2⟩
 · have:=U.room
   have:=ad.room
   rw[dU];omega
theorem fV.mono {T av:aX} {c c':gH} {m l:List Nat} {w w':World} {k j:Nat} (h:fV T av c c' m l w w' k) (ae:k≤j):fV T av c c' m l w w' j:=⟨h.to.mono ae,h.E,h.G,h.root,h.bw,h.dt,h.made,h.left,h.dT,h.tn,h.f,h.g4,h.room⟩
end
section
def aa1 (T:aX) (c:gH) (n:aM) (w:World) (v:Value) (w':World):Prop:=
 ∃ (no:Nat) (av:aX) (c':gH),fU w' av c'∧fV T av c c' [no] [] w w' 1∧
   ((v= .tuple #[.int .i64 (no:Nat), .int .i64 0]∧av.P no=some n)∨(v= .tuple #[.int .i64 (no:Nat), .int .i64 3]∧¬T.C.D.calm 1))
theorem ef.k3 {n:aM} (h:ef n) (ad:cr n≤400):n.keys.length≤200∧n.vals.length≤200∧n.kids.length≤201:=by
 have:=NR h
 rcases h with h|h
 · have:=h.len
   have aJ:n.kids.length=0:=by rw[h.kids];rfl
   omega
 · have:=h.len
   have aJ:n.vals.length=0:=by rw[h.vals];rfl
   omega
theorem O_ {B:Nat→Prop} {w:World} {T:aX} {c:gH} {n:aM} {K V D:aa} (h:fU w T c) (gC:T.C.D.cR≤900000100) (jz:1≤fO T) (pd:c.made.length≤1000) (aD:cd B w n K V D) (aj:ef n) (ad:cr n≤232):
   aQ Tryz.prog F.uA #[.pointer (some ⟨c.dt,0,none⟩),e9 n K V D] w (aa1 T c n w):=by
 obtain ⟨no,yN⟩:=anw jz
 obtain ⟨dd,KX,_⟩:=amv yN
 have oz:=h.t.s.db
 have qn:=aj.k3 (by omega)
 refine W.anx (some ⟨c.dt,0,none⟩) n.leaf K V D w _ ?_
 (delta W.uA bS ai aq gl aB sD st kU aT;dsimp only)
 refine cn (vs:=[.bool n.leaf, .slice K.a K.len K.cap, .slice V.a V.len V.cap, .slice D.a D.len D.cap]) rfl fun ag gh bD ky=> ?_
 obtain ⟨cH,aT,bC,ba⟩:=cj gh
 refine ⟨_,cH,K,aT,V,bC,D,ba,(yy (aD.ext bD) (by omega) (by omega) (by omega)).use ?_⟩
 rintro _ a8 ⟨anz,jR⟩
 rcases anz with ⟨s,rfl,OP,anA,_,_⟩|⟨e,rfl,he,xI⟩
 rotate_left
 · have:=xI aj;omega
 have nR:=bD.trans jR
 have b8:=h.ext nR
 refine ⟨s,0,rfl,fun ab=>(by cases ab),fun _=>⟨_,rfl,_,b8.cells.1,_,rfl,_,b8.t.cells.2.1,(amz b8.t.s).use ?_⟩⟩
 rintro _ c0 ⟨rfl,qG,gx⟩
 rw[yN] at qG⊢
 obtain ⟨anB,TU⟩:=b8.t.aaV qG gx
 have aa2:fU c0 (T.HZ (km T.f no true)) c:=b8.of anB gx (fun q J aH=>(h.t.uu q J).2 aH) rfl fun _ h=>h
 refine ⟨(no:Nat),0,rfl,fun ab=>(by cases ab),fun _=>⟨_,rfl,_,aa2.cells.2.1,?_⟩⟩
 obtain ⟨ar,c5,aA,aE,aI,aL,cQ⟩:=anu aa2 no (by omega)
 refine bL ⟨ar,c5,aA,_,rfl,by rw[aW];exact aI,by rw[aW];exact aL,bL ?_⟩
 rw[aW]
 obtain ⟨cW,aa3⟩:∃cW,cW=c5.setCell ⟨c.dt,0+1,none⟩ (.slice ar.a ar.len ar.cap):=⟨_,rfl⟩
 rw[←aa3]
 obtain ⟨Pa,TV⟩:=cQ cW aa3
 obtain ⟨aa4,anC⟩:∃aa4,aa4=fun q=>T.G q∨aO ar q:=⟨_,rfl⟩
 have kh:∀q,T.N q→q<w.heap.size:=fun q J=>h.t.lt (aX.k7 J)
 have Kk:=nR.size
 have Pb:=TU.an.size
 have KY:=TV.an.size
 have aa5:ao T.N a8 cW:=TU.an.trans TV.an
 have Dx:Var cW w.heap.size [.bool n.leaf, .slice K.a K.len K.cap, .slice V.a V.len V.cap, .slice D.a D.len D.cap] ah.cO:=(gh.ext jR).an aa5 fun J=>by have:=kh _ J;omega
 have anD:bV 1 ah.uint8 cW s (bn (si n)):=OP.an aa5 fun q J hF=>by have:=kh _ hF;have:=anA q J;omega
 have hlen:=R9 aj
 have lA:JT ⟨if n.leaf then 1 else 2,T.gen,si n⟩:=by
   refine ⟨?_,?_,h.t.num.2.2,by show (si n).length≤232;omega⟩
   · show 1≤(if n.leaf then 1 else 2);split<;>omega
   · show (if n.leaf then 1 else 2)≤4;split<;>omega
 refine eA (fun n27 fC=>n27=((if n.leaf then 1 else 2:Nat):Int)∧fC=cW) (fun q J=>⟨n.leaf,Dx.cell,fun ab=>J _ _ ⟨by rw[ab];rfl,rfl⟩,fun ab=>J _ _ ⟨by rw[ab];rfl,rfl⟩⟩) ?_
 rintro _ _ ⟨rfl,rfl⟩
 refine ⟨_,rfl,_,Pa.cells.1,_,rfl,_,Pa.t.cells.2.2.1,(aiU (no:=no) (p:=⟨if n.leaf then 1 else 2,T.gen,si n⟩) anD.src (by omega) lA).use ?_⟩
 rintro _ e1 ⟨s2,rfl,aa6,aa7,anE⟩
 have FJ:=Pa.ext aa7
 refine ⟨s2,0,rfl,fun ab=>(by cases ab),fun _=>⟨_,rfl,_,FJ.cells.1,_,rfl,_,FJ.t.cells.1,(alU FJ.t.oF (by show T.C.D.cR≤999999999;omega) (no:=no) (by rw[FJ.t.n];exact dd) aa6.src (Yy no lA) fun q J=>⟨bV.lt aa6 q J,fun aH=> ?_⟩).use ?_⟩⟩
 · have:=anE q J
   have:=Pa.t.lt (q:=q) (.inl aH)
   omega
 rintro _ dE ⟨bx,n1,cy,eT⟩
 have OQ:∀j,km T.f no true j=(T.f j||decide (j∈ [no])):=fun j=>by
   unfold km
   by_cases e:j=no
   · subst e;simp
   · simp[e]
 have aa8:(T.f no||T.g no)=false:=KX
 have anF:T.n-mR (fun i=>km T.f no true i||T.g i) T.n+1=fO T:=by
   have:=aaY (s:=fun i=>T.f i||T.g i) (t:=fun i=>km T.f no true i||T.g i) (k:=no) KX (by simp[km]) (fun i hi=>by simp[km,hi]) dd
   unfold fO at jz⊢
   have au:=HR (fun i=>T.f i||T.g i) T.n
   omega
 have main:∀ (H2:Nat→Option aM) (v:Value),(∀j,j≠no→H2 j=T.P j)→(∀j,j≠no→bx.view j=T.C.view j)→(∀j dT,H2 j=some dT→j<T.n∧ur T.gen dT.leaf j (bx.view j) dT)→
     ((v= .tuple #[.int .i64 (no:Nat), .int .i64 0]∧H2 no=some n)∨(v= .tuple #[.int .i64 (no:Nat), .int .i64 3]∧¬T.C.D.calm 1))→aa1 T c n w v dE:=by
   intro H2 v gA ud TW ak
   obtain ⟨anG,anH⟩:=FJ.t.TF (P:=H2) n1 cy TW
   have anI:=FJ.of (av:=((T.HZ (km T.f no true)).dw T.E fun q=>T.G q∨aO ar q).cP bx H2) anG cy.an (fun q J=>FJ.t.KW J) rfl fun _ h=>h
   refine ⟨no,_,_,anI,⟨?_,rfl,fun q J=> .inl J,rfl,rfl,rfl,rfl,(mn _).symm,by simp,fun x af=> ?_,OQ,fun j a_=> ?_,anF⟩,ak⟩
   · have:=(((b5.ext T nR).trans TU).trans TV).trans ((b5.ext _ aa7).trans anH)
     exact this.mono (by omega)
   · obtain rfl:=lV.1 af
     exact ⟨aa8,dd⟩
   · have:j≠no:=fun e=>by rw[e,aa8] at a_;cases a_
     exact ⟨gA j this,ud j this⟩
 rcases eT with ⟨rfl,ak⟩|⟨rfl,fj,ak⟩
 · refine ⟨0,rfl,main (fun j=>if j=no then some n else T.P j) _ (fun j a_=>if_neg a_) (fun j a_=>(ak j).trans (if_neg a_)) (fun j dT a_=> ?_) (.inl ⟨rfl,if_pos rfl⟩)⟩
   by_cases e:j=no
   · subst e
     rw[if_pos rfl] at a_
     cases a_
     rw[ak,if_pos rfl]
     exact ⟨dd,_,aiE (by omega) lA,cV _,rfl,aj,rfl,ad,rfl⟩
   · rw[if_neg e] at a_
     rw[ak,if_neg e]
     exact h.t.l_ j dT a_
 · refine ⟨3,rfl,main T.P _ (fun _ _=>rfl) (fun j _=>ak j) (fun j dT a_=> ?_) (.inr ⟨rfl,fj⟩)⟩
   rw[ak]
   exact h.t.l_ j dT a_
end
section
theorem anJ (w:World) (x:Int):Sem.run Tryz.prog (Instr.buildSlice ah.H3 1 #[(0, .agg #[.slice none 0 0, .int .i64 x])]) w=
   .ok (.slice (some ⟨w.heap.size,0,none⟩) 1 1) (w.alloc (.cells #[.slice none 0 0, .int .i64 x] ah.vT)):=by kernel_rfl
theorem anK (w:World) (x y:Int) (t:aa):Sem.run Tryz.prog (Instr.buildSlice ah.H3 2 #[(0, .agg #[.slice none 0 0, .int .i64 x]),(1, .agg #[.slice t.a t.len t.cap, .int .i64 y])]) w=
   .ok (.slice (some ⟨w.heap.size,0,none⟩) 2 2) (w.alloc (.cells #[.slice none 0 0, .int .i64 x, .slice t.a t.len t.cap, .int .i64 y] ah.vT)):=by kernel_rfl
theorem ef.RQ {n:aM} (h:ef n) (U:1≤dr n) (ad:if n.leaf then dr n≤n.keys.length-1∧1≤n.keys.length-1 else dr n≤n.keys.length-2∧1≤n.keys.length-2):ef (n.left (dr n))∧ef (n.right (dr n)):=by
 rcases h with h|h
 · have az:=h.leaf
   rw[if_pos az] at ad
   unfold aM.left aM.right
   rw[if_pos az,if_pos az]
   have hlen:=h.len
   refine ⟨.inl ⟨⟨fun k ae=>h.ok k (kM ae),h.kg.sublist (List.take_sublist _ _)⟩,rfl,?_,rfl,fun v ak=>h.vals v (kM ak)⟩, .inl ⟨⟨fun k ae=>h.ok k (kx ae),h.kg.sublist (List.drop_sublist _ _)⟩,rfl,?_,rfl,fun v ak=>h.vals v (kx ak)⟩⟩
   · simp only[d_];omega
   · simp only[fG];omega
 · have az:=h.inner
   rw[if_neg (by rw[az];simp)] at ad
   unfold aM.left aM.right
   rw[if_neg (by rw[az];simp),if_neg (by rw[az];simp)]
   have hlen:=h.len
   refine ⟨.inr ⟨⟨fun k ae=>h.ok k (kM ae),h.kg.sublist (List.take_sublist _ _)⟩,rfl,?_,?_,rfl,fun v ak=>h.kids v (kM ak)⟩, .inr ⟨⟨fun k ae=>h.ok k (kx ae),h.kg.sublist (List.drop_sublist _ _)⟩,rfl,?_,?_,rfl,fun v ak=>h.kids v (kx ak)⟩⟩
   · intro e
     have:=congrArg List.length e
     simp only[d_,vb] at this;omega
   · simp only[d_];omega
   · intro e
     have:=congrArg List.length e
     simp only[fG,vb] at this;omega
   · simp only[fG];omega
def xJ (B:Nat→Prop) (w:World) (s:aa) (ks:List Key) (kids:List Nat):Prop:=
 (∃b x,s=⟨some ⟨b,0,none⟩,1,1⟩∧ks=[]∧kids=[x]∧Var w b [.slice none 0 0, .int .i64 (x:Nat)] ah.vT∧B b)∨
 (∃b x y k t,s=⟨some ⟨b,0,none⟩,2,2⟩∧ks=[k]∧kids=[x,y]∧Var w b [.slice none 0 0, .int .i64 (x:Nat), .slice t.a t.len t.cap, .int .i64 (y:Nat)] ah.vT∧B b∧bF B w t k∧k≠ [])
def pY (T:aX) (c:gH) (n:aM) (w:World) (v:Value) (w':World):Prop:=
 ∃ (av:aX) (c':gH) (m:List Nat) (s:aa),fU w' av c'∧fV T av c c' m [] w w' 2∧m.length≤2∧
   ((∃ks,v= .tuple #[.slice s.a s.len s.cap, .int .i64 0]∧z_ av.P n ks m∧xJ (fun q=>¬av.M q) w' s ks m)∨(v= .tuple #[.slice s.a s.len s.cap, .int .i64 3]∧¬T.C.D.calm 2))
theorem aa9 {B:Nat→Prop} {w:World} {T:aX} {c:gH} {n:aM} {K V D:aa} (h:fU w T c) (gC:T.C.D.cR≤900000100) (jz:1≤fO T) (pd:c.made.length≤1000) (aD:cd B w n K V D) (aj:ef n) (ad:cr n≤232):
   aQ Tryz.prog F.AZ #[.pointer (some ⟨c.dt,0,none⟩),e9 n K V D] w (pY T c n w):=by
 refine W.anL (some ⟨c.dt,0,none⟩) n.leaf K V D w _ ?_
 (delta W.AZ bS ai aq sD;dsimp only)
 refine cn (vs:=[.bool n.leaf, .slice K.a K.len K.cap, .slice V.a V.len V.cap, .slice D.a D.len D.cap]) rfl fun ag gh bD ky=> ?_
 obtain ⟨cH,aT,bC,ba⟩:=cj gh
 refine ⟨_,cH,K,aT,V,bC,D,ba,(O_ (h.ext bD) gC jz pd (aD.ext bD) aj ad).use ?_⟩
 rintro _ a8 ⟨no,av,c',pt,cy,eT⟩
 have CV:∀ (e:Int),((e=0∧av.P no=some n)∨(e=3∧¬T.C.D.calm 1))→∃ (fT:aa) (b9:World),Sem.run Tryz.prog (Instr.buildSlice ah.H3 1 #[(0, .agg #[.slice none 0 0, .int .i64 (no:Nat)])]) a8= .ok (.slice fT.a fT.len fT.cap) b9∧pY T c n w (.tuple #[.slice fT.a fT.len fT.cap, .int .i64 e]) b9:=by
   intro e he
   refine ⟨⟨some ⟨a8.heap.size,0,none⟩,1,1⟩,_,anJ a8 _,?_⟩
   have jE:=iR a8 (.cells #[.slice none 0 0, .int .i64 (no:Nat)] ah.vT)
   have gI:fV T av c c' [no] [] w (a8.alloc (.cells #[.slice none 0 0, .int .i64 (no:Nat)] ah.vT)) 2:=(((fV.ext T c bD).trans cy).trans (fV.ext av c' jE)).mono (by omega)
   refine ⟨av,c',[no],⟨some ⟨a8.heap.size,0,none⟩,1,1⟩,pt.ext jE,gI,by simp,?_⟩
   rcases he with ⟨rfl,he⟩|⟨rfl,he⟩
   · refine .inl ⟨[],rfl, .inl ⟨ad,no,rfl,rfl,he⟩, .inl ⟨_,no,rfl,rfl,rfl,Var.new a8 [.slice none 0 0, .int .i64 (no:Nat)] ah.vT,fun hm=> ?_⟩⟩
     have:=pt.t.lt hm
     omega
   · exact .inr ⟨rfl,fun al=>he (mE al (by omega))⟩
 rcases eT with ⟨rfl,gA⟩|⟨rfl,fj⟩
 · exact ⟨_,0,rfl,CV 0 (.inl ⟨rfl,gA⟩)⟩
 · exact ⟨_,3,rfl,CV 3 (.inr ⟨rfl,fj⟩)⟩
theorem lB {b:Bool} {K V D:aa}:∀v∈ [.bool b, .slice K.a K.len K.cap, .slice V.a V.len V.cap, .slice D.a D.len D.cap],Plain v:=by
 intro v ak
 simp only[gb,m4,m5] at ak
 rcases ak with rfl|rfl|rfl|rfl<;>trivial
theorem anM {B:Nat→Prop} {w:World} {T:aX} {c:gH} {n:aM} {K V D:aa} (h:fU w T c) (gC:T.C.D.cR≤900000090) (jz:2≤fO T) (pd:c.made.length≤900) (aD:cd B w n K V D) (aj:ef n) (ad:232<cr n) (au:cr n≤400) (U:1≤dr n)
   (aJ:if n.leaf then dr n≤n.keys.length-1∧1≤n.keys.length-1 else dr n≤n.keys.length-2∧1≤n.keys.length-2) (a6:cr (n.left (dr n))≤232) (b8:cr (n.right (dr n))≤232):
   aQ Tryz.prog F.Dy #[.pointer (some ⟨c.dt,0,none⟩),e9 n K V D] w (pY T c n w):=by
 obtain ⟨AI,anN⟩:=aj.RQ U aJ
 have qn:=aj.k3 (by omega)
 have ab:dr n<n.keys.length:=by
   split at aJ<;>omega
 refine W.anO (some ⟨c.dt,0,none⟩) n.leaf K V D w _ ?_
 (delta W.Dy bS ai aq aa_ dx aB sD;dsimp only)
 refine cn (vs:=[.bool n.leaf, .slice K.a K.len K.cap, .slice V.a V.len V.cap, .slice D.a D.len D.cap]) rfl fun ag gh bD ky=> ?_
 obtain ⟨cH,aT,bC,ba⟩:=cj gh
 refine ⟨_,cH,K,aT,V,bC,D,ba,(yO (aD.ext bD) aj (by omega) U aJ).use ?_⟩
 rintro _ a8 ⟨dZ,eE,eF,c9,df,dv,t,rfl,az,aN,aV,jR⟩
 refine ⟨_,dZ,eE,eF,t,_,c9,df,dv,true,rfl,cn (vs:=[.bool false, .slice none 0 0, .slice none 0 0, .slice none 0 0]) rfl fun e6 FI y_ TQ=>cn (vs:=[.bool false, .slice none 0 0, .slice none 0 0, .slice none 0 0]) rfl fun dp AU ux Dt=> ?_⟩
 have OE:=FI.ext ux
 refine ⟨OE.dA rfl lB,rfl,ek OE (us:=[.bool (n.left (dr n)).leaf, .slice dZ.a dZ.len dZ.cap, .slice eE.a eE.len eE.cap, .slice eF.a eF.len eF.cap]) rfl rfl fun cB FD AV TK=> ?_⟩
 have zb:=AU.an AV (by omega)
 refine ⟨zb.dA rfl lB,rfl,ek zb (us:=[.bool (n.right (dr n)).leaf, .slice c9.a c9.len c9.cap, .slice df.a df.len df.cap, .slice dv.a dv.len dv.cap]) rfl rfl fun dO H4 Pc Pd=>⟨fun ab=>(by cases ab),fun _=> ?_⟩⟩
 have anP:=FD.an Pc (by omega)
 have nR:=bD.trans jR
 have KZ:Ext a8 dO:=Ext.eX (Ext.eX (y_.trans ux) AV (by omega)) Pc (by omega)
 have TX:=nR.trans KZ
 have Ov:=nR.size
 have av8:=KZ.size
 obtain ⟨d0,d1,d2,d3⟩:=cj anP
 refine ⟨_,d0,dZ,d1,eE,d2,eF,d3,(O_ (h.ext TX) (by omega) (by omega) (by omega) (az.ext KZ) AI a6).use ?_⟩
 rintro _ cv ⟨x,ck,Pe,iN,g3,anQ⟩
 have kh:∀q,T.N q→q<w.heap.size:=fun q J=>h.t.lt (aX.k7 J)
 have av9:=g3.to.an.size
 rcases anQ with ⟨rfl,aba⟩|⟨rfl,fj⟩
 · have anR:=H4.an g3.to.an fun J=>by have:=kh _ J;omega
   obtain ⟨d0,d1,d2,d3⟩:=cj anR
   have anS:cd (fun q=>ag.heap.size≤q) cv (n.right (dr n)) c9 df dv:=(aN.ext KZ).an g3.to.an fun q J hF=>by have:=kh _ hF;omega
   have HM:ck.C.D.cR≤900000100:=jb g3.to.cR (by clear iN g3 aba;omega)
   have TY:=g3.room
   have av_:Pe.made.length=c.made.length+1:=by rw[g3.made,dU];rfl
   simp only[ru] at TY
   have vU:=O_ iN HM (by omega) (by omega) anS anN b8
   rw[g3.dt] at vU
   refine ⟨x,0,rfl,fun ab=>(by cases ab),fun _=>⟨_,d0,c9,d1,df,d2,dv,d3,vU.use ?_⟩⟩
   rintro _ eR ⟨y,da,abb,dY,gr,anT⟩
   have anU:=gr.to.an.size
   have cy:=((fV.ext T c TX).trans g3).trans gr
   have n2:n.keys.getD (dr n) []=n.keys[dr n]:=by rw[pD,gF ab];rfl
   have anV:=aV.ext KZ
   have anW:bF (fun q=>¬da.M q) eR t n.keys[dr n]:=by
     rw[←n2]
     have iA:bF (fun q=>q<dO.heap.size∧ag.heap.size≤q) dO t (n.keys.getD (dr n) []):=bF.bz anV fun q J ab=>⟨J,ab⟩
     have abc:=(g3.trans gr).to
     refine bF.bz (bF.an iA abc.an fun q J hF=>by have:=kh _ hF;omega) fun q _ ab hm=> ?_
     rcases abc.jj q hm with ox|ox
     · have:=h.t.lt ox;omega
     · omega
   have jd:n.keys[dr n]≠ []:=by
     have ae:eM n.keys[dr n]:=by
       rcases aj with aj|aj
       · exact aj.ok _ (fg ab)
       · exact aj.ok _ (fg ab)
     intro e
     have:=ae.1
     rw[e] at this;simp at this
   have jE:=iR eR (.cells #[.slice none 0 0, .int .i64 (x:Nat), .slice t.a t.len t.cap, .int .i64 (y:Nat)] ah.vT)
   have gI:=(cy.trans (fV.ext da abb jE)).mono (j:=2) (by omega)
   have CV:∀ (e:Int),((e=0∧da.P y=some (n.right (dr n)))∨(e=3∧¬ck.C.D.calm 1))→∃ (ej:aa) (lQ:World),Sem.run Tryz.prog (Instr.buildSlice ah.H3 2 #[(0, .agg #[.slice none 0 0, .int .i64 (x:Nat)]),(1, .agg #[.slice t.a t.len t.cap, .int .i64 (y:Nat)])]) eR= .ok (.slice ej.a ej.len ej.cap) lQ∧
       pY T c n w (.tuple #[.slice ej.a ej.len ej.cap, .int .i64 e]) lQ:=by
     intro e he
     refine ⟨⟨some ⟨eR.heap.size,0,none⟩,2,2⟩,_,anK eR _ _ t,da,abb,[x,y],⟨some ⟨eR.heap.size,0,none⟩,2,2⟩,dY.ext jE,gI,by simp,?_⟩
     rcases he with ⟨rfl,he⟩|⟨rfl,he⟩
     · have cA:da.P x=some (n.left (dr n)):=by
         rw[(gr.g4 x (by rw[g3.f];simp)).1,aba]
       refine .inl ⟨[n.keys[dr n]],rfl, .inr ⟨ad,x,y,ab,rfl,rfl,cA,he⟩, .inr ⟨_,x,y,_,t,rfl,rfl,rfl,Var.new eR [.slice none 0 0, .int .i64 (x:Nat), .slice t.a t.len t.cap, .int .i64 (y:Nat)] ah.vT,fun hm=> ?_,bF.ext anW jE,jd⟩⟩
       have:=dY.t.lt hm
       omega
     · exact .inr ⟨rfl,fun al=>he (g3.to.calm 1 (mE al (by omega)))⟩
   rcases anT with ⟨rfl,gA⟩|⟨rfl,fj⟩
   · exact ⟨_,0,rfl,CV 0 (.inl ⟨rfl,gA⟩)⟩
   · exact ⟨_,3,rfl,CV 3 (.inr ⟨rfl,fj⟩)⟩
 · have gI:=((fV.ext T c TX).trans g3).mono (j:=2) (by omega)
   exact ⟨_,3,rfl,fun _=>⟨ck,Pe,[x],bU,iN,gI,by simp, .inr ⟨rfl,fun al=>fj (mE al (by omega))⟩⟩,fun ab=>(by cases ab)⟩
theorem Pf {B:Nat→Prop} {w:World} {T:aX} {c:gH} {n:aM} {K V D:aa} (h:fU w T c) (gC:T.C.D.cR≤900000090) (jz:2≤fO T) (pd:c.made.length≤900) (aD:cd B w n K V D) (aj:ef n) (au:cr n≤400)
   (ad:232<cr n→1≤dr n∧(if n.leaf then dr n≤n.keys.length-1∧1≤n.keys.length-1 else dr n≤n.keys.length-2∧1≤n.keys.length-2)∧cr (n.left (dr n))≤232∧cr (n.right (dr n))≤232):
   aQ Tryz.prog F.sE #[.pointer (some ⟨c.dt,0,none⟩),e9 n K V D] w (pY T c n w):=by
 have qn:=aj.k3 (by omega)
 refine W.anX (some ⟨c.dt,0,none⟩) n.leaf K V D w _ ?_
 (delta W.sE bS ai aq aT aB gl;dsimp only)
 refine cn (vs:=[.bool n.leaf, .slice K.a K.len K.cap, .slice V.a V.len V.cap, .slice D.a D.len D.cap]) rfl fun ag gh bD ky=> ?_
 obtain ⟨cH,aT,bC,ba⟩:=cj gh
 refine ⟨_,cH,K,aT,V,bC,D,ba,(vt (aD.ext bD) aj (by omega)).use ?_⟩
 rintro _ a8 ⟨rfl,jR⟩
 have nR:=bD.trans jR
 obtain ⟨d0,d1,d2,d3⟩:=cj (gh.ext jR)
 have fin:∀ (v:Value) (w':World),pY T c n a8 v w'→∃s:aa,∃e:Int,v= .tuple #[.slice s.a s.len s.cap, .int .i64 e]∧pY T c n w (.tuple #[.slice s.a s.len s.cap, .int .i64 e]) w':=by
   rintro v w' ⟨av,c',m,s,aA,aE,aI,aL⟩
   have gI:=((fV.ext T c nR).trans aE).mono (j:=2) (by omega)
   rcases aL with ⟨ks,rfl,cQ⟩|⟨rfl,cQ⟩
   · exact ⟨s,0,rfl,av,c',m,s,aA,gI,aI, .inl ⟨ks,rfl,cQ⟩⟩
   · exact ⟨s,3,rfl,av,c',m,s,aA,gI,aI, .inr ⟨rfl,cQ⟩⟩
 refine ⟨_,rfl,fun ab=>⟨_,d0,K,d1,V,d2,D,d3,?_⟩,fun ab=>⟨_,d0,K,d1,V,d2,D,d3,?_⟩⟩
 · have ab:((cr n:Nat):Int)>232:=dD ab
   obtain ⟨aA,aE,aI,aL⟩:=ad (by omega)
   refine (anM (h.ext nR) gC jz pd (aD.ext nR) aj (by omega) au aA aE aI aL).use ?_
   rintro v w' ak
   obtain ⟨s,e,rfl,g⟩:=fin v w' ak
   exact ⟨s,e,rfl,g⟩
 · have ab:¬((cr n:Nat):Int)>232:=eW ab
   refine (aa9 (h.ext nR) (by omega) (by omega) (by omega) (aD.ext nR) aj (by omega)).use ?_
   rintro v w' ak
   obtain ⟨s,e,rfl,g⟩:=fin v w' ak
   exact ⟨s,e,rfl,g⟩
end
end Go.Proofs.YtplieiecebljmaaGreat
