/- Contracts of the functions that the statement reaches, and the plain laws over them; each theorem stands with its conditions. -/
import Derived.OpenShut
import Derived.Test.YtplieiecebljmaaGreatRows
import Derived.Test.YtplieiecebljmaaGreatBMany2
namespace Go.Proofs.YtplieiecebljmaaGreat
open Go b6
section
def dG.rO (D:dG) (i:Nat):List mV:=match D.waits.find? fun x=>x.i==i with
 |some x=>x.qv
 |none=> []
def dG.calm (D:dG) (k:Nat):Prop:=(D.gh.getD 1 0= -1∨(k:Int)≤D.gh.getD 1 0)∧(D.gh.getD 2 0= -1∨(k:Int)≤D.gh.getD 2 0)
def dG.key (D:dG):List mV×Int:=(D.gE,D.gh.getD 3 0)
theorem oT {W V:Nat→Prop} {w w' hD:World} (U:aq W w w') (ab:aq V w' hD) (h:∀q,q<w.heap.size→V q→W q):aq W w hD:=
 ⟨ab.os.trans U.os,ab.tape.trans U.tape,ab.output.trans U.output,j5 U.size ab.size,fun k ae c9=>(ab.block k (lP ae U.size) fun ak=>c9 (h k ae ak)).trans (U.block k ae c9)⟩
theorem mD {D:dG} {k l:Nat} (h:D.calm k) (aA:l≤k):D.calm l:=⟨h.1.imp id fun h=>by omega,h.2.imp id fun h=>by omega⟩
theorem I4 {D:dG} {k m:Nat} (ae:k=1∨k=2) (aG:D.gh.length=4) (h:D.calm (m+1)):(D.h9 k).calm m∧D.rN k=false:=by
 obtain ⟨U,ab⟩:=h
 have xj:1<D.gh.length:=by omega
 have rK:2<D.gh.length:=by omega
 rcases ae with rfl|rfl
 · have aW:(D.h9 1).gh.getD 1 0=(nM (D.gh.getD 1 0)).2:=by
     show (D.gh.set 1 _).getD 1 0=_
     rw[nh (by rw[iB];omega),tE]
   have bq:(D.h9 1).gh.getD 2 0=D.gh.getD 2 0:=by
     show (D.gh.set 1 _).getD 2 0=_
     rw[nh (by rw[iB];omega),mb (by omega),nh rK]
   unfold dG.calm dG.rN
   rw[aW,bq]
   unfold nM
   rcases U with U|U
   · rw[if_pos U]
     exact ⟨⟨.inl rfl,ab.imp id fun h=>by omega⟩,rfl⟩
   · rw[if_neg (by omega),if_neg (by omega)]
     exact ⟨⟨.inr (by show (m:Int)≤_-1;omega),ab.imp id fun h=>by omega⟩,rfl⟩
 · have aW:(D.h9 2).gh.getD 2 0=(nM (D.gh.getD 2 0)).2:=by
     show (D.gh.set 2 _).getD 2 0=_
     rw[nh (by rw[iB];omega),tE]
   have bq:(D.h9 2).gh.getD 1 0=D.gh.getD 1 0:=by
     show (D.gh.set 2 _).getD 1 0=_
     rw[nh (by rw[iB];omega),mb (by omega),nh xj]
   unfold dG.calm dG.rN
   rw[aW,bq]
   unfold nM
   rcases ab with ab|ab
   · rw[if_pos ab]
     exact ⟨⟨U.imp id fun h=>by omega, .inl rfl⟩,rfl⟩
   · rw[if_neg (by omega),if_neg (by omega)]
     exact ⟨⟨U.imp id fun h=>by omega, .inr (by show (m:Int)≤_-1;omega)⟩,rfl⟩
theorem Qw (D:dG) {k:Nat} (ae:k=1∨k=2):(D.h9 k).key=D.key:=by
 unfold dG.key dG.h9
 rcases ae with rfl|rfl<;>simp[oy]
theorem W8 {sz:Nat} {w:World} {s:ad} {α:Type} {c:α→List Value} {l:List α} (h:Src sz w s (dn c l)) (al:∀x∈l,(c x).length=sz) (dr:0<sz) {i:Nat} (hi:i<l.length):
   s.len=l.length∧∃A,s.a=some A∧eE w (A.add (i*sz)) 0 sz=some (c l[i]):=by
 have aA:s.len=l.length:=by
   have:=h.len
   rw[oR l al] at this
   exact (Nat.eq_of_mul_eq_mul_right dr this).symm
 refine ⟨aA,?_⟩
 cases aT:s.a with
 |none=>
   have:=congrArg List.length (h.nil aT)
   rw[oR l al,tF] at this
   have:l.length*sz≠0:=Nat.mul_ne_zero (by omega) (by omega)
   omega
 |some A=>
   refine ⟨A,rfl,?_⟩
   have hle:i*sz+sz≤s.len*sz:=by
     rw[aA,←Nat.succ_mul]
     exact Fl _ hi
   rw[ahA (h.rd A aT) hle,WW al hi]
def F8:List Value:=bm (List.replicate 256 0)
def Qx (D:dG) (i:Nat) (w:World) (v:Value) (w':World):Prop:=v= .agg (bm (D.now i)).toArray∧Ext w w'
theorem ahB {w:World} {D:dG} (h:jq w D) {i:Nat} (hi:i<D.n) (fS:D.cS≤1000000000):
   aR Tryz.prog F.Bj #[.pointer (some ⟨D.d,0,none⟩), .int .i64 ((i:Nat):Int)] w (Qx D i w):=by
 have nI:=h.cZ
 have q1:=h.Mx hi
 refine W.ahC (some ⟨D.d,0,none⟩) ((i:Nat):Int) w _ ?_
 (delta W.Bj oH aE ay Qy ah ar My;dsimp only)
 refine cq (vs:=F8) (by kernel_rfl) fun ag ak bH _=> ?_
 have hd:=h.ext bH
 refine ⟨_,rfl,some D.je,hd.dK,?_⟩
 have A5:F8.length=256:=by rw[F8,jE,Fm]
 have fin:∀ (K:List Value→World→Prop),(∀bC,Ext w bC→K (bm (D.now i)) bC)→cN ag ⟨w.heap.size,0,none⟩ (Array.toList (bm (D.now i)).toArray)∧Array.size (bm (D.now i)).toArray=256∧az (setCells ag ⟨w.heap.size,0,none⟩ 0 (Array.toList (bm (D.now i)).toArray)) fun bC=>∃y7:List Value,eE bC ⟨w.heap.size,0,none⟩ 0 256=some y7∧K y7 bC:=by
   intro K bp
   refine ⟨ak.de (by rw[HS,jE,q1,A5]) (by rw[HS];exact Dk _),by simp[jE,q1],dW ak (us:=bm (D.now i)) (by rw[jE,q1,A5]) rfl fun bC P1 A2 _=>⟨_,P1.rd (by rw[jE,q1]),bp bC (Ext.eX bH A2 (cU _))⟩⟩
 cases aI:D.waits.find? fun x=>x.i==i with
 |some x=>
   have af:=C3 aI
   have F9:x.i=i:=by
     have:=Fe aI
     exact eq_of_beq this
   have aA:=hd.m.W9 F5 F6 (k:=(i:Int)) (v:= .slice x.s.a x.s.len x.s.cap) (nA.2 ⟨x,af,by unfold oS.e;rw[F9]⟩) false
   have dI:=(h.wn x af).1
   have hlen:0<x.qv.length:=List.length_pos_iff.2 dI
   have agm:=(h.wn x af).2.2
   obtain ⟨fR,A,ax,dN⟩:=W8 (hd.ws x af).src (fun s aj=>by rw[jE];exact h.F7 x af s aj) (by decide) (i:=x.qv.length-1) (by omega)
   have q2:D.now i=x.qv[x.qv.length-1]'(by omega):=by
     unfold dG.now
     rw[aI]
     show x.qv.getLastD []=_
     rw[List.getLastD_eq_getLast?,List.getLast?_eq_getElem?,gq (by omega)]
     rfl
   refine ⟨x.s,ag,aA,fun _=>⟨A,ax,?_⟩,fun bD=> ?_⟩
   · rw[fR,ct (n:=((x.qv.length:Nat):Int)-1) (by omega) (by omega)]
     have PL:Int.toNat (((x.qv.length:Nat):Int)-1)=x.qv.length-1:=by omega
     rw[PL]
     refine ⟨⟨by omega,by omega⟩,_,dN,?_⟩
     rw[←q2]
     exact fin (fun y7 bC=>Qx D i w (.agg y7.toArray) bC) fun bC fF=>⟨rfl,fF⟩
   · have:=eB bD
     omega
 |none=>
   obtain ⟨ahD,U,ab⟩:=I3 W4
   have aA:=hd.m.W_ F5 F6 (k:=(i:Int)) U ab (fun v ak=>by
     obtain ⟨x,af,he⟩:=nA.1 ak
     have ao:=tz.1 aI x af
     unfold oS.e at he
     simp only[Prod.mk.injEq] at he
     apply ao
     have:x.i=i:=by omega
     rw[this];simp) false
   have eP:i<D.gE.length:=hi
   have q2:D.now i=D.gE[i]:=by
     unfold dG.now
     rw[aI]
     exact nh eP
   have lR:Src 256 ag ⟨some ⟨D.gZ,0,none⟩,D.gE.length,D.gE.length⟩ (dn bm D.gE):=by
     have nk:=oR (c:=bm) (sz:=256) D.gE fun s aj=>by rw[jE];exact h.sP s aj
     have:=ck.Is (sz:=256) (o:=0) (n:=D.gE.length) (cap:=D.gE.length) hd.l (by simp[nk])
     rw[C7,HS,gV (by rw[nk];exact cU _)] at this
     exact this
   obtain ⟨fR,A,ax,dN⟩:=W8 lR (fun s aj=>by rw[jE];exact h.sP s aj) (by decide) eP
   refine ⟨⟨none,0,0⟩,ag,aA,fun bD=>by simp at bD,fun _=>⟨_,rfl,_,hd.fK,A,ax,⟨by omega,by show (i:Int)<((D.gE.length:Nat):Int);omega⟩,_,dN,?_⟩⟩
   rw[←q2]
   exact fin (fun y7 bC=>Qx D i w (.agg y7.toArray) bC) fun bC fF=>⟨rfl,fF⟩
def ahE (D:dG) (i:Nat) (w:World) (v:Value) (w':World):Prop:=
 jq w' (D.h9 1)∧aq (fun q=>q=D.d) w w'∧
   ((D.rN 1=true∧v= .tuple #[.slice none 0 0, .int .i64 3])∨
    (D.rN 1=false∧∃s:ad,v= .tuple #[.slice s.a s.len s.cap, .int .i64 0]∧bX (fun q=>w.heap.size≤q) w' s (D.now i)))
theorem ahF {w:World} {D:dG} (h:jq w D) {i:Nat} (hi:i<D.n) (fS:D.cS≤1000000000):
   aR Tryz.prog F.Bk #[.pointer (some ⟨D.d,0,none⟩), .int .i64 ((i:Nat):Int)] w (ahE D i w):=by
 refine W.ahG (some ⟨D.d,0,none⟩) ((i:Nat):Int) w _ ?_
 (delta W.Bk aZ aE Xa iE oH ah;dsimp only)
 refine (W6 h _).use ?_
 rintro _ _ ⟨rfl,rfl⟩
 refine ⟨_,rfl,fun aa=> ?_,fun _=>⟨_,rfl,(W7 h (k:=1) (by decide)).use ?_⟩⟩
 · have aa:¬(0≤(i:Int)∧(i:Int)<D.n):=by simpa using aa
   omega
 rintro _ aw ⟨rfl,kW,dB,u6⟩
 refine ⟨_,rfl,fun aa=>⟨kW,dB, .inl ⟨aa,rfl⟩⟩,fun aa=>(ahB kW (i:=i) hi fS).use ?_⟩
 rintro _ bc ⟨rfl,eZ⟩
 have q1:=h.Mx hi
 refine ⟨_,rfl,cq (vs:=F8) (by kernel_rfl) fun bz qt fu II=>⟨qt.de (by rw[HS,jE];show (D.now i).length=_;rw[q1,F8,jE,Fm]) (by rw[HS];exact Dk _),by rw[List.size_toArray,jE];exact q1,dW qt (us:=bm (D.now i)) (by rw[jE,q1,F8,jE,Fm]) rfl fun bT Mz kU Ml=> ?_⟩⟩
 have arV:=eZ.size
 have a_:D.d<aw.heap.size:=kW.v.lt
 refine ⟨(kW.ext (eZ.trans fu)).an kU (fun q J e=>by have:=kW.lt J;omega),oT (dB.trans (aq.e0 (eZ.trans fu))) kU fun q J e=>by omega, .inr ⟨aa,⟨some ⟨bc.heap.size,0,none⟩,256,256⟩,rfl,?_,cU _,fun k ae=> ?_⟩⟩
 · have:=Mz.aeI (o:=0) (n:=256) (c:=256) (l:=D.now i) (by rw[jE,q1];decide) (by rw[C7,gV (by rw[jE,q1];decide)])
   exact this
 · obtain ⟨A,ax,rfl⟩:=ae
   cases ax
   have:=Mz.lt
   exact ⟨by show w.heap.size≤bc.heap.size;omega,this⟩
end
section
theorem Xb:∀ (l:List Value) (k:Nat) (arr:Array Value),(l.zipIdx k).foldl (fun cs (p:Value×Nat)=>cs.setIfInBounds p.2 p.1) arr=nD arr k l
 | [],_,_=>rfl
 |v::l,k,arr=>by
   rw[List.zipIdx_cons,List.foldl_cons]
   exact Xb l (k+1) (arr.setIfInBounds k v)
theorem Qz {P:Program} {T e:TypeId} {d:TypeDesc} {i:TypeInfo} {z:Value} {sz:Nat} {cs:Array Value} (w:World) (U:P.underlying T=some (.slice e)) (ab:P.underlying e=some d) (ao:P.cellsOf e=sz) (hi:P.info? e=some i) (sJ:i.zero=some z) (eY:cs.size=sz) (arW:sz≠0) (hle:sz≤16777216):
   Sem.run P (Instr.buildSlice T 1 #[(0, .agg cs)]) w= .ok (.slice (some ⟨w.heap.size,0,none⟩) 1 1) (w.alloc (.cells cs e)):=by
 have bD:=pD (P:=P) (w:=w) ab
 rw[ao] at bD
 have ahH:Instr.fill (fun i=>some (i*sz,sz)) ((Array.range (1*sz)).map fun x=>z.cells[x%z.cells.size]!) [(0, .agg cs)]=some cs:=by
   have al:(Value.agg cs).cells=cs:=rfl
   rw[Instr.fill]
   simp only[al]
   rw[if_neg (by simp[eY]),Instr.fill]
   rw[←Array.foldl_toList,Array.toList_zipIdx]
   have e:(fun (cs:Array Value) (x:Value×Nat)=>match x with|(c,j)=>cs.setIfInBounds (0*sz+j) c)=fun cs (p:Value×Nat)=>cs.setIfInBounds p.2 p.1:=by
     funext cs x
     obtain ⟨c,j⟩:=x
     simp
   rw[e,Xb]
   congr 1
   apply Array.toList_inj.1
   rw[yC _ _ _ (by simp[eY])]
   simp[eY]
 have Bl:=Bm (w:=w) hi
 have aD:¬(1*sz>2^24):=by
   have:(2:Nat)^24=16777216:=rfl
   omega
 have P9:¬(1*sz=0):=by omega
 have pG:Instr.fill (fun i=>some (i*sz,sz)) ((Array.range (1*sz)).map fun x=>z.cells[x%z.cells.size]!) (#[(0,Value.agg cs)]:Array (Nat×Value)).toList=some cs:=ahH
 simp only[Instr.buildSlice,Sem.run_bind,fA U,bD,Result.andThen,aD,P9,if_false,zeroValue,Bl,sJ,Sem.run_pure,pG]
 simp[newRow,newObj,Sem.run]
theorem Xc (w:World) (l:mV) (aA:l.length=256):
   Sem.run Tryz.prog (Instr.buildSlice ai.sO 1 #[(0, .agg (bm l).toArray)]) w= .ok (.slice (some ⟨w.heap.size,0,none⟩) 1 1) (w.alloc (.cells (bm l).toArray ai.nL)):=by
 have h:((Tryz.prog.info? ai.nL).bind (·.zero)).isSome=true:=by kernel_rfl
 obtain ⟨z,bD⟩:=AF.1 h
 obtain ⟨i,hi,sJ⟩:=I3 bD
 exact Qz (d:= .array 256 ai.uint8) (sz:=256) w (by kernel_rfl) (by kernel_rfl) (by kernel_rfl) hi sJ (by rw[List.size_toArray,jE,aA]) (by decide) (by decide)
theorem ahI:qj Tryz.prog ai.sO ai.nL 256 256:=⟨by kernel_rfl⟩
def dG.put (D:dG) (i:Nat) (s:ad) (l:mV):dG:=
 {D.h9 2 with waits:=⟨i,s,D.rO i++ [l]⟩::D.waits.filter (fun x=>x.i !=i),writes:=IntKind.wrap .i64 (D.writes+1),cS:=D.cS+1}
theorem ahJ {D:dG} {i j:Nat} (h:j≠i):(D.waits.filter fun x=>x.i !=i).find? (fun x=>x.i==j)=D.waits.find? fun x=>x.i==j:=by
 rw[List.find?_filter]
 congr 1
 funext x
 by_cases e:x.i=j
 · rw[e];simp[h]
 · simp[e]
theorem Xd (D:dG) (i:Nat) (s:ad) (l:mV) (j:Nat):(D.put i s l).now j=if j=i then l else D.now j:=by
 unfold dG.now dG.put
 by_cases h:j=i
 · subst h
   simp
 · rw[if_neg h]
   simp only
   rw[List.find?_cons_of_neg (by simp;omega),ahJ h]
   rfl
def Xe (D:dG) (i:Nat) (l:mV) (w:World) (v:Value) (w':World):Prop:=
 (D.rN 2=true∧v= .int .i64 3∧jq w' (D.h9 2)∧aq (fun q=>q=D.d) w w')∨
 (D.rN 2=false∧v= .int .i64 0∧∃s:ad,jq w' (D.put i s l)∧aq (mC D) w w'∧∀q,aP s q→mC D q∨w.heap.size≤q)
theorem ahK {w:World} {D:dG} {b:ad} {l:mV} (h:jq w D) {i:Nat} (hi:i<D.n) (fS:D.cS≤1000000000) (aa:Src 1 w b (bm l)) (aA:l.length=256) (hd:∀q,aP b q→¬mC D q):
   aR Tryz.prog F.Bn #[.pointer (some ⟨D.d,0,none⟩), .int .i64 ((i:Nat):Int), .slice b.a b.len b.cap] w (Xe D i l w):=by
 have u5:=len8 aa
 have nI:=h.cZ
 refine W.ahL (some ⟨D.d,0,none⟩) ((i:Nat):Int) b w _ ?_
 (delta W.Bn aZ aE QA bL st ay;dsimp only)
 refine (W6 h _).use ?_
 rintro _ _ ⟨rfl,rfl⟩
 have eQ:decide (0≤(i:Int)∧(i:Int)<D.n)=true:=jB ⟨by omega,by omega⟩
 refine ⟨_,rfl,fun U=> ?_,fun _=>⟨_,rfl,(W7 h (k:=2) (by decide)).use ?_⟩⟩
 · rw[eQ,u5,aA] at U
   simp at U
 rintro _ aw ⟨rfl,kW,dB,u6⟩
 refine ⟨_,rfl,fun nj=> .inl ⟨nj,rfl,kW,dB⟩,fun nj=>bW ?_⟩
 obtain ⟨kf,hold⟩:∃kf:ad,(match D.waits.find? fun x=>x.i==i with|some x=>x.s|none=>⟨none,0,0⟩)=kf:=⟨_,rfl⟩
 have rP:=kW.ext (eR aw)
 have FZ:Src 1 aw.drew b (bm l):=(aa.an dB fun q J e=>hd q J (.inl e)).ext (eR aw)
 have vj:bU 256 ai.nL aw.drew kf (dn bm (D.rO i))∧(∀q,aP kf q→mC D q∧q≠D.d∧q≠D.gZ∧q≠D.je)∧(∀x∈D.waits,x.i≠i→∀q,aP x.s q→¬aP kf q)∧(D.rO i).length≤D.cS∧(∀s∈D.rO i,s.length=256)∧
     ∀w':World,jJ w' D.je encZ (D.waits.map oS.e)→Sem.run Tryz.prog (Instr.lookup ai.y3 (.map (some D.je)) (.int .i64 ((i:Nat):Int)) false) w'= .ok (.slice kf.a kf.len kf.cap) w':=by
   cases aI:D.waits.find? fun x=>x.i==i with
   |some x=>
     rw[aI] at hold
     have hold:x.s=kf:=hold
     subst hold
     have af:=C3 aI
     have F9:x.i=i:=by
       have:=Fe aI
       exact eq_of_beq this
     have e:D.rO i=x.qv:=by unfold dG.rO;rw[aI]
     rw[e]
     refine ⟨rP.ws x af,fun q J=>⟨.inr (.inr (.inr ⟨x,af,J⟩)),fun e=>(h.cQ x af).1 (e▸J),fun e=>(h.cQ x af).2.1 (e▸J),fun e=>(h.cQ x af).2.2 (e▸J)⟩,fun y b1 dI=>h.a3 y b1 x af (by omega),(h.wn x af).2.2,h.F7 x af,fun w' hm=>hm.W9 F5 F6 (k:=(i:Int)) (v:= .slice x.s.a x.s.len x.s.cap) (nA.2 ⟨x,af,by unfold oS.e;rw[F9]⟩) false⟩
   |none=>
     rw[aI] at hold
     have hold:(⟨none,0,0⟩:ad)=kf:=hold
     subst hold
     have e:D.rO i=[]:=by unfold dG.rO;rw[aI]
     rw[e]
     obtain ⟨ahD,U,ab⟩:=I3 W4
     refine ⟨bU.none _ _ _,fun q J=>(pE q J).elim,fun x _ _ q _ J=>(pE q J).elim,fy _,fun s aj=>(by cases aj),fun w' hm=>hm.W_ F5 F6 (k:=(i:Int)) U ab (fun v ak=> ?_) false⟩
     obtain ⟨x,af,he⟩:=nA.1 ak
     have ao:=tz.1 aI x af
     unfold oS.e at he
     simp only[Prod.mk.injEq] at he
     apply ao
     have:x.i=i:=by omega
     rw[this];simp
 obtain ⟨bR,xx,Xf,arX,MA,Xg⟩:=vj
 obtain ⟨A,ax,dN⟩:∃A,b.a=some A∧eE aw.drew A 0 256=some (bm l):=by
   cases aT:b.a with
   |none=>
     have:=congrArg List.length (aa.nil aT)
     rw[jE,aA] at this
     cases this
   |some A=>
     refine ⟨A,rfl,?_⟩
     have:=FZ.rd A aT
     rwa[u5,aA] at this
 have ahM:¬aP kf A.block:=fun J=>hd _ ⟨A,ax,rfl⟩ (xx _ J).1
 have Xh:∀bz:World,Ext aw.drew bz→∃ (au:ad) (bT:World),Sem.run Tryz.prog (Builtin.append_ #[ai.sO,ai.sO] ai.sO #[.slice kf.a kf.len kf.cap, .slice (some ⟨bz.heap.size,0,none⟩) 1 1]) (bz.alloc (.cells (bm l).toArray ai.nL))= .ok (.slice au.a au.len au.cap) bT∧
     bU 256 ai.nL bT au (dn bm (D.rO i++ [l]))∧aq (aP kf) bz bT∧(∀k,aP au k→aP kf k∨bz.heap.size≤k)∧aq (aP kf) (bz.alloc (.cells (bm l).toArray ai.nL)) bT:=by
   intro bz fu
   have hlen:kf.len=(D.rO i).length:=by
     have:=bR.1
     rw[oR (c:=bm) (sz:=256) _ fun s aj=>by rw[jE];exact MA s aj] at this
     omega
   have mg:=im bz (.cells (bm l).toArray ai.nL)
   obtain ⟨au,bT,aC,aF,aH,aN,cV⟩:=ahI.append (gX:=ai.sO) (x:=⟨some ⟨bz.heap.size,0,none⟩,1,1⟩) (Src.new (T:=ai.nL) bz (bm l) 1 (by rw[jE,aA])) (bR.ext (fu.trans mg)) (Dk l) (by rw[hlen];show (2*(_+1)+1000)*256≤_;omega)
   refine ⟨au,bT,aC,?_,(aq.e0 mg).trans aN,fun k ae=>(cV k ae).imp id fun h=> ?_,aN⟩
   · rw[F3]
     have:dn bm [l]=bm l:=by simp[dn]
     rw[this];exact aF
   · have:=mg.size;omega
 have MB:∀ (bT:World) (au:ad),jJ bT D.je encZ (D.waits.map oS.e)→∃bd:World,Sem.run Tryz.prog (Instr.mapUpdate ai.y3 (.map (some D.je)) (.int .i64 ((i:Nat):Int)) (.slice au.a au.len au.cap)) bT= .ok () bd∧aq (fun q=>q=D.je) bT bd∧
     jJ bd D.je encZ ((oS.mk i au (D.rO i++ [l])::D.waits.filter fun x=>x.i !=i).map oS.e):=by
   intro bT au hm
   have QB:=hm.keys
   rw[C8] at QB
   cases aI:D.waits.find? fun x=>x.i==i with
   |some x=>
     have af:=C3 aI
     have F9:x.i=i:=by
       have:=Fe aI
       exact eq_of_beq this
     obtain ⟨bM,b8,he⟩:=List.append_of_mem af
     have dI:∀y∈bM++b8,y.i≠i:=by
       intro y b1 e
       rw[he,m9,tB] at QB
       have U:=(AE.nodup_iff).1 QB
       rw[List.nodup_cons] at U
       apply U.1
       rw[←m9]
       refine nA.2 ⟨y,b1,?_⟩
       show ((y.i:Nat):Int)=((x.i:Nat):Int)
       omega
     have nk:D.waits.filter (fun x=>x.i !=i)=bM++b8:=by
       rw[he,yk,List.filter_cons_of_neg (by simp[F9])]
       rw[yj.2 fun y b1=>by have:=dI y (sq _ b1);simpa using this,yj.2 fun y b1=>by have:=dI y (o5 _ b1);simpa using this]
     have a6:(D.waits.map oS.e).Perm (((i:Int), .slice x.s.a x.s.len x.s.cap)::(bM++b8).map oS.e):=by
       rw[he,m9,tB,m9]
       have:x.e=((i:Int), .slice x.s.a x.s.len x.s.cap):=by unfold oS.e;rw[F9]
       rw[this]
       exact AE
     obtain ⟨bd,aC,aF,_,aH⟩:=ahs F5 F6 (hm.perm a6) (.slice au.a au.len au.cap)
     refine ⟨bd,aC,aF,?_⟩
     rw[nk]
     exact aH
   |none=>
     have dI:∀y∈D.waits,y.i≠i:=fun y b1 e=>by
       have:=tz.1 aI y b1
       rw[e] at this;simp at this
     have nk:D.waits.filter (fun x=>x.i !=i)=D.waits:=yj.2 fun y b1=>by simpa using dI y b1
     obtain ⟨bd,aC,aF,_,aH⟩:=ahr F5 F6 (k:=(i:Int)) hm (fun v ak=>by
       obtain ⟨x,af,he⟩:=nA.1 ak
       unfold oS.e at he
       simp only[Prod.mk.injEq] at he
       exact dI x af (by omega)) (.slice au.a au.len au.cap)
     refine ⟨bd,aC,aF,?_⟩
     rw[nk]
     exact aH
 have fin:∀ (bT bd:World) (au:ad),aq (aP kf) aw.drew bT→bU 256 ai.nL bT au (dn bm (D.rO i++ [l]))→(∀k,aP au k→aP kf k∨aw.drew.heap.size≤k)→aq (fun q=>q=D.je) bT bd→jJ bd D.je encZ ((oS.mk i au (D.rO i++ [l])::D.waits.filter fun x=>x.i !=i).map oS.e)→
     ∃a23:Addr,(some ⟨D.d,0,none⟩:Option Addr)=some a23∧∃n24:Int,bd.cell? (a23.add 6)=some (.int .i64 n24)∧∃a25:Addr,(some ⟨D.d,0,none⟩:Option Addr)=some a25∧(∃u:Value,bd.cell? (a25.add 6)=some u)∧bd.frozen? (a25.add 6)=false∧az (bd.setCell (a25.add 6) (.int .i64 (IntKind.wrap .i64 (n24+1)))) fun cT=>Xe D i l w (.int .i64 0) cT:=by
   intro bT bd au kU PZ g_ pK kF
   have Mz:=rP.v.an kU fun J=>(xx _ J).2.1 rfl
   have QC:Var bd D.d (D.h9 2).c ai.Mw:=Mz.an pK h.a8.2.1
   have hlen:(D.h9 2).c.length=7:=kW.Qv
   obtain ⟨s1,s2⟩:=jI QC (i:=6) (by rw[hlen];decide)
   have e6:bd.cell? (Addr.add ⟨D.d,0,none⟩ 6)=some (.int .i64 D.writes):=by
     rw[bn,gd,QC.cell]
     unfold dG.c
     have:=kW.f4
     rw[uX (by rw[kR];omega),kR,this];rfl
   rw[bn,gd] at e6
   refine ⟨_,rfl,D.writes,by rw[bn,gd];exact e6,_,rfl,by rw[bn,gd];exact s1,by rw[bn,gd];exact s2,?_⟩
   rw[bn,gd]
   have pP:=iq bd D.d 6 (.int .i64 (IntKind.wrap .i64 (D.writes+1)))
   have IA:=jH QC (i:=6) (.int .i64 (IntKind.wrap .i64 (D.writes+1)))
   have ph:(D.h9 2).c.set 6 (.int .i64 (IntKind.wrap .i64 (D.writes+1)))=(D.put i au l).c:=by
     have aG:=kW.f4
     have aW:(D.put i au l).c=(D.h9 2).gh.map (.int .i64)++ [.slice (some ⟨D.gZ,0,none⟩) D.gE.length D.gE.length, .map (some D.je), .int .i64 (IntKind.wrap .i64 (D.writes+1))]:=rfl
     have bq:(D.h9 2).c=(D.h9 2).gh.map (.int .i64)++ [.slice (some ⟨D.gZ,0,none⟩) D.gE.length D.gE.length, .map (some D.je), .int .i64 D.writes]:=rfl
     rw[aW,bq,List.set_append_right _ _ (by rw[kR];omega),kR,aG]
     rfl
   rw[ph] at IA
   have Bo:aq (fun q=>q=D.je∨q=D.d) bT (bd.setCell ⟨D.d,6,none⟩ (.int .i64 (IntKind.wrap .i64 (D.writes+1)))):=(pK.mono fun q _ e=> .inl e).trans (pP.mono fun q _ e=> .inr e)
   have qw:∀q,aP au q→q≠D.d∧q≠D.gZ∧q≠D.je:=fun q J=>by
     have arY:=rP.lt (q:=D.d) (.inl rfl)
     have arZ:=rP.lt (q:=D.gZ) (.inr (.inl rfl))
     have ar0:=rP.lt (q:=D.je) (.inr (.inr (.inl rfl)))
     rcases g_ q J with U|U
     · exact (xx q U).2
     · exact ⟨by omega,by omega,by omega⟩
   have nN:∀x∈D.waits.filter (fun x=>x.i !=i),x∈D.waits∧x.i≠i:=fun x af=>by
     obtain ⟨U,ab⟩:=C2.1 af
     exact ⟨U,by simpa using ab⟩
   refine bW (.inr ⟨nj,rfl,au,⟨IA,?_,?_,?_,?_,h.sP,?_,h.c_,h.cZ,kW.f4,kW.fr,h.a8,?_,?_⟩,?_,?_⟩)
   · exact ck.an (ck.an rP.l kU fun J=>(xx _ J).2.2.1 rfl) Bo (by
       rintro (e|e)
       · exact h.a8.2.2 e
       · exact h.a8.1 e.symm)
   · exact kF.an pP (fun e=>h.a8.2.1 e.symm)
   · intro x af
     rcases fP.1 af with rfl|af
     · exact PZ.an Bo fun q J=>by
         rintro (e|e)
         · exact (qw q J).2.2 e
         · exact (qw q J).1 e
     · obtain ⟨U,ab⟩:=nN x af
       refine ((rP.ws x U).an kU fun q J=>Xf x U ab q J).an Bo fun q J=> ?_
       rintro (e|e)
       · exact (h.cQ x U).2.2 (e▸J)
       · exact (h.cQ x U).1 (e▸J)
   · intro x af
     rcases fP.1 af with rfl|af
     · refine ⟨by simp,hi,?_⟩
       show (D.rO i++ [l]).length≤D.cS+1
       rw[dA,qP];omega
     · obtain ⟨U,ab⟩:=nN x af
       have:=h.wn x U
       exact ⟨this.1,this.2.1,Nat.le_succ_of_le this.2.2⟩
   · intro x af
     rcases fP.1 af with rfl|af
     · intro s aj
       rcases eH.1 aj with aj|aj
       · exact MA s aj
       · rw[lN.1 aj];exact aA
     · exact h.F7 x (nN x af).1
   · intro x af
     rcases fP.1 af with rfl|af
     · exact ⟨fun J=>(qw _ J).1 rfl,fun J=>(qw _ J).2.1 rfl,fun J=>(qw _ J).2.2 rfl⟩
     · exact h.cQ x (nN x af).1
   · have mA:∀y∈D.waits,y.i≠i→∀q,aP y.s q→¬aP au q:=fun y b1 dI q J jn=>by
       rcases g_ q jn with U|U
       · exact Xf y b1 dI q J U
       · have:=(rP.ws y b1).lt q J;omega
     intro x af y b1 dI q J jn
     rcases fP.1 af with rfl|af
     · rcases fP.1 b1 with rfl|b1
       · exact dI rfl
       · exact mA y (nN y b1).1 (fun e=>dI e.symm) q jn J
     · rcases fP.1 b1 with rfl|b1
       · exact mA x (nN x af).1 dI q J jn
       · exact h.a3 x (nN x af).1 y (nN y b1).1 dI q J jn
   · refine ((dB.mono fun q _ e=> .inl e).trans ((aq.e0 (eR aw)).trans (kU.mono fun q _ J=>(xx q J).1))).trans (Bo.mono fun q _ J=> ?_)
     rcases J with e|e
     · exact .inr (.inr (.inl e))
     · exact .inl e
   · intro q J
     rcases g_ q J with U|U
     · exact .inl (xx q U).1
     · have:aw.drew.heap.size=aw.heap.size:=rfl
       exact .inr (by omega)
 refine ⟨aP kf,_,rfl,fun J=>(xx _ J).2.1 rfl,some D.je,rP.dK,_,rfl,fun J=>(xx _ J).2.1 rfl,some D.je,rP.dK,by omega,A,ax,ahM,_,dN,⟨?_,?_⟩⟩
 · obtain ⟨au,bT,aC,aF,aH,aN,cV⟩:=Xh aw.drew (.refl _ _)
   have tZ:=rP.m.an aH fun J=>(xx _ J).2.2.2 rfl
   obtain ⟨bd,aW,bq,ec⟩:=MB bT au tZ
   exact ⟨kf,_,Xg _ rP.m, .refl _ _,⟨some ⟨aw.drew.heap.size,0,none⟩,1,1⟩,_,Xc _ l aA,aq.e0 (im _ _),au,bT,aC,cV,bd,aW,fin bT bd au aH aF aN bq ec⟩
 · obtain ⟨au,bT,aC,aF,aH,aN,cV⟩:=Xh aw.drew (.refl _ _)
   have vq:=rP.m.ext (im aw.drew (.cells (bm l).toArray ai.nL))
   have tZ:=rP.m.an aH fun J=>(xx _ J).2.2.2 rfl
   obtain ⟨bd,aW,bq,ec⟩:=MB bT au tZ
   exact ⟨⟨some ⟨aw.drew.heap.size,0,none⟩,1,1⟩,_,Xc _ l aA,aq.e0 (im _ _),kf,_,Xg _ vq, .refl _ _,au,bT,aC,cV,bd,aW,fin bT bd au aH aF aN bq ec⟩
end
section
theorem ahN {P:Program} {e:TypeId} {v:Value} {sz:Nat} (bD:((P.info? e).bind (·.zero)).map (·.cells)=some (List.replicate sz v).toArray) (al:P.cellsOf e=sz) (aj:0<sz) (n:Nat):oF P e n=(List.replicate (n*sz) v).toArray:=by
 unfold oF
 rw[al]
 cases hi:(P.info? e).bind (·.zero) with
 |none=>rw[hi] at bD;cases bD
 |some z=>
   rw[hi] at bD
   simp only[C_,Option.some.injEq] at bD
   simp only[Option.getD_some]
   apply Array.ext
   · simp
   · intro i U ab
     have aD:n*sz≠0:=by
       intro h
       simp[h] at ab
     simp only[aD,if_false,bD,Array.getElem_map,Array.getElem_range]
     have a_:i%sz<sz:=qe _ aj
     simp[a_]
theorem ahO (m n:Nat):dn bm (List.replicate n (List.replicate m 0))=List.replicate (n*m) (.int .u8 0):=by
 induction n with
 |zero=>simp[dn]
 |succ n c1=>
   rw[List.replicate_succ,I2,c1,wP,Nat.one_mul,Nat.add_comm]
   have e:bm (List.replicate m 0)=List.replicate m (Value.int .u8 0):=by simp[bm]
   rw[e,List.replicate_append_replicate]
def xy:mV:=List.replicate 256 0
theorem ahP (n:Nat):oF Tryz.prog ai.nL n=(dn bm (List.replicate n xy)).toArray:=by
 unfold xy
 rw[ahO]
 exact ahN (by kernel_rfl) (by kernel_rfl) (by decide) n
def ui (n d gZ je:Nat):dG:=⟨d,gZ,je,[-1, -1, -1, -1],List.replicate n xy,[],0,0⟩
theorem ahQ {w:World} {b:Nat} {vs:List Value} {T:TypeId} (h:Var w b vs T) (aA:4≤vs.length):
   aR Tryz.prog F.Bp #[.pointer (some ⟨b,0,none⟩)] w (fun v w'=>v= .tuple #[]∧Var w' b (List.replicate 4 (.int .i64 (-1))++vs.drop 4) T∧aq (fun q=>q=b) w w'∧w'.heap.size=w.heap.size):=by
 refine W.ahR (some ⟨b,0,none⟩) w _ ?_
 (delta W.Bp aE st ay;dsimp only)
 refine ⟨fun i w'=>∃j:Nat,i=j∧j≤4∧Var w' b (List.replicate j (.int .i64 (-1))++vs.drop j) T∧aq (fun q=>q=b) w w'∧w'.heap.size=w.heap.size,fun i _=>((4:Int)-i).toNat,⟨0,rfl,by omega,h, .refl _ _,rfl⟩,?_⟩
 rintro _ ag ⟨j,rfl,aU,ak,al,bD⟩
 refine ⟨fun a_=> ?_,fun cn=> ?_⟩
 · have a_:j<4:=by have:=di a_;omega
   have aT:Addr.add ⟨b,0,none⟩ (Int.toNat ((j:Nat):Int)*1)=⟨b,j,none⟩:=by rw[g6,lp,bn,gd]
   obtain ⟨s1,s2⟩:=jI ak (i:=j) (by simp;omega)
   rw[ct (n:=(j:Int)+1) (by omega) (by omega)]
   refine ⟨_,rfl,⟨by omega,by show (j:Int)<4;omega⟩,by rw[aT];exact s1,by rw[aT];exact s2,bW ⟨⟨j+1,by omega,by omega,?_,?_,?_⟩,?_⟩⟩
   · have:=jH ak (i:=j) (.int .i64 (-1))
     rw[aT]
     have e:(List.replicate j (Value.int .i64 (-1))++vs.drop j).set j (.int .i64 (-1))=List.replicate (j+1) (.int .i64 (-1))++vs.drop (j+1):=by
       rw[List.set_append_right _ _ (by simp),Fm,C6,yl (show j<vs.length by omega),List.set_cons_zero,List.replicate_succ',d_]
       rfl
     rwa[e] at this
   · rw[aT];exact al.trans (iq _ _ _ _)
   · rw[aT];simpa[World.setCell] using bD
   · show ((4:Int)-((j:Int)+1)).toNat<((4:Int)-(j:Int)).toNat
     omega
 · have cn:j=4:=by have:=eB cn;omega
   subst cn
   exact ⟨rfl,ak,al,bD⟩
theorem xz {n:Nat} (U:16≤n) (ab:n≤1600) (w:World):
   aR Tryz.prog F.xz #[.int .i64 ((n:Nat):Int)] w (fun v w'=>∃d gZ je:Nat,v= .tuple #[.pointer (some ⟨d,0,none⟩), .int .i64 0]∧jq w' (ui n d gZ je)∧Ext w w'∧∀q,mC (ui n d gZ je) q→w.heap.size≤q):=by
 refine W.ahS ((n:Nat):Int) w _ ?_
 (delta W.xz aE wW fK ah bA;dsimp only)
 refine ⟨fun h=> ?_,fun _=>⟨⟨by omega,by omega,by omega,by omega⟩,?_⟩⟩
 · simp only[tD,fY] at h;omega
 rw[ahP,g6]
 have nj:=ck.new w (dn bm (List.replicate n xy)).toArray ai.nL
 have bH:=im w (.cells (dn bm (List.replicate n xy)).toArray ai.nL)
 have n4:=Dt w (.cells (dn bm (List.replicate n xy)).toArray ai.nL)
 obtain ⟨ag,vS⟩:∃ag,ag=w.alloc (.cells (dn bm (List.replicate n xy)).toArray ai.nL):=⟨_,rfl⟩
 rw[←vS] at nj bH n4⊢
 obtain ⟨aC,aF⟩:=jJ.make (P:=Tryz.prog) (enc:=encZ) ai.y3 ag
 have cB:=im ag (.map #[] 0)
 have u6:=Dt ag (.map #[] 0)
 obtain ⟨aw,vb⟩:∃aw,aw=ag.alloc (.map #[] 0):=⟨_,rfl⟩
 rw[←vb] at aC aF cB u6
 refine bW ⟨some ag.heap.size,aw,aC, #[.int .i64 0, .int .i64 0, .int .i64 0, .int .i64 0, .slice (some ⟨w.heap.size,0,none⟩) n n, .map (some ag.heap.size), .int .i64 0],by kernel_rfl,cq (vs:=[.int .i64 0, .int .i64 0, .int .i64 0, .int .i64 0, .slice (some ⟨w.heap.size,0,none⟩) n n, .map (some ag.heap.size), .int .i64 0]) rfl fun bc mj eZ FU=>⟨_,rfl,(ahQ mj (by show 4≤7;decide)).use ?_⟩⟩
 rintro _ bz ⟨rfl,qt,w4,II⟩
 refine ⟨rfl,aw.heap.size,w.heap.size,ag.heap.size,rfl,⟨?_,?_,?_,fun x af=>(by cases af),fun x af=>(by cases af),fun s aj=> ?_,fun x af=>(by cases af),?_,?_,rfl,fun x af=> ?_,?_,fun x af=>(by cases af),fun x af=>(by cases af)⟩,Ext.eX (bH.trans (cB.trans eZ)) w4 (by omega),?_⟩
 · have e:(ui n aw.heap.size w.heap.size ag.heap.size).c=List.replicate 4 (.int .i64 (-1))++ [Value.int .i64 0, .int .i64 0, .int .i64 0, .int .i64 0, .slice (some ⟨w.heap.size,0,none⟩) n n, .map (some ag.heap.size), .int .i64 0].drop 4:=by
     unfold dG.c ui
     simp
   rw[e];exact qt
 · exact ck.an ((nj.ext cB).ext eZ) w4 (by show¬w.heap.size=aw.heap.size;omega)
 · exact (aF.ext eZ).an w4 (by omega)
 · rw[O7 aj,xy,Fm]
 · show 16≤(List.replicate n xy).length;simpa using U
 · show (List.replicate n xy).length≤1600;simpa using ab
 · have:x= -1:=by
     simp[ui] at af;exact af
   subst this;exact ⟨by decide,by decide⟩
 · exact ⟨by show aw.heap.size≠w.heap.size;omega,by show aw.heap.size≠ag.heap.size;omega,by show w.heap.size≠ag.heap.size;omega⟩
 · rintro q (rfl|rfl|rfl|⟨x,af,_⟩)
   · show w.heap.size≤aw.heap.size;omega
   · exact cU _
   · show w.heap.size≤ag.heap.size;omega
   · cases af
end
section
structure Fr where
 full:Bool
 vT:Bool
 used:Bool
 no:Int
 pins:Int
 b:ad
 l:mV
def Fr.c (f:Fr):List Value:=[.bool f.full, .bool f.vT, .bool f.used, .int .i64 f.no, .int .i64 f.pins, .slice f.b.a f.b.len f.b.cap]
def g5:Fr:=⟨false,false,false,0,0,⟨none,0,0⟩,[]⟩
structure er where
 c:Nat
 bQ:Nat
 aB:List Fr
 hand:Nat
 D:dG
def iJ (C:er) (q:Nat):Prop:=q=C.c∨q=C.bQ∨mC C.D q
structure k4 (w:World) (C:er):Prop where
 v:Var w C.c [.pointer (some ⟨C.D.d,0,none⟩), .slice (some ⟨C.bQ,0,none⟩) C.aB.length C.aB.length, .int .i64 C.hand] ai.Xi
 f:ck w C.bQ (dn Fr.c C.aB).toArray ai.qx
 dev:jq w C.D
 ej:8≤C.aB.length
 eO:C.aB.length≤64
 hd:C.hand<C.aB.length
 a8:C.c≠C.bQ∧¬mC C.D C.c∧¬mC C.D C.bQ
structure Xj (X:Nat→Prop) (w:World) (C:er) (f:Fr) (no:Nat):Prop where
 num:f.no=no
 lt:no<C.D.n
 ar1:bX (fun q=>¬iJ C q∧¬X q) w f.b f.l
 len:f.l.length=256
 clean:f.vT=false→f.l=C.D.now no
structure pV (X:Nat→Prop) (w:World) (C:er):Prop where
 pins:∀f∈C.aB,f.pins=0
 ok:∀f∈C.aB,f.full=true→∃no:Nat,Xj X w C f no
 un:∀ (i j:Nat) (hi:i<C.aB.length) (aU:j<C.aB.length),(C.aB[i]).full=true→(C.aB[j]).full=true→(C.aB[i]).no=(C.aB[j]).no→i=j
 mE:∀q,X q→q<w.heap.size∧¬iJ C q
structure mm (X:Nat→Prop) (w:World) (C:er):Prop where
 raw:k4 w C
 inv:pV X w C
def er.view (C:er) (no:Nat):mV:=match C.aB.find? fun f=>f.full&&f.no==(no:Int) with
 |some f=>f.l
 |none=>C.D.now no
theorem Fr.QD (f:Fr):f.c.length=6:=rfl
theorem MC (l:List Fr):∀x∈l,(Fr.c x).length=6:=fun x _=>rfl
section
variable {w w':World} {C:er} {X:Nat→Prop}
theorem k4.lt (h:k4 w C) {q:Nat} (J:iJ C q):q<w.heap.size:=by
 rcases J with rfl|rfl|J
 · exact h.v.lt
 · exact ck.lt h.f
 · exact h.dev.lt J
theorem k4.an {W:Nat→Prop} (h:k4 w C) (al:aq W w w') (aD:∀q,iJ C q→¬W q):k4 w' C:=
 ⟨h.v.an al (aD _ (.inl rfl)),ck.an h.f al (aD _ (.inr (.inl rfl))),h.dev.an al fun q J=>aD q (.inr (.inr J)),h.ej,h.eO,h.hd,h.a8⟩
theorem k4.ext (h:k4 w C) (al:Ext w w'):k4 w' C:=h.an al fun _ _ h=>h
theorem pV.an {W:Nat→Prop} (h:pV X w C) (al:aq W w w') (aD:∀q,W q→iJ C q∨X q):pV X w' C:=
 ⟨h.pins,fun f aI k5=>by
   obtain ⟨no,aC,aF,aH,aN,cV⟩:=h.ok f aI k5
   exact ⟨no,aC,aF,bX.an aH al fun q J hw=>by
     rcases aD q hw with U|U
     · exact J.1 U
     · exact J.2 U,aN,cV⟩,h.un,fun q J=>⟨lP (h.mE q J).1 al.size,(h.mE q J).2⟩⟩
theorem mm.an {W:Nat→Prop} (h:mm X w C) (al:aq W w w') (aD:∀q,W q→X q):mm X w' C:=
 ⟨h.raw.an al fun q J hw=>(h.inv.mE q (aD q hw)).2 J,h.inv.an al fun q hw=> .inr (aD q hw)⟩
theorem mm.ext (h:mm X w C) (al:Ext w w'):mm X w' C:=h.an al fun _ h=>h.elim
theorem MD (bQ i:Nat):Addr.add ⟨bQ,0,none⟩ (Int.toNat ((i:Nat):Int)*6)=⟨bQ,i*6,none⟩:=by rw[g6,bn,gd]
theorem k4.cells (h:k4 w C):w.cell? ⟨C.c,0,none⟩=some (.pointer (some ⟨C.D.d,0,none⟩))∧w.cell? (Addr.add ⟨C.c,0,none⟩ 1)=some (.slice (some ⟨C.bQ,0,none⟩) C.aB.length C.aB.length)∧w.cell? (Addr.add ⟨C.c,0,none⟩ 2)=some (.int .i64 C.hand):=by
 rw[bn,bn]
 exact ⟨h.v.cell,h.v.cell,h.v.cell⟩
theorem vU {w:World} {bQ:Nat} {fs:List Fr} {T:TypeId} (h:ck w bQ (dn Fr.c fs).toArray T) {i j:Nat} (hi:i<fs.length) (aU:j<6):w.cell? ⟨bQ,i*6+j,none⟩=((fs[i]).c)[j]? :=by
 rw[ck.cell h]
 simp only[Ln]
 exact Mu (MC fs) hi aU
theorem DW {w:World} {bQ:Nat} {fs:List Fr} {T:TypeId} (h:ck w bQ (dn Fr.c fs).toArray T) {i j:Nat} (hi:i<fs.length) (aU:j<6) {v:Value} (gA:Fr) (aI:gA.c=(fs[i]).c.set j v):
   (∃u:Value,w.cell? ⟨bQ,i*6+j,none⟩=some u)∧w.frozen? ⟨bQ,i*6+j,none⟩=false∧ck (w.setCell ⟨bQ,i*6+j,none⟩ v) bQ (dn Fr.c (fs.set i gA)).toArray T∧aq (fun q=>q=bQ) w (w.setCell ⟨bQ,i*6+j,none⟩ v):=by
 refine ⟨⟨((fs[i]).c)[j]'(by rw[Fr.QD];exact aU),by rw[vU h hi aU,gq (by rw[Fr.QD];exact aU)]⟩,ck.frozen h _ rfl,?_,iq _ _ _ _⟩
 have:=jH (vs:=dn Fr.c fs) h (i:=i*6+j) v
 rw[ahq (MC fs) hi aU aI] at this
 exact this
theorem QE {w:World} {bQ:Nat} {fs:List Fr} {T:TypeId} (h:ck w bQ (dn Fr.c fs).toArray T) {i:Nat} (hi:i<fs.length) (gA:Fr):
   cN w ⟨bQ,i*6,none⟩ gA.c∧ck (setCells w ⟨bQ,i*6,none⟩ 0 gA.c) bQ (dn Fr.c (fs.set i gA)).toArray T∧aq (fun q=>q=bQ) w (setCells w ⟨bQ,i*6,none⟩ 0 gA.c):=by
 have aA:=oR (c:=Fr.c) fs (MC fs)
 have hle:i*6+gA.c.length≤(dn Fr.c fs).toArray.size:=by
   rw[List.size_toArray,aA,Fr.QD];omega
 refine ⟨ck.de h _ _ hle ?_,?_,aq.yx (.refl _ _) _ 0⟩
 · intro v ak
   unfold Fr.c at ak
   simp only[fP,mL,mM] at ak
   rcases ak with rfl|rfl|rfl|rfl|rfl|rfl<;>trivial
 · have b5:=ck.AT (o:=i*6) h gA.c
   have e:nD (dn Fr.c fs).toArray (i*6) gA.c=(dn Fr.c (fs.set i gA)).toArray:=by
     have U:=yC gA.c (dn Fr.c fs).toArray (i*6) hle
     have ab:=ahp (MC fs) hi gA
     have ao:gA.c.length=6:=rfl
     rw[ao] at U
     have aG:(nD (dn Fr.c fs).toArray (i*6) gA.c).toList=dn Fr.c (fs.set i gA):=U.trans ab
     rw[←aG]
   rw[e] at b5
   exact b5
theorem Xk (h:k4 w C) (no:Int):aR Tryz.prog F.y8 #[.pointer (some ⟨C.c,0,none⟩), .int .i64 no] w (fun v w'=>v= .bool (decide (0≤no∧no<C.D.n))∧w=w'):=by
 refine W.ahT (some ⟨C.c,0,none⟩) no w _ ?_
 (delta W.y8 aE aS;dsimp only)
 refine eI (fun b w'=>b=decide (0≤no∧no<C.D.n)∧w=w') (fun q J=>⟨fun aa=>⟨_,rfl,_,h.cells.1,(W5 h.dev).use ?_⟩,fun aa=>J _ _ ⟨?_,rfl⟩⟩) ?_
 · rintro _ _ ⟨rfl,rfl⟩
   have aa:0≤no:=by simpa using aa
   refine ⟨_,rfl,J _ _ ⟨?_,rfl⟩⟩
   rw[o6,fY,fY]
   exact ⟨fun h=>⟨aa,h⟩,fun h=>h.2⟩
 · have aa:¬0≤no:=by simpa using aa
   rw[tC (fun h=>aa h.1)]
 · rintro _ _ ⟨rfl,rfl⟩
   exact ⟨rfl,rfl⟩
def AtR (C:er) (no:Int) (v:Value):Prop:=
 (∃ (i:Nat) (hi:i<C.aB.length),v= .pointer (some ⟨C.bQ,i*6,none⟩)∧(C.aB[i]).full=true∧(C.aB[i]).no=no)∨
 (v= .pointer none∧∀f∈C.aB,f.full=true→f.no≠no)
theorem QF (h:k4 w C) (no:Int):aR Tryz.prog F.xA #[.pointer (some ⟨C.c,0,none⟩), .int .i64 no] w (fun v w'=>AtR C no v∧w=w'):=by
 obtain ⟨cy,aS,bA⟩:=h.cells
 have ae:=h.eO
 refine W.ahU (some ⟨C.c,0,none⟩) no w _ ?_
 (delta W.xA aE ar aX bJ bL ay;dsimp only)
 refine ⟨fun h=>(by cases h),fun _=>⟨_,rfl,⟨some ⟨C.bQ,0,none⟩,C.aB.length,C.aB.length⟩,aS,fun i w'=>∃j:Nat,i=j∧j≤C.aB.length∧w=w'∧∀ (k:Nat) (ae:k<C.aB.length),k<j→(C.aB[k]).full=true→(C.aB[k]).no≠no,fun i _=>((C.aB.length:Int)-i).toNat,⟨0,rfl,fy _,rfl,fun k _ h=>by omega⟩,?_⟩⟩
 rintro _ _ ⟨j,rfl,aU,rfl,eT⟩
 refine ⟨fun a_=> ?_,fun cn=> ?_⟩
 · have a_:(j:Int)<((C.aB.length:Nat):Int):=di a_
   have a_:j<C.aB.length:=by omega
   refine ⟨_,rfl,⟨some ⟨C.bQ,0,none⟩,C.aB.length,C.aB.length⟩,aS,_,rfl,⟨by omega,by show (j:Int)<((C.aB.length:Nat):Int);omega⟩,_,rfl,?_⟩
   rw[MD]
   have f0:=vU h.f a_ (j:=0) (by decide)
   have f3:=vU h.f a_ (j:=3) (by decide)
   refine ⟨(C.aB[j]).full,f0,eI (fun b w'=>w=w'∧(b=true↔((C.aB[j]).full=true∧(C.aB[j]).no=no))) (fun q J=>⟨fun aa=>⟨_,rfl,(C.aB[j]).no,by rw[bn];exact f3,J _ _ ⟨rfl,?_⟩⟩,fun aa=>J _ _ ⟨rfl,?_⟩⟩) ?_⟩
   · rw[yq]
     exact ⟨fun h=>⟨aa,h⟩,fun h=>h.2⟩
   · rw[aa]
     exact ⟨fun h=>(by cases h),fun h=>(by cases h.1)⟩
   rintro b w' ⟨rfl,aa⟩
   refine ⟨fun U=>⟨.inl ⟨j,a_,rfl,(aa.1 U).1,(aa.1 U).2⟩,rfl⟩,fun U=> ?_⟩
   rw[ct (n:=(j:Int)+1) (by omega) (by omega)]
   refine ⟨⟨j+1,by omega,by omega,rfl,fun k ae ab ao=> ?_⟩,?_⟩
   · rcases g2 k j with aG|aG
     · exact eT k ae aG ao
     · have:k=j:=by omega
       subst this
       intro aV
       rw[aa.2 ⟨ao,aV⟩] at U;cases U
   · show ((C.aB.length:Int)-((j:Int)+1)).toNat<((C.aB.length:Int)-(j:Int)).toNat
     omega
 · have cn:j=C.aB.length:=by
     have:¬((j:Int)<((C.aB.length:Nat):Int)):=eB cn
     omega
   subst cn
   refine ⟨.inr ⟨rfl,fun f aI k5=> ?_⟩,rfl⟩
   obtain ⟨k,ae,rfl⟩:=lO aI
   exact eT k ae ae k5
theorem ahV (h:k4 w C):aR Tryz.prog F.Bq #[.pointer (some ⟨C.c,0,none⟩)] w (fun v w'=>((∃ (i:Nat) (hi:i<C.aB.length),v= .pointer (some ⟨C.bQ,i*6,none⟩)∧(C.aB[i]).full=false)∨(v= .pointer none∧∀f∈C.aB,f.full=true))∧w=w'):=by
 obtain ⟨cy,aS,bA⟩:=h.cells
 have ae:=h.eO
 refine W.ahW (some ⟨C.c,0,none⟩) w _ ?_
 (delta W.Bq ar aE aX bJ ay;dsimp only)
 refine ⟨_,rfl,⟨some ⟨C.bQ,0,none⟩,C.aB.length,C.aB.length⟩,aS,fun i w'=>∃j:Nat,i=j∧j≤C.aB.length∧w=w'∧∀ (k:Nat) (ae:k<C.aB.length),k<j→(C.aB[k]).full=true,fun i _=>((C.aB.length:Int)-i).toNat,⟨0,rfl,fy _,rfl,fun k _ h=>by omega⟩,?_⟩
 rintro _ _ ⟨j,rfl,aU,rfl,eT⟩
 refine ⟨fun a_=> ?_,fun cn=> ?_⟩
 · have a_:(j:Int)<((C.aB.length:Nat):Int):=di a_
   have a_:j<C.aB.length:=by omega
   have f0:=vU h.f a_ (j:=0) (by decide)
   refine ⟨_,rfl,⟨some ⟨C.bQ,0,none⟩,C.aB.length,C.aB.length⟩,aS,_,rfl,⟨by omega,by show (j:Int)<((C.aB.length:Nat):Int);omega⟩,(C.aB[j]).full,by rw[MD];exact f0,fun aa=>⟨_,rfl,⟨some ⟨C.bQ,0,none⟩,C.aB.length,C.aB.length⟩,aS,_,rfl,⟨by omega,by show (j:Int)<((C.aB.length:Nat):Int);omega⟩, .inl ⟨j,a_,by rw[MD],by simpa using aa⟩,rfl⟩,fun aa=> ?_⟩
   rw[ct (n:=(j:Int)+1) (by omega) (by omega)]
   refine ⟨⟨j+1,by omega,by omega,rfl,fun k ae ab=> ?_⟩,?_⟩
   · rcases g2 k j with aG|aG
     · exact eT k ae aG
     · have:k=j:=by omega
       subst this
       simpa using aa
   · show ((C.aB.length:Int)-((j:Int)+1)).toNat<((C.aB.length:Int)-(j:Int)).toNat
     omega
 · have cn:j=C.aB.length:=by
     have:¬((j:Int)<((C.aB.length:Nat):Int)):=eB cn
     omega
   subst cn
   refine ⟨.inr ⟨rfl,fun f aI=> ?_⟩,rfl⟩
   obtain ⟨k,ae,rfl⟩:=lO aI
   exact eT k ae ae
def pW (fs gs:List Fr):Prop:=gs.length=fs.length∧∀ (i:Nat) (U:i<fs.length) (ab:i<gs.length),gs[i]={fs[i] with used:=(gs[i]).used}
theorem pW.refl (fs:List Fr):pW fs fs:=⟨rfl,fun i U ab=>rfl⟩
theorem pW.set {fs gs:List Fr} (h:pW fs gs) {i:Nat} (hi:i<gs.length) (u:Bool):pW fs (gs.set i {gs[i] with used:=u}):=by
 refine ⟨by rw[iB];exact h.1,fun j U ab=> ?_⟩
 rw[List.getElem_set]
 split
 · rename_i e
   subst e
   have:=h.2 i U hi
   rw[this]
 · exact h.2 j U _
theorem ahX (h:k4 w C) (a6:∀f∈C.aB,f.pins=0):aR Tryz.prog F.Br #[.pointer (some ⟨C.c,0,none⟩)] w (fun v w'=>∃ (i:Nat) (gs:List Fr) (hd:Nat),i<C.aB.length∧v= .pointer (some ⟨C.bQ,i*6,none⟩)∧pW C.aB gs∧k4 w' {C with aB:=gs,hand:=hd}∧aq (fun q=>q=C.c∨q=C.bQ) w w'):=by
 obtain ⟨cy,aS,bA⟩:=h.cells
 have iY:=h.ej
 have dj:=h.eO
 have ahY:=h.hd
 refine W.ahZ (some ⟨C.c,0,none⟩) w _ ?_
 (delta W.Br bL ar aE ay aX bJ st;dsimp only)
 refine ⟨_,rfl,_,bA,_,rfl,⟨some ⟨C.bQ,0,none⟩,C.aB.length,C.aB.length⟩,aS,fun ah0 i w'=>∃ (s:Nat) (gs:List Fr),i=s∧s≤C.aB.length∧ah0=(((C.hand+s)%C.aB.length:Nat):Int)∧pW C.aB gs∧k4 w' {C with aB:=gs}∧aq (fun q=>q=C.c∨q=C.bQ) w w'∧∀ (t:Nat) (af:(C.hand+t)%C.aB.length<gs.length),t<s→(gs[(C.hand+t)%C.aB.length]).used=false,
   fun _ i _=>(2*(C.aB.length:Int)-i).toNat,⟨0,C.aB,rfl,fy _,by rw[C5,ru ahY],pW.refl _,h, .refl _ _,fun t _ h=>by omega⟩,?_⟩
 rintro _ _ ag ⟨s,gs,rfl,aj,rfl,pX,aQ,al,eT⟩
 have ME:gs.length=C.aB.length:=pX.1
 obtain ⟨i,hi⟩:∃i,i=(C.hand+s)%C.aB.length:=⟨_,rfl⟩
 have Bs:i<gs.length:=by rw[hi,ME];exact qe _ (by omega)
 rw[←hi]
 obtain ⟨d0,d1,d2⟩:=aQ.cells
 have d1:ag.cell? (Addr.add ⟨C.c,0,none⟩ 1)=some (.slice (some ⟨C.bQ,0,none⟩) gs.length gs.length):=d1
 have aI:ck ag C.bQ (dn Fr.c gs).toArray ai.qx:=aQ.f
 rw[ct (n:=2*((C.aB.length:Nat):Int)) (by omega) (by omega)]
 have hw:IntKind.wrap .i64 (((i:Nat):Int)+1)=((i+1:Nat):Int):=by rw[ct (by omega) (by omega)];rfl
 have Xl:Int.tmod ((i+1:Nat):Int) ((gs.length:Nat):Int)=(((i+1)%gs.length:Nat):Int):=by
   rw[HV (by omega)];rfl
 have ah1:(i+1)%gs.length=(C.hand+(s+1))%C.aB.length:=by
   rw[hi,ME,Nat.mod_add_mod];rfl
 refine ⟨fun a_=> ?_,fun cn=> ?_⟩
 · refine eI (fun a w'=>a=(((C.hand+(s+1))%C.aB.length:Nat):Int)∧∃F_:List Fr,s+1≤C.aB.length∧pW C.aB F_∧k4 w' {C with aB:=F_}∧aq (fun q=>q=C.c∨q=C.bQ) w w'∧∀ (t:Nat) (af:(C.hand+t)%C.aB.length<F_.length),t<s+1→(F_[(C.hand+t)%C.aB.length]).used=false) (fun q J=>⟨_,rfl,⟨some ⟨C.bQ,0,none⟩,gs.length,gs.length⟩,d1,_,rfl,⟨by omega,by show (i:Int)<((gs.length:Nat):Int);omega⟩,_,rfl,⟨some ⟨C.bQ,0,none⟩,gs.length,gs.length⟩,d1,by show ((gs.length:Nat):Int)≠0;omega,_,rfl,?_⟩) ?_
   · rw[MD,hw]
     have f4:=vU aI Bs (j:=4) (by decide)
     have f2:=vU aI Bs (j:=2) (by decide)
     have Bt:(gs[i]).pins=0:=by
       have U:=pX.2 i (by omega) Bs
       have ab:(gs[i]).pins=(C.aB[i]'(by omega)).pins:=by rw[U]
       rw[ab]
       exact a6 _ (eN _)
     refine ⟨(gs[i]).pins,by rw[bn];exact f4,fun aa=> ?_,fun _=>⟨_,rfl,(gs[i]).used,by rw[bn];exact f2,fun hu=>⟨_,rfl,?_⟩,fun hu=>⟨_,rfl,?_⟩⟩⟩
     · rw[Bt] at aa;simp at aa
     · have MF:s<C.aB.length:=by
         rcases g2 s C.aB.length with U|U
         · exact U
         · have es:s=C.aB.length:=by omega
           have gB:(C.hand+0)%C.aB.length=i:=by rw[hi,es,Nat.add_mod_right];rfl
           have ab:=eT 0 (by rw[gB];exact Bs) (by omega)
           have ao:(gs[i]).used=false:=by
             have e:gs[(C.hand+0)%C.aB.length]'(by rw[gB];exact Bs)=gs[i]:=by congr 1
             rw[←e];exact ab
           rw[ao] at hu;cases hu
       obtain ⟨aC,aF,aH,aN⟩:=DW aI Bs (j:=2) (by decide) (v:= .bool false) {gs[i] with used:=false} rfl
       rw[bn]
       refine ⟨aC,aF,bW (J _ _ ⟨by rw[Xl,ah1],gs.set i {gs[i] with used:=false},MF,pX.set Bs false,?_,al.trans (aN.mono fun q _ e=> .inr e),fun t af ba=> ?_⟩)⟩
       · have ak:=aQ.v.an aN h.a8.1
         refine ⟨?_,aH,aQ.dev.an aN (fun q J e=>h.a8.2.2 (e▸J)),?_,?_,?_,h.a8⟩
         · show Var _ _ [_, .slice (some ⟨C.bQ,0,none⟩) (gs.set i _).length (gs.set i _).length,_] _
           rw[iB];exact ak
         · show 8≤(gs.set i _).length;rw[iB];omega
         · show (gs.set i _).length≤64;rw[iB];omega
         · show C.hand<(gs.set i _).length;rw[iB];omega
       · rw[List.getElem_set]
         split
         · rfl
         · rename_i dI
           rcases g2 t s with U|U
           · exact eT t _ U
           · have:t=s:=by omega
             subst this
             exact absurd hi dI
     · obtain ⟨s1,s2⟩:=jI aQ.v (i:=2) (by simp)
       rw[bn,Xl]
       refine ⟨s1,s2,bW ⟨i,gs,(i+1)%gs.length,by omega,rfl,pX,?_,al.trans ((iq _ _ _ _).mono fun q _ e=> .inl e)⟩⟩
       have ph:=iq ag C.c 2 (.int .i64 (((i+1)%gs.length:Nat):Int))
       refine ⟨jH aQ.v (i:=2) (.int .i64 (((i+1)%gs.length:Nat):Int)),ck.an aI ph (fun e=>h.a8.1 e.symm),aQ.dev.an ph (fun q J e=>h.a8.2.1 (e▸J)),aQ.ej,aQ.eO,?_,h.a8⟩
       exact qe _ (by omega)
   · rintro a w' ⟨rfl,F_,U,ab,ao,aG,aV⟩
     rw[ct (n:=(s:Int)+1) (by omega) (by omega)]
     refine ⟨⟨s+1,F_,by omega,U,rfl,ab,ao,aG,aV⟩,?_⟩
     show (2*(C.aB.length:Int)-((s:Int)+1)).toNat<(2*(C.aB.length:Int)-(s:Int)).toNat
     omega
 · have:=eB cn
   omega
end
end
section
structure kI (C br:er) (w w':World) (k:Nat):Prop where
 c:br.c=C.c
 d:br.D.d=C.D.d
 len:br.aB.length=C.aB.length
 gE:br.D.key=C.D.key
 cS:br.D.cS≤C.D.cS+k
 calm:∀m,C.D.calm (m+k)→br.D.calm m
 an:aq (iJ C) w w'
 jK:∀q,iJ br q→iJ C q∨w.heap.size≤q
theorem kI.refl (C:er) (w:World):kI C C w w 0:=⟨rfl,rfl,rfl,rfl,cU _,fun _ h=>h, .refl _ _,fun _ h=> .inl h⟩
theorem kI.ext {w w':World} (C:er) (h:Ext w w'):kI C C w w' 0:=⟨rfl,rfl,rfl,rfl,cU _,fun _ h=>h,aq.e0 h,fun _ h=> .inl h⟩
theorem kI.trans {C br Xm:er} {w w' hD:World} {k l:Nat} (U:kI C br w w' k) (ab:kI br Xm w' hD l):kI C Xm w hD (k+l):=by
 have aj:=U.an.size
 refine ⟨ab.c.trans U.c,ab.d.trans U.d,ab.len.trans U.len,ab.gE.trans U.gE,by have:=U.cS;have:=ab.cS;omega,fun m hm=>ab.calm m (U.calm (m+l) (by rw[show m+l+k=m+(k+l) by omega];exact hm)),oT U.an ab.an fun q J h=>(U.jK q h).resolve_right (by omega),fun q J=> ?_⟩
 rcases ab.jK q J with h|h
 · exact U.jK q h
 · exact .inr (by omega)
theorem kI.mono {C br:er} {w w':World} {k l:Nat} (h:kI C br w w' k) (aA:k≤l):kI C br w w' l:=
 ⟨h.c,h.d,h.len,h.gE,by have:=h.cS;omega,fun m hm=>h.calm m (mD hm (by omega)),h.an,h.jK⟩
theorem kI.n {C br:er} {w w':World} {k:Nat} (h:kI C br w w' k):br.D.n=C.D.n:=congrArg (fun k:List mV×Int=>k.1.length) h.gE
section
variable {w w':World} {C:er} {X:Nat→Prop}
theorem Bu {fs:List Fr} {D:dG} {c bQ hd:Nat} (un:∀ (i j:Nat) (hi:i<fs.length) (aU:j<fs.length),(fs[i]).full=true→(fs[j]).full=true→(fs[i]).no=(fs[j]).no→i=j) {i:Nat} (hi:i<fs.length) {no:Nat} (aI:(fs[i]).full=true) (aD:(fs[i]).no=no):(er.mk c bQ fs hd D).view no=(fs[i]).l:=by
 unfold er.view
 cases Ga:fs.find? fun f=>f.full&&f.no==(no:Int) with
 |none=>
   have:=tz.1 Ga _ (eN hi)
   simp[aI,aD] at this
 |some f=>
   have hm:=C3 Ga
   have a6:=Fe Ga
   simp only[jS,yq] at a6
   obtain ⟨j,aU,rfl⟩:=lO hm
   have:=un i j hi aU aI a6.1 (by rw[aD,a6.2])
   subst this
   simp only
theorem Bv {fs:List Fr} {D:dG} {c bQ hd:Nat} {no:Nat} (h:∀f∈fs,f.full=true→f.no≠no):(er.mk c bQ fs hd D).view no=D.now no:=by
 unfold er.view
 cases Ga:fs.find? fun f=>f.full&&f.no==(no:Int) with
 |none=>rfl
 |some f=>
   have hm:=C3 Ga
   have a6:=Fe Ga
   simp only[jS,yq] at a6
   exact absurd a6.2 (h f hm a6.1)
theorem bX.QG {B MG:Nat→Prop} {w w':World} {t:ad} {l:Key} {V:Nat→Prop} (h:bX B w t l) (al:aq V w w') (ak:∀q,q<w.heap.size→B q→¬V q) (aa:∀q,q<w.heap.size→B q→MG q):bX MG w' t l:=
 ⟨h.1.an al fun q J=>ak q (h.2.2 q J).2 (h.2.2 q J).1,h.2.1,fun q J=>⟨aa q (h.2.2 q J).2 (h.2.2 q J).1,lP (h.2.2 q J).2 al.size⟩⟩
theorem MH {gs:List Fr} {hd:Nat} {aM:dG} {V:Nat→Prop} (h:pV X w C) (aj:pW C.aB gs) (al:aq V w w') (sH:∀q,q<w.heap.size→V q→iJ C q) (aD:aM.n=C.D.n) (q2:∀i,aM.now i=C.D.now i) (sQ:∀q,mC aM q→mC C.D q∨w.heap.size≤q):pV X w' {C with aB:=gs,hand:=hd,D:=aM}:=by
 have dr:=al.size
 have uj:∀q,q<w.heap.size→iJ {C with aB:=gs,hand:=hd,D:=aM} q→iJ C q:=fun q J aI=>by
   rcases aI with U|U|U
   · exact .inl U
   · exact .inr (.inl U)
   · exact .inr (.inr ((sQ q U).resolve_right (by omega)))
 have y9:∀ (i:Nat) (hi:i<gs.length),∃eP:i<C.aB.length,gs[i]={C.aB[i] with used:=(gs[i]).used}:=fun i hi=>⟨by rw[←aj.1];exact hi,aj.2 i (by rw[←aj.1];exact hi) hi⟩
 refine ⟨fun f aI=> ?_,fun f aI k5=> ?_,fun i j hi aU U ab ao=> ?_,fun q J=>⟨lP (h.mE q J).1 dr,fun aI=>(h.mE q J).2 (uj q (h.mE q J).1 aI)⟩⟩
 · obtain ⟨i,hi,rfl⟩:=lO aI
   obtain ⟨eP,e⟩:=y9 i hi
   have:(gs[i]).pins=(C.aB[i]).pins:=by rw[e]
   rw[this]
   exact h.pins _ (eN eP)
 · obtain ⟨i,hi,rfl⟩:=lO aI
   obtain ⟨eP,e⟩:=y9 i hi
   have aW:(gs[i]).full=(C.aB[i]).full:=by rw[e]
   have bq:(gs[i]).no=(C.aB[i]).no:=by rw[e]
   have ec:(gs[i]).b=(C.aB[i]).b:=by rw[e]
   have jW:(gs[i]).l=(C.aB[i]).l:=by rw[e]
   have kT:(gs[i]).vT=(C.aB[i]).vT:=by rw[e]
   obtain ⟨no,aC,aF,aH,aN,cV⟩:=h.ok _ (eN eP) (by rw[←aW];exact k5)
   refine ⟨no,by rw[bq];exact aC,by rw[aD];exact aF,?_,by rw[jW];exact aN,fun hd=>by rw[jW,q2];exact cV (by rw[←kT];exact hd)⟩
   rw[ec,jW]
   exact bX.QG aH al (fun q J aa ak=>aa.1 (sH q J ak)) fun q J aa=>⟨fun aI=>aa.1 (uj q J aI),aa.2⟩
 · obtain ⟨eP,e⟩:=y9 i hi
   obtain ⟨Bw,ee⟩:=y9 j aU
   have aW:(gs[i]).full=(C.aB[i]).full:=by rw[e]
   have bq:(gs[i]).no=(C.aB[i]).no:=by rw[e]
   have ec:(gs[j]).full=(C.aB[j]).full:=by rw[ee]
   have jW:(gs[j]).no=(C.aB[j]).no:=by rw[ee]
   exact h.un i j eP Bw (by rw[←aW];exact U) (by rw[←ec];exact ab) (by rw[←bq,←jW];exact ao)
theorem MI {gs:List Fr} {hd:Nat} {aM:dG} (h:pV X w C) (aj:pW C.aB gs) (q2:∀i,aM.now i=C.D.now i) (no:Nat):(er.mk C.c C.bQ gs hd aM).view no=C.view no:=by
 have y9:∀ (i:Nat) (hi:i<gs.length),∃eP:i<C.aB.length,gs[i]={C.aB[i] with used:=(gs[i]).used}:=fun i hi=>⟨by rw[←aj.1];exact hi,aj.2 i (by rw[←aj.1];exact hi) hi⟩
 by_cases hex:∃ (i:Nat) (hi:i<C.aB.length),(C.aB[i]).full=true∧(C.aB[i]).no=no
 · obtain ⟨i,hi,U,ab⟩:=hex
   have e2:i<gs.length:=by rw[aj.1];exact hi
   obtain ⟨eP,e⟩:=y9 i e2
   have aW:(gs[i]).full=(C.aB[i]).full:=by rw[e]
   have bq:(gs[i]).no=(C.aB[i]).no:=by rw[e]
   have ec:(gs[i]).l=(C.aB[i]).l:=by rw[e]
   have uk:∀ (i j:Nat) (hi:i<gs.length) (aU:j<gs.length),(gs[i]).full=true→(gs[j]).full=true→(gs[i]).no=(gs[j]).no→i=j:=by
     intro a b aT aa ej eO pe
     obtain ⟨oU,mn⟩:=y9 a aT
     obtain ⟨my,mW⟩:=y9 b aa
     have f1:(gs[a]).full=(C.aB[a]).full:=by rw[mn]
     have f2:(gs[a]).no=(C.aB[a]).no:=by rw[mn]
     have f3:(gs[b]).full=(C.aB[b]).full:=by rw[mW]
     have f4:(gs[b]).no=(C.aB[b]).no:=by rw[mW]
     exact h.un a b oU my (by rw[←f1];exact ej) (by rw[←f3];exact eO) (by rw[←f2,←f4];exact pe)
   rw[Bu uk e2 (by rw[aW];exact U) (by rw[bq];exact ab),ec]
   exact (Bu (fs:=C.aB) (D:=C.D) (c:=C.c) (bQ:=C.bQ) (hd:=C.hand) h.un hi U ab).symm
 · have dx:∀f∈C.aB,f.full=true→f.no≠no:=fun f aI U ab=>by
     obtain ⟨i,hi,rfl⟩:=lO aI
     exact hex ⟨i,hi,U,ab⟩
   have e:C.view no=C.D.now no:=Bv (fs:=C.aB) (D:=C.D) (c:=C.c) (bQ:=C.bQ) (hd:=C.hand) dx
   rw[e,←q2]
   refine Bv fun f aI U ab=> ?_
   obtain ⟨i,hi,rfl⟩:=lO aI
   obtain ⟨eP,e⟩:=y9 i hi
   have aW:(gs[i]).full=(C.aB[i]).full:=by rw[e]
   have bq:(gs[i]).no=(C.aB[i]).no:=by rw[e]
   exact dx _ (eN eP) (by rw[←aW];exact U) (by rw[←bq];exact ab)
theorem Xn {i:Nat} (hi:i<C.aB.length) {aM:dG} {V:Nat→Prop} (h:pV X w C) (al:aq V w w') (sH:∀q,q<w.heap.size→V q→iJ C q) (aD:aM.n=C.D.n)
   (q2:∀j:Nat,((C.aB[i]).full=true→(C.aB[i]).no≠j)→aM.now j=C.D.now j) (sQ:∀q,mC aM q→mC C.D q∨w.heap.size≤q) (f0:Fr) (um:f0.full=false) (QH:f0.pins=0):pV X w' {C with aB:=C.aB.set i f0,D:=aM}:=by
 have dr:=al.size
 have uj:∀q,q<w.heap.size→iJ {C with aB:=C.aB.set i f0,D:=aM} q→iJ C q:=fun q J aI=>by
   rcases aI with U|U|U
   · exact .inl U
   · exact .inr (.inl U)
   · exact .inr (.inr ((sQ q U).resolve_right (by omega)))
 refine ⟨fun f aI=> ?_,fun f aI k5=> ?_,fun a b aT aa U ab ao=> ?_,fun q J=>⟨lP (h.mE q J).1 dr,fun aI=>(h.mE q J).2 (uj q (h.mE q J).1 aI)⟩⟩
 · rcases Da aI with aI|rfl
   · exact h.pins f aI
   · exact QH
 · obtain ⟨k,ae,rfl⟩:=lO aI
   have iW:k<C.aB.length:=by simpa using ae
   by_cases e:i=k
   · subst e
     simp only[tE] at k5
     rw[um] at k5;cases k5
   · simp only[mb e] at k5⊢
     obtain ⟨no,aC,aF,aH,aN,cV⟩:=h.ok _ (eN iW) k5
     refine ⟨no,aC,by rw[aD];exact aF,bX.QG aH al (fun q J aa ak=>aa.1 (sH q J ak)) fun q J aa=>⟨fun aI=>aa.1 (uj q J aI),aa.2⟩,aN,fun hd=> ?_⟩
     show _=aM.now no
     rw[q2 no fun pG he=>e (h.un i k hi iW pG k5 (by rw[he,aC]))]
     exact cV hd
 · have oU:a<C.aB.length:=by simpa using aT
   have my:b<C.aB.length:=by simpa using aa
   by_cases mn:i=a
   · subst mn
     simp only[tE] at U
     rw[um] at U;cases U
   by_cases mW:i=b
   · subst mW
     simp only[tE] at ab
     rw[um] at ab;cases ab
   simp only[mb mn] at U ao
   simp only[mb mW] at ab ao
   exact h.un a b oU my U ab ao
theorem ah2 {i:Nat} (hi:i<C.aB.length) {aM:dG} {hd:Nat} (h:pV X w C) (aA:(C.aB[i]).full=true→∀j:Nat,(C.aB[i]).no=j→aM.now j=(C.aB[i]).l) (q2:∀j:Nat,((C.aB[i]).full=true→(C.aB[i]).no≠j)→aM.now j=C.D.now j) (f0:Fr) (um:f0.full=false) (no:Nat):
   (er.mk C.c C.bQ (C.aB.set i f0) hd aM).view no=C.view no:=by
 by_cases hex:∃ (k:Nat) (ae:k<C.aB.length),(C.aB[k]).full=true∧(C.aB[k]).no=no
 · obtain ⟨k,ae,U,ab⟩:=hex
   have gB:=Bu (fs:=C.aB) (D:=C.D) (c:=C.c) (bQ:=C.bQ) (hd:=C.hand) h.un ae U ab
   have gB:C.view no=(C.aB[k]).l:=gB
   rw[gB]
   by_cases e:i=k
   · subst e
     rw[←aA U no ab]
     refine Bv fun f aI aC aF=> ?_
     obtain ⟨a,aT,rfl⟩:=lO aI
     have oU:a<C.aB.length:=by simpa using aT
     by_cases mn:i=a
     · subst mn
       simp only[tE] at aC
       rw[um] at aC;cases aC
     · simp only[mb mn] at aC aF
       exact mn (h.un i a hi oU U aC (by rw[ab,aF]))
   · have dj:k<(C.aB.set i f0).length:=by simpa using ae
     have rA:(C.aB.set i f0)[k]=C.aB[k]:=mb e _
     have uk:∀ (a b:Nat) (aT:a<(C.aB.set i f0).length) (aa:b<(C.aB.set i f0).length),((C.aB.set i f0)[a]).full=true→((C.aB.set i f0)[b]).full=true→((C.aB.set i f0)[a]).no=((C.aB.set i f0)[b]).no→a=b:=by
       intro a b aT aa U ab ao
       have oU:a<C.aB.length:=by simpa using aT
       have my:b<C.aB.length:=by simpa using aa
       by_cases mn:i=a
       · subst mn
         simp only[tE] at U
         rw[um] at U;cases U
       by_cases mW:i=b
       · subst mW
         simp only[tE] at ab
         rw[um] at ab;cases ab
       simp only[mb mn] at U ao
       simp only[mb mW] at ab ao
       exact h.un a b oU my U ab ao
     rw[Bu uk dj (by rw[rA];exact U) (by rw[rA];exact ab),rA]
 · have dx:∀f∈C.aB,f.full=true→f.no≠no:=fun f aI U ab=>by
     obtain ⟨k,ae,rfl⟩:=lO aI
     exact hex ⟨k,ae,U,ab⟩
   have e:C.view no=C.D.now no:=Bv (fs:=C.aB) (D:=C.D) (c:=C.c) (bQ:=C.bQ) (hd:=C.hand) dx
   rw[e,←q2 no fun U ab=>dx _ (eN hi) U ab]
   refine Bv fun f aI U ab=> ?_
   rcases Da aI with aI|rfl
   · exact dx f aI U ab
   · rw[um] at U;cases U
def Xo (X:Nat→Prop) (C:er) (w:World) (v:Value) (w':World):Prop:=
 ∃br:er,mm X w' br∧kI C br w w' 1∧br.bQ=C.bQ∧(∀j,br.view j=C.view j)∧(∀f∈br.aB,f.full=true→∃g∈C.aB,g.full=true∧g.no=f.no)∧
   ((∃ (i:Nat) (hi:i<br.aB.length),v= .tuple #[.pointer (some ⟨C.bQ,i*6,none⟩), .int .i64 0]∧(br.aB[i]).full=false∧((br.aB[i]).pins=0))∨
    (v= .tuple #[.pointer none, .int .i64 3]∧¬C.D.calm 1))
theorem Xp (h:mm X w C) (fS:C.D.cS≤1000000000):aR Tryz.prog F.y_ #[.pointer (some ⟨C.c,0,none⟩)] w (Xo X C w):=by
 have mX:=h.raw
 refine W.ah3 (some ⟨C.c,0,none⟩) w _ ?_
 (delta W.y_ za aE bJ bL ar aS;dsimp only)
 refine (ahV mX).use ?_
 rintro _ _ ⟨he,rfl⟩
 rcases he with ⟨i,hi,rfl,aI⟩|⟨rfl,eT⟩
 · exact ⟨_,rfl,fun _=>⟨C,h,(kI.refl C w).mono (fy _),rfl,fun _=>rfl,fun f aI nk=>⟨f,aI,nk,rfl⟩, .inl ⟨i,hi,rfl,aI,h.inv.pins _ (eN hi)⟩⟩,fun h=>(by cases h)⟩
 refine ⟨_,rfl,fun h=>(by cases h),fun _=>(ahX mX h.inv.pins).use ?_⟩
 rintro _ ag ⟨i,gs,hd,hi,rfl,pX,kq,ir⟩
 have e2:i<gs.length:=by rw[pX.1];exact hi
 have I5:aq (iJ C) w ag:=ir.mono fun q _ J=>by
   rcases J with J|J
   · exact .inl J
   · exact .inr (.inl J)
 have DX:=MH (hd:=hd) (aM:=C.D) h.inv pX I5 (fun q _ h=>h) rfl (fun _=>rfl) fun q J=> .inl J
 have MJ:=MI (hd:=hd) (aM:=C.D) h.inv pX fun _=>rfl
 obtain ⟨a7,vV⟩:∃a7:er,a7={C with aB:=gs,hand:=hd}:=⟨_,rfl⟩
 have DX:pV X ag a7:=by rw[vV];exact DX
 have kq:k4 ag a7:=by rw[vV];exact kq
 have MJ:∀no,a7.view no=C.view no:=by rw[vV];exact MJ
 have Xq:∀q,iJ a7 q↔iJ C q:=by rw[vV];exact fun q=>Iff.rfl
 have nO:a7.D=C.D:=by rw[vV]
 have pj:a7.c=C.c∧a7.bQ=C.bQ:=by rw[vV];exact ⟨rfl,rfl⟩
 have q3:a7.aB=gs:=by rw[vV]
 have qQ:i<a7.aB.length:=by rw[q3];exact e2
 have k5:(a7.aB[i]).full=true:=by
   have e:=pX.2 i hi e2
   have:(gs[i]).full=(C.aB[i]).full:=by rw[e]
   simp only[q3]
   rw[this]
   exact eT _ (eN hi)
 have gW:∀f∈a7.aB,f.full=true→∃g∈C.aB,g.full=true∧g.no=f.no:=by
   rw[q3]
   intro f aI nk
   obtain ⟨k,ae,rfl⟩:=lO aI
   have iW:k<C.aB.length:=by rw[←pX.1];exact ae
   have e:=pX.2 k iW ae
   have aW:(gs[k]).full=(C.aB[k]).full:=by rw[e]
   have bq:(gs[k]).no=(C.aB[k]).no:=by rw[e]
   exact ⟨C.aB[k],eN iW,by rw[←aW];exact nk,bq.symm⟩
 obtain ⟨no,aC,aF,aH,aN,cV⟩:=DX.ok _ (eN qQ) k5
 have f1:=vU kq.f qQ (j:=1) (by decide)
 have fin:∀ (aw:World) (aM:dG),aq (iJ C) ag aw→k4 aw {a7 with D:=aM}→kI C {a7 with D:=aM} w aw 1→aM.n=C.D.n→(∀j:Nat,(a7.aB[i]).no≠j→aM.now j=C.D.now j)→(∀j:Nat,(a7.aB[i]).no=j→aM.now j=(a7.aB[i]).l)→(∀q,mC aM q→mC C.D q∨ag.heap.size≤q)→
     ∃kJ:Addr,(some ⟨C.bQ,i*6,none⟩:Option Addr)=some kJ∧cN aw kJ [.bool false, .bool false, .bool false, .int .i64 0, .int .i64 0, .slice none 0 0]∧(6:Nat)=6∧az (setCells aw kJ 0 [.bool false, .bool false, .bool false, .int .i64 0, .int .i64 0, .slice none 0 0]) fun dL=>Xo X C w (.tuple #[.pointer (some ⟨C.bQ,i*6,none⟩), .int .i64 0]) dL:=by
   intro aw aM ah4 fz cH Bx Xr ah5 Gb
   have gM:ck aw a7.bQ (dn Fr.c a7.aB).toArray ai.qx:=fz.f
   obtain ⟨s1,s2,bN⟩:=QE gM qQ g5
   rw[pj.2] at s1 s2 bN
   have QI:pV X (setCells aw ⟨C.bQ,i*6,none⟩ 0 g5.c) {a7 with aB:=a7.aB.set i g5,D:=aM}:=by
     refine Xn (V:=iJ C) (w:=ag) qQ DX (ah4.trans (bN.mono fun q _ e=> .inr (.inl e))) (fun q _ J=>(Xq q).2 J) (by rw[nO];exact Bx) (fun j aU=>by rw[nO];exact Xr j fun e=>aU k5 e) (fun q J=>by rw[nO];exact Gb q J) g5 rfl rfl
   have f_:=fz.v
   refine ⟨_,rfl,s1,rfl,bW ⟨{a7 with aB:=a7.aB.set i g5,D:=aM},⟨?_,QI⟩,?_,pj.2,fun j=> ?_,fun f aI nk=> ?_, .inl ⟨i,by show i<(a7.aB.set i g5).length;rw[iB];exact qQ,rfl,by simp[g5],by simp[g5]⟩⟩⟩
   · have dI:a7.c≠C.bQ:=by have:=fz.a8.1;rw[←pj.2];exact this
     refine ⟨?_,by show ck _ a7.bQ _ _;rw[pj.2];exact s2,fz.dev.an bN (fun q J e=>fz.a8.2.2 (by rw[show ({a7 with D:=aM}:er).bQ=a7.bQ from rfl,pj.2,←e];exact J)),?_,?_,?_,fz.a8⟩
     · have:=f_.an bN dI
       show Var _ _ [_, .slice _ (a7.aB.set i g5).length (a7.aB.set i g5).length,_] _
       rw[iB];exact this
     · show 8≤(a7.aB.set i g5).length;rw[iB];exact fz.ej
     · show (a7.aB.set i g5).length≤64;rw[iB];exact fz.eO
     · show a7.hand<(a7.aB.set i g5).length;rw[iB];exact fz.hd
   · refine ⟨cH.c,cH.d,by show (a7.aB.set i g5).length=_;rw[iB];exact cH.len,cH.gE,cH.cS,cH.calm,cH.an.trans (bN.mono fun q _ e=> .inr (.inl e)),cH.jK⟩
   · rw[←MJ]
     exact ah2 qQ DX (fun _ j aU=>ah5 j aU) (fun j aU=>by rw[nO];exact Xr j fun e=>aU k5 e) g5 rfl j
   · rcases Da aI with aI|rfl
     · exact gW f aI nk
     · cases nk
 refine ⟨_,rfl,fun h=>(by cases h),fun _=>w9 (fun aw=>∃aM:dG,aq (iJ C) ag aw∧k4 aw {a7 with D:=aM}∧kI C {a7 with D:=aM} w aw 1∧aM.n=C.D.n∧(∀j:Nat,(a7.aB[i]).no≠j→aM.now j=C.D.now j)∧(∀j:Nat,(a7.aB[i]).no=j→aM.now j=(a7.aB[i]).l)∧(∀q,mC aM q→mC C.D q∨ag.heap.size≤q)) (fun q J=>⟨_,rfl,(a7.aB[i]).vT,?_,fun ar2=> ?_,fun ah6=>J _ ⟨C.D, .refl _ _,?_,?_,rfl,fun _ _=>rfl,fun j aU=> ?_,fun q h=> .inl h⟩⟩) ?_⟩
 · rw[bn,←pj.2];exact f1
 ·
   have bS:=eR ag
   have dN:=kq.ext bS
   obtain ⟨gB,_,_⟩:=dN.cells
   rw[pj.1,nO] at gB
   have f3:=vU dN.f qQ (j:=3) (by decide)
   have f5:=vU dN.f qQ (j:=5) (by decide)
   rw[pj.2] at f3 f5
   refine bW ⟨_,rfl,id,_,gB,_,rfl,id,((no:Nat):Int),?_,_,rfl,id,(a7.aB[i]).b,by rw[bn];exact f5,?_⟩
   · rw[bn,f3]
     show some (Value.int .i64 (a7.aB[i]).no)=_
     rw[aC]
   have ah7:jq ag.drew C.D:=by rw[←nO];exact dN.dev
   refine (ahK ah7 (i:=no) (by rw[←nO];exact aF) fS (aH.1.ext bS) aN fun q J aI=>(aH.2.2 q J).1.1 (.inr (.inr (by rw[nO];exact aI)))).use ?_
   rintro v2 aw hw
   rcases hw with ⟨aa,rfl,kW,dB⟩|⟨aa,rfl,s,kW,dB,g_⟩
   · have ph:aq (iJ C) ag aw:=(aq.e0 bS).trans (dB.mono fun q _ e=> .inr (.inr (.inl e)))
     refine ⟨3,rfl,fun _=>⟨{a7 with D:=C.D.h9 2},⟨?_,?_⟩,?_,pj.2,fun j=> ?_,gW, .inr ⟨rfl,fun Mc=> ?_⟩⟩,fun h=>(by cases h)⟩
     · have fz:=dN.v.an dB (fun e=>dN.a8.2.1 (.inl (by rw[nO];exact e)))
       rw[nO] at fz
       have aT:=kq.a8
       rw[nO] at aT
       exact ⟨fz,ck.an dN.f dB (fun e=>dN.a8.2.2 (.inl (by rw[nO];exact e))),kW,kq.ej,kq.eO,kq.hd,aT⟩
     · have:=MH (C:=a7) (hd:=a7.hand) (aM:=C.D.h9 2) DX (pW.refl _) ph (fun q _ J=>(Xq q).2 J) (by rw[nO];rfl) (fun j=>by rw[nO];rfl) fun q J=> .inl (by rw[nO];exact J)
       exact this
     · refine ⟨pj.1,rfl,by show a7.aB.length=_;rw[q3];exact pX.1,Qw C.D (.inr rfl),Nat.le_succ _,fun m hm=>(I4 (.inr rfl) h.raw.dev.f4 hm).1,I5.trans ph,fun q J=> .inl ?_⟩
       rcases J with e|e|e
       · exact .inl (by rw[←pj.1];exact e)
       · exact .inr (.inl (by rw[←pj.2];exact e))
       · exact .inr (.inr e)
     · rw[←MJ]
       exact MI (C:=a7) DX (pW.refl _) (fun j=>by rw[nO];rfl) j
     · have:=(I4 (k:=2) (m:=0) (.inr rfl) h.raw.dev.f4 Mc).2
       rw[aa] at this;cases this
   · have ph:aq (iJ C) ag aw:=(aq.e0 bS).trans (dB.mono fun q _ e=> .inr (.inr e))
     have Gb:∀q,mC (C.D.put no s (a7.aB[i]).l) q→mC C.D q∨ag.heap.size≤q:=by
       rintro q (e|e|e|⟨x,af,e⟩)
       · exact .inl (.inl e)
       · exact .inl (.inr (.inl e))
       · exact .inl (.inr (.inr (.inl e)))
       · rcases fP.1 af with rfl|af
         · exact g_ q e
         · exact .inl (.inr (.inr (.inr ⟨x,(C2.1 af).1,e⟩)))
     have gC:∀q,mC C.D q→q≠a7.c∧q≠a7.bQ:=fun q J=>⟨fun e=>kq.a8.2.1 (by rw[nO,←e];exact J),fun e=>kq.a8.2.2 (by rw[nO,←e];exact J)⟩
     refine ⟨0,rfl,fun h=>(by cases h),fun _=>J _ ⟨C.D.put no s (a7.aB[i]).l,ph,?_,?_,rfl,fun j aU=> ?_,fun j aU=> ?_,Gb⟩⟩
     · have fz:=dN.v.an dB (fun e=>(gC _ e).1 rfl)
       rw[nO] at fz
       have qR:a7.c<ag.heap.size:=kq.v.lt
       have ah8:a7.bQ<ag.heap.size:=ck.lt kq.f
       refine ⟨fz,ck.an dN.f dB (fun e=>(gC _ e).2 rfl),kW,kq.ej,kq.eO,kq.hd,kq.a8.1,fun e=> ?_,fun e=> ?_⟩
       · rcases Gb _ e with U|U
         · exact (gC _ U).1 rfl
         · have:a7.c<ag.heap.size:=qR
           have U:ag.heap.size≤a7.c:=U
           omega
       · rcases Gb _ e with U|U
         · exact (gC _ U).2 rfl
         · have U:ag.heap.size≤a7.bQ:=U
           omega
     · refine ⟨pj.1,rfl,by show a7.aB.length=_;rw[q3];exact pX.1,Qw C.D (.inr rfl),cU _,fun m hm=>(I4 (.inr rfl) h.raw.dev.f4 hm).1,I5.trans ph,fun q J=> ?_⟩
       rcases J with e|e|e
       · exact .inl (.inl (by rw[←pj.1];exact e))
       · exact .inl (.inr (.inl (by rw[←pj.2];exact e)))
       · rcases Gb q e with U|U
         · exact .inl (.inr (.inr U))
         · exact .inr (j5 I5.size U)
     · rw[Xd,if_neg (fun e=>aU (by rw[aC,e]))]
     · rw[Xd,if_pos (by rw[aC] at aU;omega)]
 · rw[←nO];exact kq
 · refine ⟨pj.1,rfl,by show a7.aB.length=_;rw[q3];exact pX.1,rfl,Nat.le_succ _,fun m hm=>mD hm (Nat.le_succ _),I5,fun q J=> .inl ?_⟩
   rcases J with e|e|e
   · exact .inl (by rw[←pj.1];exact e)
   · exact .inr (.inl (by rw[←pj.2];exact e))
   · exact .inr (.inr e)
 · have:no=j:=by rw[aC] at aU;omega
   subst this
   rw[←nO]
   exact (cV ah6).symm
 · rintro aw ⟨aM,a8,cQ,a3,a4,a5,hW,jr⟩
   exact fin aw aM a8 cQ a3 a4 a5 hW jr
end
end
section
def I6 (fs:List Fr):Prop:=∀ (i j:Nat) (hi:i<fs.length) (aU:j<fs.length),(fs[i]).full=true→(fs[j]).full=true→(fs[i]).no=(fs[j]).no→i=j
theorem Xs {fs gs:List Fr} {D aM:dG} {c bQ hd c' ah9 ah_ j:Nat} (aia:I6 fs) (aib:I6 gs) (U:∀ (i:Nat) (hi:i<fs.length),(fs[i]).full=true→(fs[i]).no=j→∃ (k:Nat) (ae:k<gs.length),(gs[k]).full=true∧(gs[k]).no=j∧(gs[k]).l=(fs[i]).l)
   (ab:(∀f∈fs,f.full=true→f.no≠j)→(∀f∈gs,f.full=true→f.no≠j)∧aM.now j=D.now j):(er.mk c' ah9 gs ah_ aM).view j=(er.mk c bQ fs hd D).view j:=by
 by_cases hex:∃ (k:Nat) (ae:k<fs.length),(fs[k]).full=true∧(fs[k]).no=j
 · obtain ⟨k,ae,aC,aF⟩:=hex
   obtain ⟨m,hm,aW,bq,ec⟩:=U k ae aC aF
   rw[Bu aia ae aC aF,Bu aib hm aW bq,ec]
 · have dx:∀f∈fs,f.full=true→f.no≠j:=fun f aI U ab=>by
     obtain ⟨k,ae,rfl⟩:=lO aI
     exact hex ⟨k,ae,U,ab⟩
   obtain ⟨aW,bq⟩:=ab dx
   rw[Bv dx,Bv aW,bq]
section
variable {w w':World} {C:er} {X:Nat→Prop}
theorem Xt {i:Nat} (hi:i<C.aB.length) {no:Nat} {V:Nat→Prop} (h:pV X w C) (al:aq V w w') (sH:∀q,q<w.heap.size→V q→iJ C q) {aM:dG} (aD:aM.n=C.D.n) (q2:∀j,aM.now j=C.D.now j) (sQ:∀q,mC aM q↔mC C.D q)
   (gA:Fr) (k5:gA.full=true) (Bt:gA.pins=0) (ft:Xj X w' {C with aB:=C.aB.set i gA,D:=aM} gA no) (dx:∀ (k:Nat) (ae:k<C.aB.length),k≠i→(C.aB[k]).full=true→(C.aB[k]).no≠no):pV X w' {C with aB:=C.aB.set i gA,D:=aM}:=by
 have dr:=al.size
 have uj:∀q,iJ {C with aB:=C.aB.set i gA,D:=aM} q→iJ C q:=fun q aI=>by
   rcases aI with U|U|U
   · exact .inl U
   · exact .inr (.inl U)
   · exact .inr (.inr ((sQ q).1 U))
 refine ⟨fun f aI=> ?_,fun f aI nk=> ?_,fun a b aT aa U ab ao=> ?_,fun q J=>⟨lP (h.mE q J).1 dr,fun aI=>(h.mE q J).2 (uj q aI)⟩⟩
 · rcases Da aI with aI|rfl
   · exact h.pins f aI
   · exact Bt
 · obtain ⟨k,ae,rfl⟩:=lO aI
   have iW:k<C.aB.length:=by simpa using ae
   by_cases e:i=k
   · subst e
     simp only[tE]
     exact ⟨no,ft⟩
   · simp only[mb e] at nk⊢
     obtain ⟨m,aC,aF,aH,aN,cV⟩:=h.ok _ (eN iW) nk
     exact ⟨m,aC,by show m<aM.n;rw[aD];exact aF,bX.QG aH al (fun q J aa ak=>aa.1 (sH q J ak)) fun q _ aa=>⟨fun aI=>aa.1 (uj q aI),aa.2⟩,aN,fun hd=>by show _=aM.now m;rw[q2];exact cV hd⟩
 · have oU:a<C.aB.length:=by simpa using aT
   have my:b<C.aB.length:=by simpa using aa
   by_cases mn:i=a
   · by_cases mW:i=b
     · omega
     · subst mn
       simp only[tE] at ao
       simp only[mb mW] at ab ao
       exact absurd (by rw[←ao];exact ft.num) (dx b my (fun e=>mW e.symm) ab)
   · by_cases mW:i=b
     · subst mW
       simp only[tE] at ao
       simp only[mb mn] at U ao
       exact absurd (by rw[ao];exact ft.num) (dx a oU (fun e=>mn e.symm) U)
     · simp only[mb mn] at U ao
       simp only[mb mW] at ab ao
       exact h.un a b oU my U ab ao
theorem aic {i:Nat} (hi:i<C.aB.length) {no:Nat} (h:I6 C.aB) (gA:Fr) (zb:gA.no=no) (dx:∀ (k:Nat) (ae:k<C.aB.length),k≠i→(C.aB[k]).full=true→(C.aB[k]).no≠no):I6 (C.aB.set i gA):=by
 intro a b aT aa U ab ao
 have oU:a<C.aB.length:=by simpa using aT
 have my:b<C.aB.length:=by simpa using aa
 by_cases mn:i=a
 · by_cases mW:i=b
   · omega
   · subst mn
     simp only[tE] at ao
     simp only[mb mW] at ab ao
     exact absurd (by rw[←ao];exact zb) (dx b my (fun e=>mW e.symm) ab)
 · by_cases mW:i=b
   · subst mW
     simp only[tE] at ao
     simp only[mb mn] at U ao
     exact absurd (by rw[ao];exact zb) (dx a oU (fun e=>mn e.symm) U)
   · simp only[mb mn] at U ao
     simp only[mb mW] at ab ao
     exact h a b oU my U ab ao
theorem Xu {i:Nat} (hi:i<C.aB.length) {no:Nat} (h:I6 C.aB) {aM:dG} (q2:∀j,aM.now j=C.D.now j) (gA:Fr) (k5:gA.full=true) (zb:gA.no=no) (hold:(C.aB[i]).full=true→(C.aB[i]).no=no) (dx:∀ (k:Nat) (ae:k<C.aB.length),k≠i→(C.aB[k]).full=true→(C.aB[k]).no≠no) {hd:Nat} (j:Nat):
   (er.mk C.c C.bQ (C.aB.set i gA) hd aM).view j=if j=no then gA.l else C.view j:=by
 have hu:=aic hi h gA zb dx
 have e2:i<(C.aB.set i gA).length:=by simpa using hi
 by_cases e:j=no
 · subst e
   rw[if_pos rfl,Bu hu e2 (by simp[k5]) (by simpa using zb)]
   simp
 · rw[if_neg e]
   refine Xs (fs:=C.aB) (D:=C.D) (c:=C.c) (bQ:=C.bQ) (hd:=C.hand) h hu (fun k ae aC aF=> ?_) fun eT=>⟨fun f aI aC aF=> ?_,q2 j⟩
   · have kt:i≠k:=fun bq=>by
       subst bq
       have:=hold aC
       rw[aF] at this
       exact e (by omega)
     have dj:k<(C.aB.set i gA).length:=by simpa using ae
     exact ⟨k,dj,by simp only[mb kt];exact aC,by simp only[mb kt];exact aF,by simp only[mb kt]⟩
   · rcases Da aI with aI|rfl
     · exact eT f aI aC aF
     · rw[zb] at aF
       exact e (by omega)
def aid (X:Nat→Prop) (C:er) (no:Nat) (w:World) (v:Value) (w':World):Prop:=
 ∃br:er,mm X w' br∧kI C br w w' 2∧(∀j,br.view j=C.view j)∧
   ((∃s:ad,v= .tuple #[.slice s.a s.len s.cap, .int .i64 0]∧bX (fun q=>w.heap.size≤q∧¬iJ br q∧¬X q) w' s (C.view no))∨(v= .tuple #[.slice none 0 0, .int .i64 3]∧¬C.D.calm 2))
theorem aie (h:mm X w C) (fS:C.D.cS≤999999999) {no:Nat} (dx:no<C.D.n):aR Tryz.prog F.By #[.pointer (some ⟨C.c,0,none⟩), .int .i64 ((no:Nat):Int)] w (aid X C no w):=by
 have mX:=h.raw
 refine W.aif (some ⟨C.c,0,none⟩) ((no:Nat):Int) w _ ?_
 (delta W.By aZ aE za st ar en zc fK;dsimp only)
 refine (Xk mX _).use ?_
 rintro _ _ ⟨rfl,rfl⟩
 refine ⟨_,rfl,fun aa=> ?_,fun _=>(QF mX _).use ?_⟩
 · have:decide (0≤((no:Nat):Int)∧((no:Nat):Int)<C.D.n)=true:=jB ⟨by omega,by omega⟩
   rw[this] at aa;cases aa
 rintro _ _ ⟨I7,rfl⟩
 rcases I7 with ⟨i,hi,rfl,aI,aD⟩|⟨rfl,MK⟩
 ·
   obtain ⟨aC,aF,aH,aN⟩:=DW mX.f hi (j:=2) (by decide) (v:= .bool true) {C.aB[i] with used:=true} rfl
   have pX:pW C.aB (C.aB.set i {C.aB[i] with used:=true}):=(pW.refl C.aB).set hi true
   have ph:aq (iJ C) w (w.setCell ⟨C.bQ,i*6+2,none⟩ (.bool true)):=aN.mono fun q _ e=> .inr (.inl e)
   have hinv:=MH (hd:=C.hand) (aM:=C.D) h.inv pX ph (fun q _ h=>h) rfl (fun _=>rfl) fun q J=> .inl J
   have ak:=MI (hd:=C.hand) (aM:=C.D) h.inv pX fun _=>rfl
   obtain ⟨ag,vS⟩:∃ag,ag=w.setCell ⟨C.bQ,i*6+2,none⟩ (.bool true):=⟨_,rfl⟩
   rw[←vS] at aH aN ph hinv
   have aQ:k4 ag {C with aB:=C.aB.set i {C.aB[i] with used:=true}}:=by
     refine ⟨?_,aH,mX.dev.an aN (fun q J e=>mX.a8.2.2 (e▸J)),?_,?_,?_,mX.a8⟩
     · have:=mX.v.an aN mX.a8.1
       show Var _ _ [_, .slice _ (C.aB.set i _).length (C.aB.set i _).length,_] _
       rw[iB];exact this
     · show 8≤(C.aB.set i _).length;rw[iB];exact mX.ej
     · show (C.aB.set i _).length≤64;rw[iB];exact mX.eO
     · show C.hand<(C.aB.set i _).length;rw[iB];exact mX.hd
   obtain ⟨a7,vV⟩:∃a7:er,a7={C with aB:=C.aB.set i {C.aB[i] with used:=true}}:=⟨_,rfl⟩
   have mY:mm X ag a7:=by rw[vV];exact ⟨aQ,hinv⟩
   have gL:i<(C.aB.set i {C.aB[i] with used:=true}).length:=by simpa using hi
   have f5:=vU aH gL (j:=5) (by decide)
   obtain ⟨m,ej,eO,pe,nm,qs⟩:=hinv.ok ((C.aB.set i {C.aB[i] with used:=true})[i]) (eN gL) (by simp[aI])
   have L0:((C.aB.set i {C.aB[i] with used:=true})[i]).b=(C.aB[i]).b:=by simp
   have Xv:((C.aB.set i {C.aB[i] with used:=true})[i]).l=(C.aB[i]).l:=by simp
   rw[L0,Xv] at pe
   rw[Xv] at nm
   refine ⟨_,rfl,fun _=>⟨_,rfl,by rw[bn];exact aC,by rw[bn];exact aF,?_⟩,fun h=>(by cases h)⟩
   rw[bn,←vS]
   refine bW ⟨_,rfl,(C.aB[i]).b,by rw[bn,f5];simp[Fr.c],(tQ (B:=fun q=>ag.heap.size≤q) pe.1 (by rw[nm];omega) (fun q J=>J)).use ?_⟩
   rintro _ aw ⟨s,rfl,aj,cB,_⟩
   have aig:C.view no=(C.aB[i]).l:=Bu (fs:=C.aB) (D:=C.D) (c:=C.c) (bQ:=C.bQ) (hd:=C.hand) h.inv.un hi aI aD
   have n4:=ph.size
   refine ⟨s,rfl,a7,mY.ext cB,?_,?_, .inl ⟨s,rfl,?_⟩⟩
   · rw[vV]
     exact ⟨rfl,rfl,by show (C.aB.set i _).length=_;rw[iB],rfl,Nat.le_add_right _ _,fun m hm=>mD hm (by omega),ph.trans (aq.e0 cB),fun q J=> .inl J⟩
   · intro j;rw[vV];exact ak j
   · rw[aig]
     refine bX.bx aj fun q _ J=>⟨by omega,fun aI=> ?_,fun eo=> ?_⟩
     · have:=mY.raw.lt aI;omega
     · have:=(mY.inv.mE q eo).1;omega
 ·
   refine ⟨_,rfl,fun h=>(by cases h),fun _=>(Xp h (by omega)).use ?_⟩
   rintro _ ag ⟨a7,kK,gm,vW,lQ,gW,aQ⟩
   rcases aQ with ⟨i,hi,rfl,QJ,Bt⟩|⟨rfl,QK⟩
   · refine ⟨_,_,rfl,fun h=>(by simp at h),fun _=>⟨_,rfl,some ⟨C.D.d,0,none⟩,?_,?_⟩⟩
     · have:=kK.raw.cells.1
       rw[gm.c,gm.d] at this
       exact this
     have QL:no<a7.D.n:=by rw[gm.n];exact dx
     have Gc:=gm.cS
     rw[←gm.d]
     refine (ahF kK.raw.dev QL (by omega)).use ?_
     rintro v2 aw ⟨kW,dB,eu⟩
     have vl:=fun q=>kK.raw.lt (q:=q)
     have QM:aq (iJ a7) ag aw:=dB.mono fun q _ e=> .inr (.inr (.inl e))
     have ly:∀f∈a7.aB,f.full=true→f.no≠no:=fun f aI k5 Bz=>by
       obtain ⟨g,bg,U,ab⟩:=gW f aI k5
       exact MK g bg U (by rw[ab,Bz])
     have aih:a7.D.calm 1∨¬C.D.calm 2:=by
       rcases Classical.em (C.D.calm 2) with U|U
       · exact .inl (gm.calm 1 U)
       · exact .inr U
     have Xw:a7.view no=a7.D.now no:=Bv (fs:=a7.aB) (D:=a7.D) (c:=a7.c) (bQ:=a7.bQ) (hd:=a7.hand) ly
     have dI:∀q,mC a7.D q→q≠a7.c∧q≠a7.bQ:=fun q J=>⟨fun e=>kK.raw.a8.2.1 (e▸J),fun e=>kK.raw.a8.2.2 (e▸J)⟩
     have aii:pV X aw {a7 with D:=a7.D.h9 1}:=MH (C:=a7) (hd:=a7.hand) (aM:=a7.D.h9 1) kK.inv (pW.refl _) QM (fun q _ h=>h) rfl (fun _=>rfl) fun q J=> .inl J
     have pY:kI C {a7 with D:=a7.D.h9 1} w aw 2:=by
       have:kI a7 {a7 with D:=a7.D.h9 1} ag aw 1:=⟨rfl,rfl,rfl,Qw a7.D (.inl rfl),Nat.le_succ _,fun m hm=>(I4 (.inl rfl) kK.raw.dev.f4 hm).1,QM,fun q J=> .inl J⟩
       exact gm.trans this
     have f_:∀j,({a7 with D:=a7.D.h9 1}:er).view j=C.view j:=fun j=>by rw[←lQ];exact MI (C:=a7) kK.inv (pW.refl _) (fun _=>rfl) j
     have QN:k4 aw {a7 with D:=a7.D.h9 1}:=⟨kK.raw.v.an dB (fun e=>(dI _ (.inl rfl)).1 e.symm),ck.an kK.raw.f dB (fun e=>(dI _ (.inl rfl)).2 e.symm),kW,kK.raw.ej,kK.raw.eO,kK.raw.hd,kK.raw.a8⟩
     rcases eu with ⟨aa,rfl⟩|⟨aa,s,rfl,aj⟩
     · refine ⟨⟨none,0,0⟩,3,rfl,fun _=>⟨{a7 with D:=a7.D.h9 1},⟨QN,aii⟩,pY,f_, .inr ⟨rfl,?_⟩⟩,fun h=>(by simp at h)⟩
       rcases aih with U|U
       · have:=(I4 (k:=1) (m:=0) (.inl rfl) kK.raw.dev.f4 U).2
         rw[aa] at this;cases this
       · exact U
     · have q1:(a7.D.now no).length=256:=kK.raw.dev.Mx QL
       obtain ⟨s1,s2,bN⟩:=QE QN.f hi ⟨true,false,true,((no:Nat):Int),0,s,a7.D.now no⟩
       rw[vW] at s1 s2 bN
       have u6:=dB.size
       have n4:=gm.an.size
       refine ⟨s,_,rfl,fun h=>(by simp at h),fun _=>⟨_,rfl,s1,rfl,?_⟩⟩
       obtain ⟨bc,nF⟩:∃bc,bc=setCells aw ⟨C.bQ,i*6,none⟩ 0 (Fr.c ⟨true,false,true,((no:Nat):Int),0,s,a7.D.now no⟩):=⟨_,rfl⟩
       rw[←nF] at s2 bN
       have bg:setCells aw ⟨C.bQ,i*6,none⟩ 0 [.bool true, .bool false, .bool true, .int .i64 ((no:Nat):Int), .int .i64 0, .slice s.a s.len s.cap]=bc:=nF.symm
       rw[bg]
       have Xx:aq (iJ a7) aw bc:=bN.mono fun q _ e=> .inr (.inl (by rw[vW];exact e))
       have rF:bX (fun q=>ag.heap.size≤q) bc s (a7.D.now no):=bX.an aj bN fun q J e=>by
         have:=vl C.bQ (.inr (.inl vW.symm));omega
       have QI:pV X bc {a7 with aB:=a7.aB.set i ⟨true,false,true,((no:Nat):Int),0,s,a7.D.now no⟩,D:=a7.D.h9 1}:=by
         refine Xt (w:=ag) (V:=iJ a7) (aM:=a7.D.h9 1) hi (no:=no) kK.inv (QM.trans Xx) (fun q _ h=>h) rfl (fun _=>rfl) (fun q=>Iff.rfl) ⟨true,false,true,((no:Nat):Int),0,s,a7.D.now no⟩ rfl rfl ⟨rfl,QL,?_,q1,fun _=>rfl⟩ fun k ae _ U=>ly _ (eN ae) U
         refine bX.bx rF fun q _ J=>⟨fun aI=> ?_,fun eo=> ?_⟩
         · have:iJ a7 q:=aI
           have:=vl q this;omega
         · have:=(kK.inv.mE q eo).1;omega
       have mj:∀j,({a7 with aB:=a7.aB.set i ⟨true,false,true,((no:Nat):Int),0,s,a7.D.now no⟩,D:=a7.D.h9 1}:er).view j=C.view j:=fun j=>by
         have:=Xu (hd:=a7.hand) (aM:=a7.D.h9 1) hi (no:=no) kK.inv.un (fun _=>rfl) ⟨true,false,true,((no:Nat):Int),0,s,a7.D.now no⟩ rfl rfl (fun U=>by rw[QJ] at U;cases U) (fun k ae _ U=>ly _ (eN ae) U) j
         rw[show ({a7 with aB:=a7.aB.set i ⟨true,false,true,((no:Nat):Int),0,s,a7.D.now no⟩,D:=a7.D.h9 1}:er)=er.mk a7.c a7.bQ (a7.aB.set i ⟨true,false,true,((no:Nat):Int),0,s,a7.D.now no⟩) a7.hand (a7.D.h9 1) from rfl,this]
         by_cases e:j=no
         · rw[if_pos e,e,←lQ,Xw]
         · rw[if_neg e,lQ]
       have aij:k4 bc {a7 with aB:=a7.aB.set i ⟨true,false,true,((no:Nat):Int),0,s,a7.D.now no⟩,D:=a7.D.h9 1}:=by
         refine ⟨?_,by show ck _ a7.bQ _ _;rw[vW];exact s2,kW.an bN (fun q J e=>(dI q J).2 (by rw[vW];exact e)),?_,?_,?_,kK.raw.a8⟩
         · have:=QN.v.an bN (fun e=>kK.raw.a8.1 (by rw[vW];exact e))
           show Var _ _ [_, .slice _ (a7.aB.set i _).length (a7.aB.set i _).length,_] _
           rw[iB];exact this
         · show 8≤(a7.aB.set i _).length;rw[iB];exact kK.raw.ej
         · show (a7.aB.set i _).length≤64;rw[iB];exact kK.raw.eO
         · show a7.hand<(a7.aB.set i _).length;rw[iB];exact kK.raw.hd
       obtain ⟨Gd,QO⟩:∃Gd:er,Gd={a7 with aB:=a7.aB.set i ⟨true,false,true,((no:Nat):Int),0,s,a7.D.now no⟩,D:=a7.D.h9 1}:=⟨_,rfl⟩
       have QP:mm X bc Gd:=by rw[QO];exact ⟨aij,QI⟩
       have aik:kI C Gd w bc 2:=by
         rw[QO]
         exact ⟨pY.c,pY.d,by show (a7.aB.set i _).length=_;rw[iB];exact pY.len,pY.gE,pY.cS,pY.calm,oT pY.an Xx fun q J h=>(pY.jK q h).resolve_right (by omega),pY.jK⟩
       refine bW ((tQ (B:=fun q=>bc.heap.size≤q) rF.1 (by rw[q1];omega) (fun q J=>J)).use ?_)
       rintro _ bz ⟨t,rfl,ba,fu,_⟩
       have FU:=bN.size
       refine ⟨t,rfl,Gd,QP.ext fu,?_,?_, .inl ⟨t,rfl,?_⟩⟩
       · exact (aik.trans (kI.ext Gd fu)).mono (by omega)
       · intro j;rw[QO];exact mj j
       · rw[←lQ,Xw]
         refine bX.bx ba fun q _ J=>⟨by omega,fun aI=> ?_,fun eo=> ?_⟩
         · have:=QP.raw.lt aI;omega
         · have:=(QP.inv.mE q eo).1;omega
   · refine ⟨_,_,rfl,fun _=>⟨a7,kK,gm.mono (by omega),lQ, .inr ⟨rfl,fun al=>QK (mD al (by omega))⟩⟩,fun h=>(by simp at h)⟩
end
end
section
section
variable {w w':World} {C:er} {X:Nat→Prop}
def Xy (X:Nat→Prop) (C:er) (no:Nat) (l:mV) (w:World) (v:Value) (w':World):Prop:=
 ∃br:er,mm X w' br∧kI C br w w' 1∧
   ((v= .int .i64 0∧∀j,br.view j=if j=no then l else C.view j)∨(v= .int .i64 3∧¬C.D.calm 1∧∀j,br.view j=C.view j))
theorem Xz {i:Nat} {gA:Fr} (h:k4 w C) (al:aq (fun q=>q=C.bQ) w w') (aa:ck w' C.bQ (dn Fr.c (C.aB.set i gA)).toArray ai.qx):k4 w' {C with aB:=C.aB.set i gA}:=by
 refine ⟨?_,aa,h.dev.an al (fun q J e=>h.a8.2.2 (e▸J)),?_,?_,?_,h.a8⟩
 · have:=h.v.an al h.a8.1
   show Var _ _ [_, .slice _ (C.aB.set i _).length (C.aB.set i _).length,_] _
   rw[iB];exact this
 · show 8≤(C.aB.set i _).length;rw[iB];exact h.ej
 · show (C.aB.set i _).length≤64;rw[iB];exact h.eO
 · show C.hand<(C.aB.set i _).length;rw[iB];exact h.hd
theorem set_set {fs:List Fr} {i:Nat} (f g:Fr):(fs.set i f).set i g=fs.set i g:=List.set_set ..
theorem ail (h:mm X w C) (fS:C.D.cS≤999999999) {no:Nat} (dx:no<C.D.n) {b:ad} {l:mV} (aa:Src 1 w b (bm l)) (aA:l.length=256) (lS:∀q,aP b q→q<w.heap.size∧¬iJ C q):
   aR Tryz.prog F.BA #[.pointer (some ⟨C.c,0,none⟩), .int .i64 ((no:Nat):Int), .slice b.a b.len b.cap] w (Xy X C no l w):=by
 have mX:=h.raw
 have u5:=len8 aa
 refine W.aim (some ⟨C.c,0,none⟩) ((no:Nat):Int) b w _ ?_
 (delta W.BA aZ aE za zc st en;dsimp only)
 refine (Xk mX _).use ?_
 rintro _ _ ⟨rfl,rfl⟩
 have eQ:decide (0≤((no:Nat):Int)∧((no:Nat):Int)<C.D.n)=true:=jB ⟨by omega,by omega⟩
 refine ⟨_,rfl,fun U=> ?_,fun _=>(QF mX _).use ?_⟩
 · rw[eQ,u5,aA] at U
   simp at U
 rintro _ _ ⟨I7,rfl⟩
 have fin:∀ (ag:World) (a7:er) (i:Nat) (hi:i<a7.aB.length) (f1:Fr),mm X ag a7→kI C a7 w ag 1→a7.bQ=C.bQ→(∀j,a7.view j=C.view j)→f1.pins=0→∀aw:World,ck aw a7.bQ (dn Fr.c (a7.aB.set i f1)).toArray ai.qx→aq (fun q=>q=a7.bQ) ag aw→f1.full=true→f1.no=((no:Nat):Int)→
     ((a7.aB[i]).full=true→(a7.aB[i]).no=((no:Nat):Int))→(∀ (k:Nat) (ae:k<a7.aB.length),k≠i→(a7.aB[k]).full=true→(a7.aB[k]).no≠((no:Nat):Int))→
     Calls Tryz.prog F.lu #[.slice b.a b.len b.cap] aw fun ain ef=>∃eM:ad,ain= .returned (.slice eM.a eM.len eM.cap)∧∃kJ:Addr,(some ⟨C.bQ,i*6,none⟩:Option Addr)=some kJ∧(∃u:Value,ef.cell? (kJ.add 5)=some u)∧ef.frozen? (kJ.add 5)=false∧
       az (ef.setCell (kJ.add 5) (.slice eM.a eM.len eM.cap)) fun dL=>∃a23:Addr,(some ⟨C.bQ,i*6,none⟩:Option Addr)=some a23∧(∃u:Value,dL.cell? (a23.add 1)=some u)∧dL.frozen? (a23.add 1)=false∧
       az (dL.setCell (a23.add 1) (.bool true)) fun dm=>∃a25:Addr,(some ⟨C.bQ,i*6,none⟩:Option Addr)=some a25∧(∃u:Value,dm.cell? (a25.add 2)=some u)∧dm.frozen? (a25.add 2)=false∧
       az (dm.setCell (a25.add 2) (.bool true)) fun cT=>Xy X C no l w (.int .i64 0) cT:=by
   intro ag a7 i hi f1 mY cH uo ak Bt aw gM dB k5 zb hold XA
   have n4:=cH.an.size
   have u6:=dB.size
   have c0:a7.bQ<ag.heap.size:=mY.raw.lt (.inr (.inl rfl))
   have aio:Src 1 aw b (bm l):=by
     refine (aa.an cH.an fun q J aI=>(lS q J).2 aI).an dB fun q J e=>(lS q J).2 (.inr (.inl (by rw[←uo];exact e)))
   refine (tQ (B:=fun q=>aw.heap.size≤q) aio (by omega) (fun q J=>J)).use ?_
   rintro _ bc ⟨s,rfl,aj,eZ,_⟩
   have FZ:=ck.ext gM eZ
   have qQ:i<(a7.aB.set i f1).length:=by rw[iB];exact hi
   have gB:(a7.aB.set i f1)[i]=f1:=by simp
   obtain ⟨a8,cQ,a3,a4⟩:=DW FZ qQ (j:=5) (by decide) (v:= .slice s.a s.len s.cap) {f1 with b:=s} (by rw[gB];rfl)
   rw[set_set] at a3
   have aip:i<(a7.aB.set i {f1 with b:=s}).length:=by rw[iB];exact hi
   have aW:(a7.aB.set i {f1 with b:=s})[i]={f1 with b:=s}:=by simp
   obtain ⟨c5,cA,ek,e9⟩:=DW a3 aip (j:=1) (by decide) (v:= .bool true) {f1 with b:=s,vT:=true} (by rw[aW];rfl)
   rw[set_set] at ek
   have aiq:i<(a7.aB.set i {f1 with b:=s,vT:=true}).length:=by rw[iB];exact hi
   have bq:(a7.aB.set i {f1 with b:=s,vT:=true})[i]={f1 with b:=s,vT:=true}:=by simp
   obtain ⟨d1,d2,d3,d4⟩:=DW ek aiq (j:=2) (by decide) (v:= .bool true) {f1 with b:=s,vT:=true,used:=true,l:=l} (by rw[bq];rfl)
   rw[set_set] at d3
   rw[uo] at a8 cQ a3 a4 c5 cA ek e9 d1 d2 d3 d4 dB
   refine ⟨s,rfl,_,rfl,by rw[bn];exact a8,by rw[bn];exact cQ,?_⟩
   rw[bn]
   refine bW ⟨_,rfl,by rw[bn];exact c5,by rw[bn];exact cA,?_⟩
   rw[bn]
   refine bW ⟨_,rfl,by rw[bn];exact d1,by rw[bn];exact d2,?_⟩
   rw[bn]
   have pK:=(dB.trans (aq.e0 eZ)).trans (a4.trans (e9.trans d4))
   obtain ⟨gA,xB⟩:∃gA:Fr,gA={f1 with b:=s,vT:=true,used:=true,l:=l}:=⟨_,rfl⟩
   obtain ⟨bd,DD⟩:∃bd,bd=(((bc.setCell ⟨C.bQ,i*6+5,none⟩ (.slice s.a s.len s.cap)).setCell ⟨C.bQ,i*6+1,none⟩ (.bool true)).setCell ⟨C.bQ,i*6+2,none⟩ (.bool true)):=⟨_,rfl⟩
   rw[←DD,←xB] at d3
   rw[←DD] at pK⊢
   have air:bX (fun q=>aw.heap.size≤q) bd s l:=by
     have U:=bX.an aj a4 fun q J e=>by rw[←uo] at e;omega
     have ab:=bX.an U e9 fun q J e=>by rw[←uo] at e;omega
     have ao:=bX.an ab d4 fun q J e=>by rw[←uo] at e;omega
     rw[DD];exact ao
   have ais:k4 bd {a7 with aB:=a7.aB.set i gA}:=Xz mY.raw (by rw[uo];exact pK) (by rw[uo];exact d3)
   have ait:pV X bd {a7 with aB:=a7.aB.set i gA}:=by
     refine Xt (w:=ag) (V:=fun q=>q=C.bQ) (aM:=a7.D) hi (no:=no) mY.inv pK (fun q _ e=> .inr (.inl (by rw[uo];exact e))) rfl (fun _=>rfl) (fun q=>Iff.rfl) gA (by rw[xB];exact k5) (by rw[xB];exact Bt) ⟨by rw[xB];exact zb,by show no<a7.D.n;rw[cH.n];exact dx,?_,by rw[xB];exact aA,fun hd=>by rw[xB] at hd;cases hd⟩ XA
     rw[xB]
     refine bX.bx air fun q _ J=>⟨fun aI=> ?_,fun eo=> ?_⟩
     · have:iJ a7 q:=aI
       have:=mY.raw.lt this;omega
     · have:=(mY.inv.mE q eo).1;omega
   refine bW ⟨{a7 with aB:=a7.aB.set i gA},⟨ais,ait⟩,⟨cH.c,cH.d,by show (a7.aB.set i _).length=_;rw[iB];exact cH.len,cH.gE,cH.cS,cH.calm,oT cH.an pK fun q J e=> .inr (.inl e),cH.jK⟩, .inl ⟨rfl,fun j=> ?_⟩⟩
   have:=Xu (C:=a7) (hd:=a7.hand) (aM:=a7.D) hi (no:=no) mY.inv.un (fun _=>rfl) gA (by rw[xB];exact k5) (by rw[xB];exact zb) hold XA j
   rw[show ({a7 with aB:=a7.aB.set i gA}:er)=er.mk a7.c a7.bQ (a7.aB.set i gA) a7.hand a7.D from rfl,this,ak]
   rw[xB]
 rcases I7 with ⟨i,hi,rfl,aI,aD⟩|⟨rfl,MK⟩
 · refine ⟨_,rfl,eI (fun p w'=>p=some ⟨C.bQ,i*6,none⟩∧w=w') (fun q J=>⟨fun h=>(by cases h),fun _=>J _ _ ⟨rfl,rfl⟩⟩) ?_⟩
   rintro _ _ ⟨rfl,rfl⟩
   have e:C.aB.set i C.aB[i]=C.aB:=List.set_getElem_self _
   exact fin w C i hi C.aB[i] h ((kI.refl C w).mono (fy _)) rfl (fun _=>rfl) (h.inv.pins _ (eN hi)) w (by rw[e];exact mX.f) (.refl _ _) aI aD (fun _=>aD) fun k ae kt U ab=>kt (h.inv.un k i ae hi U aI (by rw[ab,aD]))
 · refine ⟨_,rfl,eI (fun p aw=>∃ (ag:World) (a7:er) (i:Nat) (hi:i<a7.aB.length) (f1:Fr),p=some ⟨C.bQ,i*6,none⟩∧mm X ag a7∧kI C a7 w ag 1∧a7.bQ=C.bQ∧(∀j,a7.view j=C.view j)∧f1.pins=0∧ck aw a7.bQ (dn Fr.c (a7.aB.set i f1)).toArray ai.qx∧aq (fun q=>q=a7.bQ) ag aw∧f1.full=true∧f1.no=((no:Nat):Int)∧
     ((a7.aB[i]).full=true→(a7.aB[i]).no=((no:Nat):Int))∧(∀ (k:Nat) (ae:k<a7.aB.length),k≠i→(a7.aB[k]).full=true→(a7.aB[k]).no≠((no:Nat):Int))) (fun q J=>⟨fun _=>(Xp h (by omega)).use ?_,fun h=>(by cases h)⟩) ?_⟩
   · rintro _ ag ⟨a7,kK,gm,vW,lQ,gW,aQ⟩
     have ly:∀f∈a7.aB,f.full=true→f.no≠((no:Nat):Int):=fun f aI k5 Bz=>by
       obtain ⟨g,bg,U,ab⟩:=gW f aI k5
       exact MK g bg U (by rw[ab,Bz])
     rcases aQ with ⟨i,hi,rfl,QJ,Bt⟩|⟨rfl,QK⟩
     · obtain ⟨a8,cQ,a3,a4⟩:=DW kK.raw.f hi (j:=0) (by decide) (v:= .bool true) {a7.aB[i] with full:=true} rfl
       have qQ:i<(a7.aB.set i {a7.aB[i] with full:=true}).length:=by rw[iB];exact hi
       have gB:(a7.aB.set i {a7.aB[i] with full:=true})[i]={a7.aB[i] with full:=true}:=by simp
       obtain ⟨c5,cA,ek,e9⟩:=DW a3 qQ (j:=3) (by decide) (v:= .int .i64 ((no:Nat):Int)) {a7.aB[i] with full:=true,no:=((no:Nat):Int)} (by rw[gB];rfl)
       rw[set_set] at ek
       rw[vW] at a8 cQ c5 cA ek a4 e9
       refine ⟨_,_,rfl,fun h=>(by simp at h),fun _=>⟨_,rfl,a8,cQ,bW ⟨_,rfl,by rw[bn];exact c5,by rw[bn];exact cA,bW ?_⟩⟩⟩
       rw[bn]
       exact J _ _ ⟨ag,a7,i,hi,{a7.aB[i] with full:=true,no:=((no:Nat):Int)},rfl,kK,gm,vW,lQ,Bt,by rw[vW];exact ek,by rw[vW];exact a4.trans e9,rfl,rfl,fun U=>(by rw[QJ] at U;cases U),fun k ae _ U=>ly _ (eN ae) U⟩
     · exact ⟨_,_,rfl,fun _=>⟨a7,kK,gm, .inr ⟨rfl,QK,lQ⟩⟩,fun h=>(by simp at h)⟩
   · rintro p aw ⟨ag,a7,i,hi,f1,rfl,aC,aF,aH,aN,cV,sR,I8,aiu,aiv,aiw,aix⟩
     exact fin ag a7 i hi f1 aC aF aH aN cV aw sR I8 aiu aiv aiw aix
theorem aiy (h:mm X w C) (no:Nat):aR Tryz.prog F.BB #[.pointer (some ⟨C.c,0,none⟩), .int .i64 ((no:Nat):Int)] w (fun v w'=>(∃b:Bool,v= .bool b)∧∃br:er,mm X w' br∧kI C br w w' 0∧∀j,j≠no→br.view j=C.view j):=by
 have mX:=h.raw
 refine W.aiz (some ⟨C.c,0,none⟩) ((no:Nat):Int) w _ ?_
 (delta W.BB za aE bL;dsimp only)
 refine (QF mX _).use ?_
 rintro _ _ ⟨I7,rfl⟩
 rcases I7 with ⟨i,hi,rfl,aI,aD⟩|⟨rfl,MK⟩
 · have f4:=vU mX.f hi (j:=4) (by decide)
   have a6:=h.inv.pins _ (eN hi)
   refine ⟨_,rfl,eI (fun b w'=>b=false∧w=w') (fun q J=>⟨fun h=>(by cases h),fun _=>⟨_,rfl,(C.aB[i]).pins,by rw[bn];exact f4,J _ _ ⟨by rw[a6];rfl,rfl⟩⟩⟩) ?_⟩
   rintro _ _ ⟨rfl,rfl⟩
   obtain ⟨s1,s2,bN⟩:=QE mX.f hi g5
   refine ⟨fun h=>(by cases h),fun _=>⟨_,rfl,s1,rfl,bW ⟨⟨true,rfl⟩,{C with aB:=C.aB.set i g5},⟨Xz mX bN s2,?_⟩,?_,fun j aU=> ?_⟩⟩⟩
   · exact Xn (V:=fun q=>q=C.bQ) (aM:=C.D) hi h.inv bN (fun q _ e=> .inr (.inl e)) rfl (fun _ _=>rfl) (fun q h=> .inl h) g5 rfl rfl
   · exact ⟨rfl,rfl,by show (C.aB.set i _).length=_;rw[iB],rfl,cU _,fun _ h=>h,bN.mono fun q _ e=> .inr (.inl e),fun q h=> .inl h⟩
   · refine Xs (fs:=C.aB) (D:=C.D) (c:=C.c) (bQ:=C.bQ) (hd:=C.hand) h.inv.un (fun a b aT aa U ab ao=> ?_) (fun k ae aC aF=> ?_) fun eT=>⟨fun f aI aC aF=> ?_,rfl⟩
     · have oU:a<C.aB.length:=by simpa using aT
       have my:b<C.aB.length:=by simpa using aa
       by_cases mn:i=a
       · subst mn
         simp[g5] at U
       by_cases mW:i=b
       · subst mW
         simp[g5] at ab
       simp only[mb mn] at U ao
       simp only[mb mW] at ab ao
       exact h.inv.un a b oU my U ab ao
     · have kt:i≠k:=fun e=>by
         subst e
         rw[aD] at aF
         exact aU (by omega)
       exact ⟨k,by rw[iB];exact ae,by simp only[mb kt];exact aC,by simp only[mb kt];exact aF,by simp only[mb kt]⟩
     · rcases Da aI with aI|rfl
       · exact eT f aI aC aF
       · cases aC
 · refine ⟨_,rfl,eI (fun b w'=>b=true∧w=w') (fun q J=>⟨fun _=>J _ _ ⟨rfl,rfl⟩,fun h=>(by cases h)⟩) ?_⟩
   rintro _ _ ⟨rfl,rfl⟩
   exact ⟨fun _=>⟨⟨false,rfl⟩,C,h,kI.refl C w,fun _ _=>rfl⟩,fun h=>(by cases h)⟩
end
theorem aiA (n:Nat):oF Tryz.prog ai.qx n=(dn Fr.c (List.replicate n g5)).toArray:=by
 have bD:((Tryz.prog.info? ai.qx).bind (·.zero)).map (·.cells)=some g5.c.toArray:=by kernel_rfl
 have al:Tryz.prog.cellsOf ai.qx=6:=by kernel_rfl
 unfold oF
 rw[al]
 cases hi:(Tryz.prog.info? ai.qx).bind (·.zero) with
 |none=>rw[hi] at bD;cases bD
 |some z=>
   rw[hi] at bD
   simp only[C_,Option.some.injEq] at bD
   simp only[Option.getD_some,bD]
   apply Array.ext
   · simp[oR (c:=Fr.c) (sz:=6) (List.replicate n g5) (fun x _=>rfl)]
   · intro i U ab
     have aD:n*6≠0:=by
       intro h
       simp[h] at U
     have eQ:i<n*6:=by simpa using U
     simp only[aD,if_false,Array.getElem_map,Array.getElem_range,List.getElem_toArray]
     have dr:g5.c.toArray.size=6:=rfl
     have a_:i%6<6:=qe _ (by omega)
     have J:i/6<(List.replicate n g5).length:=by rw[Fm];omega
     have bg:=Mu (c:=Fr.c) (sz:=6) (l:=List.replicate n g5) (fun x _=>rfl) (i:=i/6) (j:=i%6) J a_
     rw[show i/6*6+i%6=i by omega] at bg
     have DM:i<(dn Fr.c (List.replicate n g5)).length:=by simpa using ab
     rw[gq DM] at bg
     have he:((List.replicate n g5)[i/6]).c=g5.c:=by simp
     rw[he,gq (show i%6<g5.c.length from a_)] at bg
     have bg:=Option.some.inj bg
     rw[bg,dr,getElem!_pos g5.c.toArray (i%6) (by rw[dr];exact a_)]
     simp
def ML (c bQ k:Nat) (D:dG):er:=⟨c,bQ,List.replicate k g5,0,D⟩
theorem xC {w:World} {D:dG} (h:jq w D) {k:Nat} (U:8≤k) (ab:k≤64):aR Tryz.prog F.xC #[.pointer (some ⟨D.d,0,none⟩), .int .i64 ((k:Nat):Int)] w (fun v w'=>∃c bQ:Nat,v= .tuple #[.pointer (some ⟨c,0,none⟩), .int .i64 0]∧mm (fun _=>False) w' (ML c bQ k D)∧Ext w w'∧w.heap.size≤c∧w.heap.size≤bQ):=by
 refine W.aiB (some ⟨D.d,0,none⟩) ((k:Nat):Int) w _ ?_
 delta W.xC aE wW ah
 refine ⟨fun h=> ?_,fun _=>⟨⟨by omega,by omega,by omega,by omega⟩,?_⟩⟩
 · simp only[Option.isNone_some,HT,tD,fY] at h;omega
 rw[aiA,g6]
 have nj:=ck.new w (dn Fr.c (List.replicate k g5)).toArray ai.qx
 have bH:=im w (.cells (dn Fr.c (List.replicate k g5)).toArray ai.qx)
 have n4:=Dt w (.cells (dn Fr.c (List.replicate k g5)).toArray ai.qx)
 obtain ⟨ag,vS⟩:∃ag,ag=w.alloc (.cells (dn Fr.c (List.replicate k g5)).toArray ai.qx):=⟨_,rfl⟩
 rw[←vS] at nj bH n4⊢
 refine bW (cq (vs:=[.pointer (some ⟨D.d,0,none⟩), .slice (some ⟨w.heap.size,0,none⟩) k k, .int .i64 0]) rfl fun aw f_ cB u6=>⟨ag.heap.size,w.heap.size,rfl,⟨⟨?_,ck.ext nj cB,h.ext (bH.trans cB),?_,?_,?_,?_,?_,?_⟩,⟨fun f aI=> ?_,fun f aI nk=> ?_,fun i j hi aU U=> ?_,fun q J=>J.elim⟩⟩,bH.trans cB,by omega,cU _⟩)
 · show Var _ _ [_, .slice _ (List.replicate k g5).length (List.replicate k g5).length,_] _
   rw[Fm];exact f_
 · show 8≤(List.replicate k g5).length;simpa using U
 · show (List.replicate k g5).length≤64;simpa using ab
 · show 0<(List.replicate k g5).length;simp;omega
 · show ag.heap.size≠w.heap.size;omega
 · intro e
   have:=h.lt e
   have:ag.heap.size<w.heap.size:=this
   omega
 · intro e
   have:=h.lt e
   have:w.heap.size<w.heap.size:=this
   omega
 · rw[O7 aI];rfl
 · rw[O7 aI] at nk;cases nk
 · simp[ML,g5] at U
end
section
def vX (pZ c5 cA ek e9 hL k6 kL:Bool):Nat:=
 pZ.toNat+2*c5.toNat+4*cA.toNat+8*ek.toNat+16*e9.toNat+32*hL.toNat+64*k6.toNat+128*kL.toNat
def byteOf (f:Nat→Bool) (i:Nat):Nat:=vX (f (8*i)) (f (8*i+1)) (f (8*i+2)) (f (8*i+3)) (f (8*i+4)) (f (8*i+5)) (f (8*i+6)) (f (8*i+7))
theorem aiC:∀pZ c5 cA ek e9 hL k6 kL:Bool,vX pZ c5 cA ek e9 hL k6 kL<256:=by decide+kernel
theorem aiD:∀pZ c5 cA ek e9 hL k6 kL:Bool,
   (vX pZ c5 cA ek e9 hL k6 kL).testBit 0=pZ∧(vX pZ c5 cA ek e9 hL k6 kL).testBit 1=c5∧(vX pZ c5 cA ek e9 hL k6 kL).testBit 2=cA∧(vX pZ c5 cA ek e9 hL k6 kL).testBit 3=ek∧
   (vX pZ c5 cA ek e9 hL k6 kL).testBit 4=e9∧(vX pZ c5 cA ek e9 hL k6 kL).testBit 5=hL∧(vX pZ c5 cA ek e9 hL k6 kL).testBit 6=k6∧(vX pZ c5 cA ek e9 hL k6 kL).testBit 7=kL:=by decide+kernel
theorem vY (f:Nat→Bool) (i:Nat):byteOf f i<256:=aiC _ _ _ _ _ _ _ _
theorem DY (f:Nat→Bool) (i j:Nat) (aU:j<8):(byteOf f i).testBit j=f (8*i+j):=by
 obtain ⟨b5,U,ab,ao,aG,aV,b_,hY⟩:=aiD (f (8*i)) (f (8*i+1)) (f (8*i+2)) (f (8*i+3)) (f (8*i+4)) (f (8*i+5)) (f (8*i+6)) (f (8*i+7))
 have:j=0∨j=1∨j=2∨j=3∨j=4∨j=5∨j=6∨j=7:=by omega
 unfold byteOf
 rcases this with rfl|rfl|rfl|rfl|rfl|rfl|rfl|rfl<;>assumption
theorem aiE {x y:Nat} (af:x<256) (b1:y<256) (h:∀j,j<8→x.testBit j=y.testBit j):x=y:=by
 apply Nat.eq_of_testBit_eq
 intro j
 by_cases aU:j<8
 · exact h j aU
 · have p:256≤2^j:=by
     have:=Lj (n:=2) (by omega) (by omega:8≤j)
     simpa using this
   rw[Nat.testBit_lt_two_pow (by omega),Nat.testBit_lt_two_pow (by omega)]
theorem QQ (f:Nat→Bool) (i x:Nat) (af:x<256) (h:∀j,j<8→x.testBit j=f (8*i+j)):x=byteOf f i:=
 aiE af (vY f i) fun j aU=>by rw[h j aU,DY f i j aU]
def js (f:Nat→Bool) (k:Nat) (b:Bool):Nat→Bool:=fun i=>if i=k then b else f i
theorem aiF:∀x:Nat,x<256→∀j:Nat,j<8→(sA .u8 (Int.fdiv (x:Int) (2^(min (Int.toNat (j:Int)) 8))) 1==1)=x.testBit j:=by decide+kernel
theorem aiG:∀x:Nat,x<256→∀j:Nat,j<8→AO .u8 (x:Int) (IntKind.wrap .u8 (1*2^(min (Int.toNat (j:Int)) 8)))=((x|||2^j:Nat):Int):=by decide+kernel
theorem aiH:∀x:Nat,x<256→∀j:Nat,j<8→XB .u8 (x:Int) (IntKind.wrap .u8 (1*2^(min (Int.toNat (j:Int)) 8)))=((x&&&(255-2^j):Nat):Int):=by decide+kernel
theorem QR:∀x:Nat,x<256→∀y:Nat,y<256→x|||y<256:=fun _ af _ b1=>Nat.or_lt_two_pow (n:=8) af b1
theorem aiI:∀j:Nat,j<8→∀k:Nat,k<8→(255-2^j).testBit k=(k !=j):=by decide+kernel
theorem aiJ (x y:Nat) (af:x<256) (b1:y<256):AO .u8 (x:Int) (y:Int)=((x|||y:Nat):Int):=by
 have h:=QR x af y b1
 have e:(BitVec.ofInt 8 (x:Int)|||BitVec.ofInt 8 (y:Int)).toNat=x|||y:=by
   simp only[BitVec.ofInt_natCast,BitVec.toNat_or,BitVec.toNat_ofNat]
   rw[ru (by simpa using af),ru (by simpa using b1)]
 show IntKind.wrap .u8 (((BitVec.ofInt 8 (x:Int)|||BitVec.ofInt 8 (y:Int)).toNat:Nat):Int)=_
 rw[e]
 have:((x|||y:Nat):Int)%256=((x|||y:Nat):Int):=Int.emod_eq_of_lt (by omega) (by omega)
 simp[IntKind.wrap,IntKind.signed,IntKind.bits,this]
theorem aiK (k:Nat):8*(k/8)+k%8=k:=Nat.div_add_mod k 8
theorem aiL (f:Nat→Bool) (k:Nat):byteOf f (k/8)|||2^(k%8)=byteOf (js f k true) (k/8):=by
 refine QQ _ _ _ (QR _ (vY _ _) _ ?_) fun j aU=> ?_
 · have:k%8<8:=qe _ (by omega)
   have:=Nat.pow_lt_pow_right (a:=2) (by omega) this
   simpa using this
 · rw[AG,DY _ _ _ aU,HW,js]
   by_cases h:8*(k/8)+j=k
   · rw[if_pos h]
     have:k%8=j:=by omega
     simp[this]
   · rw[if_neg h]
     have:¬k%8=j:=by omega
     simp[this]
theorem aiM (f:Nat→Bool) (k:Nat):byteOf f (k/8)&&&(255-2^(k%8))=byteOf (js f k false) (k/8):=by
 refine QQ _ _ _ (Nat.lt_of_le_of_lt Nat.and_le_left (vY _ _)) fun j aU=> ?_
 rw[Nat.testBit_and,DY _ _ _ aU,aiI _ (qe _ (by omega)) _ aU,js]
 by_cases h:8*(k/8)+j=k
 · rw[if_pos h]
   have:j=k%8:=by omega
   simp[this]
 · rw[if_neg h]
   have:¬j=k%8:=by omega
   simp[this]
theorem aiN (f:Nat→Bool) (k i:Nat) (b:Bool) (h:i≠k/8):byteOf (js f k b) i=byteOf f i:=by
 have e:∀j,j<8→js f k b (8*i+j)=f (8*i+j):=fun j aU=>by
   unfold js
   rw[if_neg]
   omega
 unfold byteOf
 rw[e 1 (by omega),e 2 (by omega),e 3 (by omega),e 4 (by omega),e 5 (by omega),e 6 (by omega),e 7 (by omega)]
 have:=e 0 (by omega)
 simp only[C5] at this
 rw[this]
def ku (f:Nat→Bool) (m:Nat):List Value:=(List.range m).map fun i=> .int .u8 (byteOf f i)
theorem QS (f:Nat→Bool) (m:Nat):(ku f m).length=m:=by simp[ku]
theorem DZ (f:Nat→Bool) {m i:Nat} (h:i<m):(ku f m)[i]? =some (.int .u8 (byteOf f i)):=by simp[ku,h]
theorem XC (f:Nat→Bool) (k m:Nat) (b:Bool):(ku f m).set (k/8) (.int .u8 (byteOf (js f k b) (k/8)))=ku (js f k b) m:=by
 apply List.ext_getElem?
 intro i
 rw[List.getElem?_set]
 by_cases hi:i<m
 · rw[DZ (js f k b) hi]
   by_cases h:k/8=i
   · subst h
     simp[QS,hi]
   · rw[if_neg h,DZ _ hi,aiN f k i b (by omega)]
 · have U:(ku (js f k b) m)[i]? =none:=by simp[ku];omega
   have ab:(ku f m)[i]? =none:=by simp[ku];omega
   rw[U,ab]
   split
   · simp[QS];omega
   · rfl
end
section
theorem XD (k:Nat):Int.tdiv (k:Int) 8=((k/8:Nat):Int):=by
 rw[Int.tdiv_eq_ediv_of_nonneg (by omega)];omega
theorem QT (k:Nat):Int.tmod (k:Int) 8=((k%8:Nat):Int):=by
 rw[HV (by omega)];omega
theorem QU {k:Nat} (h:k≤9223372036854775807):IntKind.wrap .i64 (Int.tdiv (k:Int) 8)=((k/8:Nat):Int):=by
 rw[XD,ct (by omega) (by omega)]
theorem XE {s:ad} {b:Nat} (h:s.a=some ⟨b,0,none⟩):aP s b:=⟨_,h,rfl⟩
theorem D1 {w:World} {s:ad} {f:Nat→Bool} {m k:Nat} (h:bU 1 ai.uint8 w s (ku f m)) (ae:k/8<m) (dj:k≤9223372036854775807):
   aR Tryz.prog F.rQ #[.slice s.a s.len s.cap, .int .i64 k] w (fun v w'=>v= .bool (f k)∧w=w'):=by
 refine W.aiO s k w _ ?_
 (delta W.rQ aX ay g8;dsimp only)
 obtain ⟨b,c,aa,il,eY,hi,QV,al,_⟩:=h.cell (DZ f ae)
 refine ⟨by decide,_,aa,?_⟩
 rw[QU dj,QT]
 refine ⟨⟨by omega,by omega⟩,(byteOf f (k/8):Int),?_,by decide,by omega,?_,rfl⟩
 · rw[lp,g6,bn,gd];exact al
 · rw[aiF _ (vY _ _) _ (qe _ (by omega)),DY _ _ _ (qe _ (by omega)),aiK]
theorem XF {w:World} {s:ad} {f:Nat→Bool} {m k:Nat} (h:bU 1 ai.uint8 w s (ku f m)) (ae:k/8<m) (dj:k≤9223372036854775807):
   aR Tryz.prog F.zd #[.slice s.a s.len s.cap, .int .i64 k] w (fun v w'=>v= .tuple #[]∧bU 1 ai.uint8 w' s (ku (js f k true) m)∧aq (aP s) w w'):=by
 refine W.aiP s k w _ ?_
 (delta W.zd az aX ay g8 st;dsimp only)
 obtain ⟨b,c,aa,il,eY,hi,QV,al,_⟩:=h.cell (DZ f ae)
 have aT:(Addr.mk b 0 none).add (Int.toNat ((k/8:Nat):Int)*1)=⟨b,k/8,none⟩:=by rw[lp,g6,bn,gd]
 rw[QU dj,QT]
 refine ⟨by decide,_,aa,⟨by omega,by omega⟩,by simp,(byteOf f (k/8):Int),by rw[aT];exact al,by decide,by omega,_,aa,⟨by omega,by omega⟩,⟨_,by rw[aT];exact al⟩,by rw[aT];exact il.drew.frozen _ rfl,rfl,?_,?_⟩
 · rw[aT,aiG _ (vY _ _) _ (qe _ (by omega)),aiL,←XC]
   have o_:bU 1 ai.uint8 w.drew s (ku f m):=h.an (W:=fun _=>False) (aq.drew (.refl _ _)) (fun _ _ h=>h)
   exact o_.set aa _
 · rw[aT]
   exact aq.set (aq.drew (.refl _ _)) (fun _=>XE aa) _
theorem aiQ {w:World} {s:ad} {f:Nat→Bool} {m k:Nat} (h:bU 1 ai.uint8 w s (ku f m)) (ae:k/8<m) (dj:k≤9223372036854775807):
   aR Tryz.prog F.BC #[.slice s.a s.len s.cap, .int .i64 k] w (fun v w'=>v= .tuple #[]∧bU 1 ai.uint8 w' s (ku (js f k false) m)∧aq (aP s) w w'):=by
 refine W.aiR s k w _ ?_
 (delta W.BC az aX ay g8 st;dsimp only)
 obtain ⟨b,c,aa,il,eY,hi,QV,al,_⟩:=h.cell (DZ f ae)
 have aT:(Addr.mk b 0 none).add (Int.toNat ((k/8:Nat):Int)*1)=⟨b,k/8,none⟩:=by rw[lp,g6,bn,gd]
 rw[QU dj,QT]
 refine ⟨by decide,_,aa,⟨by omega,by omega⟩,by simp,(byteOf f (k/8):Int),by rw[aT];exact al,by decide,by omega,_,aa,⟨by omega,by omega⟩,⟨_,by rw[aT];exact al⟩,by rw[aT];exact il.drew.frozen _ rfl,rfl,?_,?_⟩
 · rw[aT,aiH _ (vY _ _) _ (qe _ (by omega)),aiM,←XC]
   have o_:bU 1 ai.uint8 w.drew s (ku f m):=h.an (W:=fun _=>False) (aq.drew (.refl _ _)) (fun _ _ h=>h)
   exact o_.set aa _
 · rw[aT]
   exact aq.set (aq.drew (.refl _ _)) (fun _=>XE aa) _
structure lD (w:World) (b n:Nat) (f g:Nat→Bool) (s1 s2:ad):Prop where
 db:ck w b #[.int .i64 n, .slice s1.a s1.len s1.cap, .slice s2.a s2.len s2.cap] ai.BD
 now:bU 1 ai.uint8 w s1 (ku f ((n+7)/8))
 sure:bU 1 ai.uint8 w s2 (ku g ((n+7)/8))
 d1:∀k,aP s1 k→k≠b∧¬aP s2 k
 d2:∀k,aP s2 k→k≠b
 c_:1≤n
 cZ:n≤1600
 Ge:∀i,n≤i→f i=false
 gO:∀i,n≤i→g i=false
def rR (b:Nat) (s1 s2:ad) (k:Nat):Prop:=k=b∨aP s1 k∨aP s2 k
section
variable {w w':World} {b n:Nat} {f g:Nat→Bool} {s1 s2:ad}
theorem lD.an {W:Nat→Prop} (h:lD w b n f g s1 s2) (al:aq W w w') (aD:∀k,rR b s1 s2 k→¬W k):lD w' b n f g s1 s2:=
 ⟨h.db.an al (aD b (.inl rfl)),h.now.an al fun k ae=>aD k (.inr (.inl ae)),h.sure.an al fun k ae=>aD k (.inr (.inr ae)),h.d1,h.d2,h.c_,h.cZ,h.Ge,h.gO⟩
theorem lD.ext (h:lD w b n f g s1 s2) (al:Ext w w'):lD w' b n f g s1 s2:=h.an al fun _ _ h=>h
theorem lD.lt (h:lD w b n f g s1 s2):∀k,rR b s1 s2 k→k<w.heap.size:=by
 rintro k (rfl|ae|ae)
 · exact h.db.lt
 · exact h.now.lt k ae
 · exact h.sure.lt k ae
theorem lD.cy (h:lD w b n f g s1 s2):w.cell? ⟨b,0,none⟩=some (.int .i64 n):=by rw[h.db.cell];rfl
theorem lD.aS (h:lD w b n f g s1 s2):w.cell? ((Addr.mk b 0 none).add 1)=some (.slice s1.a s1.len s1.cap):=by rw[bn,h.db.cell];rfl
theorem lD.bA (h:lD w b n f g s1 s2):w.cell? ((Addr.mk b 0 none).add 2)=some (.slice s2.a s2.len s2.cap):=by rw[bn,h.db.cell];rfl
theorem aiS (h:lD w b n f g s1 s2) {k:Nat} (ae:k<n):
   aR Tryz.prog F.BE #[.pointer (some ⟨b,0,none⟩), .int .i64 k] w (fun v w'=>v= .bool (f k||g k)∧w=w'):=by
 have aD:=h.cZ
 refine W.aiT _ k w _ ?_
 (delta W.BE ar aZ aE;dsimp only)
 refine ⟨_,rfl,s1,h.aS,(D1 h.now (k:=k) (by omega) (by omega)).use ?_⟩
 rintro _ _ ⟨rfl,rfl⟩
 refine ⟨_,rfl,⟨fun aI=>⟨by rw[aI];rfl,rfl⟩,fun aI=>⟨_,rfl,s2,h.bA,(D1 h.sure (k:=k) (by omega) (by omega)).use ?_⟩⟩⟩
 rintro _ _ ⟨rfl,rfl⟩
 exact ⟨_,rfl,by rw[aI];rfl,rfl⟩
theorem QW (h:lD w b n f g s1 s2) (k:Int):
   aR Tryz.prog F.xD #[.pointer (some ⟨b,0,none⟩), .int .i64 k] w (fun v w'=>v= .bool (decide (0≤k)&&decide (k<n))∧w=w'):=by
 refine W.aiU _ k w _ ?_
 (delta W.xD aE bL;dsimp only)
 refine ⟨?_⟩
 refine ⟨fun U=>⟨_,rfl,n,h.cy,?_,rfl⟩,fun U=>⟨?_,rfl⟩⟩
 · have:0≤k:=by simpa using U
   simp[this]
 · have:¬0≤k:=by simpa using U
   simp[this]
def firstFree (t:Nat→Bool) (n:Nat):Option Nat:=(List.range n).find? fun i=> !t i
theorem aiV {t:Nat→Bool} {n k:Nat} (ae:k<n) (ba:t k=false) (aA:∀i,i<k→t i=true):firstFree t n=some k:=by
 unfold firstFree
 rw[List.find?_eq_some_iff_append]
 refine ⟨by simp[ba],List.range k,(List.range' (k+1) (n-(k+1))),?_,fun a aT=> ?_⟩
 · have aW:=List.range'_append (s:=0) (m:=k) (n:=n-(k+1)+1) (step:=1)
   rw[Lm,Lm,←List.range'_succ]
   rw[Nat.one_mul,gd] at aW
   rw[aW]
   congr 1
   omega
 · simp[aA a (tA.1 aT)]
theorem aiW {t:Nat→Bool} {n:Nat} (aA:∀i,i<n→t i=true):firstFree t n=none:=by
 unfold firstFree
 rw[tz]
 intro a aT
 simp[aA a (tA.1 aT)]
theorem aiX {t:Nat→Bool} {n k:Nat} (h:firstFree t n=some k):k<n∧t k=false∧∀i,i<k→t i=true:=by
 unfold firstFree at h
 obtain ⟨U,oI,gZ,ab,ao⟩:=List.find?_eq_some_iff_append.1 h
 have ae:k<n:=tA.1 (by rw[ab];simp)
 refine ⟨ae,by simpa using U,fun i hi=> ?_⟩
 have hlen:oI.length=k:=by
   have aG:(List.range n)[oI.length]? =some k:=by rw[ab];simp
   rw[List.getElem?_range (by
     have:=congrArg List.length ab
     simp at this
     omega)] at aG
   simpa using aG
 have aV:(List.range n)[i]? =some i:=List.getElem?_range (by omega)
 rw[ab,List.getElem?_append_left (by omega)] at aV
 have:=ao i (List.mem_of_getElem? aV)
 simpa using this
theorem aiY {t:Nat→Bool} {n:Nat} (h:firstFree t n=none):∀i,i<n→t i=true:=by
 unfold firstFree at h
 rw[tz] at h
 intro i hi
 have:=h i (tA.2 hi)
 simpa using this
def aiZ (o:Option Nat):Value:=
 match o with
 |some k=> .tuple #[.int .i64 (k:Int), .int .i64 0]
 |none=> .tuple #[.int .i64 (-1), .int .i64 2]
def ai0 (o:Option Nat) (f:Nat→Bool):Nat→Bool:=
 match o with
 |some k=>js f k true
 |none=>f
theorem XG {f:Nat→Bool} {n k:Nat} {x:Bool} (h:∀i,n≤i→f i=false) (ae:k<n):∀i,n≤i→js f k x i=false:=fun i hi=>by
 unfold js
 rw[if_neg (by omega)]
 exact h i hi
theorem ai1 (h:lD w b n f g s1 s2):
   aR Tryz.prog F.BF #[.pointer (some ⟨b,0,none⟩)] w (fun v w'=>v=aiZ (firstFree (fun i=>f i||g i) n)∧lD w' b n (ai0 (firstFree (fun i=>f i||g i) n) f) g s1 s2∧aq (rR b s1 s2) w w'):=by
 have nI:=h.cZ
 refine W.ai2 _ w _ ?_
 (delta W.BF aE bL aZ ar bA ay;dsimp only)
 refine ⟨fun U=>by simp at U,fun _=>⟨_,rfl,n,h.cy,fun i w'=>∃k:Nat,i=k∧k≤n∧w=w'∧∀j,j<k→(f j||g j)=true,fun i _=>(n-i).toNat,⟨0,rfl,by omega,rfl,fun j aU=>by omega⟩,?_⟩⟩
 rintro _ _ ⟨k,rfl,ae,rfl,eT⟩
 refine ⟨fun a_=>(aiS h (k:=k) (by simpa using a_)).use ?_,fun cn=> ?_⟩
 · have ze:k<n:=by simpa using a_
   rintro _ _ ⟨rfl,rfl⟩
   refine ⟨_,rfl,fun ba=>⟨_,rfl,s1,h.aS,(XF h.now (k:=k) (by omega) (by omega)).use ?_⟩,fun ba=> ?_⟩
   · rintro _ w' ⟨rfl,ja,al⟩
     have yS:(f k||g k)=false:=by simpa using ba
     have xi:=aiV (t:=fun i=>f i||g i) ze yS eT
     rw[xi]
     refine ⟨rfl,rfl,⟨h.db.an al fun aa=>(h.d1 b aa).1 rfl,ja,h.sure.an al fun k ae U=>(h.d1 k U).2 ae,h.d1,h.d2,h.c_,h.cZ,XG h.Ge ze,h.gO⟩,al.mono fun k _ ae=> .inr (.inl ae)⟩
   · have yS:(f k||g k)=true:=by cases af:(f k||g k)<;>simp[af] at ba⊢
     rw[ct (by omega) (by omega)]
     refine ⟨⟨k+1,by omega,by omega,rfl,fun j aU=> ?_⟩,(show ((n:Int)-((k:Int)+1)).toNat<((n:Int)-(k:Int)).toNat by omega)⟩
     rcases g2 j k with U|U
     · exact eT j U
     · have:j=k:=by omega
       subst this;exact yS
 · have ze:k=n:=by
     have:¬(k:Int)<n:=by simpa using cn
     omega
   subst ze
   rw[aiW eT]
   exact ⟨rfl,h, .refl _ _⟩
def MM (f:Nat→Bool) (n:Nat) (k:Int):Int:=if 0≤k∧k<n then (if f k.toNat then 0 else 6) else 1
def Gf (f:Nat→Bool) (n:Nat) (k:Int):Nat→Bool:=if 0≤k∧k<n then js f k.toNat false else f
theorem ai3 {f:Nat→Bool} {k:Nat} {x:Bool} (h:f k=x):js f k x=f:=by
 funext i
 unfold js
 split
 · rename_i hi;rw[hi,h]
 · rfl
theorem ai4 (h:lD w b n f g s1 s2) (k:Int):
   aR Tryz.prog F.BG #[.pointer (some ⟨b,0,none⟩), .int .i64 k] w (fun v w'=>v= .int .i64 (MM f n k)∧lD w' b n (Gf f n k) g s1 s2∧aq (rR b s1 s2) w w'):=by
 have nI:=h.cZ
 refine W.ai5 _ k w _ ?_
 (delta W.BG aZ aE ar bA;dsimp only)
 refine (QW h k).use ?_
 rintro _ _ ⟨rfl,rfl⟩
 refine ⟨_,rfl,fun U=> ?_,fun U=> ?_⟩
 · have:¬(0≤k∧k<n):=by
     rintro ⟨ab,ao⟩
     simp[ab,ao] at U
   exact ⟨by rw[MM,if_neg this],by rw[Gf,if_neg this];exact h, .refl _ _⟩
 · have aQ:0≤k∧k<n:=by simpa using U
   obtain ⟨m,rfl⟩:=Lo aQ.1
   have hm:m<n:=by omega
   refine ⟨_,rfl,s1,h.aS,(D1 h.now (k:=m) (by omega) (by omega)).use ?_⟩
   rintro _ _ ⟨rfl,rfl⟩
   refine ⟨_,rfl,fun ab=> ?_,fun ab=>⟨_,rfl,s1,h.aS,(aiQ h.now (k:=m) (by omega) (by omega)).use ?_⟩⟩
   · have aI:f m=false:=by simpa using ab
     refine ⟨by rw[MM,if_pos aQ,g6,aI];rfl,?_, .refl _ _⟩
     rw[Gf,if_pos aQ,g6,ai3 aI]
     exact h
   · rintro _ w' ⟨rfl,ja,al⟩
     have aI:f m=true:=by simpa using ab
     refine ⟨rfl,by rw[MM,if_pos aQ,g6,aI];rfl,?_,al.mono fun k _ ae=> .inr (.inl ae)⟩
     rw[Gf,if_pos aQ,g6]
     exact ⟨h.db.an al fun aa=>(h.d1 b aa).1 rfl,ja,h.sure.an al fun k ae U=>(h.d1 k U).2 ae,h.d1,h.d2,h.c_,h.cZ,XG h.Ge hm,h.gO⟩
theorem ai6 (h:lD w b n f g s1 s2) (k:Int):
   aR Tryz.prog F.BH #[.pointer (some ⟨b,0,none⟩), .int .i64 k] w (fun v w'=>v= .bool (decide (0≤k)&&decide (k<n)&&f k.toNat)∧w=w'):=by
 have nI:=h.cZ
 refine W.ai7 _ k w _ ?_
 (delta W.BH aZ aE ar;dsimp only)
 refine (QW h k).use ?_
 rintro _ _ ⟨rfl,rfl⟩
 refine ⟨_,rfl,⟨fun U=> ?_,fun U=>⟨by rw[U];rfl,rfl⟩⟩⟩
 have aQ:0≤k∧k<n:=by simpa using U
 obtain ⟨m,rfl⟩:=Lo aQ.1
 refine ⟨_,rfl,s1,h.aS,(D1 h.now (k:=m) (by omega) (by omega)).use ?_⟩
 rintro _ _ ⟨rfl,rfl⟩
 exact ⟨_,rfl,by rw[U,g6];rfl,rfl⟩
theorem ai8 (h:lD w b n f g s1 s2) (k:Int):
   aR Tryz.prog F.BI #[.pointer (some ⟨b,0,none⟩), .int .i64 k] w (fun v w'=>v= .bool (decide (0≤k)&&decide (k<n)&&f k.toNat&& !(g k.toNat))∧w=w'):=by
 have nI:=h.cZ
 refine W.ai9 _ k w _ ?_
 (delta W.BI aZ aE ar;dsimp only)
 refine (QW h k).use ?_
 rintro _ _ ⟨rfl,rfl⟩
 refine ⟨_,rfl,⟨fun U=> ?_,fun U=>⟨(fun h=>by cases h),fun _=>⟨by rw[U];rfl,rfl⟩⟩⟩⟩
 have aQ:0≤k∧k<n:=by simpa using U
 obtain ⟨m,rfl⟩:=Lo aQ.1
 refine ⟨_,rfl,s1,h.aS,(D1 h.now (k:=m) (by omega) (by omega)).use ?_⟩
 rintro _ _ ⟨rfl,rfl⟩
 refine ⟨_,rfl,fun ab=>⟨_,rfl,s2,h.bA,(D1 h.sure (k:=m) (by omega) (by omega)).use ?_⟩,fun ab=>⟨by rw[U,g6,ab];rfl,rfl⟩⟩
 rintro _ _ ⟨rfl,rfl⟩
 exact ⟨_,rfl,by rw[U,g6,ab];rfl,rfl⟩
end
end
section
theorem ai_:qj Tryz.prog ai.I9 ai.uint8 1 1:=⟨by kernel_rfl⟩
theorem aja:qj Tryz.prog ai.dD ai.int 1 8:=⟨by kernel_rfl⟩
theorem ajb (n:Nat):oF Tryz.prog ai.uint8 n=(List.replicate n (.int .u8 0)).toArray:=VE (by kernel_rfl) (by kernel_rfl) n
theorem ajc (f:Nat→Bool) (m:Nat):∀v∈ku f m,Plain v:=by
 intro v ak
 obtain ⟨i,_,rfl⟩:=nA.1 ak
 trivial
theorem ajd {w:World} {s:ad} {xs:List Value} (h:Src 1 w s xs) (a6:∀v∈xs,Plain v) (aD:s.len≤1000000):
   aR Tryz.prog F.BJ #[.slice s.a s.len s.cap] w (fun v w'=>∃au:ad,v= .slice au.a au.len au.cap∧bU 1 ai.uint8 w' au xs∧Ext w w'∧∀k,aP au k→w.heap.size≤k):=by
 refine W.aje s w _ ?_
 delta W.BJ az aE ah
 refine ⟨fun aT=> ?_,fun _=> ?_⟩
 · have aT:s.a=none:=by simpa using aT
   rw[h.nil aT]
   exact ⟨⟨none,0,0⟩,rfl,bU.none _ _ _, .refl _ _,fun k ae=>(pE k ae).elim⟩
 · obtain ⟨au,w',U,ab,ao,aG,aV,_⟩:=ai_.clone (gX:=ai.I9) h a6 (by omega)
   exact ⟨au,w',U,au,rfl,ab,aG,aV⟩
section
variable {w w':World} {b n:Nat} {f g:Nat→Bool} {s1 s2:ad}
theorem QX {T:TypeId} {m:Nat} (h:bU 1 T w s1 (ku f m)):s1.len=m:=by
 have:=h.1
 rw[QS] at this
 omega
theorem ajf {m:Nat} {u:Value} (aa:ck w b #[.int .i64 n, .slice s1.a s1.len s1.cap,u] ai.BD) (U:bU 1 ai.uint8 w s1 (ku f m)) (hd:∀k,aP s1 k→k≠b) (hm:m≤1000000):
   aR Tryz.prog F.BK #[.pointer (some ⟨b,0,none⟩)] w (fun v w'=>v= .tuple #[]∧∃vZ:ad,ck w' b #[.int .i64 n, .slice s1.a s1.len s1.cap, .slice vZ.a vZ.len vZ.cap] ai.BD∧
     bU 1 ai.uint8 w' s1 (ku f m)∧bU 1 ai.uint8 w' vZ (ku f m)∧aq (fun k=>k=b) w w'∧∀k,aP vZ k→w.heap.size≤k):=by
 refine W.ajg _ w _ ?_
 (delta W.BK az aE ar en st;dsimp only)
 refine ⟨fun _=>⟨_,rfl,s1,by rw[bn,aa.cell];rfl,(ajd U.src (ajc f m) (by rw[QX U];exact hm)).use ?_⟩,fun h=>by simp at h⟩
 rintro _ aw ⟨vZ,rfl,ab,af,aI⟩
 have gM:=aa.ext af
 have dI:∀k,aP vZ k→k≠b:=fun k ae e=>by have:=aI k ae;have:=aa.lt;omega
 refine ⟨vZ,rfl,_,rfl,⟨_,by rw[bn,gM.cell];rfl⟩,gM.frozen _ rfl,rfl,vZ,?_,?_,?_,?_,aI⟩
 · rw[bn];exact gM.set 2 _
 · exact (U.ext af).an (W:=fun k=>k=b) (aq.set (.refl _ _) (fun _=>by rw[bn]) _) hd
 · exact ab.an (W:=fun k=>k=b) (aq.set (.refl _ _) (fun _=>by rw[bn]) _) dI
 · exact (aq.e0 af).set (fun _=>by rw[bn]) _
def Gg (x:Nat):Nat:=(x.testBit 0).toNat+(x.testBit 1).toNat+(x.testBit 2).toNat+(x.testBit 3).toNat+(x.testBit 4).toNat+(x.testBit 5).toNat+(x.testBit 6).toNat+(x.testBit 7).toNat
def kM (t:Nat→Bool):Nat→Nat
 |0=>0
 |k+1=>kM t k+(t k).toNat
theorem I_ (t:Nat→Bool):∀k,kM t k≤k
 |0=>cU _
 |k+1=>by have:=I_ t k;have:=Bool.toNat_le (t k);simp only[kM];omega
theorem ajh (t:Nat→Bool) (i:Nat):kM t (8*(i+1))=kM t (8*i)+Gg (byteOf t i):=by
 have h:∀j,j<8→(byteOf t i).testBit j=t (8*i+j):=fun j aU=>DY t i j aU
 unfold Gg
 rw[h 0 (by omega),h 1 (by omega),h 2 (by omega),h 3 (by omega),h 4 (by omega),h 5 (by omega),h 6 (by omega),h 7 (by omega)]
 show kM t (8*i+7+1)=_
 simp only[kM,C5]
 omega
theorem XH (t:Nat→Bool) (n:Nat) (h:∀i,n≤i→t i=false):∀k,kM t (n+k)=kM t n
 |0=>rfl
 |k+1=>by
   have:=XH t n h k
   show kM t (n+k)+(t (n+k)).toNat=_
   rw[this,h (n+k) (by omega)]
   rfl
theorem aji:∀x:Nat,x<256→(QY (ByteArray.mk #[0,1,1,2,1,2,2,3,1,2,2,3,2,3,3,4,1,2,2,3,2,3,3,4,2,3,3,4,3,4,4,5,1,2,2,3,2,3,3,4,2,3,3,4,3,4,4,5,2,3,3,4,3,4,4,5,3,4,4,5,4,5,5,6,1,2,2,3,2,3,3,4,2,3,3,4,3,4,4,5,2,3,3,4,3,4,4,5,3,4,4,5,4,5,5,6,2,3,3,4,3,4,4,5,3,4,4,5,4,5,5,6,3,4,4,5,4,5,5,6,4,5,5,6,5,6,6,7,1,2,2,3,2,3,3,4,2,3,3,4,3,4,4,5,2,3,3,4,3,4,4,5,3,4,4,5,4,5,5,6,2,3,3,4,3,4,4,5,3,4,4,5,4,5,5,6,3,4,4,5,4,5,5,6,4,5,5,6,5,6,6,7,2,3,3,4,3,4,4,5,3,4,4,5,4,5,5,6,3,4,4,5,4,5,5,6,4,5,5,6,5,6,6,7,3,4,4,5,4,5,5,6,4,5,5,6,5,6,6,7,4,5,5,6,5,6,6,7,5,6,6,7,6,7,7,8]) x).map (·.toNat)=some (Gg x):=by decide+kernel
theorem XI (x:Nat):Gg x≤8:=by
 unfold Gg
 have h:∀b:Bool,b.toNat≤1:=Bool.toNat_le
 have:=h (x.testBit 0);have:=h (x.testBit 1);have:=h (x.testBit 2);have:=h (x.testBit 3)
 have:=h (x.testBit 4);have:=h (x.testBit 5);have:=h (x.testBit 6);have:=h (x.testBit 7)
 omega
theorem ajj (w:World) (x:Nat) (af:x<256):aR Tryz.prog F.BL #[.int .u8 x] w (fun v w'=>v= .int .i64 (Gg x)∧w=w'):=by
 refine W.ajk x w _ ?_
 delta W.BL ay
 have h:=aji x af
 refine ⟨by omega,?_⟩
 cases aa:QY _ x with
 |none=>rw[aa] at h;cases h
 |some y=>
   rw[aa] at h
   simp only[C_,Option.some.injEq] at h
   refine ⟨y,aa,?_,rfl⟩
   rw[h,ct (by omega) (by have:=XI x;omega)]
theorem ajl (f g:Nat→Bool) (i:Nat):byteOf f i|||byteOf g i=byteOf (fun k=>f k||g k) i:=
 QQ _ _ _ (QR _ (vY _ _) _ (vY _ _)) fun j aU=>by rw[AG,DY _ _ _ aU,DY _ _ _ aU]
theorem XJ (h:lD w b n f g s1 s2):
   aR Tryz.prog F.zf #[.pointer (some ⟨b,0,none⟩)] w (fun v w'=>v= .int .i64 ((n:Int)-kM (fun i=>f i||g i) n)∧Ext w w'):=by
 have nI:=h.cZ
 have qR:=QX h.now
 have ah8:=QX h.sure
 refine W.ajm _ w _ ?_
 (delta W.zf az aE bL ar aX g8 aS ay;dsimp only)
 refine ⟨fun U=>by simp at U,fun _=>⟨_,rfl,n,h.cy,_,rfl,s1,h.aS,fun r i w'=>∃k:Nat,i=k∧k≤s1.len∧Ext w w'∧r=(n:Int)-kM (fun i=>f i||g i) (8*k),fun _ i _=>((s1.len:Int)-i).toNat,⟨0,rfl,by omega, .refl _ _,by simp[kM]⟩,?_⟩⟩
 rintro _ _ ag ⟨k,rfl,ae,af,rfl⟩
 refine ⟨fun a_=> ?_,fun cn=> ?_⟩
 · have ze:k<s1.len:=by simpa using a_
   have U:=h.ext af.drew
   obtain ⟨c5,aS,nj,ar3,_,_,_,ir,_⟩:=U.now.cell (DZ f (i:=k) (by omega))
   obtain ⟨cA,bA,gM,ar4,_,_,_,dB,_⟩:=U.sure.cell (DZ g (i:=k) (by omega))
   have aT:∀b:Nat,(Addr.mk b 0 none).add (Int.toNat (k:Int)*1)=⟨b,k,none⟩:=fun b=>by rw[lp,g6,bn,gd]
   refine ⟨fun _=>False,_,rfl,by simp,s1,U.aS,_,nj,by omega,by simp,_,by rw[aT];exact ir,_,rfl,by simp,s2,U.bA,_,gM,by omega,by simp,_,by rw[aT];exact dB,?_⟩
   rw[aiJ _ _ (vY _ _) (vY _ _),ajl]
   refine (ajj _ _ (vY _ _)).use ?_
   rintro _ _ ⟨rfl,rfl⟩
   have:=XI (byteOf (fun i=>f i||g i) k)
   have:=I_ (fun i=>f i||g i) (8*k)
   refine ⟨_,rfl, .refl _ _,?_⟩
   rw[ct (n:=(n:Int)-_-_) (by omega) (by omega),ct (n:=(k:Int)+1) (by omega) (by omega)]
   exact ⟨⟨k+1,by omega,by omega,af.drew,by rw[ajh];omega⟩,(show ((s1.len:Int)-((k:Int)+1)).toNat<((s1.len:Int)-(k:Int)).toNat by omega)⟩
 · have ze:k=s1.len:=by
     have:¬(k:Int)<s1.len:=by simpa using cn
     omega
   refine ⟨?_,af⟩
   have e:8*k=n+(8*k-n):=by omega
   rw[e,XH _ _ (fun i hi=>by simp[h.Ge i hi,h.gO i hi])]
def sS (f:Nat→Bool):Nat→List Int
 |0=> []
 |k+1=>sS f k++(if f k then [(k:Int)] else [])
def BM (f:Nat→Bool) (k:Nat):List Value:=(sS f k).map (.int .i64)
theorem XK (f:Nat→Bool):∀k,(sS f k).length≤k
 |0=>cU _
 |k+1=>by have:=XK f k;simp only[sS,dA];split<;>simp<;>omega
theorem ajn (h:lD w b n f g s1 s2):
   aR Tryz.prog F.BN #[.pointer (some ⟨b,0,none⟩)] w (fun v w'=>∃s:ad,v= .slice s.a s.len s.cap∧bU 1 ai.int w' s (BM f n)∧Ext w w'∧∀k,aP s k→w.heap.size≤k):=by
 have nI:=h.cZ
 refine W.ajo _ w _ ?_
 (delta W.BN az aE bL ar aZ ah ay;dsimp only)
 refine ⟨fun U=>by simp at U,fun _=>⟨_,rfl,n,h.cy,fun s i w'=>∃k:Nat,i=k∧k≤n∧Ext w w'∧bU 1 ai.int w' s (BM f k)∧∀k,aP s k→w.heap.size≤k,fun _ i _=>((n:Int)-i).toNat,
   ⟨0,rfl,by omega, .refl _ _,bU.none _ _ _,fun k ae=>(pE k ae).elim⟩,?_⟩⟩
 rintro s _ ag ⟨k,rfl,ae,af,ja,g_⟩
 refine ⟨fun a_=> ?_,fun cn=> ?_⟩
 · have ze:k<n:=by simpa using a_
   have U:=h.ext af
   refine eI (fun au w'=>Ext w w'∧bU 1 ai.int w' au (BM f (k+1))∧∀k,aP au k→w.heap.size≤k) (fun q J=>⟨_,rfl,s1,U.aS,(D1 U.now (k:=k) (by omega) (by omega)).use ?_⟩) ?_
   · rintro _ _ ⟨rfl,rfl⟩
     refine ⟨_,rfl,fun aI=> ?_,fun aI=> ?_⟩
     · have hlen:s.len≤k:=by
         have:=ja.1
         have:=XK f k
         simp[BM] at*
         omega
       obtain ⟨au,w',U,ab,ao,aG,aV⟩:=aja.push (gX:=ai.dD) (xs:=[.int .i64 k]) rfl ja (by simp[Plain]) (by omega)
       refine ⟨au,w',U,J _ _ ⟨?_,?_,?_⟩⟩
       · exact ((aq.e0 af).trans aG).mono fun k ae bR=>by have:=g_ k bR;omega
       · simpa[BM,sS,aI] using ab
       · intro j aU
         rcases aV j aU with aU|aU
         · exact g_ j aU
         · have:=af.size;omega
     · exact J _ _ ⟨af,by simpa[BM,sS,aI] using ja,g_⟩
   · rintro au w' ⟨Ie,ajp,ajq⟩
     rw[ct (by omega) (by omega)]
     exact ⟨⟨k+1,by omega,by omega,Ie,ajp,ajq⟩,(show ((n:Int)-((k:Int)+1)).toNat<((n:Int)-(k:Int)).toNat by omega)⟩
 · have ze:k=n:=by
     have:¬(k:Int)<n:=by simpa using cn
     omega
   subst ze
   exact ⟨s,rfl,ja,af,g_⟩
end
theorem ajr (w:World) (n:Int):aR Tryz.prog F.BO #[.int .i64 n] w (fun v w'=>v= .bool (decide (1≤n∧n≤1600))∧w=w'):=by
 refine W.ajs n w _ ?_
 unfold W.BO
 refine ⟨?_,rfl⟩
 simp[Bool.decide_and]
theorem ajt (w:World) (n:Nat) (aD:n≤1600):aR Tryz.prog F.BP #[.int .i64 n] w (fun v w'=>v= .int .i64 (((n+7)/8:Nat):Int)∧w=w'):=by
 refine W.aju n w _ ?_
 delta W.BP ay
 refine ⟨by decide,?_,rfl⟩
 rw[ct (n:=(n:Int)+8) (by omega) (by omega),ct (n:=(n:Int)+8-1) (by omega) (by omega),show (n:Int)+8-1=((n+7:Nat):Int) by omega,XD,ct (by omega) (by omega)]
theorem ajv (m:Nat):ku (fun i=>decide (i<0)) m=List.replicate m (.int .u8 0):=by
 apply List.ext_getElem
 · simp[ku]
 · intro i U ab
   simp[ku,byteOf,vX]
theorem ajw (j:Nat):js (fun i=>decide (i<j)) j true=fun i=>decide (i<j+1):=by
 funext i
 unfold js
 split
 · rename_i h;simp[h]
 · rename_i h;simp;omega
theorem xE (w:World) (n first:Int):
   aR Tryz.prog F.xE #[.int .i64 n, .int .i64 first] w (fun v w'=>(¬(1≤n∧n≤1600∧0≤first∧first≤n)∧v= .tuple #[.pointer none, .int .i64 1]∧w=w')∨
     (1≤n∧n≤1600∧0≤first∧first≤n∧∃b s1 s2,v= .tuple #[.pointer (some ⟨b,0,none⟩), .int .i64 0]∧lD w' b n.toNat (fun i=>decide (i<first.toNat)) (fun i=>decide (i<first.toNat)) s1 s2∧Ext w w'∧∀k,rR b s1 s2 k→w.heap.size≤k)):=by
 refine W.ajx n first w _ ?_
 (delta W.xE az aZ aE aS wW ah ar bA ay;dsimp only)
 refine (ajr w n).use ?_
 rintro _ _ ⟨rfl,rfl⟩
 refine ⟨_,rfl,fun h=> .inl ⟨fun al=> ?_,rfl,rfl⟩,fun h=> ?_⟩
 · simp at h;omega
 simp at h
 obtain ⟨⟨⟨ly,nI⟩,pF⟩,pG⟩:=h
 obtain ⟨n,rfl⟩:=Lo (by omega:0≤n)
 obtain ⟨first,rfl⟩:=Lo (by omega:0≤first)
 refine (ajt w n (by omega)).use ?_
 rintro _ _ ⟨rfl,rfl⟩
 refine ⟨_,rfl,by omega,?_⟩
 simp only[g6]
 rw[ajb]
 obtain ⟨m,hm⟩:∃m,m=(n+7)/8:=⟨_,rfl⟩
 rw[←hm]
 have ja:=bU.new (sz:=1) (T:=ai.uint8) w (List.replicate m (.int .u8 0)) m (by simp) (by show m≤2^63-1;omega)
 rw[←ajv] at ja⊢
 have ax:Ext w (w.alloc (.cells (ku (fun i=>decide (i<0)) m).toArray ai.uint8)):=aq.alloc (.refl _ _) _
 generalize vS:w.alloc (.cells (ku (fun i=>decide (i<0)) m).toArray ai.uint8)=ag at*
 have dr:ag.heap.size=w.heap.size+1:=by rw[←vS];simp
 have il:=ck.new ag #[.int .i64 (n:Int), .slice (some ⟨w.heap.size,0,none⟩) m m, .slice none 0 0] ai.BD
 have gK:=aq.alloc ax (.cells #[.int .i64 (n:Int), .slice (some ⟨w.heap.size,0,none⟩) m m, .slice none 0 0] ai.BD)
 have ajy:=ja.ext (aq.alloc (.refl _ ag) (.cells #[.int .i64 (n:Int), .slice (some ⟨w.heap.size,0,none⟩) m m, .slice none 0 0] ai.BD))
 refine ⟨fun i w'=>∃j:Nat,i=j∧j≤first∧Ext w w'∧ck w' ag.heap.size #[.int .i64 (n:Int), .slice (some ⟨w.heap.size,0,none⟩) m m, .slice none 0 0] ai.BD∧
   bU 1 ai.uint8 w' ⟨some ⟨w.heap.size,0,none⟩,m,m⟩ (ku (fun i=>decide (i<j)) m),fun i _=>((first:Int)-i).toNat,⟨0,rfl,by omega,gK,il,ajy⟩,?_⟩
 rintro _ aw ⟨j,rfl,aU,af,gM,tI⟩
 refine ⟨fun a_=> ?_,fun cn=> ?_⟩
 · have Dn:j<first:=by simpa using a_
   refine ⟨_,rfl,⟨some ⟨w.heap.size,0,none⟩,m,m⟩,by rw[bn,gM.cell];rfl,(XF tI (k:=j) (by omega) (by omega)).use ?_⟩
   rintro _ bc ⟨rfl,qV,al⟩
   rw[ajw] at qV
   rw[ct (by omega) (by omega)]
   refine ⟨rfl,⟨j+1,by omega,by omega,?_,gM.an al ?_,qV⟩,(show ((first:Int)-((j:Int)+1)).toNat<((first:Int)-(j:Int)).toNat by omega)⟩
   · exact ((aq.e0 af).trans al).mono fun k ae bR=>by rw[zg] at bR;simp at bR;omega
   · intro bR
     rw[zg] at bR
     simp at bR
     omega
 · have Dn:j=first:=by
     have:¬(j:Int)<first:=by simpa using cn
     omega
   subst Dn
   have D2:∀i,n≤i→decide (i<j)=false:=fun i hi=>by simp;omega
   refine (ajf gM tI (fun k ae e=> ?_) (by omega)).use ?_
   · rw[zg] at ae
     simp at ae
     omega
   rintro _ bc ⟨rfl,vZ,U,ab,ao,aG,aV⟩
   have LR:=gM.lt
   refine ⟨rfl, .inr ⟨by omega,by omega,by omega,by omega,ag.heap.size,⟨some ⟨w.heap.size,0,none⟩,m,m⟩,vZ,rfl,⟨U,?_,?_,fun k ae=>⟨fun e=> ?_,fun dj=> ?_⟩,fun k ae e=> ?_,by omega,by omega,D2,D2⟩,?_,?_⟩⟩
   · simp only[←hm];exact ab
   · simp only[←hm];exact ao
   · rw[zg] at ae
     simp at ae
     omega
   · rw[zg] at ae
     simp at ae
     have:=aV k dj
     omega
   · have:=aV k ae
     omega
   · exact ((aq.e0 af).trans aG).mono fun k ae e=>by omega
   · rintro k (rfl|ae|ae)
     · omega
     · rw[zg] at ae
       simp at ae
       omega
     · have:=aV k ae
       have:=af.size
       omega
end
section
structure aY where
 cl:Nat
 gen:Nat
 root:Nat
 bu:Nat
 C:er
 ez:Nat
 n:Nat
 f:Nat→Bool
 g:Nat→Bool
 s1:ad
 s2:ad
 E:Nat→Prop
 G:Nat→Prop
 P:Nat→Option aL
def aY.dc (T:aY) (E G:Nat→Prop):aY:={T with E:=E,G:=G}
def aY.cJ (T:aY) (C:er) (P:Nat→Option aL):aY:={T with C:=C,P:=P}
def aY.X (T:aY) (q:Nat):Prop:=q=T.cl∨rR T.ez T.s1 T.s2 q∨T.E q∨T.G q
def aY.M (T:aY) (q:Nat):Prop:=iJ T.C q∨T.X q
def aY.N (T:aY) (q:Nat):Prop:=iJ T.C q∨q=T.cl∨rR T.ez T.s1 T.s2 q∨T.G q
theorem aY.lV {T:aY} {q:Nat} (h:T.N q):T.M q:=h.imp id (Or.imp id (Or.imp id .inr))
def sT (gen:Nat) (leaf:Bool) (no:Nat) (l:mV) (n:aL):Prop:=
 ∃p:sy,lv (no:Int) l= .ok p∧p.gen≤gen∧p.kind=(if leaf then 1 else 2)∧wT leaf p.body n
def D3 (T:aY):List Value:=[.pointer (some ⟨T.C.c,0,none⟩), .pointer (some ⟨T.ez,0,none⟩), .int .u64 (T.gen:Nat), .int .i64 (T.root:Nat), .int .i64 (T.bu:Nat)]
structure da (w:World) (T:aY):Prop where
 t:Var w T.cl (D3 T) ai.Gh
 s:lD w T.ez T.n T.f T.g T.s1 T.s2
 qy:mm T.X w T.C
 D4:¬rR T.ez T.s1 T.s2 T.cl
 hE:∀q,T.E q→q≠T.cl∧¬rR T.ez T.s1 T.s2 q∧¬T.G q
 uq:∀q,T.G q→q≠T.cl∧¬rR T.ez T.s1 T.s2 q
 n:T.C.D.n=T.n
 num:T.root<T.n∧T.bu≤12∧T.gen<18446744073709551616
 lE:∀no dU,T.P no=some dU→no<T.n∧sT T.gen dU.leaf no (T.C.view no) dU
structure cp (T av:aY) (w w':World) (k:Nat):Prop where
 cl:av.cl=T.cl
 ez:av.ez=T.ez
 n:av.n=T.n
 g:av.g=T.g
 s1:av.s1=T.s1
 s2:av.s2=T.s2
 c:av.C.c=T.C.c
 d:av.C.D.d=T.C.D.d
 gE:av.C.D.key=T.C.D.key
 gen:av.gen=T.gen
 cS:av.C.D.cS≤T.C.D.cS+k
 calm:∀m,T.C.D.calm (m+k)→av.C.D.calm m
 an:aq T.N w w'
 jK:∀q,av.M q→T.M q∨w.heap.size≤q
 fn:∀q,av.N q→T.N q∨w.heap.size≤q
theorem cp.refl (T:aY) (w:World):cp T T w w 0:=⟨rfl,rfl,rfl,rfl,rfl,rfl,rfl,rfl,rfl,rfl,cU _,fun _ h=>h, .refl _ _,fun _ h=> .inl h,fun _ h=> .inl h⟩
theorem cp.ext {w w':World} (T:aY) (h:Ext w w'):cp T T w w' 0:=⟨rfl,rfl,rfl,rfl,rfl,rfl,rfl,rfl,rfl,rfl,cU _,fun _ h=>h,aq.e0 h,fun _ h=> .inl h,fun _ h=> .inl h⟩
theorem cp.trans {T av v7:aY} {w w' hD:World} {k l:Nat} (U:cp T av w w' k) (ab:cp av v7 w' hD l):cp T v7 w hD (k+l):=by
 have aj:=U.an.size
 refine ⟨ab.cl.trans U.cl,ab.ez.trans U.ez,ab.n.trans U.n,ab.g.trans U.g,ab.s1.trans U.s1,ab.s2.trans U.s2,ab.c.trans U.c,ab.d.trans U.d,ab.gE.trans U.gE,ab.gen.trans U.gen,by have:=U.cS;have:=ab.cS;omega,
   fun m hm=>ab.calm m (U.calm (m+l) (by rw[show m+l+k=m+(k+l) by omega];exact hm)),oT U.an ab.an fun q J h=>(U.fn q h).resolve_right (by omega),fun q J=> ?_,fun q J=> ?_⟩
 · rcases ab.jK q J with h|h
   · exact U.jK q h
   · exact .inr (by omega)
 · rcases ab.fn q J with h|h
   · exact U.fn q h
   · exact .inr (by omega)
theorem cp.mono {T av:aY} {w w':World} {k l:Nat} (h:cp T av w w' k) (aA:k≤l):cp T av w w' l:=
 ⟨h.cl,h.ez,h.n,h.g,h.s1,h.s2,h.c,h.d,h.gE,h.gen,by have:=h.cS;omega,fun m hm=>h.calm m (mD hm (by omega)),h.an,h.jK,h.fn⟩
theorem cp.dU {T av:aY} {w w':World} {k lo:Nat} (h:cp T av w w' k) {n:aL} {K V D:ad} (aD:b4 (fun q=>lo≤q∧¬T.M q) w n K V D):b4 (fun q=>lo≤q∧¬av.M q) w' n K V D:=by
 have U:b4 (fun q=>q<w.heap.size∧lo≤q∧¬T.M q) w n K V D:=aD.bx fun q J aa=>⟨J,aa⟩
 refine (b4.an U h.an fun q J hm=>J.2.2 (aY.lV hm)).bx fun q _ aa=>⟨aa.2.1,fun hm=> ?_⟩
 rcases h.jK q hm with ab|ab
 · exact aa.2.2 ab
 · have:=aa.1;omega
section
variable {w w':World} {T av:aY}
theorem cp.step {W E G:Nat→Prop} {ag:World} {k:Nat} (h:cp T av w ag k) (al:aq W ag w') (c9:∀q,W q→q<w.heap.size→T.N q) (iO:∀q,E q→av.E q∨av.G q∨w.heap.size≤q) (kX:∀q,G q→av.G q∨w.heap.size≤q):cp T (av.dc E G) w w' k:=by
 refine ⟨h.cl,h.ez,h.n,h.g,h.s1,h.s2,h.c,h.d,h.gE,h.gen,h.cS,h.calm,oT h.an al fun q J hw=>c9 q hw J,fun q J=> ?_,fun q J=> ?_⟩
 · rcases J with J|J|J|J|J
   · exact h.jK q (.inl J)
   · exact h.jK q (.inr (.inl J))
   · exact h.jK q (.inr (.inr (.inl J)))
   · rcases iO q J with U|U|U
     · exact h.jK q (.inr (.inr (.inr (.inl U))))
     · exact h.jK q (.inr (.inr (.inr (.inr U))))
     · exact .inr U
   · rcases kX q J with U|U
     · exact h.jK q (.inr (.inr (.inr (.inr U))))
     · exact .inr U
 · rcases J with J|J|J|J
   · exact h.fn q (.inl J)
   · exact h.fn q (.inr (.inl J))
   · exact h.fn q (.inr (.inr (.inl J)))
   · rcases kX q J with U|U
     · exact h.fn q (.inr (.inr (.inr U)))
     · exact .inr U
theorem cp.local {cO sU h_ QZ:Nat→Prop} {ag:World} {k:Nat} (h:cp (T.dc cO h_) av ag w' k) (af:Ext w ag) (kv:∀q,cO q→T.E q∨w.heap.size≤q) (zh:∀q,h_ q→T.G q∨w.heap.size≤q)
   (vh:∀q,sU q→av.E q∨av.G q) (XL:∀q,QZ q→av.G q):cp T (av.dc sU QZ) w w' k:=by
 have b5:cp T (T.dc cO h_) w ag 0:=(cp.ext T (w:=w) (w':=w) (aq.refl _ _)).step (W:=fun _=>False) af (fun _ h=>h.elim) (fun q h=>(kv q h).imp id .inr) zh
 have U:=b5.trans h
 rw[gd] at U
 exact U.step (W:=fun _=>False) (aq.refl _ _) (fun _ h=>h.elim) (fun q h=>(vh q h).imp id .inl) fun q h=> .inl (XL q h)
theorem da.lt (h:da w T) {q:Nat} (J:T.M q):q<w.heap.size:=by
 rcases J with J|J
 · exact h.qy.raw.lt J
 · exact (h.qy.inv.mE q J).1
theorem da.uf (h:da w T) {q:Nat} (J:T.E q):¬T.N q:=by
 rintro (aD|aD|aD|aD)
 · exact (h.qy.inv.mE q (.inr (.inr (.inl J)))).2 aD
 · exact (h.hE q J).1 aD
 · exact (h.hE q J).2.1 aD
 · exact (h.hE q J).2.2 aD
theorem da.ext (h:da w T) (af:Ext w w'):da w' T:=⟨h.t.ext af,h.s.ext af,h.qy.ext af,h.D4,h.hE,h.uq,h.n,h.num,h.lE⟩
theorem mm.grow {X Y W:Nat→Prop} {C:er} (h:mm X w C) (al:aq W w w') (c9:∀q,W q→q<w.heap.size→X q) (XM:∀q,Y q→X q∨(w.heap.size≤q∧q<w'.heap.size)):mm Y w' C:=by
 have og:aq X w w':=oT (W:=X) (aq.refl _ _) al fun q J hw=>c9 q hw J
 refine ⟨h.raw.an og fun q J af=>(h.inv.mE q af).2 J,h.inv.pins,fun f aI k5=> ?_,h.inv.un,fun q J=> ?_⟩
 · obtain ⟨no,aC,aF,aH,aN,cV⟩:=h.inv.ok f aI k5
   have sR:bX (fun q=>q<w.heap.size∧¬iJ C q∧¬X q) w f.b f.l:=bX.bx aH fun q J aa=>⟨J,aa⟩
   refine ⟨no,aC,aF,bX.bx (bX.an sR og fun q J af=>J.2.2 af) fun q _ aa=>⟨aa.2.1,fun b1=> ?_⟩,aN,cV⟩
   rcases XM q b1 with U|U
   · exact aa.2.2 U
   · have:=aa.1;omega
 · rcases XM q J with U|U
   · exact ⟨lP (h.inv.mE q U).1 al.size,(h.inv.mE q U).2⟩
   · exact ⟨U.2,fun aI=>by have:=h.raw.lt aI;omega⟩
theorem da.grow {E G W:Nat→Prop} (h:da w T) (al:aq W w w') (c9:∀q,W q→q<w.heap.size→T.E q∨T.G q) (iO:∀q,E q→T.E q∨T.G q∨(w.heap.size≤q∧q<w'.heap.size)) (kX:∀q,G q→T.E q∨T.G q∨(w.heap.size≤q∧q<w'.heap.size)) (ajz:∀q,E q→¬G q):da w' (T.dc E G):=by
 have MN:∀q,T.E q∨T.G q→q≠T.cl∧¬rR T.ez T.s1 T.s2 q:=fun q J=>by
   rcases J with J|J
   · exact ⟨(h.hE q J).1,(h.hE q J).2.1⟩
   · exact h.uq q J
 have og:aq (fun q=>T.E q∨T.G q) w w':=oT (W:=fun q=>T.E q∨T.G q) (aq.refl _ _) al fun q J hw=>c9 q hw J
 have aD:∀q,T.E q∨T.G q∨(w.heap.size≤q∧q<w'.heap.size)→q≠T.cl∧¬rR T.ez T.s1 T.s2 q:=fun q J=>by
   rcases J with J|J|J
   · exact MN q (.inl J)
   · exact MN q (.inr J)
   · exact ⟨fun e=>by have ab:=h.lt (q:=q) (.inr (.inl e));omega,fun e=>by have ab:=h.lt (q:=q) (.inr (.inr (.inl e)));omega⟩
 have eo:∀q,T.E q∨T.G q∨(w.heap.size≤q∧q<w'.heap.size)→T.X q∨(w.heap.size≤q∧q<w'.heap.size):=fun q J=>by
   rcases J with J|J|J
   · exact .inl (.inr (.inr (.inl J)))
   · exact .inl (.inr (.inr (.inr J)))
   · exact .inr J
 refine ⟨h.t.an og fun e=>(MN _ e).1 rfl,h.s.an og fun q J e=>(MN q e).2 J,h.qy.grow al (fun q J aA=> .inr (.inr (c9 q J aA))) fun q J=> ?_,h.D4,fun q J=>⟨(aD q (iO q J)).1,(aD q (iO q J)).2,ajz q J⟩,fun q J=>aD q (kX q J),h.n,h.num,h.lE⟩
 rcases J with J|J|J|J
 · exact .inl (.inl J)
 · exact .inl (.inr (.inl J))
 · exact eo q (iO q J)
 · exact eo q (kX q J)
theorem da.cells (h:da w T):w.cell? ⟨T.cl,0,none⟩=some (.pointer (some ⟨T.C.c,0,none⟩))∧w.cell? (Addr.add ⟨T.cl,0,none⟩ 1)=some (.pointer (some ⟨T.ez,0,none⟩))∧w.cell? (Addr.add ⟨T.cl,0,none⟩ 2)=some (.int .u64 (T.gen:Nat))∧
   w.cell? (Addr.add ⟨T.cl,0,none⟩ 3)=some (.int .i64 (T.root:Nat))∧w.cell? (Addr.add ⟨T.cl,0,none⟩ 4)=some (.int .i64 (T.bu:Nat)):=by
 rw[bn,bn,bn,bn]
 exact ⟨h.t.cell,h.t.cell,h.t.cell,h.t.cell,h.t.cell⟩
theorem da.ajA (h:da w T) {no:Nat} (dx:no<T.n):(T.C.view no).length=256:=by
 unfold er.view
 cases aI:T.C.aB.find? fun f=>f.full&&f.no==(no:Int) with
 |some f=>
   have U:=C3 aI
   have ab:=Fe aI
   obtain ⟨m,ao⟩:=h.qy.inv.ok f U (by
     have:(f.full&&f.no==(no:Int))=true:=ab
     exact (Bool.and_eq_true_iff.1 this).1)
   exact ao.len
 |none=>exact h.qy.raw.dev.Mx (by rw[h.n];exact dx)
theorem da.Q0 {br:er} {k:Nat} {P:Nat→Option aL} (h:da w T) (mY:mm T.X w' br) (cH:kI T.C br w w' k) (ga:∀no dU,P no=some dU→no<T.n∧sT T.gen dU.leaf no (br.view no) dU):
   da w' (T.cJ br P)∧cp T (T.cJ br P) w w' k:=by
 have af:=h.qy.inv.mE
 have al:=cH.an
 refine ⟨⟨?_,h.s.an al fun q J aI=>(af q (.inr (.inl J))).2 aI,mY,h.D4,h.hE,h.uq,?_,h.num,ga⟩,⟨rfl,rfl,rfl,rfl,rfl,rfl,cH.c,cH.d,cH.gE,rfl,cH.cS,cH.calm,al.mono fun q _ J=> .inl J,?_,?_⟩⟩
 · have:=h.t.an al fun aI=>(af T.cl (.inl rfl)).2 aI
   unfold D3 at this⊢
   rw[←cH.c] at this
   exact this
 · show br.D.n=T.n
   rw[cH.n,h.n]
 · rintro q (J|J)
   · rcases cH.jK q J with U|U
     · exact .inl (.inl U)
     · exact .inr U
   · exact .inl (.inr J)
 · rintro q (J|J)
   · rcases cH.jK q J with U|U
     · exact .inl (.inl U)
     · exact .inr U
   · exact .inl (.inr J)
end
end
section
def ajB (T:aY) (leaf:Bool) (no:Nat) (e:Int):Prop:=
 (e=3∧¬T.C.D.calm 2)∨lv (no:Int) (T.C.view no)= .error e∨(e=4∧(∃p,lv (no:Int) (T.C.view no)= .ok p)∧∀n,¬sT T.gen leaf no (T.C.view no) n)
def D5 (T:aY) (leaf:Bool) (no:Nat) (w:World) (v:Value) (w':World):Prop:=
 ∃br:er,da w' (T.cJ br T.P)∧cp T (T.cJ br T.P) w w' 2∧(∀j,br.view j=T.C.view j)∧
   ((∃ (n:aL) (K V D:ad),v= .tuple #[eC n K V D, .int .i64 0]∧sT T.gen leaf no (T.C.view no) n∧b4 (fun q=>w.heap.size≤q∧¬(T.cJ br T.P).M q) w' n K V D)∨
     (∃e:Int,v= .tuple #[eC oa bP bP bP, .int .i64 e]∧ajB T leaf no e∧e≠0))
theorem XN {no:Int} {l:mV} {e:Int} (h:lv no l= .error e):e≠0:=by
 intro he
 subst he
 unfold lv at h
 repeat' split at h
 all_goals first|(injection h with h;exact absurd h (by decide))|cases h
theorem ajC {no:Int} {l:mV} {p:sy} (h:lv no l= .ok p):p.body.length≤256:=by
 unfold lv at h
 repeat' split at h
 all_goals first|(cases h;done)|skip
 rename_i U _ _ _ _ _
 injection h with h
 rw[←h]
 show (List.take _ (List.drop 24 l)).length≤256
 rw[eA,fx]
 omega
theorem XO {w':World} {h:Nat} {vs:List Value} (n g:Int) (s:ad) (ak:Var w' h vs ai.Ia) (aA:vs.length=3) {K:World→Prop} (bp:∀aw,Var aw h [.int .i64 n, .int .u64 g, .slice s.a s.len s.cap] ai.Ia→aq (fun q=>q=h) w' aw→aw.heap.size=w'.heap.size→K aw):
   cN w' ⟨h,0,none⟩ [.int .i64 n, .int .u64 g, .slice s.a s.len s.cap]∧(3:Nat)=3∧az (setCells w' ⟨h,0,none⟩ 0 [.int .i64 n, .int .u64 g, .slice s.a s.len s.cap]) K:=by
 refine ⟨ak.de (by rw[aA];rfl) ?_,rfl,dW ak (us:=[.int .i64 n, .int .u64 g, .slice s.a s.len s.cap]) (by rw[aA];rfl) rfl bp⟩
 intro v ak
 simp only[fP,mL,mM] at ak
 rcases ak with rfl|rfl|rfl<;>trivial
theorem Q1 {w:World} {T:aY} (h:da w T) (fS:T.C.D.cS≤999999999) {no:Nat} (dx:no<T.n) (leaf:Bool):
   aR Tryz.prog F.q4 #[.pointer (some ⟨T.cl,0,none⟩), .int .i64 ((no:Nat):Int), .bool leaf] w (D5 T leaf no w):=by
 have nI:=h.s.cZ
 have j7:=h.ajA dx
 refine W.ajD (some ⟨T.cl,0,none⟩) ((no:Nat):Int) leaf w _ ?_
 (delta W.q4 c8 fK aE Q2 ah MO bJ ar XP z3 jX bL Ik sV;dsimp only)
 refine cq (vs:=[.bool false, .slice none 0 0, .slice none 0 0, .slice none 0 0]) rfl fun ag n4 bH km=> ?_
 obtain ⟨h_,zh⟩:∃h_,h_=fun q=>T.G q∨q=w.heap.size:=⟨_,rfl⟩
 have XQ:h_ w.heap.size:=by rw[zh];exact .inr rfl
 have Q3:∀q,T.G q→h_ q:=fun q J=>by rw[zh];exact .inl J
 have Q4:∀q,h_ q→T.G q∨q=w.heap.size:=fun q J=>by rw[zh] at J;exact J
 have U:da ag (T.dc T.E h_):=h.grow (W:=fun _=>False) bH (fun _ h=>h.elim) (fun q J=> .inl J) (fun q J=> .inr ((Q4 q J).imp id fun e=>⟨by omega,by omega⟩)) fun q J bg=>by
   rcases Q4 q bg with ab|ab
   · exact (h.hE q J).2.2 ab
   · have:=h.lt (q:=q) (.inr (.inr (.inr (.inl J))));omega
 refine ⟨_,rfl,_,U.cells.1,(aie U.qy fS (no:=no) (by rw[U.n];exact dx)).use ?_⟩
 rintro _ bz ⟨br,mY,cH,ak,eu⟩
 obtain ⟨aG,ajE⟩:=U.Q0 (P:=T.P) mY cH (fun no dU a6=>by rw[ak];exact U.lE no dU a6)
 have Il:=cH.an.size
 have II:Var bz w.heap.size [.bool false, .slice none 0 0, .slice none 0 0, .slice none 0 0] ai.cD:=n4.an cH.an fun aI=>(U.qy.inv.mE _ (.inr (.inr (.inr XQ)))).2 aI
 have fin:∀w':World,aq (fun q=>q=w.heap.size) bz w'→da w' (T.cJ br T.P)∧cp T (T.cJ br T.P) w w' 2:=fun w' al=>by
   refine ⟨aG.grow (E:=T.E) (G:=T.G) al (fun q e _=> .inr (by rw[e];exact XQ)) (fun q J=> .inl J) (fun q J=> .inr (.inl (Q3 q J))) fun q J=>(h.hE q J).2.2,?_⟩
   have aV:=ajE.local bH (fun q J=> .inl J) (fun q J=>(Q4 q J).imp id fun e=>by omega) (sU:=T.E) (QZ:=T.G) (fun q J=> .inl J) Q3
   exact aV.step al (fun q e aA=>by omega) (fun q J=> .inl J) fun q J=> .inl J
 have ajF:∀ {w':World} {n:aL} {K V D:ad} {B:Nat→Prop},b4 (fun q=>bz.heap.size≤q) w' n K V D→b4 (fun q=>w.heap.size≤q∧¬(T.cJ br T.P).M q) w' n K V D:=fun aD=>by
   refine aD.bx fun q _ J=>⟨by omega,fun hm=> ?_⟩
   have:q<bz.heap.size:=aG.lt (q:=q) (by
     rcases hm with hm|hm|hm|hm|hm
     · exact .inl hm
     · exact .inr (.inl hm)
     · exact .inr (.inr (.inl hm))
     · exact .inr (.inr (.inr (.inl hm)))
     · exact .inr (.inr (.inr (.inr (Q3 q hm)))))
   omega
 rcases eu with ⟨s,rfl,aj⟩|⟨rfl,e8⟩
 · refine ⟨s,0,rfl,fun aa=>(by cases aa),fun _=>(w3 aj.1 aj.2.1 (by show (T.C.view no).length≤1000;rw[j7];omega) _).use ?_⟩
   rintro _ cm ⟨D6,iP⟩
   have IG:=II.ext iP
   have P_:=iP.size
   have aW:(T.dc T.E h_).C.view no=T.C.view no:=rfl
   rw[aW] at D6
   cases kx:lv ((no:Nat):Int) (T.C.view no) with
   |error e=>
     rw[kx] at D6
     obtain rfl:=D6
     refine ⟨0,0,⟨none,0,0⟩,e,rfl,cq (vs:=[.int .i64 0, .int .u64 0, .slice none 0 0]) rfl fun dH zi sW D7=> ?_⟩
     refine XO 0 0 ⟨none,0,0⟩ zi rfl fun cE D8 zj Q5=>⟨fun _=> ?_,fun aa=> ?_⟩
     · have MP:Var cE w.heap.size [.bool false, .slice none 0 0, .slice none 0 0, .slice none 0 0] ai.cD:=(IG.ext sW).an zj (by omega)
       refine qm false bP bP bP MP rfl (Q:=fun b K V D aw=>D5 T leaf no w (.tuple #[.agg #[.bool b, .slice K.a K.len K.cap, .slice V.a V.len V.cap, .slice D.a D.len D.cap], .int .i64 e]) aw) fun bT kU=> ?_
       obtain ⟨f1,f2⟩:=fin bT (oT (W:=fun q=>q=w.heap.size) (aq.e0 (Ext.eX (iP.trans sW) zj (by omega))) kU fun q _ e=>e)
       exact ⟨br,f1,f2,ak, .inr ⟨e,rfl, .inr (.inl kx),XN kx⟩⟩
     · have:=XN kx
       simp at aa;omega
   |ok p=>
     rw[kx] at D6
     obtain ⟨au,rfl,lz,g_⟩:=D6
     refine ⟨p.kind,p.gen,au,0,rfl,cq (vs:=[.int .i64 0, .int .u64 0, .slice none 0 0]) rfl fun dH zi sW D7=> ?_⟩
     refine XO p.kind p.gen au zi rfl fun cE D8 zj Q5=>⟨fun aa=>(by cases aa),fun _=>bW ?_⟩
     have MP:Var cE w.heap.size [.bool false, .slice none 0 0, .slice none 0 0, .slice none 0 0] ai.cD:=(IG.ext sW).an zj (by omega)
     have p0:Ext bz cE:=Ext.eX (iP.trans sW) zj (by omega)
     have bS:Ext bz cE.drew:=p0.trans (eR _)
     have vE:Var cE.drew w.heap.size [.bool false, .slice none 0 0, .slice none 0 0, .slice none 0 0] ai.cD:=MP.drew
     have zk:=D8.drew
     have qz:=(aG.ext bS).cells
     obtain ⟨b,aa⟩:∃b,b=cm.heap.size:=⟨_,rfl⟩
     rw[←aa] at zk⊢
     have Q6:cE.drew.cell? ⟨b,0,none⟩=some (.int .i64 (p.kind:Nat)):=zk.cell
     have ir:cE.drew.cell? (Addr.add ⟨b,0,none⟩ 1)=some (.int .u64 (p.gen:Nat)):=by rw[bn];exact zk.cell
     have dB:cE.drew.cell? (Addr.add ⟨b,0,none⟩ 2)=some (.slice au.a au.len au.cap):=by rw[bn];exact zk.cell
     have dr:bz.heap.size≤cE.drew.heap.size:=bS.size
     refine ⟨id,_,ir,_,rfl,id,_,qz.2.2.1,fun bg=> ?_,fun bg=>⟨id,_,Q6,?_⟩⟩
     · have bg:T.gen<p.gen:=by
         have:((p.gen:Nat):Int)>((T.gen:Nat):Int):=di bg
         omega
       refine eI (fun b w'=>b=true∧w'=cE.drew) (fun q J=>⟨fun _=>J _ _ ⟨rfl,rfl⟩,fun h=>by cases h⟩) ?_
       rintro _ _ ⟨rfl,rfl⟩
       refine ⟨fun _=> ?_,fun h=>(by cases h)⟩
       refine qm false bP bP bP vE rfl (Q:=fun b K V D aw=>D5 T leaf no w (.tuple #[.agg #[.bool b, .slice K.a K.len K.cap, .slice V.a V.len V.cap, .slice D.a D.len D.cap], .int .i64 4]) aw) fun bT kU=> ?_
       obtain ⟨f1,f2⟩:=fin bT (oT (W:=fun q=>q=w.heap.size) (aq.e0 bS) kU fun q _ e=>e)
       refine ⟨br,f1,f2,ak, .inr ⟨4,rfl, .inr (.inr ⟨rfl,⟨p,kx⟩,?_⟩),by decide⟩⟩
       rintro n ⟨eg,aC,aF,_⟩
       rw[kx] at aC;cases aC
       omega
     · have bg:p.gen≤T.gen:=by
         have:¬((p.gen:Nat):Int)>((T.gen:Nat):Int):=eB bg
         omega
       refine eI (fun b w'=>w'=cE.drew∧(b=false↔p.kind=(if leaf then 1 else 2))) (fun q J=>⟨fun h=>J _ _ ⟨rfl,?_⟩,fun h=>⟨_,Q6,eI (fun b w'=>w'=cE.drew∧(b=false↔p.kind=(if leaf then 1 else 2))) (fun r aQ=>⟨fun ab=>⟨_,Q6,aQ _ _ ⟨rfl,?_⟩⟩,fun ab=>aQ _ _ ⟨rfl,?_⟩⟩) fun b w' ajG=>J b w' ajG⟩⟩) ?_
       · refine ⟨fun h=>(by cases h),fun ae=> ?_⟩
         rw[ae] at h
         cases leaf<;>simp at h
       · cases leaf
         · simp
           exact Int.ofNat_inj
         · simp at ab h;omega
       · cases leaf
         · simp at ab h;omega
         · simp at ab
           simp
           omega
       rintro iD _ ⟨rfl,ae⟩
       refine ⟨fun aa=> ?_,fun aa=>⟨_,dB,(vf ((lz.ext (Ext.eX sW zj (by omega)|>.trans (eR _))).src) ?_ ?_ ?_ leaf).use ?_⟩⟩
       · refine qm false bP bP bP vE rfl (Q:=fun b K V D aw=>D5 T leaf no w (.tuple #[.agg #[.bool b, .slice K.a K.len K.cap, .slice V.a V.len V.cap, .slice D.a D.len D.cap], .int .i64 4]) aw) fun bT kU=> ?_
         obtain ⟨f1,f2⟩:=fin bT (oT (W:=fun q=>q=w.heap.size) (aq.e0 bS) kU fun q _ e=>e)
         refine ⟨br,f1,f2,ak, .inr ⟨4,rfl, .inr (.inr ⟨rfl,⟨p,kx⟩,?_⟩),by decide⟩⟩
         rintro n ⟨eg,aC,aF,aH,_⟩
         rw[kx] at aC;cases aC
         rw[ae.2 aH] at aa;cases aa
       · exact lz.2.1
       · intro k ae
         have:=bU.lt lz k ae
         have:=sW.size
         show k<cE.heap.size
         omega
       · have:=ajC kx
         omega
       rintro _ mZ ⟨ajH,zl⟩
       have XR:Ext bz mZ:=bS.trans zl
       have MQ:=vE.ext zl
       rcases ajH with ⟨n,K,V,D,rfl,ft,gC⟩|⟨rfl,Q7⟩
       · refine ⟨n.leaf,K,V,D,0,rfl,?_⟩
         refine qm n.leaf K V D MQ rfl (Q:=fun b K V D aw=>D5 T leaf no w (.tuple #[.agg #[.bool b, .slice K.a K.len K.cap, .slice V.a V.len V.cap, .slice D.a D.len D.cap], .int .i64 0]) aw) fun bT kU=> ?_
         obtain ⟨f1,f2⟩:=fin bT (oT (W:=fun q=>q=w.heap.size) (aq.e0 XR) kU fun q _ e=>e)
         refine ⟨br,f1,f2,ak, .inl ⟨n,K,V,D,rfl,⟨p,kx,bg,ae.1 aa,ft⟩,?_⟩⟩
         refine ajF (B:=fun _=>True) (b4.an (gC.bx fun q _ J=> ?_) kU fun q J e=> ?_)
         · omega
         · have:bz.heap.size≤q:=J
           omega
       · refine ⟨false,bP,bP,bP,4,rfl,?_⟩
         refine qm false bP bP bP MQ rfl (Q:=fun b K V D aw=>D5 T leaf no w (.tuple #[.agg #[.bool b, .slice K.a K.len K.cap, .slice V.a V.len V.cap, .slice D.a D.len D.cap], .int .i64 4]) aw) fun bT kU=> ?_
         obtain ⟨f1,f2⟩:=fin bT (oT (W:=fun q=>q=w.heap.size) (aq.e0 XR) kU fun q _ e=>e)
         refine ⟨br,f1,f2,ak, .inr ⟨4,rfl, .inr (.inr ⟨rfl,⟨p,kx⟩,?_⟩),by decide⟩⟩
         rintro n ⟨eg,aC,aF,aH,aN⟩
         rw[kx] at aC;cases aC
         exact Q7 n aN
 · refine ⟨⟨none,0,0⟩,3,rfl,fun _=> ?_,fun aa=>(by cases aa)⟩
   refine qm false bP bP bP II rfl (Q:=fun b K V D aw=>D5 T leaf no w (.tuple #[.agg #[.bool b, .slice K.a K.len K.cap, .slice V.a V.len V.cap, .slice D.a D.len D.cap], .int .i64 3]) aw) fun bT kU=> ?_
   obtain ⟨f1,f2⟩:=fin bT kU
   exact ⟨br,f1,f2,ak, .inr ⟨3,rfl, .inl ⟨rfl,e8⟩,by decide⟩⟩
end
section
structure fL where
 no:Nat
 n:aL
 ew:Nat
 K:ad
 V:ad
 D:ad
def fL.c (s:fL):List Value:=[.int .i64 (s.no:Nat), .bool s.n.leaf, .slice s.K.a s.K.len s.K.cap, .slice s.V.a s.V.len s.V.cap, .slice s.D.a s.D.len s.D.cap, .int .i64 (s.ew:Nat)]
def fL.st (s:fL):Nat×aL×Nat:=(s.no,s.n,s.ew)
theorem BQ (l:List fL):∀x∈l,(fL.c x).length=6:=fun _ _=>rfl
structure sX (B:Nat→Prop) (w:World) (s:ad) (l:List fL):Prop where
 own:bU 6 ai.sY w s (dn fL.c l)
 D9:∀q,aP s q→B q
 dU:∀x∈l,b4 B w x.n x.K x.V x.D
def BR (P:Nat→Option aL) (k:Key):Nat→Nat→List (Nat×aL×Nat)→Prop
 |0,_,l=>l=[]
 |h+1,no,l=>∃n rest,P no=some n∧n.leaf=decide (h=0)∧l=(no,n,if h=0 then 0 else fi n.keys k)::rest∧BR P k h (n.kids.getD (fi n.keys k) 0) rest
theorem BR.length {P:Nat→Option aL} {k:Key}:∀ {h no:Nat} {l:List (Nat×aL×Nat)},BR P k h no l→l.length=h
 |0,_,_,h=>by rw[h];rfl
 |h+1,_,_,⟨n,rest,_,_,ao,aG⟩=>by rw[ao,iV,BR.length aG]
theorem sT.uniq {gen no:Nat} {leaf:Bool} {l:mV} {n m:aL} (U:sT gen leaf no l n) (ab:sT gen leaf no l m):n=m:=by
 obtain ⟨p,a8,cQ,a3,a4⟩:=U
 obtain ⟨q,c5,cA,ek,e9⟩:=ab
 rw[a8] at c5
 cases c5
 exact wT.uniq a4 e9
theorem sT.is {gen no:Nat} {leaf:Bool} {l:mV} {n:aL} (h:sT gen leaf no l n):n.leaf=leaf∧dC n∧cd n≤232:=by
 obtain ⟨p,_,_,_,a⟩:=h
 exact ⟨a.2.1,a.1,a.2.2.1⟩
theorem dC.jk {n:aL} (h:dC n):n.keys.Pairwise cw:=by
 rcases h with h|h
 · exact h.jk
 · exact h.jk
def ajI (T:aY) (steps:List (Nat×aL×Nat)) (w:World) (v:Value) (w':World):Prop:=
 ∃br:er,da w' (T.cJ br T.P)∧cp T (T.cJ br T.P) w w' (2*T.bu)∧(∀j,br.view j=T.C.view j)∧
   ((∃ (s:ad) (l:List fL),v= .tuple #[.slice s.a s.len s.cap, .int .i64 0]∧l.map fL.st=steps∧sX (fun q=>w.heap.size≤q∧¬(T.cJ br T.P).M q) w' s l)∨(v= .tuple #[.slice none 0 0, .int .i64 3]∧¬T.C.D.calm (2*T.bu)))
theorem ajJ (w:World) (cs:Array Value) (h:cs.size=6):Sem.run Tryz.prog (Instr.buildSlice ai.D_ 1 #[(0, .agg cs)]) w= .ok (.slice (some ⟨w.heap.size,0,none⟩) 1 1) (w.alloc (.cells cs ai.sY)):=by
 have b5:((Tryz.prog.info? ai.sY).bind (·.zero)).isSome=true:=by kernel_rfl
 obtain ⟨z,bD⟩:=AF.1 b5
 obtain ⟨i,hi,sJ⟩:=I3 bD
 have U:(Tryz.prog.underlying ai.sY).isSome=true:=by kernel_rfl
 obtain ⟨d,hd⟩:=AF.1 U
 exact Qz (sz:=6) w (by kernel_rfl) hd (by kernel_rfl) hi sJ h (by decide) (by decide)
theorem ajK:qj Tryz.prog ai.D_ ai.sY 6 96:=⟨by kernel_rfl⟩
end
section
theorem Q8 {h:Nat} {n:aL} (c0:n.leaf=decide (h=0)):((((h+1:Nat):Int):Int)==1)=n.leaf:=by
 rw[c0,o6,yq,fY]
 omega
theorem Q9 {w:World} {T:aY} {aK:ad} {k:Key} {steps:List (Nat×aL×Nat)} (h:da w T) (fS:T.C.D.cS≤900000000) (ae:Src 1 w aK (bm k)) (oV:∀q,aP aK q→q<w.heap.size∧¬T.M q) (hw:BR T.P k T.bu T.root steps):
   aR Tryz.prog F.xF #[.pointer (some ⟨T.cl,0,none⟩), .slice aK.a aK.len aK.cap] w (ajI T steps w):=by
 have cK:=h.num.2.1
 refine W.ajL (some ⟨T.cl,0,none⟩) aK w _ ?_
 (delta W.xF bL aE sV c8 ah bJ ar BS aS st aX ay;dsimp only)
 refine ⟨_,rfl,_,h.cells.2.2.2.1,_,rfl,_,h.cells.2.2.2.2,fun s n8 n9 w'=>∃ (iv no:Nat) (l:List fL) (rest:List (Nat×aL×Nat)) (cO:Nat→Prop) (br:er),n9=(iv:Nat)∧n8=(no:Nat)∧BR T.P k iv no rest∧l.map fL.st++rest=steps∧l.length+iv=T.bu∧
   cO=(fun q=>T.E q∨aP s q)∧(∀q,aP s q→w.heap.size≤q)∧da w' ((T.dc cO T.G).cJ br T.P)∧cp T ((T.dc cO T.G).cJ br T.P) w w' (2*l.length)∧(∀j,br.view j=T.C.view j)∧bU 6 ai.sY w' s (dn fL.c l)∧
   ∀x∈l,b4 (fun q=>w.heap.size≤q∧¬((T.dc cO T.G).cJ br T.P).M q) w' x.n x.K x.V x.D,fun _ _ n9 _=>n9.toNat,?_,?_⟩
 · have iO:T.E=fun q=>T.E q∨aP ⟨none,0,0⟩ q:=by
     funext q
     refine propext ⟨.inl,fun h=>h.resolve_right ?_⟩
     rintro ⟨A,ax,_⟩
     cases ax
   have Gi:(T.dc T.E T.G).cJ T.C T.P=T:=rfl
   refine ⟨T.bu,T.root,[],steps,T.E,T.C,rfl,rfl,hw,rfl,by simp,iO,?_,by rw[Gi];exact h,by rw[Gi];exact .refl _ _,fun _=>rfl,?_,fun x af=>(by cases af)⟩
   · rintro q ⟨A,ax,_⟩
     cases ax
   · exact ⟨rfl,cU _,by decide, .inl ⟨rfl,rfl⟩⟩
 have fin:∀ {w':World} {cO:Nat→Prop} {br:er} {s:ad} {k:Nat},da w' ((T.dc cO T.G).cJ br T.P)→cp T ((T.dc cO T.G).cJ br T.P) w w' k→cO=(fun q=>T.E q∨aP s q)→(∀q,aP s q→w.heap.size≤q)→da w' (T.cJ br T.P)∧cp T (T.cJ br T.P) w w' k:=by
   intro w' cO br s k U ab ao aG
   have Gj:∀q,T.E q→cO q:=fun q J=>by rw[ao];exact .inl J
   exact ⟨U.grow (W:=fun _=>False) (E:=T.E) (G:=T.G) (aq.refl _ _) (fun _ h=>h.elim) (fun q J=> .inl (Gj q J)) (fun q J=> .inr (.inl J)) fun q J=>(h.hE q J).2.2,
     ab.step (W:=fun _=>False) (aq.refl _ _) (fun _ h=>h.elim) (fun q J=> .inl (Gj q J)) fun q J=> .inl J⟩
 rintro s _ _ cj ⟨iv,no,l,rest,cO,a7,rfl,rfl,Ea,gN,hlen,kv,yH,bh,cH,ak,ja,gC⟩
 have ajM:=cH.an.size
 refine ⟨fun a_=> ?_,fun cn=> ?_⟩
 · obtain ⟨rS,rfl⟩:∃o_,iv=o_+1:=⟨iv-1,by have:((iv:Nat):Int)>0:=di a_;omega⟩
   obtain ⟨n,gS,a6,c0,rfl,XS⟩:=Ea
   obtain ⟨dx,kx⟩:=bh.lE no n a6
   have Gc:a7.D.cS≤999999999:=by
     have:a7.D.cS≤T.C.D.cS+2*l.length:=cH.cS
     omega
   refine (Q1 bh Gc dx _).use ?_
   rintro _ bZ ⟨Eb,ab,mQ,f_,eu⟩
   have Q_:=cH.trans mQ
   have dr:=mQ.an.size
   rw[Q8 c0] at eu
   rcases eu with ⟨cZ,K,V,D,rfl,Gk,Ra⟩|⟨e,rfl,Ja,dI⟩
   · obtain rfl:=sT.uniq kx Gk
     obtain ⟨_,qw,ar5⟩:=kx.is
     have ur:=qw.jk
     have xG:=LI qw
     refine ⟨n.leaf,K,V,D,0,rfl,cq (vs:=[.bool false, .slice none 0 0, .slice none 0 0, .slice none 0 0]) rfl fun ef Ec xH Rb=> ?_⟩
     refine ⟨Ec.de rfl ?_,rfl,dW Ec (us:=[.bool n.leaf, .slice K.a K.len K.cap, .slice V.a V.len V.cap, .slice D.a D.len D.cap]) rfl rfl fun dH zi Ed D7=>⟨fun aa=>(by cases aa),fun _=> ?_⟩⟩
     · intro v ak
       simp only[fP,mL,mM] at ak
       rcases ak with rfl|rfl|rfl|rfl<;>trivial
     have sW:Ext bZ dH:=Ext.eX xH Ed (cU _)
     have ar6:=sW.size
     obtain ⟨cy,aS,bA,aZ⟩:=b9 zi
     refine ⟨_,cy,K,aS,V,bA,D,aZ, #[.int .i64 (no:Nat), .bool n.leaf, .slice K.a K.len K.cap, .slice V.a V.len V.cap, .slice D.a D.len D.cap, .int .i64 0],by kernel_rfl,?_⟩
     refine cq (vs:=[.int .i64 0, .bool false, .slice none 0 0, .slice none 0 0, .slice none 0 0, .int .i64 0]) rfl fun fv zm Ee ajN=> ?_
     refine ⟨zm.de rfl ?_,rfl,dW zm (us:=[.int .i64 (no:Nat), .bool n.leaf, .slice K.a K.len K.cap, .slice V.a V.len V.cap, .slice D.a D.len D.cap, .int .i64 0]) rfl rfl fun cT Rc XT ar7=> ?_⟩
     · intro v ak
       simp only[fP,mL,mM] at ak
       rcases ak with rfl|rfl|rfl|rfl|rfl|rfl<;>trivial
     have MR:Ext bZ cT:=Ext.eX (sW.trans Ee) XT (by omega)
     have Re:Var cT bZ.heap.size [.bool n.leaf, .slice K.a K.len K.cap, .slice V.a V.len V.cap, .slice D.a D.len D.cap] ai.cD:=(zi.ext Ee).an XT (by omega)
     obtain ⟨ez,ajO⟩:∃ez,ez=dH.heap.size:=⟨_,rfl⟩
     obtain ⟨bB,kC⟩:∃bB,bB=bZ.heap.size:=⟨_,rfl⟩
     rw[←ajO] at Rc⊢
     rw[←kC] at Re⊢
     have ajP:=Ra.ext MR
     refine eI (fun n40 dO=>n40=(((if rS=0 then no else n.kids.getD (fi n.keys k) 0:Nat)):Int)∧Ext bZ dO∧Var dO ez (fL.c ⟨no,n,if rS=0 then 0 else fi n.keys k,K,V,D⟩) ai.sY) (fun q J=>⟨fun aA=> ?_,fun aA=> ?_⟩) ?_
     · have rT:rS≠0:=by
         have:((rS+1:Nat):Int)>1:=di aA
         omega
       have XU:n.leaf=false:=by rw[c0];simp[rT]
       have fI:=qw.FK XU
       have kt:=Lu n.keys k
       obtain ⟨cy,aS,bA,aZ⟩:=b9 Re
       have ajQ:Src 1 cT aK (bm k):=(ae.an Q_.an fun q J aD=>(oV q J).2 (aY.lV aD)).ext MR
       refine ⟨_,cy,K,aS,V,bA,D,aZ,(tY ajP ajQ ur (by omega)).use ?_⟩
       rintro _ iK ⟨rfl,Jb⟩
       have XV:=Rc.ext Jb
       obtain ⟨aC,aF⟩:=jI XV (i:=5) (by simp)
       rw[bn]
       refine ⟨_,rfl,aC,aF,bW ?_⟩
       have eY:=iq iK ez 5 (.int .i64 ((fi n.keys k:Nat):Int))
       have XW:=jH XV (i:=5) (.int .i64 ((fi n.keys k:Nat):Int))
       have XX:Ext bZ (iK.setCell ⟨ez,5,none⟩ (.int .i64 ((fi n.keys k:Nat):Int))):=Ext.eX (MR.trans Jb) eY (by omega)
       have ajR:=(Re.ext Jb).an eY (by omega)
       obtain ⟨d0,d1,d2,d3⟩:=b9 ajR
       obtain ⟨A,ax,aa,kA⟩:=dJ.at (Ra.ext XX).kids (i:=fi n.keys k) (by omega)
       refine ⟨D,d3,_,XW.cell,A,ax,aa,_,kA,J _ _ ⟨?_,XX,?_⟩⟩
       · rw[if_neg rT,oy,gq (by omega)];rfl
       · rw[if_neg rT]
         exact XW
     · have rT:rS=0:=by
         have:¬((rS+1:Nat):Int)>1:=eB aA
         omega
       refine J _ _ ⟨by rw[if_pos rT],MR,?_⟩
       rw[if_pos rT]
       exact Rc
     rintro _ dO ⟨rfl,MS,MT⟩
     have ar8:=MS.size
     refine ⟨_,MT.rd rfl,⟨some ⟨dO.heap.size,0,none⟩,1,1⟩,_,ajJ _ _ rfl,?_⟩
     have mg:=im dO (.cells (fL.c ⟨no,n,if rS=0 then 0 else fi n.keys k,K,V,D⟩).toArray ai.sY)
     have zl:=MS.trans mg
     have MQ:=zl.size
     have ajS:=mg.size
     have fR:=ja.1
     rw[oR _ (BQ l)] at fR
     have Jc:∀q,aP s q→cO q:=fun q J=>by rw[kv];exact .inr J
     have ajT:bU 6 ai.sY bZ s (dn fL.c l):=ja.an mQ.an fun q J hm=>bh.uf (Jc q J) hm
     obtain ⟨x,kV⟩:∃x:fL,x=⟨no,n,if rS=0 then 0 else fi n.keys k,K,V,D⟩:=⟨_,rfl⟩
     rw[←kV] at mg zl MQ ajS⊢
     have wX:∀v∈fL.c x,Plain v:=by
       intro v ak
       unfold fL.c at ak
       simp only[fP,mL,mM] at ak
       rcases ak with rfl|rfl|rfl|rfl|rfl|rfl<;>trivial
     obtain ⟨au,kg,a8,cQ,a3,a4,a5⟩:=ajK.append (gX:=ai.D_) (x:=⟨some ⟨dO.heap.size,0,none⟩,1,1⟩) (Src.new (T:=ai.sY) dO (fL.c x) 1 rfl) (ajT.ext zl) wX (by show (2*(s.len+1)+1000)*96≤_;omega)
     have ajU:=a4.size
     have lz:∀q,aP au q→w.heap.size≤q:=fun q J=>by
       rcases a5 q J with U|U
       · exact yH q U
       · omega
     obtain ⟨sU,vh⟩:∃sU,sU=fun q=>T.E q∨aP au q:=⟨_,rfl⟩
     have MU:∀q,sU q→T.E q∨aP au q:=fun q J=>by rw[vh] at J;exact J
     have Gj:∀q,T.E q→cO q:=fun q J=>by rw[kv];exact .inl J
     have nk:dn fL.c (l++ [x])=dn fL.c l++fL.c x:=by rw[F3];simp[dn]
     have ajV:da kg ((T.dc sU T.G).cJ Eb T.P):=by
       refine (ab.ext zl).grow (E:=sU) (G:=T.G) a4 (fun q J _=> .inl (Jc q J)) (fun q J=> ?_) (fun q J=> .inr (.inl J)) fun q J bg=> ?_
       · rcases MU q J with U|U
         · exact .inl (Gj q U)
         · rcases a5 q U with ao|ao
           · exact .inl (Jc q ao)
           · exact .inr (.inr ⟨ao,bU.lt cQ q U⟩)
       · rcases MU q J with U|U
         · exact (h.hE q U).2.2 bg
         · have ao:=h.lt (q:=q) (.inr (.inr (.inr (.inr bg))))
           have:=lz q U
           omega
     have ajW:cp T ((T.dc sU T.G).cJ Eb T.P) w kg (2*(l++ [x]).length):=by
       have U:=(Q_.trans (cp.ext _ zl)).mono (l:=2*(l++ [x]).length) (by rw[dA,qP];omega)
       refine U.step (E:=sU) (G:=T.G) a4 (fun q J aA=>by have:=yH q J;omega) (fun q J=> ?_) fun q J=> .inl J
       rcases MU q J with U|U
       · exact .inl (Gj q U)
       · exact .inr (.inr (lz q U))
     have XY:∀ {m:aL} {K V D:ad},b4 (fun q=>w.heap.size≤q∧¬((T.dc cO T.G).cJ Eb T.P).M q) bZ m K V D→b4 (fun q=>w.heap.size≤q∧¬((T.dc sU T.G).cJ Eb T.P).M q) kg m K V D:=fun {m K V D} hm=>by
       have U:=(hm.ext zl).bx (C:=fun q=>q<(dO.alloc (.cells (fL.c x).toArray ai.sY)).heap.size∧w.heap.size≤q∧¬((T.dc cO T.G).cJ Eb T.P).M q) fun q J aa=>⟨J,aa⟩
       refine (b4.an U a4 fun q J bR=>J.2.2 (.inr (.inr (.inr (.inl (Jc q bR)))))).bx fun q _ aa=>⟨aa.2.1,fun hm=>aa.2.2 ?_⟩
       rcases hm with hm|hm|hm|hm|hm
       · exact .inl hm
       · exact .inr (.inl hm)
       · exact .inr (.inr (.inl hm))
       · refine .inr (.inr (.inr (.inl ?_)))
         show cO q
         rcases MU q hm with ao|ao
         · exact Gj q ao
         · rcases a5 q ao with aG|aG
           · exact Jc q aG
           · have:=aa.1;omega
       · exact .inr (.inr (.inr (.inr hm)))
     have nP:IntKind.wrap .i64 (((rS+1:Nat):Int)-1)=(rS:Nat):=by rw[ct (by omega) (by omega)];omega
     refine ⟨au,kg,a8,⟨rS,_,l++ [x],gS,sU,Eb,nP,rfl,?_,?_,by rw[dA,qP];omega,vh,lz,ajV,ajW,fun j=>(f_ j).trans (ak j),by rw[nk];exact cQ,?_⟩,?_⟩
     · cases rS with
       |zero=>exact XS
       |succ m=>rw[if_neg (by omega)];exact XS
     · rw[←gN,m9,d_,kV];rfl
     · intro y b1
       rcases eH.1 b1 with b1|b1
       · exact XY (mQ.dU (gC y b1))
       · obtain rfl:=lN.1 b1
         subst kV
         exact XY (Ra.bx fun q _ aa=>⟨by have:=aa.1;omega,aa.2⟩)
     · rw[nP]
       show ((rS:Nat):Int).toNat<(((rS+1:Nat):Int)).toNat
       omega
   · refine ⟨false,bP,bP,bP,e,rfl,cq (vs:=[.bool false, .slice none 0 0, .slice none 0 0, .slice none 0 0]) rfl fun ef Ec xH Rb=> ?_⟩
     refine ⟨Ec.de rfl ?_,rfl,dW Ec (us:=[.bool false, .slice none 0 0, .slice none 0 0, .slice none 0 0]) rfl rfl fun dH zi Ed D7=>⟨fun _=> ?_,fun aa=> ?_⟩⟩
     · intro v ak
       simp only[fP,mL,mM] at ak
       rcases ak with rfl|rfl|rfl|rfl<;>trivial
     · have af:Ext bZ dH:=Ext.eX xH Ed (cU _)
       have he:e=3∧¬a7.D.calm 2:=by
         rcases Ja with U|U|⟨_,_,U⟩
         · exact U
         · obtain ⟨p,aC,_⟩:=kx
           rw[aC] at U;cases U
         · exact absurd kx (U n)
       obtain ⟨rfl,e8⟩:=he
       obtain ⟨ao,aG⟩:=fin (k:=2*T.bu) (ab.ext af) ((Q_.trans (cp.ext _ af)).mono (by omega)) kv yH
       exact ⟨Eb,ao,aG,fun j=>(f_ j).trans (ak j), .inr ⟨rfl,fun al=>e8 (cH.calm 2 (mD al (by omega)))⟩⟩
     · simp at aa;exact absurd aa dI
 · have b5:iv=0:=by
     have:¬((iv:Nat):Int)>0:=eB cn
     omega
   subst b5
   have aQ:rest=[]:=Ea
   subst aQ
   obtain ⟨ao,aG⟩:=fin (k:=2*T.bu) bh (cH.mono (by omega)) kv yH
   refine ⟨a7,ao,aG,ak, .inl ⟨s,l,rfl,by rw[←gN,lM],ja,fun q J=>⟨yH q J,fun hm=> ?_⟩,fun x af=> ?_⟩⟩
   · have jn:=yH q J
     have MV:cO q:=by rw[kv];exact .inr J
     rcases hm with hm|hm|hm|hm|hm
     · exact (bh.qy.inv.mE q (.inr (.inr (.inl MV)))).2 hm
     · exact (bh.hE q MV).1 hm
     · exact (bh.hE q MV).2.1 hm
     · have:=h.lt (q:=q) (.inr (.inr (.inr (.inl hm))));omega
     · exact (bh.hE q MV).2.2 hm
   · refine (gC x af).bx fun q _ aa=>⟨aa.1,fun hm=>aa.2 ?_⟩
     rcases hm with hm|hm|hm|hm|hm
     · exact .inl hm
     · exact .inr (.inl hm)
     · exact .inr (.inr (.inl hm))
     · refine .inr (.inr (.inr (.inl ?_)))
       show cO q
       rw[kv];exact .inl hm
     · exact .inr (.inr (.inr (.inr hm)))
end
section
def aY.Gl (T:aY) (f:Nat→Bool):aY:={T with f:=f}
structure fT where
 c4:Nat
 mF:ad
 k7:ad
 made:List Nat
 left:List Nat
structure fk (w:World) (T:aY) (c:fT):Prop where
 t:da w T
 v:Var w c.c4 [.pointer (some ⟨T.cl,0,none⟩), .slice c.mF.a c.mF.len c.mF.cap, .slice c.k7.a c.k7.len c.k7.cap] ai.XZ
 mF:bU 1 ai.int w c.mF (gg c.made)
 k7:bU 1 ai.int w c.k7 (gg c.left)
 gc:T.G c.c4
 rU:∀q,aP c.mF q→T.G q∧q≠c.c4∧¬aP c.k7 q
 uu:∀q,aP c.k7 q→T.G q∧q≠c.c4
theorem Rf {w:World} {s:ad} {ds:List Nat} (d:Nat) (ja:bU 1 ai.int w s (gg ds)) (aD:ds.length≤1000000):
   ∃ (au:ad) (w':World),Sem.run Tryz.prog (Builtin.append_ #[ai.dD,ai.dD] ai.dD #[.slice s.a s.len s.cap, .slice (some ⟨w.heap.size,0,none⟩) 1 1]) (w.alloc (.cells #[.int .i64 ((d:Nat):Int)] ai.int))= .ok (.slice au.a au.len au.cap) w'∧
     bU 1 ai.int w' au (gg (ds++ [d]))∧aq (aP s) w w'∧(∀k,aP au k→aP s k∨w.heap.size≤k)∧aq (aP s) (w.alloc (.cells #[.int .i64 ((d:Nat):Int)] ai.int)) w':=by
 have fR:s.len=ds.length:=by have:=ja.1;rw[yI] at this;omega
 have al:Ext w (w.alloc (.cells #[.int .i64 ((d:Nat):Int)] ai.int)):=im _ _
 have bD:(w.alloc (.cells #[.int .i64 ((d:Nat):Int)] ai.int)).heap.size=w.heap.size+1:=Dt _ _
 obtain ⟨au,w',U,ab,ao,aG,aV⟩:=Ic.append (gX:=ai.dD) (x:=⟨some ⟨w.heap.size,0,none⟩,1,1⟩) (Src.new (T:=ai.int) w [.int .i64 ((d:Nat):Int)] 1 rfl) (ja.ext al) (fun v ak=>by rw[lN.1 ak];trivial) (by show (2*(s.len+1)+1000)*8≤_;omega)
 exact ⟨au,w',U,by simpa[gg] using ab,(aq.e0 al).trans aG,fun k ae=>(aV k ae).imp id (fun h=>by omega),aG⟩
section
variable {w w':World} {T av:aY} {c:fT}
theorem fk.of {W:Nat→Prop} (h:fk w T c) (bh:da w' av) (al:aq W w w') (c9:∀q,T.G q→¬W q) (p1:av.cl=T.cl) (kX:∀q,T.G q→av.G q):fk w' av c:=
 ⟨bh,by rw[p1];exact h.v.an al (c9 _ h.gc),h.mF.an al fun q J=>c9 q (h.rU q J).1,h.k7.an al fun q J=>c9 q (h.uu q J).1,kX _ h.gc,fun q J=>⟨kX q (h.rU q J).1,(h.rU q J).2⟩,fun q J=>⟨kX q (h.uu q J).1,(h.uu q J).2⟩⟩
theorem fk.ext (h:fk w T c) (af:Ext w w'):fk w' T c:=h.of (h.t.ext af) af (fun _ _ h=>h) rfl fun _ h=>h
theorem fk.cells (h:fk w T c):w.cell? ⟨c.c4,0,none⟩=some (.pointer (some ⟨T.cl,0,none⟩))∧w.cell? (Addr.add ⟨c.c4,0,none⟩ 1)=some (.slice c.mF.a c.mF.len c.mF.cap)∧w.cell? (Addr.add ⟨c.c4,0,none⟩ 2)=some (.slice c.k7.a c.k7.len c.k7.cap):=by
 rw[bn,bn]
 exact ⟨h.v.cell,h.v.cell,h.v.cell⟩
theorem da.Jd (h:da w T) {q:Nat} (J:T.G q):¬iJ T.C q:=fun aI=>(h.qy.inv.mE q (.inr (.inr (.inr J)))).2 aI
theorem da.X0 {f:Nat→Bool} (h:da w T) (aj:lD w' T.ez T.n f T.g T.s1 T.s2) (al:aq (rR T.ez T.s1 T.s2) w w'):da w' (T.Gl f)∧cp T (T.Gl f) w w' 0:=
 ⟨⟨h.t.an al h.D4,aj,h.qy.an al fun q J=> .inr (.inl J),h.D4,h.hE,h.uq,h.n,h.num,h.lE⟩,
   ⟨rfl,rfl,rfl,rfl,rfl,rfl,rfl,rfl,rfl,rfl,cU _,fun _ h=>h,al.mono fun q _ J=> .inr (.inr (.inl J)),fun q h=> .inl h,fun q h=> .inl h⟩⟩
theorem ajX (h:fk w T c) (no:Nat) (aA:c.made.length≤100000):
   ∃ (au:ad) (aw:World),Sem.run Tryz.prog (Builtin.append_ #[ai.dD,ai.dD] ai.dD #[.slice c.mF.a c.mF.len c.mF.cap, .slice (some ⟨w.heap.size,0,none⟩) 1 1]) (w.alloc (.cells #[.int .i64 ((no:Nat):Int)] ai.int))= .ok (.slice au.a au.len au.cap) aw∧
     aq (aP c.mF) (w.alloc (.cells #[.int .i64 ((no:Nat):Int)] ai.int)) aw∧(∃u:Value,aw.cell? ⟨c.c4,1,none⟩=some u)∧aw.frozen? ⟨c.c4,1,none⟩=false∧
     ∀bc,bc=aw.setCell ⟨c.c4,1,none⟩ (.slice au.a au.len au.cap)→fk bc (T.dc T.E fun q=>T.G q∨aP au q) {c with mF:=au,made:=c.made++ [no]}∧cp T (T.dc T.E fun q=>T.G q∨aP au q) w bc 0:=by
 obtain ⟨au,aw,aC,aF,aN,cV,sR⟩:=Rf no h.mF (by omega)
 have c9:∀q,aP c.mF q→T.G q:=fun q J=>(h.rU q J).1
 have dr:=aN.size
 have f_:=h.v.an aN fun J=>(h.rU _ J).2.1 rfl
 obtain ⟨ej,eO⟩:=jI f_ (i:=1) (by simp)
 refine ⟨au,aw,aC,sR,ej,eO,?_⟩
 rintro _ rfl
 have eY:=iq aw c.c4 1 (.slice au.a au.len au.cap)
 have mj:=jH f_ (i:=1) (.slice au.a au.len au.cap)
 have jo:aq T.G w (aw.setCell ⟨c.c4,1,none⟩ (.slice au.a au.len au.cap)):=oT (aN.mono fun q _ J=>c9 q J) eY fun q _ e=>by rw[e];exact h.gc
 have ajY:=jo.size
 have a_:∀q,aP au q→q<aw.heap.size:=fun q J=>bU.lt aF q J
 have mA:∀q,aP au q→T.G q∨(w.heap.size≤q∧q<(aw.setCell ⟨c.c4,1,none⟩ (.slice au.a au.len au.cap)).heap.size):=fun q J=>by
   rcases cV q J with U|U
   · exact .inl (c9 q U)
   · exact .inr ⟨U,by have:=a_ q J;have:=eY.size;omega⟩
 have qA:∀q,aP au q→q≠c.c4:=fun q J e=>by
   rcases cV q J with U|U
   · exact (h.rU q U).2.1 e
   · have:=h.v.lt;omega
 have c0:∀q,aP au q→¬aP c.k7 q:=fun q J e=>by
   rcases cV q J with U|U
   · exact (h.rU q U).2.2 e
   · have:=bU.lt h.k7 q e;omega
 have bh:=h.t.grow (E:=T.E) (G:=fun q=>T.G q∨aP au q) jo (fun q J _=> .inr J) (fun q J=> .inl J) (fun q J=>by
   rcases J with J|J
   · exact .inr (.inl J)
   · exact .inr (mA q J)) fun q J bg=>by
   rcases bg with bg|bg
   · exact (h.t.hE q J).2.2 bg
   · rcases cV q bg with U|U
     · exact (h.t.hE q J).2.2 (c9 q U)
     · have:=h.t.lt (q:=q) (.inr (.inr (.inr (.inl J))));omega
 refine ⟨⟨bh,mj,?_,(h.k7.an aN fun q J e=>(h.rU q e).2.2 J).an eY fun q J e=>(h.uu q J).2 e, .inl h.gc,fun q J=>⟨.inr J,qA q J,c0 q J⟩,fun q J=>⟨.inl (h.uu q J).1,(h.uu q J).2⟩⟩,?_⟩
 · have:bU 1 ai.int aw au (gg (c.made++ [no])):=aF
   exact this.an eY fun q J e=>qA q J e
 · have b5:cp T T w w 0:= .refl _ _
   exact b5.step jo (fun q J _=> .inr (.inr (.inr J))) (fun q J=> .inl J) fun q J=>by
     rcases J with J|J
     · exact .inl J
     · exact (mA q J).imp id fun e=>e.1
theorem X1 (h:fk w T c) (no:Nat) (aA:c.left.length≤100000):
   ∃ (au:ad) (aw:World),Sem.run Tryz.prog (Builtin.append_ #[ai.dD,ai.dD] ai.dD #[.slice c.k7.a c.k7.len c.k7.cap, .slice (some ⟨w.heap.size,0,none⟩) 1 1]) (w.alloc (.cells #[.int .i64 ((no:Nat):Int)] ai.int))= .ok (.slice au.a au.len au.cap) aw∧
     aq (aP c.k7) (w.alloc (.cells #[.int .i64 ((no:Nat):Int)] ai.int)) aw∧(∃u:Value,aw.cell? ⟨c.c4,2,none⟩=some u)∧aw.frozen? ⟨c.c4,2,none⟩=false∧
     ∀bc,bc=aw.setCell ⟨c.c4,2,none⟩ (.slice au.a au.len au.cap)→fk bc (T.dc T.E fun q=>T.G q∨aP au q) {c with k7:=au,left:=c.left++ [no]}∧cp T (T.dc T.E fun q=>T.G q∨aP au q) w bc 0:=by
 obtain ⟨au,aw,aC,aF,aN,cV,sR⟩:=Rf no h.k7 (by omega)
 have c9:∀q,aP c.k7 q→T.G q:=fun q J=>(h.uu q J).1
 have dr:=aN.size
 have f_:=h.v.an aN fun J=>(h.uu _ J).2 rfl
 obtain ⟨ej,eO⟩:=jI f_ (i:=2) (by simp)
 refine ⟨au,aw,aC,sR,ej,eO,?_⟩
 rintro _ rfl
 have eY:=iq aw c.c4 2 (.slice au.a au.len au.cap)
 have mj:=jH f_ (i:=2) (.slice au.a au.len au.cap)
 have jo:aq T.G w (aw.setCell ⟨c.c4,2,none⟩ (.slice au.a au.len au.cap)):=oT (aN.mono fun q _ J=>c9 q J) eY fun q _ e=>by rw[e];exact h.gc
 have ajY:=jo.size
 have a_:∀q,aP au q→q<aw.heap.size:=fun q J=>bU.lt aF q J
 have mA:∀q,aP au q→T.G q∨(w.heap.size≤q∧q<(aw.setCell ⟨c.c4,2,none⟩ (.slice au.a au.len au.cap)).heap.size):=fun q J=>by
   rcases cV q J with U|U
   · exact .inl (c9 q U)
   · exact .inr ⟨U,by have:=a_ q J;have:=eY.size;omega⟩
 have qA:∀q,aP au q→q≠c.c4:=fun q J e=>by
   rcases cV q J with U|U
   · exact (h.uu q U).2 e
   · have:=h.v.lt;omega
 have c0:∀q,aP c.mF q→¬aP au q:=fun q e J=>by
   rcases cV q J with U|U
   · exact (h.rU q e).2.2 U
   · have:=bU.lt h.mF q e;omega
 have bh:=h.t.grow (E:=T.E) (G:=fun q=>T.G q∨aP au q) jo (fun q J _=> .inr J) (fun q J=> .inl J) (fun q J=>by
   rcases J with J|J
   · exact .inr (.inl J)
   · exact .inr (mA q J)) fun q J bg=>by
   rcases bg with bg|bg
   · exact (h.t.hE q J).2.2 bg
   · rcases cV q bg with U|U
     · exact (h.t.hE q J).2.2 (c9 q U)
     · have:=h.t.lt (q:=q) (.inr (.inr (.inr (.inl J))));omega
 refine ⟨⟨bh,mj,(h.mF.an aN fun q J e=>(h.rU q J).2.2 e).an eY fun q J e=>(h.rU q J).2.1 e,?_, .inl h.gc,fun q J=>⟨.inl (h.rU q J).1,(h.rU q J).2.1,c0 q J⟩,fun q J=>⟨.inr J,qA q J⟩⟩,?_⟩
 · have:bU 1 ai.int aw au (gg (c.left++ [no])):=aF
   exact this.an eY fun q J e=>qA q J e
 · have b5:cp T T w w 0:= .refl _ _
   exact b5.step jo (fun q J _=> .inr (.inr (.inr J))) (fun q J=> .inl J) fun q J=>by
     rcases J with J|J
     · exact .inl J
     · exact (mA q J).imp id fun e=>e.1
end
end
section
def fw (T:aY):Nat:=T.n-kM (fun i=>T.f i||T.g i) T.n
theorem X2 {s t:Nat→Bool}:∀ {n:Nat},(∀i,i<n→s i=t i)→kM s n=kM t n
 |0,_=>rfl
 |n+1,h=>by
   unfold kM
   rw[X2 (n:=n) fun i hi=>h i (by omega),h n (by omega)]
theorem X3 {s t:Nat→Bool} {k:Nat} (ae:s k=false) (ba:t k=true) (he:∀i,i≠k→t i=s i):∀ {n:Nat},k<n→kM t n=kM s n+1
 |0,h=>by omega
 |n+1,h=>by
   unfold kM
   by_cases e:k=n
   · subst e
     rw[X2 (s:=t) (t:=s) (n:=k) fun i hi=>he i (by omega),ae,ba]
     simp
   · rw[X3 ae ba he (n:=n) (by omega),he n (by omega)]
     omega
theorem X4 {t:Nat→Bool}:∀ {n:Nat},(∀i,i<n→t i=true)→kM t n=n
 |0,_=>rfl
 |n+1,h=>by
   unfold kM
   rw[X4 (n:=n) fun i hi=>h i (by omega),h n (by omega)]
   simp
theorem ajZ {T:aY} (h:1≤fw T):∃no,firstFree (fun i=>T.f i||T.g i) T.n=some no:=by
 cases aI:firstFree (fun i=>T.f i||T.g i) T.n with
 |some no=>exact ⟨no,rfl⟩
 |none=>
   have:=X4 (aiY aI)
   unfold fw at h
   rw[this] at h
   omega
structure fl (T av:aY) (c c':fT) (m l:List Nat) (w w':World) (k:Nat):Prop where
 to:cp T av w w' k
 E:av.E=T.E
 G:∀q,T.G q→av.G q
 root:av.root=T.root
 bu:av.bu=T.bu
 c4:c'.c4=c.c4
 made:c'.made=c.made++m
 left:c'.left=c.left++l
 dU:m.Nodup
 rV:∀no∈m,(T.f no||T.g no)=false∧no<T.n
 f:∀no,av.f no=(T.f no||decide (no∈m))
 iw:∀no,(T.f no||T.g no)=true→av.P no=T.P no∧av.C.view no=T.C.view no
 room:fw av+m.length=fw T
theorem fl.ext {w w':World} (T:aY) (c:fT) (h:Ext w w'):fl T T c c [] [] w w' 0:=
 ⟨.ext T h,rfl,fun _ h=>h,rfl,rfl,rfl,by simp,by simp,List.nodup_nil,fun _ h=>(by cases h),fun no=>by simp,fun _ _=>⟨rfl,rfl⟩,by simp⟩
theorem fl.trans {T av v7:aY} {c c' X5:fT} {m MW l Gm:List Nat} {w w' hD:World} {k lW:Nat} (U:fl T av c c' m l w w' k) (ab:fl av v7 c' X5 MW Gm w' hD lW):fl T v7 c X5 (m++MW) (l++Gm) w hD (k+lW):=by
 have bg:av.g=T.g:=U.to.g
 have aD:av.n=T.n:=U.to.n
 have aI:∀no,(T.f no||T.g no)=true→(av.f no||av.g no)=true:=fun no h=>by
   rw[U.f,bg]
   cases ao:T.f no<;>cases aG:T.g no<;>simp[ao,aG] at h⊢
 refine ⟨U.to.trans ab.to,ab.E.trans U.E,fun q h=>ab.G q (U.G q h),ab.root.trans U.root,ab.bu.trans U.bu,ab.c4.trans U.c4,by rw[ab.made,U.made,d_],by rw[ab.left,U.left,d_],?_,fun no h=> ?_,fun no=> ?_,fun no h=> ?_,?_⟩
 · rw[HU]
   refine ⟨U.dU,ab.dU,fun a aT b aa e=> ?_⟩
   subst e
   have:=(ab.rV a aa).1
   rw[U.f] at this
   simp[aT] at this
 · rcases eH.1 h with h|h
   · exact U.rV no h
   · have ao:=ab.rV no h
     rw[U.f,bg,aD] at ao
     refine ⟨?_,ao.2⟩
     cases aV:T.f no<;>cases b_:T.g no<;>simp[aV,b_] at ao⊢
 · rw[ab.f,U.f]
   simp only[eH,Bool.decide_or,Bool.or_assoc]
 · have ao:=ab.iw no (aI no h)
   have aG:=U.iw no h
   exact ⟨ao.1.trans aG.1,ao.2.trans aG.2⟩
 · have:=U.room
   have:=ab.room
   rw[dA];omega
theorem fl.mono {T av:aY} {c c':fT} {m l:List Nat} {w w':World} {k j:Nat} (h:fl T av c c' m l w w' k) (ae:k≤j):fl T av c c' m l w w' j:=⟨h.to.mono ae,h.E,h.G,h.root,h.bu,h.c4,h.made,h.left,h.dU,h.rV,h.f,h.iw,h.room⟩
end
section
def X6 (T:aY) (c:fT) (n:aL) (w:World) (v:Value) (w':World):Prop:=
 ∃ (no:Nat) (av:aY) (c':fT),fk w' av c'∧fl T av c c' [no] [] w w' 1∧
   ((v= .tuple #[.int .i64 (no:Nat), .int .i64 0]∧av.P no=some n)∨(v= .tuple #[.int .i64 (no:Nat), .int .i64 3]∧¬T.C.D.calm 1))
theorem dC.ni {n:aL} (h:dC n) (ab:cd n≤400):n.keys.length≤200∧n.vals.length≤200∧n.kids.length≤201:=by
 have:=LI h
 rcases h with h|h
 · have:=h.len
   have aG:n.kids.length=0:=by rw[h.kids];rfl
   omega
 · have:=h.len
   have aG:n.vals.length=0:=by rw[h.vals];rfl
   omega
theorem MX {B:Nat→Prop} {w:World} {T:aY} {c:fT} {n:aL} {K V D:ad} (h:fk w T c) (fS:T.C.D.cS≤900000100) (jt:1≤fw T) (n1:c.made.length≤1000) (aD:b4 B w n K V D) (aj:dC n) (ab:cd n≤232):
   aR Tryz.prog F.sZ #[.pointer (some ⟨c.c4,0,none⟩),eC n K V D] w (X6 T c n w):=by
 obtain ⟨no,xi⟩:=ajZ jt
 obtain ⟨dx,Je,_⟩:=aiX xi
 have nI:=h.t.s.cZ
 have xG:=aj.ni (by omega)
 refine W.aj0 (some ⟨c.c4,0,none⟩) n.leaf K V D w _ ?_
 (delta W.sZ bJ ah ar fK aE uv st jX aS;dsimp only)
 refine cq (vs:=[.bool n.leaf, .slice K.a K.len K.cap, .slice V.a V.len V.cap, .slice D.a D.len D.cap]) rfl fun ag fH bH km=> ?_
 obtain ⟨cy,aS,bA,aZ⟩:=b9 fH
 refine ⟨_,cy,K,aS,V,bA,D,aZ,(w6 (aD.ext bH) (by omega) (by omega) (by omega)).use ?_⟩
 rintro _ bd ⟨aj1,jG⟩
 rcases aj1 with ⟨s,rfl,MA,aj2,_,_⟩|⟨e,rfl,he,rW⟩
 rotate_left
 · have:=rW aj;omega
 have oG:=bH.trans jG
 have b_:=h.ext oG
 refine ⟨s,0,rfl,fun aa=>(by cases aa),fun _=>⟨_,rfl,_,b_.cells.1,_,rfl,_,b_.t.cells.2.1,(ai1 b_.t.s).use ?_⟩⟩
 rintro _ dE ⟨rfl,pB,gk⟩
 rw[xi] at pB⊢
 obtain ⟨aj3,Rg⟩:=b_.t.X0 pB gk
 have X7:fk dE (T.Gl (js T.f no true)) c:=b_.of aj3 gk (fun q J aI=>(h.t.uq q J).2 aI) rfl fun _ h=>h
 refine ⟨(no:Nat),0,rfl,fun aa=>(by cases aa),fun _=>⟨_,rfl,_,X7.cells.2.1,?_⟩⟩
 obtain ⟨au,dL,aC,aF,aH,aN,cV⟩:=ajX X7 no (by omega)
 refine bW ⟨au,dL,aC,_,rfl,by rw[bn];exact aH,by rw[bn];exact aN,bW ?_⟩
 rw[bn]
 obtain ⟨dm,X8⟩:∃dm,dm=dL.setCell ⟨c.c4,0+1,none⟩ (.slice au.a au.len au.cap):=⟨_,rfl⟩
 rw[←X8]
 obtain ⟨MY,Rh⟩:=cV dm X8
 obtain ⟨X9,aj4⟩:∃X9,X9=fun q=>T.G q∨aP au q:=⟨_,rfl⟩
 have jl:∀q,T.N q→q<w.heap.size:=fun q J=>h.t.lt (aY.lV J)
 have Mj:=oG.size
 have Ri:=Rg.an.size
 have Rj:=Rh.an.size
 have X_:aq T.N bd dm:=Rg.an.trans Rh.an
 have BT:Var dm w.heap.size [.bool n.leaf, .slice K.a K.len K.cap, .slice V.a V.len V.cap, .slice D.a D.len D.cap] ai.cD:=(fH.ext jG).an X_ fun J=>by have:=jl _ J;omega
 have aj5:bU 1 ai.uint8 dm s (bm (qU n)):=MA.an X_ fun q J jn=>by have:=jl _ jn;have:=aj2 q J;omega
 have hlen:=Py aj
 have kx:H9 ⟨if n.leaf then 1 else 2,T.gen,qU n⟩:=by
   refine ⟨?_,?_,h.t.num.2.2,by show (qU n).length≤232;omega⟩
   · show 1≤(if n.leaf then 1 else 2);split<;>omega
   · show (if n.leaf then 1 else 2)≤4;split<;>omega
 refine eI (fun n27 fB=>n27=((if n.leaf then 1 else 2:Nat):Int)∧fB=dm) (fun q J=>⟨n.leaf,BT.cell,fun aa=>J _ _ ⟨by rw[aa];rfl,rfl⟩,fun aa=>J _ _ ⟨by rw[aa];rfl,rfl⟩⟩) ?_
 rintro _ _ ⟨rfl,rfl⟩
 refine ⟨_,rfl,_,MY.cells.1,_,rfl,_,MY.t.cells.2.2.1,(afe (no:=no) (p:=⟨if n.leaf then 1 else 2,T.gen,qU n⟩) aj5.src (by omega) kx).use ?_⟩
 rintro _ e3 ⟨s2,rfl,Ya,Yb,aj6⟩
 have Ef:=MY.ext Yb
 refine ⟨s2,0,rfl,fun aa=>(by cases aa),fun _=>⟨_,rfl,_,Ef.cells.1,_,rfl,_,Ef.t.cells.1,(ail Ef.t.qy (by show T.C.D.cS≤999999999;omega) (no:=no) (by rw[Ef.t.n];exact dx) Ya.src (Vz no kx) fun q J=>⟨bU.lt Ya q J,fun aI=> ?_⟩).use ?_⟩⟩
 · have:=aj6 q J
   have:=MY.t.lt (q:=q) (.inl aI)
   omega
 rintro _ dO ⟨br,mY,cH,eu⟩
 have MB:∀j,js T.f no true j=(T.f j||decide (j∈ [no])):=fun j=>by
   unfold js
   by_cases e:j=no
   · subst e;simp
   · simp[e]
 have Yc:(T.f no||T.g no)=false:=Je
 have aj7:T.n-kM (fun i=>js T.f no true i||T.g i) T.n+1=fw T:=by
   have:=X3 (s:=fun i=>T.f i||T.g i) (t:=fun i=>js T.f no true i||T.g i) (k:=no) Je (by simp[js]) (fun i hi=>by simp[js,hi]) dx
   unfold fw at jt⊢
   have ao:=I_ (fun i=>T.f i||T.g i) T.n
   omega
 have main:∀ (Gn:Nat→Option aL) (v:Value),(∀j,j≠no→Gn j=T.P j)→(∀j,j≠no→br.view j=T.C.view j)→(∀j dU,Gn j=some dU→j<T.n∧sT T.gen dU.leaf j (br.view j) dU)→
     ((v= .tuple #[.int .i64 (no:Nat), .int .i64 0]∧Gn no=some n)∨(v= .tuple #[.int .i64 (no:Nat), .int .i64 3]∧¬T.C.D.calm 1))→X6 T c n w v dO:=by
   intro Gn v ga sH Rk ak
   obtain ⟨aj8,aj9⟩:=Ef.t.Q0 (P:=Gn) mY cH Rk
   have aj_:=Ef.of (av:=((T.Gl (js T.f no true)).dc T.E fun q=>T.G q∨aP au q).cJ br Gn) aj8 cH.an (fun q J=>Ef.t.Jd J) rfl fun _ h=>h
   refine ⟨no,_,_,aj_,⟨?_,rfl,fun q J=> .inl J,rfl,rfl,rfl,rfl,(lM _).symm,by simp,fun x af=> ?_,MB,fun j aU=> ?_,aj7⟩,ak⟩
   · have:=(((cp.ext T oG).trans Rg).trans Rh).trans ((cp.ext _ Yb).trans aj9)
     exact this.mono (by omega)
   · obtain rfl:=lN.1 af
     exact ⟨Yc,dx⟩
   · have:j≠no:=fun e=>by rw[e,Yc] at aU;cases aU
     exact ⟨ga j this,sH j this⟩
 rcases eu with ⟨rfl,ak⟩|⟨rfl,e8,ak⟩
 · refine ⟨0,rfl,main (fun j=>if j=no then some n else T.P j) _ (fun j aU=>if_neg aU) (fun j aU=>(ak j).trans (if_neg aU)) (fun j dU aU=> ?_) (.inl ⟨rfl,if_pos rfl⟩)⟩
   by_cases e:j=no
   · subst e
     rw[if_pos rfl] at aU
     cases aU
     rw[ak,if_pos rfl]
     exact ⟨dx,_,aeZ (by omega) kx,cU _,rfl,aj,rfl,ab,rfl⟩
   · rw[if_neg e] at aU
     rw[ak,if_neg e]
     exact h.t.lE j dU aU
 · refine ⟨3,rfl,main T.P _ (fun _ _=>rfl) (fun j _=>ak j) (fun j dU aU=> ?_) (.inr ⟨rfl,e8⟩)⟩
   rw[ak]
   exact h.t.lE j dU aU
end
section
theorem aka (w:World) (x:Int):Sem.run Tryz.prog (Instr.buildSlice ai.Gp 1 #[(0, .agg #[.slice none 0 0, .int .i64 x])]) w=
   .ok (.slice (some ⟨w.heap.size,0,none⟩) 1 1) (w.alloc (.cells #[.slice none 0 0, .int .i64 x] ai.uw)):=by kernel_rfl
theorem akb (w:World) (x y:Int) (t:ad):Sem.run Tryz.prog (Instr.buildSlice ai.Gp 2 #[(0, .agg #[.slice none 0 0, .int .i64 x]),(1, .agg #[.slice t.a t.len t.cap, .int .i64 y])]) w=
   .ok (.slice (some ⟨w.heap.size,0,none⟩) 2 2) (w.alloc (.cells #[.slice none 0 0, .int .i64 x, .slice t.a t.len t.cap, .int .i64 y] ai.uw)):=by kernel_rfl
theorem dC.Pe {n:aL} (h:dC n) (U:1≤c2 n) (ab:if n.leaf then c2 n≤n.keys.length-1∧1≤n.keys.length-1 else c2 n≤n.keys.length-2∧1≤n.keys.length-2):dC (n.left (c2 n))∧dC (n.right (c2 n)):=by
 rcases h with h|h
 · have aA:=h.leaf
   rw[if_pos aA] at ab
   unfold aL.left aL.right
   rw[if_pos aA,if_pos aA]
   have hlen:=h.len
   refine ⟨.inl ⟨⟨fun k ae=>h.ok k (jR ae),h.jk.sublist (List.take_sublist _ _)⟩,rfl,?_,rfl,fun v ak=>h.vals v (jR ak)⟩, .inl ⟨⟨fun k ae=>h.ok k (jC ae),h.jk.sublist (List.drop_sublist _ _)⟩,rfl,?_,rfl,fun v ak=>h.vals v (jC ak)⟩⟩
   · simp only[eA];omega
   · simp only[fx];omega
 · have aA:=h.inner
   rw[if_neg (by rw[aA];simp)] at ab
   unfold aL.left aL.right
   rw[if_neg (by rw[aA];simp),if_neg (by rw[aA];simp)]
   have hlen:=h.len
   refine ⟨.inr ⟨⟨fun k ae=>h.ok k (jR ae),h.jk.sublist (List.take_sublist _ _)⟩,rfl,?_,?_,rfl,fun v ak=>h.kids v (jR ak)⟩, .inr ⟨⟨fun k ae=>h.ok k (jC ae),h.jk.sublist (List.drop_sublist _ _)⟩,rfl,?_,?_,rfl,fun v ak=>h.kids v (jC ak)⟩⟩
   · intro e
     have:=congrArg List.length e
     simp only[eA,tF] at this;omega
   · simp only[eA];omega
   · intro e
     have:=congrArg List.length e
     simp only[fx,tF] at this;omega
   · simp only[fx];omega
def v8 (B:Nat→Prop) (w:World) (s:ad) (ks:List Key) (kids:List Nat):Prop:=
 (∃b x,s=⟨some ⟨b,0,none⟩,1,1⟩∧ks=[]∧kids=[x]∧Var w b [.slice none 0 0, .int .i64 (x:Nat)] ai.uw∧B b)∨
 (∃b x y k t,s=⟨some ⟨b,0,none⟩,2,2⟩∧ks=[k]∧kids=[x,y]∧Var w b [.slice none 0 0, .int .i64 (x:Nat), .slice t.a t.len t.cap, .int .i64 (y:Nat)] ai.uw∧B b∧bX B w t k∧k≠ [])
def oW (T:aY) (c:fT) (n:aL) (w:World) (v:Value) (w':World):Prop:=
 ∃ (av:aY) (c':fT) (m:List Nat) (s:ad),fk w' av c'∧fl T av c c' m [] w w' 2∧m.length≤2∧
   ((∃ks,v= .tuple #[.slice s.a s.len s.cap, .int .i64 0]∧yw av.P n ks m∧v8 (fun q=>¬av.M q) w' s ks m)∨(v= .tuple #[.slice s.a s.len s.cap, .int .i64 3]∧¬T.C.D.calm 2))
theorem Yd {B:Nat→Prop} {w:World} {T:aY} {c:fT} {n:aL} {K V D:ad} (h:fk w T c) (fS:T.C.D.cS≤900000100) (jt:1≤fw T) (n1:c.made.length≤1000) (aD:b4 B w n K V D) (aj:dC n) (ab:cd n≤232):
   aR Tryz.prog F.zn #[.pointer (some ⟨c.c4,0,none⟩),eC n K V D] w (oW T c n w):=by
 refine W.akc (some ⟨c.c4,0,none⟩) n.leaf K V D w _ ?_
 (delta W.zn bJ ah ar uv;dsimp only)
 refine cq (vs:=[.bool n.leaf, .slice K.a K.len K.cap, .slice V.a V.len V.cap, .slice D.a D.len D.cap]) rfl fun ag fH bH km=> ?_
 obtain ⟨cy,aS,bA,aZ⟩:=b9 fH
 refine ⟨_,cy,K,aS,V,bA,D,aZ,(MX (h.ext bH) fS jt n1 (aD.ext bH) aj ab).use ?_⟩
 rintro _ bd ⟨no,av,c',og,cH,eu⟩
 have Bh:∀ (e:Int),((e=0∧av.P no=some n)∨(e=3∧¬T.C.D.calm 1))→∃ (fj:ad) (bZ:World),Sem.run Tryz.prog (Instr.buildSlice ai.Gp 1 #[(0, .agg #[.slice none 0 0, .int .i64 (no:Nat)])]) bd= .ok (.slice fj.a fj.len fj.cap) bZ∧oW T c n w (.tuple #[.slice fj.a fj.len fj.cap, .int .i64 e]) bZ:=by
   intro e he
   refine ⟨⟨some ⟨bd.heap.size,0,none⟩,1,1⟩,_,aka bd _,?_⟩
   have mg:=im bd (.cells #[.slice none 0 0, .int .i64 (no:Nat)] ai.uw)
   have fU:fl T av c c' [no] [] w (bd.alloc (.cells #[.slice none 0 0, .int .i64 (no:Nat)] ai.uw)) 2:=(((fl.ext T c bH).trans cH).trans (fl.ext av c' mg)).mono (by omega)
   refine ⟨av,c',[no],⟨some ⟨bd.heap.size,0,none⟩,1,1⟩,og.ext mg,fU,by simp,?_⟩
   rcases he with ⟨rfl,he⟩|⟨rfl,he⟩
   · refine .inl ⟨[],rfl, .inl ⟨ab,no,rfl,rfl,he⟩, .inl ⟨_,no,rfl,rfl,rfl,Var.new bd [.slice none 0 0, .int .i64 (no:Nat)] ai.uw,fun hm=> ?_⟩⟩
     have:=og.t.lt hm
     omega
   · exact .inr ⟨rfl,fun al=>he (mD al (by omega))⟩
 rcases eu with ⟨rfl,ga⟩|⟨rfl,e8⟩
 · exact ⟨_,0,rfl,Bh 0 (.inl ⟨rfl,ga⟩)⟩
 · exact ⟨_,3,rfl,Bh 3 (.inr ⟨rfl,e8⟩)⟩
theorem ky {b:Bool} {K V D:ad}:∀v∈ [.bool b, .slice K.a K.len K.cap, .slice V.a V.len V.cap, .slice D.a D.len D.cap],Plain v:=by
 intro v ak
 simp only[fP,mL,mM] at ak
 rcases ak with rfl|rfl|rfl|rfl<;>trivial
theorem akd {B:Nat→Prop} {w:World} {T:aY} {c:fT} {n:aL} {K V D:ad} (h:fk w T c) (fS:T.C.D.cS≤900000090) (jt:2≤fw T) (n1:c.made.length≤900) (aD:b4 B w n K V D) (aj:dC n) (ab:232<cd n) (ao:cd n≤400) (U:1≤c2 n)
   (aG:if n.leaf then c2 n≤n.keys.length-1∧1≤n.keys.length-1 else c2 n≤n.keys.length-2∧1≤n.keys.length-2) (aV:cd (n.left (c2 n))≤232) (b_:cd (n.right (c2 n))≤232):
   aR Tryz.prog F.BU #[.pointer (some ⟨c.c4,0,none⟩),eC n K V D] w (oW T c n w):=by
 obtain ⟨sP,ake⟩:=aj.Pe U aG
 have xG:=aj.ni (by omega)
 have aa:c2 n<n.keys.length:=by
   split at aG<;>omega
 refine W.akf (some ⟨c.c4,0,none⟩) n.leaf K V D w _ ?_
 (delta W.BU bJ ah ar Ye c8 aE uv;dsimp only)
 refine cq (vs:=[.bool n.leaf, .slice K.a K.len K.cap, .slice V.a V.len V.cap, .slice D.a D.len D.cap]) rfl fun ag fH bH km=> ?_
 obtain ⟨cy,aS,bA,aZ⟩:=b9 fH
 refine ⟨_,cy,K,aS,V,bA,D,aZ,(xk (aD.ext bH) aj (by omega) U aG).use ?_⟩
 rintro _ bd ⟨dy,dR,dS,cP,cW,c6,t,rfl,aA,aQ,ba,jG⟩
 refine ⟨_,dy,dR,dS,t,_,cP,cW,c6,true,rfl,cq (vs:=[.bool false, .slice none 0 0, .slice none 0 0, .slice none 0 0]) rfl fun ef Ec xH Rb=>cq (vs:=[.bool false, .slice none 0 0, .slice none 0 0, .slice none 0 0]) rfl fun dH zi sW D7=> ?_⟩
 have Mp:=Ec.ext sW
 refine ⟨Mp.de rfl ky,rfl,dW Mp (us:=[.bool (n.left (c2 n)).leaf, .slice dy.a dy.len dy.cap, .slice dR.a dR.len dR.cap, .slice dS.a dS.len dS.cap]) rfl rfl fun cE D8 zj Q5=> ?_⟩
 have Eg:=zi.an zj (by omega)
 refine ⟨Eg.de rfl ky,rfl,dW Eg (us:=[.bool (n.right (c2 n)).leaf, .slice cP.a cP.len cP.cap, .slice cW.a cW.len cW.cap, .slice c6.a c6.len c6.cap]) rfl rfl fun dX Gq MZ Rl=>⟨fun aa=>(by cases aa),fun _=> ?_⟩⟩
 have akg:=D8.an MZ (by omega)
 have oG:=bH.trans jG
 have Jf:Ext bd dX:=Ext.eX (Ext.eX (xH.trans sW) zj (by omega)) MZ (by omega)
 have Rm:=oG.trans Jf
 have Mk:=oG.size
 have ar9:=Jf.size
 obtain ⟨d0,d1,d2,d3⟩:=b9 akg
 refine ⟨_,d0,dy,d1,dR,d2,dS,d3,(MX (h.ext Rm) (by omega) (by omega) (by omega) (aA.ext Jf) sP aV).use ?_⟩
 rintro _ cT ⟨x,cx,M0,ir,gm,akh⟩
 have jl:∀q,T.N q→q<w.heap.size:=fun q J=>h.t.lt (aY.lV J)
 have ar_:=gm.to.an.size
 rcases akh with ⟨rfl,Yf⟩|⟨rfl,e8⟩
 · have aki:=Gq.an gm.to.an fun J=>by have:=jl _ J;omega
   obtain ⟨d0,d1,d2,d3⟩:=b9 aki
   have akj:b4 (fun q=>ag.heap.size≤q) cT (n.right (c2 n)) cP cW c6:=(aQ.ext Jf).an gm.to.an fun q J jn=>by have:=jl _ jn;omega
   have Gc:cx.C.D.cS≤900000100:=j5 gm.to.cS (by clear ir gm Yf;omega)
   have Rn:=gm.room
   have asa:M0.made.length=c.made.length+1:=by rw[gm.made,dA];rfl
   simp only[qP] at Rn
   have Gr:=MX ir Gc (by omega) (by omega) akj ake b_
   rw[gm.c4] at Gr
   refine ⟨x,0,rfl,fun aa=>(by cases aa),fun _=>⟨_,d0,cP,d1,cW,d2,c6,d3,Gr.use ?_⟩⟩
   rintro _ eS ⟨y,dz,Yg,dB,pY,akk⟩
   have akl:=pY.to.an.size
   have cH:=((fl.ext T c Rm).trans gm).trans pY
   have m0:n.keys.getD (c2 n) []=n.keys[c2 n]:=by rw[oy,gq aa];rfl
   have akm:=ba.ext Jf
   have akn:bX (fun q=>¬dz.M q) eS t n.keys[c2 n]:=by
     rw[←m0]
     have hY:bX (fun q=>q<dX.heap.size∧ag.heap.size≤q) dX t (n.keys.getD (c2 n) []):=bX.bx akm fun q J aa=>⟨J,aa⟩
     have Yh:=(gm.trans pY).to
     refine bX.bx (bX.an hY Yh.an fun q J jn=>by have:=jl _ jn;omega) fun q _ aa hm=> ?_
     rcases Yh.jK q hm with ng|ng
     · have:=h.t.lt ng;omega
     · omega
   have ij:n.keys[c2 n]≠ []:=by
     have ae:eV n.keys[c2 n]:=by
       rcases aj with aj|aj
       · exact aj.ok _ (eN aa)
       · exact aj.ok _ (eN aa)
     intro e
     have:=ae.1
     rw[e] at this;simp at this
   have mg:=im eS (.cells #[.slice none 0 0, .int .i64 (x:Nat), .slice t.a t.len t.cap, .int .i64 (y:Nat)] ai.uw)
   have fU:=(cH.trans (fl.ext dz Yg mg)).mono (j:=2) (by omega)
   have Bh:∀ (e:Int),((e=0∧dz.P y=some (n.right (c2 n)))∨(e=3∧¬cx.C.D.calm 1))→∃ (dw:ad) (kN:World),Sem.run Tryz.prog (Instr.buildSlice ai.Gp 2 #[(0, .agg #[.slice none 0 0, .int .i64 (x:Nat)]),(1, .agg #[.slice t.a t.len t.cap, .int .i64 (y:Nat)])]) eS= .ok (.slice dw.a dw.len dw.cap) kN∧
       oW T c n w (.tuple #[.slice dw.a dw.len dw.cap, .int .i64 e]) kN:=by
     intro e he
     refine ⟨⟨some ⟨eS.heap.size,0,none⟩,2,2⟩,_,akb eS _ _ t,dz,Yg,[x,y],⟨some ⟨eS.heap.size,0,none⟩,2,2⟩,dB.ext mg,fU,by simp,?_⟩
     rcases he with ⟨rfl,he⟩|⟨rfl,he⟩
     · have cB:dz.P x=some (n.left (c2 n)):=by
         rw[(pY.iw x (by rw[gm.f];simp)).1,Yf]
       refine .inl ⟨[n.keys[c2 n]],rfl, .inr ⟨ab,x,y,aa,rfl,rfl,cB,he⟩, .inr ⟨_,x,y,_,t,rfl,rfl,rfl,Var.new eS [.slice none 0 0, .int .i64 (x:Nat), .slice t.a t.len t.cap, .int .i64 (y:Nat)] ai.uw,fun hm=> ?_,bX.ext akn mg,ij⟩⟩
       have:=dB.t.lt hm
       omega
     · exact .inr ⟨rfl,fun al=>he (gm.to.calm 1 (mD al (by omega)))⟩
   rcases akk with ⟨rfl,ga⟩|⟨rfl,e8⟩
   · exact ⟨_,0,rfl,Bh 0 (.inl ⟨rfl,ga⟩)⟩
   · exact ⟨_,3,rfl,Bh 3 (.inr ⟨rfl,e8⟩)⟩
 · have fU:=((fl.ext T c Rm).trans gm).mono (j:=2) (by omega)
   exact ⟨_,3,rfl,fun _=>⟨cx,M0,[x],bP,ir,fU,by simp, .inr ⟨rfl,fun al=>e8 (mD al (by omega))⟩⟩,fun aa=>(by cases aa)⟩
theorem M1 {B:Nat→Prop} {w:World} {T:aY} {c:fT} {n:aL} {K V D:ad} (h:fk w T c) (fS:T.C.D.cS≤900000090) (jt:2≤fw T) (n1:c.made.length≤900) (aD:b4 B w n K V D) (aj:dC n) (ao:cd n≤400)
   (ab:232<cd n→1≤c2 n∧(if n.leaf then c2 n≤n.keys.length-1∧1≤n.keys.length-1 else c2 n≤n.keys.length-2∧1≤n.keys.length-2)∧cd (n.left (c2 n))≤232∧cd (n.right (c2 n))≤232):
   aR Tryz.prog F.q5 #[.pointer (some ⟨c.c4,0,none⟩),eC n K V D] w (oW T c n w):=by
 have xG:=aj.ni (by omega)
 refine W.ako (some ⟨c.c4,0,none⟩) n.leaf K V D w _ ?_
 (delta W.q5 bJ ah ar aS aE fK;dsimp only)
 refine cq (vs:=[.bool n.leaf, .slice K.a K.len K.cap, .slice V.a V.len V.cap, .slice D.a D.len D.cap]) rfl fun ag fH bH km=> ?_
 obtain ⟨cy,aS,bA,aZ⟩:=b9 fH
 refine ⟨_,cy,K,aS,V,bA,D,aZ,(tU (aD.ext bH) aj (by omega)).use ?_⟩
 rintro _ bd ⟨rfl,jG⟩
 have oG:=bH.trans jG
 obtain ⟨d0,d1,d2,d3⟩:=b9 (fH.ext jG)
 have fin:∀ (v:Value) (w':World),oW T c n bd v w'→∃s:ad,∃e:Int,v= .tuple #[.slice s.a s.len s.cap, .int .i64 e]∧oW T c n w (.tuple #[.slice s.a s.len s.cap, .int .i64 e]) w':=by
   rintro v w' ⟨av,c',m,s,aC,aF,aH,aN⟩
   have fU:=((fl.ext T c oG).trans aF).mono (j:=2) (by omega)
   rcases aN with ⟨ks,rfl,cV⟩|⟨rfl,cV⟩
   · exact ⟨s,0,rfl,av,c',m,s,aC,fU,aH, .inl ⟨ks,rfl,cV⟩⟩
   · exact ⟨s,3,rfl,av,c',m,s,aC,fU,aH, .inr ⟨rfl,cV⟩⟩
 refine ⟨_,rfl,fun aa=>⟨_,d0,K,d1,V,d2,D,d3,?_⟩,fun aa=>⟨_,d0,K,d1,V,d2,D,d3,?_⟩⟩
 · have aa:((cd n:Nat):Int)>232:=di aa
   obtain ⟨aC,aF,aH,aN⟩:=ab (by omega)
   refine (akd (h.ext oG) fS jt n1 (aD.ext oG) aj (by omega) ao aC aF aH aN).use ?_
   rintro v w' ak
   obtain ⟨s,e,rfl,g⟩:=fin v w' ak
   exact ⟨s,e,rfl,g⟩
 · have aa:¬((cd n:Nat):Int)>232:=eB aa
   refine (Yd (h.ext oG) (by omega) (by omega) (by omega) (aD.ext oG) aj (by omega)).use ?_
   rintro v w' ak
   obtain ⟨s,e,rfl,g⟩:=fin v w' ak
   exact ⟨s,e,rfl,g⟩
end
end Go.Proofs.YtplieiecebljmaaGreat
