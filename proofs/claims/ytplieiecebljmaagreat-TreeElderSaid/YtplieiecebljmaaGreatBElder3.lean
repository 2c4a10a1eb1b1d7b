/- Contracts of the functions that the statement reaches, and the plain laws over them; each theorem stands with its conditions. -/
import Derived.OpenShut
import Derived.Test.YtplieiecebljmaaGreatRows
import Derived.Test.YtplieiecebljmaaGreatBElder2
namespace Go.Proofs.YtplieiecebljmaaGreat
open Go b7
section
def eo.sZ (D:eo) (i:Nat):List mz:=match D.waits.find? fun x=>x.i==i with
 |some x=>x.rC
 |none=> []
def eo.calm (D:eo) (k:Nat):Prop:=(D.g4.getD 1 0= -1∨(k:Int)≤D.g4.getD 1 0)∧(D.g4.getD 2 0= -1∨(k:Int)≤D.g4.getD 2 0)
theorem mA {W V:Nat→Prop} {w w' hO:World} (U:ao W w w') (ad:ao V w' hO) (h:∀q,q<w.heap.size→V q→W q):ao W w hO:=
 ⟨ad.os.trans U.os,ad.tape.trans U.tape,ad.output.trans U.output,iT U.size ad.size,fun k ae dK=>(ad.block k (lg ae U.size) fun ak=>dK (h k ae ak)).trans (U.block k ae dK)⟩
theorem oe {D:eo} {k l:Nat} (h:D.calm k) (az:l≤k):D.calm l:=⟨h.1.imp id fun h=>by omega,h.2.imp id fun h=>by omega⟩
theorem Kf {D:eo} {k m:Nat} (ae:k=1∨k=2) (aI:D.g4.length=4) (h:D.calm (m+1)):(D.jo k).calm m∧D.sY k=false:=by
 obtain ⟨U,ad⟩:=h
 have qK:1<D.g4.length:=by omega
 have qL:2<D.g4.length:=by omega
 rcases ae with rfl|rfl
 · have aY:(D.jo 1).g4.getD 1 0=(oM (D.g4.getD 1 0)).2:=by
     show (D.g4.set 1 _).getD 1 0=_
     rw[n_ (by rw[je];omega),uM]
   have bm:(D.jo 1).g4.getD 2 0=D.g4.getD 2 0:=by
     show (D.g4.set 1 _).getD 2 0=_
     rw[n_ (by rw[je];omega),mO (by omega),n_ qL]
   unfold eo.calm eo.sY
   rw[aY,bm]
   unfold oM
   rcases U with U|U
   · rw[if_pos U]
     exact ⟨⟨.inl rfl,ad.imp id fun h=>by omega⟩,rfl⟩
   · rw[if_neg (by omega),if_neg (by omega)]
     exact ⟨⟨.inr (by show (m:Int)≤_-1;omega),ad.imp id fun h=>by omega⟩,rfl⟩
 · have aY:(D.jo 2).g4.getD 2 0=(oM (D.g4.getD 2 0)).2:=by
     show (D.g4.set 2 _).getD 2 0=_
     rw[n_ (by rw[je];omega),uM]
   have bm:(D.jo 2).g4.getD 1 0=D.g4.getD 1 0:=by
     show (D.g4.set 2 _).getD 1 0=_
     rw[n_ (by rw[je];omega),mO (by omega),n_ qK]
   unfold eo.calm eo.sY
   rw[aY,bm]
   unfold oM
   rcases ad with ad|ad
   · rw[if_pos ad]
     exact ⟨⟨U.imp id fun h=>by omega, .inl rfl⟩,rfl⟩
   · rw[if_neg (by omega),if_neg (by omega)]
     exact ⟨⟨U.imp id fun h=>by omega, .inr (by show (m:Int)≤_-1;omega)⟩,rfl⟩
theorem YP {sz:Nat} {w:World} {s:aa} {α:Type} {c:α→List Value} {l:List α} (h:Src sz w s (cz c l)) (al:∀x∈l,(c x).length=sz) (dB:0<sz) {i:Nat} (hi:i<l.length):
   s.len=l.length∧∃A,s.a=some A∧ey w (A.add (i*sz)) 0 sz=some (c l[i]):=by
 have az:s.len=l.length:=by
   have:=h.len
   rw[od l al] at this
   exact (Nat.eq_of_mul_eq_mul_right dB this).symm
 refine ⟨az,?_⟩
 cases aS:s.a with
 |none=>
   have:=congrArg List.length (h.nil aS)
   rw[od l al,x0] at this
   have:l.length*sz≠0:=Nat.mul_ne_zero (by omega) (by omega)
   omega
 |some A=>
   refine ⟨A,rfl,?_⟩
   have hle:i*sz+sz≤s.len*sz:=by
     rw[az,←Nat.succ_mul]
     exact BQ _ hi
   rw[YQ (h.rd A aS) hle,YD al hi]
def Hg:List Value:=bg (List.replicate 256 0)
def R9 (D:eo) (i:Nat) (w:World) (v:Value) (w':World):Prop:=v= .agg (bg (D.now i)).toArray∧Ext w w'
theorem ajL {w:World} {D:eo} (h:j8 w D) {i:Nat} (hi:i<D.n) (gV:D.cI≤1000000000):
   aQ Tryz.prog F.CD #[.pointer (some ⟨D.d,0,none⟩), .int .i64 ((i:Nat):Int)] w (R9 D i w):=by
 have o5:=h.c_
 have si:=h.NT hi
 refine W.ajM (some ⟨D.d,0,none⟩) ((i:Nat):Int) w _ ?_
 (delta W.CD pD aE aC R_ ai aq NU;dsimp only)
 refine cp (vs:=Hg) (by kernel_rfl) fun ag ak bz _=> ?_
 have hd:=h.ext bz
 refine ⟨_,rfl,some D.jQ,hd.dO,?_⟩
 have Cm:Hg.length=256:=by rw[Hg,kl,Gt]
 have fin:∀ (K:List Value→World→Prop),(∀b9,Ext w b9→K (bg (D.now i)) b9)→cM ag ⟨w.heap.size,0,none⟩ (Array.toList (bg (D.now i)).toArray)∧Array.size (bg (D.now i)).toArray=256∧ay (setCells ag ⟨w.heap.size,0,none⟩ 0 (Array.toList (bg (D.now i)).toArray)) fun b9=>∃An:List Value,ey b9 ⟨w.heap.size,0,none⟩ 0 256=some An∧K An b9:=by
   intro K bk
   refine ⟨ak.dr (by rw[Jd,kl,si,Cm]) (by rw[Jd];exact x5 _),by simp[kl,si],ec ak (us:=bg (D.now i)) (by rw[kl,si,Cm]) rfl fun b9 RF Ci _=>⟨_,RF.rd (by rw[kl,si]),bk b9 (Ext.e3 bz Ci (cP _))⟩⟩
 cases aG:D.waits.find? fun x=>x.i==i with
 |some x=>
   have af:=Ed aG
   have Hh:x.i=i:=by
     have:=Gj aG
     exact eq_of_beq this
   have az:=hd.m.YR Hd He (k:=(i:Int)) (v:= .slice x.s.a x.s.len x.s.cap) (p4.2 ⟨x,af,by unfold pM.e;rw[Hh]⟩) false
   have en:=(h.wn x af).1
   have hlen:0<x.rC.length:=List.length_pos_iff.2 en
   have aiy:=(h.wn x af).2.2
   obtain ⟨gA,A,ax,dm⟩:=YP (hd.ws x af).src (fun s aj=>by rw[kl];exact h.Hf x af s aj) (by decide) (i:=x.rC.length-1) (by omega)
   have sj:D.now i=x.rC[x.rC.length-1]'(by omega):=by
     unfold eo.now
     rw[aG]
     show x.rC.getLastD []=_
     rw[List.getLastD_eq_getLast?,List.getLast?_eq_getElem?,g8 (by omega)]
     rfl
   refine ⟨x.s,ag,az,fun _=>⟨A,ax,?_⟩,fun bI=> ?_⟩
   · rw[gA,cE (n:=((x.rC.length:Nat):Int)-1) (by omega) (by omega)]
     have Rr:Int.toNat (((x.rC.length:Nat):Int)-1)=x.rC.length-1:=by omega
     rw[Rr]
     refine ⟨⟨by omega,by omega⟩,_,dm,?_⟩
     rw[←sj]
     exact fin (fun An b9=>R9 D i w (.agg An.toArray) b9) fun b9 g3=>⟨rfl,g3⟩
   · have:=ff bI
     omega
 |none=>
   obtain ⟨ajN,U,ad⟩:=Ke YL
   have az:=hd.m.YS Hd He (k:=(i:Int)) U ad (fun v ak=>by
     obtain ⟨x,af,he⟩:=p4.1 ak
     have ar:=r2.1 aG x af
     unfold pM.e at he
     simp only[Prod.mk.injEq] at he
     apply ar
     have:x.i=i:=by omega
     rw[this];simp) false
   have fa:i<D.f_.length:=hi
   have sj:D.now i=D.f_[i]:=by
     unfold eo.now
     rw[aG]
     exact n_ fa
   have mw:Src 256 ag ⟨some ⟨D.h7,0,none⟩,D.f_.length,D.f_.length⟩ (cz bg D.f_):=by
     have og:=od (c:=bg) (sz:=256) D.f_ fun s aj=>by rw[kl];exact h.CC s aj
     have:=cn.JF (sz:=256) (o:=0) (n:=D.f_.length) (cap:=D.f_.length) hd.l (by simp[og])
     rw[zG,Jd,gX (by rw[og];exact cP _)] at this
     exact this
   obtain ⟨gA,A,ax,dm⟩:=YP mw (fun s aj=>by rw[kl];exact h.CC s aj) (by decide) fa
   refine ⟨⟨none,0,0⟩,ag,az,fun bI=>by simp at bI,fun _=>⟨_,rfl,_,hd.gu,A,ax,⟨by omega,by show (i:Int)<((D.f_.length:Nat):Int);omega⟩,_,dm,?_⟩⟩
   rw[←sj]
   exact fin (fun An b9=>R9 D i w (.agg An.toArray) b9) fun b9 g3=>⟨rfl,g3⟩
def ajO (D:eo) (i:Nat) (w:World) (v:Value) (w':World):Prop:=
 j8 w' (D.jo 1)∧ao (fun q=>q=D.d) w w'∧
   ((D.sY 1=true∧v= .tuple #[.slice none 0 0, .int .i64 3])∨
    (D.sY 1=false∧∃s:aa,v= .tuple #[.slice s.a s.len s.cap, .int .i64 0]∧bD (fun q=>w.heap.size≤q) w' s (D.now i)))
theorem ajP {w:World} {D:eo} (h:j8 w D) {i:Nat} (hi:i<D.n) (gV:D.cI≤1000000000):
   aQ Tryz.prog F.CE #[.pointer (some ⟨D.d,0,none⟩), .int .i64 ((i:Nat):Int)] w (ajO D i w):=by
 refine W.ajQ (some ⟨D.d,0,none⟩) ((i:Nat):Int) w _ ?_
 (delta W.CE a_ aE YT ji pD ai;dsimp only)
 refine (YN h _).use ?_
 rintro _ _ ⟨rfl,rfl⟩
 refine ⟨_,rfl,fun ab=> ?_,fun _=>⟨_,rfl,(YO h (k:=1) (by decide)).use ?_⟩⟩
 · have ab:¬(0≤(i:Int)∧(i:Int)<D.n):=by simpa using ab
   omega
 rintro _ aw ⟨rfl,lH,dS,uT⟩
 refine ⟨_,rfl,fun ab=>⟨lH,dS, .inl ⟨ab,rfl⟩⟩,fun ab=>(ajL lH (i:=i) hi gV).use ?_⟩
 rintro _ aZ ⟨rfl,eO⟩
 have si:=h.NT hi
 refine ⟨_,rfl,cp (vs:=Hg) (by kernel_rfl) fun br rA fo JU=>⟨rA.dr (by rw[Jd,kl];show (D.now i).length=_;rw[si,Hg,kl,Gt]) (by rw[Jd];exact x5 _),by rw[List.size_toArray,kl];exact si,ec rA (us:=bg (D.now i)) (by rw[kl,si,Hg,kl,Gt]) rfl fun bF Hi lF NJ=> ?_⟩⟩
 have atL:=eO.size
 have a9:D.d<aw.heap.size:=lH.v.lt
 refine ⟨(lH.ext (eO.trans fo)).an lF (fun q J e=>by have:=lH.lt J;omega),mA (dS.trans (ao.eK (eO.trans fo))) lF fun q J e=>by omega, .inr ⟨ab,⟨some ⟨aZ.heap.size,0,none⟩,256,256⟩,rfl,?_,cP _,fun k ae=> ?_⟩⟩
 · have:=Hi.agX (o:=0) (n:=256) (c:=256) (l:=D.now i) (by rw[kl,si];decide) (by rw[zG,gX (by rw[kl,si];decide)])
   exact this
 · obtain ⟨A,ax,rfl⟩:=ae
   cases ax
   have:=Hi.lt
   exact ⟨by show w.heap.size≤aZ.heap.size;omega,this⟩
end
section
theorem YU:∀ (l:List Value) (k:Nat) (arr:Array Value),(l.zipIdx k).foldl (fun cs (p:Value×Nat)=>cs.setIfInBounds p.2 p.1) arr=oE arr k l
 | [],_,_=>rfl
 |v::l,k,arr=>by
   rw[List.zipIdx_cons,List.foldl_cons]
   exact YU l (k+1) (arr.setIfInBounds k v)
theorem Sa {P:Program} {T e:TypeId} {d:TypeDesc} {i:TypeInfo} {z:Value} {sz:Nat} {cs:Array Value} (w:World) (U:P.underlying T=some (.slice e)) (ad:P.underlying e=some d) (ar:P.cellsOf e=sz) (hi:P.info? e=some i) (tT:i.zero=some z) (fj:cs.size=sz) (atM:sz≠0) (hle:sz≤16777216):
   Sem.run P (Instr.buildSlice T 1 #[(0, .agg cs)]) w= .ok (.slice (some ⟨w.heap.size,0,none⟩) 1 1) (w.alloc (.cells cs e)):=by
 have bI:=qy (P:=P) (w:=w) ad
 rw[ar] at bI
 have ajR:Instr.fill (fun i=>some (i*sz,sz)) ((Array.range (1*sz)).map fun x=>z.cells[x%z.cells.size]!) [(0, .agg cs)]=some cs:=by
   have al:(Value.agg cs).cells=cs:=rfl
   rw[Instr.fill]
   simp only[al]
   rw[if_neg (by simp[fj]),Instr.fill]
   rw[←Array.foldl_toList,Array.toList_zipIdx]
   have e:(fun (cs:Array Value) (x:Value×Nat)=>match x with|(c,j)=>cs.setIfInBounds (0*sz+j) c)=fun cs (p:Value×Nat)=>cs.setIfInBounds p.2 p.1:=by
     funext cs x
     obtain ⟨c,j⟩:=x
     simp
   rw[e,YU]
   congr 1
   apply Array.toList_inj.1
   rw[zW _ _ _ (by simp[fj])]
   simp[fj]
 have CF:=CG (w:=w) hi
 have aD:¬(1*sz>2^24):=by
   have:(2:Nat)^24=16777216:=rfl
   omega
 have RN:¬(1*sz=0):=by omega
 have py:Instr.fill (fun i=>some (i*sz,sz)) ((Array.range (1*sz)).map fun x=>z.cells[x%z.cells.size]!) (#[(0,Value.agg cs)]:Array (Nat×Value)).toList=some cs:=ajR
 simp only[Instr.buildSlice,Sem.run_bind,fX U,bI,Result.andThen,aD,RN,if_false,zeroValue,CF,tT,Sem.run_pure,py]
 simp[newRow,newObj,Sem.run]
theorem YV (w:World) (l:mz) (az:l.length=256):
   Sem.run Tryz.prog (Instr.buildSlice ah.tY 1 #[(0, .agg (bg l).toArray)]) w= .ok (.slice (some ⟨w.heap.size,0,none⟩) 1 1) (w.alloc (.cells (bg l).toArray ah.oL)):=by
 have h:((Tryz.prog.info? ah.oL).bind (·.zero)).isSome=true:=by kernel_rfl
 obtain ⟨z,bI⟩:=BR.1 h
 obtain ⟨i,hi,tT⟩:=Ke bI
 exact Sa (d:= .array 256 ah.uint8) (sz:=256) w (by kernel_rfl) (by kernel_rfl) (by kernel_rfl) hi tT (by rw[List.size_toArray,kl,az]) (by decide) (by decide)
theorem ajS:qx Tryz.prog ah.tY ah.oL 256 256:=⟨by kernel_rfl⟩
def eo.put (D:eo) (i:Nat) (s:aa) (l:mz):eo:=
 {D.jo 2 with waits:=⟨i,s,D.sZ i++ [l]⟩::D.waits.filter (fun x=>x.i !=i),writes:=IntKind.wrap .i64 (D.writes+1),cI:=D.cI+1}
theorem ajT {D:eo} {i j:Nat} (h:j≠i):(D.waits.filter fun x=>x.i !=i).find? (fun x=>x.i==j)=D.waits.find? fun x=>x.i==j:=by
 rw[List.find?_filter]
 congr 1
 funext x
 by_cases e:x.i=j
 · rw[e];simp[h]
 · simp[e]
theorem YW (D:eo) (i:Nat) (s:aa) (l:mz) (j:Nat):(D.put i s l).now j=if j=i then l else D.now j:=by
 unfold eo.now eo.put
 by_cases h:j=i
 · subst h
   simp
 · rw[if_neg h]
   simp only
   rw[List.find?_cons_of_neg (by simp;omega),ajT h]
   rfl
def YX (D:eo) (i:Nat) (l:mz) (w:World) (v:Value) (w':World):Prop:=
 (D.sY 2=true∧v= .int .i64 3∧j8 w' (D.jo 2)∧ao (fun q=>q=D.d) w w')∨
 (D.sY 2=false∧v= .int .i64 0∧∃s:aa,j8 w' (D.put i s l)∧ao (nm D) w w'∧∀q,aR s q→nm D q∨w.heap.size≤q)
theorem ajU {w:World} {D:eo} {b:aa} {l:mz} (h:j8 w D) {i:Nat} (hi:i<D.n) (gV:D.cI≤1000000000) (ab:Src 1 w b (bg l)) (az:l.length=256) (hd:∀q,aR b q→¬nm D q):
   aQ Tryz.prog F.CH #[.pointer (some ⟨D.d,0,none⟩), .int .i64 ((i:Nat):Int), .slice b.a b.len b.cap] w (YX D i l w):=by
 have x9:=kN ab
 have o5:=h.c_
 refine W.ajV (some ⟨D.d,0,none⟩) ((i:Nat):Int) b w _ ?_
 (delta W.CH a_ aE Sb bA st aC;dsimp only)
 refine (YN h _).use ?_
 rintro _ _ ⟨rfl,rfl⟩
 have fy:decide (0≤(i:Int)∧(i:Int)<D.n)=true:=il ⟨by omega,by omega⟩
 refine ⟨_,rfl,fun U=> ?_,fun _=>⟨_,rfl,(YO h (k:=2) (by decide)).use ?_⟩⟩
 · rw[fy,x9,az] at U
   simp at U
 rintro _ aw ⟨rfl,lH,dS,uT⟩
 refine ⟨_,rfl,fun oc=> .inl ⟨oc,rfl,lH,dS⟩,fun oc=>bM ?_⟩
 obtain ⟨g5,hold⟩:∃g5:aa,(match D.waits.find? fun x=>x.i==i with|some x=>x.s|none=>⟨none,0,0⟩)=g5:=⟨_,rfl⟩
 have s0:=lH.ext (eE aw)
 have G8:Src 1 aw.drew b (bg l):=(ab.an dS fun q J e=>hd q J (.inl e)).ext (eE aw)
 have wz:b6 256 ah.oL aw.drew g5 (cz bg (D.sZ i))∧(∀q,aR g5 q→nm D q∧q≠D.d∧q≠D.h7∧q≠D.jQ)∧(∀x∈D.waits,x.i≠i→∀q,aR x.s q→¬aR g5 q)∧(D.sZ i).length≤D.cI∧(∀s∈D.sZ i,s.length=256)∧
     ∀w':World,kr w' D.jQ EY (D.waits.map pM.e)→Sem.run Tryz.prog (Instr.lookup ah.Aj (.map (some D.jQ)) (.int .i64 ((i:Nat):Int)) false) w'= .ok (.slice g5.a g5.len g5.cap) w':=by
   cases aG:D.waits.find? fun x=>x.i==i with
   |some x=>
     rw[aG] at hold
     have hold:x.s=g5:=hold
     subst hold
     have af:=Ed aG
     have Hh:x.i=i:=by
       have:=Gj aG
       exact eq_of_beq this
     have e:D.sZ i=x.rC:=by unfold eo.sZ;rw[aG]
     rw[e]
     refine ⟨s0.ws x af,fun q J=>⟨.inr (.inr (.inr ⟨x,af,J⟩)),fun e=>(h.cL x af).1 (e▸J),fun e=>(h.cL x af).2.1 (e▸J),fun e=>(h.cL x af).2.2 (e▸J)⟩,fun y b2 en=>h.e6 y b2 x af (by omega),(h.wn x af).2.2,h.Hf x af,fun w' hm=>hm.YR Hd He (k:=(i:Int)) (v:= .slice x.s.a x.s.len x.s.cap) (p4.2 ⟨x,af,by unfold pM.e;rw[Hh]⟩) false⟩
   |none=>
     rw[aG] at hold
     have hold:(⟨none,0,0⟩:aa)=g5:=hold
     subst hold
     have e:D.sZ i=[]:=by unfold eo.sZ;rw[aG]
     rw[e]
     obtain ⟨ajN,U,ad⟩:=Ke YL
     refine ⟨b6.none _ _ _,fun q J=>(r7 q J).elim,fun x _ _ q _ J=>(r7 q J).elim,fx _,fun s aj=>(by cases aj),fun w' hm=>hm.YS Hd He (k:=(i:Int)) U ad (fun v ak=> ?_) false⟩
     obtain ⟨x,af,he⟩:=p4.1 ak
     have ar:=r2.1 aG x af
     unfold pM.e at he
     simp only[Prod.mk.injEq] at he
     apply ar
     have:x.i=i:=by omega
     rw[this];simp
 obtain ⟨bJ,yN,YY,atN,NV,YZ⟩:=wz
 obtain ⟨A,ax,dm⟩:∃A,b.a=some A∧ey aw.drew A 0 256=some (bg l):=by
   cases aS:b.a with
   |none=>
     have:=congrArg List.length (ab.nil aS)
     rw[kl,az] at this
     cases this
   |some A=>
     refine ⟨A,rfl,?_⟩
     have:=G8.rd A aS
     rwa[x9,az] at this
 have ajW:¬aR g5 A.block:=fun J=>hd _ ⟨A,ax,rfl⟩ (yN _ J).1
 have Y0:∀br:World,Ext aw.drew br→∃ (au:aa) (bF:World),Sem.run Tryz.prog (Builtin.append_ #[ah.tY,ah.tY] ah.tY #[.slice g5.a g5.len g5.cap, .slice (some ⟨br.heap.size,0,none⟩) 1 1]) (br.alloc (.cells (bg l).toArray ah.oL))= .ok (.slice au.a au.len au.cap) bF∧
     b6 256 ah.oL bF au (cz bg (D.sZ i++ [l]))∧ao (aR g5) br bF∧(∀k,aR au k→aR g5 k∨br.heap.size≤k)∧ao (aR g5) (br.alloc (.cells (bg l).toArray ah.oL)) bF:=by
   intro br fo
   have hlen:g5.len=(D.sZ i).length:=by
     have:=bJ.1
     rw[od (c:=bg) (sz:=256) _ fun s aj=>by rw[kl];exact NV s aj] at this
     omega
   have mQ:=iX br (.cells (bg l).toArray ah.oL)
   obtain ⟨au,bF,aA,aF,aJ,aO,cS⟩:=ajS.append (ez:=ah.tY) (x:=⟨some ⟨br.heap.size,0,none⟩,1,1⟩) (Src.new (T:=ah.oL) br (bg l) 1 (by rw[kl,az])) (bJ.ext (fo.trans mQ)) (x5 l) (by rw[hlen];show (2*(_+1)+1000)*256≤_;omega)
   refine ⟨au,bF,aA,?_,(ao.eK mQ).trans aO,fun k ae=>(cS k ae).imp id fun h=> ?_,aO⟩
   · rw[yM]
     have:cz bg [l]=bg l:=by simp[cz]
     rw[this];exact aF
   · have:=mQ.size;omega
 have NW:∀ (bF:World) (au:aa),kr bF D.jQ EY (D.waits.map pM.e)→∃a4:World,Sem.run Tryz.prog (Instr.mapUpdate ah.Aj (.map (some D.jQ)) (.int .i64 ((i:Nat):Int)) (.slice au.a au.len au.cap)) bF= .ok () a4∧ao (fun q=>q=D.jQ) bF a4∧
     kr a4 D.jQ EY ((pM.mk i au (D.sZ i++ [l])::D.waits.filter fun x=>x.i !=i).map pM.e):=by
   intro bF au hm
   have Sc:=hm.keys
   rw[List.map_map] at Sc
   cases aG:D.waits.find? fun x=>x.i==i with
   |some x=>
     have af:=Ed aG
     have Hh:x.i=i:=by
       have:=Gj aG
       exact eq_of_beq this
     obtain ⟨bT,b_,he⟩:=List.append_of_mem af
     have en:∀y∈bT++b_,y.i≠i:=by
       intro y b2 e
       rw[he,n3,tC] at Sc
       have U:=(BO.nodup_iff).1 Sc
       rw[List.nodup_cons] at U
       apply U.1
       rw[←n3]
       refine p4.2 ⟨y,b2,?_⟩
       show ((y.i:Nat):Int)=((x.i:Nat):Int)
       omega
     have og:D.waits.filter (fun x=>x.i !=i)=bT++b_:=by
       rw[he,BN,List.filter_cons_of_neg (by simp[Hh])]
       rw[uH.2 fun y b2=>by have:=en y (uI _ b2);simpa using this,uH.2 fun y b2=>by have:=en y (qp _ b2);simpa using this]
     have aT:(D.waits.map pM.e).Perm (((i:Int), .slice x.s.a x.s.len x.s.cap)::(bT++b_).map pM.e):=by
       rw[he,n3,tC,n3]
       have:x.e=((i:Int), .slice x.s.a x.s.len x.s.cap):=by unfold pM.e;rw[Hh]
       rw[this]
       exact BO
     obtain ⟨a4,aA,aF,_,aJ⟩:=ajD Hd He (hm.perm aT) (.slice au.a au.len au.cap)
     refine ⟨a4,aA,aF,?_⟩
     rw[og]
     exact aJ
   |none=>
     have en:∀y∈D.waits,y.i≠i:=fun y b2 e=>by
       have:=r2.1 aG y b2
       rw[e] at this;simp at this
     have og:D.waits.filter (fun x=>x.i !=i)=D.waits:=uH.2 fun y b2=>by simpa using en y b2
     obtain ⟨a4,aA,aF,_,aJ⟩:=ajC Hd He (k:=(i:Int)) hm (fun v ak=>by
       obtain ⟨x,af,he⟩:=p4.1 ak
       unfold pM.e at he
       simp only[Prod.mk.injEq] at he
       exact en x af (by omega)) (.slice au.a au.len au.cap)
     refine ⟨a4,aA,aF,?_⟩
     rw[og]
     exact aJ
 have fin:∀ (bF a4:World) (au:aa),ao (aR g5) aw.drew bF→b6 256 ah.oL bF au (cz bg (D.sZ i++ [l]))→(∀k,aR au k→aR g5 k∨aw.drew.heap.size≤k)→ao (fun q=>q=D.jQ) bF a4→kr a4 D.jQ EY ((pM.mk i au (D.sZ i++ [l])::D.waits.filter fun x=>x.i !=i).map pM.e)→
     ∃oh:Addr,(some ⟨D.d,0,none⟩:Option Addr)=some oh∧∃s3:Int,a4.cell? (oh.add 6)=some (.int .i64 s3)∧∃sk:Addr,(some ⟨D.d,0,none⟩:Option Addr)=some sk∧(∃u:Value,a4.cell? (sk.add 6)=some u)∧a4.frozen? (sk.add 6)=false∧ay (a4.setCell (sk.add 6) (.int .i64 (IntKind.wrap .i64 (s3+1)))) fun cu=>YX D i l w (.int .i64 0) cu:=by
   intro bF a4 au lF Nr gC qE lk
   have Hi:=s0.v.an lF fun J=>(yN _ J).2.1 rfl
   have Sd:Var a4 D.d (D.jo 2).c ah.NS:=Hi.an qE h.bj.2.1
   have hlen:(D.jo 2).c.length=7:=lH.R8
   obtain ⟨s1,s2⟩:=j5 Sd (i:=6) (by rw[hlen];decide)
   have ft:a4.cell? (Addr.add ⟨D.d,0,none⟩ 6)=some (.int .i64 D.writes):=by
     rw[aV,gR,Sd.cell]
     unfold eo.c
     have:=lH.f4
     rw[v9 (by rw[mN];omega),mN,this];rfl
   rw[aV,gR] at ft
   refine ⟨_,rfl,D.writes,by rw[aV,gR];exact ft,_,rfl,by rw[aV,gR];exact s1,by rw[aV,gR];exact s2,?_⟩
   rw[aV,gR]
   have qI:=iL a4 D.d 6 (.int .i64 (IntKind.wrap .i64 (D.writes+1)))
   have JM:=j4 Sd (i:=6) (.int .i64 (IntKind.wrap .i64 (D.writes+1)))
   have qe:(D.jo 2).c.set 6 (.int .i64 (IntKind.wrap .i64 (D.writes+1)))=(D.put i au l).c:=by
     have aI:=lH.f4
     have aY:(D.put i au l).c=(D.jo 2).g4.map (.int .i64)++ [.slice (some ⟨D.h7,0,none⟩) D.f_.length D.f_.length, .map (some D.jQ), .int .i64 (IntKind.wrap .i64 (D.writes+1))]:=rfl
     have bm:(D.jo 2).c=(D.jo 2).g4.map (.int .i64)++ [.slice (some ⟨D.h7,0,none⟩) D.f_.length D.f_.length, .map (some D.jQ), .int .i64 D.writes]:=rfl
     rw[aY,bm,List.set_append_right _ _ (by rw[mN];omega),mN,aI]
     rfl
   rw[qe] at JM
   have CI:ao (fun q=>q=D.jQ∨q=D.d) bF (a4.setCell ⟨D.d,6,none⟩ (.int .i64 (IntKind.wrap .i64 (D.writes+1)))):=(qE.mono fun q _ e=> .inl e).trans (qI.mono fun q _ e=> .inr e)
   have s4:∀q,aR au q→q≠D.d∧q≠D.h7∧q≠D.jQ:=fun q J=>by
     have atO:=s0.lt (q:=D.d) (.inl rfl)
     have atP:=s0.lt (q:=D.h7) (.inr (.inl rfl))
     have atQ:=s0.lt (q:=D.jQ) (.inr (.inr (.inl rfl)))
     rcases gC q J with U|U
     · exact (yN q U).2
     · exact ⟨by omega,by omega,by omega⟩
   have qR:∀x∈D.waits.filter (fun x=>x.i !=i),x∈D.waits∧x.i≠i:=fun x af=>by
     obtain ⟨U,ad⟩:=Gi.1 af
     exact ⟨U,by simpa using ad⟩
   refine bM (.inr ⟨oc,rfl,au,⟨JM,?_,?_,?_,?_,h.CC,?_,h.di,h.c_,lH.f4,lH.fr,h.bj,?_,?_⟩,?_,?_⟩)
   · exact cn.an (cn.an s0.l lF fun J=>(yN _ J).2.2.1 rfl) CI (by
       rintro (e|e)
       · exact h.bj.2.2 e
       · exact h.bj.1 e.symm)
   · exact lk.an qI (fun e=>h.bj.2.1 e.symm)
   · intro x af
     rcases gp.1 af with rfl|af
     · exact Nr.an CI fun q J=>by
         rintro (e|e)
         · exact (s4 q J).2.2 e
         · exact (s4 q J).1 e
     · obtain ⟨U,ad⟩:=qR x af
       refine ((s0.ws x U).an lF fun q J=>YY x U ad q J).an CI fun q J=> ?_
       rintro (e|e)
       · exact (h.cL x U).2.2 (e▸J)
       · exact (h.cL x U).1 (e▸J)
   · intro x af
     rcases gp.1 af with rfl|af
     · refine ⟨by simp,hi,?_⟩
       show (D.sZ i++ [l]).length≤D.cI+1
       rw[eu,rh];omega
     · obtain ⟨U,ad⟩:=qR x af
       have:=h.wn x U
       exact ⟨this.1,this.2.1,Nat.le_succ_of_le this.2.2⟩
   · intro x af
     rcases gp.1 af with rfl|af
     · intro s aj
       rcases fe.1 aj with aj|aj
       · exact NV s aj
       · rw[nC.1 aj];exact az
     · exact h.Hf x (qR x af).1
   · intro x af
     rcases gp.1 af with rfl|af
     · exact ⟨fun J=>(s4 _ J).1 rfl,fun J=>(s4 _ J).2.1 rfl,fun J=>(s4 _ J).2.2 rfl⟩
     · exact h.cL x (qR x af).1
   · have mu:∀y∈D.waits,y.i≠i→∀q,aR y.s q→¬aR au q:=fun y b2 en q J g9=>by
       rcases gC q g9 with U|U
       · exact YY y b2 en q J U
       · have:=(s0.ws y b2).lt q J;omega
     intro x af y b2 en q J g9
     rcases gp.1 af with rfl|af
     · rcases gp.1 b2 with rfl|b2
       · exact en rfl
       · exact mu y (qR y b2).1 (fun e=>en e.symm) q g9 J
     · rcases gp.1 b2 with rfl|b2
       · exact mu x (qR x af).1 en q J g9
       · exact h.e6 x (qR x af).1 y (qR y b2).1 en q J g9
   · refine ((dS.mono fun q _ e=> .inl e).trans ((ao.eK (eE aw)).trans (lF.mono fun q _ J=>(yN q J).1))).trans (CI.mono fun q _ J=> ?_)
     rcases J with e|e
     · exact .inr (.inr (.inl e))
     · exact .inl e
   · intro q J
     rcases gC q J with U|U
     · exact .inl (yN q U).1
     · have:aw.drew.heap.size=aw.heap.size:=rfl
       exact .inr (by omega)
 refine ⟨aR g5,_,rfl,fun J=>(yN _ J).2.1 rfl,some D.jQ,s0.dO,_,rfl,fun J=>(yN _ J).2.1 rfl,some D.jQ,s0.dO,by omega,A,ax,ajW,_,dm,⟨?_,?_⟩⟩
 · obtain ⟨au,bF,aA,aF,aJ,aO,cS⟩:=Y0 aw.drew (.refl _ _)
   have vc:=s0.m.an aJ fun J=>(yN _ J).2.2.2 rfl
   obtain ⟨a4,aY,bm,dM⟩:=NW bF au vc
   exact ⟨g5,_,YZ _ s0.m, .refl _ _,⟨some ⟨aw.drew.heap.size,0,none⟩,1,1⟩,_,YV _ l az,ao.eK (iX _ _),au,bF,aA,cS,a4,aY,fin bF a4 au aJ aF aO bm dM⟩
 · obtain ⟨au,bF,aA,aF,aJ,aO,cS⟩:=Y0 aw.drew (.refl _ _)
   have wF:=s0.m.ext (iX aw.drew (.cells (bg l).toArray ah.oL))
   have vc:=s0.m.an aJ fun J=>(yN _ J).2.2.2 rfl
   obtain ⟨a4,aY,bm,dM⟩:=NW bF au vc
   exact ⟨⟨some ⟨aw.drew.heap.size,0,none⟩,1,1⟩,_,YV _ l az,ao.eK (iX _ _),g5,_,YZ _ wF, .refl _ _,au,bF,aA,cS,a4,aY,fin bF a4 au aJ aF aO bm dM⟩
end
section
theorem ajX {P:Program} {e:TypeId} {v:Value} {sz:Nat} (bI:((P.info? e).bind (·.zero)).map (·.cells)=some (List.replicate sz v).toArray) (al:P.cellsOf e=sz) (aj:0<sz) (n:Nat):pC P e n=(List.replicate (n*sz) v).toArray:=by
 unfold pC
 rw[al]
 cases hi:(P.info? e).bind (·.zero) with
 |none=>rw[hi] at bI;cases bI
 |some z=>
   rw[hi] at bI
   simp only[BP,Option.some.injEq] at bI
   simp only[Option.getD_some]
   apply Array.ext
   · simp
   · intro i U ad
     have aD:n*sz≠0:=by
       intro h
       simp[h] at ad
     simp only[aD,if_false,bI,Array.getElem_map,Array.getElem_range]
     have a9:i%sz<sz:=sI _ aj
     simp[a9]
theorem ajY (m n:Nat):cz bg (List.replicate n (List.replicate m 0))=List.replicate (n*m) (.int .u8 0):=by
 induction n with
 |zero=>simp[cz]
 |succ n dw=>
   rw[List.replicate_succ,Hb,dw,v8,Nat.one_mul,Nat.add_comm]
   have e:bg (List.replicate m 0)=List.replicate m (Value.int .u8 0):=by simp[bg]
   rw[e,List.replicate_append_replicate]
def yO:mz:=List.replicate 256 0
theorem ajZ (n:Nat):pC Tryz.prog ah.oL n=(cz bg (List.replicate n yO)).toArray:=by
 unfold yO
 rw[ajY]
 exact ajX (by kernel_rfl) (by kernel_rfl) (by decide) n
def vm (n d h7 jQ:Nat):eo:=⟨d,h7,jQ,[-1, -1, -1, -1],List.replicate n yO,[],0,0⟩
theorem aj0 {w:World} {b:Nat} {vs:List Value} {T:TypeId} (h:Var w b vs T) (az:4≤vs.length):
   aQ Tryz.prog F.CJ #[.pointer (some ⟨b,0,none⟩)] w (fun v w'=>v= .tuple #[]∧Var w' b (List.replicate 4 (.int .i64 (-1))++vs.drop 4) T∧ao (fun q=>q=b) w w'∧w'.heap.size=w.heap.size):=by
 refine W.aj1 (some ⟨b,0,none⟩) w _ ?_
 (delta W.CJ aE st aC;dsimp only)
 refine ⟨fun i w'=>∃j:Nat,i=j∧j≤4∧Var w' b (List.replicate j (.int .i64 (-1))++vs.drop j) T∧ao (fun q=>q=b) w w'∧w'.heap.size=w.heap.size,fun i _=>((4:Int)-i).toNat,⟨0,rfl,by omega,h, .refl _ _,rfl⟩,?_⟩
 rintro _ ag ⟨j,rfl,a6,ak,al,bI⟩
 refine ⟨fun a9=> ?_,fun cm=> ?_⟩
 · have a9:j<4:=by have:=dU a9;omega
   have aS:Addr.add ⟨b,0,none⟩ (Int.toNat ((j:Nat):Int)*1)=⟨b,j,none⟩:=by rw[hF,ml,aV,gR]
   obtain ⟨s1,s2⟩:=j5 ak (i:=j) (by simp;omega)
   rw[cE (n:=(j:Int)+1) (by omega) (by omega)]
   refine ⟨_,rfl,⟨by omega,by show (j:Int)<4;omega⟩,by rw[aS];exact s1,by rw[aS];exact s2,bM ⟨⟨j+1,by omega,by omega,?_,?_,?_⟩,?_⟩⟩
   · have:=j4 ak (i:=j) (.int .i64 (-1))
     rw[aS]
     have e:(List.replicate j (Value.int .i64 (-1))++vs.drop j).set j (.int .i64 (-1))=List.replicate (j+1) (.int .i64 (-1))++vs.drop (j+1):=by
       rw[List.set_append_right _ _ (by simp),Gt,Ef,uJ (show j<vs.length by omega),List.set_cons_zero,List.replicate_succ',er]
       rfl
     rwa[e] at this
   · rw[aS];exact al.trans (iL _ _ _ _)
   · rw[aS];simpa[World.setCell] using bI
   · show ((4:Int)-((j:Int)+1)).toNat<((4:Int)-(j:Int)).toNat
     omega
 · have cm:j=4:=by have:=ff cm;omega
   subst cm
   exact ⟨rfl,ak,al,bI⟩
theorem yP {n:Nat} (U:16≤n) (ad:n≤1600) (w:World):
   aQ Tryz.prog F.yP #[.int .i64 ((n:Nat):Int)] w (fun v w'=>∃d h7 jQ:Nat,v= .tuple #[.pointer (some ⟨d,0,none⟩), .int .i64 0]∧j8 w' (vm n d h7 jQ)∧Ext w w'∧∀q,nm (vm n d h7 jQ) q→w.heap.size≤q):=by
 refine W.aj2 ((n:Nat):Int) w _ ?_
 (delta W.yP aE x_ gu ai bd;dsimp only)
 refine ⟨fun h=> ?_,fun _=>⟨⟨by omega,by omega,by omega,by omega⟩,?_⟩⟩
 · simp only[xZ,fI] at h;omega
 rw[ajZ,hF]
 have oc:=cn.new w (cz bg (List.replicate n yO)).toArray ah.oL
 have bz:=iX w (.cells (cz bg (List.replicate n yO)).toArray ah.oL)
 have nf:=Jr w (.cells (cz bg (List.replicate n yO)).toArray ah.oL)
 obtain ⟨ag,Ao⟩:∃ag,ag=w.alloc (.cells (cz bg (List.replicate n yO)).toArray ah.oL):=⟨_,rfl⟩
 rw[←Ao] at oc bz nf⊢
 obtain ⟨aA,aF⟩:=kr.make (P:=Tryz.prog) (enc:=EY) ah.Aj ag
 have cv:=iX ag (.map #[] 0)
 have uT:=Jr ag (.map #[] 0)
 obtain ⟨aw,tM⟩:∃aw,aw=ag.alloc (.map #[] 0):=⟨_,rfl⟩
 rw[←tM] at aA aF cv uT
 refine bM ⟨some ag.heap.size,aw,aA, #[.int .i64 0, .int .i64 0, .int .i64 0, .int .i64 0, .slice (some ⟨w.heap.size,0,none⟩) n n, .map (some ag.heap.size), .int .i64 0],by kernel_rfl,cp (vs:=[.int .i64 0, .int .i64 0, .int .i64 0, .int .i64 0, .slice (some ⟨w.heap.size,0,none⟩) n n, .map (some ag.heap.size), .int .i64 0]) rfl fun aZ mx eO EN=>⟨_,rfl,(aj0 mx (by show 4≤7;decide)).use ?_⟩⟩
 rintro _ br ⟨rfl,rA,yg,JU⟩
 refine ⟨rfl,aw.heap.size,w.heap.size,ag.heap.size,rfl,⟨?_,?_,?_,fun x af=>(by cases af),fun x af=>(by cases af),fun s aj=> ?_,fun x af=>(by cases af),?_,?_,rfl,fun x af=> ?_,?_,fun x af=>(by cases af),fun x af=>(by cases af)⟩,Ext.e3 (bz.trans (cv.trans eO)) yg (by omega),?_⟩
 · have e:(vm n aw.heap.size w.heap.size ag.heap.size).c=List.replicate 4 (.int .i64 (-1))++ [Value.int .i64 0, .int .i64 0, .int .i64 0, .int .i64 0, .slice (some ⟨w.heap.size,0,none⟩) n n, .map (some ag.heap.size), .int .i64 0].drop 4:=by
     unfold eo.c vm
     simp
   rw[e];exact rA
 · exact cn.an ((oc.ext cv).ext eO) yg (by show¬w.heap.size=aw.heap.size;omega)
 · exact (aF.ext eO).an yg (by omega)
 · rw[QM aj,yO,Gt]
 · show 16≤(List.replicate n yO).length;simpa using U
 · show (List.replicate n yO).length≤1600;simpa using ad
 · have:x= -1:=by
     simp[vm] at af;exact af
   subst this;exact ⟨by decide,by decide⟩
 · exact ⟨by show aw.heap.size≠w.heap.size;omega,by show aw.heap.size≠ag.heap.size;omega,by show w.heap.size≠ag.heap.size;omega⟩
 · rintro q (rfl|rfl|rfl|⟨x,af,_⟩)
   · show w.heap.size≤aw.heap.size;omega
   · exact cP _
   · show w.heap.size≤ag.heap.size;omega
   · cases af
end
section
structure Fr where
 full:Bool
 w6:Bool
 used:Bool
 no:Int
 pins:Int
 b:aa
 l:mz
def Fr.c (f:Fr):List Value:=[.bool f.full, .bool f.w6, .bool f.used, .int .i64 f.no, .int .i64 f.pins, .slice f.b.a f.b.len f.b.cap]
def hA:Fr:=⟨false,false,false,0,0,⟨none,0,0⟩,[]⟩
structure eM where
 c:Nat
 bS:Nat
 aB:List Fr
 hand:Nat
 D:eo
def jq (C:eM) (q:Nat):Prop:=q=C.c∨q=C.bS∨nm C.D q
structure lO (w:World) (C:eM):Prop where
 v:Var w C.c [.pointer (some ⟨C.D.d,0,none⟩), .slice (some ⟨C.bS,0,none⟩) C.aB.length C.aB.length, .int .i64 C.hand] ah.Y1
 f:cn w C.bS (cz Fr.c C.aB).toArray ah.rD
 dev:j8 w C.D
 dR:8≤C.aB.length
 e0:C.aB.length≤64
 hd:C.hand<C.aB.length
 bj:C.c≠C.bS∧¬nm C.D C.c∧¬nm C.D C.bS
structure Y2 (X:Nat→Prop) (w:World) (C:eM) (f:Fr) (no:Nat):Prop where
 num:f.no=no
 lt:no<C.D.n
 atR:bD (fun q=>¬jq C q∧¬X q) w f.b f.l
 len:f.l.length=256
 clean:f.w6=false→f.l=C.D.now no
structure qS (X:Nat→Prop) (w:World) (C:eM):Prop where
 pins:∀f∈C.aB,f.pins=0
 ok:∀f∈C.aB,f.full=true→∃no:Nat,Y2 X w C f no
 un:∀ (i j:Nat) (hi:i<C.aB.length) (a6:j<C.aB.length),(C.aB[i]).full=true→(C.aB[j]).full=true→(C.aB[i]).no=(C.aB[j]).no→i=j
 nn:∀q,X q→q<w.heap.size∧¬jq C q
structure mV (X:Nat→Prop) (w:World) (C:eM):Prop where
 raw:lO w C
 inv:qS X w C
def eM.view (C:eM) (no:Nat):mz:=match C.aB.find? fun f=>f.full&&f.no==(no:Int) with
 |some f=>f.l
 |none=>C.D.now no
theorem Fr.Se (f:Fr):f.c.length=6:=rfl
theorem NX (l:List Fr):∀x∈l,(Fr.c x).length=6:=fun x _=>rfl
section
variable {w w':World} {C:eM} {X:Nat→Prop}
theorem lO.lt (h:lO w C) {q:Nat} (J:jq C q):q<w.heap.size:=by
 rcases J with rfl|rfl|J
 · exact h.v.lt
 · exact cn.lt h.f
 · exact h.dev.lt J
theorem lO.an {W:Nat→Prop} (h:lO w C) (al:ao W w w') (aD:∀q,jq C q→¬W q):lO w' C:=
 ⟨h.v.an al (aD _ (.inl rfl)),cn.an h.f al (aD _ (.inr (.inl rfl))),h.dev.an al fun q J=>aD q (.inr (.inr J)),h.dR,h.e0,h.hd,h.bj⟩
theorem lO.ext (h:lO w C) (al:Ext w w'):lO w' C:=h.an al fun _ _ h=>h
theorem qS.an {W:Nat→Prop} (h:qS X w C) (al:ao W w w') (aD:∀q,W q→jq C q∨X q):qS X w' C:=
 ⟨h.pins,fun f aG lP=>by
   obtain ⟨no,aA,aF,aJ,aO,cS⟩:=h.ok f aG lP
   exact ⟨no,aA,aF,bD.an aJ al fun q J hw=>by
     rcases aD q hw with U|U
     · exact J.1 U
     · exact J.2 U,aO,cS⟩,h.un,fun q J=>⟨lg (h.nn q J).1 al.size,(h.nn q J).2⟩⟩
theorem mV.an {W:Nat→Prop} (h:mV X w C) (al:ao W w w') (aD:∀q,W q→X q):mV X w' C:=
 ⟨h.raw.an al fun q J hw=>(h.inv.nn q (aD q hw)).2 J,h.inv.an al fun q hw=> .inr (aD q hw)⟩
theorem mV.ext (h:mV X w C) (al:Ext w w'):mV X w' C:=h.an al fun _ h=>h.elim
theorem NY (bS i:Nat):Addr.add ⟨bS,0,none⟩ (Int.toNat ((i:Nat):Int)*6)=⟨bS,i*6,none⟩:=by rw[hF,aV,gR]
theorem lO.cells (h:lO w C):w.cell? ⟨C.c,0,none⟩=some (.pointer (some ⟨C.D.d,0,none⟩))∧w.cell? (Addr.add ⟨C.c,0,none⟩ 1)=some (.slice (some ⟨C.bS,0,none⟩) C.aB.length C.aB.length)∧w.cell? (Addr.add ⟨C.c,0,none⟩ 2)=some (.int .i64 C.hand):=by
 rw[aV,aV]
 exact ⟨h.v.cell,h.v.cell,h.v.cell⟩
theorem w7 {w:World} {bS:Nat} {fs:List Fr} {T:TypeId} (h:cn w bS (cz Fr.c fs).toArray T) {i j:Nat} (hi:i<fs.length) (a6:j<6):w.cell? ⟨bS,i*6+j,none⟩=((fs[i]).c)[j]? :=by
 rw[cn.cell h]
 simp only[MO]
 exact Kd (NX fs) hi a6
theorem EZ {w:World} {bS:Nat} {fs:List Fr} {T:TypeId} (h:cn w bS (cz Fr.c fs).toArray T) {i j:Nat} (hi:i<fs.length) (a6:j<6) {v:Value} (g6:Fr) (aG:g6.c=(fs[i]).c.set j v):
   (∃u:Value,w.cell? ⟨bS,i*6+j,none⟩=some u)∧w.frozen? ⟨bS,i*6+j,none⟩=false∧cn (w.setCell ⟨bS,i*6+j,none⟩ v) bS (cz Fr.c (fs.set i g6)).toArray T∧ao (fun q=>q=bS) w (w.setCell ⟨bS,i*6+j,none⟩ v):=by
 refine ⟨⟨((fs[i]).c)[j]'(by rw[Fr.Se];exact a6),by rw[w7 h hi a6,g8 (by rw[Fr.Se];exact a6)]⟩,cn.frozen h _ rfl,?_,iL _ _ _ _⟩
 have:=j4 (vs:=cz Fr.c fs) h (i:=i*6+j) v
 rw[ajB (NX fs) hi a6 aG] at this
 exact this
theorem Sf {w:World} {bS:Nat} {fs:List Fr} {T:TypeId} (h:cn w bS (cz Fr.c fs).toArray T) {i:Nat} (hi:i<fs.length) (g6:Fr):
   cM w ⟨bS,i*6,none⟩ g6.c∧cn (setCells w ⟨bS,i*6,none⟩ 0 g6.c) bS (cz Fr.c (fs.set i g6)).toArray T∧ao (fun q=>q=bS) w (setCells w ⟨bS,i*6,none⟩ 0 g6.c):=by
 have az:=od (c:=Fr.c) fs (NX fs)
 have hle:i*6+g6.c.length≤(cz Fr.c fs).toArray.size:=by
   rw[List.size_toArray,az,Fr.Se];omega
 refine ⟨cn.dr h _ _ hle ?_,?_,ao.zR (.refl _ _) _ 0⟩
 · intro v ak
   unfold Fr.c at ak
   simp only[gp,mm,mn] at ak
   rcases ak with rfl|rfl|rfl|rfl|rfl|rfl<;>trivial
 · have b3:=cn.B6 (o:=i*6) h g6.c
   have e:oE (cz Fr.c fs).toArray (i*6) g6.c=(cz Fr.c (fs.set i g6)).toArray:=by
     have U:=zW g6.c (cz Fr.c fs).toArray (i*6) hle
     have ad:=ajA (NX fs) hi g6
     have ar:g6.c.length=6:=rfl
     rw[ar] at U
     have aI:(oE (cz Fr.c fs).toArray (i*6) g6.c).toList=cz Fr.c (fs.set i g6):=U.trans ad
     rw[←aI]
   rw[e] at b3
   exact b3
theorem Y3 (h:lO w C) (no:Int):aQ Tryz.prog F.Ap #[.pointer (some ⟨C.c,0,none⟩), .int .i64 no] w (fun v w'=>v= .bool (decide (0≤no∧no<C.D.n))∧w=w'):=by
 refine W.aj3 (some ⟨C.c,0,none⟩) no w _ ?_
 (delta W.Ap aE bc;dsimp only)
 refine e4 (fun b w'=>b=decide (0≤no∧no<C.D.n)∧w=w') (fun q J=>⟨fun ab=>⟨_,rfl,_,h.cells.1,(YM h.dev).use ?_⟩,fun ab=>J _ _ ⟨?_,rfl⟩⟩) ?_
 · rintro _ _ ⟨rfl,rfl⟩
   have ab:0≤no:=by simpa using ab
   refine ⟨_,rfl,J _ _ ⟨?_,rfl⟩⟩
   rw[o1,fI,fI]
   exact ⟨fun h=>⟨ab,h⟩,fun h=>h.2⟩
 · have ab:¬0≤no:=by simpa using ab
   rw[sH (fun h=>ab h.1)]
 · rintro _ _ ⟨rfl,rfl⟩
   exact ⟨rfl,rfl⟩
def AtR (C:eM) (no:Int) (v:Value):Prop:=
 (∃ (i:Nat) (hi:i<C.aB.length),v= .pointer (some ⟨C.bS,i*6,none⟩)∧(C.aB[i]).full=true∧(C.aB[i]).no=no)∨
 (v= .pointer none∧∀f∈C.aB,f.full=true→f.no≠no)
theorem Sg (h:lO w C) (no:Int):aQ Tryz.prog F.yQ #[.pointer (some ⟨C.c,0,none⟩), .int .i64 no] w (fun v w'=>AtR C no v∧w=w'):=by
 obtain ⟨cA,bd,bc⟩:=h.cells
 have ae:=h.e0
 refine W.aj4 (some ⟨C.c,0,none⟩) no w _ ?_
 (delta W.yQ aE aq a8 bP bA aC;dsimp only)
 refine ⟨fun h=>(by cases h),fun _=>⟨_,rfl,⟨some ⟨C.bS,0,none⟩,C.aB.length,C.aB.length⟩,bd,fun i w'=>∃j:Nat,i=j∧j≤C.aB.length∧w=w'∧∀ (k:Nat) (ae:k<C.aB.length),k<j→(C.aB[k]).full=true→(C.aB[k]).no≠no,fun i _=>((C.aB.length:Int)-i).toNat,⟨0,rfl,fx _,rfl,fun k _ h=>by omega⟩,?_⟩⟩
 rintro _ _ ⟨j,rfl,a6,rfl,gJ⟩
 refine ⟨fun a9=> ?_,fun cm=> ?_⟩
 · have a9:(j:Int)<((C.aB.length:Nat):Int):=dU a9
   have a9:j<C.aB.length:=by omega
   refine ⟨_,rfl,⟨some ⟨C.bS,0,none⟩,C.aB.length,C.aB.length⟩,bd,_,rfl,⟨by omega,by show (j:Int)<((C.aB.length:Nat):Int);omega⟩,_,rfl,?_⟩
   rw[NY]
   have f0:=w7 h.f a9 (j:=0) (by decide)
   have f3:=w7 h.f a9 (j:=3) (by decide)
   refine ⟨(C.aB[j]).full,f0,e4 (fun b w'=>w=w'∧(b=true↔((C.aB[j]).full=true∧(C.aB[j]).no=no))) (fun q J=>⟨fun ab=>⟨_,rfl,(C.aB[j]).no,by rw[aV];exact f3,J _ _ ⟨rfl,?_⟩⟩,fun ab=>J _ _ ⟨rfl,?_⟩⟩) ?_⟩
   · rw[zJ]
     exact ⟨fun h=>⟨ab,h⟩,fun h=>h.2⟩
   · rw[ab]
     exact ⟨fun h=>(by cases h),fun h=>(by cases h.1)⟩
   rintro b w' ⟨rfl,ab⟩
   refine ⟨fun U=>⟨.inl ⟨j,a9,rfl,(ab.1 U).1,(ab.1 U).2⟩,rfl⟩,fun U=> ?_⟩
   rw[cE (n:=(j:Int)+1) (by omega) (by omega)]
   refine ⟨⟨j+1,by omega,by omega,rfl,fun k ae ad ar=> ?_⟩,?_⟩
   · rcases hE k j with aI|aI
     · exact gJ k ae aI ar
     · have:k=j:=by omega
       subst this
       intro aW
       rw[ab.2 ⟨ar,aW⟩] at U;cases U
   · show ((C.aB.length:Int)-((j:Int)+1)).toNat<((C.aB.length:Int)-(j:Int)).toNat
     omega
 · have cm:j=C.aB.length:=by
     have:¬((j:Int)<((C.aB.length:Nat):Int)):=ff cm
     omega
   subst cm
   refine ⟨.inr ⟨rfl,fun f aG lP=> ?_⟩,rfl⟩
   obtain ⟨k,ae,rfl⟩:=na aG
   exact gJ k ae ae lP
theorem aj5 (h:lO w C):aQ Tryz.prog F.CK #[.pointer (some ⟨C.c,0,none⟩)] w (fun v w'=>((∃ (i:Nat) (hi:i<C.aB.length),v= .pointer (some ⟨C.bS,i*6,none⟩)∧(C.aB[i]).full=false)∨(v= .pointer none∧∀f∈C.aB,f.full=true))∧w=w'):=by
 obtain ⟨cA,bd,bc⟩:=h.cells
 have ae:=h.e0
 refine W.aj6 (some ⟨C.c,0,none⟩) w _ ?_
 (delta W.CK aq aE a8 bP aC;dsimp only)
 refine ⟨_,rfl,⟨some ⟨C.bS,0,none⟩,C.aB.length,C.aB.length⟩,bd,fun i w'=>∃j:Nat,i=j∧j≤C.aB.length∧w=w'∧∀ (k:Nat) (ae:k<C.aB.length),k<j→(C.aB[k]).full=true,fun i _=>((C.aB.length:Int)-i).toNat,⟨0,rfl,fx _,rfl,fun k _ h=>by omega⟩,?_⟩
 rintro _ _ ⟨j,rfl,a6,rfl,gJ⟩
 refine ⟨fun a9=> ?_,fun cm=> ?_⟩
 · have a9:(j:Int)<((C.aB.length:Nat):Int):=dU a9
   have a9:j<C.aB.length:=by omega
   have f0:=w7 h.f a9 (j:=0) (by decide)
   refine ⟨_,rfl,⟨some ⟨C.bS,0,none⟩,C.aB.length,C.aB.length⟩,bd,_,rfl,⟨by omega,by show (j:Int)<((C.aB.length:Nat):Int);omega⟩,(C.aB[j]).full,by rw[NY];exact f0,fun ab=>⟨_,rfl,⟨some ⟨C.bS,0,none⟩,C.aB.length,C.aB.length⟩,bd,_,rfl,⟨by omega,by show (j:Int)<((C.aB.length:Nat):Int);omega⟩, .inl ⟨j,a9,by rw[NY],by simpa using ab⟩,rfl⟩,fun ab=> ?_⟩
   rw[cE (n:=(j:Int)+1) (by omega) (by omega)]
   refine ⟨⟨j+1,by omega,by omega,rfl,fun k ae ad=> ?_⟩,?_⟩
   · rcases hE k j with aI|aI
     · exact gJ k ae aI
     · have:k=j:=by omega
       subst this
       simpa using ab
   · show ((C.aB.length:Int)-((j:Int)+1)).toNat<((C.aB.length:Int)-(j:Int)).toNat
     omega
 · have cm:j=C.aB.length:=by
     have:¬((j:Int)<((C.aB.length:Nat):Int)):=ff cm
     omega
   subst cm
   refine ⟨.inr ⟨rfl,fun f aG=> ?_⟩,rfl⟩
   obtain ⟨k,ae,rfl⟩:=na aG
   exact gJ k ae ae
def qT (fs gs:List Fr):Prop:=gs.length=fs.length∧∀ (i:Nat) (U:i<fs.length) (ad:i<gs.length),gs[i]={fs[i] with used:=(gs[i]).used}
theorem qT.refl (fs:List Fr):qT fs fs:=⟨rfl,fun i U ad=>rfl⟩
theorem qT.set {fs gs:List Fr} (h:qT fs gs) {i:Nat} (hi:i<gs.length) (u:Bool):qT fs (gs.set i {gs[i] with used:=u}):=by
 refine ⟨by rw[je];exact h.1,fun j U ad=> ?_⟩
 rw[List.getElem_set]
 split
 · rename_i e
   subst e
   have:=h.2 i U hi
   rw[this]
 · exact h.2 j U _
theorem aj7 (h:lO w C) (aT:∀f∈C.aB,f.pins=0):aQ Tryz.prog F.CL #[.pointer (some ⟨C.c,0,none⟩)] w (fun v w'=>∃ (i:Nat) (gs:List Fr) (hd:Nat),i<C.aB.length∧v= .pointer (some ⟨C.bS,i*6,none⟩)∧qT C.aB gs∧lO w' {C with aB:=gs,hand:=hd}∧ao (fun q=>q=C.c∨q=C.bS) w w'):=by
 obtain ⟨cA,bd,bc⟩:=h.cells
 have jK:=h.dR
 have dW:=h.e0
 have aj8:=h.hd
 refine W.aj9 (some ⟨C.c,0,none⟩) w _ ?_
 (delta W.CL bA aq aE aC a8 bP st;dsimp only)
 refine ⟨_,rfl,_,bc,_,rfl,⟨some ⟨C.bS,0,none⟩,C.aB.length,C.aB.length⟩,bd,fun aj_ i w'=>∃ (s:Nat) (gs:List Fr),i=s∧s≤C.aB.length∧aj_=(((C.hand+s)%C.aB.length:Nat):Int)∧qT C.aB gs∧lO w' {C with aB:=gs}∧ao (fun q=>q=C.c∨q=C.bS) w w'∧∀ (t:Nat) (af:(C.hand+t)%C.aB.length<gs.length),t<s→(gs[(C.hand+t)%C.aB.length]).used=false,
   fun _ i _=>(2*(C.aB.length:Int)-i).toNat,⟨0,C.aB,rfl,fx _,by rw[zE,uL aj8],qT.refl _,h, .refl _ _,fun t _ h=>by omega⟩,?_⟩
 rintro _ _ ag ⟨s,gs,rfl,aj,rfl,qU,aU,al,gJ⟩
 have NZ:gs.length=C.aB.length:=qU.1
 obtain ⟨i,hi⟩:∃i,i=(C.hand+s)%C.aB.length:=⟨_,rfl⟩
 have pN:i<gs.length:=by rw[hi,NZ];exact sI _ (by omega)
 rw[←hi]
 obtain ⟨d0,d1,d2⟩:=aU.cells
 have d1:ag.cell? (Addr.add ⟨C.c,0,none⟩ 1)=some (.slice (some ⟨C.bS,0,none⟩) gs.length gs.length):=d1
 have aG:cn ag C.bS (cz Fr.c gs).toArray ah.rD:=aU.f
 rw[cE (n:=2*((C.aB.length:Nat):Int)) (by omega) (by omega)]
 have hw:IntKind.wrap .i64 (((i:Nat):Int)+1)=((i+1:Nat):Int):=by rw[cE (by omega) (by omega)];rfl
 have Y4:Int.tmod ((i+1:Nat):Int) ((gs.length:Nat):Int)=(((i+1)%gs.length:Nat):Int):=by
   rw[Int.tmod_eq_emod_of_nonneg (by omega)];rfl
 have aka:(i+1)%gs.length=(C.hand+(s+1))%C.aB.length:=by
   rw[hi,NZ,Nat.mod_add_mod];rfl
 refine ⟨fun a9=> ?_,fun cm=> ?_⟩
 · refine e4 (fun a w'=>a=(((C.hand+(s+1))%C.aB.length:Nat):Int)∧∃Hj:List Fr,s+1≤C.aB.length∧qT C.aB Hj∧lO w' {C with aB:=Hj}∧ao (fun q=>q=C.c∨q=C.bS) w w'∧∀ (t:Nat) (af:(C.hand+t)%C.aB.length<Hj.length),t<s+1→(Hj[(C.hand+t)%C.aB.length]).used=false) (fun q J=>⟨_,rfl,⟨some ⟨C.bS,0,none⟩,gs.length,gs.length⟩,d1,_,rfl,⟨by omega,by show (i:Int)<((gs.length:Nat):Int);omega⟩,_,rfl,⟨some ⟨C.bS,0,none⟩,gs.length,gs.length⟩,d1,by show ((gs.length:Nat):Int)≠0;omega,_,rfl,?_⟩) ?_
   · rw[NY,hw]
     have f4:=w7 aG pN (j:=4) (by decide)
     have f2:=w7 aG pN (j:=2) (by decide)
     have CM:(gs[i]).pins=0:=by
       have U:=qU.2 i (by omega) pN
       have ad:(gs[i]).pins=(C.aB[i]'(by omega)).pins:=by rw[U]
       rw[ad]
       exact aT _ (fv _)
     refine ⟨(gs[i]).pins,by rw[aV];exact f4,fun ab=> ?_,fun _=>⟨_,rfl,(gs[i]).used,by rw[aV];exact f2,fun hu=>⟨_,rfl,?_⟩,fun hu=>⟨_,rfl,?_⟩⟩⟩
     · rw[CM] at ab;simp at ab
     · have N0:s<C.aB.length:=by
         rcases hE s C.aB.length with U|U
         · exact U
         · have es:s=C.aB.length:=by omega
           have gK:(C.hand+0)%C.aB.length=i:=by rw[hi,es,Nat.add_mod_right];rfl
           have ad:=gJ 0 (by rw[gK];exact pN) (by omega)
           have ar:(gs[i]).used=false:=by
             have e:gs[(C.hand+0)%C.aB.length]'(by rw[gK];exact pN)=gs[i]:=by congr 1
             rw[←e];exact ad
           rw[ar] at hu;cases hu
       obtain ⟨aA,aF,aJ,aO⟩:=EZ aG pN (j:=2) (by decide) (v:= .bool false) {gs[i] with used:=false} rfl
       rw[aV]
       refine ⟨aA,aF,bM (J _ _ ⟨by rw[Y4,aka],gs.set i {gs[i] with used:=false},N0,qU.set pN false,?_,al.trans (aO.mono fun q _ e=> .inr e),fun t af aN=> ?_⟩)⟩
       · have ak:=aU.v.an aO h.bj.1
         refine ⟨?_,aJ,aU.dev.an aO (fun q J e=>h.bj.2.2 (e▸J)),?_,?_,?_,h.bj⟩
         · show Var _ _ [_, .slice (some ⟨C.bS,0,none⟩) (gs.set i _).length (gs.set i _).length,_] _
           rw[je];exact ak
         · show 8≤(gs.set i _).length;rw[je];omega
         · show (gs.set i _).length≤64;rw[je];omega
         · show C.hand<(gs.set i _).length;rw[je];omega
       · rw[List.getElem_set]
         split
         · rfl
         · rename_i en
           rcases hE t s with U|U
           · exact gJ t _ U
           · have:t=s:=by omega
             subst this
             exact absurd hi en
     · obtain ⟨s1,s2⟩:=j5 aU.v (i:=2) (by simp)
       rw[aV,Y4]
       refine ⟨s1,s2,bM ⟨i,gs,(i+1)%gs.length,by omega,rfl,qU,?_,al.trans ((iL _ _ _ _).mono fun q _ e=> .inl e)⟩⟩
       have qe:=iL ag C.c 2 (.int .i64 (((i+1)%gs.length:Nat):Int))
       refine ⟨j4 aU.v (i:=2) (.int .i64 (((i+1)%gs.length:Nat):Int)),cn.an aG qe (fun e=>h.bj.1 e.symm),aU.dev.an qe (fun q J e=>h.bj.2.1 (e▸J)),aU.dR,aU.e0,?_,h.bj⟩
       exact sI _ (by omega)
   · rintro a w' ⟨rfl,Hj,U,ad,ar,aI,aW⟩
     rw[cE (n:=(s:Int)+1) (by omega) (by omega)]
     refine ⟨⟨s+1,Hj,by omega,U,rfl,ad,ar,aI,aW⟩,?_⟩
     show (2*(C.aB.length:Int)-((s:Int)+1)).toNat<(2*(C.aB.length:Int)-(s:Int)).toNat
     omega
 · have:=ff cm
   omega
end
end
section
structure lr (C bt:eM) (w w':World) (k:Nat):Prop where
 c:bt.c=C.c
 d:bt.D.d=C.D.d
 len:bt.aB.length=C.aB.length
 f_:bt.D.f_=C.D.f_
 cI:bt.D.cI≤C.D.cI+k
 calm:∀m,C.D.calm (m+k)→bt.D.calm m
 an:ao (jq C) w w'
 jR:∀q,jq bt q→jq C q∨w.heap.size≤q
theorem lr.refl (C:eM) (w:World):lr C C w w 0:=⟨rfl,rfl,rfl,rfl,cP _,fun _ h=>h, .refl _ _,fun _ h=> .inl h⟩
theorem lr.ext {w w':World} (C:eM) (h:Ext w w'):lr C C w w' 0:=⟨rfl,rfl,rfl,rfl,cP _,fun _ h=>h,ao.eK h,fun _ h=> .inl h⟩
theorem lr.trans {C bt Y5:eM} {w w' hO:World} {k l:Nat} (U:lr C bt w w' k) (ad:lr bt Y5 w' hO l):lr C Y5 w hO (k+l):=by
 have aj:=U.an.size
 refine ⟨ad.c.trans U.c,ad.d.trans U.d,ad.len.trans U.len,ad.f_.trans U.f_,by have:=U.cI;have:=ad.cI;omega,fun m hm=>ad.calm m (U.calm (m+l) (by rw[show m+l+k=m+(k+l) by omega];exact hm)),mA U.an ad.an fun q J h=>(U.jR q h).resolve_right (by omega),fun q J=> ?_⟩
 rcases ad.jR q J with h|h
 · exact U.jR q h
 · exact .inr (by omega)
theorem lr.mono {C bt:eM} {w w':World} {k l:Nat} (h:lr C bt w w' k) (az:k≤l):lr C bt w w' l:=
 ⟨h.c,h.d,h.len,h.f_,by have:=h.cI;omega,fun m hm=>h.calm m (oe hm (by omega)),h.an,h.jR⟩
theorem lr.n {C bt:eM} {w w':World} {k:Nat} (h:lr C bt w w' k):bt.D.n=C.D.n:=by unfold eo.n;rw[h.f_]
section
variable {w w':World} {C:eM} {X:Nat→Prop}
theorem CN {fs:List Fr} {D:eo} {c bS hd:Nat} (un:∀ (i j:Nat) (hi:i<fs.length) (a6:j<fs.length),(fs[i]).full=true→(fs[j]).full=true→(fs[i]).no=(fs[j]).no→i=j) {i:Nat} (hi:i<fs.length) {no:Nat} (aG:(fs[i]).full=true) (aD:(fs[i]).no=no):(eM.mk c bS fs hd D).view no=(fs[i]).l:=by
 unfold eM.view
 cases Hk:fs.find? fun f=>f.full&&f.no==(no:Int) with
 |none=>
   have:=r2.1 Hk _ (fv hi)
   simp[aG,aD] at this
 |some f=>
   have hm:=Ed Hk
   have aT:=Gj Hk
   simp only[jw,zJ] at aT
   obtain ⟨j,a6,rfl⟩:=na hm
   have:=un i j hi a6 aG aT.1 (by rw[aD,aT.2])
   subst this
   simp only
theorem CO {fs:List Fr} {D:eo} {c bS hd:Nat} {no:Nat} (h:∀f∈fs,f.full=true→f.no≠no):(eM.mk c bS fs hd D).view no=D.now no:=by
 unfold eM.view
 cases Hk:fs.find? fun f=>f.full&&f.no==(no:Int) with
 |none=>rfl
 |some f=>
   have hm:=Ed Hk
   have aT:=Gj Hk
   simp only[jw,zJ] at aT
   exact absurd aT.2 (h f hm aT.1)
theorem bD.Sh {B w8:Nat→Prop} {w w':World} {t:aa} {l:Key} {V:Nat→Prop} (h:bD B w t l) (al:ao V w w') (ak:∀q,q<w.heap.size→B q→¬V q) (ab:∀q,q<w.heap.size→B q→w8 q):bD w8 w' t l:=
 ⟨h.1.an al fun q J=>ak q (h.2.2 q J).2 (h.2.2 q J).1,h.2.1,fun q J=>⟨ab q (h.2.2 q J).2 (h.2.2 q J).1,lg (h.2.2 q J).2 al.size⟩⟩
theorem N1 {gs:List Fr} {hd:Nat} {aM:eo} {V:Nat→Prop} (h:qS X w C) (aj:qT C.aB gs) (al:ao V w w') (tR:∀q,q<w.heap.size→V q→jq C q) (aD:aM.n=C.D.n) (sj:∀i,aM.now i=C.D.now i) (rE:∀q,nm aM q→nm C.D q∨w.heap.size≤q):qS X w' {C with aB:=gs,hand:=hd,D:=aM}:=by
 have dB:=al.size
 have vn:∀q,q<w.heap.size→jq {C with aB:=gs,hand:=hd,D:=aM} q→jq C q:=fun q J aG=>by
   rcases aG with U|U|U
   · exact .inl U
   · exact .inr (.inl U)
   · exact .inr (.inr ((rE q U).resolve_right (by omega)))
 have w9:∀ (i:Nat) (hi:i<gs.length),∃fa:i<C.aB.length,gs[i]={C.aB[i] with used:=(gs[i]).used}:=fun i hi=>⟨by rw[←aj.1];exact hi,aj.2 i (by rw[←aj.1];exact hi) hi⟩
 refine ⟨fun f aG=> ?_,fun f aG lP=> ?_,fun i j hi a6 U ad ar=> ?_,fun q J=>⟨lg (h.nn q J).1 dB,fun aG=>(h.nn q J).2 (vn q (h.nn q J).1 aG)⟩⟩
 · obtain ⟨i,hi,rfl⟩:=na aG
   obtain ⟨fa,e⟩:=w9 i hi
   have:(gs[i]).pins=(C.aB[i]).pins:=by rw[e]
   rw[this]
   exact h.pins _ (fv fa)
 · obtain ⟨i,hi,rfl⟩:=na aG
   obtain ⟨fa,e⟩:=w9 i hi
   have aY:(gs[i]).full=(C.aB[i]).full:=by rw[e]
   have bm:(gs[i]).no=(C.aB[i]).no:=by rw[e]
   have dM:(gs[i]).b=(C.aB[i]).b:=by rw[e]
   have kE:(gs[i]).l=(C.aB[i]).l:=by rw[e]
   have lE:(gs[i]).w6=(C.aB[i]).w6:=by rw[e]
   obtain ⟨no,aA,aF,aJ,aO,cS⟩:=h.ok _ (fv fa) (by rw[←aY];exact lP)
   refine ⟨no,by rw[bm];exact aA,by rw[aD];exact aF,?_,by rw[kE];exact aO,fun hd=>by rw[kE,sj];exact cS (by rw[←lE];exact hd)⟩
   rw[dM,kE]
   exact bD.Sh aJ al (fun q J ab ak=>ab.1 (tR q J ak)) fun q J ab=>⟨fun aG=>ab.1 (vn q J aG),ab.2⟩
 · obtain ⟨fa,e⟩:=w9 i hi
   obtain ⟨Kg,eH⟩:=w9 j a6
   have aY:(gs[i]).full=(C.aB[i]).full:=by rw[e]
   have bm:(gs[i]).no=(C.aB[i]).no:=by rw[e]
   have dM:(gs[j]).full=(C.aB[j]).full:=by rw[eH]
   have kE:(gs[j]).no=(C.aB[j]).no:=by rw[eH]
   exact h.un i j fa Kg (by rw[←aY];exact U) (by rw[←dM];exact ad) (by rw[←bm,←kE];exact ar)
theorem N2 {gs:List Fr} {hd:Nat} {aM:eo} (h:qS X w C) (aj:qT C.aB gs) (sj:∀i,aM.now i=C.D.now i) (no:Nat):(eM.mk C.c C.bS gs hd aM).view no=C.view no:=by
 have w9:∀ (i:Nat) (hi:i<gs.length),∃fa:i<C.aB.length,gs[i]={C.aB[i] with used:=(gs[i]).used}:=fun i hi=>⟨by rw[←aj.1];exact hi,aj.2 i (by rw[←aj.1];exact hi) hi⟩
 by_cases hex:∃ (i:Nat) (hi:i<C.aB.length),(C.aB[i]).full=true∧(C.aB[i]).no=no
 · obtain ⟨i,hi,U,ad⟩:=hex
   have gZ:i<gs.length:=by rw[aj.1];exact hi
   obtain ⟨fa,e⟩:=w9 i gZ
   have aY:(gs[i]).full=(C.aB[i]).full:=by rw[e]
   have bm:(gs[i]).no=(C.aB[i]).no:=by rw[e]
   have dM:(gs[i]).l=(C.aB[i]).l:=by rw[e]
   have vo:∀ (i j:Nat) (hi:i<gs.length) (a6:j<gs.length),(gs[i]).full=true→(gs[j]).full=true→(gs[i]).no=(gs[j]).no→i=j:=by
     intro a b aS ab dR e0 nk
     obtain ⟨om,mW⟩:=w9 a aS
     obtain ⟨kn,nO⟩:=w9 b ab
     have f1:(gs[a]).full=(C.aB[a]).full:=by rw[mW]
     have f2:(gs[a]).no=(C.aB[a]).no:=by rw[mW]
     have f3:(gs[b]).full=(C.aB[b]).full:=by rw[nO]
     have f4:(gs[b]).no=(C.aB[b]).no:=by rw[nO]
     exact h.un a b om kn (by rw[←f1];exact dR) (by rw[←f3];exact e0) (by rw[←f2,←f4];exact nk)
   rw[CN vo gZ (by rw[aY];exact U) (by rw[bm];exact ad),dM]
   exact (CN (fs:=C.aB) (D:=C.D) (c:=C.c) (bS:=C.bS) (hd:=C.hand) h.un hi U ad).symm
 · have dg:∀f∈C.aB,f.full=true→f.no≠no:=fun f aG U ad=>by
     obtain ⟨i,hi,rfl⟩:=na aG
     exact hex ⟨i,hi,U,ad⟩
   have e:C.view no=C.D.now no:=CO (fs:=C.aB) (D:=C.D) (c:=C.c) (bS:=C.bS) (hd:=C.hand) dg
   rw[e,←sj]
   refine CO fun f aG U ad=> ?_
   obtain ⟨i,hi,rfl⟩:=na aG
   obtain ⟨fa,e⟩:=w9 i hi
   have aY:(gs[i]).full=(C.aB[i]).full:=by rw[e]
   have bm:(gs[i]).no=(C.aB[i]).no:=by rw[e]
   exact dg _ (fv fa) (by rw[←aY];exact U) (by rw[←bm];exact ad)
theorem Y6 {i:Nat} (hi:i<C.aB.length) {aM:eo} {V:Nat→Prop} (h:qS X w C) (al:ao V w w') (tR:∀q,q<w.heap.size→V q→jq C q) (aD:aM.n=C.D.n)
   (sj:∀j:Nat,((C.aB[i]).full=true→(C.aB[i]).no≠j)→aM.now j=C.D.now j) (rE:∀q,nm aM q→nm C.D q∨w.heap.size≤q) (f0:Fr) (vp:f0.full=false) (Si:f0.pins=0):qS X w' {C with aB:=C.aB.set i f0,D:=aM}:=by
 have dB:=al.size
 have vn:∀q,q<w.heap.size→jq {C with aB:=C.aB.set i f0,D:=aM} q→jq C q:=fun q J aG=>by
   rcases aG with U|U|U
   · exact .inl U
   · exact .inr (.inl U)
   · exact .inr (.inr ((rE q U).resolve_right (by omega)))
 refine ⟨fun f aG=> ?_,fun f aG lP=> ?_,fun a b aS ab U ad ar=> ?_,fun q J=>⟨lg (h.nn q J).1 dB,fun aG=>(h.nn q J).2 (vn q (h.nn q J).1 aG)⟩⟩
 · rcases Ej aG with aG|rfl
   · exact h.pins f aG
   · exact Si
 · obtain ⟨k,ae,rfl⟩:=na aG
   have jJ:k<C.aB.length:=by simpa using ae
   by_cases e:i=k
   · subst e
     simp only[uM] at lP
     rw[vp] at lP;cases lP
   · simp only[mO e] at lP⊢
     obtain ⟨no,aA,aF,aJ,aO,cS⟩:=h.ok _ (fv jJ) lP
     refine ⟨no,aA,by rw[aD];exact aF,bD.Sh aJ al (fun q J ab ak=>ab.1 (tR q J ak)) fun q J ab=>⟨fun aG=>ab.1 (vn q J aG),ab.2⟩,aO,fun hd=> ?_⟩
     show _=aM.now no
     rw[sj no fun py he=>e (h.un i k hi jJ py lP (by rw[he,aA]))]
     exact cS hd
 · have om:a<C.aB.length:=by simpa using aS
   have kn:b<C.aB.length:=by simpa using ab
   by_cases mW:i=a
   · subst mW
     simp only[uM] at U
     rw[vp] at U;cases U
   by_cases nO:i=b
   · subst nO
     simp only[uM] at ad
     rw[vp] at ad;cases ad
   simp only[mO mW] at U ar
   simp only[mO nO] at ad ar
   exact h.un a b om kn U ad ar
theorem akb {i:Nat} (hi:i<C.aB.length) {aM:eo} {hd:Nat} (h:qS X w C) (az:(C.aB[i]).full=true→∀j:Nat,(C.aB[i]).no=j→aM.now j=(C.aB[i]).l) (sj:∀j:Nat,((C.aB[i]).full=true→(C.aB[i]).no≠j)→aM.now j=C.D.now j) (f0:Fr) (vp:f0.full=false) (no:Nat):
   (eM.mk C.c C.bS (C.aB.set i f0) hd aM).view no=C.view no:=by
 by_cases hex:∃ (k:Nat) (ae:k<C.aB.length),(C.aB[k]).full=true∧(C.aB[k]).no=no
 · obtain ⟨k,ae,U,ad⟩:=hex
   have gK:=CN (fs:=C.aB) (D:=C.D) (c:=C.c) (bS:=C.bS) (hd:=C.hand) h.un ae U ad
   have gK:C.view no=(C.aB[k]).l:=gK
   rw[gK]
   by_cases e:i=k
   · subst e
     rw[←az U no ad]
     refine CO fun f aG aA aF=> ?_
     obtain ⟨a,aS,rfl⟩:=na aG
     have om:a<C.aB.length:=by simpa using aS
     by_cases mW:i=a
     · subst mW
       simp only[uM] at aA
       rw[vp] at aA;cases aA
     · simp only[mO mW] at aA aF
       exact mW (h.un i a hi om U aA (by rw[ad,aF]))
   · have dW:k<(C.aB.set i f0).length:=by simpa using ae
     have sK:(C.aB.set i f0)[k]=C.aB[k]:=mO e _
     have vo:∀ (a b:Nat) (aS:a<(C.aB.set i f0).length) (ab:b<(C.aB.set i f0).length),((C.aB.set i f0)[a]).full=true→((C.aB.set i f0)[b]).full=true→((C.aB.set i f0)[a]).no=((C.aB.set i f0)[b]).no→a=b:=by
       intro a b aS ab U ad ar
       have om:a<C.aB.length:=by simpa using aS
       have kn:b<C.aB.length:=by simpa using ab
       by_cases mW:i=a
       · subst mW
         simp only[uM] at U
         rw[vp] at U;cases U
       by_cases nO:i=b
       · subst nO
         simp only[uM] at ad
         rw[vp] at ad;cases ad
       simp only[mO mW] at U ar
       simp only[mO nO] at ad ar
       exact h.un a b om kn U ad ar
     rw[CN vo dW (by rw[sK];exact U) (by rw[sK];exact ad),sK]
 · have dg:∀f∈C.aB,f.full=true→f.no≠no:=fun f aG U ad=>by
     obtain ⟨k,ae,rfl⟩:=na aG
     exact hex ⟨k,ae,U,ad⟩
   have e:C.view no=C.D.now no:=CO (fs:=C.aB) (D:=C.D) (c:=C.c) (bS:=C.bS) (hd:=C.hand) dg
   rw[e,←sj no fun U ad=>dg _ (fv hi) U ad]
   refine CO fun f aG U ad=> ?_
   rcases Ej aG with aG|rfl
   · exact dg f aG U ad
   · rw[vp] at U;cases U
def Y7 (X:Nat→Prop) (C:eM) (w:World) (v:Value) (w':World):Prop:=
 ∃bt:eM,mV X w' bt∧lr C bt w w' 1∧bt.bS=C.bS∧(∀j,bt.view j=C.view j)∧(∀f∈bt.aB,f.full=true→∃g∈C.aB,g.full=true∧g.no=f.no)∧
   ((∃ (i:Nat) (hi:i<bt.aB.length),v= .tuple #[.pointer (some ⟨C.bS,i*6,none⟩), .int .i64 0]∧(bt.aB[i]).full=false∧((bt.aB[i]).pins=0))∨
    (v= .tuple #[.pointer none, .int .i64 3]∧¬C.D.calm 1))
theorem Y8 (h:mV X w C) (gV:C.D.cI≤1000000000):aQ Tryz.prog F.Aq #[.pointer (some ⟨C.c,0,none⟩)] w (Y7 X C w):=by
 have nP:=h.raw
 refine W.akc (some ⟨C.c,0,none⟩) w _ ?_
 (delta W.Aq Ar aE bP bA aq bc;dsimp only)
 refine (aj5 nP).use ?_
 rintro _ _ ⟨he,rfl⟩
 rcases he with ⟨i,hi,rfl,aG⟩|⟨rfl,gJ⟩
 · exact ⟨_,rfl,fun _=>⟨C,h,(lr.refl C w).mono (fx _),rfl,fun _=>rfl,fun f aG og=>⟨f,aG,og,rfl⟩, .inl ⟨i,hi,rfl,aG,h.inv.pins _ (fv hi)⟩⟩,fun h=>(by cases h)⟩
 refine ⟨_,rfl,fun h=>(by cases h),fun _=>(aj7 nP h.inv.pins).use ?_⟩
 rintro _ ag ⟨i,gs,hd,hi,rfl,qU,k3,iZ⟩
 have gZ:i<gs.length:=by rw[qU.1];exact hi
 have Kh:ao (jq C) w ag:=iZ.mono fun q _ J=>by
   rcases J with J|J
   · exact .inl J
   · exact .inr (.inl J)
 have E0:=N1 (hd:=hd) (aM:=C.D) h.inv qU Kh (fun q _ h=>h) rfl (fun _=>rfl) fun q J=> .inl J
 have N3:=N2 (hd:=hd) (aM:=C.D) h.inv qU fun _=>rfl
 obtain ⟨ba,w_⟩:∃ba:eM,ba={C with aB:=gs,hand:=hd}:=⟨_,rfl⟩
 have E0:qS X ag ba:=by rw[w_];exact E0
 have k3:lO ag ba:=by rw[w_];exact k3
 have N3:∀no,ba.view no=C.view no:=by rw[w_];exact N3
 have Y9:∀q,jq ba q↔jq C q:=by rw[w_];exact fun q=>Iff.rfl
 have oN:ba.D=C.D:=by rw[w_]
 have o9:ba.c=C.c∧ba.bS=C.bS:=by rw[w_];exact ⟨rfl,rfl⟩
 have sm:ba.aB=gs:=by rw[w_]
 have r3:i<ba.aB.length:=by rw[sm];exact gZ
 have lP:(ba.aB[i]).full=true:=by
   have e:=qU.2 i hi gZ
   have:(gs[i]).full=(C.aB[i]).full:=by rw[e]
   simp only[sm]
   rw[this]
   exact gJ _ (fv hi)
 have iK:∀f∈ba.aB,f.full=true→∃g∈C.aB,g.full=true∧g.no=f.no:=by
   rw[sm]
   intro f aG og
   obtain ⟨k,ae,rfl⟩:=na aG
   have jJ:k<C.aB.length:=by rw[←qU.1];exact ae
   have e:=qU.2 k jJ ae
   have aY:(gs[k]).full=(C.aB[k]).full:=by rw[e]
   have bm:(gs[k]).no=(C.aB[k]).no:=by rw[e]
   exact ⟨C.aB[k],fv jJ,by rw[←aY];exact og,bm.symm⟩
 obtain ⟨no,aA,aF,aJ,aO,cS⟩:=E0.ok _ (fv r3) lP
 have f1:=w7 k3.f r3 (j:=1) (by decide)
 have fin:∀ (aw:World) (aM:eo),ao (jq C) ag aw→lO aw {ba with D:=aM}→lr C {ba with D:=aM} w aw 1→aM.n=C.D.n→(∀j:Nat,(ba.aB[i]).no≠j→aM.now j=C.D.now j)→(∀j:Nat,(ba.aB[i]).no=j→aM.now j=(ba.aB[i]).l)→(∀q,nm aM q→nm C.D q∨ag.heap.size≤q)→
     ∃k4:Addr,(some ⟨C.bS,i*6,none⟩:Option Addr)=some k4∧cM aw k4 [.bool false, .bool false, .bool false, .int .i64 0, .int .i64 0, .slice none 0 0]∧(6:Nat)=6∧ay (setCells aw k4 0 [.bool false, .bool false, .bool false, .int .i64 0, .int .i64 0, .slice none 0 0]) fun cO=>Y7 X C w (.tuple #[.pointer (some ⟨C.bS,i*6,none⟩), .int .i64 0]) cO:=by
   intro aw aM akd fK b4 xa Y_ ake Hl
   have g2:cn aw ba.bS (cz Fr.c ba.aB).toArray ah.rD:=fK.f
   obtain ⟨s1,s2,bQ⟩:=Sf g2 r3 hA
   rw[o9.2] at s1 s2 bQ
   have Sj:qS X (setCells aw ⟨C.bS,i*6,none⟩ 0 hA.c) {ba with aB:=ba.aB.set i hA,D:=aM}:=by
     refine Y6 (V:=jq C) (w:=ag) r3 E0 (akd.trans (bQ.mono fun q _ e=> .inr (.inl e))) (fun q _ J=>(Y9 q).2 J) (by rw[oN];exact xa) (fun j a6=>by rw[oN];exact Y_ j fun e=>a6 lP e) (fun q J=>by rw[oN];exact Hl q J) hA rfl rfl
   have g1:=fK.v
   refine ⟨_,rfl,s1,rfl,bM ⟨{ba with aB:=ba.aB.set i hA,D:=aM},⟨?_,Sj⟩,?_,o9.2,fun j=> ?_,fun f aG og=> ?_, .inl ⟨i,by show i<(ba.aB.set i hA).length;rw[je];exact r3,rfl,by simp[hA],by simp[hA]⟩⟩⟩
   · have en:ba.c≠C.bS:=by have:=fK.bj.1;rw[←o9.2];exact this
     refine ⟨?_,by show cn _ ba.bS _ _;rw[o9.2];exact s2,fK.dev.an bQ (fun q J e=>fK.bj.2.2 (by rw[show ({ba with D:=aM}:eM).bS=ba.bS from rfl,o9.2,←e];exact J)),?_,?_,?_,fK.bj⟩
     · have:=g1.an bQ en
       show Var _ _ [_, .slice _ (ba.aB.set i hA).length (ba.aB.set i hA).length,_] _
       rw[je];exact this
     · show 8≤(ba.aB.set i hA).length;rw[je];exact fK.dR
     · show (ba.aB.set i hA).length≤64;rw[je];exact fK.e0
     · show ba.hand<(ba.aB.set i hA).length;rw[je];exact fK.hd
   · refine ⟨b4.c,b4.d,by show (ba.aB.set i hA).length=_;rw[je];exact b4.len,b4.f_,b4.cI,b4.calm,b4.an.trans (bQ.mono fun q _ e=> .inr (.inl e)),b4.jR⟩
   · rw[←N3]
     exact akb r3 E0 (fun _ j a6=>ake j a6) (fun j a6=>by rw[oN];exact Y_ j fun e=>a6 lP e) hA rfl j
   · rcases Ej aG with aG|rfl
     · exact iK f aG og
     · cases og
 refine ⟨_,rfl,fun h=>(by cases h),fun _=>ym (fun aw=>∃aM:eo,ao (jq C) ag aw∧lO aw {ba with D:=aM}∧lr C {ba with D:=aM} w aw 1∧aM.n=C.D.n∧(∀j:Nat,(ba.aB[i]).no≠j→aM.now j=C.D.now j)∧(∀j:Nat,(ba.aB[i]).no=j→aM.now j=(ba.aB[i]).l)∧(∀q,nm aM q→nm C.D q∨ag.heap.size≤q)) (fun q J=>⟨_,rfl,(ba.aB[i]).w6,?_,fun atS=> ?_,fun akf=>J _ ⟨C.D, .refl _ _,?_,?_,rfl,fun _ _=>rfl,fun j a6=> ?_,fun q h=> .inl h⟩⟩) ?_⟩
 · rw[aV,←o9.2];exact f1
 ·
   have bx:=eE ag
   have dm:=k3.ext bx
   obtain ⟨gK,_,_⟩:=dm.cells
   rw[o9.1,oN] at gK
   have f3:=w7 dm.f r3 (j:=3) (by decide)
   have f5:=w7 dm.f r3 (j:=5) (by decide)
   rw[o9.2] at f3 f5
   refine bM ⟨_,rfl,id,_,gK,_,rfl,id,((no:Nat):Int),?_,_,rfl,id,(ba.aB[i]).b,by rw[aV];exact f5,?_⟩
   · rw[aV,f3]
     show some (Value.int .i64 (ba.aB[i]).no)=_
     rw[aA]
   have akg:j8 ag.drew C.D:=by rw[←oN];exact dm.dev
   refine (ajU akg (i:=no) (by rw[←oN];exact aF) gV (aJ.1.ext bx) aO fun q J aG=>(aJ.2.2 q J).1.1 (.inr (.inr (by rw[oN];exact aG)))).use ?_
   rintro v2 aw hw
   rcases hw with ⟨ab,rfl,lH,dS⟩|⟨ab,rfl,s,lH,dS,gC⟩
   · have qe:ao (jq C) ag aw:=(ao.eK bx).trans (dS.mono fun q _ e=> .inr (.inr (.inl e)))
     refine ⟨3,rfl,fun _=>⟨{ba with D:=C.D.jo 2},⟨?_,?_⟩,?_,o9.2,fun j=> ?_,iK, .inr ⟨rfl,fun Nw=> ?_⟩⟩,fun h=>(by cases h)⟩
     · have fK:=dm.v.an dS (fun e=>dm.bj.2.1 (.inl (by rw[oN];exact e)))
       rw[oN] at fK
       have aS:=k3.bj
       rw[oN] at aS
       exact ⟨fK,cn.an dm.f dS (fun e=>dm.bj.2.2 (.inl (by rw[oN];exact e))),lH,k3.dR,k3.e0,k3.hd,aS⟩
     · have:=N1 (C:=ba) (hd:=ba.hand) (aM:=C.D.jo 2) E0 (qT.refl _) qe (fun q _ J=>(Y9 q).2 J) (by rw[oN];rfl) (fun j=>by rw[oN];rfl) fun q J=> .inl (by rw[oN];exact J)
       exact this
     · refine ⟨o9.1,rfl,by show ba.aB.length=_;rw[sm];exact qU.1,rfl,zK _,fun m hm=>(Kf (.inr rfl) h.raw.dev.f4 hm).1,Kh.trans qe,fun q J=> .inl ?_⟩
       rcases J with e|e|e
       · exact .inl (by rw[←o9.1];exact e)
       · exact .inr (.inl (by rw[←o9.2];exact e))
       · exact .inr (.inr e)
     · rw[←N3]
       exact N2 (C:=ba) E0 (qT.refl _) (fun j=>by rw[oN];rfl) j
     · have:=(Kf (k:=2) (m:=0) (.inr rfl) h.raw.dev.f4 Nw).2
       rw[ab] at this;cases this
   · have qe:ao (jq C) ag aw:=(ao.eK bx).trans (dS.mono fun q _ e=> .inr (.inr e))
     have Hl:∀q,nm (C.D.put no s (ba.aB[i]).l) q→nm C.D q∨ag.heap.size≤q:=by
       rintro q (e|e|e|⟨x,af,e⟩)
       · exact .inl (.inl e)
       · exact .inl (.inr (.inl e))
       · exact .inl (.inr (.inr (.inl e)))
       · rcases gp.1 af with rfl|af
         · exact gC q e
         · exact .inl (.inr (.inr (.inr ⟨x,(Gi.1 af).1,e⟩)))
     have jy:∀q,nm C.D q→q≠ba.c∧q≠ba.bS:=fun q J=>⟨fun e=>k3.bj.2.1 (by rw[oN,←e];exact J),fun e=>k3.bj.2.2 (by rw[oN,←e];exact J)⟩
     refine ⟨0,rfl,fun h=>(by cases h),fun _=>J _ ⟨C.D.put no s (ba.aB[i]).l,qe,?_,?_,rfl,fun j a6=> ?_,fun j a6=> ?_,Hl⟩⟩
     · have fK:=dm.v.an dS (fun e=>(jy _ e).1 rfl)
       rw[oN] at fK
       have r4:ba.c<ag.heap.size:=k3.v.lt
       have akh:ba.bS<ag.heap.size:=cn.lt k3.f
       refine ⟨fK,cn.an dm.f dS (fun e=>(jy _ e).2 rfl),lH,k3.dR,k3.e0,k3.hd,k3.bj.1,fun e=> ?_,fun e=> ?_⟩
       · rcases Hl _ e with U|U
         · exact (jy _ U).1 rfl
         · have:ba.c<ag.heap.size:=r4
           have U:ag.heap.size≤ba.c:=U
           omega
       · rcases Hl _ e with U|U
         · exact (jy _ U).2 rfl
         · have U:ag.heap.size≤ba.bS:=U
           omega
     · refine ⟨o9.1,rfl,by show ba.aB.length=_;rw[sm];exact qU.1,rfl,cP _,fun m hm=>(Kf (.inr rfl) h.raw.dev.f4 hm).1,Kh.trans qe,fun q J=> ?_⟩
       rcases J with e|e|e
       · exact .inl (.inl (by rw[←o9.1];exact e))
       · exact .inl (.inr (.inl (by rw[←o9.2];exact e)))
       · rcases Hl q e with U|U
         · exact .inl (.inr (.inr U))
         · exact .inr (iT Kh.size U)
     · rw[YW,if_neg (fun e=>a6 (by rw[aA,e]))]
     · rw[YW,if_pos (by rw[aA] at a6;omega)]
 · rw[←oN];exact k3
 · refine ⟨o9.1,rfl,by show ba.aB.length=_;rw[sm];exact qU.1,rfl,zK _,fun m hm=>oe hm (zK _),Kh,fun q J=> .inl ?_⟩
   rcases J with e|e|e
   · exact .inl (by rw[←o9.1];exact e)
   · exact .inr (.inl (by rw[←o9.2];exact e))
   · exact .inr (.inr e)
 · have:no=j:=by rw[aA] at a6;omega
   subst this
   rw[←oN]
   exact (cS akf).symm
 · rintro aw ⟨aM,bj,cL,e6,dQ,gS,ix,k5⟩
   exact fin aw aM bj cL e6 dQ gS ix k5
end
end
section
def Ki (fs:List Fr):Prop:=∀ (i j:Nat) (hi:i<fs.length) (a6:j<fs.length),(fs[i]).full=true→(fs[j]).full=true→(fs[i]).no=(fs[j]).no→i=j
theorem Za {fs gs:List Fr} {D aM:eo} {c bS hd c' aki akj j:Nat} (akk:Ki fs) (akl:Ki gs) (U:∀ (i:Nat) (hi:i<fs.length),(fs[i]).full=true→(fs[i]).no=j→∃ (k:Nat) (ae:k<gs.length),(gs[k]).full=true∧(gs[k]).no=j∧(gs[k]).l=(fs[i]).l)
   (ad:(∀f∈fs,f.full=true→f.no≠j)→(∀f∈gs,f.full=true→f.no≠j)∧aM.now j=D.now j):(eM.mk c' aki gs akj aM).view j=(eM.mk c bS fs hd D).view j:=by
 by_cases hex:∃ (k:Nat) (ae:k<fs.length),(fs[k]).full=true∧(fs[k]).no=j
 · obtain ⟨k,ae,aA,aF⟩:=hex
   obtain ⟨m,hm,aY,bm,dM⟩:=U k ae aA aF
   rw[CN akk ae aA aF,CN akl hm aY bm,dM]
 · have dg:∀f∈fs,f.full=true→f.no≠j:=fun f aG U ad=>by
     obtain ⟨k,ae,rfl⟩:=na aG
     exact hex ⟨k,ae,U,ad⟩
   obtain ⟨aY,bm⟩:=ad dg
   rw[CO dg,CO aY,bm]
section
variable {w w':World} {C:eM} {X:Nat→Prop}
theorem Zb {i:Nat} (hi:i<C.aB.length) {no:Nat} {V:Nat→Prop} (h:qS X w C) (al:ao V w w') (tR:∀q,q<w.heap.size→V q→jq C q) {aM:eo} (aD:aM.n=C.D.n) (sj:∀j,aM.now j=C.D.now j) (rE:∀q,nm aM q↔nm C.D q)
   (g6:Fr) (lP:g6.full=true) (CM:g6.pins=0) (eA:Y2 X w' {C with aB:=C.aB.set i g6,D:=aM} g6 no) (dg:∀ (k:Nat) (ae:k<C.aB.length),k≠i→(C.aB[k]).full=true→(C.aB[k]).no≠no):qS X w' {C with aB:=C.aB.set i g6,D:=aM}:=by
 have dB:=al.size
 have vn:∀q,jq {C with aB:=C.aB.set i g6,D:=aM} q→jq C q:=fun q aG=>by
   rcases aG with U|U|U
   · exact .inl U
   · exact .inr (.inl U)
   · exact .inr (.inr ((rE q).1 U))
 refine ⟨fun f aG=> ?_,fun f aG og=> ?_,fun a b aS ab U ad ar=> ?_,fun q J=>⟨lg (h.nn q J).1 dB,fun aG=>(h.nn q J).2 (vn q aG)⟩⟩
 · rcases Ej aG with aG|rfl
   · exact h.pins f aG
   · exact CM
 · obtain ⟨k,ae,rfl⟩:=na aG
   have jJ:k<C.aB.length:=by simpa using ae
   by_cases e:i=k
   · subst e
     simp only[uM]
     exact ⟨no,eA⟩
   · simp only[mO e] at og⊢
     obtain ⟨m,aA,aF,aJ,aO,cS⟩:=h.ok _ (fv jJ) og
     exact ⟨m,aA,by show m<aM.n;rw[aD];exact aF,bD.Sh aJ al (fun q J ab ak=>ab.1 (tR q J ak)) fun q _ ab=>⟨fun aG=>ab.1 (vn q aG),ab.2⟩,aO,fun hd=>by show _=aM.now m;rw[sj];exact cS hd⟩
 · have om:a<C.aB.length:=by simpa using aS
   have kn:b<C.aB.length:=by simpa using ab
   by_cases mW:i=a
   · by_cases nO:i=b
     · omega
     · subst mW
       simp only[uM] at ar
       simp only[mO nO] at ad ar
       exact absurd (by rw[←ar];exact eA.num) (dg b kn (fun e=>nO e.symm) ad)
   · by_cases nO:i=b
     · subst nO
       simp only[uM] at ar
       simp only[mO mW] at U ar
       exact absurd (by rw[ar];exact eA.num) (dg a om (fun e=>mW e.symm) U)
     · simp only[mO mW] at U ar
       simp only[mO nO] at ad ar
       exact h.un a b om kn U ad ar
theorem akm {i:Nat} (hi:i<C.aB.length) {no:Nat} (h:Ki C.aB) (g6:Fr) (xb:g6.no=no) (dg:∀ (k:Nat) (ae:k<C.aB.length),k≠i→(C.aB[k]).full=true→(C.aB[k]).no≠no):Ki (C.aB.set i g6):=by
 intro a b aS ab U ad ar
 have om:a<C.aB.length:=by simpa using aS
 have kn:b<C.aB.length:=by simpa using ab
 by_cases mW:i=a
 · by_cases nO:i=b
   · omega
   · subst mW
     simp only[uM] at ar
     simp only[mO nO] at ad ar
     exact absurd (by rw[←ar];exact xb) (dg b kn (fun e=>nO e.symm) ad)
 · by_cases nO:i=b
   · subst nO
     simp only[uM] at ar
     simp only[mO mW] at U ar
     exact absurd (by rw[ar];exact xb) (dg a om (fun e=>mW e.symm) U)
   · simp only[mO mW] at U ar
     simp only[mO nO] at ad ar
     exact h a b om kn U ad ar
theorem Zc {i:Nat} (hi:i<C.aB.length) {no:Nat} (h:Ki C.aB) {aM:eo} (sj:∀j,aM.now j=C.D.now j) (g6:Fr) (lP:g6.full=true) (xb:g6.no=no) (hold:(C.aB[i]).full=true→(C.aB[i]).no=no) (dg:∀ (k:Nat) (ae:k<C.aB.length),k≠i→(C.aB[k]).full=true→(C.aB[k]).no≠no) {hd:Nat} (j:Nat):
   (eM.mk C.c C.bS (C.aB.set i g6) hd aM).view j=if j=no then g6.l else C.view j:=by
 have hu:=akm hi h g6 xb dg
 have gZ:i<(C.aB.set i g6).length:=by simpa using hi
 by_cases e:j=no
 · subst e
   rw[if_pos rfl,CN hu gZ (by simp[lP]) (by simpa using xb)]
   simp
 · rw[if_neg e]
   refine Za (fs:=C.aB) (D:=C.D) (c:=C.c) (bS:=C.bS) (hd:=C.hand) h hu (fun k ae aA aF=> ?_) fun gJ=>⟨fun f aG aA aF=> ?_,sj j⟩
   · have k6:i≠k:=fun bm=>by
       subst bm
       have:=hold aA
       rw[aF] at this
       exact e (by omega)
     have dW:k<(C.aB.set i g6).length:=by simpa using ae
     exact ⟨k,dW,by simp only[mO k6];exact aA,by simp only[mO k6];exact aF,by simp only[mO k6]⟩
   · rcases Ej aG with aG|rfl
     · exact gJ f aG aA aF
     · rw[xb] at aF
       exact e (by omega)
def akn (X:Nat→Prop) (C:eM) (no:Nat) (w:World) (v:Value) (w':World):Prop:=
 ∃bt:eM,mV X w' bt∧lr C bt w w' 2∧(∀j,bt.view j=C.view j)∧
   ((∃s:aa,v= .tuple #[.slice s.a s.len s.cap, .int .i64 0]∧bD (fun q=>w.heap.size≤q∧¬jq bt q∧¬X q) w' s (C.view no))∨(v= .tuple #[.slice none 0 0, .int .i64 3]∧¬C.D.calm 2))
theorem ako (h:mV X w C) (gV:C.D.cI≤999999999) {no:Nat} (dg:no<C.D.n):aQ Tryz.prog F.CP #[.pointer (some ⟨C.c,0,none⟩), .int .i64 ((no:Nat):Int)] w (akn X C no w):=by
 have nP:=h.raw
 refine W.akp (some ⟨C.c,0,none⟩) ((no:Nat):Int) w _ ?_
 (delta W.CP a_ aE Ar st aq dL xc gu;dsimp only)
 refine (Y3 nP _).use ?_
 rintro _ _ ⟨rfl,rfl⟩
 refine ⟨_,rfl,fun ab=> ?_,fun _=>(Sg nP _).use ?_⟩
 · have:decide (0≤((no:Nat):Int)∧((no:Nat):Int)<C.D.n)=true:=il ⟨by omega,by omega⟩
   rw[this] at ab;cases ab
 rintro _ _ ⟨pO,rfl⟩
 rcases pO with ⟨i,hi,rfl,aG,aD⟩|⟨rfl,N4⟩
 ·
   obtain ⟨aA,aF,aJ,aO⟩:=EZ nP.f hi (j:=2) (by decide) (v:= .bool true) {C.aB[i] with used:=true} rfl
   have qU:qT C.aB (C.aB.set i {C.aB[i] with used:=true}):=(qT.refl C.aB).set hi true
   have qe:ao (jq C) w (w.setCell ⟨C.bS,i*6+2,none⟩ (.bool true)):=aO.mono fun q _ e=> .inr (.inl e)
   have hinv:=N1 (hd:=C.hand) (aM:=C.D) h.inv qU qe (fun q _ h=>h) rfl (fun _=>rfl) fun q J=> .inl J
   have ak:=N2 (hd:=C.hand) (aM:=C.D) h.inv qU fun _=>rfl
   obtain ⟨ag,Ao⟩:∃ag,ag=w.setCell ⟨C.bS,i*6+2,none⟩ (.bool true):=⟨_,rfl⟩
   rw[←Ao] at aJ aO qe hinv
   have aU:lO ag {C with aB:=C.aB.set i {C.aB[i] with used:=true}}:=by
     refine ⟨?_,aJ,nP.dev.an aO (fun q J e=>nP.bj.2.2 (e▸J)),?_,?_,?_,nP.bj⟩
     · have:=nP.v.an aO nP.bj.1
       show Var _ _ [_, .slice _ (C.aB.set i _).length (C.aB.set i _).length,_] _
       rw[je];exact this
     · show 8≤(C.aB.set i _).length;rw[je];exact nP.dR
     · show (C.aB.set i _).length≤64;rw[je];exact nP.e0
     · show C.hand<(C.aB.set i _).length;rw[je];exact nP.hd
   obtain ⟨ba,w_⟩:∃ba:eM,ba={C with aB:=C.aB.set i {C.aB[i] with used:=true}}:=⟨_,rfl⟩
   have nQ:mV X ag ba:=by rw[w_];exact ⟨aU,hinv⟩
   have hG:i<(C.aB.set i {C.aB[i] with used:=true}).length:=by simpa using hi
   have f5:=w7 aJ hG (j:=5) (by decide)
   obtain ⟨m,dR,e0,nk,np,oK⟩:=hinv.ok ((C.aB.set i {C.aB[i] with used:=true})[i]) (fv hG) (by simp[aG])
   have Nh:((C.aB.set i {C.aB[i] with used:=true})[i]).b=(C.aB[i]).b:=by simp
   have Sk:((C.aB.set i {C.aB[i] with used:=true})[i]).l=(C.aB[i]).l:=by simp
   rw[Nh,Sk] at nk
   rw[Sk] at np
   refine ⟨_,rfl,fun _=>⟨_,rfl,by rw[aV];exact aA,by rw[aV];exact aF,?_⟩,fun h=>(by cases h)⟩
   rw[aV,←Ao]
   refine bM ⟨_,rfl,(C.aB[i]).b,by rw[aV,f5];simp[Fr.c],(uX (B:=fun q=>ag.heap.size≤q) nk.1 (by rw[np];omega) (fun q J=>J)).use ?_⟩
   rintro _ aw ⟨s,rfl,aj,cv,_⟩
   have akq:C.view no=(C.aB[i]).l:=CN (fs:=C.aB) (D:=C.D) (c:=C.c) (bS:=C.bS) (hd:=C.hand) h.inv.un hi aG aD
   have nf:=qe.size
   refine ⟨s,rfl,ba,nQ.ext cv,?_,?_, .inl ⟨s,rfl,?_⟩⟩
   · rw[w_]
     exact ⟨rfl,rfl,by show (C.aB.set i _).length=_;rw[je],rfl,Nat.le_add_right _ _,fun m hm=>oe hm (by omega),qe.trans (ao.eK cv),fun q J=> .inl J⟩
   · intro j;rw[w_];exact ak j
   · rw[akq]
     refine bD.bw aj fun q _ J=>⟨by omega,fun aG=> ?_,fun dC=> ?_⟩
     · have:=nQ.raw.lt aG;omega
     · have:=(nQ.inv.nn q dC).1;omega
 ·
   refine ⟨_,rfl,fun h=>(by cases h),fun _=>(Y8 h (by omega)).use ?_⟩
   rintro _ ag ⟨ba,lu,lQ,xd,lj,iK,aU⟩
   rcases aU with ⟨i,hi,rfl,Sl,CM⟩|⟨rfl,Sm⟩
   · refine ⟨_,_,rfl,fun h=>(by simp at h),fun _=>⟨_,rfl,some ⟨C.D.d,0,none⟩,?_,?_⟩⟩
     · have:=lu.raw.cells.1
       rw[lQ.c,lQ.d] at this
       exact this
     have Sn:no<ba.D.n:=by rw[lQ.n];exact dg
     have Hm:=lQ.cI
     rw[←lQ.d]
     refine (ajP lu.raw.dev Sn (by omega)).use ?_
     rintro v2 aw ⟨lH,dS,e9⟩
     have wB:=fun q=>lu.raw.lt (q:=q)
     have So:ao (jq ba) ag aw:=dS.mono fun q _ e=> .inr (.inr (.inl e))
     have mR:∀f∈ba.aB,f.full=true→f.no≠no:=fun f aG lP CQ=>by
       obtain ⟨g,a7,U,ad⟩:=iK f aG lP
       exact N4 g a7 U (by rw[ad,CQ])
     have akr:ba.D.calm 1∨¬C.D.calm 2:=by
       rcases Classical.em (C.D.calm 2) with U|U
       · exact .inl (lQ.calm 1 U)
       · exact .inr U
     have Zd:ba.view no=ba.D.now no:=CO (fs:=ba.aB) (D:=ba.D) (c:=ba.c) (bS:=ba.bS) (hd:=ba.hand) mR
     have en:∀q,nm ba.D q→q≠ba.c∧q≠ba.bS:=fun q J=>⟨fun e=>lu.raw.bj.2.1 (e▸J),fun e=>lu.raw.bj.2.2 (e▸J)⟩
     have aks:qS X aw {ba with D:=ba.D.jo 1}:=N1 (C:=ba) (hd:=ba.hand) (aM:=ba.D.jo 1) lu.inv (qT.refl _) So (fun q _ h=>h) rfl (fun _=>rfl) fun q J=> .inl J
     have hZ:lr C {ba with D:=ba.D.jo 1} w aw 2:=by
       have:lr ba {ba with D:=ba.D.jo 1} ag aw 1:=⟨rfl,rfl,rfl,rfl,zK _,fun m hm=>(Kf (.inl rfl) lu.raw.dev.f4 hm).1,So,fun q J=> .inl J⟩
       exact lQ.trans this
     have g1:∀j,({ba with D:=ba.D.jo 1}:eM).view j=C.view j:=fun j=>by rw[←lj];exact N2 (C:=ba) lu.inv (qT.refl _) (fun _=>rfl) j
     have Sp:lO aw {ba with D:=ba.D.jo 1}:=⟨lu.raw.v.an dS (fun e=>(en _ (.inl rfl)).1 e.symm),cn.an lu.raw.f dS (fun e=>(en _ (.inl rfl)).2 e.symm),lH,lu.raw.dR,lu.raw.e0,lu.raw.hd,lu.raw.bj⟩
     rcases e9 with ⟨ab,rfl⟩|⟨ab,s,rfl,aj⟩
     · refine ⟨⟨none,0,0⟩,3,rfl,fun _=>⟨{ba with D:=ba.D.jo 1},⟨Sp,aks⟩,hZ,g1, .inr ⟨rfl,?_⟩⟩,fun h=>(by simp at h)⟩
       rcases akr with U|U
       · have:=(Kf (k:=1) (m:=0) (.inl rfl) lu.raw.dev.f4 U).2
         rw[ab] at this;cases this
       · exact U
     · have si:(ba.D.now no).length=256:=lu.raw.dev.NT Sn
       obtain ⟨s1,s2,bQ⟩:=Sf Sp.f hi ⟨true,false,true,((no:Nat):Int),0,s,ba.D.now no⟩
       rw[xd] at s1 s2 bQ
       have uT:=dS.size
       have nf:=lQ.an.size
       refine ⟨s,_,rfl,fun h=>(by simp at h),fun _=>⟨_,rfl,s1,rfl,?_⟩⟩
       obtain ⟨aZ,ng⟩:∃aZ,aZ=setCells aw ⟨C.bS,i*6,none⟩ 0 (Fr.c ⟨true,false,true,((no:Nat):Int),0,s,ba.D.now no⟩):=⟨_,rfl⟩
       rw[←ng] at s2 bQ
       have a7:setCells aw ⟨C.bS,i*6,none⟩ 0 [.bool true, .bool false, .bool true, .int .i64 ((no:Nat):Int), .int .i64 0, .slice s.a s.len s.cap]=aZ:=ng.symm
       rw[a7]
       have Ze:ao (jq ba) aw aZ:=bQ.mono fun q _ e=> .inr (.inl (by rw[xd];exact e))
       have Cd:bD (fun q=>ag.heap.size≤q) aZ s (ba.D.now no):=bD.an aj bQ fun q J e=>by
         have:=wB C.bS (.inr (.inl xd.symm));omega
       have Sj:qS X aZ {ba with aB:=ba.aB.set i ⟨true,false,true,((no:Nat):Int),0,s,ba.D.now no⟩,D:=ba.D.jo 1}:=by
         refine Zb (w:=ag) (V:=jq ba) (aM:=ba.D.jo 1) hi (no:=no) lu.inv (So.trans Ze) (fun q _ h=>h) rfl (fun _=>rfl) (fun q=>Iff.rfl) ⟨true,false,true,((no:Nat):Int),0,s,ba.D.now no⟩ rfl rfl ⟨rfl,Sn,?_,si,fun _=>rfl⟩ fun k ae _ U=>mR _ (fv ae) U
         refine bD.bw Cd fun q _ J=>⟨fun aG=> ?_,fun dC=> ?_⟩
         · have:jq ba q:=aG
           have:=wB q this;omega
         · have:=(lu.inv.nn q dC).1;omega
       have mx:∀j,({ba with aB:=ba.aB.set i ⟨true,false,true,((no:Nat):Int),0,s,ba.D.now no⟩,D:=ba.D.jo 1}:eM).view j=C.view j:=fun j=>by
         have:=Zc (hd:=ba.hand) (aM:=ba.D.jo 1) hi (no:=no) lu.inv.un (fun _=>rfl) ⟨true,false,true,((no:Nat):Int),0,s,ba.D.now no⟩ rfl rfl (fun U=>by rw[Sl] at U;cases U) (fun k ae _ U=>mR _ (fv ae) U) j
         rw[show ({ba with aB:=ba.aB.set i ⟨true,false,true,((no:Nat):Int),0,s,ba.D.now no⟩,D:=ba.D.jo 1}:eM)=eM.mk ba.c ba.bS (ba.aB.set i ⟨true,false,true,((no:Nat):Int),0,s,ba.D.now no⟩) ba.hand (ba.D.jo 1) from rfl,this]
         by_cases e:j=no
         · rw[if_pos e,e,←lj,Zd]
         · rw[if_neg e,lj]
       have akt:lO aZ {ba with aB:=ba.aB.set i ⟨true,false,true,((no:Nat):Int),0,s,ba.D.now no⟩,D:=ba.D.jo 1}:=by
         refine ⟨?_,by show cn _ ba.bS _ _;rw[xd];exact s2,lH.an bQ (fun q J e=>(en q J).2 (by rw[xd];exact e)),?_,?_,?_,lu.raw.bj⟩
         · have:=Sp.v.an bQ (fun e=>lu.raw.bj.1 (by rw[xd];exact e))
           show Var _ _ [_, .slice _ (ba.aB.set i _).length (ba.aB.set i _).length,_] _
           rw[je];exact this
         · show 8≤(ba.aB.set i _).length;rw[je];exact lu.raw.dR
         · show (ba.aB.set i _).length≤64;rw[je];exact lu.raw.e0
         · show ba.hand<(ba.aB.set i _).length;rw[je];exact lu.raw.hd
       obtain ⟨Hn,Sq⟩:∃Hn:eM,Hn={ba with aB:=ba.aB.set i ⟨true,false,true,((no:Nat):Int),0,s,ba.D.now no⟩,D:=ba.D.jo 1}:=⟨_,rfl⟩
       have Sr:mV X aZ Hn:=by rw[Sq];exact ⟨akt,Sj⟩
       have aku:lr C Hn w aZ 2:=by
         rw[Sq]
         exact ⟨hZ.c,hZ.d,by show (ba.aB.set i _).length=_;rw[je];exact hZ.len,hZ.f_,hZ.cI,hZ.calm,mA hZ.an Ze fun q J h=>(hZ.jR q h).resolve_right (by omega),hZ.jR⟩
       refine bM ((uX (B:=fun q=>aZ.heap.size≤q) Cd.1 (by rw[si];omega) (fun q J=>J)).use ?_)
       rintro _ br ⟨t,rfl,aN,fo,_⟩
       have EN:=bQ.size
       refine ⟨t,rfl,Hn,Sr.ext fo,?_,?_, .inl ⟨t,rfl,?_⟩⟩
       · exact (aku.trans (lr.ext Hn fo)).mono (by omega)
       · intro j;rw[Sq];exact mx j
       · rw[←lj,Zd]
         refine bD.bw aN fun q _ J=>⟨by omega,fun aG=> ?_,fun dC=> ?_⟩
         · have:=Sr.raw.lt aG;omega
         · have:=(Sr.inv.nn q dC).1;omega
   · refine ⟨_,_,rfl,fun _=>⟨ba,lu,lQ.mono (by omega),lj, .inr ⟨rfl,fun al=>Sm (oe al (by omega))⟩⟩,fun h=>(by simp at h)⟩
end
end
section
section
variable {w w':World} {C:eM} {X:Nat→Prop}
def Zf (X:Nat→Prop) (C:eM) (no:Nat) (l:mz) (w:World) (v:Value) (w':World):Prop:=
 ∃bt:eM,mV X w' bt∧lr C bt w w' 1∧
   ((v= .int .i64 0∧∀j,bt.view j=if j=no then l else C.view j)∨(v= .int .i64 3∧¬C.D.calm 1∧∀j,bt.view j=C.view j))
theorem Zg {i:Nat} {g6:Fr} (h:lO w C) (al:ao (fun q=>q=C.bS) w w') (ab:cn w' C.bS (cz Fr.c (C.aB.set i g6)).toArray ah.rD):lO w' {C with aB:=C.aB.set i g6}:=by
 refine ⟨?_,ab,h.dev.an al (fun q J e=>h.bj.2.2 (e▸J)),?_,?_,?_,h.bj⟩
 · have:=h.v.an al h.bj.1
   show Var _ _ [_, .slice _ (C.aB.set i _).length (C.aB.set i _).length,_] _
   rw[je];exact this
 · show 8≤(C.aB.set i _).length;rw[je];exact h.dR
 · show (C.aB.set i _).length≤64;rw[je];exact h.e0
 · show C.hand<(C.aB.set i _).length;rw[je];exact h.hd
theorem set_set {fs:List Fr} {i:Nat} (f g:Fr):(fs.set i f).set i g=fs.set i g:=List.set_set ..
theorem akv (h:mV X w C) (gV:C.D.cI≤999999999) {no:Nat} (dg:no<C.D.n) {b:aa} {l:mz} (ab:Src 1 w b (bg l)) (az:l.length=256) (ni:∀q,aR b q→q<w.heap.size∧¬jq C q):
   aQ Tryz.prog F.CR #[.pointer (some ⟨C.c,0,none⟩), .int .i64 ((no:Nat):Int), .slice b.a b.len b.cap] w (Zf X C no l w):=by
 have nP:=h.raw
 have x9:=kN ab
 refine W.akw (some ⟨C.c,0,none⟩) ((no:Nat):Int) b w _ ?_
 (delta W.CR a_ aE Ar xc st dL;dsimp only)
 refine (Y3 nP _).use ?_
 rintro _ _ ⟨rfl,rfl⟩
 have fy:decide (0≤((no:Nat):Int)∧((no:Nat):Int)<C.D.n)=true:=il ⟨by omega,by omega⟩
 refine ⟨_,rfl,fun U=> ?_,fun _=>(Sg nP _).use ?_⟩
 · rw[fy,x9,az] at U
   simp at U
 rintro _ _ ⟨pO,rfl⟩
 have fin:∀ (ag:World) (ba:eM) (i:Nat) (hi:i<ba.aB.length) (f1:Fr),mV X ag ba→lr C ba w ag 1→ba.bS=C.bS→(∀j,ba.view j=C.view j)→f1.pins=0→∀aw:World,cn aw ba.bS (cz Fr.c (ba.aB.set i f1)).toArray ah.rD→ao (fun q=>q=ba.bS) ag aw→f1.full=true→f1.no=((no:Nat):Int)→
     ((ba.aB[i]).full=true→(ba.aB[i]).no=((no:Nat):Int))→(∀ (k:Nat) (ae:k<ba.aB.length),k≠i→(ba.aB[k]).full=true→(ba.aB[k]).no≠((no:Nat):Int))→
     Calls Tryz.prog F.l4 #[.slice b.a b.len b.cap] aw fun akx fF=>∃fL:aa,akx= .returned (.slice fL.a fL.len fL.cap)∧∃k4:Addr,(some ⟨C.bS,i*6,none⟩:Option Addr)=some k4∧(∃u:Value,fF.cell? (k4.add 5)=some u)∧fF.frozen? (k4.add 5)=false∧
       ay (fF.setCell (k4.add 5) (.slice fL.a fL.len fL.cap)) fun cO=>∃oh:Addr,(some ⟨C.bS,i*6,none⟩:Option Addr)=some oh∧(∃u:Value,cO.cell? (oh.add 1)=some u)∧cO.frozen? (oh.add 1)=false∧
       ay (cO.setCell (oh.add 1) (.bool true)) fun cK=>∃sk:Addr,(some ⟨C.bS,i*6,none⟩:Option Addr)=some sk∧(∃u:Value,cK.cell? (sk.add 2)=some u)∧cK.frozen? (sk.add 2)=false∧
       ay (cK.setCell (sk.add 2) (.bool true)) fun cu=>Zf X C no l w (.int .i64 0) cu:=by
   intro ag ba i hi f1 nQ b4 vq ak CM aw g2 dS lP xb hold Zh
   have nf:=b4.an.size
   have uT:=dS.size
   have df:ba.bS<ag.heap.size:=nQ.raw.lt (.inr (.inl rfl))
   have aky:Src 1 aw b (bg l):=by
     refine (ab.an b4.an fun q J aG=>(ni q J).2 aG).an dS fun q J e=>(ni q J).2 (.inr (.inl (by rw[←vq];exact e)))
   refine (uX (B:=fun q=>aw.heap.size≤q) aky (by omega) (fun q J=>J)).use ?_
   rintro _ aZ ⟨s,rfl,aj,eO,_⟩
   have G8:=cn.ext g2 eO
   have r3:i<(ba.aB.set i f1).length:=by rw[je];exact hi
   have gK:(ba.aB.set i f1)[i]=f1:=by simp
   obtain ⟨bj,cL,e6,dQ⟩:=EZ G8 r3 (j:=5) (by decide) (v:= .slice s.a s.len s.cap) {f1 with b:=s} (by rw[gK];rfl)
   rw[set_set] at e6
   have akz:i<(ba.aB.set i {f1 with b:=s}).length:=by rw[je];exact hi
   have aY:(ba.aB.set i {f1 with b:=s})[i]={f1 with b:=s}:=by simp
   obtain ⟨cX,cy,eJ,eW⟩:=EZ e6 akz (j:=1) (by decide) (v:= .bool true) {f1 with b:=s,w6:=true} (by rw[aY];rfl)
   rw[set_set] at eJ
   have akA:i<(ba.aB.set i {f1 with b:=s,w6:=true}).length:=by rw[je];exact hi
   have bm:(ba.aB.set i {f1 with b:=s,w6:=true})[i]={f1 with b:=s,w6:=true}:=by simp
   obtain ⟨d1,d2,d3,d4⟩:=EZ eJ akA (j:=2) (by decide) (v:= .bool true) {f1 with b:=s,w6:=true,used:=true,l:=l} (by rw[bm];rfl)
   rw[set_set] at d3
   rw[vq] at bj cL e6 dQ cX cy eJ eW d1 d2 d3 d4 dS
   refine ⟨s,rfl,_,rfl,by rw[aV];exact bj,by rw[aV];exact cL,?_⟩
   rw[aV]
   refine bM ⟨_,rfl,by rw[aV];exact cX,by rw[aV];exact cy,?_⟩
   rw[aV]
   refine bM ⟨_,rfl,by rw[aV];exact d1,by rw[aV];exact d2,?_⟩
   rw[aV]
   have qE:=(dS.trans (ao.eK eO)).trans (dQ.trans (eW.trans d4))
   obtain ⟨g6,yR⟩:∃g6:Fr,g6={f1 with b:=s,w6:=true,used:=true,l:=l}:=⟨_,rfl⟩
   obtain ⟨a4,yp⟩:∃a4,a4=(((aZ.setCell ⟨C.bS,i*6+5,none⟩ (.slice s.a s.len s.cap)).setCell ⟨C.bS,i*6+1,none⟩ (.bool true)).setCell ⟨C.bS,i*6+2,none⟩ (.bool true)):=⟨_,rfl⟩
   rw[←yp,←yR] at d3
   rw[←yp] at qE⊢
   have akB:bD (fun q=>aw.heap.size≤q) a4 s l:=by
     have U:=bD.an aj dQ fun q J e=>by rw[←vq] at e;omega
     have ad:=bD.an U eW fun q J e=>by rw[←vq] at e;omega
     have ar:=bD.an ad d4 fun q J e=>by rw[←vq] at e;omega
     rw[yp];exact ar
   have akC:lO a4 {ba with aB:=ba.aB.set i g6}:=Zg nQ.raw (by rw[vq];exact qE) (by rw[vq];exact d3)
   have akD:qS X a4 {ba with aB:=ba.aB.set i g6}:=by
     refine Zb (w:=ag) (V:=fun q=>q=C.bS) (aM:=ba.D) hi (no:=no) nQ.inv qE (fun q _ e=> .inr (.inl (by rw[vq];exact e))) rfl (fun _=>rfl) (fun q=>Iff.rfl) g6 (by rw[yR];exact lP) (by rw[yR];exact CM) ⟨by rw[yR];exact xb,by show no<ba.D.n;rw[b4.n];exact dg,?_,by rw[yR];exact az,fun hd=>by rw[yR] at hd;cases hd⟩ Zh
     rw[yR]
     refine bD.bw akB fun q _ J=>⟨fun aG=> ?_,fun dC=> ?_⟩
     · have:jq ba q:=aG
       have:=nQ.raw.lt this;omega
     · have:=(nQ.inv.nn q dC).1;omega
   refine bM ⟨{ba with aB:=ba.aB.set i g6},⟨akC,akD⟩,⟨b4.c,b4.d,by show (ba.aB.set i _).length=_;rw[je];exact b4.len,b4.f_,b4.cI,b4.calm,mA b4.an qE fun q J e=> .inr (.inl e),b4.jR⟩, .inl ⟨rfl,fun j=> ?_⟩⟩
   have:=Zc (C:=ba) (hd:=ba.hand) (aM:=ba.D) hi (no:=no) nQ.inv.un (fun _=>rfl) g6 (by rw[yR];exact lP) (by rw[yR];exact xb) hold Zh j
   rw[show ({ba with aB:=ba.aB.set i g6}:eM)=eM.mk ba.c ba.bS (ba.aB.set i g6) ba.hand ba.D from rfl,this,ak]
   rw[yR]
 rcases pO with ⟨i,hi,rfl,aG,aD⟩|⟨rfl,N4⟩
 · refine ⟨_,rfl,e4 (fun p w'=>p=some ⟨C.bS,i*6,none⟩∧w=w') (fun q J=>⟨fun h=>(by cases h),fun _=>J _ _ ⟨rfl,rfl⟩⟩) ?_⟩
   rintro _ _ ⟨rfl,rfl⟩
   have e:C.aB.set i C.aB[i]=C.aB:=List.set_getElem_self _
   exact fin w C i hi C.aB[i] h ((lr.refl C w).mono (fx _)) rfl (fun _=>rfl) (h.inv.pins _ (fv hi)) w (by rw[e];exact nP.f) (.refl _ _) aG aD (fun _=>aD) fun k ae k6 U ad=>k6 (h.inv.un k i ae hi U aG (by rw[ad,aD]))
 · refine ⟨_,rfl,e4 (fun p aw=>∃ (ag:World) (ba:eM) (i:Nat) (hi:i<ba.aB.length) (f1:Fr),p=some ⟨C.bS,i*6,none⟩∧mV X ag ba∧lr C ba w ag 1∧ba.bS=C.bS∧(∀j,ba.view j=C.view j)∧f1.pins=0∧cn aw ba.bS (cz Fr.c (ba.aB.set i f1)).toArray ah.rD∧ao (fun q=>q=ba.bS) ag aw∧f1.full=true∧f1.no=((no:Nat):Int)∧
     ((ba.aB[i]).full=true→(ba.aB[i]).no=((no:Nat):Int))∧(∀ (k:Nat) (ae:k<ba.aB.length),k≠i→(ba.aB[k]).full=true→(ba.aB[k]).no≠((no:Nat):Int))) (fun q J=>⟨fun _=>(Y8 h (by omega)).use ?_,fun h=>(by cases h)⟩) ?_⟩
   · rintro _ ag ⟨ba,lu,lQ,xd,lj,iK,aU⟩
     have mR:∀f∈ba.aB,f.full=true→f.no≠((no:Nat):Int):=fun f aG lP CQ=>by
       obtain ⟨g,a7,U,ad⟩:=iK f aG lP
       exact N4 g a7 U (by rw[ad,CQ])
     rcases aU with ⟨i,hi,rfl,Sl,CM⟩|⟨rfl,Sm⟩
     · obtain ⟨bj,cL,e6,dQ⟩:=EZ lu.raw.f hi (j:=0) (by decide) (v:= .bool true) {ba.aB[i] with full:=true} rfl
       have r3:i<(ba.aB.set i {ba.aB[i] with full:=true}).length:=by rw[je];exact hi
       have gK:(ba.aB.set i {ba.aB[i] with full:=true})[i]={ba.aB[i] with full:=true}:=by simp
       obtain ⟨cX,cy,eJ,eW⟩:=EZ e6 r3 (j:=3) (by decide) (v:= .int .i64 ((no:Nat):Int)) {ba.aB[i] with full:=true,no:=((no:Nat):Int)} (by rw[gK];rfl)
       rw[set_set] at eJ
       rw[xd] at bj cL cX cy eJ dQ eW
       refine ⟨_,_,rfl,fun h=>(by simp at h),fun _=>⟨_,rfl,bj,cL,bM ⟨_,rfl,by rw[aV];exact cX,by rw[aV];exact cy,bM ?_⟩⟩⟩
       rw[aV]
       exact J _ _ ⟨ag,ba,i,hi,{ba.aB[i] with full:=true,no:=((no:Nat):Int)},rfl,lu,lQ,xd,lj,CM,by rw[xd];exact eJ,by rw[xd];exact dQ.trans eW,rfl,rfl,fun U=>(by rw[Sl] at U;cases U),fun k ae _ U=>mR _ (fv ae) U⟩
     · exact ⟨_,_,rfl,fun _=>⟨ba,lu,lQ, .inr ⟨rfl,Sm,lj⟩⟩,fun h=>(by simp at h)⟩
   · rintro p aw ⟨ag,ba,i,hi,f1,rfl,aA,aF,aJ,aO,cS,xe,Kj,akE,akF,akG,akH⟩
     exact fin ag ba i hi f1 aA aF aJ aO cS aw xe Kj akE akF akG akH
theorem akI (h:mV X w C) (no:Nat):aQ Tryz.prog F.CS #[.pointer (some ⟨C.c,0,none⟩), .int .i64 ((no:Nat):Int)] w (fun v w'=>(∃b:Bool,v= .bool b)∧∃bt:eM,mV X w' bt∧lr C bt w w' 0∧∀j,j≠no→bt.view j=C.view j):=by
 have nP:=h.raw
 refine W.akJ (some ⟨C.c,0,none⟩) ((no:Nat):Int) w _ ?_
 (delta W.CS Ar aE bA;dsimp only)
 refine (Sg nP _).use ?_
 rintro _ _ ⟨pO,rfl⟩
 rcases pO with ⟨i,hi,rfl,aG,aD⟩|⟨rfl,N4⟩
 · have f4:=w7 nP.f hi (j:=4) (by decide)
   have aT:=h.inv.pins _ (fv hi)
   refine ⟨_,rfl,e4 (fun b w'=>b=false∧w=w') (fun q J=>⟨fun h=>(by cases h),fun _=>⟨_,rfl,(C.aB[i]).pins,by rw[aV];exact f4,J _ _ ⟨by rw[aT];rfl,rfl⟩⟩⟩) ?_⟩
   rintro _ _ ⟨rfl,rfl⟩
   obtain ⟨s1,s2,bQ⟩:=Sf nP.f hi hA
   refine ⟨fun h=>(by cases h),fun _=>⟨_,rfl,s1,rfl,bM ⟨⟨true,rfl⟩,{C with aB:=C.aB.set i hA},⟨Zg nP bQ s2,?_⟩,?_,fun j a6=> ?_⟩⟩⟩
   · exact Y6 (V:=fun q=>q=C.bS) (aM:=C.D) hi h.inv bQ (fun q _ e=> .inr (.inl e)) rfl (fun _ _=>rfl) (fun q h=> .inl h) hA rfl rfl
   · exact ⟨rfl,rfl,by show (C.aB.set i _).length=_;rw[je],rfl,cP _,fun _ h=>h,bQ.mono fun q _ e=> .inr (.inl e),fun q h=> .inl h⟩
   · refine Za (fs:=C.aB) (D:=C.D) (c:=C.c) (bS:=C.bS) (hd:=C.hand) h.inv.un (fun a b aS ab U ad ar=> ?_) (fun k ae aA aF=> ?_) fun gJ=>⟨fun f aG aA aF=> ?_,rfl⟩
     · have om:a<C.aB.length:=by simpa using aS
       have kn:b<C.aB.length:=by simpa using ab
       by_cases mW:i=a
       · subst mW
         simp[hA] at U
       by_cases nO:i=b
       · subst nO
         simp[hA] at ad
       simp only[mO mW] at U ar
       simp only[mO nO] at ad ar
       exact h.inv.un a b om kn U ad ar
     · have k6:i≠k:=fun e=>by
         subst e
         rw[aD] at aF
         exact a6 (by omega)
       exact ⟨k,by rw[je];exact ae,by simp only[mO k6];exact aA,by simp only[mO k6];exact aF,by simp only[mO k6]⟩
     · rcases Ej aG with aG|rfl
       · exact gJ f aG aA aF
       · cases aA
 · refine ⟨_,rfl,e4 (fun b w'=>b=true∧w=w') (fun q J=>⟨fun _=>J _ _ ⟨rfl,rfl⟩,fun h=>(by cases h)⟩) ?_⟩
   rintro _ _ ⟨rfl,rfl⟩
   exact ⟨fun _=>⟨⟨false,rfl⟩,C,h,lr.refl C w,fun _ _=>rfl⟩,fun h=>(by cases h)⟩
end
theorem akK (n:Nat):pC Tryz.prog ah.rD n=(cz Fr.c (List.replicate n hA)).toArray:=by
 have bI:((Tryz.prog.info? ah.rD).bind (·.zero)).map (·.cells)=some hA.c.toArray:=by kernel_rfl
 have al:Tryz.prog.cellsOf ah.rD=6:=by kernel_rfl
 unfold pC
 rw[al]
 cases hi:(Tryz.prog.info? ah.rD).bind (·.zero) with
 |none=>rw[hi] at bI;cases bI
 |some z=>
   rw[hi] at bI
   simp only[BP,Option.some.injEq] at bI
   simp only[Option.getD_some,bI]
   apply Array.ext
   · simp[od (c:=Fr.c) (sz:=6) (List.replicate n hA) (fun x _=>rfl)]
   · intro i U ad
     have aD:n*6≠0:=by
       intro h
       simp[h] at U
     have fy:i<n*6:=by simpa using U
     simp only[aD,if_false,Array.getElem_map,Array.getElem_range,List.getElem_toArray]
     have dB:hA.c.toArray.size=6:=rfl
     have a9:i%6<6:=sI _ (by omega)
     have J:i/6<(List.replicate n hA).length:=by rw[Gt];omega
     have a7:=Kd (c:=Fr.c) (sz:=6) (l:=List.replicate n hA) (fun x _=>rfl) (i:=i/6) (j:=i%6) J a9
     rw[show i/6*6+i%6=i by omega] at a7
     have EO:i<(cz Fr.c (List.replicate n hA)).length:=by simpa using ad
     rw[g8 EO] at a7
     have he:((List.replicate n hA)[i/6]).c=hA.c:=by simp
     rw[he,g8 (show i%6<hA.c.length from a9)] at a7
     have a7:=Option.some.inj a7
     rw[a7,dB,getElem!_pos hA.c.toArray (i%6) (by rw[dB];exact a9)]
     simp
def N5 (c bS k:Nat) (D:eo):eM:=⟨c,bS,List.replicate k hA,0,D⟩
theorem yS {w:World} {D:eo} (h:j8 w D) {k:Nat} (U:8≤k) (ad:k≤64):aQ Tryz.prog F.yS #[.pointer (some ⟨D.d,0,none⟩), .int .i64 ((k:Nat):Int)] w (fun v w'=>∃c bS:Nat,v= .tuple #[.pointer (some ⟨c,0,none⟩), .int .i64 0]∧mV (fun _=>False) w' (N5 c bS k D)∧Ext w w'∧w.heap.size≤c∧w.heap.size≤bS):=by
 refine W.akL (some ⟨D.d,0,none⟩) ((k:Nat):Int) w _ ?_
 delta W.yS aE x_ ai
 refine ⟨fun h=> ?_,fun _=>⟨⟨by omega,by omega,by omega,by omega⟩,?_⟩⟩
 · simp only[Option.isNone_some,Gs,xZ,fI] at h;omega
 rw[akK,hF]
 have oc:=cn.new w (cz Fr.c (List.replicate k hA)).toArray ah.rD
 have bz:=iX w (.cells (cz Fr.c (List.replicate k hA)).toArray ah.rD)
 have nf:=Jr w (.cells (cz Fr.c (List.replicate k hA)).toArray ah.rD)
 obtain ⟨ag,Ao⟩:∃ag,ag=w.alloc (.cells (cz Fr.c (List.replicate k hA)).toArray ah.rD):=⟨_,rfl⟩
 rw[←Ao] at oc bz nf⊢
 refine bM (cp (vs:=[.pointer (some ⟨D.d,0,none⟩), .slice (some ⟨w.heap.size,0,none⟩) k k, .int .i64 0]) rfl fun aw g1 cv uT=>⟨ag.heap.size,w.heap.size,rfl,⟨⟨?_,cn.ext oc cv,h.ext (bz.trans cv),?_,?_,?_,?_,?_,?_⟩,⟨fun f aG=> ?_,fun f aG og=> ?_,fun i j hi a6 U=> ?_,fun q J=>J.elim⟩⟩,bz.trans cv,by omega,cP _⟩)
 · show Var _ _ [_, .slice _ (List.replicate k hA).length (List.replicate k hA).length,_] _
   rw[Gt];exact g1
 · show 8≤(List.replicate k hA).length;simpa using U
 · show (List.replicate k hA).length≤64;simpa using ad
 · show 0<(List.replicate k hA).length;simp;omega
 · show ag.heap.size≠w.heap.size;omega
 · intro e
   have:=h.lt e
   have:ag.heap.size<w.heap.size:=this
   omega
 · intro e
   have:=h.lt e
   have:w.heap.size<w.heap.size:=this
   omega
 · rw[QM aG];rfl
 · rw[QM aG] at og;cases og
 · simp[N5,hA] at U
end
section
def xf (o_ cX cy eJ eW iJ k7 kS:Bool):Nat:=
 o_.toNat+2*cX.toNat+4*cy.toNat+8*eJ.toNat+16*eW.toNat+32*iJ.toNat+64*k7.toNat+128*kS.toNat
def byteOf (f:Nat→Bool) (i:Nat):Nat:=xf (f (8*i)) (f (8*i+1)) (f (8*i+2)) (f (8*i+3)) (f (8*i+4)) (f (8*i+5)) (f (8*i+6)) (f (8*i+7))
theorem akM:∀o_ cX cy eJ eW iJ k7 kS:Bool,xf o_ cX cy eJ eW iJ k7 kS<256:=by decide+kernel
theorem akN:∀o_ cX cy eJ eW iJ k7 kS:Bool,
   (xf o_ cX cy eJ eW iJ k7 kS).testBit 0=o_∧(xf o_ cX cy eJ eW iJ k7 kS).testBit 1=cX∧(xf o_ cX cy eJ eW iJ k7 kS).testBit 2=cy∧(xf o_ cX cy eJ eW iJ k7 kS).testBit 3=eJ∧
   (xf o_ cX cy eJ eW iJ k7 kS).testBit 4=eW∧(xf o_ cX cy eJ eW iJ k7 kS).testBit 5=iJ∧(xf o_ cX cy eJ eW iJ k7 kS).testBit 6=k7∧(xf o_ cX cy eJ eW iJ k7 kS).testBit 7=kS:=by decide+kernel
theorem xg (f:Nat→Bool) (i:Nat):byteOf f i<256:=akM _ _ _ _ _ _ _ _
theorem E1 (f:Nat→Bool) (i j:Nat) (a6:j<8):(byteOf f i).testBit j=f (8*i+j):=by
 obtain ⟨b3,U,ad,ar,aI,aW,b5,im⟩:=akN (f (8*i)) (f (8*i+1)) (f (8*i+2)) (f (8*i+3)) (f (8*i+4)) (f (8*i+5)) (f (8*i+6)) (f (8*i+7))
 have:j=0∨j=1∨j=2∨j=3∨j=4∨j=5∨j=6∨j=7:=by omega
 unfold byteOf
 rcases this with rfl|rfl|rfl|rfl|rfl|rfl|rfl|rfl<;>assumption
theorem akO {x y:Nat} (af:x<256) (b2:y<256) (h:∀j,j<8→x.testBit j=y.testBit j):x=y:=by
 apply Nat.eq_of_testBit_eq
 intro j
 by_cases a6:j<8
 · exact h j a6
 · have p:256≤2^j:=by
     have:=ML (n:=2) (by omega) (by omega:8≤j)
     simpa using this
   rw[Nat.testBit_lt_two_pow (by omega),Nat.testBit_lt_two_pow (by omega)]
theorem Ss (f:Nat→Bool) (i x:Nat) (af:x<256) (h:∀j,j<8→x.testBit j=f (8*i+j)):x=byteOf f i:=
 akO af (xg f i) fun j a6=>by rw[h j a6,E1 f i j a6]
def j9 (f:Nat→Bool) (k:Nat) (b:Bool):Nat→Bool:=fun i=>if i=k then b else f i
theorem akP:∀x:Nat,x<256→∀j:Nat,j<8→(tJ .u8 (Int.fdiv (x:Int) (2^(min (Int.toNat (j:Int)) 8))) 1==1)=x.testBit j:=by decide+kernel
theorem akQ:∀x:Nat,x<256→∀j:Nat,j<8→B0 .u8 (x:Int) (IntKind.wrap .u8 (1*2^(min (Int.toNat (j:Int)) 8)))=((x|||2^j:Nat):Int):=by decide+kernel
theorem akR:∀x:Nat,x<256→∀j:Nat,j<8→Zi .u8 (x:Int) (IntKind.wrap .u8 (1*2^(min (Int.toNat (j:Int)) 8)))=((x&&&(255-2^j):Nat):Int):=by decide+kernel
theorem St:∀x:Nat,x<256→∀y:Nat,y<256→x|||y<256:=fun _ af _ b2=>Nat.or_lt_two_pow (n:=8) af b2
theorem akS:∀j:Nat,j<8→∀k:Nat,k<8→(255-2^j).testBit k=(k !=j):=by decide+kernel
theorem akT (x y:Nat) (af:x<256) (b2:y<256):B0 .u8 (x:Int) (y:Int)=((x|||y:Nat):Int):=by
 have h:=St x af y b2
 have e:(BitVec.ofInt 8 (x:Int)|||BitVec.ofInt 8 (y:Int)).toNat=x|||y:=by
   simp only[BitVec.ofInt_natCast,BitVec.toNat_or,BitVec.toNat_ofNat]
   rw[uL (by simpa using af),uL (by simpa using b2)]
 show IntKind.wrap .u8 (((BitVec.ofInt 8 (x:Int)|||BitVec.ofInt 8 (y:Int)).toNat:Nat):Int)=_
 rw[e]
 have:((x|||y:Nat):Int)%256=((x|||y:Nat):Int):=Int.emod_eq_of_lt (by omega) (by omega)
 simp[IntKind.wrap,IntKind.signed,IntKind.bits,this]
theorem akU (k:Nat):8*(k/8)+k%8=k:=Nat.div_add_mod k 8
theorem akV (f:Nat→Bool) (k:Nat):byteOf f (k/8)|||2^(k%8)=byteOf (j9 f k true) (k/8):=by
 refine Ss _ _ _ (St _ (xg _ _) _ ?_) fun j a6=> ?_
 · have:k%8<8:=sI _ (by omega)
   have:=Nat.pow_lt_pow_right (a:=2) (by omega) this
   simpa using this
 · rw[BS,E1 _ _ _ a6,Je,j9]
   by_cases h:8*(k/8)+j=k
   · rw[if_pos h]
     have:k%8=j:=by omega
     simp[this]
   · rw[if_neg h]
     have:¬k%8=j:=by omega
     simp[this]
theorem akW (f:Nat→Bool) (k:Nat):byteOf f (k/8)&&&(255-2^(k%8))=byteOf (j9 f k false) (k/8):=by
 refine Ss _ _ _ (Nat.lt_of_le_of_lt Nat.and_le_left (xg _ _)) fun j a6=> ?_
 rw[Nat.testBit_and,E1 _ _ _ a6,akS _ (sI _ (by omega)) _ a6,j9]
 by_cases h:8*(k/8)+j=k
 · rw[if_pos h]
   have:j=k%8:=by omega
   simp[this]
 · rw[if_neg h]
   have:¬j=k%8:=by omega
   simp[this]
theorem akX (f:Nat→Bool) (k i:Nat) (b:Bool) (h:i≠k/8):byteOf (j9 f k b) i=byteOf f i:=by
 have e:∀j,j<8→j9 f k b (8*i+j)=f (8*i+j):=fun j a6=>by
   unfold j9
   rw[if_neg]
   omega
 unfold byteOf
 rw[e 1 (by omega),e 2 (by omega),e 3 (by omega),e 4 (by omega),e 5 (by omega),e 6 (by omega),e 7 (by omega)]
 have:=e 0 (by omega)
 simp only[zE] at this
 rw[this]
def k8 (f:Nat→Bool) (m:Nat):List Value:=(List.range m).map fun i=> .int .u8 (byteOf f i)
theorem Su (f:Nat→Bool) (m:Nat):(k8 f m).length=m:=by simp[k8]
theorem E2 (f:Nat→Bool) {m i:Nat} (h:i<m):(k8 f m)[i]? =some (.int .u8 (byteOf f i)):=by simp[k8,h]
theorem Zj (f:Nat→Bool) (k m:Nat) (b:Bool):(k8 f m).set (k/8) (.int .u8 (byteOf (j9 f k b) (k/8)))=k8 (j9 f k b) m:=by
 apply List.ext_getElem?
 intro i
 rw[List.getElem?_set]
 by_cases hi:i<m
 · rw[E2 (j9 f k b) hi]
   by_cases h:k/8=i
   · subst h
     simp[Su,hi]
   · rw[if_neg h,E2 _ hi,akX f k i b (by omega)]
 · have U:(k8 (j9 f k b) m)[i]? =none:=by simp[k8];omega
   have ad:(k8 f m)[i]? =none:=by simp[k8];omega
   rw[U,ad]
   split
   · simp[Su];omega
   · rfl
end
section
theorem Zk (k:Nat):Int.tdiv (k:Int) 8=((k/8:Nat):Int):=by
 rw[Int.tdiv_eq_ediv_of_nonneg (by omega)];omega
theorem Sv (k:Nat):Int.tmod (k:Int) 8=((k%8:Nat):Int):=by
 rw[Int.tmod_eq_emod_of_nonneg (by omega)];omega
theorem Sw {k:Nat} (h:k≤9223372036854775807):IntKind.wrap .i64 (Int.tdiv (k:Int) 8)=((k/8:Nat):Int):=by
 rw[Zk,cE (by omega) (by omega)]
theorem Zl {s:aa} {b:Nat} (h:s.a=some ⟨b,0,none⟩):aR s b:=⟨_,h,rfl⟩
theorem Kk {w:World} {s:aa} {f:Nat→Bool} {m k:Nat} (h:b6 1 ah.uint8 w s (k8 f m)) (ae:k/8<m) (dW:k≤9223372036854775807):
   aQ Tryz.prog F.vr #[.slice s.a s.len s.cap, .int .i64 k] w (fun v w'=>v= .bool (f k)∧w=w'):=by
 refine W.akY s k w _ ?_
 (delta W.vr a8 aC iq;dsimp only)
 obtain ⟨b,c,ab,iW,fj,hi,Sx,al,_⟩:=h.cell (E2 f ae)
 refine ⟨by decide,_,ab,?_⟩
 rw[Sw dW,Sv]
 refine ⟨⟨by omega,by omega⟩,(byteOf f (k/8):Int),?_,by decide,by omega,?_,rfl⟩
 · rw[ml,hF,aV,gR];exact al
 · rw[akP _ (xg _ _) _ (sI _ (by omega)),E1 _ _ _ (sI _ (by omega)),akU]
theorem Zm {w:World} {s:aa} {f:Nat→Bool} {m k:Nat} (h:b6 1 ah.uint8 w s (k8 f m)) (ae:k/8<m) (dW:k≤9223372036854775807):
   aQ Tryz.prog F.As #[.slice s.a s.len s.cap, .int .i64 k] w (fun v w'=>v= .tuple #[]∧b6 1 ah.uint8 w' s (k8 (j9 f k true) m)∧ao (aR s) w w'):=by
 refine W.akZ s k w _ ?_
 (delta W.As ay a8 aC iq st;dsimp only)
 obtain ⟨b,c,ab,iW,fj,hi,Sx,al,_⟩:=h.cell (E2 f ae)
 have aS:(Addr.mk b 0 none).add (Int.toNat ((k/8:Nat):Int)*1)=⟨b,k/8,none⟩:=by rw[ml,hF,aV,gR]
 rw[Sw dW,Sv]
 refine ⟨by decide,_,ab,⟨by omega,by omega⟩,by simp,(byteOf f (k/8):Int),by rw[aS];exact al,by decide,by omega,_,ab,⟨by omega,by omega⟩,⟨_,by rw[aS];exact al⟩,by rw[aS];exact iW.drew.frozen _ rfl,rfl,?_,?_⟩
 · rw[aS,akQ _ (xg _ _) _ (sI _ (by omega)),akV,←Zj]
   have p9:b6 1 ah.uint8 w.drew s (k8 f m):=h.an (W:=fun _=>False) (ao.drew (.refl _ _)) (fun _ _ h=>h)
   exact p9.set ab _
 · rw[aS]
   exact ao.set (ao.drew (.refl _ _)) (fun _=>Zl ab) _
theorem ak0 {w:World} {s:aa} {f:Nat→Bool} {m k:Nat} (h:b6 1 ah.uint8 w s (k8 f m)) (ae:k/8<m) (dW:k≤9223372036854775807):
   aQ Tryz.prog F.CT #[.slice s.a s.len s.cap, .int .i64 k] w (fun v w'=>v= .tuple #[]∧b6 1 ah.uint8 w' s (k8 (j9 f k false) m)∧ao (aR s) w w'):=by
 refine W.ak1 s k w _ ?_
 (delta W.CT ay a8 aC iq st;dsimp only)
 obtain ⟨b,c,ab,iW,fj,hi,Sx,al,_⟩:=h.cell (E2 f ae)
 have aS:(Addr.mk b 0 none).add (Int.toNat ((k/8:Nat):Int)*1)=⟨b,k/8,none⟩:=by rw[ml,hF,aV,gR]
 rw[Sw dW,Sv]
 refine ⟨by decide,_,ab,⟨by omega,by omega⟩,by simp,(byteOf f (k/8):Int),by rw[aS];exact al,by decide,by omega,_,ab,⟨by omega,by omega⟩,⟨_,by rw[aS];exact al⟩,by rw[aS];exact iW.drew.frozen _ rfl,rfl,?_,?_⟩
 · rw[aS,akR _ (xg _ _) _ (sI _ (by omega)),akW,←Zj]
   have p9:b6 1 ah.uint8 w.drew s (k8 f m):=h.an (W:=fun _=>False) (ao.drew (.refl _ _)) (fun _ _ h=>h)
   exact p9.set ab _
 · rw[aS]
   exact ao.set (ao.drew (.refl _ _)) (fun _=>Zl ab) _
structure lR (w:World) (b n:Nat) (f g:Nat→Bool) (s1 s2:aa):Prop where
 dv:cn w b #[.int .i64 n, .slice s1.a s1.len s1.cap, .slice s2.a s2.len s2.cap] ah.CU
 now:b6 1 ah.uint8 w s1 (k8 f ((n+7)/8))
 sure:b6 1 ah.uint8 w s2 (k8 g ((n+7)/8))
 d1:∀k,aR s1 k→k≠b∧¬aR s2 k
 d2:∀k,aR s2 k→k≠b
 di:1≤n
 c_:n≤1600
 E3:∀i,n≤i→f i=false
 hT:∀i,n≤i→g i=false
def l_ (b:Nat) (s1 s2:aa) (k:Nat):Prop:=k=b∨aR s1 k∨aR s2 k
section
variable {w w':World} {b n:Nat} {f g:Nat→Bool} {s1 s2:aa}
theorem lR.an {W:Nat→Prop} (h:lR w b n f g s1 s2) (al:ao W w w') (aD:∀k,l_ b s1 s2 k→¬W k):lR w' b n f g s1 s2:=
 ⟨h.dv.an al (aD b (.inl rfl)),h.now.an al fun k ae=>aD k (.inr (.inl ae)),h.sure.an al fun k ae=>aD k (.inr (.inr ae)),h.d1,h.d2,h.di,h.c_,h.E3,h.hT⟩
theorem lR.ext (h:lR w b n f g s1 s2) (al:Ext w w'):lR w' b n f g s1 s2:=h.an al fun _ _ h=>h
theorem lR.lt (h:lR w b n f g s1 s2):∀k,l_ b s1 s2 k→k<w.heap.size:=by
 rintro k (rfl|ae|ae)
 · exact h.dv.lt
 · exact h.now.lt k ae
 · exact h.sure.lt k ae
theorem lR.cA (h:lR w b n f g s1 s2):w.cell? ⟨b,0,none⟩=some (.int .i64 n):=by rw[h.dv.cell];rfl
theorem lR.bd (h:lR w b n f g s1 s2):w.cell? ((Addr.mk b 0 none).add 1)=some (.slice s1.a s1.len s1.cap):=by rw[aV,h.dv.cell];rfl
theorem lR.bc (h:lR w b n f g s1 s2):w.cell? ((Addr.mk b 0 none).add 2)=some (.slice s2.a s2.len s2.cap):=by rw[aV,h.dv.cell];rfl
theorem ak2 (h:lR w b n f g s1 s2) {k:Nat} (ae:k<n):
   aQ Tryz.prog F.CV #[.pointer (some ⟨b,0,none⟩), .int .i64 k] w (fun v w'=>v= .bool (f k||g k)∧w=w'):=by
 have aD:=h.c_
 refine W.ak3 _ k w _ ?_
 (delta W.CV aq a_ aE;dsimp only)
 refine ⟨_,rfl,s1,h.bd,(Kk h.now (k:=k) (by omega) (by omega)).use ?_⟩
 rintro _ _ ⟨rfl,rfl⟩
 refine ⟨_,rfl,⟨fun aG=>⟨by rw[aG];rfl,rfl⟩,fun aG=>⟨_,rfl,s2,h.bc,(Kk h.sure (k:=k) (by omega) (by omega)).use ?_⟩⟩⟩
 rintro _ _ ⟨rfl,rfl⟩
 exact ⟨_,rfl,by rw[aG];rfl,rfl⟩
theorem Zn (h:lR w b n f g s1 s2) (k:Int):
   aQ Tryz.prog F.At #[.pointer (some ⟨b,0,none⟩), .int .i64 k] w (fun v w'=>v= .bool (decide (0≤k)&&decide (k<n))∧w=w'):=by
 refine W.ak4 _ k w _ ?_
 (delta W.At aE bA;dsimp only)
 refine ⟨?_⟩
 refine ⟨fun U=>⟨_,rfl,n,h.cA,?_,rfl⟩,fun U=>⟨?_,rfl⟩⟩
 · have:0≤k:=by simpa using U
   simp[this]
 · have:¬0≤k:=by simpa using U
   simp[this]
def firstFree (t:Nat→Bool) (n:Nat):Option Nat:=(List.range n).find? fun i=> !t i
theorem ak5 {t:Nat→Bool} {n k:Nat} (ae:k<n) (aN:t k=false) (az:∀i,i<k→t i=true):firstFree t n=some k:=by
 unfold firstFree
 rw[List.find?_eq_some_iff_append]
 refine ⟨by simp[aN],List.range k,(List.range' (k+1) (n-(k+1))),?_,fun a aS=> ?_⟩
 · have aY:=List.range'_append (s:=0) (m:=k) (n:=n-(k+1)+1) (step:=1)
   rw[MN,MN,←List.range'_succ]
   rw[Nat.one_mul,gR] at aY
   rw[aY]
   congr 1
   omega
 · simp[az a (v7.1 aS)]
theorem ak6 {t:Nat→Bool} {n:Nat} (az:∀i,i<n→t i=true):firstFree t n=none:=by
 unfold firstFree
 rw[r2]
 intro a aS
 simp[az a (v7.1 aS)]
theorem ak7 {t:Nat→Bool} {n k:Nat} (h:firstFree t n=some k):k<n∧t k=false∧∀i,i<k→t i=true:=by
 unfold firstFree at h
 obtain ⟨U,pE,h7,ad,ar⟩:=List.find?_eq_some_iff_append.1 h
 have ae:k<n:=v7.1 (by rw[ad];simp)
 refine ⟨ae,by simpa using U,fun i hi=> ?_⟩
 have hlen:pE.length=k:=by
   have aI:(List.range n)[pE.length]? =some k:=by rw[ad];simp
   rw[List.getElem?_range (by
     have:=congrArg List.length ad
     simp at this
     omega)] at aI
   simpa using aI
 have aW:(List.range n)[i]? =some i:=List.getElem?_range (by omega)
 rw[ad,List.getElem?_append_left (by omega)] at aW
 have:=ar i (List.mem_of_getElem? aW)
 simpa using this
theorem ak8 {t:Nat→Bool} {n:Nat} (h:firstFree t n=none):∀i,i<n→t i=true:=by
 unfold firstFree at h
 rw[r2] at h
 intro i hi
 have:=h i (v7.2 hi)
 simpa using this
def ak9 (o:Option Nat):Value:=
 match o with
 |some k=> .tuple #[.int .i64 (k:Int), .int .i64 0]
 |none=> .tuple #[.int .i64 (-1), .int .i64 2]
def ak_ (o:Option Nat) (f:Nat→Bool):Nat→Bool:=
 match o with
 |some k=>j9 f k true
 |none=>f
theorem Zo {f:Nat→Bool} {n k:Nat} {x:Bool} (h:∀i,n≤i→f i=false) (ae:k<n):∀i,n≤i→j9 f k x i=false:=fun i hi=>by
 unfold j9
 rw[if_neg (by omega)]
 exact h i hi
theorem ala (h:lR w b n f g s1 s2):
   aQ Tryz.prog F.CW #[.pointer (some ⟨b,0,none⟩)] w (fun v w'=>v=ak9 (firstFree (fun i=>f i||g i) n)∧lR w' b n (ak_ (firstFree (fun i=>f i||g i) n) f) g s1 s2∧ao (l_ b s1 s2) w w'):=by
 have o5:=h.c_
 refine W.alb _ w _ ?_
 (delta W.CW aE bA a_ aq bd aC;dsimp only)
 refine ⟨fun U=>by simp at U,fun _=>⟨_,rfl,n,h.cA,fun i w'=>∃k:Nat,i=k∧k≤n∧w=w'∧∀j,j<k→(f j||g j)=true,fun i _=>(n-i).toNat,⟨0,rfl,by omega,rfl,fun j a6=>by omega⟩,?_⟩⟩
 rintro _ _ ⟨k,rfl,ae,rfl,gJ⟩
 refine ⟨fun a9=>(ak2 h (k:=k) (by simpa using a9)).use ?_,fun cm=> ?_⟩
 · have E4:k<n:=by simpa using a9
   rintro _ _ ⟨rfl,rfl⟩
   refine ⟨_,rfl,fun aN=>⟨_,rfl,s1,h.bd,(Zm h.now (k:=k) (by omega) (by omega)).use ?_⟩,fun aN=> ?_⟩
   · rintro _ w' ⟨rfl,mU,al⟩
     have Ab:(f k||g k)=false:=by simpa using aN
     have yB:=ak5 (t:=fun i=>f i||g i) E4 Ab gJ
     rw[yB]
     refine ⟨rfl,rfl,⟨h.dv.an al fun ab=>(h.d1 b ab).1 rfl,mU,h.sure.an al fun k ae U=>(h.d1 k U).2 ae,h.d1,h.d2,h.di,h.c_,Zo h.E3 E4,h.hT⟩,al.mono fun k _ ae=> .inr (.inl ae)⟩
   · have Ab:(f k||g k)=true:=by cases af:(f k||g k)<;>simp[af] at aN⊢
     rw[cE (by omega) (by omega)]
     refine ⟨⟨k+1,by omega,by omega,rfl,fun j a6=> ?_⟩,(show ((n:Int)-((k:Int)+1)).toNat<((n:Int)-(k:Int)).toNat by omega)⟩
     rcases hE j k with U|U
     · exact gJ j U
     · have:j=k:=by omega
       subst this;exact Ab
 · have E4:k=n:=by
     have:¬(k:Int)<n:=by simpa using cm
     omega
   subst E4
   rw[ak6 gJ]
   exact ⟨rfl,h, .refl _ _⟩
def N6 (f:Nat→Bool) (n:Nat) (k:Int):Int:=if 0≤k∧k<n then (if f k.toNat then 0 else 6) else 1
def Ho (f:Nat→Bool) (n:Nat) (k:Int):Nat→Bool:=if 0≤k∧k<n then j9 f k.toNat false else f
theorem alc {f:Nat→Bool} {k:Nat} {x:Bool} (h:f k=x):j9 f k x=f:=by
 funext i
 unfold j9
 split
 · rename_i hi;rw[hi,h]
 · rfl
theorem ald (h:lR w b n f g s1 s2) (k:Int):
   aQ Tryz.prog F.CX #[.pointer (some ⟨b,0,none⟩), .int .i64 k] w (fun v w'=>v= .int .i64 (N6 f n k)∧lR w' b n (Ho f n k) g s1 s2∧ao (l_ b s1 s2) w w'):=by
 have o5:=h.c_
 refine W.ale _ k w _ ?_
 (delta W.CX a_ aE aq bd;dsimp only)
 refine (Zn h k).use ?_
 rintro _ _ ⟨rfl,rfl⟩
 refine ⟨_,rfl,fun U=> ?_,fun U=> ?_⟩
 · have:¬(0≤k∧k<n):=by
     rintro ⟨ad,ar⟩
     simp[ad,ar] at U
   exact ⟨by rw[N6,if_neg this],by rw[Ho,if_neg this];exact h, .refl _ _⟩
 · have aU:0≤k∧k<n:=by simpa using U
   obtain ⟨m,rfl⟩:=QN aU.1
   have hm:m<n:=by omega
   refine ⟨_,rfl,s1,h.bd,(Kk h.now (k:=m) (by omega) (by omega)).use ?_⟩
   rintro _ _ ⟨rfl,rfl⟩
   refine ⟨_,rfl,fun ad=> ?_,fun ad=>⟨_,rfl,s1,h.bd,(ak0 h.now (k:=m) (by omega) (by omega)).use ?_⟩⟩
   · have aG:f m=false:=by simpa using ad
     refine ⟨by rw[N6,if_pos aU,hF,aG];rfl,?_, .refl _ _⟩
     rw[Ho,if_pos aU,hF,alc aG]
     exact h
   · rintro _ w' ⟨rfl,mU,al⟩
     have aG:f m=true:=by simpa using ad
     refine ⟨rfl,by rw[N6,if_pos aU,hF,aG];rfl,?_,al.mono fun k _ ae=> .inr (.inl ae)⟩
     rw[Ho,if_pos aU,hF]
     exact ⟨h.dv.an al fun ab=>(h.d1 b ab).1 rfl,mU,h.sure.an al fun k ae U=>(h.d1 k U).2 ae,h.d1,h.d2,h.di,h.c_,Zo h.E3 hm,h.hT⟩
theorem alf (h:lR w b n f g s1 s2) (k:Int):
   aQ Tryz.prog F.CY #[.pointer (some ⟨b,0,none⟩), .int .i64 k] w (fun v w'=>v= .bool (decide (0≤k)&&decide (k<n)&&f k.toNat&& !(g k.toNat))∧w=w'):=by
 have o5:=h.c_
 refine W.alg _ k w _ ?_
 (delta W.CY a_ aE aq;dsimp only)
 refine (Zn h k).use ?_
 rintro _ _ ⟨rfl,rfl⟩
 refine ⟨_,rfl,⟨fun U=> ?_,fun U=>⟨(fun h=>by cases h),fun _=>⟨by rw[U];rfl,rfl⟩⟩⟩⟩
 have aU:0≤k∧k<n:=by simpa using U
 obtain ⟨m,rfl⟩:=QN aU.1
 refine ⟨_,rfl,s1,h.bd,(Kk h.now (k:=m) (by omega) (by omega)).use ?_⟩
 rintro _ _ ⟨rfl,rfl⟩
 refine ⟨_,rfl,fun ad=>⟨_,rfl,s2,h.bc,(Kk h.sure (k:=m) (by omega) (by omega)).use ?_⟩,fun ad=>⟨by rw[U,hF,ad];rfl,rfl⟩⟩
 rintro _ _ ⟨rfl,rfl⟩
 exact ⟨_,rfl,by rw[U,hF,ad];rfl,rfl⟩
end
end
section
theorem alh:qx Tryz.prog ah.Kl ah.uint8 1 1:=⟨by kernel_rfl⟩
theorem ali (n:Nat):pC Tryz.prog ah.uint8 n=(List.replicate n (.int .u8 0)).toArray:=Xl (by kernel_rfl) (by kernel_rfl) n
theorem alj (f:Nat→Bool) (m:Nat):∀v∈k8 f m,Plain v:=by
 intro v ak
 obtain ⟨i,_,rfl⟩:=p4.1 ak
 trivial
theorem alk {w:World} {s:aa} {xs:List Value} (h:Src 1 w s xs) (aT:∀v∈xs,Plain v) (aD:s.len≤1000000):
   aQ Tryz.prog F.CZ #[.slice s.a s.len s.cap] w (fun v w'=>∃au:aa,v= .slice au.a au.len au.cap∧b6 1 ah.uint8 w' au xs∧Ext w w'∧∀k,aR au k→w.heap.size≤k):=by
 refine W.alm s w _ ?_
 delta W.CZ ay aE ai
 refine ⟨fun aS=> ?_,fun _=> ?_⟩
 · have aS:s.a=none:=by simpa using aS
   rw[h.nil aS]
   exact ⟨⟨none,0,0⟩,rfl,b6.none _ _ _, .refl _ _,fun k ae=>(r7 k ae).elim⟩
 · obtain ⟨au,w',U,ad,ar,aI,aW,_⟩:=alh.clone (ez:=ah.Kl) h aT (by omega)
   exact ⟨au,w',U,au,rfl,ad,aI,aW⟩
section
variable {w w':World} {b n:Nat} {f g:Nat→Bool} {s1 s2:aa}
theorem Sy {T:TypeId} {m:Nat} (h:b6 1 T w s1 (k8 f m)):s1.len=m:=by
 have:=h.1
 rw[Su] at this
 omega
theorem Zp {m:Nat} {u:Value} (ab:cn w b #[.int .i64 n, .slice s1.a s1.len s1.cap,u] ah.CU) (U:b6 1 ah.uint8 w s1 (k8 f m)) (hd:∀k,aR s1 k→k≠b) (hm:m≤1000000):
   aQ Tryz.prog F.yT #[.pointer (some ⟨b,0,none⟩)] w (fun v w'=>v= .tuple #[]∧∃rF:aa,cn w' b #[.int .i64 n, .slice s1.a s1.len s1.cap, .slice rF.a rF.len rF.cap] ah.CU∧
     b6 1 ah.uint8 w' s1 (k8 f m)∧b6 1 ah.uint8 w' rF (k8 f m)∧ao (fun k=>k=b) w w'∧∀k,aR rF k→w.heap.size≤k):=by
 refine W.aln _ w _ ?_
 (delta W.yT ay aE aq dL st;dsimp only)
 refine ⟨fun _=>⟨_,rfl,s1,by rw[aV,ab.cell];rfl,(alk U.src (alj f m) (by rw[Sy U];exact hm)).use ?_⟩,fun h=>by simp at h⟩
 rintro _ aw ⟨rF,rfl,ad,af,aG⟩
 have g2:=ab.ext af
 have en:∀k,aR rF k→k≠b:=fun k ae e=>by have:=aG k ae;have:=ab.lt;omega
 refine ⟨rF,rfl,_,rfl,⟨_,by rw[aV,g2.cell];rfl⟩,g2.frozen _ rfl,rfl,rF,?_,?_,?_,?_,aG⟩
 · rw[aV];exact g2.set 2 _
 · exact (U.ext af).an (W:=fun k=>k=b) (ao.set (.refl _ _) (fun _=>by rw[aV]) _) hd
 · exact ad.an (W:=fun k=>k=b) (ao.set (.refl _ _) (fun _=>by rw[aV]) _) en
 · exact (ao.eK af).set (fun _=>by rw[aV]) _
theorem alo (h:lR w b n f g s1 s2):
   aQ Tryz.prog F.yT #[.pointer (some ⟨b,0,none⟩)] w (fun v w'=>v= .tuple #[]∧∃rF:aa,lR w' b n f f s1 rF∧ao (l_ b s1 s2) w w'∧∀k,l_ b s1 rF k→l_ b s1 s2 k∨w.heap.size≤k):=by
 have aD:=h.c_
 refine (Zp h.dv h.now (fun k ae=>(h.d1 k ae).1) (by omega)).mono ?_
 rintro _ w' ⟨rfl,rF,U,ad,ar,aI,aW⟩
 refine ⟨rfl,rF,⟨U,ad,ar,fun k ae=>⟨(h.d1 k ae).1,fun dW=> ?_⟩,fun k ae e=> ?_,h.di,h.c_,h.E3,h.E3⟩,aI.mono fun k _ ae=> .inl ae,fun k ae=> ?_⟩
 · have:=aW k dW;have:=h.now.lt k ae;omega
 · have:=aW k ae;have:=h.dv.lt;omega
 · rcases ae with rfl|ae|ae
   · exact .inl (.inl rfl)
   · exact .inl (.inr (.inl ae))
   · exact .inr (aW k ae)
def Hp (x:Nat):Nat:=(x.testBit 0).toNat+(x.testBit 1).toNat+(x.testBit 2).toNat+(x.testBit 3).toNat+(x.testBit 4).toNat+(x.testBit 5).toNat+(x.testBit 6).toNat+(x.testBit 7).toNat
def mB (t:Nat→Bool):Nat→Nat
 |0=>0
 |k+1=>mB t k+(t k).toNat
theorem Hq (t:Nat→Bool):∀k,mB t k≤k
 |0=>cP _
 |k+1=>by have:=Hq t k;have:=Bool.toNat_le (t k);simp only[mB];omega
theorem alp (t:Nat→Bool) (i:Nat):mB t (8*(i+1))=mB t (8*i)+Hp (byteOf t i):=by
 have h:∀j,j<8→(byteOf t i).testBit j=t (8*i+j):=fun j a6=>E1 t i j a6
 unfold Hp
 rw[h 0 (by omega),h 1 (by omega),h 2 (by omega),h 3 (by omega),h 4 (by omega),h 5 (by omega),h 6 (by omega),h 7 (by omega)]
 show mB t (8*i+7+1)=_
 simp only[mB,zE]
 omega
theorem Zq (t:Nat→Bool) (n:Nat) (h:∀i,n≤i→t i=false):∀k,mB t (n+k)=mB t n
 |0=>rfl
 |k+1=>by
   have:=Zq t n h k
   show mB t (n+k)+(t (n+k)).toNat=_
   rw[this,h (n+k) (by omega)]
   rfl
theorem alq:∀x:Nat,x<256→(Sz (ByteArray.mk #[0,1,1,2,1,2,2,3,1,2,2,3,2,3,3,4,1,2,2,3,2,3,3,4,2,3,3,4,3,4,4,5,1,2,2,3,2,3,3,4,2,3,3,4,3,4,4,5,2,3,3,4,3,4,4,5,3,4,4,5,4,5,5,6,1,2,2,3,2,3,3,4,2,3,3,4,3,4,4,5,2,3,3,4,3,4,4,5,3,4,4,5,4,5,5,6,2,3,3,4,3,4,4,5,3,4,4,5,4,5,5,6,3,4,4,5,4,5,5,6,4,5,5,6,5,6,6,7,1,2,2,3,2,3,3,4,2,3,3,4,3,4,4,5,2,3,3,4,3,4,4,5,3,4,4,5,4,5,5,6,2,3,3,4,3,4,4,5,3,4,4,5,4,5,5,6,3,4,4,5,4,5,5,6,4,5,5,6,5,6,6,7,2,3,3,4,3,4,4,5,3,4,4,5,4,5,5,6,3,4,4,5,4,5,5,6,4,5,5,6,5,6,6,7,3,4,4,5,4,5,5,6,4,5,5,6,5,6,6,7,4,5,5,6,5,6,6,7,5,6,6,7,6,7,7,8]) x).map (·.toNat)=some (Hp x):=by decide+kernel
theorem Zr (x:Nat):Hp x≤8:=by
 unfold Hp
 have h:∀b:Bool,b.toNat≤1:=Bool.toNat_le
 have:=h (x.testBit 0);have:=h (x.testBit 1);have:=h (x.testBit 2);have:=h (x.testBit 3)
 have:=h (x.testBit 4);have:=h (x.testBit 5);have:=h (x.testBit 6);have:=h (x.testBit 7)
 omega
theorem alr (w:World) (x:Nat) (af:x<256):aQ Tryz.prog F.C0 #[.int .u8 x] w (fun v w'=>v= .int .i64 (Hp x)∧w=w'):=by
 refine W.als x w _ ?_
 delta W.C0 aC
 have h:=alq x af
 refine ⟨by omega,?_⟩
 cases ab:Sz _ x with
 |none=>rw[ab] at h;cases h
 |some y=>
   rw[ab] at h
   simp only[BP,Option.some.injEq] at h
   refine ⟨y,ab,?_,rfl⟩
   rw[h,cE (by omega) (by have:=Zr x;omega)]
theorem alt (f g:Nat→Bool) (i:Nat):byteOf f i|||byteOf g i=byteOf (fun k=>f k||g k) i:=
 Ss _ _ _ (St _ (xg _ _) _ (xg _ _)) fun j a6=>by rw[BS,E1 _ _ _ a6,E1 _ _ _ a6]
theorem SA (h:lR w b n f g s1 s2):
   aQ Tryz.prog F.yU #[.pointer (some ⟨b,0,none⟩)] w (fun v w'=>v= .int .i64 ((n:Int)-mB (fun i=>f i||g i) n)∧Ext w w'):=by
 have o5:=h.c_
 have r4:=Sy h.now
 have akh:=Sy h.sure
 refine W.alu _ w _ ?_
 (delta W.yU ay aE bA aq a8 iq bc aC;dsimp only)
 refine ⟨fun U=>by simp at U,fun _=>⟨_,rfl,n,h.cA,_,rfl,s1,h.bd,fun r i w'=>∃k:Nat,i=k∧k≤s1.len∧Ext w w'∧r=(n:Int)-mB (fun i=>f i||g i) (8*k),fun _ i _=>((s1.len:Int)-i).toNat,⟨0,rfl,by omega, .refl _ _,by simp[mB]⟩,?_⟩⟩
 rintro _ _ ag ⟨k,rfl,ae,af,rfl⟩
 refine ⟨fun a9=> ?_,fun cm=> ?_⟩
 · have E4:k<s1.len:=by simpa using a9
   have U:=h.ext af.drew
   obtain ⟨cX,bd,oc,atT,_,_,_,iZ,_⟩:=U.now.cell (E2 f (i:=k) (by omega))
   obtain ⟨cy,bc,g2,atU,_,_,_,dS,_⟩:=U.sure.cell (E2 g (i:=k) (by omega))
   have aS:∀b:Nat,(Addr.mk b 0 none).add (Int.toNat (k:Int)*1)=⟨b,k,none⟩:=fun b=>by rw[ml,hF,aV,gR]
   refine ⟨fun _=>False,_,rfl,by simp,s1,U.bd,_,oc,by omega,by simp,_,by rw[aS];exact iZ,_,rfl,by simp,s2,U.bc,_,g2,by omega,by simp,_,by rw[aS];exact dS,?_⟩
   rw[akT _ _ (xg _ _) (xg _ _),alt]
   refine (alr _ _ (xg _ _)).use ?_
   rintro _ _ ⟨rfl,rfl⟩
   have:=Zr (byteOf (fun i=>f i||g i) k)
   have:=Hq (fun i=>f i||g i) (8*k)
   refine ⟨_,rfl, .refl _ _,?_⟩
   rw[cE (n:=(n:Int)-_-_) (by omega) (by omega),cE (n:=(k:Int)+1) (by omega) (by omega)]
   exact ⟨⟨k+1,by omega,by omega,af.drew,by rw[alp];omega⟩,(show ((s1.len:Int)-((k:Int)+1)).toNat<((s1.len:Int)-(k:Int)).toNat by omega)⟩
 · have E4:k=s1.len:=by
     have:¬(k:Int)<s1.len:=by simpa using cm
     omega
   refine ⟨?_,af⟩
   have e:8*k=n+(8*k-n):=by omega
   rw[e,Zq _ _ (fun i hi=>by simp[h.E3 i hi,h.hT i hi])]
end
theorem alv (w:World) (n:Int):aQ Tryz.prog F.C1 #[.int .i64 n] w (fun v w'=>v= .bool (decide (1≤n∧n≤1600))∧w=w'):=by
 refine W.alw n w _ ?_
 unfold W.C1
 refine ⟨?_,rfl⟩
 simp[Bool.decide_and]
theorem alx (w:World) (n:Nat) (aD:n≤1600):aQ Tryz.prog F.C2 #[.int .i64 n] w (fun v w'=>v= .int .i64 (((n+7)/8:Nat):Int)∧w=w'):=by
 refine W.aly n w _ ?_
 delta W.C2 aC
 refine ⟨by decide,?_,rfl⟩
 rw[cE (n:=(n:Int)+8) (by omega) (by omega),cE (n:=(n:Int)+8-1) (by omega) (by omega),show (n:Int)+8-1=((n+7:Nat):Int) by omega,Zk,cE (by omega) (by omega)]
theorem alz (m:Nat):k8 (fun i=>decide (i<0)) m=List.replicate m (.int .u8 0):=by
 apply List.ext_getElem
 · simp[k8]
 · intro i U ad
   simp[k8,byteOf,xf]
theorem alA (j:Nat):j9 (fun i=>decide (i<j)) j true=fun i=>decide (i<j+1):=by
 funext i
 unfold j9
 split
 · rename_i h;simp[h]
 · rename_i h;simp;omega
theorem yV (w:World) (n first:Int):
   aQ Tryz.prog F.yV #[.int .i64 n, .int .i64 first] w (fun v w'=>(¬(1≤n∧n≤1600∧0≤first∧first≤n)∧v= .tuple #[.pointer none, .int .i64 1]∧w=w')∨
     (1≤n∧n≤1600∧0≤first∧first≤n∧∃b s1 s2,v= .tuple #[.pointer (some ⟨b,0,none⟩), .int .i64 0]∧lR w' b n.toNat (fun i=>decide (i<first.toNat)) (fun i=>decide (i<first.toNat)) s1 s2∧Ext w w'∧∀k,l_ b s1 s2 k→w.heap.size≤k)):=by
 refine W.alB n first w _ ?_
 (delta W.yV ay a_ aE bc x_ ai aq bd aC;dsimp only)
 refine (alv w n).use ?_
 rintro _ _ ⟨rfl,rfl⟩
 refine ⟨_,rfl,fun h=> .inl ⟨fun al=> ?_,rfl,rfl⟩,fun h=> ?_⟩
 · simp at h;omega
 simp at h
 obtain ⟨⟨⟨mR,o5⟩,qz⟩,py⟩:=h
 obtain ⟨n,rfl⟩:=QN (by omega:0≤n)
 obtain ⟨first,rfl⟩:=QN (by omega:0≤first)
 refine (alx w n (by omega)).use ?_
 rintro _ _ ⟨rfl,rfl⟩
 refine ⟨_,rfl,by omega,?_⟩
 simp only[hF]
 rw[ali]
 obtain ⟨m,hm⟩:∃m,m=(n+7)/8:=⟨_,rfl⟩
 rw[←hm]
 have mU:=b6.new (sz:=1) (T:=ah.uint8) w (List.replicate m (.int .u8 0)) m (by simp) (by show m≤2^63-1;omega)
 rw[←alz] at mU⊢
 have ax:Ext w (w.alloc (.cells (k8 (fun i=>decide (i<0)) m).toArray ah.uint8)):=ao.alloc (.refl _ _) _
 generalize Ao:w.alloc (.cells (k8 (fun i=>decide (i<0)) m).toArray ah.uint8)=ag at*
 have dB:ag.heap.size=w.heap.size+1:=by rw[←Ao];simp
 have iW:=cn.new ag #[.int .i64 (n:Int), .slice (some ⟨w.heap.size,0,none⟩) m m, .slice none 0 0] ah.CU
 have e1:=ao.alloc ax (.cells #[.int .i64 (n:Int), .slice (some ⟨w.heap.size,0,none⟩) m m, .slice none 0 0] ah.CU)
 have alC:=mU.ext (ao.alloc (.refl _ ag) (.cells #[.int .i64 (n:Int), .slice (some ⟨w.heap.size,0,none⟩) m m, .slice none 0 0] ah.CU))
 refine ⟨fun i w'=>∃j:Nat,i=j∧j≤first∧Ext w w'∧cn w' ag.heap.size #[.int .i64 (n:Int), .slice (some ⟨w.heap.size,0,none⟩) m m, .slice none 0 0] ah.CU∧
   b6 1 ah.uint8 w' ⟨some ⟨w.heap.size,0,none⟩,m,m⟩ (k8 (fun i=>decide (i<j)) m),fun i _=>((first:Int)-i).toNat,⟨0,rfl,by omega,e1,iW,alC⟩,?_⟩
 rintro _ aw ⟨j,rfl,a6,af,g2,uQ⟩
 refine ⟨fun a9=> ?_,fun cm=> ?_⟩
 · have Ew:j<first:=by simpa using a9
   refine ⟨_,rfl,⟨some ⟨w.heap.size,0,none⟩,m,m⟩,by rw[aV,g2.cell];rfl,(Zm uQ (k:=j) (by omega) (by omega)).use ?_⟩
   rintro _ aZ ⟨rfl,r_,al⟩
   rw[alA] at r_
   rw[cE (by omega) (by omega)]
   refine ⟨rfl,⟨j+1,by omega,by omega,?_,g2.an al ?_,r_⟩,(show ((first:Int)-((j:Int)+1)).toNat<((first:Int)-(j:Int)).toNat by omega)⟩
   · exact ((ao.eK af).trans al).mono fun k ae bJ=>by rw[xh] at bJ;simp at bJ;omega
   · intro bJ
     rw[xh] at bJ
     simp at bJ
     omega
 · have Ew:j=first:=by
     have:¬(j:Int)<first:=by simpa using cm
     omega
   subst Ew
   have Zs:∀i,n≤i→decide (i<j)=false:=fun i hi=>by simp;omega
   refine (Zp g2 uQ (fun k ae e=> ?_) (by omega)).use ?_
   · rw[xh] at ae
     simp at ae
     omega
   rintro _ aZ ⟨rfl,rF,U,ad,ar,aI,aW⟩
   have Rk:=g2.lt
   refine ⟨rfl, .inr ⟨by omega,by omega,by omega,by omega,ag.heap.size,⟨some ⟨w.heap.size,0,none⟩,m,m⟩,rF,rfl,⟨U,?_,?_,fun k ae=>⟨fun e=> ?_,fun dW=> ?_⟩,fun k ae e=> ?_,by omega,by omega,Zs,Zs⟩,?_,?_⟩⟩
   · simp only[←hm];exact ad
   · simp only[←hm];exact ar
   · rw[xh] at ae
     simp at ae
     omega
   · rw[xh] at ae
     simp at ae
     have:=aW k dW
     omega
   · have:=aW k ae
     omega
   · exact ((ao.eK af).trans aI).mono fun k ae e=>by omega
   · rintro k (rfl|ae|ae)
     · omega
     · rw[xh] at ae
       simp at ae
       omega
     · have:=aW k ae
       have:=af.size
       omega
end
section
structure aX where
 bK:Nat
 gen:Nat
 root:Nat
 bl:Nat
 C:eM
 dc:Nat
 n:Nat
 f:Nat→Bool
 g:Nat→Bool
 s1:aa
 s2:aa
 E:Nat→Prop
 G:Nat→Prop
 P:Nat→Option aL
def aX.dA (T:aX) (E G:Nat→Prop):aX:={T with E:=E,G:=G}
def aX.cY (T:aX) (C:eM) (P:Nat→Option aL):aX:={T with C:=C,P:=P}
def aX.X (T:aX) (q:Nat):Prop:=q=T.bK∨l_ T.dc T.s1 T.s2 q∨T.E q∨T.G q
def aX.M (T:aX) (q:Nat):Prop:=jq T.C q∨T.X q
def aX.N (T:aX) (q:Nat):Prop:=jq T.C q∨q=T.bK∨l_ T.dc T.s1 T.s2 q∨T.G q
theorem aX.lS {T:aX} {q:Nat} (h:T.N q):T.M q:=h.imp id (Or.imp id (Or.imp id .inr))
def sn (gen:Nat) (leaf:Bool) (no:Nat) (l:mz) (n:aL):Prop:=
 ∃p:tI,l5 (no:Int) l= .ok p∧p.gen≤gen∧p.kind=(if leaf then 1 else 2)∧x6 leaf p.body n
def vt (T:aX):List Value:=[.pointer (some ⟨T.C.c,0,none⟩), .pointer (some ⟨T.dc,0,none⟩), .int .u64 (T.gen:Nat), .int .i64 (T.root:Nat), .int .i64 (T.bl:Nat)]
structure c6 (w:World) (T:aX):Prop where
 t:Var w T.bK (vt T) ah.C3
 s:lR w T.dc T.n T.f T.g T.s1 T.s2
 pP:mV T.X w T.C
 yW:¬l_ T.dc T.s1 T.s2 T.bK
 h0:∀q,T.E q→q≠T.bK∧¬l_ T.dc T.s1 T.s2 q∧¬T.G q
 s5:∀q,T.G q→q≠T.bK∧¬l_ T.dc T.s1 T.s2 q
 n:T.C.D.n=T.n
 num:T.root<T.n∧T.bl≤12∧T.gen<18446744073709551616
 lv:∀no dZ,T.P no=some dZ→no<T.n∧sn T.gen dZ.leaf no (T.C.view no) dZ
structure cc (T av:aX) (w w':World) (k:Nat):Prop where
 bK:av.bK=T.bK
 dc:av.dc=T.dc
 n:av.n=T.n
 g:av.g=T.g
 s1:av.s1=T.s1
 s2:av.s2=T.s2
 c:av.C.c=T.C.c
 d:av.C.D.d=T.C.D.d
 f_:av.C.D.f_=T.C.D.f_
 gen:av.gen=T.gen
 cI:av.C.D.cI≤T.C.D.cI+k
 calm:∀m,T.C.D.calm (m+k)→av.C.D.calm m
 an:ao T.N w w'
 jR:∀q,av.M q→T.M q∨w.heap.size≤q
 fn:∀q,av.N q→T.N q∨w.heap.size≤q
theorem cc.refl (T:aX) (w:World):cc T T w w 0:=⟨rfl,rfl,rfl,rfl,rfl,rfl,rfl,rfl,rfl,rfl,cP _,fun _ h=>h, .refl _ _,fun _ h=> .inl h,fun _ h=> .inl h⟩
theorem cc.ext {w w':World} (T:aX) (h:Ext w w'):cc T T w w' 0:=⟨rfl,rfl,rfl,rfl,rfl,rfl,rfl,rfl,rfl,rfl,cP _,fun _ h=>h,ao.eK h,fun _ h=> .inl h,fun _ h=> .inl h⟩
theorem cc.trans {T av xi:aX} {w w' hO:World} {k l:Nat} (U:cc T av w w' k) (ad:cc av xi w' hO l):cc T xi w hO (k+l):=by
 have aj:=U.an.size
 refine ⟨ad.bK.trans U.bK,ad.dc.trans U.dc,ad.n.trans U.n,ad.g.trans U.g,ad.s1.trans U.s1,ad.s2.trans U.s2,ad.c.trans U.c,ad.d.trans U.d,ad.f_.trans U.f_,ad.gen.trans U.gen,by have:=U.cI;have:=ad.cI;omega,
   fun m hm=>ad.calm m (U.calm (m+l) (by rw[show m+l+k=m+(k+l) by omega];exact hm)),mA U.an ad.an fun q J h=>(U.fn q h).resolve_right (by omega),fun q J=> ?_,fun q J=> ?_⟩
 · rcases ad.jR q J with h|h
   · exact U.jR q h
   · exact .inr (by omega)
 · rcases ad.fn q J with h|h
   · exact U.fn q h
   · exact .inr (by omega)
theorem cc.mono {T av:aX} {w w':World} {k l:Nat} (h:cc T av w w' k) (az:k≤l):cc T av w w' l:=
 ⟨h.bK,h.dc,h.n,h.g,h.s1,h.s2,h.c,h.d,h.f_,h.gen,by have:=h.cI;omega,fun m hm=>h.calm m (oe hm (by omega)),h.an,h.jR,h.fn⟩
theorem cc.dZ {T av:aX} {w w':World} {k lo:Nat} (h:cc T av w w' k) {n:aL} {K V D:aa} (aD:b8 (fun q=>lo≤q∧¬T.M q) w n K V D):b8 (fun q=>lo≤q∧¬av.M q) w' n K V D:=by
 have U:b8 (fun q=>q<w.heap.size∧lo≤q∧¬T.M q) w n K V D:=aD.bw fun q J ab=>⟨J,ab⟩
 refine (b8.an U h.an fun q J hm=>J.2.2 (aX.lS hm)).bw fun q _ ab=>⟨ab.2.1,fun hm=> ?_⟩
 rcases h.jR q hm with ad|ad
 · exact ab.2.2 ad
 · have:=ab.1;omega
section
variable {w w':World} {T av:aX}
theorem cc.step {W E G:Nat→Prop} {ag:World} {k:Nat} (h:cc T av w ag k) (al:ao W ag w') (dK:∀q,W q→q<w.heap.size→T.N q) (fD:∀q,E q→av.E q∨av.G q∨w.heap.size≤q) (h8:∀q,G q→av.G q∨w.heap.size≤q):cc T (av.dA E G) w w' k:=by
 refine ⟨h.bK,h.dc,h.n,h.g,h.s1,h.s2,h.c,h.d,h.f_,h.gen,h.cI,h.calm,mA h.an al fun q J hw=>dK q hw J,fun q J=> ?_,fun q J=> ?_⟩
 · rcases J with J|J|J|J|J
   · exact h.jR q (.inl J)
   · exact h.jR q (.inr (.inl J))
   · exact h.jR q (.inr (.inr (.inl J)))
   · rcases fD q J with U|U|U
     · exact h.jR q (.inr (.inr (.inr (.inl U))))
     · exact h.jR q (.inr (.inr (.inr (.inr U))))
     · exact .inr U
   · rcases h8 q J with U|U
     · exact h.jR q (.inr (.inr (.inr (.inr U))))
     · exact .inr U
 · rcases J with J|J|J|J
   · exact h.fn q (.inl J)
   · exact h.fn q (.inr (.inl J))
   · exact h.fn q (.inr (.inr (.inl J)))
   · rcases h8 q J with U|U
     · exact h.fn q (.inr (.inr (.inr U)))
     · exact .inr U
theorem cc.local {dj oO iP SB:Nat→Prop} {ag:World} {k:Nat} (h:cc (T.dA dj iP) av ag w' k) (af:Ext w ag) (mb:∀q,dj q→T.E q∨w.heap.size≤q) (Au:∀q,iP q→T.G q∨w.heap.size≤q)
   (sR:∀q,oO q→av.E q∨av.G q) (alD:∀q,SB q→av.G q):cc T (av.dA oO SB) w w' k:=by
 have b3:cc T (T.dA dj iP) w ag 0:=(cc.ext T (w:=w) (w':=w) (ao.refl _ _)).step (W:=fun _=>False) af (fun _ h=>h.elim) (fun q h=>(mb q h).imp id .inr) Au
 have U:=b3.trans h
 rw[gR] at U
 exact U.step (W:=fun _=>False) (ao.refl _ _) (fun _ h=>h.elim) (fun q h=>(sR q h).imp id .inl) fun q h=> .inl (alD q h)
theorem c6.lt (h:c6 w T) {q:Nat} (J:T.M q):q<w.heap.size:=by
 rcases J with J|J
 · exact h.pP.raw.lt J
 · exact (h.pP.inv.nn q J).1
theorem c6.rz (h:c6 w T) {q:Nat} (J:T.E q):¬T.N q:=by
 rintro (aD|aD|aD|aD)
 · exact (h.pP.inv.nn q (.inr (.inr (.inl J)))).2 aD
 · exact (h.h0 q J).1 aD
 · exact (h.h0 q J).2.1 aD
 · exact (h.h0 q J).2.2 aD
theorem c6.ext (h:c6 w T) (af:Ext w w'):c6 w' T:=⟨h.t.ext af,h.s.ext af,h.pP.ext af,h.yW,h.h0,h.s5,h.n,h.num,h.lv⟩
theorem mV.grow {X Y W:Nat→Prop} {C:eM} (h:mV X w C) (al:ao W w w') (dK:∀q,W q→q<w.heap.size→X q) (Zt:∀q,Y q→X q∨(w.heap.size≤q∧q<w'.heap.size)):mV Y w' C:=by
 have pb:ao X w w':=mA (W:=X) (ao.refl _ _) al fun q J hw=>dK q hw J
 refine ⟨h.raw.an pb fun q J af=>(h.inv.nn q af).2 J,h.inv.pins,fun f aG lP=> ?_,h.inv.un,fun q J=> ?_⟩
 · obtain ⟨no,aA,aF,aJ,aO,cS⟩:=h.inv.ok f aG lP
   have xe:bD (fun q=>q<w.heap.size∧¬jq C q∧¬X q) w f.b f.l:=bD.bw aJ fun q J ab=>⟨J,ab⟩
   refine ⟨no,aA,aF,bD.bw (bD.an xe pb fun q J af=>J.2.2 af) fun q _ ab=>⟨ab.2.1,fun b2=> ?_⟩,aO,cS⟩
   rcases Zt q b2 with U|U
   · exact ab.2.2 U
   · have:=ab.1;omega
 · rcases Zt q J with U|U
   · exact ⟨lg (h.inv.nn q U).1 al.size,(h.inv.nn q U).2⟩
   · exact ⟨U.2,fun aG=>by have:=h.raw.lt aG;omega⟩
theorem c6.grow {E G W:Nat→Prop} (h:c6 w T) (al:ao W w w') (dK:∀q,W q→q<w.heap.size→T.E q∨T.G q) (fD:∀q,E q→T.E q∨T.G q∨(w.heap.size≤q∧q<w'.heap.size)) (h8:∀q,G q→T.E q∨T.G q∨(w.heap.size≤q∧q<w'.heap.size)) (alE:∀q,E q→¬G q):c6 w' (T.dA E G):=by
 have N7:∀q,T.E q∨T.G q→q≠T.bK∧¬l_ T.dc T.s1 T.s2 q:=fun q J=>by
   rcases J with J|J
   · exact ⟨(h.h0 q J).1,(h.h0 q J).2.1⟩
   · exact h.s5 q J
 have pb:ao (fun q=>T.E q∨T.G q) w w':=mA (W:=fun q=>T.E q∨T.G q) (ao.refl _ _) al fun q J hw=>dK q hw J
 have aD:∀q,T.E q∨T.G q∨(w.heap.size≤q∧q<w'.heap.size)→q≠T.bK∧¬l_ T.dc T.s1 T.s2 q:=fun q J=>by
   rcases J with J|J|J
   · exact N7 q (.inl J)
   · exact N7 q (.inr J)
   · exact ⟨fun e=>by have ad:=h.lt (q:=q) (.inr (.inl e));omega,fun e=>by have ad:=h.lt (q:=q) (.inr (.inr (.inl e)));omega⟩
 have dC:∀q,T.E q∨T.G q∨(w.heap.size≤q∧q<w'.heap.size)→T.X q∨(w.heap.size≤q∧q<w'.heap.size):=fun q J=>by
   rcases J with J|J|J
   · exact .inl (.inr (.inr (.inl J)))
   · exact .inl (.inr (.inr (.inr J)))
   · exact .inr J
 refine ⟨h.t.an pb fun e=>(N7 _ e).1 rfl,h.s.an pb fun q J e=>(N7 q e).2 J,h.pP.grow al (fun q J az=> .inr (.inr (dK q J az))) fun q J=> ?_,h.yW,fun q J=>⟨(aD q (fD q J)).1,(aD q (fD q J)).2,alE q J⟩,fun q J=>aD q (h8 q J),h.n,h.num,h.lv⟩
 rcases J with J|J|J|J
 · exact .inl (.inl J)
 · exact .inl (.inr (.inl J))
 · exact dC q (fD q J)
 · exact dC q (h8 q J)
theorem c6.cells (h:c6 w T):w.cell? ⟨T.bK,0,none⟩=some (.pointer (some ⟨T.C.c,0,none⟩))∧w.cell? (Addr.add ⟨T.bK,0,none⟩ 1)=some (.pointer (some ⟨T.dc,0,none⟩))∧w.cell? (Addr.add ⟨T.bK,0,none⟩ 2)=some (.int .u64 (T.gen:Nat))∧
   w.cell? (Addr.add ⟨T.bK,0,none⟩ 3)=some (.int .i64 (T.root:Nat))∧w.cell? (Addr.add ⟨T.bK,0,none⟩ 4)=some (.int .i64 (T.bl:Nat)):=by
 rw[aV,aV,aV,aV]
 exact ⟨h.t.cell,h.t.cell,h.t.cell,h.t.cell,h.t.cell⟩
theorem c6.alF (h:c6 w T) {no:Nat} (dg:no<T.n):(T.C.view no).length=256:=by
 unfold eM.view
 cases aG:T.C.aB.find? fun f=>f.full&&f.no==(no:Int) with
 |some f=>
   have U:=Ed aG
   have ad:=Gj aG
   obtain ⟨m,ar⟩:=h.pP.inv.ok f U (by
     have:(f.full&&f.no==(no:Int))=true:=ad
     exact (Bool.and_eq_true_iff.1 this).1)
   exact ar.len
 |none=>exact h.pP.raw.dev.NT (by rw[h.n];exact dg)
theorem c6.SC {bt:eM} {k:Nat} {P:Nat→Option aL} (h:c6 w T) (nQ:mV T.X w' bt) (b4:lr T.C bt w w' k) (hY:∀no dZ,P no=some dZ→no<T.n∧sn T.gen dZ.leaf no (bt.view no) dZ):
   c6 w' (T.cY bt P)∧cc T (T.cY bt P) w w' k:=by
 have af:=h.pP.inv.nn
 have al:=b4.an
 refine ⟨⟨?_,h.s.an al fun q J aG=>(af q (.inr (.inl J))).2 aG,nQ,h.yW,h.h0,h.s5,?_,h.num,hY⟩,⟨rfl,rfl,rfl,rfl,rfl,rfl,b4.c,b4.d,b4.f_,rfl,b4.cI,b4.calm,al.mono fun q _ J=> .inl J,?_,?_⟩⟩
 · have:=h.t.an al fun aG=>(af T.bK (.inl rfl)).2 aG
   unfold vt at this⊢
   rw[←b4.c] at this
   exact this
 · show bt.D.n=T.n
   rw[b4.n,h.n]
 · rintro q (J|J)
   · rcases b4.jR q J with U|U
     · exact .inl (.inl U)
     · exact .inr U
   · exact .inl (.inr J)
 · rintro q (J|J)
   · rcases b4.jR q J with U|U
     · exact .inl (.inl U)
     · exact .inr U
   · exact .inl (.inr J)
end
end
section
def alG (T:aX) (leaf:Bool) (no:Nat) (e:Int):Prop:=
 (e=3∧¬T.C.D.calm 2)∨l5 (no:Int) (T.C.view no)= .error e∨(e=4∧(∃p,l5 (no:Int) (T.C.view no)= .ok p)∧∀n,¬sn T.gen leaf no (T.C.view no) n)
def E5 (T:aX) (leaf:Bool) (no:Nat) (w:World) (v:Value) (w':World):Prop:=
 ∃bt:eM,c6 w' (T.cY bt T.P)∧cc T (T.cY bt T.P) w w' 2∧(∀j,bt.view j=T.C.view j)∧
   ((∃ (n:aL) (K V D:aa),v= .tuple #[e5 n K V D, .int .i64 0]∧sn T.gen leaf no (T.C.view no) n∧b8 (fun q=>w.heap.size≤q∧¬(T.cY bt T.P).M q) w' n K V D)∨
     (∃e:Int,v= .tuple #[e5 rp bX bX bX, .int .i64 e]∧alG T leaf no e∧e≠0))
theorem Zu {no:Int} {l:mz} {e:Int} (h:l5 no l= .error e):e≠0:=by
 intro he
 subst he
 unfold l5 at h
 repeat' split at h
 all_goals first|(injection h with h;exact absurd h (by decide))|cases h
theorem alH {no:Int} {l:mz} {p:tI} (h:l5 no l= .ok p):p.body.length≤256:=by
 unfold l5 at h
 repeat' split at h
 all_goals first|(cases h;done)|skip
 rename_i U _ _ _ _ _
 injection h with h
 rw[←h]
 show (List.take _ (List.drop 24 l)).length≤256
 rw[dV,fw]
 omega
theorem Zv {w':World} {h:Nat} {vs:List Value} (n g:Int) (s:aa) (ak:Var w' h vs ah.Jt) (az:vs.length=3) {K:World→Prop} (bk:∀aw,Var aw h [.int .i64 n, .int .u64 g, .slice s.a s.len s.cap] ah.Jt→ao (fun q=>q=h) w' aw→aw.heap.size=w'.heap.size→K aw):
   cM w' ⟨h,0,none⟩ [.int .i64 n, .int .u64 g, .slice s.a s.len s.cap]∧(3:Nat)=3∧ay (setCells w' ⟨h,0,none⟩ 0 [.int .i64 n, .int .u64 g, .slice s.a s.len s.cap]) K:=by
 refine ⟨ak.dr (by rw[az];rfl) ?_,rfl,ec ak (us:=[.int .i64 n, .int .u64 g, .slice s.a s.len s.cap]) (by rw[az];rfl) rfl bk⟩
 intro v ak
 simp only[gp,mm,mn] at ak
 rcases ak with rfl|rfl|rfl<;>trivial
theorem SD {w:World} {T:aX} (h:c6 w T) (gV:T.C.D.cI≤999999999) {no:Nat} (dg:no<T.n) (leaf:Bool):
   aQ Tryz.prog F.s6 #[.pointer (some ⟨T.bK,0,none⟩), .int .i64 ((no:Nat):Int), .bool leaf] w (E5 T leaf no w):=by
 have o5:=h.s.c_
 have jx:=h.alF dg
 refine W.alI (some ⟨T.bK,0,none⟩) ((no:Nat):Int) leaf w _ ?_
 (delta W.s6 dt gu aE SE ai N8 bP aq Zw yf kF bA Jz xj;dsimp only)
 refine cp (vs:=[.bool false, .slice none 0 0, .slice none 0 0, .slice none 0 0]) rfl fun ag nf bz kM=> ?_
 obtain ⟨iP,Au⟩:∃iP,iP=fun q=>T.G q∨q=w.heap.size:=⟨_,rfl⟩
 have Zx:iP w.heap.size:=by rw[Au];exact .inr rfl
 have SF:∀q,T.G q→iP q:=fun q J=>by rw[Au];exact .inl J
 have SG:∀q,iP q→T.G q∨q=w.heap.size:=fun q J=>by rw[Au] at J;exact J
 have U:c6 ag (T.dA T.E iP):=h.grow (W:=fun _=>False) bz (fun _ h=>h.elim) (fun q J=> .inl J) (fun q J=> .inr ((SG q J).imp id fun e=>⟨by omega,by omega⟩)) fun q J a7=>by
   rcases SG q a7 with ad|ad
   · exact (h.h0 q J).2.2 ad
   · have:=h.lt (q:=q) (.inr (.inr (.inr (.inl J))));omega
 refine ⟨_,rfl,_,U.cells.1,(ako U.pP gV (no:=no) (by rw[U.n];exact dg)).use ?_⟩
 rintro _ br ⟨bt,nQ,b4,ak,e9⟩
 obtain ⟨aI,alJ⟩:=U.SC (P:=T.P) nQ b4 (fun no dZ aT=>by rw[ak];exact U.lv no dZ aT)
 have JA:=b4.an.size
 have JU:Var br w.heap.size [.bool false, .slice none 0 0, .slice none 0 0, .slice none 0 0] ah.cF:=nf.an b4.an fun aG=>(U.pP.inv.nn _ (.inr (.inr (.inr Zx)))).2 aG
 have fin:∀w':World,ao (fun q=>q=w.heap.size) br w'→c6 w' (T.cY bt T.P)∧cc T (T.cY bt T.P) w w' 2:=fun w' al=>by
   refine ⟨aI.grow (E:=T.E) (G:=T.G) al (fun q e _=> .inr (by rw[e];exact Zx)) (fun q J=> .inl J) (fun q J=> .inr (.inl (SF q J))) fun q J=>(h.h0 q J).2.2,?_⟩
   have aW:=alJ.local bz (fun q J=> .inl J) (fun q J=>(SG q J).imp id fun e=>by omega) (oO:=T.E) (SB:=T.G) (fun q J=> .inl J) SF
   exact aW.step al (fun q e az=>by omega) (fun q J=> .inl J) fun q J=> .inl J
 have alK:∀ {w':World} {n:aL} {K V D:aa} {B:Nat→Prop},b8 (fun q=>br.heap.size≤q) w' n K V D→b8 (fun q=>w.heap.size≤q∧¬(T.cY bt T.P).M q) w' n K V D:=fun aD=>by
   refine aD.bw fun q _ J=>⟨by omega,fun hm=> ?_⟩
   have:q<br.heap.size:=aI.lt (q:=q) (by
     rcases hm with hm|hm|hm|hm|hm
     · exact .inl hm
     · exact .inr (.inl hm)
     · exact .inr (.inr (.inl hm))
     · exact .inr (.inr (.inr (.inl hm)))
     · exact .inr (.inr (.inr (.inr (SF q hm)))))
   omega
 rcases e9 with ⟨s,rfl,aj⟩|⟨rfl,fh⟩
 · refine ⟨s,0,rfl,fun ab=>(by cases ab),fun _=>(ye aj.1 aj.2.1 (by show (T.C.view no).length≤1000;rw[jx];omega) _).use ?_⟩
   rintro _ bY ⟨E6,jA⟩
   have JS:=JU.ext jA
   have RO:=jA.size
   have aY:(T.dA T.E iP).C.view no=T.C.view no:=rfl
   rw[aY] at E6
   cases k9:l5 ((no:Nat):Int) (T.C.view no) with
   |error e=>
     rw[k9] at E6
     obtain rfl:=E6
     refine ⟨0,0,⟨none,0,0⟩,e,rfl,cp (vs:=[.int .i64 0, .int .u64 0, .slice none 0 0]) rfl fun c9 Av tZ C4=> ?_⟩
     refine Zv 0 0 ⟨none,0,0⟩ Av rfl fun ct E7 Aw SH=>⟨fun _=> ?_,fun ab=> ?_⟩
     · have N9:Var ct w.heap.size [.bool false, .slice none 0 0, .slice none 0 0, .slice none 0 0] ah.cF:=(JS.ext tZ).an Aw (by omega)
       refine rq false bX bX bX N9 rfl (Q:=fun b K V D aw=>E5 T leaf no w (.tuple #[.agg #[.bool b, .slice K.a K.len K.cap, .slice V.a V.len V.cap, .slice D.a D.len D.cap], .int .i64 e]) aw) fun bF lF=> ?_
       obtain ⟨f1,f2⟩:=fin bF (mA (W:=fun q=>q=w.heap.size) (ao.eK (Ext.e3 (jA.trans tZ) Aw (by omega))) lF fun q _ e=>e)
       exact ⟨bt,f1,f2,ak, .inr ⟨e,rfl, .inr (.inl k9),Zu k9⟩⟩
     · have:=Zu k9
       simp at ab;omega
   |ok p=>
     rw[k9] at E6
     obtain ⟨au,rfl,l7,gC⟩:=E6
     refine ⟨p.kind,p.gen,au,0,rfl,cp (vs:=[.int .i64 0, .int .u64 0, .slice none 0 0]) rfl fun c9 Av tZ C4=> ?_⟩
     refine Zv p.kind p.gen au Av rfl fun ct E7 Aw SH=>⟨fun ab=>(by cases ab),fun _=>bM ?_⟩
     have N9:Var ct w.heap.size [.bool false, .slice none 0 0, .slice none 0 0, .slice none 0 0] ah.cF:=(JS.ext tZ).an Aw (by omega)
     have oP:Ext br ct:=Ext.e3 (jA.trans tZ) Aw (by omega)
     have bx:Ext br ct.drew:=oP.trans (eE _)
     have wT:Var ct.drew w.heap.size [.bool false, .slice none 0 0, .slice none 0 0, .slice none 0 0] ah.cF:=N9.drew
     have N_:=E7.drew
     have rG:=(aI.ext bx).cells
     obtain ⟨b,ab⟩:∃b,b=bY.heap.size:=⟨_,rfl⟩
     rw[←ab] at N_⊢
     have SI:ct.drew.cell? ⟨b,0,none⟩=some (.int .i64 (p.kind:Nat)):=N_.cell
     have iZ:ct.drew.cell? (Addr.add ⟨b,0,none⟩ 1)=some (.int .u64 (p.gen:Nat)):=by rw[aV];exact N_.cell
     have dS:ct.drew.cell? (Addr.add ⟨b,0,none⟩ 2)=some (.slice au.a au.len au.cap):=by rw[aV];exact N_.cell
     have dB:br.heap.size≤ct.drew.heap.size:=bx.size
     refine ⟨id,_,iZ,_,rfl,id,_,rG.2.2.1,fun a7=> ?_,fun a7=>⟨id,_,SI,?_⟩⟩
     · have a7:T.gen<p.gen:=by
         have:((p.gen:Nat):Int)>((T.gen:Nat):Int):=dU a7
         omega
       refine e4 (fun b w'=>b=true∧w'=ct.drew) (fun q J=>⟨fun _=>J _ _ ⟨rfl,rfl⟩,fun h=>by cases h⟩) ?_
       rintro _ _ ⟨rfl,rfl⟩
       refine ⟨fun _=> ?_,fun h=>(by cases h)⟩
       refine rq false bX bX bX wT rfl (Q:=fun b K V D aw=>E5 T leaf no w (.tuple #[.agg #[.bool b, .slice K.a K.len K.cap, .slice V.a V.len V.cap, .slice D.a D.len D.cap], .int .i64 4]) aw) fun bF lF=> ?_
       obtain ⟨f1,f2⟩:=fin bF (mA (W:=fun q=>q=w.heap.size) (ao.eK bx) lF fun q _ e=>e)
       refine ⟨bt,f1,f2,ak, .inr ⟨4,rfl, .inr (.inr ⟨rfl,⟨p,k9⟩,?_⟩),by decide⟩⟩
       rintro n ⟨fi,aA,aF,_⟩
       rw[k9] at aA;cases aA
       omega
     · have a7:p.gen≤T.gen:=by
         have:¬((p.gen:Nat):Int)>((T.gen:Nat):Int):=ff a7
         omega
       refine e4 (fun b w'=>w'=ct.drew∧(b=false↔p.kind=(if leaf then 1 else 2))) (fun q J=>⟨fun h=>J _ _ ⟨rfl,?_⟩,fun h=>⟨_,SI,e4 (fun b w'=>w'=ct.drew∧(b=false↔p.kind=(if leaf then 1 else 2))) (fun r aU=>⟨fun ad=>⟨_,SI,aU _ _ ⟨rfl,?_⟩⟩,fun ad=>aU _ _ ⟨rfl,?_⟩⟩) fun b w' alL=>J b w' alL⟩⟩) ?_
       · refine ⟨fun h=>(by cases h),fun ae=> ?_⟩
         rw[ae] at h
         cases leaf<;>simp at h
       · cases leaf
         · simp
           exact Int.ofNat_inj
         · simp at ad h;omega
       · cases leaf
         · simp at ad h;omega
         · simp at ad
           simp
           omega
       rintro jh _ ⟨rfl,ae⟩
       refine ⟨fun ab=> ?_,fun ab=>⟨_,dS,(wv ((l7.ext (Ext.e3 tZ Aw (by omega)|>.trans (eE _))).src) ?_ ?_ ?_ leaf).use ?_⟩⟩
       · refine rq false bX bX bX wT rfl (Q:=fun b K V D aw=>E5 T leaf no w (.tuple #[.agg #[.bool b, .slice K.a K.len K.cap, .slice V.a V.len V.cap, .slice D.a D.len D.cap], .int .i64 4]) aw) fun bF lF=> ?_
         obtain ⟨f1,f2⟩:=fin bF (mA (W:=fun q=>q=w.heap.size) (ao.eK bx) lF fun q _ e=>e)
         refine ⟨bt,f1,f2,ak, .inr ⟨4,rfl, .inr (.inr ⟨rfl,⟨p,k9⟩,?_⟩),by decide⟩⟩
         rintro n ⟨fi,aA,aF,aJ,_⟩
         rw[k9] at aA;cases aA
         rw[ae.2 aJ] at ab;cases ab
       · exact l7.2.1
       · intro k ae
         have:=b6.lt l7 k ae
         have:=tZ.size
         show k<ct.heap.size
         omega
       · have:=alH k9
         omega
       rintro _ nq ⟨alM,Ax⟩
       have Zy:Ext br nq:=bx.trans Ax
       have Oa:=wT.ext Ax
       rcases alM with ⟨n,K,V,D,rfl,eA,jy⟩|⟨rfl,Km⟩
       · refine ⟨n.leaf,K,V,D,0,rfl,?_⟩
         refine rq n.leaf K V D Oa rfl (Q:=fun b K V D aw=>E5 T leaf no w (.tuple #[.agg #[.bool b, .slice K.a K.len K.cap, .slice V.a V.len V.cap, .slice D.a D.len D.cap], .int .i64 0]) aw) fun bF lF=> ?_
         obtain ⟨f1,f2⟩:=fin bF (mA (W:=fun q=>q=w.heap.size) (ao.eK Zy) lF fun q _ e=>e)
         refine ⟨bt,f1,f2,ak, .inl ⟨n,K,V,D,rfl,⟨p,k9,a7,ae.1 ab,eA⟩,?_⟩⟩
         refine alK (B:=fun _=>True) (b8.an (jy.bw fun q _ J=> ?_) lF fun q J e=> ?_)
         · omega
         · have:br.heap.size≤q:=J
           omega
       · refine ⟨false,bX,bX,bX,4,rfl,?_⟩
         refine rq false bX bX bX Oa rfl (Q:=fun b K V D aw=>E5 T leaf no w (.tuple #[.agg #[.bool b, .slice K.a K.len K.cap, .slice V.a V.len V.cap, .slice D.a D.len D.cap], .int .i64 4]) aw) fun bF lF=> ?_
         obtain ⟨f1,f2⟩:=fin bF (mA (W:=fun q=>q=w.heap.size) (ao.eK Zy) lF fun q _ e=>e)
         refine ⟨bt,f1,f2,ak, .inr ⟨4,rfl, .inr (.inr ⟨rfl,⟨p,k9⟩,?_⟩),by decide⟩⟩
         rintro n ⟨fi,aA,aF,aJ,aO⟩
         rw[k9] at aA;cases aA
         exact Km n aO
 · refine ⟨⟨none,0,0⟩,3,rfl,fun _=> ?_,fun ab=>(by cases ab)⟩
   refine rq false bX bX bX JU rfl (Q:=fun b K V D aw=>E5 T leaf no w (.tuple #[.agg #[.bool b, .slice K.a K.len K.cap, .slice V.a V.len V.cap, .slice D.a D.len D.cap], .int .i64 3]) aw) fun bF lF=> ?_
   obtain ⟨f1,f2⟩:=fin bF lF
   exact ⟨bt,f1,f2,ak, .inr ⟨3,rfl, .inl ⟨rfl,fh⟩,by decide⟩⟩
end
section
structure gk where
 no:Nat
 n:aL
 eP:Nat
 K:aa
 V:aa
 D:aa
def gk.c (s:gk):List Value:=[.int .i64 (s.no:Nat), .bool s.n.leaf, .slice s.K.a s.K.len s.K.cap, .slice s.V.a s.V.len s.V.cap, .slice s.D.a s.D.len s.D.cap, .int .i64 (s.eP:Nat)]
def gk.st (s:gk):Nat×aL×Nat:=(s.no,s.n,s.eP)
theorem C5 (l:List gk):∀x∈l,(gk.c x).length=6:=fun _ _=>rfl
structure t_ (B:Nat→Prop) (w:World) (s:aa) (l:List gk):Prop where
 own:b6 6 ah.ua w s (cz gk.c l)
 E8:∀q,aR s q→B q
 dZ:∀x∈l,b8 B w x.n x.K x.V x.D
def C6 (P:Nat→Option aL) (k:Key):Nat→Nat→List (Nat×aL×Nat)→Prop
 |0,_,l=>l=[]
 |h+1,no,l=>∃n rest,P no=some n∧n.leaf=decide (h=0)∧l=(no,n,if h=0 then 0 else fJ n.keys k)::rest∧C6 P k h (n.kids.getD (fJ n.keys k) 0) rest
theorem C6.length {P:Nat→Option aL} {k:Key}:∀ {h no:Nat} {l:List (Nat×aL×Nat)},C6 P k h no l→l.length=h
 |0,_,_,h=>by rw[h];rfl
 |h+1,_,_,⟨n,rest,_,_,ar,aI⟩=>by rw[ar,oB,C6.length aI]
theorem sn.uniq {gen no:Nat} {leaf:Bool} {l:mz} {n m:aL} (U:sn gen leaf no l n) (ad:sn gen leaf no l m):n=m:=by
 obtain ⟨p,bj,cL,e6,dQ⟩:=U
 obtain ⟨q,cX,cy,eJ,eW⟩:=ad
 rw[bj] at cX
 cases cX
 exact x6.uniq dQ eW
theorem sn.is {gen no:Nat} {leaf:Bool} {l:mz} {n:aL} (h:sn gen leaf no l n):n.leaf=leaf∧dX n∧cf n≤232:=by
 obtain ⟨p,_,_,_,a⟩:=h
 exact ⟨a.2.1,a.1,a.2.2.1⟩
theorem dX.j0 {n:aL} (h:dX n):n.keys.Pairwise ck:=by
 rcases h with h|h
 · exact h.j0
 · exact h.j0
def alN (T:aX) (steps:List (Nat×aL×Nat)) (w:World) (v:Value) (w':World):Prop:=
 ∃bt:eM,c6 w' (T.cY bt T.P)∧cc T (T.cY bt T.P) w w' (2*T.bl)∧(∀j,bt.view j=T.C.view j)∧
   ((∃ (s:aa) (l:List gk),v= .tuple #[.slice s.a s.len s.cap, .int .i64 0]∧l.map gk.st=steps∧t_ (fun q=>w.heap.size≤q∧¬(T.cY bt T.P).M q) w' s l)∨(v= .tuple #[.slice none 0 0, .int .i64 3]∧¬T.C.D.calm (2*T.bl)))
theorem alO (w:World) (cs:Array Value) (h:cs.size=6):Sem.run Tryz.prog (Instr.buildSlice ah.E9 1 #[(0, .agg cs)]) w= .ok (.slice (some ⟨w.heap.size,0,none⟩) 1 1) (w.alloc (.cells cs ah.ua)):=by
 have b3:((Tryz.prog.info? ah.ua).bind (·.zero)).isSome=true:=by kernel_rfl
 obtain ⟨z,bI⟩:=BR.1 b3
 obtain ⟨i,hi,tT⟩:=Ke bI
 have U:(Tryz.prog.underlying ah.ua).isSome=true:=by kernel_rfl
 obtain ⟨d,hd⟩:=BR.1 U
 exact Sa (sz:=6) w (by kernel_rfl) hd (by kernel_rfl) hi tT h (by decide) (by decide)
theorem alP:qx Tryz.prog ah.E9 ah.ua 6 96:=⟨by kernel_rfl⟩
end
section
theorem Zz {h:Nat} {n:aL} (df:n.leaf=decide (h=0)):((((h+1:Nat):Int):Int)==1)=n.leaf:=by
 rw[df,o1,zJ,fI]
 omega
theorem SJ {w:World} {T:aX} {aH:aa} {k:Key} {steps:List (Nat×aL×Nat)} (h:c6 w T) (gV:T.C.D.cI≤900000000) (ae:Src 1 w aH (bg k)) (so:∀q,aR aH q→q<w.heap.size∧¬T.M q) (hw:C6 T.P k T.bl T.root steps):
   aQ Tryz.prog F.yX #[.pointer (some ⟨T.bK,0,none⟩), .slice aH.a aH.len aH.cap] w (alN T steps w):=by
 have dq:=h.num.2.1
 refine W.alQ (some ⟨T.bK,0,none⟩) aH w _ ?_
 (delta W.yX bA aE xj dt ai bP aq Ay bc st a8 aC;dsimp only)
 refine ⟨_,rfl,_,h.cells.2.2.2.1,_,rfl,_,h.cells.2.2.2.2,fun s gg kT w'=>∃ (jb no:Nat) (l:List gk) (rest:List (Nat×aL×Nat)) (dj:Nat→Prop) (bt:eM),kT=(jb:Nat)∧gg=(no:Nat)∧C6 T.P k jb no rest∧l.map gk.st++rest=steps∧l.length+jb=T.bl∧
   dj=(fun q=>T.E q∨aR s q)∧(∀q,aR s q→w.heap.size≤q)∧c6 w' ((T.dA dj T.G).cY bt T.P)∧cc T ((T.dA dj T.G).cY bt T.P) w w' (2*l.length)∧(∀j,bt.view j=T.C.view j)∧b6 6 ah.ua w' s (cz gk.c l)∧
   ∀x∈l,b8 (fun q=>w.heap.size≤q∧¬((T.dA dj T.G).cY bt T.P).M q) w' x.n x.K x.V x.D,fun _ _ kT _=>kT.toNat,?_,?_⟩
 · have fD:T.E=fun q=>T.E q∨aR ⟨none,0,0⟩ q:=by
     funext q
     refine propext ⟨.inl,fun h=>h.resolve_right ?_⟩
     rintro ⟨A,ax,_⟩
     cases ax
   have Hr:(T.dA T.E T.G).cY T.C T.P=T:=rfl
   refine ⟨T.bl,T.root,[],steps,T.E,T.C,rfl,rfl,hw,rfl,by simp,fD,?_,by rw[Hr];exact h,by rw[Hr];exact .refl _ _,fun _=>rfl,?_,fun x af=>(by cases af)⟩
   · rintro q ⟨A,ax,_⟩
     cases ax
   · exact ⟨rfl,cP _,by decide, .inl ⟨rfl,rfl⟩⟩
 have fin:∀ {w':World} {dj:Nat→Prop} {bt:eM} {s:aa} {k:Nat},c6 w' ((T.dA dj T.G).cY bt T.P)→cc T ((T.dA dj T.G).cY bt T.P) w w' k→dj=(fun q=>T.E q∨aR s q)→(∀q,aR s q→w.heap.size≤q)→c6 w' (T.cY bt T.P)∧cc T (T.cY bt T.P) w w' k:=by
   intro w' dj bt s k U ad ar aI
   have Hs:∀q,T.E q→dj q:=fun q J=>by rw[ar];exact .inl J
   exact ⟨U.grow (W:=fun _=>False) (E:=T.E) (G:=T.G) (ao.refl _ _) (fun _ h=>h.elim) (fun q J=> .inl (Hs q J)) (fun q J=> .inr (.inl J)) fun q J=>(h.h0 q J).2.2,
     ad.step (W:=fun _=>False) (ao.refl _ _) (fun _ h=>h.elim) (fun q J=> .inl (Hs q J)) fun q J=> .inl J⟩
 rintro s _ _ bV ⟨jb,no,l,rest,dj,ba,rfl,rfl,E_,gI,hlen,mb,z1,bh,b4,ak,mU,jy⟩
 have ZA:=b4.an.size
 refine ⟨fun a9=> ?_,fun cm=> ?_⟩
 · obtain ⟨s7,rfl⟩:∃p9,jb=p9+1:=⟨jb-1,by have:((jb:Nat):Int)>0:=dU a9;omega⟩
   obtain ⟨n,h4,aT,df,rfl,ZB⟩:=E_
   obtain ⟨dg,k9⟩:=bh.lv no n aT
   have Hm:ba.D.cI≤999999999:=by
     have:ba.D.cI≤T.C.D.cI+2*l.length:=b4.cI
     omega
   refine (SD bh Hm dg _).use ?_
   rintro _ cq ⟨Fa,ad,nH,g1,e9⟩
   have SK:=b4.trans nH
   have dB:=nH.an.size
   rw[Zz df] at e9
   rcases e9 with ⟨c_,K,V,D,rfl,Ht,SL⟩|⟨e,rfl,Kn,en⟩
   · obtain rfl:=sn.uniq k9 Ht
     obtain ⟨_,s4,atV⟩:=k9.is
     have C7:=s4.j0
     have pQ:=M1 s4
     refine ⟨n.leaf,K,V,D,0,rfl,cp (vs:=[.bool false, .slice none 0 0, .slice none 0 0, .slice none 0 0]) rfl fun fF Fb C8 SM=> ?_⟩
     refine ⟨Fb.dr rfl ?_,rfl,ec Fb (us:=[.bool n.leaf, .slice K.a K.len K.cap, .slice V.a V.len V.cap, .slice D.a D.len D.cap]) rfl rfl fun c9 Av xk C4=>⟨fun ab=>(by cases ab),fun _=> ?_⟩⟩
     · intro v ak
       simp only[gp,mm,mn] at ak
       rcases ak with rfl|rfl|rfl|rfl<;>trivial
     have tZ:Ext cq c9:=Ext.e3 C8 xk (cP _)
     have atW:=tZ.size
     obtain ⟨cA,bd,bc,a_⟩:=cj Av
     refine ⟨_,cA,K,bd,V,bc,D,a_, #[.int .i64 (no:Nat), .bool n.leaf, .slice K.a K.len K.cap, .slice V.a V.len V.cap, .slice D.a D.len D.cap, .int .i64 0],by kernel_rfl,?_⟩
     refine cp (vs:=[.int .i64 0, .bool false, .slice none 0 0, .slice none 0 0, .slice none 0 0, .int .i64 0]) rfl fun fV Az Fc alR=> ?_
     refine ⟨Az.dr rfl ?_,rfl,ec Az (us:=[.int .i64 (no:Nat), .bool n.leaf, .slice K.a K.len K.cap, .slice V.a V.len V.cap, .slice D.a D.len D.cap, .int .i64 0]) rfl rfl fun cu SN ZC atX=> ?_⟩
     · intro v ak
       simp only[gp,mm,mn] at ak
       rcases ak with rfl|rfl|rfl|rfl|rfl|rfl<;>trivial
     have yY:Ext cq cu:=Ext.e3 (tZ.trans Fc) ZC (by omega)
     have SO:Var cu cq.heap.size [.bool n.leaf, .slice K.a K.len K.cap, .slice V.a V.len V.cap, .slice D.a D.len D.cap] ah.cF:=(Av.ext Fc).an ZC (by omega)
     obtain ⟨dc,alS⟩:∃dc,dc=c9.heap.size:=⟨_,rfl⟩
     obtain ⟨bC,kO⟩:∃bC,bC=cq.heap.size:=⟨_,rfl⟩
     rw[←alS] at SN⊢
     rw[←kO] at SO⊢
     have alT:=SL.ext yY
     refine e4 (fun qf du=>qf=(((if s7=0 then no else n.kids.getD (fJ n.keys k) 0:Nat)):Int)∧Ext cq du∧Var du dc (gk.c ⟨no,n,if s7=0 then 0 else fJ n.keys k,K,V,D⟩) ah.ua) (fun q J=>⟨fun az=> ?_,fun az=> ?_⟩) ?_
     · have sq:s7≠0:=by
         have:((s7+1:Nat):Int)>1:=dU az
         omega
       have ZD:n.leaf=false:=by rw[df];simp[sq]
       have fm:=s4.GV ZD
       have k6:=MR n.keys k
       obtain ⟨cA,bd,bc,a_⟩:=cj SO
       have alU:Src 1 cu aH (bg k):=(ae.an SK.an fun q J aD=>(so q J).2 (aX.lS aD)).ext yY
       refine ⟨_,cA,K,bd,V,bc,D,a_,(u9 alT alU C7 (by omega)).use ?_⟩
       rintro _ oQ ⟨rfl,SP⟩
       have ZE:=SN.ext SP
       obtain ⟨aA,aF⟩:=j5 ZE (i:=5) (by simp)
       rw[aV]
       refine ⟨_,rfl,aA,aF,bM ?_⟩
       have fj:=iL oQ dc 5 (.int .i64 ((fJ n.keys k:Nat):Int))
       have ZF:=j4 ZE (i:=5) (.int .i64 ((fJ n.keys k:Nat):Int))
       have Hu:Ext cq (oQ.setCell ⟨dc,5,none⟩ (.int .i64 ((fJ n.keys k:Nat):Int))):=Ext.e3 (yY.trans SP) fj (by omega)
       have alV:=(SO.ext SP).an fj (by omega)
       obtain ⟨d0,d1,d2,d3⟩:=cj alV
       obtain ⟨A,ax,ab,k1⟩:=eF.at (SL.ext Hu).kids (i:=fJ n.keys k) (by omega)
       refine ⟨D,d3,_,ZF.cell,A,ax,ab,_,k1,J _ _ ⟨?_,Hu,?_⟩⟩
       · rw[if_neg sq,p5,g8 (by omega)];rfl
       · rw[if_neg sq]
         exact ZF
     · have sq:s7=0:=by
         have:¬((s7+1:Nat):Int)>1:=ff az
         omega
       refine J _ _ ⟨by rw[if_pos sq],yY,?_⟩
       rw[if_pos sq]
       exact SN
     rintro _ du ⟨rfl,Ob,Oc⟩
     have atY:=Ob.size
     refine ⟨_,Oc.rd rfl,⟨some ⟨du.heap.size,0,none⟩,1,1⟩,_,alO _ _ rfl,?_⟩
     have mQ:=iX du (.cells (gk.c ⟨no,n,if s7=0 then 0 else fJ n.keys k,K,V,D⟩).toArray ah.ua)
     have Ax:=Ob.trans mQ
     have Oa:=Ax.size
     have alW:=mQ.size
     have gA:=mU.1
     rw[od _ (C5 l)] at gA
     have Ko:∀q,aR s q→dj q:=fun q J=>by rw[mb];exact .inr J
     have alX:b6 6 ah.ua cq s (cz gk.c l):=mU.an nH.an fun q J hm=>bh.rz (Ko q J) hm
     obtain ⟨x,lG⟩:∃x:gk,x=⟨no,n,if s7=0 then 0 else fJ n.keys k,K,V,D⟩:=⟨_,rfl⟩
     rw[←lG] at mQ Ax Oa alW⊢
     have ya:∀v∈gk.c x,Plain v:=by
       intro v ak
       unfold gk.c at ak
       simp only[gp,mm,mn] at ak
       rcases ak with rfl|rfl|rfl|rfl|rfl|rfl<;>trivial
     obtain ⟨au,hU,bj,cL,e6,dQ,gS⟩:=alP.append (ez:=ah.E9) (x:=⟨some ⟨du.heap.size,0,none⟩,1,1⟩) (Src.new (T:=ah.ua) du (gk.c x) 1 rfl) (alX.ext Ax) ya (by show (2*(s.len+1)+1000)*96≤_;omega)
     have alY:=dQ.size
     have l7:∀q,aR au q→w.heap.size≤q:=fun q J=>by
       rcases gS q J with U|U
       · exact z1 q U
       · omega
     obtain ⟨oO,sR⟩:∃oO,oO=fun q=>T.E q∨aR au q:=⟨_,rfl⟩
     have Od:∀q,oO q→T.E q∨aR au q:=fun q J=>by rw[sR] at J;exact J
     have Hs:∀q,T.E q→dj q:=fun q J=>by rw[mb];exact .inl J
     have og:cz gk.c (l++ [x])=cz gk.c l++gk.c x:=by rw[yM];simp[cz]
     have alZ:c6 hU ((T.dA oO T.G).cY Fa T.P):=by
       refine (ad.ext Ax).grow (E:=oO) (G:=T.G) dQ (fun q J _=> .inl (Ko q J)) (fun q J=> ?_) (fun q J=> .inr (.inl J)) fun q J a7=> ?_
       · rcases Od q J with U|U
         · exact .inl (Hs q U)
         · rcases gS q U with ar|ar
           · exact .inl (Ko q ar)
           · exact .inr (.inr ⟨ar,b6.lt cL q U⟩)
       · rcases Od q J with U|U
         · exact (h.h0 q U).2.2 a7
         · have ar:=h.lt (q:=q) (.inr (.inr (.inr (.inr a7))))
           have:=l7 q U
           omega
     have al0:cc T ((T.dA oO T.G).cY Fa T.P) w hU (2*(l++ [x]).length):=by
       have U:=(SK.trans (cc.ext _ Ax)).mono (l:=2*(l++ [x]).length) (by rw[eu,rh];omega)
       refine U.step (E:=oO) (G:=T.G) dQ (fun q J az=>by have:=z1 q J;omega) (fun q J=> ?_) fun q J=> .inl J
       rcases Od q J with U|U
       · exact .inl (Hs q U)
       · exact .inr (.inr (l7 q U))
     have ZG:∀ {m:aL} {K V D:aa},b8 (fun q=>w.heap.size≤q∧¬((T.dA dj T.G).cY Fa T.P).M q) cq m K V D→b8 (fun q=>w.heap.size≤q∧¬((T.dA oO T.G).cY Fa T.P).M q) hU m K V D:=fun {m K V D} hm=>by
       have U:=(hm.ext Ax).bw (C:=fun q=>q<(du.alloc (.cells (gk.c x).toArray ah.ua)).heap.size∧w.heap.size≤q∧¬((T.dA dj T.G).cY Fa T.P).M q) fun q J ab=>⟨J,ab⟩
       refine (b8.an U dQ fun q J bJ=>J.2.2 (.inr (.inr (.inr (.inl (Ko q bJ)))))).bw fun q _ ab=>⟨ab.2.1,fun hm=>ab.2.2 ?_⟩
       rcases hm with hm|hm|hm|hm|hm
       · exact .inl hm
       · exact .inr (.inl hm)
       · exact .inr (.inr (.inl hm))
       · refine .inr (.inr (.inr (.inl ?_)))
         show dj q
         rcases Od q hm with ar|ar
         · exact Hs q ar
         · rcases gS q ar with aI|aI
           · exact Ko q aI
           · have:=ab.1;omega
       · exact .inr (.inr (.inr (.inr hm)))
     have mX:IntKind.wrap .i64 (((s7+1:Nat):Int)-1)=(s7:Nat):=by rw[cE (by omega) (by omega)];omega
     refine ⟨au,hU,bj,⟨s7,_,l++ [x],h4,oO,Fa,mX,rfl,?_,?_,by rw[eu,rh];omega,sR,l7,alZ,al0,fun j=>(g1 j).trans (ak j),by rw[og];exact cL,?_⟩,?_⟩
     · cases s7 with
       |zero=>exact ZB
       |succ m=>rw[if_neg (by omega)];exact ZB
     · rw[←gI,n3,er,lG];rfl
     · intro y b2
       rcases fe.1 b2 with b2|b2
       · exact ZG (nH.dZ (jy y b2))
       · obtain rfl:=nC.1 b2
         subst lG
         exact ZG (SL.bw fun q _ ab=>⟨by have:=ab.1;omega,ab.2⟩)
     · rw[mX]
       show ((s7:Nat):Int).toNat<(((s7+1:Nat):Int)).toNat
       omega
   · refine ⟨false,bX,bX,bX,e,rfl,cp (vs:=[.bool false, .slice none 0 0, .slice none 0 0, .slice none 0 0]) rfl fun fF Fb C8 SM=> ?_⟩
     refine ⟨Fb.dr rfl ?_,rfl,ec Fb (us:=[.bool false, .slice none 0 0, .slice none 0 0, .slice none 0 0]) rfl rfl fun c9 Av xk C4=>⟨fun _=> ?_,fun ab=> ?_⟩⟩
     · intro v ak
       simp only[gp,mm,mn] at ak
       rcases ak with rfl|rfl|rfl|rfl<;>trivial
     · have af:Ext cq c9:=Ext.e3 C8 xk (cP _)
       have he:e=3∧¬ba.D.calm 2:=by
         rcases Kn with U|U|⟨_,_,U⟩
         · exact U
         · obtain ⟨p,aA,_⟩:=k9
           rw[aA] at U;cases U
         · exact absurd k9 (U n)
       obtain ⟨rfl,fh⟩:=he
       obtain ⟨ar,aI⟩:=fin (k:=2*T.bl) (ad.ext af) ((SK.trans (cc.ext _ af)).mono (by omega)) mb z1
       exact ⟨Fa,ar,aI,fun j=>(g1 j).trans (ak j), .inr ⟨rfl,fun al=>fh (b4.calm 2 (oe al (by omega)))⟩⟩
     · simp at ab;exact absurd ab en
 · have b3:jb=0:=by
     have:¬((jb:Nat):Int)>0:=ff cm
     omega
   subst b3
   have aU:rest=[]:=E_
   subst aU
   obtain ⟨ar,aI⟩:=fin (k:=2*T.bl) bh (b4.mono (by omega)) mb z1
   refine ⟨ba,ar,aI,ak, .inl ⟨s,l,rfl,by rw[←gI,l2],mU,fun q J=>⟨z1 q J,fun hm=> ?_⟩,fun x af=> ?_⟩⟩
   · have g9:=z1 q J
     have Oe:dj q:=by rw[mb];exact .inr J
     rcases hm with hm|hm|hm|hm|hm
     · exact (bh.pP.inv.nn q (.inr (.inr (.inl Oe)))).2 hm
     · exact (bh.h0 q Oe).1 hm
     · exact (bh.h0 q Oe).2.1 hm
     · have:=h.lt (q:=q) (.inr (.inr (.inr (.inl hm))));omega
     · exact (bh.h0 q Oe).2.2 hm
   · refine (jy x af).bw fun q _ ab=>⟨ab.1,fun hm=>ab.2 ?_⟩
     rcases hm with hm|hm|hm|hm|hm
     · exact .inl hm
     · exact .inr (.inl hm)
     · exact .inr (.inr (.inl hm))
     · refine .inr (.inr (.inr (.inl ?_)))
       show dj q
       rw[mb];exact .inl hm
     · exact .inr (.inr (.inr (.inr hm)))
end
section
def aX.Hv (T:aX) (f:Nat→Bool):aX:={T with f:=f}
structure gw where
 dd:Nat
 nr:aa
 lT:aa
 made:List Nat
 left:List Nat
structure fM (w:World) (T:aX) (c:gw):Prop where
 t:c6 w T
 v:Var w c.dd [.pointer (some ⟨T.bK,0,none⟩), .slice c.nr.a c.nr.len c.nr.cap, .slice c.lT.a c.lT.len c.lT.cap] ah.ZH
 nr:b6 1 ah.int w c.nr (l6 c.made)
 lT:b6 1 ah.int w c.lT (l6 c.left)
 gc:T.G c.dd
 s8:∀q,aR c.nr q→T.G q∧q≠c.dd∧¬aR c.lT q
 vu:∀q,aR c.lT q→T.G q∧q≠c.dd
theorem ZI {w:World} {s:aa} {ds:List Nat} (d:Nat) (mU:b6 1 ah.int w s (l6 ds)) (aD:ds.length≤1000000):
   ∃ (au:aa) (w':World),Sem.run Tryz.prog (Builtin.append_ #[ah.fb,ah.fb] ah.fb #[.slice s.a s.len s.cap, .slice (some ⟨w.heap.size,0,none⟩) 1 1]) (w.alloc (.cells #[.int .i64 ((d:Nat):Int)] ah.int))= .ok (.slice au.a au.len au.cap) w'∧
     b6 1 ah.int w' au (l6 (ds++ [d]))∧ao (aR s) w w'∧(∀k,aR au k→aR s k∨w.heap.size≤k)∧ao (aR s) (w.alloc (.cells #[.int .i64 ((d:Nat):Int)] ah.int)) w':=by
 have gA:s.len=ds.length:=by have:=mU.1;rw[GR] at this;omega
 have al:Ext w (w.alloc (.cells #[.int .i64 ((d:Nat):Int)] ah.int)):=iX _ _
 have bI:(w.alloc (.cells #[.int .i64 ((d:Nat):Int)] ah.int)).heap.size=w.heap.size+1:=Jr _ _
 obtain ⟨au,w',U,ad,ar,aI,aW⟩:=Nj.append (ez:=ah.fb) (x:=⟨some ⟨w.heap.size,0,none⟩,1,1⟩) (Src.new (T:=ah.int) w [.int .i64 ((d:Nat):Int)] 1 rfl) (mU.ext al) (fun v ak=>by rw[nC.1 ak];trivial) (by show (2*(s.len+1)+1000)*8≤_;omega)
 exact ⟨au,w',U,by simpa[l6] using ad,(ao.eK al).trans aI,fun k ae=>(aW k ae).imp id (fun h=>by omega),aI⟩
section
variable {w w':World} {T av:aX} {c:gw}
theorem fM.of {W:Nat→Prop} (h:fM w T c) (bh:c6 w' av) (al:ao W w w') (dK:∀q,T.G q→¬W q) (sr:av.bK=T.bK) (h8:∀q,T.G q→av.G q):fM w' av c:=
 ⟨bh,by rw[sr];exact h.v.an al (dK _ h.gc),h.nr.an al fun q J=>dK q (h.s8 q J).1,h.lT.an al fun q J=>dK q (h.vu q J).1,h8 _ h.gc,fun q J=>⟨h8 q (h.s8 q J).1,(h.s8 q J).2⟩,fun q J=>⟨h8 q (h.vu q J).1,(h.vu q J).2⟩⟩
theorem fM.ext (h:fM w T c) (af:Ext w w'):fM w' T c:=h.of (h.t.ext af) af (fun _ _ h=>h) rfl fun _ h=>h
theorem fM.cells (h:fM w T c):w.cell? ⟨c.dd,0,none⟩=some (.pointer (some ⟨T.bK,0,none⟩))∧w.cell? (Addr.add ⟨c.dd,0,none⟩ 1)=some (.slice c.nr.a c.nr.len c.nr.cap)∧w.cell? (Addr.add ⟨c.dd,0,none⟩ 2)=some (.slice c.lT.a c.lT.len c.lT.cap):=by
 rw[aV,aV]
 exact ⟨h.v.cell,h.v.cell,h.v.cell⟩
theorem c6.Of (h:c6 w T) {q:Nat} (J:T.G q):¬jq T.C q:=fun aG=>(h.pP.inv.nn q (.inr (.inr (.inr J)))).2 aG
theorem c6.ZJ {f:Nat→Bool} (h:c6 w T) (aj:lR w' T.dc T.n f T.g T.s1 T.s2) (al:ao (l_ T.dc T.s1 T.s2) w w'):c6 w' (T.Hv f)∧cc T (T.Hv f) w w' 0:=
 ⟨⟨h.t.an al h.yW,aj,h.pP.an al fun q J=> .inr (.inl J),h.yW,h.h0,h.s5,h.n,h.num,h.lv⟩,
   ⟨rfl,rfl,rfl,rfl,rfl,rfl,rfl,rfl,rfl,rfl,cP _,fun _ h=>h,al.mono fun q _ J=> .inr (.inr (.inl J)),fun q h=> .inl h,fun q h=> .inl h⟩⟩
theorem al1 (h:fM w T c) (no:Nat) (az:c.made.length≤100000):
   ∃ (au:aa) (aw:World),Sem.run Tryz.prog (Builtin.append_ #[ah.fb,ah.fb] ah.fb #[.slice c.nr.a c.nr.len c.nr.cap, .slice (some ⟨w.heap.size,0,none⟩) 1 1]) (w.alloc (.cells #[.int .i64 ((no:Nat):Int)] ah.int))= .ok (.slice au.a au.len au.cap) aw∧
     ao (aR c.nr) (w.alloc (.cells #[.int .i64 ((no:Nat):Int)] ah.int)) aw∧(∃u:Value,aw.cell? ⟨c.dd,1,none⟩=some u)∧aw.frozen? ⟨c.dd,1,none⟩=false∧
     ∀aZ,aZ=aw.setCell ⟨c.dd,1,none⟩ (.slice au.a au.len au.cap)→fM aZ (T.dA T.E fun q=>T.G q∨aR au q) {c with nr:=au,made:=c.made++ [no]}∧cc T (T.dA T.E fun q=>T.G q∨aR au q) w aZ 0:=by
 obtain ⟨au,aw,aA,aF,aO,cS,xe⟩:=ZI no h.nr (by omega)
 have dK:∀q,aR c.nr q→T.G q:=fun q J=>(h.s8 q J).1
 have dB:=aO.size
 have g1:=h.v.an aO fun J=>(h.s8 _ J).2.1 rfl
 obtain ⟨dR,e0⟩:=j5 g1 (i:=1) (by simp)
 refine ⟨au,aw,aA,xe,dR,e0,?_⟩
 rintro _ rfl
 have fj:=iL aw c.dd 1 (.slice au.a au.len au.cap)
 have mx:=j4 g1 (i:=1) (.slice au.a au.len au.cap)
 have kP:ao T.G w (aw.setCell ⟨c.dd,1,none⟩ (.slice au.a au.len au.cap)):=mA (aO.mono fun q _ J=>dK q J) fj fun q _ e=>by rw[e];exact h.gc
 have al2:=kP.size
 have a9:∀q,aR au q→q<aw.heap.size:=fun q J=>b6.lt aF q J
 have mu:∀q,aR au q→T.G q∨(w.heap.size≤q∧q<(aw.setCell ⟨c.dd,1,none⟩ (.slice au.a au.len au.cap)).heap.size):=fun q J=>by
   rcases cS q J with U|U
   · exact .inl (dK q U)
   · exact .inr ⟨U,by have:=a9 q J;have:=fj.size;omega⟩
 have ub:∀q,aR au q→q≠c.dd:=fun q J e=>by
   rcases cS q J with U|U
   · exact (h.s8 q U).2.1 e
   · have:=h.v.lt;omega
 have df:∀q,aR au q→¬aR c.lT q:=fun q J e=>by
   rcases cS q J with U|U
   · exact (h.s8 q U).2.2 e
   · have:=b6.lt h.lT q e;omega
 have bh:=h.t.grow (E:=T.E) (G:=fun q=>T.G q∨aR au q) kP (fun q J _=> .inr J) (fun q J=> .inl J) (fun q J=>by
   rcases J with J|J
   · exact .inr (.inl J)
   · exact .inr (mu q J)) fun q J a7=>by
   rcases a7 with a7|a7
   · exact (h.t.h0 q J).2.2 a7
   · rcases cS q a7 with U|U
     · exact (h.t.h0 q J).2.2 (dK q U)
     · have:=h.t.lt (q:=q) (.inr (.inr (.inr (.inl J))));omega
 refine ⟨⟨bh,mx,?_,(h.lT.an aO fun q J e=>(h.s8 q e).2.2 J).an fj fun q J e=>(h.vu q J).2 e, .inl h.gc,fun q J=>⟨.inr J,ub q J,df q J⟩,fun q J=>⟨.inl (h.vu q J).1,(h.vu q J).2⟩⟩,?_⟩
 · have:b6 1 ah.int aw au (l6 (c.made++ [no])):=aF
   exact this.an fj fun q J e=>ub q J e
 · have b3:cc T T w w 0:= .refl _ _
   exact b3.step kP (fun q J _=> .inr (.inr (.inr J))) (fun q J=> .inl J) fun q J=>by
     rcases J with J|J
     · exact .inl J
     · exact (mu q J).imp id fun e=>e.1
theorem ZK (h:fM w T c) (no:Nat) (az:c.left.length≤100000):
   ∃ (au:aa) (aw:World),Sem.run Tryz.prog (Builtin.append_ #[ah.fb,ah.fb] ah.fb #[.slice c.lT.a c.lT.len c.lT.cap, .slice (some ⟨w.heap.size,0,none⟩) 1 1]) (w.alloc (.cells #[.int .i64 ((no:Nat):Int)] ah.int))= .ok (.slice au.a au.len au.cap) aw∧
     ao (aR c.lT) (w.alloc (.cells #[.int .i64 ((no:Nat):Int)] ah.int)) aw∧(∃u:Value,aw.cell? ⟨c.dd,2,none⟩=some u)∧aw.frozen? ⟨c.dd,2,none⟩=false∧
     ∀aZ,aZ=aw.setCell ⟨c.dd,2,none⟩ (.slice au.a au.len au.cap)→fM aZ (T.dA T.E fun q=>T.G q∨aR au q) {c with lT:=au,left:=c.left++ [no]}∧cc T (T.dA T.E fun q=>T.G q∨aR au q) w aZ 0:=by
 obtain ⟨au,aw,aA,aF,aO,cS,xe⟩:=ZI no h.lT (by omega)
 have dK:∀q,aR c.lT q→T.G q:=fun q J=>(h.vu q J).1
 have dB:=aO.size
 have g1:=h.v.an aO fun J=>(h.vu _ J).2 rfl
 obtain ⟨dR,e0⟩:=j5 g1 (i:=2) (by simp)
 refine ⟨au,aw,aA,xe,dR,e0,?_⟩
 rintro _ rfl
 have fj:=iL aw c.dd 2 (.slice au.a au.len au.cap)
 have mx:=j4 g1 (i:=2) (.slice au.a au.len au.cap)
 have kP:ao T.G w (aw.setCell ⟨c.dd,2,none⟩ (.slice au.a au.len au.cap)):=mA (aO.mono fun q _ J=>dK q J) fj fun q _ e=>by rw[e];exact h.gc
 have al2:=kP.size
 have a9:∀q,aR au q→q<aw.heap.size:=fun q J=>b6.lt aF q J
 have mu:∀q,aR au q→T.G q∨(w.heap.size≤q∧q<(aw.setCell ⟨c.dd,2,none⟩ (.slice au.a au.len au.cap)).heap.size):=fun q J=>by
   rcases cS q J with U|U
   · exact .inl (dK q U)
   · exact .inr ⟨U,by have:=a9 q J;have:=fj.size;omega⟩
 have ub:∀q,aR au q→q≠c.dd:=fun q J e=>by
   rcases cS q J with U|U
   · exact (h.vu q U).2 e
   · have:=h.v.lt;omega
 have df:∀q,aR c.nr q→¬aR au q:=fun q e J=>by
   rcases cS q J with U|U
   · exact (h.s8 q e).2.2 U
   · have:=b6.lt h.nr q e;omega
 have bh:=h.t.grow (E:=T.E) (G:=fun q=>T.G q∨aR au q) kP (fun q J _=> .inr J) (fun q J=> .inl J) (fun q J=>by
   rcases J with J|J
   · exact .inr (.inl J)
   · exact .inr (mu q J)) fun q J a7=>by
   rcases a7 with a7|a7
   · exact (h.t.h0 q J).2.2 a7
   · rcases cS q a7 with U|U
     · exact (h.t.h0 q J).2.2 (dK q U)
     · have:=h.t.lt (q:=q) (.inr (.inr (.inr (.inl J))));omega
 refine ⟨⟨bh,mx,(h.nr.an aO fun q J e=>(h.s8 q J).2.2 e).an fj fun q J e=>(h.s8 q J).2.1 e,?_, .inl h.gc,fun q J=>⟨.inl (h.s8 q J).1,(h.s8 q J).2.1,df q J⟩,fun q J=>⟨.inr J,ub q J⟩⟩,?_⟩
 · have:b6 1 ah.int aw au (l6 (c.left++ [no])):=aF
   exact this.an fj fun q J e=>ub q J e
 · have b3:cc T T w w 0:= .refl _ _
   exact b3.step kP (fun q J _=> .inr (.inr (.inr J))) (fun q J=> .inl J) fun q J=>by
     rcases J with J|J
     · exact .inl J
     · exact (mu q J).imp id fun e=>e.1
end
end
section
def fG (T:aX):Nat:=T.n-mB (fun i=>T.f i||T.g i) T.n
theorem ZL {s t:Nat→Bool}:∀ {n:Nat},(∀i,i<n→s i=t i)→mB s n=mB t n
 |0,_=>rfl
 |n+1,h=>by
   unfold mB
   rw[ZL (n:=n) fun i hi=>h i (by omega),h n (by omega)]
theorem ZM {s t:Nat→Bool} {k:Nat} (ae:s k=false) (aN:t k=true) (he:∀i,i≠k→t i=s i):∀ {n:Nat},k<n→mB t n=mB s n+1
 |0,h=>by omega
 |n+1,h=>by
   unfold mB
   by_cases e:k=n
   · subst e
     rw[ZL (s:=t) (t:=s) (n:=k) fun i hi=>he i (by omega),ae,aN]
     simp
   · rw[ZM ae aN he (n:=n) (by omega),he n (by omega)]
     omega
theorem ZN {t:Nat→Bool}:∀ {n:Nat},(∀i,i<n→t i=true)→mB t n=n
 |0,_=>rfl
 |n+1,h=>by
   unfold mB
   rw[ZN (n:=n) fun i hi=>h i (by omega),h n (by omega)]
   simp
theorem al3 {T:aX} (h:1≤fG T):∃no,firstFree (fun i=>T.f i||T.g i) T.n=some no:=by
 cases aG:firstFree (fun i=>T.f i||T.g i) T.n with
 |some no=>exact ⟨no,rfl⟩
 |none=>
   have:=ZN (ak8 aG)
   unfold fG at h
   rw[this] at h
   omega
structure fN (T av:aX) (c c':gw) (m l:List Nat) (w w':World) (k:Nat):Prop where
 to:cc T av w w' k
 E:av.E=T.E
 G:∀q,T.G q→av.G q
 root:av.root=T.root
 bl:av.bl=T.bl
 dd:c'.dd=c.dd
 made:c'.made=c.made++m
 left:c'.left=c.left++l
 dZ:m.Nodup
 s9:∀no∈m,(T.f no||T.g no)=false∧no<T.n
 f:∀no,av.f no=(T.f no||decide (no∈m))
 gW:∀no,(T.f no||T.g no)=true→av.P no=T.P no∧av.C.view no=T.C.view no
 room:fG av+m.length=fG T
theorem fN.ext {w w':World} (T:aX) (c:gw) (h:Ext w w'):fN T T c c [] [] w w' 0:=
 ⟨.ext T h,rfl,fun _ h=>h,rfl,rfl,rfl,by simp,by simp,Jf,fun _ h=>(by cases h),fun no=>by simp,fun _ _=>⟨rfl,rfl⟩,by simp⟩
theorem fN.trans {T av xi:aX} {c c' ZO:gw} {m Og l Hw:List Nat} {w w' hO:World} {k mC:Nat} (U:fN T av c c' m l w w' k) (ad:fN av xi c' ZO Og Hw w' hO mC):fN T xi c ZO (m++Og) (l++Hw) w hO (k+mC):=by
 have a7:av.g=T.g:=U.to.g
 have aD:av.n=T.n:=U.to.n
 have aG:∀no,(T.f no||T.g no)=true→(av.f no||av.g no)=true:=fun no h=>by
   rw[U.f,a7]
   cases ar:T.f no<;>cases aI:T.g no<;>simp[ar,aI] at h⊢
 refine ⟨U.to.trans ad.to,ad.E.trans U.E,fun q h=>ad.G q (U.G q h),ad.root.trans U.root,ad.bl.trans U.bl,ad.dd.trans U.dd,by rw[ad.made,U.made,er],by rw[ad.left,U.left,er],?_,fun no h=> ?_,fun no=> ?_,fun no h=> ?_,?_⟩
 · rw[List.nodup_append]
   refine ⟨U.dZ,ad.dZ,fun a aS b ab e=> ?_⟩
   subst e
   have:=(ad.s9 a ab).1
   rw[U.f] at this
   simp[aS] at this
 · rcases fe.1 h with h|h
   · exact U.s9 no h
   · have ar:=ad.s9 no h
     rw[U.f,a7,aD] at ar
     refine ⟨?_,ar.2⟩
     cases aW:T.f no<;>cases b5:T.g no<;>simp[aW,b5] at ar⊢
 · rw[ad.f,U.f]
   simp only[fe,Bool.decide_or,Bool.or_assoc]
 · have ar:=ad.gW no (aG no h)
   have aI:=U.gW no h
   exact ⟨ar.1.trans aI.1,ar.2.trans aI.2⟩
 · have:=U.room
   have:=ad.room
   rw[eu];omega
theorem fN.mono {T av:aX} {c c':gw} {m l:List Nat} {w w':World} {k j:Nat} (h:fN T av c c' m l w w' k) (ae:k≤j):fN T av c c' m l w w' j:=⟨h.to.mono ae,h.E,h.G,h.root,h.bl,h.dd,h.made,h.left,h.dZ,h.s9,h.f,h.gW,h.room⟩
end
section
def ZP (T:aX) (c:gw) (n:aL) (w:World) (v:Value) (w':World):Prop:=
 ∃ (no:Nat) (av:aX) (c':gw),fM w' av c'∧fN T av c c' [no] [] w w' 1∧
   ((v= .tuple #[.int .i64 (no:Nat), .int .i64 0]∧av.P no=some n)∨(v= .tuple #[.int .i64 (no:Nat), .int .i64 3]∧¬T.C.D.calm 1))
theorem dX.iM {n:aL} (h:dX n) (ad:cf n≤400):n.keys.length≤200∧n.vals.length≤200∧n.kids.length≤201:=by
 have:=M1 h
 rcases h with h|h
 · have:=h.len
   have aI:n.kids.length=0:=by rw[h.kids];rfl
   omega
 · have:=h.len
   have aI:n.vals.length=0:=by rw[h.vals];rfl
   omega
theorem Oh {B:Nat→Prop} {w:World} {T:aX} {c:gw} {n:aL} {K V D:aa} (h:fM w T c) (gV:T.C.D.cI≤900000100) (jr:1≤fG T) (n6:c.made.length≤1000) (aD:b8 B w n K V D) (aj:dX n) (ad:cf n≤232):
   aQ Tryz.prog F.uc #[.pointer (some ⟨c.dd,0,none⟩),e5 n K V D] w (ZP T c n w):=by
 obtain ⟨no,yB⟩:=al3 jr
 obtain ⟨dg,Kp,_⟩:=ak7 yB
 have o5:=h.t.s.c_
 have pQ:=aj.iM (by omega)
 refine W.al4 (some ⟨c.dd,0,none⟩) n.leaf K V D w _ ?_
 (delta W.uc bP ai aq gu aE s_ st kF bc;dsimp only)
 refine cp (vs:=[.bool n.leaf, .slice K.a K.len K.cap, .slice V.a V.len V.cap, .slice D.a D.len D.cap]) rfl fun ag gd bz kM=> ?_
 obtain ⟨cA,bd,bc,a_⟩:=cj gd
 refine ⟨_,cA,K,bd,V,bc,D,a_,(yj (aD.ext bz) (by omega) (by omega) (by omega)).use ?_⟩
 rintro _ a4 ⟨al5,ko⟩
 rcases al5 with ⟨s,rfl,NV,al6,_,_⟩|⟨e,rfl,he,xl⟩
 rotate_left
 · have:=xl aj;omega
 have nE:=bz.trans ko
 have b5:=h.ext nE
 refine ⟨s,0,rfl,fun ab=>(by cases ab),fun _=>⟨_,rfl,_,b5.cells.1,_,rfl,_,b5.t.cells.2.1,(ala b5.t.s).use ?_⟩⟩
 rintro _ dy ⟨rfl,p6,gf⟩
 rw[yB] at p6⊢
 obtain ⟨al7,SQ⟩:=b5.t.ZJ p6 gf
 have ZQ:fM dy (T.Hv (j9 T.f no true)) c:=b5.of al7 gf (fun q J aG=>(h.t.s5 q J).2 aG) rfl fun _ h=>h
 refine ⟨(no:Nat),0,rfl,fun ab=>(by cases ab),fun _=>⟨_,rfl,_,ZQ.cells.2.1,?_⟩⟩
 obtain ⟨au,cO,aA,aF,aJ,aO,cS⟩:=al1 ZQ no (by omega)
 refine bM ⟨au,cO,aA,_,rfl,by rw[aV];exact aJ,by rw[aV];exact aO,bM ?_⟩
 rw[aV]
 obtain ⟨cK,ZR⟩:∃cK,cK=cO.setCell ⟨c.dd,0+1,none⟩ (.slice au.a au.len au.cap):=⟨_,rfl⟩
 rw[←ZR]
 obtain ⟨Oi,SR⟩:=cS cK ZR
 obtain ⟨ZS,al8⟩:∃ZS,ZS=fun q=>T.G q∨aR au q:=⟨_,rfl⟩
 have j1:∀q,T.N q→q<w.heap.size:=fun q J=>h.t.lt (aX.lS J)
 have NG:=nE.size
 have ZT:=SQ.an.size
 have Kq:=SR.an.size
 have ZU:ao T.N a4 cK:=SQ.an.trans SR.an
 have C9:Var cK w.heap.size [.bool n.leaf, .slice K.a K.len K.cap, .slice V.a V.len V.cap, .slice D.a D.len D.cap] ah.cF:=(gd.ext ko).an ZU fun J=>by have:=j1 _ J;omega
 have al9:b6 1 ah.uint8 cK s (bg (r8 n)):=NV.an ZU fun q J g9=>by have:=j1 _ g9;have:=al6 q J;omega
 have hlen:=Rc aj
 have k9:Jq ⟨if n.leaf then 1 else 2,T.gen,r8 n⟩:=by
   refine ⟨?_,?_,h.t.num.2.2,by show (r8 n).length≤232;omega⟩
   · show 1≤(if n.leaf then 1 else 2);split<;>omega
   · show (if n.leaf then 1 else 2)≤4;split<;>omega
 refine e4 (fun pc fp=>pc=((if n.leaf then 1 else 2:Nat):Int)∧fp=cK) (fun q J=>⟨n.leaf,C9.cell,fun ab=>J _ _ ⟨by rw[ab];rfl,rfl⟩,fun ab=>J _ _ ⟨by rw[ab];rfl,rfl⟩⟩) ?_
 rintro _ _ ⟨rfl,rfl⟩
 refine ⟨_,rfl,_,Oi.cells.1,_,rfl,_,Oi.t.cells.2.2.1,(aht (no:=no) (p:=⟨if n.leaf then 1 else 2,T.gen,r8 n⟩) al9.src (by omega) k9).use ?_⟩
 rintro _ eC ⟨s2,rfl,ZV,ZW,al_⟩
 have Fe:=Oi.ext ZW
 refine ⟨s2,0,rfl,fun ab=>(by cases ab),fun _=>⟨_,rfl,_,Fe.cells.1,_,rfl,_,Fe.t.cells.1,(akv Fe.t.pP (by show T.C.D.cI≤999999999;omega) (no:=no) (by rw[Fe.t.n];exact dg) ZV.src (Xg no k9) fun q J=>⟨b6.lt ZV q J,fun aG=> ?_⟩).use ?_⟩⟩
 · have:=al_ q J
   have:=Oi.t.lt (q:=q) (.inl aG)
   omega
 rintro _ du ⟨bt,nQ,b4,e9⟩
 have NW:∀j,j9 T.f no true j=(T.f j||decide (j∈ [no])):=fun j=>by
   unfold j9
   by_cases e:j=no
   · subst e;simp
   · simp[e]
 have ZX:(T.f no||T.g no)=false:=Kp
 have ama:T.n-mB (fun i=>j9 T.f no true i||T.g i) T.n+1=fG T:=by
   have:=ZM (s:=fun i=>T.f i||T.g i) (t:=fun i=>j9 T.f no true i||T.g i) (k:=no) Kp (by simp[j9]) (fun i hi=>by simp[j9,hi]) dg
   unfold fG at jr⊢
   have ar:=Hq (fun i=>T.f i||T.g i) T.n
   omega
 have main:∀ (Hx:Nat→Option aL) (v:Value),(∀j,j≠no→Hx j=T.P j)→(∀j,j≠no→bt.view j=T.C.view j)→(∀j dZ,Hx j=some dZ→j<T.n∧sn T.gen dZ.leaf j (bt.view j) dZ)→
     ((v= .tuple #[.int .i64 (no:Nat), .int .i64 0]∧Hx no=some n)∨(v= .tuple #[.int .i64 (no:Nat), .int .i64 3]∧¬T.C.D.calm 1))→ZP T c n w v du:=by
   intro Hx v hY tR SS ak
   obtain ⟨amb,amc⟩:=Fe.t.SC (P:=Hx) nQ b4 SS
   have amd:=Fe.of (av:=((T.Hv (j9 T.f no true)).dA T.E fun q=>T.G q∨aR au q).cY bt Hx) amb b4.an (fun q J=>Fe.t.Of J) rfl fun _ h=>h
   refine ⟨no,_,_,amd,⟨?_,rfl,fun q J=> .inl J,rfl,rfl,rfl,rfl,(l2 _).symm,by simp,fun x af=> ?_,NW,fun j a6=> ?_,ama⟩,ak⟩
   · have:=(((cc.ext T nE).trans SQ).trans SR).trans ((cc.ext _ ZW).trans amc)
     exact this.mono (by omega)
   · obtain rfl:=nC.1 af
     exact ⟨ZX,dg⟩
   · have:j≠no:=fun e=>by rw[e,ZX] at a6;cases a6
     exact ⟨hY j this,tR j this⟩
 rcases e9 with ⟨rfl,ak⟩|⟨rfl,fh,ak⟩
 · refine ⟨0,rfl,main (fun j=>if j=no then some n else T.P j) _ (fun j a6=>if_neg a6) (fun j a6=>(ak j).trans (if_neg a6)) (fun j dZ a6=> ?_) (.inl ⟨rfl,if_pos rfl⟩)⟩
   by_cases e:j=no
   · subst e
     rw[if_pos rfl] at a6
     cases a6
     rw[ak,if_pos rfl]
     exact ⟨dg,_,ahd (by omega) k9,cP _,rfl,aj,rfl,ad,rfl⟩
   · rw[if_neg e] at a6
     rw[ak,if_neg e]
     exact h.t.lv j dZ a6
 · refine ⟨3,rfl,main T.P _ (fun _ _=>rfl) (fun j _=>ak j) (fun j dZ a6=> ?_) (.inr ⟨rfl,fh⟩)⟩
   rw[ak]
   exact h.t.lv j dZ a6
end
section
theorem ame (w:World) (x:Int):Sem.run Tryz.prog (Instr.buildSlice ah.Hy 1 #[(0, .agg #[.slice none 0 0, .int .i64 x])]) w=
   .ok (.slice (some ⟨w.heap.size,0,none⟩) 1 1) (w.alloc (.cells #[.slice none 0 0, .int .i64 x] ah.vv)):=by kernel_rfl
theorem amf (w:World) (x y:Int) (t:aa):Sem.run Tryz.prog (Instr.buildSlice ah.Hy 2 #[(0, .agg #[.slice none 0 0, .int .i64 x]),(1, .agg #[.slice t.a t.len t.cap, .int .i64 y])]) w=
   .ok (.slice (some ⟨w.heap.size,0,none⟩) 2 2) (w.alloc (.cells #[.slice none 0 0, .int .i64 x, .slice t.a t.len t.cap, .int .i64 y] ah.vv)):=by kernel_rfl
theorem dX.QU {n:aL} (h:dX n) (U:1≤da n) (ad:if n.leaf then da n≤n.keys.length-1∧1≤n.keys.length-1 else da n≤n.keys.length-2∧1≤n.keys.length-2):dX (n.left (da n))∧dX (n.right (da n)):=by
 rcases h with h|h
 · have az:=h.leaf
   rw[if_pos az] at ad
   unfold aL.left aL.right
   rw[if_pos az,if_pos az]
   have hlen:=h.len
   refine ⟨.inl ⟨⟨fun k ae=>h.ok k (kA ae),h.j0.sublist (List.take_sublist _ _)⟩,rfl,?_,rfl,fun v ak=>h.vals v (kA ak)⟩, .inl ⟨⟨fun k ae=>h.ok k (kk ae),h.j0.sublist (List.drop_sublist _ _)⟩,rfl,?_,rfl,fun v ak=>h.vals v (kk ak)⟩⟩
   · simp only[dV];omega
   · simp only[fw];omega
 · have az:=h.inner
   rw[if_neg (by rw[az];simp)] at ad
   unfold aL.left aL.right
   rw[if_neg (by rw[az];simp),if_neg (by rw[az];simp)]
   have hlen:=h.len
   refine ⟨.inr ⟨⟨fun k ae=>h.ok k (kA ae),h.j0.sublist (List.take_sublist _ _)⟩,rfl,?_,?_,rfl,fun v ak=>h.kids v (kA ak)⟩, .inr ⟨⟨fun k ae=>h.ok k (kk ae),h.j0.sublist (List.drop_sublist _ _)⟩,rfl,?_,?_,rfl,fun v ak=>h.kids v (kk ak)⟩⟩
   · intro e
     have:=congrArg List.length e
     simp only[dV,x0] at this;omega
   · simp only[dV];omega
   · intro e
     have:=congrArg List.length e
     simp only[fw,x0] at this;omega
   · simp only[fw];omega
def xm (B:Nat→Prop) (w:World) (s:aa) (ks:List Key) (kids:List Nat):Prop:=
 (∃b x,s=⟨some ⟨b,0,none⟩,1,1⟩∧ks=[]∧kids=[x]∧Var w b [.slice none 0 0, .int .i64 (x:Nat)] ah.vv∧B b)∨
 (∃b x y k t,s=⟨some ⟨b,0,none⟩,2,2⟩∧ks=[k]∧kids=[x,y]∧Var w b [.slice none 0 0, .int .i64 (x:Nat), .slice t.a t.len t.cap, .int .i64 (y:Nat)] ah.vv∧B b∧bD B w t k∧k≠ [])
def pR (T:aX) (c:gw) (n:aL) (w:World) (v:Value) (w':World):Prop:=
 ∃ (av:aX) (c':gw) (m:List Nat) (s:aa),fM w' av c'∧fN T av c c' m [] w w' 2∧m.length≤2∧
   ((∃ks,v= .tuple #[.slice s.a s.len s.cap, .int .i64 0]∧zP av.P n ks m∧xm (fun q=>¬av.M q) w' s ks m)∨(v= .tuple #[.slice s.a s.len s.cap, .int .i64 3]∧¬T.C.D.calm 2))
theorem ZY {B:Nat→Prop} {w:World} {T:aX} {c:gw} {n:aL} {K V D:aa} (h:fM w T c) (gV:T.C.D.cI≤900000100) (jr:1≤fG T) (n6:c.made.length≤1000) (aD:b8 B w n K V D) (aj:dX n) (ad:cf n≤232):
   aQ Tryz.prog F.AA #[.pointer (some ⟨c.dd,0,none⟩),e5 n K V D] w (pR T c n w):=by
 refine W.amg (some ⟨c.dd,0,none⟩) n.leaf K V D w _ ?_
 (delta W.AA bP ai aq s_;dsimp only)
 refine cp (vs:=[.bool n.leaf, .slice K.a K.len K.cap, .slice V.a V.len V.cap, .slice D.a D.len D.cap]) rfl fun ag gd bz kM=> ?_
 obtain ⟨cA,bd,bc,a_⟩:=cj gd
 refine ⟨_,cA,K,bd,V,bc,D,a_,(Oh (h.ext bz) gV jr n6 (aD.ext bz) aj ad).use ?_⟩
 rintro _ a4 ⟨no,av,c',pb,b4,e9⟩
 have Cz:∀ (e:Int),((e=0∧av.P no=some n)∨(e=3∧¬T.C.D.calm 1))→∃ (gi:aa) (cq:World),Sem.run Tryz.prog (Instr.buildSlice ah.Hy 1 #[(0, .agg #[.slice none 0 0, .int .i64 (no:Nat)])]) a4= .ok (.slice gi.a gi.len gi.cap) cq∧pR T c n w (.tuple #[.slice gi.a gi.len gi.cap, .int .i64 e]) cq:=by
   intro e he
   refine ⟨⟨some ⟨a4.heap.size,0,none⟩,1,1⟩,_,ame a4 _,?_⟩
   have mQ:=iX a4 (.cells #[.slice none 0 0, .int .i64 (no:Nat)] ah.vv)
   have gx:fN T av c c' [no] [] w (a4.alloc (.cells #[.slice none 0 0, .int .i64 (no:Nat)] ah.vv)) 2:=(((fN.ext T c bz).trans b4).trans (fN.ext av c' mQ)).mono (by omega)
   refine ⟨av,c',[no],⟨some ⟨a4.heap.size,0,none⟩,1,1⟩,pb.ext mQ,gx,by simp,?_⟩
   rcases he with ⟨rfl,he⟩|⟨rfl,he⟩
   · refine .inl ⟨[],rfl, .inl ⟨ad,no,rfl,rfl,he⟩, .inl ⟨_,no,rfl,rfl,rfl,Var.new a4 [.slice none 0 0, .int .i64 (no:Nat)] ah.vv,fun hm=> ?_⟩⟩
     have:=pb.t.lt hm
     omega
   · exact .inr ⟨rfl,fun al=>he (oe al (by omega))⟩
 rcases e9 with ⟨rfl,hY⟩|⟨rfl,fh⟩
 · exact ⟨_,0,rfl,Cz 0 (.inl ⟨rfl,hY⟩)⟩
 · exact ⟨_,3,rfl,Cz 3 (.inr ⟨rfl,fh⟩)⟩
theorem lU {b:Bool} {K V D:aa}:∀v∈ [.bool b, .slice K.a K.len K.cap, .slice V.a V.len V.cap, .slice D.a D.len D.cap],Plain v:=by
 intro v ak
 simp only[gp,mm,mn] at ak
 rcases ak with rfl|rfl|rfl|rfl<;>trivial
theorem amh {B:Nat→Prop} {w:World} {T:aX} {c:gw} {n:aL} {K V D:aa} (h:fM w T c) (gV:T.C.D.cI≤900000090) (jr:2≤fG T) (n6:c.made.length≤900) (aD:b8 B w n K V D) (aj:dX n) (ad:232<cf n) (ar:cf n≤400) (U:1≤da n)
   (aI:if n.leaf then da n≤n.keys.length-1∧1≤n.keys.length-1 else da n≤n.keys.length-2∧1≤n.keys.length-2) (aW:cf (n.left (da n))≤232) (b5:cf (n.right (da n))≤232):
   aQ Tryz.prog F.C_ #[.pointer (some ⟨c.dd,0,none⟩),e5 n K V D] w (pR T c n w):=by
 obtain ⟨CC,ami⟩:=aj.QU U aI
 have pQ:=aj.iM (by omega)
 have ab:da n<n.keys.length:=by
   split at aI<;>omega
 refine W.amj (some ⟨c.dd,0,none⟩) n.leaf K V D w _ ?_
 (delta W.C_ bP ai aq ZZ dt aE s_;dsimp only)
 refine cp (vs:=[.bool n.leaf, .slice K.a K.len K.cap, .slice V.a V.len V.cap, .slice D.a D.len D.cap]) rfl fun ag gd bz kM=> ?_
 obtain ⟨cA,bd,bc,a_⟩:=cj gd
 refine ⟨_,cA,K,bd,V,bc,D,a_,(yC (aD.ext bz) aj (by omega) U aI).use ?_⟩
 rintro _ a4 ⟨dJ,ef,eg,cV,c2,dh,t,rfl,az,aU,aN,ko⟩
 refine ⟨_,dJ,ef,eg,t,_,cV,c2,dh,true,rfl,cp (vs:=[.bool false, .slice none 0 0, .slice none 0 0, .slice none 0 0]) rfl fun fF Fb C8 SM=>cp (vs:=[.bool false, .slice none 0 0, .slice none 0 0, .slice none 0 0]) rfl fun c9 Av tZ C4=> ?_⟩
 have NM:=Fb.ext tZ
 refine ⟨NM.dr rfl lU,rfl,ec NM (us:=[.bool (n.left (da n)).leaf, .slice dJ.a dJ.len dJ.cap, .slice ef.a ef.len ef.cap, .slice eg.a eg.len eg.cap]) rfl rfl fun ct E7 Aw SH=> ?_⟩
 have Kr:=Av.an Aw (by omega)
 refine ⟨Kr.dr rfl lU,rfl,ec Kr (us:=[.bool (n.right (da n)).leaf, .slice cV.a cV.len cV.cap, .slice c2.a c2.len c2.cap, .slice dh.a dh.len dh.cap]) rfl rfl fun dF Hz Oj Ok=>⟨fun ab=>(by cases ab),fun _=> ?_⟩⟩
 have amk:=E7.an Oj (by omega)
 have nE:=bz.trans ko
 have Ks:Ext a4 dF:=Ext.e3 (Ext.e3 (C8.trans tZ) Aw (by omega)) Oj (by omega)
 have SU:=nE.trans Ks
 have NH:=nE.size
 have atZ:=Ks.size
 obtain ⟨d0,d1,d2,d3⟩:=cj amk
 refine ⟨_,d0,dJ,d1,ef,d2,eg,d3,(Oh (h.ext SU) (by omega) (by omega) (by omega) (az.ext Ks) CC aW).use ?_⟩
 rintro _ cu ⟨x,cT,Ol,iZ,lQ,aml⟩
 have j1:∀q,T.N q→q<w.heap.size:=fun q J=>h.t.lt (aX.lS J)
 have at0:=lQ.to.an.size
 rcases aml with ⟨rfl,Z0⟩|⟨rfl,fh⟩
 · have amm:=Hz.an lQ.to.an fun J=>by have:=j1 _ J;omega
   obtain ⟨d0,d1,d2,d3⟩:=cj amm
   have amn:b8 (fun q=>ag.heap.size≤q) cu (n.right (da n)) cV c2 dh:=(aU.ext Ks).an lQ.to.an fun q J g9=>by have:=j1 _ g9;omega
   have Hm:cT.C.D.cI≤900000100:=iT lQ.to.cI (by clear iZ lQ Z0;omega)
   have SV:=lQ.room
   have at1:Ol.made.length=c.made.length+1:=by rw[lQ.made,eu];rfl
   simp only[rh] at SV
   have vw:=Oh iZ Hm (by omega) (by omega) amn ami b5
   rw[lQ.dd] at vw
   refine ⟨x,0,rfl,fun ab=>(by cases ab),fun _=>⟨_,d0,cV,d1,c2,d2,dh,d3,vw.use ?_⟩⟩
   rintro _ eG ⟨y,cW,Z1,dS,hZ,amo⟩
   have amp:=hZ.to.an.size
   have b4:=((fN.ext T c SU).trans lQ).trans hZ
   have rH:n.keys.getD (da n) []=n.keys[da n]:=by rw[p5,g8 ab];rfl
   have amq:=aN.ext Ks
   have amr:bD (fun q=>¬cW.M q) eG t n.keys[da n]:=by
     rw[←rH]
     have im:bD (fun q=>q<dF.heap.size∧ag.heap.size≤q) dF t (n.keys.getD (da n) []):=bD.bw amq fun q J ab=>⟨J,ab⟩
     have Z2:=(lQ.trans hZ).to
     refine bD.bw (bD.an im Z2.an fun q J g9=>by have:=j1 _ g9;omega) fun q _ ab hm=> ?_
     rcases Z2.jR q hm with n9|n9
     · have:=h.t.lt n9;omega
     · omega
   have iU:n.keys[da n]≠ []:=by
     have ae:ew n.keys[da n]:=by
       rcases aj with aj|aj
       · exact aj.ok _ (fv ab)
       · exact aj.ok _ (fv ab)
     intro e
     have:=ae.1
     rw[e] at this;simp at this
   have mQ:=iX eG (.cells #[.slice none 0 0, .int .i64 (x:Nat), .slice t.a t.len t.cap, .int .i64 (y:Nat)] ah.vv)
   have gx:=(b4.trans (fN.ext cW Z1 mQ)).mono (j:=2) (by omega)
   have Cz:∀ (e:Int),((e=0∧cW.P y=some (n.right (da n)))∨(e=3∧¬cT.C.D.calm 1))→∃ (ep:aa) (mc:World),Sem.run Tryz.prog (Instr.buildSlice ah.Hy 2 #[(0, .agg #[.slice none 0 0, .int .i64 (x:Nat)]),(1, .agg #[.slice t.a t.len t.cap, .int .i64 (y:Nat)])]) eG= .ok (.slice ep.a ep.len ep.cap) mc∧
       pR T c n w (.tuple #[.slice ep.a ep.len ep.cap, .int .i64 e]) mc:=by
     intro e he
     refine ⟨⟨some ⟨eG.heap.size,0,none⟩,2,2⟩,_,amf eG _ _ t,cW,Z1,[x,y],⟨some ⟨eG.heap.size,0,none⟩,2,2⟩,dS.ext mQ,gx,by simp,?_⟩
     rcases he with ⟨rfl,he⟩|⟨rfl,he⟩
     · have cv:cW.P x=some (n.left (da n)):=by
         rw[(hZ.gW x (by rw[lQ.f];simp)).1,Z0]
       refine .inl ⟨[n.keys[da n]],rfl, .inr ⟨ad,x,y,ab,rfl,rfl,cv,he⟩, .inr ⟨_,x,y,_,t,rfl,rfl,rfl,Var.new eG [.slice none 0 0, .int .i64 (x:Nat), .slice t.a t.len t.cap, .int .i64 (y:Nat)] ah.vv,fun hm=> ?_,bD.ext amr mQ,iU⟩⟩
       have:=dS.t.lt hm
       omega
     · exact .inr ⟨rfl,fun al=>he (lQ.to.calm 1 (oe al (by omega)))⟩
   rcases amo with ⟨rfl,hY⟩|⟨rfl,fh⟩
   · exact ⟨_,0,rfl,Cz 0 (.inl ⟨rfl,hY⟩)⟩
   · exact ⟨_,3,rfl,Cz 3 (.inr ⟨rfl,fh⟩)⟩
 · have gx:=((fN.ext T c SU).trans lQ).mono (j:=2) (by omega)
   exact ⟨_,3,rfl,fun _=>⟨cT,Ol,[x],bX,iZ,gx,by simp, .inr ⟨rfl,fun al=>fh (oe al (by omega))⟩⟩,fun ab=>(by cases ab)⟩
theorem Om {B:Nat→Prop} {w:World} {T:aX} {c:gw} {n:aL} {K V D:aa} (h:fM w T c) (gV:T.C.D.cI≤900000090) (jr:2≤fG T) (n6:c.made.length≤900) (aD:b8 B w n K V D) (aj:dX n) (ar:cf n≤400)
   (ad:232<cf n→1≤da n∧(if n.leaf then da n≤n.keys.length-1∧1≤n.keys.length-1 else da n≤n.keys.length-2∧1≤n.keys.length-2)∧cf (n.left (da n))≤232∧cf (n.right (da n))≤232):
   aQ Tryz.prog F.ss #[.pointer (some ⟨c.dd,0,none⟩),e5 n K V D] w (pR T c n w):=by
 have pQ:=aj.iM (by omega)
 refine W.ams (some ⟨c.dd,0,none⟩) n.leaf K V D w _ ?_
 (delta W.ss bP ai aq bc aE gu;dsimp only)
 refine cp (vs:=[.bool n.leaf, .slice K.a K.len K.cap, .slice V.a V.len V.cap, .slice D.a D.len D.cap]) rfl fun ag gd bz kM=> ?_
 obtain ⟨cA,bd,bc,a_⟩:=cj gd
 refine ⟨_,cA,K,bd,V,bc,D,a_,(u0 (aD.ext bz) aj (by omega)).use ?_⟩
 rintro _ a4 ⟨rfl,ko⟩
 have nE:=bz.trans ko
 obtain ⟨d0,d1,d2,d3⟩:=cj (gd.ext ko)
 have fin:∀ (v:Value) (w':World),pR T c n a4 v w'→∃s:aa,∃e:Int,v= .tuple #[.slice s.a s.len s.cap, .int .i64 e]∧pR T c n w (.tuple #[.slice s.a s.len s.cap, .int .i64 e]) w':=by
   rintro v w' ⟨av,c',m,s,aA,aF,aJ,aO⟩
   have gx:=((fN.ext T c nE).trans aF).mono (j:=2) (by omega)
   rcases aO with ⟨ks,rfl,cS⟩|⟨rfl,cS⟩
   · exact ⟨s,0,rfl,av,c',m,s,aA,gx,aJ, .inl ⟨ks,rfl,cS⟩⟩
   · exact ⟨s,3,rfl,av,c',m,s,aA,gx,aJ, .inr ⟨rfl,cS⟩⟩
 refine ⟨_,rfl,fun ab=>⟨_,d0,K,d1,V,d2,D,d3,?_⟩,fun ab=>⟨_,d0,K,d1,V,d2,D,d3,?_⟩⟩
 · have ab:((cf n:Nat):Int)>232:=dU ab
   obtain ⟨aA,aF,aJ,aO⟩:=ad (by omega)
   refine (amh (h.ext nE) gV jr n6 (aD.ext nE) aj (by omega) ar aA aF aJ aO).use ?_
   rintro v w' ak
   obtain ⟨s,e,rfl,g⟩:=fin v w' ak
   exact ⟨s,e,rfl,g⟩
 · have ab:¬((cf n:Nat):Int)>232:=ff ab
   refine (ZY (h.ext nE) (by omega) (by omega) (by omega) (aD.ext nE) aj (by omega)).use ?_
   rintro v w' ak
   obtain ⟨s,e,rfl,g⟩:=fin v w' ak
   exact ⟨s,e,rfl,g⟩
end
end Go.Proofs.YtplieiecebljmaaGreat
