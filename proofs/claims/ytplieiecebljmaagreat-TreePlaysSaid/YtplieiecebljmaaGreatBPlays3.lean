/- Contracts of the functions that the statement reaches, and the plain laws over them; each theorem stands with its conditions. -/
import Derived.OpenShut
import Derived.Test.YtplieiecebljmaaGreatRows
import Derived.Test.YtplieiecebljmaaGreatBPlays2
namespace Go.Proofs.YtplieiecebljmaaGreat
open Go cd
section
def eG.s_ (D:eG) (i:Nat):List lF:=match D.waits.find? fun x=>x.i==i with
 |some x=>x.rH
 |none=> []
def eG.calm (D:eG) (k:Nat):Prop:=(D.hG.getD 1 0= -1∨(k:Int)≤D.hG.getD 1 0)∧(D.hG.getD 2 0= -1∨(k:Int)≤D.hG.getD 2 0)
theorem l5 {W V:Nat→Prop} {w w' iI:World} (U:ao W w w') (ad:ao V w' iI) (h:∀q,q<w.heap.size→V q→W q):ao W w iI:=
 ⟨ad.os.trans U.os,ad.tape.trans U.tape,ad.output.trans U.output,ju U.size ad.size,fun k ae dk=>(ad.block k (lv ae U.size) fun ak=>dk (h k ae ak)).trans (U.block k ae dk)⟩
theorem nt {D:eG} {k l:Nat} (h:D.calm k) (az:l≤k):D.calm l:=⟨h.1.imp id fun h=>by omega,h.2.imp id fun h=>by omega⟩
theorem KS {D:eG} {k m:Nat} (ae:k=1∨k=2) (aH:D.hG.length=4) (h:D.calm (m+1)):(D.jF k).calm m∧D.s9 k=false:=by
 obtain ⟨U,ad⟩:=h
 have qQ:1<D.hG.length:=by omega
 have qR:2<D.hG.length:=by omega
 rcases ae with rfl|rfl
 · have a_:(D.jF 1).hG.getD 1 0=(oN (D.hG.getD 1 0)).2:=by
     show (D.hG.set 1 _).getD 1 0=_
     rw[ot (by rw[jv];omega),uV]
   have bw:(D.jF 1).hG.getD 2 0=D.hG.getD 2 0:=by
     show (D.hG.set 1 _).getD 2 0=_
     rw[ot (by rw[jv];omega),mV (by omega),ot qR]
   unfold eG.calm eG.s9
   rw[a_,bw]
   unfold oN
   rcases U with U|U
   · rw[if_pos U]
     exact ⟨⟨.inl rfl,ad.imp id fun h=>by omega⟩,rfl⟩
   · rw[if_neg (by omega),if_neg (by omega)]
     exact ⟨⟨.inr (by show (m:Int)≤_-1;omega),ad.imp id fun h=>by omega⟩,rfl⟩
 · have a_:(D.jF 2).hG.getD 2 0=(oN (D.hG.getD 2 0)).2:=by
     show (D.hG.set 2 _).getD 2 0=_
     rw[ot (by rw[jv];omega),uV]
   have bw:(D.jF 2).hG.getD 1 0=D.hG.getD 1 0:=by
     show (D.hG.set 2 _).getD 1 0=_
     rw[ot (by rw[jv];omega),mV (by omega),ot qQ]
   unfold eG.calm eG.s9
   rw[a_,bw]
   unfold oN
   rcases ad with ad|ad
   · rw[if_pos ad]
     exact ⟨⟨U.imp id fun h=>by omega, .inl rfl⟩,rfl⟩
   · rw[if_neg (by omega),if_neg (by omega)]
     exact ⟨⟨U.imp id fun h=>by omega, .inr (by show (m:Int)≤_-1;omega)⟩,rfl⟩
theorem Zt {sz:Nat} {w:World} {s:aa} {α:Type} {c:α→List Value} {l:List α} (h:Src sz w s (cL c l)) (al:∀x∈l,(c x).length=sz) (dH:0<sz) {i:Nat} (hi:i<l.length):
   s.len=l.length∧∃A,s.a=some A∧eK w (A.add (i*sz)) 0 sz=some (c l[i]):=by
 have az:s.len=l.length:=by
   have:=h.len
   rw[ov l al] at this
   exact (Nat.eq_of_mul_eq_mul_right dH this).symm
 refine ⟨az,?_⟩
 cases aU:s.a with
 |none=>
   have:=congrArg List.length (h.nil aU)
   rw[ov l al,uW] at this
   have:l.length*sz≠0:=Nat.mul_ne_zero (by omega) (by omega)
   omega
 |some A=>
   refine ⟨A,rfl,?_⟩
   have hle:i*sz+sz≤s.len*sz:=by
     rw[az,←Nat.succ_mul]
     exact Ce _ hi
   rw[Zu (h.rd A aU) hle,Zh al hi]
def HQ:List Value:=bo (List.replicate 256 0)
def SK (D:eG) (i:Nat) (w:World) (v:Value) (w':World):Prop:=v= .agg (bo (D.now i)).toArray∧Ext w w'
theorem akz {w:World} {D:eG} (h:kl w D) {i:Nat} (hi:i<D.n) (gC:D.cX≤1000000000):
   aO Tryz.prog F.CX #[.pointer (some ⟨D.d,0,none⟩), .int .i64 ((i:Nat):Int)] w (SK D i w):=by
 have nk:=h.db
 have sq:=h.Oy hi
 refine W.akA (some ⟨D.d,0,none⟩) ((i:Nat):Int) w _ ?_
 (delta W.CX pD aA aD SL ai aq Oz;dsimp only)
 refine cx (vs:=HQ) (by kernel_rfl) fun ag ak bG _=> ?_
 have hd:=h.ext bG
 refine ⟨_,rfl,some D.j5,hd.dL,?_⟩
 have Au:HQ.length=256:=by rw[HQ,ku,G7]
 have fin:∀ (K:List Value→World→Prop),(∀bS,Ext w bS→K (bo (D.now i)) bS)→c2 ag ⟨w.heap.size,0,none⟩ (Array.toList (bo (D.now i)).toArray)∧Array.size (bo (D.now i)).toArray=256∧ay (setCells ag ⟨w.heap.size,0,none⟩ 0 (Array.toList (bo (D.now i)).toArray)) fun bS=>∃AJ:List Value,eK bS ⟨w.heap.size,0,none⟩ 0 256=some AJ∧K AJ bS:=by
   intro K bu
   refine ⟨ak.dC (by rw[JN,ku,sq,Au]) (by rw[JN];exact yk _),by simp[ku,sq],eo ak (us:=bo (D.now i)) (by rw[ku,sq,Au]) rfl fun bS Sh CF _=>⟨_,Sh.rd (by rw[ku,sq]),bu bS (Ext.fb bG CF (cR _))⟩⟩
 cases aG:D.waits.find? fun x=>x.i==i with
 |some x=>
   have af:=EM aG
   have HR:x.i=i:=by
     have:=GY aG
     exact eq_of_beq this
   have az:=hd.m.Zv HN HO (k:=(i:Int)) (v:= .slice x.s.a x.s.len x.s.cap) (oa.2 ⟨x,af,by unfold pN.e;rw[HR]⟩) false
   have c5:=(h.wn x af).1
   have hlen:0<x.rH.length:=List.length_pos_iff.2 c5
   have ajl:=(h.wn x af).2.2
   obtain ⟨gv,A,ax,c4⟩:=Zt (hd.ws x af).src (fun s aj=>by rw[ku];exact h.HP x af s aj) (by decide) (i:=x.rH.length-1) (by omega)
   have sr:D.now i=x.rH[x.rH.length-1]'(by omega):=by
     unfold eG.now
     rw[aG]
     show x.rH.getLastD []=_
     rw[List.getLastD_eq_getLast?,List.getLast?_eq_getElem?,gH (by omega)]
     rfl
   refine ⟨x.s,ag,az,fun _=>⟨A,ax,?_⟩,fun bO=> ?_⟩
   · rw[gv,cz (n:=((x.rH.length:Nat):Int)-1) (by omega) (by omega)]
     have R5:Int.toNat (((x.rH.length:Nat):Int)-1)=x.rH.length-1:=by omega
     rw[R5]
     refine ⟨⟨by omega,by omega⟩,_,c4,?_⟩
     rw[←sr]
     exact fin (fun AJ bS=>SK D i w (.agg AJ.toArray) bS) fun bS f_=>⟨rfl,f_⟩
   · have:=eW bO
     omega
 |none=>
   obtain ⟨akB,U,ad⟩:=KR Zp
   have az:=hd.m.Zw HN HO (k:=(i:Int)) U ad (fun v ak=>by
     obtain ⟨x,af,he⟩:=oa.1 ak
     have au:=r9.1 aG x af
     unfold pN.e at he
     simp only[Prod.mk.injEq] at he
     apply au
     have:x.i=i:=by omega
     rw[this];simp) false
   have fo:i<D.gp.length:=hi
   have sr:D.now i=D.gp[i]:=by
     unfold eG.now
     rw[aG]
     exact ot fo
   have mD:Src 256 ag ⟨some ⟨D.ik,0,none⟩,D.gp.length,D.gp.length⟩ (cL bo D.gp):=by
     have nR:=ov (c:=bo) (sz:=256) D.gp fun s aj=>by rw[ku];exact h.CW s aj
     have:=cr.Kh (sz:=256) (o:=0) (n:=D.gp.length) (cap:=D.gp.length) hd.l (by simp[nR])
     rw[zW,JN,g3 (by rw[nR];exact cR _)] at this
     exact this
   obtain ⟨gv,A,ax,c4⟩:=Zt mD (fun s aj=>by rw[ku];exact h.CW s aj) (by decide) fo
   refine ⟨⟨none,0,0⟩,ag,az,fun bO=>by simp at bO,fun _=>⟨_,rfl,_,hd.gk,A,ax,⟨by omega,by show (i:Int)<((D.gp.length:Nat):Int);omega⟩,_,c4,?_⟩⟩
   rw[←sr]
   exact fin (fun AJ bS=>SK D i w (.agg AJ.toArray) bS) fun bS f_=>⟨rfl,f_⟩
def akC (D:eG) (i:Nat) (w:World) (v:Value) (w':World):Prop:=
 kl w' (D.jF 1)∧ao (fun q=>q=D.d) w w'∧
   ((D.s9 1=true∧v= .tuple #[.slice none 0 0, .int .i64 3])∨
    (D.s9 1=false∧∃s:aa,v= .tuple #[.slice s.a s.len s.cap, .int .i64 0]∧bL (fun q=>w.heap.size≤q) w' s (D.now i)))
theorem akD {w:World} {D:eG} (h:kl w D) {i:Nat} (hi:i<D.n) (gC:D.cX≤1000000000):
   aO Tryz.prog F.CY #[.pointer (some ⟨D.d,0,none⟩), .int .i64 ((i:Nat):Int)] w (akC D i w):=by
 refine W.akE (some ⟨D.d,0,none⟩) ((i:Nat):Int) w _ ?_
 (delta W.CY bd aA Zx jy pD ai;dsimp only)
 refine (Zr h _).use ?_
 rintro _ _ ⟨rfl,rfl⟩
 refine ⟨_,rfl,fun ab=> ?_,fun _=>⟨_,rfl,(Zs h (k:=1) (by decide)).use ?_⟩⟩
 · have ab:¬(0≤(i:Int)∧(i:Int)<D.n):=by simpa using ab
   omega
 rintro _ aw ⟨rfl,lY,dS,u5⟩
 refine ⟨_,rfl,fun ab=>⟨lY,dS, .inl ⟨ab,rfl⟩⟩,fun ab=>(akz lY (i:=i) hi gC).use ?_⟩
 rintro _ aS ⟨rfl,eS⟩
 have sq:=h.Oy hi
 refine ⟨_,rfl,cx (vs:=HQ) (by kernel_rfl) fun bp rF fz Kx=>⟨rF.dC (by rw[JN,ku];show (D.now i).length=_;rw[sq,HQ,ku,G7]) (by rw[JN];exact yk _),by rw[List.size_toArray,ku];exact sq,eo rF (us:=bo (D.now i)) (by rw[ku,sq,HQ,ku,G7]) rfl fun bB HS lW Oh=> ?_⟩⟩
 have au_:=eS.size
 have ba:D.d<aw.heap.size:=lY.v.lt
 refine ⟨(lY.ext (eS.trans fz)).an lW (fun q J e=>by have:=lY.lt J;omega),l5 (dS.trans (ao.eT (eS.trans fz))) lW fun q J e=>by omega, .inr ⟨ab,⟨some ⟨aS.heap.size,0,none⟩,256,256⟩,rfl,?_,cR _,fun k ae=> ?_⟩⟩
 · have:=HS.ahK (o:=0) (n:=256) (c:=256) (l:=D.now i) (by rw[ku,sq];decide) (by rw[zW,g3 (by rw[ku,sq];decide)])
   exact this
 · obtain ⟨A,ax,rfl⟩:=ae
   cases ax
   have:=HS.lt
   exact ⟨by show w.heap.size≤aS.heap.size;omega,this⟩
end
section
theorem Zy:∀ (l:List Value) (k:Nat) (arr:Array Value),(l.zipIdx k).foldl (fun cs (p:Value×Nat)=>cs.setIfInBounds p.2 p.1) arr=oF arr k l
 | [],_,_=>rfl
 |v::l,k,arr=>by
   rw[List.zipIdx_cons,List.foldl_cons]
   exact Zy l (k+1) (arr.setIfInBounds k v)
theorem SM {P:Program} {T e:TypeId} {d:TypeDesc} {i:TypeInfo} {z:Value} {sz:Nat} {cs:Array Value} (w:World) (U:P.underlying T=some (.slice e)) (ad:P.underlying e=some d) (au:P.cellsOf e=sz) (hi:P.info? e=some i) (tZ:i.zero=some z) (ec:cs.size=sz) (ava:sz≠0) (hle:sz≤16777216):
   Sem.run P (Instr.buildSlice T 1 #[(0, .agg cs)]) w= .ok (.slice (some ⟨w.heap.size,0,none⟩) 1 1) (w.alloc (.cells cs e)):=by
 have bO:=qE (P:=P) (w:=w) ad
 rw[au] at bO
 have akF:Instr.fill (fun i=>some (i*sz,sz)) ((Array.range (1*sz)).map fun x=>z.cells[x%z.cells.size]!) [(0, .agg cs)]=some cs:=by
   have al:(Value.agg cs).cells=cs:=rfl
   rw[Instr.fill]
   simp only[al]
   rw[if_neg (by simp[ec]),Instr.fill]
   rw[←Array.foldl_toList,Array.toList_zipIdx]
   have e:(fun (cs:Array Value) (x:Value×Nat)=>match x with|(c,j)=>cs.setIfInBounds (0*sz+j) c)=fun cs (p:Value×Nat)=>cs.setIfInBounds p.2 p.1:=by
     funext cs x
     obtain ⟨c,j⟩:=x
     simp
   rw[e,Zy]
   congr 1
   apply Array.toList_inj.1
   rw[Af _ _ _ (by simp[ec])]
   simp[ec]
 have CZ:=C0 (w:=w) hi
 have aC:¬(1*sz>2^24):=by
   have:(2:Nat)^24=16777216:=rfl
   omega
 have Sp:¬(1*sz=0):=by omega
 have py:Instr.fill (fun i=>some (i*sz,sz)) ((Array.range (1*sz)).map fun x=>z.cells[x%z.cells.size]!) (#[(0,Value.agg cs)]:Array (Nat×Value)).toList=some cs:=akF
 simp only[Instr.buildSlice,Sem.run_bind,gj U,bO,Result.andThen,aC,Sp,if_false,zeroValue,CZ,tZ,Sem.run_pure,py]
 simp[newRow,newObj,Sem.run]
theorem Zz (w:World) (l:lF) (az:l.length=256):
   Sem.run Tryz.prog (Instr.buildSlice ah.uf 1 #[(0, .agg (bo l).toArray)]) w= .ok (.slice (some ⟨w.heap.size,0,none⟩) 1 1) (w.alloc (.cells (bo l).toArray ah.oM)):=by
 have h:((Tryz.prog.info? ah.oM).bind (·.zero)).isSome=true:=by kernel_rfl
 obtain ⟨z,bO⟩:=Cf.1 h
 obtain ⟨i,hi,tZ⟩:=KR bO
 exact SM (d:= .array 256 ah.uint8) (sz:=256) w (by kernel_rfl) (by kernel_rfl) (by kernel_rfl) hi tZ (by rw[List.size_toArray,ku,az]) (by decide) (by decide)
theorem akG:p9 Tryz.prog ah.uf ah.oM 256 256:=⟨by kernel_rfl⟩
def eG.put (D:eG) (i:Nat) (s:aa) (l:lF):eG:=
 {D.jF 2 with waits:=⟨i,s,D.s_ i++ [l]⟩::D.waits.filter (fun x=>x.i !=i),writes:=IntKind.wrap .i64 (D.writes+1),cX:=D.cX+1}
theorem akH {D:eG} {i j:Nat} (h:j≠i):(D.waits.filter fun x=>x.i !=i).find? (fun x=>x.i==j)=D.waits.find? fun x=>x.i==j:=by
 rw[List.find?_filter]
 congr 1
 funext x
 by_cases e:x.i=j
 · rw[e];simp[h]
 · simp[e]
theorem ZA (D:eG) (i:Nat) (s:aa) (l:lF) (j:Nat):(D.put i s l).now j=if j=i then l else D.now j:=by
 unfold eG.now eG.put
 by_cases h:j=i
 · subst h
   simp
 · rw[if_neg h]
   simp only
   rw[List.find?_cons_of_neg (by simp;omega),akH h]
   rfl
def ZB (D:eG) (i:Nat) (l:lF) (w:World) (v:Value) (w':World):Prop:=
 (D.s9 2=true∧v= .int .i64 3∧kl w' (D.jF 2)∧ao (fun q=>q=D.d) w w')∨
 (D.s9 2=false∧v= .int .i64 0∧∃s:aa,kl w' (D.put i s l)∧ao (nr D) w w'∧∀q,aQ s q→nr D q∨w.heap.size≤q)
theorem akI {w:World} {D:eG} {b:aa} {l:lF} (h:kl w D) {i:Nat} (hi:i<D.n) (gC:D.cX≤1000000000) (ab:Src 1 w b (bo l)) (az:l.length=256) (hd:∀q,aQ b q→¬nr D q):
   aO Tryz.prog F.C1 #[.pointer (some ⟨D.d,0,none⟩), .int .i64 ((i:Nat):Int), .slice b.a b.len b.cap] w (ZB D i l w):=by
 have wE:=len8 ab
 have nk:=h.db
 refine W.akJ (some ⟨D.d,0,none⟩) ((i:Nat):Int) b w _ ?_
 (delta W.C1 bd aA SN bK st aD;dsimp only)
 refine (Zr h _).use ?_
 rintro _ _ ⟨rfl,rfl⟩
 have fp:decide (0≤(i:Int)∧(i:Int)<D.n)=true:=iB ⟨by omega,by omega⟩
 refine ⟨_,rfl,fun U=> ?_,fun _=>⟨_,rfl,(Zs h (k:=2) (by decide)).use ?_⟩⟩
 · rw[fp,wE,az] at U
   simp at U
 rintro _ aw ⟨rfl,lY,dS,u5⟩
 refine ⟨_,rfl,fun nq=> .inl ⟨nq,rfl,lY,dS⟩,fun nq=>bN ?_⟩
 obtain ⟨iV,hold⟩:∃iV:aa,(match D.waits.find? fun x=>x.i==i with|some x=>x.s|none=>⟨none,0,0⟩)=iV:=⟨_,rfl⟩
 have ss:=lY.ext (dT aw)
 have HG:Src 1 aw.drew b (bo l):=(ab.an dS fun q J e=>hd q J (.inl e)).ext (dT aw)
 have wQ:b3 256 ah.oM aw.drew iV (cL bo (D.s_ i))∧(∀q,aQ iV q→nr D q∧q≠D.d∧q≠D.ik∧q≠D.j5)∧(∀x∈D.waits,x.i≠i→∀q,aQ x.s q→¬aQ iV q)∧(D.s_ i).length≤D.cX∧(∀s∈D.s_ i,s.length=256)∧
     ∀w':World,kB w' D.j5 encZ (D.waits.map pN.e)→Sem.run Tryz.prog (Instr.lookup ah.AF (.map (some D.j5)) (.int .i64 ((i:Nat):Int)) false) w'= .ok (.slice iV.a iV.len iV.cap) w':=by
   cases aG:D.waits.find? fun x=>x.i==i with
   |some x=>
     rw[aG] at hold
     have hold:x.s=iV:=hold
     subst hold
     have af:=EM aG
     have HR:x.i=i:=by
       have:=GY aG
       exact eq_of_beq this
     have e:D.s_ i=x.rH:=by unfold eG.s_;rw[aG]
     rw[e]
     refine ⟨ss.ws x af,fun q J=>⟨.inr (.inr (.inr ⟨x,af,J⟩)),fun e=>(h.cW x af).1 (e▸J),fun e=>(h.cW x af).2.1 (e▸J),fun e=>(h.cW x af).2.2 (e▸J)⟩,fun y b8 c5=>h.a3 y b8 x af (by omega),(h.wn x af).2.2,h.HP x af,fun w' hm=>hm.Zv HN HO (k:=(i:Int)) (v:= .slice x.s.a x.s.len x.s.cap) (oa.2 ⟨x,af,by unfold pN.e;rw[HR]⟩) false⟩
   |none=>
     rw[aG] at hold
     have hold:(⟨none,0,0⟩:aa)=iV:=hold
     subst hold
     have e:D.s_ i=[]:=by unfold eG.s_;rw[aG]
     rw[e]
     obtain ⟨akB,U,ad⟩:=KR Zp
     refine ⟨b3.none _ _ _,fun q J=>(qF q J).elim,fun x _ _ q _ J=>(qF q J).elim,fm _,fun s aj=>(by cases aj),fun w' hm=>hm.Zw HN HO (k:=(i:Int)) U ad (fun v ak=> ?_) false⟩
     obtain ⟨x,af,he⟩:=oa.1 ak
     have au:=r9.1 aG x af
     unfold pN.e at he
     simp only[Prod.mk.injEq] at he
     apply au
     have:x.i=i:=by omega
     rw[this];simp
 obtain ⟨bE,yY,ZC,avb,OA,ZD⟩:=wQ
 obtain ⟨A,ax,c4⟩:∃A,b.a=some A∧eK aw.drew A 0 256=some (bo l):=by
   cases aU:b.a with
   |none=>
     have:=congrArg List.length (ab.nil aU)
     rw[ku,az] at this
     cases this
   |some A=>
     refine ⟨A,rfl,?_⟩
     have:=HG.rd A aU
     rwa[wE,az] at this
 have akK:¬aQ iV A.block:=fun J=>hd _ ⟨A,ax,rfl⟩ (yY _ J).1
 have ZE:∀bp:World,Ext aw.drew bp→∃ (ar:aa) (bB:World),Sem.run Tryz.prog (Builtin.append_ #[ah.uf,ah.uf] ah.uf #[.slice iV.a iV.len iV.cap, .slice (some ⟨bp.heap.size,0,none⟩) 1 1]) (bp.alloc (.cells (bo l).toArray ah.oM))= .ok (.slice ar.a ar.len ar.cap) bB∧
     b3 256 ah.oM bB ar (cL bo (D.s_ i++ [l]))∧ao (aQ iV) bp bB∧(∀k,aQ ar k→aQ iV k∨bp.heap.size≤k)∧ao (aQ iV) (bp.alloc (.cells (bo l).toArray ah.oM)) bB:=by
   intro bp fz
   have hlen:iV.len=(D.s_ i).length:=by
     have:=bE.1
     rw[ov (c:=bo) (sz:=256) _ fun s aj=>by rw[ku];exact OA s aj] at this
     omega
   have ly:=iP bp (.cells (bo l).toArray ah.oM)
   obtain ⟨ar,bB,aB,aF,aJ,aM,cU⟩:=akG.append (ey:=ah.uf) (x:=⟨some ⟨bp.heap.size,0,none⟩,1,1⟩) (Src.new (T:=ah.oM) bp (bo l) 1 (by rw[ku,az])) (bE.ext (fz.trans ly)) (yk l) (by rw[hlen];show (2*(_+1)+1000)*256≤_;omega)
   refine ⟨ar,bB,aB,?_,(ao.eT ly).trans aM,fun k ae=>(cU k ae).imp id fun h=> ?_,aM⟩
   · rw[yX]
     have:cL bo [l]=bo l:=by simp[cL]
     rw[this];exact aF
   · have:=ly.size;omega
 have OB:∀ (bB:World) (ar:aa),kB bB D.j5 encZ (D.waits.map pN.e)→∃bf:World,Sem.run Tryz.prog (Instr.mapUpdate ah.AF (.map (some D.j5)) (.int .i64 ((i:Nat):Int)) (.slice ar.a ar.len ar.cap)) bB= .ok () bf∧ao (fun q=>q=D.j5) bB bf∧
     kB bf D.j5 encZ ((pN.mk i ar (D.s_ i++ [l])::D.waits.filter fun x=>x.i !=i).map pN.e):=by
   intro bB ar hm
   have SO:=hm.keys
   rw[EP] at SO
   cases aG:D.waits.find? fun x=>x.i==i with
   |some x=>
     have af:=EM aG
     have HR:x.i=i:=by
       have:=GY aG
       exact eq_of_beq this
     obtain ⟨bU,cj,he⟩:=List.append_of_mem af
     have c5:∀y∈bU++cj,y.i≠i:=by
       intro y b8 e
       rw[he,oc,tK] at SO
       have U:=(Cd.nodup_iff).1 SO
       rw[List.nodup_cons] at U
       apply U.1
       rw[←oc]
       refine oa.2 ⟨y,b8,?_⟩
       show ((y.i:Nat):Int)=((x.i:Nat):Int)
       omega
     have nR:D.waits.filter (fun x=>x.i !=i)=bU++cj:=by
       rw[he,Ca,List.filter_cons_of_neg (by simp[HR])]
       rw[uS.2 fun y b8=>by have:=c5 y (tI _ b8);simpa using this,uS.2 fun y b8=>by have:=c5 y (p4 _ b8);simpa using this]
     have aW:(D.waits.map pN.e).Perm (((i:Int), .slice x.s.a x.s.len x.s.cap)::(bU++cj).map pN.e):=by
       rw[he,oc,tK,oc]
       have:x.e=((i:Int), .slice x.s.a x.s.len x.s.cap):=by unfold pN.e;rw[HR]
       rw[this]
       exact Cd
     obtain ⟨bf,aB,aF,_,aJ⟩:=akr HN HO (hm.perm aW) (.slice ar.a ar.len ar.cap)
     refine ⟨bf,aB,aF,?_⟩
     rw[nR]
     exact aJ
   |none=>
     have c5:∀y∈D.waits,y.i≠i:=fun y b8 e=>by
       have:=r9.1 aG y b8
       rw[e] at this;simp at this
     have nR:D.waits.filter (fun x=>x.i !=i)=D.waits:=uS.2 fun y b8=>by simpa using c5 y b8
     obtain ⟨bf,aB,aF,_,aJ⟩:=akq HN HO (k:=(i:Int)) hm (fun v ak=>by
       obtain ⟨x,af,he⟩:=oa.1 ak
       unfold pN.e at he
       simp only[Prod.mk.injEq] at he
       exact c5 x af (by omega)) (.slice ar.a ar.len ar.cap)
     refine ⟨bf,aB,aF,?_⟩
     rw[nR]
     exact aJ
 have fin:∀ (bB bf:World) (ar:aa),ao (aQ iV) aw.drew bB→b3 256 ah.oM bB ar (cL bo (D.s_ i++ [l]))→(∀k,aQ ar k→aQ iV k∨aw.drew.heap.size≤k)→ao (fun q=>q=D.j5) bB bf→kB bf D.j5 encZ ((pN.mk i ar (D.s_ i++ [l])::D.waits.filter fun x=>x.i !=i).map pN.e)→
     ∃a23:Addr,(some ⟨D.d,0,none⟩:Option Addr)=some a23∧∃n24:Int,bf.cell? (a23.add 6)=some (.int .i64 n24)∧∃a25:Addr,(some ⟨D.d,0,none⟩:Option Addr)=some a25∧(∃u:Value,bf.cell? (a25.add 6)=some u)∧bf.frozen? (a25.add 6)=false∧ay (bf.setCell (a25.add 6) (.int .i64 (IntKind.wrap .i64 (n24+1)))) fun cu=>ZB D i l w (.int .i64 0) cu:=by
   intro bB bf ar lW N1 gf qK lB
   have HS:=ss.v.an lW fun J=>(yY _ J).2.1 rfl
   have SP:Var bf D.d (D.jF 2).c ah.Ox:=HS.an qK h.bc.2.1
   have hlen:(D.jF 2).c.length=7:=lY.SJ
   obtain ⟨s1,s2⟩:=jk SP (i:=6) (by rw[hlen];decide)
   have fD:bf.cell? (Addr.add ⟨D.d,0,none⟩ 6)=some (.int .i64 D.writes):=by
     rw[aX,gy,SP.cell]
     unfold eG.c
     have:=lY.f4
     rw[wx (by rw[mj];omega),mj,this];rfl
   rw[aX,gy] at fD
   refine ⟨_,rfl,D.writes,by rw[aX,gy];exact fD,_,rfl,by rw[aX,gy];exact s1,by rw[aX,gy];exact s2,?_⟩
   rw[aX,gy]
   have qP:=il bf D.d 6 (.int .i64 (IntKind.wrap .i64 (D.writes+1)))
   have Kp:=jj SP (i:=6) (.int .i64 (IntKind.wrap .i64 (D.writes+1)))
   have qe:(D.jF 2).c.set 6 (.int .i64 (IntKind.wrap .i64 (D.writes+1)))=(D.put i ar l).c:=by
     have aH:=lY.f4
     have a_:(D.put i ar l).c=(D.jF 2).hG.map (.int .i64)++ [.slice (some ⟨D.ik,0,none⟩) D.gp.length D.gp.length, .map (some D.j5), .int .i64 (IntKind.wrap .i64 (D.writes+1))]:=rfl
     have bw:(D.jF 2).c=(D.jF 2).hG.map (.int .i64)++ [.slice (some ⟨D.ik,0,none⟩) D.gp.length D.gp.length, .map (some D.j5), .int .i64 D.writes]:=rfl
     rw[a_,bw,List.set_append_right _ _ (by rw[mj];omega),mj,aH]
     rfl
   rw[qe] at Kp
   have C2:ao (fun q=>q=D.j5∨q=D.d) bB (bf.setCell ⟨D.d,6,none⟩ (.int .i64 (IntKind.wrap .i64 (D.writes+1)))):=(qK.mono fun q _ e=> .inl e).trans (qP.mono fun q _ e=> .inr e)
   have rI:∀q,aQ ar q→q≠D.d∧q≠D.ik∧q≠D.j5:=fun q J=>by
     have avc:=ss.lt (q:=D.d) (.inl rfl)
     have avd:=ss.lt (q:=D.ik) (.inr (.inl rfl))
     have ave:=ss.lt (q:=D.j5) (.inr (.inr (.inl rfl)))
     rcases gf q J with U|U
     · exact (yY q U).2
     · exact ⟨by omega,by omega,by omega⟩
   have qW:∀x∈D.waits.filter (fun x=>x.i !=i),x∈D.waits∧x.i≠i:=fun x af=>by
     obtain ⟨U,ad⟩:=GX.1 af
     exact ⟨U,by simpa using ad⟩
   refine bN (.inr ⟨nq,rfl,ar,⟨Kp,?_,?_,?_,?_,h.CW,?_,h.dt,h.db,lY.f4,lY.fr,h.bc,?_,?_⟩,?_,?_⟩)
   · exact cr.an (cr.an ss.l lW fun J=>(yY _ J).2.2.1 rfl) C2 (by
       rintro (e|e)
       · exact h.bc.2.2 e
       · exact h.bc.1 e.symm)
   · exact lB.an qP (fun e=>h.bc.2.1 e.symm)
   · intro x af
     rcases fZ.1 af with rfl|af
     · exact N1.an C2 fun q J=>by
         rintro (e|e)
         · exact (rI q J).2.2 e
         · exact (rI q J).1 e
     · obtain ⟨U,ad⟩:=qW x af
       refine ((ss.ws x U).an lW fun q J=>ZC x U ad q J).an C2 fun q J=> ?_
       rintro (e|e)
       · exact (h.cW x U).2.2 (e▸J)
       · exact (h.cW x U).1 (e▸J)
   · intro x af
     rcases fZ.1 af with rfl|af
     · refine ⟨by simp,hi,?_⟩
       show (D.s_ i++ [l]).length≤D.cX+1
       rw[dO,rm];omega
     · obtain ⟨U,ad⟩:=qW x af
       have:=h.wn x U
       exact ⟨this.1,this.2.1,Nat.le_succ_of_le this.2.2⟩
   · intro x af
     rcases fZ.1 af with rfl|af
     · intro s aj
       rcases fa.1 aj with aj|aj
       · exact OA s aj
       · rw[lR.1 aj];exact az
     · exact h.HP x (qW x af).1
   · intro x af
     rcases fZ.1 af with rfl|af
     · exact ⟨fun J=>(rI _ J).1 rfl,fun J=>(rI _ J).2.1 rfl,fun J=>(rI _ J).2.2 rfl⟩
     · exact h.cW x (qW x af).1
   · have lz:∀y∈D.waits,y.i≠i→∀q,aQ y.s q→¬aQ ar q:=fun y b8 c5 q J hT=>by
       rcases gf q hT with U|U
       · exact ZC y b8 c5 q J U
       · have:=(ss.ws y b8).lt q J;omega
     intro x af y b8 c5 q J hT
     rcases fZ.1 af with rfl|af
     · rcases fZ.1 b8 with rfl|b8
       · exact c5 rfl
       · exact lz y (qW y b8).1 (fun e=>c5 e.symm) q hT J
     · rcases fZ.1 b8 with rfl|b8
       · exact lz x (qW x af).1 c5 q J hT
       · exact h.a3 x (qW x af).1 y (qW y b8).1 c5 q J hT
   · refine ((dS.mono fun q _ e=> .inl e).trans ((ao.eT (dT aw)).trans (lW.mono fun q _ J=>(yY q J).1))).trans (C2.mono fun q _ J=> ?_)
     rcases J with e|e
     · exact .inr (.inr (.inl e))
     · exact .inl e
   · intro q J
     rcases gf q J with U|U
     · exact .inl (yY q U).1
     · have:aw.drew.heap.size=aw.heap.size:=rfl
       exact .inr (by omega)
 refine ⟨aQ iV,_,rfl,fun J=>(yY _ J).2.1 rfl,some D.j5,ss.dL,_,rfl,fun J=>(yY _ J).2.1 rfl,some D.j5,ss.dL,by omega,A,ax,akK,_,c4,⟨?_,?_⟩⟩
 · obtain ⟨ar,bB,aB,aF,aJ,aM,cU⟩:=ZE aw.drew (.refl _ _)
   have vq:=ss.m.an aJ fun J=>(yY _ J).2.2.2 rfl
   obtain ⟨bf,a_,bw,ek⟩:=OB bB ar vq
   exact ⟨iV,_,ZD _ ss.m, .refl _ _,⟨some ⟨aw.drew.heap.size,0,none⟩,1,1⟩,_,Zz _ l az,ao.eT (iP _ _),ar,bB,aB,cU,bf,a_,fin bB bf ar aJ aF aM bw ek⟩
 · obtain ⟨ar,bB,aB,aF,aJ,aM,cU⟩:=ZE aw.drew (.refl _ _)
   have wV:=ss.m.ext (iP aw.drew (.cells (bo l).toArray ah.oM))
   have vq:=ss.m.an aJ fun J=>(yY _ J).2.2.2 rfl
   obtain ⟨bf,a_,bw,ek⟩:=OB bB ar vq
   exact ⟨⟨some ⟨aw.drew.heap.size,0,none⟩,1,1⟩,_,Zz _ l az,ao.eT (iP _ _),iV,_,ZD _ wV, .refl _ _,ar,bB,aB,cU,bf,a_,fin bB bf ar aJ aF aM bw ek⟩
end
section
theorem akL {P:Program} {e:TypeId} {v:Value} {sz:Nat} (bO:((P.info? e).bind (·.zero)).map (·.cells)=some (List.replicate sz v).toArray) (al:P.cellsOf e=sz) (aj:0<sz) (n:Nat):pC P e n=(List.replicate (n*sz) v).toArray:=by
 unfold pC
 rw[al]
 cases hi:(P.info? e).bind (·.zero) with
 |none=>rw[hi] at bO;cases bO
 |some z=>
   rw[hi] at bO
   simp only[yf,Option.some.injEq] at bO
   simp only[Option.getD_some]
   apply Array.ext
   · simp
   · intro i U ad
     have aC:n*sz≠0:=by
       intro h
       simp[h] at ad
     simp only[aC,if_false,bO,Array.getElem_map,Array.getElem_range]
     have ba:i%sz<sz:=sT _ aj
     simp[ba]
theorem akM (m n:Nat):cL bo (List.replicate n (List.replicate m 0))=List.replicate (n*m) (.int .u8 0):=by
 induction n with
 |zero=>simp[cL]
 |succ n dr=>
   rw[List.replicate_succ,HL,dr,wv,Nat.one_mul,Nat.add_comm]
   have e:bo (List.replicate m 0)=List.replicate m (Value.int .u8 0):=by simp[bo]
   rw[e,List.replicate_append_replicate]
def yZ:lF:=List.replicate 256 0
theorem akN (n:Nat):pC Tryz.prog ah.oM n=(cL bo (List.replicate n yZ)).toArray:=by
 unfold yZ
 rw[akM]
 exact akL (by kernel_rfl) (by kernel_rfl) (by decide) n
def vB (n d ik j5:Nat):eG:=⟨d,ik,j5,[-1, -1, -1, -1],List.replicate n yZ,[],0,0⟩
theorem akO {w:World} {b:Nat} {vs:List Value} {T:TypeId} (h:Var w b vs T) (az:4≤vs.length):
   aO Tryz.prog F.C3 #[.pointer (some ⟨b,0,none⟩)] w (fun v w'=>v= .tuple #[]∧Var w' b (List.replicate 4 (.int .i64 (-1))++vs.drop 4) T∧ao (fun q=>q=b) w w'∧w'.heap.size=w.heap.size):=by
 refine W.akP (some ⟨b,0,none⟩) w _ ?_
 (delta W.C3 aA st aD;dsimp only)
 refine ⟨fun i w'=>∃j:Nat,i=j∧j≤4∧Var w' b (List.replicate j (.int .i64 (-1))++vs.drop j) T∧ao (fun q=>q=b) w w'∧w'.heap.size=w.heap.size,fun i _=>((4:Int)-i).toNat,⟨0,rfl,by omega,h, .refl _ _,rfl⟩,?_⟩
 rintro _ ag ⟨j,rfl,a8,ak,al,bO⟩
 refine ⟨fun ba=> ?_,fun ck=> ?_⟩
 · have ba:j<4:=by have:=dG ba;omega
   have aU:Addr.add ⟨b,0,none⟩ (Int.toNat ((j:Nat):Int)*1)=⟨b,j,none⟩:=by rw[g9,mi,aX,gy]
   obtain ⟨s1,s2⟩:=jk ak (i:=j) (by simp;omega)
   rw[cz (n:=(j:Int)+1) (by omega) (by omega)]
   refine ⟨_,rfl,⟨by omega,by show (j:Int)<4;omega⟩,by rw[aU];exact s1,by rw[aU];exact s2,bN ⟨⟨j+1,by omega,by omega,?_,?_,?_⟩,?_⟩⟩
   · have:=jj ak (i:=j) (.int .i64 (-1))
     rw[aU]
     have e:(List.replicate j (Value.int .i64 (-1))++vs.drop j).set j (.int .i64 (-1))=List.replicate (j+1) (.int .i64 (-1))++vs.drop (j+1):=by
       rw[List.set_append_right _ _ (by simp),G7,EO,tJ (show j<vs.length by omega),List.set_cons_zero,List.replicate_succ',eI]
       rfl
     rwa[e] at this
   · rw[aU];exact al.trans (il _ _ _ _)
   · rw[aU];simpa[World.setCell] using bO
   · show ((4:Int)-((j:Int)+1)).toNat<((4:Int)-(j:Int)).toNat
     omega
 · have ck:j=4:=by have:=eW ck;omega
   subst ck
   exact ⟨rfl,ak,al,bO⟩
theorem y0 {n:Nat} (U:16≤n) (ad:n≤1600) (w:World):
   aO Tryz.prog F.y0 #[.int .i64 ((n:Nat):Int)] w (fun v w'=>∃d ik j5:Nat,v= .tuple #[.pointer (some ⟨d,0,none⟩), .int .i64 0]∧kl w' (vB n d ik j5)∧Ext w w'∧∀q,nr (vB n d ik j5) q→w.heap.size≤q):=by
 refine W.akQ ((n:Nat):Int) w _ ?_
 (delta W.y0 aA yo gk ai bA;dsimp only)
 refine ⟨fun h=> ?_,fun _=>⟨⟨by omega,by omega,by omega,by omega⟩,?_⟩⟩
 · simp only[wu,fx] at h;omega
 rw[akN,g9]
 have nq:=cr.new w (cL bo (List.replicate n yZ)).toArray ah.oM
 have bG:=iP w (.cells (cL bo (List.replicate n yZ)).toArray ah.oM)
 have nH:=J2 w (.cells (cL bo (List.replicate n yZ)).toArray ah.oM)
 obtain ⟨ag,xn⟩:∃ag,ag=w.alloc (.cells (cL bo (List.replicate n yZ)).toArray ah.oM):=⟨_,rfl⟩
 rw[←xn] at nq bG nH⊢
 obtain ⟨aB,aF⟩:=kB.make (P:=Tryz.prog) (enc:=encZ) ah.AF ag
 have cB:=iP ag (.map #[] 0)
 have u5:=J2 ag (.map #[] 0)
 obtain ⟨aw,tS⟩:∃aw,aw=ag.alloc (.map #[] 0):=⟨_,rfl⟩
 rw[←tS] at aB aF cB u5
 refine bN ⟨some ag.heap.size,aw,aB, #[.int .i64 0, .int .i64 0, .int .i64 0, .int .i64 0, .slice (some ⟨w.heap.size,0,none⟩) n n, .map (some ag.heap.size), .int .i64 0],by kernel_rfl,cx (vs:=[.int .i64 0, .int .i64 0, .int .i64 0, .int .i64 0, .slice (some ⟨w.heap.size,0,none⟩) n n, .map (some ag.heap.size), .int .i64 0]) rfl fun aS lZ eS CM=>⟨_,rfl,(akO lZ (by show 4≤7;decide)).use ?_⟩⟩
 rintro _ bp ⟨rfl,rF,yv,Kx⟩
 refine ⟨rfl,aw.heap.size,w.heap.size,ag.heap.size,rfl,⟨?_,?_,?_,fun x af=>(by cases af),fun x af=>(by cases af),fun s aj=> ?_,fun x af=>(by cases af),?_,?_,rfl,fun x af=> ?_,?_,fun x af=>(by cases af),fun x af=>(by cases af)⟩,Ext.fb (bG.trans (cB.trans eS)) yv (by omega),?_⟩
 · have e:(vB n aw.heap.size w.heap.size ag.heap.size).c=List.replicate 4 (.int .i64 (-1))++ [Value.int .i64 0, .int .i64 0, .int .i64 0, .int .i64 0, .slice (some ⟨w.heap.size,0,none⟩) n n, .map (some ag.heap.size), .int .i64 0].drop 4:=by
     unfold eG.c vB
     simp
   rw[e];exact rF
 · exact cr.an ((nq.ext cB).ext eS) yv (by show¬w.heap.size=aw.heap.size;omega)
 · exact (aF.ext eS).an yv (by omega)
 · rw[Ro aj,yZ,G7]
 · show 16≤(List.replicate n yZ).length;simpa using U
 · show (List.replicate n yZ).length≤1600;simpa using ad
 · have:x= -1:=by
     simp[vB] at af;exact af
   subst this;exact ⟨by decide,by decide⟩
 · exact ⟨by show aw.heap.size≠w.heap.size;omega,by show aw.heap.size≠ag.heap.size;omega,by show w.heap.size≠ag.heap.size;omega⟩
 · rintro q (rfl|rfl|rfl|⟨x,af,_⟩)
   · show w.heap.size≤aw.heap.size;omega
   · exact cR _
   · show w.heap.size≤ag.heap.size;omega
   · cases af
end
section
structure Fr where
 full:Bool
 xo:Bool
 used:Bool
 no:Int
 pins:Int
 b:aa
 l:lF
def Fr.c (f:Fr):List Value:=[.bool f.full, .bool f.xo, .bool f.used, .int .i64 f.no, .int .i64 f.pins, .slice f.b.a f.b.len f.b.cap]
def hW:Fr:=⟨false,false,false,0,0,⟨none,0,0⟩,[]⟩
structure eY where
 c:Nat
 b4:Nat
 aE:List Fr
 hand:Nat
 D:eG
def jG (C:eY) (q:Nat):Prop:=q=C.c∨q=C.b4∨nr C.D q
structure l6 (w:World) (C:eY):Prop where
 v:Var w C.c [.pointer (some ⟨C.D.d,0,none⟩), .slice (some ⟨C.b4,0,none⟩) C.aE.length C.aE.length, .int .i64 C.hand] ah.ZF
 f:cr w C.b4 (cL Fr.c C.aE).toArray ah.rJ
 dev:kl w C.D
 dB:8≤C.aE.length
 dZ:C.aE.length≤64
 hd:C.hand<C.aE.length
 bc:C.c≠C.b4∧¬nr C.D C.c∧¬nr C.D C.b4
structure ZG (X:Nat→Prop) (w:World) (C:eY) (f:Fr) (no:Nat):Prop where
 num:f.no=no
 lt:no<C.D.n
 avf:bL (fun q=>¬jG C q∧¬X q) w f.b f.l
 len:f.l.length=256
 clean:f.xo=false→f.l=C.D.now no
structure qX (X:Nat→Prop) (w:World) (C:eY):Prop where
 pins:∀f∈C.aE,f.pins=0
 ok:∀f∈C.aE,f.full=true→∃no:Nat,ZG X w C f no
 un:∀ (i j:Nat) (hi:i<C.aE.length) (a8:j<C.aE.length),(C.aE[i]).full=true→(C.aE[j]).full=true→(C.aE[i]).no=(C.aE[j]).no→i=j
 nu:∀q,X q→q<w.heap.size∧¬jG C q
structure mZ (X:Nat→Prop) (w:World) (C:eY):Prop where
 raw:l6 w C
 inv:qX X w C
def eY.view (C:eY) (no:Nat):lF:=match C.aE.find? fun f=>f.full&&f.no==(no:Int) with
 |some f=>f.l
 |none=>C.D.now no
theorem Fr.SQ (f:Fr):f.c.length=6:=rfl
theorem OC (l:List Fr):∀x∈l,(Fr.c x).length=6:=fun x _=>rfl
section
variable {w w':World} {C:eY} {X:Nat→Prop}
theorem l6.lt (h:l6 w C) {q:Nat} (J:jG C q):q<w.heap.size:=by
 rcases J with rfl|rfl|J
 · exact h.v.lt
 · exact cr.lt h.f
 · exact h.dev.lt J
theorem l6.an {W:Nat→Prop} (h:l6 w C) (al:ao W w w') (aC:∀q,jG C q→¬W q):l6 w' C:=
 ⟨h.v.an al (aC _ (.inl rfl)),cr.an h.f al (aC _ (.inr (.inl rfl))),h.dev.an al fun q J=>aC q (.inr (.inr J)),h.dB,h.dZ,h.hd,h.bc⟩
theorem l6.ext (h:l6 w C) (al:Ext w w'):l6 w' C:=h.an al fun _ _ h=>h
theorem qX.an {W:Nat→Prop} (h:qX X w C) (al:ao W w w') (aC:∀q,W q→jG C q∨X q):qX X w' C:=
 ⟨h.pins,fun f aG l7=>by
   obtain ⟨no,aB,aF,aJ,aM,cU⟩:=h.ok f aG l7
   exact ⟨no,aB,aF,bL.an aJ al fun q J hw=>by
     rcases aC q hw with U|U
     · exact J.1 U
     · exact J.2 U,aM,cU⟩,h.un,fun q J=>⟨lv (h.nu q J).1 al.size,(h.nu q J).2⟩⟩
theorem mZ.an {W:Nat→Prop} (h:mZ X w C) (al:ao W w w') (aC:∀q,W q→X q):mZ X w' C:=
 ⟨h.raw.an al fun q J hw=>(h.inv.nu q (aC q hw)).2 J,h.inv.an al fun q hw=> .inr (aC q hw)⟩
theorem mZ.ext (h:mZ X w C) (al:Ext w w'):mZ X w' C:=h.an al fun _ h=>h.elim
theorem OD (b4 i:Nat):Addr.add ⟨b4,0,none⟩ (Int.toNat ((i:Nat):Int)*6)=⟨b4,i*6,none⟩:=by rw[g9,aX,gy]
theorem l6.cells (h:l6 w C):w.cell? ⟨C.c,0,none⟩=some (.pointer (some ⟨C.D.d,0,none⟩))∧w.cell? (Addr.add ⟨C.c,0,none⟩ 1)=some (.slice (some ⟨C.b4,0,none⟩) C.aE.length C.aE.length)∧w.cell? (Addr.add ⟨C.c,0,none⟩ 2)=some (.int .i64 C.hand):=by
 rw[aX,aX]
 exact ⟨h.v.cell,h.v.cell,h.v.cell⟩
theorem xp {w:World} {b4:Nat} {fs:List Fr} {T:TypeId} (h:cr w b4 (cL Fr.c fs).toArray T) {i j:Nat} (hi:i<fs.length) (a8:j<6):w.cell? ⟨b4,i*6+j,none⟩=((fs[i]).c)[j]? :=by
 rw[cr.cell h]
 simp only[Nm]
 exact KQ (OC fs) hi a8
theorem FB {w:World} {b4:Nat} {fs:List Fr} {T:TypeId} (h:cr w b4 (cL Fr.c fs).toArray T) {i j:Nat} (hi:i<fs.length) (a8:j<6) {v:Value} (hJ:Fr) (aG:hJ.c=(fs[i]).c.set j v):
   (∃u:Value,w.cell? ⟨b4,i*6+j,none⟩=some u)∧w.frozen? ⟨b4,i*6+j,none⟩=false∧cr (w.setCell ⟨b4,i*6+j,none⟩ v) b4 (cL Fr.c (fs.set i hJ)).toArray T∧ao (fun q=>q=b4) w (w.setCell ⟨b4,i*6+j,none⟩ v):=by
 refine ⟨⟨((fs[i]).c)[j]'(by rw[Fr.SQ];exact a8),by rw[xp h hi a8,gH (by rw[Fr.SQ];exact a8)]⟩,cr.frozen h _ rfl,?_,il _ _ _ _⟩
 have:=jj (vs:=cL Fr.c fs) h (i:=i*6+j) v
 rw[akp (OC fs) hi a8 aG] at this
 exact this
theorem SR {w:World} {b4:Nat} {fs:List Fr} {T:TypeId} (h:cr w b4 (cL Fr.c fs).toArray T) {i:Nat} (hi:i<fs.length) (hJ:Fr):
   c2 w ⟨b4,i*6,none⟩ hJ.c∧cr (setCells w ⟨b4,i*6,none⟩ 0 hJ.c) b4 (cL Fr.c (fs.set i hJ)).toArray T∧ao (fun q=>q=b4) w (setCells w ⟨b4,i*6,none⟩ 0 hJ.c):=by
 have az:=ov (c:=Fr.c) fs (OC fs)
 have hle:i*6+hJ.c.length≤(cL Fr.c fs).toArray.size:=by
   rw[List.size_toArray,az,Fr.SQ];omega
 refine ⟨cr.dC h _ _ hle ?_,?_,ao.Aa (.refl _ _) _ 0⟩
 · intro v ak
   unfold Fr.c at ak
   simp only[fZ,mT,mU] at ak
   rcases ak with rfl|rfl|rfl|rfl|rfl|rfl<;>trivial
 · have b7:=cr.Cu (o:=i*6) h hJ.c
   have e:oF (cL Fr.c fs).toArray (i*6) hJ.c=(cL Fr.c (fs.set i hJ)).toArray:=by
     have U:=Af hJ.c (cL Fr.c fs).toArray (i*6) hle
     have ad:=ako (OC fs) hi hJ
     have au:hJ.c.length=6:=rfl
     rw[au] at U
     have aH:(oF (cL Fr.c fs).toArray (i*6) hJ.c).toList=cL Fr.c (fs.set i hJ):=U.trans ad
     rw[←aH]
   rw[e] at b7
   exact b7
theorem ZH (h:l6 w C) (no:Int):aO Tryz.prog F.AK #[.pointer (some ⟨C.c,0,none⟩), .int .i64 no] w (fun v w'=>v= .bool (decide (0≤no∧no<C.D.n))∧w=w'):=by
 refine W.akR (some ⟨C.c,0,none⟩) no w _ ?_
 (delta W.AK aA aV;dsimp only)
 refine eN (fun b w'=>b=decide (0≤no∧no<C.D.n)∧w=w') (fun q J=>⟨fun ab=>⟨_,rfl,_,h.cells.1,(Zq h.dev).use ?_⟩,fun ab=>J _ _ ⟨?_,rfl⟩⟩) ?_
 · rintro _ _ ⟨rfl,rfl⟩
   have ab:0≤no:=by simpa using ab
   refine ⟨_,rfl,J _ _ ⟨?_,rfl⟩⟩
   rw[oX,fx,fx]
   exact ⟨fun h=>⟨ab,h⟩,fun h=>h.2⟩
 · have ab:¬0≤no:=by simpa using ab
   rw[sS (fun h=>ab h.1)]
 · rintro _ _ ⟨rfl,rfl⟩
   exact ⟨rfl,rfl⟩
def AtR (C:eY) (no:Int) (v:Value):Prop:=
 (∃ (i:Nat) (hi:i<C.aE.length),v= .pointer (some ⟨C.b4,i*6,none⟩)∧(C.aE[i]).full=true∧(C.aE[i]).no=no)∨
 (v= .pointer none∧∀f∈C.aE,f.full=true→f.no≠no)
theorem SS (h:l6 w C) (no:Int):aO Tryz.prog F.y1 #[.pointer (some ⟨C.c,0,none⟩), .int .i64 no] w (fun v w'=>AtR C no v∧w=w'):=by
 obtain ⟨cJ,aV,bA⟩:=h.cells
 have ae:=h.dZ
 refine W.akS (some ⟨C.c,0,none⟩) no w _ ?_
 (delta W.y1 aA aq a6 bV bK aD;dsimp only)
 refine ⟨fun h=>(by cases h),fun _=>⟨_,rfl,⟨some ⟨C.b4,0,none⟩,C.aE.length,C.aE.length⟩,aV,fun i w'=>∃j:Nat,i=j∧j≤C.aE.length∧w=w'∧∀ (k:Nat) (ae:k<C.aE.length),k<j→(C.aE[k]).full=true→(C.aE[k]).no≠no,fun i _=>((C.aE.length:Int)-i).toNat,⟨0,rfl,fm _,rfl,fun k _ h=>by omega⟩,?_⟩⟩
 rintro _ _ ⟨j,rfl,a8,rfl,fw⟩
 refine ⟨fun ba=> ?_,fun ck=> ?_⟩
 · have ba:(j:Int)<((C.aE.length:Nat):Int):=dG ba
   have ba:j<C.aE.length:=by omega
   refine ⟨_,rfl,⟨some ⟨C.b4,0,none⟩,C.aE.length,C.aE.length⟩,aV,_,rfl,⟨by omega,by show (j:Int)<((C.aE.length:Nat):Int);omega⟩,_,rfl,?_⟩
   rw[OD]
   have f0:=xp h.f ba (j:=0) (by decide)
   have f3:=xp h.f ba (j:=3) (by decide)
   refine ⟨(C.aE[j]).full,f0,eN (fun b w'=>w=w'∧(b=true↔((C.aE[j]).full=true∧(C.aE[j]).no=no))) (fun q J=>⟨fun ab=>⟨_,rfl,(C.aE[j]).no,by rw[aX];exact f3,J _ _ ⟨rfl,?_⟩⟩,fun ab=>J _ _ ⟨rfl,?_⟩⟩) ?_⟩
   · rw[zZ]
     exact ⟨fun h=>⟨ab,h⟩,fun h=>h.2⟩
   · rw[ab]
     exact ⟨fun h=>(by cases h),fun h=>(by cases h.1)⟩
   rintro b w' ⟨rfl,ab⟩
   refine ⟨fun U=>⟨.inl ⟨j,ba,rfl,(ab.1 U).1,(ab.1 U).2⟩,rfl⟩,fun U=> ?_⟩
   rw[cz (n:=(j:Int)+1) (by omega) (by omega)]
   refine ⟨⟨j+1,by omega,by omega,rfl,fun k ae ad au=> ?_⟩,?_⟩
   · rcases g8 k j with aH|aH
     · exact fw k ae aH au
     · have:k=j:=by omega
       subst this
       intro aY
       rw[ab.2 ⟨au,aY⟩] at U;cases U
   · show ((C.aE.length:Int)-((j:Int)+1)).toNat<((C.aE.length:Int)-(j:Int)).toNat
     omega
 · have ck:j=C.aE.length:=by
     have:¬((j:Int)<((C.aE.length:Nat):Int)):=eW ck
     omega
   subst ck
   refine ⟨.inr ⟨rfl,fun f aG l7=> ?_⟩,rfl⟩
   obtain ⟨k,ae,rfl⟩:=mS aG
   exact fw k ae ae l7
theorem akT (h:l6 w C):aO Tryz.prog F.C4 #[.pointer (some ⟨C.c,0,none⟩)] w (fun v w'=>((∃ (i:Nat) (hi:i<C.aE.length),v= .pointer (some ⟨C.b4,i*6,none⟩)∧(C.aE[i]).full=false)∨(v= .pointer none∧∀f∈C.aE,f.full=true))∧w=w'):=by
 obtain ⟨cJ,aV,bA⟩:=h.cells
 have ae:=h.dZ
 refine W.akU (some ⟨C.c,0,none⟩) w _ ?_
 (delta W.C4 aq aA a6 bV aD;dsimp only)
 refine ⟨_,rfl,⟨some ⟨C.b4,0,none⟩,C.aE.length,C.aE.length⟩,aV,fun i w'=>∃j:Nat,i=j∧j≤C.aE.length∧w=w'∧∀ (k:Nat) (ae:k<C.aE.length),k<j→(C.aE[k]).full=true,fun i _=>((C.aE.length:Int)-i).toNat,⟨0,rfl,fm _,rfl,fun k _ h=>by omega⟩,?_⟩
 rintro _ _ ⟨j,rfl,a8,rfl,fw⟩
 refine ⟨fun ba=> ?_,fun ck=> ?_⟩
 · have ba:(j:Int)<((C.aE.length:Nat):Int):=dG ba
   have ba:j<C.aE.length:=by omega
   have f0:=xp h.f ba (j:=0) (by decide)
   refine ⟨_,rfl,⟨some ⟨C.b4,0,none⟩,C.aE.length,C.aE.length⟩,aV,_,rfl,⟨by omega,by show (j:Int)<((C.aE.length:Nat):Int);omega⟩,(C.aE[j]).full,by rw[OD];exact f0,fun ab=>⟨_,rfl,⟨some ⟨C.b4,0,none⟩,C.aE.length,C.aE.length⟩,aV,_,rfl,⟨by omega,by show (j:Int)<((C.aE.length:Nat):Int);omega⟩, .inl ⟨j,ba,by rw[OD],by simpa using ab⟩,rfl⟩,fun ab=> ?_⟩
   rw[cz (n:=(j:Int)+1) (by omega) (by omega)]
   refine ⟨⟨j+1,by omega,by omega,rfl,fun k ae ad=> ?_⟩,?_⟩
   · rcases g8 k j with aH|aH
     · exact fw k ae aH
     · have:k=j:=by omega
       subst this
       simpa using ab
   · show ((C.aE.length:Int)-((j:Int)+1)).toNat<((C.aE.length:Int)-(j:Int)).toNat
     omega
 · have ck:j=C.aE.length:=by
     have:¬((j:Int)<((C.aE.length:Nat):Int)):=eW ck
     omega
   subst ck
   refine ⟨.inr ⟨rfl,fun f aG=> ?_⟩,rfl⟩
   obtain ⟨k,ae,rfl⟩:=mS aG
   exact fw k ae ae
def qY (fs gs:List Fr):Prop:=gs.length=fs.length∧∀ (i:Nat) (U:i<fs.length) (ad:i<gs.length),gs[i]={fs[i] with used:=(gs[i]).used}
theorem qY.refl (fs:List Fr):qY fs fs:=⟨rfl,fun i U ad=>rfl⟩
theorem qY.set {fs gs:List Fr} (h:qY fs gs) {i:Nat} (hi:i<gs.length) (u:Bool):qY fs (gs.set i {gs[i] with used:=u}):=by
 refine ⟨by rw[jv];exact h.1,fun j U ad=> ?_⟩
 rw[List.getElem_set]
 split
 · rename_i e
   subst e
   have:=h.2 i U hi
   rw[this]
 · exact h.2 j U _
theorem akV (h:l6 w C) (aW:∀f∈C.aE,f.pins=0):aO Tryz.prog F.C5 #[.pointer (some ⟨C.c,0,none⟩)] w (fun v w'=>∃ (i:Nat) (gs:List Fr) (hd:Nat),i<C.aE.length∧v= .pointer (some ⟨C.b4,i*6,none⟩)∧qY C.aE gs∧l6 w' {C with aE:=gs,hand:=hd}∧ao (fun q=>q=C.c∨q=C.b4) w w'):=by
 obtain ⟨cJ,aV,bA⟩:=h.cells
 have jX:=h.dB
 have dW:=h.dZ
 have akW:=h.hd
 refine W.akX (some ⟨C.c,0,none⟩) w _ ?_
 (delta W.C5 bK aq aA aD a6 bV st;dsimp only)
 refine ⟨_,rfl,_,bA,_,rfl,⟨some ⟨C.b4,0,none⟩,C.aE.length,C.aE.length⟩,aV,fun akY i w'=>∃ (s:Nat) (gs:List Fr),i=s∧s≤C.aE.length∧akY=(((C.hand+s)%C.aE.length:Nat):Int)∧qY C.aE gs∧l6 w' {C with aE:=gs}∧ao (fun q=>q=C.c∨q=C.b4) w w'∧∀ (t:Nat) (af:(C.hand+t)%C.aE.length<gs.length),t<s→(gs[(C.hand+t)%C.aE.length]).used=false,
   fun _ i _=>(2*(C.aE.length:Int)-i).toNat,⟨0,C.aE,rfl,fm _,by rw[zV,uU akW],qY.refl _,h, .refl _ _,fun t _ h=>by omega⟩,?_⟩
 rintro _ _ ag ⟨s,gs,rfl,aj,rfl,oO,aN,al,fw⟩
 have OE:gs.length=C.aE.length:=oO.1
 obtain ⟨i,hi⟩:∃i,i=(C.hand+s)%C.aE.length:=⟨_,rfl⟩
 have o9:i<gs.length:=by rw[hi,OE];exact sT _ (by omega)
 rw[←hi]
 obtain ⟨d0,d1,d2⟩:=aN.cells
 have d1:ag.cell? (Addr.add ⟨C.c,0,none⟩ 1)=some (.slice (some ⟨C.b4,0,none⟩) gs.length gs.length):=d1
 have aG:cr ag C.b4 (cL Fr.c gs).toArray ah.rJ:=aN.f
 rw[cz (n:=2*((C.aE.length:Nat):Int)) (by omega) (by omega)]
 have hw:IntKind.wrap .i64 (((i:Nat):Int)+1)=((i+1:Nat):Int):=by rw[cz (by omega) (by omega)];rfl
 have ZI:Int.tmod ((i+1:Nat):Int) ((gs.length:Nat):Int)=(((i+1)%gs.length:Nat):Int):=by
   rw[Int.tmod_eq_emod_of_nonneg (by omega)];rfl
 have akZ:(i+1)%gs.length=(C.hand+(s+1))%C.aE.length:=by
   rw[hi,OE,Nat.mod_add_mod];rfl
 refine ⟨fun ba=> ?_,fun ck=> ?_⟩
 · refine eN (fun a w'=>a=(((C.hand+(s+1))%C.aE.length:Nat):Int)∧∃HT:List Fr,s+1≤C.aE.length∧qY C.aE HT∧l6 w' {C with aE:=HT}∧ao (fun q=>q=C.c∨q=C.b4) w w'∧∀ (t:Nat) (af:(C.hand+t)%C.aE.length<HT.length),t<s+1→(HT[(C.hand+t)%C.aE.length]).used=false) (fun q J=>⟨_,rfl,⟨some ⟨C.b4,0,none⟩,gs.length,gs.length⟩,d1,_,rfl,⟨by omega,by show (i:Int)<((gs.length:Nat):Int);omega⟩,_,rfl,⟨some ⟨C.b4,0,none⟩,gs.length,gs.length⟩,d1,by show ((gs.length:Nat):Int)≠0;omega,_,rfl,?_⟩) ?_
   · rw[OD,hw]
     have f4:=xp aG o9 (j:=4) (by decide)
     have f2:=xp aG o9 (j:=2) (by decide)
     have C6:(gs[i]).pins=0:=by
       have U:=oO.2 i (by omega) o9
       have ad:(gs[i]).pins=(C.aE[i]'(by omega)).pins:=by rw[U]
       rw[ad]
       exact aW _ (fh _)
     refine ⟨(gs[i]).pins,by rw[aX];exact f4,fun ab=> ?_,fun _=>⟨_,rfl,(gs[i]).used,by rw[aX];exact f2,fun hu=>⟨_,rfl,?_⟩,fun hu=>⟨_,rfl,?_⟩⟩⟩
     · rw[C6] at ab;simp at ab
     · have OF:s<C.aE.length:=by
         rcases g8 s C.aE.length with U|U
         · exact U
         · have es:s=C.aE.length:=by omega
           have gY:(C.hand+0)%C.aE.length=i:=by rw[hi,es,Nat.add_mod_right];rfl
           have ad:=fw 0 (by rw[gY];exact o9) (by omega)
           have au:(gs[i]).used=false:=by
             have e:gs[(C.hand+0)%C.aE.length]'(by rw[gY];exact o9)=gs[i]:=by congr 1
             rw[←e];exact ad
           rw[au] at hu;cases hu
       obtain ⟨aB,aF,aJ,aM⟩:=FB aG o9 (j:=2) (by decide) (v:= .bool false) {gs[i] with used:=false} rfl
       rw[aX]
       refine ⟨aB,aF,bN (J _ _ ⟨by rw[ZI,akZ],gs.set i {gs[i] with used:=false},OF,oO.set o9 false,?_,al.trans (aM.mono fun q _ e=> .inr e),fun t af aR=> ?_⟩)⟩
       · have ak:=aN.v.an aM h.bc.1
         refine ⟨?_,aJ,aN.dev.an aM (fun q J e=>h.bc.2.2 (e▸J)),?_,?_,?_,h.bc⟩
         · show Var _ _ [_, .slice (some ⟨C.b4,0,none⟩) (gs.set i _).length (gs.set i _).length,_] _
           rw[jv];exact ak
         · show 8≤(gs.set i _).length;rw[jv];omega
         · show (gs.set i _).length≤64;rw[jv];omega
         · show C.hand<(gs.set i _).length;rw[jv];omega
       · rw[List.getElem_set]
         split
         · rfl
         · rename_i c5
           rcases g8 t s with U|U
           · exact fw t _ U
           · have:t=s:=by omega
             subst this
             exact absurd hi c5
     · obtain ⟨s1,s2⟩:=jk aN.v (i:=2) (by simp)
       rw[aX,ZI]
       refine ⟨s1,s2,bN ⟨i,gs,(i+1)%gs.length,by omega,rfl,oO,?_,al.trans ((il _ _ _ _).mono fun q _ e=> .inl e)⟩⟩
       have qe:=il ag C.c 2 (.int .i64 (((i+1)%gs.length:Nat):Int))
       refine ⟨jj aN.v (i:=2) (.int .i64 (((i+1)%gs.length:Nat):Int)),cr.an aG qe (fun e=>h.bc.1 e.symm),aN.dev.an qe (fun q J e=>h.bc.2.1 (e▸J)),aN.dB,aN.dZ,?_,h.bc⟩
       exact sT _ (by omega)
   · rintro a w' ⟨rfl,HT,U,ad,au,aH,aY⟩
     rw[cz (n:=(s:Int)+1) (by omega) (by omega)]
     refine ⟨⟨s+1,HT,by omega,U,rfl,ad,au,aH,aY⟩,?_⟩
     show (2*(C.aE.length:Int)-((s:Int)+1)).toNat<(2*(C.aE.length:Int)-(s:Int)).toNat
     omega
 · have:=eW ck
   omega
end
end
section
structure lG (C bx:eY) (w w':World) (k:Nat):Prop where
 c:bx.c=C.c
 d:bx.D.d=C.D.d
 len:bx.aE.length=C.aE.length
 gp:bx.D.gp=C.D.gp
 cX:bx.D.cX≤C.D.cX+k
 calm:∀m,C.D.calm (m+k)→bx.D.calm m
 an:ao (jG C) w w'
 jH:∀q,jG bx q→jG C q∨w.heap.size≤q
theorem lG.refl (C:eY) (w:World):lG C C w w 0:=⟨rfl,rfl,rfl,rfl,cR _,fun _ h=>h, .refl _ _,fun _ h=> .inl h⟩
theorem lG.ext {w w':World} (C:eY) (h:Ext w w'):lG C C w w' 0:=⟨rfl,rfl,rfl,rfl,cR _,fun _ h=>h,ao.eT h,fun _ h=> .inl h⟩
theorem lG.trans {C bx ZJ:eY} {w w' iI:World} {k l:Nat} (U:lG C bx w w' k) (ad:lG bx ZJ w' iI l):lG C ZJ w iI (k+l):=by
 have aj:=U.an.size
 refine ⟨ad.c.trans U.c,ad.d.trans U.d,ad.len.trans U.len,ad.gp.trans U.gp,by have:=U.cX;have:=ad.cX;omega,fun m hm=>ad.calm m (U.calm (m+l) (by rw[show m+l+k=m+(k+l) by omega];exact hm)),l5 U.an ad.an fun q J h=>(U.jH q h).resolve_right (by omega),fun q J=> ?_⟩
 rcases ad.jH q J with h|h
 · exact U.jH q h
 · exact .inr (by omega)
theorem lG.mono {C bx:eY} {w w':World} {k l:Nat} (h:lG C bx w w' k) (az:k≤l):lG C bx w w' l:=
 ⟨h.c,h.d,h.len,h.gp,by have:=h.cX;omega,fun m hm=>h.calm m (nt hm (by omega)),h.an,h.jH⟩
theorem lG.n {C bx:eY} {w w':World} {k:Nat} (h:lG C bx w w' k):bx.D.n=C.D.n:=by unfold eG.n;rw[h.gp]
section
variable {w w':World} {C:eY} {X:Nat→Prop}
theorem C7 {fs:List Fr} {D:eG} {c b4 hd:Nat} (un:∀ (i j:Nat) (hi:i<fs.length) (a8:j<fs.length),(fs[i]).full=true→(fs[j]).full=true→(fs[i]).no=(fs[j]).no→i=j) {i:Nat} (hi:i<fs.length) {no:Nat} (aG:(fs[i]).full=true) (aC:(fs[i]).no=no):(eY.mk c b4 fs hd D).view no=(fs[i]).l:=by
 unfold eY.view
 cases HU:fs.find? fun f=>f.full&&f.no==(no:Int) with
 |none=>
   have:=r9.1 HU _ (fh hi)
   simp[aG,aC] at this
 |some f=>
   have hm:=EM HU
   have aW:=GY HU
   simp only[jL,zZ] at aW
   obtain ⟨j,a8,rfl⟩:=mS hm
   have:=un i j hi a8 aG aW.1 (by rw[aC,aW.2])
   subst this
   simp only
theorem C8 {fs:List Fr} {D:eG} {c b4 hd:Nat} {no:Nat} (h:∀f∈fs,f.full=true→f.no≠no):(eY.mk c b4 fs hd D).view no=D.now no:=by
 unfold eY.view
 cases HU:fs.find? fun f=>f.full&&f.no==(no:Int) with
 |none=>rfl
 |some f=>
   have hm:=EM HU
   have aW:=GY HU
   simp only[jL,zZ] at aW
   exact absurd aW.2 (h f hm aW.1)
theorem bL.SU {B xq:Nat→Prop} {w w':World} {t:aa} {l:Key} {V:Nat→Prop} (h:bL B w t l) (al:ao V w w') (ak:∀q,q<w.heap.size→B q→¬V q) (ab:∀q,q<w.heap.size→B q→xq q):bL xq w' t l:=
 ⟨h.1.an al fun q J=>ak q (h.2.2 q J).2 (h.2.2 q J).1,h.2.1,fun q J=>⟨ab q (h.2.2 q J).2 (h.2.2 q J).1,lv (h.2.2 q J).2 al.size⟩⟩
theorem OG {gs:List Fr} {hd:Nat} {aP:eG} {V:Nat→Prop} (h:qX X w C) (aj:qY C.aE gs) (al:ao V w w') (tX:∀q,q<w.heap.size→V q→jG C q) (aC:aP.n=C.D.n) (sr:∀i,aP.now i=C.D.now i) (ug:∀q,nr aP q→nr C.D q∨w.heap.size≤q):qX X w' {C with aE:=gs,hand:=hd,D:=aP}:=by
 have dH:=al.size
 have vC:∀q,q<w.heap.size→jG {C with aE:=gs,hand:=hd,D:=aP} q→jG C q:=fun q J aG=>by
   rcases aG with U|U|U
   · exact .inl U
   · exact .inr (.inl U)
   · exact .inr (.inr ((ug q U).resolve_right (by omega)))
 have xr:∀ (i:Nat) (hi:i<gs.length),∃fo:i<C.aE.length,gs[i]={C.aE[i] with used:=(gs[i]).used}:=fun i hi=>⟨by rw[←aj.1];exact hi,aj.2 i (by rw[←aj.1];exact hi) hi⟩
 refine ⟨fun f aG=> ?_,fun f aG l7=> ?_,fun i j hi a8 U ad au=> ?_,fun q J=>⟨lv (h.nu q J).1 dH,fun aG=>(h.nu q J).2 (vC q (h.nu q J).1 aG)⟩⟩
 · obtain ⟨i,hi,rfl⟩:=mS aG
   obtain ⟨fo,e⟩:=xr i hi
   have:(gs[i]).pins=(C.aE[i]).pins:=by rw[e]
   rw[this]
   exact h.pins _ (fh fo)
 · obtain ⟨i,hi,rfl⟩:=mS aG
   obtain ⟨fo,e⟩:=xr i hi
   have a_:(gs[i]).full=(C.aE[i]).full:=by rw[e]
   have bw:(gs[i]).no=(C.aE[i]).no:=by rw[e]
   have ek:(gs[i]).b=(C.aE[i]).b:=by rw[e]
   have kS:(gs[i]).l=(C.aE[i]).l:=by rw[e]
   have lV:(gs[i]).xo=(C.aE[i]).xo:=by rw[e]
   obtain ⟨no,aB,aF,aJ,aM,cU⟩:=h.ok _ (fh fo) (by rw[←a_];exact l7)
   refine ⟨no,by rw[bw];exact aB,by rw[aC];exact aF,?_,by rw[kS];exact aM,fun hd=>by rw[kS,sr];exact cU (by rw[←lV];exact hd)⟩
   rw[ek,kS]
   exact bL.SU aJ al (fun q J ab ak=>ab.1 (tX q J ak)) fun q J ab=>⟨fun aG=>ab.1 (vC q J aG),ab.2⟩
 · obtain ⟨fo,e⟩:=xr i hi
   obtain ⟨C9,eO⟩:=xr j a8
   have a_:(gs[i]).full=(C.aE[i]).full:=by rw[e]
   have bw:(gs[i]).no=(C.aE[i]).no:=by rw[e]
   have ek:(gs[j]).full=(C.aE[j]).full:=by rw[eO]
   have kS:(gs[j]).no=(C.aE[j]).no:=by rw[eO]
   exact h.un i j fo C9 (by rw[←a_];exact U) (by rw[←ek];exact ad) (by rw[←bw,←kS];exact au)
theorem OH {gs:List Fr} {hd:Nat} {aP:eG} (h:qX X w C) (aj:qY C.aE gs) (sr:∀i,aP.now i=C.D.now i) (no:Nat):(eY.mk C.c C.b4 gs hd aP).view no=C.view no:=by
 have xr:∀ (i:Nat) (hi:i<gs.length),∃fo:i<C.aE.length,gs[i]={C.aE[i] with used:=(gs[i]).used}:=fun i hi=>⟨by rw[←aj.1];exact hi,aj.2 i (by rw[←aj.1];exact hi) hi⟩
 by_cases hex:∃ (i:Nat) (hi:i<C.aE.length),(C.aE[i]).full=true∧(C.aE[i]).no=no
 · obtain ⟨i,hi,U,ad⟩:=hex
   have ft:i<gs.length:=by rw[aj.1];exact hi
   obtain ⟨fo,e⟩:=xr i ft
   have a_:(gs[i]).full=(C.aE[i]).full:=by rw[e]
   have bw:(gs[i]).no=(C.aE[i]).no:=by rw[e]
   have ek:(gs[i]).l=(C.aE[i]).l:=by rw[e]
   have vD:∀ (i j:Nat) (hi:i<gs.length) (a8:j<gs.length),(gs[i]).full=true→(gs[j]).full=true→(gs[i]).no=(gs[j]).no→i=j:=by
     intro a b aU ab dB dZ mF
     obtain ⟨ow,m0⟩:=xr a aU
     obtain ⟨kx,nS⟩:=xr b ab
     have f1:(gs[a]).full=(C.aE[a]).full:=by rw[m0]
     have f2:(gs[a]).no=(C.aE[a]).no:=by rw[m0]
     have f3:(gs[b]).full=(C.aE[b]).full:=by rw[nS]
     have f4:(gs[b]).no=(C.aE[b]).no:=by rw[nS]
     exact h.un a b ow kx (by rw[←f1];exact dB) (by rw[←f3];exact dZ) (by rw[←f2,←f4];exact mF)
   rw[C7 vD ft (by rw[a_];exact U) (by rw[bw];exact ad),ek]
   exact (C7 (fs:=C.aE) (D:=C.D) (c:=C.c) (b4:=C.b4) (hd:=C.hand) h.un hi U ad).symm
 · have dc:∀f∈C.aE,f.full=true→f.no≠no:=fun f aG U ad=>by
     obtain ⟨i,hi,rfl⟩:=mS aG
     exact hex ⟨i,hi,U,ad⟩
   have e:C.view no=C.D.now no:=C8 (fs:=C.aE) (D:=C.D) (c:=C.c) (b4:=C.b4) (hd:=C.hand) dc
   rw[e,←sr]
   refine C8 fun f aG U ad=> ?_
   obtain ⟨i,hi,rfl⟩:=mS aG
   obtain ⟨fo,e⟩:=xr i hi
   have a_:(gs[i]).full=(C.aE[i]).full:=by rw[e]
   have bw:(gs[i]).no=(C.aE[i]).no:=by rw[e]
   exact dc _ (fh fo) (by rw[←a_];exact U) (by rw[←bw];exact ad)
theorem ZK {i:Nat} (hi:i<C.aE.length) {aP:eG} {V:Nat→Prop} (h:qX X w C) (al:ao V w w') (tX:∀q,q<w.heap.size→V q→jG C q) (aC:aP.n=C.D.n)
   (sr:∀j:Nat,((C.aE[i]).full=true→(C.aE[i]).no≠j)→aP.now j=C.D.now j) (ug:∀q,nr aP q→nr C.D q∨w.heap.size≤q) (f0:Fr) (vE:f0.full=false) (SV:f0.pins=0):qX X w' {C with aE:=C.aE.set i f0,D:=aP}:=by
 have dH:=al.size
 have vC:∀q,q<w.heap.size→jG {C with aE:=C.aE.set i f0,D:=aP} q→jG C q:=fun q J aG=>by
   rcases aG with U|U|U
   · exact .inl U
   · exact .inr (.inl U)
   · exact .inr (.inr ((ug q U).resolve_right (by omega)))
 refine ⟨fun f aG=> ?_,fun f aG l7=> ?_,fun a b aU ab U ad au=> ?_,fun q J=>⟨lv (h.nu q J).1 dH,fun aG=>(h.nu q J).2 (vC q (h.nu q J).1 aG)⟩⟩
 · rcases EU aG with aG|rfl
   · exact h.pins f aG
   · exact SV
 · obtain ⟨k,ae,rfl⟩:=mS aG
   have jW:k<C.aE.length:=by simpa using ae
   by_cases e:i=k
   · subst e
     simp only[uV] at l7
     rw[vE] at l7;cases l7
   · simp only[mV e] at l7⊢
     obtain ⟨no,aB,aF,aJ,aM,cU⟩:=h.ok _ (fh jW) l7
     refine ⟨no,aB,by rw[aC];exact aF,bL.SU aJ al (fun q J ab ak=>ab.1 (tX q J ak)) fun q J ab=>⟨fun aG=>ab.1 (vC q J aG),ab.2⟩,aM,fun hd=> ?_⟩
     show _=aP.now no
     rw[sr no fun py he=>e (h.un i k hi jW py l7 (by rw[he,aB]))]
     exact cU hd
 · have ow:a<C.aE.length:=by simpa using aU
   have kx:b<C.aE.length:=by simpa using ab
   by_cases m0:i=a
   · subst m0
     simp only[uV] at U
     rw[vE] at U;cases U
   by_cases nS:i=b
   · subst nS
     simp only[uV] at ad
     rw[vE] at ad;cases ad
   simp only[mV m0] at U au
   simp only[mV nS] at ad au
   exact h.un a b ow kx U ad au
theorem ak0 {i:Nat} (hi:i<C.aE.length) {aP:eG} {hd:Nat} (h:qX X w C) (az:(C.aE[i]).full=true→∀j:Nat,(C.aE[i]).no=j→aP.now j=(C.aE[i]).l) (sr:∀j:Nat,((C.aE[i]).full=true→(C.aE[i]).no≠j)→aP.now j=C.D.now j) (f0:Fr) (vE:f0.full=false) (no:Nat):
   (eY.mk C.c C.b4 (C.aE.set i f0) hd aP).view no=C.view no:=by
 by_cases hex:∃ (k:Nat) (ae:k<C.aE.length),(C.aE[k]).full=true∧(C.aE[k]).no=no
 · obtain ⟨k,ae,U,ad⟩:=hex
   have gY:=C7 (fs:=C.aE) (D:=C.D) (c:=C.c) (b4:=C.b4) (hd:=C.hand) h.un ae U ad
   have gY:C.view no=(C.aE[k]).l:=gY
   rw[gY]
   by_cases e:i=k
   · subst e
     rw[←az U no ad]
     refine C8 fun f aG aB aF=> ?_
     obtain ⟨a,aU,rfl⟩:=mS aG
     have ow:a<C.aE.length:=by simpa using aU
     by_cases m0:i=a
     · subst m0
       simp only[uV] at aB
       rw[vE] at aB;cases aB
     · simp only[mV m0] at aB aF
       exact m0 (h.un i a hi ow U aB (by rw[ad,aF]))
   · have dW:k<(C.aE.set i f0).length:=by simpa using ae
     have sV:(C.aE.set i f0)[k]=C.aE[k]:=mV e _
     have vD:∀ (a b:Nat) (aU:a<(C.aE.set i f0).length) (ab:b<(C.aE.set i f0).length),((C.aE.set i f0)[a]).full=true→((C.aE.set i f0)[b]).full=true→((C.aE.set i f0)[a]).no=((C.aE.set i f0)[b]).no→a=b:=by
       intro a b aU ab U ad au
       have ow:a<C.aE.length:=by simpa using aU
       have kx:b<C.aE.length:=by simpa using ab
       by_cases m0:i=a
       · subst m0
         simp only[uV] at U
         rw[vE] at U;cases U
       by_cases nS:i=b
       · subst nS
         simp only[uV] at ad
         rw[vE] at ad;cases ad
       simp only[mV m0] at U au
       simp only[mV nS] at ad au
       exact h.un a b ow kx U ad au
     rw[C7 vD dW (by rw[sV];exact U) (by rw[sV];exact ad),sV]
 · have dc:∀f∈C.aE,f.full=true→f.no≠no:=fun f aG U ad=>by
     obtain ⟨k,ae,rfl⟩:=mS aG
     exact hex ⟨k,ae,U,ad⟩
   have e:C.view no=C.D.now no:=C8 (fs:=C.aE) (D:=C.D) (c:=C.c) (b4:=C.b4) (hd:=C.hand) dc
   rw[e,←sr no fun U ad=>dc _ (fh hi) U ad]
   refine C8 fun f aG U ad=> ?_
   rcases EU aG with aG|rfl
   · exact dc f aG U ad
   · rw[vE] at U;cases U
def ZL (X:Nat→Prop) (C:eY) (w:World) (v:Value) (w':World):Prop:=
 ∃bx:eY,mZ X w' bx∧lG C bx w w' 1∧bx.b4=C.b4∧(∀j,bx.view j=C.view j)∧(∀f∈bx.aE,f.full=true→∃g∈C.aE,g.full=true∧g.no=f.no)∧
   ((∃ (i:Nat) (hi:i<bx.aE.length),v= .tuple #[.pointer (some ⟨C.b4,i*6,none⟩), .int .i64 0]∧(bx.aE[i]).full=false∧((bx.aE[i]).pins=0))∨
    (v= .tuple #[.pointer none, .int .i64 3]∧¬C.D.calm 1))
theorem ZM (h:mZ X w C) (gC:C.D.cX≤1000000000):aO Tryz.prog F.AL #[.pointer (some ⟨C.c,0,none⟩)] w (ZL X C w):=by
 have nT:=h.raw
 refine W.ak1 (some ⟨C.c,0,none⟩) w _ ?_
 (delta W.AL AM aA bV bK aq aV;dsimp only)
 refine (akT nT).use ?_
 rintro _ _ ⟨he,rfl⟩
 rcases he with ⟨i,hi,rfl,aG⟩|⟨rfl,fw⟩
 · exact ⟨_,rfl,fun _=>⟨C,h,(lG.refl C w).mono (fm _),rfl,fun _=>rfl,fun f aG nR=>⟨f,aG,nR,rfl⟩, .inl ⟨i,hi,rfl,aG,h.inv.pins _ (fh hi)⟩⟩,fun h=>(by cases h)⟩
 refine ⟨_,rfl,fun h=>(by cases h),fun _=>(akV nT h.inv.pins).use ?_⟩
 rintro _ ag ⟨i,gs,hd,hi,rfl,oO,lf,iR⟩
 have ft:i<gs.length:=by rw[oO.1];exact hi
 have KT:ao (jG C) w ag:=iR.mono fun q _ J=>by
   rcases J with J|J
   · exact .inl J
   · exact .inr (.inl J)
 have FC:=OG (hd:=hd) (aP:=C.D) h.inv oO KT (fun q _ h=>h) rfl (fun _=>rfl) fun q J=> .inl J
 have OI:=OH (hd:=hd) (aP:=C.D) h.inv oO fun _=>rfl
 obtain ⟨bk,xt⟩:∃bk:eY,bk={C with aE:=gs,hand:=hd}:=⟨_,rfl⟩
 have FC:qX X ag bk:=by rw[xt];exact FC
 have lf:l6 ag bk:=by rw[xt];exact lf
 have OI:∀no,bk.view no=C.view no:=by rw[xt];exact OI
 have ZN:∀q,jG bk q↔jG C q:=by rw[xt];exact fun q=>Iff.rfl
 have oP:bk.D=C.D:=by rw[xt]
 have o_:bk.c=C.c∧bk.b4=C.b4:=by rw[xt];exact ⟨rfl,rfl⟩
 have su:bk.aE=gs:=by rw[xt]
 have r_:i<bk.aE.length:=by rw[su];exact ft
 have l7:(bk.aE[i]).full=true:=by
   have e:=oO.2 i hi ft
   have:(gs[i]).full=(C.aE[i]).full:=by rw[e]
   simp only[su]
   rw[this]
   exact fw _ (fh hi)
 have ij:∀f∈bk.aE,f.full=true→∃g∈C.aE,g.full=true∧g.no=f.no:=by
   rw[su]
   intro f aG nR
   obtain ⟨k,ae,rfl⟩:=mS aG
   have jW:k<C.aE.length:=by rw[←oO.1];exact ae
   have e:=oO.2 k jW ae
   have a_:(gs[k]).full=(C.aE[k]).full:=by rw[e]
   have bw:(gs[k]).no=(C.aE[k]).no:=by rw[e]
   exact ⟨C.aE[k],fh jW,by rw[←a_];exact nR,bw.symm⟩
 obtain ⟨no,aB,aF,aJ,aM,cU⟩:=FC.ok _ (fh r_) l7
 have f1:=xp lf.f r_ (j:=1) (by decide)
 have fin:∀ (aw:World) (aP:eG),ao (jG C) ag aw→l6 aw {bk with D:=aP}→lG C {bk with D:=aP} w aw 1→aP.n=C.D.n→(∀j:Nat,(bk.aE[i]).no≠j→aP.now j=C.D.now j)→(∀j:Nat,(bk.aE[i]).no=j→aP.now j=(bk.aE[i]).l)→(∀q,nr aP q→nr C.D q∨ag.heap.size≤q)→
     ∃kC:Addr,(some ⟨C.b4,i*6,none⟩:Option Addr)=some kC∧c2 aw kC [.bool false, .bool false, .bool false, .int .i64 0, .int .i64 0, .slice none 0 0]∧(6:Nat)=6∧ay (setCells aw kC 0 [.bool false, .bool false, .bool false, .int .i64 0, .int .i64 0, .slice none 0 0]) fun dJ=>ZL X C w (.tuple #[.pointer (some ⟨C.b4,i*6,none⟩), .int .i64 0]) dJ:=by
   intro aw aP ak2 fS cA C_ ZO ak3 HV
   have gu:cr aw bk.b4 (cL Fr.c bk.aE).toArray ah.rJ:=fS.f
   obtain ⟨s1,s2,b1⟩:=SR gu r_ hW
   rw[o_.2] at s1 s2 b1
   have SW:qX X (setCells aw ⟨C.b4,i*6,none⟩ 0 hW.c) {bk with aE:=bk.aE.set i hW,D:=aP}:=by
     refine ZK (V:=jG C) (w:=ag) r_ FC (ak2.trans (b1.mono fun q _ e=> .inr (.inl e))) (fun q _ J=>(ZN q).2 J) (by rw[oP];exact C_) (fun j a8=>by rw[oP];exact ZO j fun e=>a8 l7 e) (fun q J=>by rw[oP];exact HV q J) hW rfl rfl
   have gR:=fS.v
   refine ⟨_,rfl,s1,rfl,bN ⟨{bk with aE:=bk.aE.set i hW,D:=aP},⟨?_,SW⟩,?_,o_.2,fun j=> ?_,fun f aG nR=> ?_, .inl ⟨i,by show i<(bk.aE.set i hW).length;rw[jv];exact r_,rfl,by simp[hW],by simp[hW]⟩⟩⟩
   · have c5:bk.c≠C.b4:=by have:=fS.bc.1;rw[←o_.2];exact this
     refine ⟨?_,by show cr _ bk.b4 _ _;rw[o_.2];exact s2,fS.dev.an b1 (fun q J e=>fS.bc.2.2 (by rw[show ({bk with D:=aP}:eY).b4=bk.b4 from rfl,o_.2,←e];exact J)),?_,?_,?_,fS.bc⟩
     · have:=gR.an b1 c5
       show Var _ _ [_, .slice _ (bk.aE.set i hW).length (bk.aE.set i hW).length,_] _
       rw[jv];exact this
     · show 8≤(bk.aE.set i hW).length;rw[jv];exact fS.dB
     · show (bk.aE.set i hW).length≤64;rw[jv];exact fS.dZ
     · show bk.hand<(bk.aE.set i hW).length;rw[jv];exact fS.hd
   · refine ⟨cA.c,cA.d,by show (bk.aE.set i hW).length=_;rw[jv];exact cA.len,cA.gp,cA.cX,cA.calm,cA.an.trans (b1.mono fun q _ e=> .inr (.inl e)),cA.jH⟩
   · rw[←OI]
     exact ak0 r_ FC (fun _ j a8=>ak3 j a8) (fun j a8=>by rw[oP];exact ZO j fun e=>a8 l7 e) hW rfl j
   · rcases EU aG with aG|rfl
     · exact ij f aG nR
     · cases nR
 refine ⟨_,rfl,fun h=>(by cases h),fun _=>vh (fun aw=>∃aP:eG,ao (jG C) ag aw∧l6 aw {bk with D:=aP}∧lG C {bk with D:=aP} w aw 1∧aP.n=C.D.n∧(∀j:Nat,(bk.aE[i]).no≠j→aP.now j=C.D.now j)∧(∀j:Nat,(bk.aE[i]).no=j→aP.now j=(bk.aE[i]).l)∧(∀q,nr aP q→nr C.D q∨ag.heap.size≤q)) (fun q J=>⟨_,rfl,(bk.aE[i]).xo,?_,fun avg=> ?_,fun ak4=>J _ ⟨C.D, .refl _ _,?_,?_,rfl,fun _ _=>rfl,fun j a8=> ?_,fun q h=> .inl h⟩⟩) ?_⟩
 · rw[aX,←o_.2];exact f1
 ·
   have bD:=dT ag
   have c4:=lf.ext bD
   obtain ⟨gY,_,_⟩:=c4.cells
   rw[o_.1,oP] at gY
   have f3:=xp c4.f r_ (j:=3) (by decide)
   have f5:=xp c4.f r_ (j:=5) (by decide)
   rw[o_.2] at f3 f5
   refine bN ⟨_,rfl,id,_,gY,_,rfl,id,((no:Nat):Int),?_,_,rfl,id,(bk.aE[i]).b,by rw[aX];exact f5,?_⟩
   · rw[aX,f3]
     show some (Value.int .i64 (bk.aE[i]).no)=_
     rw[aB]
   have ak5:kl ag.drew C.D:=by rw[←oP];exact c4.dev
   refine (akI ak5 (i:=no) (by rw[←oP];exact aF) gC (aJ.1.ext bD) aM fun q J aG=>(aJ.2.2 q J).1.1 (.inr (.inr (by rw[oP];exact aG)))).use ?_
   rintro v2 aw hw
   rcases hw with ⟨ab,rfl,lY,dS⟩|⟨ab,rfl,s,lY,dS,gf⟩
   · have qe:ao (jG C) ag aw:=(ao.eT bD).trans (dS.mono fun q _ e=> .inr (.inr (.inl e)))
     refine ⟨3,rfl,fun _=>⟨{bk with D:=C.D.jF 2},⟨?_,?_⟩,?_,o_.2,fun j=> ?_,ij, .inr ⟨rfl,fun N6=> ?_⟩⟩,fun h=>(by cases h)⟩
     · have fS:=c4.v.an dS (fun e=>c4.bc.2.1 (.inl (by rw[oP];exact e)))
       rw[oP] at fS
       have aU:=lf.bc
       rw[oP] at aU
       exact ⟨fS,cr.an c4.f dS (fun e=>c4.bc.2.2 (.inl (by rw[oP];exact e))),lY,lf.dB,lf.dZ,lf.hd,aU⟩
     · have:=OG (C:=bk) (hd:=bk.hand) (aP:=C.D.jF 2) FC (qY.refl _) qe (fun q _ J=>(ZN q).2 J) (by rw[oP];rfl) (fun j=>by rw[oP];rfl) fun q J=> .inl (by rw[oP];exact J)
       exact this
     · refine ⟨o_.1,rfl,by show bk.aE.length=_;rw[su];exact oO.1,rfl,z1 _,fun m hm=>(KS (.inr rfl) h.raw.dev.f4 hm).1,KT.trans qe,fun q J=> .inl ?_⟩
       rcases J with e|e|e
       · exact .inl (by rw[←o_.1];exact e)
       · exact .inr (.inl (by rw[←o_.2];exact e))
       · exact .inr (.inr e)
     · rw[←OI]
       exact OH (C:=bk) FC (qY.refl _) (fun j=>by rw[oP];rfl) j
     · have:=(KS (k:=2) (m:=0) (.inr rfl) h.raw.dev.f4 N6).2
       rw[ab] at this;cases this
   · have qe:ao (jG C) ag aw:=(ao.eT bD).trans (dS.mono fun q _ e=> .inr (.inr e))
     have HV:∀q,nr (C.D.put no s (bk.aE[i]).l) q→nr C.D q∨ag.heap.size≤q:=by
       rintro q (e|e|e|⟨x,af,e⟩)
       · exact .inl (.inl e)
       · exact .inl (.inr (.inl e))
       · exact .inl (.inr (.inr (.inl e)))
       · rcases fZ.1 af with rfl|af
         · exact gf q e
         · exact .inl (.inr (.inr (.inr ⟨x,(GX.1 af).1,e⟩)))
     have hU:∀q,nr C.D q→q≠bk.c∧q≠bk.b4:=fun q J=>⟨fun e=>lf.bc.2.1 (by rw[oP,←e];exact J),fun e=>lf.bc.2.2 (by rw[oP,←e];exact J)⟩
     refine ⟨0,rfl,fun h=>(by cases h),fun _=>J _ ⟨C.D.put no s (bk.aE[i]).l,qe,?_,?_,rfl,fun j a8=> ?_,fun j a8=> ?_,HV⟩⟩
     · have fS:=c4.v.an dS (fun e=>(hU _ e).1 rfl)
       rw[oP] at fS
       have sd:bk.c<ag.heap.size:=lf.v.lt
       have ZP:bk.b4<ag.heap.size:=cr.lt lf.f
       refine ⟨fS,cr.an c4.f dS (fun e=>(hU _ e).2 rfl),lY,lf.dB,lf.dZ,lf.hd,lf.bc.1,fun e=> ?_,fun e=> ?_⟩
       · rcases HV _ e with U|U
         · exact (hU _ U).1 rfl
         · have:bk.c<ag.heap.size:=sd
           have U:ag.heap.size≤bk.c:=U
           omega
       · rcases HV _ e with U|U
         · exact (hU _ U).2 rfl
         · have U:ag.heap.size≤bk.b4:=U
           omega
     · refine ⟨o_.1,rfl,by show bk.aE.length=_;rw[su];exact oO.1,rfl,cR _,fun m hm=>(KS (.inr rfl) h.raw.dev.f4 hm).1,KT.trans qe,fun q J=> ?_⟩
       rcases J with e|e|e
       · exact .inl (.inl (by rw[←o_.1];exact e))
       · exact .inl (.inr (.inl (by rw[←o_.2];exact e)))
       · rcases HV q e with U|U
         · exact .inl (.inr (.inr U))
         · exact .inr (ju KT.size U)
     · rw[ZA,if_neg (fun e=>a8 (by rw[aB,e]))]
     · rw[ZA,if_pos (by rw[aB] at a8;omega)]
 · rw[←oP];exact lf
 · refine ⟨o_.1,rfl,by show bk.aE.length=_;rw[su];exact oO.1,rfl,z1 _,fun m hm=>nt hm (z1 _),KT,fun q J=> .inl ?_⟩
   rcases J with e|e|e
   · exact .inl (by rw[←o_.1];exact e)
   · exact .inr (.inl (by rw[←o_.2];exact e))
   · exact .inr (.inr e)
 · have:no=j:=by rw[aB] at a8;omega
   subst this
   rw[←oP]
   exact (cU ak4).symm
 · rintro aw ⟨aP,bc,cW,a3,a4,a5,g0,jn⟩
   exact fin aw aP bc cW a3 a4 a5 g0 jn
end
end
section
def KU (fs:List Fr):Prop:=∀ (i j:Nat) (hi:i<fs.length) (a8:j<fs.length),(fs[i]).full=true→(fs[j]).full=true→(fs[i]).no=(fs[j]).no→i=j
theorem ZQ {fs gs:List Fr} {D aP:eG} {c b4 hd c' ak6 ak7 j:Nat} (ak8:KU fs) (ak9:KU gs) (U:∀ (i:Nat) (hi:i<fs.length),(fs[i]).full=true→(fs[i]).no=j→∃ (k:Nat) (ae:k<gs.length),(gs[k]).full=true∧(gs[k]).no=j∧(gs[k]).l=(fs[i]).l)
   (ad:(∀f∈fs,f.full=true→f.no≠j)→(∀f∈gs,f.full=true→f.no≠j)∧aP.now j=D.now j):(eY.mk c' ak6 gs ak7 aP).view j=(eY.mk c b4 fs hd D).view j:=by
 by_cases hex:∃ (k:Nat) (ae:k<fs.length),(fs[k]).full=true∧(fs[k]).no=j
 · obtain ⟨k,ae,aB,aF⟩:=hex
   obtain ⟨m,hm,a_,bw,ek⟩:=U k ae aB aF
   rw[C7 ak8 ae aB aF,C7 ak9 hm a_ bw,ek]
 · have dc:∀f∈fs,f.full=true→f.no≠j:=fun f aG U ad=>by
     obtain ⟨k,ae,rfl⟩:=mS aG
     exact hex ⟨k,ae,U,ad⟩
   obtain ⟨a_,bw⟩:=ad dc
   rw[C8 dc,C8 a_,bw]
section
variable {w w':World} {C:eY} {X:Nat→Prop}
theorem ZR {i:Nat} (hi:i<C.aE.length) {no:Nat} {V:Nat→Prop} (h:qX X w C) (al:ao V w w') (tX:∀q,q<w.heap.size→V q→jG C q) {aP:eG} (aC:aP.n=C.D.n) (sr:∀j,aP.now j=C.D.now j) (ug:∀q,nr aP q↔nr C.D q)
   (hJ:Fr) (l7:hJ.full=true) (C6:hJ.pins=0) (ed:ZG X w' {C with aE:=C.aE.set i hJ,D:=aP} hJ no) (dc:∀ (k:Nat) (ae:k<C.aE.length),k≠i→(C.aE[k]).full=true→(C.aE[k]).no≠no):qX X w' {C with aE:=C.aE.set i hJ,D:=aP}:=by
 have dH:=al.size
 have vC:∀q,jG {C with aE:=C.aE.set i hJ,D:=aP} q→jG C q:=fun q aG=>by
   rcases aG with U|U|U
   · exact .inl U
   · exact .inr (.inl U)
   · exact .inr (.inr ((ug q).1 U))
 refine ⟨fun f aG=> ?_,fun f aG nR=> ?_,fun a b aU ab U ad au=> ?_,fun q J=>⟨lv (h.nu q J).1 dH,fun aG=>(h.nu q J).2 (vC q aG)⟩⟩
 · rcases EU aG with aG|rfl
   · exact h.pins f aG
   · exact C6
 · obtain ⟨k,ae,rfl⟩:=mS aG
   have jW:k<C.aE.length:=by simpa using ae
   by_cases e:i=k
   · subst e
     simp only[uV]
     exact ⟨no,ed⟩
   · simp only[mV e] at nR⊢
     obtain ⟨m,aB,aF,aJ,aM,cU⟩:=h.ok _ (fh jW) nR
     exact ⟨m,aB,by show m<aP.n;rw[aC];exact aF,bL.SU aJ al (fun q J ab ak=>ab.1 (tX q J ak)) fun q _ ab=>⟨fun aG=>ab.1 (vC q aG),ab.2⟩,aM,fun hd=>by show _=aP.now m;rw[sr];exact cU hd⟩
 · have ow:a<C.aE.length:=by simpa using aU
   have kx:b<C.aE.length:=by simpa using ab
   by_cases m0:i=a
   · by_cases nS:i=b
     · omega
     · subst m0
       simp only[uV] at au
       simp only[mV nS] at ad au
       exact absurd (by rw[←au];exact ed.num) (dc b kx (fun e=>nS e.symm) ad)
   · by_cases nS:i=b
     · subst nS
       simp only[uV] at au
       simp only[mV m0] at U au
       exact absurd (by rw[au];exact ed.num) (dc a ow (fun e=>m0 e.symm) U)
     · simp only[mV m0] at U au
       simp only[mV nS] at ad au
       exact h.un a b ow kx U ad au
theorem ak_ {i:Nat} (hi:i<C.aE.length) {no:Nat} (h:KU C.aE) (hJ:Fr) (xu:hJ.no=no) (dc:∀ (k:Nat) (ae:k<C.aE.length),k≠i→(C.aE[k]).full=true→(C.aE[k]).no≠no):KU (C.aE.set i hJ):=by
 intro a b aU ab U ad au
 have ow:a<C.aE.length:=by simpa using aU
 have kx:b<C.aE.length:=by simpa using ab
 by_cases m0:i=a
 · by_cases nS:i=b
   · omega
   · subst m0
     simp only[uV] at au
     simp only[mV nS] at ad au
     exact absurd (by rw[←au];exact xu) (dc b kx (fun e=>nS e.symm) ad)
 · by_cases nS:i=b
   · subst nS
     simp only[uV] at au
     simp only[mV m0] at U au
     exact absurd (by rw[au];exact xu) (dc a ow (fun e=>m0 e.symm) U)
   · simp only[mV m0] at U au
     simp only[mV nS] at ad au
     exact h a b ow kx U ad au
theorem ZS {i:Nat} (hi:i<C.aE.length) {no:Nat} (h:KU C.aE) {aP:eG} (sr:∀j,aP.now j=C.D.now j) (hJ:Fr) (l7:hJ.full=true) (xu:hJ.no=no) (hold:(C.aE[i]).full=true→(C.aE[i]).no=no) (dc:∀ (k:Nat) (ae:k<C.aE.length),k≠i→(C.aE[k]).full=true→(C.aE[k]).no≠no) {hd:Nat} (j:Nat):
   (eY.mk C.c C.b4 (C.aE.set i hJ) hd aP).view j=if j=no then hJ.l else C.view j:=by
 have hu:=ak_ hi h hJ xu dc
 have ft:i<(C.aE.set i hJ).length:=by simpa using hi
 by_cases e:j=no
 · subst e
   rw[if_pos rfl,C7 hu ft (by simp[l7]) (by simpa using xu)]
   simp
 · rw[if_neg e]
   refine ZQ (fs:=C.aE) (D:=C.D) (c:=C.c) (b4:=C.b4) (hd:=C.hand) h hu (fun k ae aB aF=> ?_) fun fw=>⟨fun f aG aB aF=> ?_,sr j⟩
   · have lj:i≠k:=fun bw=>by
       subst bw
       have:=hold aB
       rw[aF] at this
       exact e (by omega)
     have dW:k<(C.aE.set i hJ).length:=by simpa using ae
     exact ⟨k,dW,by simp only[mV lj];exact aB,by simp only[mV lj];exact aF,by simp only[mV lj]⟩
   · rcases EU aG with aG|rfl
     · exact fw f aG aB aF
     · rw[xu] at aF
       exact e (by omega)
def ala (X:Nat→Prop) (C:eY) (no:Nat) (w:World) (v:Value) (w':World):Prop:=
 ∃bx:eY,mZ X w' bx∧lG C bx w w' 2∧(∀j,bx.view j=C.view j)∧
   ((∃s:aa,v= .tuple #[.slice s.a s.len s.cap, .int .i64 0]∧bL (fun q=>w.heap.size≤q∧¬jG bx q∧¬X q) w' s (C.view no))∨(v= .tuple #[.slice none 0 0, .int .i64 3]∧¬C.D.calm 2))
theorem alb (h:mZ X w C) (gC:C.D.cX≤999999999) {no:Nat} (dc:no<C.D.n):aO Tryz.prog F.Da #[.pointer (some ⟨C.c,0,none⟩), .int .i64 ((no:Nat):Int)] w (ala X C no w):=by
 have nT:=h.raw
 refine W.alc (some ⟨C.c,0,none⟩) ((no:Nat):Int) w _ ?_
 (delta W.Da bd aA AM st aq dK xv gk;dsimp only)
 refine (ZH nT _).use ?_
 rintro _ _ ⟨rfl,rfl⟩
 refine ⟨_,rfl,fun ab=> ?_,fun _=>(SS nT _).use ?_⟩
 · have:decide (0≤((no:Nat):Int)∧((no:Nat):Int)<C.D.n)=true:=iB ⟨by omega,by omega⟩
   rw[this] at ab;cases ab
 rintro _ _ ⟨pO,rfl⟩
 rcases pO with ⟨i,hi,rfl,aG,aC⟩|⟨rfl,OJ⟩
 ·
   obtain ⟨aB,aF,aJ,aM⟩:=FB nT.f hi (j:=2) (by decide) (v:= .bool true) {C.aE[i] with used:=true} rfl
   have oO:qY C.aE (C.aE.set i {C.aE[i] with used:=true}):=(qY.refl C.aE).set hi true
   have qe:ao (jG C) w (w.setCell ⟨C.b4,i*6+2,none⟩ (.bool true)):=aM.mono fun q _ e=> .inr (.inl e)
   have hinv:=OG (hd:=C.hand) (aP:=C.D) h.inv oO qe (fun q _ h=>h) rfl (fun _=>rfl) fun q J=> .inl J
   have ak:=OH (hd:=C.hand) (aP:=C.D) h.inv oO fun _=>rfl
   obtain ⟨ag,xn⟩:∃ag,ag=w.setCell ⟨C.b4,i*6+2,none⟩ (.bool true):=⟨_,rfl⟩
   rw[←xn] at aJ aM qe hinv
   have aN:l6 ag {C with aE:=C.aE.set i {C.aE[i] with used:=true}}:=by
     refine ⟨?_,aJ,nT.dev.an aM (fun q J e=>nT.bc.2.2 (e▸J)),?_,?_,?_,nT.bc⟩
     · have:=nT.v.an aM nT.bc.1
       show Var _ _ [_, .slice _ (C.aE.set i _).length (C.aE.set i _).length,_] _
       rw[jv];exact this
     · show 8≤(C.aE.set i _).length;rw[jv];exact nT.dB
     · show (C.aE.set i _).length≤64;rw[jv];exact nT.dZ
     · show C.hand<(C.aE.set i _).length;rw[jv];exact nT.hd
   obtain ⟨bk,xt⟩:∃bk:eY,bk={C with aE:=C.aE.set i {C.aE[i] with used:=true}}:=⟨_,rfl⟩
   have nU:mZ X ag bk:=by rw[xt];exact ⟨aN,hinv⟩
   have h4:i<(C.aE.set i {C.aE[i] with used:=true}).length:=by simpa using hi
   have f5:=xp aJ h4 (j:=5) (by decide)
   obtain ⟨m,dB,dZ,mF,lH,oL⟩:=hinv.ok ((C.aE.set i {C.aE[i] with used:=true})[i]) (fh h4) (by simp[aG])
   have NT:((C.aE.set i {C.aE[i] with used:=true})[i]).b=(C.aE[i]).b:=by simp
   have ZT:((C.aE.set i {C.aE[i] with used:=true})[i]).l=(C.aE[i]).l:=by simp
   rw[NT,ZT] at mF
   rw[ZT] at lH
   refine ⟨_,rfl,fun _=>⟨_,rfl,by rw[aX];exact aB,by rw[aX];exact aF,?_⟩,fun h=>(by cases h)⟩
   rw[aX,←xn]
   refine bN ⟨_,rfl,(C.aE[i]).b,by rw[aX,f5];simp[Fr.c],(vb (B:=fun q=>ag.heap.size≤q) mF.1 (by rw[lH];omega) (fun q J=>J)).use ?_⟩
   rintro _ aw ⟨s,rfl,aj,cB,_⟩
   have ald:C.view no=(C.aE[i]).l:=C7 (fs:=C.aE) (D:=C.D) (c:=C.c) (b4:=C.b4) (hd:=C.hand) h.inv.un hi aG aC
   have nH:=qe.size
   refine ⟨s,rfl,bk,nU.ext cB,?_,?_, .inl ⟨s,rfl,?_⟩⟩
   · rw[xt]
     exact ⟨rfl,rfl,by show (C.aE.set i _).length=_;rw[jv],rfl,Nat.le_add_right _ _,fun m hm=>nt hm (by omega),qe.trans (ao.eT cB),fun q J=> .inl J⟩
   · intro j;rw[xt];exact ak j
   · rw[ald]
     refine bL.bz aj fun q _ J=>⟨by omega,fun aG=> ?_,fun ee=> ?_⟩
     · have:=nU.raw.lt aG;omega
     · have:=(nU.inv.nu q ee).1;omega
 ·
   refine ⟨_,rfl,fun h=>(by cases h),fun _=>(ZM h (by omega)).use ?_⟩
   rintro _ ag ⟨bk,lI,g7,xw,mC,ij,aN⟩
   rcases aN with ⟨i,hi,rfl,SX,C6⟩|⟨rfl,SY⟩
   · refine ⟨_,_,rfl,fun h=>(by simp at h),fun _=>⟨_,rfl,some ⟨C.D.d,0,none⟩,?_,?_⟩⟩
     · have:=lI.raw.cells.1
       rw[g7.c,g7.d] at this
       exact this
     have SZ:no<bk.D.n:=by rw[g7.n];exact dc
     have HW:=g7.cX
     rw[←g7.d]
     refine (akD lI.raw.dev SZ (by omega)).use ?_
     rintro v2 aw ⟨lY,dS,eZ⟩
     have wR:=fun q=>lI.raw.lt (q:=q)
     have S0:ao (jG bk) ag aw:=dS.mono fun q _ e=> .inr (.inr (.inl e))
     have ld:∀f∈bk.aE,f.full=true→f.no≠no:=fun f aG l7 Db=>by
       obtain ⟨g,bg,U,ad⟩:=ij f aG l7
       exact OJ g bg U (by rw[ad,Db])
     have ale:bk.D.calm 1∨¬C.D.calm 2:=by
       rcases Classical.em (C.D.calm 2) with U|U
       · exact .inl (g7.calm 1 U)
       · exact .inr U
     have ZU:bk.view no=bk.D.now no:=C8 (fs:=bk.aE) (D:=bk.D) (c:=bk.c) (b4:=bk.b4) (hd:=bk.hand) ld
     have c5:∀q,nr bk.D q→q≠bk.c∧q≠bk.b4:=fun q J=>⟨fun e=>lI.raw.bc.2.1 (e▸J),fun e=>lI.raw.bc.2.2 (e▸J)⟩
     have alf:qX X aw {bk with D:=bk.D.jF 1}:=OG (C:=bk) (hd:=bk.hand) (aP:=bk.D.jF 1) lI.inv (qY.refl _) S0 (fun q _ h=>h) rfl (fun _=>rfl) fun q J=> .inl J
     have ie:lG C {bk with D:=bk.D.jF 1} w aw 2:=by
       have:lG bk {bk with D:=bk.D.jF 1} ag aw 1:=⟨rfl,rfl,rfl,rfl,z1 _,fun m hm=>(KS (.inl rfl) lI.raw.dev.f4 hm).1,S0,fun q J=> .inl J⟩
       exact g7.trans this
     have gR:∀j,({bk with D:=bk.D.jF 1}:eY).view j=C.view j:=fun j=>by rw[←mC];exact OH (C:=bk) lI.inv (qY.refl _) (fun _=>rfl) j
     have S1:l6 aw {bk with D:=bk.D.jF 1}:=⟨lI.raw.v.an dS (fun e=>(c5 _ (.inl rfl)).1 e.symm),cr.an lI.raw.f dS (fun e=>(c5 _ (.inl rfl)).2 e.symm),lY,lI.raw.dB,lI.raw.dZ,lI.raw.hd,lI.raw.bc⟩
     rcases eZ with ⟨ab,rfl⟩|⟨ab,s,rfl,aj⟩
     · refine ⟨⟨none,0,0⟩,3,rfl,fun _=>⟨{bk with D:=bk.D.jF 1},⟨S1,alf⟩,ie,gR, .inr ⟨rfl,?_⟩⟩,fun h=>(by simp at h)⟩
       rcases ale with U|U
       · have:=(KS (k:=1) (m:=0) (.inl rfl) lI.raw.dev.f4 U).2
         rw[ab] at this;cases this
       · exact U
     · have sq:(bk.D.now no).length=256:=lI.raw.dev.Oy SZ
       obtain ⟨s1,s2,b1⟩:=SR S1.f hi ⟨true,false,true,((no:Nat):Int),0,s,bk.D.now no⟩
       rw[xw] at s1 s2 b1
       have u5:=dS.size
       have nH:=g7.an.size
       refine ⟨s,_,rfl,fun h=>(by simp at h),fun _=>⟨_,rfl,s1,rfl,?_⟩⟩
       obtain ⟨aS,nh⟩:∃aS,aS=setCells aw ⟨C.b4,i*6,none⟩ 0 (Fr.c ⟨true,false,true,((no:Nat):Int),0,s,bk.D.now no⟩):=⟨_,rfl⟩
       rw[←nh] at s2 b1
       have bg:setCells aw ⟨C.b4,i*6,none⟩ 0 [.bool true, .bool false, .bool true, .int .i64 ((no:Nat):Int), .int .i64 0, .slice s.a s.len s.cap]=aS:=nh.symm
       rw[bg]
       have ZV:ao (jG bk) aw aS:=b1.mono fun q _ e=> .inr (.inl (by rw[xw];exact e))
       have va:bL (fun q=>ag.heap.size≤q) aS s (bk.D.now no):=bL.an aj b1 fun q J e=>by
         have:=wR C.b4 (.inr (.inl xw.symm));omega
       have SW:qX X aS {bk with aE:=bk.aE.set i ⟨true,false,true,((no:Nat):Int),0,s,bk.D.now no⟩,D:=bk.D.jF 1}:=by
         refine ZR (w:=ag) (V:=jG bk) (aP:=bk.D.jF 1) hi (no:=no) lI.inv (S0.trans ZV) (fun q _ h=>h) rfl (fun _=>rfl) (fun q=>Iff.rfl) ⟨true,false,true,((no:Nat):Int),0,s,bk.D.now no⟩ rfl rfl ⟨rfl,SZ,?_,sq,fun _=>rfl⟩ fun k ae _ U=>ld _ (fh ae) U
         refine bL.bz va fun q _ J=>⟨fun aG=> ?_,fun ee=> ?_⟩
         · have:jG bk q:=aG
           have:=wR q this;omega
         · have:=(lI.inv.nu q ee).1;omega
       have lZ:∀j,({bk with aE:=bk.aE.set i ⟨true,false,true,((no:Nat):Int),0,s,bk.D.now no⟩,D:=bk.D.jF 1}:eY).view j=C.view j:=fun j=>by
         have:=ZS (hd:=bk.hand) (aP:=bk.D.jF 1) hi (no:=no) lI.inv.un (fun _=>rfl) ⟨true,false,true,((no:Nat):Int),0,s,bk.D.now no⟩ rfl rfl (fun U=>by rw[SX] at U;cases U) (fun k ae _ U=>ld _ (fh ae) U) j
         rw[show ({bk with aE:=bk.aE.set i ⟨true,false,true,((no:Nat):Int),0,s,bk.D.now no⟩,D:=bk.D.jF 1}:eY)=eY.mk bk.c bk.b4 (bk.aE.set i ⟨true,false,true,((no:Nat):Int),0,s,bk.D.now no⟩) bk.hand (bk.D.jF 1) from rfl,this]
         by_cases e:j=no
         · rw[if_pos e,e,←mC,ZU]
         · rw[if_neg e,mC]
       have alg:l6 aS {bk with aE:=bk.aE.set i ⟨true,false,true,((no:Nat):Int),0,s,bk.D.now no⟩,D:=bk.D.jF 1}:=by
         refine ⟨?_,by show cr _ bk.b4 _ _;rw[xw];exact s2,lY.an b1 (fun q J e=>(c5 q J).2 (by rw[xw];exact e)),?_,?_,?_,lI.raw.bc⟩
         · have:=S1.v.an b1 (fun e=>lI.raw.bc.1 (by rw[xw];exact e))
           show Var _ _ [_, .slice _ (bk.aE.set i _).length (bk.aE.set i _).length,_] _
           rw[jv];exact this
         · show 8≤(bk.aE.set i _).length;rw[jv];exact lI.raw.dB
         · show (bk.aE.set i _).length≤64;rw[jv];exact lI.raw.dZ
         · show bk.hand<(bk.aE.set i _).length;rw[jv];exact lI.raw.hd
       obtain ⟨HX,S2⟩:∃HX:eY,HX={bk with aE:=bk.aE.set i ⟨true,false,true,((no:Nat):Int),0,s,bk.D.now no⟩,D:=bk.D.jF 1}:=⟨_,rfl⟩
       have S3:mZ X aS HX:=by rw[S2];exact ⟨alg,SW⟩
       have alh:lG C HX w aS 2:=by
         rw[S2]
         exact ⟨ie.c,ie.d,by show (bk.aE.set i _).length=_;rw[jv];exact ie.len,ie.gp,ie.cX,ie.calm,l5 ie.an ZV fun q J h=>(ie.jH q h).resolve_right (by omega),ie.jH⟩
       refine bN ((vb (B:=fun q=>aS.heap.size≤q) va.1 (by rw[sq];omega) (fun q J=>J)).use ?_)
       rintro _ bp ⟨t,rfl,aR,fz,_⟩
       have CM:=b1.size
       refine ⟨t,rfl,HX,S3.ext fz,?_,?_, .inl ⟨t,rfl,?_⟩⟩
       · exact (alh.trans (lG.ext HX fz)).mono (by omega)
       · intro j;rw[S2];exact lZ j
       · rw[←mC,ZU]
         refine bL.bz aR fun q _ J=>⟨by omega,fun aG=> ?_,fun ee=> ?_⟩
         · have:=S3.raw.lt aG;omega
         · have:=(S3.inv.nu q ee).1;omega
   · refine ⟨_,_,rfl,fun _=>⟨bk,lI,g7.mono (by omega),mC, .inr ⟨rfl,fun al=>SY (nt al (by omega))⟩⟩,fun h=>(by simp at h)⟩
end
end
section
section
variable {w w':World} {C:eY} {X:Nat→Prop}
def ZW (X:Nat→Prop) (C:eY) (no:Nat) (l:lF) (w:World) (v:Value) (w':World):Prop:=
 ∃bx:eY,mZ X w' bx∧lG C bx w w' 1∧
   ((v= .int .i64 0∧∀j,bx.view j=if j=no then l else C.view j)∨(v= .int .i64 3∧¬C.D.calm 1∧∀j,bx.view j=C.view j))
theorem ZX {i:Nat} {hJ:Fr} (h:l6 w C) (al:ao (fun q=>q=C.b4) w w') (ab:cr w' C.b4 (cL Fr.c (C.aE.set i hJ)).toArray ah.rJ):l6 w' {C with aE:=C.aE.set i hJ}:=by
 refine ⟨?_,ab,h.dev.an al (fun q J e=>h.bc.2.2 (e▸J)),?_,?_,?_,h.bc⟩
 · have:=h.v.an al h.bc.1
   show Var _ _ [_, .slice _ (C.aE.set i _).length (C.aE.set i _).length,_] _
   rw[jv];exact this
 · show 8≤(C.aE.set i _).length;rw[jv];exact h.dB
 · show (C.aE.set i _).length≤64;rw[jv];exact h.dZ
 · show C.hand<(C.aE.set i _).length;rw[jv];exact h.hd
theorem set_set {fs:List Fr} {i:Nat} (f g:Fr):(fs.set i f).set i g=fs.set i g:=List.set_set ..
theorem ali (h:mZ X w C) (gC:C.D.cX≤999999999) {no:Nat} (dc:no<C.D.n) {b:aa} {l:lF} (ab:Src 1 w b (bo l)) (az:l.length=256) (mE:∀q,aQ b q→q<w.heap.size∧¬jG C q):
   aO Tryz.prog F.Dc #[.pointer (some ⟨C.c,0,none⟩), .int .i64 ((no:Nat):Int), .slice b.a b.len b.cap] w (ZW X C no l w):=by
 have nT:=h.raw
 have wE:=len8 ab
 refine W.alj (some ⟨C.c,0,none⟩) ((no:Nat):Int) b w _ ?_
 (delta W.Dc bd aA AM xv st dK;dsimp only)
 refine (ZH nT _).use ?_
 rintro _ _ ⟨rfl,rfl⟩
 have fp:decide (0≤((no:Nat):Int)∧((no:Nat):Int)<C.D.n)=true:=iB ⟨by omega,by omega⟩
 refine ⟨_,rfl,fun U=> ?_,fun _=>(SS nT _).use ?_⟩
 · rw[fp,wE,az] at U
   simp at U
 rintro _ _ ⟨pO,rfl⟩
 have fin:∀ (ag:World) (bk:eY) (i:Nat) (hi:i<bk.aE.length) (f1:Fr),mZ X ag bk→lG C bk w ag 1→bk.b4=C.b4→(∀j,bk.view j=C.view j)→f1.pins=0→∀aw:World,cr aw bk.b4 (cL Fr.c (bk.aE.set i f1)).toArray ah.rJ→ao (fun q=>q=bk.b4) ag aw→f1.full=true→f1.no=((no:Nat):Int)→
     ((bk.aE[i]).full=true→(bk.aE[i]).no=((no:Nat):Int))→(∀ (k:Nat) (ae:k<bk.aE.length),k≠i→(bk.aE[k]).full=true→(bk.aE[k]).no≠((no:Nat):Int))→
     Calls Tryz.prog F.mm #[.slice b.a b.len b.cap] aw fun S4 eP=>∃fy:aa,S4= .returned (.slice fy.a fy.len fy.cap)∧∃kC:Addr,(some ⟨C.b4,i*6,none⟩:Option Addr)=some kC∧(∃u:Value,eP.cell? (kC.add 5)=some u)∧eP.frozen? (kC.add 5)=false∧
       ay (eP.setCell (kC.add 5) (.slice fy.a fy.len fy.cap)) fun dJ=>∃a23:Addr,(some ⟨C.b4,i*6,none⟩:Option Addr)=some a23∧(∃u:Value,dJ.cell? (a23.add 1)=some u)∧dJ.frozen? (a23.add 1)=false∧
       ay (dJ.setCell (a23.add 1) (.bool true)) fun cD=>∃a25:Addr,(some ⟨C.b4,i*6,none⟩:Option Addr)=some a25∧(∃u:Value,cD.cell? (a25.add 2)=some u)∧cD.frozen? (a25.add 2)=false∧
       ay (cD.setCell (a25.add 2) (.bool true)) fun cu=>ZW X C no l w (.int .i64 0) cu:=by
   intro ag bk i hi f1 nU cA vF ak C6 aw gu dS l7 xu hold ZY
   have nH:=cA.an.size
   have u5:=dS.size
   have di:bk.b4<ag.heap.size:=nU.raw.lt (.inr (.inl rfl))
   have alk:Src 1 aw b (bo l):=by
     refine (ab.an cA.an fun q J aG=>(mE q J).2 aG).an dS fun q J e=>(mE q J).2 (.inr (.inl (by rw[←vF];exact e)))
   refine (vb (B:=fun q=>aw.heap.size≤q) alk (by omega) (fun q J=>J)).use ?_
   rintro _ aS ⟨s,rfl,aj,eS,_⟩
   have HG:=cr.ext gu eS
   have r_:i<(bk.aE.set i f1).length:=by rw[jv];exact hi
   have gY:(bk.aE.set i f1)[i]=f1:=by simp
   obtain ⟨bc,cW,a3,a4⟩:=FB HG r_ (j:=5) (by decide) (v:= .slice s.a s.len s.cap) {f1 with b:=s} (by rw[gY];rfl)
   rw[set_set] at a3
   have alm:i<(bk.aE.set i {f1 with b:=s}).length:=by rw[jv];exact hi
   have a_:(bk.aE.set i {f1 with b:=s})[i]={f1 with b:=s}:=by simp
   obtain ⟨da,cI,eM,e7⟩:=FB a3 alm (j:=1) (by decide) (v:= .bool true) {f1 with b:=s,xo:=true} (by rw[a_];rfl)
   rw[set_set] at eM
   have aln:i<(bk.aE.set i {f1 with b:=s,xo:=true}).length:=by rw[jv];exact hi
   have bw:(bk.aE.set i {f1 with b:=s,xo:=true})[i]={f1 with b:=s,xo:=true}:=by simp
   obtain ⟨d1,d2,d3,d4⟩:=FB eM aln (j:=2) (by decide) (v:= .bool true) {f1 with b:=s,xo:=true,used:=true,l:=l} (by rw[bw];rfl)
   rw[set_set] at d3
   rw[vF] at bc cW a3 a4 da cI eM e7 d1 d2 d3 d4 dS
   refine ⟨s,rfl,_,rfl,by rw[aX];exact bc,by rw[aX];exact cW,?_⟩
   rw[aX]
   refine bN ⟨_,rfl,by rw[aX];exact da,by rw[aX];exact cI,?_⟩
   rw[aX]
   refine bN ⟨_,rfl,by rw[aX];exact d1,by rw[aX];exact d2,?_⟩
   rw[aX]
   have qK:=(dS.trans (ao.eT eS)).trans (a4.trans (e7.trans d4))
   obtain ⟨hJ,y2⟩:∃hJ:Fr,hJ={f1 with b:=s,xo:=true,used:=true,l:=l}:=⟨_,rfl⟩
   obtain ⟨bf,yC⟩:∃bf,bf=(((aS.setCell ⟨C.b4,i*6+5,none⟩ (.slice s.a s.len s.cap)).setCell ⟨C.b4,i*6+1,none⟩ (.bool true)).setCell ⟨C.b4,i*6+2,none⟩ (.bool true)):=⟨_,rfl⟩
   rw[←yC,←y2] at d3
   rw[←yC] at qK⊢
   have alo:bL (fun q=>aw.heap.size≤q) bf s l:=by
     have U:=bL.an aj a4 fun q J e=>by rw[←vF] at e;omega
     have ad:=bL.an U e7 fun q J e=>by rw[←vF] at e;omega
     have au:=bL.an ad d4 fun q J e=>by rw[←vF] at e;omega
     rw[yC];exact au
   have alp:l6 bf {bk with aE:=bk.aE.set i hJ}:=ZX nU.raw (by rw[vF];exact qK) (by rw[vF];exact d3)
   have alq:qX X bf {bk with aE:=bk.aE.set i hJ}:=by
     refine ZR (w:=ag) (V:=fun q=>q=C.b4) (aP:=bk.D) hi (no:=no) nU.inv qK (fun q _ e=> .inr (.inl (by rw[vF];exact e))) rfl (fun _=>rfl) (fun q=>Iff.rfl) hJ (by rw[y2];exact l7) (by rw[y2];exact C6) ⟨by rw[y2];exact xu,by show no<bk.D.n;rw[cA.n];exact dc,?_,by rw[y2];exact az,fun hd=>by rw[y2] at hd;cases hd⟩ ZY
     rw[y2]
     refine bL.bz alo fun q _ J=>⟨fun aG=> ?_,fun ee=> ?_⟩
     · have:jG bk q:=aG
       have:=nU.raw.lt this;omega
     · have:=(nU.inv.nu q ee).1;omega
   refine bN ⟨{bk with aE:=bk.aE.set i hJ},⟨alp,alq⟩,⟨cA.c,cA.d,by show (bk.aE.set i _).length=_;rw[jv];exact cA.len,cA.gp,cA.cX,cA.calm,l5 cA.an qK fun q J e=> .inr (.inl e),cA.jH⟩, .inl ⟨rfl,fun j=> ?_⟩⟩
   have:=ZS (C:=bk) (hd:=bk.hand) (aP:=bk.D) hi (no:=no) nU.inv.un (fun _=>rfl) hJ (by rw[y2];exact l7) (by rw[y2];exact xu) hold ZY j
   rw[show ({bk with aE:=bk.aE.set i hJ}:eY)=eY.mk bk.c bk.b4 (bk.aE.set i hJ) bk.hand bk.D from rfl,this,ak]
   rw[y2]
 rcases pO with ⟨i,hi,rfl,aG,aC⟩|⟨rfl,OJ⟩
 · refine ⟨_,rfl,eN (fun p w'=>p=some ⟨C.b4,i*6,none⟩∧w=w') (fun q J=>⟨fun h=>(by cases h),fun _=>J _ _ ⟨rfl,rfl⟩⟩) ?_⟩
   rintro _ _ ⟨rfl,rfl⟩
   have e:C.aE.set i C.aE[i]=C.aE:=List.set_getElem_self _
   exact fin w C i hi C.aE[i] h ((lG.refl C w).mono (fm _)) rfl (fun _=>rfl) (h.inv.pins _ (fh hi)) w (by rw[e];exact nT.f) (.refl _ _) aG aC (fun _=>aC) fun k ae lj U ad=>lj (h.inv.un k i ae hi U aG (by rw[ad,aC]))
 · refine ⟨_,rfl,eN (fun p aw=>∃ (ag:World) (bk:eY) (i:Nat) (hi:i<bk.aE.length) (f1:Fr),p=some ⟨C.b4,i*6,none⟩∧mZ X ag bk∧lG C bk w ag 1∧bk.b4=C.b4∧(∀j,bk.view j=C.view j)∧f1.pins=0∧cr aw bk.b4 (cL Fr.c (bk.aE.set i f1)).toArray ah.rJ∧ao (fun q=>q=bk.b4) ag aw∧f1.full=true∧f1.no=((no:Nat):Int)∧
     ((bk.aE[i]).full=true→(bk.aE[i]).no=((no:Nat):Int))∧(∀ (k:Nat) (ae:k<bk.aE.length),k≠i→(bk.aE[k]).full=true→(bk.aE[k]).no≠((no:Nat):Int))) (fun q J=>⟨fun _=>(ZM h (by omega)).use ?_,fun h=>(by cases h)⟩) ?_⟩
   · rintro _ ag ⟨bk,lI,g7,xw,mC,ij,aN⟩
     have ld:∀f∈bk.aE,f.full=true→f.no≠((no:Nat):Int):=fun f aG l7 Db=>by
       obtain ⟨g,bg,U,ad⟩:=ij f aG l7
       exact OJ g bg U (by rw[ad,Db])
     rcases aN with ⟨i,hi,rfl,SX,C6⟩|⟨rfl,SY⟩
     · obtain ⟨bc,cW,a3,a4⟩:=FB lI.raw.f hi (j:=0) (by decide) (v:= .bool true) {bk.aE[i] with full:=true} rfl
       have r_:i<(bk.aE.set i {bk.aE[i] with full:=true}).length:=by rw[jv];exact hi
       have gY:(bk.aE.set i {bk.aE[i] with full:=true})[i]={bk.aE[i] with full:=true}:=by simp
       obtain ⟨da,cI,eM,e7⟩:=FB a3 r_ (j:=3) (by decide) (v:= .int .i64 ((no:Nat):Int)) {bk.aE[i] with full:=true,no:=((no:Nat):Int)} (by rw[gY];rfl)
       rw[set_set] at eM
       rw[xw] at bc cW da cI eM a4 e7
       refine ⟨_,_,rfl,fun h=>(by simp at h),fun _=>⟨_,rfl,bc,cW,bN ⟨_,rfl,by rw[aX];exact da,by rw[aX];exact cI,bN ?_⟩⟩⟩
       rw[aX]
       exact J _ _ ⟨ag,bk,i,hi,{bk.aE[i] with full:=true,no:=((no:Nat):Int)},rfl,lI,g7,xw,mC,C6,by rw[xw];exact eM,by rw[xw];exact a4.trans e7,rfl,rfl,fun U=>(by rw[SX] at U;cases U),fun k ae _ U=>ld _ (fh ae) U⟩
     · exact ⟨_,_,rfl,fun _=>⟨bk,lI,g7, .inr ⟨rfl,SY,mC⟩⟩,fun h=>(by simp at h)⟩
   · rintro p aw ⟨ag,bk,i,hi,f1,rfl,aB,aF,aJ,aM,cU,vG,KV,alr,als,alt,alu⟩
     exact fin ag bk i hi f1 aB aF aJ aM cU aw vG KV alr als alt alu
theorem alv (h:mZ X w C) (no:Nat):aO Tryz.prog F.Dd #[.pointer (some ⟨C.c,0,none⟩), .int .i64 ((no:Nat):Int)] w (fun v w'=>(∃b:Bool,v= .bool b)∧∃bx:eY,mZ X w' bx∧lG C bx w w' 0∧∀j,j≠no→bx.view j=C.view j):=by
 have nT:=h.raw
 refine W.alw (some ⟨C.c,0,none⟩) ((no:Nat):Int) w _ ?_
 (delta W.Dd AM aA bK;dsimp only)
 refine (SS nT _).use ?_
 rintro _ _ ⟨pO,rfl⟩
 rcases pO with ⟨i,hi,rfl,aG,aC⟩|⟨rfl,OJ⟩
 · have f4:=xp nT.f hi (j:=4) (by decide)
   have aW:=h.inv.pins _ (fh hi)
   refine ⟨_,rfl,eN (fun b w'=>b=false∧w=w') (fun q J=>⟨fun h=>(by cases h),fun _=>⟨_,rfl,(C.aE[i]).pins,by rw[aX];exact f4,J _ _ ⟨by rw[aW];rfl,rfl⟩⟩⟩) ?_⟩
   rintro _ _ ⟨rfl,rfl⟩
   obtain ⟨s1,s2,b1⟩:=SR nT.f hi hW
   refine ⟨fun h=>(by cases h),fun _=>⟨_,rfl,s1,rfl,bN ⟨⟨true,rfl⟩,{C with aE:=C.aE.set i hW},⟨ZX nT b1 s2,?_⟩,?_,fun j a8=> ?_⟩⟩⟩
   · exact ZK (V:=fun q=>q=C.b4) (aP:=C.D) hi h.inv b1 (fun q _ e=> .inr (.inl e)) rfl (fun _ _=>rfl) (fun q h=> .inl h) hW rfl rfl
   · exact ⟨rfl,rfl,by show (C.aE.set i _).length=_;rw[jv],rfl,cR _,fun _ h=>h,b1.mono fun q _ e=> .inr (.inl e),fun q h=> .inl h⟩
   · refine ZQ (fs:=C.aE) (D:=C.D) (c:=C.c) (b4:=C.b4) (hd:=C.hand) h.inv.un (fun a b aU ab U ad au=> ?_) (fun k ae aB aF=> ?_) fun fw=>⟨fun f aG aB aF=> ?_,rfl⟩
     · have ow:a<C.aE.length:=by simpa using aU
       have kx:b<C.aE.length:=by simpa using ab
       by_cases m0:i=a
       · subst m0
         simp[hW] at U
       by_cases nS:i=b
       · subst nS
         simp[hW] at ad
       simp only[mV m0] at U au
       simp only[mV nS] at ad au
       exact h.inv.un a b ow kx U ad au
     · have lj:i≠k:=fun e=>by
         subst e
         rw[aC] at aF
         exact a8 (by omega)
       exact ⟨k,by rw[jv];exact ae,by simp only[mV lj];exact aB,by simp only[mV lj];exact aF,by simp only[mV lj]⟩
     · rcases EU aG with aG|rfl
       · exact fw f aG aB aF
       · cases aB
 · refine ⟨_,rfl,eN (fun b w'=>b=true∧w=w') (fun q J=>⟨fun _=>J _ _ ⟨rfl,rfl⟩,fun h=>(by cases h)⟩) ?_⟩
   rintro _ _ ⟨rfl,rfl⟩
   exact ⟨fun _=>⟨⟨false,rfl⟩,C,h,lG.refl C w,fun _ _=>rfl⟩,fun h=>(by cases h)⟩
end
theorem alx (n:Nat):pC Tryz.prog ah.rJ n=(cL Fr.c (List.replicate n hW)).toArray:=by
 have bO:((Tryz.prog.info? ah.rJ).bind (·.zero)).map (·.cells)=some hW.c.toArray:=by kernel_rfl
 have al:Tryz.prog.cellsOf ah.rJ=6:=by kernel_rfl
 unfold pC
 rw[al]
 cases hi:(Tryz.prog.info? ah.rJ).bind (·.zero) with
 |none=>rw[hi] at bO;cases bO
 |some z=>
   rw[hi] at bO
   simp only[yf,Option.some.injEq] at bO
   simp only[Option.getD_some,bO]
   apply Array.ext
   · simp[ov (c:=Fr.c) (sz:=6) (List.replicate n hW) (fun x _=>rfl)]
   · intro i U ad
     have aC:n*6≠0:=by
       intro h
       simp[h] at U
     have fp:i<n*6:=by simpa using U
     simp only[aC,if_false,Array.getElem_map,Array.getElem_range,List.getElem_toArray]
     have dH:hW.c.toArray.size=6:=rfl
     have ba:i%6<6:=sT _ (by omega)
     have J:i/6<(List.replicate n hW).length:=by rw[G7];omega
     have bg:=KQ (c:=Fr.c) (sz:=6) (l:=List.replicate n hW) (fun x _=>rfl) (i:=i/6) (j:=i%6) J ba
     rw[show i/6*6+i%6=i by omega] at bg
     have Fs:i<(cL Fr.c (List.replicate n hW)).length:=by simpa using ad
     rw[gH Fs] at bg
     have he:((List.replicate n hW)[i/6]).c=hW.c:=by simp
     rw[he,gH (show i%6<hW.c.length from ba)] at bg
     have bg:=Option.some.inj bg
     rw[bg,dH,getElem!_pos hW.c.toArray (i%6) (by rw[dH];exact ba)]
     simp
def OK (c b4 k:Nat) (D:eG):eY:=⟨c,b4,List.replicate k hW,0,D⟩
theorem y3 {w:World} {D:eG} (h:kl w D) {k:Nat} (U:8≤k) (ad:k≤64):aO Tryz.prog F.y3 #[.pointer (some ⟨D.d,0,none⟩), .int .i64 ((k:Nat):Int)] w (fun v w'=>∃c b4:Nat,v= .tuple #[.pointer (some ⟨c,0,none⟩), .int .i64 0]∧mZ (fun _=>False) w' (OK c b4 k D)∧Ext w w'∧w.heap.size≤c∧w.heap.size≤b4):=by
 refine W.aly (some ⟨D.d,0,none⟩) ((k:Nat):Int) w _ ?_
 delta W.y3 aA yo ai
 refine ⟨fun h=> ?_,fun _=>⟨⟨by omega,by omega,by omega,by omega⟩,?_⟩⟩
 · simp only[Option.isNone_some,G6,wu,fx] at h;omega
 rw[alx,g9]
 have nq:=cr.new w (cL Fr.c (List.replicate k hW)).toArray ah.rJ
 have bG:=iP w (.cells (cL Fr.c (List.replicate k hW)).toArray ah.rJ)
 have nH:=J2 w (.cells (cL Fr.c (List.replicate k hW)).toArray ah.rJ)
 obtain ⟨ag,xn⟩:∃ag,ag=w.alloc (.cells (cL Fr.c (List.replicate k hW)).toArray ah.rJ):=⟨_,rfl⟩
 rw[←xn] at nq bG nH⊢
 refine bN (cx (vs:=[.pointer (some ⟨D.d,0,none⟩), .slice (some ⟨w.heap.size,0,none⟩) k k, .int .i64 0]) rfl fun aw gR cB u5=>⟨ag.heap.size,w.heap.size,rfl,⟨⟨?_,cr.ext nq cB,h.ext (bG.trans cB),?_,?_,?_,?_,?_,?_⟩,⟨fun f aG=> ?_,fun f aG nR=> ?_,fun i j hi a8 U=> ?_,fun q J=>J.elim⟩⟩,bG.trans cB,by omega,cR _⟩)
 · show Var _ _ [_, .slice _ (List.replicate k hW).length (List.replicate k hW).length,_] _
   rw[G7];exact gR
 · show 8≤(List.replicate k hW).length;simpa using U
 · show (List.replicate k hW).length≤64;simpa using ad
 · show 0<(List.replicate k hW).length;simp;omega
 · show ag.heap.size≠w.heap.size;omega
 · intro e
   have:=h.lt e
   have:ag.heap.size<w.heap.size:=this
   omega
 · intro e
   have:=h.lt e
   have:w.heap.size<w.heap.size:=this
   omega
 · rw[Ro aG];rfl
 · rw[Ro aG] at nR;cases nR
 · simp[OK,hW] at U
end
section
def xx (pb da cI eM e7 iu lk k4:Bool):Nat:=
 pb.toNat+2*da.toNat+4*cI.toNat+8*eM.toNat+16*e7.toNat+32*iu.toNat+64*lk.toNat+128*k4.toNat
def byteOf (f:Nat→Bool) (i:Nat):Nat:=xx (f (8*i)) (f (8*i+1)) (f (8*i+2)) (f (8*i+3)) (f (8*i+4)) (f (8*i+5)) (f (8*i+6)) (f (8*i+7))
theorem alz:∀pb da cI eM e7 iu lk k4:Bool,xx pb da cI eM e7 iu lk k4<256:=by decide+kernel
theorem alA:∀pb da cI eM e7 iu lk k4:Bool,
   (xx pb da cI eM e7 iu lk k4).testBit 0=pb∧(xx pb da cI eM e7 iu lk k4).testBit 1=da∧(xx pb da cI eM e7 iu lk k4).testBit 2=cI∧(xx pb da cI eM e7 iu lk k4).testBit 3=eM∧
   (xx pb da cI eM e7 iu lk k4).testBit 4=e7∧(xx pb da cI eM e7 iu lk k4).testBit 5=iu∧(xx pb da cI eM e7 iu lk k4).testBit 6=lk∧(xx pb da cI eM e7 iu lk k4).testBit 7=k4:=by decide+kernel
theorem xy (f:Nat→Bool) (i:Nat):byteOf f i<256:=alz _ _ _ _ _ _ _ _
theorem FD (f:Nat→Bool) (i j:Nat) (a8:j<8):(byteOf f i).testBit j=f (8*i+j):=by
 obtain ⟨b7,U,ad,au,aH,aY,b9,iD⟩:=alA (f (8*i)) (f (8*i+1)) (f (8*i+2)) (f (8*i+3)) (f (8*i+4)) (f (8*i+5)) (f (8*i+6)) (f (8*i+7))
 have:j=0∨j=1∨j=2∨j=3∨j=4∨j=5∨j=6∨j=7:=by omega
 unfold byteOf
 rcases this with rfl|rfl|rfl|rfl|rfl|rfl|rfl|rfl<;>assumption
theorem alB {x y:Nat} (af:x<256) (b8:y<256) (h:∀j,j<8→x.testBit j=y.testBit j):x=y:=by
 apply Nat.eq_of_testBit_eq
 intro j
 by_cases a8:j<8
 · exact h j a8
 · have p:256≤2^j:=by
     have:=Nh (n:=2) (by omega) (by omega:8≤j)
     simpa using this
   rw[Nat.testBit_lt_two_pow (by omega),Nat.testBit_lt_two_pow (by omega)]
theorem S5 (f:Nat→Bool) (i x:Nat) (af:x<256) (h:∀j,j<8→x.testBit j=f (8*i+j)):x=byteOf f i:=
 alB af (xy f i) fun j a8=>by rw[h j a8,FD f i j a8]
def km (f:Nat→Bool) (k:Nat) (b:Bool):Nat→Bool:=fun i=>if i=k then b else f i
theorem alC:∀x:Nat,x<256→∀j:Nat,j<8→(tP .u8 (Int.fdiv (x:Int) (2^(min (Int.toNat (j:Int)) 8))) 1==1)=x.testBit j:=by decide+kernel
theorem alD:∀x:Nat,x<256→∀j:Nat,j<8→Co .u8 (x:Int) (IntKind.wrap .u8 (1*2^(min (Int.toNat (j:Int)) 8)))=((x|||2^j:Nat):Int):=by decide+kernel
theorem alE:∀x:Nat,x<256→∀j:Nat,j<8→ZZ .u8 (x:Int) (IntKind.wrap .u8 (1*2^(min (Int.toNat (j:Int)) 8)))=((x&&&(255-2^j):Nat):Int):=by decide+kernel
theorem S6:∀x:Nat,x<256→∀y:Nat,y<256→x|||y<256:=fun _ af _ b8=>Nat.or_lt_two_pow (n:=8) af b8
theorem alF:∀j:Nat,j<8→∀k:Nat,k<8→(255-2^j).testBit k=(k !=j):=by decide+kernel
theorem alG (x y:Nat) (af:x<256) (b8:y<256):Co .u8 (x:Int) (y:Int)=((x|||y:Nat):Int):=by
 have h:=S6 x af y b8
 have e:(BitVec.ofInt 8 (x:Int)|||BitVec.ofInt 8 (y:Int)).toNat=x|||y:=by
   simp only[BitVec.ofInt_natCast,BitVec.toNat_or,BitVec.toNat_ofNat]
   rw[uU (by simpa using af),uU (by simpa using b8)]
 show IntKind.wrap .u8 (((BitVec.ofInt 8 (x:Int)|||BitVec.ofInt 8 (y:Int)).toNat:Nat):Int)=_
 rw[e]
 have:((x|||y:Nat):Int)%256=((x|||y:Nat):Int):=Int.emod_eq_of_lt (by omega) (by omega)
 simp[IntKind.wrap,IntKind.signed,IntKind.bits,this]
theorem alH (k:Nat):8*(k/8)+k%8=k:=Nat.div_add_mod k 8
theorem alI (f:Nat→Bool) (k:Nat):byteOf f (k/8)|||2^(k%8)=byteOf (km f k true) (k/8):=by
 refine S5 _ _ _ (S6 _ (xy _ _) _ ?_) fun j a8=> ?_
 · have:k%8<8:=sT _ (by omega)
   have:=Nat.pow_lt_pow_right (a:=2) (by omega) this
   simpa using this
 · rw[Cg,FD _ _ _ a8,JP,km]
   by_cases h:8*(k/8)+j=k
   · rw[if_pos h]
     have:k%8=j:=by omega
     simp[this]
   · rw[if_neg h]
     have:¬k%8=j:=by omega
     simp[this]
theorem alJ (f:Nat→Bool) (k:Nat):byteOf f (k/8)&&&(255-2^(k%8))=byteOf (km f k false) (k/8):=by
 refine S5 _ _ _ (Nat.lt_of_le_of_lt Nat.and_le_left (xy _ _)) fun j a8=> ?_
 rw[Nat.testBit_and,FD _ _ _ a8,alF _ (sT _ (by omega)) _ a8,km]
 by_cases h:8*(k/8)+j=k
 · rw[if_pos h]
   have:j=k%8:=by omega
   simp[this]
 · rw[if_neg h]
   have:¬j=k%8:=by omega
   simp[this]
theorem alK (f:Nat→Bool) (k i:Nat) (b:Bool) (h:i≠k/8):byteOf (km f k b) i=byteOf f i:=by
 have e:∀j,j<8→km f k b (8*i+j)=f (8*i+j):=fun j a8=>by
   unfold km
   rw[if_neg]
   omega
 unfold byteOf
 rw[e 1 (by omega),e 2 (by omega),e 3 (by omega),e 4 (by omega),e 5 (by omega),e 6 (by omega),e 7 (by omega)]
 have:=e 0 (by omega)
 simp only[zV] at this
 rw[this]
def ln (f:Nat→Bool) (m:Nat):List Value:=(List.range m).map fun i=> .int .u8 (byteOf f i)
theorem S7 (f:Nat→Bool) (m:Nat):(ln f m).length=m:=by simp[ln]
theorem FE (f:Nat→Bool) {m i:Nat} (h:i<m):(ln f m)[i]? =some (.int .u8 (byteOf f i)):=by simp[ln,h]
theorem Z0 (f:Nat→Bool) (k m:Nat) (b:Bool):(ln f m).set (k/8) (.int .u8 (byteOf (km f k b) (k/8)))=ln (km f k b) m:=by
 apply List.ext_getElem?
 intro i
 rw[List.getElem?_set]
 by_cases hi:i<m
 · rw[FE (km f k b) hi]
   by_cases h:k/8=i
   · subst h
     simp[S7,hi]
   · rw[if_neg h,FE _ hi,alK f k i b (by omega)]
 · have U:(ln (km f k b) m)[i]? =none:=by simp[ln];omega
   have ad:(ln f m)[i]? =none:=by simp[ln];omega
   rw[U,ad]
   split
   · simp[S7];omega
   · rfl
end
section
theorem Z1 (k:Nat):Int.tdiv (k:Int) 8=((k/8:Nat):Int):=by
 rw[Int.tdiv_eq_ediv_of_nonneg (by omega)];omega
theorem S8 (k:Nat):Int.tmod (k:Int) 8=((k%8:Nat):Int):=by
 rw[Int.tmod_eq_emod_of_nonneg (by omega)];omega
theorem S9 {k:Nat} (h:k≤9223372036854775807):IntKind.wrap .i64 (Int.tdiv (k:Int) 8)=((k/8:Nat):Int):=by
 rw[Z1,cz (by omega) (by omega)]
theorem Z2 {s:aa} {b:Nat} (h:s.a=some ⟨b,0,none⟩):aQ s b:=⟨_,h,rfl⟩
theorem FF {w:World} {s:aa} {f:Nat→Bool} {m k:Nat} (h:b3 1 ah.uint8 w s (ln f m)) (ae:k/8<m) (dW:k≤9223372036854775807):
   aO Tryz.prog F.ta #[.slice s.a s.len s.cap, .int .i64 k] w (fun v w'=>v= .bool (f k)∧w=w'):=by
 refine W.alL s k w _ ?_
 (delta W.ta a6 aD iE;dsimp only)
 obtain ⟨b,c,ab,jh,ec,hi,S_,al,_⟩:=h.cell (FE f ae)
 refine ⟨by decide,_,ab,?_⟩
 rw[S9 dW,S8]
 refine ⟨⟨by omega,by omega⟩,(byteOf f (k/8):Int),?_,by decide,by omega,?_,rfl⟩
 · rw[mi,g9,aX,gy];exact al
 · rw[alC _ (xy _ _) _ (sT _ (by omega)),FD _ _ _ (sT _ (by omega)),alH]
theorem Z3 {w:World} {s:aa} {f:Nat→Bool} {m k:Nat} (h:b3 1 ah.uint8 w s (ln f m)) (ae:k/8<m) (dW:k≤9223372036854775807):
   aO Tryz.prog F.AN #[.slice s.a s.len s.cap, .int .i64 k] w (fun v w'=>v= .tuple #[]∧b3 1 ah.uint8 w' s (ln (km f k true) m)∧ao (aQ s) w w'):=by
 refine W.alM s k w _ ?_
 (delta W.AN ay a6 aD iE st;dsimp only)
 obtain ⟨b,c,ab,jh,ec,hi,S_,al,_⟩:=h.cell (FE f ae)
 have aU:(Addr.mk b 0 none).add (Int.toNat ((k/8:Nat):Int)*1)=⟨b,k/8,none⟩:=by rw[mi,g9,aX,gy]
 rw[S9 dW,S8]
 refine ⟨by decide,_,ab,⟨by omega,by omega⟩,by simp,(byteOf f (k/8):Int),by rw[aU];exact al,by decide,by omega,_,ab,⟨by omega,by omega⟩,⟨_,by rw[aU];exact al⟩,by rw[aU];exact jh.drew.frozen _ rfl,rfl,?_,?_⟩
 · rw[aU,alD _ (xy _ _) _ (sT _ (by omega)),alI,←Z0]
   have oo:b3 1 ah.uint8 w.drew s (ln f m):=h.an (W:=fun _=>False) (ao.drew (.refl _ _)) (fun _ _ h=>h)
   exact oo.set ab _
 · rw[aU]
   exact ao.set (ao.drew (.refl _ _)) (fun _=>Z2 ab) _
theorem alN {w:World} {s:aa} {f:Nat→Bool} {m k:Nat} (h:b3 1 ah.uint8 w s (ln f m)) (ae:k/8<m) (dW:k≤9223372036854775807):
   aO Tryz.prog F.De #[.slice s.a s.len s.cap, .int .i64 k] w (fun v w'=>v= .tuple #[]∧b3 1 ah.uint8 w' s (ln (km f k false) m)∧ao (aQ s) w w'):=by
 refine W.alO s k w _ ?_
 (delta W.De ay a6 aD iE st;dsimp only)
 obtain ⟨b,c,ab,jh,ec,hi,S_,al,_⟩:=h.cell (FE f ae)
 have aU:(Addr.mk b 0 none).add (Int.toNat ((k/8:Nat):Int)*1)=⟨b,k/8,none⟩:=by rw[mi,g9,aX,gy]
 rw[S9 dW,S8]
 refine ⟨by decide,_,ab,⟨by omega,by omega⟩,by simp,(byteOf f (k/8):Int),by rw[aU];exact al,by decide,by omega,_,ab,⟨by omega,by omega⟩,⟨_,by rw[aU];exact al⟩,by rw[aU];exact jh.drew.frozen _ rfl,rfl,?_,?_⟩
 · rw[aU,alE _ (xy _ _) _ (sT _ (by omega)),alJ,←Z0]
   have oo:b3 1 ah.uint8 w.drew s (ln f m):=h.an (W:=fun _=>False) (ao.drew (.refl _ _)) (fun _ _ h=>h)
   exact oo.set ab _
 · rw[aU]
   exact ao.set (ao.drew (.refl _ _)) (fun _=>Z2 ab) _
structure kX (w:World) (b n:Nat) (f g:Nat→Bool) (s1 s2:aa):Prop where
 df:cr w b #[.int .i64 n, .slice s1.a s1.len s1.cap, .slice s2.a s2.len s2.cap] ah.Df
 now:b3 1 ah.uint8 w s1 (ln f ((n+7)/8))
 sure:b3 1 ah.uint8 w s2 (ln g ((n+7)/8))
 d1:∀k,aQ s1 k→k≠b∧¬aQ s2 k
 d2:∀k,aQ s2 k→k≠b
 dt:1≤n
 db:n≤1600
 Dg:∀i,n≤i→f i=false
 hK:∀i,n≤i→g i=false
def kD (b:Nat) (s1 s2:aa) (k:Nat):Prop:=k=b∨aQ s1 k∨aQ s2 k
section
variable {w w':World} {b n:Nat} {f g:Nat→Bool} {s1 s2:aa}
theorem kX.an {W:Nat→Prop} (h:kX w b n f g s1 s2) (al:ao W w w') (aC:∀k,kD b s1 s2 k→¬W k):kX w' b n f g s1 s2:=
 ⟨h.df.an al (aC b (.inl rfl)),h.now.an al fun k ae=>aC k (.inr (.inl ae)),h.sure.an al fun k ae=>aC k (.inr (.inr ae)),h.d1,h.d2,h.dt,h.db,h.Dg,h.hK⟩
theorem kX.ext (h:kX w b n f g s1 s2) (al:Ext w w'):kX w' b n f g s1 s2:=h.an al fun _ _ h=>h
theorem kX.lt (h:kX w b n f g s1 s2):∀k,kD b s1 s2 k→k<w.heap.size:=by
 rintro k (rfl|ae|ae)
 · exact h.df.lt
 · exact h.now.lt k ae
 · exact h.sure.lt k ae
theorem kX.cJ (h:kX w b n f g s1 s2):w.cell? ⟨b,0,none⟩=some (.int .i64 n):=by rw[h.df.cell];rfl
theorem kX.aV (h:kX w b n f g s1 s2):w.cell? ((Addr.mk b 0 none).add 1)=some (.slice s1.a s1.len s1.cap):=by rw[aX,h.df.cell];rfl
theorem kX.bA (h:kX w b n f g s1 s2):w.cell? ((Addr.mk b 0 none).add 2)=some (.slice s2.a s2.len s2.cap):=by rw[aX,h.df.cell];rfl
theorem alP (h:kX w b n f g s1 s2) {k:Nat} (ae:k<n):
   aO Tryz.prog F.Dh #[.pointer (some ⟨b,0,none⟩), .int .i64 k] w (fun v w'=>v= .bool (f k||g k)∧w=w'):=by
 have aC:=h.db
 refine W.alQ _ k w _ ?_
 (delta W.Dh aq bd aA;dsimp only)
 refine ⟨_,rfl,s1,h.aV,(FF h.now (k:=k) (by omega) (by omega)).use ?_⟩
 rintro _ _ ⟨rfl,rfl⟩
 refine ⟨_,rfl,⟨fun aG=>⟨by rw[aG];rfl,rfl⟩,fun aG=>⟨_,rfl,s2,h.bA,(FF h.sure (k:=k) (by omega) (by omega)).use ?_⟩⟩⟩
 rintro _ _ ⟨rfl,rfl⟩
 exact ⟨_,rfl,by rw[aG];rfl,rfl⟩
theorem Ta (h:kX w b n f g s1 s2) (k:Int):
   aO Tryz.prog F.y4 #[.pointer (some ⟨b,0,none⟩), .int .i64 k] w (fun v w'=>v= .bool (decide (0≤k)&&decide (k<n))∧w=w'):=by
 refine W.alR _ k w _ ?_
 (delta W.y4 aA bK;dsimp only)
 refine ⟨?_⟩
 refine ⟨fun U=>⟨_,rfl,n,h.cJ,?_,rfl⟩,fun U=>⟨?_,rfl⟩⟩
 · have:0≤k:=by simpa using U
   simp[this]
 · have:¬0≤k:=by simpa using U
   simp[this]
def firstFree (t:Nat→Bool) (n:Nat):Option Nat:=(List.range n).find? fun i=> !t i
theorem alS {t:Nat→Bool} {n k:Nat} (ae:k<n) (aR:t k=false) (az:∀i,i<k→t i=true):firstFree t n=some k:=by
 unfold firstFree
 rw[List.find?_eq_some_iff_append]
 refine ⟨by simp[aR],List.range k,(List.range' (k+1) (n-(k+1))),?_,fun a aU=> ?_⟩
 · have a_:=List.range'_append (s:=0) (m:=k) (n:=n-(k+1)+1) (step:=1)
   rw[Nl,Nl,←List.range'_succ]
   rw[Nat.one_mul,gy] at a_
   rw[a_]
   congr 1
   omega
 · simp[az a (wq.1 aU)]
theorem alT {t:Nat→Bool} {n:Nat} (az:∀i,i<n→t i=true):firstFree t n=none:=by
 unfold firstFree
 rw[r9]
 intro a aU
 simp[az a (wq.1 aU)]
theorem alU {t:Nat→Bool} {n k:Nat} (h:firstFree t n=some k):k<n∧t k=false∧∀i,i<k→t i=true:=by
 unfold firstFree at h
 obtain ⟨U,pE,ik,ad,au⟩:=List.find?_eq_some_iff_append.1 h
 have ae:k<n:=wq.1 (by rw[ad];simp)
 refine ⟨ae,by simpa using U,fun i hi=> ?_⟩
 have hlen:pE.length=k:=by
   have aH:(List.range n)[pE.length]? =some k:=by rw[ad];simp
   rw[List.getElem?_range (by
     have:=congrArg List.length ad
     simp at this
     omega)] at aH
   simpa using aH
 have aY:(List.range n)[i]? =some i:=List.getElem?_range (by omega)
 rw[ad,List.getElem?_append_left (by omega)] at aY
 have:=au i (List.mem_of_getElem? aY)
 simpa using this
theorem alV {t:Nat→Bool} {n:Nat} (h:firstFree t n=none):∀i,i<n→t i=true:=by
 unfold firstFree at h
 rw[r9] at h
 intro i hi
 have:=h i (wq.2 hi)
 simpa using this
def alW (o:Option Nat):Value:=
 match o with
 |some k=> .tuple #[.int .i64 (k:Int), .int .i64 0]
 |none=> .tuple #[.int .i64 (-1), .int .i64 2]
def alX (o:Option Nat) (f:Nat→Bool):Nat→Bool:=
 match o with
 |some k=>km f k true
 |none=>f
theorem Z4 {f:Nat→Bool} {n k:Nat} {x:Bool} (h:∀i,n≤i→f i=false) (ae:k<n):∀i,n≤i→km f k x i=false:=fun i hi=>by
 unfold km
 rw[if_neg (by omega)]
 exact h i hi
theorem alY (h:kX w b n f g s1 s2):
   aO Tryz.prog F.Di #[.pointer (some ⟨b,0,none⟩)] w (fun v w'=>v=alW (firstFree (fun i=>f i||g i) n)∧kX w' b n (alX (firstFree (fun i=>f i||g i) n) f) g s1 s2∧ao (kD b s1 s2) w w'):=by
 have nk:=h.db
 refine W.alZ _ w _ ?_
 (delta W.Di aA bK bd aq bA aD;dsimp only)
 refine ⟨fun U=>by simp at U,fun _=>⟨_,rfl,n,h.cJ,fun i w'=>∃k:Nat,i=k∧k≤n∧w=w'∧∀j,j<k→(f j||g j)=true,fun i _=>(n-i).toNat,⟨0,rfl,by omega,rfl,fun j a8=>by omega⟩,?_⟩⟩
 rintro _ _ ⟨k,rfl,ae,rfl,fw⟩
 refine ⟨fun ba=>(alP h (k:=k) (by simpa using ba)).use ?_,fun ck=> ?_⟩
 · have y5:k<n:=by simpa using ba
   rintro _ _ ⟨rfl,rfl⟩
   refine ⟨_,rfl,fun aR=>⟨_,rfl,s1,h.aV,(Z3 h.now (k:=k) (by omega) (by omega)).use ?_⟩,fun aR=> ?_⟩
   · rintro _ w' ⟨rfl,j1,al⟩
     have Ax:(f k||g k)=false:=by simpa using aR
     have yN:=alS (t:=fun i=>f i||g i) y5 Ax fw
     rw[yN]
     refine ⟨rfl,rfl,⟨h.df.an al fun ab=>(h.d1 b ab).1 rfl,j1,h.sure.an al fun k ae U=>(h.d1 k U).2 ae,h.d1,h.d2,h.dt,h.db,Z4 h.Dg y5,h.hK⟩,al.mono fun k _ ae=> .inr (.inl ae)⟩
   · have Ax:(f k||g k)=true:=by cases af:(f k||g k)<;>simp[af] at aR⊢
     rw[cz (by omega) (by omega)]
     refine ⟨⟨k+1,by omega,by omega,rfl,fun j a8=> ?_⟩,(show ((n:Int)-((k:Int)+1)).toNat<((n:Int)-(k:Int)).toNat by omega)⟩
     rcases g8 j k with U|U
     · exact fw j U
     · have:j=k:=by omega
       subst this;exact Ax
 · have y5:k=n:=by
     have:¬(k:Int)<n:=by simpa using ck
     omega
   subst y5
   rw[alT fw]
   exact ⟨rfl,h, .refl _ _⟩
def OL (f:Nat→Bool) (n:Nat) (k:Int):Int:=if 0≤k∧k<n then (if f k.toNat then 0 else 6) else 1
def HY (f:Nat→Bool) (n:Nat) (k:Int):Nat→Bool:=if 0≤k∧k<n then km f k.toNat false else f
theorem al0 {f:Nat→Bool} {k:Nat} {x:Bool} (h:f k=x):km f k x=f:=by
 funext i
 unfold km
 split
 · rename_i hi;rw[hi,h]
 · rfl
theorem al1 (h:kX w b n f g s1 s2) (k:Int):
   aO Tryz.prog F.Dj #[.pointer (some ⟨b,0,none⟩), .int .i64 k] w (fun v w'=>v= .int .i64 (OL f n k)∧kX w' b n (HY f n k) g s1 s2∧ao (kD b s1 s2) w w'):=by
 have nk:=h.db
 refine W.al2 _ k w _ ?_
 (delta W.Dj bd aA aq bA;dsimp only)
 refine (Ta h k).use ?_
 rintro _ _ ⟨rfl,rfl⟩
 refine ⟨_,rfl,fun U=> ?_,fun U=> ?_⟩
 · have:¬(0≤k∧k<n):=by
     rintro ⟨ad,au⟩
     simp[ad,au] at U
   exact ⟨by rw[OL,if_neg this],by rw[HY,if_neg this];exact h, .refl _ _⟩
 · have aN:0≤k∧k<n:=by simpa using U
   obtain ⟨m,rfl⟩:=Nn aN.1
   have hm:m<n:=by omega
   refine ⟨_,rfl,s1,h.aV,(FF h.now (k:=m) (by omega) (by omega)).use ?_⟩
   rintro _ _ ⟨rfl,rfl⟩
   refine ⟨_,rfl,fun ad=> ?_,fun ad=>⟨_,rfl,s1,h.aV,(alN h.now (k:=m) (by omega) (by omega)).use ?_⟩⟩
   · have aG:f m=false:=by simpa using ad
     refine ⟨by rw[OL,if_pos aN,g9,aG];rfl,?_, .refl _ _⟩
     rw[HY,if_pos aN,g9,al0 aG]
     exact h
   · rintro _ w' ⟨rfl,j1,al⟩
     have aG:f m=true:=by simpa using ad
     refine ⟨rfl,by rw[OL,if_pos aN,g9,aG];rfl,?_,al.mono fun k _ ae=> .inr (.inl ae)⟩
     rw[HY,if_pos aN,g9]
     exact ⟨h.df.an al fun ab=>(h.d1 b ab).1 rfl,j1,h.sure.an al fun k ae U=>(h.d1 k U).2 ae,h.d1,h.d2,h.dt,h.db,Z4 h.Dg hm,h.hK⟩
theorem al3 (h:kX w b n f g s1 s2) (k:Int):
   aO Tryz.prog F.Dk #[.pointer (some ⟨b,0,none⟩), .int .i64 k] w (fun v w'=>v= .bool (decide (0≤k)&&decide (k<n)&&f k.toNat)∧w=w'):=by
 have nk:=h.db
 refine W.al4 _ k w _ ?_
 (delta W.Dk bd aA aq;dsimp only)
 refine (Ta h k).use ?_
 rintro _ _ ⟨rfl,rfl⟩
 refine ⟨_,rfl,⟨fun U=> ?_,fun U=>⟨by rw[U];rfl,rfl⟩⟩⟩
 have aN:0≤k∧k<n:=by simpa using U
 obtain ⟨m,rfl⟩:=Nn aN.1
 refine ⟨_,rfl,s1,h.aV,(FF h.now (k:=m) (by omega) (by omega)).use ?_⟩
 rintro _ _ ⟨rfl,rfl⟩
 exact ⟨_,rfl,by rw[U,g9];rfl,rfl⟩
theorem al5 (h:kX w b n f g s1 s2) (k:Int):
   aO Tryz.prog F.Dl #[.pointer (some ⟨b,0,none⟩), .int .i64 k] w (fun v w'=>v= .bool (decide (0≤k)&&decide (k<n)&&f k.toNat&& !(g k.toNat))∧w=w'):=by
 have nk:=h.db
 refine W.al6 _ k w _ ?_
 (delta W.Dl bd aA aq;dsimp only)
 refine (Ta h k).use ?_
 rintro _ _ ⟨rfl,rfl⟩
 refine ⟨_,rfl,⟨fun U=> ?_,fun U=>⟨(fun h=>by cases h),fun _=>⟨by rw[U];rfl,rfl⟩⟩⟩⟩
 have aN:0≤k∧k<n:=by simpa using U
 obtain ⟨m,rfl⟩:=Nn aN.1
 refine ⟨_,rfl,s1,h.aV,(FF h.now (k:=m) (by omega) (by omega)).use ?_⟩
 rintro _ _ ⟨rfl,rfl⟩
 refine ⟨_,rfl,fun ad=>⟨_,rfl,s2,h.bA,(FF h.sure (k:=m) (by omega) (by omega)).use ?_⟩,fun ad=>⟨by rw[U,g9,ad];rfl,rfl⟩⟩
 rintro _ _ ⟨rfl,rfl⟩
 exact ⟨_,rfl,by rw[U,g9,ad];rfl,rfl⟩
end
end
section
theorem al7:p9 Tryz.prog ah.KW ah.uint8 1 1:=⟨by kernel_rfl⟩
theorem al8:p9 Tryz.prog ah.ef ah.int 1 8:=⟨by kernel_rfl⟩
theorem al9 (n:Nat):pC Tryz.prog ah.uint8 n=(List.replicate n (.int .u8 0)).toArray:=X2 (by kernel_rfl) (by kernel_rfl) n
theorem Z5 (f:Nat→Bool) (m:Nat):∀v∈ln f m,Plain v:=by
 intro v ak
 obtain ⟨i,_,rfl⟩:=oa.1 ak
 trivial
theorem Z6 {w:World} {s:aa} {xs:List Value} (h:Src 1 w s xs) (aW:∀v∈xs,Plain v) (aC:s.len≤1000000):
   aO Tryz.prog F.AO #[.slice s.a s.len s.cap] w (fun v w'=>∃ar:aa,v= .slice ar.a ar.len ar.cap∧b3 1 ah.uint8 w' ar xs∧Ext w w'∧∀k,aQ ar k→w.heap.size≤k):=by
 refine W.al_ s w _ ?_
 delta W.AO ay aA ai
 refine ⟨fun aU=> ?_,fun _=> ?_⟩
 · have aU:s.a=none:=by simpa using aU
   rw[h.nil aU]
   exact ⟨⟨none,0,0⟩,rfl,b3.none _ _ _, .refl _ _,fun k ae=>(qF k ae).elim⟩
 · obtain ⟨ar,w',U,ad,au,aH,aY,_⟩:=al7.clone (ey:=ah.KW) h aW (by omega)
   exact ⟨ar,w',U,ar,rfl,ad,aH,aY⟩
section
variable {w w':World} {b n:Nat} {f g:Nat→Bool} {s1 s2:aa}
theorem OM {T:TypeId} {m:Nat} (h:b3 1 T w s1 (ln f m)):s1.len=m:=by
 have:=h.1
 rw[S7] at this
 omega
theorem Z7 {m:Nat} {u:Value} (ab:cr w b #[.int .i64 n, .slice s1.a s1.len s1.cap,u] ah.Df) (U:b3 1 ah.uint8 w s1 (ln f m)) (hd:∀k,aQ s1 k→k≠b) (hm:m≤1000000):
   aO Tryz.prog F.y6 #[.pointer (some ⟨b,0,none⟩)] w (fun v w'=>v= .tuple #[]∧∃rK:aa,cr w' b #[.int .i64 n, .slice s1.a s1.len s1.cap, .slice rK.a rK.len rK.cap] ah.Df∧
     b3 1 ah.uint8 w' s1 (ln f m)∧b3 1 ah.uint8 w' rK (ln f m)∧ao (fun k=>k=b) w w'∧∀k,aQ rK k→w.heap.size≤k):=by
 refine W.ama _ w _ ?_
 (delta W.y6 ay aA aq dK st;dsimp only)
 refine ⟨fun _=>⟨_,rfl,s1,by rw[aX,ab.cell];rfl,(Z6 U.src (Z5 f m) (by rw[OM U];exact hm)).use ?_⟩,fun h=>by simp at h⟩
 rintro _ aw ⟨rK,rfl,ad,af,aG⟩
 have gu:=ab.ext af
 have c5:∀k,aQ rK k→k≠b:=fun k ae e=>by have:=aG k ae;have:=ab.lt;omega
 refine ⟨rK,rfl,_,rfl,⟨_,by rw[aX,gu.cell];rfl⟩,gu.frozen _ rfl,rfl,rK,?_,?_,?_,?_,aG⟩
 · rw[aX];exact gu.set 2 _
 · exact (U.ext af).an (W:=fun k=>k=b) (ao.set (.refl _ _) (fun _=>by rw[aX]) _) hd
 · exact ad.an (W:=fun k=>k=b) (ao.set (.refl _ _) (fun _=>by rw[aX]) _) c5
 · exact (ao.eT af).set (fun _=>by rw[aX]) _
theorem amb (h:kX w b n f g s1 s2):
   aO Tryz.prog F.y6 #[.pointer (some ⟨b,0,none⟩)] w (fun v w'=>v= .tuple #[]∧∃rK:aa,kX w' b n f f s1 rK∧ao (kD b s1 s2) w w'∧∀k,kD b s1 rK k→kD b s1 s2 k∨w.heap.size≤k):=by
 have aC:=h.db
 refine (Z7 h.df h.now (fun k ae=>(h.d1 k ae).1) (by omega)).mono ?_
 rintro _ w' ⟨rfl,rK,U,ad,au,aH,aY⟩
 refine ⟨rfl,rK,⟨U,ad,au,fun k ae=>⟨(h.d1 k ae).1,fun dW=> ?_⟩,fun k ae e=> ?_,h.dt,h.db,h.Dg,h.Dg⟩,aH.mono fun k _ ae=> .inl ae,fun k ae=> ?_⟩
 · have:=aY k dW;have:=h.now.lt k ae;omega
 · have:=aY k ae;have:=h.df.lt;omega
 · rcases ae with rfl|ae|ae
   · exact .inl (.inl rfl)
   · exact .inl (.inr (.inl ae))
   · exact .inr (aY k ae)
theorem amc (h:kX w b n f g s1 s2):
   aO Tryz.prog F.Dm #[.pointer (some ⟨b,0,none⟩)] w (fun v w'=>v= .tuple #[]∧∃HZ:aa,kX w' b n g g HZ s2∧ao (kD b s1 s2) w w'∧∀k,kD b HZ s2 k→kD b s1 s2 k∨w.heap.size≤k):=by
 have aC:=h.db
 refine W.amd _ w _ ?_
 (delta W.Dm ay aA aq dK st;dsimp only)
 refine ⟨fun _=>⟨_,rfl,s2,h.bA,(Z6 h.sure.src (Z5 g _) (by rw[OM h.sure];omega)).use ?_⟩,fun h=>by simp at h⟩
 rintro _ aw ⟨HZ,rfl,ad,af,aG⟩
 have gu:=h.df.ext af
 have c5:∀k,aQ HZ k→k≠b:=fun k ae e=>by have:=aG k ae;have:=h.df.lt;omega
 refine ⟨HZ,rfl,_,rfl,⟨_,by rw[aX,gu.cell];rfl⟩,gu.frozen _ rfl,rfl,HZ,⟨?_,?_,?_,fun k ae=>⟨c5 k ae,fun dW=> ?_⟩,h.d2,h.dt,h.db,h.hK,h.hK⟩,?_,fun k ae=> ?_⟩
 · rw[aX];exact gu.set 1 _
 · exact ad.an (W:=fun k=>k=b) (ao.set (.refl _ _) (fun _=>by rw[aX]) _) c5
 · exact (h.sure.ext af).an (W:=fun k=>k=b) (ao.set (.refl _ _) (fun _=>by rw[aX]) _) h.d2
 · have:=aG k ae;have:=h.sure.lt k dW;omega
 · exact (ao.eT af).set (fun _=>by rw[aX];exact .inl rfl) _
 · rcases ae with rfl|ae|ae
   · exact .inl (.inl rfl)
   · exact .inr (aG k ae)
   · exact .inl (.inr (.inr ae))
def H0 (x:Nat):Nat:=(x.testBit 0).toNat+(x.testBit 1).toNat+(x.testBit 2).toNat+(x.testBit 3).toNat+(x.testBit 4).toNat+(x.testBit 5).toNat+(x.testBit 6).toNat+(x.testBit 7).toNat
def mH (t:Nat→Bool):Nat→Nat
 |0=>0
 |k+1=>mH t k+(t k).toNat
theorem H2 (t:Nat→Bool):∀k,mH t k≤k
 |0=>cR _
 |k+1=>by have:=H2 t k;have:=Bool.toNat_le (t k);simp only[mH];omega
theorem ame (t:Nat→Bool) (i:Nat):mH t (8*(i+1))=mH t (8*i)+H0 (byteOf t i):=by
 have h:∀j,j<8→(byteOf t i).testBit j=t (8*i+j):=fun j a8=>FD t i j a8
 unfold H0
 rw[h 0 (by omega),h 1 (by omega),h 2 (by omega),h 3 (by omega),h 4 (by omega),h 5 (by omega),h 6 (by omega),h 7 (by omega)]
 show mH t (8*i+7+1)=_
 simp only[mH,zV]
 omega
theorem Z8 (t:Nat→Bool) (n:Nat) (h:∀i,n≤i→t i=false):∀k,mH t (n+k)=mH t n
 |0=>rfl
 |k+1=>by
   have:=Z8 t n h k
   show mH t (n+k)+(t (n+k)).toNat=_
   rw[this,h (n+k) (by omega)]
   rfl
theorem amf:∀x:Nat,x<256→(Tb (ByteArray.mk #[0,1,1,2,1,2,2,3,1,2,2,3,2,3,3,4,1,2,2,3,2,3,3,4,2,3,3,4,3,4,4,5,1,2,2,3,2,3,3,4,2,3,3,4,3,4,4,5,2,3,3,4,3,4,4,5,3,4,4,5,4,5,5,6,1,2,2,3,2,3,3,4,2,3,3,4,3,4,4,5,2,3,3,4,3,4,4,5,3,4,4,5,4,5,5,6,2,3,3,4,3,4,4,5,3,4,4,5,4,5,5,6,3,4,4,5,4,5,5,6,4,5,5,6,5,6,6,7,1,2,2,3,2,3,3,4,2,3,3,4,3,4,4,5,2,3,3,4,3,4,4,5,3,4,4,5,4,5,5,6,2,3,3,4,3,4,4,5,3,4,4,5,4,5,5,6,3,4,4,5,4,5,5,6,4,5,5,6,5,6,6,7,2,3,3,4,3,4,4,5,3,4,4,5,4,5,5,6,3,4,4,5,4,5,5,6,4,5,5,6,5,6,6,7,3,4,4,5,4,5,5,6,4,5,5,6,5,6,6,7,4,5,5,6,5,6,6,7,5,6,6,7,6,7,7,8]) x).map (·.toNat)=some (H0 x):=by decide+kernel
theorem Z9 (x:Nat):H0 x≤8:=by
 unfold H0
 have h:∀b:Bool,b.toNat≤1:=Bool.toNat_le
 have:=h (x.testBit 0);have:=h (x.testBit 1);have:=h (x.testBit 2);have:=h (x.testBit 3)
 have:=h (x.testBit 4);have:=h (x.testBit 5);have:=h (x.testBit 6);have:=h (x.testBit 7)
 omega
theorem amg (w:World) (x:Nat) (af:x<256):aO Tryz.prog F.Dn #[.int .u8 x] w (fun v w'=>v= .int .i64 (H0 x)∧w=w'):=by
 refine W.amh x w _ ?_
 delta W.Dn aD
 have h:=amf x af
 refine ⟨by omega,?_⟩
 cases ab:Tb _ x with
 |none=>rw[ab] at h;cases h
 |some y=>
   rw[ab] at h
   simp only[yf,Option.some.injEq] at h
   refine ⟨y,ab,?_,rfl⟩
   rw[h,cz (by omega) (by have:=Z9 x;omega)]
theorem ami (f g:Nat→Bool) (i:Nat):byteOf f i|||byteOf g i=byteOf (fun k=>f k||g k) i:=
 S5 _ _ _ (S6 _ (xy _ _) _ (xy _ _)) fun j a8=>by rw[Cg,FD _ _ _ a8,FD _ _ _ a8]
theorem Tc (h:kX w b n f g s1 s2):
   aO Tryz.prog F.y7 #[.pointer (some ⟨b,0,none⟩)] w (fun v w'=>v= .int .i64 ((n:Int)-mH (fun i=>f i||g i) n)∧Ext w w'):=by
 have nk:=h.db
 have sd:=OM h.now
 have ZP:=OM h.sure
 refine W.amj _ w _ ?_
 (delta W.y7 ay aA bK aq a6 iE aV aD;dsimp only)
 refine ⟨fun U=>by simp at U,fun _=>⟨_,rfl,n,h.cJ,_,rfl,s1,h.aV,fun r i w'=>∃k:Nat,i=k∧k≤s1.len∧Ext w w'∧r=(n:Int)-mH (fun i=>f i||g i) (8*k),fun _ i _=>((s1.len:Int)-i).toNat,⟨0,rfl,by omega, .refl _ _,by simp[mH]⟩,?_⟩⟩
 rintro _ _ ag ⟨k,rfl,ae,af,rfl⟩
 refine ⟨fun ba=> ?_,fun ck=> ?_⟩
 · have y5:k<s1.len:=by simpa using ba
   have U:=h.ext af.drew
   obtain ⟨da,aV,nq,avh,_,_,_,iR,_⟩:=U.now.cell (FE f (i:=k) (by omega))
   obtain ⟨cI,bA,gu,avi,_,_,_,dS,_⟩:=U.sure.cell (FE g (i:=k) (by omega))
   have aU:∀b:Nat,(Addr.mk b 0 none).add (Int.toNat (k:Int)*1)=⟨b,k,none⟩:=fun b=>by rw[mi,g9,aX,gy]
   refine ⟨fun _=>False,_,rfl,by simp,s1,U.aV,_,nq,by omega,by simp,_,by rw[aU];exact iR,_,rfl,by simp,s2,U.bA,_,gu,by omega,by simp,_,by rw[aU];exact dS,?_⟩
   rw[alG _ _ (xy _ _) (xy _ _),ami]
   refine (amg _ _ (xy _ _)).use ?_
   rintro _ _ ⟨rfl,rfl⟩
   have:=Z9 (byteOf (fun i=>f i||g i) k)
   have:=H2 (fun i=>f i||g i) (8*k)
   refine ⟨_,rfl, .refl _ _,?_⟩
   rw[cz (n:=(n:Int)-_-_) (by omega) (by omega),cz (n:=(k:Int)+1) (by omega) (by omega)]
   exact ⟨⟨k+1,by omega,by omega,af.drew,by rw[ame];omega⟩,(show ((s1.len:Int)-((k:Int)+1)).toNat<((s1.len:Int)-(k:Int)).toNat by omega)⟩
 · have y5:k=s1.len:=by
     have:¬(k:Int)<s1.len:=by simpa using ck
     omega
   refine ⟨?_,af⟩
   have e:8*k=n+(8*k-n):=by omega
   rw[e,Z8 _ _ (fun i hi=>by simp[h.Dg i hi,h.hK i hi])]
def uh (f:Nat→Bool):Nat→List Int
 |0=> []
 |k+1=>uh f k++(if f k then [(k:Int)] else [])
def Dp (f:Nat→Bool) (k:Nat):List Value:=(uh f k).map (.int .i64)
theorem Z_ (f:Nat→Bool):∀k,(uh f k).length≤k
 |0=>cR _
 |k+1=>by have:=Z_ f k;simp only[uh,dO];split<;>simp<;>omega
theorem amk (h:kX w b n f g s1 s2):
   aO Tryz.prog F.Dq #[.pointer (some ⟨b,0,none⟩)] w (fun v w'=>∃s:aa,v= .slice s.a s.len s.cap∧b3 1 ah.int w' s (Dp f n)∧Ext w w'∧∀k,aQ s k→w.heap.size≤k):=by
 have nk:=h.db
 refine W.aml _ w _ ?_
 (delta W.Dq ay aA bK aq bd ai aD;dsimp only)
 refine ⟨fun U=>by simp at U,fun _=>⟨_,rfl,n,h.cJ,fun s i w'=>∃k:Nat,i=k∧k≤n∧Ext w w'∧b3 1 ah.int w' s (Dp f k)∧∀k,aQ s k→w.heap.size≤k,fun _ i _=>((n:Int)-i).toNat,
   ⟨0,rfl,by omega, .refl _ _,b3.none _ _ _,fun k ae=>(qF k ae).elim⟩,?_⟩⟩
 rintro s _ ag ⟨k,rfl,ae,af,j1,gf⟩
 refine ⟨fun ba=> ?_,fun ck=> ?_⟩
 · have y5:k<n:=by simpa using ba
   have U:=h.ext af
   refine eN (fun ar w'=>Ext w w'∧b3 1 ah.int w' ar (Dp f (k+1))∧∀k,aQ ar k→w.heap.size≤k) (fun q J=>⟨_,rfl,s1,U.aV,(FF U.now (k:=k) (by omega) (by omega)).use ?_⟩) ?_
   · rintro _ _ ⟨rfl,rfl⟩
     refine ⟨_,rfl,fun aG=> ?_,fun aG=> ?_⟩
     · have hlen:s.len≤k:=by
         have:=j1.1
         have:=Z_ f k
         simp[Dp] at*
         omega
       obtain ⟨ar,w',U,ad,au,aH,aY⟩:=al8.push (ey:=ah.ef) (xs:=[.int .i64 k]) rfl j1 (by simp[Plain]) (by omega)
       refine ⟨ar,w',U,J _ _ ⟨?_,?_,?_⟩⟩
       · exact ((ao.eT af).trans aH).mono fun k ae bE=>by have:=gf k bE;omega
       · simpa[Dp,uh,aG] using ad
       · intro j a8
         rcases aY j a8 with a8|a8
         · exact gf j a8
         · have:=af.size;omega
     · exact J _ _ ⟨af,by simpa[Dp,uh,aG] using j1,gf⟩
   · rintro ar w' ⟨J7,amm,Td⟩
     rw[cz (by omega) (by omega)]
     exact ⟨⟨k+1,by omega,by omega,J7,amm,Td⟩,(show ((n:Int)-((k:Int)+1)).toNat<((n:Int)-(k:Int)).toNat by omega)⟩
 · have y5:k=n:=by
     have:¬(k:Int)<n:=by simpa using ck
     omega
   subst y5
   exact ⟨s,rfl,j1,af,gf⟩
end
theorem amn (w:World) (n:Int):aO Tryz.prog F.Dr #[.int .i64 n] w (fun v w'=>v= .bool (decide (1≤n∧n≤1600))∧w=w'):=by
 refine W.amo n w _ ?_
 unfold W.Dr
 refine ⟨?_,rfl⟩
 simp[Bool.decide_and]
theorem amp (w:World) (n:Nat) (aC:n≤1600):aO Tryz.prog F.Ds #[.int .i64 n] w (fun v w'=>v= .int .i64 (((n+7)/8:Nat):Int)∧w=w'):=by
 refine W.amq n w _ ?_
 delta W.Ds aD
 refine ⟨by decide,?_,rfl⟩
 rw[cz (n:=(n:Int)+8) (by omega) (by omega),cz (n:=(n:Int)+8-1) (by omega) (by omega),show (n:Int)+8-1=((n+7:Nat):Int) by omega,Z1,cz (by omega) (by omega)]
theorem amr (m:Nat):ln (fun i=>decide (i<0)) m=List.replicate m (.int .u8 0):=by
 apply List.ext_getElem
 · simp[ln]
 · intro i U ad
   simp[ln,byteOf,xx]
theorem ams (j:Nat):km (fun i=>decide (i<j)) j true=fun i=>decide (i<j+1):=by
 funext i
 unfold km
 split
 · rename_i h;simp[h]
 · rename_i h;simp;omega
theorem y8 (w:World) (n first:Int):
   aO Tryz.prog F.y8 #[.int .i64 n, .int .i64 first] w (fun v w'=>(¬(1≤n∧n≤1600∧0≤first∧first≤n)∧v= .tuple #[.pointer none, .int .i64 1]∧w=w')∨
     (1≤n∧n≤1600∧0≤first∧first≤n∧∃b s1 s2,v= .tuple #[.pointer (some ⟨b,0,none⟩), .int .i64 0]∧kX w' b n.toNat (fun i=>decide (i<first.toNat)) (fun i=>decide (i<first.toNat)) s1 s2∧Ext w w'∧∀k,kD b s1 s2 k→w.heap.size≤k)):=by
 refine W.amt n first w _ ?_
 (delta W.y8 ay bd aA aV yo ai aq bA aD;dsimp only)
 refine (amn w n).use ?_
 rintro _ _ ⟨rfl,rfl⟩
 refine ⟨_,rfl,fun h=> .inl ⟨fun al=> ?_,rfl,rfl⟩,fun h=> ?_⟩
 · simp at h;omega
 simp at h
 obtain ⟨⟨⟨ld,nk⟩,qG⟩,py⟩:=h
 obtain ⟨n,rfl⟩:=Nn (by omega:0≤n)
 obtain ⟨first,rfl⟩:=Nn (by omega:0≤first)
 refine (amp w n (by omega)).use ?_
 rintro _ _ ⟨rfl,rfl⟩
 refine ⟨_,rfl,by omega,?_⟩
 simp only[g9]
 rw[al9]
 obtain ⟨m,hm⟩:∃m,m=(n+7)/8:=⟨_,rfl⟩
 rw[←hm]
 have j1:=b3.new (sz:=1) (T:=ah.uint8) w (List.replicate m (.int .u8 0)) m (by simp) (by show m≤2^63-1;omega)
 rw[←amr] at j1⊢
 have ax:Ext w (w.alloc (.cells (ln (fun i=>decide (i<0)) m).toArray ah.uint8)):=ao.alloc (.refl _ _) _
 generalize xn:w.alloc (.cells (ln (fun i=>decide (i<0)) m).toArray ah.uint8)=ag at*
 have dH:ag.heap.size=w.heap.size+1:=by rw[←xn];simp
 have jh:=cr.new ag #[.int .i64 (n:Int), .slice (some ⟨w.heap.size,0,none⟩) m m, .slice none 0 0] ah.Df
 have fu:=ao.alloc ax (.cells #[.int .i64 (n:Int), .slice (some ⟨w.heap.size,0,none⟩) m m, .slice none 0 0] ah.Df)
 have amu:=j1.ext (ao.alloc (.refl _ ag) (.cells #[.int .i64 (n:Int), .slice (some ⟨w.heap.size,0,none⟩) m m, .slice none 0 0] ah.Df))
 refine ⟨fun i w'=>∃j:Nat,i=j∧j≤first∧Ext w w'∧cr w' ag.heap.size #[.int .i64 (n:Int), .slice (some ⟨w.heap.size,0,none⟩) m m, .slice none 0 0] ah.Df∧
   b3 1 ah.uint8 w' ⟨some ⟨w.heap.size,0,none⟩,m,m⟩ (ln (fun i=>decide (i<j)) m),fun i _=>((first:Int)-i).toNat,⟨0,rfl,by omega,fu,jh,amu⟩,?_⟩
 rintro _ aw ⟨j,rfl,a8,af,gu,u0⟩
 refine ⟨fun ba=> ?_,fun ck=> ?_⟩
 · have E6:j<first:=by simpa using ba
   refine ⟨_,rfl,⟨some ⟨w.heap.size,0,none⟩,m,m⟩,by rw[aX,gu.cell];rfl,(Z3 u0 (k:=j) (by omega) (by omega)).use ?_⟩
   rintro _ aS ⟨rfl,si,al⟩
   rw[ams] at si
   rw[cz (by omega) (by omega)]
   refine ⟨rfl,⟨j+1,by omega,by omega,?_,gu.an al ?_,si⟩,(show ((first:Int)-((j:Int)+1)).toNat<((first:Int)-(j:Int)).toNat by omega)⟩
   · exact ((ao.eT af).trans al).mono fun k ae bE=>by rw[ui] at bE;simp at bE;omega
   · intro bE
     rw[ui] at bE
     simp at bE
     omega
 · have E6:j=first:=by
     have:¬(j:Int)<first:=by simpa using ck
     omega
   subst E6
   have FG:∀i,n≤i→decide (i<j)=false:=fun i hi=>by simp;omega
   refine (Z7 gu u0 (fun k ae e=> ?_) (by omega)).use ?_
   · rw[ui] at ae
     simp at ae
     omega
   rintro _ aS ⟨rfl,rK,U,ad,au,aH,aY⟩
   have RX:=gu.lt
   refine ⟨rfl, .inr ⟨by omega,by omega,by omega,by omega,ag.heap.size,⟨some ⟨w.heap.size,0,none⟩,m,m⟩,rK,rfl,⟨U,?_,?_,fun k ae=>⟨fun e=> ?_,fun dW=> ?_⟩,fun k ae e=> ?_,by omega,by omega,FG,FG⟩,?_,?_⟩⟩
   · simp only[←hm];exact ad
   · simp only[←hm];exact au
   · rw[ui] at ae
     simp at ae
     omega
   · rw[ui] at ae
     simp at ae
     have:=aY k dW
     omega
   · have:=aY k ae
     omega
   · exact ((ao.eT af).trans aH).mono fun k ae e=>by omega
   · rintro k (rfl|ae|ae)
     · omega
     · rw[ui] at ae
       simp at ae
       omega
     · have:=aY k ae
       have:=af.size
       omega
end
section
structure aZ where
 bQ:Nat
 gen:Nat
 root:Nat
 bn:Nat
 C:eY
 dD:Nat
 n:Nat
 f:Nat→Bool
 g:Nat→Bool
 s1:aa
 s2:aa
 E:Nat→Prop
 G:Nat→Prop
 P:Nat→Option aL
def aZ.dw (T:aZ) (E G:Nat→Prop):aZ:={T with E:=E,G:=G}
def aZ.cQ (T:aZ) (C:eY) (P:Nat→Option aL):aZ:={T with C:=C,P:=P}
def aZ.X (T:aZ) (q:Nat):Prop:=q=T.bQ∨kD T.dD T.s1 T.s2 q∨T.E q∨T.G q
def aZ.M (T:aZ) (q:Nat):Prop:=jG T.C q∨T.X q
def aZ.N (T:aZ) (q:Nat):Prop:=jG T.C q∨q=T.bQ∨kD T.dD T.s1 T.s2 q∨T.G q
theorem aZ.lJ {T:aZ} {q:Nat} (h:T.N q):T.M q:=h.imp id (Or.imp id (Or.imp id .inr))
def tb (gen:Nat) (leaf:Bool) (no:Nat) (l:lF) (n:aL):Prop:=
 ∃p:tO,mn (no:Int) l= .ok p∧p.gen≤gen∧p.kind=(if leaf then 1 else 2)∧yl leaf p.body n
def Dt (T:aZ):List Value:=[.pointer (some ⟨T.C.c,0,none⟩), .pointer (some ⟨T.dD,0,none⟩), .int .u64 (T.gen:Nat), .int .i64 (T.root:Nat), .int .i64 (T.bn:Nat)]
structure c1 (w:World) (T:aZ):Prop where
 t:Var w T.bQ (Dt T) ah.FH
 s:kX w T.dD T.n T.f T.g T.s1 T.s2
 pP:mZ T.X w T.C
 y9:¬kD T.dD T.s1 T.s2 T.bQ
 gD:∀q,T.E q→q≠T.bQ∧¬kD T.dD T.s1 T.s2 q∧¬T.G q
 rL:∀q,T.G q→q≠T.bQ∧¬kD T.dD T.s1 T.s2 q
 n:T.C.D.n=T.n
 num:T.root<T.n∧T.bn≤12∧T.gen<18446744073709551616
 lK:∀no dE,T.P no=some dE→no<T.n∧tb T.gen dE.leaf no (T.C.view no) dE
structure b_ (T av:aZ) (w w':World) (k:Nat):Prop where
 bQ:av.bQ=T.bQ
 dD:av.dD=T.dD
 n:av.n=T.n
 g:av.g=T.g
 s1:av.s1=T.s1
 s2:av.s2=T.s2
 c:av.C.c=T.C.c
 d:av.C.D.d=T.C.D.d
 gp:av.C.D.gp=T.C.D.gp
 gen:av.gen=T.gen
 cX:av.C.D.cX≤T.C.D.cX+k
 calm:∀m,T.C.D.calm (m+k)→av.C.D.calm m
 an:ao T.N w w'
 jH:∀q,av.M q→T.M q∨w.heap.size≤q
 fn:∀q,av.N q→T.N q∨w.heap.size≤q
theorem b_.refl (T:aZ) (w:World):b_ T T w w 0:=⟨rfl,rfl,rfl,rfl,rfl,rfl,rfl,rfl,rfl,rfl,cR _,fun _ h=>h, .refl _ _,fun _ h=> .inl h,fun _ h=> .inl h⟩
theorem b_.ext {w w':World} (T:aZ) (h:Ext w w'):b_ T T w w' 0:=⟨rfl,rfl,rfl,rfl,rfl,rfl,rfl,rfl,rfl,rfl,cR _,fun _ h=>h,ao.eT h,fun _ h=> .inl h,fun _ h=> .inl h⟩
theorem b_.trans {T av xz:aZ} {w w' iI:World} {k l:Nat} (U:b_ T av w w' k) (ad:b_ av xz w' iI l):b_ T xz w iI (k+l):=by
 have aj:=U.an.size
 refine ⟨ad.bQ.trans U.bQ,ad.dD.trans U.dD,ad.n.trans U.n,ad.g.trans U.g,ad.s1.trans U.s1,ad.s2.trans U.s2,ad.c.trans U.c,ad.d.trans U.d,ad.gp.trans U.gp,ad.gen.trans U.gen,by have:=U.cX;have:=ad.cX;omega,
   fun m hm=>ad.calm m (U.calm (m+l) (by rw[show m+l+k=m+(k+l) by omega];exact hm)),l5 U.an ad.an fun q J h=>(U.fn q h).resolve_right (by omega),fun q J=> ?_,fun q J=> ?_⟩
 · rcases ad.jH q J with h|h
   · exact U.jH q h
   · exact .inr (by omega)
 · rcases ad.fn q J with h|h
   · exact U.fn q h
   · exact .inr (by omega)
theorem b_.mono {T av:aZ} {w w':World} {k l:Nat} (h:b_ T av w w' k) (az:k≤l):b_ T av w w' l:=
 ⟨h.bQ,h.dD,h.n,h.g,h.s1,h.s2,h.c,h.d,h.gp,h.gen,by have:=h.cX;omega,fun m hm=>h.calm m (nt hm (by omega)),h.an,h.jH,h.fn⟩
theorem b_.dE {T av:aZ} {w w':World} {k lo:Nat} (h:b_ T av w w' k) {n:aL} {K V D:aa} (aC:cg (fun q=>lo≤q∧¬T.M q) w n K V D):cg (fun q=>lo≤q∧¬av.M q) w' n K V D:=by
 have U:cg (fun q=>q<w.heap.size∧lo≤q∧¬T.M q) w n K V D:=aC.bz fun q J ab=>⟨J,ab⟩
 refine (cg.an U h.an fun q J hm=>J.2.2 (aZ.lJ hm)).bz fun q _ ab=>⟨ab.2.1,fun hm=> ?_⟩
 rcases h.jH q hm with ad|ad
 · exact ab.2.2 ad
 · have:=ab.1;omega
section
variable {w w':World} {T av:aZ}
theorem b_.step {W E G:Nat→Prop} {ag:World} {k:Nat} (h:b_ T av w ag k) (al:ao W ag w') (dk:∀q,W q→q<w.heap.size→T.N q) (fJ:∀q,E q→av.E q∨av.G q∨w.heap.size≤q) (hF:∀q,G q→av.G q∨w.heap.size≤q):b_ T (av.dw E G) w w' k:=by
 refine ⟨h.bQ,h.dD,h.n,h.g,h.s1,h.s2,h.c,h.d,h.gp,h.gen,h.cX,h.calm,l5 h.an al fun q J hw=>dk q hw J,fun q J=> ?_,fun q J=> ?_⟩
 · rcases J with J|J|J|J|J
   · exact h.jH q (.inl J)
   · exact h.jH q (.inr (.inl J))
   · exact h.jH q (.inr (.inr (.inl J)))
   · rcases fJ q J with U|U|U
     · exact h.jH q (.inr (.inr (.inr (.inl U))))
     · exact h.jH q (.inr (.inr (.inr (.inr U))))
     · exact .inr U
   · rcases hF q J with U|U
     · exact h.jH q (.inr (.inr (.inr (.inr U))))
     · exact .inr U
 · rcases J with J|J|J|J
   · exact h.fn q (.inl J)
   · exact h.fn q (.inr (.inl J))
   · exact h.fn q (.inr (.inr (.inl J)))
   · rcases hF q J with U|U
     · exact h.fn q (.inr (.inr (.inr U)))
     · exact .inr U
theorem b_.local {c7 uj i_ Te:Nat→Prop} {ag:World} {k:Nat} (h:b_ (T.dw c7 i_) av ag w' k) (af:Ext w ag) (lp:∀q,c7 q→T.E q∨w.heap.size≤q) (AP:∀q,i_ q→T.G q∨w.heap.size≤q)
   (wP:∀q,uj q→av.E q∨av.G q) (amv:∀q,Te q→av.G q):b_ T (av.dw uj Te) w w' k:=by
 have b7:b_ T (T.dw c7 i_) w ag 0:=(b_.ext T (w:=w) (w':=w) (ao.refl _ _)).step (W:=fun _=>False) af (fun _ h=>h.elim) (fun q h=>(lp q h).imp id .inr) AP
 have U:=b7.trans h
 rw[gy] at U
 exact U.step (W:=fun _=>False) (ao.refl _ _) (fun _ h=>h.elim) (fun q h=>(wP q h).imp id .inl) fun q h=> .inl (amv q h)
theorem c1.lt (h:c1 w T) {q:Nat} (J:T.M q):q<w.heap.size:=by
 rcases J with J|J
 · exact h.pP.raw.lt J
 · exact (h.pP.inv.nu q J).1
theorem c1.uc (h:c1 w T) {q:Nat} (J:T.E q):¬T.N q:=by
 rintro (aC|aC|aC|aC)
 · exact (h.pP.inv.nu q (.inr (.inr (.inl J)))).2 aC
 · exact (h.gD q J).1 aC
 · exact (h.gD q J).2.1 aC
 · exact (h.gD q J).2.2 aC
theorem c1.ext (h:c1 w T) (af:Ext w w'):c1 w' T:=⟨h.t.ext af,h.s.ext af,h.pP.ext af,h.y9,h.gD,h.rL,h.n,h.num,h.lK⟩
theorem mZ.grow {X Y W:Nat→Prop} {C:eY} (h:mZ X w C) (al:ao W w w') (dk:∀q,W q→q<w.heap.size→X q) (aaa:∀q,Y q→X q∨(w.heap.size≤q∧q<w'.heap.size)):mZ Y w' C:=by
 have pc:ao X w w':=l5 (W:=X) (ao.refl _ _) al fun q J hw=>dk q hw J
 refine ⟨h.raw.an pc fun q J af=>(h.inv.nu q af).2 J,h.inv.pins,fun f aG l7=> ?_,h.inv.un,fun q J=> ?_⟩
 · obtain ⟨no,aB,aF,aJ,aM,cU⟩:=h.inv.ok f aG l7
   have vG:bL (fun q=>q<w.heap.size∧¬jG C q∧¬X q) w f.b f.l:=bL.bz aJ fun q J ab=>⟨J,ab⟩
   refine ⟨no,aB,aF,bL.bz (bL.an vG pc fun q J af=>J.2.2 af) fun q _ ab=>⟨ab.2.1,fun b8=> ?_⟩,aM,cU⟩
   rcases aaa q b8 with U|U
   · exact ab.2.2 U
   · have:=ab.1;omega
 · rcases aaa q J with U|U
   · exact ⟨lv (h.inv.nu q U).1 al.size,(h.inv.nu q U).2⟩
   · exact ⟨U.2,fun aG=>by have:=h.raw.lt aG;omega⟩
theorem c1.grow {E G W:Nat→Prop} (h:c1 w T) (al:ao W w w') (dk:∀q,W q→q<w.heap.size→T.E q∨T.G q) (fJ:∀q,E q→T.E q∨T.G q∨(w.heap.size≤q∧q<w'.heap.size)) (hF:∀q,G q→T.E q∨T.G q∨(w.heap.size≤q∧q<w'.heap.size)) (amw:∀q,E q→¬G q):c1 w' (T.dw E G):=by
 have ON:∀q,T.E q∨T.G q→q≠T.bQ∧¬kD T.dD T.s1 T.s2 q:=fun q J=>by
   rcases J with J|J
   · exact ⟨(h.gD q J).1,(h.gD q J).2.1⟩
   · exact h.rL q J
 have pc:ao (fun q=>T.E q∨T.G q) w w':=l5 (W:=fun q=>T.E q∨T.G q) (ao.refl _ _) al fun q J hw=>dk q hw J
 have aC:∀q,T.E q∨T.G q∨(w.heap.size≤q∧q<w'.heap.size)→q≠T.bQ∧¬kD T.dD T.s1 T.s2 q:=fun q J=>by
   rcases J with J|J|J
   · exact ON q (.inl J)
   · exact ON q (.inr J)
   · exact ⟨fun e=>by have ad:=h.lt (q:=q) (.inr (.inl e));omega,fun e=>by have ad:=h.lt (q:=q) (.inr (.inr (.inl e)));omega⟩
 have ee:∀q,T.E q∨T.G q∨(w.heap.size≤q∧q<w'.heap.size)→T.X q∨(w.heap.size≤q∧q<w'.heap.size):=fun q J=>by
   rcases J with J|J|J
   · exact .inl (.inr (.inr (.inl J)))
   · exact .inl (.inr (.inr (.inr J)))
   · exact .inr J
 refine ⟨h.t.an pc fun e=>(ON _ e).1 rfl,h.s.an pc fun q J e=>(ON q e).2 J,h.pP.grow al (fun q J az=> .inr (.inr (dk q J az))) fun q J=> ?_,h.y9,fun q J=>⟨(aC q (fJ q J)).1,(aC q (fJ q J)).2,amw q J⟩,fun q J=>aC q (hF q J),h.n,h.num,h.lK⟩
 rcases J with J|J|J|J
 · exact .inl (.inl J)
 · exact .inl (.inr (.inl J))
 · exact ee q (fJ q J)
 · exact ee q (hF q J)
theorem c1.cells (h:c1 w T):w.cell? ⟨T.bQ,0,none⟩=some (.pointer (some ⟨T.C.c,0,none⟩))∧w.cell? (Addr.add ⟨T.bQ,0,none⟩ 1)=some (.pointer (some ⟨T.dD,0,none⟩))∧w.cell? (Addr.add ⟨T.bQ,0,none⟩ 2)=some (.int .u64 (T.gen:Nat))∧
   w.cell? (Addr.add ⟨T.bQ,0,none⟩ 3)=some (.int .i64 (T.root:Nat))∧w.cell? (Addr.add ⟨T.bQ,0,none⟩ 4)=some (.int .i64 (T.bn:Nat)):=by
 rw[aX,aX,aX,aX]
 exact ⟨h.t.cell,h.t.cell,h.t.cell,h.t.cell,h.t.cell⟩
theorem c1.amx (h:c1 w T) {no:Nat} (dc:no<T.n):(T.C.view no).length=256:=by
 unfold eY.view
 cases aG:T.C.aE.find? fun f=>f.full&&f.no==(no:Int) with
 |some f=>
   have U:=EM aG
   have ad:=GY aG
   obtain ⟨m,au⟩:=h.pP.inv.ok f U (by
     have:(f.full&&f.no==(no:Int))=true:=ad
     exact (Bool.and_eq_true_iff.1 this).1)
   exact au.len
 |none=>exact h.pP.raw.dev.Oy (by rw[h.n];exact dc)
theorem c1.Tf {bx:eY} {k:Nat} {P:Nat→Option aL} (h:c1 w T) (nU:mZ T.X w' bx) (cA:lG T.C bx w w' k) (gz:∀no dE,P no=some dE→no<T.n∧tb T.gen dE.leaf no (bx.view no) dE):
   c1 w' (T.cQ bx P)∧b_ T (T.cQ bx P) w w' k:=by
 have af:=h.pP.inv.nu
 have al:=cA.an
 refine ⟨⟨?_,h.s.an al fun q J aG=>(af q (.inr (.inl J))).2 aG,nU,h.y9,h.gD,h.rL,?_,h.num,gz⟩,⟨rfl,rfl,rfl,rfl,rfl,rfl,cA.c,cA.d,cA.gp,rfl,cA.cX,cA.calm,al.mono fun q _ J=> .inl J,?_,?_⟩⟩
 · have:=h.t.an al fun aG=>(af T.bQ (.inl rfl)).2 aG
   unfold Dt at this⊢
   rw[←cA.c] at this
   exact this
 · show bx.D.n=T.n
   rw[cA.n,h.n]
 · rintro q (J|J)
   · rcases cA.jH q J with U|U
     · exact .inl (.inl U)
     · exact .inr U
   · exact .inl (.inr J)
 · rintro q (J|J)
   · rcases cA.jH q J with U|U
     · exact .inl (.inl U)
     · exact .inr U
   · exact .inl (.inr J)
end
end
section
def amy (T:aZ) (leaf:Bool) (no:Nat) (e:Int):Prop:=
 (e=3∧¬T.C.D.calm 2)∨mn (no:Int) (T.C.view no)= .error e∨(e=4∧(∃p,mn (no:Int) (T.C.view no)= .ok p)∧∀n,¬tb T.gen leaf no (T.C.view no) n)
def FI (T:aZ) (leaf:Bool) (no:Nat) (w:World) (v:Value) (w':World):Prop:=
 ∃bx:eY,c1 w' (T.cQ bx T.P)∧b_ T (T.cQ bx T.P) w w' 2∧(∀j,bx.view j=T.C.view j)∧
   ((∃ (n:aL) (K V D:aa),v= .tuple #[fc n K V D, .int .i64 0]∧tb T.gen leaf no (T.C.view no) n∧cg (fun q=>w.heap.size≤q∧¬(T.cQ bx T.P).M q) w' n K V D)∨
     (∃e:Int,v= .tuple #[fc o4 bX bX bX, .int .i64 e]∧amy T leaf no e∧e≠0))
theorem aab {no:Int} {l:lF} {e:Int} (h:mn no l= .error e):e≠0:=by
 intro he
 subst he
 unfold mn at h
 repeat' split at h
 all_goals first|(injection h with h;exact absurd h (by decide))|cases h
theorem amz {no:Int} {l:lF} {p:tO} (h:mn no l= .ok p):p.body.length≤256:=by
 unfold mn at h
 repeat' split at h
 all_goals first|(cases h;done)|skip
 rename_i U _ _ _ _ _
 injection h with h
 rw[←h]
 show (List.take _ (List.drop 24 l)).length≤256
 rw[ej,fF]
 omega
theorem aac {w':World} {h:Nat} {vs:List Value} (n g:Int) (s:aa) (ak:Var w' h vs ah.J4) (az:vs.length=3) {K:World→Prop} (bu:∀aw,Var aw h [.int .i64 n, .int .u64 g, .slice s.a s.len s.cap] ah.J4→ao (fun q=>q=h) w' aw→aw.heap.size=w'.heap.size→K aw):
   c2 w' ⟨h,0,none⟩ [.int .i64 n, .int .u64 g, .slice s.a s.len s.cap]∧(3:Nat)=3∧ay (setCells w' ⟨h,0,none⟩ 0 [.int .i64 n, .int .u64 g, .slice s.a s.len s.cap]) K:=by
 refine ⟨ak.dC (by rw[az];rfl) ?_,rfl,eo ak (us:=[.int .i64 n, .int .u64 g, .slice s.a s.len s.cap]) (by rw[az];rfl) rfl bu⟩
 intro v ak
 simp only[fZ,mT,mU] at ak
 rcases ak with rfl|rfl|rfl<;>trivial
theorem Tg {w:World} {T:aZ} (h:c1 w T) (gC:T.C.D.cX≤999999999) {no:Nat} (dc:no<T.n) (leaf:Bool):
   aO Tryz.prog F.sw #[.pointer (some ⟨T.bQ,0,none⟩), .int .i64 ((no:Nat):Int), .bool leaf] w (FI T leaf no w):=by
 have nk:=h.s.db
 have jM:=h.amx dc
 refine W.amA (some ⟨T.bQ,0,none⟩) ((no:Nat):Int) leaf w _ ?_
 (delta W.sw dx gk aA Th ai OO bV aq aad z3 kT bK Kb uk;dsimp only)
 refine cx (vs:=[.bool false, .slice none 0 0, .slice none 0 0, .slice none 0 0]) rfl fun ag nH bG kO=> ?_
 obtain ⟨i_,AP⟩:∃i_,i_=fun q=>T.G q∨q=w.heap.size:=⟨_,rfl⟩
 have aae:i_ w.heap.size:=by rw[AP];exact .inr rfl
 have Ti:∀q,T.G q→i_ q:=fun q J=>by rw[AP];exact .inl J
 have Tj:∀q,i_ q→T.G q∨q=w.heap.size:=fun q J=>by rw[AP] at J;exact J
 have U:c1 ag (T.dw T.E i_):=h.grow (W:=fun _=>False) bG (fun _ h=>h.elim) (fun q J=> .inl J) (fun q J=> .inr ((Tj q J).imp id fun e=>⟨by omega,by omega⟩)) fun q J bg=>by
   rcases Tj q bg with ad|ad
   · exact (h.gD q J).2.2 ad
   · have:=h.lt (q:=q) (.inr (.inr (.inr (.inl J))));omega
 refine ⟨_,rfl,_,U.cells.1,(alb U.pP gC (no:=no) (by rw[U.n];exact dc)).use ?_⟩
 rintro _ bp ⟨bx,nU,cA,ak,eZ⟩
 obtain ⟨aH,amB⟩:=U.Tf (P:=T.P) nU cA (fun no dE aW=>by rw[ak];exact U.lK no dE aW)
 have Fh:=cA.an.size
 have Kx:Var bp w.heap.size [.bool false, .slice none 0 0, .slice none 0 0, .slice none 0 0] ah.cO:=nH.an cA.an fun aG=>(U.pP.inv.nu _ (.inr (.inr (.inr aae)))).2 aG
 have fin:∀w':World,ao (fun q=>q=w.heap.size) bp w'→c1 w' (T.cQ bx T.P)∧b_ T (T.cQ bx T.P) w w' 2:=fun w' al=>by
   refine ⟨aH.grow (E:=T.E) (G:=T.G) al (fun q e _=> .inr (by rw[e];exact aae)) (fun q J=> .inl J) (fun q J=> .inr (.inl (Ti q J))) fun q J=>(h.gD q J).2.2,?_⟩
   have aY:=amB.local bG (fun q J=> .inl J) (fun q J=>(Tj q J).imp id fun e=>by omega) (uj:=T.E) (Te:=T.G) (fun q J=> .inl J) Ti
   exact aY.step al (fun q e az=>by omega) (fun q J=> .inl J) fun q J=> .inl J
 have amC:∀ {w':World} {n:aL} {K V D:aa} {B:Nat→Prop},cg (fun q=>bp.heap.size≤q) w' n K V D→cg (fun q=>w.heap.size≤q∧¬(T.cQ bx T.P).M q) w' n K V D:=fun aC=>by
   refine aC.bz fun q _ J=>⟨by omega,fun hm=> ?_⟩
   have:q<bp.heap.size:=aH.lt (q:=q) (by
     rcases hm with hm|hm|hm|hm|hm
     · exact .inl hm
     · exact .inr (.inl hm)
     · exact .inr (.inr (.inl hm))
     · exact .inr (.inr (.inr (.inl hm)))
     · exact .inr (.inr (.inr (.inr (Ti q hm)))))
   omega
 rcases eZ with ⟨s,rfl,aj⟩|⟨rfl,fk⟩
 · refine ⟨s,0,rfl,fun ab=>(by cases ab),fun _=>(yu aj.1 aj.2.1 (by show (T.C.view no).length≤1000;rw[jM];omega) _).use ?_⟩
   rintro _ bZ ⟨FJ,jP⟩
   have Kv:=Kx.ext jP
   have Sq:=jP.size
   have a_:(T.dw T.E i_).C.view no=T.C.view no:=rfl
   rw[a_] at FJ
   cases lq:mn ((no:Nat):Int) (T.C.view no) with
   |error e=>
     rw[lq] at FJ
     obtain rfl:=FJ
     refine ⟨0,0,⟨none,0,0⟩,e,rfl,cx (vs:=[.int .i64 0, .int .u64 0, .slice none 0 0]) rfl fun dj AQ um Du=> ?_⟩
     refine aac 0 0 ⟨none,0,0⟩ AQ rfl fun cw FK AR Tk=>⟨fun _=> ?_,fun ab=> ?_⟩
     · have OP:Var cw w.heap.size [.bool false, .slice none 0 0, .slice none 0 0, .slice none 0 0] ah.cO:=(Kv.ext um).an AR (by omega)
       refine ry false bX bX bX OP rfl (Q:=fun b K V D aw=>FI T leaf no w (.tuple #[.agg #[.bool b, .slice K.a K.len K.cap, .slice V.a V.len V.cap, .slice D.a D.len D.cap], .int .i64 e]) aw) fun bB lW=> ?_
       obtain ⟨f1,f2⟩:=fin bB (l5 (W:=fun q=>q=w.heap.size) (ao.eT (Ext.fb (jP.trans um) AR (by omega))) lW fun q _ e=>e)
       exact ⟨bx,f1,f2,ak, .inr ⟨e,rfl, .inr (.inl lq),aab lq⟩⟩
     · have:=aab lq
       simp at ab;omega
   |ok p=>
     rw[lq] at FJ
     obtain ⟨ar,rfl,mo,gf⟩:=FJ
     refine ⟨p.kind,p.gen,ar,0,rfl,cx (vs:=[.int .i64 0, .int .u64 0, .slice none 0 0]) rfl fun dj AQ um Du=> ?_⟩
     refine aac p.kind p.gen ar AQ rfl fun cw FK AR Tk=>⟨fun ab=>(by cases ab),fun _=>bN ?_⟩
     have OP:Var cw w.heap.size [.bool false, .slice none 0 0, .slice none 0 0, .slice none 0 0] ah.cO:=(Kv.ext um).an AR (by omega)
     have oQ:Ext bp cw:=Ext.fb (jP.trans um) AR (by omega)
     have bD:Ext bp cw.drew:=oQ.trans (dT _)
     have xa:Var cw.drew w.heap.size [.bool false, .slice none 0 0, .slice none 0 0, .slice none 0 0] ah.cO:=OP.drew
     have H3:=FK.drew
     have rM:=(aH.ext bD).cells
     obtain ⟨b,ab⟩:∃b,b=bZ.heap.size:=⟨_,rfl⟩
     rw[←ab] at H3⊢
     have Tl:cw.drew.cell? ⟨b,0,none⟩=some (.int .i64 (p.kind:Nat)):=H3.cell
     have iR:cw.drew.cell? (Addr.add ⟨b,0,none⟩ 1)=some (.int .u64 (p.gen:Nat)):=by rw[aX];exact H3.cell
     have dS:cw.drew.cell? (Addr.add ⟨b,0,none⟩ 2)=some (.slice ar.a ar.len ar.cap):=by rw[aX];exact H3.cell
     have dH:bp.heap.size≤cw.drew.heap.size:=bD.size
     refine ⟨id,_,iR,_,rfl,id,_,rM.2.2.1,fun bg=> ?_,fun bg=>⟨id,_,Tl,?_⟩⟩
     · have bg:T.gen<p.gen:=by
         have:((p.gen:Nat):Int)>((T.gen:Nat):Int):=dG bg
         omega
       refine eN (fun b w'=>b=true∧w'=cw.drew) (fun q J=>⟨fun _=>J _ _ ⟨rfl,rfl⟩,fun h=>by cases h⟩) ?_
       rintro _ _ ⟨rfl,rfl⟩
       refine ⟨fun _=> ?_,fun h=>(by cases h)⟩
       refine ry false bX bX bX xa rfl (Q:=fun b K V D aw=>FI T leaf no w (.tuple #[.agg #[.bool b, .slice K.a K.len K.cap, .slice V.a V.len V.cap, .slice D.a D.len D.cap], .int .i64 4]) aw) fun bB lW=> ?_
       obtain ⟨f1,f2⟩:=fin bB (l5 (W:=fun q=>q=w.heap.size) (ao.eT bD) lW fun q _ e=>e)
       refine ⟨bx,f1,f2,ak, .inr ⟨4,rfl, .inr (.inr ⟨rfl,⟨p,lq⟩,?_⟩),by decide⟩⟩
       rintro n ⟨e2,aB,aF,_⟩
       rw[lq] at aB;cases aB
       omega
     · have bg:p.gen≤T.gen:=by
         have:¬((p.gen:Nat):Int)>((T.gen:Nat):Int):=eW bg
         omega
       refine eN (fun b w'=>w'=cw.drew∧(b=false↔p.kind=(if leaf then 1 else 2))) (fun q J=>⟨fun h=>J _ _ ⟨rfl,?_⟩,fun h=>⟨_,Tl,eN (fun b w'=>w'=cw.drew∧(b=false↔p.kind=(if leaf then 1 else 2))) (fun r aN=>⟨fun ad=>⟨_,Tl,aN _ _ ⟨rfl,?_⟩⟩,fun ad=>aN _ _ ⟨rfl,?_⟩⟩) fun b w' amD=>J b w' amD⟩⟩) ?_
       · refine ⟨fun h=>(by cases h),fun ae=> ?_⟩
         rw[ae] at h
         cases leaf<;>simp at h
       · cases leaf
         · simp
           exact Int.ofNat_inj
         · simp at ad h;omega
       · cases leaf
         · simp at ad h;omega
         · simp at ad
           simp
           omega
       rintro jx _ ⟨rfl,ae⟩
       refine ⟨fun ab=> ?_,fun ab=>⟨_,dS,(wN ((mo.ext (Ext.fb um AR (by omega)|>.trans (dT _))).src) ?_ ?_ ?_ leaf).use ?_⟩⟩
       · refine ry false bX bX bX xa rfl (Q:=fun b K V D aw=>FI T leaf no w (.tuple #[.agg #[.bool b, .slice K.a K.len K.cap, .slice V.a V.len V.cap, .slice D.a D.len D.cap], .int .i64 4]) aw) fun bB lW=> ?_
         obtain ⟨f1,f2⟩:=fin bB (l5 (W:=fun q=>q=w.heap.size) (ao.eT bD) lW fun q _ e=>e)
         refine ⟨bx,f1,f2,ak, .inr ⟨4,rfl, .inr (.inr ⟨rfl,⟨p,lq⟩,?_⟩),by decide⟩⟩
         rintro n ⟨e2,aB,aF,aJ,_⟩
         rw[lq] at aB;cases aB
         rw[ae.2 aJ] at ab;cases ab
       · exact mo.2.1
       · intro k ae
         have:=b3.lt mo k ae
         have:=um.size
         show k<cw.heap.size
         omega
       · have:=amz lq
         omega
       rintro _ jo ⟨amE,AS⟩
       have aaf:Ext bp jo:=bD.trans AS
       have OQ:=xa.ext AS
       rcases amE with ⟨n,K,V,D,rfl,ed,hU⟩|⟨rfl,KX⟩
       · refine ⟨n.leaf,K,V,D,0,rfl,?_⟩
         refine ry n.leaf K V D OQ rfl (Q:=fun b K V D aw=>FI T leaf no w (.tuple #[.agg #[.bool b, .slice K.a K.len K.cap, .slice V.a V.len V.cap, .slice D.a D.len D.cap], .int .i64 0]) aw) fun bB lW=> ?_
         obtain ⟨f1,f2⟩:=fin bB (l5 (W:=fun q=>q=w.heap.size) (ao.eT aaf) lW fun q _ e=>e)
         refine ⟨bx,f1,f2,ak, .inl ⟨n,K,V,D,rfl,⟨p,lq,bg,ae.1 ab,ed⟩,?_⟩⟩
         refine amC (B:=fun _=>True) (cg.an (hU.bz fun q _ J=> ?_) lW fun q J e=> ?_)
         · omega
         · have:bp.heap.size≤q:=J
           omega
       · refine ⟨false,bX,bX,bX,4,rfl,?_⟩
         refine ry false bX bX bX OQ rfl (Q:=fun b K V D aw=>FI T leaf no w (.tuple #[.agg #[.bool b, .slice K.a K.len K.cap, .slice V.a V.len V.cap, .slice D.a D.len D.cap], .int .i64 4]) aw) fun bB lW=> ?_
         obtain ⟨f1,f2⟩:=fin bB (l5 (W:=fun q=>q=w.heap.size) (ao.eT aaf) lW fun q _ e=>e)
         refine ⟨bx,f1,f2,ak, .inr ⟨4,rfl, .inr (.inr ⟨rfl,⟨p,lq⟩,?_⟩),by decide⟩⟩
         rintro n ⟨e2,aB,aF,aJ,aM⟩
         rw[lq] at aB;cases aB
         exact KX n aM
 · refine ⟨⟨none,0,0⟩,3,rfl,fun _=> ?_,fun ab=>(by cases ab)⟩
   refine ry false bX bX bX Kx rfl (Q:=fun b K V D aw=>FI T leaf no w (.tuple #[.agg #[.bool b, .slice K.a K.len K.cap, .slice V.a V.len V.cap, .slice D.a D.len D.cap], .int .i64 3]) aw) fun bB lW=> ?_
   obtain ⟨f1,f2⟩:=fin bB lW
   exact ⟨bx,f1,f2,ak, .inr ⟨3,rfl, .inl ⟨rfl,fk⟩,by decide⟩⟩
end
section
structure gE where
 no:Nat
 n:aL
 e3:Nat
 K:aa
 V:aa
 D:aa
def gE.c (s:gE):List Value:=[.int .i64 (s.no:Nat), .bool s.n.leaf, .slice s.K.a s.K.len s.K.cap, .slice s.V.a s.V.len s.V.cap, .slice s.D.a s.D.len s.D.cap, .int .i64 (s.e3:Nat)]
def gE.st (s:gE):Nat×aL×Nat:=(s.no,s.n,s.e3)
theorem Dv (l:List gE):∀x∈l,(gE.c x).length=6:=fun _ _=>rfl
structure uo (B:Nat→Prop) (w:World) (s:aa) (l:List gE):Prop where
 own:b3 6 ah.uq w s (cL gE.c l)
 FL:∀q,aQ s q→B q
 dE:∀x∈l,cg B w x.n x.K x.V x.D
def Dw (P:Nat→Option aL) (k:Key):Nat→Nat→List (Nat×aL×Nat)→Prop
 |0,_,l=>l=[]
 |h+1,no,l=>∃n rest,P no=some n∧n.leaf=decide (h=0)∧l=(no,n,if h=0 then 0 else fR n.keys k)::rest∧Dw P k h (n.kids.getD (fR n.keys k) 0) rest
theorem Dw.length {P:Nat→Option aL} {k:Key}:∀ {h no:Nat} {l:List (Nat×aL×Nat)},Dw P k h no l→l.length=h
 |0,_,_,h=>by rw[h];rfl
 |h+1,_,_,⟨n,rest,_,_,au,aH⟩=>by rw[au,k8,Dw.length aH]
theorem tb.uniq {gen no:Nat} {leaf:Bool} {l:lF} {n m:aL} (U:tb gen leaf no l n) (ad:tb gen leaf no l m):n=m:=by
 obtain ⟨p,bc,cW,a3,a4⟩:=U
 obtain ⟨q,da,cI,eM,e7⟩:=ad
 rw[bc] at da
 cases da
 exact yl.uniq a4 e7
theorem tb.is {gen no:Nat} {leaf:Bool} {l:lF} {n:aL} (h:tb gen leaf no l n):n.leaf=leaf∧d_ n∧cq n≤232:=by
 obtain ⟨p,_,_,_,a⟩:=h
 exact ⟨a.2.1,a.1,a.2.2.1⟩
theorem d_.kg {n:aL} (h:d_ n):n.keys.Pairwise cv:=by
 rcases h with h|h
 · exact h.kg
 · exact h.kg
def amF (T:aZ) (steps:List (Nat×aL×Nat)) (w:World) (v:Value) (w':World):Prop:=
 ∃bx:eY,c1 w' (T.cQ bx T.P)∧b_ T (T.cQ bx T.P) w w' (2*T.bn)∧(∀j,bx.view j=T.C.view j)∧
   ((∃ (s:aa) (l:List gE),v= .tuple #[.slice s.a s.len s.cap, .int .i64 0]∧l.map gE.st=steps∧uo (fun q=>w.heap.size≤q∧¬(T.cQ bx T.P).M q) w' s l)∨(v= .tuple #[.slice none 0 0, .int .i64 3]∧¬T.C.D.calm (2*T.bn)))
theorem amG (w:World) (cs:Array Value) (h:cs.size=6):Sem.run Tryz.prog (Instr.buildSlice ah.FM 1 #[(0, .agg cs)]) w= .ok (.slice (some ⟨w.heap.size,0,none⟩) 1 1) (w.alloc (.cells cs ah.uq)):=by
 have b7:((Tryz.prog.info? ah.uq).bind (·.zero)).isSome=true:=by kernel_rfl
 obtain ⟨z,bO⟩:=Cf.1 b7
 obtain ⟨i,hi,tZ⟩:=KR bO
 have U:(Tryz.prog.underlying ah.uq).isSome=true:=by kernel_rfl
 obtain ⟨d,hd⟩:=Cf.1 U
 exact SM (sz:=6) w (by kernel_rfl) hd (by kernel_rfl) hi tZ h (by decide) (by decide)
theorem amH:p9 Tryz.prog ah.FM ah.uq 6 96:=⟨by kernel_rfl⟩
end
section
theorem Tm {h:Nat} {n:aL} (di:n.leaf=decide (h=0)):((((h+1:Nat):Int):Int)==1)=n.leaf:=by
 rw[di,oX,zZ,fx]
 omega
theorem Tn {w:World} {T:aZ} {aI:aa} {k:Key} {steps:List (Nat×aL×Nat)} (h:c1 w T) (gC:T.C.D.cX≤900000000) (ae:Src 1 w aI (bo k)) (sx:∀q,aQ aI q→q<w.heap.size∧¬T.M q) (hw:Dw T.P k T.bn T.root steps):
   aO Tryz.prog F.y_ #[.pointer (some ⟨T.bQ,0,none⟩), .slice aI.a aI.len aI.cap] w (amF T steps w):=by
 have cS:=h.num.2.1
 refine W.amI (some ⟨T.bQ,0,none⟩) aI w _ ?_
 (delta W.y_ bK aA uk dx ai bV aq Dx aV st a6 aD;dsimp only)
 refine ⟨_,rfl,_,h.cells.2.2.2.1,_,rfl,_,h.cells.2.2.2.2,fun s n8 n9 w'=>∃ (jq no:Nat) (l:List gE) (rest:List (Nat×aL×Nat)) (c7:Nat→Prop) (bx:eY),n9=(jq:Nat)∧n8=(no:Nat)∧Dw T.P k jq no rest∧l.map gE.st++rest=steps∧l.length+jq=T.bn∧
   c7=(fun q=>T.E q∨aQ s q)∧(∀q,aQ s q→w.heap.size≤q)∧c1 w' ((T.dw c7 T.G).cQ bx T.P)∧b_ T ((T.dw c7 T.G).cQ bx T.P) w w' (2*l.length)∧(∀j,bx.view j=T.C.view j)∧b3 6 ah.uq w' s (cL gE.c l)∧
   ∀x∈l,cg (fun q=>w.heap.size≤q∧¬((T.dw c7 T.G).cQ bx T.P).M q) w' x.n x.K x.V x.D,fun _ _ n9 _=>n9.toNat,?_,?_⟩
 · have fJ:T.E=fun q=>T.E q∨aQ ⟨none,0,0⟩ q:=by
     funext q
     refine propext ⟨.inl,fun h=>h.resolve_right ?_⟩
     rintro ⟨A,ax,_⟩
     cases ax
   have H4:(T.dw T.E T.G).cQ T.C T.P=T:=rfl
   refine ⟨T.bn,T.root,[],steps,T.E,T.C,rfl,rfl,hw,rfl,by simp,fJ,?_,by rw[H4];exact h,by rw[H4];exact .refl _ _,fun _=>rfl,?_,fun x af=>(by cases af)⟩
   · rintro q ⟨A,ax,_⟩
     cases ax
   · exact ⟨rfl,cR _,by decide, .inl ⟨rfl,rfl⟩⟩
 have fin:∀ {w':World} {c7:Nat→Prop} {bx:eY} {s:aa} {k:Nat},c1 w' ((T.dw c7 T.G).cQ bx T.P)→b_ T ((T.dw c7 T.G).cQ bx T.P) w w' k→c7=(fun q=>T.E q∨aQ s q)→(∀q,aQ s q→w.heap.size≤q)→c1 w' (T.cQ bx T.P)∧b_ T (T.cQ bx T.P) w w' k:=by
   intro w' c7 bx s k U ad au aH
   have H5:∀q,T.E q→c7 q:=fun q J=>by rw[au];exact .inl J
   exact ⟨U.grow (W:=fun _=>False) (E:=T.E) (G:=T.G) (ao.refl _ _) (fun _ h=>h.elim) (fun q J=> .inl (H5 q J)) (fun q J=> .inr (.inl J)) fun q J=>(h.gD q J).2.2,
     ad.step (W:=fun _=>False) (ao.refl _ _) (fun _ h=>h.elim) (fun q J=> .inl (H5 q J)) fun q J=> .inl J⟩
 rintro s _ _ bR ⟨jq,no,l,rest,c7,bk,rfl,rfl,FN,gW,hlen,lp,Ak,bj,cA,ak,j1,hU⟩
 have aag:=cA.an.size
 refine ⟨fun ba=> ?_,fun ck=> ?_⟩
 · obtain ⟨tc,rfl⟩:∃oo,jq=oo+1:=⟨jq-1,by have:((jq:Nat):Int)>0:=dG ba;omega⟩
   obtain ⟨n,ig,aW,di,rfl,aah⟩:=FN
   obtain ⟨dc,lq⟩:=bj.lK no n aW
   have HW:bk.D.cX≤999999999:=by
     have:bk.D.cX≤T.C.D.cX+2*l.length:=cA.cX
     omega
   refine (Tg bj HW dc _).use ?_
   rintro _ cf ⟨FO,ad,nK,gR,eZ⟩
   have To:=cA.trans nK
   have dH:=nK.an.size
   rw[Tm di] at eZ
   rcases eZ with ⟨db,K,V,D,rfl,H6,Tp⟩|⟨e,rfl,KY,c5⟩
   · obtain rfl:=tb.uniq lq H6
     obtain ⟨_,rI,avj⟩:=lq.is
     have Dy:=rI.kg
     have pd:=ND rI
     refine ⟨n.leaf,K,V,D,0,rfl,cx (vs:=[.bool false, .slice none 0 0, .slice none 0 0, .slice none 0 0]) rfl fun eP FP za Tq=> ?_⟩
     refine ⟨FP.dC rfl ?_,rfl,eo FP (us:=[.bool n.leaf, .slice K.a K.len K.cap, .slice V.a V.len V.cap, .slice D.a D.len D.cap]) rfl rfl fun dj AQ xA Du=>⟨fun ab=>(by cases ab),fun _=> ?_⟩⟩
     · intro v ak
       simp only[fZ,mT,mU] at ak
       rcases ak with rfl|rfl|rfl|rfl<;>trivial
     have um:Ext cf dj:=Ext.fb za xA (cR _)
     have avk:=um.size
     obtain ⟨cJ,aV,bA,bd⟩:=cl AQ
     refine ⟨_,cJ,K,aV,V,bA,D,bd, #[.int .i64 (no:Nat), .bool n.leaf, .slice K.a K.len K.cap, .slice V.a V.len V.cap, .slice D.a D.len D.cap, .int .i64 0],by kernel_rfl,?_⟩
     refine cx (vs:=[.int .i64 0, .bool false, .slice none 0 0, .slice none 0 0, .slice none 0 0, .int .i64 0]) rfl fun gd AT FQ amJ=> ?_
     refine ⟨AT.dC rfl ?_,rfl,eo AT (us:=[.int .i64 (no:Nat), .bool n.leaf, .slice K.a K.len K.cap, .slice V.a V.len V.cap, .slice D.a D.len D.cap, .int .i64 0]) rfl rfl fun cu Tr aai avl=> ?_⟩
     · intro v ak
       simp only[fZ,mT,mU] at ak
       rcases ak with rfl|rfl|rfl|rfl|rfl|rfl<;>trivial
     have zb:Ext cf cu:=Ext.fb (um.trans FQ) aai (by omega)
     have Ts:Var cu cf.heap.size [.bool n.leaf, .slice K.a K.len K.cap, .slice V.a V.len V.cap, .slice D.a D.len D.cap] ah.cO:=(AQ.ext FQ).an aai (by omega)
     obtain ⟨dD,amK⟩:∃dD,dD=dj.heap.size:=⟨_,rfl⟩
     obtain ⟨bF,jY⟩:∃bF,bF=cf.heap.size:=⟨_,rfl⟩
     rw[←amK] at Tr⊢
     rw[←jY] at Ts⊢
     have amL:=Tp.ext zb
     refine eN (fun n40 dy=>n40=(((if tc=0 then no else n.kids.getD (fR n.keys k) 0:Nat)):Int)∧Ext cf dy∧Var dy dD (gE.c ⟨no,n,if tc=0 then 0 else fR n.keys k,K,V,D⟩) ah.uq) (fun q J=>⟨fun az=> ?_,fun az=> ?_⟩) ?_
     · have rN:tc≠0:=by
         have:((tc+1:Nat):Int)>1:=dG az
         omega
       have aaj:n.leaf=false:=by rw[di];simp[rN]
       have fv:=rI.Hv aaj
       have lj:=Nt n.keys k
       obtain ⟨cJ,aV,bA,bd⟩:=cl Ts
       have amM:Src 1 cu aI (bo k):=(ae.an To.an fun q J aC=>(sx q J).2 (aZ.lJ aC)).ext zb
       refine ⟨_,cJ,K,aV,V,bA,D,bd,(vl amL amM Dy (by omega)).use ?_⟩
       rintro _ nv ⟨rfl,KZ⟩
       have aak:=Tr.ext KZ
       obtain ⟨aB,aF⟩:=jk aak (i:=5) (by simp)
       rw[aX]
       refine ⟨_,rfl,aB,aF,bN ?_⟩
       have ec:=il nv dD 5 (.int .i64 ((fR n.keys k:Nat):Int))
       have aal:=jj aak (i:=5) (.int .i64 ((fR n.keys k:Nat):Int))
       have xB:Ext cf (nv.setCell ⟨dD,5,none⟩ (.int .i64 ((fR n.keys k:Nat):Int))):=Ext.fb (zb.trans KZ) ec (by omega)
       have amN:=(Ts.ext KZ).an ec (by omega)
       obtain ⟨d0,d1,d2,d3⟩:=cl amN
       obtain ⟨A,ax,ab,kR⟩:=en.at (Tp.ext xB).kids (i:=fR n.keys k) (by omega)
       refine ⟨D,d3,_,aal.cell,A,ax,ab,_,kR,J _ _ ⟨?_,xB,?_⟩⟩
       · rw[if_neg rN,p6,gH (by omega)];rfl
       · rw[if_neg rN]
         exact aal
     · have rN:tc=0:=by
         have:¬((tc+1:Nat):Int)>1:=eW az
         omega
       refine J _ _ ⟨by rw[if_pos rN],zb,?_⟩
       rw[if_pos rN]
       exact Tr
     rintro _ dy ⟨rfl,OR,OS⟩
     have avm:=OR.size
     refine ⟨_,OS.rd rfl,⟨some ⟨dy.heap.size,0,none⟩,1,1⟩,_,amG _ _ rfl,?_⟩
     have ly:=iP dy (.cells (gE.c ⟨no,n,if tc=0 then 0 else fR n.keys k,K,V,D⟩).toArray ah.uq)
     have AS:=OR.trans ly
     have OQ:=AS.size
     have amO:=ly.size
     have gv:=j1.1
     rw[ov _ (Dv l)] at gv
     have K0:∀q,aQ s q→c7 q:=fun q J=>by rw[lp];exact .inr J
     have amP:b3 6 ah.uq cf s (cL gE.c l):=j1.an nK.an fun q J hm=>bj.uc (K0 q J) hm
     obtain ⟨x,lX⟩:∃x:gE,x=⟨no,n,if tc=0 then 0 else fR n.keys k,K,V,D⟩:=⟨_,rfl⟩
     rw[←lX] at ly AS OQ amO⊢
     have yp:∀v∈gE.c x,Plain v:=by
       intro v ak
       unfold gE.c at ak
       simp only[fZ,mT,mU] at ak
       rcases ak with rfl|rfl|rfl|rfl|rfl|rfl<;>trivial
     obtain ⟨ar,h8,bc,cW,a3,a4,a5⟩:=amH.append (ey:=ah.FM) (x:=⟨some ⟨dy.heap.size,0,none⟩,1,1⟩) (Src.new (T:=ah.uq) dy (gE.c x) 1 rfl) (amP.ext AS) yp (by show (2*(s.len+1)+1000)*96≤_;omega)
     have amQ:=a4.size
     have mo:∀q,aQ ar q→w.heap.size≤q:=fun q J=>by
       rcases a5 q J with U|U
       · exact Ak q U
       · omega
     obtain ⟨uj,wP⟩:∃uj,uj=fun q=>T.E q∨aQ ar q:=⟨_,rfl⟩
     have OT:∀q,uj q→T.E q∨aQ ar q:=fun q J=>by rw[wP] at J;exact J
     have H5:∀q,T.E q→c7 q:=fun q J=>by rw[lp];exact .inl J
     have nR:cL gE.c (l++ [x])=cL gE.c l++gE.c x:=by rw[yX];simp[cL]
     have amR:c1 h8 ((T.dw uj T.G).cQ FO T.P):=by
       refine (ad.ext AS).grow (E:=uj) (G:=T.G) a4 (fun q J _=> .inl (K0 q J)) (fun q J=> ?_) (fun q J=> .inr (.inl J)) fun q J bg=> ?_
       · rcases OT q J with U|U
         · exact .inl (H5 q U)
         · rcases a5 q U with au|au
           · exact .inl (K0 q au)
           · exact .inr (.inr ⟨au,b3.lt cW q U⟩)
       · rcases OT q J with U|U
         · exact (h.gD q U).2.2 bg
         · have au:=h.lt (q:=q) (.inr (.inr (.inr (.inr bg))))
           have:=mo q U
           omega
     have amS:b_ T ((T.dw uj T.G).cQ FO T.P) w h8 (2*(l++ [x]).length):=by
       have U:=(To.trans (b_.ext _ AS)).mono (l:=2*(l++ [x]).length) (by rw[dO,rm];omega)
       refine U.step (E:=uj) (G:=T.G) a4 (fun q J az=>by have:=Ak q J;omega) (fun q J=> ?_) fun q J=> .inl J
       rcases OT q J with U|U
       · exact .inl (H5 q U)
       · exact .inr (.inr (mo q U))
     have aam:∀ {m:aL} {K V D:aa},cg (fun q=>w.heap.size≤q∧¬((T.dw c7 T.G).cQ FO T.P).M q) cf m K V D→cg (fun q=>w.heap.size≤q∧¬((T.dw uj T.G).cQ FO T.P).M q) h8 m K V D:=fun {m K V D} hm=>by
       have U:=(hm.ext AS).bz (C:=fun q=>q<(dy.alloc (.cells (gE.c x).toArray ah.uq)).heap.size∧w.heap.size≤q∧¬((T.dw c7 T.G).cQ FO T.P).M q) fun q J ab=>⟨J,ab⟩
       refine (cg.an U a4 fun q J bE=>J.2.2 (.inr (.inr (.inr (.inl (K0 q bE)))))).bz fun q _ ab=>⟨ab.2.1,fun hm=>ab.2.2 ?_⟩
       rcases hm with hm|hm|hm|hm|hm
       · exact .inl hm
       · exact .inr (.inl hm)
       · exact .inr (.inr (.inl hm))
       · refine .inr (.inr (.inr (.inl ?_)))
         show c7 q
         rcases OT q hm with au|au
         · exact H5 q au
         · rcases a5 q au with aH|aH
           · exact K0 q aH
           · have:=ab.1;omega
       · exact .inr (.inr (.inr (.inr hm)))
     have kE:IntKind.wrap .i64 (((tc+1:Nat):Int)-1)=(tc:Nat):=by rw[cz (by omega) (by omega)];omega
     refine ⟨ar,h8,bc,⟨tc,_,l++ [x],ig,uj,FO,kE,rfl,?_,?_,by rw[dO,rm];omega,wP,mo,amR,amS,fun j=>(gR j).trans (ak j),by rw[nR];exact cW,?_⟩,?_⟩
     · cases tc with
       |zero=>exact aah
       |succ m=>rw[if_neg (by omega)];exact aah
     · rw[←gW,oc,eI,lX];rfl
     · intro y b8
       rcases fa.1 b8 with b8|b8
       · exact aam (nK.dE (hU y b8))
       · obtain rfl:=lR.1 b8
         subst lX
         exact aam (Tp.bz fun q _ ab=>⟨by have:=ab.1;omega,ab.2⟩)
     · rw[kE]
       show ((tc:Nat):Int).toNat<(((tc+1:Nat):Int)).toNat
       omega
   · refine ⟨false,bX,bX,bX,e,rfl,cx (vs:=[.bool false, .slice none 0 0, .slice none 0 0, .slice none 0 0]) rfl fun eP FP za Tq=> ?_⟩
     refine ⟨FP.dC rfl ?_,rfl,eo FP (us:=[.bool false, .slice none 0 0, .slice none 0 0, .slice none 0 0]) rfl rfl fun dj AQ xA Du=>⟨fun _=> ?_,fun ab=> ?_⟩⟩
     · intro v ak
       simp only[fZ,mT,mU] at ak
       rcases ak with rfl|rfl|rfl|rfl<;>trivial
     · have af:Ext cf dj:=Ext.fb za xA (cR _)
       have he:e=3∧¬bk.D.calm 2:=by
         rcases KY with U|U|⟨_,_,U⟩
         · exact U
         · obtain ⟨p,aB,_⟩:=lq
           rw[aB] at U;cases U
         · exact absurd lq (U n)
       obtain ⟨rfl,fk⟩:=he
       obtain ⟨au,aH⟩:=fin (k:=2*T.bn) (ad.ext af) ((To.trans (b_.ext _ af)).mono (by omega)) lp Ak
       exact ⟨FO,au,aH,fun j=>(gR j).trans (ak j), .inr ⟨rfl,fun al=>fk (cA.calm 2 (nt al (by omega)))⟩⟩
     · simp at ab;exact absurd ab c5
 · have b7:jq=0:=by
     have:¬((jq:Nat):Int)>0:=eW ck
     omega
   subst b7
   have aN:rest=[]:=FN
   subst aN
   obtain ⟨au,aH⟩:=fin (k:=2*T.bn) bj (cA.mono (by omega)) lp Ak
   refine ⟨bk,au,aH,ak, .inl ⟨s,l,rfl,by rw[←gW,mh],j1,fun q J=>⟨Ak q J,fun hm=> ?_⟩,fun x af=> ?_⟩⟩
   · have hT:=Ak q J
     have OU:c7 q:=by rw[lp];exact .inr J
     rcases hm with hm|hm|hm|hm|hm
     · exact (bj.pP.inv.nu q (.inr (.inr (.inl OU)))).2 hm
     · exact (bj.gD q OU).1 hm
     · exact (bj.gD q OU).2.1 hm
     · have:=h.lt (q:=q) (.inr (.inr (.inr (.inl hm))));omega
     · exact (bj.gD q OU).2.2 hm
   · refine (hU x af).bz fun q _ ab=>⟨ab.1,fun hm=>ab.2 ?_⟩
     rcases hm with hm|hm|hm|hm|hm
     · exact .inl hm
     · exact .inr (.inl hm)
     · exact .inr (.inr (.inl hm))
     · refine .inr (.inr (.inr (.inl ?_)))
       show c7 q
       rw[lp];exact .inl hm
     · exact .inr (.inr (.inr (.inr hm)))
end
section
def aZ.H7 (T:aZ) (f:Nat→Bool):aZ:={T with f:=f}
structure gK where
 dp:Nat
 nw:aa
 l8:aa
 made:List Nat
 left:List Nat
structure fT (w:World) (T:aZ) (c:gK):Prop where
 t:c1 w T
 v:Var w c.dp [.pointer (some ⟨T.bQ,0,none⟩), .slice c.nw.a c.nw.len c.nw.cap, .slice c.l8.a c.l8.len c.l8.cap] ah.aan
 nw:b3 1 ah.int w c.nw (gX c.made)
 l8:b3 1 ah.int w c.l8 (gX c.left)
 gc:T.G c.dp
 td:∀q,aQ c.nw q→T.G q∧q≠c.dp∧¬aQ c.l8 q
 vH:∀q,aQ c.l8 q→T.G q∧q≠c.dp
theorem Tt {w:World} {s:aa} {ds:List Nat} (d:Nat) (j1:b3 1 ah.int w s (gX ds)) (aC:ds.length≤1000000):
   ∃ (ar:aa) (w':World),Sem.run Tryz.prog (Builtin.append_ #[ah.ef,ah.ef] ah.ef #[.slice s.a s.len s.cap, .slice (some ⟨w.heap.size,0,none⟩) 1 1]) (w.alloc (.cells #[.int .i64 ((d:Nat):Int)] ah.int))= .ok (.slice ar.a ar.len ar.cap) w'∧
     b3 1 ah.int w' ar (gX (ds++ [d]))∧ao (aQ s) w w'∧(∀k,aQ ar k→aQ s k∨w.heap.size≤k)∧ao (aQ s) (w.alloc (.cells #[.int .i64 ((d:Nat):Int)] ah.int)) w':=by
 have gv:s.len=ds.length:=by have:=j1.1;rw[yx] at this;omega
 have al:Ext w (w.alloc (.cells #[.int .i64 ((d:Nat):Int)] ah.int)):=iP _ _
 have bO:(w.alloc (.cells #[.int .i64 ((d:Nat):Int)] ah.int)).heap.size=w.heap.size+1:=J2 _ _
 obtain ⟨ar,w',U,ad,au,aH,aY⟩:=J6.append (ey:=ah.ef) (x:=⟨some ⟨w.heap.size,0,none⟩,1,1⟩) (Src.new (T:=ah.int) w [.int .i64 ((d:Nat):Int)] 1 rfl) (j1.ext al) (fun v ak=>by rw[lR.1 ak];trivial) (by show (2*(s.len+1)+1000)*8≤_;omega)
 exact ⟨ar,w',U,by simpa[gX] using ad,(ao.eT al).trans aH,fun k ae=>(aY k ae).imp id (fun h=>by omega),aH⟩
section
variable {w w':World} {T av:aZ} {c:gK}
theorem fT.of {W:Nat→Prop} (h:fT w T c) (bj:c1 w' av) (al:ao W w w') (dk:∀q,T.G q→¬W q) (nV:av.bQ=T.bQ) (hF:∀q,T.G q→av.G q):fT w' av c:=
 ⟨bj,by rw[nV];exact h.v.an al (dk _ h.gc),h.nw.an al fun q J=>dk q (h.td q J).1,h.l8.an al fun q J=>dk q (h.vH q J).1,hF _ h.gc,fun q J=>⟨hF q (h.td q J).1,(h.td q J).2⟩,fun q J=>⟨hF q (h.vH q J).1,(h.vH q J).2⟩⟩
theorem fT.ext (h:fT w T c) (af:Ext w w'):fT w' T c:=h.of (h.t.ext af) af (fun _ _ h=>h) rfl fun _ h=>h
theorem fT.cells (h:fT w T c):w.cell? ⟨c.dp,0,none⟩=some (.pointer (some ⟨T.bQ,0,none⟩))∧w.cell? (Addr.add ⟨c.dp,0,none⟩ 1)=some (.slice c.nw.a c.nw.len c.nw.cap)∧w.cell? (Addr.add ⟨c.dp,0,none⟩ 2)=some (.slice c.l8.a c.l8.len c.l8.cap):=by
 rw[aX,aX]
 exact ⟨h.v.cell,h.v.cell,h.v.cell⟩
theorem c1.K1 (h:c1 w T) {q:Nat} (J:T.G q):¬jG T.C q:=fun aG=>(h.pP.inv.nu q (.inr (.inr (.inr J)))).2 aG
theorem c1.aao {f:Nat→Bool} (h:c1 w T) (aj:kX w' T.dD T.n f T.g T.s1 T.s2) (al:ao (kD T.dD T.s1 T.s2) w w'):c1 w' (T.H7 f)∧b_ T (T.H7 f) w w' 0:=
 ⟨⟨h.t.an al h.y9,aj,h.pP.an al fun q J=> .inr (.inl J),h.y9,h.gD,h.rL,h.n,h.num,h.lK⟩,
   ⟨rfl,rfl,rfl,rfl,rfl,rfl,rfl,rfl,rfl,rfl,cR _,fun _ h=>h,al.mono fun q _ J=> .inr (.inr (.inl J)),fun q h=> .inl h,fun q h=> .inl h⟩⟩
theorem amT (h:fT w T c) (no:Nat) (az:c.made.length≤100000):
   ∃ (ar:aa) (aw:World),Sem.run Tryz.prog (Builtin.append_ #[ah.ef,ah.ef] ah.ef #[.slice c.nw.a c.nw.len c.nw.cap, .slice (some ⟨w.heap.size,0,none⟩) 1 1]) (w.alloc (.cells #[.int .i64 ((no:Nat):Int)] ah.int))= .ok (.slice ar.a ar.len ar.cap) aw∧
     ao (aQ c.nw) (w.alloc (.cells #[.int .i64 ((no:Nat):Int)] ah.int)) aw∧(∃u:Value,aw.cell? ⟨c.dp,1,none⟩=some u)∧aw.frozen? ⟨c.dp,1,none⟩=false∧
     ∀aS,aS=aw.setCell ⟨c.dp,1,none⟩ (.slice ar.a ar.len ar.cap)→fT aS (T.dw T.E fun q=>T.G q∨aQ ar q) {c with nw:=ar,made:=c.made++ [no]}∧b_ T (T.dw T.E fun q=>T.G q∨aQ ar q) w aS 0:=by
 obtain ⟨ar,aw,aB,aF,aM,cU,vG⟩:=Tt no h.nw (by omega)
 have dk:∀q,aQ c.nw q→T.G q:=fun q J=>(h.td q J).1
 have dH:=aM.size
 have gR:=h.v.an aM fun J=>(h.td _ J).2.1 rfl
 obtain ⟨dB,dZ⟩:=jk gR (i:=1) (by simp)
 refine ⟨ar,aw,aB,vG,dB,dZ,?_⟩
 rintro _ rfl
 have ec:=il aw c.dp 1 (.slice ar.a ar.len ar.cap)
 have lZ:=jj gR (i:=1) (.slice ar.a ar.len ar.cap)
 have jN:ao T.G w (aw.setCell ⟨c.dp,1,none⟩ (.slice ar.a ar.len ar.cap)):=l5 (aM.mono fun q _ J=>dk q J) ec fun q _ e=>by rw[e];exact h.gc
 have amU:=jN.size
 have ba:∀q,aQ ar q→q<aw.heap.size:=fun q J=>b3.lt aF q J
 have lz:∀q,aQ ar q→T.G q∨(w.heap.size≤q∧q<(aw.setCell ⟨c.dp,1,none⟩ (.slice ar.a ar.len ar.cap)).heap.size):=fun q J=>by
   rcases cU q J with U|U
   · exact .inl (dk q U)
   · exact .inr ⟨U,by have:=ba q J;have:=ec.size;omega⟩
 have rO:∀q,aQ ar q→q≠c.dp:=fun q J e=>by
   rcases cU q J with U|U
   · exact (h.td q U).2.1 e
   · have:=h.v.lt;omega
 have di:∀q,aQ ar q→¬aQ c.l8 q:=fun q J e=>by
   rcases cU q J with U|U
   · exact (h.td q U).2.2 e
   · have:=b3.lt h.l8 q e;omega
 have bj:=h.t.grow (E:=T.E) (G:=fun q=>T.G q∨aQ ar q) jN (fun q J _=> .inr J) (fun q J=> .inl J) (fun q J=>by
   rcases J with J|J
   · exact .inr (.inl J)
   · exact .inr (lz q J)) fun q J bg=>by
   rcases bg with bg|bg
   · exact (h.t.gD q J).2.2 bg
   · rcases cU q bg with U|U
     · exact (h.t.gD q J).2.2 (dk q U)
     · have:=h.t.lt (q:=q) (.inr (.inr (.inr (.inl J))));omega
 refine ⟨⟨bj,lZ,?_,(h.l8.an aM fun q J e=>(h.td q e).2.2 J).an ec fun q J e=>(h.vH q J).2 e, .inl h.gc,fun q J=>⟨.inr J,rO q J,di q J⟩,fun q J=>⟨.inl (h.vH q J).1,(h.vH q J).2⟩⟩,?_⟩
 · have:b3 1 ah.int aw ar (gX (c.made++ [no])):=aF
   exact this.an ec fun q J e=>rO q J e
 · have b7:b_ T T w w 0:= .refl _ _
   exact b7.step jN (fun q J _=> .inr (.inr (.inr J))) (fun q J=> .inl J) fun q J=>by
     rcases J with J|J
     · exact .inl J
     · exact (lz q J).imp id fun e=>e.1
theorem aap (h:fT w T c) (no:Nat) (az:c.left.length≤100000):
   ∃ (ar:aa) (aw:World),Sem.run Tryz.prog (Builtin.append_ #[ah.ef,ah.ef] ah.ef #[.slice c.l8.a c.l8.len c.l8.cap, .slice (some ⟨w.heap.size,0,none⟩) 1 1]) (w.alloc (.cells #[.int .i64 ((no:Nat):Int)] ah.int))= .ok (.slice ar.a ar.len ar.cap) aw∧
     ao (aQ c.l8) (w.alloc (.cells #[.int .i64 ((no:Nat):Int)] ah.int)) aw∧(∃u:Value,aw.cell? ⟨c.dp,2,none⟩=some u)∧aw.frozen? ⟨c.dp,2,none⟩=false∧
     ∀aS,aS=aw.setCell ⟨c.dp,2,none⟩ (.slice ar.a ar.len ar.cap)→fT aS (T.dw T.E fun q=>T.G q∨aQ ar q) {c with l8:=ar,left:=c.left++ [no]}∧b_ T (T.dw T.E fun q=>T.G q∨aQ ar q) w aS 0:=by
 obtain ⟨ar,aw,aB,aF,aM,cU,vG⟩:=Tt no h.l8 (by omega)
 have dk:∀q,aQ c.l8 q→T.G q:=fun q J=>(h.vH q J).1
 have dH:=aM.size
 have gR:=h.v.an aM fun J=>(h.vH _ J).2 rfl
 obtain ⟨dB,dZ⟩:=jk gR (i:=2) (by simp)
 refine ⟨ar,aw,aB,vG,dB,dZ,?_⟩
 rintro _ rfl
 have ec:=il aw c.dp 2 (.slice ar.a ar.len ar.cap)
 have lZ:=jj gR (i:=2) (.slice ar.a ar.len ar.cap)
 have jN:ao T.G w (aw.setCell ⟨c.dp,2,none⟩ (.slice ar.a ar.len ar.cap)):=l5 (aM.mono fun q _ J=>dk q J) ec fun q _ e=>by rw[e];exact h.gc
 have amU:=jN.size
 have ba:∀q,aQ ar q→q<aw.heap.size:=fun q J=>b3.lt aF q J
 have lz:∀q,aQ ar q→T.G q∨(w.heap.size≤q∧q<(aw.setCell ⟨c.dp,2,none⟩ (.slice ar.a ar.len ar.cap)).heap.size):=fun q J=>by
   rcases cU q J with U|U
   · exact .inl (dk q U)
   · exact .inr ⟨U,by have:=ba q J;have:=ec.size;omega⟩
 have rO:∀q,aQ ar q→q≠c.dp:=fun q J e=>by
   rcases cU q J with U|U
   · exact (h.vH q U).2 e
   · have:=h.v.lt;omega
 have di:∀q,aQ c.nw q→¬aQ ar q:=fun q e J=>by
   rcases cU q J with U|U
   · exact (h.td q e).2.2 U
   · have:=b3.lt h.nw q e;omega
 have bj:=h.t.grow (E:=T.E) (G:=fun q=>T.G q∨aQ ar q) jN (fun q J _=> .inr J) (fun q J=> .inl J) (fun q J=>by
   rcases J with J|J
   · exact .inr (.inl J)
   · exact .inr (lz q J)) fun q J bg=>by
   rcases bg with bg|bg
   · exact (h.t.gD q J).2.2 bg
   · rcases cU q bg with U|U
     · exact (h.t.gD q J).2.2 (dk q U)
     · have:=h.t.lt (q:=q) (.inr (.inr (.inr (.inl J))));omega
 refine ⟨⟨bj,lZ,(h.nw.an aM fun q J e=>(h.td q J).2.2 e).an ec fun q J e=>(h.td q J).2.1 e,?_, .inl h.gc,fun q J=>⟨.inl (h.td q J).1,(h.td q J).2.1,di q J⟩,fun q J=>⟨.inr J,rO q J⟩⟩,?_⟩
 · have:b3 1 ah.int aw ar (gX (c.left++ [no])):=aF
   exact this.an ec fun q J e=>rO q J e
 · have b7:b_ T T w w 0:= .refl _ _
   exact b7.step jN (fun q J _=> .inr (.inr (.inr J))) (fun q J=> .inl J) fun q J=>by
     rcases J with J|J
     · exact .inl J
     · exact (lz q J).imp id fun e=>e.1
end
end
section
def fM (T:aZ):Nat:=T.n-mH (fun i=>T.f i||T.g i) T.n
theorem aaq {s t:Nat→Bool}:∀ {n:Nat},(∀i,i<n→s i=t i)→mH s n=mH t n
 |0,_=>rfl
 |n+1,h=>by
   unfold mH
   rw[aaq (n:=n) fun i hi=>h i (by omega),h n (by omega)]
theorem aar {s t:Nat→Bool} {k:Nat} (ae:s k=false) (aR:t k=true) (he:∀i,i≠k→t i=s i):∀ {n:Nat},k<n→mH t n=mH s n+1
 |0,h=>by omega
 |n+1,h=>by
   unfold mH
   by_cases e:k=n
   · subst e
     rw[aaq (s:=t) (t:=s) (n:=k) fun i hi=>he i (by omega),ae,aR]
     simp
   · rw[aar ae aR he (n:=n) (by omega),he n (by omega)]
     omega
theorem aas {t:Nat→Bool}:∀ {n:Nat},(∀i,i<n→t i=true)→mH t n=n
 |0,_=>rfl
 |n+1,h=>by
   unfold mH
   rw[aas (n:=n) fun i hi=>h i (by omega),h n (by omega)]
   simp
theorem amV {T:aZ} (h:1≤fM T):∃no,firstFree (fun i=>T.f i||T.g i) T.n=some no:=by
 cases aG:firstFree (fun i=>T.f i||T.g i) T.n with
 |some no=>exact ⟨no,rfl⟩
 |none=>
   have:=aas (alV aG)
   unfold fM at h
   rw[this] at h
   omega
structure fU (T av:aZ) (c c':gK) (m l:List Nat) (w w':World) (k:Nat):Prop where
 to:b_ T av w w' k
 E:av.E=T.E
 G:∀q,T.G q→av.G q
 root:av.root=T.root
 bn:av.bn=T.bn
 dp:c'.dp=c.dp
 made:c'.made=c.made++m
 left:c'.left=c.left++l
 dE:m.Nodup
 te:∀no∈m,(T.f no||T.g no)=false∧no<T.n
 f:∀no,av.f no=(T.f no||decide (no∈m))
 hL:∀no,(T.f no||T.g no)=true→av.P no=T.P no∧av.C.view no=T.C.view no
 room:fM av+m.length=fM T
theorem fU.ext {w w':World} (T:aZ) (c:gK) (h:Ext w w'):fU T T c c [] [] w w' 0:=
 ⟨.ext T h,rfl,fun _ h=>h,rfl,rfl,rfl,by simp,by simp,JQ,fun _ h=>(by cases h),fun no=>by simp,fun _ _=>⟨rfl,rfl⟩,by simp⟩
theorem fU.trans {T av xz:aZ} {c c' aat:gK} {m OV l H8:List Nat} {w w' iI:World} {k lL:Nat} (U:fU T av c c' m l w w' k) (ad:fU av xz c' aat OV H8 w' iI lL):fU T xz c aat (m++OV) (l++H8) w iI (k+lL):=by
 have bg:av.g=T.g:=U.to.g
 have aC:av.n=T.n:=U.to.n
 have aG:∀no,(T.f no||T.g no)=true→(av.f no||av.g no)=true:=fun no h=>by
   rw[U.f,bg]
   cases au:T.f no<;>cases aH:T.g no<;>simp[au,aH] at h⊢
 refine ⟨U.to.trans ad.to,ad.E.trans U.E,fun q h=>ad.G q (U.G q h),ad.root.trans U.root,ad.bn.trans U.bn,ad.dp.trans U.dp,by rw[ad.made,U.made,eI],by rw[ad.left,U.left,eI],?_,fun no h=> ?_,fun no=> ?_,fun no h=> ?_,?_⟩
 · rw[JO]
   refine ⟨U.dE,ad.dE,fun a aU b ab e=> ?_⟩
   subst e
   have:=(ad.te a ab).1
   rw[U.f] at this
   simp[aU] at this
 · rcases fa.1 h with h|h
   · exact U.te no h
   · have au:=ad.te no h
     rw[U.f,bg,aC] at au
     refine ⟨?_,au.2⟩
     cases aY:T.f no<;>cases b9:T.g no<;>simp[aY,b9] at au⊢
 · rw[ad.f,U.f]
   simp only[fa,Bool.decide_or,Bool.or_assoc]
 · have au:=ad.hL no (aG no h)
   have aH:=U.hL no h
   exact ⟨au.1.trans aH.1,au.2.trans aH.2⟩
 · have:=U.room
   have:=ad.room
   rw[dO];omega
theorem fU.mono {T av:aZ} {c c':gK} {m l:List Nat} {w w':World} {k j:Nat} (h:fU T av c c' m l w w' k) (ae:k≤j):fU T av c c' m l w w' j:=⟨h.to.mono ae,h.E,h.G,h.root,h.bn,h.dp,h.made,h.left,h.dE,h.te,h.f,h.hL,h.room⟩
end
section
def aau (T:aZ) (c:gK) (n:aL) (w:World) (v:Value) (w':World):Prop:=
 ∃ (no:Nat) (av:aZ) (c':gK),fT w' av c'∧fU T av c c' [no] [] w w' 1∧
   ((v= .tuple #[.int .i64 (no:Nat), .int .i64 0]∧av.P no=some n)∨(v= .tuple #[.int .i64 (no:Nat), .int .i64 3]∧¬T.C.D.calm 1))
theorem d_.iS {n:aL} (h:d_ n) (ad:cq n≤400):n.keys.length≤200∧n.vals.length≤200∧n.kids.length≤201:=by
 have:=ND h
 rcases h with h|h
 · have:=h.len
   have aH:n.kids.length=0:=by rw[h.kids];rfl
   omega
 · have:=h.len
   have aH:n.vals.length=0:=by rw[h.vals];rfl
   omega
theorem OW {B:Nat→Prop} {w:World} {T:aZ} {c:gK} {n:aL} {K V D:aa} (h:fT w T c) (gC:T.C.D.cX≤900000100) (jI:1≤fM T) (o0:c.made.length≤1000) (aC:cg B w n K V D) (aj:d_ n) (ad:cq n≤232):
   aO Tryz.prog F.ur #[.pointer (some ⟨c.dp,0,none⟩),fc n K V D] w (aau T c n w):=by
 obtain ⟨no,yN⟩:=amV jI
 obtain ⟨dc,K2,_⟩:=alU yN
 have nk:=h.t.s.db
 have pd:=aj.iS (by omega)
 refine W.amW (some ⟨c.dp,0,none⟩) n.leaf K V D w _ ?_
 (delta W.ur bV ai aq gk aA tf st kT aV;dsimp only)
 refine cx (vs:=[.bool n.leaf, .slice K.a K.len K.cap, .slice V.a V.len V.cap, .slice D.a D.len D.cap]) rfl fun ag gg bG kO=> ?_
 obtain ⟨cJ,aV,bA,bd⟩:=cl gg
 refine ⟨_,cJ,K,aV,V,bA,D,bd,(yy (aC.ext bG) (by omega) (by omega) (by omega)).use ?_⟩
 rintro _ bf ⟨amX,ky⟩
 rcases amX with ⟨s,rfl,OA,amY,_,_⟩|⟨e,rfl,he,uu⟩
 rotate_left
 · have:=uu aj;omega
 have nI:=bG.trans ky
 have b9:=h.ext nI
 refine ⟨s,0,rfl,fun ab=>(by cases ab),fun _=>⟨_,rfl,_,b9.cells.1,_,rfl,_,b9.t.cells.2.1,(alY b9.t.s).use ?_⟩⟩
 rintro _ cZ ⟨rfl,oY,gw⟩
 rw[yN] at oY⊢
 obtain ⟨amZ,Tu⟩:=b9.t.aao oY gw
 have aav:fT cZ (T.H7 (km T.f no true)) c:=b9.of amZ gw (fun q J aG=>(h.t.rL q J).2 aG) rfl fun _ h=>h
 refine ⟨(no:Nat),0,rfl,fun ab=>(by cases ab),fun _=>⟨_,rfl,_,aav.cells.2.1,?_⟩⟩
 obtain ⟨ar,dJ,aB,aF,aJ,aM,cU⟩:=amT aav no (by omega)
 refine bN ⟨ar,dJ,aB,_,rfl,by rw[aX];exact aJ,by rw[aX];exact aM,bN ?_⟩
 rw[aX]
 obtain ⟨cD,aaw⟩:∃cD,cD=dJ.setCell ⟨c.dp,0+1,none⟩ (.slice ar.a ar.len ar.cap):=⟨_,rfl⟩
 rw[←aaw]
 obtain ⟨OX,Tv⟩:=cU cD aaw
 obtain ⟨aax,am0⟩:∃aax,aax=fun q=>T.G q∨aQ ar q:=⟨_,rfl⟩
 have kh:∀q,T.N q→q<w.heap.size:=fun q J=>h.t.lt (aZ.lJ J)
 have Oe:=nI.size
 have OY:=Tu.an.size
 have K3:=Tv.an.size
 have aay:ao T.N bf cD:=Tu.an.trans Tv.an
 have Dz:Var cD w.heap.size [.bool n.leaf, .slice K.a K.len K.cap, .slice V.a V.len V.cap, .slice D.a D.len D.cap] ah.cO:=(gg.ext ky).an aay fun J=>by have:=kh _ J;omega
 have am1:b3 1 ah.uint8 cD s (bo (sg n)):=OA.an aay fun q J hT=>by have:=kh _ hT;have:=amY q J;omega
 have hlen:=RP aj
 have lq:J1 ⟨if n.leaf then 1 else 2,T.gen,sg n⟩:=by
   refine ⟨?_,?_,h.t.num.2.2,by show (sg n).length≤232;omega⟩
   · show 1≤(if n.leaf then 1 else 2);split<;>omega
   · show (if n.leaf then 1 else 2)≤4;split<;>omega
 refine eN (fun n27 fA=>n27=((if n.leaf then 1 else 2:Nat):Int)∧fA=cD) (fun q J=>⟨n.leaf,Dz.cell,fun ab=>J _ _ ⟨by rw[ab];rfl,rfl⟩,fun ab=>J _ _ ⟨by rw[ab];rfl,rfl⟩⟩) ?_
 rintro _ _ ⟨rfl,rfl⟩
 refine ⟨_,rfl,_,OX.cells.1,_,rfl,_,OX.t.cells.2.2.1,(aig (no:=no) (p:=⟨if n.leaf then 1 else 2,T.gen,sg n⟩) am1.src (by omega) lq).use ?_⟩
 rintro _ e8 ⟨s2,rfl,aaz,aaA,am2⟩
 have FR:=OX.ext aaA
 refine ⟨s2,0,rfl,fun ab=>(by cases ab),fun _=>⟨_,rfl,_,FR.cells.1,_,rfl,_,FR.t.cells.1,(ali FR.t.pP (by show T.C.D.cX≤999999999;omega) (no:=no) (by rw[FR.t.n];exact dc) aaz.src (XX no lq) fun q J=>⟨b3.lt aaz q J,fun aG=> ?_⟩).use ?_⟩⟩
 · have:=am2 q J
   have:=OX.t.lt (q:=q) (.inl aG)
   omega
 rintro _ dy ⟨bx,nU,cA,eZ⟩
 have OB:∀j,km T.f no true j=(T.f j||decide (j∈ [no])):=fun j=>by
   unfold km
   by_cases e:j=no
   · subst e;simp
   · simp[e]
 have aaB:(T.f no||T.g no)=false:=K2
 have am3:T.n-mH (fun i=>km T.f no true i||T.g i) T.n+1=fM T:=by
   have:=aar (s:=fun i=>T.f i||T.g i) (t:=fun i=>km T.f no true i||T.g i) (k:=no) K2 (by simp[km]) (fun i hi=>by simp[km,hi]) dc
   unfold fM at jI⊢
   have au:=H2 (fun i=>T.f i||T.g i) T.n
   omega
 have main:∀ (H9:Nat→Option aL) (v:Value),(∀j,j≠no→H9 j=T.P j)→(∀j,j≠no→bx.view j=T.C.view j)→(∀j dE,H9 j=some dE→j<T.n∧tb T.gen dE.leaf j (bx.view j) dE)→
     ((v= .tuple #[.int .i64 (no:Nat), .int .i64 0]∧H9 no=some n)∨(v= .tuple #[.int .i64 (no:Nat), .int .i64 3]∧¬T.C.D.calm 1))→aau T c n w v dy:=by
   intro H9 v gz tX Tw ak
   obtain ⟨am4,am5⟩:=FR.t.Tf (P:=H9) nU cA Tw
   have am6:=FR.of (av:=((T.H7 (km T.f no true)).dw T.E fun q=>T.G q∨aQ ar q).cQ bx H9) am4 cA.an (fun q J=>FR.t.K1 J) rfl fun _ h=>h
   refine ⟨no,_,_,am6,⟨?_,rfl,fun q J=> .inl J,rfl,rfl,rfl,rfl,(mh _).symm,by simp,fun x af=> ?_,OB,fun j a8=> ?_,am3⟩,ak⟩
   · have:=(((b_.ext T nI).trans Tu).trans Tv).trans ((b_.ext _ aaA).trans am5)
     exact this.mono (by omega)
   · obtain rfl:=lR.1 af
     exact ⟨aaB,dc⟩
   · have:j≠no:=fun e=>by rw[e,aaB] at a8;cases a8
     exact ⟨gz j this,tX j this⟩
 rcases eZ with ⟨rfl,ak⟩|⟨rfl,fk,ak⟩
 · refine ⟨0,rfl,main (fun j=>if j=no then some n else T.P j) _ (fun j a8=>if_neg a8) (fun j a8=>(ak j).trans (if_neg a8)) (fun j dE a8=> ?_) (.inl ⟨rfl,if_pos rfl⟩)⟩
   by_cases e:j=no
   · subst e
     rw[if_pos rfl] at a8
     cases a8
     rw[ak,if_pos rfl]
     exact ⟨dc,_,ah1 (by omega) lq,cR _,rfl,aj,rfl,ad,rfl⟩
   · rw[if_neg e] at a8
     rw[ak,if_neg e]
     exact h.t.lK j dE a8
 · refine ⟨3,rfl,main T.P _ (fun _ _=>rfl) (fun j _=>ak j) (fun j dE a8=> ?_) (.inr ⟨rfl,fk⟩)⟩
   rw[ak]
   exact h.t.lK j dE a8
end
section
theorem am7 (w:World) (x:Int):Sem.run Tryz.prog (Instr.buildSlice ah.H_ 1 #[(0, .agg #[.slice none 0 0, .int .i64 x])]) w=
   .ok (.slice (some ⟨w.heap.size,0,none⟩) 1 1) (w.alloc (.cells #[.slice none 0 0, .int .i64 x] ah.vI)):=by kernel_rfl
theorem am8 (w:World) (x y:Int) (t:aa):Sem.run Tryz.prog (Instr.buildSlice ah.H_ 2 #[(0, .agg #[.slice none 0 0, .int .i64 x]),(1, .agg #[.slice t.a t.len t.cap, .int .i64 y])]) w=
   .ok (.slice (some ⟨w.heap.size,0,none⟩) 2 2) (w.alloc (.cells #[.slice none 0 0, .int .i64 x, .slice t.a t.len t.cap, .int .i64 y] ah.vI)):=by kernel_rfl
theorem d_.Rw {n:aL} (h:d_ n) (U:1≤dm n) (ad:if n.leaf then dm n≤n.keys.length-1∧1≤n.keys.length-1 else dm n≤n.keys.length-2∧1≤n.keys.length-2):d_ (n.left (dm n))∧d_ (n.right (dm n)):=by
 rcases h with h|h
 · have az:=h.leaf
   rw[if_pos az] at ad
   unfold aL.left aL.right
   rw[if_pos az,if_pos az]
   have hlen:=h.len
   refine ⟨.inl ⟨⟨fun k ae=>h.ok k (kL ae),h.kg.sublist (List.take_sublist _ _)⟩,rfl,?_,rfl,fun v ak=>h.vals v (kL ak)⟩, .inl ⟨⟨fun k ae=>h.ok k (kt ae),h.kg.sublist (List.drop_sublist _ _)⟩,rfl,?_,rfl,fun v ak=>h.vals v (kt ak)⟩⟩
   · simp only[ej];omega
   · simp only[fF];omega
 · have az:=h.inner
   rw[if_neg (by rw[az];simp)] at ad
   unfold aL.left aL.right
   rw[if_neg (by rw[az];simp),if_neg (by rw[az];simp)]
   have hlen:=h.len
   refine ⟨.inr ⟨⟨fun k ae=>h.ok k (kL ae),h.kg.sublist (List.take_sublist _ _)⟩,rfl,?_,?_,rfl,fun v ak=>h.kids v (kL ak)⟩, .inr ⟨⟨fun k ae=>h.ok k (kt ae),h.kg.sublist (List.drop_sublist _ _)⟩,rfl,?_,?_,rfl,fun v ak=>h.kids v (kt ak)⟩⟩
   · intro e
     have:=congrArg List.length e
     simp only[ej,uW] at this;omega
   · simp only[ej];omega
   · intro e
     have:=congrArg List.length e
     simp only[fF,uW] at this;omega
   · simp only[fF];omega
def xC (B:Nat→Prop) (w:World) (s:aa) (ks:List Key) (kids:List Nat):Prop:=
 (∃b x,s=⟨some ⟨b,0,none⟩,1,1⟩∧ks=[]∧kids=[x]∧Var w b [.slice none 0 0, .int .i64 (x:Nat)] ah.vI∧B b)∨
 (∃b x y k t,s=⟨some ⟨b,0,none⟩,2,2⟩∧ks=[k]∧kids=[x,y]∧Var w b [.slice none 0 0, .int .i64 (x:Nat), .slice t.a t.len t.cap, .int .i64 (y:Nat)] ah.vI∧B b∧bL B w t k∧k≠ [])
def pQ (T:aZ) (c:gK) (n:aL) (w:World) (v:Value) (w':World):Prop:=
 ∃ (av:aZ) (c':gK) (m:List Nat) (s:aa),fT w' av c'∧fU T av c c' m [] w w' 2∧m.length≤2∧
   ((∃ks,v= .tuple #[.slice s.a s.len s.cap, .int .i64 0]∧z_ av.P n ks m∧xC (fun q=>¬av.M q) w' s ks m)∨(v= .tuple #[.slice s.a s.len s.cap, .int .i64 3]∧¬T.C.D.calm 2))
theorem aaC {B:Nat→Prop} {w:World} {T:aZ} {c:gK} {n:aL} {K V D:aa} (h:fT w T c) (gC:T.C.D.cX≤900000100) (jI:1≤fM T) (o0:c.made.length≤1000) (aC:cg B w n K V D) (aj:d_ n) (ad:cq n≤232):
   aO Tryz.prog F.AU #[.pointer (some ⟨c.dp,0,none⟩),fc n K V D] w (pQ T c n w):=by
 refine W.am9 (some ⟨c.dp,0,none⟩) n.leaf K V D w _ ?_
 (delta W.AU bV ai aq tf;dsimp only)
 refine cx (vs:=[.bool n.leaf, .slice K.a K.len K.cap, .slice V.a V.len V.cap, .slice D.a D.len D.cap]) rfl fun ag gg bG kO=> ?_
 obtain ⟨cJ,aV,bA,bd⟩:=cl gg
 refine ⟨_,cJ,K,aV,V,bA,D,bd,(OW (h.ext bG) gC jI o0 (aC.ext bG) aj ad).use ?_⟩
 rintro _ bf ⟨no,av,c',pc,cA,eZ⟩
 have CU:∀ (e:Int),((e=0∧av.P no=some n)∨(e=3∧¬T.C.D.calm 1))→∃ (fi:aa) (cf:World),Sem.run Tryz.prog (Instr.buildSlice ah.H_ 1 #[(0, .agg #[.slice none 0 0, .int .i64 (no:Nat)])]) bf= .ok (.slice fi.a fi.len fi.cap) cf∧pQ T c n w (.tuple #[.slice fi.a fi.len fi.cap, .int .i64 e]) cf:=by
   intro e he
   refine ⟨⟨some ⟨bf.heap.size,0,none⟩,1,1⟩,_,am7 bf _,?_⟩
   have ly:=iP bf (.cells #[.slice none 0 0, .int .i64 (no:Nat)] ah.vI)
   have gL:fU T av c c' [no] [] w (bf.alloc (.cells #[.slice none 0 0, .int .i64 (no:Nat)] ah.vI)) 2:=(((fU.ext T c bG).trans cA).trans (fU.ext av c' ly)).mono (by omega)
   refine ⟨av,c',[no],⟨some ⟨bf.heap.size,0,none⟩,1,1⟩,pc.ext ly,gL,by simp,?_⟩
   rcases he with ⟨rfl,he⟩|⟨rfl,he⟩
   · refine .inl ⟨[],rfl, .inl ⟨ad,no,rfl,rfl,he⟩, .inl ⟨_,no,rfl,rfl,rfl,Var.new bf [.slice none 0 0, .int .i64 (no:Nat)] ah.vI,fun hm=> ?_⟩⟩
     have:=pc.t.lt hm
     omega
   · exact .inr ⟨rfl,fun al=>he (nt al (by omega))⟩
 rcases eZ with ⟨rfl,gz⟩|⟨rfl,fk⟩
 · exact ⟨_,0,rfl,CU 0 (.inl ⟨rfl,gz⟩)⟩
 · exact ⟨_,3,rfl,CU 3 (.inr ⟨rfl,fk⟩)⟩
theorem lr {b:Bool} {K V D:aa}:∀v∈ [.bool b, .slice K.a K.len K.cap, .slice V.a V.len V.cap, .slice D.a D.len D.cap],Plain v:=by
 intro v ak
 simp only[fZ,mT,mU] at ak
 rcases ak with rfl|rfl|rfl|rfl<;>trivial
theorem am_ {B:Nat→Prop} {w:World} {T:aZ} {c:gK} {n:aL} {K V D:aa} (h:fT w T c) (gC:T.C.D.cX≤900000090) (jI:2≤fM T) (o0:c.made.length≤900) (aC:cg B w n K V D) (aj:d_ n) (ad:232<cq n) (au:cq n≤400) (U:1≤dm n)
   (aH:if n.leaf then dm n≤n.keys.length-1∧1≤n.keys.length-1 else dm n≤n.keys.length-2∧1≤n.keys.length-2) (aY:cq (n.left (dm n))≤232) (b9:cq (n.right (dm n))≤232):
   aO Tryz.prog F.DA #[.pointer (some ⟨c.dp,0,none⟩),fc n K V D] w (pQ T c n w):=by
 obtain ⟨CW,ana⟩:=aj.Rw U aH
 have pd:=aj.iS (by omega)
 have ab:dm n<n.keys.length:=by
   split at aH<;>omega
 refine W.anb (some ⟨c.dp,0,none⟩) n.leaf K V D w _ ?_
 (delta W.DA bV ai aq aaD dx aA tf;dsimp only)
 refine cx (vs:=[.bool n.leaf, .slice K.a K.len K.cap, .slice V.a V.len V.cap, .slice D.a D.len D.cap]) rfl fun ag gg bG kO=> ?_
 obtain ⟨cJ,aV,bA,bd⟩:=cl gg
 refine ⟨_,cJ,K,aV,V,bA,D,bd,(yO (aC.ext bG) aj (by omega) U aH).use ?_⟩
 rintro _ bf ⟨dU,eB,eC,c_,c6,dv,t,rfl,az,aN,aR,ky⟩
 refine ⟨_,dU,eB,eC,t,_,c_,c6,dv,true,rfl,cx (vs:=[.bool false, .slice none 0 0, .slice none 0 0, .slice none 0 0]) rfl fun eP FP za Tq=>cx (vs:=[.bool false, .slice none 0 0, .slice none 0 0, .slice none 0 0]) rfl fun dj AQ um Du=> ?_⟩
 have Oo:=FP.ext um
 refine ⟨Oo.dC rfl lr,rfl,eo Oo (us:=[.bool (n.left (dm n)).leaf, .slice dU.a dU.len dU.cap, .slice eB.a eB.len eB.cap, .slice eC.a eC.len eC.cap]) rfl rfl fun cw FK AR Tk=> ?_⟩
 have zc:=AQ.an AR (by omega)
 refine ⟨zc.dC rfl lr,rfl,eo zc (us:=[.bool (n.right (dm n)).leaf, .slice c_.a c_.len c_.cap, .slice c6.a c6.len c6.cap, .slice dv.a dv.len dv.cap]) rfl rfl fun ep Ia OZ Tx=>⟨fun ab=>(by cases ab),fun _=> ?_⟩⟩
 have anc:=FK.an OZ (by omega)
 have nI:=bG.trans ky
 have K4:Ext bf ep:=Ext.fb (Ext.fb (za.trans um) AR (by omega)) OZ (by omega)
 have Ty:=nI.trans K4
 have Of:=nI.size
 have avn:=K4.size
 obtain ⟨d0,d1,d2,d3⟩:=cl anc
 refine ⟨_,d0,dU,d1,eB,d2,eC,d3,(OW (h.ext Ty) (by omega) (by omega) (by omega) (az.ext K4) CW aY).use ?_⟩
 rintro _ cu ⟨x,cE,O0,iR,g7,ane⟩
 have kh:∀q,T.N q→q<w.heap.size:=fun q J=>h.t.lt (aZ.lJ J)
 have avo:=g7.to.an.size
 rcases ane with ⟨rfl,aaE⟩|⟨rfl,fk⟩
 · have anf:=Ia.an g7.to.an fun J=>by have:=kh _ J;omega
   obtain ⟨d0,d1,d2,d3⟩:=cl anf
   have ang:cg (fun q=>ag.heap.size≤q) cu (n.right (dm n)) c_ c6 dv:=(aN.ext K4).an g7.to.an fun q J hT=>by have:=kh _ hT;omega
   have HW:cE.C.D.cX≤900000100:=ju g7.to.cX (by clear iR g7 aaE;omega)
   have Tz:=g7.room
   have avp:O0.made.length=c.made.length+1:=by rw[g7.made,dO];rfl
   simp only[rm] at Tz
   have vJ:=OW iR HW (by omega) (by omega) ang ana b9
   rw[g7.dp] at vJ
   refine ⟨x,0,rfl,fun ab=>(by cases ab),fun _=>⟨_,d0,c_,d1,c6,d2,dv,d3,vJ.use ?_⟩⟩
   rintro _ e4 ⟨y,dz,aaF,dS,ie,anh⟩
   have ani:=ie.to.an.size
   have cA:=((fU.ext T c Ty).trans g7).trans ie
   have nW:n.keys.getD (dm n) []=n.keys[dm n]:=by rw[p6,gH ab];rfl
   have anj:=aR.ext K4
   have ank:bL (fun q=>¬dz.M q) e4 t n.keys[dm n]:=by
     rw[←nW]
     have iD:bL (fun q=>q<ep.heap.size∧ag.heap.size≤q) ep t (n.keys.getD (dm n) []):=bL.bz anj fun q J ab=>⟨J,ab⟩
     have aaG:=(g7.trans ie).to
     refine bL.bz (bL.an iD aaG.an fun q J hT=>by have:=kh _ hT;omega) fun q _ ab hm=> ?_
     rcases aaG.jH q hm with oq|oq
     · have:=h.t.lt oq;omega
     · omega
   have jf:n.keys[dm n]≠ []:=by
     have ae:eJ n.keys[dm n]:=by
       rcases aj with aj|aj
       · exact aj.ok _ (fh ab)
       · exact aj.ok _ (fh ab)
     intro e
     have:=ae.1
     rw[e] at this;simp at this
   have ly:=iP e4 (.cells #[.slice none 0 0, .int .i64 (x:Nat), .slice t.a t.len t.cap, .int .i64 (y:Nat)] ah.vI)
   have gL:=(cA.trans (fU.ext dz aaF ly)).mono (j:=2) (by omega)
   have CU:∀ (e:Int),((e=0∧dz.P y=some (n.right (dm n)))∨(e=3∧¬cE.C.D.calm 1))→∃ (ei:aa) (lM:World),Sem.run Tryz.prog (Instr.buildSlice ah.H_ 2 #[(0, .agg #[.slice none 0 0, .int .i64 (x:Nat)]),(1, .agg #[.slice t.a t.len t.cap, .int .i64 (y:Nat)])]) e4= .ok (.slice ei.a ei.len ei.cap) lM∧
       pQ T c n w (.tuple #[.slice ei.a ei.len ei.cap, .int .i64 e]) lM:=by
     intro e he
     refine ⟨⟨some ⟨e4.heap.size,0,none⟩,2,2⟩,_,am8 e4 _ _ t,dz,aaF,[x,y],⟨some ⟨e4.heap.size,0,none⟩,2,2⟩,dS.ext ly,gL,by simp,?_⟩
     rcases he with ⟨rfl,he⟩|⟨rfl,he⟩
     · have cB:dz.P x=some (n.left (dm n)):=by
         rw[(ie.hL x (by rw[g7.f];simp)).1,aaE]
       refine .inl ⟨[n.keys[dm n]],rfl, .inr ⟨ad,x,y,ab,rfl,rfl,cB,he⟩, .inr ⟨_,x,y,_,t,rfl,rfl,rfl,Var.new e4 [.slice none 0 0, .int .i64 (x:Nat), .slice t.a t.len t.cap, .int .i64 (y:Nat)] ah.vI,fun hm=> ?_,bL.ext ank ly,jf⟩⟩
       have:=dS.t.lt hm
       omega
     · exact .inr ⟨rfl,fun al=>he (g7.to.calm 1 (nt al (by omega)))⟩
   rcases anh with ⟨rfl,gz⟩|⟨rfl,fk⟩
   · exact ⟨_,0,rfl,CU 0 (.inl ⟨rfl,gz⟩)⟩
   · exact ⟨_,3,rfl,CU 3 (.inr ⟨rfl,fk⟩)⟩
 · have gL:=((fU.ext T c Ty).trans g7).mono (j:=2) (by omega)
   exact ⟨_,3,rfl,fun _=>⟨cE,O0,[x],bX,iR,gL,by simp, .inr ⟨rfl,fun al=>fk (nt al (by omega))⟩⟩,fun ab=>(by cases ab)⟩
theorem O1 {B:Nat→Prop} {w:World} {T:aZ} {c:gK} {n:aL} {K V D:aa} (h:fT w T c) (gC:T.C.D.cX≤900000090) (jI:2≤fM T) (o0:c.made.length≤900) (aC:cg B w n K V D) (aj:d_ n) (au:cq n≤400)
   (ad:232<cq n→1≤dm n∧(if n.leaf then dm n≤n.keys.length-1∧1≤n.keys.length-1 else dm n≤n.keys.length-2∧1≤n.keys.length-2)∧cq (n.left (dm n))≤232∧cq (n.right (dm n))≤232):
   aO Tryz.prog F.sy #[.pointer (some ⟨c.dp,0,none⟩),fc n K V D] w (pQ T c n w):=by
 have pd:=aj.iS (by omega)
 refine W.anl (some ⟨c.dp,0,none⟩) n.leaf K V D w _ ?_
 (delta W.sy bV ai aq aV aA gk;dsimp only)
 refine cx (vs:=[.bool n.leaf, .slice K.a K.len K.cap, .slice V.a V.len V.cap, .slice D.a D.len D.cap]) rfl fun ag gg bG kO=> ?_
 obtain ⟨cJ,aV,bA,bd⟩:=cl gg
 refine ⟨_,cJ,K,aV,V,bA,D,bd,(vf (aC.ext bG) aj (by omega)).use ?_⟩
 rintro _ bf ⟨rfl,ky⟩
 have nI:=bG.trans ky
 obtain ⟨d0,d1,d2,d3⟩:=cl (gg.ext ky)
 have fin:∀ (v:Value) (w':World),pQ T c n bf v w'→∃s:aa,∃e:Int,v= .tuple #[.slice s.a s.len s.cap, .int .i64 e]∧pQ T c n w (.tuple #[.slice s.a s.len s.cap, .int .i64 e]) w':=by
   rintro v w' ⟨av,c',m,s,aB,aF,aJ,aM⟩
   have gL:=((fU.ext T c nI).trans aF).mono (j:=2) (by omega)
   rcases aM with ⟨ks,rfl,cU⟩|⟨rfl,cU⟩
   · exact ⟨s,0,rfl,av,c',m,s,aB,gL,aJ, .inl ⟨ks,rfl,cU⟩⟩
   · exact ⟨s,3,rfl,av,c',m,s,aB,gL,aJ, .inr ⟨rfl,cU⟩⟩
 refine ⟨_,rfl,fun ab=>⟨_,d0,K,d1,V,d2,D,d3,?_⟩,fun ab=>⟨_,d0,K,d1,V,d2,D,d3,?_⟩⟩
 · have ab:((cq n:Nat):Int)>232:=dG ab
   obtain ⟨aB,aF,aJ,aM⟩:=ad (by omega)
   refine (am_ (h.ext nI) gC jI o0 (aC.ext nI) aj (by omega) au aB aF aJ aM).use ?_
   rintro v w' ak
   obtain ⟨s,e,rfl,g⟩:=fin v w' ak
   exact ⟨s,e,rfl,g⟩
 · have ab:¬((cq n:Nat):Int)>232:=eW ab
   refine (aaC (h.ext nI) (by omega) (by omega) (by omega) (aC.ext nI) aj (by omega)).use ?_
   rintro v w' ak
   obtain ⟨s,e,rfl,g⟩:=fin v w' ak
   exact ⟨s,e,rfl,g⟩
end
end Go.Proofs.YtplieiecebljmaaGreat
