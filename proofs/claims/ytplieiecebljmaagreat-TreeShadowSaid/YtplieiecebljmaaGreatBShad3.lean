/- Contracts of the functions that the statement reaches, and the plain laws over them; each theorem stands with its conditions. -/
import Derived.OpenShut
import Derived.Test.YtplieiecebljmaaGreatRows
import Derived.Test.YtplieiecebljmaaGreatBShad2
namespace Go.Proofs.YtplieiecebljmaaGreat
open Go b8
section
def cM.s8 (D:cM) (i:Nat):List kO:=match D.waits.find? fun x=>x.i==i with
 |some x=>x.rN
 |none=> []
def cM.calm (D:cM) (k:Nat):Prop:=(D.e4.getD 1 0= -1∨(k:Int)≤D.e4.getD 1 0)∧(D.e4.getD 2 0= -1∨(k:Int)≤D.e4.getD 2 0)
def cM.key (D:cM):List kO×Int:=(D.e5,D.e4.getD 3 0)
theorem jw {W V:Nat→Prop} {w w' iH:World} (U:ao W w w') (ad:ao V w' iH) (h:∀q,q<w.heap.size→V q→W q):ao W w iH:=
 ⟨ad.os.trans U.os,ad.tape.trans U.tape,ad.output.trans U.output,jb U.size ad.size,fun k ae dY=>(ad.block k (ly ae U.size) fun al=>dY (h k ae al)).trans (U.block k ae dY)⟩
theorem mI {D:cM} {k l:Nat} (h:D.calm k) (aB:l≤k):D.calm l:=⟨h.1.imp id fun h=>by omega,h.2.imp id fun h=>by omega⟩
theorem y3 {D:cM} {k m:Nat} (ae:k=1∨k=2) (aK:D.e4.length=4) (h:D.calm (m+1)):(D.fJ k).calm m∧D.p1 k=false:=by
 obtain ⟨U,ad⟩:=h
 have qY:1<D.e4.length:=by omega
 have qZ:2<D.e4.length:=by omega
 rcases ae with rfl|rfl
 · have ba:(D.fJ 1).e4.getD 1 0=(oB (D.e4.getD 1 0)).2:=by
     show (D.e4.set 1 _).getD 1 0=_
     rw[mX (by rw[hK];omega),sP]
   have bp:(D.fJ 1).e4.getD 2 0=D.e4.getD 2 0:=by
     show (D.e4.set 1 _).getD 2 0=_
     rw[mX (by rw[hK];omega),lV (by omega),mX qZ]
   unfold cM.calm cM.p1
   rw[ba,bp]
   unfold oB
   rcases U with U|U
   · rw[if_pos U]
     exact ⟨⟨.inl rfl,ad.imp id fun h=>by omega⟩,rfl⟩
   · rw[if_neg (by omega),if_neg (by omega)]
     exact ⟨⟨.inr (by show (m:Int)≤_-1;omega),ad.imp id fun h=>by omega⟩,rfl⟩
 · have ba:(D.fJ 2).e4.getD 2 0=(oB (D.e4.getD 2 0)).2:=by
     show (D.e4.set 2 _).getD 2 0=_
     rw[mX (by rw[hK];omega),sP]
   have bp:(D.fJ 2).e4.getD 1 0=D.e4.getD 1 0:=by
     show (D.e4.set 2 _).getD 1 0=_
     rw[mX (by rw[hK];omega),lV (by omega),mX qY]
   unfold cM.calm cM.p1
   rw[ba,bp]
   unfold oB
   rcases ad with ad|ad
   · rw[if_pos ad]
     exact ⟨⟨U.imp id fun h=>by omega, .inl rfl⟩,rfl⟩
   · rw[if_neg (by omega),if_neg (by omega)]
     exact ⟨⟨U.imp id fun h=>by omega, .inr (by show (m:Int)≤_-1;omega)⟩,rfl⟩
theorem KT (D:cM) {k:Nat} (ae:k=1∨k=2):(D.fJ k).key=D.key:=by
 unfold cM.key cM.fJ
 rcases ae with rfl|rfl<;>simp[od]
theorem ZL {sz:Nat} {w:World} {s:ab} {α:Type} {c:α→List Value} {l:List α} (h:Src sz w s (cz c l)) (ak:∀x∈l,(c x).length=sz) (dE:0<sz) {i:Nat} (hi:i<l.length):
   s.len=l.length∧∃A,s.a=some A∧eH w (A.add (i*sz)) 0 sz=some (c l[i]):=by
 have aB:s.len=l.length:=by
   have:=h.len
   rw[nW l ak] at this
   exact (Nat.eq_of_mul_eq_mul_right dE this).symm
 refine ⟨aB,?_⟩
 cases aR:s.a with
 |none=>
   have:=congrArg List.length (h.nil aR)
   rw[nW l ak,wo] at this
   have:l.length*sz≠0:=Nat.mul_ne_zero (by omega) (by omega)
   omega
 |some A=>
   refine ⟨A,rfl,?_⟩
   have hle:i*sz+sz≤s.len*sz:=by
     rw[aB,←Nat.succ_mul]
     exact Cq _ hi
   rw[ZM (h.rd A aR) hle,ZD ak hi]
def HM:List Value:=a_ (List.replicate 256 0)
def S8 (D:cM) (i:Nat) (w:World) (v:Value) (w':World):Prop:=v= .agg (a_ (D.now i)).toArray∧Ext w w'
theorem ZN {w:World} {D:cM} (h:h9 w D) {i:Nat} (hi:i<D.n) (gA:D.cl≤1000000000):
   aP Tryz.prog F.AN #[.pointer (some ⟨D.d,0,none⟩), .int .i64 ((i:Nat):Int)] w (S8 D i w):=by
 have nn:=h.c7
 have p2:=h.KS hi
 refine W.ak8 (some ⟨D.d,0,none⟩) ((i:Nat):Int) w _ ?_
 (delta W.AN pR aF aE S9 ai ar ON;dsimp only)
 refine cx (vs:=HM) (by kernel_rfl) fun ag al bK _=> ?_
 have hd:=h.ext bK
 refine ⟨_,rfl,some D.ib,hd.dQ,?_⟩
 have Ax:HM.length=256:=by rw[HM,jE,G3]
 have fin:∀ (K:List Value→World→Prop),(∀cd,Ext w cd→K (a_ (D.now i)) cd)→cT ag ⟨w.heap.size,0,none⟩ (Array.toList (a_ (D.now i)).toArray)∧Array.size (a_ (D.now i)).toArray=256∧az (setCells ag ⟨w.heap.size,0,none⟩ 0 (Array.toList (a_ (D.now i)).toArray)) fun cd=>∃AO:List Value,eH cd ⟨w.heap.size,0,none⟩ 0 256=some AO∧K AO cd:=by
   intro K bq
   refine ⟨al.du (by rw[JN,jE,p2,Ax]) (by rw[JN];exact wx _),by simp[jE,p2],eg al (us:=a_ (D.now i)) (by rw[jE,p2,Ax]) rfl fun cd SE yC _=>⟨_,SE.rd (by rw[jE,p2]),bq cd (Ext.e_ bK yC (cP _))⟩⟩
 cases aA:D.waits.find? fun x=>x.i==i with
 |some x=>
   have af:=x9 aA
   have HN:x.i=i:=by
     have:=z6 aA
     exact eq_of_beq this
   have aB:=hd.m.ZO HL C_ (k:=(i:Int)) (v:= .slice x.s.a x.s.len x.s.cap) (lR.2 ⟨x,af,by unfold p0.e;rw[HN]⟩) false
   have dN:=(h.wn x af).1
   have hlen:0<x.rN.length:=List.length_pos_iff.2 dN
   have ajX:=(h.wn x af).2.2
   obtain ⟨gh,A,ay,fL⟩:=ZL (hd.ws x af).src (fun s aj=>by rw[jE];exact h.Fy x af s aj) (by decide) (i:=x.rN.length-1) (by omega)
   have mv:D.now i=x.rN[x.rN.length-1]'(by omega):=by
     unfold cM.now
     rw[aA]
     show x.rN.getLastD []=_
     rw[List.getLastD_eq_getLast?,List.getLast?_eq_getElem?,gT (by omega)]
     rfl
   refine ⟨x.s,ag,aB,fun _=>⟨A,ay,?_⟩,fun bF=> ?_⟩
   · rw[gh,cL (n:=((x.rN.length:Nat):Int)-1) (by omega) (by omega)]
     have Sr:Int.toNat (((x.rN.length:Nat):Int)-1)=x.rN.length-1:=by omega
     rw[Sr]
     refine ⟨⟨by omega,by omega⟩,_,fL,?_⟩
     rw[←mv]
     exact fin (fun AO cd=>S8 D i w (.agg AO.toArray) cd) fun cd gP=>⟨rfl,gP⟩
   · have:=fb bF
     omega
 |none=>
   obtain ⟨ak9,U,ad⟩:=KR ZI
   have aB:=hd.m.ZP HL C_ (k:=(i:Int)) U ad (fun v al=>by
     obtain ⟨x,af,he⟩:=lR.1 al
     have aq:=rv.1 aA x af
     unfold p0.e at he
     simp only[Prod.mk.injEq] at he
     apply aq
     have:x.i=i:=by omega
     rw[this];simp) false
   have eV:i<D.e5.length:=hi
   have mv:D.now i=D.e5[i]:=by
     unfold cM.now
     rw[aA]
     exact mX eV
   have mF:Src 256 ag ⟨some ⟨D.fj,0,none⟩,D.e5.length,D.e5.length⟩ (cz a_ D.e5):=by
     have oC:=nW (c:=a_) (sz:=256) D.e5 fun s aj=>by rw[jE];exact h.AK s aj
     have:=cj.CX (sz:=256) (o:=0) (n:=D.e5.length) (cap:=D.e5.length) hd.l (by simp[oC])
     rw[z8,JN,hU (by rw[oC];exact cP _)] at this
     exact this
   obtain ⟨gh,A,ay,fL⟩:=ZL mF (fun s aj=>by rw[jE];exact h.AK s aj) (by decide) eV
   refine ⟨⟨none,0,0⟩,ag,aB,fun bF=>by simp at bF,fun _=>⟨_,rfl,_,hd.gE,A,ay,⟨by omega,by show (i:Int)<((D.e5.length:Nat):Int);omega⟩,_,fL,?_⟩⟩
   rw[←mv]
   exact fin (fun AO cd=>S8 D i w (.agg AO.toArray) cd) fun cd gP=>⟨rfl,gP⟩
def ak_ (D:cM) (i:Nat) (w:World) (v:Value) (w':World):Prop:=
 h9 w' (D.fJ 1)∧ao (fun q=>q=D.d) w w'∧
   ((D.p1 1=true∧v= .tuple #[.slice none 0 0, .int .i64 3])∨
    (D.p1 1=false∧∃s:ab,v= .tuple #[.slice s.a s.len s.cap, .int .i64 0]∧bH (fun q=>w.heap.size≤q) w' s (D.now i)))
theorem ZQ {w:World} {D:cM} (h:h9 w D) {i:Nat} (hi:i<D.n) (gA:D.cl≤1000000000):
   aP Tryz.prog F.xg #[.pointer (some ⟨D.d,0,none⟩), .int .i64 ((i:Nat):Int)] w (ak_ D i w):=by
 refine W.ala (some ⟨D.d,0,none⟩) ((i:Nat):Int) w _ ?_
 (delta W.xg bk aF rK pR ai;dsimp only)
 refine (ZK h _).use ?_
 rintro _ _ ⟨rfl,rfl⟩
 refine ⟨_,rfl,fun aa=> ?_,fun _=>⟨_,rfl,(S7 h (k:=1) (by decide)).use ?_⟩⟩
 · have aa:¬(0≤(i:Int)∧(i:Int)<D.n):=by simpa using aa
   omega
 rintro _ aw ⟨rfl,gm,dh,tR⟩
 refine ⟨_,rfl,fun aa=>⟨gm,dh, .inl ⟨aa,rfl⟩⟩,fun aa=>(ZN gm (i:=i) hi gA).use ?_⟩
 rintro _ a8 ⟨rfl,eX⟩
 have p2:=h.KS hi
 refine ⟨_,rfl,cx (vs:=HM) (by kernel_rfl) fun bz rM fz HB=>⟨rM.du (by rw[JN,jE];show (D.now i).length=_;rw[p2,HM,jE,G3]) (by rw[JN];exact wx _),by rw[NB,jE];exact p2,eg rM (us:=a_ (D.now i)) (by rw[jE,p2,HM,jE,G3]) rfl fun bO HO lY OA=> ?_⟩⟩
 have OO:=eX.size
 have a6:D.d<aw.heap.size:=gm.v.lt
 refine ⟨(gm.ext (eX.trans fz)).an lY (fun q J e=>by have:=gm.lt J;omega),jw (dh.trans (ao.eN (eX.trans fz))) lY fun q J e=>by omega, .inr ⟨aa,⟨some ⟨a8.heap.size,0,none⟩,256,256⟩,rfl,?_,cP _,fun k ae=> ?_⟩⟩
 · have:=HO.aim (o:=0) (n:=256) (c:=256) (l:=D.now i) (by rw[jE,p2];decide) (by rw[z8,hU (by rw[jE,p2];decide)])
   exact this
 · obtain ⟨A,ay,rfl⟩:=ae
   cases ay
   have:=HO.lt
   exact ⟨by show w.heap.size≤a8.heap.size;omega,this⟩
end
section
theorem ZR:∀ (l:List Value) (k:Nat) (arr:Array Value),(l.zipIdx k).foldl (fun cs (p:Value×Nat)=>cs.setIfInBounds p.2 p.1) arr=nK arr k l
 | [],_,_=>rfl
 |v::l,k,arr=>by
   rw[List.zipIdx_cons,List.foldl_cons]
   exact ZR l (k+1) (arr.setIfInBounds k v)
theorem S_ {P:Program} {T e:TypeId} {d:TypeDesc} {i:TypeInfo} {z:Value} {sz:Nat} {cs:Array Value} (w:World) (U:P.underlying T=some (.slice e)) (ad:P.underlying e=some d) (aq:P.cellsOf e=sz) (hi:P.info? e=some i) (uc:i.zero=some z) (fq:cs.size=sz) (avN:sz≠0) (hle:sz≤16777216):
   Sem.run P (Instr.buildSlice T 1 #[(0, .agg cs)]) w= .ok (.slice (some ⟨w.heap.size,0,none⟩) 1 1) (w.alloc (.cells cs e)):=by
 have bF:=qO (P:=P) (w:=w) ad
 rw[aq] at bF
 have alb:Instr.fill (fun i=>some (i*sz,sz)) ((Array.range (1*sz)).map fun x=>z.cells[x%z.cells.size]!) [(0, .agg cs)]=some cs:=by
   have ak:(Value.agg cs).cells=cs:=rfl
   rw[Instr.fill]
   simp only[ak]
   rw[if_neg (by simp[fq]),Instr.fill]
   rw[←Array.foldl_toList,Array.toList_zipIdx]
   have e:(fun (cs:Array Value) (x:Value×Nat)=>match x with|(c,j)=>cs.setIfInBounds (0*sz+j) c)=fun cs (p:Value×Nat)=>cs.setIfInBounds p.2 p.1:=by
     funext cs x
     obtain ⟨c,j⟩:=x
     simp
   rw[e,ZR]
   congr 1
   apply Array.toList_inj.1
   rw[yo _ _ _ (by simp[fq])]
   simp[fq]
 have Da:=Db (w:=w) hi
 have aD:¬(1*sz>2^24):=by
   have:(2:Nat)^24=16777216:=rfl
   omega
 have Hv:¬(1*sz=0):=by omega
 have oW:Instr.fill (fun i=>some (i*sz,sz)) ((Array.range (1*sz)).map fun x=>z.cells[x%z.cells.size]!) (#[(0,Value.agg cs)]:Array (Nat×Value)).toList=some cs:=alb
 simp only[Instr.buildSlice,Sem.run_bind,fV U,bF,Result.andThen,aD,Hv,if_false,zeroValue,Da,uc,Sem.run_pure,oW]
 simp[newRow,newObj,Sem.run]
theorem ZS (w:World) (l:kO) (aB:l.length=256):
   Sem.run Tryz.prog (Instr.buildSlice ah.uh 1 #[(0, .agg (a_ l).toArray)]) w= .ok (.slice (some ⟨w.heap.size,0,none⟩) 1 1) (w.alloc (.cells (a_ l).toArray ah.oA)):=by
 have h:((Tryz.prog.info? ah.oA).bind (·.zero)).isSome=true:=by kernel_rfl
 obtain ⟨z,bF⟩:=Cr.1 h
 obtain ⟨i,hi,uc⟩:=KR bF
 exact S_ (d:= .array 256 ah.uint8) (sz:=256) w (by kernel_rfl) (by kernel_rfl) (by kernel_rfl) hi uc (by rw[NB,jE,aB]) (by decide) (by decide)
theorem alc:qi Tryz.prog ah.uh ah.oA 256 256:=⟨by kernel_rfl⟩
def cM.put (D:cM) (i:Nat) (s:ab) (l:kO):cM:=
 {D.fJ 2 with waits:=⟨i,s,D.s8 i++ [l]⟩::D.waits.filter (fun x=>x.i !=i),writes:=IntKind.wrap .i64 (D.writes+1),cl:=D.cl+1}
theorem ald {D:cM} {i j:Nat} (h:j≠i):(D.waits.filter fun x=>x.i !=i).find? (fun x=>x.i==j)=D.waits.find? fun x=>x.i==j:=by
 rw[List.find?_filter]
 congr 1
 funext x
 by_cases e:x.i=j
 · rw[e];simp[h]
 · simp[e]
theorem Ta (D:cM) (i:Nat) (s:ab) (l:kO) (j:Nat):(D.put i s l).now j=if j=i then l else D.now j:=by
 unfold cM.now cM.put
 by_cases h:j=i
 · subst h
   simp
 · rw[if_neg h]
   simp only
   rw[List.find?_cons_of_neg (by simp;omega),ald h]
   rfl
def ZT (D:cM) (i:Nat) (l:kO) (w:World) (v:Value) (w':World):Prop:=
 (D.p1 2=true∧v= .int .i64 3∧h9 w' (D.fJ 2)∧ao (fun q=>q=D.d) w w')∨
 (D.p1 2=false∧v= .int .i64 0∧∃s:ab,h9 w' (D.put i s l)∧ao (gG D) w w'∧∀q,aQ s q→gG D q∨w.heap.size≤q)
theorem ZU {w:World} {D:cM} {b:ab} {l:kO} (h:h9 w D) {i:Nat} (hi:i<D.n) (gA:D.cl≤1000000000) (aa:Src 1 w b (a_ l)) (aB:l.length=256) (hd:∀q,aQ b q→¬gG D q):
   aP Tryz.prog F.AP #[.pointer (some ⟨D.d,0,none⟩), .int .i64 ((i:Nat):Int), .slice b.a b.len b.cap] w (ZT D i l w):=by
 have yp:=len8 aa
 have nn:=h.c7
 refine W.ale (some ⟨D.d,0,none⟩) ((i:Nat):Int) b w _ ?_
 (delta W.AP bk aF Tb bD st aE;dsimp only)
 refine (ZK h _).use ?_
 rintro _ _ ⟨rfl,rfl⟩
 have fG:decide (0≤(i:Int)∧(i:Int)<D.n)=true:=ik ⟨by omega,by omega⟩
 refine ⟨_,rfl,fun U=> ?_,fun _=>⟨_,rfl,(S7 h (k:=2) (by decide)).use ?_⟩⟩
 · rw[fG,yp,aB] at U
   simp at U
 rintro _ aw ⟨rfl,gm,dh,tR⟩
 refine ⟨_,rfl,fun ox=> .inl ⟨ox,rfl,gm,dh⟩,fun ox=>bN ?_⟩
 obtain ⟨hN,hold⟩:∃hN:ab,(match D.waits.find? fun x=>x.i==i with|some x=>x.s|none=>⟨none,0,0⟩)=hN:=⟨_,rfl⟩
 have s9:=gm.ext (ej aw)
 have HG:Src 1 aw.drew b (a_ l):=(aa.an dh fun q J e=>hd q J (.inl e)).ext (ej aw)
 have wJ:bX 256 ah.oA aw.drew hN (cz a_ (D.s8 i))∧(∀q,aQ hN q→gG D q∧q≠D.d∧q≠D.fj∧q≠D.ib)∧(∀x∈D.waits,x.i≠i→∀q,aQ x.s q→¬aQ hN q)∧(D.s8 i).length≤D.cl∧(∀s∈D.s8 i,s.length=256)∧
     ∀w':World,jj w' D.ib encZ (D.waits.map p0.e)→Sem.run Tryz.prog (Instr.lookup ah.xf (.map (some D.ib)) (.int .i64 ((i:Nat):Int)) false) w'= .ok (.slice hN.a hN.len hN.cap) w':=by
   cases aA:D.waits.find? fun x=>x.i==i with
   |some x=>
     rw[aA] at hold
     have hold:x.s=hN:=hold
     subst hold
     have af:=x9 aA
     have HN:x.i=i:=by
       have:=z6 aA
       exact eq_of_beq this
     have e:D.s8 i=x.rN:=by unfold cM.s8;rw[aA]
     rw[e]
     refine ⟨s9.ws x af,fun q J=>⟨.inr (.inr (.inr ⟨x,af,J⟩)),fun e=>(h.cQ x af).1 (e▸J),fun e=>(h.cQ x af).2.1 (e▸J),fun e=>(h.cQ x af).2.2 (e▸J)⟩,fun y b2 dN=>h.a3 y b2 x af (by omega),(h.wn x af).2.2,h.Fy x af,fun w' hm=>hm.ZO HL C_ (k:=(i:Int)) (v:= .slice x.s.a x.s.len x.s.cap) (lR.2 ⟨x,af,by unfold p0.e;rw[HN]⟩) false⟩
   |none=>
     rw[aA] at hold
     have hold:(⟨none,0,0⟩:ab)=hN:=hold
     subst hold
     have e:D.s8 i=[]:=by unfold cM.s8;rw[aA]
     rw[e]
     obtain ⟨ak9,U,ad⟩:=KR ZI
     refine ⟨bX.none _ _ _,fun q J=>(rD q J).elim,fun x _ _ q _ J=>(rD q J).elim,fi _,fun s aj=>(by cases aj),fun w' hm=>hm.ZP HL C_ (k:=(i:Int)) U ad (fun v al=> ?_) false⟩
     obtain ⟨x,af,he⟩:=lR.1 al
     have aq:=rv.1 aA x af
     unfold p0.e at he
     simp only[Prod.mk.injEq] at he
     apply aq
     have:x.i=i:=by omega
     rw[this];simp
 obtain ⟨bG,y4,ZV,avO,OP,ZW⟩:=wJ
 obtain ⟨A,ay,fL⟩:∃A,b.a=some A∧eH aw.drew A 0 256=some (a_ l):=by
   cases aR:b.a with
   |none=>
     have:=congrArg List.length (aa.nil aR)
     rw[jE,aB] at this
     cases this
   |some A=>
     refine ⟨A,rfl,?_⟩
     have:=HG.rd A aR
     rwa[yp,aB] at this
 have alf:¬aQ hN A.block:=fun J=>hd _ ⟨A,ay,rfl⟩ (y4 _ J).1
 have ZX:∀bz:World,Ext aw.drew bz→∃ (au:ab) (bO:World),Sem.run Tryz.prog (Builtin.append_ #[ah.uh,ah.uh] ah.uh #[.slice hN.a hN.len hN.cap, .slice (some ⟨bz.heap.size,0,none⟩) 1 1]) (bz.alloc (.cells (a_ l).toArray ah.oA))= .ok (.slice au.a au.len au.cap) bO∧
     bX 256 ah.oA bO au (cz a_ (D.s8 i++ [l]))∧ao (aQ hN) bz bO∧(∀k,aQ au k→aQ hN k∨bz.heap.size≤k)∧ao (aQ hN) (bz.alloc (.cells (a_ l).toArray ah.oA)) bO:=by
   intro bz fz
   have hlen:hN.len=(D.s8 i).length:=by
     have:=bG.1
     rw[nW (c:=a_) (sz:=256) _ fun s aj=>by rw[jE];exact OP s aj] at this
     omega
   have kX:=iM bz (.cells (a_ l).toArray ah.oA)
   obtain ⟨au,bO,aC,aG,aJ,aN,cX⟩:=alc.append (ew:=ah.uh) (x:=⟨some ⟨bz.heap.size,0,none⟩,1,1⟩) (Src.new (T:=ah.oA) bz (a_ l) 1 (by rw[jE,aB])) (bG.ext (fz.trans kX)) (wx l) (by rw[hlen];show (2*(_+1)+1000)*256≤_;omega)
   refine ⟨au,bO,aC,?_,(ao.eN kX).trans aN,fun k ae=>(cX k ae).imp id fun h=> ?_,aN⟩
   · rw[y0]
     have:cz a_ [l]=a_ l:=by simp[cz]
     rw[this];exact aG
   · have:=kX.size;omega
 have OQ:∀ (bO:World) (au:ab),jj bO D.ib encZ (D.waits.map p0.e)→∃bg:World,Sem.run Tryz.prog (Instr.mapUpdate ah.xf (.map (some D.ib)) (.int .i64 ((i:Nat):Int)) (.slice au.a au.len au.cap)) bO= .ok () bg∧ao (fun q=>q=D.ib) bO bg∧
     jj bg D.ib encZ ((p0.mk i au (D.s8 i++ [l])::D.waits.filter fun x=>x.i !=i).map p0.e):=by
   intro bO au hm
   have Tc:=hm.keys
   rw[List.map_map] at Tc
   cases aA:D.waits.find? fun x=>x.i==i with
   |some x=>
     have af:=x9 aA
     have HN:x.i=i:=by
       have:=z6 aA
       exact eq_of_beq this
     obtain ⟨b1,cn,he⟩:=List.append_of_mem af
     have dN:∀y∈b1++cn,y.i≠i:=by
       intro y b2 e
       rw[he,mV,sM] at Tc
       have U:=(Cm.nodup_iff).1 Tc
       rw[List.nodup_cons] at U
       apply U.1
       rw[←mV]
       refine lR.2 ⟨y,b2,?_⟩
       show ((y.i:Nat):Int)=((x.i:Nat):Int)
       omega
     have oC:D.waits.filter (fun x=>x.i !=i)=b1++cn:=by
       rw[he,z2,List.filter_cons_of_neg (by simp[HN])]
       rw[uV.2 fun y b2=>by have:=dN y (tI _ b2);simpa using this,uV.2 fun y b2=>by have:=dN y (qH _ b2);simpa using this]
     have aV:(D.waits.map p0.e).Perm (((i:Int), .slice x.s.a x.s.len x.s.cap)::(b1++cn).map p0.e):=by
       rw[he,mV,sM,mV]
       have:x.e=((i:Int), .slice x.s.a x.s.len x.s.cap):=by unfold p0.e;rw[HN]
       rw[this]
       exact Cm
     obtain ⟨bg,aC,aG,_,aJ⟩:=ak0 HL C_ (hm.perm aV) (.slice au.a au.len au.cap)
     refine ⟨bg,aC,aG,?_⟩
     rw[oC]
     exact aJ
   |none=>
     have dN:∀y∈D.waits,y.i≠i:=fun y b2 e=>by
       have:=rv.1 aA y b2
       rw[e] at this;simp at this
     have oC:D.waits.filter (fun x=>x.i !=i)=D.waits:=uV.2 fun y b2=>by simpa using dN y b2
     obtain ⟨bg,aC,aG,_,aJ⟩:=akZ HL C_ (k:=(i:Int)) hm (fun v al=>by
       obtain ⟨x,af,he⟩:=lR.1 al
       unfold p0.e at he
       simp only[Prod.mk.injEq] at he
       exact dN x af (by omega)) (.slice au.a au.len au.cap)
     refine ⟨bg,aC,aG,?_⟩
     rw[oC]
     exact aJ
 have fin:∀ (bO bg:World) (au:ab),ao (aQ hN) aw.drew bO→bX 256 ah.oA bO au (cz a_ (D.s8 i++ [l]))→(∀k,aQ au k→aQ hN k∨aw.drew.heap.size≤k)→ao (fun q=>q=D.ib) bO bg→jj bg D.ib encZ ((p0.mk i au (D.s8 i++ [l])::D.waits.filter fun x=>x.i !=i).map p0.e)→
     ∃a23:Addr,(some ⟨D.d,0,none⟩:Option Addr)=some a23∧∃n24:Int,bg.cell? (a23.add 6)=some (.int .i64 n24)∧∃a25:Addr,(some ⟨D.d,0,none⟩:Option Addr)=some a25∧(∃u:Value,bg.cell? (a25.add 6)=some u)∧bg.frozen? (a25.add 6)=false∧az (bg.setCell (a25.add 6) (.int .i64 (IntKind.wrap .i64 (n24+1)))) fun cv=>ZT D i l w (.int .i64 0) cv:=by
   intro bO bg au lY Oe eR qT lB
   have HO:=s9.v.an lY fun J=>(y4 _ J).2.1 rfl
   have Td:Var bg D.d (D.fJ 2).c ah.OM:=HO.an qT h.a7.2.1
   have hlen:(D.fJ 2).c.length=7:=gm.S6
   obtain ⟨s1,s2⟩:=kc Td (i:=6) (by rw[hlen];decide)
   have fC:bg.cell? (Addr.add ⟨D.d,0,none⟩ 6)=some (.int .i64 D.writes):=by
     rw[aX,gJ,Td.cell]
     unfold cM.c
     have:=gm.f4
     rw[wm (by rw[kF];omega),kF,this];rfl
   rw[aX,gJ] at fC
   refine ⟨_,rfl,D.writes,by rw[aX,gJ];exact fC,_,rfl,by rw[aX,gJ];exact s1,by rw[aX,gJ];exact s2,?_⟩
   rw[aX,gJ]
   have qV:=iV bg D.d 6 (.int .i64 (IntKind.wrap .i64 (D.writes+1)))
   have Ko:=j_ Td (i:=6) (.int .i64 (IntKind.wrap .i64 (D.writes+1)))
   have oD:(D.fJ 2).c.set 6 (.int .i64 (IntKind.wrap .i64 (D.writes+1)))=(D.put i au l).c:=by
     have aK:=gm.f4
     have ba:(D.put i au l).c=(D.fJ 2).e4.map (.int .i64)++ [.slice (some ⟨D.fj,0,none⟩) D.e5.length D.e5.length, .map (some D.ib), .int .i64 (IntKind.wrap .i64 (D.writes+1))]:=rfl
     have bp:(D.fJ 2).c=(D.fJ 2).e4.map (.int .i64)++ [.slice (some ⟨D.fj,0,none⟩) D.e5.length D.e5.length, .map (some D.ib), .int .i64 D.writes]:=rfl
     rw[ba,bp,List.set_append_right _ _ (by rw[kF];omega),kF,aK]
     rfl
   rw[oD] at Ko
   have Dc:ao (fun q=>q=D.ib∨q=D.d) bO (bg.setCell ⟨D.d,6,none⟩ (.int .i64 (IntKind.wrap .i64 (D.writes+1)))):=(qT.mono fun q _ e=> .inl e).trans (qV.mono fun q _ e=> .inr e)
   have s_:∀q,aQ au q→q≠D.d∧q≠D.fj∧q≠D.ib:=fun q J=>by
     have avP:=s9.lt (q:=D.d) (.inl rfl)
     have avQ:=s9.lt (q:=D.fj) (.inr (.inl rfl))
     have avR:=s9.lt (q:=D.ib) (.inr (.inr (.inl rfl)))
     rcases eR q J with U|U
     · exact (y4 q U).2
     · exact ⟨by omega,by omega,by omega⟩
   have q6:∀x∈D.waits.filter (fun x=>x.i !=i),x∈D.waits∧x.i≠i:=fun x af=>by
     obtain ⟨U,ad⟩:=tH.1 af
     exact ⟨U,by simpa using ad⟩
   refine bN (.inr ⟨ox,rfl,au,⟨Ko,?_,?_,?_,?_,h.AK,?_,h.dc,h.c7,gm.f4,gm.fr,h.a7,?_,?_⟩,?_,?_⟩)
   · exact cj.an (cj.an s9.l lY fun J=>(y4 _ J).2.2.1 rfl) Dc (by
       rintro (e|e)
       · exact h.a7.2.2 e
       · exact h.a7.1 e.symm)
   · exact lB.an qV (fun e=>h.a7.2.1 e.symm)
   · intro x af
     rcases gg.1 af with rfl|af
     · exact Oe.an Dc fun q J=>by
         rintro (e|e)
         · exact (s_ q J).2.2 e
         · exact (s_ q J).1 e
     · obtain ⟨U,ad⟩:=q6 x af
       refine ((s9.ws x U).an lY fun q J=>ZV x U ad q J).an Dc fun q J=> ?_
       rintro (e|e)
       · exact (h.cQ x U).2.2 (e▸J)
       · exact (h.cQ x U).1 (e▸J)
   · intro x af
     rcases gg.1 af with rfl|af
     · refine ⟨by simp,hi,?_⟩
       show (D.s8 i++ [l]).length≤D.cl+1
       rw[eC,ru];omega
     · obtain ⟨U,ad⟩:=q6 x af
       have:=h.wn x U
       exact ⟨this.1,this.2.1,Nat.le_succ_of_le this.2.2⟩
   · intro x af
     rcases gg.1 af with rfl|af
     · intro s aj
       rcases fa.1 aj with aj|aj
       · exact OP s aj
       · rw[lT.1 aj];exact aB
     · exact h.Fy x (q6 x af).1
   · intro x af
     rcases gg.1 af with rfl|af
     · exact ⟨fun J=>(s_ _ J).1 rfl,fun J=>(s_ _ J).2.1 rfl,fun J=>(s_ _ J).2.2 rfl⟩
     · exact h.cQ x (q6 x af).1
   · have lz:∀y∈D.waits,y.i≠i→∀q,aQ y.s q→¬aQ au q:=fun y b2 dN q J hL=>by
       rcases eR q hL with U|U
       · exact ZV y b2 dN q J U
       · have:=(s9.ws y b2).lt q J;omega
     intro x af y b2 dN q J hL
     rcases gg.1 af with rfl|af
     · rcases gg.1 b2 with rfl|b2
       · exact dN rfl
       · exact lz y (q6 y b2).1 (fun e=>dN e.symm) q hL J
     · rcases gg.1 b2 with rfl|b2
       · exact lz x (q6 x af).1 dN q J hL
       · exact h.a3 x (q6 x af).1 y (q6 y b2).1 dN q J hL
   · refine ((dh.mono fun q _ e=> .inl e).trans ((ao.eN (ej aw)).trans (lY.mono fun q _ J=>(y4 q J).1))).trans (Dc.mono fun q _ J=> ?_)
     rcases J with e|e
     · exact .inr (.inr (.inl e))
     · exact .inl e
   · intro q J
     rcases eR q J with U|U
     · exact .inl (y4 q U).1
     · have:aw.drew.heap.size=aw.heap.size:=rfl
       exact .inr (by omega)
 refine ⟨aQ hN,_,rfl,fun J=>(y4 _ J).2.1 rfl,some D.ib,s9.dQ,_,rfl,fun J=>(y4 _ J).2.1 rfl,some D.ib,s9.dQ,by omega,A,ay,alf,_,fL,⟨?_,?_⟩⟩
 · obtain ⟨au,bO,aC,aG,aJ,aN,cX⟩:=ZX aw.drew (.refl _ _)
   have vl:=s9.m.an aJ fun J=>(y4 _ J).2.2.2 rfl
   obtain ⟨bg,ba,bp,dM⟩:=OQ bO au vl
   exact ⟨hN,_,ZW _ s9.m, .refl _ _,⟨some ⟨aw.drew.heap.size,0,none⟩,1,1⟩,_,ZS _ l aB,ao.eN (iM _ _),au,bO,aC,cX,bg,ba,fin bO bg au aJ aG aN bp dM⟩
 · obtain ⟨au,bO,aC,aG,aJ,aN,cX⟩:=ZX aw.drew (.refl _ _)
   have wP:=s9.m.ext (iM aw.drew (.cells (a_ l).toArray ah.oA))
   have vl:=s9.m.an aJ fun J=>(y4 _ J).2.2.2 rfl
   obtain ⟨bg,ba,bp,dM⟩:=OQ bO au vl
   exact ⟨⟨some ⟨aw.drew.heap.size,0,none⟩,1,1⟩,_,ZS _ l aB,ao.eN (iM _ _),hN,_,ZW _ wP, .refl _ _,au,bO,aC,cX,bg,ba,fin bO bg au aJ aG aN bp dM⟩
end
section
theorem alg {P:Program} {e:TypeId} {v:Value} {sz:Nat} (bF:((P.info? e).bind (·.zero)).map (·.cells)=some (List.replicate sz v).toArray) (ak:P.cellsOf e=sz) (aj:0<sz) (n:Nat):pQ P e n=(List.replicate (n*sz) v).toArray:=by
 unfold pQ
 rw[ak]
 cases hi:(P.info? e).bind (·.zero) with
 |none=>rw[hi] at bF;cases bF
 |some z=>
   rw[hi] at bF
   simp only[yc,Option.some.injEq] at bF
   simp only[Option.getD_some]
   apply Array.ext
   · simp
   · intro i U ad
     have aD:n*sz≠0:=by
       intro h
       simp[h] at ad
     simp only[aD,if_false,bF,Array.getElem_map,Array.getElem_range]
     have a6:i%sz<sz:=r8 _ aj
     simp[a6]
theorem alh (m n:Nat):cz a_ (List.replicate n (List.replicate m 0))=List.replicate (n*m) (.int .u8 0):=by
 induction n with
 |zero=>simp[cz]
 |succ n dx=>
   rw[List.replicate_succ,HK,dx,wk,Nat.one_mul,Nat.add_comm]
   have e:a_ (List.replicate m 0)=List.replicate m (Value.int .u8 0):=by simp[a_]
   rw[e,List.replicate_append_replicate]
def y5:kO:=List.replicate 256 0
theorem ali (n:Nat):pQ Tryz.prog ah.oA n=(cz a_ (List.replicate n y5)).toArray:=by
 unfold y5
 rw[alh]
 exact alg (by kernel_rfl) (by kernel_rfl) (by decide) n
def vw (n d fj ib:Nat):cM:=⟨d,fj,ib,[-1, -1, -1, -1],List.replicate n y5,[],0,0⟩
theorem alj {w:World} {b:Nat} {vs:List Value} {T:TypeId} (h:Var w b vs T) (aB:4≤vs.length):
   aP Tryz.prog F.Dd #[.pointer (some ⟨b,0,none⟩)] w (fun v w'=>v= .tuple #[]∧Var w' b (List.replicate 4 (.int .i64 (-1))++vs.drop 4) T∧ao (fun q=>q=b) w w'∧w'.heap.size=w.heap.size):=by
 refine W.alk (some ⟨b,0,none⟩) w _ ?_
 (delta W.Dd aF st aE;dsimp only)
 refine ⟨fun i w'=>∃j:Nat,i=j∧j≤4∧Var w' b (List.replicate j (.int .i64 (-1))++vs.drop j) T∧ao (fun q=>q=b) w w'∧w'.heap.size=w.heap.size,fun i _=>((4:Int)-i).toNat,⟨0,rfl,by omega,h, .refl _ _,rfl⟩,?_⟩
 rintro _ ag ⟨j,rfl,aZ,al,ak,bF⟩
 refine ⟨fun a6=> ?_,fun cm=> ?_⟩
 · have a6:j<4:=by have:=dL a6;omega
   have aR:Addr.add ⟨b,0,none⟩ (Int.toNat ((j:Nat):Int)*1)=⟨b,j,none⟩:=by rw[g_,lQ,aX,gJ]
   obtain ⟨s1,s2⟩:=kc al (i:=j) (by simp;omega)
   rw[cL (n:=(j:Int)+1) (by omega) (by omega)]
   refine ⟨_,rfl,⟨by omega,by show (j:Int)<4;omega⟩,by rw[aR];exact s1,by rw[aR];exact s2,bN ⟨⟨j+1,by omega,by omega,?_,?_,?_⟩,?_⟩⟩
   · have:=j_ al (i:=j) (.int .i64 (-1))
     rw[aR]
     have e:(List.replicate j (Value.int .i64 (-1))++vs.drop j).set j (.int .i64 (-1))=List.replicate (j+1) (.int .i64 (-1))++vs.drop (j+1):=by
       rw[List.set_append_right _ _ (by simp),G3,ER,tK (show j<vs.length by omega),List.set_cons_zero,List.replicate_succ',eF]
       rfl
     rwa[e] at this
   · rw[aR];exact ak.trans (iV _ _ _ _)
   · rw[aR];simpa[World.setCell] using bF
   · show ((4:Int)-((j:Int)+1)).toNat<((4:Int)-(j:Int)).toNat
     omega
 · have cm:j=4:=by have:=fb cm;omega
   subst cm
   exact ⟨rfl,al,ak,bF⟩
theorem y6 {n:Nat} (U:16≤n) (ad:n≤1600) (w:World):
   aP Tryz.prog F.y6 #[.int .i64 ((n:Nat):Int)] w (fun v w'=>∃d fj ib:Nat,v= .tuple #[.pointer (some ⟨d,0,none⟩), .int .i64 0]∧h9 w' (vw n d fj ib)∧Ext w w'∧∀q,gG (vw n d fj ib) q→w.heap.size≤q):=by
 refine W.alm ((n:Nat):Int) w _ ?_
 (delta W.y6 aF yq gE ai bm;dsimp only)
 refine ⟨fun h=> ?_,fun _=>⟨⟨by omega,by omega,by omega,by omega⟩,?_⟩⟩
 · simp only[wj,fE] at h;omega
 rw[ali,g_]
 have ox:=cj.new w (cz a_ (List.replicate n y5)).toArray ah.oA
 have bK:=iM w (.cells (cz a_ (List.replicate n y5)).toArray ah.oA)
 have nM:=J0 w (.cells (cz a_ (List.replicate n y5)).toArray ah.oA)
 obtain ⟨ag,AQ⟩:∃ag,ag=w.alloc (.cells (cz a_ (List.replicate n y5)).toArray ah.oA):=⟨_,rfl⟩
 rw[←AQ] at ox bK nM⊢
 obtain ⟨aC,aG⟩:=jj.make (P:=Tryz.prog) (enc:=encZ) ah.xf ag
 have cD:=iM ag (.map #[] 0)
 have tR:=J0 ag (.map #[] 0)
 obtain ⟨aw,tV⟩:∃aw,aw=ag.alloc (.map #[] 0):=⟨_,rfl⟩
 rw[←tV] at aC aG cD tR
 refine bN ⟨some ag.heap.size,aw,aC, #[.int .i64 0, .int .i64 0, .int .i64 0, .int .i64 0, .slice (some ⟨w.heap.size,0,none⟩) n n, .map (some ag.heap.size), .int .i64 0],by kernel_rfl,cx (vs:=[.int .i64 0, .int .i64 0, .int .i64 0, .int .i64 0, .slice (some ⟨w.heap.size,0,none⟩) n n, .map (some ag.heap.size), .int .i64 0]) rfl fun a8 mG eX Fm=>⟨_,rfl,(alj mG (by show 4≤7;decide)).use ?_⟩⟩
 rintro _ bz ⟨rfl,rM,si,HB⟩
 refine ⟨rfl,aw.heap.size,w.heap.size,ag.heap.size,rfl,⟨?_,?_,?_,fun x af=>(by cases af),fun x af=>(by cases af),fun s aj=> ?_,fun x af=>(by cases af),?_,?_,rfl,fun x af=> ?_,?_,fun x af=>(by cases af),fun x af=>(by cases af)⟩,Ext.e_ (bK.trans (cD.trans eX)) si (by omega),?_⟩
 · have e:(vw n aw.heap.size w.heap.size ag.heap.size).c=List.replicate 4 (.int .i64 (-1))++ [Value.int .i64 0, .int .i64 0, .int .i64 0, .int .i64 0, .slice (some ⟨w.heap.size,0,none⟩) n n, .map (some ag.heap.size), .int .i64 0].drop 4:=by
     unfold cM.c vw
     simp
   rw[e];exact rM
 · exact cj.an ((ox.ext cD).ext eX) si (by show¬w.heap.size=aw.heap.size;omega)
 · exact (aG.ext eX).an si (by omega)
 · rw[RK aj,y5,G3]
 · show 16≤(List.replicate n y5).length;simpa using U
 · show (List.replicate n y5).length≤1600;simpa using ad
 · have:x= -1:=by
     simp[vw] at af;exact af
   subst this;exact ⟨by decide,by decide⟩
 · exact ⟨by show aw.heap.size≠w.heap.size;omega,by show aw.heap.size≠ag.heap.size;omega,by show w.heap.size≠ag.heap.size;omega⟩
 · rintro q (rfl|rfl|rfl|⟨x,af,_⟩)
   · show w.heap.size≤aw.heap.size;omega
   · exact cP _
   · show w.heap.size≤ag.heap.size;omega
   · cases af
end
section
structure Fr where
 full:Bool
 oE:Bool
 used:Bool
 no:Int
 pins:Int
 b:ab
 l:kO
def Fr.c (f:Fr):List Value:=[.bool f.full, .bool f.oE, .bool f.used, .int .i64 f.no, .int .i64 f.pins, .slice f.b.a f.b.len f.b.cap]
def gR:Fr:=⟨false,false,false,0,0,⟨none,0,0⟩,[]⟩
structure dC where
 c:Nat
 bQ:Nat
 ax:List Fr
 hand:Nat
 D:cM
def g7 (C:dC) (q:Nat):Prop:=q=C.c∨q=C.bQ∨gG C.D q
structure kP (w:World) (C:dC):Prop where
 v:Var w C.c [.pointer (some ⟨C.D.d,0,none⟩), .slice (some ⟨C.bQ,0,none⟩) C.ax.length C.ax.length, .int .i64 C.hand] ah.ZY
 f:cj w C.bQ (cz Fr.c C.ax).toArray ah.qo
 dev:h9 w C.D
 dJ:8≤C.ax.length
 eM:C.ax.length≤64
 hd:C.hand<C.ax.length
 a7:C.c≠C.bQ∧¬gG C.D C.c∧¬gG C.D C.bQ
structure ZZ (X:Nat→Prop) (w:World) (C:dC) (f:Fr) (no:Nat):Prop where
 num:f.no=no
 lt:no<C.D.n
 avS:bH (fun q=>¬g7 C q∧¬X q) w f.b f.l
 len:f.l.length=256
 clean:f.oE=false→f.l=C.D.now no
structure p3 (X:Nat→Prop) (w:World) (C:dC):Prop where
 pins:∀f∈C.ax,f.pins=0
 ok:∀f∈C.ax,f.full=true→∃no:Nat,ZZ X w C f no
 un:∀ (i j:Nat) (hi:i<C.ax.length) (aZ:j<C.ax.length),(C.ax[i]).full=true→(C.ax[j]).full=true→(C.ax[i]).no=(C.ax[j]).no→i=j
 m0:∀q,X q→q<w.heap.size∧¬g7 C q
structure kg (X:Nat→Prop) (w:World) (C:dC):Prop where
 raw:kP w C
 inv:p3 X w C
def dC.view (C:dC) (no:Nat):kO:=match C.ax.find? fun f=>f.full&&f.no==(no:Int) with
 |some f=>f.l
 |none=>C.D.now no
theorem Fr.Te (f:Fr):f.c.length=6:=rfl
theorem OR (l:List Fr):∀x∈l,(Fr.c x).length=6:=fun x _=>rfl
section
variable {w w':World} {C:dC} {X:Nat→Prop}
theorem kP.lt (h:kP w C) {q:Nat} (J:g7 C q):q<w.heap.size:=by
 rcases J with rfl|rfl|J
 · exact h.v.lt
 · exact cj.lt h.f
 · exact h.dev.lt J
theorem kP.an {W:Nat→Prop} (h:kP w C) (ak:ao W w w') (aD:∀q,g7 C q→¬W q):kP w' C:=
 ⟨h.v.an ak (aD _ (.inl rfl)),cj.an h.f ak (aD _ (.inr (.inl rfl))),h.dev.an ak fun q J=>aD q (.inr (.inr J)),h.dJ,h.eM,h.hd,h.a7⟩
theorem kP.ext (h:kP w C) (ak:Ext w w'):kP w' C:=h.an ak fun _ _ h=>h
theorem p3.an {W:Nat→Prop} (h:p3 X w C) (ak:ao W w w') (aD:∀q,W q→g7 C q∨X q):p3 X w' C:=
 ⟨h.pins,fun f aA l8=>by
   obtain ⟨no,aC,aG,aJ,aN,cX⟩:=h.ok f aA l8
   exact ⟨no,aC,aG,bH.an aJ ak fun q J hw=>by
     rcases aD q hw with U|U
     · exact J.1 U
     · exact J.2 U,aN,cX⟩,h.un,fun q J=>⟨ly (h.m0 q J).1 ak.size,(h.m0 q J).2⟩⟩
theorem kg.an {W:Nat→Prop} (h:kg X w C) (ak:ao W w w') (aD:∀q,W q→X q):kg X w' C:=
 ⟨h.raw.an ak fun q J hw=>(h.inv.m0 q (aD q hw)).2 J,h.inv.an ak fun q hw=> .inr (aD q hw)⟩
theorem kg.ext (h:kg X w C) (ak:Ext w w'):kg X w' C:=h.an ak fun _ h=>h.elim
theorem KU (bQ i:Nat):Addr.add ⟨bQ,0,none⟩ (Int.toNat ((i:Nat):Int)*6)=⟨bQ,i*6,none⟩:=by rw[g_,aX,gJ]
theorem kP.cells (h:kP w C):w.cell? ⟨C.c,0,none⟩=some (.pointer (some ⟨C.D.d,0,none⟩))∧w.cell? (Addr.add ⟨C.c,0,none⟩ 1)=some (.slice (some ⟨C.bQ,0,none⟩) C.ax.length C.ax.length)∧w.cell? (Addr.add ⟨C.c,0,none⟩ 2)=some (.int .i64 C.hand):=by
 rw[aX,aX]
 exact ⟨h.v.cell,h.v.cell,h.v.cell⟩
theorem ui {w:World} {bQ:Nat} {fs:List Fr} {T:TypeId} (h:cj w bQ (cz Fr.c fs).toArray T) {i j:Nat} (hi:i<fs.length) (aZ:j<6):w.cell? ⟨bQ,i*6+j,none⟩=((fs[i]).c)[j]? :=by
 rw[cj.cell h]
 simp only[JO]
 exact KP (OR fs) hi aZ
theorem De {w:World} {bQ:Nat} {fs:List Fr} {T:TypeId} (h:cj w bQ (cz Fr.c fs).toArray T) {i j:Nat} (hi:i<fs.length) (aZ:j<6) {v:Value} (fh:Fr) (aA:fh.c=(fs[i]).c.set j v):
   (∃u:Value,w.cell? ⟨bQ,i*6+j,none⟩=some u)∧w.frozen? ⟨bQ,i*6+j,none⟩=false∧cj (w.setCell ⟨bQ,i*6+j,none⟩ v) bQ (cz Fr.c (fs.set i fh)).toArray T∧ao (fun q=>q=bQ) w (w.setCell ⟨bQ,i*6+j,none⟩ v):=by
 refine ⟨⟨((fs[i]).c)[j]'(by rw[Fr.Te];exact aZ),by rw[ui h hi aZ,gT (by rw[Fr.Te];exact aZ)]⟩,cj.frozen h _ rfl,?_,iV _ _ _ _⟩
 have:=j_ (vs:=cz Fr.c fs) h (i:=i*6+j) v
 rw[akY (OR fs) hi aZ aA] at this
 exact this
theorem Tf {w:World} {bQ:Nat} {fs:List Fr} {T:TypeId} (h:cj w bQ (cz Fr.c fs).toArray T) {i:Nat} (hi:i<fs.length) (fh:Fr):
   cT w ⟨bQ,i*6,none⟩ fh.c∧cj (setCells w ⟨bQ,i*6,none⟩ 0 fh.c) bQ (cz Fr.c (fs.set i fh)).toArray T∧ao (fun q=>q=bQ) w (setCells w ⟨bQ,i*6,none⟩ 0 fh.c):=by
 have aB:=nW (c:=Fr.c) fs (OR fs)
 have hle:i*6+fh.c.length≤(cz Fr.c fs).toArray.size:=by
   rw[NB,aB,Fr.Te];omega
 refine ⟨cj.du h _ _ hle ?_,?_,ao.yk (.refl _ _) _ 0⟩
 · intro v al
   unfold Fr.c at al
   simp only[gg,ml,mm] at al
   rcases al with rfl|rfl|rfl|rfl|rfl|rfl<;>trivial
 · have b5:=cj.Ak (o:=i*6) h fh.c
   have e:nK (cz Fr.c fs).toArray (i*6) fh.c=(cz Fr.c (fs.set i fh)).toArray:=by
     have U:=yo fh.c (cz Fr.c fs).toArray (i*6) hle
     have ad:=ZE (OR fs) hi fh
     have aq:fh.c.length=6:=rfl
     rw[aq] at U
     have aK:(nK (cz Fr.c fs).toArray (i*6) fh.c).toList=cz Fr.c (fs.set i fh):=U.trans ad
     rw[←aK]
   rw[e] at b5
   exact b5
theorem Z0 (h:kP w C) (no:Int):aP Tryz.prog F.AR #[.pointer (some ⟨C.c,0,none⟩), .int .i64 no] w (fun v w'=>v= .bool (decide (0≤no∧no<C.D.n))∧w=w'):=by
 refine W.aln (some ⟨C.c,0,none⟩) no w _ ?_
 (delta W.AR aF bj;dsimp only)
 refine ff (fun b w'=>b=decide (0≤no∧no<C.D.n)∧w=w') (fun q J=>⟨fun aa=>⟨_,rfl,_,h.cells.1,(ZJ h.dev).use ?_⟩,fun aa=>J _ _ ⟨?_,rfl⟩⟩) ?_
 · rintro _ _ ⟨rfl,rfl⟩
   have aa:0≤no:=by simpa using aa
   refine ⟨_,rfl,J _ _ ⟨?_,rfl⟩⟩
   rw[oT,fE,fE]
   exact ⟨fun h=>⟨aa,h⟩,fun h=>h.2⟩
 · have aa:¬0≤no:=by simpa using aa
   rw[sN (fun h=>aa h.1)]
 · rintro _ _ ⟨rfl,rfl⟩
   exact ⟨rfl,rfl⟩
def AtR (C:dC) (no:Int) (v:Value):Prop:=
 (∃ (i:Nat) (hi:i<C.ax.length),v= .pointer (some ⟨C.bQ,i*6,none⟩)∧(C.ax[i]).full=true∧(C.ax[i]).no=no)∨
 (v= .pointer none∧∀f∈C.ax,f.full=true→f.no≠no)
theorem OS (h:kP w C) (no:Int):aP Tryz.prog F.xh #[.pointer (some ⟨C.c,0,none⟩), .int .i64 no] w (fun v w'=>AtR C no v∧w=w'):=by
 obtain ⟨cK,bm,bj⟩:=h.cells
 have ae:=h.eM
 refine W.alo (some ⟨C.c,0,none⟩) no w _ ?_
 (delta W.xh aF ar bc bR bD aE;dsimp only)
 refine ⟨fun h=>(by cases h),fun _=>⟨_,rfl,⟨some ⟨C.bQ,0,none⟩,C.ax.length,C.ax.length⟩,bm,fun i w'=>∃j:Nat,i=j∧j≤C.ax.length∧w=w'∧∀ (k:Nat) (ae:k<C.ax.length),k<j→(C.ax[k]).full=true→(C.ax[k]).no≠no,fun i _=>((C.ax.length:Int)-i).toNat,⟨0,rfl,fi _,rfl,fun k _ h=>by omega⟩,?_⟩⟩
 rintro _ _ ⟨j,rfl,aZ,rfl,gj⟩
 refine ⟨fun a6=> ?_,fun cm=> ?_⟩
 · have a6:(j:Int)<((C.ax.length:Nat):Int):=dL a6
   have a6:j<C.ax.length:=by omega
   refine ⟨_,rfl,⟨some ⟨C.bQ,0,none⟩,C.ax.length,C.ax.length⟩,bm,_,rfl,⟨by omega,by show (j:Int)<((C.ax.length:Nat):Int);omega⟩,_,rfl,?_⟩
   rw[KU]
   have f0:=ui h.f a6 (j:=0) (by decide)
   have f3:=ui h.f a6 (j:=3) (by decide)
   refine ⟨(C.ax[j]).full,f0,ff (fun b w'=>w=w'∧(b=true↔((C.ax[j]).full=true∧(C.ax[j]).no=no))) (fun q J=>⟨fun aa=>⟨_,rfl,(C.ax[j]).no,by rw[aX];exact f3,J _ _ ⟨rfl,?_⟩⟩,fun aa=>J _ _ ⟨rfl,?_⟩⟩) ?_⟩
   · rw[yb]
     exact ⟨fun h=>⟨aa,h⟩,fun h=>h.2⟩
   · rw[aa]
     exact ⟨fun h=>(by cases h),fun h=>(by cases h.1)⟩
   rintro b w' ⟨rfl,aa⟩
   refine ⟨fun U=>⟨.inl ⟨j,a6,rfl,(aa.1 U).1,(aa.1 U).2⟩,rfl⟩,fun U=> ?_⟩
   rw[cL (n:=(j:Int)+1) (by omega) (by omega)]
   refine ⟨⟨j+1,by omega,by omega,rfl,fun k ae ad aq=> ?_⟩,?_⟩
   · rcases hJ k j with aK|aK
     · exact gj k ae aK aq
     · have:k=j:=by omega
       subst this
       intro aW
       rw[aa.2 ⟨aq,aW⟩] at U;cases U
   · show ((C.ax.length:Int)-((j:Int)+1)).toNat<((C.ax.length:Int)-(j:Int)).toNat
     omega
 · have cm:j=C.ax.length:=by
     have:¬((j:Int)<((C.ax.length:Nat):Int)):=fb cm
     omega
   subst cm
   refine ⟨.inr ⟨rfl,fun f aA l8=> ?_⟩,rfl⟩
   obtain ⟨k,ae,rfl⟩:=lU aA
   exact gj k ae ae l8
theorem alp (h:kP w C):aP Tryz.prog F.Df #[.pointer (some ⟨C.c,0,none⟩)] w (fun v w'=>((∃ (i:Nat) (hi:i<C.ax.length),v= .pointer (some ⟨C.bQ,i*6,none⟩)∧(C.ax[i]).full=false)∨(v= .pointer none∧∀f∈C.ax,f.full=true))∧w=w'):=by
 obtain ⟨cK,bm,bj⟩:=h.cells
 have ae:=h.eM
 refine W.alq (some ⟨C.c,0,none⟩) w _ ?_
 (delta W.Df ar aF bc bR aE;dsimp only)
 refine ⟨_,rfl,⟨some ⟨C.bQ,0,none⟩,C.ax.length,C.ax.length⟩,bm,fun i w'=>∃j:Nat,i=j∧j≤C.ax.length∧w=w'∧∀ (k:Nat) (ae:k<C.ax.length),k<j→(C.ax[k]).full=true,fun i _=>((C.ax.length:Int)-i).toNat,⟨0,rfl,fi _,rfl,fun k _ h=>by omega⟩,?_⟩
 rintro _ _ ⟨j,rfl,aZ,rfl,gj⟩
 refine ⟨fun a6=> ?_,fun cm=> ?_⟩
 · have a6:(j:Int)<((C.ax.length:Nat):Int):=dL a6
   have a6:j<C.ax.length:=by omega
   have f0:=ui h.f a6 (j:=0) (by decide)
   refine ⟨_,rfl,⟨some ⟨C.bQ,0,none⟩,C.ax.length,C.ax.length⟩,bm,_,rfl,⟨by omega,by show (j:Int)<((C.ax.length:Nat):Int);omega⟩,(C.ax[j]).full,by rw[KU];exact f0,fun aa=>⟨_,rfl,⟨some ⟨C.bQ,0,none⟩,C.ax.length,C.ax.length⟩,bm,_,rfl,⟨by omega,by show (j:Int)<((C.ax.length:Nat):Int);omega⟩, .inl ⟨j,a6,by rw[KU],by simpa using aa⟩,rfl⟩,fun aa=> ?_⟩
   rw[cL (n:=(j:Int)+1) (by omega) (by omega)]
   refine ⟨⟨j+1,by omega,by omega,rfl,fun k ae ad=> ?_⟩,?_⟩
   · rcases hJ k j with aK|aK
     · exact gj k ae aK
     · have:k=j:=by omega
       subst this
       simpa using aa
   · show ((C.ax.length:Int)-((j:Int)+1)).toNat<((C.ax.length:Int)-(j:Int)).toNat
     omega
 · have cm:j=C.ax.length:=by
     have:¬((j:Int)<((C.ax.length:Nat):Int)):=fb cm
     omega
   subst cm
   refine ⟨.inr ⟨rfl,fun f aA=> ?_⟩,rfl⟩
   obtain ⟨k,ae,rfl⟩:=lU aA
   exact gj k ae ae
def p4 (fs gs:List Fr):Prop:=gs.length=fs.length∧∀ (i:Nat) (U:i<fs.length) (ad:i<gs.length),gs[i]={fs[i] with used:=(gs[i]).used}
theorem p4.refl (fs:List Fr):p4 fs fs:=⟨rfl,fun i U ad=>rfl⟩
theorem p4.set {fs gs:List Fr} (h:p4 fs gs) {i:Nat} (hi:i<gs.length) (u:Bool):p4 fs (gs.set i {gs[i] with used:=u}):=by
 refine ⟨by rw[hK];exact h.1,fun j U ad=> ?_⟩
 rw[Nz]
 split
 · rename_i e
   subst e
   have:=h.2 i U hi
   rw[this]
 · exact h.2 j U _
theorem alr (h:kP w C) (aV:∀f∈C.ax,f.pins=0):aP Tryz.prog F.Dg #[.pointer (some ⟨C.c,0,none⟩)] w (fun v w'=>∃ (i:Nat) (gs:List Fr) (hd:Nat),i<C.ax.length∧v= .pointer (some ⟨C.bQ,i*6,none⟩)∧p4 C.ax gs∧kP w' {C with ax:=gs,hand:=hd}∧ao (fun q=>q=C.c∨q=C.bQ) w w'):=by
 obtain ⟨cK,bm,bj⟩:=h.cells
 have jd:=h.dJ
 have dW:=h.eM
 have als:=h.hd
 refine W.alt (some ⟨C.c,0,none⟩) w _ ?_
 (delta W.Dg bD ar aF aE bc bR st;dsimp only)
 refine ⟨_,rfl,_,bj,_,rfl,⟨some ⟨C.bQ,0,none⟩,C.ax.length,C.ax.length⟩,bm,fun alu i w'=>∃ (s:Nat) (gs:List Fr),i=s∧s≤C.ax.length∧alu=(((C.hand+s)%C.ax.length:Nat):Int)∧p4 C.ax gs∧kP w' {C with ax:=gs}∧ao (fun q=>q=C.c∨q=C.bQ) w w'∧∀ (t:Nat) (af:(C.hand+t)%C.ax.length<gs.length),t<s→(gs[(C.hand+t)%C.ax.length]).used=false,
   fun _ i _=>(2*(C.ax.length:Int)-i).toNat,⟨0,C.ax,rfl,fi _,by rw[z7,uW als],p4.refl _,h, .refl _ _,fun t _ h=>by omega⟩,?_⟩
 rintro _ _ ag ⟨s,gs,rfl,aj,rfl,nX,aY,ak,gj⟩
 have OT:gs.length=C.ax.length:=nX.1
 obtain ⟨i,hi⟩:∃i,i=(C.hand+s)%C.ax.length:=⟨_,rfl⟩
 have nv:i<gs.length:=by rw[hi,OT];exact r8 _ (by omega)
 rw[←hi]
 obtain ⟨d0,d1,d2⟩:=aY.cells
 have d1:ag.cell? (Addr.add ⟨C.c,0,none⟩ 1)=some (.slice (some ⟨C.bQ,0,none⟩) gs.length gs.length):=d1
 have aA:cj ag C.bQ (cz Fr.c gs).toArray ah.qo:=aY.f
 rw[cL (n:=2*((C.ax.length:Nat):Int)) (by omega) (by omega)]
 have hw:IntKind.wrap .i64 (((i:Nat):Int)+1)=((i+1:Nat):Int):=by rw[cL (by omega) (by omega)];rfl
 have Z1:Int.tmod ((i+1:Nat):Int) ((gs.length:Nat):Int)=(((i+1)%gs.length:Nat):Int):=by
   rw[Int.tmod_eq_emod_of_nonneg (by omega)];rfl
 have KV:(i+1)%gs.length=(C.hand+(s+1))%C.ax.length:=by
   rw[hi,OT,Nat.mod_add_mod];rfl
 refine ⟨fun a6=> ?_,fun cm=> ?_⟩
 · refine ff (fun a w'=>a=(((C.hand+(s+1))%C.ax.length:Nat):Int)∧∃HP:List Fr,s+1≤C.ax.length∧p4 C.ax HP∧kP w' {C with ax:=HP}∧ao (fun q=>q=C.c∨q=C.bQ) w w'∧∀ (t:Nat) (af:(C.hand+t)%C.ax.length<HP.length),t<s+1→(HP[(C.hand+t)%C.ax.length]).used=false) (fun q J=>⟨_,rfl,⟨some ⟨C.bQ,0,none⟩,gs.length,gs.length⟩,d1,_,rfl,⟨by omega,by show (i:Int)<((gs.length:Nat):Int);omega⟩,_,rfl,⟨some ⟨C.bQ,0,none⟩,gs.length,gs.length⟩,d1,by show ((gs.length:Nat):Int)≠0;omega,_,rfl,?_⟩) ?_
   · rw[KU,hw]
     have f4:=ui aA nv (j:=4) (by decide)
     have f2:=ui aA nv (j:=2) (by decide)
     have Dh:(gs[i]).pins=0:=by
       have U:=nX.2 i (by omega) nv
       have ad:(gs[i]).pins=(C.ax[i]'(by omega)).pins:=by rw[U]
       rw[ad]
       exact aV _ (e3 _)
     refine ⟨(gs[i]).pins,by rw[aX];exact f4,fun aa=> ?_,fun _=>⟨_,rfl,(gs[i]).used,by rw[aX];exact f2,fun hu=>⟨_,rfl,?_⟩,fun hu=>⟨_,rfl,?_⟩⟩⟩
     · rw[Dh] at aa;simp at aa
     · have OU:s<C.ax.length:=by
         rcases hJ s C.ax.length with U|U
         · exact U
         · have es:s=C.ax.length:=by omega
           have gX:(C.hand+0)%C.ax.length=i:=by rw[hi,es,Nat.add_mod_right];rfl
           have ad:=gj 0 (by rw[gX];exact nv) (by omega)
           have aq:(gs[i]).used=false:=by
             have e:gs[(C.hand+0)%C.ax.length]'(by rw[gX];exact nv)=gs[i]:=by congr 1
             rw[←e];exact ad
           rw[aq] at hu;cases hu
       obtain ⟨aC,aG,aJ,aN⟩:=De aA nv (j:=2) (by decide) (v:= .bool false) {gs[i] with used:=false} rfl
       rw[aX]
       refine ⟨aC,aG,bN (J _ _ ⟨by rw[Z1,KV],gs.set i {gs[i] with used:=false},OU,nX.set nv false,?_,ak.trans (aN.mono fun q _ e=> .inr e),fun t af aU=> ?_⟩)⟩
       · have al:=aY.v.an aN h.a7.1
         refine ⟨?_,aJ,aY.dev.an aN (fun q J e=>h.a7.2.2 (e▸J)),?_,?_,?_,h.a7⟩
         · show Var _ _ [_, .slice (some ⟨C.bQ,0,none⟩) (gs.set i _).length (gs.set i _).length,_] _
           rw[hK];exact al
         · show 8≤(gs.set i _).length;rw[hK];omega
         · show (gs.set i _).length≤64;rw[hK];omega
         · show C.hand<(gs.set i _).length;rw[hK];omega
       · rw[Nz]
         split
         · rfl
         · rename_i dN
           rcases hJ t s with U|U
           · exact gj t _ U
           · have:t=s:=by omega
             subst this
             exact absurd hi dN
     · obtain ⟨s1,s2⟩:=kc aY.v (i:=2) (by simp)
       rw[aX,Z1]
       refine ⟨s1,s2,bN ⟨i,gs,(i+1)%gs.length,by omega,rfl,nX,?_,ak.trans ((iV _ _ _ _).mono fun q _ e=> .inl e)⟩⟩
       have oD:=iV ag C.c 2 (.int .i64 (((i+1)%gs.length:Nat):Int))
       refine ⟨j_ aY.v (i:=2) (.int .i64 (((i+1)%gs.length:Nat):Int)),cj.an aA oD (fun e=>h.a7.1 e.symm),aY.dev.an oD (fun q J e=>h.a7.2.1 (e▸J)),aY.dJ,aY.eM,?_,h.a7⟩
       exact r8 _ (by omega)
   · rintro a w' ⟨rfl,HP,U,ad,aq,aK,aW⟩
     rw[cL (n:=(s:Int)+1) (by omega) (by omega)]
     refine ⟨⟨s+1,HP,by omega,U,rfl,ad,aq,aK,aW⟩,?_⟩
     show (2*(C.ax.length:Int)-((s:Int)+1)).toNat<(2*(C.ax.length:Int)-(s:Int)).toNat
     omega
 · have:=fb cm
   omega
end
end
section
structure ky (C bd:dC) (w w':World) (k:Nat):Prop where
 c:bd.c=C.c
 d:bd.D.d=C.D.d
 len:bd.ax.length=C.ax.length
 e5:bd.D.key=C.D.key
 cl:bd.D.cl≤C.D.cl+k
 calm:∀m,C.D.calm (m+k)→bd.D.calm m
 an:ao (g7 C) w w'
 fP:∀q,g7 bd q→g7 C q∨w.heap.size≤q
theorem ky.refl (C:dC) (w:World):ky C C w w 0:=⟨rfl,rfl,rfl,rfl,cP _,fun _ h=>h, .refl _ _,fun _ h=> .inl h⟩
theorem ky.ext {w w':World} (C:dC) (h:Ext w w'):ky C C w w' 0:=⟨rfl,rfl,rfl,rfl,cP _,fun _ h=>h,ao.eN h,fun _ h=> .inl h⟩
theorem ky.trans {C bd Z2:dC} {w w' iH:World} {k l:Nat} (U:ky C bd w w' k) (ad:ky bd Z2 w' iH l):ky C Z2 w iH (k+l):=by
 have aj:=U.an.size
 refine ⟨ad.c.trans U.c,ad.d.trans U.d,ad.len.trans U.len,ad.e5.trans U.e5,by have:=U.cl;have:=ad.cl;omega,fun m hm=>ad.calm m (U.calm (m+l) (by rw[show m+l+k=m+(k+l) by omega];exact hm)),jw U.an ad.an fun q J h=>(U.fP q h).resolve_right (by omega),fun q J=> ?_⟩
 rcases ad.fP q J with h|h
 · exact U.fP q h
 · exact .inr (by omega)
theorem ky.mono {C bd:dC} {w w':World} {k l:Nat} (h:ky C bd w w' k) (aB:k≤l):ky C bd w w' l:=
 ⟨h.c,h.d,h.len,h.e5,by have:=h.cl;omega,fun m hm=>h.calm m (mI hm (by omega)),h.an,h.fP⟩
theorem ky.n {C bd:dC} {w w':World} {k:Nat} (h:ky C bd w w' k):bd.D.n=C.D.n:=congrArg (fun k:List kO×Int=>k.1.length) h.e5
section
variable {w w':World} {C:dC} {X:Nat→Prop}
theorem AS {fs:List Fr} {D:cM} {c bQ hd:Nat} (un:∀ (i j:Nat) (hi:i<fs.length) (aZ:j<fs.length),(fs[i]).full=true→(fs[j]).full=true→(fs[i]).no=(fs[j]).no→i=j) {i:Nat} (hi:i<fs.length) {no:Nat} (aA:(fs[i]).full=true) (aD:(fs[i]).no=no):(dC.mk c bQ fs hd D).view no=(fs[i]).l:=by
 unfold dC.view
 cases qp:fs.find? fun f=>f.full&&f.no==(no:Int) with
 |none=>
   have:=rv.1 qp _ (e3 hi)
   simp[aA,aD] at this
 |some f=>
   have hm:=x9 qp
   have aV:=z6 qp
   simp only[iL,yb] at aV
   obtain ⟨j,aZ,rfl⟩:=lU hm
   have:=un i j hi aZ aA aV.1 (by rw[aD,aV.2])
   subst this
   simp only
theorem Di {fs:List Fr} {D:cM} {c bQ hd:Nat} {no:Nat} (h:∀f∈fs,f.full=true→f.no≠no):(dC.mk c bQ fs hd D).view no=D.now no:=by
 unfold dC.view
 cases qp:fs.find? fun f=>f.full&&f.no==(no:Int) with
 |none=>rfl
 |some f=>
   have hm:=x9 qp
   have aV:=z6 qp
   simp only[iL,yb] at aV
   exact absurd aV.2 (h f hm aV.1)
theorem Tg (D:cM) (k i:Nat):(D.fJ k).now i=D.now i:=rfl
theorem bH.OV {B xi:Nat→Prop} {w w':World} {t:ab} {l:Key} {V:Nat→Prop} (h:bH B w t l) (ak:ao V w w') (al:∀q,q<w.heap.size→B q→¬V q) (aa:∀q,q<w.heap.size→B q→xi q):bH xi w' t l:=
 ⟨h.1.an ak fun q J=>al q (h.2.2 q J).2 (h.2.2 q J).1,h.2.1,fun q J=>⟨aa q (h.2.2 q J).2 (h.2.2 q J).1,ly (h.2.2 q J).2 ak.size⟩⟩
theorem KW {gs:List Fr} {hd:Nat} {aH:cM} {V:Nat→Prop} (h:p3 X w C) (aj:p4 C.ax gs) (ak:ao V w w') (t_:∀q,q<w.heap.size→V q→g7 C q) (aD:aH.n=C.D.n) (mv:∀i,aH.now i=C.D.now i) (nw:∀q,gG aH q→gG C.D q∨w.heap.size≤q):p3 X w' {C with ax:=gs,hand:=hd,D:=aH}:=by
 have dE:=ak.size
 have vx:∀q,q<w.heap.size→g7 {C with ax:=gs,hand:=hd,D:=aH} q→g7 C q:=fun q J aA=>by
   rcases aA with U|U|U
   · exact .inl U
   · exact .inr (.inl U)
   · exact .inr (.inr ((nw q U).resolve_right (by omega)))
 have xj:∀ (i:Nat) (hi:i<gs.length),∃eV:i<C.ax.length,gs[i]={C.ax[i] with used:=(gs[i]).used}:=fun i hi=>⟨by rw[←aj.1];exact hi,aj.2 i (by rw[←aj.1];exact hi) hi⟩
 refine ⟨fun f aA=> ?_,fun f aA l8=> ?_,fun i j hi aZ U ad aq=> ?_,fun q J=>⟨ly (h.m0 q J).1 dE,fun aA=>(h.m0 q J).2 (vx q (h.m0 q J).1 aA)⟩⟩
 · obtain ⟨i,hi,rfl⟩:=lU aA
   obtain ⟨eV,e⟩:=xj i hi
   have:(gs[i]).pins=(C.ax[i]).pins:=by rw[e]
   rw[this]
   exact h.pins _ (e3 eV)
 · obtain ⟨i,hi,rfl⟩:=lU aA
   obtain ⟨eV,e⟩:=xj i hi
   have ba:(gs[i]).full=(C.ax[i]).full:=by rw[e]
   have bp:(gs[i]).no=(C.ax[i]).no:=by rw[e]
   have dM:(gs[i]).b=(C.ax[i]).b:=by rw[e]
   have j8:(gs[i]).l=(C.ax[i]).l:=by rw[e]
   have lX:(gs[i]).oE=(C.ax[i]).oE:=by rw[e]
   obtain ⟨no,aC,aG,aJ,aN,cX⟩:=h.ok _ (e3 eV) (by rw[←ba];exact l8)
   refine ⟨no,by rw[bp];exact aC,by rw[aD];exact aG,?_,by rw[j8];exact aN,fun hd=>by rw[j8,mv];exact cX (by rw[←lX];exact hd)⟩
   rw[dM,j8]
   exact bH.OV aJ ak (fun q J aa al=>aa.1 (t_ q J al)) fun q J aa=>⟨fun aA=>aa.1 (vx q J aA),aa.2⟩
 · obtain ⟨eV,e⟩:=xj i hi
   obtain ⟨Dj,eD⟩:=xj j aZ
   have ba:(gs[i]).full=(C.ax[i]).full:=by rw[e]
   have bp:(gs[i]).no=(C.ax[i]).no:=by rw[e]
   have dM:(gs[j]).full=(C.ax[j]).full:=by rw[eD]
   have j8:(gs[j]).no=(C.ax[j]).no:=by rw[eD]
   exact h.un i j eV Dj (by rw[←ba];exact U) (by rw[←dM];exact ad) (by rw[←bp,←j8];exact aq)
theorem KX {gs:List Fr} {hd:Nat} {aH:cM} (h:p3 X w C) (aj:p4 C.ax gs) (mv:∀i,aH.now i=C.D.now i) (no:Nat):(dC.mk C.c C.bQ gs hd aH).view no=C.view no:=by
 have xj:∀ (i:Nat) (hi:i<gs.length),∃eV:i<C.ax.length,gs[i]={C.ax[i] with used:=(gs[i]).used}:=fun i hi=>⟨by rw[←aj.1];exact hi,aj.2 i (by rw[←aj.1];exact hi) hi⟩
 by_cases hex:∃ (i:Nat) (hi:i<C.ax.length),(C.ax[i]).full=true∧(C.ax[i]).no=no
 · obtain ⟨i,hi,U,ad⟩:=hex
   have gW:i<gs.length:=by rw[aj.1];exact hi
   obtain ⟨eV,e⟩:=xj i gW
   have ba:(gs[i]).full=(C.ax[i]).full:=by rw[e]
   have bp:(gs[i]).no=(C.ax[i]).no:=by rw[e]
   have dM:(gs[i]).l=(C.ax[i]).l:=by rw[e]
   have vy:∀ (i j:Nat) (hi:i<gs.length) (aZ:j<gs.length),(gs[i]).full=true→(gs[j]).full=true→(gs[i]).no=(gs[j]).no→i=j:=by
     intro a b aR aa dJ eM kN
     obtain ⟨oF,m3⟩:=xj a aR
     obtain ⟨jo,nY⟩:=xj b aa
     have f1:(gs[a]).full=(C.ax[a]).full:=by rw[m3]
     have f2:(gs[a]).no=(C.ax[a]).no:=by rw[m3]
     have f3:(gs[b]).full=(C.ax[b]).full:=by rw[nY]
     have f4:(gs[b]).no=(C.ax[b]).no:=by rw[nY]
     exact h.un a b oF jo (by rw[←f1];exact dJ) (by rw[←f3];exact eM) (by rw[←f2,←f4];exact kN)
   rw[AS vy gW (by rw[ba];exact U) (by rw[bp];exact ad),dM]
   exact (AS (fs:=C.ax) (D:=C.D) (c:=C.c) (bQ:=C.bQ) (hd:=C.hand) h.un hi U ad).symm
 · have c8:∀f∈C.ax,f.full=true→f.no≠no:=fun f aA U ad=>by
     obtain ⟨i,hi,rfl⟩:=lU aA
     exact hex ⟨i,hi,U,ad⟩
   have e:C.view no=C.D.now no:=Di (fs:=C.ax) (D:=C.D) (c:=C.c) (bQ:=C.bQ) (hd:=C.hand) c8
   rw[e,←mv]
   refine Di fun f aA U ad=> ?_
   obtain ⟨i,hi,rfl⟩:=lU aA
   obtain ⟨eV,e⟩:=xj i hi
   have ba:(gs[i]).full=(C.ax[i]).full:=by rw[e]
   have bp:(gs[i]).no=(C.ax[i]).no:=by rw[e]
   exact c8 _ (e3 eV) (by rw[←ba];exact U) (by rw[←bp];exact ad)
theorem Th {i:Nat} (hi:i<C.ax.length) {aH:cM} {V:Nat→Prop} (h:p3 X w C) (ak:ao V w w') (t_:∀q,q<w.heap.size→V q→g7 C q) (aD:aH.n=C.D.n)
   (mv:∀j:Nat,((C.ax[i]).full=true→(C.ax[i]).no≠j)→aH.now j=C.D.now j) (nw:∀q,gG aH q→gG C.D q∨w.heap.size≤q) (f0:Fr) (vz:f0.full=false) (Ti:f0.pins=0):p3 X w' {C with ax:=C.ax.set i f0,D:=aH}:=by
 have dE:=ak.size
 have vx:∀q,q<w.heap.size→g7 {C with ax:=C.ax.set i f0,D:=aH} q→g7 C q:=fun q J aA=>by
   rcases aA with U|U|U
   · exact .inl U
   · exact .inr (.inl U)
   · exact .inr (.inr ((nw q U).resolve_right (by omega)))
 refine ⟨fun f aA=> ?_,fun f aA l8=> ?_,fun a b aR aa U ad aq=> ?_,fun q J=>⟨ly (h.m0 q J).1 dE,fun aA=>(h.m0 q J).2 (vx q (h.m0 q J).1 aA)⟩⟩
 · rcases Cp aA with aA|rfl
   · exact h.pins f aA
   · exact Ti
 · obtain ⟨k,ae,rfl⟩:=lU aA
   have iz:k<C.ax.length:=by simpa using ae
   by_cases e:i=k
   · subst e
     simp only[sP] at l8
     rw[vz] at l8;cases l8
   · simp only[lV e] at l8⊢
     obtain ⟨no,aC,aG,aJ,aN,cX⟩:=h.ok _ (e3 iz) l8
     refine ⟨no,aC,by rw[aD];exact aG,bH.OV aJ ak (fun q J aa al=>aa.1 (t_ q J al)) fun q J aa=>⟨fun aA=>aa.1 (vx q J aA),aa.2⟩,aN,fun hd=> ?_⟩
     show _=aH.now no
     rw[mv no fun oW he=>e (h.un i k hi iz oW l8 (by rw[he,aC]))]
     exact cX hd
 · have oF:a<C.ax.length:=by simpa using aR
   have jo:b<C.ax.length:=by simpa using aa
   by_cases m3:i=a
   · subst m3
     simp only[sP] at U
     rw[vz] at U;cases U
   by_cases nY:i=b
   · subst nY
     simp only[sP] at ad
     rw[vz] at ad;cases ad
   simp only[lV m3] at U aq
   simp only[lV nY] at ad aq
   exact h.un a b oF jo U ad aq
theorem Z3 {i:Nat} (hi:i<C.ax.length) {aH:cM} {hd:Nat} (h:p3 X w C) (aB:(C.ax[i]).full=true→∀j:Nat,(C.ax[i]).no=j→aH.now j=(C.ax[i]).l) (mv:∀j:Nat,((C.ax[i]).full=true→(C.ax[i]).no≠j)→aH.now j=C.D.now j) (f0:Fr) (vz:f0.full=false) (no:Nat):
   (dC.mk C.c C.bQ (C.ax.set i f0) hd aH).view no=C.view no:=by
 by_cases hex:∃ (k:Nat) (ae:k<C.ax.length),(C.ax[k]).full=true∧(C.ax[k]).no=no
 · obtain ⟨k,ae,U,ad⟩:=hex
   have gX:=AS (fs:=C.ax) (D:=C.D) (c:=C.c) (bQ:=C.bQ) (hd:=C.hand) h.un ae U ad
   have gX:C.view no=(C.ax[k]).l:=gX
   rw[gX]
   by_cases e:i=k
   · subst e
     rw[←aB U no ad]
     refine Di fun f aA aC aG=> ?_
     obtain ⟨a,aR,rfl⟩:=lU aA
     have oF:a<C.ax.length:=by simpa using aR
     by_cases m3:i=a
     · subst m3
       simp only[sP] at aC
       rw[vz] at aC;cases aC
     · simp only[lV m3] at aC aG
       exact m3 (h.un i a hi oF U aC (by rw[ad,aG]))
   · have dW:k<(C.ax.set i f0).length:=by simpa using ae
     have sR:(C.ax.set i f0)[k]=C.ax[k]:=lV e _
     have vy:∀ (a b:Nat) (aR:a<(C.ax.set i f0).length) (aa:b<(C.ax.set i f0).length),((C.ax.set i f0)[a]).full=true→((C.ax.set i f0)[b]).full=true→((C.ax.set i f0)[a]).no=((C.ax.set i f0)[b]).no→a=b:=by
       intro a b aR aa U ad aq
       have oF:a<C.ax.length:=by simpa using aR
       have jo:b<C.ax.length:=by simpa using aa
       by_cases m3:i=a
       · subst m3
         simp only[sP] at U
         rw[vz] at U;cases U
       by_cases nY:i=b
       · subst nY
         simp only[sP] at ad
         rw[vz] at ad;cases ad
       simp only[lV m3] at U aq
       simp only[lV nY] at ad aq
       exact h.un a b oF jo U ad aq
     rw[AS vy dW (by rw[sR];exact U) (by rw[sR];exact ad),sR]
 · have c8:∀f∈C.ax,f.full=true→f.no≠no:=fun f aA U ad=>by
     obtain ⟨k,ae,rfl⟩:=lU aA
     exact hex ⟨k,ae,U,ad⟩
   have e:C.view no=C.D.now no:=Di (fs:=C.ax) (D:=C.D) (c:=C.c) (bQ:=C.bQ) (hd:=C.hand) c8
   rw[e,←mv no fun U ad=>c8 _ (e3 hi) U ad]
   refine Di fun f aA U ad=> ?_
   rcases Cp aA with aA|rfl
   · exact c8 f aA U ad
   · rw[vz] at U;cases U
def Z4 (X:Nat→Prop) (C:dC) (w:World) (v:Value) (w':World):Prop:=
 ∃bd:dC,kg X w' bd∧ky C bd w w' 1∧bd.bQ=C.bQ∧(∀j,bd.view j=C.view j)∧(∀f∈bd.ax,f.full=true→∃g∈C.ax,g.full=true∧g.no=f.no)∧
   ((∃ (i:Nat) (hi:i<bd.ax.length),v= .tuple #[.pointer (some ⟨C.bQ,i*6,none⟩), .int .i64 0]∧(bd.ax[i]).full=false∧((bd.ax[i]).pins=0))∨
    (v= .tuple #[.pointer none, .int .i64 3]∧¬C.D.calm 1))
theorem Z5 (h:kg X w C) (gA:C.D.cl≤1000000000):aP Tryz.prog F.AT #[.pointer (some ⟨C.c,0,none⟩)] w (Z4 X C w):=by
 have mJ:=h.raw
 refine W.alv (some ⟨C.c,0,none⟩) w _ ?_
 (delta W.AT xk aF bR bD ar bj;dsimp only)
 refine (alp mJ).use ?_
 rintro _ _ ⟨he,rfl⟩
 rcases he with ⟨i,hi,rfl,aA⟩|⟨rfl,gj⟩
 · exact ⟨_,rfl,fun _=>⟨C,h,(ky.refl C w).mono (fi _),rfl,fun _=>rfl,fun f aA oC=>⟨f,aA,oC,rfl⟩, .inl ⟨i,hi,rfl,aA,h.inv.pins _ (e3 hi)⟩⟩,fun h=>(by cases h)⟩
 refine ⟨_,rfl,fun h=>(by cases h),fun _=>(alr mJ h.inv.pins).use ?_⟩
 rintro _ ag ⟨i,gs,hd,hi,rfl,nX,lg,gF⟩
 have gW:i<gs.length:=by rw[nX.1];exact hi
 have KY:ao (g7 C) w ag:=gF.mono fun q _ J=>by
   rcases J with J|J
   · exact .inl J
   · exact .inr (.inl J)
 have Fz:=KW (hd:=hd) (aH:=C.D) h.inv nX KY (fun q _ h=>h) rfl (fun _=>rfl) fun q J=> .inl J
 have OW:=KX (hd:=hd) (aH:=C.D) h.inv nX fun _=>rfl
 obtain ⟨aM,o5⟩:∃aM:dC,aM={C with ax:=gs,hand:=hd}:=⟨_,rfl⟩
 have Fz:p3 X ag aM:=by rw[o5];exact Fz
 have lg:kP ag aM:=by rw[o5];exact lg
 have OW:∀no,aM.view no=C.view no:=by rw[o5];exact OW
 have Z6:∀q,g7 aM q↔g7 C q:=by rw[o5];exact fun q=>Iff.rfl
 have kQ:aM.D=C.D:=by rw[o5]
 have pv:aM.c=C.c∧aM.bQ=C.bQ:=by rw[o5];exact ⟨rfl,rfl⟩
 have su:aM.ax=gs:=by rw[o5]
 have r_:i<aM.ax.length:=by rw[su];exact gW
 have l8:(aM.ax[i]).full=true:=by
   have e:=nX.2 i hi gW
   have:(gs[i]).full=(C.ax[i]).full:=by rw[e]
   simp only[su]
   rw[this]
   exact gj _ (e3 hi)
 have iU:∀f∈aM.ax,f.full=true→∃g∈C.ax,g.full=true∧g.no=f.no:=by
   rw[su]
   intro f aA oC
   obtain ⟨k,ae,rfl⟩:=lU aA
   have iz:k<C.ax.length:=by rw[←nX.1];exact ae
   have e:=nX.2 k iz ae
   have ba:(gs[k]).full=(C.ax[k]).full:=by rw[e]
   have bp:(gs[k]).no=(C.ax[k]).no:=by rw[e]
   exact ⟨C.ax[k],e3 iz,by rw[←ba];exact oC,bp.symm⟩
 obtain ⟨no,aC,aG,aJ,aN,cX⟩:=Fz.ok _ (e3 r_) l8
 have f1:=ui lg.f r_ (j:=1) (by decide)
 have fin:∀ (aw:World) (aH:cM),ao (g7 C) ag aw→kP aw {aM with D:=aH}→ky C {aM with D:=aH} w aw 1→aH.n=C.D.n→(∀j:Nat,(aM.ax[i]).no≠j→aH.now j=C.D.now j)→(∀j:Nat,(aM.ax[i]).no=j→aH.now j=(aM.ax[i]).l)→(∀q,gG aH q→gG C.D q∨ag.heap.size≤q)→
     ∃kz:Addr,(some ⟨C.bQ,i*6,none⟩:Option Addr)=some kz∧cT aw kz [.bool false, .bool false, .bool false, .int .i64 0, .int .i64 0, .slice none 0 0]∧(6:Nat)=6∧az (setCells aw kz 0 [.bool false, .bool false, .bool false, .int .i64 0, .int .i64 0, .slice none 0 0]) fun cF=>Z4 X C w (.tuple #[.pointer (some ⟨C.bQ,i*6,none⟩), .int .i64 0]) cF:=by
   intro aw aH alw fU bT Dk Z7 alx HQ
   have gO:cj aw aM.bQ (cz Fr.c aM.ax).toArray ah.qo:=fU.f
   obtain ⟨s1,s2,bS⟩:=Tf gO r_ gR
   rw[pv.2] at s1 s2 bS
   have Tj:p3 X (setCells aw ⟨C.bQ,i*6,none⟩ 0 gR.c) {aM with ax:=aM.ax.set i gR,D:=aH}:=by
     refine Th (V:=g7 C) (w:=ag) r_ Fz (alw.trans (bS.mono fun q _ e=> .inr (.inl e))) (fun q _ J=>(Z6 q).2 J) (by rw[kQ];exact Dk) (fun j aZ=>by rw[kQ];exact Z7 j fun e=>aZ l8 e) (fun q J=>by rw[kQ];exact HQ q J) gR rfl rfl
   have hD:=fU.v
   refine ⟨_,rfl,s1,rfl,bN ⟨{aM with ax:=aM.ax.set i gR,D:=aH},⟨?_,Tj⟩,?_,pv.2,fun j=> ?_,fun f aA oC=> ?_, .inl ⟨i,by show i<(aM.ax.set i gR).length;rw[hK];exact r_,rfl,by simp[gR],by simp[gR]⟩⟩⟩
   · have dN:aM.c≠C.bQ:=by have:=fU.a7.1;rw[←pv.2];exact this
     refine ⟨?_,by show cj _ aM.bQ _ _;rw[pv.2];exact s2,fU.dev.an bS (fun q J e=>fU.a7.2.2 (by rw[show ({aM with D:=aH}:dC).bQ=aM.bQ from rfl,pv.2,←e];exact J)),?_,?_,?_,fU.a7⟩
     · have:=hD.an bS dN
       show Var _ _ [_, .slice _ (aM.ax.set i gR).length (aM.ax.set i gR).length,_] _
       rw[hK];exact this
     · show 8≤(aM.ax.set i gR).length;rw[hK];exact fU.dJ
     · show (aM.ax.set i gR).length≤64;rw[hK];exact fU.eM
     · show aM.hand<(aM.ax.set i gR).length;rw[hK];exact fU.hd
   · refine ⟨bT.c,bT.d,by show (aM.ax.set i gR).length=_;rw[hK];exact bT.len,bT.e5,bT.cl,bT.calm,bT.an.trans (bS.mono fun q _ e=> .inr (.inl e)),bT.fP⟩
   · rw[←OW]
     exact Z3 r_ Fz (fun _ j aZ=>alx j aZ) (fun j aZ=>by rw[kQ];exact Z7 j fun e=>aZ l8 e) gR rfl j
   · rcases Cp aA with aA|rfl
     · exact iU f aA oC
     · cases oC
 refine ⟨_,rfl,fun h=>(by cases h),fun _=>yB (fun aw=>∃aH:cM,ao (g7 C) ag aw∧kP aw {aM with D:=aH}∧ky C {aM with D:=aH} w aw 1∧aH.n=C.D.n∧(∀j:Nat,(aM.ax[i]).no≠j→aH.now j=C.D.now j)∧(∀j:Nat,(aM.ax[i]).no=j→aH.now j=(aM.ax[i]).l)∧(∀q,gG aH q→gG C.D q∨ag.heap.size≤q)) (fun q J=>⟨_,rfl,(aM.ax[i]).oE,?_,fun avT=> ?_,fun aly=>J _ ⟨C.D, .refl _ _,?_,?_,rfl,fun _ _=>rfl,fun j aZ=> ?_,fun q h=> .inl h⟩⟩) ?_⟩
 · rw[aX,←pv.2];exact f1
 ·
   have bB:=ej ag
   have fL:=lg.ext bB
   obtain ⟨gX,_,_⟩:=fL.cells
   rw[pv.1,kQ] at gX
   have f3:=ui fL.f r_ (j:=3) (by decide)
   have f5:=ui fL.f r_ (j:=5) (by decide)
   rw[pv.2] at f3 f5
   refine bN ⟨_,rfl,id,_,gX,_,rfl,id,((no:Nat):Int),?_,_,rfl,id,(aM.ax[i]).b,by rw[aX];exact f5,?_⟩
   · rw[aX,f3]
     show some (Value.int .i64 (aM.ax[i]).no)=_
     rw[aC]
   have alz:h9 ag.drew C.D:=by rw[←kQ];exact fL.dev
   refine (ZU alz (i:=no) (by rw[←kQ];exact aG) gA (aJ.1.ext bB) aN fun q J aA=>(aJ.2.2 q J).1.1 (.inr (.inr (by rw[kQ];exact aA)))).use ?_
   rintro v2 aw hw
   rcases hw with ⟨aa,rfl,gm,dh⟩|⟨aa,rfl,s,gm,dh,eR⟩
   · have oD:ao (g7 C) ag aw:=(ao.eN bB).trans (dh.mono fun q _ e=> .inr (.inr (.inl e)))
     refine ⟨3,rfl,fun _=>⟨{aM with D:=C.D.fJ 2},⟨?_,?_⟩,?_,pv.2,fun j=> ?_,iU, .inr ⟨rfl,fun CV=> ?_⟩⟩,fun h=>(by cases h)⟩
     · have fU:=fL.v.an dh (fun e=>fL.a7.2.1 (.inl (by rw[kQ];exact e)))
       rw[kQ] at fU
       have aR:=lg.a7
       rw[kQ] at aR
       exact ⟨fU,cj.an fL.f dh (fun e=>fL.a7.2.2 (.inl (by rw[kQ];exact e))),gm,lg.dJ,lg.eM,lg.hd,aR⟩
     · have:=KW (C:=aM) (hd:=aM.hand) (aH:=C.D.fJ 2) Fz (p4.refl _) oD (fun q _ J=>(Z6 q).2 J) (by rw[kQ];rfl) (fun j=>by rw[kQ];rfl) fun q J=> .inl (by rw[kQ];exact J)
       exact this
     · refine ⟨pv.1,rfl,by show aM.ax.length=_;rw[su];exact nX.1,KT C.D (.inr rfl),yd _,fun m hm=>(y3 (.inr rfl) h.raw.dev.f4 hm).1,KY.trans oD,fun q J=> .inl ?_⟩
       rcases J with e|e|e
       · exact .inl (by rw[←pv.1];exact e)
       · exact .inr (.inl (by rw[←pv.2];exact e))
       · exact .inr (.inr e)
     · rw[←OW]
       exact KX (C:=aM) Fz (p4.refl _) (fun j=>by rw[kQ];rfl) j
     · have:=(y3 (k:=2) (m:=0) (.inr rfl) h.raw.dev.f4 CV).2
       rw[aa] at this;cases this
   · have oD:ao (g7 C) ag aw:=(ao.eN bB).trans (dh.mono fun q _ e=> .inr (.inr e))
     have HQ:∀q,gG (C.D.put no s (aM.ax[i]).l) q→gG C.D q∨ag.heap.size≤q:=by
       rintro q (e|e|e|⟨x,af,e⟩)
       · exact .inl (.inl e)
       · exact .inl (.inr (.inl e))
       · exact .inl (.inr (.inr (.inl e)))
       · rcases gg.1 af with rfl|af
         · exact eR q e
         · exact .inl (.inr (.inr (.inr ⟨x,(tH.1 af).1,e⟩)))
     have jH:∀q,gG C.D q→q≠aM.c∧q≠aM.bQ:=fun q J=>⟨fun e=>lg.a7.2.1 (by rw[kQ,←e];exact J),fun e=>lg.a7.2.2 (by rw[kQ,←e];exact J)⟩
     refine ⟨0,rfl,fun h=>(by cases h),fun _=>J _ ⟨C.D.put no s (aM.ax[i]).l,oD,?_,?_,rfl,fun j aZ=> ?_,fun j aZ=> ?_,HQ⟩⟩
     · have fU:=fL.v.an dh (fun e=>(jH _ e).1 rfl)
       rw[kQ] at fU
       have rA:aM.c<ag.heap.size:=lg.v.lt
       have Z8:aM.bQ<ag.heap.size:=cj.lt lg.f
       refine ⟨fU,cj.an fL.f dh (fun e=>(jH _ e).2 rfl),gm,lg.dJ,lg.eM,lg.hd,lg.a7.1,fun e=> ?_,fun e=> ?_⟩
       · rcases HQ _ e with U|U
         · exact (jH _ U).1 rfl
         · have:aM.c<ag.heap.size:=rA
           have U:ag.heap.size≤aM.c:=U
           omega
       · rcases HQ _ e with U|U
         · exact (jH _ U).2 rfl
         · have U:ag.heap.size≤aM.bQ:=U
           omega
     · refine ⟨pv.1,rfl,by show aM.ax.length=_;rw[su];exact nX.1,KT C.D (.inr rfl),cP _,fun m hm=>(y3 (.inr rfl) h.raw.dev.f4 hm).1,KY.trans oD,fun q J=> ?_⟩
       rcases J with e|e|e
       · exact .inl (.inl (by rw[←pv.1];exact e))
       · exact .inl (.inr (.inl (by rw[←pv.2];exact e)))
       · rcases HQ q e with U|U
         · exact .inl (.inr (.inr U))
         · exact .inr (jb KY.size U)
     · rw[Ta,if_neg (fun e=>aZ (by rw[aC,e]))]
     · rw[Ta,if_pos (by rw[aC] at aZ;omega)]
 · rw[←kQ];exact lg
 · refine ⟨pv.1,rfl,by show aM.ax.length=_;rw[su];exact nX.1,rfl,yd _,fun m hm=>mI hm (yd _),KY,fun q J=> .inl ?_⟩
   rcases J with e|e|e
   · exact .inl (by rw[←pv.1];exact e)
   · exact .inr (.inl (by rw[←pv.2];exact e))
   · exact .inr (.inr e)
 · have:no=j:=by rw[aC] at aZ;omega
   subst this
   rw[←kQ]
   exact (cX aly).symm
 · rintro aw ⟨aH,a7,cQ,a3,a4,a5,iI,lG⟩
   exact fin aw aH a7 cQ a3 a4 a5 iI lG
end
end
section
def KZ (fs:List Fr):Prop:=∀ (i j:Nat) (hi:i<fs.length) (aZ:j<fs.length),(fs[i]).full=true→(fs[j]).full=true→(fs[i]).no=(fs[j]).no→i=j
theorem Z9 {fs gs:List Fr} {D aH:cM} {c bQ hd c' alA alB j:Nat} (alC:KZ fs) (alD:KZ gs) (U:∀ (i:Nat) (hi:i<fs.length),(fs[i]).full=true→(fs[i]).no=j→∃ (k:Nat) (ae:k<gs.length),(gs[k]).full=true∧(gs[k]).no=j∧(gs[k]).l=(fs[i]).l)
   (ad:(∀f∈fs,f.full=true→f.no≠j)→(∀f∈gs,f.full=true→f.no≠j)∧aH.now j=D.now j):(dC.mk c' alA gs alB aH).view j=(dC.mk c bQ fs hd D).view j:=by
 by_cases hex:∃ (k:Nat) (ae:k<fs.length),(fs[k]).full=true∧(fs[k]).no=j
 · obtain ⟨k,ae,aC,aG⟩:=hex
   obtain ⟨m,hm,ba,bp,dM⟩:=U k ae aC aG
   rw[AS alC ae aC aG,AS alD hm ba bp,dM]
 · have c8:∀f∈fs,f.full=true→f.no≠j:=fun f aA U ad=>by
     obtain ⟨k,ae,rfl⟩:=lU aA
     exact hex ⟨k,ae,U,ad⟩
   obtain ⟨ba,bp⟩:=ad c8
   rw[Di c8,Di ba,bp]
section
variable {w w':World} {C:dC} {X:Nat→Prop}
theorem Tk {i:Nat} (hi:i<C.ax.length) {no:Nat} {V:Nat→Prop} (h:p3 X w C) (ak:ao V w w') (t_:∀q,q<w.heap.size→V q→g7 C q) {aH:cM} (aD:aH.n=C.D.n) (mv:∀j,aH.now j=C.D.now j) (nw:∀q,gG aH q↔gG C.D q)
   (fh:Fr) (l8:fh.full=true) (Dh:fh.pins=0) (eI:ZZ X w' {C with ax:=C.ax.set i fh,D:=aH} fh no) (c8:∀ (k:Nat) (ae:k<C.ax.length),k≠i→(C.ax[k]).full=true→(C.ax[k]).no≠no):p3 X w' {C with ax:=C.ax.set i fh,D:=aH}:=by
 have dE:=ak.size
 have vx:∀q,g7 {C with ax:=C.ax.set i fh,D:=aH} q→g7 C q:=fun q aA=>by
   rcases aA with U|U|U
   · exact .inl U
   · exact .inr (.inl U)
   · exact .inr (.inr ((nw q).1 U))
 refine ⟨fun f aA=> ?_,fun f aA oC=> ?_,fun a b aR aa U ad aq=> ?_,fun q J=>⟨ly (h.m0 q J).1 dE,fun aA=>(h.m0 q J).2 (vx q aA)⟩⟩
 · rcases Cp aA with aA|rfl
   · exact h.pins f aA
   · exact Dh
 · obtain ⟨k,ae,rfl⟩:=lU aA
   have iz:k<C.ax.length:=by simpa using ae
   by_cases e:i=k
   · subst e
     simp only[sP]
     exact ⟨no,eI⟩
   · simp only[lV e] at oC⊢
     obtain ⟨m,aC,aG,aJ,aN,cX⟩:=h.ok _ (e3 iz) oC
     exact ⟨m,aC,by show m<aH.n;rw[aD];exact aG,bH.OV aJ ak (fun q J aa al=>aa.1 (t_ q J al)) fun q _ aa=>⟨fun aA=>aa.1 (vx q aA),aa.2⟩,aN,fun hd=>by show _=aH.now m;rw[mv];exact cX hd⟩
 · have oF:a<C.ax.length:=by simpa using aR
   have jo:b<C.ax.length:=by simpa using aa
   by_cases m3:i=a
   · by_cases nY:i=b
     · omega
     · subst m3
       simp only[sP] at aq
       simp only[lV nY] at ad aq
       exact absurd (by rw[←aq];exact eI.num) (c8 b jo (fun e=>nY e.symm) ad)
   · by_cases nY:i=b
     · subst nY
       simp only[sP] at aq
       simp only[lV m3] at U aq
       exact absurd (by rw[aq];exact eI.num) (c8 a oF (fun e=>m3 e.symm) U)
     · simp only[lV m3] at U aq
       simp only[lV nY] at ad aq
       exact h.un a b oF jo U ad aq
theorem alE {i:Nat} (hi:i<C.ax.length) {no:Nat} (h:KZ C.ax) (fh:Fr) (AU:fh.no=no) (c8:∀ (k:Nat) (ae:k<C.ax.length),k≠i→(C.ax[k]).full=true→(C.ax[k]).no≠no):KZ (C.ax.set i fh):=by
 intro a b aR aa U ad aq
 have oF:a<C.ax.length:=by simpa using aR
 have jo:b<C.ax.length:=by simpa using aa
 by_cases m3:i=a
 · by_cases nY:i=b
   · omega
   · subst m3
     simp only[sP] at aq
     simp only[lV nY] at ad aq
     exact absurd (by rw[←aq];exact AU) (c8 b jo (fun e=>nY e.symm) ad)
 · by_cases nY:i=b
   · subst nY
     simp only[sP] at aq
     simp only[lV m3] at U aq
     exact absurd (by rw[aq];exact AU) (c8 a oF (fun e=>m3 e.symm) U)
   · simp only[lV m3] at U aq
     simp only[lV nY] at ad aq
     exact h a b oF jo U ad aq
theorem Tl {i:Nat} (hi:i<C.ax.length) {no:Nat} (h:KZ C.ax) {aH:cM} (mv:∀j,aH.now j=C.D.now j) (fh:Fr) (l8:fh.full=true) (AU:fh.no=no) (hold:(C.ax[i]).full=true→(C.ax[i]).no=no) (c8:∀ (k:Nat) (ae:k<C.ax.length),k≠i→(C.ax[k]).full=true→(C.ax[k]).no≠no) {hd:Nat} (j:Nat):
   (dC.mk C.c C.bQ (C.ax.set i fh) hd aH).view j=if j=no then fh.l else C.view j:=by
 have hu:=alE hi h fh AU c8
 have gW:i<(C.ax.set i fh).length:=by simpa using hi
 by_cases e:j=no
 · subst e
   rw[if_pos rfl,AS hu gW (by simp[l8]) (by simpa using AU)]
   simp
 · rw[if_neg e]
   refine Z9 (fs:=C.ax) (D:=C.D) (c:=C.c) (bQ:=C.bQ) (hd:=C.hand) h hu (fun k ae aC aG=> ?_) fun gj=>⟨fun f aA aC aG=> ?_,mv j⟩
   · have kA:i≠k:=fun bp=>by
       subst bp
       have:=hold aC
       rw[aG] at this
       exact e (by omega)
     have dW:k<(C.ax.set i fh).length:=by simpa using ae
     exact ⟨k,dW,by simp only[lV kA];exact aC,by simp only[lV kA];exact aG,by simp only[lV kA]⟩
   · rcases Cp aA with aA|rfl
     · exact gj f aA aC aG
     · rw[AU] at aG
       exact e (by omega)
def alF (X:Nat→Prop) (C:dC) (no:Nat) (w:World) (v:Value) (w':World):Prop:=
 ∃bd:dC,kg X w' bd∧ky C bd w w' 2∧(∀j,bd.view j=C.view j)∧
   ((∃s:ab,v= .tuple #[.slice s.a s.len s.cap, .int .i64 0]∧bH (fun q=>w.heap.size≤q∧¬g7 bd q∧¬X q) w' s (C.view no))∨(v= .tuple #[.slice none 0 0, .int .i64 3]∧¬C.D.calm 2))
theorem alG (h:kg X w C) (gA:C.D.cl≤999999999) {no:Nat} (c8:no<C.D.n):aP Tryz.prog F.Dl #[.pointer (some ⟨C.c,0,none⟩), .int .i64 ((no:Nat):Int)] w (alF X C no w):=by
 have mJ:=h.raw
 refine W.alH (some ⟨C.c,0,none⟩) ((no:Nat):Int) w _ ?_
 (delta W.Dl bk aF xk st ar dZ AV gE;dsimp only)
 refine (Z0 mJ _).use ?_
 rintro _ _ ⟨rfl,rfl⟩
 refine ⟨_,rfl,fun aa=> ?_,fun _=>(OS mJ _).use ?_⟩
 · have:decide (0≤((no:Nat):Int)∧((no:Nat):Int)<C.D.n)=true:=ik ⟨by omega,by omega⟩
   rw[this] at aa;cases aa
 rintro _ _ ⟨o6,rfl⟩
 rcases o6 with ⟨i,hi,rfl,aA,aD⟩|⟨rfl,HR⟩
 ·
   obtain ⟨aC,aG,aJ,aN⟩:=De mJ.f hi (j:=2) (by decide) (v:= .bool true) {C.ax[i] with used:=true} rfl
   have nX:p4 C.ax (C.ax.set i {C.ax[i] with used:=true}):=(p4.refl C.ax).set hi true
   have oD:ao (g7 C) w (w.setCell ⟨C.bQ,i*6+2,none⟩ (.bool true)):=aN.mono fun q _ e=> .inr (.inl e)
   have hinv:=KW (hd:=C.hand) (aH:=C.D) h.inv nX oD (fun q _ h=>h) rfl (fun _=>rfl) fun q J=> .inl J
   have al:=KX (hd:=C.hand) (aH:=C.D) h.inv nX fun _=>rfl
   obtain ⟨ag,AQ⟩:∃ag,ag=w.setCell ⟨C.bQ,i*6+2,none⟩ (.bool true):=⟨_,rfl⟩
   rw[←AQ] at aJ aN oD hinv
   have aY:kP ag {C with ax:=C.ax.set i {C.ax[i] with used:=true}}:=by
     refine ⟨?_,aJ,mJ.dev.an aN (fun q J e=>mJ.a7.2.2 (e▸J)),?_,?_,?_,mJ.a7⟩
     · have:=mJ.v.an aN mJ.a7.1
       show Var _ _ [_, .slice _ (C.ax.set i _).length (C.ax.set i _).length,_] _
       rw[hK];exact this
     · show 8≤(C.ax.set i _).length;rw[hK];exact mJ.dJ
     · show (C.ax.set i _).length≤64;rw[hK];exact mJ.eM
     · show C.hand<(C.ax.set i _).length;rw[hK];exact mJ.hd
   obtain ⟨aM,o5⟩:∃aM:dC,aM={C with ax:=C.ax.set i {C.ax[i] with used:=true}}:=⟨_,rfl⟩
   have m4:kg X ag aM:=by rw[o5];exact ⟨aY,hinv⟩
   have g4:i<(C.ax.set i {C.ax[i] with used:=true}).length:=by simpa using hi
   have f5:=ui aJ g4 (j:=5) (by decide)
   obtain ⟨m,dJ,eM,kN,mK,oz⟩:=hinv.ok ((C.ax.set i {C.ax[i] with used:=true})[i]) (e3 g4) (by simp[aA])
   have N6:((C.ax.set i {C.ax[i] with used:=true})[i]).b=(C.ax[i]).b:=by simp
   have Z_:((C.ax.set i {C.ax[i] with used:=true})[i]).l=(C.ax[i]).l:=by simp
   rw[N6,Z_] at kN
   rw[Z_] at mK
   refine ⟨_,rfl,fun _=>⟨_,rfl,by rw[aX];exact aC,by rw[aX];exact aG,?_⟩,fun h=>(by cases h)⟩
   rw[aX,←AQ]
   refine bN ⟨_,rfl,(C.ax[i]).b,by rw[aX,f5];simp[Fr.c],(u9 (B:=fun q=>ag.heap.size≤q) kN.1 (by rw[mK];omega) (fun q J=>J)).use ?_⟩
   rintro _ aw ⟨s,rfl,aj,cD,_⟩
   have alI:C.view no=(C.ax[i]).l:=AS (fs:=C.ax) (D:=C.D) (c:=C.c) (bQ:=C.bQ) (hd:=C.hand) h.inv.un hi aA aD
   have nM:=oD.size
   refine ⟨s,rfl,aM,m4.ext cD,?_,?_, .inl ⟨s,rfl,?_⟩⟩
   · rw[o5]
     exact ⟨rfl,rfl,by show (C.ax.set i _).length=_;rw[hK],rfl,Nat.le_add_right _ _,fun m hm=>mI hm (by omega),oD.trans (ao.eN cD),fun q J=> .inl J⟩
   · intro j;rw[o5];exact al j
   · rw[alI]
     refine bH.bA aj fun q _ J=>⟨by omega,fun aA=> ?_,fun dO=> ?_⟩
     · have:=m4.raw.lt aA;omega
     · have:=(m4.inv.m0 q dO).1;omega
 ·
   refine ⟨_,rfl,fun h=>(by cases h),fun _=>(Z5 h (by omega)).use ?_⟩
   rintro _ ag ⟨aM,lH,l9,xl,kZ,iU,aY⟩
   rcases aY with ⟨i,hi,rfl,Tm,Dh⟩|⟨rfl,Tn⟩
   · refine ⟨_,_,rfl,fun h=>(by simp at h),fun _=>⟨_,rfl,some ⟨C.D.d,0,none⟩,?_,?_⟩⟩
     · have:=lH.raw.cells.1
       rw[l9.c,l9.d] at this
       exact this
     have To:no<aM.D.n:=by rw[l9.n];exact c8
     have FA:=l9.cl
     rw[←l9.d]
     refine (ZQ lH.raw.dev To (by omega)).use ?_
     rintro v2 aw ⟨gm,dh,fm⟩
     have wL:=fun q=>lH.raw.lt (q:=q)
     have Tp:ao (g7 aM) ag aw:=dh.mono fun q _ e=> .inr (.inr (.inl e))
     have l0:∀f∈aM.ax,f.full=true→f.no≠no:=fun f aA l8 Dm=>by
       obtain ⟨g,bl,U,ad⟩:=iU f aA l8
       exact HR g bl U (by rw[ad,Dm])
     have alJ:aM.D.calm 1∨¬C.D.calm 2:=by
       rcases Classical.em (C.D.calm 2) with U|U
       · exact .inl (l9.calm 1 U)
       · exact .inr U
     have aaa:aM.view no=aM.D.now no:=Di (fs:=aM.ax) (D:=aM.D) (c:=aM.c) (bQ:=aM.bQ) (hd:=aM.hand) l0
     have dN:∀q,gG aM.D q→q≠aM.c∧q≠aM.bQ:=fun q J=>⟨fun e=>lH.raw.a7.2.1 (e▸J),fun e=>lH.raw.a7.2.2 (e▸J)⟩
     have alK:p3 X aw {aM with D:=aM.D.fJ 1}:=KW (C:=aM) (hd:=aM.hand) (aH:=aM.D.fJ 1) lH.inv (p4.refl _) Tp (fun q _ h=>h) rfl (fun _=>rfl) fun q J=> .inl J
     have h_:ky C {aM with D:=aM.D.fJ 1} w aw 2:=by
       have:ky aM {aM with D:=aM.D.fJ 1} ag aw 1:=⟨rfl,rfl,rfl,KT aM.D (.inl rfl),yd _,fun m hm=>(y3 (.inl rfl) lH.raw.dev.f4 hm).1,Tp,fun q J=> .inl J⟩
       exact l9.trans this
     have hD:∀j,({aM with D:=aM.D.fJ 1}:dC).view j=C.view j:=fun j=>by rw[←kZ];exact KX (C:=aM) lH.inv (p4.refl _) (fun _=>rfl) j
     have Tq:kP aw {aM with D:=aM.D.fJ 1}:=⟨lH.raw.v.an dh (fun e=>(dN _ (.inl rfl)).1 e.symm),cj.an lH.raw.f dh (fun e=>(dN _ (.inl rfl)).2 e.symm),gm,lH.raw.dJ,lH.raw.eM,lH.raw.hd,lH.raw.a7⟩
     rcases fm with ⟨aa,rfl⟩|⟨aa,s,rfl,aj⟩
     · refine ⟨⟨none,0,0⟩,3,rfl,fun _=>⟨{aM with D:=aM.D.fJ 1},⟨Tq,alK⟩,h_,hD, .inr ⟨rfl,?_⟩⟩,fun h=>(by simp at h)⟩
       rcases alJ with U|U
       · have:=(y3 (k:=1) (m:=0) (.inl rfl) lH.raw.dev.f4 U).2
         rw[aa] at this;cases this
       · exact U
     · have p2:(aM.D.now no).length=256:=lH.raw.dev.KS To
       obtain ⟨s1,s2,bS⟩:=Tf Tq.f hi ⟨true,false,true,((no:Nat):Int),0,s,aM.D.now no⟩
       rw[xl] at s1 s2 bS
       have tR:=dh.size
       have nM:=l9.an.size
       refine ⟨s,_,rfl,fun h=>(by simp at h),fun _=>⟨_,rfl,s1,rfl,?_⟩⟩
       obtain ⟨a8,nm⟩:∃a8,a8=setCells aw ⟨C.bQ,i*6,none⟩ 0 (Fr.c ⟨true,false,true,((no:Nat):Int),0,s,aM.D.now no⟩):=⟨_,rfl⟩
       rw[←nm] at s2 bS
       have bl:setCells aw ⟨C.bQ,i*6,none⟩ 0 [.bool true, .bool false, .bool true, .int .i64 ((no:Nat):Int), .int .i64 0, .slice s.a s.len s.cap]=a8:=nm.symm
       rw[bl]
       have aab:ao (g7 aM) aw a8:=bS.mono fun q _ e=> .inr (.inl (by rw[xl];exact e))
       have CN:bH (fun q=>ag.heap.size≤q) a8 s (aM.D.now no):=bH.an aj bS fun q J e=>by
         have:=wL C.bQ (.inr (.inl xl.symm));omega
       have Tj:p3 X a8 {aM with ax:=aM.ax.set i ⟨true,false,true,((no:Nat):Int),0,s,aM.D.now no⟩,D:=aM.D.fJ 1}:=by
         refine Tk (w:=ag) (V:=g7 aM) (aH:=aM.D.fJ 1) hi (no:=no) lH.inv (Tp.trans aab) (fun q _ h=>h) rfl (fun _=>rfl) (fun q=>Iff.rfl) ⟨true,false,true,((no:Nat):Int),0,s,aM.D.now no⟩ rfl rfl ⟨rfl,To,?_,p2,fun _=>rfl⟩ fun k ae _ U=>l0 _ (e3 ae) U
         refine bH.bA CN fun q _ J=>⟨fun aA=> ?_,fun dO=> ?_⟩
         · have:g7 aM q:=aA
           have:=wL q this;omega
         · have:=(lH.inv.m0 q dO).1;omega
       have mG:∀j,({aM with ax:=aM.ax.set i ⟨true,false,true,((no:Nat):Int),0,s,aM.D.now no⟩,D:=aM.D.fJ 1}:dC).view j=C.view j:=fun j=>by
         have:=Tl (hd:=aM.hand) (aH:=aM.D.fJ 1) hi (no:=no) lH.inv.un (fun _=>rfl) ⟨true,false,true,((no:Nat):Int),0,s,aM.D.now no⟩ rfl rfl (fun U=>by rw[Tm] at U;cases U) (fun k ae _ U=>l0 _ (e3 ae) U) j
         rw[show ({aM with ax:=aM.ax.set i ⟨true,false,true,((no:Nat):Int),0,s,aM.D.now no⟩,D:=aM.D.fJ 1}:dC)=dC.mk aM.c aM.bQ (aM.ax.set i ⟨true,false,true,((no:Nat):Int),0,s,aM.D.now no⟩) aM.hand (aM.D.fJ 1) from rfl,this]
         by_cases e:j=no
         · rw[if_pos e,e,←kZ,aaa]
         · rw[if_neg e,kZ]
       have alL:kP a8 {aM with ax:=aM.ax.set i ⟨true,false,true,((no:Nat):Int),0,s,aM.D.now no⟩,D:=aM.D.fJ 1}:=by
         refine ⟨?_,by show cj _ aM.bQ _ _;rw[xl];exact s2,gm.an bS (fun q J e=>(dN q J).2 (by rw[xl];exact e)),?_,?_,?_,lH.raw.a7⟩
         · have:=Tq.v.an bS (fun e=>lH.raw.a7.1 (by rw[xl];exact e))
           show Var _ _ [_, .slice _ (aM.ax.set i _).length (aM.ax.set i _).length,_] _
           rw[hK];exact this
         · show 8≤(aM.ax.set i _).length;rw[hK];exact lH.raw.dJ
         · show (aM.ax.set i _).length≤64;rw[hK];exact lH.raw.eM
         · show aM.hand<(aM.ax.set i _).length;rw[hK];exact lH.raw.hd
       obtain ⟨AW,K0⟩:∃AW:dC,AW={aM with ax:=aM.ax.set i ⟨true,false,true,((no:Nat):Int),0,s,aM.D.now no⟩,D:=aM.D.fJ 1}:=⟨_,rfl⟩
       have Tr:kg X a8 AW:=by rw[K0];exact ⟨alL,Tj⟩
       have Ts:ky C AW w a8 2:=by
         rw[K0]
         exact ⟨h_.c,h_.d,by show (aM.ax.set i _).length=_;rw[hK];exact h_.len,h_.e5,h_.cl,h_.calm,jw h_.an aab fun q J h=>(h_.fP q h).resolve_right (by omega),h_.fP⟩
       refine bN ((u9 (B:=fun q=>a8.heap.size≤q) CN.1 (by rw[p2];omega) (fun q J=>J)).use ?_)
       rintro _ bz ⟨t,rfl,aU,fz,_⟩
       have Fm:=bS.size
       refine ⟨t,rfl,AW,Tr.ext fz,?_,?_, .inl ⟨t,rfl,?_⟩⟩
       · exact (Ts.trans (ky.ext AW fz)).mono (by omega)
       · intro j;rw[K0];exact mG j
       · rw[←kZ,aaa]
         refine bH.bA aU fun q _ J=>⟨by omega,fun aA=> ?_,fun dO=> ?_⟩
         · have:=Tr.raw.lt aA;omega
         · have:=(Tr.inv.m0 q dO).1;omega
   · refine ⟨_,_,rfl,fun _=>⟨aM,lH,l9.mono (by omega),kZ, .inr ⟨rfl,fun ak=>Tn (mI ak (by omega))⟩⟩,fun h=>(by simp at h)⟩
end
end
section
section
variable {w w':World} {C:dC} {X:Nat→Prop}
def aac (X:Nat→Prop) (C:dC) (no:Nat) (l:kO) (w:World) (v:Value) (w':World):Prop:=
 ∃bd:dC,kg X w' bd∧ky C bd w w' 1∧
   ((v= .int .i64 0∧∀j,bd.view j=if j=no then l else C.view j)∨(v= .int .i64 3∧¬C.D.calm 1∧∀j,bd.view j=C.view j))
theorem Tt {i:Nat} {fh:Fr} (h:kP w C) (ak:ao (fun q=>q=C.bQ) w w') (aa:cj w' C.bQ (cz Fr.c (C.ax.set i fh)).toArray ah.qo):kP w' {C with ax:=C.ax.set i fh}:=by
 refine ⟨?_,aa,h.dev.an ak (fun q J e=>h.a7.2.2 (e▸J)),?_,?_,?_,h.a7⟩
 · have:=h.v.an ak h.a7.1
   show Var _ _ [_, .slice _ (C.ax.set i _).length (C.ax.set i _).length,_] _
   rw[hK];exact this
 · show 8≤(C.ax.set i _).length;rw[hK];exact h.dJ
 · show (C.ax.set i _).length≤64;rw[hK];exact h.eM
 · show C.hand<(C.ax.set i _).length;rw[hK];exact h.hd
theorem set_set {fs:List Fr} {i:Nat} (f g:Fr):(fs.set i f).set i g=fs.set i g:=List.set_set ..
theorem alM (h:kg X w C) (gA:C.D.cl≤999999999) {no:Nat} (c8:no<C.D.n) {b:ab} {l:kO} (aa:Src 1 w b (a_ l)) (aB:l.length=256) (l2:∀q,aQ b q→q<w.heap.size∧¬g7 C q):
   aP Tryz.prog F.Dn #[.pointer (some ⟨C.c,0,none⟩), .int .i64 ((no:Nat):Int), .slice b.a b.len b.cap] w (aac X C no l w):=by
 have mJ:=h.raw
 have yp:=len8 aa
 refine W.alN (some ⟨C.c,0,none⟩) ((no:Nat):Int) b w _ ?_
 (delta W.Dn bk aF xk AV st dZ;dsimp only)
 refine (Z0 mJ _).use ?_
 rintro _ _ ⟨rfl,rfl⟩
 have fG:decide (0≤((no:Nat):Int)∧((no:Nat):Int)<C.D.n)=true:=ik ⟨by omega,by omega⟩
 refine ⟨_,rfl,fun U=> ?_,fun _=>(OS mJ _).use ?_⟩
 · rw[fG,yp,aB] at U
   simp at U
 rintro _ _ ⟨o6,rfl⟩
 have fin:∀ (ag:World) (aM:dC) (i:Nat) (hi:i<aM.ax.length) (f1:Fr),kg X ag aM→ky C aM w ag 1→aM.bQ=C.bQ→(∀j,aM.view j=C.view j)→f1.pins=0→∀aw:World,cj aw aM.bQ (cz Fr.c (aM.ax.set i f1)).toArray ah.qo→ao (fun q=>q=aM.bQ) ag aw→f1.full=true→f1.no=((no:Nat):Int)→
     ((aM.ax[i]).full=true→(aM.ax[i]).no=((no:Nat):Int))→(∀ (k:Nat) (ae:k<aM.ax.length),k≠i→(aM.ax[k]).full=true→(aM.ax[k]).no≠((no:Nat):Int))→
     Calls Tryz.prog F.mo #[.slice b.a b.len b.cap] aw fun alO e6=>∃fX:ab,alO= .returned (.slice fX.a fX.len fX.cap)∧∃kz:Addr,(some ⟨C.bQ,i*6,none⟩:Option Addr)=some kz∧(∃u:Value,e6.cell? (kz.add 5)=some u)∧e6.frozen? (kz.add 5)=false∧
       az (e6.setCell (kz.add 5) (.slice fX.a fX.len fX.cap)) fun cF=>∃a23:Addr,(some ⟨C.bQ,i*6,none⟩:Option Addr)=some a23∧(∃u:Value,cF.cell? (a23.add 1)=some u)∧cF.frozen? (a23.add 1)=false∧
       az (cF.setCell (a23.add 1) (.bool true)) fun cI=>∃a25:Addr,(some ⟨C.bQ,i*6,none⟩:Option Addr)=some a25∧(∃u:Value,cI.cell? (a25.add 2)=some u)∧cI.frozen? (a25.add 2)=false∧
       az (cI.setCell (a25.add 2) (.bool true)) fun cv=>aac X C no l w (.int .i64 0) cv:=by
   intro ag aM i hi f1 m4 bT vA al Dh aw gO dh l8 AU hold K1
   have nM:=bT.an.size
   have tR:=dh.size
   have dt:aM.bQ<ag.heap.size:=m4.raw.lt (.inr (.inl rfl))
   have alP:Src 1 aw b (a_ l):=by
     refine (aa.an bT.an fun q J aA=>(l2 q J).2 aA).an dh fun q J e=>(l2 q J).2 (.inr (.inl (by rw[←vA];exact e)))
   refine (u9 (B:=fun q=>aw.heap.size≤q) alP (by omega) (fun q J=>J)).use ?_
   rintro _ a8 ⟨s,rfl,aj,eX,_⟩
   have HG:=cj.ext gO eX
   have r_:i<(aM.ax.set i f1).length:=by rw[hK];exact hi
   have gX:(aM.ax.set i f1)[i]=f1:=by simp
   obtain ⟨a7,cQ,a3,a4⟩:=De HG r_ (j:=5) (by decide) (v:= .slice s.a s.len s.cap) {f1 with b:=s} (by rw[gX];rfl)
   rw[set_set] at a3
   have alQ:i<(aM.ax.set i {f1 with b:=s}).length:=by rw[hK];exact hi
   have ba:(aM.ax.set i {f1 with b:=s})[i]={f1 with b:=s}:=by simp
   obtain ⟨c3,cG,eT,eQ⟩:=De a3 alQ (j:=1) (by decide) (v:= .bool true) {f1 with b:=s,oE:=true} (by rw[ba];rfl)
   rw[set_set] at eT
   have alR:i<(aM.ax.set i {f1 with b:=s,oE:=true}).length:=by rw[hK];exact hi
   have bp:(aM.ax.set i {f1 with b:=s,oE:=true})[i]={f1 with b:=s,oE:=true}:=by simp
   obtain ⟨d1,d2,d3,d4⟩:=De eT alR (j:=2) (by decide) (v:= .bool true) {f1 with b:=s,oE:=true,used:=true,l:=l} (by rw[bp];rfl)
   rw[set_set] at d3
   rw[vA] at a7 cQ a3 a4 c3 cG eT eQ d1 d2 d3 d4 dh
   refine ⟨s,rfl,_,rfl,by rw[aX];exact a7,by rw[aX];exact cQ,?_⟩
   rw[aX]
   refine bN ⟨_,rfl,by rw[aX];exact c3,by rw[aX];exact cG,?_⟩
   rw[aX]
   refine bN ⟨_,rfl,by rw[aX];exact d1,by rw[aX];exact d2,?_⟩
   rw[aX]
   have qT:=(dh.trans (ao.eN eX)).trans (a4.trans (eQ.trans d4))
   obtain ⟨fh,o7⟩:∃fh:Fr,fh={f1 with b:=s,oE:=true,used:=true,l:=l}:=⟨_,rfl⟩
   obtain ⟨bg,yE⟩:∃bg,bg=(((a8.setCell ⟨C.bQ,i*6+5,none⟩ (.slice s.a s.len s.cap)).setCell ⟨C.bQ,i*6+1,none⟩ (.bool true)).setCell ⟨C.bQ,i*6+2,none⟩ (.bool true)):=⟨_,rfl⟩
   rw[←yE,←o7] at d3
   rw[←yE] at qT⊢
   have alS:bH (fun q=>aw.heap.size≤q) bg s l:=by
     have U:=bH.an aj a4 fun q J e=>by rw[←vA] at e;omega
     have ad:=bH.an U eQ fun q J e=>by rw[←vA] at e;omega
     have aq:=bH.an ad d4 fun q J e=>by rw[←vA] at e;omega
     rw[yE];exact aq
   have alT:kP bg {aM with ax:=aM.ax.set i fh}:=Tt m4.raw (by rw[vA];exact qT) (by rw[vA];exact d3)
   have alU:p3 X bg {aM with ax:=aM.ax.set i fh}:=by
     refine Tk (w:=ag) (V:=fun q=>q=C.bQ) (aH:=aM.D) hi (no:=no) m4.inv qT (fun q _ e=> .inr (.inl (by rw[vA];exact e))) rfl (fun _=>rfl) (fun q=>Iff.rfl) fh (by rw[o7];exact l8) (by rw[o7];exact Dh) ⟨by rw[o7];exact AU,by show no<aM.D.n;rw[bT.n];exact c8,?_,by rw[o7];exact aB,fun hd=>by rw[o7] at hd;cases hd⟩ K1
     rw[o7]
     refine bH.bA alS fun q _ J=>⟨fun aA=> ?_,fun dO=> ?_⟩
     · have:g7 aM q:=aA
       have:=m4.raw.lt this;omega
     · have:=(m4.inv.m0 q dO).1;omega
   refine bN ⟨{aM with ax:=aM.ax.set i fh},⟨alT,alU⟩,⟨bT.c,bT.d,by show (aM.ax.set i _).length=_;rw[hK];exact bT.len,bT.e5,bT.cl,bT.calm,jw bT.an qT fun q J e=> .inr (.inl e),bT.fP⟩, .inl ⟨rfl,fun j=> ?_⟩⟩
   have:=Tl (C:=aM) (hd:=aM.hand) (aH:=aM.D) hi (no:=no) m4.inv.un (fun _=>rfl) fh (by rw[o7];exact l8) (by rw[o7];exact AU) hold K1 j
   rw[show ({aM with ax:=aM.ax.set i fh}:dC)=dC.mk aM.c aM.bQ (aM.ax.set i fh) aM.hand aM.D from rfl,this,al]
   rw[o7]
 rcases o6 with ⟨i,hi,rfl,aA,aD⟩|⟨rfl,HR⟩
 · refine ⟨_,rfl,ff (fun p w'=>p=some ⟨C.bQ,i*6,none⟩∧w=w') (fun q J=>⟨fun h=>(by cases h),fun _=>J _ _ ⟨rfl,rfl⟩⟩) ?_⟩
   rintro _ _ ⟨rfl,rfl⟩
   have e:C.ax.set i C.ax[i]=C.ax:=List.set_getElem_self _
   exact fin w C i hi C.ax[i] h ((ky.refl C w).mono (fi _)) rfl (fun _=>rfl) (h.inv.pins _ (e3 hi)) w (by rw[e];exact mJ.f) (.refl _ _) aA aD (fun _=>aD) fun k ae kA U ad=>kA (h.inv.un k i ae hi U aA (by rw[ad,aD]))
 · refine ⟨_,rfl,ff (fun p aw=>∃ (ag:World) (aM:dC) (i:Nat) (hi:i<aM.ax.length) (f1:Fr),p=some ⟨C.bQ,i*6,none⟩∧kg X ag aM∧ky C aM w ag 1∧aM.bQ=C.bQ∧(∀j,aM.view j=C.view j)∧f1.pins=0∧cj aw aM.bQ (cz Fr.c (aM.ax.set i f1)).toArray ah.qo∧ao (fun q=>q=aM.bQ) ag aw∧f1.full=true∧f1.no=((no:Nat):Int)∧
     ((aM.ax[i]).full=true→(aM.ax[i]).no=((no:Nat):Int))∧(∀ (k:Nat) (ae:k<aM.ax.length),k≠i→(aM.ax[k]).full=true→(aM.ax[k]).no≠((no:Nat):Int))) (fun q J=>⟨fun _=>(Z5 h (by omega)).use ?_,fun h=>(by cases h)⟩) ?_⟩
   · rintro _ ag ⟨aM,lH,l9,xl,kZ,iU,aY⟩
     have l0:∀f∈aM.ax,f.full=true→f.no≠((no:Nat):Int):=fun f aA l8 Dm=>by
       obtain ⟨g,bl,U,ad⟩:=iU f aA l8
       exact HR g bl U (by rw[ad,Dm])
     rcases aY with ⟨i,hi,rfl,Tm,Dh⟩|⟨rfl,Tn⟩
     · obtain ⟨a7,cQ,a3,a4⟩:=De lH.raw.f hi (j:=0) (by decide) (v:= .bool true) {aM.ax[i] with full:=true} rfl
       have r_:i<(aM.ax.set i {aM.ax[i] with full:=true}).length:=by rw[hK];exact hi
       have gX:(aM.ax.set i {aM.ax[i] with full:=true})[i]={aM.ax[i] with full:=true}:=by simp
       obtain ⟨c3,cG,eT,eQ⟩:=De a3 r_ (j:=3) (by decide) (v:= .int .i64 ((no:Nat):Int)) {aM.ax[i] with full:=true,no:=((no:Nat):Int)} (by rw[gX];rfl)
       rw[set_set] at eT
       rw[xl] at a7 cQ c3 cG eT a4 eQ
       refine ⟨_,_,rfl,fun h=>(by simp at h),fun _=>⟨_,rfl,a7,cQ,bN ⟨_,rfl,by rw[aX];exact c3,by rw[aX];exact cG,bN ?_⟩⟩⟩
       rw[aX]
       exact J _ _ ⟨ag,aM,i,hi,{aM.ax[i] with full:=true,no:=((no:Nat):Int)},rfl,lH,l9,xl,kZ,Dh,by rw[xl];exact eT,by rw[xl];exact a4.trans eQ,rfl,rfl,fun U=>(by rw[Tm] at U;cases U),fun k ae _ U=>l0 _ (e3 ae) U⟩
     · exact ⟨_,_,rfl,fun _=>⟨aM,lH,l9, .inr ⟨rfl,Tn,kZ⟩⟩,fun h=>(by simp at h)⟩
   · rintro p aw ⟨ag,aM,i,hi,f1,rfl,aC,aG,aJ,aN,cX,xm,K2,alV,alW,alX,alY⟩
     exact fin ag aM i hi f1 aC aG aJ aN cX aw xm K2 alV alW alX alY
theorem alZ (h:kg X w C) (no:Nat):aP Tryz.prog F.Dp #[.pointer (some ⟨C.c,0,none⟩), .int .i64 ((no:Nat):Int)] w (fun v w'=>(∃b:Bool,v= .bool b)∧∃bd:dC,kg X w' bd∧ky C bd w w' 0∧∀j,j≠no→bd.view j=C.view j):=by
 have mJ:=h.raw
 refine W.al0 (some ⟨C.c,0,none⟩) ((no:Nat):Int) w _ ?_
 (delta W.Dp xk aF bD;dsimp only)
 refine (OS mJ _).use ?_
 rintro _ _ ⟨o6,rfl⟩
 rcases o6 with ⟨i,hi,rfl,aA,aD⟩|⟨rfl,HR⟩
 · have f4:=ui mJ.f hi (j:=4) (by decide)
   have aV:=h.inv.pins _ (e3 hi)
   refine ⟨_,rfl,ff (fun b w'=>b=false∧w=w') (fun q J=>⟨fun h=>(by cases h),fun _=>⟨_,rfl,(C.ax[i]).pins,by rw[aX];exact f4,J _ _ ⟨by rw[aV];rfl,rfl⟩⟩⟩) ?_⟩
   rintro _ _ ⟨rfl,rfl⟩
   obtain ⟨s1,s2,bS⟩:=Tf mJ.f hi gR
   refine ⟨fun h=>(by cases h),fun _=>⟨_,rfl,s1,rfl,bN ⟨⟨true,rfl⟩,{C with ax:=C.ax.set i gR},⟨Tt mJ bS s2,?_⟩,?_,fun j aZ=> ?_⟩⟩⟩
   · exact Th (V:=fun q=>q=C.bQ) (aH:=C.D) hi h.inv bS (fun q _ e=> .inr (.inl e)) rfl (fun _ _=>rfl) (fun q h=> .inl h) gR rfl rfl
   · exact ⟨rfl,rfl,by show (C.ax.set i _).length=_;rw[hK],rfl,cP _,fun _ h=>h,bS.mono fun q _ e=> .inr (.inl e),fun q h=> .inl h⟩
   · refine Z9 (fs:=C.ax) (D:=C.D) (c:=C.c) (bQ:=C.bQ) (hd:=C.hand) h.inv.un (fun a b aR aa U ad aq=> ?_) (fun k ae aC aG=> ?_) fun gj=>⟨fun f aA aC aG=> ?_,rfl⟩
     · have oF:a<C.ax.length:=by simpa using aR
       have jo:b<C.ax.length:=by simpa using aa
       by_cases m3:i=a
       · subst m3
         simp[gR] at U
       by_cases nY:i=b
       · subst nY
         simp[gR] at ad
       simp only[lV m3] at U aq
       simp only[lV nY] at ad aq
       exact h.inv.un a b oF jo U ad aq
     · have kA:i≠k:=fun e=>by
         subst e
         rw[aD] at aG
         exact aZ (by omega)
       exact ⟨k,by rw[hK];exact ae,by simp only[lV kA];exact aC,by simp only[lV kA];exact aG,by simp only[lV kA]⟩
     · rcases Cp aA with aA|rfl
       · exact gj f aA aC aG
       · cases aC
 · refine ⟨_,rfl,ff (fun b w'=>b=true∧w=w') (fun q J=>⟨fun _=>J _ _ ⟨rfl,rfl⟩,fun h=>(by cases h)⟩) ?_⟩
   rintro _ _ ⟨rfl,rfl⟩
   exact ⟨fun _=>⟨⟨false,rfl⟩,C,h,ky.refl C w,fun _ _=>rfl⟩,fun h=>(by cases h)⟩
end
theorem al1 (n:Nat):pQ Tryz.prog ah.qo n=(cz Fr.c (List.replicate n gR)).toArray:=by
 have bF:((Tryz.prog.info? ah.qo).bind (·.zero)).map (·.cells)=some gR.c.toArray:=by kernel_rfl
 have ak:Tryz.prog.cellsOf ah.qo=6:=by kernel_rfl
 unfold pQ
 rw[ak]
 cases hi:(Tryz.prog.info? ah.qo).bind (·.zero) with
 |none=>rw[hi] at bF;cases bF
 |some z=>
   rw[hi] at bF
   simp only[yc,Option.some.injEq] at bF
   simp only[Option.getD_some,bF]
   apply Array.ext
   · simp[nW (c:=Fr.c) (sz:=6) (List.replicate n gR) (fun x _=>rfl)]
   · intro i U ad
     have aD:n*6≠0:=by
       intro h
       simp[h] at U
     have fG:i<n*6:=by simpa using U
     simp only[aD,if_false,Array.getElem_map,Array.getElem_range,List.getElem_toArray]
     have dE:gR.c.toArray.size=6:=rfl
     have a6:i%6<6:=r8 _ (by omega)
     have J:i/6<(List.replicate n gR).length:=by rw[G3];omega
     have bl:=KP (c:=Fr.c) (sz:=6) (l:=List.replicate n gR) (fun x _=>rfl) (i:=i/6) (j:=i%6) J a6
     rw[show i/6*6+i%6=i by omega] at bl
     have Fo:i<(cz Fr.c (List.replicate n gR)).length:=by simpa using ad
     rw[gT Fo] at bl
     have he:((List.replicate n gR)[i/6]).c=gR.c:=by simp
     rw[he,gT (show i%6<gR.c.length from a6)] at bl
     have bl:=Option.some.inj bl
     rw[bl,dE,getElem!_pos gR.c.toArray (i%6) (by rw[dE];exact a6)]
     simp
def OX (c bQ k:Nat) (D:cM):dC:=⟨c,bQ,List.replicate k gR,0,D⟩
theorem y7 {w:World} {D:cM} (h:h9 w D) {k:Nat} (U:8≤k) (ad:k≤64):aP Tryz.prog F.y7 #[.pointer (some ⟨D.d,0,none⟩), .int .i64 ((k:Nat):Int)] w (fun v w'=>∃c bQ:Nat,v= .tuple #[.pointer (some ⟨c,0,none⟩), .int .i64 0]∧kg (fun _=>False) w' (OX c bQ k D)∧Ext w w'∧w.heap.size≤c∧w.heap.size≤bQ):=by
 refine W.al2 (some ⟨D.d,0,none⟩) ((k:Nat):Int) w _ ?_
 delta W.y7 aF yq ai
 refine ⟨fun h=> ?_,fun _=>⟨⟨by omega,by omega,by omega,by omega⟩,?_⟩⟩
 · simp only[Option.isNone_some,G2,wj,fE] at h;omega
 rw[al1,g_]
 have ox:=cj.new w (cz Fr.c (List.replicate k gR)).toArray ah.qo
 have bK:=iM w (.cells (cz Fr.c (List.replicate k gR)).toArray ah.qo)
 have nM:=J0 w (.cells (cz Fr.c (List.replicate k gR)).toArray ah.qo)
 obtain ⟨ag,AQ⟩:∃ag,ag=w.alloc (.cells (cz Fr.c (List.replicate k gR)).toArray ah.qo):=⟨_,rfl⟩
 rw[←AQ] at ox bK nM⊢
 refine bN (cx (vs:=[.pointer (some ⟨D.d,0,none⟩), .slice (some ⟨w.heap.size,0,none⟩) k k, .int .i64 0]) rfl fun aw hD cD tR=>⟨ag.heap.size,w.heap.size,rfl,⟨⟨?_,cj.ext ox cD,h.ext (bK.trans cD),?_,?_,?_,?_,?_,?_⟩,⟨fun f aA=> ?_,fun f aA oC=> ?_,fun i j hi aZ U=> ?_,fun q J=>J.elim⟩⟩,bK.trans cD,by omega,cP _⟩)
 · show Var _ _ [_, .slice _ (List.replicate k gR).length (List.replicate k gR).length,_] _
   rw[G3];exact hD
 · show 8≤(List.replicate k gR).length;simpa using U
 · show (List.replicate k gR).length≤64;simpa using ad
 · show 0<(List.replicate k gR).length;simp;omega
 · show ag.heap.size≠w.heap.size;omega
 · intro e
   have:=h.lt e
   have:ag.heap.size<w.heap.size:=this
   omega
 · intro e
   have:=h.lt e
   have:w.heap.size<w.heap.size:=this
   omega
 · rw[RK aA];rfl
 · rw[RK aA] at oC;cases oC
 · simp[OX,gR] at U
end
section
def xn (pw c3 cG eT eQ iA ln k3:Bool):Nat:=
 pw.toNat+2*c3.toNat+4*cG.toNat+8*eT.toNat+16*eQ.toNat+32*iA.toNat+64*ln.toNat+128*k3.toNat
def byteOf (f:Nat→Bool) (i:Nat):Nat:=xn (f (8*i)) (f (8*i+1)) (f (8*i+2)) (f (8*i+3)) (f (8*i+4)) (f (8*i+5)) (f (8*i+6)) (f (8*i+7))
theorem al3:∀pw c3 cG eT eQ iA ln k3:Bool,xn pw c3 cG eT eQ iA ln k3<256:=by decide+kernel
theorem al4:∀pw c3 cG eT eQ iA ln k3:Bool,
   (xn pw c3 cG eT eQ iA ln k3).testBit 0=pw∧(xn pw c3 cG eT eQ iA ln k3).testBit 1=c3∧(xn pw c3 cG eT eQ iA ln k3).testBit 2=cG∧(xn pw c3 cG eT eQ iA ln k3).testBit 3=eT∧
   (xn pw c3 cG eT eQ iA ln k3).testBit 4=eQ∧(xn pw c3 cG eT eQ iA ln k3).testBit 5=iA∧(xn pw c3 cG eT eQ iA ln k3).testBit 6=ln∧(xn pw c3 cG eT eQ iA ln k3).testBit 7=k3:=by decide+kernel
theorem xo (f:Nat→Bool) (i:Nat):byteOf f i<256:=al3 _ _ _ _ _ _ _ _
theorem FB (f:Nat→Bool) (i j:Nat) (aZ:j<8):(byteOf f i).testBit j=f (8*i+j):=by
 obtain ⟨b5,U,ad,aq,aK,aW,b7,hV⟩:=al4 (f (8*i)) (f (8*i+1)) (f (8*i+2)) (f (8*i+3)) (f (8*i+4)) (f (8*i+5)) (f (8*i+6)) (f (8*i+7))
 have:j=0∨j=1∨j=2∨j=3∨j=4∨j=5∨j=6∨j=7:=by omega
 unfold byteOf
 rcases this with rfl|rfl|rfl|rfl|rfl|rfl|rfl|rfl<;>assumption
theorem al5 {x y:Nat} (af:x<256) (b2:y<256) (h:∀j,j<8→x.testBit j=y.testBit j):x=y:=by
 apply Nat.eq_of_testBit_eq
 intro j
 by_cases aZ:j<8
 · exact h j aZ
 · have p:256≤2^j:=by
     have:=Nx (n:=2) (by omega) (by omega:8≤j)
     simpa using this
   rw[Nat.testBit_lt_two_pow (by omega),Nat.testBit_lt_two_pow (by omega)]
theorem Tu (f:Nat→Bool) (i x:Nat) (af:x<256) (h:∀j,j<8→x.testBit j=f (8*i+j)):x=byteOf f i:=
 al5 af (xo f i) fun j aZ=>by rw[h j aZ,FB f i j aZ]
def kh (f:Nat→Bool) (k:Nat) (b:Bool):Nat→Bool:=fun i=>if i=k then b else f i
theorem al6:∀x:Nat,x<256→∀j:Nat,j<8→(tP .u8 (Int.fdiv (x:Int) (2^(min (Int.toNat (j:Int)) 8))) 1==1)=x.testBit j:=by decide+kernel
theorem al7:∀x:Nat,x<256→∀j:Nat,j<8→Cz .u8 (x:Int) (IntKind.wrap .u8 (1*2^(min (Int.toNat (j:Int)) 8)))=((x|||2^j:Nat):Int):=by decide+kernel
theorem al8:∀x:Nat,x<256→∀j:Nat,j<8→aad .u8 (x:Int) (IntKind.wrap .u8 (1*2^(min (Int.toNat (j:Int)) 8)))=((x&&&(255-2^j):Nat):Int):=by decide+kernel
theorem Tv:∀x:Nat,x<256→∀y:Nat,y<256→x|||y<256:=fun _ af _ b2=>Nat.or_lt_two_pow (n:=8) af b2
theorem al9:∀j:Nat,j<8→∀k:Nat,k<8→(255-2^j).testBit k=(k !=j):=by decide+kernel
theorem al_ (x y:Nat) (af:x<256) (b2:y<256):Cz .u8 (x:Int) (y:Int)=((x|||y:Nat):Int):=by
 have h:=Tv x af y b2
 have e:(BitVec.ofInt 8 (x:Int)|||BitVec.ofInt 8 (y:Int)).toNat=x|||y:=by
   simp only[BitVec.ofInt_natCast,BitVec.toNat_or,BitVec.toNat_ofNat]
   rw[uW (by simpa using af),uW (by simpa using b2)]
 show IntKind.wrap .u8 (((BitVec.ofInt 8 (x:Int)|||BitVec.ofInt 8 (y:Int)).toNat:Nat):Int)=_
 rw[e]
 have:((x|||y:Nat):Int)%256=((x|||y:Nat):Int):=Int.emod_eq_of_lt (by omega) (by omega)
 simp[IntKind.wrap,IntKind.signed,IntKind.bits,this]
theorem ama (k:Nat):8*(k/8)+k%8=k:=Nat.div_add_mod k 8
theorem amb (f:Nat→Bool) (k:Nat):byteOf f (k/8)|||2^(k%8)=byteOf (kh f k true) (k/8):=by
 refine Tu _ _ _ (Tv _ (xo _ _) _ ?_) fun j aZ=> ?_
 · have:k%8<8:=r8 _ (by omega)
   have:=Nat.pow_lt_pow_right (a:=2) (by omega) this
   simpa using this
 · rw[Cs,FB _ _ _ aZ,JP,kh]
   by_cases h:8*(k/8)+j=k
   · rw[if_pos h]
     have:k%8=j:=by omega
     simp[this]
   · rw[if_neg h]
     have:¬k%8=j:=by omega
     simp[this]
theorem amc (f:Nat→Bool) (k:Nat):byteOf f (k/8)&&&(255-2^(k%8))=byteOf (kh f k false) (k/8):=by
 refine Tu _ _ _ (Nat.lt_of_le_of_lt Nat.and_le_left (xo _ _)) fun j aZ=> ?_
 rw[Nat.testBit_and,FB _ _ _ aZ,al9 _ (r8 _ (by omega)) _ aZ,kh]
 by_cases h:8*(k/8)+j=k
 · rw[if_pos h]
   have:j=k%8:=by omega
   simp[this]
 · rw[if_neg h]
   have:¬j=k%8:=by omega
   simp[this]
theorem amd (f:Nat→Bool) (k i:Nat) (b:Bool) (h:i≠k/8):byteOf (kh f k b) i=byteOf f i:=by
 have e:∀j,j<8→kh f k b (8*i+j)=f (8*i+j):=fun j aZ=>by
   unfold kh
   rw[if_neg]
   omega
 unfold byteOf
 rw[e 1 (by omega),e 2 (by omega),e 3 (by omega),e 4 (by omega),e 5 (by omega),e 6 (by omega),e 7 (by omega)]
 have:=e 0 (by omega)
 simp only[z7] at this
 rw[this]
def lp (f:Nat→Bool) (m:Nat):List Value:=(List.range m).map fun i=> .int .u8 (byteOf f i)
theorem Tw (f:Nat→Bool) (m:Nat):(lp f m).length=m:=by simp[lp]
theorem FC (f:Nat→Bool) {m i:Nat} (h:i<m):(lp f m)[i]? =some (.int .u8 (byteOf f i)):=by simp[lp,h]
theorem aae (f:Nat→Bool) (k m:Nat) (b:Bool):(lp f m).set (k/8) (.int .u8 (byteOf (kh f k b) (k/8)))=lp (kh f k b) m:=by
 apply List.ext_getElem?
 intro i
 rw[List.getElem?_set]
 by_cases hi:i<m
 · rw[FC (kh f k b) hi]
   by_cases h:k/8=i
   · subst h
     simp[Tw,hi]
   · rw[if_neg h,FC _ hi,amd f k i b (by omega)]
 · have U:(lp (kh f k b) m)[i]? =none:=by simp[lp];omega
   have ad:(lp f m)[i]? =none:=by simp[lp];omega
   rw[U,ad]
   split
   · simp[Tw];omega
   · rfl
end
section
theorem aaf (k:Nat):Int.tdiv (k:Int) 8=((k/8:Nat):Int):=by
 rw[Int.tdiv_eq_ediv_of_nonneg (by omega)];omega
theorem Tx (k:Nat):Int.tmod (k:Int) 8=((k%8:Nat):Int):=by
 rw[Int.tmod_eq_emod_of_nonneg (by omega)];omega
theorem Ty {k:Nat} (h:k≤9223372036854775807):IntKind.wrap .i64 (Int.tdiv (k:Int) 8)=((k/8:Nat):Int):=by
 rw[aaf,cL (by omega) (by omega)]
theorem aag {s:ab} {b:Nat} (h:s.a=some ⟨b,0,none⟩):aQ s b:=⟨_,h,rfl⟩
theorem HS {w:World} {s:ab} {f:Nat→Bool} {m k:Nat} (h:bX 1 ah.uint8 w s (lp f m)) (ae:k/8<m) (dW:k≤9223372036854775807):
   aP Tryz.prog F.uj #[.slice s.a s.len s.cap, .int .i64 k] w (fun v w'=>v= .bool (f k)∧w=w'):=by
 refine W.ame s k w _ ?_
 (delta W.uj bc aE iC;dsimp only)
 obtain ⟨b,c,aa,jf,fq,hi,Tz,ak,_⟩:=h.cell (FC f ae)
 refine ⟨by decide,_,aa,?_⟩
 rw[Ty dW,Tx]
 refine ⟨⟨by omega,by omega⟩,(byteOf f (k/8):Int),?_,by decide,by omega,?_,rfl⟩
 · rw[lQ,g_,aX,gJ];exact ak
 · rw[al6 _ (xo _ _) _ (r8 _ (by omega)),FB _ _ _ (r8 _ (by omega)),ama]
theorem aah {w:World} {s:ab} {f:Nat→Bool} {m k:Nat} (h:bX 1 ah.uint8 w s (lp f m)) (ae:k/8<m) (dW:k≤9223372036854775807):
   aP Tryz.prog F.AX #[.slice s.a s.len s.cap, .int .i64 k] w (fun v w'=>v= .tuple #[]∧bX 1 ah.uint8 w' s (lp (kh f k true) m)∧ao (aQ s) w w'):=by
 refine W.amf s k w _ ?_
 (delta W.AX az bc aE iC st;dsimp only)
 obtain ⟨b,c,aa,jf,fq,hi,Tz,ak,_⟩:=h.cell (FC f ae)
 have aR:(Addr.mk b 0 none).add (Int.toNat ((k/8:Nat):Int)*1)=⟨b,k/8,none⟩:=by rw[lQ,g_,aX,gJ]
 rw[Ty dW,Tx]
 refine ⟨by decide,_,aa,⟨by omega,by omega⟩,by simp,(byteOf f (k/8):Int),by rw[aR];exact ak,by decide,by omega,_,aa,⟨by omega,by omega⟩,⟨_,by rw[aR];exact ak⟩,by rw[aR];exact jf.drew.frozen _ rfl,rfl,?_,?_⟩
 · rw[aR,al7 _ (xo _ _) _ (r8 _ (by omega)),amb,←aae]
   have qk:bX 1 ah.uint8 w.drew s (lp f m):=h.an (W:=fun _=>False) (ao.drew (.refl _ _)) (fun _ _ h=>h)
   exact qk.set aa _
 · rw[aR]
   exact ao.set (ao.drew (.refl _ _)) (fun _=>aag aa) _
theorem amg {w:World} {s:ab} {f:Nat→Bool} {m k:Nat} (h:bX 1 ah.uint8 w s (lp f m)) (ae:k/8<m) (dW:k≤9223372036854775807):
   aP Tryz.prog F.Dq #[.slice s.a s.len s.cap, .int .i64 k] w (fun v w'=>v= .tuple #[]∧bX 1 ah.uint8 w' s (lp (kh f k false) m)∧ao (aQ s) w w'):=by
 refine W.amh s k w _ ?_
 (delta W.Dq az bc aE iC st;dsimp only)
 obtain ⟨b,c,aa,jf,fq,hi,Tz,ak,_⟩:=h.cell (FC f ae)
 have aR:(Addr.mk b 0 none).add (Int.toNat ((k/8:Nat):Int)*1)=⟨b,k/8,none⟩:=by rw[lQ,g_,aX,gJ]
 rw[Ty dW,Tx]
 refine ⟨by decide,_,aa,⟨by omega,by omega⟩,by simp,(byteOf f (k/8):Int),by rw[aR];exact ak,by decide,by omega,_,aa,⟨by omega,by omega⟩,⟨_,by rw[aR];exact ak⟩,by rw[aR];exact jf.drew.frozen _ rfl,rfl,?_,?_⟩
 · rw[aR,al8 _ (xo _ _) _ (r8 _ (by omega)),amc,←aae]
   have qk:bX 1 ah.uint8 w.drew s (lp f m):=h.an (W:=fun _=>False) (ao.drew (.refl _ _)) (fun _ _ h=>h)
   exact qk.set aa _
 · rw[aR]
   exact ao.set (ao.drew (.refl _ _)) (fun _=>aag aa) _
structure lI (w:World) (b n:Nat) (f g:Nat→Bool) (s1 s2:ab):Prop where
 c1:cj w b #[.int .i64 n, .slice s1.a s1.len s1.cap, .slice s2.a s2.len s2.cap] ah.Dr
 now:bX 1 ah.uint8 w s1 (lp f ((n+7)/8))
 sure:bX 1 ah.uint8 w s2 (lp g ((n+7)/8))
 d1:∀k,aQ s1 k→k≠b∧¬aQ s2 k
 d2:∀k,aQ s2 k→k≠b
 dc:1≤n
 c7:n≤1600
 FD:∀i,n≤i→f i=false
 h5:∀i,n≤i→g i=false
def m5 (b:Nat) (s1 s2:ab) (k:Nat):Prop:=k=b∨aQ s1 k∨aQ s2 k
section
variable {w w':World} {b n:Nat} {f g:Nat→Bool} {s1 s2:ab}
theorem lI.an {W:Nat→Prop} (h:lI w b n f g s1 s2) (ak:ao W w w') (aD:∀k,m5 b s1 s2 k→¬W k):lI w' b n f g s1 s2:=
 ⟨h.c1.an ak (aD b (.inl rfl)),h.now.an ak fun k ae=>aD k (.inr (.inl ae)),h.sure.an ak fun k ae=>aD k (.inr (.inr ae)),h.d1,h.d2,h.dc,h.c7,h.FD,h.h5⟩
theorem lI.ext (h:lI w b n f g s1 s2) (ak:Ext w w'):lI w' b n f g s1 s2:=h.an ak fun _ _ h=>h
theorem lI.lt (h:lI w b n f g s1 s2):∀k,m5 b s1 s2 k→k<w.heap.size:=by
 rintro k (rfl|ae|ae)
 · exact h.c1.lt
 · exact h.now.lt k ae
 · exact h.sure.lt k ae
theorem lI.cK (h:lI w b n f g s1 s2):w.cell? ⟨b,0,none⟩=some (.int .i64 n):=by rw[h.c1.cell];rfl
theorem lI.bm (h:lI w b n f g s1 s2):w.cell? ((Addr.mk b 0 none).add 1)=some (.slice s1.a s1.len s1.cap):=by rw[aX,h.c1.cell];rfl
theorem lI.bj (h:lI w b n f g s1 s2):w.cell? ((Addr.mk b 0 none).add 2)=some (.slice s2.a s2.len s2.cap):=by rw[aX,h.c1.cell];rfl
theorem ami (h:lI w b n f g s1 s2) {k:Nat} (ae:k<n):
   aP Tryz.prog F.Ds #[.pointer (some ⟨b,0,none⟩), .int .i64 k] w (fun v w'=>v= .bool (f k||g k)∧w=w'):=by
 have aD:=h.c7
 refine W.amj _ k w _ ?_
 (delta W.Ds ar bk aF;dsimp only)
 refine ⟨_,rfl,s1,h.bm,(HS h.now (k:=k) (by omega) (by omega)).use ?_⟩
 rintro _ _ ⟨rfl,rfl⟩
 refine ⟨_,rfl,⟨fun aA=>⟨by rw[aA];rfl,rfl⟩,fun aA=>⟨_,rfl,s2,h.bj,(HS h.sure (k:=k) (by omega) (by omega)).use ?_⟩⟩⟩
 rintro _ _ ⟨rfl,rfl⟩
 exact ⟨_,rfl,by rw[aA];rfl,rfl⟩
theorem aai (h:lI w b n f g s1 s2) (k:Int):
   aP Tryz.prog F.AY #[.pointer (some ⟨b,0,none⟩), .int .i64 k] w (fun v w'=>v= .bool (decide (0≤k)&&decide (k<n))∧w=w'):=by
 refine W.amk _ k w _ ?_
 (delta W.AY aF bD;dsimp only)
 refine ⟨?_⟩
 refine ⟨fun U=>⟨_,rfl,n,h.cK,?_,rfl⟩,fun U=>⟨?_,rfl⟩⟩
 · have:0≤k:=by simpa using U
   simp[this]
 · have:¬0≤k:=by simpa using U
   simp[this]
def firstFree (t:Nat→Bool) (n:Nat):Option Nat:=(List.range n).find? fun i=> !t i
theorem aml {t:Nat→Bool} {n k:Nat} (ae:k<n) (aU:t k=false) (aB:∀i,i<k→t i=true):firstFree t n=some k:=by
 unfold firstFree
 rw[List.find?_eq_some_iff_append]
 refine ⟨by simp[aU],List.range k,(List.range' (k+1) (n-(k+1))),?_,fun a aR=> ?_⟩
 · have ba:=List.range'_append (s:=0) (m:=k) (n:=n-(k+1)+1) (step:=1)
   rw[NA,NA,←List.range'_succ]
   rw[Nat.one_mul,gJ] at ba
   rw[ba]
   congr 1
   omega
 · simp[aB a (wi.1 aR)]
theorem amm {t:Nat→Bool} {n:Nat} (aB:∀i,i<n→t i=true):firstFree t n=none:=by
 unfold firstFree
 rw[rv]
 intro a aR
 simp[aB a (wi.1 aR)]
theorem amn {t:Nat→Bool} {n k:Nat} (h:firstFree t n=some k):k<n∧t k=false∧∀i,i<k→t i=true:=by
 unfold firstFree at h
 obtain ⟨U,pS,fj,ad,aq⟩:=List.find?_eq_some_iff_append.1 h
 have ae:k<n:=wi.1 (by rw[ad];simp)
 refine ⟨ae,by simpa using U,fun i hi=> ?_⟩
 have hlen:pS.length=k:=by
   have aK:(List.range n)[pS.length]? =some k:=by rw[ad];simp
   rw[List.getElem?_range (by
     have:=congrArg List.length ad
     simp at this
     omega)] at aK
   simpa using aK
 have aW:(List.range n)[i]? =some i:=List.getElem?_range (by omega)
 rw[ad,List.getElem?_append_left (by omega)] at aW
 have:=aq i (List.mem_of_getElem? aW)
 simpa using this
theorem amo {t:Nat→Bool} {n:Nat} (h:firstFree t n=none):∀i,i<n→t i=true:=by
 unfold firstFree at h
 rw[rv] at h
 intro i hi
 have:=h i (wi.2 hi)
 simpa using this
def amp (o:Option Nat):Value:=
 match o with
 |some k=> .tuple #[.int .i64 (k:Int), .int .i64 0]
 |none=> .tuple #[.int .i64 (-1), .int .i64 2]
def amq (o:Option Nat) (f:Nat→Bool):Nat→Bool:=
 match o with
 |some k=>kh f k true
 |none=>f
theorem aaj {f:Nat→Bool} {n k:Nat} {x:Bool} (h:∀i,n≤i→f i=false) (ae:k<n):∀i,n≤i→kh f k x i=false:=fun i hi=>by
 unfold kh
 rw[if_neg (by omega)]
 exact h i hi
theorem amr (h:lI w b n f g s1 s2):
   aP Tryz.prog F.Dt #[.pointer (some ⟨b,0,none⟩)] w (fun v w'=>v=amp (firstFree (fun i=>f i||g i) n)∧lI w' b n (amq (firstFree (fun i=>f i||g i) n) f) g s1 s2∧ao (m5 b s1 s2) w w'):=by
 have nn:=h.c7
 refine W.ams _ w _ ?_
 (delta W.Dt aF bD bk ar bm aE;dsimp only)
 refine ⟨fun U=>by simp at U,fun _=>⟨_,rfl,n,h.cK,fun i w'=>∃k:Nat,i=k∧k≤n∧w=w'∧∀j,j<k→(f j||g j)=true,fun i _=>(n-i).toNat,⟨0,rfl,by omega,rfl,fun j aZ=>by omega⟩,?_⟩⟩
 rintro _ _ ⟨k,rfl,ae,rfl,gj⟩
 refine ⟨fun a6=>(ami h (k:=k) (by simpa using a6)).use ?_,fun cm=> ?_⟩
 · have y8:k<n:=by simpa using a6
   rintro _ _ ⟨rfl,rfl⟩
   refine ⟨_,rfl,fun aU=>⟨_,rfl,s1,h.bm,(aah h.now (k:=k) (by omega) (by omega)).use ?_⟩,fun aU=> ?_⟩
   · rintro _ w' ⟨rfl,lk,ak⟩
     have AA:(f k||g k)=false:=by simpa using aU
     have yO:=aml (t:=fun i=>f i||g i) y8 AA gj
     rw[yO]
     refine ⟨rfl,rfl,⟨h.c1.an ak fun aa=>(h.d1 b aa).1 rfl,lk,h.sure.an ak fun k ae U=>(h.d1 k U).2 ae,h.d1,h.d2,h.dc,h.c7,aaj h.FD y8,h.h5⟩,ak.mono fun k _ ae=> .inr (.inl ae)⟩
   · have AA:(f k||g k)=true:=by cases af:(f k||g k)<;>simp[af] at aU⊢
     rw[cL (by omega) (by omega)]
     refine ⟨⟨k+1,by omega,by omega,rfl,fun j aZ=> ?_⟩,(show ((n:Int)-((k:Int)+1)).toNat<((n:Int)-(k:Int)).toNat by omega)⟩
     rcases hJ j k with U|U
     · exact gj j U
     · have:j=k:=by omega
       subst this;exact AA
 · have y8:k=n:=by
     have:¬(k:Int)<n:=by simpa using cm
     omega
   subst y8
   rw[amm gj]
   exact ⟨rfl,h, .refl _ _⟩
def OY (f:Nat→Bool) (n:Nat) (k:Int):Int:=if 0≤k∧k<n then (if f k.toNat then 0 else 6) else 1
def HT (f:Nat→Bool) (n:Nat) (k:Int):Nat→Bool:=if 0≤k∧k<n then kh f k.toNat false else f
theorem amt {f:Nat→Bool} {k:Nat} {x:Bool} (h:f k=x):kh f k x=f:=by
 funext i
 unfold kh
 split
 · rename_i hi;rw[hi,h]
 · rfl
theorem amu (h:lI w b n f g s1 s2) (k:Int):
   aP Tryz.prog F.Du #[.pointer (some ⟨b,0,none⟩), .int .i64 k] w (fun v w'=>v= .int .i64 (OY f n k)∧lI w' b n (HT f n k) g s1 s2∧ao (m5 b s1 s2) w w'):=by
 have nn:=h.c7
 refine W.amv _ k w _ ?_
 (delta W.Du bk aF ar bm;dsimp only)
 refine (aai h k).use ?_
 rintro _ _ ⟨rfl,rfl⟩
 refine ⟨_,rfl,fun U=> ?_,fun U=> ?_⟩
 · have:¬(0≤k∧k<n):=by
     rintro ⟨ad,aq⟩
     simp[ad,aq] at U
   exact ⟨by rw[OY,if_neg this],by rw[HT,if_neg this];exact h, .refl _ _⟩
 · have aY:0≤k∧k<n:=by simpa using U
   obtain ⟨m,rfl⟩:=RL aY.1
   have hm:m<n:=by omega
   refine ⟨_,rfl,s1,h.bm,(HS h.now (k:=m) (by omega) (by omega)).use ?_⟩
   rintro _ _ ⟨rfl,rfl⟩
   refine ⟨_,rfl,fun ad=> ?_,fun ad=>⟨_,rfl,s1,h.bm,(amg h.now (k:=m) (by omega) (by omega)).use ?_⟩⟩
   · have aA:f m=false:=by simpa using ad
     refine ⟨by rw[OY,if_pos aY,g_,aA];rfl,?_, .refl _ _⟩
     rw[HT,if_pos aY,g_,amt aA]
     exact h
   · rintro _ w' ⟨rfl,lk,ak⟩
     have aA:f m=true:=by simpa using ad
     refine ⟨rfl,by rw[OY,if_pos aY,g_,aA];rfl,?_,ak.mono fun k _ ae=> .inr (.inl ae)⟩
     rw[HT,if_pos aY,g_]
     exact ⟨h.c1.an ak fun aa=>(h.d1 b aa).1 rfl,lk,h.sure.an ak fun k ae U=>(h.d1 k U).2 ae,h.d1,h.d2,h.dc,h.c7,aaj h.FD hm,h.h5⟩
theorem amw (h:lI w b n f g s1 s2) (k:Int):
   aP Tryz.prog F.Dv #[.pointer (some ⟨b,0,none⟩), .int .i64 k] w (fun v w'=>v= .bool (decide (0≤k)&&decide (k<n)&&f k.toNat&& !(g k.toNat))∧w=w'):=by
 have nn:=h.c7
 refine W.amx _ k w _ ?_
 (delta W.Dv bk aF ar;dsimp only)
 refine (aai h k).use ?_
 rintro _ _ ⟨rfl,rfl⟩
 refine ⟨_,rfl,⟨fun U=> ?_,fun U=>⟨(fun h=>by cases h),fun _=>⟨by rw[U];rfl,rfl⟩⟩⟩⟩
 have aY:0≤k∧k<n:=by simpa using U
 obtain ⟨m,rfl⟩:=RL aY.1
 refine ⟨_,rfl,s1,h.bm,(HS h.now (k:=m) (by omega) (by omega)).use ?_⟩
 rintro _ _ ⟨rfl,rfl⟩
 refine ⟨_,rfl,fun ad=>⟨_,rfl,s2,h.bj,(HS h.sure (k:=m) (by omega) (by omega)).use ?_⟩,fun ad=>⟨by rw[U,g_,ad];rfl,rfl⟩⟩
 rintro _ _ ⟨rfl,rfl⟩
 exact ⟨_,rfl,by rw[U,g_,ad];rfl,rfl⟩
end
end
section
theorem amy:qi Tryz.prog ah.K3 ah.uint8 1 1:=⟨by kernel_rfl⟩
theorem amz:qi Tryz.prog ah.eY ah.int 1 8:=⟨by kernel_rfl⟩
theorem amA (n:Nat):pQ Tryz.prog ah.uint8 n=(List.replicate n (.int .u8 0)).toArray:=Yo (by kernel_rfl) (by kernel_rfl) n
theorem amB (f:Nat→Bool) (m:Nat):∀v∈lp f m,Plain v:=by
 intro v al
 obtain ⟨i,_,rfl⟩:=lR.1 al
 trivial
theorem amC {w:World} {s:ab} {xs:List Value} (h:Src 1 w s xs) (aV:∀v∈xs,Plain v) (aD:s.len≤1000000):
   aP Tryz.prog F.Dw #[.slice s.a s.len s.cap] w (fun v w'=>∃au:ab,v= .slice au.a au.len au.cap∧bX 1 ah.uint8 w' au xs∧Ext w w'∧∀k,aQ au k→w.heap.size≤k):=by
 refine W.amD s w _ ?_
 delta W.Dw az aF ai
 refine ⟨fun aR=> ?_,fun _=> ?_⟩
 · have aR:s.a=none:=by simpa using aR
   rw[h.nil aR]
   exact ⟨⟨none,0,0⟩,rfl,bX.none _ _ _, .refl _ _,fun k ae=>(rD k ae).elim⟩
 · obtain ⟨au,w',U,ad,aq,aK,aW,_⟩:=amy.clone (ew:=ah.K3) h aV (by omega)
   exact ⟨au,w',U,au,rfl,ad,aK,aW⟩
section
variable {w w':World} {b n:Nat} {f g:Nat→Bool} {s1 s2:ab}
theorem TA {T:TypeId} {m:Nat} (h:bX 1 T w s1 (lp f m)):s1.len=m:=by
 have:=h.1
 rw[Tw] at this
 omega
theorem aak {m:Nat} {u:Value} (aa:cj w b #[.int .i64 n, .slice s1.a s1.len s1.cap,u] ah.Dr) (U:bX 1 ah.uint8 w s1 (lp f m)) (hd:∀k,aQ s1 k→k≠b) (hm:m≤1000000):
   aP Tryz.prog F.y9 #[.pointer (some ⟨b,0,none⟩)] w (fun v w'=>v= .tuple #[]∧∃rO:ab,cj w' b #[.int .i64 n, .slice s1.a s1.len s1.cap, .slice rO.a rO.len rO.cap] ah.Dr∧
     bX 1 ah.uint8 w' s1 (lp f m)∧bX 1 ah.uint8 w' rO (lp f m)∧ao (fun k=>k=b) w w'∧∀k,aQ rO k→w.heap.size≤k):=by
 refine W.amE _ w _ ?_
 (delta W.y9 az aF ar dZ st;dsimp only)
 refine ⟨fun _=>⟨_,rfl,s1,by rw[aX,aa.cell];rfl,(amC U.src (amB f m) (by rw[TA U];exact hm)).use ?_⟩,fun h=>by simp at h⟩
 rintro _ aw ⟨rO,rfl,ad,af,aA⟩
 have gO:=aa.ext af
 have dN:∀k,aQ rO k→k≠b:=fun k ae e=>by have:=aA k ae;have:=aa.lt;omega
 refine ⟨rO,rfl,_,rfl,⟨_,by rw[aX,gO.cell];rfl⟩,gO.frozen _ rfl,rfl,rO,?_,?_,?_,?_,aA⟩
 · rw[aX];exact gO.set 2 _
 · exact (U.ext af).an (W:=fun k=>k=b) (ao.set (.refl _ _) (fun _=>by rw[aX]) _) hd
 · exact ad.an (W:=fun k=>k=b) (ao.set (.refl _ _) (fun _=>by rw[aX]) _) dN
 · exact (ao.eN af).set (fun _=>by rw[aX]) _
theorem amF (h:lI w b n f g s1 s2):
   aP Tryz.prog F.y9 #[.pointer (some ⟨b,0,none⟩)] w (fun v w'=>v= .tuple #[]∧∃rO:ab,lI w' b n f f s1 rO∧ao (m5 b s1 s2) w w'∧∀k,m5 b s1 rO k→m5 b s1 s2 k∨w.heap.size≤k):=by
 have aD:=h.c7
 refine (aak h.c1 h.now (fun k ae=>(h.d1 k ae).1) (by omega)).mono ?_
 rintro _ w' ⟨rfl,rO,U,ad,aq,aK,aW⟩
 refine ⟨rfl,rO,⟨U,ad,aq,fun k ae=>⟨(h.d1 k ae).1,fun dW=> ?_⟩,fun k ae e=> ?_,h.dc,h.c7,h.FD,h.FD⟩,aK.mono fun k _ ae=> .inl ae,fun k ae=> ?_⟩
 · have:=aW k dW;have:=h.now.lt k ae;omega
 · have:=aW k ae;have:=h.c1.lt;omega
 · rcases ae with rfl|ae|ae
   · exact .inl (.inl rfl)
   · exact .inl (.inr (.inl ae))
   · exact .inr (aW k ae)
def HU (x:Nat):Nat:=(x.testBit 0).toNat+(x.testBit 1).toNat+(x.testBit 2).toNat+(x.testBit 3).toNat+(x.testBit 4).toNat+(x.testBit 5).toNat+(x.testBit 6).toNat+(x.testBit 7).toNat
def mL (t:Nat→Bool):Nat→Nat
 |0=>0
 |k+1=>mL t k+(t k).toNat
theorem HV (t:Nat→Bool):∀k,mL t k≤k
 |0=>cP _
 |k+1=>by have:=HV t k;have:=Bool.toNat_le (t k);simp only[mL];omega
theorem amG (t:Nat→Bool) (i:Nat):mL t (8*(i+1))=mL t (8*i)+HU (byteOf t i):=by
 have h:∀j,j<8→(byteOf t i).testBit j=t (8*i+j):=fun j aZ=>FB t i j aZ
 unfold HU
 rw[h 0 (by omega),h 1 (by omega),h 2 (by omega),h 3 (by omega),h 4 (by omega),h 5 (by omega),h 6 (by omega),h 7 (by omega)]
 show mL t (8*i+7+1)=_
 simp only[mL,z7]
 omega
theorem aal (t:Nat→Bool) (n:Nat) (h:∀i,n≤i→t i=false):∀k,mL t (n+k)=mL t n
 |0=>rfl
 |k+1=>by
   have:=aal t n h k
   show mL t (n+k)+(t (n+k)).toNat=_
   rw[this,h (n+k) (by omega)]
   rfl
theorem amH:∀x:Nat,x<256→(TB (ByteArray.mk #[0,1,1,2,1,2,2,3,1,2,2,3,2,3,3,4,1,2,2,3,2,3,3,4,2,3,3,4,3,4,4,5,1,2,2,3,2,3,3,4,2,3,3,4,3,4,4,5,2,3,3,4,3,4,4,5,3,4,4,5,4,5,5,6,1,2,2,3,2,3,3,4,2,3,3,4,3,4,4,5,2,3,3,4,3,4,4,5,3,4,4,5,4,5,5,6,2,3,3,4,3,4,4,5,3,4,4,5,4,5,5,6,3,4,4,5,4,5,5,6,4,5,5,6,5,6,6,7,1,2,2,3,2,3,3,4,2,3,3,4,3,4,4,5,2,3,3,4,3,4,4,5,3,4,4,5,4,5,5,6,2,3,3,4,3,4,4,5,3,4,4,5,4,5,5,6,3,4,4,5,4,5,5,6,4,5,5,6,5,6,6,7,2,3,3,4,3,4,4,5,3,4,4,5,4,5,5,6,3,4,4,5,4,5,5,6,4,5,5,6,5,6,6,7,3,4,4,5,4,5,5,6,4,5,5,6,5,6,6,7,4,5,5,6,5,6,6,7,5,6,6,7,6,7,7,8]) x).map (·.toNat)=some (HU x):=by decide+kernel
theorem aam (x:Nat):HU x≤8:=by
 unfold HU
 have h:∀b:Bool,b.toNat≤1:=Bool.toNat_le
 have:=h (x.testBit 0);have:=h (x.testBit 1);have:=h (x.testBit 2);have:=h (x.testBit 3)
 have:=h (x.testBit 4);have:=h (x.testBit 5);have:=h (x.testBit 6);have:=h (x.testBit 7)
 omega
theorem amI (w:World) (x:Nat) (af:x<256):aP Tryz.prog F.Dx #[.int .u8 x] w (fun v w'=>v= .int .i64 (HU x)∧w=w'):=by
 refine W.amJ x w _ ?_
 delta W.Dx aE
 have h:=amH x af
 refine ⟨by omega,?_⟩
 cases aa:TB _ x with
 |none=>rw[aa] at h;cases h
 |some y=>
   rw[aa] at h
   simp only[yc,Option.some.injEq] at h
   refine ⟨y,aa,?_,rfl⟩
   rw[h,cL (by omega) (by have:=aam x;omega)]
theorem amK (f g:Nat→Bool) (i:Nat):byteOf f i|||byteOf g i=byteOf (fun k=>f k||g k) i:=
 Tu _ _ _ (Tv _ (xo _ _) _ (xo _ _)) fun j aZ=>by rw[Cs,FB _ _ _ aZ,FB _ _ _ aZ]
theorem TC (h:lI w b n f g s1 s2):
   aP Tryz.prog F.y_ #[.pointer (some ⟨b,0,none⟩)] w (fun v w'=>v= .int .i64 ((n:Int)-mL (fun i=>f i||g i) n)∧Ext w w'):=by
 have nn:=h.c7
 have rA:=TA h.now
 have Z8:=TA h.sure
 refine W.amL _ w _ ?_
 (delta W.y_ az aF bD ar bc iC bj aE;dsimp only)
 refine ⟨fun U=>by simp at U,fun _=>⟨_,rfl,n,h.cK,_,rfl,s1,h.bm,fun r i w'=>∃k:Nat,i=k∧k≤s1.len∧Ext w w'∧r=(n:Int)-mL (fun i=>f i||g i) (8*k),fun _ i _=>((s1.len:Int)-i).toNat,⟨0,rfl,by omega, .refl _ _,by simp[mL]⟩,?_⟩⟩
 rintro _ _ ag ⟨k,rfl,ae,af,rfl⟩
 refine ⟨fun a6=> ?_,fun cm=> ?_⟩
 · have y8:k<s1.len:=by simpa using a6
   have U:=h.ext af.drew
   obtain ⟨c3,bm,ox,avU,_,_,_,gF,_⟩:=U.now.cell (FC f (i:=k) (by omega))
   obtain ⟨cG,bj,gO,avV,_,_,_,dh,_⟩:=U.sure.cell (FC g (i:=k) (by omega))
   have aR:∀b:Nat,(Addr.mk b 0 none).add (Int.toNat (k:Int)*1)=⟨b,k,none⟩:=fun b=>by rw[lQ,g_,aX,gJ]
   refine ⟨fun _=>False,_,rfl,by simp,s1,U.bm,_,ox,by omega,by simp,_,by rw[aR];exact gF,_,rfl,by simp,s2,U.bj,_,gO,by omega,by simp,_,by rw[aR];exact dh,?_⟩
   rw[al_ _ _ (xo _ _) (xo _ _),amK]
   refine (amI _ _ (xo _ _)).use ?_
   rintro _ _ ⟨rfl,rfl⟩
   have:=aam (byteOf (fun i=>f i||g i) k)
   have:=HV (fun i=>f i||g i) (8*k)
   refine ⟨_,rfl, .refl _ _,?_⟩
   rw[cL (n:=(n:Int)-_-_) (by omega) (by omega),cL (n:=(k:Int)+1) (by omega) (by omega)]
   exact ⟨⟨k+1,by omega,by omega,af.drew,by rw[amG];omega⟩,(show ((s1.len:Int)-((k:Int)+1)).toNat<((s1.len:Int)-(k:Int)).toNat by omega)⟩
 · have y8:k=s1.len:=by
     have:¬(k:Int)<s1.len:=by simpa using cm
     omega
   refine ⟨?_,af⟩
   have e:8*k=n+(8*k-n):=by omega
   rw[e,aal _ _ (fun i hi=>by simp[h.FD i hi,h.h5 i hi])]
def uk (f:Nat→Bool):Nat→List Int
 |0=> []
 |k+1=>uk f k++(if f k then [(k:Int)] else [])
def Dy (f:Nat→Bool) (k:Nat):List Value:=(uk f k).map (.int .i64)
theorem aan (f:Nat→Bool):∀k,(uk f k).length≤k
 |0=>cP _
 |k+1=>by have:=aan f k;simp only[uk,eC];split<;>simp<;>omega
theorem amM (h:lI w b n f g s1 s2):
   aP Tryz.prog F.Dz #[.pointer (some ⟨b,0,none⟩)] w (fun v w'=>∃s:ab,v= .slice s.a s.len s.cap∧bX 1 ah.int w' s (Dy f n)∧Ext w w'∧∀k,aQ s k→w.heap.size≤k):=by
 have nn:=h.c7
 refine W.amN _ w _ ?_
 (delta W.Dz az aF bD ar bk OZ ai aE;dsimp only)
 refine ⟨fun U=>by simp at U,fun _=>⟨_,rfl,n,h.cK,fun s i w'=>∃k:Nat,i=k∧k≤n∧Ext w w'∧bX 1 ah.int w' s (Dy f k)∧∀k,aQ s k→w.heap.size≤k,fun _ i _=>((n:Int)-i).toNat,
   ⟨0,rfl,by omega, .refl _ _,bX.none _ _ _,fun k ae=>(rD k ae).elim⟩,?_⟩⟩
 rintro s _ ag ⟨k,rfl,ae,af,lk,eR⟩
 refine ⟨fun a6=> ?_,fun cm=> ?_⟩
 · have y8:k<n:=by simpa using a6
   have U:=h.ext af
   refine ff (fun au w'=>Ext w w'∧bX 1 ah.int w' au (Dy f (k+1))∧∀k,aQ au k→w.heap.size≤k) (fun q J=>⟨_,rfl,s1,U.bm,(HS U.now (k:=k) (by omega) (by omega)).use ?_⟩) ?_
   · rintro _ _ ⟨rfl,rfl⟩
     refine ⟨_,rfl,fun aA=> ?_,fun aA=> ?_⟩
     · have hlen:s.len≤k:=by
         have:=lk.1
         have:=aan f k
         simp[Dy] at*
         omega
       obtain ⟨au,w',U,ad,aq,aK,aW⟩:=amz.push (ew:=ah.eY) (xs:=[.int .i64 k]) rfl lk (by simp[Plain]) (by omega)
       refine ⟨au,w',U,J _ _ ⟨?_,?_,?_⟩⟩
       · exact ((ao.eN af).trans aK).mono fun k ae bG=>by have:=eR k bG;omega
       · simpa[Dy,uk,aA] using ad
       · intro j aZ
         rcases aW j aZ with aZ|aZ
         · exact eR j aZ
         · have:=af.size;omega
     · exact J _ _ ⟨af,by simpa[Dy,uk,aA] using lk,eR⟩
   · rintro au w' ⟨J5,amO,TD⟩
     rw[cL (by omega) (by omega)]
     exact ⟨⟨k+1,by omega,by omega,J5,amO,TD⟩,(show ((n:Int)-((k:Int)+1)).toNat<((n:Int)-(k:Int)).toNat by omega)⟩
 · have y8:k=n:=by
     have:¬(k:Int)<n:=by simpa using cm
     omega
   subst y8
   exact ⟨s,rfl,lk,af,eR⟩
end
theorem amP (w:World) (n:Int):aP Tryz.prog F.DA #[.int .i64 n] w (fun v w'=>v= .bool (decide (1≤n∧n≤1600))∧w=w'):=by
 refine W.amQ n w _ ?_
 unfold W.DA
 refine ⟨?_,rfl⟩
 simp[Bool.decide_and]
theorem amR (w:World) (n:Nat) (aD:n≤1600):aP Tryz.prog F.DB #[.int .i64 n] w (fun v w'=>v= .int .i64 (((n+7)/8:Nat):Int)∧w=w'):=by
 refine W.amS n w _ ?_
 delta W.DB aE
 refine ⟨by decide,?_,rfl⟩
 rw[cL (n:=(n:Int)+8) (by omega) (by omega),cL (n:=(n:Int)+8-1) (by omega) (by omega),show (n:Int)+8-1=((n+7:Nat):Int) by omega,aaf,cL (by omega) (by omega)]
theorem amT (m:Nat):lp (fun i=>decide (i<0)) m=List.replicate m (.int .u8 0):=by
 apply List.ext_getElem
 · simp[lp]
 · intro i U ad
   simp[lp,byteOf,xn]
theorem amU (j:Nat):kh (fun i=>decide (i<j)) j true=fun i=>decide (i<j+1):=by
 funext i
 unfold kh
 split
 · rename_i h;simp[h]
 · rename_i h;simp;omega
theorem za (w:World) (n first:Int):
   aP Tryz.prog F.za #[.int .i64 n, .int .i64 first] w (fun v w'=>(¬(1≤n∧n≤1600∧0≤first∧first≤n)∧v= .tuple #[.pointer none, .int .i64 1]∧w=w')∨
     (1≤n∧n≤1600∧0≤first∧first≤n∧∃b s1 s2,v= .tuple #[.pointer (some ⟨b,0,none⟩), .int .i64 0]∧lI w' b n.toNat (fun i=>decide (i<first.toNat)) (fun i=>decide (i<first.toNat)) s1 s2∧Ext w w'∧∀k,m5 b s1 s2 k→w.heap.size≤k)):=by
 refine W.amV n first w _ ?_
 (delta W.za az bk aF bj yq ai ar bm aE;dsimp only)
 refine (amP w n).use ?_
 rintro _ _ ⟨rfl,rfl⟩
 refine ⟨_,rfl,fun h=> .inl ⟨fun ak=> ?_,rfl,rfl⟩,fun h=> ?_⟩
 · simp at h;omega
 simp at h
 obtain ⟨⟨⟨l0,nn⟩,pM⟩,oW⟩:=h
 obtain ⟨n,rfl⟩:=RL (by omega:0≤n)
 obtain ⟨first,rfl⟩:=RL (by omega:0≤first)
 refine (amR w n (by omega)).use ?_
 rintro _ _ ⟨rfl,rfl⟩
 refine ⟨_,rfl,by omega,?_⟩
 simp only[g_]
 rw[amA]
 obtain ⟨m,hm⟩:∃m,m=(n+7)/8:=⟨_,rfl⟩
 rw[←hm]
 have lk:=bX.new (sz:=1) (T:=ah.uint8) w (List.replicate m (.int .u8 0)) m (by simp) (by show m≤2^63-1;omega)
 rw[←amT] at lk⊢
 have ay:Ext w (w.alloc (.cells (lp (fun i=>decide (i<0)) m).toArray ah.uint8)):=ao.alloc (.refl _ _) _
 generalize AQ:w.alloc (.cells (lp (fun i=>decide (i<0)) m).toArray ah.uint8)=ag at*
 have dE:ag.heap.size=w.heap.size+1:=by rw[←AQ];simp
 have jf:=cj.new ag #[.int .i64 (n:Int), .slice (some ⟨w.heap.size,0,none⟩) m m, .slice none 0 0] ah.Dr
 have fc:=ao.alloc ay (.cells #[.int .i64 (n:Int), .slice (some ⟨w.heap.size,0,none⟩) m m, .slice none 0 0] ah.Dr)
 have amW:=lk.ext (ao.alloc (.refl _ ag) (.cells #[.int .i64 (n:Int), .slice (some ⟨w.heap.size,0,none⟩) m m, .slice none 0 0] ah.Dr))
 refine ⟨fun i w'=>∃j:Nat,i=j∧j≤first∧Ext w w'∧cj w' ag.heap.size #[.int .i64 (n:Int), .slice (some ⟨w.heap.size,0,none⟩) m m, .slice none 0 0] ah.Dr∧
   bX 1 ah.uint8 w' ⟨some ⟨w.heap.size,0,none⟩,m,m⟩ (lp (fun i=>decide (i<j)) m),fun i _=>((first:Int)-i).toNat,⟨0,rfl,by omega,fc,jf,amW⟩,?_⟩
 rintro _ aw ⟨j,rfl,aZ,af,gO,sU⟩
 refine ⟨fun a6=> ?_,fun cm=> ?_⟩
 · have E5:j<first:=by simpa using a6
   refine ⟨_,rfl,⟨some ⟨w.heap.size,0,none⟩,m,m⟩,by rw[aX,gO.cell];rfl,(aah sU (k:=j) (by omega) (by omega)).use ?_⟩
   rintro _ a8 ⟨rfl,sj,ak⟩
   rw[amU] at sj
   rw[cL (by omega) (by omega)]
   refine ⟨rfl,⟨j+1,by omega,by omega,?_,gO.an ak ?_,sj⟩,(show ((first:Int)-((j:Int)+1)).toNat<((first:Int)-(j:Int)).toNat by omega)⟩
   · exact ((ao.eN af).trans ak).mono fun k ae bG=>by rw[xp] at bG;simp at bG;omega
   · intro bG
     rw[xp] at bG
     simp at bG
     omega
 · have E5:j=first:=by
     have:¬(j:Int)<first:=by simpa using cm
     omega
   subst E5
   have aao:∀i,n≤i→decide (i<j)=false:=fun i hi=>by simp;omega
   refine (aak gO sU (fun k ae e=> ?_) (by omega)).use ?_
   · rw[xp] at ae
     simp at ae
     omega
   rintro _ a8 ⟨rfl,rO,U,ad,aq,aK,aW⟩
   have Si:=gO.lt
   refine ⟨rfl, .inr ⟨by omega,by omega,by omega,by omega,ag.heap.size,⟨some ⟨w.heap.size,0,none⟩,m,m⟩,rO,rfl,⟨U,?_,?_,fun k ae=>⟨fun e=> ?_,fun dW=> ?_⟩,fun k ae e=> ?_,by omega,by omega,aao,aao⟩,?_,?_⟩⟩
   · simp only[←hm];exact ad
   · simp only[←hm];exact aq
   · rw[xp] at ae
     simp at ae
     omega
   · rw[xp] at ae
     simp at ae
     have:=aW k dW
     omega
   · have:=aW k ae
     omega
   · exact ((ao.eN af).trans aK).mono fun k ae e=>by omega
   · rintro k (rfl|ae|ae)
     · omega
     · rw[xp] at ae
       simp at ae
       omega
     · have:=aW k ae
       have:=af.size
       omega
end
section
structure bf where
 cB:Nat
 gen:Nat
 root:Nat
 bx:Nat
 C:dC
 dV:Nat
 n:Nat
 f:Nat→Bool
 g:Nat→Bool
 s1:ab
 s2:ab
 E:Nat→Prop
 G:Nat→Prop
 P:Nat→Option aO
def bf.dF (T:bf) (E G:Nat→Prop):bf:={T with E:=E,G:=G}
def bf.cU (T:bf) (C:dC) (P:Nat→Option aO):bf:={T with C:=C,P:=P}
def bf.X (T:bf) (q:Nat):Prop:=q=T.cB∨m5 T.dV T.s1 T.s2 q∨T.E q∨T.G q
def bf.M (T:bf) (q:Nat):Prop:=g7 T.C q∨T.X q
def bf.N (T:bf) (q:Nat):Prop:=g7 T.C q∨q=T.cB∨m5 T.dV T.s1 T.s2 q∨T.G q
theorem bf.mM {T:bf} {q:Nat} (h:T.N q):T.M q:=h.imp id (Or.imp id (Or.imp id .inr))
def ta (gen:Nat) (leaf:Bool) (no:Nat) (l:kO) (n:aO):Prop:=
 ∃p:tO,mq (no:Int) l= .ok p∧p.gen≤gen∧p.kind=(if leaf then 1 else 2)∧yl leaf p.body n
def DC (T:bf):List Value:=[.pointer (some ⟨T.C.c,0,none⟩), .pointer (some ⟨T.dV,0,none⟩), .int .u64 (T.gen:Nat), .int .i64 (T.root:Nat), .int .i64 (T.bx:Nat)]
structure dz (w:World) (T:bf):Prop where
 t:Var w T.cB (DC T) ah.HW
 s:lI w T.dV T.n T.f T.g T.s1 T.s2
 oG:kg T.X w T.C
 zb:¬m5 T.dV T.s1 T.s2 T.cB
 iJ:∀q,T.E q→q≠T.cB∧¬m5 T.dV T.s1 T.s2 q∧¬T.G q
 um:∀q,T.G q→q≠T.cB∧¬m5 T.dV T.s1 T.s2 q
 n:T.C.D.n=T.n
 num:T.root<T.n∧T.bx≤12∧T.gen<18446744073709551616
 l_:∀no e0,T.P no=some e0→no<T.n∧ta T.gen e0.leaf no (T.C.view no) e0
structure cp (T av:bf) (w w':World) (k:Nat):Prop where
 cB:av.cB=T.cB
 dV:av.dV=T.dV
 n:av.n=T.n
 g:av.g=T.g
 s1:av.s1=T.s1
 s2:av.s2=T.s2
 c:av.C.c=T.C.c
 d:av.C.D.d=T.C.D.d
 e5:av.C.D.key=T.C.D.key
 gen:av.gen=T.gen
 cl:av.C.D.cl≤T.C.D.cl+k
 calm:∀m,T.C.D.calm (m+k)→av.C.D.calm m
 an:ao T.N w w'
 fP:∀q,av.M q→T.M q∨w.heap.size≤q
 fn:∀q,av.N q→T.N q∨w.heap.size≤q
theorem cp.refl (T:bf) (w:World):cp T T w w 0:=⟨rfl,rfl,rfl,rfl,rfl,rfl,rfl,rfl,rfl,rfl,cP _,fun _ h=>h, .refl _ _,fun _ h=> .inl h,fun _ h=> .inl h⟩
theorem cp.ext {w w':World} (T:bf) (h:Ext w w'):cp T T w w' 0:=⟨rfl,rfl,rfl,rfl,rfl,rfl,rfl,rfl,rfl,rfl,cP _,fun _ h=>h,ao.eN h,fun _ h=> .inl h,fun _ h=> .inl h⟩
theorem cp.trans {T av xq:bf} {w w' iH:World} {k l:Nat} (U:cp T av w w' k) (ad:cp av xq w' iH l):cp T xq w iH (k+l):=by
 have aj:=U.an.size
 refine ⟨ad.cB.trans U.cB,ad.dV.trans U.dV,ad.n.trans U.n,ad.g.trans U.g,ad.s1.trans U.s1,ad.s2.trans U.s2,ad.c.trans U.c,ad.d.trans U.d,ad.e5.trans U.e5,ad.gen.trans U.gen,by have:=U.cl;have:=ad.cl;omega,
   fun m hm=>ad.calm m (U.calm (m+l) (by rw[show m+l+k=m+(k+l) by omega];exact hm)),jw U.an ad.an fun q J h=>(U.fn q h).resolve_right (by omega),fun q J=> ?_,fun q J=> ?_⟩
 · rcases ad.fP q J with h|h
   · exact U.fP q h
   · exact .inr (by omega)
 · rcases ad.fn q J with h|h
   · exact U.fn q h
   · exact .inr (by omega)
theorem cp.mono {T av:bf} {w w':World} {k l:Nat} (h:cp T av w w' k) (aB:k≤l):cp T av w w' l:=
 ⟨h.cB,h.dV,h.n,h.g,h.s1,h.s2,h.c,h.d,h.e5,h.gen,by have:=h.cl;omega,fun m hm=>h.calm m (mI hm (by omega)),h.an,h.fP,h.fn⟩
theorem cp.e0 {T av:bf} {w w':World} {k lo:Nat} (h:cp T av w w' k) {n:aO} {K V D:ab} (aD:ck (fun q=>lo≤q∧¬T.M q) w n K V D):ck (fun q=>lo≤q∧¬av.M q) w' n K V D:=by
 have U:ck (fun q=>q<w.heap.size∧lo≤q∧¬T.M q) w n K V D:=aD.bA fun q J aa=>⟨J,aa⟩
 refine (ck.an U h.an fun q J hm=>J.2.2 (bf.mM hm)).bA fun q _ aa=>⟨aa.2.1,fun hm=> ?_⟩
 rcases h.fP q hm with ad|ad
 · exact aa.2.2 ad
 · have:=aa.1;omega
section
variable {w w':World} {T av:bf}
theorem cp.step {W E G:Nat→Prop} {ag:World} {k:Nat} (h:cp T av w ag k) (ak:ao W ag w') (dY:∀q,W q→q<w.heap.size→T.N q) (gw:∀q,E q→av.E q∨av.G q∨w.heap.size≤q) (ke:∀q,G q→av.G q∨w.heap.size≤q):cp T (av.dF E G) w w' k:=by
 refine ⟨h.cB,h.dV,h.n,h.g,h.s1,h.s2,h.c,h.d,h.e5,h.gen,h.cl,h.calm,jw h.an ak fun q J hw=>dY q hw J,fun q J=> ?_,fun q J=> ?_⟩
 · rcases J with J|J|J|J|J
   · exact h.fP q (.inl J)
   · exact h.fP q (.inr (.inl J))
   · exact h.fP q (.inr (.inr (.inl J)))
   · rcases gw q J with U|U|U
     · exact h.fP q (.inr (.inr (.inr (.inl U))))
     · exact h.fP q (.inr (.inr (.inr (.inr U))))
     · exact .inr U
   · rcases ke q J with U|U
     · exact h.fP q (.inr (.inr (.inr (.inr U))))
     · exact .inr U
 · rcases J with J|J|J|J
   · exact h.fn q (.inl J)
   · exact h.fn q (.inr (.inl J))
   · exact h.fn q (.inr (.inr (.inl J)))
   · rcases ke q J with U|U
     · exact h.fn q (.inr (.inr (.inr U)))
     · exact .inr U
theorem cp.local {dv uo iY TE:Nat→Prop} {ag:World} {k:Nat} (h:cp (T.dF dv iY) av ag w' k) (af:Ext w ag) (mw:∀q,dv q→T.E q∨w.heap.size≤q) (AZ:∀q,iY q→T.G q∨w.heap.size≤q)
   (wI:∀q,uo q→av.E q∨av.G q) (amX:∀q,TE q→av.G q):cp T (av.dF uo TE) w w' k:=by
 have b5:cp T (T.dF dv iY) w ag 0:=(cp.ext T (w:=w) (w':=w) (ao.refl _ _)).step (W:=fun _=>False) af (fun _ h=>h.elim) (fun q h=>(mw q h).imp id .inr) AZ
 have U:=b5.trans h
 rw[gJ] at U
 exact U.step (W:=fun _=>False) (ao.refl _ _) (fun _ h=>h.elim) (fun q h=>(wI q h).imp id .inl) fun q h=> .inl (amX q h)
theorem dz.lt (h:dz w T) {q:Nat} (J:T.M q):q<w.heap.size:=by
 rcases J with J|J
 · exact h.oG.raw.lt J
 · exact (h.oG.inv.m0 q J).1
theorem dz.ue (h:dz w T) {q:Nat} (J:T.E q):¬T.N q:=by
 rintro (aD|aD|aD|aD)
 · exact (h.oG.inv.m0 q (.inr (.inr (.inl J)))).2 aD
 · exact (h.iJ q J).1 aD
 · exact (h.iJ q J).2.1 aD
 · exact (h.iJ q J).2.2 aD
theorem dz.ext (h:dz w T) (af:Ext w w'):dz w' T:=⟨h.t.ext af,h.s.ext af,h.oG.ext af,h.zb,h.iJ,h.um,h.n,h.num,h.l_⟩
theorem kg.grow {X Y W:Nat→Prop} {C:dC} (h:kg X w C) (ak:ao W w w') (dY:∀q,W q→q<w.heap.size→X q) (aap:∀q,Y q→X q∨(w.heap.size≤q∧q<w'.heap.size)):kg Y w' C:=by
 have px:ao X w w':=jw (W:=X) (ao.refl _ _) ak fun q J hw=>dY q hw J
 refine ⟨h.raw.an px fun q J af=>(h.inv.m0 q af).2 J,h.inv.pins,fun f aA l8=> ?_,h.inv.un,fun q J=> ?_⟩
 · obtain ⟨no,aC,aG,aJ,aN,cX⟩:=h.inv.ok f aA l8
   have xm:bH (fun q=>q<w.heap.size∧¬g7 C q∧¬X q) w f.b f.l:=bH.bA aJ fun q J aa=>⟨J,aa⟩
   refine ⟨no,aC,aG,bH.bA (bH.an xm px fun q J af=>J.2.2 af) fun q _ aa=>⟨aa.2.1,fun b2=> ?_⟩,aN,cX⟩
   rcases aap q b2 with U|U
   · exact aa.2.2 U
   · have:=aa.1;omega
 · rcases aap q J with U|U
   · exact ⟨ly (h.inv.m0 q U).1 ak.size,(h.inv.m0 q U).2⟩
   · exact ⟨U.2,fun aA=>by have:=h.raw.lt aA;omega⟩
theorem dz.grow {E G W:Nat→Prop} (h:dz w T) (ak:ao W w w') (dY:∀q,W q→q<w.heap.size→T.E q∨T.G q) (gw:∀q,E q→T.E q∨T.G q∨(w.heap.size≤q∧q<w'.heap.size)) (ke:∀q,G q→T.E q∨T.G q∨(w.heap.size≤q∧q<w'.heap.size)) (amY:∀q,E q→¬G q):dz w' (T.dF E G):=by
 have A0:∀q,T.E q∨T.G q→q≠T.cB∧¬m5 T.dV T.s1 T.s2 q:=fun q J=>by
   rcases J with J|J
   · exact ⟨(h.iJ q J).1,(h.iJ q J).2.1⟩
   · exact h.um q J
 have px:ao (fun q=>T.E q∨T.G q) w w':=jw (W:=fun q=>T.E q∨T.G q) (ao.refl _ _) ak fun q J hw=>dY q hw J
 have aD:∀q,T.E q∨T.G q∨(w.heap.size≤q∧q<w'.heap.size)→q≠T.cB∧¬m5 T.dV T.s1 T.s2 q:=fun q J=>by
   rcases J with J|J|J
   · exact A0 q (.inl J)
   · exact A0 q (.inr J)
   · exact ⟨fun e=>by have ad:=h.lt (q:=q) (.inr (.inl e));omega,fun e=>by have ad:=h.lt (q:=q) (.inr (.inr (.inl e)));omega⟩
 have dO:∀q,T.E q∨T.G q∨(w.heap.size≤q∧q<w'.heap.size)→T.X q∨(w.heap.size≤q∧q<w'.heap.size):=fun q J=>by
   rcases J with J|J|J
   · exact .inl (.inr (.inr (.inl J)))
   · exact .inl (.inr (.inr (.inr J)))
   · exact .inr J
 refine ⟨h.t.an px fun e=>(A0 _ e).1 rfl,h.s.an px fun q J e=>(A0 q e).2 J,h.oG.grow ak (fun q J aB=> .inr (.inr (dY q J aB))) fun q J=> ?_,h.zb,fun q J=>⟨(aD q (gw q J)).1,(aD q (gw q J)).2,amY q J⟩,fun q J=>aD q (ke q J),h.n,h.num,h.l_⟩
 rcases J with J|J|J|J
 · exact .inl (.inl J)
 · exact .inl (.inr (.inl J))
 · exact dO q (gw q J)
 · exact dO q (ke q J)
theorem dz.cells (h:dz w T):w.cell? ⟨T.cB,0,none⟩=some (.pointer (some ⟨T.C.c,0,none⟩))∧w.cell? (Addr.add ⟨T.cB,0,none⟩ 1)=some (.pointer (some ⟨T.dV,0,none⟩))∧w.cell? (Addr.add ⟨T.cB,0,none⟩ 2)=some (.int .u64 (T.gen:Nat))∧
   w.cell? (Addr.add ⟨T.cB,0,none⟩ 3)=some (.int .i64 (T.root:Nat))∧w.cell? (Addr.add ⟨T.cB,0,none⟩ 4)=some (.int .i64 (T.bx:Nat)):=by
 rw[aX,aX,aX,aX]
 exact ⟨h.t.cell,h.t.cell,h.t.cell,h.t.cell,h.t.cell⟩
theorem dz.amZ (h:dz w T) {no:Nat} (c8:no<T.n):(T.C.view no).length=256:=by
 unfold dC.view
 cases aA:T.C.ax.find? fun f=>f.full&&f.no==(no:Int) with
 |some f=>
   have U:=x9 aA
   have ad:=z6 aA
   obtain ⟨m,aq⟩:=h.oG.inv.ok f U (by
     have:(f.full&&f.no==(no:Int))=true:=ad
     exact (Bool.and_eq_true_iff.1 this).1)
   exact aq.len
 |none=>exact h.oG.raw.dev.KS (by rw[h.n];exact c8)
theorem dz.TF {bd:dC} {k:Nat} {P:Nat→Option aO} (h:dz w T) (m4:kg T.X w' bd) (bT:ky T.C bd w w' k) (h8:∀no e0,P no=some e0→no<T.n∧ta T.gen e0.leaf no (bd.view no) e0):
   dz w' (T.cU bd P)∧cp T (T.cU bd P) w w' k:=by
 have af:=h.oG.inv.m0
 have ak:=bT.an
 refine ⟨⟨?_,h.s.an ak fun q J aA=>(af q (.inr (.inl J))).2 aA,m4,h.zb,h.iJ,h.um,?_,h.num,h8⟩,⟨rfl,rfl,rfl,rfl,rfl,rfl,bT.c,bT.d,bT.e5,rfl,bT.cl,bT.calm,ak.mono fun q _ J=> .inl J,?_,?_⟩⟩
 · have:=h.t.an ak fun aA=>(af T.cB (.inl rfl)).2 aA
   unfold DC at this⊢
   rw[←bT.c] at this
   exact this
 · show bd.D.n=T.n
   rw[bT.n,h.n]
 · rintro q (J|J)
   · rcases bT.fP q J with U|U
     · exact .inl (.inl U)
     · exact .inr U
   · exact .inl (.inr J)
 · rintro q (J|J)
   · rcases bT.fP q J with U|U
     · exact .inl (.inl U)
     · exact .inr U
   · exact .inl (.inr J)
end
end
section
def am0 (T:bf) (leaf:Bool) (no:Nat) (e:Int):Prop:=
 (e=3∧¬T.C.D.calm 2)∨mq (no:Int) (T.C.view no)= .error e∨(e=4∧(∃p,mq (no:Int) (T.C.view no)= .ok p)∧∀n,¬ta T.gen leaf no (T.C.view no) n)
def FE (T:bf) (leaf:Bool) (no:Nat) (w:World) (v:Value) (w':World):Prop:=
 ∃bd:dC,dz w' (T.cU bd T.P)∧cp T (T.cU bd T.P) w w' 2∧(∀j,bd.view j=T.C.view j)∧
   ((∃ (n:aO) (K V D:ab),v= .tuple #[fg n K V D, .int .i64 0]∧ta T.gen leaf no (T.C.view no) n∧ck (fun q=>w.heap.size≤q∧¬(T.cU bd T.P).M q) w' n K V D)∨
     (∃e:Int,v= .tuple #[fg rG cg cg cg, .int .i64 e]∧am0 T leaf no e∧e≠0))
theorem aaq {no:Int} {l:kO} {e:Int} (h:mq no l= .error e):e≠0:=by
 intro he
 subst he
 unfold mq at h
 repeat' split at h
 all_goals first|(injection h with h;exact absurd h (by decide))|cases h
theorem am1 {no:Int} {l:kO} {p:tO} (h:mq no l= .ok p):p.body.length≤256:=by
 unfold mq at h
 repeat' split at h
 all_goals first|(cases h;done)|skip
 rename_i U _ _ _ _ _
 injection h with h
 rw[←h]
 show (List.take _ (List.drop 24 l)).length≤256
 rw[ee,fF]
 omega
theorem aar {w':World} {h:Nat} {vs:List Value} (n g:Int) (s:ab) (al:Var w' h vs ah.J2) (aB:vs.length=3) {K:World→Prop} (bq:∀aw,Var aw h [.int .i64 n, .int .u64 g, .slice s.a s.len s.cap] ah.J2→ao (fun q=>q=h) w' aw→aw.heap.size=w'.heap.size→K aw):
   cT w' ⟨h,0,none⟩ [.int .i64 n, .int .u64 g, .slice s.a s.len s.cap]∧(3:Nat)=3∧az (setCells w' ⟨h,0,none⟩ 0 [.int .i64 n, .int .u64 g, .slice s.a s.len s.cap]) K:=by
 refine ⟨al.du (by rw[aB];rfl) ?_,rfl,eg al (us:=[.int .i64 n, .int .u64 g, .slice s.a s.len s.cap]) (by rw[aB];rfl) rfl bq⟩
 intro v al
 simp only[gg,ml,mm] at al
 rcases al with rfl|rfl|rfl<;>trivial
theorem TG {w:World} {T:bf} (h:dz w T) (gA:T.C.D.cl≤999999999) {no:Nat} (c8:no<T.n) (leaf:Bool):
   aP Tryz.prog F.tb #[.pointer (some ⟨T.cB,0,none⟩), .int .i64 ((no:Nat):Int), .bool leaf] w (FE T leaf no w):=by
 have nn:=h.s.c7
 have jG:=h.amZ c8
 refine W.am2 (some ⟨T.cB,0,none⟩) ((no:Nat):Int) leaf w _ ?_
 (delta W.tb dA gE aF TH ai O0 bR ar HX z3 kJ bD Ka q7;dsimp only)
 refine cx (vs:=[.bool false, .slice none 0 0, .slice none 0 0, .slice none 0 0]) rfl fun ag nM bK k_=> ?_
 obtain ⟨iY,AZ⟩:∃iY,iY=fun q=>T.G q∨q=w.heap.size:=⟨_,rfl⟩
 have aas:iY w.heap.size:=by rw[AZ];exact .inr rfl
 have TI:∀q,T.G q→iY q:=fun q J=>by rw[AZ];exact .inl J
 have TJ:∀q,iY q→T.G q∨q=w.heap.size:=fun q J=>by rw[AZ] at J;exact J
 have U:dz ag (T.dF T.E iY):=h.grow (W:=fun _=>False) bK (fun _ h=>h.elim) (fun q J=> .inl J) (fun q J=> .inr ((TJ q J).imp id fun e=>⟨by omega,by omega⟩)) fun q J bl=>by
   rcases TJ q bl with ad|ad
   · exact (h.iJ q J).2.2 ad
   · have:=h.lt (q:=q) (.inr (.inr (.inr (.inl J))));omega
 refine ⟨_,rfl,_,U.cells.1,(alG U.oG gA (no:=no) (by rw[U.n];exact c8)).use ?_⟩
 rintro _ bz ⟨bd,m4,bT,al,fm⟩
 obtain ⟨aK,am3⟩:=U.TF (P:=T.P) m4 bT (fun no e0 aV=>by rw[al];exact U.l_ no e0 aV)
 have Kb:=bT.an.size
 have HB:Var bz w.heap.size [.bool false, .slice none 0 0, .slice none 0 0, .slice none 0 0] ah.cR:=nM.an bT.an fun aA=>(U.oG.inv.m0 _ (.inr (.inr (.inr aas)))).2 aA
 have fin:∀w':World,ao (fun q=>q=w.heap.size) bz w'→dz w' (T.cU bd T.P)∧cp T (T.cU bd T.P) w w' 2:=fun w' ak=>by
   refine ⟨aK.grow (E:=T.E) (G:=T.G) ak (fun q e _=> .inr (by rw[e];exact aas)) (fun q J=> .inl J) (fun q J=> .inr (.inl (TI q J))) fun q J=>(h.iJ q J).2.2,?_⟩
   have aW:=am3.local bK (fun q J=> .inl J) (fun q J=>(TJ q J).imp id fun e=>by omega) (uo:=T.E) (TE:=T.G) (fun q J=> .inl J) TI
   exact aW.step ak (fun q e aB=>by omega) (fun q J=> .inl J) fun q J=> .inl J
 have am4:∀ {w':World} {n:aO} {K V D:ab} {B:Nat→Prop},ck (fun q=>bz.heap.size≤q) w' n K V D→ck (fun q=>w.heap.size≤q∧¬(T.cU bd T.P).M q) w' n K V D:=fun aD=>by
   refine aD.bA fun q _ J=>⟨by omega,fun hm=> ?_⟩
   have:q<bz.heap.size:=aK.lt (q:=q) (by
     rcases hm with hm|hm|hm|hm|hm
     · exact .inl hm
     · exact .inr (.inl hm)
     · exact .inr (.inr (.inl hm))
     · exact .inr (.inr (.inr (.inl hm)))
     · exact .inr (.inr (.inr (.inr (TI q hm)))))
   omega
 rcases fm with ⟨s,rfl,aj⟩|⟨rfl,fQ⟩
 · refine ⟨s,0,rfl,fun aa=>(by cases aa),fun _=>(yw aj.1 aj.2.1 (by show (T.C.view no).length≤1000;rw[jG];omega) _).use ?_⟩
   rintro _ b4 ⟨FF,jJ⟩
   have Kv:=HB.ext jJ
   have SL:=jJ.size
   have ba:(T.dF T.E iY).C.view no=T.C.view no:=rfl
   rw[ba] at FF
   cases lq:mq ((no:Nat):Int) (T.C.view no) with
   |error e=>
     rw[lq] at FF
     obtain rfl:=FF
     refine ⟨0,0,⟨none,0,0⟩,e,rfl,cx (vs:=[.int .i64 0, .int .u64 0, .slice none 0 0]) rfl fun dk A1 uq DD=> ?_⟩
     refine aar 0 0 ⟨none,0,0⟩ A1 rfl fun cC FG A2 TK=>⟨fun _=> ?_,fun aa=> ?_⟩
     · have O1:Var cC w.heap.size [.bool false, .slice none 0 0, .slice none 0 0, .slice none 0 0] ah.cR:=(Kv.ext uq).an A2 (by omega)
       refine rH false cg cg cg O1 rfl (Q:=fun b K V D aw=>FE T leaf no w (.tuple #[.agg #[.bool b, .slice K.a K.len K.cap, .slice V.a V.len V.cap, .slice D.a D.len D.cap], .int .i64 e]) aw) fun bO lY=> ?_
       obtain ⟨f1,f2⟩:=fin bO (jw (W:=fun q=>q=w.heap.size) (ao.eN (Ext.e_ (jJ.trans uq) A2 (by omega))) lY fun q _ e=>e)
       exact ⟨bd,f1,f2,al, .inr ⟨e,rfl, .inr (.inl lq),aaq lq⟩⟩
     · have:=aaq lq
       simp at aa;omega
   |ok p=>
     rw[lq] at FF
     obtain ⟨au,rfl,lh,eR⟩:=FF
     refine ⟨p.kind,p.gen,au,0,rfl,cx (vs:=[.int .i64 0, .int .u64 0, .slice none 0 0]) rfl fun dk A1 uq DD=> ?_⟩
     refine aar p.kind p.gen au A1 rfl fun cC FG A2 TK=>⟨fun aa=>(by cases aa),fun _=>bN ?_⟩
     have O1:Var cC w.heap.size [.bool false, .slice none 0 0, .slice none 0 0, .slice none 0 0] ah.cR:=(Kv.ext uq).an A2 (by omega)
     have o8:Ext bz cC:=Ext.e_ (jJ.trans uq) A2 (by omega)
     have bB:Ext bz cC.drew:=o8.trans (ej _)
     have w5:Var cC.drew w.heap.size [.bool false, .slice none 0 0, .slice none 0 0, .slice none 0 0] ah.cR:=O1.drew
     have O2:=FG.drew
     have nx:=(aK.ext bB).cells
     obtain ⟨b,aa⟩:∃b,b=b4.heap.size:=⟨_,rfl⟩
     rw[←aa] at O2⊢
     have TL:cC.drew.cell? ⟨b,0,none⟩=some (.int .i64 (p.kind:Nat)):=O2.cell
     have gF:cC.drew.cell? (Addr.add ⟨b,0,none⟩ 1)=some (.int .u64 (p.gen:Nat)):=by rw[aX];exact O2.cell
     have dh:cC.drew.cell? (Addr.add ⟨b,0,none⟩ 2)=some (.slice au.a au.len au.cap):=by rw[aX];exact O2.cell
     have dE:bz.heap.size≤cC.drew.heap.size:=bB.size
     refine ⟨id,_,gF,_,rfl,id,_,nx.2.2.1,fun bl=> ?_,fun bl=>⟨id,_,TL,?_⟩⟩
     · have bl:T.gen<p.gen:=by
         have:((p.gen:Nat):Int)>((T.gen:Nat):Int):=dL bl
         omega
       refine ff (fun b w'=>b=true∧w'=cC.drew) (fun q J=>⟨fun _=>J _ _ ⟨rfl,rfl⟩,fun h=>by cases h⟩) ?_
       rintro _ _ ⟨rfl,rfl⟩
       refine ⟨fun _=> ?_,fun h=>(by cases h)⟩
       refine rH false cg cg cg w5 rfl (Q:=fun b K V D aw=>FE T leaf no w (.tuple #[.agg #[.bool b, .slice K.a K.len K.cap, .slice V.a V.len V.cap, .slice D.a D.len D.cap], .int .i64 4]) aw) fun bO lY=> ?_
       obtain ⟨f1,f2⟩:=fin bO (jw (W:=fun q=>q=w.heap.size) (ao.eN bB) lY fun q _ e=>e)
       refine ⟨bd,f1,f2,al, .inr ⟨4,rfl, .inr (.inr ⟨rfl,⟨p,lq⟩,?_⟩),by decide⟩⟩
       rintro n ⟨fv,aC,aG,_⟩
       rw[lq] at aC;cases aC
       omega
     · have bl:p.gen≤T.gen:=by
         have:¬((p.gen:Nat):Int)>((T.gen:Nat):Int):=fb bl
         omega
       refine ff (fun b w'=>w'=cC.drew∧(b=false↔p.kind=(if leaf then 1 else 2))) (fun q J=>⟨fun h=>J _ _ ⟨rfl,?_⟩,fun h=>⟨_,TL,ff (fun b w'=>w'=cC.drew∧(b=false↔p.kind=(if leaf then 1 else 2))) (fun r aY=>⟨fun ad=>⟨_,TL,aY _ _ ⟨rfl,?_⟩⟩,fun ad=>aY _ _ ⟨rfl,?_⟩⟩) fun b w' am5=>J b w' am5⟩⟩) ?_
       · refine ⟨fun h=>(by cases h),fun ae=> ?_⟩
         rw[ae] at h
         cases leaf<;>simp at h
       · cases leaf
         · simp
           exact Int.ofNat_inj
         · simp at ad h;omega
       · cases leaf
         · simp at ad h;omega
         · simp at ad
           simp
           omega
       rintro jn _ ⟨rfl,ae⟩
       refine ⟨fun aa=> ?_,fun aa=>⟨_,dh,(wG ((lh.ext (Ext.e_ uq A2 (by omega)|>.trans (ej _))).src) ?_ ?_ ?_ leaf).use ?_⟩⟩
       · refine rH false cg cg cg w5 rfl (Q:=fun b K V D aw=>FE T leaf no w (.tuple #[.agg #[.bool b, .slice K.a K.len K.cap, .slice V.a V.len V.cap, .slice D.a D.len D.cap], .int .i64 4]) aw) fun bO lY=> ?_
         obtain ⟨f1,f2⟩:=fin bO (jw (W:=fun q=>q=w.heap.size) (ao.eN bB) lY fun q _ e=>e)
         refine ⟨bd,f1,f2,al, .inr ⟨4,rfl, .inr (.inr ⟨rfl,⟨p,lq⟩,?_⟩),by decide⟩⟩
         rintro n ⟨fv,aC,aG,aJ,_⟩
         rw[lq] at aC;cases aC
         rw[ae.2 aJ] at aa;cases aa
       · exact lh.2.1
       · intro k ae
         have:=bX.lt lh k ae
         have:=uq.size
         show k<cC.heap.size
         omega
       · have:=am1 lq
         omega
       rintro _ ny ⟨am6,A3⟩
       have aat:Ext bz ny:=bB.trans A3
       have O3:=w5.ext A3
       rcases am6 with ⟨n,K,V,D,rfl,eI,jH⟩|⟨rfl,K4⟩
       · refine ⟨n.leaf,K,V,D,0,rfl,?_⟩
         refine rH n.leaf K V D O3 rfl (Q:=fun b K V D aw=>FE T leaf no w (.tuple #[.agg #[.bool b, .slice K.a K.len K.cap, .slice V.a V.len V.cap, .slice D.a D.len D.cap], .int .i64 0]) aw) fun bO lY=> ?_
         obtain ⟨f1,f2⟩:=fin bO (jw (W:=fun q=>q=w.heap.size) (ao.eN aat) lY fun q _ e=>e)
         refine ⟨bd,f1,f2,al, .inl ⟨n,K,V,D,rfl,⟨p,lq,bl,ae.1 aa,eI⟩,?_⟩⟩
         refine am4 (B:=fun _=>True) (ck.an (jH.bA fun q _ J=> ?_) lY fun q J e=> ?_)
         · omega
         · have:bz.heap.size≤q:=J
           omega
       · refine ⟨false,cg,cg,cg,4,rfl,?_⟩
         refine rH false cg cg cg O3 rfl (Q:=fun b K V D aw=>FE T leaf no w (.tuple #[.agg #[.bool b, .slice K.a K.len K.cap, .slice V.a V.len V.cap, .slice D.a D.len D.cap], .int .i64 4]) aw) fun bO lY=> ?_
         obtain ⟨f1,f2⟩:=fin bO (jw (W:=fun q=>q=w.heap.size) (ao.eN aat) lY fun q _ e=>e)
         refine ⟨bd,f1,f2,al, .inr ⟨4,rfl, .inr (.inr ⟨rfl,⟨p,lq⟩,?_⟩),by decide⟩⟩
         rintro n ⟨fv,aC,aG,aJ,aN⟩
         rw[lq] at aC;cases aC
         exact K4 n aN
 · refine ⟨⟨none,0,0⟩,3,rfl,fun _=> ?_,fun aa=>(by cases aa)⟩
   refine rH false cg cg cg HB rfl (Q:=fun b K V D aw=>FE T leaf no w (.tuple #[.agg #[.bool b, .slice K.a K.len K.cap, .slice V.a V.len V.cap, .slice D.a D.len D.cap], .int .i64 3]) aw) fun bO lY=> ?_
   obtain ⟨f1,f2⟩:=fin bO lY
   exact ⟨bd,f1,f2,al, .inr ⟨3,rfl, .inl ⟨rfl,fQ⟩,by decide⟩⟩
end
section
structure gH where
 no:Nat
 n:aO
 e1:Nat
 K:ab
 V:ab
 D:ab
def gH.c (s:gH):List Value:=[.int .i64 (s.no:Nat), .bool s.n.leaf, .slice s.K.a s.K.len s.K.cap, .slice s.V.a s.V.len s.V.cap, .slice s.D.a s.D.len s.D.cap, .int .i64 (s.e1:Nat)]
def gH.st (s:gH):Nat×aO×Nat:=(s.no,s.n,s.e1)
theorem DE (l:List gH):∀x∈l,(gH.c x).length=6:=fun _ _=>rfl
structure ur (B:Nat→Prop) (w:World) (s:ab) (l:List gH):Prop where
 own:bX 6 ah.uu w s (cz gH.c l)
 FH:∀q,aQ s q→B q
 e0:∀x∈l,ck B w x.n x.K x.V x.D
def DF (P:Nat→Option aO) (k:Key):Nat→Nat→List (Nat×aO×Nat)→Prop
 |0,_,l=>l=[]
 |h+1,no,l=>∃n rest,P no=some n∧n.leaf=decide (h=0)∧l=(no,n,if h=0 then 0 else fT n.keys k)::rest∧DF P k h (n.kids.getD (fT n.keys k) 0) rest
theorem DF.length {P:Nat→Option aO} {k:Key}:∀ {h no:Nat} {l:List (Nat×aO×Nat)},DF P k h no l→l.length=h
 |0,_,_,h=>by rw[h];rfl
 |h+1,_,_,⟨n,rest,_,_,aq,aK⟩=>by rw[aq,oS,DF.length aK]
theorem ta.uniq {gen no:Nat} {leaf:Bool} {l:kO} {n m:aO} (U:ta gen leaf no l n) (ad:ta gen leaf no l m):n=m:=by
 obtain ⟨p,a7,cQ,a3,a4⟩:=U
 obtain ⟨q,c3,cG,eT,eQ⟩:=ad
 rw[a7] at c3
 cases c3
 exact yl.uniq a4 eQ
theorem ta.is {gen no:Nat} {leaf:Bool} {l:kO} {n:aO} (h:ta gen leaf no l n):n.leaf=leaf∧ei n∧cr n≤232:=by
 obtain ⟨p,_,_,_,a⟩:=h
 exact ⟨a.2.1,a.1,a.2.2.1⟩
theorem ei.j5 {n:aO} (h:ei n):n.keys.Pairwise cw:=by
 rcases h with h|h
 · exact h.j5
 · exact h.j5
def am7 (T:bf) (steps:List (Nat×aO×Nat)) (w:World) (v:Value) (w':World):Prop:=
 ∃bd:dC,dz w' (T.cU bd T.P)∧cp T (T.cU bd T.P) w w' (2*T.bx)∧(∀j,bd.view j=T.C.view j)∧
   ((∃ (s:ab) (l:List gH),v= .tuple #[.slice s.a s.len s.cap, .int .i64 0]∧l.map gH.st=steps∧ur (fun q=>w.heap.size≤q∧¬(T.cU bd T.P).M q) w' s l)∨(v= .tuple #[.slice none 0 0, .int .i64 3]∧¬T.C.D.calm (2*T.bx)))
theorem am8 (w:World) (cs:Array Value) (h:cs.size=6):Sem.run Tryz.prog (Instr.buildSlice ah.FI 1 #[(0, .agg cs)]) w= .ok (.slice (some ⟨w.heap.size,0,none⟩) 1 1) (w.alloc (.cells cs ah.uu)):=by
 have b5:((Tryz.prog.info? ah.uu).bind (·.zero)).isSome=true:=by kernel_rfl
 obtain ⟨z,bF⟩:=Cr.1 b5
 obtain ⟨i,hi,uc⟩:=KR bF
 have U:(Tryz.prog.underlying ah.uu).isSome=true:=by kernel_rfl
 obtain ⟨d,hd⟩:=Cr.1 U
 exact S_ (sz:=6) w (by kernel_rfl) hd (by kernel_rfl) hi uc h (by decide) (by decide)
theorem am9:qi Tryz.prog ah.FI ah.uu 6 96:=⟨by kernel_rfl⟩
end
section
theorem aau {h:Nat} {n:aO} (dt:n.leaf=decide (h=0)):((((h+1:Nat):Int):Int)==1)=n.leaf:=by
 rw[dt,oT,yb,fE]
 omega
theorem TM {w:World} {T:bf} {aI:ab} {k:Key} {steps:List (Nat×aO×Nat)} (h:dz w T) (gA:T.C.D.cl≤900000000) (ae:Src 1 w aI (a_ k)) (sw:∀q,aQ aI q→q<w.heap.size∧¬T.M q) (hw:DF T.P k T.bx T.root steps):
   aP Tryz.prog F.zc #[.pointer (some ⟨T.cB,0,none⟩), .slice aI.a aI.len aI.cap] w (am7 T steps w):=by
 have c4:=h.num.2.1
 refine W.am_ (some ⟨T.cB,0,none⟩) aI w _ ?_
 (delta W.zc bD aF q7 dA ai bR ar tc bj st bc aE;dsimp only)
 refine ⟨_,rfl,_,h.cells.2.2.2.1,_,rfl,_,h.cells.2.2.2.2,fun s n8 n9 w'=>∃ (jk no:Nat) (l:List gH) (rest:List (Nat×aO×Nat)) (dv:Nat→Prop) (bd:dC),n9=(jk:Nat)∧n8=(no:Nat)∧DF T.P k jk no rest∧l.map gH.st++rest=steps∧l.length+jk=T.bx∧
   dv=(fun q=>T.E q∨aQ s q)∧(∀q,aQ s q→w.heap.size≤q)∧dz w' ((T.dF dv T.G).cU bd T.P)∧cp T ((T.dF dv T.G).cU bd T.P) w w' (2*l.length)∧(∀j,bd.view j=T.C.view j)∧bX 6 ah.uu w' s (cz gH.c l)∧
   ∀x∈l,ck (fun q=>w.heap.size≤q∧¬((T.dF dv T.G).cU bd T.P).M q) w' x.n x.K x.V x.D,fun _ _ n9 _=>n9.toNat,?_,?_⟩
 · have gw:T.E=fun q=>T.E q∨aQ ⟨none,0,0⟩ q:=by
     funext q
     refine propext ⟨.inl,fun h=>h.resolve_right ?_⟩
     rintro ⟨A,ay,_⟩
     cases ay
   have HY:(T.dF T.E T.G).cU T.C T.P=T:=rfl
   refine ⟨T.bx,T.root,[],steps,T.E,T.C,rfl,rfl,hw,rfl,by simp,gw,?_,by rw[HY];exact h,by rw[HY];exact .refl _ _,fun _=>rfl,?_,fun x af=>(by cases af)⟩
   · rintro q ⟨A,ay,_⟩
     cases ay
   · exact ⟨rfl,cP _,by decide, .inl ⟨rfl,rfl⟩⟩
 have fin:∀ {w':World} {dv:Nat→Prop} {bd:dC} {s:ab} {k:Nat},dz w' ((T.dF dv T.G).cU bd T.P)→cp T ((T.dF dv T.G).cU bd T.P) w w' k→dv=(fun q=>T.E q∨aQ s q)→(∀q,aQ s q→w.heap.size≤q)→dz w' (T.cU bd T.P)∧cp T (T.cU bd T.P) w w' k:=by
   intro w' dv bd s k U ad aq aK
   have HZ:∀q,T.E q→dv q:=fun q J=>by rw[aq];exact .inl J
   exact ⟨U.grow (W:=fun _=>False) (E:=T.E) (G:=T.G) (ao.refl _ _) (fun _ h=>h.elim) (fun q J=> .inl (HZ q J)) (fun q J=> .inr (.inl J)) fun q J=>(h.iJ q J).2.2,
     ad.step (W:=fun _=>False) (ao.refl _ _) (fun _ h=>h.elim) (fun q J=> .inl (HZ q J)) fun q J=> .inl J⟩
 rintro s _ _ b3 ⟨jk,no,l,rest,dv,aM,rfl,rfl,FJ,hE,hlen,mw,An,bn,bT,al,lk,jH⟩
 have aav:=bT.an.size
 refine ⟨fun a6=> ?_,fun cm=> ?_⟩
 · obtain ⟨td,rfl⟩:∃qk,jk=qk+1:=⟨jk-1,by have:((jk:Nat):Int)>0:=dL a6;omega⟩
   obtain ⟨n,ia,aV,dt,rfl,aaw⟩:=FJ
   obtain ⟨c8,lq⟩:=bn.l_ no n aV
   have FA:aM.D.cl≤999999999:=by
     have:aM.D.cl≤T.C.D.cl+2*l.length:=bT.cl
     omega
   refine (TG bn FA c8 _).use ?_
   rintro _ cf ⟨FK,ad,nQ,hD,fm⟩
   have TN:=bT.trans nQ
   have dE:=nQ.an.size
   rw[aau dt] at fm
   rcases fm with ⟨c7,K,V,D,rfl,H0,TO⟩|⟨e,rfl,K5,dN⟩
   · obtain rfl:=ta.uniq lq H0
     obtain ⟨_,s_,avW⟩:=lq.is
     have DG:=s_.j5
     have q8:=NR s_
     refine ⟨n.leaf,K,V,D,0,rfl,cx (vs:=[.bool false, .slice none 0 0, .slice none 0 0, .slice none 0 0]) rfl fun e6 FL DH TP=> ?_⟩
     refine ⟨FL.du rfl ?_,rfl,eg FL (us:=[.bool n.leaf, .slice K.a K.len K.cap, .slice V.a V.len V.cap, .slice D.a D.len D.cap]) rfl rfl fun dk A1 xr DD=>⟨fun aa=>(by cases aa),fun _=> ?_⟩⟩
     · intro v al
       simp only[gg,ml,mm] at al
       rcases al with rfl|rfl|rfl|rfl<;>trivial
     have uq:Ext cf dk:=Ext.e_ DH xr (cP _)
     have avX:=uq.size
     obtain ⟨cK,bm,bj,bk⟩:=cu A1
     refine ⟨_,cK,K,bm,V,bj,D,bk, #[.int .i64 (no:Nat), .bool n.leaf, .slice K.a K.len K.cap, .slice V.a V.len V.cap, .slice D.a D.len D.cap, .int .i64 0],by kernel_rfl,?_⟩
     refine cx (vs:=[.int .i64 0, .bool false, .slice none 0 0, .slice none 0 0, .slice none 0 0, .int .i64 0]) rfl fun fM A4 FM ana=> ?_
     refine ⟨A4.du rfl ?_,rfl,eg A4 (us:=[.int .i64 (no:Nat), .bool n.leaf, .slice K.a K.len K.cap, .slice V.a V.len V.cap, .slice D.a D.len D.cap, .int .i64 0]) rfl rfl fun cv TQ O4 avY=> ?_⟩
     · intro v al
       simp only[gg,ml,mm] at al
       rcases al with rfl|rfl|rfl|rfl|rfl|rfl<;>trivial
     have zd:Ext cf cv:=Ext.e_ (uq.trans FM) O4 (by omega)
     have TR:Var cv cf.heap.size [.bool n.leaf, .slice K.a K.len K.cap, .slice V.a V.len V.cap, .slice D.a D.len D.cap] ah.cR:=(A1.ext FM).an O4 (by omega)
     obtain ⟨dV,anb⟩:∃dV,dV=dk.heap.size:=⟨_,rfl⟩
     obtain ⟨bJ,k0⟩:∃bJ,bJ=cf.heap.size:=⟨_,rfl⟩
     rw[←anb] at TQ⊢
     rw[←k0] at TR⊢
     have anc:=TO.ext zd
     refine ff (fun n40 ek=>n40=(((if td=0 then no else n.kids.getD (fT n.keys k) 0:Nat)):Int)∧Ext cf ek∧Var ek dV (gH.c ⟨no,n,if td=0 then 0 else fT n.keys k,K,V,D⟩) ah.uu) (fun q J=>⟨fun aB=> ?_,fun aB=> ?_⟩) ?_
     · have te:td≠0:=by
         have:((td+1:Nat):Int)>1:=dL aB
         omega
       have aax:n.leaf=false:=by rw[dt];simp[te]
       have fy:=s_.Hq aax
       have kA:=NH n.keys k
       obtain ⟨cK,bm,bj,bk⟩:=cu TR
       have ane:Src 1 cv aI (a_ k):=(ae.an TN.an fun q J aD=>(sw q J).2 (bf.mM aD)).ext zd
       refine ⟨_,cK,K,bm,V,bj,D,bk,(vh anc ane DG (by omega)).use ?_⟩
       rintro _ m6 ⟨rfl,TS⟩
       have aay:=TQ.ext TS
       obtain ⟨aC,aG⟩:=kc aay (i:=5) (by simp)
       rw[aX]
       refine ⟨_,rfl,aC,aG,bN ?_⟩
       have fq:=iV m6 dV 5 (.int .i64 ((fT n.keys k:Nat):Int))
       have aaz:=j_ aay (i:=5) (.int .i64 ((fT n.keys k:Nat):Int))
       have H2:Ext cf (m6.setCell ⟨dV,5,none⟩ (.int .i64 ((fT n.keys k:Nat):Int))):=Ext.e_ (zd.trans TS) fq (by omega)
       have anf:=(TR.ext TS).an fq (by omega)
       obtain ⟨d0,d1,d2,d3⟩:=cu anf
       obtain ⟨A,ay,aa,jF⟩:=dG.at (TO.ext H2).kids (i:=fT n.keys k) (by omega)
       refine ⟨D,d3,_,aaz.cell,A,ay,aa,_,jF,J _ _ ⟨?_,H2,?_⟩⟩
       · rw[if_neg te,od,gT (by omega)];rfl
       · rw[if_neg te]
         exact aaz
     · have te:td=0:=by
         have:¬((td+1:Nat):Int)>1:=fb aB
         omega
       refine J _ _ ⟨by rw[if_pos te],zd,?_⟩
       rw[if_pos te]
       exact TQ
     rintro _ ek ⟨rfl,O5,O6⟩
     have avZ:=O5.size
     refine ⟨_,O6.rd rfl,⟨some ⟨ek.heap.size,0,none⟩,1,1⟩,_,am8 _ _ rfl,?_⟩
     have kX:=iM ek (.cells (gH.c ⟨no,n,if td=0 then 0 else fT n.keys k,K,V,D⟩).toArray ah.uu)
     have A3:=O5.trans kX
     have O3:=A3.size
     have aaA:=kX.size
     have gh:=lk.1
     rw[nW _ (DE l)] at gh
     have K6:∀q,aQ s q→dv q:=fun q J=>by rw[mw];exact .inr J
     have ang:bX 6 ah.uu cf s (cz gH.c l):=lk.an nQ.an fun q J hm=>bn.ue (K6 q J) hm
     obtain ⟨x,lZ⟩:∃x:gH,x=⟨no,n,if td=0 then 0 else fT n.keys k,K,V,D⟩:=⟨_,rfl⟩
     rw[←lZ] at kX A3 O3 aaA⊢
     have yr:∀v∈gH.c x,Plain v:=by
       intro v al
       unfold gH.c at al
       simp only[gg,ml,mm] at al
       rcases al with rfl|rfl|rfl|rfl|rfl|rfl<;>trivial
     obtain ⟨au,hF,a7,cQ,a3,a4,a5⟩:=am9.append (ew:=ah.FI) (x:=⟨some ⟨ek.heap.size,0,none⟩,1,1⟩) (Src.new (T:=ah.uu) ek (gH.c x) 1 rfl) (ang.ext A3) yr (by show (2*(s.len+1)+1000)*96≤_;omega)
     have anh:=a4.size
     have lh:∀q,aQ au q→w.heap.size≤q:=fun q J=>by
       rcases a5 q J with U|U
       · exact An q U
       · omega
     obtain ⟨uo,wI⟩:∃uo,uo=fun q=>T.E q∨aQ au q:=⟨_,rfl⟩
     have O7:∀q,uo q→T.E q∨aQ au q:=fun q J=>by rw[wI] at J;exact J
     have HZ:∀q,T.E q→dv q:=fun q J=>by rw[mw];exact .inl J
     have oC:cz gH.c (l++ [x])=cz gH.c l++gH.c x:=by rw[y0];simp[cz]
     have ani:dz hF ((T.dF uo T.G).cU FK T.P):=by
       refine (ad.ext A3).grow (E:=uo) (G:=T.G) a4 (fun q J _=> .inl (K6 q J)) (fun q J=> ?_) (fun q J=> .inr (.inl J)) fun q J bl=> ?_
       · rcases O7 q J with U|U
         · exact .inl (HZ q U)
         · rcases a5 q U with aq|aq
           · exact .inl (K6 q aq)
           · exact .inr (.inr ⟨aq,bX.lt cQ q U⟩)
       · rcases O7 q J with U|U
         · exact (h.iJ q U).2.2 bl
         · have aq:=h.lt (q:=q) (.inr (.inr (.inr (.inr bl))))
           have:=lh q U
           omega
     have anj:cp T ((T.dF uo T.G).cU FK T.P) w hF (2*(l++ [x]).length):=by
       have U:=(TN.trans (cp.ext _ A3)).mono (l:=2*(l++ [x]).length) (by rw[eC,ru];omega)
       refine U.step (E:=uo) (G:=T.G) a4 (fun q J aB=>by have:=An q J;omega) (fun q J=> ?_) fun q J=> .inl J
       rcases O7 q J with U|U
       · exact .inl (HZ q U)
       · exact .inr (.inr (lh q U))
     have aaB:∀ {m:aO} {K V D:ab},ck (fun q=>w.heap.size≤q∧¬((T.dF dv T.G).cU FK T.P).M q) cf m K V D→ck (fun q=>w.heap.size≤q∧¬((T.dF uo T.G).cU FK T.P).M q) hF m K V D:=fun {m K V D} hm=>by
       have U:=(hm.ext A3).bA (C:=fun q=>q<(ek.alloc (.cells (gH.c x).toArray ah.uu)).heap.size∧w.heap.size≤q∧¬((T.dF dv T.G).cU FK T.P).M q) fun q J aa=>⟨J,aa⟩
       refine (ck.an U a4 fun q J bG=>J.2.2 (.inr (.inr (.inr (.inl (K6 q bG)))))).bA fun q _ aa=>⟨aa.2.1,fun hm=>aa.2.2 ?_⟩
       rcases hm with hm|hm|hm|hm|hm
       · exact .inl hm
       · exact .inr (.inl hm)
       · exact .inr (.inr (.inl hm))
       · refine .inr (.inr (.inr (.inl ?_)))
         show dv q
         rcases O7 q hm with aq|aq
         · exact HZ q aq
         · rcases a5 q aq with aK|aK
           · exact K6 q aK
           · have:=aa.1;omega
       · exact .inr (.inr (.inr (.inr hm)))
     have lJ:IntKind.wrap .i64 (((td+1:Nat):Int)-1)=(td:Nat):=by rw[cL (by omega) (by omega)];omega
     refine ⟨au,hF,a7,⟨td,_,l++ [x],ia,uo,FK,lJ,rfl,?_,?_,by rw[eC,ru];omega,wI,lh,ani,anj,fun j=>(hD j).trans (al j),by rw[oC];exact cQ,?_⟩,?_⟩
     · cases td with
       |zero=>exact aaw
       |succ m=>rw[if_neg (by omega)];exact aaw
     · rw[←hE,mV,eF,lZ];rfl
     · intro y b2
       rcases fa.1 b2 with b2|b2
       · exact aaB (nQ.e0 (jH y b2))
       · obtain rfl:=lT.1 b2
         subst lZ
         exact aaB (TO.bA fun q _ aa=>⟨by have:=aa.1;omega,aa.2⟩)
     · rw[lJ]
       show ((td:Nat):Int).toNat<(((td+1:Nat):Int)).toNat
       omega
   · refine ⟨false,cg,cg,cg,e,rfl,cx (vs:=[.bool false, .slice none 0 0, .slice none 0 0, .slice none 0 0]) rfl fun e6 FL DH TP=> ?_⟩
     refine ⟨FL.du rfl ?_,rfl,eg FL (us:=[.bool false, .slice none 0 0, .slice none 0 0, .slice none 0 0]) rfl rfl fun dk A1 xr DD=>⟨fun _=> ?_,fun aa=> ?_⟩⟩
     · intro v al
       simp only[gg,ml,mm] at al
       rcases al with rfl|rfl|rfl|rfl<;>trivial
     · have af:Ext cf dk:=Ext.e_ DH xr (cP _)
       have he:e=3∧¬aM.D.calm 2:=by
         rcases K5 with U|U|⟨_,_,U⟩
         · exact U
         · obtain ⟨p,aC,_⟩:=lq
           rw[aC] at U;cases U
         · exact absurd lq (U n)
       obtain ⟨rfl,fQ⟩:=he
       obtain ⟨aq,aK⟩:=fin (k:=2*T.bx) (ad.ext af) ((TN.trans (cp.ext _ af)).mono (by omega)) mw An
       exact ⟨FK,aq,aK,fun j=>(hD j).trans (al j), .inr ⟨rfl,fun ak=>fQ (bT.calm 2 (mI ak (by omega)))⟩⟩
     · simp at aa;exact absurd aa dN
 · have b5:jk=0:=by
     have:¬((jk:Nat):Int)>0:=fb cm
     omega
   subst b5
   have aY:rest=[]:=FJ
   subst aY
   obtain ⟨aq,aK⟩:=fin (k:=2*T.bx) bn (bT.mono (by omega)) mw An
   refine ⟨aM,aq,aK,al, .inl ⟨s,l,rfl,by rw[←hE,lP],lk,fun q J=>⟨An q J,fun hm=> ?_⟩,fun x af=> ?_⟩⟩
   · have hL:=An q J
     have O8:dv q:=by rw[mw];exact .inr J
     rcases hm with hm|hm|hm|hm|hm
     · exact (bn.oG.inv.m0 q (.inr (.inr (.inl O8)))).2 hm
     · exact (bn.iJ q O8).1 hm
     · exact (bn.iJ q O8).2.1 hm
     · have:=h.lt (q:=q) (.inr (.inr (.inr (.inl hm))));omega
     · exact (bn.iJ q O8).2.2 hm
   · refine (jH x af).bA fun q _ aa=>⟨aa.1,fun hm=>aa.2 ?_⟩
     rcases hm with hm|hm|hm|hm|hm
     · exact .inl hm
     · exact .inr (.inl hm)
     · exact .inr (.inr (.inl hm))
     · refine .inr (.inr (.inr (.inl ?_)))
       show dv q
       rw[mw];exact .inl hm
     · exact .inr (.inr (.inr (.inr hm)))
end
section
def bf.H3 (T:bf) (f:Nat→Bool):bf:={T with f:=f}
structure gK where
 dq:Nat
 nz:ab
 mb:ab
 made:List Nat
 left:List Nat
structure fY (w:World) (T:bf) (c:gK):Prop where
 t:dz w T
 v:Var w c.dq [.pointer (some ⟨T.cB,0,none⟩), .slice c.nz.a c.nz.len c.nz.cap, .slice c.mb.a c.mb.len c.mb.cap] ah.aaC
 nz:bX 1 ah.int w c.nz (kY c.made)
 mb:bX 1 ah.int w c.mb (kY c.left)
 gc:T.G c.dq
 tf:∀q,aQ c.nz q→T.G q∧q≠c.dq∧¬aQ c.mb q
 vB:∀q,aQ c.mb q→T.G q∧q≠c.dq
theorem aaD {w:World} {s:ab} {ds:List Nat} (d:Nat) (lk:bX 1 ah.int w s (kY ds)) (aD:ds.length≤1000000):
   ∃ (au:ab) (w':World),Sem.run Tryz.prog (Builtin.append_ #[ah.eY,ah.eY] ah.eY #[.slice s.a s.len s.cap, .slice (some ⟨w.heap.size,0,none⟩) 1 1]) (w.alloc (.cells #[.int .i64 ((d:Nat):Int)] ah.int))= .ok (.slice au.a au.len au.cap) w'∧
     bX 1 ah.int w' au (kY (ds++ [d]))∧ao (aQ s) w w'∧(∀k,aQ au k→aQ s k∨w.heap.size≤k)∧ao (aQ s) (w.alloc (.cells #[.int .i64 ((d:Nat):Int)] ah.int)) w':=by
 have gh:s.len=ds.length:=by have:=lk.1;rw[E9] at this;omega
 have ak:Ext w (w.alloc (.cells #[.int .i64 ((d:Nat):Int)] ah.int)):=iM _ _
 have bF:(w.alloc (.cells #[.int .i64 ((d:Nat):Int)] ah.int)).heap.size=w.heap.size+1:=J0 _ _
 obtain ⟨au,w',U,ad,aq,aK,aW⟩:=J4.append (ew:=ah.eY) (x:=⟨some ⟨w.heap.size,0,none⟩,1,1⟩) (Src.new (T:=ah.int) w [.int .i64 ((d:Nat):Int)] 1 rfl) (lk.ext ak) (fun v al=>by rw[lT.1 al];trivial) (by show (2*(s.len+1)+1000)*8≤_;omega)
 exact ⟨au,w',U,by simpa[kY] using ad,(ao.eN ak).trans aK,fun k ae=>(aW k ae).imp id (fun h=>by omega),aK⟩
section
variable {w w':World} {T av:bf} {c:gK}
theorem fY.of {W:Nat→Prop} (h:fY w T c) (bn:dz w' av) (ak:ao W w w') (dY:∀q,T.G q→¬W q) (A5:av.cB=T.cB) (ke:∀q,T.G q→av.G q):fY w' av c:=
 ⟨bn,by rw[A5];exact h.v.an ak (dY _ h.gc),h.nz.an ak fun q J=>dY q (h.tf q J).1,h.mb.an ak fun q J=>dY q (h.vB q J).1,ke _ h.gc,fun q J=>⟨ke q (h.tf q J).1,(h.tf q J).2⟩,fun q J=>⟨ke q (h.vB q J).1,(h.vB q J).2⟩⟩
theorem fY.ext (h:fY w T c) (af:Ext w w'):fY w' T c:=h.of (h.t.ext af) af (fun _ _ h=>h) rfl fun _ h=>h
theorem fY.cells (h:fY w T c):w.cell? ⟨c.dq,0,none⟩=some (.pointer (some ⟨T.cB,0,none⟩))∧w.cell? (Addr.add ⟨c.dq,0,none⟩ 1)=some (.slice c.nz.a c.nz.len c.nz.cap)∧w.cell? (Addr.add ⟨c.dq,0,none⟩ 2)=some (.slice c.mb.a c.mb.len c.mb.cap):=by
 rw[aX,aX]
 exact ⟨h.v.cell,h.v.cell,h.v.cell⟩
theorem dz.O9 (h:dz w T) {q:Nat} (J:T.G q):¬g7 T.C q:=fun aA=>(h.oG.inv.m0 q (.inr (.inr (.inr J)))).2 aA
theorem dz.aaE {f:Nat→Bool} (h:dz w T) (aj:lI w' T.dV T.n f T.g T.s1 T.s2) (ak:ao (m5 T.dV T.s1 T.s2) w w'):dz w' (T.H3 f)∧cp T (T.H3 f) w w' 0:=
 ⟨⟨h.t.an ak h.zb,aj,h.oG.an ak fun q J=> .inr (.inl J),h.zb,h.iJ,h.um,h.n,h.num,h.l_⟩,
   ⟨rfl,rfl,rfl,rfl,rfl,rfl,rfl,rfl,rfl,rfl,cP _,fun _ h=>h,ak.mono fun q _ J=> .inr (.inr (.inl J)),fun q h=> .inl h,fun q h=> .inl h⟩⟩
theorem ank (h:fY w T c) (no:Nat) (aB:c.made.length≤100000):
   ∃ (au:ab) (aw:World),Sem.run Tryz.prog (Builtin.append_ #[ah.eY,ah.eY] ah.eY #[.slice c.nz.a c.nz.len c.nz.cap, .slice (some ⟨w.heap.size,0,none⟩) 1 1]) (w.alloc (.cells #[.int .i64 ((no:Nat):Int)] ah.int))= .ok (.slice au.a au.len au.cap) aw∧
     ao (aQ c.nz) (w.alloc (.cells #[.int .i64 ((no:Nat):Int)] ah.int)) aw∧(∃u:Value,aw.cell? ⟨c.dq,1,none⟩=some u)∧aw.frozen? ⟨c.dq,1,none⟩=false∧
     ∀a8,a8=aw.setCell ⟨c.dq,1,none⟩ (.slice au.a au.len au.cap)→fY a8 (T.dF T.E fun q=>T.G q∨aQ au q) {c with nz:=au,made:=c.made++ [no]}∧cp T (T.dF T.E fun q=>T.G q∨aQ au q) w a8 0:=by
 obtain ⟨au,aw,aC,aG,aN,cX,xm⟩:=aaD no h.nz (by omega)
 have dY:∀q,aQ c.nz q→T.G q:=fun q J=>(h.tf q J).1
 have dE:=aN.size
 have hD:=h.v.an aN fun J=>(h.tf _ J).2.1 rfl
 obtain ⟨dJ,eM⟩:=kc hD (i:=1) (by simp)
 refine ⟨au,aw,aC,xm,dJ,eM,?_⟩
 rintro _ rfl
 have fq:=iV aw c.dq 1 (.slice au.a au.len au.cap)
 have mG:=j_ hD (i:=1) (.slice au.a au.len au.cap)
 have kv:ao T.G w (aw.setCell ⟨c.dq,1,none⟩ (.slice au.a au.len au.cap)):=jw (aN.mono fun q _ J=>dY q J) fq fun q _ e=>by rw[e];exact h.gc
 have anl:=kv.size
 have a6:∀q,aQ au q→q<aw.heap.size:=fun q J=>bX.lt aG q J
 have lz:∀q,aQ au q→T.G q∨(w.heap.size≤q∧q<(aw.setCell ⟨c.dq,1,none⟩ (.slice au.a au.len au.cap)).heap.size):=fun q J=>by
   rcases cX q J with U|U
   · exact .inl (dY q U)
   · exact .inr ⟨U,by have:=a6 q J;have:=fq.size;omega⟩
 have uv:∀q,aQ au q→q≠c.dq:=fun q J e=>by
   rcases cX q J with U|U
   · exact (h.tf q U).2.1 e
   · have:=h.v.lt;omega
 have dt:∀q,aQ au q→¬aQ c.mb q:=fun q J e=>by
   rcases cX q J with U|U
   · exact (h.tf q U).2.2 e
   · have:=bX.lt h.mb q e;omega
 have bn:=h.t.grow (E:=T.E) (G:=fun q=>T.G q∨aQ au q) kv (fun q J _=> .inr J) (fun q J=> .inl J) (fun q J=>by
   rcases J with J|J
   · exact .inr (.inl J)
   · exact .inr (lz q J)) fun q J bl=>by
   rcases bl with bl|bl
   · exact (h.t.iJ q J).2.2 bl
   · rcases cX q bl with U|U
     · exact (h.t.iJ q J).2.2 (dY q U)
     · have:=h.t.lt (q:=q) (.inr (.inr (.inr (.inl J))));omega
 refine ⟨⟨bn,mG,?_,(h.mb.an aN fun q J e=>(h.tf q e).2.2 J).an fq fun q J e=>(h.vB q J).2 e, .inl h.gc,fun q J=>⟨.inr J,uv q J,dt q J⟩,fun q J=>⟨.inl (h.vB q J).1,(h.vB q J).2⟩⟩,?_⟩
 · have:bX 1 ah.int aw au (kY (c.made++ [no])):=aG
   exact this.an fq fun q J e=>uv q J e
 · have b5:cp T T w w 0:= .refl _ _
   exact b5.step kv (fun q J _=> .inr (.inr (.inr J))) (fun q J=> .inl J) fun q J=>by
     rcases J with J|J
     · exact .inl J
     · exact (lz q J).imp id fun e=>e.1
theorem aaF (h:fY w T c) (no:Nat) (aB:c.left.length≤100000):
   ∃ (au:ab) (aw:World),Sem.run Tryz.prog (Builtin.append_ #[ah.eY,ah.eY] ah.eY #[.slice c.mb.a c.mb.len c.mb.cap, .slice (some ⟨w.heap.size,0,none⟩) 1 1]) (w.alloc (.cells #[.int .i64 ((no:Nat):Int)] ah.int))= .ok (.slice au.a au.len au.cap) aw∧
     ao (aQ c.mb) (w.alloc (.cells #[.int .i64 ((no:Nat):Int)] ah.int)) aw∧(∃u:Value,aw.cell? ⟨c.dq,2,none⟩=some u)∧aw.frozen? ⟨c.dq,2,none⟩=false∧
     ∀a8,a8=aw.setCell ⟨c.dq,2,none⟩ (.slice au.a au.len au.cap)→fY a8 (T.dF T.E fun q=>T.G q∨aQ au q) {c with mb:=au,left:=c.left++ [no]}∧cp T (T.dF T.E fun q=>T.G q∨aQ au q) w a8 0:=by
 obtain ⟨au,aw,aC,aG,aN,cX,xm⟩:=aaD no h.mb (by omega)
 have dY:∀q,aQ c.mb q→T.G q:=fun q J=>(h.vB q J).1
 have dE:=aN.size
 have hD:=h.v.an aN fun J=>(h.vB _ J).2 rfl
 obtain ⟨dJ,eM⟩:=kc hD (i:=2) (by simp)
 refine ⟨au,aw,aC,xm,dJ,eM,?_⟩
 rintro _ rfl
 have fq:=iV aw c.dq 2 (.slice au.a au.len au.cap)
 have mG:=j_ hD (i:=2) (.slice au.a au.len au.cap)
 have kv:ao T.G w (aw.setCell ⟨c.dq,2,none⟩ (.slice au.a au.len au.cap)):=jw (aN.mono fun q _ J=>dY q J) fq fun q _ e=>by rw[e];exact h.gc
 have anl:=kv.size
 have a6:∀q,aQ au q→q<aw.heap.size:=fun q J=>bX.lt aG q J
 have lz:∀q,aQ au q→T.G q∨(w.heap.size≤q∧q<(aw.setCell ⟨c.dq,2,none⟩ (.slice au.a au.len au.cap)).heap.size):=fun q J=>by
   rcases cX q J with U|U
   · exact .inl (dY q U)
   · exact .inr ⟨U,by have:=a6 q J;have:=fq.size;omega⟩
 have uv:∀q,aQ au q→q≠c.dq:=fun q J e=>by
   rcases cX q J with U|U
   · exact (h.vB q U).2 e
   · have:=h.v.lt;omega
 have dt:∀q,aQ c.nz q→¬aQ au q:=fun q e J=>by
   rcases cX q J with U|U
   · exact (h.tf q e).2.2 U
   · have:=bX.lt h.nz q e;omega
 have bn:=h.t.grow (E:=T.E) (G:=fun q=>T.G q∨aQ au q) kv (fun q J _=> .inr J) (fun q J=> .inl J) (fun q J=>by
   rcases J with J|J
   · exact .inr (.inl J)
   · exact .inr (lz q J)) fun q J bl=>by
   rcases bl with bl|bl
   · exact (h.t.iJ q J).2.2 bl
   · rcases cX q bl with U|U
     · exact (h.t.iJ q J).2.2 (dY q U)
     · have:=h.t.lt (q:=q) (.inr (.inr (.inr (.inl J))));omega
 refine ⟨⟨bn,mG,(h.nz.an aN fun q J e=>(h.tf q J).2.2 e).an fq fun q J e=>(h.tf q J).2.1 e,?_, .inl h.gc,fun q J=>⟨.inl (h.tf q J).1,(h.tf q J).2.1,dt q J⟩,fun q J=>⟨.inr J,uv q J⟩⟩,?_⟩
 · have:bX 1 ah.int aw au (kY (c.left++ [no])):=aG
   exact this.an fq fun q J e=>uv q J e
 · have b5:cp T T w w 0:= .refl _ _
   exact b5.step kv (fun q J _=> .inr (.inr (.inr J))) (fun q J=> .inl J) fun q J=>by
     rcases J with J|J
     · exact .inl J
     · exact (lz q J).imp id fun e=>e.1
end
end
section
def fR (T:bf):Nat:=T.n-mL (fun i=>T.f i||T.g i) T.n
theorem aaG {s t:Nat→Bool}:∀ {n:Nat},(∀i,i<n→s i=t i)→mL s n=mL t n
 |0,_=>rfl
 |n+1,h=>by
   unfold mL
   rw[aaG (n:=n) fun i hi=>h i (by omega),h n (by omega)]
theorem aaH {s t:Nat→Bool} {k:Nat} (ae:s k=false) (aU:t k=true) (he:∀i,i≠k→t i=s i):∀ {n:Nat},k<n→mL t n=mL s n+1
 |0,h=>by omega
 |n+1,h=>by
   unfold mL
   by_cases e:k=n
   · subst e
     rw[aaG (s:=t) (t:=s) (n:=k) fun i hi=>he i (by omega),ae,aU]
     simp
   · rw[aaH ae aU he (n:=n) (by omega),he n (by omega)]
     omega
theorem aaI {t:Nat→Bool}:∀ {n:Nat},(∀i,i<n→t i=true)→mL t n=n
 |0,_=>rfl
 |n+1,h=>by
   unfold mL
   rw[aaI (n:=n) fun i hi=>h i (by omega),h n (by omega)]
   simp
theorem anm {T:bf} (h:1≤fR T):∃no,firstFree (fun i=>T.f i||T.g i) T.n=some no:=by
 cases aA:firstFree (fun i=>T.f i||T.g i) T.n with
 |some no=>exact ⟨no,rfl⟩
 |none=>
   have:=aaI (amo aA)
   unfold fR at h
   rw[this] at h
   omega
structure fZ (T av:bf) (c c':gK) (m l:List Nat) (w w':World) (k:Nat):Prop where
 to:cp T av w w' k
 E:av.E=T.E
 G:∀q,T.G q→av.G q
 root:av.root=T.root
 bx:av.bx=T.bx
 dq:c'.dq=c.dq
 made:c'.made=c.made++m
 left:c'.left=c.left++l
 e0:m.Nodup
 tg:∀no∈m,(T.f no||T.g no)=false∧no<T.n
 f:∀no,av.f no=(T.f no||decide (no∈m))
 g8:∀no,(T.f no||T.g no)=true→av.P no=T.P no∧av.C.view no=T.C.view no
 room:fR av+m.length=fR T
theorem fZ.ext {w w':World} (T:bf) (c:gK) (h:Ext w w'):fZ T T c c [] [] w w' 0:=
 ⟨.ext T h,rfl,fun _ h=>h,rfl,rfl,rfl,by simp,by simp,JQ,fun _ h=>(by cases h),fun no=>by simp,fun _ _=>⟨rfl,rfl⟩,by simp⟩
theorem fZ.trans {T av xq:bf} {c c' aaJ:gK} {m O_ l H4:List Nat} {w w' iH:World} {k mN:Nat} (U:fZ T av c c' m l w w' k) (ad:fZ av xq c' aaJ O_ H4 w' iH mN):fZ T xq c aaJ (m++O_) (l++H4) w iH (k+mN):=by
 have bl:av.g=T.g:=U.to.g
 have aD:av.n=T.n:=U.to.n
 have aA:∀no,(T.f no||T.g no)=true→(av.f no||av.g no)=true:=fun no h=>by
   rw[U.f,bl]
   cases aq:T.f no<;>cases aK:T.g no<;>simp[aq,aK] at h⊢
 refine ⟨U.to.trans ad.to,ad.E.trans U.E,fun q h=>ad.G q (U.G q h),ad.root.trans U.root,ad.bx.trans U.bx,ad.dq.trans U.dq,by rw[ad.made,U.made,eF],by rw[ad.left,U.left,eF],?_,fun no h=> ?_,fun no=> ?_,fun no h=> ?_,?_⟩
 · rw[List.nodup_append]
   refine ⟨U.e0,ad.e0,fun a aR b aa e=> ?_⟩
   subst e
   have:=(ad.tg a aa).1
   rw[U.f] at this
   simp[aR] at this
 · rcases fa.1 h with h|h
   · exact U.tg no h
   · have aq:=ad.tg no h
     rw[U.f,bl,aD] at aq
     refine ⟨?_,aq.2⟩
     cases aW:T.f no<;>cases b7:T.g no<;>simp[aW,b7] at aq⊢
 · rw[ad.f,U.f]
   simp only[fa,Bool.decide_or,Bool.or_assoc]
 · have aq:=ad.g8 no (aA no h)
   have aK:=U.g8 no h
   exact ⟨aq.1.trans aK.1,aq.2.trans aK.2⟩
 · have:=U.room
   have:=ad.room
   rw[eC];omega
theorem fZ.mono {T av:bf} {c c':gK} {m l:List Nat} {w w':World} {k j:Nat} (h:fZ T av c c' m l w w' k) (ae:k≤j):fZ T av c c' m l w w' j:=⟨h.to.mono ae,h.E,h.G,h.root,h.bx,h.dq,h.made,h.left,h.e0,h.tg,h.f,h.g8,h.room⟩
end
section
def aaK (T:bf) (c:gK) (n:aO) (w:World) (v:Value) (w':World):Prop:=
 ∃ (no:Nat) (av:bf) (c':gK),fY w' av c'∧fZ T av c c' [no] [] w w' 1∧
   ((v= .tuple #[.int .i64 (no:Nat), .int .i64 0]∧av.P no=some n)∨(v= .tuple #[.int .i64 (no:Nat), .int .i64 3]∧¬T.C.D.calm 1))
theorem ei.jS {n:aO} (h:ei n) (ad:cr n≤400):n.keys.length≤200∧n.vals.length≤200∧n.kids.length≤201:=by
 have:=NR h
 rcases h with h|h
 · have:=h.len
   have aK:n.kids.length=0:=by rw[h.kids];rfl
   omega
 · have:=h.len
   have aK:n.vals.length=0:=by rw[h.vals];rfl
   omega
theorem Pa {B:Nat→Prop} {w:World} {T:bf} {c:gK} {n:aO} {K V D:ab} (h:fY w T c) (gA:T.C.D.cl≤900000100) (jx:1≤fR T) (oh:c.made.length≤1000) (aD:ck B w n K V D) (aj:ei n) (ad:cr n≤232):
   aP Tryz.prog F.uw #[.pointer (some ⟨c.dq,0,none⟩),fg n K V D] w (aaK T c n w):=by
 obtain ⟨no,yO⟩:=anm jx
 obtain ⟨c8,K7,_⟩:=amn yO
 have nn:=h.t.s.c7
 have q8:=aj.jS (by omega)
 refine W.ann (some ⟨c.dq,0,none⟩) n.leaf K V D w _ ?_
 (delta W.uw bR ai ar gE aF th st kJ bj;dsimp only)
 refine cx (vs:=[.bool n.leaf, .slice K.a K.len K.cap, .slice V.a V.len V.cap, .slice D.a D.len D.cap]) rfl fun ag gx bK k_=> ?_
 obtain ⟨cK,bm,bj,bk⟩:=cu gx
 refine ⟨_,cK,K,bm,V,bj,D,bk,(yy (aD.ext bK) (by omega) (by omega) (by omega)).use ?_⟩
 rintro _ bg ⟨ano,kt⟩
 rcases ano with ⟨s,rfl,OP,anp,_,_⟩|⟨e,rfl,he,A6⟩
 rotate_left
 · have:=A6 aj;omega
 have nN:=bK.trans kt
 have b7:=h.ext nN
 refine ⟨s,0,rfl,fun aa=>(by cases aa),fun _=>⟨_,rfl,_,b7.cells.1,_,rfl,_,b7.t.cells.2.1,(amr b7.t.s).use ?_⟩⟩
 rintro _ dB ⟨rfl,qf,gy⟩
 rw[yO] at qf⊢
 obtain ⟨anq,TT⟩:=b7.t.aaE qf gy
 have aaL:fY dB (T.H3 (kh T.f no true)) c:=b7.of anq gy (fun q J aA=>(h.t.um q J).2 aA) rfl fun _ h=>h
 refine ⟨(no:Nat),0,rfl,fun aa=>(by cases aa),fun _=>⟨_,rfl,_,aaL.cells.2.1,?_⟩⟩
 obtain ⟨au,cF,aC,aG,aJ,aN,cX⟩:=ank aaL no (by omega)
 refine bN ⟨au,cF,aC,_,rfl,by rw[aX];exact aJ,by rw[aX];exact aN,bN ?_⟩
 rw[aX]
 obtain ⟨cI,aaM⟩:∃cI,cI=cF.setCell ⟨c.dq,0+1,none⟩ (.slice au.a au.len au.cap):=⟨_,rfl⟩
 rw[←aaM]
 obtain ⟨Pb,TU⟩:=cX cI aaM
 obtain ⟨aaN,anr⟩:∃aaN,aaN=fun q=>T.G q∨aQ au q:=⟨_,rfl⟩
 have j6:∀q,T.N q→q<w.heap.size:=fun q J=>h.t.lt (bf.mM J)
 have Ox:=nN.size
 have aaO:=TT.an.size
 have K8:=TU.an.size
 have aaP:ao T.N bg cI:=TT.an.trans TU.an
 have DI:Var cI w.heap.size [.bool n.leaf, .slice K.a K.len K.cap, .slice V.a V.len V.cap, .slice D.a D.len D.cap] ah.cR:=(gx.ext kt).an aaP fun J=>by have:=j6 _ J;omega
 have ans:bX 1 ah.uint8 cI s (a_ (sg n)):=OP.an aaP fun q J hL=>by have:=j6 _ hL;have:=anp q J;omega
 have hlen:=Sa aj
 have lq:JZ ⟨if n.leaf then 1 else 2,T.gen,sg n⟩:=by
   refine ⟨?_,?_,h.t.num.2.2,by show (sg n).length≤232;omega⟩
   · show 1≤(if n.leaf then 1 else 2);split<;>omega
   · show (if n.leaf then 1 else 2)≤4;split<;>omega
 refine ff (fun n27 fA=>n27=((if n.leaf then 1 else 2:Nat):Int)∧fA=cI) (fun q J=>⟨n.leaf,DI.cell,fun aa=>J _ _ ⟨by rw[aa];rfl,rfl⟩,fun aa=>J _ _ ⟨by rw[aa];rfl,rfl⟩⟩) ?_
 rintro _ _ ⟨rfl,rfl⟩
 refine ⟨_,rfl,_,Pb.cells.1,_,rfl,_,Pb.t.cells.2.2.1,(aiT (no:=no) (p:=⟨if n.leaf then 1 else 2,T.gen,sg n⟩) ans.src (by omega) lq).use ?_⟩
 rintro _ eo ⟨s2,rfl,aaQ,aaR,ant⟩
 have FN:=Pb.ext aaR
 refine ⟨s2,0,rfl,fun aa=>(by cases aa),fun _=>⟨_,rfl,_,FN.cells.1,_,rfl,_,FN.t.cells.1,(alM FN.t.oG (by show T.C.D.cl≤999999999;omega) (no:=no) (by rw[FN.t.n];exact c8) aaQ.src (Yj no lq) fun q J=>⟨bX.lt aaQ q J,fun aA=> ?_⟩).use ?_⟩⟩
 · have:=ant q J
   have:=Pb.t.lt (q:=q) (.inl aA)
   omega
 rintro _ ek ⟨bd,m4,bT,fm⟩
 have OQ:∀j,kh T.f no true j=(T.f j||decide (j∈ [no])):=fun j=>by
   unfold kh
   by_cases e:j=no
   · subst e;simp
   · simp[e]
 have aaS:(T.f no||T.g no)=false:=K7
 have anu:T.n-mL (fun i=>kh T.f no true i||T.g i) T.n+1=fR T:=by
   have:=aaH (s:=fun i=>T.f i||T.g i) (t:=fun i=>kh T.f no true i||T.g i) (k:=no) K7 (by simp[kh]) (fun i hi=>by simp[kh,hi]) c8
   unfold fR at jx⊢
   have aq:=HV (fun i=>T.f i||T.g i) T.n
   omega
 have main:∀ (H5:Nat→Option aO) (v:Value),(∀j,j≠no→H5 j=T.P j)→(∀j,j≠no→bd.view j=T.C.view j)→(∀j e0,H5 j=some e0→j<T.n∧ta T.gen e0.leaf j (bd.view j) e0)→
     ((v= .tuple #[.int .i64 (no:Nat), .int .i64 0]∧H5 no=some n)∨(v= .tuple #[.int .i64 (no:Nat), .int .i64 3]∧¬T.C.D.calm 1))→aaK T c n w v ek:=by
   intro H5 v h8 t_ TV al
   obtain ⟨anv,anw⟩:=FN.t.TF (P:=H5) m4 bT TV
   have anx:=FN.of (av:=((T.H3 (kh T.f no true)).dF T.E fun q=>T.G q∨aQ au q).cU bd H5) anv bT.an (fun q J=>FN.t.O9 J) rfl fun _ h=>h
   refine ⟨no,_,_,anx,⟨?_,rfl,fun q J=> .inl J,rfl,rfl,rfl,rfl,(lP _).symm,by simp,fun x af=> ?_,OQ,fun j aZ=> ?_,anu⟩,al⟩
   · have:=(((cp.ext T nN).trans TT).trans TU).trans ((cp.ext _ aaR).trans anw)
     exact this.mono (by omega)
   · obtain rfl:=lT.1 af
     exact ⟨aaS,c8⟩
   · have:j≠no:=fun e=>by rw[e,aaS] at aZ;cases aZ
     exact ⟨h8 j this,t_ j this⟩
 rcases fm with ⟨rfl,al⟩|⟨rfl,fQ,al⟩
 · refine ⟨0,rfl,main (fun j=>if j=no then some n else T.P j) _ (fun j aZ=>if_neg aZ) (fun j aZ=>(al j).trans (if_neg aZ)) (fun j e0 aZ=> ?_) (.inl ⟨rfl,if_pos rfl⟩)⟩
   by_cases e:j=no
   · subst e
     rw[if_pos rfl] at aZ
     cases aZ
     rw[al,if_pos rfl]
     exact ⟨c8,_,aiD (by omega) lq,cP _,rfl,aj,rfl,ad,rfl⟩
   · rw[if_neg e] at aZ
     rw[al,if_neg e]
     exact h.t.l_ j e0 aZ
 · refine ⟨3,rfl,main T.P _ (fun _ _=>rfl) (fun j _=>al j) (fun j e0 aZ=> ?_) (.inr ⟨rfl,fQ⟩)⟩
   rw[al]
   exact h.t.l_ j e0 aZ
end
section
theorem anz (w:World) (x:Int):Sem.run Tryz.prog (Instr.buildSlice ah.H6 1 #[(0, .agg #[.slice none 0 0, .int .i64 x])]) w=
   .ok (.slice (some ⟨w.heap.size,0,none⟩) 1 1) (w.alloc (.cells #[.slice none 0 0, .int .i64 x] ah.vC)):=by kernel_rfl
theorem anA (w:World) (x y:Int) (t:ab):Sem.run Tryz.prog (Instr.buildSlice ah.H6 2 #[(0, .agg #[.slice none 0 0, .int .i64 x]),(1, .agg #[.slice t.a t.len t.cap, .int .i64 y])]) w=
   .ok (.slice (some ⟨w.heap.size,0,none⟩) 2 2) (w.alloc (.cells #[.slice none 0 0, .int .i64 x, .slice t.a t.len t.cap, .int .i64 y] ah.vC)):=by kernel_rfl
theorem ei.RS {n:aO} (h:ei n) (U:1≤dm n) (ad:if n.leaf then dm n≤n.keys.length-1∧1≤n.keys.length-1 else dm n≤n.keys.length-2∧1≤n.keys.length-2):ei (n.left (dm n))∧ei (n.right (dm n)):=by
 rcases h with h|h
 · have aB:=h.leaf
   rw[if_pos aB] at ad
   unfold aO.left aO.right
   rw[if_pos aB,if_pos aB]
   have hlen:=h.len
   refine ⟨.inl ⟨⟨fun k ae=>h.ok k (kE ae),h.j5.sublist (List.take_sublist _ _)⟩,rfl,?_,rfl,fun v al=>h.vals v (kE al)⟩, .inl ⟨⟨fun k ae=>h.ok k (kp ae),h.j5.sublist (List.drop_sublist _ _)⟩,rfl,?_,rfl,fun v al=>h.vals v (kp al)⟩⟩
   · simp only[ee];omega
   · simp only[fF];omega
 · have aB:=h.inner
   rw[if_neg (by rw[aB];simp)] at ad
   unfold aO.left aO.right
   rw[if_neg (by rw[aB];simp),if_neg (by rw[aB];simp)]
   have hlen:=h.len
   refine ⟨.inr ⟨⟨fun k ae=>h.ok k (kE ae),h.j5.sublist (List.take_sublist _ _)⟩,rfl,?_,?_,rfl,fun v al=>h.kids v (kE al)⟩, .inr ⟨⟨fun k ae=>h.ok k (kp ae),h.j5.sublist (List.drop_sublist _ _)⟩,rfl,?_,?_,rfl,fun v al=>h.kids v (kp al)⟩⟩
   · intro e
     have:=congrArg List.length e
     simp only[ee,wo] at this;omega
   · simp only[ee];omega
   · intro e
     have:=congrArg List.length e
     simp only[fF,wo] at this;omega
   · simp only[fF];omega
def xt (B:Nat→Prop) (w:World) (s:ab) (ks:List Key) (kids:List Nat):Prop:=
 (∃b x,s=⟨some ⟨b,0,none⟩,1,1⟩∧ks=[]∧kids=[x]∧Var w b [.slice none 0 0, .int .i64 (x:Nat)] ah.vC∧B b)∨
 (∃b x y k t,s=⟨some ⟨b,0,none⟩,2,2⟩∧ks=[k]∧kids=[x,y]∧Var w b [.slice none 0 0, .int .i64 (x:Nat), .slice t.a t.len t.cap, .int .i64 (y:Nat)] ah.vC∧B b∧bH B w t k∧k≠ [])
def p5 (T:bf) (c:gK) (n:aO) (w:World) (v:Value) (w':World):Prop:=
 ∃ (av:bf) (c':gK) (m:List Nat) (s:ab),fY w' av c'∧fZ T av c c' m [] w w' 2∧m.length≤2∧
   ((∃ks,v= .tuple #[.slice s.a s.len s.cap, .int .i64 0]∧Ae av.P n ks m∧xt (fun q=>¬av.M q) w' s ks m)∨(v= .tuple #[.slice s.a s.len s.cap, .int .i64 3]∧¬T.C.D.calm 2))
theorem aaT {B:Nat→Prop} {w:World} {T:bf} {c:gK} {n:aO} {K V D:ab} (h:fY w T c) (gA:T.C.D.cl≤900000100) (jx:1≤fR T) (oh:c.made.length≤1000) (aD:ck B w n K V D) (aj:ei n) (ad:cr n≤232):
   aP Tryz.prog F.A7 #[.pointer (some ⟨c.dq,0,none⟩),fg n K V D] w (p5 T c n w):=by
 refine W.anB (some ⟨c.dq,0,none⟩) n.leaf K V D w _ ?_
 (delta W.A7 bR ai ar th;dsimp only)
 refine cx (vs:=[.bool n.leaf, .slice K.a K.len K.cap, .slice V.a V.len V.cap, .slice D.a D.len D.cap]) rfl fun ag gx bK k_=> ?_
 obtain ⟨cK,bm,bj,bk⟩:=cu gx
 refine ⟨_,cK,K,bm,V,bj,D,bk,(Pa (h.ext bK) gA jx oh (aD.ext bK) aj ad).use ?_⟩
 rintro _ bg ⟨no,av,c',px,bT,fm⟩
 have C8:∀ (e:Int),((e=0∧av.P no=some n)∨(e=3∧¬T.C.D.calm 1))→∃ (fW:ab) (cf:World),Sem.run Tryz.prog (Instr.buildSlice ah.H6 1 #[(0, .agg #[.slice none 0 0, .int .i64 (no:Nat)])]) bg= .ok (.slice fW.a fW.len fW.cap) cf∧p5 T c n w (.tuple #[.slice fW.a fW.len fW.cap, .int .i64 e]) cf:=by
   intro e he
   refine ⟨⟨some ⟨bg.heap.size,0,none⟩,1,1⟩,_,anz bg _,?_⟩
   have kX:=iM bg (.cells #[.slice none 0 0, .int .i64 (no:Nat)] ah.vC)
   have gL:fZ T av c c' [no] [] w (bg.alloc (.cells #[.slice none 0 0, .int .i64 (no:Nat)] ah.vC)) 2:=(((fZ.ext T c bK).trans bT).trans (fZ.ext av c' kX)).mono (by omega)
   refine ⟨av,c',[no],⟨some ⟨bg.heap.size,0,none⟩,1,1⟩,px.ext kX,gL,by simp,?_⟩
   rcases he with ⟨rfl,he⟩|⟨rfl,he⟩
   · refine .inl ⟨[],rfl, .inl ⟨ad,no,rfl,rfl,he⟩, .inl ⟨_,no,rfl,rfl,rfl,Var.new bg [.slice none 0 0, .int .i64 (no:Nat)] ah.vC,fun hm=> ?_⟩⟩
     have:=px.t.lt hm
     omega
   · exact .inr ⟨rfl,fun ak=>he (mI ak (by omega))⟩
 rcases fm with ⟨rfl,h8⟩|⟨rfl,fQ⟩
 · exact ⟨_,0,rfl,C8 0 (.inl ⟨rfl,h8⟩)⟩
 · exact ⟨_,3,rfl,C8 3 (.inr ⟨rfl,fQ⟩)⟩
theorem mc {b:Bool} {K V D:ab}:∀v∈ [.bool b, .slice K.a K.len K.cap, .slice V.a V.len V.cap, .slice D.a D.len D.cap],Plain v:=by
 intro v al
 simp only[gg,ml,mm] at al
 rcases al with rfl|rfl|rfl|rfl<;>trivial
theorem anC {B:Nat→Prop} {w:World} {T:bf} {c:gK} {n:aO} {K V D:ab} (h:fY w T c) (gA:T.C.D.cl≤900000090) (jx:2≤fR T) (oh:c.made.length≤900) (aD:ck B w n K V D) (aj:ei n) (ad:232<cr n) (aq:cr n≤400) (U:1≤dm n)
   (aK:if n.leaf then dm n≤n.keys.length-1∧1≤n.keys.length-1 else dm n≤n.keys.length-2∧1≤n.keys.length-2) (aW:cr (n.left (dm n))≤232) (b7:cr (n.right (dm n))≤232):
   aP Tryz.prog F.DJ #[.pointer (some ⟨c.dq,0,none⟩),fg n K V D] w (p5 T c n w):=by
 obtain ⟨AK,anD⟩:=aj.RS U aK
 have q8:=aj.jS (by omega)
 have aa:dm n<n.keys.length:=by
   split at aK<;>omega
 refine W.anE (some ⟨c.dq,0,none⟩) n.leaf K V D w _ ?_
 (delta W.DJ bR ai ar aaU dA aF th;dsimp only)
 refine cx (vs:=[.bool n.leaf, .slice K.a K.len K.cap, .slice V.a V.len V.cap, .slice D.a D.len D.cap]) rfl fun ag gx bK k_=> ?_
 obtain ⟨cK,bm,bj,bk⟩:=cu gx
 refine ⟨_,cK,K,bm,V,bj,D,bk,(yP (aD.ext bK) aj (by omega) U aK).use ?_⟩
 rintro _ bg ⟨dX,ey,b9,c6,c_,da,t,rfl,aB,aY,aU,kt⟩
 refine ⟨_,dX,ey,b9,t,_,c6,c_,da,true,rfl,cx (vs:=[.bool false, .slice none 0 0, .slice none 0 0, .slice none 0 0]) rfl fun e6 FL DH TP=>cx (vs:=[.bool false, .slice none 0 0, .slice none 0 0, .slice none 0 0]) rfl fun dk A1 uq DD=> ?_⟩
 have OF:=FL.ext uq
 refine ⟨OF.du rfl mc,rfl,eg OF (us:=[.bool (n.left (dm n)).leaf, .slice dX.a dX.len dX.cap, .slice ey.a ey.len ey.cap, .slice b9.a b9.len b9.cap]) rfl rfl fun cC FG A2 TK=> ?_⟩
 have K9:=A1.an A2 (by omega)
 refine ⟨K9.du rfl mc,rfl,eg K9 (us:=[.bool (n.right (dm n)).leaf, .slice c6.a c6.len c6.cap, .slice c_.a c_.len c_.cap, .slice da.a da.len da.cap]) rfl rfl fun dR H7 Pc Pd=>⟨fun aa=>(by cases aa),fun _=> ?_⟩⟩
 have anF:=FG.an Pc (by omega)
 have nN:=bK.trans kt
 have K_:Ext bg dR:=Ext.e_ (Ext.e_ (DH.trans uq) A2 (by omega)) Pc (by omega)
 have TW:=nN.trans K_
 have Oy:=nN.size
 have av0:=K_.size
 obtain ⟨d0,d1,d2,d3⟩:=cu anF
 refine ⟨_,d0,dX,d1,ey,d2,b9,d3,(Pa (h.ext TW) (by omega) (by omega) (by omega) (aB.ext K_) AK aW).use ?_⟩
 rintro _ cv ⟨x,c2,Pe,gF,l9,anG⟩
 have j6:∀q,T.N q→q<w.heap.size:=fun q J=>h.t.lt (bf.mM J)
 have anH:=l9.to.an.size
 rcases anG with ⟨rfl,aaV⟩|⟨rfl,fQ⟩
 · have anI:=H7.an l9.to.an fun J=>by have:=j6 _ J;omega
   obtain ⟨d0,d1,d2,d3⟩:=cu anI
   have anJ:ck (fun q=>ag.heap.size≤q) cv (n.right (dm n)) c6 c_ da:=(aY.ext K_).an l9.to.an fun q J hL=>by have:=j6 _ hL;omega
   have FA:c2.C.D.cl≤900000100:=jb l9.to.cl (by clear gF l9 aaV;omega)
   have TX:=l9.room
   have av1:Pe.made.length=c.made.length+1:=by rw[l9.made,eC];rfl
   simp only[ru] at TX
   have vD:=Pa gF FA (by omega) (by omega) anJ anD b7
   rw[l9.dq] at vD
   refine ⟨x,0,rfl,fun aa=>(by cases aa),fun _=>⟨_,d0,c6,d1,c_,d2,da,d3,vD.use ?_⟩⟩
   rintro _ eO ⟨y,df,aaW,dh,h_,anK⟩
   have anL:=h_.to.an.size
   have bT:=((fZ.ext T c TW).trans l9).trans h_
   have qq:n.keys.getD (dm n) []=n.keys[dm n]:=by rw[od,gT aa];rfl
   have anM:=aU.ext K_
   have anN:bH (fun q=>¬df.M q) eO t n.keys[dm n]:=by
     rw[←qq]
     have hV:bH (fun q=>q<dR.heap.size∧ag.heap.size≤q) dR t (n.keys.getD (dm n) []):=bH.bA anM fun q J aa=>⟨J,aa⟩
     have aaX:=(l9.trans h_).to
     refine bH.bA (bH.an hV aaX.an fun q J hL=>by have:=j6 _ hL;omega) fun q _ aa hm=> ?_
     rcases aaX.fP q hm with ot|ot
     · have:=h.t.lt ot;omega
     · omega
   have jc:n.keys[dm n]≠ []:=by
     have ae:eG n.keys[dm n]:=by
       rcases aj with aj|aj
       · exact aj.ok _ (e3 aa)
       · exact aj.ok _ (e3 aa)
     intro e
     have:=ae.1
     rw[e] at this;simp at this
   have kX:=iM eO (.cells #[.slice none 0 0, .int .i64 (x:Nat), .slice t.a t.len t.cap, .int .i64 (y:Nat)] ah.vC)
   have gL:=(bT.trans (fZ.ext df aaW kX)).mono (j:=2) (by omega)
   have C8:∀ (e:Int),((e=0∧df.P y=some (n.right (dm n)))∨(e=3∧¬c2.C.D.calm 1))→∃ (eE:ab) (mx:World),Sem.run Tryz.prog (Instr.buildSlice ah.H6 2 #[(0, .agg #[.slice none 0 0, .int .i64 (x:Nat)]),(1, .agg #[.slice t.a t.len t.cap, .int .i64 (y:Nat)])]) eO= .ok (.slice eE.a eE.len eE.cap) mx∧
       p5 T c n w (.tuple #[.slice eE.a eE.len eE.cap, .int .i64 e]) mx:=by
     intro e he
     refine ⟨⟨some ⟨eO.heap.size,0,none⟩,2,2⟩,_,anA eO _ _ t,df,aaW,[x,y],⟨some ⟨eO.heap.size,0,none⟩,2,2⟩,dh.ext kX,gL,by simp,?_⟩
     rcases he with ⟨rfl,he⟩|⟨rfl,he⟩
     · have cD:df.P x=some (n.left (dm n)):=by
         rw[(h_.g8 x (by rw[l9.f];simp)).1,aaV]
       refine .inl ⟨[n.keys[dm n]],rfl, .inr ⟨ad,x,y,aa,rfl,rfl,cD,he⟩, .inr ⟨_,x,y,_,t,rfl,rfl,rfl,Var.new eO [.slice none 0 0, .int .i64 (x:Nat), .slice t.a t.len t.cap, .int .i64 (y:Nat)] ah.vC,fun hm=> ?_,bH.ext anN kX,jc⟩⟩
       have:=dh.t.lt hm
       omega
     · exact .inr ⟨rfl,fun ak=>he (l9.to.calm 1 (mI ak (by omega)))⟩
   rcases anK with ⟨rfl,h8⟩|⟨rfl,fQ⟩
   · exact ⟨_,0,rfl,C8 0 (.inl ⟨rfl,h8⟩)⟩
   · exact ⟨_,3,rfl,C8 3 (.inr ⟨rfl,fQ⟩)⟩
 · have gL:=((fZ.ext T c TW).trans l9).mono (j:=2) (by omega)
   exact ⟨_,3,rfl,fun _=>⟨c2,Pe,[x],cg,gF,gL,by simp, .inr ⟨rfl,fun ak=>fQ (mI ak (by omega))⟩⟩,fun aa=>(by cases aa)⟩
theorem Pf {B:Nat→Prop} {w:World} {T:bf} {c:gK} {n:aO} {K V D:ab} (h:fY w T c) (gA:T.C.D.cl≤900000090) (jx:2≤fR T) (oh:c.made.length≤900) (aD:ck B w n K V D) (aj:ei n) (aq:cr n≤400)
   (ad:232<cr n→1≤dm n∧(if n.leaf then dm n≤n.keys.length-1∧1≤n.keys.length-1 else dm n≤n.keys.length-2∧1≤n.keys.length-2)∧cr (n.left (dm n))≤232∧cr (n.right (dm n))≤232):
   aP Tryz.prog F.sx #[.pointer (some ⟨c.dq,0,none⟩),fg n K V D] w (p5 T c n w):=by
 have q8:=aj.jS (by omega)
 refine W.anO (some ⟨c.dq,0,none⟩) n.leaf K V D w _ ?_
 (delta W.sx bR ai ar bj aF gE;dsimp only)
 refine cx (vs:=[.bool n.leaf, .slice K.a K.len K.cap, .slice V.a V.len V.cap, .slice D.a D.len D.cap]) rfl fun ag gx bK k_=> ?_
 obtain ⟨cK,bm,bj,bk⟩:=cu gx
 refine ⟨_,cK,K,bm,V,bj,D,bk,(vc (aD.ext bK) aj (by omega)).use ?_⟩
 rintro _ bg ⟨rfl,kt⟩
 have nN:=bK.trans kt
 obtain ⟨d0,d1,d2,d3⟩:=cu (gx.ext kt)
 have fin:∀ (v:Value) (w':World),p5 T c n bg v w'→∃s:ab,∃e:Int,v= .tuple #[.slice s.a s.len s.cap, .int .i64 e]∧p5 T c n w (.tuple #[.slice s.a s.len s.cap, .int .i64 e]) w':=by
   rintro v w' ⟨av,c',m,s,aC,aG,aJ,aN⟩
   have gL:=((fZ.ext T c nN).trans aG).mono (j:=2) (by omega)
   rcases aN with ⟨ks,rfl,cX⟩|⟨rfl,cX⟩
   · exact ⟨s,0,rfl,av,c',m,s,aC,gL,aJ, .inl ⟨ks,rfl,cX⟩⟩
   · exact ⟨s,3,rfl,av,c',m,s,aC,gL,aJ, .inr ⟨rfl,cX⟩⟩
 refine ⟨_,rfl,fun aa=>⟨_,d0,K,d1,V,d2,D,d3,?_⟩,fun aa=>⟨_,d0,K,d1,V,d2,D,d3,?_⟩⟩
 · have aa:((cr n:Nat):Int)>232:=dL aa
   obtain ⟨aC,aG,aJ,aN⟩:=ad (by omega)
   refine (anC (h.ext nN) gA jx oh (aD.ext nN) aj (by omega) aq aC aG aJ aN).use ?_
   rintro v w' al
   obtain ⟨s,e,rfl,g⟩:=fin v w' al
   exact ⟨s,e,rfl,g⟩
 · have aa:¬((cr n:Nat):Int)>232:=fb aa
   refine (aaT (h.ext nN) (by omega) (by omega) (by omega) (aD.ext nN) aj (by omega)).use ?_
   rintro v w' al
   obtain ⟨s,e,rfl,g⟩:=fin v w' al
   exact ⟨s,e,rfl,g⟩
end
end Go.Proofs.YtplieiecebljmaaGreat
