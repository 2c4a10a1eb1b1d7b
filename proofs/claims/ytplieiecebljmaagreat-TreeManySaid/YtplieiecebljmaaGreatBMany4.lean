/- Contracts of the functions that the statement reaches, and the plain laws over them; each theorem stands with its conditions. -/
import Derived.Laws.Small
import Derived.Test.YtplieiecebljmaaGreatBMany3
namespace Go.Proofs.YtplieiecebljmaaGreat
open Go b6
section
theorem Yi {B:Nat→Prop} {w:World} {s:ad} {ls:List Key} (h:bO B w s ls) (aA:ls.length≤100000):
   aR Tryz.prog F.zo #[.slice s.a s.len s.cap] w (fun v w'=>∃au:ad,v= .slice au.a au.len au.cap∧bV (fun q=>(B q∧q<w.heap.size)∨(w.heap.size≤q∧aP au q)) w' au ls∧Ext w w'∧nE w au):=by
 have fR:=bO.len h
 obtain ⟨ts,aC,aF,aH,aN,cV⟩:=h
 refine W.akp s w _ ?_
 delta W.zo aE ah
 refine ⟨fun aT=> ?_,fun _=> ?_⟩
 · have aT:s.a=none:=by simpa using aT
   have b5:=aF.nil aT
   have:ls=[]:=List.eq_nil_of_length_eq_zero (by rw[←aC];have:=congrArg List.length b5;simpa using this)
   subst this
   exact ⟨⟨none,0,0⟩,rfl,bV.none _ _, .refl _ _,fun k ae=>(pE k ae).elim⟩
 · obtain ⟨au,w',U,ab,ao,aG,aV,_⟩:=FJ.clone (gX:=ai.cz) aF (L2 ts) (by omega)
   refine bW ⟨au,w',U,au,rfl,⟨ts,aC,ab,fun q J=>⟨.inr ⟨aV q J,J⟩,ab.lt q J⟩,fun i i1 i2=> ?_⟩,aG,aV⟩
   have a:=cV i i1 i2
   exact ⟨bX.bx (bX.ext (bX.bx (C:=fun q=>B q∧q<w.heap.size) a fun q J aa=>⟨aa,J⟩) aG) fun q _ aa=> .inl aa,fun k ae dj=>by have:=aV k dj;have:=(a.2.2 k ae).2;omega⟩
theorem v8.at {B:Nat→Prop} {w:World} {s:ad} {ks:List Key} {kids:List Nat} (h:v8 B w s ks kids):s.len=kids.length∧kids.length=ks.length+1∧kids.length≤2∧∀ (j:Nat) (aU:j<kids.length),∃ (A:Addr) (t:ad),s.a=some A∧w.cell? (A.add (j*2))=some (.slice t.a t.len t.cap)∧w.cell? ((A.add (j*2)).add 1)=some (.int .i64 ((kids[j]:Nat):Int))∧
   ((t.a=none∧ks.take j=ks.take (j-1))∨(t.a.isSome=true∧∃k,bX B w t k∧ks.take j=ks.take (j-1)++ [k])):=by
 rcases h with ⟨b,x,rfl,rfl,rfl,ak,aa⟩|⟨b,x,y,k,t,rfl,rfl,rfl,ak,aa,ba,ae⟩
 · refine ⟨rfl,rfl,by simp,fun j aU=> ?_⟩
   have:j=0:=by simp at aU;omega
   subst this
   exact ⟨_,⟨none,0,0⟩,rfl,by rw[bn];exact ak.cell,by rw[bn,bn];exact ak.cell, .inl ⟨rfl,rfl⟩⟩
 · refine ⟨rfl,rfl,by simp,fun j aU=> ?_⟩
   rcases g2 j 1 with U|U
   · have:j=0:=by omega
     subst this
     exact ⟨_,⟨none,0,0⟩,rfl,by rw[bn];exact ak.cell,by rw[bn,bn];exact ak.cell, .inl ⟨rfl,rfl⟩⟩
   · have:j=1:=by simp at aU;omega
     subst this
     obtain ⟨A,ax⟩:=bX.some ba ae
     exact ⟨_,t,rfl,by rw[bn];exact ak.cell,by rw[bn,bn];exact ak.cell, .inr ⟨by rw[ax];rfl,k,ba,rfl⟩⟩
theorem v8.ext {B:Nat→Prop} {w w':World} {s:ad} {ks:List Key} {kids:List Nat} (h:v8 B w s ks kids) (af:Ext w w'):v8 B w' s ks kids:=by
 rcases h with ⟨b,x,U,ab,ao,ak,aa⟩|⟨b,x,y,k,t,U,ab,ao,ak,aa,ba,ae⟩
 · exact .inl ⟨b,x,U,ab,ao,ak.ext af,aa⟩
 · exact .inr ⟨b,x,y,k,t,U,ab,ao,ak.ext af,aa,bX.ext ba af,ae⟩
theorem akq {w:World} {bB o:Nat} {vs:List Value} {S t:ad} {ls:List Key} {l:Key} {B:Nat→Prop} {T:TypeId} (ak:Var w bB vs T) (yM:o<vs.length) (n_:bV B w S ls) (A1:¬B bB)
   (ba:bX B w t l) (hd:∀k,aP t k→¬aP S k) (aD:ls.length≤100000) {K:World→Prop}
   (bp:∀ (w':World) (gb:ad),Var w' bB (vs.set o (.slice gb.a gb.len gb.cap)) T→bV (Grow B w w') w' gb (ls++ [l])→aq (fun q=>q=bB∨aP S q) w w'→(∀k,aP gb k→aP S k∨w.heap.size≤k)→K w'):
   az (w.alloc (.cells #[.slice t.a t.len t.cap] ai.cG)) fun eJ=>∃dk:ad,∃e3:World,Sem.run Tryz.prog (Builtin.append_ #[ai.cz,ai.cz] ai.cz #[.slice S.a S.len S.cap, .slice (some ⟨w.heap.size,0,none⟩) 1 1]) eJ= .ok (.slice dk.a dk.len dk.cap) e3∧
     (∃u:Value,e3.cell? (Addr.add ⟨bB,0,none⟩ o)=some u)∧e3.frozen? (Addr.add ⟨bB,0,none⟩ o)=false∧az (e3.setCell (Addr.add ⟨bB,0,none⟩ o) (.slice dk.a dk.len dk.cap)) fun eS=>K eS:=by
 have yN:=bV.bx (C:=fun q=>B q∨w.heap.size≤q) n_ fun k _ h=> .inl h
 have mQ:=bX.bx (C:=fun q=>B q∨w.heap.size≤q) ba fun k _ h=> .inl h
 obtain ⟨au,w',aC,aF,aH,aN⟩:=VU yN mQ hd (by omega) fun k ae=> .inr ae
 have kC:=ak.lt
 have Ih:¬aP S bB:=fun h=>by
   obtain ⟨ts,_,_,ao,_⟩:=n_
   exact A1 (ao bB h).1
 have pO:=ak.an aH Ih
 obtain ⟨aS,bA⟩:=jI pO yM
 refine bW ⟨au,w',aC,?_⟩
 rw[bn,gd]
 have al:=iq w' bB o (.slice au.a au.len au.cap)
 refine ⟨aS,bA,bW (bp _ au (jH pO _) ?_ ?_ aN)⟩
 · have aV:=bV.bx (C:=Grow B w (w'.setCell ⟨bB,o,none⟩ (.slice au.a au.len au.cap))) aF fun k ae h=>by
     rcases h with h|h
     · exact .inl h
     · exact .inr ⟨h,lP ae al.size⟩
   refine bV.an aV al fun k ae e=> ?_
   subst e
   rcases ae with h|h
   · exact A1 h
   · omega
 · exact (aH.mono fun k _ ae=> .inr ae).trans (al.mono fun k _ ae=> .inl ae)
def M3 (B:Nat→Prop) (n:aL) (fr to:Nat) (ks:List Key) (kids:List Nat) (w:World) (v:Value) (w':World):Prop:=
 ∃K V D:ad,v=eC (lq n fr to ks kids) K V D∧b4 (fun q=>B q∨w.heap.size≤q) w' (lq n fr to ks kids) K V D∧Ext w w'
def Ro (bB aJ mG:Nat) (l:ad) (to:Int) (e1:World) (Q:Value→World→Prop):Prop:=
 ∃ (Eh:Int→World→Prop) (Jg:Int→World→Nat),Eh 0 e1∧∀ (n19:Int) (cE:World),Eh n19 cE→((decide ((n19:Int)<((l.len:Nat):Int)))=true→∃kJ:Addr,l.a=some kJ∧((0:Int)≤n19∧n19<((l.len:Nat):Int))∧∃fM:ad,cE.cell? (kJ.add (Int.toNat n19*2))=some (.slice fM.a fM.len fM.cap)∧∃n23:Int,cE.cell? ((kJ.add (Int.toNat n19*2)).add 1)=some (.int .i64 n23)∧az (cE.alloc (.cells #[.slice none 0 0, .int .i64 0] ai.uw)) fun dm=>cN dm ⟨cE.heap.size,0,none⟩ [.slice fM.a fM.len fM.cap, .int .i64 n23]∧(2:Nat)=2∧az (setCells dm ⟨cE.heap.size,0,none⟩ 0 [.slice fM.a fM.len fM.cap, .int .i64 n23]) fun fv=>c7 (fun BV:World→Prop=>∃ed:ad,fv.cell? ⟨cE.heap.size,0,none⟩=some (.slice ed.a ed.len ed.cap)∧((!(Option.isNone ed.a))=true→∃e4:ad,fv.cell? (Addr.add ⟨aJ,0,none⟩ 1)=some (.slice e4.a e4.len e4.cap)∧∃iL:ad,fv.cell? ⟨cE.heap.size,0,none⟩=some (.slice iL.a iL.len iL.cap)∧az (fv.alloc (.cells #[.slice iL.a iL.len iL.cap] ai.cG)) fun gD=>∃ia:ad,∃iK:World,Sem.run Tryz.prog (Builtin.append_ #[ai.cz,ai.cz] ai.cz #[.slice e4.a e4.len e4.cap, .slice (some ⟨fv.heap.size,0,none⟩) 1 1]) gD= .ok (.slice ia.a ia.len ia.cap) iK∧(∃u:Value,iK.cell? (Addr.add ⟨aJ,0,none⟩ 1)=some u)∧iK.frozen? (Addr.add ⟨aJ,0,none⟩ 1)=false∧az (iK.setCell (Addr.add ⟨aJ,0,none⟩ 1) (.slice ia.a ia.len ia.cap)) fun e3=>BV e3)∧((!(Option.isNone ed.a))=false→BV fv)) (fun (eS:World)=>∃fV:ad,eS.cell? (Addr.add ⟨aJ,0,none⟩ 3)=some (.slice fV.a fV.len fV.cap)∧∃n36:Int,eS.cell? (Addr.add ⟨cE.heap.size,0,none⟩ 1)=some (.int .i64 n36)∧az (eS.alloc (.cells #[.int .i64 n36] ai.int)) fun lX=>∃dw:ad,∃kN:World,Sem.run Tryz.prog (Builtin.append_ #[ai.dD,ai.dD] ai.dD #[.slice fV.a fV.len fV.cap, .slice (some ⟨eS.heap.size,0,none⟩) 1 1]) lX= .ok (.slice dw.a dw.len dw.cap) kN∧(∃u:Value,kN.cell? (Addr.add ⟨aJ,0,none⟩ 3)=some u)∧kN.frozen? (Addr.add ⟨aJ,0,none⟩ 3)=false∧az (kN.setCell (Addr.add ⟨aJ,0,none⟩ 3) (.slice dw.a dw.len dw.cap)) fun s0=>Eh (IntKind.wrap .i64 (n19+1)) s0∧Jg (IntKind.wrap .i64 (n19+1)) s0<Jg n19 cE))∧((decide ((n19:Int)<((l.len:Nat):Int)))=false→az (cE.drew) fun dO=>¬False∧∃k8:ad,dO.cell? (Addr.add ⟨aJ,0,none⟩ 1)=some (.slice k8.a k8.len k8.cap)∧¬False∧∃iN:ad,dO.cell? (Addr.add ⟨bB,0,none⟩ 1)=some (.slice iN.a iN.len iN.cap)∧((0:Int)≤(IntKind.wrap .i64 (to-1))∧(IntKind.wrap .i64 (to-1))≤((iN.len:Nat):Int))∧∃ib:ad,∃jf:World,Sem.run Tryz.prog (Builtin.append_ #[ai.cz,ai.cz] ai.cz #[.slice k8.a k8.len k8.cap, .slice (bf iN.a 1 (Int.toNat (IntKind.wrap .i64 (to-1))) iN.cap) (iN.len-(Int.toNat (IntKind.wrap .i64 (to-1)))) (iN.cap-(Int.toNat (IntKind.wrap .i64 (to-1))))]) dO= .ok (.slice ib.a ib.len ib.cap) jf∧(∃u:Value,jf.cell? (Addr.add ⟨aJ,0,none⟩ 1)=some u)∧jf.frozen? (Addr.add ⟨aJ,0,none⟩ 1)=false∧az (jf.setCell (Addr.add ⟨aJ,0,none⟩ 1) (.slice ib.a ib.len ib.cap)) fun kg=>az (kg.drew) fun dM=>¬False∧∃nQ:ad,dM.cell? (Addr.add ⟨aJ,0,none⟩ 3)=some (.slice nQ.a nQ.len nQ.cap)∧¬False∧∃jL:ad,dM.cell? (Addr.add ⟨bB,0,none⟩ 3)=some (.slice jL.a jL.len jL.cap)∧((0:Int)≤to∧to≤((jL.len:Nat):Int))∧∃fN:ad,∃qB:World,Sem.run Tryz.prog (Builtin.append_ #[ai.dD,ai.dD] ai.dD #[.slice nQ.a nQ.len nQ.cap, .slice (bf jL.a 1 (Int.toNat to) jL.cap) (jL.len-(Int.toNat to)) (jL.cap-(Int.toNat to))]) dM= .ok (.slice fN.a fN.len fN.cap) qB∧(∃u:Value,qB.cell? (Addr.add ⟨aJ,0,none⟩ 3)=some u)∧qB.frozen? (Addr.add ⟨aJ,0,none⟩ 3)=false∧az (qB.setCell (Addr.add ⟨aJ,0,none⟩ 3) (.slice fN.a fN.len fN.cap)) fun kh=>∃rX:Bool,kh.cell? ⟨aJ,0,none⟩=some (.bool rX)∧∃qC:ad,kh.cell? (Addr.add ⟨aJ,0,none⟩ 1)=some (.slice qC.a qC.len qC.cap)∧∃qD:ad,kh.cell? (Addr.add ⟨aJ,0,none⟩ 2)=some (.slice qD.a qD.len qD.cap)∧∃nR:ad,kh.cell? (Addr.add ⟨aJ,0,none⟩ 3)=some (.slice nR.a nR.len nR.cap)∧cN kh ⟨mG,0,none⟩ [.bool rX, .slice qC.a qC.len qC.cap, .slice qD.a qD.len qD.cap, .slice nR.a nR.len nR.cap]∧(4:Nat)=4∧az (setCells kh ⟨mG,0,none⟩ 0 [.bool rX, .slice qC.a qC.len qC.cap, .slice qD.a qD.len qD.cap, .slice nR.a nR.len nR.cap]) fun qE=>∃xm:Bool,qE.cell? ⟨mG,0,none⟩=some (.bool xm)∧∃k9:ad,qE.cell? (Addr.add ⟨mG,0,none⟩ 1)=some (.slice k9.a k9.len k9.cap)∧∃lY:ad,qE.cell? (Addr.add ⟨mG,0,none⟩ 2)=some (.slice lY.a lY.len lY.cap)∧∃hV:ad,qE.cell? (Addr.add ⟨mG,0,none⟩ 3)=some (.slice hV.a hV.len hV.cap)∧Q ( .agg #[.bool xm, .slice k9.a k9.len k9.cap, .slice lY.a lY.len lY.cap, .slice hV.a hV.len hV.cap]) qE)
structure Gs (B:Nat→Prop) (lo:Nat) (bB aJ mG:Nat) (n:aL) (K V D:ad) (ud:List Value) (w:World) (aO aM:ad) (cr cf:Nat→Prop) (ks:List Key) (ds:List Nat):Prop where
 lE:Var w bB [.bool n.leaf, .slice K.a K.len K.cap, .slice V.a V.len V.cap, .slice D.a D.len D.cap] ai.cD
 r:Var w mG ud ai.cD
 o:Var w aJ [.bool false, .slice aO.a aO.len aO.cap, .slice none 0 0, .slice aM.a aM.len aM.cap] ai.cD
 k:bV cr w aO ks
 d:dY cf w aM ds
 bK:∀q,cr q→(B q∧q<lo)∨(lo≤q∧q<w.heap.size∧q≠bB∧q≠aJ∧q≠mG∧¬cf q)
 aX:∀q,cf q→lo≤q∧q<w.heap.size∧q≠bB∧q≠aJ∧q≠mG
 zp:∀q,aP aO q→lo≤q
theorem Gs.ext {B:Nat→Prop} {lo bB aJ mG:Nat} {n:aL} {K V D:ad} {ud:List Value} {w w':World} {aO aM:ad} {cr cf:Nat→Prop} {ks:List Key} {ds:List Nat} (h:Gs B lo bB aJ mG n K V D ud w aO aM cr cf ks ds) (af:Ext w w'):Gs B lo bB aJ mG n K V D ud w' aO aM cr cf ks ds:=by
 have bD:=af.size
 exact ⟨h.lE.ext af,h.r.ext af,h.o.ext af,bV.ext h.k af,dY.ext h.d af,fun q J=>(h.bK q J).imp id fun h=>⟨h.1,by omega,h.2.2⟩,fun q J=>⟨(h.aX q J).1,by have:=(h.aX q J).2.1;omega,(h.aX q J).2.2⟩,h.zp⟩
theorem akr {B:Nat→Prop} {w e1:World} {bB aJ mG:Nat} {n:aL} {K V D s fO gP:ad} {ud:List Value} {cr cf:Nat→Prop} {ks:List Key} {kids:List Nat} {fr to:Nat} (gN:Gs B w.heap.size bB aJ mG n K V D ud e1 fO gP cr cf (n.keys.take fr) (n.kids.take fr)) (eo:Ext w e1)
   (aD:b4 B w n K V D) (aA:v8 B w s ks kids) (Qo:ud.length=4) (U:w.heap.size≤bB) (ab:w.heap.size≤aJ) (ao:w.heap.size≤mG) (aG:bB≠aJ∧bB≠mG∧aJ≠mG) (t1:1≤to) (t2:to≤n.kids.length) (t3:to-1≤n.keys.length) (c_:n.keys.length≤1000) (cZ:n.kids.length≤1000):
   Ro bB aJ mG s (to:Nat) e1 (M3 B n fr to ks kids w):=by
 obtain ⟨cg,cc,gv,rY⟩:=aA.at
 unfold Ro
 refine ⟨fun i w'=>∃ (j:Nat) (aO aM:ad) (cr cf:Nat→Prop),i=j∧j≤kids.length∧Ext w w'∧Gs B w.heap.size bB aJ mG n K V D ud w' aO aM cr cf (n.keys.take fr++ks.take (j-1)) (n.kids.take fr++kids.take j),fun i _=>((kids.length:Int)-i).toNat,⟨0,fO,gP,cr,cf,rfl,fy _,eo,by simpa using gN⟩,?_⟩
 rintro _ cE ⟨j,aO,aM,cr,cf,rfl,aU,p0,h⟩
 have MP:=p0.size
 refine ⟨fun a_=> ?_,fun cn=> ?_⟩
 · have a_:j<kids.length:=by
     have:((j:Nat):Int)<((s.len:Nat):Int):=di a_
     omega
   obtain ⟨A,t,ax,aS,bA,m0⟩:=(aA.ext p0).at.2.2.2 j a_
   refine ⟨A,ax,⟨by omega,by omega⟩,t,by rw[g6];exact aS,_,by rw[g6];exact bA,?_⟩
   have m0:(t.a=none∧ks.take j=ks.take (j-1))∨(t.a.isSome=true∧∃k,bX (fun q=>B q∧q<w.heap.size) cE t k∧ks.take j=ks.take (j-1)++ [k]):=by
     obtain ⟨aks,DF,oh,M0,_,iW⟩:=rY j a_
     rw[ax] at oh;cases oh
     have e:=aq.cell p0 (fun h=>h) M0
     rw[aS] at e
     injection e with e
     obtain rfl:t=DF:=by
       cases t;cases DF;simp at e;simp[e]
     rcases iW with h|⟨U,k,ab,ao⟩
     · exact .inl h
     · exact .inr ⟨U,k,bX.ext (bX.bx ab fun q J aa=>⟨aa,J⟩) p0,ao⟩
   refine cq (vs:=[.slice none 0 0, .int .i64 0]) rfl fun dm BT v_ Rj=> ?_
   refine ⟨BT.de rfl ?_,rfl,dW BT (us:=[.slice t.a t.len t.cap, .int .i64 ((kids[j]:Nat):Int)]) rfl rfl fun fv zm akt ajN=> ?_⟩
   · intro v ak
     simp only[fP,mL,mM] at ak
     rcases ak with rfl|rfl<;>trivial
   have Ee:Ext cE fv:=Ext.eX v_ akt (cU _)
   have om:=h.ext Ee
   have asb:=Ee.size
   have Yj:=p0.trans Ee
   obtain ⟨jM,M4⟩:∃jM,jM=cE.heap.size:=⟨_,rfl⟩
   rw[←M4] at zm⊢
   have asc:=zm.lt
   refine w9 (fun eS=>∃ (cP:ad) (rI:Nat→Prop),Gs B w.heap.size bB aJ mG n K V D ud eS cP aM rI cf (n.keys.take fr++ks.take j) (n.kids.take fr++kids.take j)∧Ext w eS∧Var eS jM [.slice t.a t.len t.cap, .int .i64 ((kids[j]:Nat):Int)] ai.uw∧fv.heap.size≤eS.heap.size) (fun q J=>⟨t,zm.cell,fun aa=> ?_,fun aa=> ?_⟩) ?_
   · rcases m0 with ⟨aT,_⟩|⟨_,k,ba,ry⟩
     · rw[aT] at aa;cases aa
     obtain ⟨zq,h8,kc,s3⟩:=b9 (V:=⟨none,0,0⟩) om.o
     have M5:∀q,aP aO q→cr q:=fun q J=>by
       obtain ⟨ts,_,_,ao,_⟩:=om.k
       exact (ao q J).1
     refine ⟨aO,h8,t,zm.cell,akq (B:=fun q=>cr q∨(B q∧q<w.heap.size)) om.o (o:=1) (by simp) (bV.bx om.k fun q _ aa=> .inl aa) (fun aa=> ?_) (bX.bx (bX.ext ba Ee) fun q _ aa=> .inr aa) (fun q J ae=> ?_) ?_ fun w' gb aC aF aH aN=>J _ ⟨gb,Grow (fun q=>cr q∨(B q∧q<w.heap.size)) fv w',?_,?_,?_,aH.size⟩⟩
     · rcases aa with aa|aa
       · rcases om.bK _ aa with aV|aV
         · omega
         · exact aV.2.2.2.1 rfl
       · omega
     · have:=(ba.2.2 q J).1.2
       have:=om.zp q ae
       omega
     · rw[dA,eA,eA];omega
     · have Gt:=aH.size
       have xI:∀q,aP aO q→q<cE.heap.size∧q≠bB∧q≠aJ∧q≠mG∧¬cf q:=fun q J=>by
         have b_:=h.zp q J
         rcases h.bK q (M5 q J) with aV|aV
         · omega
         · exact aV.2
       refine ⟨om.lE.an aH fun J=> ?_,om.r.an aH fun J=> ?_,aC,?_,dY.an om.d aH fun q aa J=> ?_,fun q aa=> ?_,fun q aa=>⟨(om.aX q aa).1,by have:=(om.aX q aa).2.1;omega,(om.aX q aa).2.2⟩,fun q J=> ?_⟩
       · rcases J with e|J
         · exact aG.1 e
         · exact (xI _ J).2.1 rfl
       · rcases J with e|J
         · exact aG.2.2 e.symm
         · exact (xI _ J).2.2.2.1 rfl
       · rw[ry,←d_];exact aF
       · rcases J with e|J
         · exact (om.aX q aa).2.2.2.1 e
         · exact (xI q J).2.2.2.2 aa
       · rcases aa with (aa|aa)|aa
         · exact (om.bK q aa).imp id fun aV=>⟨aV.1,by omega,aV.2.2⟩
         · exact .inl aa
         · refine .inr ⟨by omega,aa.2,fun e=> ?_,fun e=> ?_,fun e=> ?_,fun hd=> ?_⟩
           · have:=om.lE.lt;omega
           · have:=om.o.lt;omega
           · have:=om.r.lt;omega
           · have:=(om.aX q hd).2.1;omega
       · rcases aN q J with aV|aV
         · exact h.zp q aV
         · omega
     · exact Ext.gf Yj aH fun q J=>by
         rcases J with rfl|J
         · exact ab
         · exact om.zp q J
     · refine zm.an aH fun J=> ?_
       rcases J with e|J
       · have:=h.o.lt;omega
       · rcases h.bK _ (M5 _ J) with aV|aV<;>omega
   · rcases m0 with ⟨_,ry⟩|⟨aT,_⟩
     · refine J _ ⟨aO,cr,?_,Yj,zm,cU _⟩
       rw[ry];exact om
     · cases M6:t.a with
       |none=>rw[M6] at aT;cases aT
       |some A=>rw[M6] at aa;cases aa
   rintro eS ⟨cP,rI,nS,M7,Yk,akl⟩
   have asd:=Yk.lt
   obtain ⟨zq,h8,kc,s3⟩:=b9 (V:=⟨none,0,0⟩) nS.o
   have BW:∀q,aP aM q→cf q:=fun q J=>(nS.d.2 q J).1
   have oV:∀q,rI q→¬(q=aJ∨aP aM q):=fun q aa J=>by
     rcases nS.bK q aa with aV|aV
     · rcases J with e|J
       · omega
       · have:=(nS.aX q (BW q J)).1;omega
     · rcases J with e|J
       · exact aV.2.2.2.1 e
       · exact aV.2.2.2.2.2 (BW q J)
   have hw:IntKind.wrap .i64 ((j:Int)+1)=((j+1:Nat):Int):=by rw[ct (by omega) (by omega)];rfl
   refine ⟨aM,s3,_,by rw[bn];exact Yk.cell,(V5 (W:=fun _=>True) kids[j] nS.o (o:=3) (by simp) nS.d (fun aa=>(nS.aX _ aa).2.2.2.1 rfl) (by rw[dA,eA,eA];omega) fun w' gb aC aF aH=>⟨⟨j+1,cP,gb,rI,Grow cf eS w',hw,by omega,?_,?_⟩,?_⟩).2⟩
   · exact Ext.gf M7 aH fun q J=>by
       rcases J with rfl|J
       · exact ab
       · exact (nS.aX q (BW q J)).1
   · have Gt:=aH.size
     refine ⟨nS.lE.an aH fun J=> ?_,nS.r.an aH fun J=> ?_,aC,?_,?_,fun q aa=> ?_,fun q aa=> ?_,nS.zp⟩
     · rcases J with e|J
       · exact aG.1 e
       · exact (nS.aX _ (BW _ J)).2.2.1 rfl
     · rcases J with e|J
       · exact aG.2.2 e.symm
       · exact (nS.aX _ (BW _ J)).2.2.2.2 rfl
     · exact bV.an nS.k aH oV
     · rw[ss a_,←d_];exact aF
     · refine (nS.bK q aa).imp id fun aV=>⟨aV.1,by omega,aV.2.2.1,aV.2.2.2.1,aV.2.2.2.2.1,fun hd=> ?_⟩
       rcases hd with hd|hd
       · exact aV.2.2.2.2.2 hd
       · omega
     · rcases aa with aa|aa
       · exact ⟨(nS.aX q aa).1,by have:=(nS.aX q aa).2.1;omega,(nS.aX q aa).2.2⟩
       · refine ⟨by have:=M7.size;omega,aa.2,fun e=> ?_,fun e=> ?_,fun e=> ?_⟩
         · have:=nS.lE.lt;omega
         · have:=nS.o.lt;omega
         · have:=nS.r.lt;omega
   · rw[hw]
     show ((kids.length:Int)-((j+1:Nat):Int)).toNat<((kids.length:Int)-(j:Int)).toNat
     omega
 · have cn:j=kids.length:=by
     have:¬((j:Nat):Int)<((s.len:Nat):Int):=eB cn
     omega
   subst cn
   have bS:Ext cE cE.drew:=eR _
   have h:=h.ext bS
   have p0:=p0.trans bS
   have ry:ks.take (kids.length-1)=ks:=gV (by omega)
   rw[ry,rv] at h
   obtain ⟨zq,h8,kc,s3⟩:=b9 (V:=⟨none,0,0⟩) h.o
   obtain ⟨Yl,s4,iX,BX⟩:=b9 h.lE
   have Ym:b4 (fun q=>B q∧q<w.heap.size) w n K V D:=aD.bx fun q J aa=>⟨aa,J⟩
   have Rp:=Ym.ext p0
   have BY:=bO.len Rp.keys
   have Jh:=dJ.len Rp.kids
   have Yn:IntKind.wrap .i64 ((to:Int)-1)=((to-1:Nat):Int):=by rw[ct (by omega) (by omega)];omega
   have M5:∀q,aP aO q→cr q:=fun q J=>by
     obtain ⟨ts,_,_,ao,_⟩:=h.k
     exact (ao q J).1
   have BW:∀q,aP aM q→cf q:=fun q J=>(h.d.2 q J).1
   have Yo:=bO.sub Rp.keys (lo:=to-1) (hi:=n.keys.length) t3 (cU _)
   have aku:(n.keys.drop (to-1)).take (n.keys.length-(to-1))=n.keys.drop (to-1):=gV (by rw[fx];exact cU _)
   rw[aku] at Yo
   obtain ⟨s5,jf,aW,bq,ec⟩:=Qn h.k Yo (fun q J ae=>by have:=h.zp q ae;omega) (by rw[dA,eA];omega) (by rw[fx];omega)
   have vE:cE.drew.heap.size=cE.heap.size:=rfl
   have xI:∀q,aP aO q→q<cE.drew.heap.size∧q≠bB∧q≠aJ∧q≠mG∧¬cf q:=fun q J=>by
     have b_:=h.zp q J
     rcases h.bK q (M5 q J) with aV|aV
     · omega
     · exact aV.2
   have ase:=ec.size
   have akv:Ext w jf:=Ext.gf p0 ec fun q J=>h.zp q J
   have Yp:=h.o.an ec fun J=>(xI _ J).2.2.1 rfl
   have akw:=h.lE.an ec fun J=>(xI _ J).2.1 rfl
   have akx:=h.r.an ec fun J=>(xI _ J).2.2.2.1 rfl
   have aky:dY cf jf aM _:=dY.an h.d ec fun q aa J=>(xI q J).2.2.2.2 aa
   obtain ⟨ej,eO⟩:=jI Yp (i:=1) (by simp)
   refine bW ⟨id,aO,h8,id,K,s4,?_,s5,jf,?_,by rw[bn];exact ej,by rw[bn];exact eO,?_⟩
   · rw[Yn,BY];omega
   · rw[Yn,g6,BY];exact aW
   rw[bn,gd]
   have Ei:=iq jf aJ 1 (.slice s5.a s5.len s5.cap)
   have Ji:=jH Yp (i:=1) (.slice s5.a s5.len s5.cap)
   obtain ⟨kg,akz⟩:∃kg,kg=jf.setCell ⟨aJ,1,none⟩ (.slice s5.a s5.len s5.cap):=⟨_,rfl⟩
   rw[←akz] at Ei Ji⊢
   have ajU:=Ei.size
   have Rq:=akw.an Ei (fun e=>aG.1 e)
   have Rr:=akx.an Ei (fun e=>aG.2.2 e.symm)
   have Rs:dY cf kg aM _:=dY.an aky Ei fun q aa e=>(h.aX q aa).2.2.2.1 e
   have Jj:Ext w kg:=Ext.eX akv Ei ab
   have oo:Ext kg kg.drew:=eR _
   have kE:∀q,(cr q∨(B q∧q<w.heap.size)∨cE.drew.heap.size≤q)→q≠aJ:=fun q J e=>by
     subst e
     rcases J with J|J|J
     · rcases h.bK _ J with aV|aV
       · omega
       · exact aV.2.2.2.1 rfl
     · omega
     · have:=h.o.lt;omega
   have akA:=bO.ext (bO.an bq Ei kE) oo
   have Ji:=Ji.ext oo
   have Rq:=Rq.ext oo
   have Rr:=Rr.ext oo
   have Rs:=dY.ext Rs oo
   have Jj:=Jj.trans oo
   obtain ⟨zq,h8,kc,s3⟩:=b9 (V:=⟨none,0,0⟩) Ji
   obtain ⟨Yl,s4,iX,BX⟩:=b9 Rq
   have Yq:=dJ.sub (Ym.ext Jj).kids (lo:=to) (hi:=n.kids.length) t2 (cU _)
   have akB:(n.kids.drop to).take (n.kids.length-to)=n.kids.drop to:=gV (by rw[fx];exact cU _)
   rw[akB] at Yq
   obtain ⟨s6,qB,f1,f2,f3⟩:=WK Rs Yq (by rw[dA,eA];omega) (by rw[fx];omega)
   have asf:kg.drew.heap.size=kg.heap.size:=rfl
   have asg:=f3.size
   have jn:∀q,aP aM q→w.heap.size≤q∧q<cE.drew.heap.size∧q≠bB∧q≠aJ∧q≠mG:=fun q J=>h.aX q (BW q J)
   have akC:Ext w qB:=Ext.gf Jj f3 fun q J=>(jn q J).1
   have Yr:=Ji.an f3 fun J=>(jn _ J).2.2.2.1 rfl
   have akD:=Rr.an f3 fun J=>(jn _ J).2.2.2.2 rfl
   have akE:=bO.an akA f3 fun q aa J=>by
     have ash:=jn q J
     rcases aa with aa|aa|aa
     · rcases h.bK q aa with aV|aV
       · omega
       · exact aV.2.2.2.2.2 (BW q J)
     · omega
     · omega
   obtain ⟨ej,eO⟩:=jI Yr (i:=3) (by simp)
   refine bW (bW ⟨id,aM,s3,id,D,BX,?_,s6,qB,?_,by rw[bn];exact ej,by rw[bn];exact eO,?_⟩)
   · rw[Jh];omega
   · rw[g6,Jh];exact f1
   rw[bn,gd]
   have Gu:=iq qB aJ 3 (.slice s6.a s6.len s6.cap)
   have Ys:=jH Yr (i:=3) (.slice s6.a s6.len s6.cap)
   obtain ⟨kh,akF⟩:∃kh,kh=qB.setCell ⟨aJ,3,none⟩ (.slice s6.a s6.len s6.cap):=⟨_,rfl⟩
   rw[←akF] at Gu Ys⊢
   have asi:=Gu.size
   have akG:=akD.an Gu (fun e=>aG.2.2 e.symm)
   have akH:Ext w kh:=Ext.eX akC Gu ab
   have akI:=bO.an akE Gu kE
   have akJ:=dJ.an f2 Gu fun q aa e=>by
     subst e
     rcases aa with aa|aa|aa
     · exact (h.aX _ aa).2.2.2.1 rfl
     · omega
     · have:=h.o.lt;omega
   obtain ⟨zq,h8,kc,s3⟩:=b9 (V:=⟨none,0,0⟩) Ys
   refine bW ⟨_,zq,s5,h8,⟨none,0,0⟩,kc,s6,s3,?_⟩
   refine qm false s5 ⟨none,0,0⟩ s6 akG Qo (Q:=fun b K V D aw=>M3 B n fr to ks kids w (.agg #[.bool b, .slice K.a K.len K.cap, .slice V.a V.len V.cap, .slice D.a D.len D.cap]) aw) fun qE Bo=> ?_
   refine ⟨s5,⟨none,0,0⟩,s6,rfl,⟨?_,?_,?_⟩,Ext.eX akH Bo ao⟩
   · refine bO.bx (bO.an akI Bo fun q aa e=> ?_) fun q _ aa=> ?_
     · subst e
       rcases aa with aa|aa|aa
       · rcases h.bK _ aa with aV|aV
         · omega
         · exact aV.2.2.2.2.1 rfl
       · omega
       · have:=h.r.lt;omega
     · rcases aa with aa|aa|aa
       · rcases h.bK _ aa with aV|aV
         · exact .inl aV.1
         · exact .inr aV.1
       · exact .inl aa.1
       · have:=p0.size;exact .inr (by omega)
   · exact bO.none _ _
   · refine dJ.bx (dJ.an akJ Bo fun q aa e=> ?_) fun q _ aa=> ?_
     · subst e
       rcases aa with aa|aa|aa
       · exact (h.aX _ aa).2.2.2.2 rfl
       · omega
       · have:=h.r.lt;omega
     · rcases aa with aa|aa|aa
       · exact .inr (h.aX _ aa).1
       · exact .inl aa.1
       · have:=Jj.size;exact .inr (by omega)
end
section
theorem Rt (K D:ad) (w:World):Sem.run Tryz.prog (Instr.build ai.cD #[(1, .slice K.a K.len K.cap),(3, .slice D.a D.len D.cap)]) w= .ok (.agg #[.bool false, .slice K.a K.len K.cap, .slice none 0 0, .slice D.a D.len D.cap]) w:=by kernel_rfl
theorem xJ {B:Nat→Prop} {w:World} {n:aL} {K V D s:ad} {ks:List Key} {kids:List Nat} {fr to:Nat} (aD:b4 B w n K V D) (aA:v8 B w s ks kids) (f1:fr≤n.keys.length) (f2:fr≤n.kids.length) (t1:1≤to) (t2:to≤n.kids.length) (t3:to-1≤n.keys.length) (c_:n.keys.length≤1000) (cZ:n.kids.length≤1000):
   aR Tryz.prog F.xJ #[eC n K V D, .int .i64 (fr:Nat), .int .i64 (to:Nat), .slice s.a s.len s.cap] w (M3 B n fr to ks kids w):=by
 refine W.akK n.leaf K V D (fr:Nat) (to:Nat) s w _ ?_
 (delta W.xJ c8 ah ar en mx s7 aE aX bL z4 Mt st ay bJ Mi;dsimp only)
 refine cq (vs:=[.bool n.leaf, .slice K.a K.len K.cap, .slice V.a V.len V.cap, .slice D.a D.len D.cap]) rfl fun ag fH bH km=> ?_
 refine cq (vs:=[.bool false, .slice none 0 0, .slice none 0 0, .slice none 0 0]) rfl fun aw fz cB me=>bW ?_
 have bS:Ext aw aw.drew:=eR _
 have g9:=(bH.trans cB).trans bS
 obtain ⟨bc,nF⟩:∃bc,bc=aw.drew:=⟨_,rfl⟩
 have rF:bc.heap.size=aw.heap.size:=by rw[nF];rfl
 rw[←nF] at g9 bS⊢
 have vn:=(fH.ext cB).ext bS
 have A7:=fz.ext bS
 obtain ⟨cy,aS,bA,aZ⟩:=b9 vn
 have pN:b4 (fun q=>B q∧q<w.heap.size) bc n K V D:=(aD.bx fun q J aa=>⟨aa,J⟩).ext g9
 have BY:=bO.len pN.keys
 have Jh:=dJ.len pN.kids
 have asj:=bO.le pN.keys
 have akL:=pN.kids.2.1
 have Ru:=bO.sub pN.keys (lo:=0) (hi:=fr) (fy _) f1
 have M8:=dJ.sub pN.kids (lo:=0) (hi:=fr) (fy _) f2
 rw[C7,Fj] at Ru M8
 have gB:Int.toNat ((fr:Nat):Int)-0=fr:=by rw[g6];rfl
 have fin:∀ (e1:World) (aJ:Nat) (fO gP:ad),Ext bc e1→Var e1 aJ [.bool false, .slice fO.a fO.len fO.cap, .slice none 0 0, .slice gP.a gP.len gP.cap] ai.cD→bc.heap.size≤aJ→bV (fun q=>(B q∧q<w.heap.size)∨(bc.heap.size≤q∧aP fO q)) e1 fO (n.keys.take fr)→bU 1 ai.int e1 gP (gg (n.kids.take fr))→
     (∀q,aP fO q→bc.heap.size≤q∧q≠aJ)→(∀q,aP gP q→bc.heap.size≤q∧q≠aJ∧¬aP fO q)→Ro w.heap.size aJ ag.heap.size s (to:Nat) e1 (M3 B n fr to ks kids w):=by
   intro e1 aJ fO gP af bR eL bp yT Yt Yu
   have bD:=af.size
   have a_:∀q,aP fO q→q<e1.heap.size:=fun q J=>by
     obtain ⟨ts,_,aG,_,_⟩:=bp
     exact aG.lt q J
   refine akr (cr:=fun q=>(B q∧q<w.heap.size)∨aP fO q) (cf:=fun q=>aP gP q) ⟨vn.ext af,A7.ext af,bR,bV.bx bp fun q _ aa=>aa.imp id fun h=>h.2,⟨yT,fun q J=>⟨J,bU.lt yT q J⟩⟩,fun q aa=> ?_,fun q aa=> ?_,fun q J=>by have:=(Yt q J).1;omega⟩ (g9.trans af) aD aA rfl (cU _) (by omega) (by omega) ⟨by omega,by omega,by omega⟩ t1 t2 t3 c_ cZ
   · rcases aa with aa|aa
     · exact .inl aa
     · have aV:=Yt q aa
       exact .inr ⟨by omega,a_ q aa,by omega,aV.2,by omega,fun b_=>(Yu q b_).2.2 aa⟩
   · have aV:=Yu q aa
     exact ⟨by omega,bU.lt yT q aa,by omega,aV.2.1,by omega⟩
 refine ⟨fun _=>False,id,K,aS,⟨by omega,by omega⟩,id,D,aZ,⟨by omega,by omega⟩,?_,?_⟩
 · rw[gB]
   refine (Yi Ru (by rw[eA];omega)).use ?_
   rintro _ bt ⟨fO,rfl,Ej,fe,wZ⟩
   have FO:=fe.size
   refine ⟨fO,rfl,fe,?_,?_⟩
   · refine (Iw (M8.1.ext fe) (by rw[eA];omega)).use ?_
     rintro _ cj ⟨gP,rfl,Gv,mz,Yv⟩
     have Wu:=mz.size
     refine ⟨gP,rfl,mz,_,Rt fO gP,cq (vs:=[.bool false, .slice none 0 0, .slice none 0 0, .slice none 0 0]) rfl fun gR Yw BZ akM=>⟨BZ,Yw.de rfl (ky (b:=false) (K:=fO) (V:=⟨none,0,0⟩) (D:=gP)),rfl,dW Yw (us:=[.bool false, .slice fO.a fO.len fO.cap, .slice none 0 0, .slice gP.a gP.len gP.cap]) rfl rfl fun cX Jk nJ Rv=> ?_⟩⟩
     have q6:Ext cj cX:=Ext.eX BZ nJ (cU _)
     have fI:∀q,aP fO q→q<bt.heap.size:=fun q J=>by
       obtain ⟨ts,_,aG,_,_⟩:=Ej
       exact aG.lt q J
     exact fin cX cj.heap.size fO gP (fe.trans (mz.trans q6)) Jk (by omega) (bV.bx (bV.ext Ej (mz.trans q6)) fun q _ aa=>aa.imp (fun h=>h.1) id) (Gv.ext q6) (fun q J=>⟨wZ q J,by have:=fI q J;omega⟩) fun q J=>⟨by have:=Yv q J;omega,by have:=bU.lt Gv q J;omega,fun h=>by have:=fI q h;have:=Yv q J;omega⟩
   · refine cq (vs:=[.bool false, .slice none 0 0, .slice none 0 0, .slice none 0 0]) rfl fun gl Rw B0 akN=>⟨B0,(Iw ((M8.1.ext fe).ext B0) (by rw[eA];omega)).use ?_⟩
     rintro _ dp ⟨gP,rfl,Gv,B1,zr⟩
     have Ek:=Rw.ext B1
     refine ⟨gP,rfl,B1,_,Rt fO gP,Ek.de rfl (ky (b:=false) (K:=fO) (V:=⟨none,0,0⟩) (D:=gP)),rfl,dW Ek (us:=[.bool false, .slice fO.a fO.len fO.cap, .slice none 0 0, .slice gP.a gP.len gP.cap]) rfl rfl fun cX Jk nJ Rv=> ?_⟩
     have q6:Ext bt cX:=Ext.eX (B0.trans B1) nJ (cU _)
     have fI:∀q,aP fO q→q<bt.heap.size:=fun q J=>by
       obtain ⟨ts,_,aG,_,_⟩:=Ej
       exact aG.lt q J
     exact fin cX bt.heap.size fO gP (fe.trans q6) Jk (by omega) (bV.bx (bV.ext Ej q6) fun q _ aa=>aa.imp (fun h=>h.1) id) (Gv.an nJ fun q J e=>by have:=zr q J;omega) (fun q J=>⟨wZ q J,by have:=fI q J;omega⟩) fun q J=>⟨by have:=zr q J;omega,by have:=zr q J;omega,fun h=>by have:=fI q h;have:=zr q J;omega⟩
 · rw[gB]
   refine cq (vs:=[.bool false, .slice none 0 0, .slice none 0 0, .slice none 0 0]) rfl fun gl Rw B0 akN=>⟨B0,(Yi (bO.ext Ru B0) (by rw[eA];omega)).use ?_⟩
   rintro _ bt ⟨fO,rfl,Ej,fe,wZ⟩
   have FO:=fe.size
   refine ⟨fO,rfl,fe,(Iw ((M8.1.ext B0).ext fe) (by rw[eA];omega)).use ?_⟩
   rintro _ dp ⟨gP,rfl,Gv,B1,zr⟩
   have Ek:=(Rw.ext fe).ext B1
   refine ⟨gP,rfl,B1,_,Rt fO gP,Ek.de rfl (ky (b:=false) (K:=fO) (V:=⟨none,0,0⟩) (D:=gP)),rfl,dW Ek (us:=[.bool false, .slice fO.a fO.len fO.cap, .slice none 0 0, .slice gP.a gP.len gP.cap]) rfl rfl fun cX Jk nJ Rv=> ?_⟩
   have q6:Ext bc cX:=Ext.eX ((B0.trans fe).trans B1) nJ (cU _)
   have fI:∀q,aP fO q→q<bt.heap.size:=fun q J=>by
     obtain ⟨ts,_,aG,_,_⟩:=Ej
     exact aG.lt q J
   have akO:bV (fun q=>(B q∧q<w.heap.size)∨(bc.heap.size≤q∧aP fO q)) cX fO (n.keys.take fr):=by
     have aV:=bV.bx (C:=fun q=>(B q∧q<w.heap.size)∨(gl.heap.size≤q∧aP fO q)) (bV.ext Ej B1) fun q _ aa=>aa.imp (fun h=>h.1) id
     exact bV.bx (bV.an aV nJ fun q aa e=>by rcases aa with aa|aa<;>omega) fun q _ aa=>aa.imp id fun h=>⟨by omega,h.2⟩
   exact fin cX bc.heap.size fO gP q6 Jk (cU _) akO (Gv.an nJ fun q J e=>by have:=zr q J;omega) (fun q J=>⟨by have:=wZ q J;omega,by have:=wZ q J;omega⟩) fun q J=>⟨by have:=zr q J;omega,by have:=zr q J;omega,fun h=>by have:=fI q h;have:=zr q J;omega⟩
end
section
def xK (n:aL):Prop:=dC n∧cd n≤400∧(232<cd n→1≤c2 n∧(if n.leaf then c2 n≤n.keys.length-1∧1≤n.keys.length-1 else c2 n≤n.keys.length-2∧1≤n.keys.length-2)∧cd (n.left (c2 n))≤232∧cd (n.right (c2 n))≤232)
structure xL (B:Nat→Prop) (w:World) (A:Addr) (u:fL):Prop where
 aS:w.cell? (A.add 1)=some (.bool u.n.leaf)
 bA:w.cell? ((A.add 1).add 1)=some (.slice u.K.a u.K.len u.K.cap)
 aZ:w.cell? ((A.add 1).add 2)=some (.slice u.V.a u.V.len u.V.cap)
 fK:w.cell? ((A.add 1).add 3)=some (.slice u.D.a u.D.len u.D.cap)
 dK:w.cell? (A.add 5)=some (.int .i64 (u.ew:Nat))
 dU:b4 B w u.n u.K u.V u.D
 db:B A.block
 lt:A.block<w.heap.size
theorem xL.ext {B:Nat→Prop} {w w':World} {A:Addr} {u:fL} (h:xL B w A u) (af:Ext w w'):xL B w' A u:=
 ⟨aq.cell af (fun h=>h) h.aS,aq.cell af (fun h=>h) h.bA,aq.cell af (fun h=>h) h.aZ,aq.cell af (fun h=>h) h.fK,aq.cell af (fun h=>h) h.dK,h.dU.ext af,h.db,lP h.lt af.size⟩
theorem xL.to {w w':World} {T av:aY} {k:Nat} {A:Addr} {u:fL} (h:xL (fun q=>¬T.M q) w A u) (ba:cp T av w w' k):xL (fun q=>¬av.M q) w' A u:=by
 have al:=ba.an
 have jl:¬T.N A.block:=fun aD=>h.db (aY.lV aD)
 refine ⟨aq.cell al (A:=A.add 1) jl h.aS,aq.cell al (A:=(A.add 1).add 1) jl h.bA,aq.cell al (A:=(A.add 1).add 2) jl h.aZ,aq.cell al (A:=(A.add 1).add 3) jl h.fK,aq.cell al (A:=A.add 5) jl h.dK,?_,fun hm=> ?_,lP h.lt al.size⟩
 · have U:=ba.dU (lo:=0) (h.dU.bx fun q _ aa=>⟨fy _,aa⟩)
   exact U.bx fun q _ aa=>aa.2
 · rcases ba.jK _ hm with U|U
   · exact h.db U
   · have:=h.lt;omega
theorem oW.base {T:aY} {c:fT} {n:aL} {dd w w':World} {v:Value} (h:oW T c n w v w') (af:Ext dd w):oW T c n dd v w':=by
 obtain ⟨av,c',m,s,aC,aF,aH,aN⟩:=h
 exact ⟨av,c',m,s,aC,((fl.ext T c af).trans aF).mono (by omega),aH,aN⟩
theorem oW.out {T:aY} {c:fT} {n:aL} {w w':World} {v:Value} (h:oW T c n w v w'):∃ (s:ad) (e:Int),v= .tuple #[.slice s.a s.len s.cap, .int .i64 e]:=by
 obtain ⟨av,c',m,s,aC,aF,aH,aN⟩:=h
 rcases aN with ⟨ks,rfl,_⟩|⟨rfl,_⟩
 · exact ⟨s,0,rfl⟩
 · exact ⟨s,3,rfl⟩
def Rx (bB aJ nn bv:Nat) (c up:Option Addr) (n31 n36:Int) (e1:World) (Q:Value→World→Prop):Prop:=
 c7 (fun B2:World→Prop=>∃B3:Addr,up=some B3∧∃zt:Int,e1.cell? (B3.add 5)=some (.int .i64 zt)∧((decide ((n36:Int)>zt))=true→az (e1.drew) fun hX=>∃wa:Nat→Prop,¬wa (⟨bB,0,none⟩:Addr).block∧∃pQ:Bool,hX.cell? ⟨bB,0,none⟩=some (.bool pQ)∧∃hZ:ad,hX.cell? (Addr.add ⟨bB,0,none⟩ 1)=some (.slice hZ.a hZ.len hZ.cap)∧∃h4:ad,hX.cell? (Addr.add ⟨bB,0,none⟩ 2)=some (.slice h4.a h4.len h4.cap)∧∃h5:ad,hX.cell? (Addr.add ⟨bB,0,none⟩ 3)=some (.slice h5.a h5.len h5.cap)∧¬wa (⟨aJ,0,none⟩:Addr).block∧∃zu:Bool,hX.cell? ⟨aJ,0,none⟩=some (.bool zu)∧∃j1:ad,hX.cell? (Addr.add ⟨aJ,0,none⟩ 1)=some (.slice j1.a j1.len j1.cap)∧∃iF:ad,hX.cell? (Addr.add ⟨aJ,0,none⟩ 2)=some (.slice iF.a iF.len iF.cap)∧∃lZ:ad,hX.cell? (Addr.add ⟨aJ,0,none⟩ 3)=some (.slice lZ.a lZ.len lZ.cap)∧cN hX ⟨nn,0,none⟩ [.bool pQ, .slice hZ.a hZ.len hZ.cap, .slice h4.a h4.len h4.cap, .slice h5.a h5.len h5.cap]∧(4:Nat)=4∧az (setCells hX ⟨nn,0,none⟩ 0 [.bool pQ, .slice hZ.a hZ.len hZ.cap, .slice h4.a h4.len h4.cap, .slice h5.a h5.len h5.cap]) fun wb=>aq wa hX wb∧cN wb ⟨bv,0,none⟩ [.bool zu, .slice j1.a j1.len j1.cap, .slice iF.a iF.len iF.cap, .slice lZ.a lZ.len lZ.cap]∧(4:Nat)=4∧az (setCells wb ⟨bv,0,none⟩ 0 [.bool zu, .slice j1.a j1.len j1.cap, .slice iF.a iF.len iF.cap, .slice lZ.a lZ.len lZ.cap]) fun El=>B2 El)∧((decide ((n36:Int)>zt))=false→B2 e1)) (fun (lB:World)=>az (lB.drew) fun fh=>∃l0:Nat→Prop,¬l0 (⟨nn,0,none⟩:Addr).block∧∃xM:Bool,fh.cell? ⟨nn,0,none⟩=some (.bool xM)∧∃iG:ad,fh.cell? (Addr.add ⟨nn,0,none⟩ 1)=some (.slice iG.a iG.len iG.cap)∧∃l1:ad,fh.cell? (Addr.add ⟨nn,0,none⟩ 2)=some (.slice l1.a l1.len l1.cap)∧∃g1:ad,fh.cell? (Addr.add ⟨nn,0,none⟩ 3)=some (.slice g1.a g1.len g1.cap)∧∃wc:Addr,up=some wc∧¬l0 ((wc.add 1).add 1).block∧∃j_:ad,fh.cell? ((wc.add 1).add 1)=some (.slice j_.a j_.len j_.cap)∧∃we:Addr,j_.a=some we∧((0:Int)≤n31∧n31<((j_.len:Nat):Int))∧¬l0 (we.add (Int.toNat n31*1)).block∧∃l2:ad,fh.cell? (we.add (Int.toNat n31*1))=some (.slice l2.a l2.len l2.cap)∧¬l0 (⟨bv,0,none⟩:Addr).block∧∃xN:Bool,fh.cell? ⟨bv,0,none⟩=some (.bool xN)∧∃iH:ad,fh.cell? (Addr.add ⟨bv,0,none⟩ 1)=some (.slice iH.a iH.len iH.cap)∧∃iI:ad,fh.cell? (Addr.add ⟨bv,0,none⟩ 2)=some (.slice iI.a iI.len iI.cap)∧∃l3:ad,fh.cell? (Addr.add ⟨bv,0,none⟩ 3)=some (.slice l3.a l3.len l3.cap)∧(Calls Tryz.prog F.pg #[.agg #[.bool xM, .slice iG.a iG.len iG.cap, .slice l1.a l1.len l1.cap, .slice g1.a g1.len g1.cap], .slice l2.a l2.len l2.cap, .agg #[.bool xN, .slice iH.a iH.len iH.cap, .slice iI.a iI.len iI.cap, .slice l3.a l3.len l3.cap]] fh fun Ry iR=>∃ux:Bool,∃k_:ad,∃ld:ad,∃lf:ad,∃wg:Bool,Ry= .returned ( .tuple #[.agg #[.bool ux, .slice k_.a k_.len k_.cap, .slice ld.a ld.len ld.cap, .slice lf.a lf.len lf.cap], .bool wg])∧aq l0 fh iR∧az (iR.alloc (.cells #[.bool false, .slice none 0 0, .slice none 0 0, .slice none 0 0] ai.cD)) fun pk=>aq l0 iR pk∧cN pk ⟨iR.heap.size,0,none⟩ [.bool ux, .slice k_.a k_.len k_.cap, .slice ld.a ld.len ld.cap, .slice lf.a lf.len lf.cap]∧(4:Nat)=4∧az (setCells pk ⟨iR.heap.size,0,none⟩ 0 [.bool ux, .slice k_.a k_.len k_.cap, .slice ld.a ld.len ld.cap, .slice lf.a lf.len lf.cap]) fun lg=>((!wg)=true→Q (.tuple #[.slice none 0 0, .int .i64 0, .int .i64 0, .int .i64 4]) lg)∧((!wg)=false→∃Em:Bool,lg.cell? ⟨iR.heap.size,0,none⟩=some (.bool Em)∧∃nT:ad,lg.cell? (Addr.add ⟨iR.heap.size,0,none⟩ 1)=some (.slice nT.a nT.len nT.cap)∧∃p2:ad,lg.cell? (Addr.add ⟨iR.heap.size,0,none⟩ 2)=some (.slice p2.a p2.len p2.cap)∧∃p3:ad,lg.cell? (Addr.add ⟨iR.heap.size,0,none⟩ 3)=some (.slice p3.a p3.len p3.cap)∧Calls Tryz.prog F.q5 #[.pointer c, .agg #[.bool Em, .slice nT.a nT.len nT.cap, .slice p2.a p2.len p2.cap, .slice p3.a p3.len p3.cap]] lg fun Rz Jl=>∃p4:ad,∃En:Int,Rz= .returned (.tuple #[.slice p4.a p4.len p4.cap, .int .i64 En])∧Q ( .tuple #[.slice p4.a p4.len p4.cap, .int .i64 n31, .int .i64 (IntKind.wrap .i64 (n31+2)), .int .i64 En]) Jl))∧(az (fh.alloc (.cells #[.bool false, .slice none 0 0, .slice none 0 0, .slice none 0 0] ai.cD)) fun uy=>aq l0 fh uy∧Calls Tryz.prog F.pg #[.agg #[.bool xM, .slice iG.a iG.len iG.cap, .slice l1.a l1.len l1.cap, .slice g1.a g1.len g1.cap], .slice l2.a l2.len l2.cap, .agg #[.bool xN, .slice iH.a iH.len iH.cap, .slice iI.a iI.len iI.cap, .slice l3.a l3.len l3.cap]] uy fun RA wh=>∃zv:Bool,∃mH:ad,∃nU:ad,∃nV:ad,∃zw:Bool,RA= .returned ( .tuple #[.agg #[.bool zv, .slice mH.a mH.len mH.cap, .slice nU.a nU.len nU.cap, .slice nV.a nV.len nV.cap], .bool zw])∧aq l0 uy wh∧cN wh ⟨fh.heap.size,0,none⟩ [.bool zv, .slice mH.a mH.len mH.cap, .slice nU.a nU.len nU.cap, .slice nV.a nV.len nV.cap]∧(4:Nat)=4∧az (setCells wh ⟨fh.heap.size,0,none⟩ 0 [.bool zv, .slice mH.a mH.len mH.cap, .slice nU.a nU.len nU.cap, .slice nV.a nV.len nV.cap]) fun s8=>((!zw)=true→Q (.tuple #[.slice none 0 0, .int .i64 0, .int .i64 0, .int .i64 4]) s8)∧((!zw)=false→∃Jm:Bool,s8.cell? ⟨fh.heap.size,0,none⟩=some (.bool Jm)∧∃s9:ad,s8.cell? (Addr.add ⟨fh.heap.size,0,none⟩ 1)=some (.slice s9.a s9.len s9.cap)∧∃s_:ad,s8.cell? (Addr.add ⟨fh.heap.size,0,none⟩ 2)=some (.slice s_.a s_.len s_.cap)∧∃oX:ad,s8.cell? (Addr.add ⟨fh.heap.size,0,none⟩ 3)=some (.slice oX.a oX.len oX.cap)∧Calls Tryz.prog F.q5 #[.pointer c, .agg #[.bool Jm, .slice s9.a s9.len s9.cap, .slice s_.a s_.len s_.cap, .slice oX.a oX.len oX.cap]] s8 fun RB RC=>∃ta:ad,∃Jn:Int,RB= .returned (.tuple #[.slice ta.a ta.len ta.cap, .int .i64 Jn])∧Q ( .tuple #[.slice ta.a ta.len ta.cap, .int .i64 n31, .int .i64 (IntKind.wrap .i64 (n31+2)), .int .i64 Jn]) RC)))
theorem akP {RD RE:Nat→Prop} {dd e1:World} {T:aY} {c:fT} {bB aJ nn bv:Nat} {A:Addr} {u:fL} {n o:aL} {K V D l4 l5 Do:ad} {fr other:Nat} {Q:Value→World→Prop} (h:fk dd T c) (af:Ext dd e1) (kC:Var dd bB (gj n K V D) ai.cD) (eL:Var dd aJ (gj o l4 l5 Do) ai.cD)
   (Yx:Var e1 nn (gj o l4 l5 Do) ai.cD) (A4:Var e1 bv (gj n K V D) ai.cD) (U:dd.heap.size≤nn) (ab:dd.heap.size≤bv) (ao:nn≠bv) (aD:b4 RD dd n K V D) (bR:b4 RE dd o l4 l5 Do) (hu:xL (fun q=>¬T.M q) dd A u)
   (fS:T.C.D.cS≤900000090) (jt:2≤fw T) (n1:c.made.length≤900) (zx:dC n) (Eo:dC o) (M9:cd n≤400) (RF:cd o≤400) (aA:o.leaf=n.leaf) (g_:fr<u.n.keys.length) (m0:eV u.n.keys[fr]) (m:aL) (hm:m=if u.ew<other then gu n u.n.keys[fr] o else gu o u.n.keys[fr] n) (jg:xK m) (pG:fr≤1000)
   (w8:∀ (s:ad) (e:Int) (w':World),oW T c m dd (.tuple #[.slice s.a s.len s.cap, .int .i64 e]) w'→Q (.tuple #[.slice s.a s.len s.cap, .int .i64 (fr:Nat), .int .i64 ((fr+2:Nat):Int), .int .i64 e]) w'):
   Rx bB aJ nn bv (some ⟨c.c4,0,none⟩) (some A) (fr:Nat) (other:Nat) e1 Q:=by
 have q1:=kC.lt
 have DE:=eL.lt
 have bD:=af.size
 have fn:=zx.ni (by omega)
 have ask:=Eo.ni (by omega)
 unfold Rx
 refine w9 (fun lB=>∃ (a b:aL) (ep dT dF dt du dv:ad) (Mr Ms:Nat→Prop),Ext dd lB∧Var lB nn (gj a ep dT dF) ai.cD∧Var lB bv (gj b dt du dv) ai.cD∧b4 Mr dd a ep dT dF∧b4 Ms dd b dt du dv∧m=gu a u.n.keys[fr] b∧dC a∧dC b∧a.leaf=b.leaf∧a.keys.length≤200∧b.keys.length≤200)
   (fun q J=>⟨A,rfl,_,(hu.ext af).dK,fun aa=> ?_,fun aa=>J _ ⟨o,n,l4,l5,Do,K,V,D,RE,RD,af,Yx,A4,bR,aD,?_,Eo,zx,aA,by omega,by omega⟩⟩) ?_
 · have aa:u.ew<other:=by
     have:((other:Nat):Int)>((u.ew:Nat):Int):=di aa
     omega
   have bS:=af.trans (eR e1)
   obtain ⟨bF,c_,cZ,b3⟩:=b9 (kC.ext bS)
   obtain ⟨zq,h8,kc,s3⟩:=b9 (eL.ext bS)
   have Yy:=Yx.drew
   have akQ:=A4.drew
   refine bW ⟨fun q=>q=nn,(show bB≠nn by omega),_,bF,K,c_,V,cZ,D,b3,(show aJ≠nn by omega),_,zq,l4,h8,l5,kc,Do,s3,Yy.de rfl ky,rfl,dW Yy (us:=gj n K V D) rfl rfl fun wb akR RG asl=> ?_⟩
   have Yz:=akQ.an RG (fun e=>ao e.symm)
   refine ⟨RG,Yz.de rfl ky,rfl,dW Yz (us:=gj o l4 l5 Do) rfl rfl fun El akS YA asm=> ?_⟩
   exact J _ ⟨n,o,K,V,D,l4,l5,Do,RD,RE,Ext.eX (Ext.eX bS RG U) YA ab,akR.an YA ao,akS,aD,bR,by rw[hm,if_pos aa],zx,Eo,aA.symm,by omega,by omega⟩
 · have aa:¬u.ew<other:=by
     have:¬((other:Nat):Int)>((u.ew:Nat):Int):=eB aa
     omega
   rw[hm,if_neg aa]
 rintro lB ⟨a,b,ep,dT,dF,dt,du,dv,Mr,Ms,akT,aT,aa,YB,YC,RH,mR,ez,oL,oI,gZ⟩
 have bS:=akT.trans (eR lB)
 have akU:=aT.drew
 have lS:=aa.drew
 obtain ⟨a0,a8,cQ,a3⟩:=b9 akU
 obtain ⟨pZ,c5,cA,ek⟩:=b9 lS
 have Jo:=hu.ext bS
 obtain ⟨akV,aK,akW,RI,akX,kD,asn⟩:=bO.at Jo.dU.keys g_
 have uz:dC (gu a u.n.keys[fr] b):=by rw[←RH];exact jg.1
 have Jp:=pg (YB.ext bS) (YC.ext bS) kD.1 (fun q J=>(kD.2.2 q J).2) (by have:=m0.2;omega) mR ez oL uz (by omega) (by omega)
 rw[←RH] at Jp
 have nP:IntKind.wrap .i64 (((fr:Nat):Int)+2)=((fr+2:Nat):Int):=by rw[ct (by omega) (by omega)];rfl
 obtain ⟨wd,aso⟩:∃wd,wd=lB.drew:=⟨_,rfl⟩
 refine bW ⟨fun _=>False,id,_,a0,ep,a8,dT,cQ,dF,a3,A,rfl,id,u.K,Jo.bA,akV,akW,RI,id,aK,akX,id,_,pZ,dt,c5,du,cA,dv,ek,?_,?_⟩
 · refine Jp.use ?_
   rintro _ iR ⟨Ep,Er,Es,rfl,rZ,yE⟩
   refine ⟨_,Ep,Er,Es,true,rfl,yE,cq (vs:=[.bool false, .slice none 0 0, .slice none 0 0, .slice none 0 0]) rfl fun pk YD YE asp=>⟨YE,YD.de rfl ky,rfl,dW YD (us:=gj m Ep Er Es) rfl rfl fun lg RJ M_ akY=>⟨fun aa=>(by cases aa),fun _=> ?_⟩⟩⟩
   have Na:Ext iR lg:=Ext.eX YE M_ (cU _)
   have eo:=(bS.trans yE).trans Na
   obtain ⟨oK,uA,q7,p5⟩:=b9 RJ
   refine ⟨_,oK,Ep,uA,Er,q7,Es,p5,(M1 (h.ext eo) fS jt n1 (rZ.ext Na) jg.1 jg.2.1 jg.2.2).use ?_⟩
   intro v w' ak
   obtain ⟨s,e,rfl⟩:=ak.out
   rw[nP]
   exact ⟨s,e,rfl,w8 s e w' (ak.base eo)⟩
 · refine cq (vs:=[.bool false, .slice none 0 0, .slice none 0 0, .slice none 0 0]) rfl fun uy akZ Gw asq=>⟨Gw,?_⟩
   have Jp:=pg ((YB.ext bS).ext Gw) ((YC.ext bS).ext Gw) (kD.1.ext Gw) (fun q J=>lP (kD.2.2 q J).2 Gw.size) (by have:=m0.2;omega) mR ez oL uz (by omega) (by omega)
   rw[←RH] at Jp
   refine Jp.use ?_
   rintro _ wh ⟨Ep,Er,Es,rfl,rZ,yE⟩
   have YF:=akZ.ext yE
   refine ⟨_,Ep,Er,Es,true,rfl,yE,YF.de rfl ky,rfl,dW YF (us:=gj m Ep Er Es) rfl rfl fun lg RJ M_ akY=>⟨fun aa=>(by cases aa),fun _=> ?_⟩⟩
   have Na:Ext lB.drew lg:=Ext.eX (Gw.trans yE) M_ (cU _)
   have eo:=bS.trans Na
   have ak0:=b4.an rZ M_ fun q J e=>by omega
   obtain ⟨oK,uA,q7,p5⟩:=b9 RJ
   refine ⟨_,oK,Ep,uA,Er,q7,Es,p5,(M1 (h.ext eo) fS jt n1 ak0 jg.1 jg.2.1 jg.2.2).use ?_⟩
   intro v w' ak
   obtain ⟨s,e,rfl⟩:=ak.out
   rw[nP]
   exact ⟨s,e,rfl,w8 s e w' (ak.base eo)⟩
end
section
theorem fl.leave {T:aY} {c c':fT} {E G:Nat→Prop} {w w':World} {no:Nat} (h:cp T (T.dc E G) w w' 0) (iO:E=T.E) (kX:∀q,T.G q→G q) (U:c'.c4=c.c4) (ab:c'.made=c.made) (ao:c'.left=c.left++ [no]):fl T (T.dc E G) c c' [] [no] w w' 0:=
 ⟨h,iO,kX,rfl,rfl,U,by rw[ab,lM],ao,List.nodup_nil,fun _ h=>(by cases h),fun no=>by simp[aY.dc],fun _ _=>⟨rfl,rfl⟩,by simp[fw,aY.dc]⟩
def RK (bB aJ:Nat) (c up:Option Addr) (n31 n36 n41 lh:Int) (e1:World) (Q:Value→World→Prop):Prop:=
 (((lh:Int) !=0)=true→Q (.tuple #[.slice none 0 0, .int .i64 0, .int .i64 0, .int .i64 lh]) e1)∧(((lh:Int) !=0)=false→∃Jq:Addr,c=some Jq∧∃oY:ad,e1.cell? (Jq.add 2)=some (.slice oY.a oY.len oY.cap)∧az (e1.alloc (.cells #[.int .i64 n41] ai.int)) fun B4=>∃k9:ad,∃r0:World,Sem.run Tryz.prog (Builtin.append_ #[ai.dD,ai.dD] ai.dD #[.slice oY.a oY.len oY.cap, .slice (some ⟨e1.heap.size,0,none⟩) 1 1]) B4= .ok (.slice k9.a k9.len k9.cap) r0∧∃tb:Addr,c=some tb∧(∃u:Value,r0.cell? (tb.add 2)=some u)∧r0.frozen? (tb.add 2)=false∧az (r0.setCell (tb.add 2) (.slice k9.a k9.len k9.cap)) fun gl=>az (gl.drew) fun dp=>∃np:Nat→Prop,¬np (⟨aJ,0,none⟩:Addr).block∧∃tc:Bool,dp.cell? ⟨aJ,0,none⟩=some (.bool tc)∧∃h6:ad,dp.cell? (Addr.add ⟨aJ,0,none⟩ 1)=some (.slice h6.a h6.len h6.cap)∧∃ix:ad,dp.cell? (Addr.add ⟨aJ,0,none⟩ 2)=some (.slice ix.a ix.len ix.cap)∧∃iS:ad,dp.cell? (Addr.add ⟨aJ,0,none⟩ 3)=some (.slice iS.a iS.len iS.cap)∧¬np (⟨bB,0,none⟩:Addr).block∧∃td:Bool,dp.cell? ⟨bB,0,none⟩=some (.bool td)∧∃gy:ad,dp.cell? (Addr.add ⟨bB,0,none⟩ 1)=some (.slice gy.a gy.len gy.cap)∧∃gz:ad,dp.cell? (Addr.add ⟨bB,0,none⟩ 2)=some (.slice gz.a gz.len gz.cap)∧∃h7:ad,dp.cell? (Addr.add ⟨bB,0,none⟩ 3)=some (.slice h7.a h7.len h7.cap)∧(az (dp.alloc (.cells #[.bool false, .slice none 0 0, .slice none 0 0, .slice none 0 0] ai.cD)) fun g3=>aq np dp g3∧az (g3.alloc (.cells #[.bool false, .slice none 0 0, .slice none 0 0, .slice none 0 0] ai.cD)) fun lA=>aq np g3 lA∧cN lA ⟨dp.heap.size,0,none⟩ [.bool tc, .slice h6.a h6.len h6.cap, .slice ix.a ix.len ix.cap, .slice iS.a iS.len iS.cap]∧(4:Nat)=4∧az (setCells lA ⟨dp.heap.size,0,none⟩ 0 [.bool tc, .slice h6.a h6.len h6.cap, .slice ix.a ix.len ix.cap, .slice iS.a iS.len iS.cap]) fun wi=>aq np lA wi∧cN wi ⟨g3.heap.size,0,none⟩ [.bool td, .slice gy.a gy.len gy.cap, .slice gz.a gz.len gz.cap, .slice h7.a h7.len h7.cap]∧(4:Nat)=4∧az (setCells wi ⟨g3.heap.size,0,none⟩ 0 [.bool td, .slice gy.a gy.len gy.cap, .slice gz.a gz.len gz.cap, .slice h7.a h7.len h7.cap]) fun k0=>c7 (fun B2:World→Prop=>∃B3:Addr,up=some B3∧∃zt:Int,k0.cell? (B3.add 5)=some (.int .i64 zt)∧((decide ((n36:Int)>zt))=true→az (k0.drew) fun hX=>∃wa:Nat→Prop,¬wa (⟨bB,0,none⟩:Addr).block∧∃pQ:Bool,hX.cell? ⟨bB,0,none⟩=some (.bool pQ)∧∃hZ:ad,hX.cell? (Addr.add ⟨bB,0,none⟩ 1)=some (.slice hZ.a hZ.len hZ.cap)∧∃h4:ad,hX.cell? (Addr.add ⟨bB,0,none⟩ 2)=some (.slice h4.a h4.len h4.cap)∧∃h5:ad,hX.cell? (Addr.add ⟨bB,0,none⟩ 3)=some (.slice h5.a h5.len h5.cap)∧¬wa (⟨aJ,0,none⟩:Addr).block∧∃zu:Bool,hX.cell? ⟨aJ,0,none⟩=some (.bool zu)∧∃j1:ad,hX.cell? (Addr.add ⟨aJ,0,none⟩ 1)=some (.slice j1.a j1.len j1.cap)∧∃iF:ad,hX.cell? (Addr.add ⟨aJ,0,none⟩ 2)=some (.slice iF.a iF.len iF.cap)∧∃lZ:ad,hX.cell? (Addr.add ⟨aJ,0,none⟩ 3)=some (.slice lZ.a lZ.len lZ.cap)∧cN hX ⟨dp.heap.size,0,none⟩ [.bool pQ, .slice hZ.a hZ.len hZ.cap, .slice h4.a h4.len h4.cap, .slice h5.a h5.len h5.cap]∧(4:Nat)=4∧az (setCells hX ⟨dp.heap.size,0,none⟩ 0 [.bool pQ, .slice hZ.a hZ.len hZ.cap, .slice h4.a h4.len h4.cap, .slice h5.a h5.len h5.cap]) fun wb=>aq wa hX wb∧cN wb ⟨g3.heap.size,0,none⟩ [.bool zu, .slice j1.a j1.len j1.cap, .slice iF.a iF.len iF.cap, .slice lZ.a lZ.len lZ.cap]∧(4:Nat)=4∧az (setCells wb ⟨g3.heap.size,0,none⟩ 0 [.bool zu, .slice j1.a j1.len j1.cap, .slice iF.a iF.len iF.cap, .slice lZ.a lZ.len lZ.cap]) fun El=>B2 El)∧((decide ((n36:Int)>zt))=false→B2 k0)) (fun (lB:World)=>az (lB.drew) fun fh=>∃l0:Nat→Prop,¬l0 (⟨dp.heap.size,0,none⟩:Addr).block∧∃xM:Bool,fh.cell? ⟨dp.heap.size,0,none⟩=some (.bool xM)∧∃iG:ad,fh.cell? (Addr.add ⟨dp.heap.size,0,none⟩ 1)=some (.slice iG.a iG.len iG.cap)∧∃l1:ad,fh.cell? (Addr.add ⟨dp.heap.size,0,none⟩ 2)=some (.slice l1.a l1.len l1.cap)∧∃g1:ad,fh.cell? (Addr.add ⟨dp.heap.size,0,none⟩ 3)=some (.slice g1.a g1.len g1.cap)∧∃wc:Addr,up=some wc∧¬l0 ((wc.add 1).add 1).block∧∃j_:ad,fh.cell? ((wc.add 1).add 1)=some (.slice j_.a j_.len j_.cap)∧∃we:Addr,j_.a=some we∧((0:Int)≤n31∧n31<((j_.len:Nat):Int))∧¬l0 (we.add (Int.toNat n31*1)).block∧∃l2:ad,fh.cell? (we.add (Int.toNat n31*1))=some (.slice l2.a l2.len l2.cap)∧¬l0 (⟨g3.heap.size,0,none⟩:Addr).block∧∃xN:Bool,fh.cell? ⟨g3.heap.size,0,none⟩=some (.bool xN)∧∃iH:ad,fh.cell? (Addr.add ⟨g3.heap.size,0,none⟩ 1)=some (.slice iH.a iH.len iH.cap)∧∃iI:ad,fh.cell? (Addr.add ⟨g3.heap.size,0,none⟩ 2)=some (.slice iI.a iI.len iI.cap)∧∃l3:ad,fh.cell? (Addr.add ⟨g3.heap.size,0,none⟩ 3)=some (.slice l3.a l3.len l3.cap)∧(Calls Tryz.prog F.pg #[.agg #[.bool xM, .slice iG.a iG.len iG.cap, .slice l1.a l1.len l1.cap, .slice g1.a g1.len g1.cap], .slice l2.a l2.len l2.cap, .agg #[.bool xN, .slice iH.a iH.len iH.cap, .slice iI.a iI.len iI.cap, .slice l3.a l3.len l3.cap]] fh fun Ry iR=>∃ux:Bool,∃k_:ad,∃ld:ad,∃lf:ad,∃wg:Bool,Ry= .returned ( .tuple #[.agg #[.bool ux, .slice k_.a k_.len k_.cap, .slice ld.a ld.len ld.cap, .slice lf.a lf.len lf.cap], .bool wg])∧aq l0 fh iR∧az (iR.alloc (.cells #[.bool false, .slice none 0 0, .slice none 0 0, .slice none 0 0] ai.cD)) fun pk=>aq l0 iR pk∧cN pk ⟨iR.heap.size,0,none⟩ [.bool ux, .slice k_.a k_.len k_.cap, .slice ld.a ld.len ld.cap, .slice lf.a lf.len lf.cap]∧(4:Nat)=4∧az (setCells pk ⟨iR.heap.size,0,none⟩ 0 [.bool ux, .slice k_.a k_.len k_.cap, .slice ld.a ld.len ld.cap, .slice lf.a lf.len lf.cap]) fun lg=>((!wg)=true→Q (.tuple #[.slice none 0 0, .int .i64 0, .int .i64 0, .int .i64 4]) lg)∧((!wg)=false→∃Em:Bool,lg.cell? ⟨iR.heap.size,0,none⟩=some (.bool Em)∧∃nT:ad,lg.cell? (Addr.add ⟨iR.heap.size,0,none⟩ 1)=some (.slice nT.a nT.len nT.cap)∧∃p2:ad,lg.cell? (Addr.add ⟨iR.heap.size,0,none⟩ 2)=some (.slice p2.a p2.len p2.cap)∧∃p3:ad,lg.cell? (Addr.add ⟨iR.heap.size,0,none⟩ 3)=some (.slice p3.a p3.len p3.cap)∧Calls Tryz.prog F.q5 #[.pointer c, .agg #[.bool Em, .slice nT.a nT.len nT.cap, .slice p2.a p2.len p2.cap, .slice p3.a p3.len p3.cap]] lg fun Rz Jl=>∃p4:ad,∃En:Int,Rz= .returned (.tuple #[.slice p4.a p4.len p4.cap, .int .i64 En])∧Q ( .tuple #[.slice p4.a p4.len p4.cap, .int .i64 n31, .int .i64 (IntKind.wrap .i64 (n31+2)), .int .i64 En]) Jl))∧(az (fh.alloc (.cells #[.bool false, .slice none 0 0, .slice none 0 0, .slice none 0 0] ai.cD)) fun uy=>aq l0 fh uy∧Calls Tryz.prog F.pg #[.agg #[.bool xM, .slice iG.a iG.len iG.cap, .slice l1.a l1.len l1.cap, .slice g1.a g1.len g1.cap], .slice l2.a l2.len l2.cap, .agg #[.bool xN, .slice iH.a iH.len iH.cap, .slice iI.a iI.len iI.cap, .slice l3.a l3.len l3.cap]] uy fun RA wh=>∃zv:Bool,∃mH:ad,∃nU:ad,∃nV:ad,∃zw:Bool,RA= .returned ( .tuple #[.agg #[.bool zv, .slice mH.a mH.len mH.cap, .slice nU.a nU.len nU.cap, .slice nV.a nV.len nV.cap], .bool zw])∧aq l0 uy wh∧cN wh ⟨fh.heap.size,0,none⟩ [.bool zv, .slice mH.a mH.len mH.cap, .slice nU.a nU.len nU.cap, .slice nV.a nV.len nV.cap]∧(4:Nat)=4∧az (setCells wh ⟨fh.heap.size,0,none⟩ 0 [.bool zv, .slice mH.a mH.len mH.cap, .slice nU.a nU.len nU.cap, .slice nV.a nV.len nV.cap]) fun s8=>((!zw)=true→Q (.tuple #[.slice none 0 0, .int .i64 0, .int .i64 0, .int .i64 4]) s8)∧((!zw)=false→∃Jm:Bool,s8.cell? ⟨fh.heap.size,0,none⟩=some (.bool Jm)∧∃s9:ad,s8.cell? (Addr.add ⟨fh.heap.size,0,none⟩ 1)=some (.slice s9.a s9.len s9.cap)∧∃s_:ad,s8.cell? (Addr.add ⟨fh.heap.size,0,none⟩ 2)=some (.slice s_.a s_.len s_.cap)∧∃oX:ad,s8.cell? (Addr.add ⟨fh.heap.size,0,none⟩ 3)=some (.slice oX.a oX.len oX.cap)∧Calls Tryz.prog F.q5 #[.pointer c, .agg #[.bool Jm, .slice s9.a s9.len s9.cap, .slice s_.a s_.len s_.cap, .slice oX.a oX.len oX.cap]] s8 fun RB RC=>∃ta:ad,∃Jn:Int,RB= .returned (.tuple #[.slice ta.a ta.len ta.cap, .int .i64 Jn])∧Q ( .tuple #[.slice ta.a ta.len ta.cap, .int .i64 n31, .int .i64 (IntKind.wrap .i64 (n31+2)), .int .i64 Jn]) RC))))∧(az (dp.alloc (.cells #[.bool false, .slice none 0 0, .slice none 0 0, .slice none 0 0] ai.cD)) fun p6=>aq np dp p6∧az (p6.alloc (.cells #[.bool false, .slice none 0 0, .slice none 0 0, .slice none 0 0] ai.cD)) fun Et=>aq np p6 Et∧cN Et ⟨p6.heap.size,0,none⟩ [.bool tc, .slice h6.a h6.len h6.cap, .slice ix.a ix.len ix.cap, .slice iS.a iS.len iS.cap]∧(4:Nat)=4∧az (setCells Et ⟨p6.heap.size,0,none⟩ 0 [.bool tc, .slice h6.a h6.len h6.cap, .slice ix.a ix.len ix.cap, .slice iS.a iS.len iS.cap]) fun RL=>aq np Et RL∧cN RL ⟨dp.heap.size,0,none⟩ [.bool td, .slice gy.a gy.len gy.cap, .slice gz.a gz.len gz.cap, .slice h7.a h7.len h7.cap]∧(4:Nat)=4∧az (setCells RL ⟨dp.heap.size,0,none⟩ 0 [.bool td, .slice gy.a gy.len gy.cap, .slice gz.a gz.len gz.cap, .slice h7.a h7.len h7.cap]) fun RM=>c7 (fun YG:World→Prop=>∃YH:Addr,up=some YH∧∃RN:Int,RM.cell? (YH.add 5)=some (.int .i64 RN)∧((decide ((n36:Int)>RN))=true→az (RM.drew) fun wj=>∃RO:Nat→Prop,¬RO (⟨bB,0,none⟩:Addr).block∧∃RP:Bool,wj.cell? ⟨bB,0,none⟩=some (.bool RP)∧∃zy:ad,wj.cell? (Addr.add ⟨bB,0,none⟩ 1)=some (.slice zy.a zy.len zy.cap)∧∃zz:ad,wj.cell? (Addr.add ⟨bB,0,none⟩ 2)=some (.slice zz.a zz.len zz.cap)∧∃zA:ad,wj.cell? (Addr.add ⟨bB,0,none⟩ 3)=some (.slice zA.a zA.len zA.cap)∧¬RO (⟨aJ,0,none⟩:Addr).block∧∃RQ:Bool,wj.cell? ⟨aJ,0,none⟩=some (.bool RQ)∧∃zB:ad,wj.cell? (Addr.add ⟨aJ,0,none⟩ 1)=some (.slice zB.a zB.len zB.cap)∧∃zC:ad,wj.cell? (Addr.add ⟨aJ,0,none⟩ 2)=some (.slice zC.a zC.len zC.cap)∧∃zD:ad,wj.cell? (Addr.add ⟨aJ,0,none⟩ 3)=some (.slice zD.a zD.len zD.cap)∧cN wj ⟨p6.heap.size,0,none⟩ [.bool RP, .slice zy.a zy.len zy.cap, .slice zz.a zz.len zz.cap, .slice zA.a zA.len zA.cap]∧(4:Nat)=4∧az (setCells wj ⟨p6.heap.size,0,none⟩ 0 [.bool RP, .slice zy.a zy.len zy.cap, .slice zz.a zz.len zz.cap, .slice zA.a zA.len zA.cap]) fun RR=>aq RO wj RR∧cN RR ⟨dp.heap.size,0,none⟩ [.bool RQ, .slice zB.a zB.len zB.cap, .slice zC.a zC.len zC.cap, .slice zD.a zD.len zD.cap]∧(4:Nat)=4∧az (setCells RR ⟨dp.heap.size,0,none⟩ 0 [.bool RQ, .slice zB.a zB.len zB.cap, .slice zC.a zC.len zC.cap, .slice zD.a zD.len zD.cap]) fun xO=>YG xO)∧((decide ((n36:Int)>RN))=false→YG RM)) (fun (Gx:World)=>az (Gx.drew) fun oq=>∃B5:Nat→Prop,¬B5 (⟨p6.heap.size,0,none⟩:Addr).block∧∃RS:Bool,oq.cell? ⟨p6.heap.size,0,none⟩=some (.bool RS)∧∃qF:ad,oq.cell? (Addr.add ⟨p6.heap.size,0,none⟩ 1)=some (.slice qF.a qF.len qF.cap)∧∃qG:ad,oq.cell? (Addr.add ⟨p6.heap.size,0,none⟩ 2)=some (.slice qG.a qG.len qG.cap)∧∃zE:ad,oq.cell? (Addr.add ⟨p6.heap.size,0,none⟩ 3)=some (.slice zE.a zE.len zE.cap)∧∃RT:Addr,up=some RT∧¬B5 ((RT.add 1).add 1).block∧∃wk:ad,oq.cell? ((RT.add 1).add 1)=some (.slice wk.a wk.len wk.cap)∧∃RU:Addr,wk.a=some RU∧((0:Int)≤n31∧n31<((wk.len:Nat):Int))∧¬B5 (RU.add (Int.toNat n31*1)).block∧∃zF:ad,oq.cell? (RU.add (Int.toNat n31*1))=some (.slice zF.a zF.len zF.cap)∧¬B5 (⟨dp.heap.size,0,none⟩:Addr).block∧∃RV:Bool,oq.cell? ⟨dp.heap.size,0,none⟩=some (.bool RV)∧∃zG:ad,oq.cell? (Addr.add ⟨dp.heap.size,0,none⟩ 1)=some (.slice zG.a zG.len zG.cap)∧∃zH:ad,oq.cell? (Addr.add ⟨dp.heap.size,0,none⟩ 2)=some (.slice zH.a zH.len zH.cap)∧∃zI:ad,oq.cell? (Addr.add ⟨dp.heap.size,0,none⟩ 3)=some (.slice zI.a zI.len zI.cap)∧(Calls Tryz.prog F.pg #[.agg #[.bool RS, .slice qF.a qF.len qF.cap, .slice qG.a qG.len qG.cap, .slice zE.a zE.len zE.cap], .slice zF.a zF.len zF.cap, .agg #[.bool RV, .slice zG.a zG.len zG.cap, .slice zH.a zH.len zH.cap, .slice zI.a zI.len zI.cap]] oq fun ak1 zJ=>∃RW:Bool,∃zK:ad,∃zL:ad,∃zM:ad,∃RX:Bool,ak1= .returned ( .tuple #[.agg #[.bool RW, .slice zK.a zK.len zK.cap, .slice zL.a zL.len zL.cap, .slice zM.a zM.len zM.cap], .bool RX])∧aq B5 oq zJ∧az (zJ.alloc (.cells #[.bool false, .slice none 0 0, .slice none 0 0, .slice none 0 0] ai.cD)) fun RY=>aq B5 zJ RY∧cN RY ⟨zJ.heap.size,0,none⟩ [.bool RW, .slice zK.a zK.len zK.cap, .slice zL.a zL.len zL.cap, .slice zM.a zM.len zM.cap]∧(4:Nat)=4∧az (setCells RY ⟨zJ.heap.size,0,none⟩ 0 [.bool RW, .slice zK.a zK.len zK.cap, .slice zL.a zL.len zL.cap, .slice zM.a zM.len zM.cap]) fun Gy=>((!RX)=true→Q (.tuple #[.slice none 0 0, .int .i64 0, .int .i64 0, .int .i64 4]) Gy)∧((!RX)=false→∃YI:Bool,Gy.cell? ⟨zJ.heap.size,0,none⟩=some (.bool YI)∧∃Gz:ad,Gy.cell? (Addr.add ⟨zJ.heap.size,0,none⟩ 1)=some (.slice Gz.a Gz.len Gz.cap)∧∃GA:ad,Gy.cell? (Addr.add ⟨zJ.heap.size,0,none⟩ 2)=some (.slice GA.a GA.len GA.cap)∧∃GB:ad,Gy.cell? (Addr.add ⟨zJ.heap.size,0,none⟩ 3)=some (.slice GB.a GB.len GB.cap)∧Calls Tryz.prog F.q5 #[.pointer c, .agg #[.bool YI, .slice Gz.a Gz.len Gz.cap, .slice GA.a GA.len GA.cap, .slice GB.a GB.len GB.cap]] Gy fun ak2 ak3=>∃GC:ad,∃YJ:Int,ak2= .returned (.tuple #[.slice GC.a GC.len GC.cap, .int .i64 YJ])∧Q ( .tuple #[.slice GC.a GC.len GC.cap, .int .i64 n31, .int .i64 (IntKind.wrap .i64 (n31+2)), .int .i64 YJ]) ak3))∧(az (oq.alloc (.cells #[.bool false, .slice none 0 0, .slice none 0 0, .slice none 0 0] ai.cD)) fun RZ=>aq B5 oq RZ∧Calls Tryz.prog F.pg #[.agg #[.bool RS, .slice qF.a qF.len qF.cap, .slice qG.a qG.len qG.cap, .slice zE.a zE.len zE.cap], .slice zF.a zF.len zF.cap, .agg #[.bool RV, .slice zG.a zG.len zG.cap, .slice zH.a zH.len zH.cap, .slice zI.a zI.len zI.cap]] RZ fun ak4 R0=>∃R1:Bool,∃zN:ad,∃zO:ad,∃qH:ad,∃R2:Bool,ak4= .returned ( .tuple #[.agg #[.bool R1, .slice zN.a zN.len zN.cap, .slice zO.a zO.len zO.cap, .slice qH.a qH.len qH.cap], .bool R2])∧aq B5 RZ R0∧cN R0 ⟨oq.heap.size,0,none⟩ [.bool R1, .slice zN.a zN.len zN.cap, .slice zO.a zO.len zO.cap, .slice qH.a qH.len qH.cap]∧(4:Nat)=4∧az (setCells R0 ⟨oq.heap.size,0,none⟩ 0 [.bool R1, .slice zN.a zN.len zN.cap, .slice zO.a zO.len zO.cap, .slice qH.a qH.len qH.cap]) fun GD=>((!R2)=true→Q (.tuple #[.slice none 0 0, .int .i64 0, .int .i64 0, .int .i64 4]) GD)∧((!R2)=false→∃YK:Bool,GD.cell? ⟨oq.heap.size,0,none⟩=some (.bool YK)∧∃GF:ad,GD.cell? (Addr.add ⟨oq.heap.size,0,none⟩ 1)=some (.slice GF.a GF.len GF.cap)∧∃GG:ad,GD.cell? (Addr.add ⟨oq.heap.size,0,none⟩ 2)=some (.slice GG.a GG.len GG.cap)∧∃GH:ad,GD.cell? (Addr.add ⟨oq.heap.size,0,none⟩ 3)=some (.slice GH.a GH.len GH.cap)∧Calls Tryz.prog F.q5 #[.pointer c, .agg #[.bool YK, .slice GF.a GF.len GF.cap, .slice GG.a GG.len GG.cap, .slice GH.a GH.len GH.cap]] GD fun ak5 ak6=>∃xP:ad,∃YL:Int,ak5= .returned (.tuple #[.slice xP.a xP.len xP.cap, .int .i64 YL])∧Q ( .tuple #[.slice xP.a xP.len xP.cap, .int .i64 n31, .int .i64 (IntKind.wrap .i64 (n31+2)), .int .i64 YL]) ak6)))))
theorem ak7 {w:World} {T:aY} {c:fT} {bB aJ:Nat} {A:Addr} {u:fL} {n o:aL} {K V D l4 l5 Do:ad} {fr other no:Nat} {Q:Value→World→Prop} (h:fk w T c) (kC:Var w bB (gj n K V D) ai.cD) (eL:Var w aJ (gj o l4 l5 Do) ai.cD)
   (ak8:¬T.M bB) (ak9:¬T.M aJ) (aD:b4 (fun q=>¬T.M q) w n K V D) (bR:b4 (fun q=>¬T.M q) w o l4 l5 Do) (hu:xL (fun q=>¬T.M q) w A u)
   (fS:T.C.D.cS≤900000090) (jt:2≤fw T) (n1:c.made.length≤900) (Dh:c.left.length≤900) (zx:dC n) (Eo:dC o) (M9:cd n≤400) (RF:cd o≤400) (aA:o.leaf=n.leaf) (g_:fr<u.n.keys.length) (m0:eV u.n.keys[fr]) (m:aL) (hm:m=if u.ew<other then gu n u.n.keys[fr] o else gu o u.n.keys[fr] n) (jg:xK m) (pG:fr≤1000)
   (w8:∀ (s:ad) (e:Int) (cx:aY) (aS:fT) (ag w':World),fl T cx c aS [] [no] w ag 0→oW cx aS m ag (.tuple #[.slice s.a s.len s.cap, .int .i64 e]) w'→Q (.tuple #[.slice s.a s.len s.cap, .int .i64 (fr:Nat), .int .i64 ((fr+2:Nat):Int), .int .i64 e]) w'):
   RK bB aJ (some ⟨c.c4,0,none⟩) (some A) (fr:Nat) (other:Nat) (no:Nat) 0 w Q:=by
 unfold RK
 refine ⟨fun aa=>(by cases aa),fun _=>⟨_,rfl,_,h.cells.2.2,?_⟩⟩
 obtain ⟨au,r0,aC,aF,aH,aN,cV⟩:=X1 h no (by omega)
 refine bW ⟨au,r0,aC,_,rfl,by rw[bn];exact aH,by rw[bn];exact aN,bW ?_⟩
 rw[bn]
 obtain ⟨gl,YM⟩:∃gl,gl=r0.setCell ⟨c.c4,0+2,none⟩ (.slice au.a au.len au.cap):=⟨_,rfl⟩
 rw[←YM]
 obtain ⟨YN,YO⟩:=cV gl YM
 have fU:=fl.leave (c:=c) (c':={c with k7:=au,left:=c.left++ [no]}) (no:=no) YO rfl (fun q J=> .inl J) rfl rfl rfl
 obtain ⟨cx,hF⟩:∃cx,cx=T.dc T.E fun q=>T.G q∨aP au q:=⟨_,rfl⟩
 obtain ⟨aS,ir⟩:∃aS:fT,aS={c with k7:=au,left:=c.left++ [no]}:=⟨_,rfl⟩
 have qA:aS.c4=c.c4:=by rw[ir]
 have yQ:aS.made=c.made:=by rw[ir]
 have Gc:cx.C.D.cS≤900000090:=by rw[hF];exact fS
 have Rn:2≤fw cx:=by rw[hF];exact jt
 rw[←hF,←ir] at YN fU
 rw[←hF] at YO
 have bS:Ext gl gl.drew:=eR _
 have YP:=YN.ext bS
 have R3:fl T cx c aS [] [no] w gl.drew 0:=fU.trans (fl.ext cx aS bS)
 obtain ⟨dp,ak_⟩:∃dp,dp=gl.drew:=⟨_,rfl⟩
 rw[←ak_] at bS YP R3⊢
 have cH:=R3.to
 have jl:∀q,¬T.M q→¬T.N q:=fun q U ab=>U (aY.lV ab)
 have R4:=kC.an cH.an (jl _ ak8)
 have R5:=eL.an cH.an (jl _ ak9)
 have YQ:∀ {m:aL} {K V D:ad},b4 (fun q=>¬T.M q) w m K V D→b4 (fun q=>¬T.M q) dp m K V D:=fun hm=>b4.an hm cH.an fun q J=>jl q J
 have ala:=YQ aD
 have Ek:=YQ bR
 have alb:=hu.to cH
 obtain ⟨bF,c_,cZ,b3⟩:=b9 R4
 obtain ⟨zq,h8,kc,s3⟩:=b9 R5
 have q1:=R4.lt
 have DE:=R5.lt
 have fin:∀ (e1:World) (nn bv:Nat),Ext dp e1→Var e1 nn (gj o l4 l5 Do) ai.cD→Var e1 bv (gj n K V D) ai.cD→dp.heap.size≤nn→dp.heap.size≤bv→nn≠bv→Rx bB aJ nn bv (some ⟨c.c4,0,none⟩) (some A) (fr:Nat) (other:Nat) e1 Q:=by
   intro e1 nn bv af aT aa U ab ao
   have:=akP YP af R4 R5 aT aa U ab ao ala Ek alb Gc Rn (by rw[yQ];exact n1) zx Eo M9 RF aA g_ m0 m hm jg pG (Q:=Q) fun s e w' aI=>w8 s e cx aS dp w' R3 aI
   rw[qA] at this
   exact this
 refine bW ⟨fun q=>dp.heap.size≤q,(show¬dp.heap.size≤aJ by omega),_,zq,l4,h8,l5,kc,Do,s3,(show¬dp.heap.size≤bB by omega),_,bF,K,c_,V,cZ,D,b3,?_,?_⟩
 · refine cq (vs:=[.bool false, .slice none 0 0, .slice none 0 0, .slice none 0 0]) rfl fun g3 alc Jr ald=>⟨aq.e0 Jr,cq (vs:=[.bool false, .slice none 0 0, .slice none 0 0, .slice none 0 0]) rfl fun lA R6 zP ale=> ?_⟩
   have Js:=alc.ext zP
   refine ⟨aq.e0 zP,Js.de rfl ky,rfl,dW Js (us:=gj o l4 l5 Do) rfl rfl fun wi R7 Eu alf=> ?_⟩
   have Jt:=R6.an Eu (by omega)
   have R8:Ext dp wi:=Ext.eX (Jr.trans zP) Eu (cU _)
   refine ⟨Eu.mono fun q _ e=>by omega,Jt.de rfl ky,rfl,dW Jt (us:=gj n K V D) rfl rfl fun k0 R9 Ju alg=> ?_⟩
   exact fin k0 dp.heap.size g3.heap.size (Ext.eX R8 Ju (by omega)) (R7.an Ju (by omega)) R9 (cU _) (by omega) (by omega)
 · refine cq (vs:=[.bool false, .slice none 0 0, .slice none 0 0, .slice none 0 0]) rfl fun g3 alh Jr ald=>⟨aq.e0 Jr,cq (vs:=[.bool false, .slice none 0 0, .slice none 0 0, .slice none 0 0]) rfl fun lA Js zP ale=> ?_⟩
   have R6:=alh.ext zP
   refine ⟨aq.e0 zP,Js.de rfl ky,rfl,dW Js (us:=gj o l4 l5 Do) rfl rfl fun wi R7 Eu alf=> ?_⟩
   have Jt:=R6.an Eu (by omega)
   have R8:Ext dp wi:=Ext.eX (Jr.trans zP) Eu (by omega)
   refine ⟨Eu.mono fun q _ e=>by omega,Jt.de rfl ky,rfl,dW Jt (us:=gj n K V D) rfl rfl fun k0 R9 Ju alg=> ?_⟩
   exact fin k0 g3.heap.size dp.heap.size (Ext.eX R8 Ju (cU _)) (R7.an Ju (by omega)) R9 (by omega) (cU _) (by omega)
theorem cp.read {w w':World} {T:aY} {E:Nat→Prop} {br:er} {P:Nat→Option aL} {k:Nat} (h:cp (T.dc E fun _=>False) ((T.dc E fun _=>False).cJ br P) w w' k) (iO:∀q,T.E q∨T.G q→E q) (vh:∀q,E q→T.E q∨T.G q∨w.heap.size≤q):cp T (T.cJ br P) w w' k:=by
 refine ⟨h.cl,h.ez,h.n,h.g,h.s1,h.s2,h.c,h.d,h.gE,h.gen,h.cS,h.calm,h.an.mono fun q _ J=> ?_,fun q J=> ?_,fun q J=> ?_⟩
 · rcases J with J|J|J|J
   · exact .inl J
   · exact .inr (.inl J)
   · exact .inr (.inr (.inl J))
   · exact J.elim
 · have U:((T.dc E fun _=>False).cJ br P).M q:=by
     rcases J with J|J|J|J
     · exact .inl J
     · exact .inr (.inl J)
     · exact .inr (.inr (.inl J))
     · exact .inr (.inr (.inr (.inl (iO q J))))
   rcases h.jK q U with ab|ab
   · rcases ab with J|J|J|J|J
     · exact .inl (.inl J)
     · exact .inl (.inr (.inl J))
     · exact .inl (.inr (.inr (.inl J)))
     · rcases vh q J with ao|ao|ao
       · exact .inl (.inr (.inr (.inr (.inl ao))))
       · exact .inl (.inr (.inr (.inr (.inr ao))))
       · exact .inr ao
     · exact J.elim
   · exact .inr ab
 · rcases J with J|J|J|J
   · rcases h.fn q (.inl J) with ab|ab
     · rcases ab with ab|ab|ab|ab
       · exact .inl (.inl ab)
       · exact .inl (.inr (.inl ab))
       · exact .inl (.inr (.inr (.inl ab)))
       · exact ab.elim
     · exact .inr ab
   · exact .inl (.inr (.inl J))
   · exact .inl (.inr (.inr (.inl J)))
   · exact .inl (.inr (.inr (.inr J)))
end
section
theorem fl.cache {T:aY} {c:fT} {br:er} {w w':World} {k:Nat} (h:cp T (T.cJ br T.P) w w' k) (ak:∀j,br.view j=T.C.view j):fl T (T.cJ br T.P) c c [] [] w w' k:=
 ⟨h,rfl,fun _ h=>h,rfl,rfl,rfl,by simp,by simp,List.nodup_nil,fun _ h=>(by cases h),fun no=>by simp[aY.cJ],fun no _=>⟨rfl,ak no⟩,by simp[fw,aY.cJ]⟩
theorem YR {w ag:World} {T:aY} {c:fT} {Z:Nat→Prop} {no:Nat} {o:aL} (h:fk w T c) (af:Ext w ag) (tK:∀q,Z q→w.heap.size≤q∧q<ag.heap.size) (fS:T.C.D.cS≤999999999) (ga:T.P no=some o):
   aR Tryz.prog F.q4 #[.pointer (some ⟨T.cl,0,none⟩), .int .i64 (no:Nat), .bool o.leaf] ag (fun v w'=>∃br:er,(∀j,br.view j=T.C.view j)∧aq (fun q=>T.N q∧¬T.G q) ag w'∧(∀q,(T.cJ br T.P).M q→T.M q∨ag.heap.size≤q)∧
     (∀hD,aq Z w' hD→fk hD (T.cJ br T.P) c∧fl T (T.cJ br T.P) c c [] [] w hD 2)∧
     ((∃ (K V D:ad),v= .tuple #[eC o K V D, .int .i64 0]∧b4 (fun q=>ag.heap.size≤q∧¬(T.cJ br T.P).M q) w' o K V D)∨(v= .tuple #[eC oa bP bP bP, .int .i64 3]∧¬T.C.D.calm 2))):=by
 obtain ⟨dx,kx⟩:=h.t.lE no o ga
 obtain ⟨cO,kv⟩:∃cO,cO=fun q=>T.E q∨T.G q∨Z q:=⟨_,rfl⟩
 have mo:∀q,T.E q∨T.G q∨Z q→cO q:=fun q J=>by rw[kv];exact J
 have oZ:∀q,cO q→T.E q∨T.G q∨Z q:=fun q J=>by rw[kv] at J;exact J
 have aQ:da ag (T.dc cO fun _=>False):=h.t.grow (W:=fun _=>False) af (fun _ h=>h.elim) (fun q J=>(oZ q J).imp id (Or.imp id (tK q))) (fun _ h=>h.elim) fun _ _ h=>h
 have Nb:∀q,(T.dc cO fun _=>False).N q→T.N q∧¬T.G q:=fun q J=>⟨by
   rcases J with J|J|J|J
   · exact .inl J
   · exact .inr (.inl J)
   · exact .inr (.inr (.inl J))
   · exact J.elim,fun bg=>aQ.uf (mo q (.inr (.inl bg))) J⟩
 refine (Q1 aQ fS dx o.leaf).mono ?_
 rintro v w' ⟨br,bh,ba,ak,eu⟩
 have YS:=af.size
 have bD:=ba.an.size
 have YT:=(cp.ext (T.dc cO fun _=>False) af).trans ba
 rw[gd] at YT
 have R_:cp T (T.cJ br T.P) w w' 2:=cp.read (E:=cO) YT (fun q J=>mo q (J.imp id .inl)) fun q J=>(oZ q J).imp id (Or.imp id fun h=>(tK q h).1)
 have ir:aq (fun q=>T.N q∧¬T.G q) ag w':=ba.an.mono fun q _ J=>Nb q J
 refine ⟨br,ak,ir,fun q J=> ?_,fun hD al=> ?_,?_⟩
 · rcases J with J|J
   · exact (ba.fn q (.inl J)).imp (fun h=>aY.lV (Nb q h).1) id
   · exact .inl (.inr J)
 · have xQ:da hD (T.cJ br T.P):=bh.grow (E:=T.E) (G:=T.G) al (fun q J _=> .inl (mo q (.inr (.inr J)))) (fun q J=> .inl (mo q (.inl J))) (fun q J=> .inl (mo q (.inr (.inl J)))) fun q J=>(h.t.hE q J).2.2
   refine ⟨(h.ext af).of (W:=fun q=>(T.N q∧¬T.G q)∨Z q) xQ ((ir.mono fun q _ J=> .inl J).trans (al.mono fun q _ J=> .inr J)) (fun q bg J=> ?_) rfl fun _ h=>h,fl.cache ?_ ak⟩
   · rcases J with J|J
     · exact J.2 bg
     · have:=h.t.lt (q:=q) (.inr (.inr (.inr (.inr bg))))
       have:=(tK q J).1
       omega
   · exact R_.step (E:=T.E) (G:=T.G) al (fun q J aA=>by have:=(tK q J).1;omega) (fun q J=> .inl J) fun q J=> .inl J
 · rcases eu with ⟨cZ,K,V,D,rfl,Gk,gC⟩|⟨e,rfl,Ja,dI⟩
   · obtain rfl:=sT.uniq kx Gk
     refine .inl ⟨K,V,D,rfl,gC.bx fun q J aa=>⟨aa.1,fun hm=>aa.2 ?_⟩⟩
     rcases hm with hm|hm|hm|hm|hm
     · exact .inl hm
     · exact .inr (.inl hm)
     · exact .inr (.inr (.inl hm))
     · exact .inr (.inr (.inr (.inl (mo q (.inl hm)))))
     · exact .inr (.inr (.inr (.inl (mo q (.inr (.inl hm))))))
   · refine .inr ?_
     rcases Ja with ⟨rfl,U⟩|U|⟨_,_,U⟩
     · exact ⟨rfl,U⟩
     · obtain ⟨p,aC,_⟩:=kx
       have U:lv (no:Int) (T.C.view no)= .error e:=U
       rw[aC] at U;cases U
     · exact absurd kx (U o)
def r2 (u:fL):Nat:=if u.ew=0 then 1 else u.ew-1
def xR (u:fL) (n o:aL):aL:=if u.ew<r2 u then gu n (u.n.keys.getD (u.ew-1) []) o else gu o (u.n.keys.getD (u.ew-1) []) n
def Sa (T:aY) (c:fT) (n:aL) (u:fL) (w:World) (v:Value) (w':World):Prop:=
 (80≤cd n∧∃ (s:ad) (e:Int),v= .tuple #[.slice s.a s.len s.cap, .int .i64 (u.ew:Nat), .int .i64 ((u.ew+1:Nat):Int), .int .i64 e]∧oW T c n w (.tuple #[.slice s.a s.len s.cap, .int .i64 e]) w')∨
 (cd n<80∧∃ (cx:aY) (aS:fT),v= .tuple #[.slice none 0 0, .int .i64 0, .int .i64 0, .int .i64 3]∧fk w' cx aS∧fl T cx c aS [] [] w w' 2∧¬T.C.D.calm 2)∨
 (cd n<80∧∃ (o:aL) (no:Nat) (cx:aY) (aS:fT) (ag:World) (s:ad) (e:Int),u.n.kids[r2 u]? =some no∧T.P no=some o∧fl T cx c aS [] [no] w ag 2∧
   v= .tuple #[.slice s.a s.len s.cap, .int .i64 ((u.ew-1:Nat):Int), .int .i64 ((u.ew-1+2:Nat):Int), .int .i64 e]∧oW cx aS (xR u n o) ag (.tuple #[.slice s.a s.len s.cap, .int .i64 e]) w')
end
section
theorem ali {B:Nat→Prop} {w:World} {T:aY} {c:fT} {n:aL} {K V D:ad} (h:fk w T c) (aD:b4 B w n K V D) (jg:xK n) (fS:T.C.D.cS≤900000080) (jt:2≤fw T) (n1:c.made.length≤900):
   aR Tryz.prog F.xS #[.pointer (some ⟨c.c4,0,none⟩),eC n K V D, .pointer none] w (fun v w'=>∃ (s:ad) (e:Int),v= .tuple #[.slice s.a s.len s.cap, .int .i64 0, .int .i64 0, .int .i64 e]∧oW T c n w (.tuple #[.slice s.a s.len s.cap, .int .i64 e]) w'):=by
 refine W.YU (some ⟨c.c4,0,none⟩) n.leaf K V D none w _ ?_
 (delta W.xS aE bJ ah ar aS bL ay fK aX sV c8 Nc st dz Jv e6 Nd;dsimp only)
 refine cq (vs:=gj n K V D) rfl fun ag fH bH km=> ?_
 refine eI (fun b w'=>b=true∧ag=w') (fun q J=>⟨fun _=>J _ _ ⟨rfl,rfl⟩,fun h=>(by cases h)⟩) ?_
 rintro _ _ ⟨rfl,rfl⟩
 refine ⟨fun _=>Sb (fun a b w'=>a=0∧b=0∧ag=w') (fun q J=>⟨fun h=>(by cases h),fun _=>J _ _ _ ⟨rfl,rfl,rfl⟩⟩) ?_,fun h=>(by cases h)⟩
 rintro _ _ _ ⟨rfl,rfl,rfl⟩
 obtain ⟨cy,aS,bA,aZ⟩:=b9 fH
 refine ⟨_,cy,K,aS,V,bA,D,aZ,(M1 (h.ext bH) (by omega) jt n1 (aD.ext bH) jg.1 jg.2.1 jg.2.2).use ?_⟩
 intro v w' ak
 obtain ⟨s,e,rfl⟩:=ak.out
 exact ⟨s,e,rfl,s,e,rfl,ak.base bH⟩
theorem alj {w:World} {T:aY} {c:fT} {n:aL} {K V D:ad} {A:Addr} {u:fL} (h:fk w T c) (aD:b4 (fun q=>¬T.M q) w n K V D) (hu:xL (fun q=>¬T.M q) w A u) (zx:dC n) (M9:cd n≤400) (ax:80≤cd n→xK n)
   (gK:cd n<80→∃ (o:aL) (no:Nat),u.n.kids[r2 u]? =some no∧T.P no=some o∧o.leaf=n.leaf∧u.ew-1<u.n.keys.length∧eV (u.n.keys.getD (u.ew-1) [])∧xK (xR u n o)) (kt:u.ew≤900)
   (fS:T.C.D.cS≤900000080) (jt:2≤fw T) (n1:c.made.length≤900) (Dh:c.left.length≤900):
   aR Tryz.prog F.xS #[.pointer (some ⟨c.c4,0,none⟩),eC n K V D, .pointer (some A)] w (Sa T c n u w):=by
 have xG:=zx.ni (by omega)
 refine W.YU (some ⟨c.c4,0,none⟩) n.leaf K V D (some A) w _ ?_
 (delta W.xS aE bJ ah ar aS bL ay fK aX sV c8 Nc st dz Jv e6 Nd;dsimp only)
 refine cq (vs:=gj n K V D) rfl fun ag fH bH km=> ?_
 obtain ⟨bB,kC⟩:∃bB,bB=w.heap.size:=⟨_,rfl⟩
 rw[←kC] at fH⊢
 refine eI (fun b w'=>b=decide (80≤cd n)∧Ext ag w') (fun q J=>⟨fun h=>(by cases h),fun _=> ?_⟩) ?_
 · obtain ⟨cy,aS,bA,aZ⟩:=b9 fH
   refine ⟨_,cy,K,aS,V,bA,D,aZ,(tU (aD.ext bH) zx (by omega)).use ?_⟩
   rintro _ bt ⟨rfl,fe⟩
   refine ⟨_,rfl,J _ _ ⟨?_,fe⟩⟩
   rw[o6,fY,fY]
   omega
 rintro _ bZ ⟨rfl,mh⟩
 have t_:=bH.trans mh
 refine ⟨fun aa=> ?_,fun aa=> ?_⟩
 · have aa:=di aa
   have jg:=ax aa
   refine Sb (fun a b w'=>a=(u.ew:Nat)∧b=((u.ew+1:Nat):Int)∧Ext bZ w') (fun q J=>⟨fun _=> ?_,fun h=>(by cases h)⟩) ?_
   · have bS:Ext bZ bZ.drew:=eR _
     have Jo:=hu.ext (t_.trans bS)
     refine bW ⟨A,rfl,id,_,Jo.dK,A,rfl,id,_,Jo.dK,J _ _ _ ⟨rfl,?_,bS⟩⟩
     rw[ct (by omega) (by omega)];rfl
   rintro _ _ cE ⟨rfl,rfl,p0⟩
   have eo:=t_.trans p0
   obtain ⟨cy,aS,bA,aZ⟩:=b9 (fH.ext (mh.trans p0))
   refine ⟨_,cy,K,aS,V,bA,D,aZ,(M1 (h.ext eo) (by omega) jt n1 (aD.ext eo) jg.1 jg.2.1 jg.2.2).use ?_⟩
   intro v w' ak
   obtain ⟨s,e,rfl⟩:=ak.out
   exact ⟨s,e,rfl, .inl ⟨aa,s,e,rfl,ak.base eo⟩⟩
 · have aa:¬80≤cd n:=eB aa
   obtain ⟨o,no,ko,ga,DE,iY,dj,jg⟩:=gK (by omega)
   obtain ⟨dx,kx⟩:=h.t.lE no o ga
   obtain ⟨_,Eo,RF⟩:=kx.is
   have Nf:=hu.ext t_
   refine ⟨A,rfl,_,Nf.dK,((u.ew-1:Nat):Int),bZ,?_,?_⟩
   · rw[run_max_int2]
     congr 2
     by_cases b5:u.ew=0
     · rw[b5];rfl
     · rw[ct (by omega) (by omega),if_neg (by omega)];omega
   refine eI (fun a w'=>a=(r2 u:Nat)∧bZ=w') (fun q J=>⟨A,rfl,_,Nf.dK,fun b5=>J _ _ ⟨?_,rfl⟩,fun b5=>J _ _ ⟨?_,rfl⟩⟩) ?_
   · have:u.ew=0:=by simpa using b5
     unfold r2;rw[if_pos this];rfl
   · have:u.ew≠0:=by simpa using b5
     unfold r2;rw[if_neg this]
   rintro _ _ ⟨rfl,rfl⟩
   have alk:r2 u<u.n.kids.length:=(rq.1 ko).1
   obtain ⟨Vr,alm,lS,qz⟩:=dJ.at Nf.dU.kids alk
   have aln:u.n.kids[r2 u]=no:=(rq.1 ko).2
   rw[aln] at qz
   refine ⟨A,rfl,u.D,Nf.fK,Vr,alm,lS,_,qz,bW ?_⟩
   have bS:Ext bZ bZ.drew:=eR _
   obtain ⟨fW,alo⟩:∃fW,fW=bZ.drew:=⟨_,rfl⟩
   rw[←alo] at bS⊢
   have eo:=t_.trans bS
   have Sc:=h.ext eo
   have asr:=eo.size
   have n4:=(mh.trans bS).size
   have Jw:=fH.ext (mh.trans bS)
   have Sd:∀q,T.M q→q<w.heap.size:=fun q J=>h.t.lt J
   have m0:u.n.keys.getD (u.ew-1) []=u.n.keys[u.ew-1]:=by rw[oy,gq iY];rfl
   have fin:∀ (br:er) (aJ:Nat) (l4 l5 Do:ad) (hG:World),fk hG (T.cJ br T.P) c→fl T (T.cJ br T.P) c c [] [] fW hG 2→Var hG bB (gj n K V D) ai.cD→Var hG aJ (gj o l4 l5 Do) ai.cD→fW.heap.size≤aJ→¬(T.cJ br T.P).M aJ→b4 (fun q=>¬(T.cJ br T.P).M q) hG o l4 l5 Do→
       RK bB aJ (some ⟨c.c4,0,none⟩) (some A) ((u.ew-1:Nat):Int) (r2 u:Nat) (no:Nat) 0 hG (fun v w'=>Sa T c n u w v w'):=by
     intro br aJ l4 l5 Do hG Ev Ng GI yM eL alp alq
     have fU:=((fl.ext T c eo).trans Ng).mono (j:=2) (by omega)
     have cH:=fU.to
     have Jx:¬(T.cJ br T.P).M bB:=fun hm=>by
       rcases Ng.to.jK bB hm with U|U
       · have:=Sd _ U;omega
       · omega
     have alr:b4 (fun q=>¬(T.cJ br T.P).M q) hG n K V D:=(cH.dU (lo:=0) (aD.bx fun q _ aa=>⟨fy _,aa⟩)).bx fun q _ aa=>aa.2
     have Ew:(T.cJ br T.P).C.D.cS≤900000090:=j5 cH.cS (by omega)
     refine ak7 Ev GI yM Jx alp alr alq (hu.to cH) Ew jt n1 Dh zx Eo M9 (by omega) DE iY (by rw[←m0];exact dj) (xR u n o) (by unfold xR;rw[m0]) jg (by omega) ?_
     intro s e cx aS als w' alt aI
     exact .inr (.inr ⟨by omega,o,no,cx,aS,als,s,e,ko,ga,(fU.trans alt).mono (by omega),rfl,aI⟩)
   have Nh:∀q,T.N q→q<w.heap.size:=fun q J=>Sd q (aY.lV J)
   have err:∀ (br:er) (hG:World),fk hG (T.cJ br T.P) c→fl T (T.cJ br T.P) c c [] [] fW hG 2→¬T.C.D.calm 2→Sa T c n u w (.tuple #[.slice none 0 0, .int .i64 0, .int .i64 0, .int .i64 3]) hG:=by
     intro br hG Ev Ng e8
     exact .inr (.inl ⟨by omega,_,c,rfl,Ev,((fl.ext T c eo).trans Ng).mono (by omega),e8⟩)
   obtain ⟨cy,aS,bA,aZ⟩:=b9 Jw
   refine ⟨fun q=>T.N q∧¬T.G q,_,rfl,fun J=>J.2 h.gc,_,Sc.cells.1,(fun J=>by have:=Nh _ J.1;show False;exact absurd this (by show¬bB<w.heap.size;omega)),_,cy,?_,?_⟩
   · rw[←DE]
     refine (YR (Z:=fun _=>False) Sc (aq.refl _ _) (fun _ h=>h.elim) (by omega) ga).use ?_
     rintro _ dM ⟨br,ak,B6,YV,Jy,eu⟩
     have alu:=B6.size
     rcases eu with ⟨l4,l5,Do,rfl,Se⟩|⟨rfl,e8⟩
     · refine ⟨_,l4,l5,Do,0,rfl,B6,cq (vs:=[.bool false, .slice none 0 0, .slice none 0 0, .slice none 0 0]) rfl fun gF zQ Jz alv=>⟨aq.e0 Jz,zQ.de rfl ky,rfl,dW zQ (us:=gj o l4 l5 Do) rfl rfl fun hG JA zR Sf=> ?_⟩⟩
       have Ex:Ext dM hG:=Ext.eX Jz zR (cU _)
       obtain ⟨Ni,Sg⟩:=Jy dM (aq.refl _ _)
       have GJ:=Jw.an B6 fun J=>by have:=Nh _ J.1;omega
       refine fin br dM.heap.size l4 l5 Do hG (Ni.ext Ex) ((Sg.trans (fl.ext _ _ Ex)).mono (by omega)) (GJ.ext Ex) JA (by omega) (fun hm=>by have:=Ni.t.lt hm;omega) ?_
       exact (Se.ext Ex).bx fun q _ aa=>aa.2
     · refine ⟨_,bP,bP,bP,3,rfl,B6,cq (vs:=[.bool false, .slice none 0 0, .slice none 0 0, .slice none 0 0]) rfl fun gF zQ Jz alv=>⟨aq.e0 Jz,zQ.de rfl ky,rfl,dW zQ (us:=gj oa bP bP bP) rfl rfl fun hG JA zR Sf=>⟨fun _=> ?_,fun aa=>(by cases aa)⟩⟩⟩
       have Ex:Ext dM hG:=Ext.eX Jz zR (cU _)
       obtain ⟨Ni,Sg⟩:=Jy dM (aq.refl _ _)
       exact err br hG (Ni.ext Ex) ((Sg.trans (fl.ext _ _ Ex)).mono (by omega)) e8
   · refine cq (vs:=[.bool false, .slice none 0 0, .slice none 0 0, .slice none 0 0]) rfl fun bY Ey mq Sh=>⟨aq.e0 mq,?_⟩
     rw[←DE]
     refine (YR (Z:=fun q=>q=fW.heap.size) Sc mq (fun q e=>⟨by omega,by omega⟩) (by omega) ga).use ?_
     rintro _ dM ⟨br,ak,B6,YV,Jy,eu⟩
     have alu:=B6.size
     have GJ:=Ey.an B6 fun J=>by have:=Nh _ J.1;omega
     have alw:=(Jw.ext mq).an B6 fun J=>by have:=Nh _ J.1;omega
     rcases eu with ⟨l4,l5,Do,rfl,Se⟩|⟨rfl,e8⟩
     · refine ⟨_,l4,l5,Do,0,rfl,GJ.de rfl ky,rfl,dW GJ (us:=gj o l4 l5 Do) rfl rfl fun hG JA zR Sf=> ?_⟩
       obtain ⟨Ev,Si⟩:=Jy hG zR
       refine fin br fW.heap.size l4 l5 Do hG Ev Si (alw.an zR (by omega)) JA (cU _) (fun hm=> ?_) ?_
       · rcases YV _ hm with U|U
         · have:=Sd _ U;omega
         · omega
       · refine (b4.an Se zR fun q J e=>by have:=J.1;omega).bx fun q _ aa=>aa.2
     · refine ⟨_,bP,bP,bP,3,rfl,GJ.de rfl ky,rfl,dW GJ (us:=gj oa bP bP bP) rfl rfl fun hG JA zR Sf=>⟨fun _=> ?_,fun aa=>(by cases aa)⟩⟩
       obtain ⟨Ev,Si⟩:=Jy hG zR
       exact err br hG Ev Si e8
end
section
structure Sj (T av:aY) (l:List Nat) (w w':World):Prop where
 to:cp T av w w' 0
 E:av.E=T.E
 G:av.G=T.G
 root:av.root=T.root
 bu:av.bu=T.bu
 f:∀no,av.f no=(T.f no&& !decide (no∈l))
 iw:∀no,(no∉l∨T.g no=true)→av.P no=T.P no∧av.C.view no=T.C.view no
theorem YW {w:World} {T:aY} {c:fT} {s:ad} {l:List Nat} (h:fk w T c) (aj:Src 1 w s (gg l)) (vj:∀q,aP s q→T.G q) (aA:∀x∈l,T.f x=true) (gC:l.Nodup) (Dh:l.length≤10000):
   aR Tryz.prog F.zS #[.pointer (some ⟨c.c4,0,none⟩), .slice s.a s.len s.cap] w (fun v w'=>v= .tuple #[]∧∃av:aY,fk w' av c∧Sj T av l w w'):=by
 have fR:s.len=l.length:=by have:=aj.len;rw[yI] at this;omega
 refine W.alx (some ⟨c.c4,0,none⟩) s w _ ?_
 (delta W.zS aE aX bL aZ aS ay;dsimp only)
 refine ⟨fun i w'=>∃ (j:Nat) (av:aY),i=j∧j≤l.length∧fk w' av c∧Sj T av (l.take j) w w'∧Src 1 w' s (gg l),fun i _=>((l.length:Int)-i).toNat,⟨0,T,rfl,fy _,h,⟨.refl _ _,rfl,rfl,rfl,rfl,fun no=>by simp,fun _ _=>⟨rfl,rfl⟩⟩,aj⟩,?_⟩
 rintro _ bz ⟨j,cx,rfl,aU,U,bg,Il⟩
 refine ⟨fun a_=> ?_,fun cn=> ?_⟩
 · have a_:j<l.length:=by
     have:((j:Nat):Int)<((s.len:Nat):Int):=di a_
     omega
   have pF:cx.f l[j]=true:=by
     rw[bg.f,aA _ (eN a_)]
     have:l[j]∉l.take j:=fun hm=>by
       obtain ⟨i,hi,he⟩:=lO hm
       rw[eA] at hi
       rw[HN] at he
       have:=(List.getElem_inj gC).1 he
       omega
     simp[this]
   have ass:l[j]<cx.n:=by
     rcases g2 l[j] cx.n with ab|ab
     · exact ab
     · have:=U.t.s.Ge _ ab
       rw[pF] at this;cases this
   obtain ⟨A,ax,aa,al⟩:=Il.at (i:=j) (v:= .int .i64 ((l[j]:Nat):Int)) (by simp[gg,a_])
   refine w9 (fun w'=>∃dz:aY,fk w' dz c∧Sj T dz (l.take (j+1)) w w'∧Src 1 w' s (gg l)) (fun q J=>⟨A,ax,aa,_,al,_,rfl,_,U.cells.1,_,rfl,_,U.t.cells.2.1,(ai8 U.t.s _).use ?_⟩) ?_
   · rintro _ _ ⟨rfl,rfl⟩
     refine ⟨_,rfl,_,rfl,_,U.cells.1,_,rfl,_,U.t.cells.2.1,(ai4 U.t.s _).use ?_⟩
     rintro _ dH ⟨rfl,pB,Ed⟩
     have xi:Gf cx.f cx.n ((l[j]:Nat):Int)=js cx.f l[j] false:=by
       unfold Gf
       rw[if_pos ⟨by omega,by omega⟩,g6]
     rw[xi] at pB
     obtain ⟨aly,YX⟩:=U.t.X0 pB Ed
     have B7:fk dH (cx.Gl (js cx.f l[j] false)) c:=U.of aly Ed (fun q J aI=>(U.t.uq q J).2 aI) rfl fun _ h=>h
     have D7:Src 1 dH s (gg l):=Il.an Ed fun q J aI=>(U.t.uq q (by rw[bg.G];exact vj q J)).2 aI
     have D6:(decide ((0:Int)≤((l[j]:Nat):Int))&&decide (((l[j]:Nat):Int)<(cx.n:Nat))&&cx.f (Int.toNat ((l[j]:Nat):Int))&& !(cx.g (Int.toNat ((l[j]:Nat):Int))))= !(cx.g l[j]):=by
       rw[g6,pF,jB (by omega),jB (by omega)];simp
     have GK:∀no,js cx.f l[j] false no=(T.f no&& !decide (no∈l.take (j+1))):=fun no=>by
       rw[ss a_]
       unfold js
       by_cases e:no=l[j]
       · rw[if_pos e,e,jB (eH.2 (.inr (lN.2 rfl)))]
         exact (Bool.and_false _).symm
       · rw[if_neg e,bg.f]
         have bq:decide (no∈l.take j++ [l[j]])=decide (no∈l.take j):=by
           rw[o6,fY,fY,eH,lN]
           exact ⟨fun h=>h.resolve_right e, .inl⟩
         rw[bq]
     rw[D6]
     refine ⟨_,rfl,fun g_=>⟨_,rfl,_,B7.cells.1,_,rfl,_,B7.t.cells.1,(aiy B7.t.qy _).use ?_⟩,fun g_=>J _ ⟨_,B7,⟨?_,bg.E,bg.G,bg.root,bg.bu,GK,fun no dx=> ?_⟩,D7⟩⟩
     · rintro _ cT ⟨⟨b,rfl⟩,br,mY,cH,ak⟩
       have ME:T.g l[j]=false:=by
         have ab:cx.g=T.g:=bg.to.g
         rw[ab] at g_
         simpa using g_
       obtain ⟨alz,alA⟩:=B7.t.Q0 (P:=fun no=>if no=l[j] then none else cx.P no) mY cH (fun no dU a6=>by
         by_cases e:no=l[j]
         · rw[if_pos e] at a6;cases a6
         · rw[if_neg e] at a6
           rw[ak no e]
           exact U.t.lE no dU a6)
       have alB:=B7.of (av:=(cx.Gl (js cx.f l[j] false)).cJ br fun no=>if no=l[j] then none else cx.P no) alz cH.an (fun q J=>B7.t.Jd J) rfl fun _ h=>h
       refine ⟨b,rfl,J _ ⟨_,alB,⟨?_,bg.E,bg.G,bg.root,bg.bu,GK,fun no dx=> ?_⟩,?_⟩⟩
       · exact ((bg.to.trans YX).trans alA).mono (by omega)
       · have dI:no≠l[j]:=fun e=>by
           rcases dx with ab|ab
           · exact ab (by rw[ss a_,e];exact eH.2 (.inr (lN.2 rfl)))
           · rw[e,ME] at ab;cases ab
         have ao:=bg.iw no (dx.imp (fun ab aG=>ab (by rw[ss a_];exact eH.2 (.inl aG))) id)
         exact ⟨(if_neg dI).trans ao.1,(ak no dI).trans ao.2⟩
       · exact D7.an cH.an fun q J=>B7.t.Jd (by show cx.G q;rw[bg.G];exact vj q J)
     · exact (bg.to.trans YX).mono (by omega)
     · exact bg.iw no (dx.imp (fun ab aG=>ab (by rw[ss a_];exact eH.2 (.inl aG))) id)
   · rintro fG ⟨dz,ab,Sk,me⟩
     rw[ct (n:=(j:Int)+1) (by omega) (by omega)]
     refine ⟨⟨j+1,dz,by omega,by omega,ab,Sk,me⟩,?_⟩
     show ((l.length:Int)-((j:Int)+1)).toNat<((l.length:Int)-(j:Int)).toNat
     omega
 · have cn:j=l.length:=by
     have:¬((j:Nat):Int)<((s.len:Nat):Int):=eB cn
     omega
   subst cn
   rw[rv] at bg
   exact ⟨rfl,cx,U,bg⟩
theorem xT {B:Nat→Prop} {w:World} {n:aL} {K V D:ad} (aD:b4 B w n K V D) (bu:Nat) (cK:bu≤100) (ae:n.leaf=false→∃x,n.kids=[x]∧1≤bu):
   aR Tryz.prog F.xT #[eC n K V D, .int .i64 (bu:Nat)] w (fun v w'=>v=(if n.leaf then .tuple #[.int .i64 0, .int .i64 0, .int .i64 0] else .tuple #[.int .i64 ((n.kids.getD 0 0:Nat):Int), .int .i64 ((bu-1:Nat):Int), .int .i64 0])∧Ext w w'):=by
 refine W.alC n.leaf K V D (bu:Nat) w _ ?_
 (delta W.xT bJ ah aE ar aX bL ay;dsimp only)
 refine cq (vs:=gj n K V D) rfl fun ag fH bH km=> ?_
 obtain ⟨cy,aS,bA,aZ⟩:=b9 fH
 refine ⟨_,cy,fun aa=>⟨by rw[if_pos aa],bH⟩,fun aa=> ?_⟩
 obtain ⟨x,af,U⟩:=ae aa
 obtain ⟨A,ax,gM,al⟩:=dJ.at (aD.ext bH).kids (i:=0) (by rw[af];simp)
 refine ⟨D,aZ,A,ax,gM,_,al,?_,bH⟩
 have aW:((bu:Nat):Int)-1=((bu-1:Nat):Int):=by omega
 rw[if_neg (by rw[aa];simp),ct (by omega) (by omega),aW]
 simp only[af]
 rfl
end
section
def Sl (T:aY) (c:fT) (ks:List Key) (kids:List Nat) (w:World) (v:Value) (w':World):Prop:=
 (∃x,ks=[]∧kids=[x]∧v= .tuple #[.int .i64 (x:Nat), .int .i64 (T.bu:Nat), .int .i64 0]∧fk w' T c∧Ext w w')∨
 (∃ (k:Key) (x y no:Nat) (av:aY) (c':fT),ks=[k]∧kids=[x,y]∧fk w' av c'∧fl T av c c' [no] [] w w' 1∧
   ((v= .tuple #[.int .i64 (no:Nat), .int .i64 ((T.bu+1:Nat):Int), .int .i64 0]∧av.P no=some ⟨false,[k],[],[x,y]⟩)∨(v= .tuple #[.int .i64 (no:Nat), .int .i64 ((T.bu+1:Nat):Int), .int .i64 3]∧¬T.C.D.calm 1)))
theorem YY (K D:Nat) (w:World):Sem.run Tryz.prog (Instr.build ai.cD #[(1, .slice (some ⟨K,0,none⟩) 1 1),(3, .slice (some ⟨D,0,none⟩) 2 2)]) w= .ok (.agg #[.bool false, .slice (some ⟨K,0,none⟩) 1 1, .slice none 0 0, .slice (some ⟨D,0,none⟩) 2 2]) w:=by kernel_rfl
theorem Var.YZ {w:World} {b:Nat} {vs:List Value} {T:TypeId} (h:Var w b vs T):Src 1 w ⟨some ⟨b,0,none⟩,vs.length,vs.length⟩ vs:=by
 refine ⟨by show _=vs.length*1;omega,(fun h=>by cases h),fun a aT=> ?_⟩
 cases aT
 show eE w ⟨b,0,none⟩ 0 (vs.length*1)=_
 rw[lp,h.rd rfl]
theorem alD {w:World} {t:ad} {k:Key} (b:Nat) (ak:Var w b [.slice t.a t.len t.cap] ai.cG) (ba:bX (fun _=>True) w t k):bO (fun _=>True) w ⟨some ⟨b,0,none⟩,1,1⟩ [k]:=by
 refine ⟨[t],rfl,ak.YZ,cU _,fun q J=>⟨trivial,?_⟩,fun i U ab=> ?_⟩
 · obtain ⟨A,ax,rfl⟩:=J
   cases ax
   exact ak.lt
 · have:i=0:=by simp at U;omega
   subst this
   exact ba
theorem alE {w:World} {x y:Nat} (b:Nat) (ak:Var w b [.int .i64 (x:Nat), .int .i64 (y:Nat)] ai.int):dJ (fun _=>True) w ⟨some ⟨b,0,none⟩,2,2⟩ [x,y]:=by
 refine ⟨ak.YZ,cU _,fun q J=>⟨trivial,?_⟩⟩
 obtain ⟨A,ax,rfl⟩:=J
 cases ax
 exact ak.lt
theorem alF {w:World} {T:aY} {c:fT} {s:ad} {ks:List Key} {kids:List Nat} (h:fk w T c) (a6:v8 (fun q=>¬T.M q) w s ks kids) (cK:kids.length=2→T.bu<12) (aj:∀k x y,ks=[k]→kids=[x,y]→eV k∧x<1600∧y<1600)
   (fS:T.C.D.cS≤900000080) (jt:1≤fw T) (n1:c.made.length≤900):
   aR Tryz.prog F.B8 #[.pointer (some ⟨c.c4,0,none⟩), .slice s.a s.len s.cap] w (Sl T c ks kids w):=by
 have ast:=h.t.num.2.1
 refine W.alG (some ⟨c.c4,0,none⟩) s w _ ?_
 (delta W.B8 aE aX bL ar B9 ah uv ay;dsimp only)
 have bS:Ext w w.drew:=eR w
 have hd:=h.ext bS
 rcases a6 with ⟨b,x,rfl,rfl,rfl,ak,aa⟩|⟨b,x,y,k,t,rfl,rfl,rfl,ak,aa,ba,ae⟩
 · refine ⟨fun _=>bW ⟨_,rfl,⟨by decide,by show (0:Int)<((1:Nat):Int);decide⟩,id,_,by rw[bn,bn];exact ak.drew.cell,_,rfl,id,_,hd.cells.1,_,rfl,id,_,hd.t.cells.2.2.2.2,?_⟩,fun h=>(by cases h)⟩
   exact .inl ⟨x,rfl,rfl,rfl,hd,bS⟩
 · have cK:=cK rfl
   obtain ⟨s1,s2,bN⟩:=aj k x y rfl rfl
   refine ⟨fun h=>(by cases h),fun _=>⟨_,rfl,_,h.cells.1,_,rfl,_,h.t.cells.2.2.2.2,fun mu=> ?_,fun _=> ?_⟩⟩
   · have:((T.bu:Nat):Int)=12:=by simpa using mu
     omega
   have qw:dC ⟨false,[k],[],[x,y]⟩:= .inr ⟨⟨fun lW iW=>by rw[lN.1 iW];exact s1,List.pairwise_singleton _ _⟩,rfl,by simp,rfl,rfl,fun z bD=>by
     simp only[fP,mL,mM] at bD
     rcases bD with rfl|rfl<;>assumption⟩
   have dr:cd ⟨false,[k],[],[x,y]⟩≤232:=by
     have:=s1.2
     simp[cd,cellsOf]
     omega
   have Sm:¬T.N b:=fun aD=>aa (aY.lV aD)
   have fin:∀ (dL:World) (bK aX:Nat),Ext w dL→Var dL bK [.slice t.a t.len t.cap] ai.cG→Var dL aX [.int .i64 (x:Nat), .int .i64 (y:Nat)] ai.int→
       aR Tryz.prog F.sZ #[.pointer (some ⟨c.c4,0,none⟩), .agg #[.bool false, .slice (some ⟨bK,0,none⟩) 1 1, .slice none 0 0, .slice (some ⟨aX,0,none⟩) 2 2]] dL (fun v w'=>∃n27:Int,∃n28:Int,v= .tuple #[.int .i64 n27, .int .i64 n28]∧aq T.N dL w'∧
         ∀hD,Ext w' hD→Sl T c [k] [x,y] w (.tuple #[.int .i64 n27, .int .i64 ((T.bu+1:Nat):Int), .int .i64 n28]) hD∧∃av c',fk hD av c'∧c'.c4=c.c4∧av.cl=T.cl∧av.bu=T.bu):=by
     intro dL bK aX af RI lS
     have gC:b4 (fun _=>True) dL ⟨false,[k],[],[x,y]⟩ ⟨some ⟨bK,0,none⟩,1,1⟩ ⟨none,0,0⟩ ⟨some ⟨aX,0,none⟩,2,2⟩:=by
       exact ⟨alD bK RI (bX.bx (bX.ext ba af) fun _ _ _=>trivial),bO.none _ _,alE aX lS⟩
     refine (MX (h.ext af) (by omega) jt (by omega) gC qw dr).mono ?_
     rintro v w' ⟨no,av,c',og,cH,eu⟩
     have fU:=((fl.ext T c af).trans cH).mono (j:=1) (by omega)
     rcases eu with ⟨rfl,ga⟩|⟨rfl,e8⟩
     · refine ⟨_,_,rfl,cH.to.an,fun hD cB=>⟨.inr ⟨k,x,y,no,av,c',rfl,rfl,og.ext cB,(fU.trans (fl.ext av c' cB)).mono (by omega), .inl ⟨rfl,ga⟩⟩,av,c',og.ext cB,cH.c4,cH.to.cl,cH.bu⟩⟩
     · refine ⟨_,_,rfl,cH.to.an,fun hD cB=>⟨.inr ⟨k,x,y,no,av,c',rfl,rfl,og.ext cB,(fU.trans (fl.ext av c' cB)).mono (by omega), .inr ⟨rfl,e8⟩⟩,av,c',og.ext cB,cH.c4,cH.to.cl,cH.bu⟩⟩
   have nP:IntKind.wrap .i64 (((T.bu:Nat):Int)+1)=((T.bu+1:Nat):Int):=by rw[ct (by omega) (by omega)];rfl
   refine Sb (fun a b w'=>∀hD,Ext w' hD→Sl T c [k] [x,y] w (.tuple #[.int .i64 a, .int .i64 ((T.bu+1:Nat):Int), .int .i64 b]) hD∧∃av c',fk hD av c'∧c'.c4=c.c4∧av.cl=T.cl∧av.bu=T.bu) (fun q J=>bW ⟨T.N,_,rfl,⟨by decide,by show (1:Int)<((2:Nat):Int);decide⟩,Sm,t,by rw[bn];exact ak.drew.cell,_,rfl,⟨by decide,by show (0:Int)<((2:Nat):Int);decide⟩,Sm,_,by rw[bn,bn];exact ak.drew.cell,_,rfl,⟨by decide,by show (1:Int)<((2:Nat):Int);decide⟩,Sm,_,by rw[bn,bn];exact ak.drew.cell,?_,?_⟩) ?_
   · refine cq (vs:=[.slice t.a t.len t.cap]) rfl fun dX alH zT Rl=>⟨aq.e0 zT,cq (vs:=[.int .i64 (x:Nat), .int .i64 (y:Nat)]) rfl fun dL alI wm alJ=>⟨aq.e0 wm,_,fun _=>YY _ _ _,?_⟩⟩
     refine (fin dL w.drew.heap.size dX.heap.size (bS.trans (zT.trans wm)) (alH.ext wm) alI).use ?_
     rintro _ w' ⟨n27,n28,rfl,al,bh⟩
     exact ⟨n27,n28,rfl,al,J _ _ _ bh⟩
   · refine cq (vs:=[.int .i64 (x:Nat), .int .i64 (y:Nat)]) rfl fun dX alK zT Rl=>⟨aq.e0 zT,cq (vs:=[.slice t.a t.len t.cap]) rfl fun dL alL wm alJ=>⟨aq.e0 wm,_,fun _=>YY _ _ _,?_⟩⟩
     refine (fin dL dX.heap.size w.drew.heap.size (bS.trans (zT.trans wm)) alL (alK.ext wm)).use ?_
     rintro _ w' ⟨n27,n28,rfl,al,bh⟩
     exact ⟨n27,n28,rfl,al,J _ _ _ bh⟩
   · intro a b kN bh
     obtain ⟨U,av,c',ab,ao,aG,aV⟩:=bh _ (eR kN)
     have al:=ab.cells.1
     rw[ao] at al
     have ba:=ab.t.cells.2.2.2.2
     refine bW ⟨_,rfl,id,_,al,_,rfl,id,_,ba,?_⟩
     rw[aV,nP]
     exact U
end
section
theorem fb.Sn {P:Nat→Option aL} {lo hi:Option Key} {h:Nat} {n:aL} {p:List Nat} {L:List bo} (ak:fb P h n lo hi p L) (ab:n.leaf=true→cd n≤310) (ao:n.leaf=false→cd n≤335) (ae:n.leaf=false→n.keys≠ []):xK n:=by
 refine ⟨?_,by cases aA:n.leaf;exact j5 (ao aA) (by decide);exact j5 (ab aA) (by decide),fun aj=> ?_⟩
 · cases h with
   |zero=>exact ak.elim
   |succ h=>
     cases h with
     |zero=>exact .inl ak.1
     |succ h=>
       obtain ⟨aC,aF,aH,aN,cV⟩:=ak
       have aj:=cV.sorted fun _ _ _ _ _ hw=>hw.in
       exact .inr ⟨⟨aH,aj.2.2.1⟩,aC,ae aC,cV.len,aF,aN⟩
 · obtain ⟨aC,aF,aH,aN,_⟩:=ak.two (Q:=P) (x:=0) (y:=0) aj ab ao
   exact ⟨aC,aF,aH,aN⟩
section
variable {P:Nat→Option aL} {lo hi:Option Key}
theorem alM {h:Nat} {bF eD:aL} {gr eP:Option Key} {i:Nat} {cg nC:List Nat} {bM oA:List bo} {k:Key} (kn:∀k∈bF.keys,eV k) (hlen:bF.kids.length=bF.keys.length+1) (ga:∀x n,P x=some n→cd n≤232)
   (gL:1≤i) (nc:i<bF.kids.length) (eQ:jT gr eP k)
   (a6:j6 (jU P (h+1)) lo gr (bF.keys.take i) (bF.kids.take i) cg bM) (ak:fb P (h+1) eD gr eP nC oA) (U:cd eD<80):
   ∃ (o:aL) (aa:i-1<bF.kids.length) (gM:i-1<bF.keys.length),P bF.kids[i-1]=some o∧o.leaf=eD.leaf∧eV bF.keys[i-1]∧xK (gu o bF.keys[i-1] eD):=by
 obtain ⟨s,H3,eW,r,sw,N,aj,rfl,qS,rfl,rfl,⟨hw,m,hm,jD⟩,Fu,Dh⟩:=a6.last (by rw[eA];omega)
 have fI:(bF.keys.take i).length=i:=by rw[eA];omega
 have kz:(bF.kids.take i).length=i:=by rw[eA];omega
 have qS:s=bF.keys[i-1]'(by omega):=by
   rw[qS,HN];congr 1;omega
 have Di:(bF.kids.take i)[(bF.kids.take i).length-1]'(by omega)=bF.kids[i-1]'(by omega):=by
   rw[HN];congr 1;omega
 rw[Di] at hw hm
 obtain ⟨o,rz,ko,rfl,_,qT⟩:=hw.uY
 rw[ko] at hm
 have jD:2≤o.keys.length:=by rw[Option.some.inj hm];exact jD
 clear hm
 subst qS
 have jl:=(show jU P (h+1) H3 (some (bF.keys[i-1]'(by omega))) (bF.kids[i-1]'(by omega)) (bF.kids[i-1]'(by omega)::rz) N from ⟨hw,o,ko,jD⟩).in
 obtain ⟨x,af⟩:=HK _ jl.1
 have sx:=kn _ (eN (l:=bF.keys) (n:=i-1) (by omega))
 have AM:=fb.merge qT ak sx (fun c al=>pz (sv ((jl.2.2 x af).1 c al) ((jl.2.2 x af).2 _ rfl))) (fun c al=>pz (sv (eQ.1 _ rfl) (eQ.2 c al)))
 have dr:=LB qT ak sx (by have:=ga _ _ ko;omega)
 have Fv:=LA (a:=o) (b:=eD) (s:=bF.keys[i-1]'(by omega))
 refine ⟨o,by omega,by omega,ko,by rw[qT.leaf,ak.leaf],sx,AM.Sn dr.1 dr.2 fun _ e=> ?_⟩
 rw[e,tF] at Fv
 omega
theorem alN {h:Nat} {bF eD:aL} {gr eP:Option Key} {i:Nat} {cc nC:List Nat} {oA b8:List bo} {k:Key} (kn:∀k∈bF.keys,eV k) (hlen:bF.kids.length=bF.keys.length+1) (ga:∀x n,P x=some n→cd n≤232)
   (nc:i+1<bF.kids.length) (eQ:jT gr eP k)
   (bR:mw (jU P (h+1)) hi eP (bF.keys.drop i) (bF.kids.drop (i+1)) cc b8) (ak:fb P (h+1) eD gr eP nC oA) (U:cd eD<80):
   ∃ (o:aL) (aa:i+1<bF.kids.length) (gM:i<bF.keys.length),P bF.kids[i+1]=some o∧o.leaf=eD.leaf∧eV bF.keys[i]∧xK (gu eD bF.keys[i] o):=by
 obtain ⟨s,e2,r,gv,N,aeB,aj,rfl,qS,rfl,rfl,⟨hw,m,hm,jD⟩,H4⟩:=bR.head (by rw[fx];omega)
 have qS:s=bF.keys[i]'(by omega):=by rw[qS,Lh];rfl
 have Di:(bF.kids.drop (i+1))[0]'(by rw[fx];omega)=bF.kids[i+1]'nc:=by rw[Lh]
 rw[Di] at hw hm
 obtain ⟨o,rz,ko,rfl,_,qT⟩:=hw.uY
 rw[ko] at hm
 have jD:2≤o.keys.length:=by rw[Option.some.inj hm];exact jD
 clear hm
 subst qS
 have jl:=(show jU P (h+1) (some (bF.keys[i]'(by omega))) e2 (bF.kids[i+1]'nc) (bF.kids[i+1]'nc::rz) N from ⟨hw,o,ko,jD⟩).in
 obtain ⟨x,af⟩:=HK _ jl.1
 have sx:=kn _ (eN (l:=bF.keys) (n:=i) (by omega))
 have AM:=fb.merge ak qT sx (fun c al=>pz (sv (eQ.1 c al) (eQ.2 _ rfl))) (fun c al=>pz (sv ((jl.2.2 x af).1 _ rfl) ((jl.2.2 x af).2 c al)))
 have dr:=LB ak qT sx (by have:=ga _ _ ko;omega)
 have Fv:=LA (a:=eD) (b:=o) (s:=bF.keys[i]'(by omega))
 refine ⟨o,nc,by omega,ko,by rw[qT.leaf,ak.leaf],sx,AM.Sn dr.1 dr.2 fun _ e=> ?_⟩
 rw[e,tF] at Fv
 omega
inductive Ctx (P:Nat→Option aL) (k:Key) (top:Nat):Nat→Option Key→Option Key→List (Nat×aL×Nat)→List Nat→List bo→List bo→Prop
 |top:Ctx P k top top none none [] [] [] []
 |step {iv:Nat} {lo hi gr eP:Option Key} {st:List (Nat×aL×Nat)} {gO:List Nat} {A B:List bo} {no:Nat} {n:aL} {cg cc:List Nat} {bM b8:List bo} (h:Ctx P k top (iv+2) lo hi st gO A B) (ga:P no=some n) (aA:n.leaf=false) (ij:∀k∈n.keys,eV k) (qh:∀x∈n.kids,x<1600)
     (hlen:n.kids.length=n.keys.length+1) (ae:n.keys≠ []) (dj:st≠ []→2≤n.keys.length) (eQ:jT gr eP k) (a6:j6 (jU P (iv+1)) lo gr (n.keys.take (fi n.keys k)) (n.kids.take (fi n.keys k)) cg bM)
     (bR:mw (jU P (iv+1)) hi eP (n.keys.drop (fi n.keys k)) (n.kids.drop (fi n.keys k+1)) cc b8):Ctx P k top (iv+1) gr eP (st++ [(no,n,fi n.keys k)]) (no::(cg++(cc++gO))) (A++bM) (b8++B)
theorem Ctx.iv {k:Key} {top iv:Nat} {st:List (Nat×aL×Nat)} {gO:List Nat} {A B:List bo} (h:Ctx P k top iv lo hi st gO A B):iv+st.length=top:=by
 induction h with
 |top=>rfl
 |step h _ _ _ _ _ _ _ _ _ _ c1=>rw[dA,qP];omega
theorem Ctx.agree {Q:Nat→Option aL} {k:Key} {top iv:Nat} {st:List (Nat×aL×Nat)} {gO:List Nat} {A B:List bo} (h:Ctx P k top iv lo hi st gO A B) (J:∀x∈gO,P x=Q x):Ctx Q k top iv lo hi st gO A B:=by
 induction h with
 |top=>exact .top
 | @step iv lo hi gr eP st gO A B no n cg cc bM b8 h ga aA ij qh hlen ae dj eQ a6 bR c1=>
   refine .step (c1 fun x af=>J x (by simp[af])) (by rw[←J no (by simp)];exact ga) aA ij qh hlen ae dj eQ (a6.wR fun _ _ _ _ _ aj hw=>hw.agree fun x af=>J x ?_) (bR.wR fun _ _ _ _ _ aj hw=>hw.agree fun x af=>J x ?_)
   · have:=aj x af;simp[this]
   · have:=aj x af;simp[this]
theorem Ctx.down {k:Key} {top:Nat}:∀ {iv:Nat} {lo hi:Option Key} {st:List (Nat×aL×Nat)} {gO:List Nat} {A B M sw:List bo} {no:Nat} {p:List Nat},Ctx P k top (iv+1) lo hi st gO A B→gJ P (iv+1) lo hi no p M→(st≠ []→∃m,P no=some m∧2≤m.keys.length)→jT lo hi k→sw=A++(M++B)→(∀u,Loc k u→u sw=A++(u M++B))→
   ∃ (rest jN:List (Nat×aL×Nat)) (kO:Nat) (c_:aL) (jV gL:Option Key) (nq:List Nat) (l6 l7:List bo),BR P k (iv+1) no rest∧st++rest=jN++ [(kO,c_,0)]∧Ctx P k top 1 jV gL jN nq l6 l7∧P kO=some c_∧m_ c_∧c_.within jV gL∧c_.keys≠ []∧(jN≠ []→2≤c_.keys.length)∧jT jV gL k∧
     (p++gO).Perm (kO::nq)∧sw=l6++(c_.fZ++l7)∧∀u,Loc k u→u sw=l6++(u c_.fZ++l7)
 |0,lo,hi,st,gO,A,B,M,sw,no,p,al,hw,ab,eQ,dq,hu=>by
   obtain ⟨n,U,ao,aG,aV,rfl,rfl⟩:=hw
   refine ⟨[(no,n,0)],st,no,n,lo,hi,gO,A,B,⟨n,[],U,by rw[ao.leaf];rfl,rfl,rfl⟩,rfl,al,U,ao,aG,aV,fun aj=> ?_,eQ,List.Perm.refl _,dq,hu⟩
   obtain ⟨m,hm,jD⟩:=ab aj
   rw[U] at hm;cases hm
   exact jD
 |iv+1,lo,hi,st,gO,A,B,M,sw,no,p,al,hw,ab,eQ,dq,hu=>by
   obtain ⟨n,eg,U,rfl,ao,ak⟩:=hw.uY
   obtain ⟨gr,eP,cg,q,cc,bM,oA,b8,aa,rfl,rfl,Ea,Y0,alO,hlen,Fu,H4⟩:=ak.at eQ
   obtain ⟨aC,aF,aH,aN,_⟩:=ak
   have og:=Ctx.step al U aC aH aN hlen ao (fun aj=>by
     obtain ⟨m,hm,jD⟩:=ab aj
     rw[U] at hm;cases hm
     exact jD) Y0 Fu H4
   obtain ⟨rest,jN,kO,c_,jV,gL,nq,l6,l7,bL,ar,bJ,g8,jX,zU,Ez,B_,Ca,xU,zV,wo⟩:=Ctx.down (sw:=sw) og Ea.1 (fun _=>Ea.2) Y0 (by rw[dq];simp only[d_]) (fun u aA=>by rw[hu u aA,alO u aA];simp only[d_])
   refine ⟨(no,n,fi n.keys k)::rest,jN,kO,c_,jV,gL,nq,l6,l7,⟨n,rest,U,by rw[aC];simp,by rw[if_neg (by omega)],?_⟩,?_,bJ,g8,jX,zU,Ez,B_,Ca,?_,zV,wo⟩
   · rw[oy,gq aa]
     exact bL
   · rw[←ar];simp
   · refine List.Perm.trans ?_ xU
     have aW:(no::(cg++(q++cc))++gO)=no::(cg++(q++(cc++gO))):=by simp[d_]
     rw[aW]
     have bq:(q++no::(cg++(cc++gO))).Perm (no::(q++(cg++(cc++gO)))):=AE
     refine List.Perm.trans ?_ bq.symm
     refine List.Perm.cons _ ?_
     have ec:=(HM (l₁:=cg) (l₂:=q)).append_right (cc++gO)
     simpa[d_] using ec
end
end
section
theorem Sp {α:Type} (a b c:List α):(a++(b++c)).Perm (a++c++b):=by
 rw[d_]
 exact (HM (l₁:=b) (l₂:=c)).append_left a
theorem Ctx.up {P:Nat→Option aL} {lo hi:Option Key} {k:Key} {top iv:Nat} {st Sq:List (Nat×aL×Nat)} {gO:List Nat} {A B:List bo} {u:fL} {eD:aL} {q:List Nat} {M:List bo} (al:Ctx P k top iv lo hi st gO A B) (gN:st=Sq++ [u.st]) (ak:fb P iv eD lo hi q M) (ga:∀x n,P x=some n→cd n≤232) (aj:cd eD≤282):
   ∃ (Cb Cc:Option Key) (zW:List Nat) (w7 Cd:List bo) (ps:List Nat),Ctx P k top (iv+1) Cb Cc Sq zW w7 Cd∧gO=u.no::(ps++zW)∧P u.no=some u.n∧u.ew<u.n.kids.length∧u.n.kids.length=u.n.keys.length+1∧u.n.keys≠ []∧(Sq≠ []→2≤u.n.keys.length)∧
     (80≤cd eD→∀ (Q:Nat→Option aL) (ks:List Key) (kids:List Nat),yw Q eD ks kids→(∀x∈ps++q,P x=Q x)→(∀x∈kids,x<1600)→∃ (iX:List Nat) (M2:List bo),fb Q (iv+1) (lq u.n u.ew (u.ew+1) ks kids) Cb Cc iX M2∧w7++(M2++Cd)=A++(M++B)∧iX.Perm (kids++(ps++q))∧
       cd (lq u.n u.ew (u.ew+1) ks kids)≤cd u.n+27∧u.n.keys.length≤(lq u.n u.ew (u.ew+1) ks kids).keys.length+1)∧
     (cd eD<80→∃ (o:aL) (no:Nat) (rest:List Nat),u.n.kids[r2 u]? =some no∧P no=some o∧o.leaf=eD.leaf∧u.ew-1<u.n.keys.length∧eV (u.n.keys.getD (u.ew-1) [])∧xK (xR u eD o)∧ps.Perm (no::rest)∧
       ∀ (Q:Nat→Option aL) (ks:List Key) (kids:List Nat),yw Q (xR u eD o) ks kids→(∀x∈rest++q,P x=Q x)→(∀x∈kids,x<1600)→∃ (iX:List Nat) (M2:List bo),fb Q (iv+1) (lq u.n (u.ew-1) (u.ew-1+2) ks kids) Cb Cc iX M2∧w7++(M2++Cd)=A++(M++B)∧iX.Perm (kids++(rest++q))∧
         cd (lq u.n (u.ew-1) (u.ew-1+2) ks kids)≤cd u.n+27∧u.n.keys.length≤(lq u.n (u.ew-1) (u.ew-1+2) ks kids).keys.length+1):=by
 cases al with
 |top=>
   have:=congrArg List.length gN
   simp at this
 | @step iv Cb Cc _ _ asu zW w7 Cd Y1 bF cg cc bM b8 h alP aA ij qh hlen ae dj eQ a6 bR=>
   obtain ⟨rfl,ab⟩:=List.append_inj' gN rfl
   have ao:(Y1,bF,fi bF.keys k)=u.st:=by simpa using ab
   have dx:Y1=u.no:=congrArg Prod.fst ao
   have aD:bF=u.n:=congrArg (fun x=>x.2.1) ao
   have Y2:fi bF.keys k=u.ew:=congrArg (fun x=>x.2.2) ao
   subst dx aD
   rw[Y2] at a6 bR
   have kt:=Lu u.n.keys k
   rw[Y2] at kt
   refine ⟨Cb,Cc,zW,w7,Cd,cg++cc,h,by rw[d_],alP,by omega,hlen,ae,dj,fun xV Q ks kids aI J JB=> ?_,fun xV=> ?_⟩
   · obtain ⟨eg,aC,aF,aH,aN⟩:=aex aA ij qh a6 bR ak xV aj aI (fun x af=>J x (by
       simp only[eH] at af⊢
       rcases af with af|af|af
       · exact .inl (.inl af)
       · exact .inr af
       · exact .inl (.inr af))) JB
     refine ⟨eg,_,aC,by simp only[d_],aF.trans (List.Perm.append_left kids ?_),aH,by omega⟩
     exact Sp cg q cc
   · by_cases b5:u.ew=0
     · obtain ⟨o,uA,q7,p5,Nj,Sr,Ss⟩:=alN ij hlen ga (i:=u.ew) (by
         have:u.n.keys.length≠0:=fun e=>ae (List.eq_nil_of_length_eq_zero e)
         omega) eQ bR ak xV
       obtain ⟨kc,Fw,Y3,uk,JC,St,_,Su⟩:=aeA aA ij qh hlen ga uA eQ a6 bR ak xV
       rw[p5] at JC
       obtain rfl:=Option.some.inj JC
       have aW:r2 u=u.ew+1:=by unfold r2;rw[if_pos b5,b5]
       have bq:u.ew-1=u.ew:=by omega
       have ec:u.n.keys.getD (u.ew-1) []=u.n.keys[u.ew]:=by rw[bq,oy,gq q7];rfl
       have jW:xR u eD o=gu eD u.n.keys[u.ew] o:=by unfold xR;rw[if_pos (by rw[aW];omega),ec]
       refine ⟨o,u.n.kids[u.ew+1],cg++Fw,by rw[aW];exact gq uA,p5,Nj,by omega,by rw[ec];exact Sr,by rw[jW];exact Ss,?_,fun Q ks kids aI J JB=> ?_⟩
       · exact (List.Perm.append_left cg St).trans AE
       · rw[jW] at aI
         obtain ⟨eg,aC,aF,aH,aN⟩:=Su Q ks kids aI (fun x af=>J x (by
           simp only[eH] at af⊢
           rcases af with af|af|af
           · exact .inl (.inl af)
           · exact .inr af
           · exact .inl (.inr af))) JB
         rw[bq]
         exact ⟨eg,_,aC,by simp only[d_],aF.trans (List.Perm.append_left kids (Sp cg q Fw)),aH,aN⟩
     · obtain ⟨o,uA,q7,p5,Nj,Sr,Ss⟩:=alM ij hlen ga (i:=u.ew) (by omega) (by omega) eQ a6 ak xV
       obtain ⟨kc,Ft,Y3,uk,JC,St,_,Su⟩:=aey aA ij qh hlen ga (by omega) (by omega) eQ a6 bR ak xV
       rw[p5] at JC
       obtain rfl:=Option.some.inj JC
       have aW:r2 u=u.ew-1:=by unfold r2;rw[if_neg b5]
       have ec:u.n.keys.getD (u.ew-1) []=u.n.keys[u.ew-1]:=by rw[oy,gq q7];rfl
       have jW:xR u eD o=gu o u.n.keys[u.ew-1] eD:=by unfold xR;rw[if_neg (by rw[aW];omega),ec]
       have kT:u.ew-1+2=u.ew+1:=by omega
       refine ⟨o,u.n.kids[u.ew-1],Ft++cc,by rw[aW];exact gq uA,p5,Nj,q7,by rw[ec];exact Sr,by rw[jW];exact Ss,?_,fun Q ks kids aI J JB=> ?_⟩
       · exact (St.append_right cc)
       · rw[jW] at aI
         obtain ⟨eg,aC,aF,aH,aN⟩:=Su Q ks kids aI (fun x af=>J x (by
           simp only[eH] at af⊢
           rcases af with af|af|af
           · exact .inl (.inl af)
           · exact .inr af
           · exact .inl (.inr af))) JB
         rw[kT]
         exact ⟨eg,_,aC,by simp only[d_],aF.trans (List.Perm.append_left kids (Sp Ft q cc)),aH,aN⟩
end
section
theorem fk.alQ {w:World} {T:aY} {c:fT} {E:Nat→Prop} (h:fk w T c) (iO:∀q,E q→T.E q):fk w (T.dc E T.G) c:=
 h.of (av:=T.dc E T.G) (W:=fun _=>False) (h.t.grow (W:=fun _=>False) (aq.refl _ _) (fun _ h=>h.elim) (fun q J=> .inl (iO q J)) (fun q J=> .inr (.inl J)) fun q J=>(h.t.hE q (iO q J)).2.2) (aq.refl _ _) (fun _ _ h=>h) rfl fun _ h=>h
theorem fl.local {T av:aY} {c c':fT} {m l:List Nat} {cO:Nat→Prop} {w ag w':World} {k:Nat} (h:fl (T.dc cO T.G) av c c' m l ag w' k) (af:Ext w ag) (kv:∀q,cO q→T.E q∨w.heap.size≤q) (iO:∀q,T.E q→cO q):fl T (av.dc T.E av.G) c c' m l w w' k:=
 ⟨h.to.local af kv (fun q J=> .inl J) (fun q J=> .inl (by rw[h.E];exact iO q J)) fun q J=>J,rfl,h.G,h.root,h.bu,h.c4,h.made,h.left,h.dU,h.rV,h.f,h.iw,h.room⟩
theorem fk.Y4 {w w':World} {T:aY} {c:fT} {W:Nat→Prop} (h:fk w T c) (al:aq W w w') (c9:∀q,W q→T.E q∨w.heap.size≤q):fk w' T c:=by
 have dB:aq (fun q=>T.E q) w w':=oT (W:=fun q=>T.E q) (aq.refl _ _) al fun q J hw=>(c9 q hw).resolve_right (by omega)
 exact h.of (h.t.grow (E:=T.E) (G:=T.G) dB (fun q J _=> .inl J) (fun q J=> .inl J) (fun q J=> .inr (.inl J)) fun q J=>(h.t.hE q J).2.2) dB (fun q bg he=>(h.t.hE q he).2.2 bg) rfl fun _ h=>h
theorem sX.to {w w':World} {T av:aY} {k:Nat} {s:ad} {l:List fL} (h:sX (fun q=>¬T.M q) w s l) (ba:cp T av w w' k):sX (fun q=>¬av.M q) w' s l:=by
 refine ⟨h.own.an ba.an fun q J aD=>h.D9 q J (aY.lV aD),fun q J hm=> ?_,fun x af=> ?_⟩
 · rcases ba.jK q hm with U|U
   · exact h.D9 q J U
   · have:=bU.lt h.own q J;omega
 · exact (ba.dU (lo:=0) ((h.dU x af).bx fun q _ aa=>⟨fy _,aa⟩)).bx fun q _ aa=>aa.2
theorem sX.at {B:Nat→Prop} {w:World} {s:ad} {l:List fL} (h:sX B w s l) {i:Nat} (hi:i<l.length):∃A:Addr,s.a=some A∧s.len=l.length∧B A.block∧w.cell? (A.add (i*6))=some (.int .i64 ((l[i]).no:Nat))∧xL B w (A.add (i*6)) l[i]:=by
 have aA:=h.own.1
 rw[oR _ (BQ l)] at aA
 have fR:s.len=l.length:=by omega
 rcases h.own.2.2.2 with ⟨U,ab⟩|⟨b,c,aa,ak,eY,kD⟩
 · have:=h.own.2.1
   omega
 · have kA:∀j,j<6→w.cell? ⟨b,i*6+j,none⟩=((fL.c l[i]))[j]? :=fun j aU=>by
     rw[ck.cell ak,←Mu (BQ l) hi aU,←kD]
     rw[Lp,if_pos (by omega),Array.getElem?_toList]
   refine ⟨⟨b,0,none⟩,aa,fR,h.D9 b ⟨_,aa,rfl⟩,?_,?_⟩
   · rw[bn,gd]
     exact kA 0 (by decide)
   · rw[bn,gd]
     refine ⟨?_,?_,?_,?_,?_,h.dU _ (eN hi),h.D9 b ⟨_,aa,rfl⟩,bU.lt h.own b ⟨_,aa,rfl⟩⟩
     · rw[bn];exact kA 1 (by decide)
     · rw[bn,bn];exact kA 2 (by decide)
     · rw[bn,bn];exact kA 3 (by decide)
     · rw[bn,bn];exact kA 4 (by decide)
     · rw[bn];exact kA 5 (by decide)
theorem Ctx.Y5 {P:Nat→Option aL} {lo hi:Option Key} {k:Key} {top iv:Nat} {gO:List Nat} {A B:List bo} (h:Ctx P k top iv lo hi [] gO A B):iv=top∧lo=none∧hi=none∧gO=[]∧A=[]∧B=[]:=by
 generalize gN:([]:List (Nat×aL×Nat))=st at h
 cases h with
 |top=>exact ⟨rfl,rfl,rfl,rfl,rfl,rfl⟩
 |step h=>
   have:=congrArg List.length gN
   simp at this
end
section
def zX (T:aY) (c:fT) (eW:List Nat) (hJ:List bo) (w:World) (v:Value) (w':World):Prop:=
 ∃ (av:aY) (c':fT) (m l:List Nat),fk w' av c'∧fl T av c c' m l w w' 60∧
   ((v= .tuple #[.int .i64 0, .int .i64 0, .int .i64 0]∧hJ=[]∧l.Perm (m++eW))∨
    (∃ (root h:Nat) (pages:List Nat),v= .tuple #[.int .i64 (root:Nat), .int .i64 (h:Nat), .int .i64 0]∧gJ av.P h none none root pages hJ∧(pages++l).Perm (m++eW)∧1≤h∧h≤T.bu+1)∨
    (∃a b:Int,v= .tuple #[.int .i64 a, .int .i64 b, .int .i64 3]∧¬T.C.D.calm 60))
theorem zX.local {T:aY} {c:fT} {eW:List Nat} {hJ:List bo} {cO:Nat→Prop} {w ag w':World} {v:Value} (h:zX (T.dc cO T.G) c eW hJ ag v w') (af:Ext w ag) (kv:∀q,cO q→T.E q∨w.heap.size≤q) (iO:∀q,T.E q→cO q):zX T c eW hJ w v w':=by
 obtain ⟨av,c',m,l,U,ab,ao⟩:=h
 exact ⟨av.dc T.E av.G,c',m,l,U.alQ fun q J=>by rw[ab.E];exact iO q J,ab.local af kv iO,ao⟩
structure alR (cx:aY) (c:fT) (bt:World) (wl:List fL) (k:Key) (eW:List Nat) (hJ:List bo) (ws:ad) (ot:Nat) (i:Nat) (w':World) (av:aY) (c':fT) (m l:List Nat) (n:aL) (K V D:ad) (lo hi:Option Key) (gO:List Nat) (A B:List bo) (q:List Nat) (M:List bo) (r:List Nat):Prop where
 My:i<wl.length
 Sv:fk w' av c'
 to:fl cx av c c' m l bt w' (4*(wl.length-1-i))
 Nk:m.length≤2*(wl.length-1-i)
 Y6:l.length≤2*(wl.length-1-i)
 ot:Var w' ot (gj n K V D) ai.cD
 dU:b4 (fun q=>¬av.M q) w' n K V D
 lF:sX (fun q=>¬av.M q) w' ws wl
 ctx:Ctx av.P k wl.length (wl.length-i) lo hi ((wl.take i).map fL.st) gO A B
 uY:fb av.P (wl.length-i) n lo hi q M
 eq:A++(M++B)=hJ
 pp:eW.Perm ((wl[i]).no::(r++gO))
 acc:(q++l).Perm (m++r)
 sz:cd n≤282
 alS:1≤i→n.keys≠ []
 Y7:∀x∈q++gO,av.f x=true
theorem da.Ce {w:World} {T:aY} (h:da w T):∀x n,T.P x=some n→cd n≤232:=fun x n af=>(h.lE x n af).2.is.2.2
theorem oW.cs {T:aY} {c:fT} {n:aL} {w w':World} {s:ad} {e:Int} (h:oW T c n w (.tuple #[.slice s.a s.len s.cap, .int .i64 e]) w'):
   ∃ (av:aY) (c':fT) (m:List Nat),fk w' av c'∧fl T av c c' m [] w w' 2∧m.length≤2∧((e=0∧∃ks,yw av.P n ks m∧v8 (fun q=>¬av.M q) w' s ks m)∨(e=3∧¬T.C.D.calm 2)):=by
 obtain ⟨av,c',m,s2,U,ab,ao,aG⟩:=h
 refine ⟨av,c',m,U,ab,ao,?_⟩
 rcases aG with ⟨ks,ak,aV,b_⟩|⟨ak,aV⟩
 · simp at ak
   obtain ⟨⟨a8,cQ,a3⟩,rfl⟩:=ak
   obtain rfl:s=s2:=by cases s;cases s2;simp_all
   exact .inl ⟨rfl,ks,aV,b_⟩
 · simp at ak
   exact .inr ⟨ak.2,aV⟩
theorem alT {P Q Sw:Nat→Option aL} {t:Nat} {n:aL} {q:List Nat} {M:List bo} {te:Key} {x y no:Nat} (ak:fb P (t+1) n none none q M) (aj:cd n≤282) (aI:yw Q n [te] [x,y]) (J:∀z∈q,P z=Q z) (aD:Sw no=some ⟨false,[te],[],[x,y]⟩) (jn:∀z∈x::y::q,Q z=Sw z) (af:x<1600) (b1:y<1600):
   eV te∧∃pages,gJ Sw (t+2) none none no pages M∧pages.Perm (no::x::y::q):=by
 have xV:232<cd n:=by
   rcases aI with ⟨_,z,e,_⟩|⟨h,_⟩
   · cases e
   · exact h
 obtain ⟨eg,aC,aF,aH,_⟩:=ak.fits (ak.Pl (by omega)) (fun _=>by omega) (fun _=>by omega) aI J
 have pn:fb Q (t+2) ⟨false,[te],[],[x,y]⟩ none none eg M:=⟨rfl,rfl,aH,fun z bD=>by
   simp only[fP,mL,mM] at bD
   rcases bD with rfl|rfl<;>assumption,aC⟩
 refine ⟨aH te (by simp),no::eg,pn.lay (by simp) aD fun z bD=>jn z ?_,List.Perm.cons no aF⟩
 have:=aF.mem_iff.1 bD
 simpa using this
theorem Cf {a b:List Nat}:a.Perm b↔∀x,a.count x=b.count x:=List.perm_iff_count
theorem zY {q l m r:List Nat} {no:Nat} (h:(q++l).Perm (m++r)):(q++(l++ [no])).Perm (m++(no::r)):=by
 rw[Cf] at h⊢
 intro x
 have:=h x
 simp only[Db,Fo,Fp] at this⊢
 omega
theorem qI {q l m r iX ps ms ls rest:List Nat} (h:(q++l).Perm (m++r)) (ab:iX.Perm (ms++(rest++q))) (ao:ps.Perm (ls++rest)):(iX++(l++ls)).Perm ((m++ms)++(ps++r)):=by
 rw[Cf] at h ab ao⊢
 intro x
 have:=h x
 have:=ab x
 have:=ao x
 simp only[Db,Fo,Fp] at*
 omega
theorem zZ {eW r ps zW:List Nat} {u:Nat} (h:eW.Perm (r++(u::(ps++zW)))):eW.Perm (u::((ps++r)++zW)):=by
 rw[Cf] at h⊢
 intro x
 have:=h x
 simp only[Db,Fo,Fp] at*
 omega
end
section
theorem alU {w:World} {T:aY} {c:fT} {wl:List fL} {k:Key} {eW gO:List Nat} {hJ A B M:List bo} {lo hi:Option Key} {ws:ad} {n:aL} {K V D:ad} (h:fk w T c) (hw:sX (fun q=>¬T.M q) w ws wl) (aD:b4 (fun q=>¬T.M q) w n K V D) (dI:0<wl.length) (hlen:wl.length=T.bu) (cK:T.bu<12)
   (fS:T.C.D.cS≤900000000) (jt:2*T.bu+3≤fw T) (yQ:c.made.length≤100) (c0:c.left.length≤100) (Y8:Ctx T.P k wl.length 1 lo hi ((wl.take (wl.length-1)).map fL.st) gO A B) (pn:fb T.P 1 n lo hi [] M) (heq:A++(M++B)=hJ)
   (r3:eW.Perm ((wl[wl.length-1]'(by omega)).no::gO)) (dr:cd n≤282) (JD:2≤wl.length→n.keys≠ []) (tf:∀x∈gO,T.f x=true):
   aR Tryz.prog F.wq #[.pointer (some ⟨c.c4,0,none⟩), .slice ws.a ws.len ws.cap,eC n K V D] w (zX T c eW hJ w):=by
 refine W.Y9 (some ⟨c.c4,0,none⟩) ws n.leaf K V D w _ ?_
 (delta W.wq bJ ah ar c8 ay aE aX bL st GL EA iE fK;dsimp only)
 refine cq (vs:=gj n K V D) rfl fun ag fH bH km=> ?_
 obtain ⟨cy,aS,bA,aZ⟩:=b9 fH
 refine ⟨_,cy,K,aS,V,bA,D,aZ,cq (vs:=[.bool false, .slice none 0 0, .slice none 0 0, .slice none 0 0]) rfl fun bd vr jG Mj=>⟨vr.de rfl ky,rfl,dW vr (us:=gj n K V D) rfl rfl fun bt GM pP Mm=> ?_⟩⟩
 have fe:Ext w bt:=bH.trans (Ext.eX jG pP (cU _))
 obtain ⟨ot,GI⟩:∃ot,ot=ag.heap.size:=⟨_,rfl⟩
 rw[←GI] at GM⊢
 obtain ⟨cO,kv⟩:∃cO,cO=fun q=>T.E q∨q=ot:=⟨_,rfl⟩
 have mo:∀q,T.E q→cO q:=fun q J=>by rw[kv];exact .inl J
 have oZ:∀q,cO q→T.E q∨q=ot:=fun q J=>by rw[kv] at J;exact J
 have Y_:cO ot:=by rw[kv];exact .inr rfl
 have asv:=GM.lt
 have hY:fk bt (T.dc cO T.G) c:=h.of (W:=fun _=>False) (h.t.grow (W:=fun _=>False) fe (fun _ h=>h.elim) (fun q J=>(oZ q J).imp id fun e=> .inr ⟨by omega,by omega⟩) (fun q J=> .inr (.inl J)) fun q J bg=>by
   rcases oZ q J with U|U
   · exact (h.t.hE q U).2.2 bg
   · have:=h.t.lt (q:=q) (.inr (.inr (.inr (.inr bg))));omega) fe (fun _ _ h=>h) rfl fun _ h=>h
 have qJ:cp T (T.dc cO T.G) w bt 0:=(cp.refl T w).step (W:=fun _=>False) fe (fun _ h=>h.elim) (fun q J=>(oZ q J).imp id fun e=> .inr (by omega)) fun q J=> .inl J
 have conv:∀ (v:Value) (w':World),zX (T.dc cO T.G) c eW hJ ag v w'→zX T c eW hJ w v w':=fun v w' hu=>hu.local bH (fun q J=>(oZ q J).imp id fun e=>by omega) mo
 obtain ⟨cx,hF⟩:∃cx,cx=T.dc cO T.G:=⟨_,rfl⟩
 have DS:=hw.to qJ
 have F1:b4 (fun q=>¬(T.dc cO T.G).M q) bt n K V D:=(qJ.dU (lo:=0) (aD.bx fun q _ aa=>⟨fy _,aa⟩)).bx fun q _ aa=>aa.2
 have aW:cx.P=T.P:=by rw[hF];rfl
 have bq:cx.f=T.f:=by rw[hF];rfl
 have ec:cx.E ot:=by rw[hF];exact Y_
 have jW:fw cx=fw T:=by rw[hF];rfl
 have kT:cx.C=T.C:=by rw[hF];rfl
 have uB:cx.bu=T.bu:=by rw[hF];rfl
 rw[←hF] at hY DS F1 conv
 clear hF qJ kv mo oZ Y_
 have asw:ot=ag.heap.size:=GI
 have EB:ws.len=wl.length:=by
   have:=hw.own.1
   rw[oR _ (BQ wl)] at this;omega
 refine ⟨fun n10 w'=>∃ (i:Nat) (av:aY) (c':fT) (m l:List Nat) (n:aL) (K V D:ad) (lo hi:Option Key) (gO:List Nat) (A B:List bo) (q:List Nat) (M:List bo) (r:List Nat),n10=(i:Nat)∧alR cx c ag wl k eW hJ ws ot i w' av c' m l n K V D lo hi gO A B q M r,fun n10 _=>(n10+1).toNat,
   ⟨wl.length-1,cx,c,[],[],n,K,V,D,lo,hi,gO,A,B,[],M,[],?_,?_⟩,?_⟩
 · rw[ct (by omega) (by omega)];omega
 · have e:wl.length-(wl.length-1)=1:=by omega
   refine ⟨by omega,hY,(fl.ext cx c (Ext.eX jG pP (cU _))).mono (by omega),fy _,fy _,GM,F1,DS,by rw[e,aW];exact Y8,by rw[e,aW];exact pn,heq,by simpa using r3,List.Perm.refl _,dr,fun U=>JD (by omega),fun x af=>by rw[bq];exact tf x (by simpa using af)⟩
 clear Y8 pn heq r3 dr JD tf aD F1 GM hw DS fH cy aS bA aZ vr
 rintro _ bZ ⟨i,av,c',m,l,n,K,V,D,lo,hi,gO,A,B,q,M,r,rfl,I⟩
 have Nl:=I.My
 have Nm:=I.to.c4
 refine ⟨fun _=>bW ?_,fun aa=> ?_⟩
 rotate_left
 · have:¬((i:Nat):Int)≥0:=eB aa
   omega
 have bS:Ext bZ bZ.drew:=eR _
 obtain ⟨cL,JE⟩:∃cL,cL=bZ.drew:=⟨_,rfl⟩
 rw[←JE] at bS⊢
 have mu:=I.Sv.ext bS
 have A9:=mu.cells.2.2
 rw[Nm] at A9
 have Za:sX (fun q=>¬av.M q) cL ws wl:=I.lF.to (cp.ext av bS)
 obtain ⟨JF,Sx,asx,alV,dx,_⟩:=Za.at Nl
 have XU:c'.left.length≤200:=by rw[I.to.left,dA];have:=I.Y6;omega
 have alW:c'.made.length≤200:=by rw[I.to.made,dA];have:=I.Nk;omega
 obtain ⟨au,cE,aC,aF,aH,aN,cV⟩:=X1 mu (wl[i]).no (by omega)
 rw[Nm] at aH aN cV
 have oL:∀n,(JF.add n).block=JF.block:=fun n=>by unfold Addr.add;split<;>rfl
 have alX:∀q,aP c'.k7 q→av.M q:=fun q J=> .inr (.inr (.inr (.inr (mu.uu q J).1)))
 refine ⟨aP c'.k7,_,rfl,fun J=>(mu.uu _ J).2 (by rw[Nm,bn]),c'.k7,A9,JF,Sx,⟨by omega,by omega⟩,fun J=>alV (alX _ ((oL _)▸J)),_,by rw[g6];exact dx,bW ⟨aq.e0 (im _ _),au,cE,aC,aF,_,rfl,by rw[bn];exact aH,by rw[bn];exact aN,bW ?_⟩⟩
 rw[bn,gd]
 obtain ⟨dL,Zb⟩:∃dL,dL=cE.setCell ⟨c.c4,2,none⟩ (.slice au.a au.len au.cap):=⟨_,rfl⟩
 rw[←Zb]
 obtain ⟨xW,wu⟩:=cV dL Zb
 have Sy:=fl.leave (c:=c') (c':=⟨c.c4,c'.mF,au,c'.made,c'.left++ [(wl[i]).no]⟩) (no:=(wl[i]).no) wu rfl (fun q J=> .inl J) Nm.symm rfl rfl
 have uC:=(I.to.trans (fl.ext av c' bS)).trans Sy
 simp only[lM,C5] at uC
 have Zc:av.E ot:=by rw[I.to.E];exact ec
 have Sz:=(I.ot.ext bS).an wu.an (mu.t.uf Zc)
 have SA:=Za.to wu
 have JG:b4 (fun q=>¬(av.dc av.E fun q=>av.G q∨aP au q).M q) dL n K V D:=(wu.dU (lo:=0) ((I.dU.ext bS).bx fun q _ aa=>⟨fy _,aa⟩)).bx fun q _ aa=>aa.2
 obtain ⟨dz,xQ⟩:∃dz,dz=av.dc av.E fun q=>av.G q∨aP au q:=⟨_,rfl⟩
 have cg:dz.P=av.P:=by rw[xQ];rfl
 have cc:dz.f=av.f:=by rw[xQ];rfl
 have gv:fw dz=fw av:=by rw[xQ];rfl
 have rY:dz.E ot:=by rw[xQ];exact Zc
 have z1:dz.bu=T.bu:=by rw[xQ];show av.bu=_;rw[I.to.bu,uB]
 rw[←xQ] at xW wu Sy uC SA JG
 obtain ⟨bA,dB⟩:∃bA:fT,bA=⟨c.c4,c'.mF,au,c'.made,c'.left++ [(wl[i]).no]⟩:=⟨_,rfl⟩
 rw[←dB] at xW Sy uC
 have s4:bA.c4=c.c4:=by rw[dB]
 have iX:bA.made.length≤200:=by rw[dB];exact alW
 have BX:bA.left.length≤201:=by rw[dB,dA,qP];omega
 obtain ⟨bF,c_,cZ,b3⟩:=b9 Sz
 have BY:=bO.len JG.keys
 have Zd:∀ (w':World) (v:Value),Ext dL w'→(∀ {ey aZ JH},ey=dz→aZ=bA→JH=l++ [(wl[i]).no]→((v= .tuple #[.int .i64 0, .int .i64 0, .int .i64 0]∧hJ=[]∧JH.Perm (m++eW))∨
    (∃ (root h:Nat) (pages:List Nat),v= .tuple #[.int .i64 (root:Nat), .int .i64 (h:Nat), .int .i64 0]∧gJ (aY.P ey) h none none root pages hJ∧(pages++JH).Perm (m++eW)∧1≤h∧h≤cx.bu+1)∨
    (∃a b:Int,v= .tuple #[.int .i64 a, .int .i64 b, .int .i64 3]∧¬cx.C.D.calm 60)))→zX T c eW hJ w v w':=by
   intro w' v af hd
   refine conv v w' ⟨dz,bA,m,l++ [(wl[i]).no],?_,?_,hd (aZ:=bA) rfl rfl rfl⟩
   · exact xW.ext af
   · have:=(uC.trans (fl.ext dz _ af)).mono (j:=60) (by omega)
     simp only[lM] at this
     exact this
 refine eI (fun b w'=>(b=true↔(i=0∧n.keys=[]))∧dL=w') (fun Z tK=>⟨fun b5=>⟨K,c_,tK _ _ ⟨?_,rfl⟩⟩,fun b5=>tK _ _ ⟨?_,rfl⟩⟩) ?_
 · have b5:i=0:=by
     have:((i:Nat):Int)=0:=by simpa using b5
     omega
   rw[yq]
   constructor
   · intro U
     exact ⟨b5,List.eq_nil_of_length_eq_zero (by omega)⟩
   · rintro ⟨_,U⟩
     rw[U] at BY
     simp at BY;omega
 · have b5:i≠0:=by
     have:¬((i:Nat):Int)=0:=by simpa using b5
     omega
   exact ⟨fun h=>(by cases h),fun h=>absurd h.1 b5⟩
 rintro uD _ ⟨Ze,rfl⟩
 refine ⟨fun aa=> ?_,fun aa=> ?_⟩
 · obtain ⟨b5,kn⟩:=Ze.1 aa
   subst b5
   have oo:Ext dL dL.drew:=eR _
   obtain ⟨oK,uA,q7,p5⟩:=b9 (Sz.ext oo)
   have Zf:=(xW.ext oo).cells.1
   rw[s4] at Zf
   have alY:=(xW.ext oo).t.cells.2.2.2.2
   obtain ⟨t1,t2,t3,t4,t5,t6⟩:=Ctx.Y5 (by simpa using I.ctx)
   have pn:=I.uY
   have r3:=I.pp
   have heq:=I.eq
   have uE:=zY (no:=(wl[0]).no) I.acc
   subst t2 t3 t4 t5 t6
   rw[uW,lM] at heq
   rw[lM] at r3
   subst heq
   have SB:n.leaf=false→∃x,n.kids=[x]∧1≤dz.bu∧gJ av.P (dz.bu-1) none none x q M∧1≤dz.bu-1:=by
     intro aA
     have e:wl.length-0=dz.bu:=by rw[z1];omega
     rw[e] at pn
     cases ba:dz.bu with
     |zero=>omega
     |succ t=>
       rw[ba] at pn
       cases t with
       |zero=>
         have:=pn.1.leaf
         rw[aA] at this;cases this
       |succ t=>
         obtain ⟨v1,v2,v3,v4,v5⟩:=pn
         rw[kn] at v5
         generalize qh:n.kids=Cg at v5
         cases v5 with
         |one h=>exact ⟨_,rfl,by omega,h.1,by omega⟩
   refine bW ⟨fun _=>False,id,_,oK,K,uA,V,q7,D,p5,_,rfl,id,_,Zf,_,rfl,id,_,alY,(xT (JG.ext oo) dz.bu (by omega) fun aA=>by obtain ⟨x,a8,cQ,_⟩:=SB aA;exact ⟨x,a8,cQ⟩).use ?_⟩
   rintro v w' ⟨rfl,cB⟩
   have oJ:=oo.trans cB
   cases aA:n.leaf with
   |true=>
     rw[if_pos rfl]
     have j7:=pn.leaf
     rw[aA] at j7
     have Nn:wl.length-0=1:=di j7.symm
     rw[Nn] at pn
     obtain ⟨v1,v2,v3,v4⟩:=pn
     subst v3
     refine ⟨_,_,_,rfl,cB,Zd w' _ oJ fun {ey aZ JH} a8 cQ a3=> .inl ⟨rfl,?_,?_⟩⟩
     · rw[v4];unfold aL.fZ;rw[kn];rfl
     · subst a3
       rw[Cf] at uE r3⊢
       intro x
       have:=uE x
       have:=r3 x
       simp only[Db,Fo,Fp] at*
       omega
   |false=>
     rw[if_neg (by simp)]
     obtain ⟨x,a8,cQ,a3,a4⟩:=SB aA
     refine ⟨_,_,_,rfl,cB,Zd w' _ oJ fun {ey aZ JH} c5 cA ek=> .inr (.inl ⟨_,_,q,rfl,?_,?_,a4,?_⟩)⟩
     · subst c5
       have rA:n.kids.getD 0 0=x:=by rw[a8];rfl
       rw[rA,cg];exact a3
     · subst ek
       rw[Cf] at uE r3⊢
       intro x
       have:=uE x
       have:=r3 x
       simp only[Db,Fo,Fp] at*
       omega
     · omega
 · have JD:n.keys≠ []:=fun e=>by
     rcases Fq i with b5|b5
     · have:=Ze.2 ⟨b5,e⟩
       rw[aa] at this;cases this
     · exact I.alS b5 e
   have alZ:dz.C.D.cS≤900000050:=by
     have:=uC.to.cS
     rw[kT] at this
     omega
   have Zg:2≤fw dz:=by
     have:=uC.room
     have:=I.Nk
     omega
   have Zh:∀j,j≤10→¬dz.C.D.calm j→¬cx.C.D.calm 60:=fun j aU aD al=>aD (uC.to.calm j (mD al (by omega)))
   have jg:xK n:=I.uY.Sn (fun _=>by have:=I.sz;omega) (fun _=>by have:=I.sz;omega) fun _=>JD
   refine eI (fun p w'=>p=(if i=0 then none else some (JF.add ((i-1)*6)))∧dL=w') (fun Z tK=>⟨fun b5=>⟨JF,Sx,?_,tK _ _ ⟨?_,rfl⟩⟩,fun b5=>tK _ _ ⟨?_,rfl⟩⟩) ?_
   · have b5:((i:Nat):Int)>0:=di b5
     rw[ct (by omega) (by omega)]
     omega
   · have b5:((i:Nat):Int)>0:=di b5
     have e:((i:Nat):Int)-1=((i-1:Nat):Int):=by omega
     rw[ct (by omega) (by omega),if_neg (by omega),e,g6]
   · have b5:¬((i:Nat):Int)>0:=eB b5
     rw[if_pos (by omega)]
   rintro _ _ ⟨rfl,rfl⟩
   refine ⟨_,bF,K,c_,V,cZ,D,b3,?_⟩
   by_cases b5:i=0
   · subst b5
     rw[if_pos rfl]
     have JI:=ali xW JG jg (by omega) Zg (by omega)
     rw[s4] at JI
     refine JI.use ?_
     rintro _ nr ⟨ic,e,rfl,aI⟩
     obtain ⟨ey,aZ,ms,jo,kP,uz,eu⟩:=aI.cs
     have No:=uC.trans kP
     simp only[lM] at No
     have al0:aZ.c4=c.c4:=by rw[kP.c4,s4]
     rcases eu with ⟨rfl,ks,xX,z2⟩|⟨rfl,e8⟩
     · refine ⟨ic,_,_,0,rfl,fun h=>(by cases h),fun _=>⟨fun _=> ?_,fun h=>(by simp at h)⟩⟩
       obtain ⟨t1,t2,t3,t4,t5,t6⟩:=Ctx.Y5 (by simpa using I.ctx)
       have pn:=I.uY
       have r3:=I.pp
       have heq:=I.eq
       have dr:=I.sz
       have uE:=zY (no:=(wl[0]).no) I.acc
       have tf:=I.Y7
       subst t2 t3 t4 t5 t6
       rw[uW,lM] at heq
       rw[lM] at r3 tf
       subst heq
       have al1:dz.n≤1600:=xW.t.s.cZ
       have SC:∀z∈q,av.P z=ey.P z:=fun z bD=>by
         rw[←cg]
         exact ((kP.iw z (by rw[cc,tf z bD];rfl)).1).symm
       have Zi:wl.length-0=(wl.length-1)+1:=by omega
       have Zj:ey.bu=wl.length:=by rw[kP.bu,z1];omega
       rw[Zi] at pn
       have Zk:∀te x y,ks=[te]→ms=[x,y]→eV te∧x<1600∧y<1600:=fun te x y aC aF=>by
         subst aC aF
         have xV:232<cd n:=by
           rcases xX with ⟨_,z,e,_⟩|⟨h,_⟩
           · cases e
           · exact h
         obtain ⟨eg,_,_,aH,_⟩:=pn.fits (pn.Pl (by omega)) (fun _=>by omega) (fun _=>by omega) xX SC
         have af:=(kP.rV x (by simp)).2
         have b1:=(kP.rV y (by simp)).2
         exact ⟨aH te (by simp),by omega,by omega⟩
       have Zl:=alF jo z2 (fun _=>by omega) Zk (by have:=kP.to.cS;omega) (by have:=kP.room;have:=uC.room;have:=I.Nk;omega) (by rw[kP.made,dA];omega)
       rw[al0] at Zl
       refine Zl.use ?_
       rintro v xl bh
       rcases bh with ⟨x,aC,aF,rfl,aN,cV⟩|⟨te,x,y,no,s7,fK,aC,aF,aN,cV,sR⟩
       · subst aC aF
         refine ⟨_,_,_,rfl,conv _ _ ⟨ey,aZ,m++ [x],l++ [(wl[0]).no],aN,?_, .inr (.inl ⟨x,ey.bu,x::q,rfl,?_,?_,by omega,by omega⟩)⟩⟩
         · have:=(No.trans (fl.ext ey aZ cV)).mono (j:=60) (by omega)
           simp only[lM] at this
           exact this
         · rcases xX with ⟨_,z,_,e,bD⟩|⟨_,SD,al2,_,e,_⟩
           · cases e
             rw[Zj,show wl.length=wl.length-1+1 by omega]
             exact pn.lay JD bD SC
           · cases e
         · rw[Cf] at uE r3⊢
           intro z
           have:=uE z
           have:=r3 z
           simp only[Db,Fo,Fp] at*
           omega
       · subst aC aF
         obtain ⟨a8,cQ,a3⟩:=Zk te x y rfl rfl
         have Ch:=No.trans cV
         simp only[lM] at Ch
         have Zm:=Ch.mono (j:=60) (by omega)
         rcases sR with ⟨rfl,I8⟩|⟨rfl,I8⟩
         · have u7:∀z∈x::y::q,ey.P z=s7.P z:=fun z bD=>by
             refine ((cV.iw z ?_).1).symm
             rw[kP.f]
             simp only[fP] at bD
             rcases bD with bD|bD|bD
             · simp[bD]
             · simp[bD]
             · rw[cc,tf z bD];simp
           obtain ⟨_,pages,c5,cA⟩:=alT pn dr xX SC I8 u7 cQ a3
           refine ⟨_,_,_,rfl,conv _ _ ⟨s7,fK,m++ [x,y]++ [no],l++ [(wl[0]).no],aN,Zm, .inr (.inl ⟨no,ey.bu+1,pages,rfl,?_,?_,by omega,by omega⟩)⟩⟩
           · rw[Zj,show wl.length+1=wl.length-1+2 by omega];exact c5
           · rw[Cf] at uE r3 cA⊢
             intro z
             have:=uE z
             have:=r3 z
             have:=cA z
             simp only[Db,Fo,Fp] at*
             omega
         · refine ⟨_,_,_,rfl,conv _ _ ⟨s7,fK,m++ [x,y]++ [no],l++ [(wl[0]).no],aN,Zm, .inr (.inr ⟨_,_,rfl,fun al=>I8 (kP.to.calm 1 (uC.to.calm 3 (mD al (by omega))))⟩)⟩⟩
     · refine ⟨ic,_,_,3,rfl,fun _=>conv _ _ ⟨ey,aZ,m++ms,l++ [(wl[0]).no],jo,No.mono (by omega), .inr (.inr ⟨0,0,rfl,Zh 2 (by omega) e8⟩)⟩,fun h=>(by cases h)⟩
   · rw[if_neg b5]
     have gL:i-1<wl.length:=by omega
     obtain ⟨asy,Zn,_,_,_,hu⟩:=SA.at gL
     rw[Sx] at Zn
     obtain rfl:=Option.some.inj Zn
     obtain ⟨u,SE⟩:∃u,u=wl[i-1]:=⟨_,rfl⟩
     rw[←SE] at hu
     have gN:(wl.take i).map fL.st=(wl.take (i-1)).map fL.st++ [u.st]:=by
       have:wl.take i=wl.take (i-1)++ [wl[i-1]]:=by
         have e:i-1+1=i:=by omega
         rw[←ss gL,e]
       rw[this,m9,SE];rfl
     obtain ⟨Cb,Cc,zW,w7,Cd,ps,ej,eO,pe,nm,qs,EC,xt,xY,z6⟩:=Ctx.up I.ctx gN I.uY I.Sv.t.Ce I.sz
     have Nn:wl.length-i+1=wl.length-(i-1):=by omega
     rw[Nn] at ej xY z6
     have al3:=(I.Sv.t.lE _ _ pe).2.is
     have asz:=al3.2.1.ni (by omega)
     have tf:=I.Y7
     have JI:=alj xW JG hu jg.1 (by have:=I.sz;omega) (fun _=>jg) (fun JJ=>by
       obtain ⟨o,no,rest,c5,cA,ek,e9,hL,k6,_⟩:=z6 JJ
       exact ⟨o,no,c5,by rw[cg];exact cA,ek,e9,hL,k6⟩) (by omega) (by omega) Zg (by omega) (by omega)
     rw[s4] at JI
     refine JI.use ?_
     rintro v nr dq
     have H7:0<u.n.keys.length:=List.length_pos_iff.2 EC
     have al1:dz.n≤1600:=xW.t.s.cZ
     have JK:∀ {ey:aY} {aZ:fT} {ms ls:List Nat} {w':World} {al4:Nat},fl dz ey bA aZ ms ls dL w' al4→∀x,av.f x=true→av.P x=ey.P x:=fun fU x af=>by
       rw[←cg]
       exact ((fU.iw x (by rw[cc,af];rfl)).1).symm
     have eT:(∃ (ey:aY) (aZ:fT) (ms ls:List Nat) (s:ad) (a b:Int),v= .tuple #[.slice s.a s.len s.cap, .int .i64 a, .int .i64 b, .int .i64 3]∧fk nr ey aZ∧fl dz ey bA aZ ms ls dL nr 4∧¬dz.C.D.calm 4)∨
         (∃ (ey:aY) (aZ:fT) (ms ls rest:List Nat) (s:ad) (z7 xZ:Nat) (ks:List Key) (iX:List Nat) (M2:List bo),v= .tuple #[.slice s.a s.len s.cap, .int .i64 (z7:Nat), .int .i64 (xZ:Nat), .int .i64 0]∧fk nr ey aZ∧fl dz ey bA aZ ms ls dL nr 4∧ms.length≤2∧ls.length≤1∧v8 (fun q=>¬ey.M q) nr s ks ms∧
           fb ey.P (wl.length-(i-1)) (lq u.n z7 xZ ks ms) Cb Cc iX M2∧w7++(M2++Cd)=A++(M++B)∧iX.Perm (ms++(rest++q))∧ps.Perm (ls++rest)∧cd (lq u.n z7 xZ ks ms)≤cd u.n+27∧u.n.keys.length≤(lq u.n z7 xZ ks ms).keys.length+1∧
           z7≤u.n.keys.length∧1≤xZ∧xZ≤u.n.kids.length):=by
       rcases dq with ⟨xV,s,e,rfl,aI⟩|⟨JJ,ey,aZ,rfl,aC,aF,aH⟩|⟨JJ,o,no,asA,asB,asC,s,e,ko,z8,Zo,rfl,aI⟩
       · obtain ⟨ey,aZ,ms,jo,kP,uz,eu⟩:=aI.cs
         rcases eu with ⟨rfl,ks,xX,z2⟩|⟨rfl,e8⟩
         · obtain ⟨iX,M2,c5,cA,ek,e9,hL⟩:=xY xV ey.P ks ms xX (fun x af=>JK kP x (tf x (by
             rw[eO]
             simp only[eH,fP] at af⊢
             rcases af with af|af
             · exact .inr (.inr (.inl af))
             · exact .inl af))) (fun x af=>by have:=(kP.rV x af).2;omega)
           exact .inr ⟨ey,aZ,ms,[],ps,s,u.ew,u.ew+1,ks,iX,M2,rfl,jo,kP.mono (by omega),uz,fy _,z2,c5,cA,ek,List.Perm.refl _,e9,hL,by omega,by omega,by omega⟩
         · exact .inl ⟨ey,aZ,ms,[],s,_,_,rfl,jo,kP.mono (by omega),fun al=>e8 (mD al (by omega))⟩
       · exact .inl ⟨ey,aZ,[],[],bP,0,0,rfl,aC,aF.mono (by omega),fun al=>aH (mD al (by omega))⟩
       · obtain ⟨kc,Zp,rest,c5,cA,ek,e9,hL,k6,kL,nW⟩:=z6 JJ
         rw[c5] at ko
         obtain rfl:=Option.some.inj ko
         rw[cg,cA] at z8
         obtain rfl:=Option.some.inj z8
         obtain ⟨ey,aZ,ms,jo,kP,uz,eu⟩:=aI.cs
         have Ch:=Zo.trans kP
         simp only[uW,lM] at Ch
         rcases eu with ⟨rfl,ks,xX,z2⟩|⟨rfl,e8⟩
         · obtain ⟨iX,M2,d1,d2,d3,d4,d5⟩:=nW ey.P ks ms xX (fun x af=>JK Ch x (tf x (by
             rw[eO]
             simp only[eH,fP] at af⊢
             rcases af with af|af
             · exact .inr (.inr (.inl (kL.mem_iff.2 (rn _ af))))
             · exact .inl af))) (fun x af=>by have:=(Ch.rV x af).2;omega)
           refine .inr ⟨ey,aZ,ms,[Zp],rest,s,u.ew-1,u.ew-1+2,ks,iX,M2,rfl,jo,Ch,uz,cU _,z2,d1,d2,d3,kL,d4,d5,by omega,by omega,?_⟩
           rcases Fq u.ew with aV|aV<;>omega
         · exact .inl ⟨ey,aZ,ms,[Zp],s,_,_,rfl,jo,Ch,fun al=>e8 (Zo.to.calm 2 al)⟩
     clear dq
     rcases eT with ⟨ey,aZ,ms,ls,ic,a,b,rfl,jo,kP,e8⟩|⟨ey,aZ,ms,ls,rest,ic,z7,xZ,ks,iX,M2,rfl,jo,kP,uz,asD,z2,v1,v2,v3,v4,v5,v6,al5,P0,v9⟩
     · exact ⟨ic,_,_,3,rfl,fun _=>conv _ _ ⟨ey,aZ,_,_,jo,(uC.trans kP).mono (by omega), .inr (.inr ⟨0,0,rfl,Zh 4 (by omega) e8⟩)⟩,fun h=>(by cases h)⟩
     · refine ⟨ic,_,_,0,rfl,fun h=>(by cases h),fun _=>⟨fun h=> ?_,fun _=> ?_⟩⟩
       · have:((i:Nat):Int)=0:=by simpa using h
         omega
       have JL:=hu.to kP.to
       refine ⟨_,rfl,_,JL.aS,u.K,JL.bA,u.V,JL.aZ,u.D,JL.fK,(xJ JL.dU z2 (fr:=z7) (to:=xZ) al5 (by omega) P0 v9 (by omega) (by omega) (by omega)).use ?_⟩
       rintro _ SF ⟨cP,cW,c6,rfl,al6,JM⟩
       have Zq:=Sz.an kP.to.an (xW.t.uf rY)
       have Zr:=Zq.ext JM
       refine ⟨_,cP,cW,c6,rfl,Zr.de rfl ky,rfl,dW Zr (us:=gj (lq u.n z7 xZ ks ms) cP cW c6) rfl rfl fun Ci al7 JN asE=>⟨⟨i-1,ey,aZ,m++ms,l++ [(wl[i]).no]++ls,lq u.n z7 xZ ks ms,cP,cW,c6,Cb,Cc,zW,w7,Cd,iX,M2,ps++((wl[i]).no::r),?_,?_⟩,?_⟩⟩
       · rw[ct (by omega) (by omega)];omega
       · have Zs:ey.E ot:=by rw[kP.E];exact rY
         have SG:ey.M ot:= .inr (.inr (.inr (.inl Zs)))
         have SH:=(uC.trans kP).trans (fl.ext ey aZ JM)
         simp only[lM] at SH
         have al8:cp cx ey ag Ci (4*(wl.length-1-i)+4+0):=SH.to.step (E:=ey.E) (G:=ey.G) JN (fun q e aA=>by omega) (fun q J=> .inl J) fun q J=> .inl J
         have GK:∀x,av.f x=true→ey.f x=true:=fun x af=>by rw[kP.f,cc,af];rfl
         have Np:=SA.to kP.to
         refine ⟨gL,(jo.ext JM).Y4 JN fun q e=> .inl (by rw[e];exact Zs),{SH.mono (j:=4*(wl.length-1-(i-1))) (by omega) with to:=al8.mono (by omega)},?_,?_,al7,?_,?_,ej.agree fun x af=>JK kP x (tf x (by rw[eO];simp[af])),v1,by rw[v2];exact I.eq,?_,qI (zY I.acc) v3 v4,by omega,fun U e=> ?_,fun x af=> ?_⟩
         · rw[dA];have:=I.Nk;omega
         · rw[dA,dA,qP];have:=I.Y6;omega
         · refine (b4.an al6 JN fun q J e=> ?_).bx fun q _ J hm=> ?_
           · subst e
             rcases J with J|J
             · exact J SG
             · have:=Zq.lt;omega
           · rcases J with J|J
             · exact J hm
             · have:=jo.t.lt hm;omega
         · refine ⟨(Np.own.ext JM).an JN fun q J e=>Np.D9 q J (by rw[e];exact SG),Np.D9,fun x af=>b4.an ((Np.dU x af).ext JM) JN fun q J e=>J (by rw[e];exact SG)⟩
         · have this:eW.Perm ((wl[i]'Nl).no::(r++gO)):=I.pp
           rw[eO] at this
           rw[←SE]
           exact zZ this
         · have ab:=xt (fun bq=>by
             have:=congrArg List.length bq
             rw[kR,eA,tF] at this
             omega)
           rw[e,tF] at v6
           omega
         · rcases eH.1 af with af|af
           · have:=v3.mem_iff.1 af
             rcases eH.1 this with af|af
             · rw[kP.f];simp[af]
             · rcases eH.1 af with af|af
               · refine GK x (tf x ?_)
                 rw[eO]
                 have:x∈ps:=v4.mem_iff.2 (o5 _ af)
                 simp[this]
               · exact GK x (tf x (by simp[af]))
           · exact GK x (tf x (by rw[eO];simp[af]))
       · rw[ct (by omega) (by omega)]
         show (((i:Nat):Int)-1+1).toNat<(((i:Nat):Int)+1).toNat
         omega
end
section
theorem al9 {w:World} {T:aY} {c:fT} {hJ:List bo} {n:aL} {K V D ws:ad} (al_:ws.len=0) (h:fk w T c) (aD:b4 (fun q=>¬T.M q) w n K V D) (fS:T.C.D.cS≤900000000) (jt:2≤fw T) (yQ:c.made.length≤100) (hle:c.left=[])
   (GN:m_ n) (ae:n.keys≠ []) (dr:cd n≤232) (heq:n.fZ=hJ):
   aR Tryz.prog F.wq #[.pointer (some ⟨c.c4,0,none⟩), .slice ws.a ws.len ws.cap,eC n K V D] w (zX T c [] hJ w):=by
 refine W.Y9 (some ⟨c.c4,0,none⟩) ws n.leaf K V D w _ ?_
 (delta W.wq bJ ah ar c8 ay aE aX bL st GL EA iE fK;dsimp only)
 refine cq (vs:=gj n K V D) rfl fun ag fH bH km=> ?_
 obtain ⟨cy,aS,bA,aZ⟩:=b9 fH
 refine ⟨_,cy,K,aS,V,bA,D,aZ,cq (vs:=[.bool false, .slice none 0 0, .slice none 0 0, .slice none 0 0]) rfl fun bd vr jG Mj=>⟨vr.de rfl ky,rfl,dW vr (us:=gj n K V D) rfl rfl fun bt GM pP Mm=> ?_⟩⟩
 have fe:Ext w bt:=bH.trans (Ext.eX jG pP (cU _))
 refine ⟨fun n10 w'=>n10= -1∧bt=w',fun _ _=>0,⟨by rw[al_];decide,rfl⟩,?_⟩
 rintro _ _ ⟨rfl,rfl⟩
 refine ⟨fun h=>by simp at h,fun _=> ?_⟩
 obtain ⟨d0,d1,d2,d3⟩:=b9 GM
 refine ⟨_,d0,K,d1,V,d2,D,d3,(Yd (h.ext fe) (by omega) (by omega) (by omega) (aD.ext fe) (.inl GN) dr).use ?_⟩
 intro v w' ak
 obtain ⟨s,e,rfl⟩:=ak.out
 obtain ⟨av,c',m,og,fU,hm,eu⟩:=(ak.base fe).cs
 rcases eu with ⟨rfl,ks,xX,z2⟩|⟨rfl,e8⟩
 · refine ⟨s,0,rfl,fun h=>(by cases h),fun _=> ?_⟩
   rcases xX with ⟨_,x,rfl,rfl,af⟩|⟨asF,_⟩
   · rcases z2 with ⟨b,SD,rfl,_,e,ak,_⟩|⟨b,SD,al2,lW,DF,rfl,e,_⟩
     · obtain rfl:x=SD:=by simpa using e
       refine ⟨_,rfl,⟨by decide,by show (0:Int)<((1:Nat):Int);decide⟩,_,by rw[bn,bn];exact ak.cell,av,c',[x],[],og,fU.mono (by omega), .inr (.inl ⟨x,1,[x],rfl,⟨n,af,GN,fun k ae=>⟨fun _ e=>(by cases e),fun _ e=>(by cases e)⟩,ae,rfl,heq.symm⟩,List.Perm.refl _,cU _,by omega⟩)⟩
     · cases e
   · omega
 · exact ⟨s,3,rfl,fun _=>⟨av,c',m,[],og,fU.mono (by omega), .inr (.inr ⟨0,0,rfl,fun al=>e8 (mD al (by omega))⟩)⟩,fun h=>(by cases h)⟩
end
section
def aY.GO (T:aY) (r h:Nat):aY:={T with root:=r,bu:=h}
theorem da.ama {w w':World} {T:aY} {r h:Nat} (ba:da w T) (ak:Var w' T.cl (D3 (T.GO r h)) ai.Gh) (al:aq (fun q=>q=T.cl) w w') (aQ:r<T.n) (cK:h≤12):da w' (T.GO r h)∧cp T (T.GO r h) w w' 0:=
 ⟨⟨ak,ba.s.an al fun q J e=>ba.D4 (e▸J),ba.qy.an al fun q e=> .inl e,ba.D4,ba.hE,ba.uq,ba.n,⟨aQ,cK,ba.num.2.2⟩,ba.lE⟩,
   ⟨rfl,rfl,rfl,rfl,rfl,rfl,rfl,rfl,rfl,rfl,cU _,fun _ h=>h,al.mono fun q _ e=> .inr (.inl e),fun q h=> .inl h,fun q h=> .inl h⟩⟩
def nt (T:aY) (pages:List Nat) (L:List bo):Prop:=(T.bu=0∧T.root=0∧pages=[]∧L=[])∨gJ T.P T.bu none none T.root pages L
def Nq (T:aY) (eW:List Nat) (hJ:List bo) (w:World) (v:Value) (w':World):Prop:=
 ∃av:aY,da w' av∧cp T av w w' 60∧av.E=T.E∧av.G=T.G∧
   ((v= .int .i64 2∧fw T<2*T.bu+3∧av=T)∨
    (v= .int .i64 0∧2*T.bu+3≤fw T∧(∃pages,nt av pages hJ∧pages.Nodup∧(∀no∈pages,no∈eW∨(T.f no||T.g no)=false)∧∀no,av.f no=true↔(no∈pages∨(T.f no=true∧no∉eW)))∧∀no,T.g no=true→av.P no=T.P no∧av.C.view no=T.C.view no)∨
    (v= .int .i64 3∧¬T.C.D.calm 60∧av.root=T.root∧av.bu=T.bu∧av.f=T.f∧∀no,(T.f no||T.g no)=true→av.P no=T.P no∧av.C.view no=T.C.view no))
theorem Zt {l:List Nat} (h:∀x,l.count x≤1):l.Nodup:=List.nodup_iff_count.2 h
theorem amb {w:World} {T:aY} {s:ad} {eW:List Nat} {hJ:List bo} {n:aL} {K V D:ad} (h:da w T) (fS:T.C.D.cS≤900000000) (cK:T.bu<12) (QH:eW.Nodup) (um:∀x∈eW,T.f x=true) (asG:eW.length≤5000)
   (amc:∀ (cO h_:Nat→Prop) (ag:World) (aS:fT),fk ag (T.dc cO h_) aS→cp T (T.dc cO h_) w ag 0→2*T.bu+3≤fw T→aS.made=[]→aS.left=[]→aR Tryz.prog F.wq #[.pointer (some ⟨aS.c4,0,none⟩), .slice s.a s.len s.cap,eC n K V D] ag (zX (T.dc cO h_) aS eW hJ ag)):
   aR Tryz.prog F.wv #[.pointer (some ⟨T.cl,0,none⟩), .slice s.a s.len s.cap,eC n K V D] w (Nq T eW hJ w):=by
 have nI:=h.s.cZ
 refine W.amd (some ⟨T.cl,0,none⟩) s n.leaf K V D w _ ?_
 (delta W.wv bL aS aE ay st ah bJ ar GL bA;dsimp only)
 refine cq (vs:=gj n K V D) rfl fun ag fH bH km=>cq (vs:=[.int .i64 0]) rfl fun aw Zu cB me=>bW ?_
 have bS:Ext aw aw.drew:=eR _
 obtain ⟨bc,nF⟩:∃bc,bc=aw.drew:=⟨_,rfl⟩
 rw[←nF] at bS⊢
 have g9:=(bH.trans cB).trans bS
 have ao:=h.ext g9
 obtain ⟨bw,SI⟩:∃bw,bw=ag.heap.size:=⟨_,rfl⟩
 rw[←SI] at Zu⊢
 refine ⟨fun _=>False,_,rfl,id,_,ao.cells.2.1,_,rfl,id,_,ao.cells.2.2.2.2,(XJ ao.s).use ?_⟩
 rintro _ bY ⟨rfl,mq⟩
 have H_:=g9.trans mq
 have JO:=(Zu.ext bS).ext mq
 have SJ:((T.n:Int)-kM (fun i=>T.f i||T.g i) T.n)=(fw T:Nat):=by
   have:=I_ (fun i=>T.f i||T.g i) T.n
   unfold fw;omega
 have vb:IntKind.wrap .i64 (IntKind.wrap .i64 (2*((T.bu:Nat):Int))+3)=((2*T.bu+3:Nat):Int):=by
   rw[ct (n:=2*((T.bu:Nat):Int)) (by omega) (by omega),ct (by omega) (by omega)];omega
 rw[SJ,vb]
 refine ⟨_,rfl,mq,fun aa=> ?_,fun aa=> ?_⟩
 · have aa:((fw T:Nat):Int)<((2*T.bu+3:Nat):Int):=di aa
   obtain ⟨aC,aF⟩:=jI JO (i:=0) (by simp)
   have eY:=iq bY bw 0 (.int .i64 2)
   have ak:=jH JO (i:=0) (.int .i64 2)
   have A8:=Ext.eX H_ eY (by omega)
   exact ⟨aC,aF,bW ⟨2,ak.cell,T,h.ext A8,(cp.ext T A8).mono (by omega),rfl,rfl, .inl ⟨rfl,by omega,rfl⟩⟩⟩
 have jt:2*T.bu+3≤fw T:=by
   have:¬((fw T:Nat):Int)<((2*T.bu+3:Nat):Int):=eB aa
   omega
 refine cq (vs:=[.pointer (some ⟨T.cl,0,none⟩), .slice none 0 0, .slice none 0 0]) rfl fun dE gk Nr Ri=>cq (vs:=[.pointer none]) rfl fun gR SK BZ akM=> ?_
 obtain ⟨c4,qA⟩:∃c4,c4=bY.heap.size:=⟨_,rfl⟩
 obtain ⟨jM,M4⟩:∃jM,jM=dE.heap.size:=⟨_,rfl⟩
 rw[←qA] at gk⊢
 rw[←M4] at SK⊢
 obtain ⟨aC,aF⟩:=jI SK (i:=0) (by simp)
 have Ns:=iq gR jM 0 (.pointer (some ⟨c4,0,none⟩))
 have SL:=jH SK (i:=0) (.pointer (some ⟨c4,0,none⟩))
 refine ⟨aC,aF,bW ?_⟩
 obtain ⟨cX,ame⟩:∃cX,cX=gR.setCell ⟨jM,0,none⟩ (.pointer (some ⟨c4,0,none⟩)):=⟨_,rfl⟩
 rw[←ame] at Ns SL⊢
 have FR:=H_.size
 have Zv:=Ns.size
 have SM:Ext bY cX:=Ext.eX (Nr.trans BZ) Ns (by omega)
 have Zw:=H_.trans SM
 have Zx:=JO.ext SM
 have nJ:=(gk.ext BZ).an Ns (by omega)
 have Nt:=((fH.ext cB).ext bS).ext (mq.trans SM)
 obtain ⟨cO,kv⟩:∃cO,cO=fun q=>T.E q∨q=bw:=⟨_,rfl⟩
 obtain ⟨h_,zh⟩:∃h_,h_=fun q=>T.G q∨q=c4:=⟨_,rfl⟩
 have oZ:∀q,cO q→T.E q∨q=bw:=fun q J=>by rw[kv] at J;exact J
 have Nu:∀q,h_ q→T.G q∨q=c4:=fun q J=>by rw[zh] at J;exact J
 have mo:∀q,T.E q→cO q:=fun q J=>by rw[kv];exact .inl J
 have amf:∀q,T.G q→h_ q:=fun q J=>by rw[zh];exact .inl J
 have SN:cO bw:=by rw[kv];exact .inr rfl
 have amg:h_ c4:=by rw[zh];exact .inr rfl
 have asH:=Zx.lt
 have asI:=nJ.lt
 have tg:da cX (T.dc cO h_):=h.grow (W:=fun _=>False) Zw (fun _ h=>h.elim) (fun q J=>(oZ q J).imp id fun e=> .inr ⟨by omega,by omega⟩) (fun q J=> .inr ((Nu q J).imp id fun e=>⟨by omega,by omega⟩)) fun q J bg=>by
   rcases oZ q J with U|U<;>rcases Nu q bg with ab|ab
   · exact (h.hE q U).2.2 ab
   · have:=h.lt (q:=q) (.inr (.inr (.inr (.inl U))));omega
   · have:=h.lt (q:=q) (.inr (.inr (.inr (.inr ab))));omega
   · have:=JO.lt;omega
 have ED:cp T (T.dc cO h_) w cX 0:=(cp.refl T w).step (W:=fun _=>False) Zw (fun _ h=>h.elim) (fun q J=>(oZ q J).imp id fun e=> .inr (by omega)) fun q J=>(Nu q J).imp id fun e=>by omega
 have amh:fk cX (T.dc cO h_) ⟨c4,bP,bP,[],[]⟩:=⟨tg,nJ,bU.none _ _ _,bU.none _ _ _,amg,fun q J=>(pE q J).elim,fun q J=>(pE q J).elim⟩
 have tR:=amc cO h_ cX _ amh ED jt rfl rfl
 obtain ⟨cy,aS,bA,aZ⟩:=b9 Nt
 refine ⟨_,SL.cell,_,cy,K,aS,V,bA,D,aZ,tR.use ?_⟩
 rintro v dL ⟨cx,x0,m,l,ph,fU,eu⟩
 have JP:cx.E bw:=by rw[fU.E];exact SN
 have Nv:=Zx.an fU.to.an (tg.uf SN)
 have Rk:¬(T.dc cO h_).N jM:=by
   have xI:c4<jM:=by rw[qA,M4];omega
   rintro (J|J|J|J)
   · have:=h.lt (q:=jM) (.inl J);omega
   · have:=h.lt (q:=jM) (.inr (.inl J));omega
   · have:=h.lt (q:=jM) (.inr (.inr (.inl J)));omega
   · rcases Nu jM J with U|U
     · have:=h.lt (q:=jM) (.inr (.inr (.inr (.inr U))));omega
     · omega
 have Zy:=SL.an fU.to.an Rk
 have Nw:x0.c4=c4:=fU.c4
 have asJ:cx.cl=T.cl:=fU.to.cl
 have Nx:x0.made=m:=fU.made
 have Ny:x0.left=l:=fU.left
 have SO:jM≠bw:=by have:=JO.lt;omega
 have wu:cp T cx w dL 60:=(ED.trans fU.to).mono (by omega)
 have fin:∀ (w':World) (av:aY),da w' av→cp T av w w' 60→av.E=cO→(∀q,T.G q→av.G q)→da w' (av.dc T.E T.G)∧cp T (av.dc T.E T.G) w w' 60:=by
   intro w' av al ba iO kX
   exact ⟨al.grow (W:=fun _=>False) (aq.refl _ _) (fun _ h=>h.elim) (fun q J=> .inl (by rw[iO];exact mo q J)) (fun q J=> .inr (.inl (kX q J))) fun q J=>(h.hE q J).2.2,
     ba.step (W:=fun _=>False) (aq.refl _ _) (fun _ h=>h.elim) (fun q J=> .inl (by rw[iO];exact mo q J)) fun q J=> .inl (kX q J)⟩
 have Zz:∀q,T.G q→cx.G q:=fun q J=>fU.G q (amf q J)
 have vS:=(bH).size
 have SP:∀ (dd:World) (av:aY) (c':fT) (x:Int),fk dd av c'→cp T av w dd 60→av.E bw→fk (dd.setCell ⟨bw,0,none⟩ (.int .i64 x)) av c'∧cp T av w (dd.setCell ⟨bw,0,none⟩ (.int .i64 x)) 60:=fun dd av c' x al ba he=>
   ⟨al.Y4 (iq dd bw 0 _) fun q e=> .inl (by rw[e];exact he),ba.step (E:=av.E) (G:=av.G) (iq dd bw 0 _) (fun q e aA=>by omega) (fun q J=> .inl J) fun q J=> .inl J⟩
 have asK:m.length≤1600:=by
   have:=fU.room
   have:fw (T.dc cO h_)≤T.n:=by unfold fw;exact Nat.sub_le _ _
   omega
 have ami:(∃a b:Int,v= .tuple #[.int .i64 a, .int .i64 b, .int .i64 3]∧¬T.C.D.calm 60)∨(∃ (root cK:Nat) (pages:List Nat),v= .tuple #[.int .i64 (root:Nat), .int .i64 (cK:Nat), .int .i64 0]∧((cK=0∧root=0∧pages=[]∧hJ=[])∨gJ cx.P cK none none root pages hJ)∧(pages++l).Perm (m++eW)∧cK≤12):=by
   rcases eu with ⟨rfl,U,ab⟩|⟨root,cK,pages,rfl,U,ab,ao,aG⟩|⟨a,b,rfl,e8⟩
   · exact .inr ⟨0,0,[],rfl, .inl ⟨rfl,rfl,rfl,U⟩,ab,by omega⟩
   · have aG:cK≤T.bu+1:=aG
     exact .inr ⟨root,cK,pages,rfl, .inr U,ab,by omega⟩
   · exact .inl ⟨a,b,rfl,e8⟩
 rcases ami with ⟨a,b,rfl,e8⟩|⟨root,xa,pages,rfl,amj,na,mu⟩
 ·
   obtain ⟨aC,aF⟩:=jI Nv (i:=0) (by simp)
   have Cj:=jH Nv (i:=0) (.int .i64 3)
   obtain ⟨Nz,NA⟩:=SP dL cx x0 3 ph wu JP
   have JQ:=Zy.an (iq dL bw 0 (.int .i64 3)) SO
   refine ⟨a,b,3,rfl,aC,aF,bW ⟨3,Cj.cell,fun _=>⟨3,Cj.cell,?_⟩,fun af=>(by cases af)⟩⟩
   obtain ⟨aH,aN⟩:=jI Cj (i:=0) (by simp)
   have SQ:=jH Cj (i:=0) (.int .i64 3)
   obtain ⟨ZA,ZB⟩:=SP _ cx x0 3 Nz NA JP
   have SR:=JQ.an (iq _ bw 0 (.int .i64 3)) SO
   refine ⟨aH,aN,bW (W.ZC ⟨bw,0,none⟩ ⟨jM,0,none⟩ _ _ ?_)⟩
   generalize asL:(dL.setCell ⟨bw,0,none⟩ (.int .i64 3)).setCell ⟨bw,0,none⟩ (.int .i64 3)=gD at SQ ZA SR ZB⊢
   (delta W.x1 bL aE ar bA;dsimp only)
   have oo:Ext gD gD.drew:=eR _
   have qz:=ZA.ext oo
   have JR:=YW qz qz.mF.src (fun q J=>(qz.rU q J).1) (l:=x0.made) (fun x af=>by rw[Nx] at af;rw[fU.f];simp[af]) (by rw[Nx];exact fU.dU) (by rw[Nx];omega)
   rw[Nw] at JR
   have JS:=qz.cells.2.1
   rw[Nw] at JS
   refine ⟨3,SQ.cell,fun _=>bW ⟨id,_,SR.drew.cell,id,_,SR.drew.cell,_,rfl,id,x0.mF,JS,JR.use ?_⟩,fun af=>(by cases af)⟩
   rintro _ bt ⟨rfl,dz,dB,bg⟩
   rw[Nx] at bg
   have amk:=(SQ.ext oo).an bg.to.an (qz.t.uf JP)
   have aml:cp T dz w bt 60:=((ZB.trans (cp.ext cx oo)).trans bg.to).mono (by omega)
   obtain ⟨f1,f2⟩:=fin bt dz dB.t aml (by rw[bg.E];exact fU.E) fun q J=>by rw[bg.G];exact Zz q J
   refine ⟨rfl,3,amk.cell,_,f1,f2,rfl,rfl, .inr (.inr ⟨rfl,e8,bg.root.trans fU.root,bg.bu.trans fU.bu,?_,fun no dx=> ?_⟩)⟩
   · funext no
     show dz.f no=T.f no
     rw[bg.f,fU.f]
     by_cases hm:no∈m
     · have:=(fU.rV no hm).1
       have e:(T.dc cO h_).f no=T.f no:=rfl
       rw[e] at this⊢
       cases Bz:T.f no
       · simp[hm]
       · rw[Bz] at this;cases this
     · simp[hm];rfl
   · have hm:no∉m:=fun hm=>by
       have:=(fU.rV no hm).1
       have e:((T.dc cO h_).f no||(T.dc cO h_).g no)=(T.f no||T.g no):=rfl
       rw[e,dx] at this;cases this
     have U:=bg.iw no (.inl hm)
     have ab:=fU.iw no dx
     exact ⟨U.1.trans ab.1,U.2.trans ab.2⟩
 ·
   have GP:∀x,pages.count x+l.count x=m.count x+eW.count x:=fun x=>by
     have:=Cf.1 na x
     simpa only[Db] using this
   have NB:∀x,m.count x+eW.count x≤1:=fun x=>by
     have U:=List.nodup_iff_count.1 fU.dU x
     have ab:=List.nodup_iff_count.1 QH x
     rcases Fq (m.count x) with ao|ao
     · omega
     · rcases Fq (eW.count x) with aG|aG
       · omega
       · have hm:=su.1 ao
         have a6:=su.1 aG
         have:=(fU.rV x hm).1
         have e:((T.dc cO h_).f x||(T.dc cO h_).g x)=(T.f x||T.g x):=rfl
         rw[e,um x a6] at this;cases this
   have hlen:pages.length+l.length=m.length+eW.length:=by
     have:=na.length_eq
     simpa only[dA] using this
   have c0:∀x∈l,cx.f x=true:=fun x af=>by
     have U:=su.2 af
     have ab:=GP x
     rw[fU.f]
     rcases Fq (m.count x) with ao|ao
     · have:x∈eW:=su.1 (by omega)
       have e:(T.dc cO h_).f x=T.f x:=rfl
       rw[e,um x this];rfl
     · have:x∈m:=su.1 ao
       simp[this]
   have amm:l.Nodup:=Zt fun x=>by have:=GP x;have:=NB x;omega
   obtain ⟨aC,aF⟩:=jI Nv (i:=0) (by simp)
   have Cj:=jH Nv (i:=0) (.int .i64 0)
   obtain ⟨Nz,NA⟩:=SP dL cx x0 0 ph wu JP
   have JQ:=Zy.an (iq dL bw 0 (.int .i64 0)) SO
   refine ⟨_,_,0,rfl,aC,aF,bW ⟨0,Cj.cell,fun af=>(by cases af),fun _=>bW ?_⟩⟩
   generalize asM:dL.setCell ⟨bw,0,none⟩ (.int .i64 0)=kr at Cj Nz JQ NA⊢
   have oo:Ext kr kr.drew:=eR _
   have qz:=Nz.ext oo
   have JR:=YW qz qz.k7.src (fun q J=>(qz.uu q J).1) (l:=x0.left) (fun x af=>c0 x (by rw[Ny] at af;exact af)) (by rw[Ny];exact amm) (by rw[Ny];omega)
   rw[Nw] at JR
   have JS:=qz.cells.2.2
   rw[Nw] at JS
   refine ⟨id,_,JQ.drew.cell,id,_,JQ.drew.cell,_,rfl,id,x0.k7,JS,JR.use ?_⟩
   rintro _ iT ⟨rfl,dz,dB,bg⟩
   rw[Ny] at bg
   have amn:=(Cj.ext oo).an bg.to.an (qz.t.uf JP)
   have ZD:cp T dz w iT 60:=((NA.trans (cp.ext cx oo)).trans bg.to).mono (by omega)
   have SS:dz.cl=T.cl:=ZD.cl
   have vh:dz.E=cO:=by rw[bg.E];exact fU.E
   have amo:dz.E bw:=by rw[vh];exact SN
   have ZE:Var iT T.cl (D3 dz) ai.Gh:=by rw[←SS];exact dB.t.t
   obtain ⟨ej,eO⟩:=jI ZE (i:=3) (by simp[D3])
   have ZF:=jH ZE (i:=3) (.int .i64 (root:Nat))
   have amp:=iq iT T.cl 3 (.int .i64 (root:Nat))
   obtain ⟨pe,nm⟩:=jI ZF (i:=4) (by simp[D3])
   have ZG:=jH ZF (i:=4) (.int .i64 (xa:Nat))
   have amq:=iq (iT.setCell ⟨T.cl,3,none⟩ (.int .i64 (root:Nat))) T.cl 4 (.int .i64 (xa:Nat))
   refine ⟨rfl,_,rfl,by rw[bn];exact ej,by rw[bn];exact eO,bW ⟨_,rfl,by rw[bn,bn];exact pe,by rw[bn,bn];exact nm,bW ?_⟩⟩
   rw[bn,bn,gd,gd]
   have SU:aq (fun q=>q=T.cl) iT ((iT.setCell ⟨T.cl,3,none⟩ (.int .i64 (root:Nat))).setCell ⟨T.cl,4,none⟩ (.int .i64 (xa:Nat))):=amp.trans amq
   generalize amr:(iT.setCell ⟨T.cl,3,none⟩ (.int .i64 (root:Nat))).setCell ⟨T.cl,4,none⟩ (.int .i64 (xa:Nat))=iy at ZG SU⊢
   have kx:∀x∈pages,x∉l:=fun x af aA=>by
     have U:=su.2 af
     have ab:=su.2 aA
     have:=GP x
     have:=NB x
     omega
   have ZH:(xa=0∧root=0∧pages=[]∧hJ=[])∨(gJ dz.P xa none none root pages hJ∧root∈pages):=amj.imp id fun hw=>hw.agree fun x af=>((bg.iw x (.inl (kx x af))).1).symm
   have ams:root<dz.n:=by
     rcases ZH with ⟨_,U,_⟩|⟨U,_⟩
     · have:=dB.t.s.c_;omega
     · obtain ⟨dU,_,ab,_⟩:=U.uY
       exact (dB.t.lE _ _ ab).1
   have amt:Var iy dz.cl (D3 (dz.GO root xa)) ai.Gh:=by rw[SS];exact ZG
   obtain ⟨amu,amv⟩:=dB.t.ama amt (by rw[SS];exact SU) ams mu
   have amw:bw≠T.cl:=fun e=>by have:=h.lt (q:=T.cl) (.inr (.inl rfl));omega
   have ZI:=amn.an SU amw
   obtain ⟨cV,sR⟩:=jI ZI (i:=0) (by simp)
   have ZJ:=jH ZI (i:=0) (.int .i64 0)
   have ZK:=iq iy bw 0 (.int .i64 0)
   refine ⟨cV,sR,bW (W.ZC ⟨bw,0,none⟩ ⟨jM,0,none⟩ _ _ ?_)⟩
   (delta W.x1 bL aE ar bA;dsimp only)
   refine ⟨0,ZJ.cell,fun af=>(by cases af),fun _=>⟨0,ZJ.cell,?_⟩⟩
   have amx:da (iy.setCell ⟨bw,0,none⟩ (.int .i64 0)) (dz.GO root xa):=amu.grow (E:=dz.E) (G:=dz.G) ZK (fun q e _=> .inl (by rw[e];exact amo)) (fun q J=> .inl J) (fun q J=> .inr (.inl J)) fun q J=>(dB.t.hE q J).2.2
   have amy:cp T (dz.GO root xa) w (iy.setCell ⟨bw,0,none⟩ (.int .i64 0)) 60:=((ZD.trans amv).mono (by omega)).step (E:=dz.E) (G:=dz.G) ZK (fun q e aA=>by omega) (fun q J=> .inl J) fun q J=> .inl J
   obtain ⟨f1,f2⟩:=fin _ _ amx amy vh fun q J=>by
     show dz.G q
     rw[bg.G];exact Zz q J
   refine ⟨_,f1,f2,rfl,rfl, .inr (.inl ⟨rfl,jt,⟨pages,?_,Zt fun x=>by have:=GP x;have:=NB x;omega,fun no af=> ?_,fun no=> ?_⟩,fun no dx=> ?_⟩)⟩
   · rcases ZH with ⟨U,ab,ao,aG⟩|⟨U,_⟩
     · exact .inl ⟨U,ab,ao,aG⟩
     · exact .inr U
   · have U:=su.2 af
     have ab:=GP no
     rcases Fq (eW.count no) with ao|ao
     · have hm:no∈m:=su.1 (by omega)
       exact .inr (fU.rV no hm).1
     · exact .inl (su.1 ao)
   · show dz.f no=true↔_
     rw[bg.f,fU.f]
     have e:(T.dc cO h_).f no=T.f no:=rfl
     rw[e]
     have ir:=GP no
     have dB:=NB no
     have Ix:no∈m↔0<m.count no:=su.symm
     have fH:no∈eW↔0<eW.count no:=su.symm
     have qR:no∈l↔0<l.count no:=su.symm
     have SV:no∈pages↔0<pages.count no:=su.symm
     have sQ:0<eW.count no→T.f no=true:=fun h=>um no (fH.2 h)
     have amz:0<m.count no→T.f no=false:=fun h=>by
       have:=(fU.rV no (Ix.2 h)).1
       have e:((T.dc cO h_).f no||(T.dc cO h_).g no)=(T.f no||T.g no):=rfl
       rw[e] at this
       cases Bz:T.f no
       · rfl
       · rw[Bz] at this;cases this
     rw[jS,tD,fY,yo,yp,Ix,fH,qR,SV]
     constructor
     · rintro ⟨U|U,ab⟩
       · by_cases ao:0<eW.count no
         · left;omega
         · exact .inr ⟨U,ao⟩
       · left;omega
     · rintro (U|⟨U,ab⟩)
       · refine ⟨?_,by omega⟩
         by_cases ao:0<eW.count no
         · exact .inl (sQ ao)
         · right;omega
       · refine ⟨.inl U,fun ao=> ?_⟩
         have:0<m.count no:=by omega
         rw[amz this] at U;cases U
   · have Q7:(T.f no||T.g no)=true:=by rw[dx];simp
     have amA:cx.g no=true:=by rw[fU.to.g];exact dx
     have U:=bg.iw no (.inr amA)
     have ab:=fU.iw no Q7
     exact ⟨U.1.trans ab.1,U.2.trans ab.2⟩
end
section
theorem ZL {ks:List Key} {k:Key} {i:Nat} (aj:ks.Pairwise cw) (U:dP ks k≤i) (hi:i<ks.length) (ae:ks[dP ks k]? ≠some k):cw k ks[i]:=by
 rcases Dd.1 (Fy aj U hi) with ab|ab
 · exact ab
 · exfalso
   rcases g2 (dP ks k) i with ao|ao
   · have aU:dP ks k<ks.length:=by omega
     have aG:=Fy aj (cU _) aU
     have aV:=ym.1 aj _ _ aU hi ao
     rw[←ab] at aV
     exact aG aV
   · have e:i=dP ks k:=by omega
     apply ae
     subst e
     rw[gq hi,←ab]
theorem SW {n:aL} (h:m_ n) {i:Nat} (hi:i≤n.keys.length):∃a b c d:List Key,n.keys=a++b∧n.vals=c++d∧a.length=i∧c.length=i∧b.length=d.length∧n.keys.take i=a∧n.keys.drop i=b∧n.vals.take i=c∧n.vals.drop i=d:=by
 have aA:=h.len
 refine ⟨n.keys.take i,n.keys.drop i,n.vals.take i,n.vals.drop i,(qd i _).symm,(qd i _).symm,?_,?_,?_,rfl,rfl,rfl,rfl⟩
 · rw[eA];omega
 · rw[eA];omega
 · rw[fx,fx];omega
def th (k v:Key):Nat:=2+k.length+v.length
theorem GQ {n:aL} (h:n.leaf=true):cd n=1+(List.zipWith th n.keys n.vals).sum:=by
 unfold cd
 rw[if_pos h,uZ h];rfl
theorem amB {n:aL} {k v:Key} (h:m_ n) (ae:eV k) (ak:v.length≤24):m_ (oc n k v)∧(oc n k v).fZ=nB n.fZ k v∧cd (oc n k v)≤cd n+50∧(oc n k v).keys≠ []∧n.keys.length≤(oc n k v).keys.length∧(∀s∈(oc n k v).keys,s=k∨s∈n.keys):=by
 have hlen:=h.len
 have hle:=Fx n.keys k
 have a6:n.fZ=n.keys.zip n.vals:=rfl
 have ur:=h.jk
 have vl:∀ (j:Nat) (aU:j<n.keys.length),j<dP n.keys k→cw n.keys[j] k:=fun j aU U=>Dj U aU
 have JT:n.keys[dP n.keys k]? ≠some k→∀ (j:Nat) (aU:j<n.keys.length),dP n.keys k≤j→cw k n.keys[j]:=fun he j aU U=>ZL ur U aU he
 rw[a6,aeD h.jk]
 unfold oc ob
 generalize hi:dP n.keys k=i at hle vl JT⊢
 obtain ⟨a,b,c,d,aW,bq,ec,jW,kT,uB,z_,tO,yF⟩:=SW h hle
 have bD:n.keys.zip n.vals=a.zip c++b.zip d:=by rw[aW,bq];exact De (by omega)
 have A5:(a.zip c).length=i:=by rw[AD];omega
 by_cases he:n.keys[i]? =some k
 · rw[if_pos (by simpa using he),if_pos he]
   have oQ:∃iD,b=k::iD:=by
     cases b with
     |nil=>rw[aW,uX (by omega)] at he;simp at he
     |cons y iD=>
       rw[aW,uX (by omega),ec,C6] at he
       simp at he
       exact ⟨iD,by rw[he]⟩
   obtain ⟨iD,rfl⟩:=oQ
   obtain ⟨x,ki,rfl⟩:∃x ki,d=x::ki:=by
     cases d with
     |nil=>simp at kT
     |cons x ki=>exact ⟨x,ki,rfl⟩
   have xe:n.vals.set i v=c++v::ki:=by
     rw[bq,List.set_append_right _ _ (by omega),jW,C6];rfl
   refine ⟨⟨⟨h.ok,h.jk⟩,h.leaf,by simp[hlen],h.kids,fun z bD=> ?_⟩,?_,?_,fun e=>by have e:n.keys=[]:=e;rw[e] at aW;simp at aW,cU _,fun s aj=> .inr aj⟩
   · rcases Da bD with U|U
     · exact h.vals z U
     · rw[U];exact ak
   · show n.keys.zip (n.vals.set i v)=_
     rw[xe,bD,aW,De (by omega),yA A5]
     have amC:(a.zip c++(k::iD).zip (x::ki)).drop (i+1)=iD.zip ki:=by
       rw[List.zip_cons_cons,show a.zip c++(k,x)::iD.zip ki=(a.zip c++ [(k,x)])++iD.zip ki by simp]
       exact drop_left' (by simp only[dA,A5,qP])
     rw[amC];rfl
   · rw[GQ h.leaf,GQ (n:={n with vals:=n.vals.set i v}) h.leaf]
     show 1+(List.zipWith th n.keys (n.vals.set i v)).sum≤_
     rw[xe,aW,bq,Fg (by omega),Fg (by omega),wO,wO,List.zipWith_cons_cons,List.zipWith_cons_cons,HL,HL]
     unfold th
     omega
 · rw[if_neg (by simpa using he),if_neg he]
   have SX:=JT he
   refine ⟨⟨⟨fun z bD=> ?_,?_⟩,h.leaf,?_,h.kids,fun z bD=> ?_⟩,?_,?_,fun e=> ?_,?_,fun s aj=> ?_⟩
   · have bD:z∈n.keys.take i++ [k]++n.keys.drop i:=bD
     simp only[eH,lN] at bD
     rcases bD with (bD|rfl)|bD
     · exact h.ok z (jR bD)
     · exact ae
     · exact h.ok z (jC bD)
   · show (n.keys.take i++ [k]++n.keys.drop i).Pairwise cw
     rw[uB,z_]
     have oL:(a++b).Pairwise cw:=by rw[←aW];exact ur
     obtain ⟨aC,aF,aH⟩:=AB.1 oL
     have amD:∀x∈a,cw x k:=fun x af=>by
       obtain ⟨j,aU,rfl⟩:=lO af
       have:=vl j (by rw[aW,dA];omega) (by omega)
       simp only[aW,C9 aU] at this
       exact this
     have oV:∀y∈b,cw k y:=fun y b1=>by
       obtain ⟨j,aU,rfl⟩:=lO b1
       have:=SX (i+j) (by rw[aW,dA];omega) (by omega)
       have e:(a++b)[i+j]'(by rw[dA];omega)=b[j]:=by
         rw[HQ (by omega)];congr 1;omega
       simp only[aW,e] at this
       exact this
     rw[d_]
     refine AB.2 ⟨aC,?_,fun x af y b1=> ?_⟩
     · exact rp.2 ⟨oV,aF⟩
     · rcases fP.1 b1 with rfl|b1
       · exact amD x af
       · exact aH x af y b1
   · show (n.vals.take i++ [v]++n.vals.drop i).length=(n.keys.take i++ [k]++n.keys.drop i).length
     rw[uB,z_,tO,yF]
     simp only[dA,qP];omega
   · have bD:z∈n.vals.take i++ [v]++n.vals.drop i:=bD
     simp only[eH,lN] at bD
     rcases bD with (bD|rfl)|bD
     · exact h.vals z (jR bD)
     · exact ak
     · exact h.vals z (jC bD)
   · show (n.keys.take i++ [k]++n.keys.drop i).zip (n.vals.take i++ [v]++n.vals.drop i)=_
     rw[uB,z_,tO,yF,bD,yA A5,drop_left' A5,d_,d_,De (by omega)]
     rfl
   · rw[GQ h.leaf,GQ (n:={n with keys:=n.keys.take i++ [k]++n.keys.drop i,vals:=n.vals.take i++ [v]++n.vals.drop i}) h.leaf]
     show 1+(List.zipWith th (n.keys.take i++ [k]++n.keys.drop i) (n.vals.take i++ [v]++n.vals.drop i)).sum≤_
     have aC:(List.zipWith th (a++ [k]++b) (c++ [v]++d)).sum=(List.zipWith th a c).sum+(th k v+(List.zipWith th b d).sum):=by
       rw[d_,d_,Fg (by omega),wO];rfl
     have aF:(List.zipWith th (a++b) (c++d)).sum=(List.zipWith th a c).sum+(List.zipWith th b d).sum:=by
       rw[Fg (by omega),wO]
     rw[uB,z_,tO,yF,aW,bq,aC,aF]
     have:=ae.2
     unfold th
     omega
   · have e:n.keys.take i++ [k]++n.keys.drop i=[]:=e
     simp at e
   · show n.keys.length≤(n.keys.take i++ [k]++n.keys.drop i).length
     rw[uB,z_,aW]
     simp only[dA,qP];omega
   · have aj:s∈n.keys.take i++ [k]++n.keys.drop i:=aj
     simp only[eH,lN] at aj
     rcases aj with (aj|rfl)|aj
     · exact .inr (jR aj)
     · exact .inl rfl
     · exact .inr (jC aj)
end
section
def ZM (T:aY) (eW:List Nat) (hJ:List bo) (w:World) (v:Value) (w':World):Prop:=
 ∃av:aY,da w' av∧cp T av w w' 100∧av.E=T.E∧av.G=T.G∧
   ((v= .int .i64 2∧fw T<2*T.bu+3∧av=T)∨
    (v= .int .i64 0∧2*T.bu+3≤fw T∧(∃pages,nt av pages hJ∧pages.Nodup∧(∀no∈pages,no∈eW∨(T.f no||T.g no)=false)∧∀no,av.f no=true↔(no∈pages∨(T.f no=true∧no∉eW)))∧∀no,T.g no=true→av.P no=T.P no∧av.C.view no=T.C.view no)∨
    (v= .int .i64 3∧¬T.C.D.calm 100∧av.root=T.root∧av.bu=T.bu∧av.f=T.f∧∀no,(T.f no||T.g no)=true→av.P no=T.P no∧av.C.view no=T.C.view no))
theorem Nq.an {T:aY} {br:er} {eW:List Nat} {hJ:List bo} {w ag w':World} {v:Value} {k:Nat} (h:Nq (T.cJ br T.P) eW hJ ag v w') (cH:cp T (T.cJ br T.P) w ag k) (ae:k≤40) (ak:∀j,br.view j=T.C.view j) (jt:2*T.bu+3≤fw T):ZM T eW hJ w v w':=by
 obtain ⟨av,U,ab,ao,aG,aV⟩:=h
 refine ⟨av,U,(cH.trans ab).mono (by omega),ao,aG,?_⟩
 have ZN:fw (T.cJ br T.P)=fw T:=rfl
 have ZO:(T.cJ br T.P).bu=T.bu:=rfl
 rcases aV with ⟨_,b_,_⟩|⟨rfl,b_,hY,ng⟩|⟨rfl,b_,hY,ng,qn,NC⟩
 · rw[ZN,ZO] at b_;omega
 · exact .inr (.inl ⟨rfl,jt,hY,fun no dx=>⟨(ng no dx).1,(ng no dx).2.trans (ak no)⟩⟩)
 · exact .inr (.inr ⟨rfl,fun al=>b_ (cH.calm 60 (mD al (by omega))),hY,ng,qn,fun no dx=>⟨(NC no dx).1,(NC no dx).2.trans (ak no)⟩⟩)
theorem r4 (w:World) (s:ad):aR Tryz.prog F.r4 #[.slice s.a s.len s.cap] w (fun v w'=>v= .bool (decide (1≤s.len∧s.len≤24))∧w=w'):=by
 refine W.amE s w _ ?_
 unfold W.r4
 refine ⟨?_,rfl⟩
 congr 1
 rw[o6,jS,fY,fY,fY]
 omega
theorem SY {T:aY} {w:World} {pages:List Nat} {L:List bo} {k:Key} (h:da w T) (ft:nt T pages L):∃steps,BR T.P k T.bu T.root steps∧
   ((steps=[]∧T.bu=0∧pages=[]∧L=[])∨(∃ (kO:Nat) (c_:aL) (jV gL:Option Key) (jN:List (Nat×aL×Nat)) (nq:List Nat) (l6 l7:List bo),steps=jN++ [(kO,c_,0)]∧Ctx T.P k T.bu 1 jV gL jN nq l6 l7∧T.P kO=some c_∧m_ c_∧c_.within jV gL∧c_.keys≠ []∧(jN≠ []→2≤c_.keys.length)∧jT jV gL k∧
     pages.Perm (kO::nq)∧L=l6++(c_.fZ++l7)∧∀u,Loc k u→u L=l6++(u c_.fZ++l7))):=by
 rcases ft with ⟨U,ab,ao,aG⟩|hw
 · exact ⟨[],by rw[U];rfl, .inl ⟨rfl,U,ao,aG⟩⟩
 · cases cK:T.bu with
   |zero=>rw[cK] at hw;exact hw.elim
   |succ t=>
     rw[cK] at hw
     obtain ⟨rest,jN,kO,c_,jV,gL,nq,l6,l7,bL,ar,bJ,g8,jX,zU,Ez,B_,Ca,xU,zV,wo⟩:=Ctx.down (P:=T.P) (k:=k) (top:=t+1) (sw:=L) .top hw (fun h=>absurd rfl h) ⟨fun _ e=>(by cases e),fun _ e=>(by cases e)⟩ (by simp) (fun u _=>by simp)
     rw[uW] at ar
     rw[lM] at xU
     exact ⟨rest,bL, .inr ⟨kO,c_,jV,gL,jN,nq,l6,l7,ar,bJ,g8,jX,zU,Ez,B_,Ca,xU,zV,wo⟩⟩
theorem nt.low {T:aY} {pages:List Nat} {L:List bo} (h:nt T pages L) (dq:L.length<4096):T.bu<12∧pages.length≤L.length:=by
 rcases h with ⟨U,_,ao,_⟩|hw
 · rw[U,ao];exact ⟨by omega,fy _⟩
 · obtain ⟨aC,aF,aH⟩:=hw.pages
   refine ⟨?_,aC⟩
   rcases g2 T.bu 12 with h|h
   · exact h
   · have aV:=aH (by omega)
     have b_:2^12≤2^T.bu:=Lj (by decide) h
     have hY:(2:Nat)^12=4096:=by decide
     omega
theorem ZP {ag:World} {T:aY} {br:er} {pages:List Nat} {L hJ:List bo} {k:Key} {steps:List (Nat×aL×Nat)} {s:ad} {wl:List fL} {c_ eD:aL} {K V D:ad} (h:da ag (T.cJ br T.P)) (ft:nt T pages L) (dq:L.length<4096) (gC:pages.Nodup) (aI:∀x∈pages,T.f x=true) (fS:br.D.cS≤900000000)
   (hm:wl.map fL.st=steps) (wx:sX (fun q=>¬(T.cJ br T.P).M q) ag s wl) (aD:b4 (fun q=>¬(T.cJ br T.P).M q) ag eD K V D) (ND:m_ eD) (gN:(steps=[]∧T.bu=0∧pages=[]∧eD.keys≠ []∧cd eD≤232∧eD.fZ=hJ)∨(∃ (kO:Nat) (jV gL:Option Key) (jN:List (Nat×aL×Nat)) (nq:List Nat) (l6 l7:List bo),steps=jN++ [(kO,c_,0)]∧Ctx T.P k T.bu 1 jV gL jN nq l6 l7∧eD.within jV gL∧(jN≠ []→eD.keys≠ [])∧pages.Perm (kO::nq)∧hJ=l6++(eD.fZ++l7)∧cd eD≤282)):
   aR Tryz.prog F.wv #[.pointer (some ⟨T.cl,0,none⟩), .slice s.a s.len s.cap,eC eD K V D] ag (Nq (T.cJ br T.P) pages hJ ag):=by
 obtain ⟨cK,EE⟩:=ft.low dq
 refine amb h fS cK gC aI (by omega) fun cO h_ aw bA dB cH jt yQ c0=> ?_
 have EB:s.len=wl.length:=by
   have:=wx.own.1
   rw[oR _ (BQ wl)] at this;omega
 have nI:b4 (fun q=>¬((T.cJ br T.P).dc cO h_).M q) aw eD K V D:=(cH.dU (lo:=0) (aD.bx fun q _ aa=>⟨fy _,aa⟩)).bx fun q _ aa=>aa.2
 rcases gN with ⟨U,ab,ao,aG,aV,b_⟩|⟨kO,jV,gL,jN,nq,l6,l7,aW,bq,ec,jW,kT,uB,z_⟩
 · subst U ao
   have JU:wl=[]:=by simpa using hm
   exact al9 (by rw[EB,JU];rfl) dB nI fS (by
     have e:fw ((T.cJ br T.P).dc cO h_)=fw (T.cJ br T.P):=rfl
     omega) (by rw[yQ];simp) c0 ND aG aV b_
 · have hlen:wl.length=jN.length+1:=by
     have:=congrArg List.length hm
     rw[aW,kR,dA,qP] at this;exact this
   have Nn:1+jN.length=T.bu:=bq.iv
   have vb:=wx.to cH
   have ZQ:(wl.take (wl.length-1)).map fL.st=jN∧(wl[wl.length-1]'(by omega)).no=kO:=by
     rw[aW] at hm
     have aC:(wl.take (wl.length-1)).map fL.st=(jN++ [(kO,c_,0)]).take (wl.length-1):=by rw[←hm,C4]
     refine ⟨by rw[aC];exact yA (by omega),?_⟩
     have aF:(wl.map fL.st)[wl.length-1]? =some (kO,c_,0):=by
       rw[hm,uX (by omega)]
       have:wl.length-1-jN.length=0:=by omega
       rw[this];rfl
     rw[HP,gq (by omega)] at aF
     have aH:=Option.some.inj aF
     exact congrArg Prod.fst aH
   refine alU (k:=k) (gO:=nq) (A:=l6) (B:=l7) (M:=eD.fZ) (lo:=jV) (hi:=gL) dB vb nI (by omega) (by show wl.length=T.bu;omega) cK fS jt (by rw[yQ];simp) (by rw[c0];simp) ?_ ⟨ND,ec,rfl,rfl⟩ uB.symm ?_ z_ (fun h=>jW fun e=> ?_) fun x af=> ?_
   · rw[ZQ.1]
     have:wl.length=T.bu:=by omega
     rw[this]
     exact bq
   · rw[ZQ.2];exact kT
   · rw[e] at hlen;simp at hlen;omega
   · exact aI x (kT.mem_iff.2 (rn _ af))
theorem sX.ext' {B C:Nat→Prop} {w w':World} {s:ad} {l:List fL} (h:sX B w s l) (af:Ext w w') (gK:∀q,B q→C q):sX C w' s l:=
 ⟨h.own.ext af,fun q J=>gK q (h.D9 q J),fun x hm=>((h.dU x hm).ext af).bx fun q _ aa=>gK q aa⟩
theorem GR {wl:List fL} {jN:List (Nat×aL×Nat)} {kO:Nat} {cZ:aL} (hm:wl.map fL.st=jN++ [(kO,cZ,0)]):∃h:0<wl.length,(wl[wl.length-1]'(by omega)).n=cZ:=by
 have hlen:wl.length=jN.length+1:=by
   have:=congrArg List.length hm
   rw[kR,dA,qP] at this;exact this
 refine ⟨by omega,?_⟩
 have aF:(wl.map fL.st)[wl.length-1]? =some (kO,cZ,0):=by
   rw[hm,uX (by omega)]
   have:wl.length-1-jN.length=0:=by omega
   rw[this];rfl
 rw[HP,gq (by omega)] at aF
 exact congrArg (fun x=>x.2.1) (Option.some.inj aF)
theorem ZR {w:World} {T:aY} {pages:List Nat} {L:List bo} {aK hT:ad} {key val:Key} (h:da w T) (ft:nt T pages L) (dq:L.length<4096) (gC:pages.Nodup) (aI:∀x∈pages,T.f x=true) (fS:T.C.D.cS≤800000000)
   (ae:Src 1 w aK (bm key)) (oV:∀q,aP aK q→q<w.heap.size∧¬T.M q) (ak:Src 1 w hT (bm val)) (Iq:∀q,aP hT q→q<w.heap.size∧¬T.M q):
   aR Tryz.prog F.Aa #[.pointer (some ⟨T.cl,0,none⟩), .slice aK.a aK.len aK.cap, .slice hT.a hT.len hT.cap] w (fun v w'=>(v= .int .i64 1∧¬(eV key∧val.length≤24)∧w=w')∨(eV key∧val.length≤24∧ZM T pages (nB L key val) w v w')):=by
 have fI:=len8 ae
 have j7:=len8 ak
 refine W.amF (some ⟨T.cl,0,none⟩) aK hT w _ ?_
 (delta W.Aa aE aZ bL aS ay fK c8 ah bJ ar Jv e6;dsimp only)
 refine eI (fun b w'=>b= !(decide (eV key))∧w=w') (fun q J=>⟨fun h=>(by cases h),fun _=>(r4 w aK).use ?_⟩) ?_
 · rintro _ _ ⟨rfl,rfl⟩
   refine ⟨_,rfl,J _ _ ⟨?_,rfl⟩⟩
   unfold eV
   rw[fI]
 rintro _ _ ⟨rfl,rfl⟩
 refine ⟨fun aa=> .inl ⟨rfl,fun bg=> ?_,rfl⟩,fun aa=> ?_⟩
 · rw[jB bg.1,j7] at aa
   have:¬((val.length:Nat):Int)>24:=by have:=bg.2;omega
   simp[this] at aa
 have bg:eV key∧val.length≤24:=by
   by_cases U:eV key
   · refine ⟨U,?_⟩
     rw[jB U,j7] at aa
     have:¬((val.length:Nat):Int)>24:=by simpa using aa
     omega
   · rw[tC U] at aa;simp at aa
 have nI:=h.s.cZ
 obtain ⟨cK,EE⟩:=ft.low dq
 have bS:Ext w w.drew:=eR w
 have hd:=h.ext bS
 refine bW ⟨fun _=>False,_,rfl,id,_,hd.cells.2.1,_,rfl,id,_,hd.cells.2.2.2.2,(XJ hd.s).use ?_⟩
 rintro _ cm ⟨rfl,iP⟩
 have SJ:((T.n:Int)-kM (fun i=>T.f i||T.g i) T.n)=(fw T:Nat):=by
   have:=I_ (fun i=>T.f i||T.g i) T.n
   unfold fw;omega
 have vb:IntKind.wrap .i64 (IntKind.wrap .i64 (2*((T.bu:Nat):Int))+3)=((2*T.bu+3:Nat):Int):=by
   rw[ct (n:=2*((T.bu:Nat):Int)) (by omega) (by omega),ct (by omega) (by omega)];omega
 rw[SJ,vb]
 have A_:=bS.trans iP
 have SZ:=h.ext A_
 refine ⟨_,rfl,iP,fun aa=> .inr ⟨bg.1,bg.2,T,SZ,(cp.ext T A_).mono (by omega),rfl,rfl, .inl ⟨rfl,?_,rfl⟩⟩,fun aa=> ?_⟩
 · have aa:((fw T:Nat):Int)<((2*T.bu+3:Nat):Int):=di aa
   omega
 have jt:2*T.bu+3≤fw T:=by
   have:¬((fw T:Nat):Int)<((2*T.bu+3:Nat):Int):=eB aa
   omega
 obtain ⟨steps,wx,po⟩:=SY (k:=key) SZ ft
 refine (Q9 SZ (by omega) (ae.ext A_) (fun q J=>⟨lP (oV q J).1 A_.size,(oV q J).2⟩) wx).use ?_
 rintro _ cX ⟨br,tg,ED,r5,eu⟩
 have cH:=((cp.ext T A_).trans ED).mono (l:=2*T.bu) (by omega)
 rcases eu with ⟨s,wl,rfl,hm,x2⟩|⟨rfl,e8⟩
 rotate_left
 · refine ⟨⟨none,0,0⟩,3,rfl,fun _=> .inr ⟨bg.1,bg.2,T.cJ br T.P,tg,cH.mono (by omega),rfl,rfl, .inr (.inr ⟨rfl,fun al=>e8 (mD al (by omega)),rfl,rfl,rfl,fun no _=>⟨rfl,r5 no⟩⟩)⟩,fun af=>(by cases af)⟩
 have EB:s.len=wl.length:=by
   have:=x2.own.1
   rw[oR _ (BQ wl)] at this;omega
 have IG:=A_.size
 have ZS:wl.length=T.bu:=by
   have:=wx.length
   rw[←hm,kR] at this;exact this
 refine ⟨s,0,rfl,fun af=>(by cases af),fun _=>cq (vs:=[.bool false, .slice none 0 0, .slice none 0 0, .slice none 0 0]) rfl fun cE D8 p0 Q5=>⟨D8.de rfl (ky (b:=true) (K:=bP) (V:=bP) (D:=bP)),rfl,dW D8 (us:=gj ⟨true,[],[],[]⟩ bP bP bP) rfl rfl fun dX Gq MZ Rl=> ?_⟩⟩
 have zT:Ext cX dX:=Ext.eX p0 MZ (cU _)
 obtain ⟨ot,GI⟩:∃ot,ot=cX.heap.size:=⟨_,rfl⟩
 rw[←GI] at Gq⊢
 obtain ⟨c_,ly⟩:∃c_:aL,c_=(if hw:0<wl.length then (wl[wl.length-1]'(by omega)).n else ⟨true,[],[],[]⟩):=⟨_,rfl⟩
 refine w9 (fun fG=>∃ (K V D:ad) (B:Nat→Prop),Ext cX fG∧Var fG ot (gj c_ K V D) ai.cD∧b4 B fG c_ K V D) (fun q J=>⟨fun aA=> ?_,fun aA=> ?_⟩) ?_
 · have rT:0<wl.length:=by
     have:((s.len:Nat):Int)>0:=di aA
     omega
   rw[dif_pos rT] at ly
   have e:IntKind.wrap .i64 (((s.len:Nat):Int)-1)=((wl.length-1:Nat):Int):=by rw[ct (by omega) (by omega)];omega
   obtain ⟨A,ax,_,_,_,hu⟩:=x2.at (i:=wl.length-1) (by omega)
   have NF:=hu.ext zT
   rw[e,g6]
   subst ly
   refine ⟨A,ax,⟨by omega,by omega⟩,_,NF.aS,_,NF.bA,_,NF.aZ,_,NF.fK,Gq.de rfl ky,rfl,dW Gq (us:=gj (wl[wl.length-1]'(by omega)).n (wl[wl.length-1]'(by omega)).K (wl[wl.length-1]'(by omega)).V (wl[wl.length-1]'(by omega)).D) rfl rfl fun fB amG amH asN=> ?_⟩
   have ZT:Ext cX fB:=Ext.eX zT amH (by omega)
   exact J _ ⟨_,_,_,_,ZT,amG,hu.dU.ext ZT⟩
 · have rT:¬0<wl.length:=by
     have:¬((s.len:Nat):Int)>0:=eB aA
     omega
   rw[dif_neg rT] at ly
   subst ly
   exact J _ ⟨bP,bP,bP,fun _=>True,zT,Gq,bO.none _ _,bO.none _ _,dJ.none _ _⟩
 rintro fG ⟨K,V,D,B,NG,amI,amJ⟩
 have asO:=NG.size
 have Zv:=ED.an.size
 have GN:m_ c_∧cd c_≤232:=by
   rcases po with ⟨U,ab,ao,aG⟩|⟨kO,cZ,jV,gL,jN,nq,l6,l7,ar,bJ,g8,jX,zU,Ez,B_,Ca,xU,zV,wo⟩
   · have JU:¬0<wl.length:=by
       rw[U] at hm
       have:wl=[]:=by simpa using hm
       rw[this];simp
     rw[ly,dif_neg JU]
     exact ⟨⟨⟨fun _ h=>(by cases h),List.Pairwise.nil⟩,rfl,rfl,rfl,fun _ h=>(by cases h)⟩,by decide⟩
   · rw[ar] at hm
     obtain ⟨aC,aF⟩:=GR hm
     rw[ly,dif_pos aC,aF]
     exact ⟨jX,h.Ce _ _ g8⟩
 obtain ⟨qR,km⟩:=GN
 have xG:=(dC.ni (.inl qR) (by omega))
 have jl:∀q,T.N q→q<w.heap.size:=fun q J=>h.lt (aY.lV J)
 have amK:Src 1 fG aK (bm key):=(ae.an cH.an fun q J jn=>(oV q J).2 (aY.lV jn)).ext NG
 have amL:Src 1 fG hT (bm val):=(ak.an cH.an fun q J jn=>(Iq q J).2 (aY.lV jn)).ext NG
 obtain ⟨d0,d1,d2,d3⟩:=b9 amI
 refine ⟨_,d0,K,d1,V,d2,D,d3,(xg amJ qR (by omega) amK amL bg.1 bg.2).use ?_⟩
 rintro _ eS ⟨cP,cW,c6,rfl,amM,M7⟩
 refine ⟨_,cP,cW,c6,true,rfl,cq (vs:=[.bool false, .slice none 0 0, .slice none 0 0, .slice none 0 0]) rfl fun dO MT MS asP=>⟨MT.de rfl ky,rfl,dW MT (us:=gj (oc c_ key val) cP cW c6) rfl rfl fun fW Jw amN asQ=>⟨fun af=>(by cases af),fun _=> ?_⟩⟩⟩
 have ZU:Ext eS fW:=Ext.eX MS amN (cU _)
 have S0:=(NG.trans M7).trans ZU
 obtain ⟨d0,d1,d2,d3⟩:=b9 Jw
 obtain ⟨cg,cc,gv,rY,z1,nu⟩:=amB qR bg.1 bg.2
 have Ew:br.D.cS≤900000000:=by
   have:br.D.cS≤T.C.D.cS+2*T.bu:=cH.cS
   omega
 have amO:b4 (fun q=>¬(T.cJ br T.P).M q) fW (oc c_ key val) cP cW c6:=(amM.ext ZU).bx fun q _ J jD=>by have:=tg.lt jD;omega
 have S1:=ZP (hJ:=nB L key val) (k:=key) (steps:=steps) (c_:=c_) (tg.ext S0) ft dq gC aI Ew hm (x2.ext' S0 fun q J=>J.2) amO cg (by
   rcases po with ⟨U,ab,ao,aG⟩|⟨kO,cZ,jV,gL,jN,nq,l6,l7,ar,bJ,g8,jX,zU,Ez,B_,Ca,xU,zV,wo⟩
   · have JU:¬0<wl.length:=by omega
     rw[dif_neg JU] at ly
     refine .inl ⟨U,ab,ao,rY,?_,?_⟩
     · have:cd c_=1:=by rw[ly];rfl
       omega
     · rw[cc,ly,aG];rfl
   · rw[ar] at hm
     obtain ⟨aC,aF⟩:=GR hm
     rw[dif_pos aC,aF] at ly
     rw[ly] at cc gv rY z1 nu⊢
     refine .inr ⟨kO,jV,gL,jN,nq,l6,l7,ar,bJ,fun s aj=> ?_,fun _=>rY,xU,?_,by have:=h.Ce _ _ g8;omega⟩
     · rcases nu s aj with rfl|aV
       · exact Ca
       · exact zU s aV
     · rw[cc];exact wo (fun L=>nB L key val) (aek key val))
 refine ⟨_,d0,cP,d1,cW,d2,c6,d3,S1.use ?_⟩
 intro v w' aQ
 have amP:=aQ.an (w:=w) ((cH.trans (cp.ext (T.cJ br T.P) S0)).mono (l:=40) (by omega)) (cU _) r5 jt
 obtain ⟨av,U,ab,ao,aG,aV⟩:=amP
 rcases aV with ⟨rfl,b_⟩|⟨rfl,b_⟩|⟨rfl,b_⟩
 · exact ⟨2,rfl, .inr ⟨bg.1,bg.2,av,U,ab,ao,aG, .inl ⟨rfl,b_⟩⟩⟩
 · exact ⟨0,rfl, .inr ⟨bg.1,bg.2,av,U,ab,ao,aG, .inr (.inl ⟨rfl,b_⟩)⟩⟩
 · exact ⟨3,rfl, .inr ⟨bg.1,bg.2,av,U,ab,ao,aG, .inr (.inr ⟨rfl,b_⟩)⟩⟩
end
section
theorem ZV {l:List bo} {k:Key} (h:(mc l k).length=l.length):∀p∈l,p.1≠k:=by
 intro p a6
 unfold mc at h
 have:=(yj (p:=fun p:bo=>decide (p.1≠k))).1 (List.Sublist.eq_of_length List.filter_sublist h)
 exact di (this p a6)
theorem ZW {L A B M:List bo} {k:Key} (dq:L=A++(M++B)) (hu:mc L k=A++(mc M k++B)):n0 L k=n0 M k:=by
 have U:(mc A k).length≤A.length:=List.length_filter_le _ _
 have ab:(mc B k).length≤B.length:=List.length_filter_le _ _
 have ao:=congrArg List.length hu
 rw[dq,H0,H0] at ao
 simp only[dA] at ao
 have ax:=ZV (l:=A) (k:=k) (by omega)
 have gK:=ZV (l:=B) (k:=k) (by omega)
 have S2:A.find? (fun p=>decide (p.1=k))=none:=tz.2 fun p a6=>by simpa using ax p a6
 have S3:B.find? (fun p=>decide (p.1=k))=none:=tz.2 fun p a6=>by simpa using gK p a6
 unfold n0
 rw[dq,List.find?_append,List.find?_append,S2,S3]
 simp
theorem ZX {n:aL} {k:Key} (h:m_ n):n0 n.fZ k=if ob n.keys k then n.vals[dP n.keys k]? else none:=by
 have hle:=Fx n.keys k
 have ur:=h.jk
 have vl:∀ (j:Nat) (aU:j<n.keys.length),j<dP n.keys k→cw n.keys[j] k:=fun j aU U=>Dj U aU
 have JT:n.keys[dP n.keys k]? ≠some k→∀ (j:Nat) (aU:j<n.keys.length),dP n.keys k≤j→cw k n.keys[j]:=fun he j aU U=>ZL ur U aU he
 have a6:n.fZ=n.keys.zip n.vals:=rfl
 unfold ob
 rw[a6]
 generalize dP n.keys k=i at hle vl JT⊢
 obtain ⟨a,b,c,d,aW,bq,ec,jW,kT,uB,z_,tO,yF⟩:=SW h hle
 have bD:n.keys.zip n.vals=a.zip c++b.zip d:=by rw[aW,bq];exact De (by omega)
 have S2:(a.zip c).find? (fun p:bo=>decide (p.1=k))=none:=tz.2 fun p a6=>by
   have hm:=(HI a6).1
   obtain ⟨j,aU,S4⟩:=lO hm
   have U:=vl j (by rw[aW,dA];omega) (by omega)
   simp only[aW,C9 aU,S4] at U
   simpa using AJ U
 unfold n0
 rw[bD,List.find?_append,S2]
 by_cases he:n.keys[i]? =some k
 · rw[if_pos (by simpa using he)]
   have oQ:∃iD,b=k::iD:=by
     cases b with
     |nil=>rw[aW,uX (by omega)] at he;simp at he
     |cons y iD=>
       rw[aW,uX (by omega),ec,C6] at he
       simp at he
       exact ⟨iD,by rw[he]⟩
   obtain ⟨iD,rfl⟩:=oQ
   obtain ⟨x,ki,rfl⟩:∃x ki,d=x::ki:=by
     cases d with
     |nil=>simp at kT
     |cons x ki=>exact ⟨x,ki,rfl⟩
   rw[bq,uX (by omega),jW,C6]
   simp
 · rw[if_neg (by simpa using he)]
   have SX:=JT he
   have S3:(b.zip d).find? (fun p:bo=>decide (p.1=k))=none:=tz.2 fun p a6=>by
     have hm:=(HI a6).1
     obtain ⟨j,aU,S4⟩:=lO hm
     have U:=SX (i+j) (by rw[aW,dA];omega) (by omega)
     have e:(a++b)[i+j]'(by rw[dA];omega)=b[j]:=by
       rw[HQ (by omega)];congr 1;omega
     simp only[aW,e,S4] at U
     have:=AJ U
     simpa using fun h=>this h.symm
   rw[S3];rfl
def amQ (T:aY) (L:List bo) (key:Key) (w:World) (v:Value) (w':World):Prop:=
 ∃br:er,da w' (T.cJ br T.P)∧cp T (T.cJ br T.P) w w' 30∧(∀j,br.view j=T.C.view j)∧
   ((v= .tuple #[.slice none 0 0, .bool false, .int .i64 0]∧(eV key→n0 L key=none))∨
    (∃ (t:ad) (x:Key),v= .tuple #[.slice t.a t.len t.cap, .bool true, .int .i64 0]∧eV key∧n0 L key=some x∧bX (fun q=>¬(T.cJ br T.P).M q) w' t x)∨
    (v= .tuple #[.slice none 0 0, .bool false, .int .i64 3]∧eV key∧¬T.C.D.calm 30))
theorem amR {w:World} {T:aY} {pages:List Nat} {L:List bo} {aK:ad} {key:Key} (h:da w T) (ft:nt T pages L) (fS:T.C.D.cS≤800000000) (ae:Src 1 w aK (bm key)) (oV:∀q,aP aK q→q<w.heap.size∧¬T.M q):
   aR Tryz.prog F.Ck #[.pointer (some ⟨T.cl,0,none⟩), .slice aK.a aK.len aK.cap] w (amQ T L key w):=by
 have fI:=len8 ae
 have cK:=h.num.2.1
 have Gi:T.cJ T.C T.P=T:=rfl
 refine W.amS (some ⟨T.cl,0,none⟩) aK w _ ?_
 (delta W.Ck aE aZ fK ay bJ ar c8 ah dK aX;dsimp only)
 refine eI (fun b w'=>b= !(decide (eV key))∧w=w') (fun q J=>⟨fun h=>(by cases h),fun _=>(r4 w aK).use ?_⟩) ?_
 · rintro _ _ ⟨rfl,rfl⟩
   refine ⟨_,rfl,J _ _ ⟨?_,rfl⟩⟩
   unfold eV
   rw[fI]
 rintro _ _ ⟨rfl,rfl⟩
 refine ⟨fun aa=>⟨fun h=>(by cases h),fun _=> ?_⟩,fun aa=> ?_⟩
 · have:¬eV key:=by simpa using aa
   exact ⟨T.C,h,(cp.refl T w).mono (by omega),fun _=>rfl, .inl ⟨rfl,fun af=>absurd af this⟩⟩
 have bg:eV key:=by simpa using aa
 obtain ⟨steps,wx,po⟩:=SY (k:=key) h ft
 refine (Q9 h (by omega) ae oV wx).use ?_
 rintro _ bt ⟨br,Ab,qJ,r5,eu⟩
 rcases eu with ⟨s,wl,rfl,hm,x2⟩|⟨rfl,e8⟩
 rotate_left
 · exact ⟨⟨none,0,0⟩,3,rfl,fun _=>⟨br,Ab,qJ.mono (by omega),r5, .inr (.inr ⟨rfl,bg,fun al=>e8 (mD al (by omega))⟩)⟩,fun af=>(by simp at af)⟩
 have EB:s.len=wl.length:=by
   have:=x2.own.1
   rw[oR _ (BQ wl)] at this;omega
 have ZS:wl.length=T.bu:=by
   have:=wx.length
   rw[←hm,kR] at this;exact this
 refine ⟨s,0,rfl,fun af=>⟨br,Ab,qJ.mono (by omega),r5, .inl ⟨rfl,fun _=> ?_⟩⟩,fun af=> ?_⟩
 · have rT:wl.length=0:=by
     have:((s.len:Nat):Int)=0:=by simpa using af
     omega
   rcases po with ⟨_,_,_,aG⟩|⟨kO,cZ,jV,gL,jN,nq,l6,l7,ar,_⟩
   · rw[aG];rfl
   · rw[ar] at hm
     obtain ⟨aC,_⟩:=GR hm
     omega
 have rT:0<wl.length:=by
   have:¬((s.len:Nat):Int)=0:=by simpa using af
   omega
 have e:IntKind.wrap .i64 (((s.len:Nat):Int)-1)=((wl.length-1:Nat):Int):=by rw[ct (by omega) (by omega)];omega
 obtain ⟨A,ax,_,_,_,hu⟩:=x2.at (i:=wl.length-1) (by omega)
 rcases po with ⟨U,_⟩|⟨kO,cZ,jV,gL,jN,nq,l6,l7,ar,bJ,g8,jX,zU,Ez,B_,Ca,xU,zV,wo⟩
 · rw[U] at hm
   have:=congrArg List.length hm
   simp at this;omega
 have jD:=hm
 rw[ar] at jD
 obtain ⟨aC,aF⟩:=GR jD
 rw[e,g6]
 generalize amT:(wl[wl.length-1]'(by omega))=u at hu aF
 obtain ⟨amU,un,amV,K,V,D⟩:=u
 obtain rfl:un=cZ:=aF
 refine ⟨A,ax,⟨by omega,by omega⟩,_,hu.aS,K,hu.bA,V,hu.aZ,D,hu.fK,cq (vs:=[.bool false, .slice none 0 0, .slice none 0 0, .slice none 0 0]) rfl fun cX Nt q6 Rv=>⟨Nt.de rfl ky,rfl,dW Nt (us:=gj un K V D) rfl rfl fun fC ZY amW asR=> ?_⟩⟩
 have S5:Ext bt fC:=Ext.eX q6 amW (cU _)
 obtain ⟨d0,d1,d2,d3⟩:=b9 ZY
 have xG:=(dC.ni (.inl jX) (by have:=h.Ce _ _ g8;omega))
 have amX:Src 1 fC aK (bm key):=(ae.an qJ.an fun q J jn=>(oV q J).2 (aY.lV jn)).ext S5
 have ZZ:b4 (fun q=>w.heap.size≤q∧¬(T.cJ br T.P).M q) fC un K V D:=hu.dU.ext S5
 refine ⟨_,d0,K,d1,V,d2,D,d3,(xd ZZ amX jX.jk (by omega)).use ?_⟩
 rintro _ dL ⟨rfl,wm⟩
 have eo:=S5.trans wm
 have Z0:=Ab.ext eo
 have wu:cp T (T.cJ br T.P) w dL 30:=(qJ.trans (cp.ext _ eo)).mono (by omega)
 have ti:n0 L key=n0 un.fZ key:=ZW zV (wo (fun L=>mc L key) (Pd key))
 rw[ZX jX] at ti
 refine ⟨_,_,rfl,fun aD=>⟨br,Z0,wu,r5, .inl ⟨rfl,fun _=> ?_⟩⟩,fun aD=> ?_⟩
 · have aD:ob un.keys key=false:=by simpa using aD
   rw[ti,if_neg (by rw[aD];simp)]
 · have aD:ob un.keys key=true:=by simpa using aD
   have S6:dP un.keys key<un.keys.length:=(rq.1 (di aD)).1
   have NH:dP un.keys key<un.vals.length:=by rw[jX.len];exact S6
   obtain ⟨f0,f1,f2,f3⟩:=b9 (ZY.ext wm)
   obtain ⟨S7,hT,S8,A4,S9,NI,_⟩:=bO.at (ZZ.ext wm).vals NH
   refine ⟨V,f2,S7,S8,A4,hT,S9,br,Z0,wu,r5, .inr (.inl ⟨hT,un.vals[dP un.keys key],rfl,bg,?_,bX.bx NI fun q _ aa=>aa.2⟩)⟩
   rw[ti,if_pos aD,gq NH]
end
section
theorem amY {n:aL} {k:Key} (h:m_ n) (ae:ob n.keys k=true):m_ (xf n k)∧(xf n k).fZ=mc n.fZ k∧cd (xf n k)≤cd n∧n.keys.length=(xf n k).keys.length+1∧(∀s∈(xf n k).keys,s∈n.keys):=by
 have hle:=Fx n.keys k
 have ur:=h.jk
 have a6:n.fZ=n.keys.zip n.vals:=rfl
 have he:n.keys[dP n.keys k]? =some k:=di ae
 rw[a6]
 unfold xf
 generalize dP n.keys k=i at hle he⊢
 obtain ⟨a,b,c,d,aW,bq,ec,jW,kT,uB,z_,tO,yF⟩:=SW h hle
 have bD:n.keys.zip n.vals=a.zip c++b.zip d:=by rw[aW,bq];exact De (by omega)
 have oQ:∃iD,b=k::iD:=by
   cases b with
   |nil=>rw[aW,uX (by omega)] at he;simp at he
   |cons y iD=>
     rw[aW,uX (by omega),ec,C6] at he
     simp at he
     exact ⟨iD,by rw[he]⟩
 obtain ⟨iD,rfl⟩:=oQ
 obtain ⟨x,ki,rfl⟩:∃x ki,d=x::ki:=by
   cases d with
   |nil=>simp at kT
   |cons x ki=>exact ⟨x,ki,rfl⟩
 have aC:n.keys.drop (i+1)=iD:=by rw[aW,show a++k::iD=(a++ [k])++iD by simp];exact drop_left' (by simp[ec])
 have aF:n.vals.drop (i+1)=ki:=by rw[bq,show c++x::ki=(c++ [x])++ki by simp];exact drop_left' (by simp[jW])
 rw[uB,tO,aC,aF]
 have oL:(a++k::iD).Pairwise cw:=by rw[←aW];exact ur
 obtain ⟨s4,iX,BX⟩:=AB.1 oL
 have Z1:=rp.1 iX
 have gW:∀z,z∈a++iD→z∈n.keys:=fun z bD=>by
   rw[aW]
   simp only[eH,fP] at bD⊢
   rcases bD with U|U
   · exact .inl U
   · exact .inr (.inr U)
 refine ⟨⟨⟨fun z bD=>h.ok z (gW z bD),AB.2 ⟨s4,Z1.2,fun y b1 z bD=>BX y b1 z (rn _ bD)⟩⟩,h.leaf,?_,h.kids,fun z bD=>h.vals z ?_⟩,?_,?_,?_,gW⟩
 · show (c++ki).length=(a++iD).length
   simp only[dA,iV] at kT⊢;omega
 · rw[bq]
   have bD:z∈c++ki:=bD
   simp only[eH,fP] at bD⊢
   rcases bD with U|U
   · exact .inl U
   · exact .inr (.inr U)
 · show (a++iD).zip (c++ki)=_
   rw[bD,De (by omega),H0,List.zip_cons_cons]
   have f1:mc (a.zip c) k=a.zip c:=Lr fun p a6=>AJ (BX _ (HI a6).1 k List.mem_cons_self)
   have f2:mc ((k,x)::iD.zip ki) k=iD.zip ki:=by
     have:mc ((k,x)::iD.zip ki) k=mc (iD.zip ki) k:=by unfold mc;simp
     rw[this]
     exact Lr fun p a6=>(AJ (Z1.1 _ (HI a6).1)).symm
   rw[f1,f2]
 · rw[GQ h.leaf,GQ (n:={n with keys:=a++iD,vals:=c++ki}) h.leaf]
   show 1+(List.zipWith th (a++iD) (c++ki)).sum≤_
   rw[aW,bq,Fg (by omega),Fg (by omega),wO,wO,List.zipWith_cons_cons,HL]
   omega
 · show n.keys.length=(a++iD).length+1
   rw[aW]
   simp only[dA,iV];omega
end
section
structure p7 (T av:aY):Prop where
 root:av.root=T.root
 bu:av.bu=T.bu
 f:av.f=T.f
 iw:∀no,(T.f no||T.g no)=true→av.P no=T.P no∧av.C.view no=T.C.view no
theorem p7.refl (T:aY):p7 T T:=⟨rfl,rfl,rfl,fun _ _=>⟨rfl,rfl⟩⟩
theorem p7.cJ {T:aY} {br:er} (ak:∀j,br.view j=T.C.view j):p7 T (T.cJ br T.P):=⟨rfl,rfl,rfl,fun no _=>⟨rfl,ak no⟩⟩
theorem p7.trans {T av v7:aY} (U:p7 T av) (ab:p7 av v7) (bg:av.g=T.g):p7 T v7:=
 ⟨ab.root.trans U.root,ab.bu.trans U.bu,ab.f.trans U.f,fun no h=>by
   have ao:=U.iw no h
   have aG:=ab.iw no (by rw[U.f,bg];exact h)
   exact ⟨aG.1.trans ao.1,aG.2.trans ao.2⟩⟩
structure S_ (T av:aY) (eW:List Nat) (hJ:List bo):Prop where
 ok:∃pages,nt av pages hJ∧pages.Nodup∧(∀no∈pages,no∈eW∨(T.f no||T.g no)=false)∧∀no,av.f no=true↔(no∈pages∨(T.f no=true∧no∉eW))
 iw:∀no,T.g no=true→av.P no=T.P no∧av.C.view no=T.C.view no
theorem p7.ok {T av:aY} {pages:List Nat} {L:List bo} (h:p7 T av) (ft:nt T pages L) (aI:∀x∈pages,T.f x=true):nt av pages L:=by
 unfold nt at ft⊢
 rw[h.root,h.bu]
 rcases ft with ft|hw
 · exact .inl ft
 · exact .inr (gJ.agree hw fun x af=>(h.iw x (by rw[aI x af];rfl)).1.symm).1
def amZ (T:aY) (eW:List Nat) (L:List bo) (key:Key) (w:World) (v:Value) (w':World):Prop:=
 ∃av:aY,da w' av∧cp T av w w' 100∧av.E=T.E∧av.G=T.G∧
   ((v= .tuple #[.bool false, .int .i64 1]∧¬eV key∧p7 T av)∨
    (v= .tuple #[.bool false, .int .i64 0]∧eV key∧n0 L key=none∧p7 T av)∨
    (v= .tuple #[.bool false, .int .i64 2]∧eV key∧n0 L key≠none∧fw T<2*T.bu+3∧p7 T av)∨
    (v= .tuple #[.bool true, .int .i64 0]∧eV key∧n0 L key≠none∧2*T.bu+3≤fw T∧S_ T av eW (mc L key))∨
    (v= .tuple #[.bool false, .int .i64 3]∧eV key∧¬T.C.D.calm 100∧p7 T av))
theorem am0 {w:World} {T:aY} {pages:List Nat} {L:List bo} {aK:ad} {key:Key} (h:da w T) (ft:nt T pages L) (dq:L.length<4096) (gC:pages.Nodup) (aI:∀x∈pages,T.f x=true) (fS:T.C.D.cS≤800000000)
   (ae:Src 1 w aK (bm key)) (oV:∀q,aP aK q→q<w.heap.size∧¬T.M q):
   aR Tryz.prog F.Cl #[.pointer (some ⟨T.cl,0,none⟩), .slice aK.a aK.len aK.cap] w (amZ T pages L key w):=by
 have fI:=len8 ae
 have cK:=h.num.2.1
 refine W.am1 (some ⟨T.cl,0,none⟩) aK w _ ?_
 (delta W.Cl aE aZ fK ay bJ ar e6 c8 ah aS;dsimp only)
 refine eI (fun b w'=>b= !(decide (eV key))∧w=w') (fun q J=>⟨fun h=>(by cases h),fun _=>(r4 w aK).use ?_⟩) ?_
 · rintro _ _ ⟨rfl,rfl⟩
   refine ⟨_,rfl,J _ _ ⟨?_,rfl⟩⟩
   unfold eV
   rw[fI]
 rintro _ _ ⟨rfl,rfl⟩
 refine ⟨fun aa=>⟨T,h,(cp.refl T w).mono (by omega),rfl,rfl, .inl ⟨rfl,by simpa using aa, .refl T⟩⟩,fun aa=> ?_⟩
 have bg:eV key:=by simpa using aa
 obtain ⟨steps,wx,po⟩:=SY (k:=key) h ft
 refine (Q9 h (by omega) ae oV wx).use ?_
 rintro _ bt ⟨br,Ab,qJ,r5,eu⟩
 rcases eu with ⟨s,wl,rfl,hm,x2⟩|⟨rfl,e8⟩
 rotate_left
 · exact ⟨⟨none,0,0⟩,3,rfl,fun _=>⟨_,Ab,qJ.mono (by omega),rfl,rfl, .inr (.inr (.inr (.inr ⟨rfl,bg,fun al=>e8 (mD al (by omega)), .cJ r5⟩)))⟩,fun af=>(by simp at af)⟩
 have EB:s.len=wl.length:=by
   have:=x2.own.1
   rw[oR _ (BQ wl)] at this;omega
 have ZS:wl.length=T.bu:=by
   have:=wx.length
   rw[←hm,kR] at this;exact this
 refine ⟨s,0,rfl,fun af=>⟨_,Ab,qJ.mono (by omega),rfl,rfl, .inr (.inl ⟨rfl,bg,?_, .cJ r5⟩)⟩,fun af=> ?_⟩
 · have rT:wl.length=0:=by
     have:((s.len:Nat):Int)=0:=by simpa using af
     omega
   rcases po with ⟨_,_,_,aG⟩|⟨kO,cZ,jV,gL,jN,nq,l6,l7,ar,_⟩
   · rw[aG];rfl
   · rw[ar] at hm
     obtain ⟨aC,_⟩:=GR hm
     omega
 have rT:0<wl.length:=by
   have:¬((s.len:Nat):Int)=0:=by simpa using af
   omega
 have e:IntKind.wrap .i64 (((s.len:Nat):Int)-1)=((wl.length-1:Nat):Int):=by rw[ct (by omega) (by omega)];omega
 obtain ⟨A,ax,_,_,_,hu⟩:=x2.at (i:=wl.length-1) (by omega)
 rcases po with ⟨U,_⟩|⟨kO,cZ,jV,gL,jN,nq,l6,l7,ar,bJ,g8,jX,zU,Ez,B_,Ca,xU,zV,wo⟩
 · rw[U] at hm
   have:=congrArg List.length hm
   simp at this;omega
 have jD:=hm
 rw[ar] at jD
 obtain ⟨aC,aF⟩:=GR jD
 rw[e,g6]
 generalize amT:(wl[wl.length-1]'(by omega))=u at hu aF
 obtain ⟨amU,un,amV,K,V,D⟩:=u
 obtain rfl:un=cZ:=aF
 have xG:=(dC.ni (.inl jX) (by have:=h.Ce _ _ g8;omega))
 have am2:Src 1 bt aK (bm key):=ae.an qJ.an fun q J jn=>(oV q J).2 (aY.lV jn)
 have ti:n0 L key=n0 un.fZ key:=ZW zV (wo (fun L=>mc L key) (Pd key))
 rw[ZX jX] at ti
 refine ⟨A,ax,⟨by omega,by omega⟩,_,hu.aS,K,hu.bA,V,hu.aZ,D,hu.fK,(xh (n:=un) hu.dU jX (by omega) am2).use ?_⟩
 intro v cX eu
 unfold FT at eu
 by_cases aD:ob un.keys key=true
 rotate_left
 · have aD:ob un.keys key=false:=by simpa using aD
   rw[aD,if_neg (by simp)] at eu
   obtain ⟨rfl,q6⟩:=eu
   refine ⟨_,bP,bP,bP,false,rfl,cq (vs:=[.bool false, .slice none 0 0, .slice none 0 0, .slice none 0 0]) rfl fun lj JV Ta am3=>⟨JV.de rfl (ky (b:=oa.leaf) (K:=bP) (V:=bP) (D:=bP)),rfl,dW JV (us:=gj oa bP bP bP) rfl rfl fun dm BT Tb Rj=>⟨fun _=> ?_,fun af=>(by cases af)⟩⟩⟩
   have v_:Ext cX dm:=Ext.eX Ta Tb (cU _)
   have eo:=q6.trans v_
   refine ⟨_,Ab.ext eo,(qJ.trans (cp.ext _ eo)).mono (by omega),rfl,rfl, .inr (.inl ⟨rfl,bg,?_, .cJ r5⟩)⟩
   rw[ti,if_neg (by rw[aD];simp)]
 rw[if_pos aD] at eu
 obtain ⟨cP,cW,c6,rfl,am4,q6⟩:=eu
 refine ⟨_,cP,cW,c6,true,rfl,cq (vs:=[.bool false, .slice none 0 0, .slice none 0 0, .slice none 0 0]) rfl fun lj JV Ta am3=>⟨JV.de rfl ky,rfl,dW JV (us:=gj (xf un key) cP cW c6) rfl rfl fun dm BT Tb Rj=>⟨fun af=>(by cases af),fun _=> ?_⟩⟩⟩
 have v_:Ext cX dm:=Ext.eX Ta Tb (cU _)
 have eo:=q6.trans v_
 obtain ⟨d0,d1,d2,d3⟩:=b9 BT
 obtain ⟨cg,cc,gv,rY,z1⟩:=amY jX aD
 have S6:dP un.keys key<un.keys.length:=(rq.1 (di aD)).1
 have NH:dP un.keys key<un.vals.length:=by rw[jX.len];exact S6
 have Z2:n0 L key≠none:=by
   rw[ti,if_pos aD,gq NH];simp
 have Ew:br.D.cS≤900000000:=by
   have:br.D.cS≤T.C.D.cS+2*T.bu:=qJ.cS
   omega
 have Zv:=q6.size
 have JW:b4 (fun q=>¬(T.cJ br T.P).M q) dm (xf un key) cP cW c6:=(am4.ext v_).bx fun q _ J jD=>by have:=Ab.lt jD;omega
 have S1:=ZP (hJ:=mc L key) (k:=key) (steps:=steps) (c_:=un) (Ab.ext eo) ft dq gC aI Ew hm (x2.ext' eo fun q J=>J.2) JW cg (.inr ⟨kO,jV,gL,jN,nq,l6,l7,ar,bJ,fun s aj=>zU s (z1 s aj),fun aj e=>by
   have ng:=B_ aj
   rw[e] at rY
   simp at rY;omega,xU,by rw[cc];exact wo (fun L=>mc L key) (Pd key),by have:=h.Ce _ _ g8;omega⟩)
 refine ⟨_,d0,cP,d1,cW,d2,c6,d3,S1.use ?_⟩
 rintro v w' ⟨av,U,ab,ao,aG,aV⟩
 have cH:=((qJ.trans (cp.ext (T.cJ br T.P) eo)).trans ab).mono (l:=100) (by omega)
 have ZN:fw (T.cJ br T.P)=fw T:=rfl
 have ZO:(T.cJ br T.P).bu=T.bu:=rfl
 rcases aV with ⟨rfl,b_,hY⟩|⟨rfl,b_,hY,ng⟩|⟨rfl,b_,hY,ng,qn,NC⟩
 · subst hY
   exact ⟨2,rfl,_,U,cH,ao,aG, .inr (.inr (.inl ⟨rfl,bg,Z2,b_, .cJ r5⟩))⟩
 · exact ⟨0,rfl,_,U,cH,ao,aG, .inr (.inr (.inr (.inl ⟨rfl,bg,Z2,b_,hY,fun no dx=>⟨(ng no dx).1,(ng no dx).2.trans (r5 no)⟩⟩)))⟩
 · exact ⟨3,rfl,_,U,cH,ao,aG, .inr (.inr (.inr (.inr ⟨rfl,bg,fun al=>b_ (qJ.calm 60 (mD al (by omega))),(p7.cJ r5).trans ⟨hY,ng,qn,NC⟩ rfl⟩)))⟩
end
end Go.Proofs.YtplieiecebljmaaGreat
