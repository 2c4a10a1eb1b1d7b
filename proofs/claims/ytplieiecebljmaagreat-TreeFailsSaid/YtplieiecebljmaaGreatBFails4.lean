/- Contracts of the functions that the statement reaches, and the plain laws over them; each theorem stands with its conditions. -/
import Derived.Laws.Small
import Derived.Test.YtplieiecebljmaaGreatBFails3
namespace Go.Proofs.YtplieiecebljmaaGreat
open Go b_
section
theorem abd {B:Nat→Prop} {w:World} {s:aa} {ls:List Key} (h:bZ B w s ls) (az:ls.length≤100000):
   aQ Tryz.prog F.A0 #[.slice s.a s.len s.cap] w (fun v w'=>∃ar:aa,v= .slice ar.a ar.len ar.cap∧b4 (fun q=>(B q∧q<w.heap.size)∨(w.heap.size≤q∧aO ar q)) w' ar ls∧Ext w w'∧oU w ar):=by
 have gw:=bZ.len h
 obtain ⟨ts,aA,aE,aI,aL,cQ⟩:=h
 refine W.anY s w _ ?_
 delta W.A0 aB ai
 refine ⟨fun aR=> ?_,fun _=> ?_⟩
 · have aR:s.a=none:=by simpa using aR
   have b7:=aE.nil aR
   have:ls=[]:=List.eq_nil_of_length_eq_zero (by rw[←aA];have:=congrArg List.length b7;simpa using this)
   subst this
   exact ⟨⟨none,0,0⟩,rfl,b4.none _ _, .refl _ _,fun k ae=>(qJ k ae).elim⟩
 · obtain ⟨ar,w',U,ad,au,aJ,a6,_⟩:=Ho.clone (eB:=ah.cL) aE (N8 ts) (by omega)
   refine bL ⟨ar,w',U,ar,rfl,⟨ts,aA,ad,fun q J=>⟨.inr ⟨a6 q J,J⟩,ad.lt q J⟩,fun i i1 i2=> ?_⟩,aJ,a6⟩
   have a:=cQ i i1 i2
   exact ⟨bF.bz (bF.ext (bF.bz (C:=fun q=>B q∧q<w.heap.size) a fun q J ab=>⟨ab,J⟩) aJ) fun q _ ab=> .inl ab,fun k ae eC=>by have:=a6 k eC;have:=(a.2.2 k ae).2;omega⟩
theorem xJ.at {B:Nat→Prop} {w:World} {s:aa} {ks:List Key} {kids:List Nat} (h:xJ B w s ks kids):s.len=kids.length∧kids.length=ks.length+1∧kids.length≤2∧∀ (j:Nat) (a_:j<kids.length),∃ (A:Addr) (t:aa),s.a=some A∧w.cell? (A.add (j*2))=some (.slice t.a t.len t.cap)∧w.cell? ((A.add (j*2)).add 1)=some (.int .i64 ((kids[j]:Nat):Int))∧
   ((t.a=none∧ks.take j=ks.take (j-1))∨(t.a.isSome=true∧∃k,bF B w t k∧ks.take j=ks.take (j-1)++ [k])):=by
 rcases h with ⟨b,x,rfl,rfl,rfl,ak,ab⟩|⟨b,x,y,k,t,rfl,rfl,rfl,ak,ab,aV,ae⟩
 · refine ⟨rfl,rfl,by simp,fun j a_=> ?_⟩
   have:j=0:=by simp at a_;omega
   subst this
   exact ⟨_,⟨none,0,0⟩,rfl,by rw[aW];exact ak.cell,by rw[aW,aW];exact ak.cell, .inl ⟨rfl,rfl⟩⟩
 · refine ⟨rfl,rfl,by simp,fun j a_=> ?_⟩
   rcases g6 j 1 with U|U
   · have:j=0:=by omega
     subst this
     exact ⟨_,⟨none,0,0⟩,rfl,by rw[aW];exact ak.cell,by rw[aW,aW];exact ak.cell, .inl ⟨rfl,rfl⟩⟩
   · have:j=1:=by simp at a_;omega
     subst this
     obtain ⟨A,ax⟩:=bF.some aV ae
     exact ⟨_,t,rfl,by rw[aW];exact ak.cell,by rw[aW,aW];exact ak.cell, .inr ⟨by rw[ax];rfl,k,aV,rfl⟩⟩
theorem xJ.ext {B:Nat→Prop} {w w':World} {s:aa} {ks:List Key} {kids:List Nat} (h:xJ B w s ks kids) (af:Ext w w'):xJ B w' s ks kids:=by
 rcases h with ⟨b,x,U,ad,au,ak,ab⟩|⟨b,x,y,k,t,U,ad,au,ak,ab,aV,ae⟩
 · exact .inl ⟨b,x,U,ad,au,ak.ext af,ab⟩
 · exact .inr ⟨b,x,y,k,t,U,ad,au,ak.ext af,ab,bF.ext aV af,ae⟩
theorem anZ {w:World} {bE o:Nat} {vs:List Value} {S t:aa} {ls:List Key} {l:Key} {B:Nat→Prop} {T:TypeId} (ak:Var w bE vs T) (Aq:o<vs.length) (ph:b4 B w S ls) (CF:¬B bE)
   (aV:bF B w t l) (hd:∀k,aO t k→¬aO S k) (aD:ls.length≤100000) {K:World→Prop}
   (bu:∀ (w':World) (gO:aa),Var w' bE (vs.set o (.slice gO.a gO.len gO.cap)) T→b4 (Grow B w w') w' gO (ls++ [l])→ao (fun q=>q=bE∨aO S q) w w'→(∀k,aO gO k→aO S k∨w.heap.size≤k)→K w'):
   ay (w.alloc (.cells #[.slice t.a t.len t.cap] ah.cm)) fun gf=>∃de:aa,∃e1:World,Sem.run Tryz.prog (Builtin.append_ #[ah.cL,ah.cL] ah.cL #[.slice S.a S.len S.cap, .slice (some ⟨w.heap.size,0,none⟩) 1 1]) gf= .ok (.slice de.a de.len de.cap) e1∧
     (∃u:Value,e1.cell? (Addr.add ⟨bE,0,none⟩ o)=some u)∧e1.frozen? (Addr.add ⟨bE,0,none⟩ o)=false∧ay (e1.setCell (Addr.add ⟨bE,0,none⟩ o) (.slice de.a de.len de.cap)) fun eR=>K eR:=by
 have Ar:=b4.bz (C:=fun q=>B q∨w.heap.size≤q) ph fun k _ h=> .inl h
 have nT:=bF.bz (C:=fun q=>B q∨w.heap.size≤q) aV fun k _ h=> .inl h
 obtain ⟨ar,w',aA,aE,aI,aL⟩:=YT Ar nT hd (by omega) fun k ae=> .inr ae
 have kC:=ak.lt
 have J1:¬aO S bE:=fun h=>by
   obtain ⟨ts,_,_,au,_⟩:=ph
   exact CF (au bE h).1
 have qR:=ak.an aI J1
 obtain ⟨aT,bC⟩:=js qR Aq
 refine bL ⟨ar,w',aA,?_⟩
 rw[aW,gz]
 have al:=ig w' bE o (.slice ar.a ar.len ar.cap)
 refine ⟨aT,bC,bL (bu _ ar (jr qR _) ?_ ?_ aL)⟩
 · have a6:=b4.bz (C:=Grow B w (w'.setCell ⟨bE,o,none⟩ (.slice ar.a ar.len ar.cap))) aE fun k ae h=>by
     rcases h with h|h
     · exact .inl h
     · exact .inr ⟨h,lE ae al.size⟩
   refine b4.an a6 al fun k ae e=> ?_
   subst e
   rcases ae with h|h
   · exact CF h
   · omega
 · exact (aI.mono fun k _ ae=> .inr ae).trans (al.mono fun k _ ae=> .inl ae)
def Pg (B:Nat→Prop) (n:aM) (fr to:Nat) (ks:List Key) (kids:List Nat) (w:World) (v:Value) (w':World):Prop:=
 ∃K V D:aa,v=e9 (mq n fr to ks kids) K V D∧cd (fun q=>B q∨w.heap.size≤q) w' (mq n fr to ks kids) K V D∧Ext w w'
def TZ (bE aK nE:Nat) (l:aa) (to:Int) (fA:World) (Q:Value→World→Prop):Prop:=
 ∃ (FK:Int→World→Prop) (K0:Int→World→Nat),FK 0 fA∧∀ (n19:Int) (cB:World),FK n19 cB→((decide ((n19:Int)<((l.len:Nat):Int)))=true→∃kF:Addr,l.a=some kF∧((0:Int)≤n19∧n19<((l.len:Nat):Int))∧∃fW:aa,cB.cell? (kF.add (Int.toNat n19*2))=some (.slice fW.a fW.len fW.cap)∧∃n23:Int,cB.cell? ((kF.add (Int.toNat n19*2)).add 1)=some (.int .i64 n23)∧ay (cB.alloc (.cells #[.slice none 0 0, .int .i64 0] ah.vT)) fun cW=>cZ cW ⟨cB.heap.size,0,none⟩ [.slice fW.a fW.len fW.cap, .int .i64 n23]∧(2:Nat)=2∧ay (setCells cW ⟨cB.heap.size,0,none⟩ 0 [.slice fW.a fW.len fW.cap, .int .i64 n23]) fun fH=>cY (fun Dz:World→Prop=>∃dh:aa,fH.cell? ⟨cB.heap.size,0,none⟩=some (.slice dh.a dh.len dh.cap)∧((!(Option.isNone dh.a))=true→∃eV:aa,fH.cell? (Addr.add ⟨aK,0,none⟩ 1)=some (.slice eV.a eV.len eV.cap)∧∃ib:aa,fH.cell? ⟨cB.heap.size,0,none⟩=some (.slice ib.a ib.len ib.cap)∧ay (fH.alloc (.cells #[.slice ib.a ib.len ib.cap] ah.cm)) fun gn=>∃ik:aa,∃nC:World,Sem.run Tryz.prog (Builtin.append_ #[ah.cL,ah.cL] ah.cL #[.slice eV.a eV.len eV.cap, .slice (some ⟨fH.heap.size,0,none⟩) 1 1]) gn= .ok (.slice ik.a ik.len ik.cap) nC∧(∃u:Value,nC.cell? (Addr.add ⟨aK,0,none⟩ 1)=some u)∧nC.frozen? (Addr.add ⟨aK,0,none⟩ 1)=false∧ay (nC.setCell (Addr.add ⟨aK,0,none⟩ 1) (.slice ik.a ik.len ik.cap)) fun e1=>Dz e1)∧((!(Option.isNone dh.a))=false→Dz fH)) (fun (eR:World)=>∃fX:aa,eR.cell? (Addr.add ⟨aK,0,none⟩ 3)=some (.slice fX.a fX.len fX.cap)∧∃n36:Int,eR.cell? (Addr.add ⟨cB.heap.size,0,none⟩ 1)=some (.int .i64 n36)∧ay (eR.alloc (.cells #[.int .i64 n36] ah.int)) fun kn=>∃ej:aa,∃lQ:World,Sem.run Tryz.prog (Builtin.append_ #[ah.eg,ah.eg] ah.eg #[.slice fX.a fX.len fX.cap, .slice (some ⟨eR.heap.size,0,none⟩) 1 1]) kn= .ok (.slice ej.a ej.len ej.cap) lQ∧(∃u:Value,lQ.cell? (Addr.add ⟨aK,0,none⟩ 3)=some u)∧lQ.frozen? (Addr.add ⟨aK,0,none⟩ 3)=false∧ay (lQ.setCell (Addr.add ⟨aK,0,none⟩ 3) (.slice ej.a ej.len ej.cap)) fun uB=>FK (IntKind.wrap .i64 (n19+1)) uB∧K0 (IntKind.wrap .i64 (n19+1)) uB<K0 n19 cB))∧((decide ((n19:Int)<((l.len:Nat):Int)))=false→ay (cB.drew) fun dE=>¬False∧∃nf:aa,dE.cell? (Addr.add ⟨aK,0,none⟩ 1)=some (.slice nf.a nf.len nf.cap)∧¬False∧∃hU:aa,dE.cell? (Addr.add ⟨bE,0,none⟩ 1)=some (.slice hU.a hU.len hU.cap)∧((0:Int)≤(IntKind.wrap .i64 (to-1))∧(IntKind.wrap .i64 (to-1))≤((hU.len:Nat):Int))∧∃iX:aa,∃j1:World,Sem.run Tryz.prog (Builtin.append_ #[ah.cL,ah.cL] ah.cL #[.slice nf.a nf.len nf.cap, .slice (bg hU.a 1 (Int.toNat (IntKind.wrap .i64 (to-1))) hU.cap) (hU.len-(Int.toNat (IntKind.wrap .i64 (to-1)))) (hU.cap-(Int.toNat (IntKind.wrap .i64 (to-1))))]) dE= .ok (.slice iX.a iX.len iX.cap) j1∧(∃u:Value,j1.cell? (Addr.add ⟨aK,0,none⟩ 1)=some u)∧j1.frozen? (Addr.add ⟨aK,0,none⟩ 1)=false∧ay (j1.setCell (Addr.add ⟨aK,0,none⟩ 1) (.slice iX.a iX.len iX.cap)) fun hX=>ay (hX.drew) fun dy=>¬False∧∃nF:aa,dy.cell? (Addr.add ⟨aK,0,none⟩ 3)=some (.slice nF.a nF.len nF.cap)∧¬False∧∃jA:aa,dy.cell? (Addr.add ⟨bE,0,none⟩ 3)=some (.slice jA.a jA.len jA.cap)∧((0:Int)≤to∧to≤((jA.len:Nat):Int))∧∃gi:aa,∃rQ:World,Sem.run Tryz.prog (Builtin.append_ #[ah.eg,ah.eg] ah.eg #[.slice nF.a nF.len nF.cap, .slice (bg jA.a 1 (Int.toNat to) jA.cap) (jA.len-(Int.toNat to)) (jA.cap-(Int.toNat to))]) dy= .ok (.slice gi.a gi.len gi.cap) rQ∧(∃u:Value,rQ.cell? (Addr.add ⟨aK,0,none⟩ 3)=some u)∧rQ.frozen? (Addr.add ⟨aK,0,none⟩ 3)=false∧ay (rQ.setCell (Addr.add ⟨aK,0,none⟩ 3) (.slice gi.a gi.len gi.cap)) fun ko=>∃tp:Bool,ko.cell? ⟨aK,0,none⟩=some (.bool tp)∧∃lR:aa,ko.cell? (Addr.add ⟨aK,0,none⟩ 1)=some (.slice lR.a lR.len lR.cap)∧∃rR:aa,ko.cell? (Addr.add ⟨aK,0,none⟩ 2)=some (.slice rR.a rR.len rR.cap)∧∃ir:aa,ko.cell? (Addr.add ⟨aK,0,none⟩ 3)=some (.slice ir.a ir.len ir.cap)∧cZ ko ⟨nE,0,none⟩ [.bool tp, .slice lR.a lR.len lR.cap, .slice rR.a rR.len rR.cap, .slice ir.a ir.len ir.cap]∧(4:Nat)=4∧ay (setCells ko ⟨nE,0,none⟩ 0 [.bool tp, .slice lR.a lR.len lR.cap, .slice rR.a rR.len rR.cap, .slice ir.a ir.len ir.cap]) fun j2=>∃yQ:Bool,j2.cell? ⟨nE,0,none⟩=some (.bool yQ)∧∃iu:aa,j2.cell? (Addr.add ⟨nE,0,none⟩ 1)=some (.slice iu.a iu.len iu.cap)∧∃fq:aa,j2.cell? (Addr.add ⟨nE,0,none⟩ 2)=some (.slice fq.a fq.len fq.cap)∧∃h_:aa,j2.cell? (Addr.add ⟨nE,0,none⟩ 3)=some (.slice h_.a h_.len h_.cap)∧Q ( .agg #[.bool yQ, .slice iu.a iu.len iu.cap, .slice fq.a fq.len fq.cap, .slice h_.a h_.len h_.cap]) j2)
structure H5 (B:Nat→Prop) (lo:Nat) (bE aK nE:Nat) (n:aM) (K V D:aa) (vG:List Value) (w:World) (aU aP:aa) (cC cu:Nat→Prop) (ks:List Key) (ds:List Nat):Prop where
 l_:Var w bE [.bool n.leaf, .slice K.a K.len K.cap, .slice V.a V.len V.cap, .slice D.a D.len D.cap] ah.cO
 r:Var w nE vG ah.cO
 o:Var w aK [.bool false, .slice aU.a aU.len aU.cap, .slice none 0 0, .slice aP.a aP.len aP.cap] ah.cO
 k:b4 cC w aU ks
 d:eO cu w aP ds
 bT:∀q,cC q→(B q∧q<lo)∨(lo≤q∧q<w.heap.size∧q≠bE∧q≠aK∧q≠nE∧¬cu q)
 a7:∀q,cu q→lo≤q∧q<w.heap.size∧q≠bE∧q≠aK∧q≠nE
 A1:∀q,aO aU q→lo≤q
theorem H5.ext {B:Nat→Prop} {lo bE aK nE:Nat} {n:aM} {K V D:aa} {vG:List Value} {w w':World} {aU aP:aa} {cC cu:Nat→Prop} {ks:List Key} {ds:List Nat} (h:H5 B lo bE aK nE n K V D vG w aU aP cC cu ks ds) (af:Ext w w'):H5 B lo bE aK nE n K V D vG w' aU aP cC cu ks ds:=by
 have bN:=af.size
 exact ⟨h.l_.ext af,h.r.ext af,h.o.ext af,b4.ext h.k af,eO.ext h.d af,fun q J=>(h.bT q J).imp id fun h=>⟨h.1,by omega,h.2.2⟩,fun q J=>⟨(h.a7 q J).1,by have:=(h.a7 q J).2.1;omega,(h.a7 q J).2.2⟩,h.A1⟩
theorem an0 {B:Nat→Prop} {w fA:World} {bE aK nE:Nat} {n:aM} {K V D s gE hY:aa} {vG:List Value} {cC cu:Nat→Prop} {ks:List Key} {kids:List Nat} {fr to:Nat} (g9:H5 B w.heap.size bE aK nE n K V D vG fA gE hY cC cu (n.keys.take fr) (n.kids.take fr)) (dS:Ext w fA)
   (aD:cd B w n K V D) (az:xJ B w s ks kids) (S0:vG.length=4) (U:w.heap.size≤bE) (ad:w.heap.size≤aK) (au:w.heap.size≤nE) (aJ:bE≠aK∧bE≠nE∧aK≠nE) (t1:1≤to) (t2:to≤n.kids.length) (t3:to-1≤n.keys.length) (dk:n.keys.length≤1000) (db:n.kids.length≤1000):
   TZ bE aK nE s (to:Nat) fA (Pg B n fr to ks kids w):=by
 obtain ⟨cq,cx,iK,mG⟩:=az.at
 unfold TZ
 refine ⟨fun i w'=>∃ (j:Nat) (aU aP:aa) (cC cu:Nat→Prop),i=j∧j≤kids.length∧Ext w w'∧H5 B w.heap.size bE aK nE n K V D vG w' aU aP cC cu (n.keys.take fr++ks.take (j-1)) (n.kids.take fr++kids.take j),fun i _=>((kids.length:Int)-i).toNat,⟨0,gE,hY,cC,cu,rfl,fl _,dS,by simpa using g9⟩,?_⟩
 rintro _ cB ⟨j,aU,aP,cC,cu,rfl,a_,o3,h⟩
 have O4:=o3.size
 refine ⟨fun bd=> ?_,fun cg=> ?_⟩
 · have bd:j<kids.length:=by
     have:((j:Nat):Int)<((s.len:Nat):Int):=dD bd
     omega
   obtain ⟨A,t,ax,aT,bC,n2⟩:=(az.ext o3).at.2.2.2 j bd
   refine ⟨A,ax,⟨by omega,by omega⟩,t,by rw[gY];exact aT,_,by rw[gY];exact bC,?_⟩
   have n2:(t.a=none∧ks.take j=ks.take (j-1))∨(t.a.isSome=true∧∃k,bF (fun q=>B q∧q<w.heap.size) cB t k∧ks.take j=ks.take (j-1)++ [k]):=by
     obtain ⟨T0,Fb,oG,Pe,_,jP⟩:=mG j bd
     rw[ax] at oG;cases oG
     have e:=ao.cell o3 (fun h=>h) Pe
     rw[aT] at e
     injection e with e
     obtain rfl:t=Fb:=by
       cases t;cases Fb;simp at e;simp[e]
     rcases jP with h|⟨U,k,ad,au⟩
     · exact .inl h
     · exact .inr ⟨U,k,bF.ext (bF.bz ad fun q J ab=>⟨ab,J⟩) o3,au⟩
   refine cn (vs:=[.slice none 0 0, .int .i64 0]) rfl fun cW Dx sF KY=> ?_
   refine ⟨Dx.dA rfl ?_,rfl,ek Dx (us:=[.slice t.a t.len t.cap, .int .i64 ((kids[j]:Nat):Int)]) rfl rfl fun fH AX an1 ank=> ?_⟩
   · intro v ak
     simp only[gb,m4,m5] at ak
     rcases ak with rfl|rfl<;>trivial
   have AY:Ext cB fH:=Ext.eX sF an1 (cV _)
   have pv:=h.ext AY
   have awa:=AY.size
   have abe:=o3.trans AY
   obtain ⟨kH,Ph⟩:∃kH,kH=cB.heap.size:=⟨_,rfl⟩
   rw[←Ph] at AX⊢
   have awb:=AX.lt
   refine wV (fun eR=>∃ (c9:aa) (s7:Nat→Prop),H5 B w.heap.size bE aK nE n K V D vG eR c9 aP s7 cu (n.keys.take fr++ks.take j) (n.kids.take fr++kids.take j)∧Ext w eR∧Var eR kH [.slice t.a t.len t.cap, .int .i64 ((kids[j]:Nat):Int)] ah.vT∧fH.heap.size≤eR.heap.size) (fun q J=>⟨t,AX.cell,fun ab=> ?_,fun ab=> ?_⟩) ?_
   · rcases n2 with ⟨aR,_⟩|⟨_,k,aV,qF⟩
     · rw[aR] at ab;cases ab
     obtain ⟨A2,jy,lL,xK⟩:=cj (V:=⟨none,0,0⟩) pv.o
     have Pj:∀q,aO aU q→cC q:=fun q J=>by
       obtain ⟨ts,_,_,au,_⟩:=pv.k
       exact (au q J).1
     refine ⟨aU,jy,t,AX.cell,anZ (B:=fun q=>cC q∨(B q∧q<w.heap.size)) pv.o (o:=1) (by simp) (b4.bz pv.k fun q _ ab=> .inl ab) (fun ab=> ?_) (bF.bz (bF.ext aV AY) fun q _ ab=> .inr ab) (fun q J ae=> ?_) ?_ fun w' gO aA aE aI aL=>J _ ⟨gO,Grow (fun q=>cC q∨(B q∧q<w.heap.size)) fH w',?_,?_,?_,aI.size⟩⟩
     · rcases ab with ab|ab
       · rcases pv.bT _ ab with a6|a6
         · omega
         · exact a6.2.2.2.1 rfl
       · omega
     · have:=(aV.2.2 q J).1.2
       have:=pv.A1 q ae
       omega
     · rw[dU,d_,d_];omega
     · have H6:=aI.size
       have A3:∀q,aO aU q→q<cB.heap.size∧q≠bE∧q≠aK∧q≠nE∧¬cu q:=fun q J=>by
         have b8:=h.A1 q J
         rcases h.bT q (Pj q J) with a6|a6
         · omega
         · exact a6.2
       refine ⟨pv.l_.an aI fun J=> ?_,pv.r.an aI fun J=> ?_,aA,?_,eO.an pv.d aI fun q ab J=> ?_,fun q ab=> ?_,fun q ab=>⟨(pv.a7 q ab).1,by have:=(pv.a7 q ab).2.1;omega,(pv.a7 q ab).2.2⟩,fun q J=> ?_⟩
       · rcases J with e|J
         · exact aJ.1 e
         · exact (A3 _ J).2.1 rfl
       · rcases J with e|J
         · exact aJ.2.2 e.symm
         · exact (A3 _ J).2.2.2.1 rfl
       · rw[qF,←eL];exact aE
       · rcases J with e|J
         · exact (pv.a7 q ab).2.2.2.1 e
         · exact (A3 q J).2.2.2.2 ab
       · rcases ab with (ab|ab)|ab
         · exact (pv.bT q ab).imp id fun a6=>⟨a6.1,by omega,a6.2.2⟩
         · exact .inl ab
         · refine .inr ⟨by omega,ab.2,fun e=> ?_,fun e=> ?_,fun e=> ?_,fun hd=> ?_⟩
           · have:=pv.l_.lt;omega
           · have:=pv.o.lt;omega
           · have:=pv.r.lt;omega
           · have:=(pv.a7 q hd).2.1;omega
       · rcases aL q J with a6|a6
         · exact h.A1 q a6
         · omega
     · exact Ext.gN abe aI fun q J=>by
         rcases J with rfl|J
         · exact ad
         · exact pv.A1 q J
     · refine AX.an aI fun J=> ?_
       rcases J with e|J
       · have:=h.o.lt;omega
       · rcases h.bT _ (Pj _ J) with a6|a6<;>omega
   · rcases n2 with ⟨_,qF⟩|⟨aR,_⟩
     · refine J _ ⟨aU,cC,?_,abe,AX,cV _⟩
       rw[qF];exact pv
     · cases Pk:t.a with
       |none=>rw[Pk] at aR;cases aR
       |some A=>rw[Pk] at ab;cases ab
   rintro eR ⟨c9,s7,o4,Pl,abf,anU⟩
   have awc:=abf.lt
   obtain ⟨A2,jy,lL,xK⟩:=cj (V:=⟨none,0,0⟩) o4.o
   have DA:∀q,aO aP q→cu q:=fun q J=>(o4.d.2 q J).1
   have sC:∀q,s7 q→¬(q=aK∨aO aP q):=fun q ab J=>by
     rcases o4.bT q ab with a6|a6
     · rcases J with e|J
       · omega
       · have:=(o4.a7 q (DA q J)).1;omega
     · rcases J with e|J
       · exact a6.2.2.2.1 e
       · exact a6.2.2.2.2.2 (DA q J)
   have hw:IntKind.wrap .i64 ((j:Int)+1)=((j+1:Nat):Int):=by rw[cz (by omega) (by omega)];rfl
   refine ⟨aP,xK,_,by rw[aW];exact abf.cell,(Y4 (W:=fun _=>True) kids[j] o4.o (o:=3) (by simp) o4.d (fun ab=>(o4.a7 _ ab).2.2.2.1 rfl) (by rw[dU,d_,d_];omega) fun w' gO aA aE aI=>⟨⟨j+1,c9,gO,s7,Grow cu eR w',hw,by omega,?_,?_⟩,?_⟩).2⟩
   · exact Ext.gN Pl aI fun q J=>by
       rcases J with rfl|J
       · exact ad
       · exact (o4.a7 q (DA q J)).1
   · have H6:=aI.size
     refine ⟨o4.l_.an aI fun J=> ?_,o4.r.an aI fun J=> ?_,aA,?_,?_,fun q ab=> ?_,fun q ab=> ?_,o4.A1⟩
     · rcases J with e|J
       · exact aJ.1 e
       · exact (o4.a7 _ (DA _ J)).2.2.1 rfl
     · rcases J with e|J
       · exact aJ.2.2 e.symm
       · exact (o4.a7 _ (DA _ J)).2.2.2.2 rfl
     · exact b4.an o4.k aI sC
     · rw[qz bd,←eL];exact aE
     · refine (o4.bT q ab).imp id fun a6=>⟨a6.1,by omega,a6.2.2.1,a6.2.2.2.1,a6.2.2.2.2.1,fun hd=> ?_⟩
       rcases hd with hd|hd
       · exact a6.2.2.2.2.2 hd
       · omega
     · rcases ab with ab|ab
       · exact ⟨(o4.a7 q ab).1,by have:=(o4.a7 q ab).2.1;omega,(o4.a7 q ab).2.2⟩
       · refine ⟨by have:=Pl.size;omega,ab.2,fun e=> ?_,fun e=> ?_,fun e=> ?_⟩
         · have:=o4.l_.lt;omega
         · have:=o4.o.lt;omega
         · have:=o4.r.lt;omega
   · rw[hw]
     show ((kids.length:Int)-((j+1:Nat):Int)).toNat<((kids.length:Int)-(j:Int)).toNat
     omega
 · have cg:j=kids.length:=by
     have:¬((j:Nat):Int)<((s.len:Nat):Int):=eW cg
     omega
   subst cg
   have bA:Ext cB cB.drew:=dL _
   have h:=h.ext bA
   have o3:=o3.trans bA
   have qF:ks.take (kids.length-1)=ks:=gX (by omega)
   rw[qF,qB] at h
   obtain ⟨A2,jy,lL,xK⟩:=cj (V:=⟨none,0,0⟩) h.o
   obtain ⟨xL,pZ,iB,DB⟩:=cj h.l_
   have abg:cd (fun q=>B q∧q<w.heap.size) w n K V D:=aD.bz fun q J ab=>⟨ab,J⟩
   have T1:=abg.ext o3
   have DC:=bZ.len T1.keys
   have K1:=eo.len T1.kids
   have abh:IntKind.wrap .i64 ((to:Int)-1)=((to-1:Nat):Int):=by rw[cz (by omega) (by omega)];omega
   have Pj:∀q,aO aU q→cC q:=fun q J=>by
     obtain ⟨ts,_,_,au,_⟩:=h.k
     exact (au q J).1
   have DA:∀q,aO aP q→cu q:=fun q J=>(h.d.2 q J).1
   have abi:=bZ.sub T1.keys (lo:=to-1) (hi:=n.keys.length) t3 (cV _)
   have an2:(n.keys.drop (to-1)).take (n.keys.length-(to-1))=n.keys.drop (to-1):=gX (by rw[fG];exact cV _)
   rw[an2] at abi
   obtain ⟨uC,j1,aY,bo,en⟩:=SZ h.k abi (fun q J ae=>by have:=h.A1 q ae;omega) (by rw[dU,d_];omega) (by rw[fG];omega)
   have xi:cB.drew.heap.size=cB.heap.size:=rfl
   have A3:∀q,aO aU q→q<cB.drew.heap.size∧q≠bE∧q≠aK∧q≠nE∧¬cu q:=fun q J=>by
     have b8:=h.A1 q J
     rcases h.bT q (Pj q J) with a6|a6
     · omega
     · exact a6.2
   have awd:=en.size
   have an3:Ext w j1:=Ext.gN o3 en fun q J=>h.A1 q J
   have abj:=h.o.an en fun J=>(A3 _ J).2.2.1 rfl
   have an4:=h.l_.an en fun J=>(A3 _ J).2.1 rfl
   have an5:=h.r.an en fun J=>(A3 _ J).2.2.2.1 rfl
   have an6:eO cu j1 aP _:=eO.an h.d en fun q ab J=>(A3 q J).2.2.2.2 ab
   obtain ⟨dI,ew⟩:=js abj (i:=1) (by simp)
   refine bL ⟨id,aU,jy,id,K,pZ,?_,uC,j1,?_,by rw[aW];exact dI,by rw[aW];exact ew,?_⟩
   · rw[abh,DC];omega
   · rw[abh,gY,DC];exact aY
   rw[aW,gz]
   have FL:=ig j1 aK 1 (.slice uC.a uC.len uC.cap)
   have K2:=jr abj (i:=1) (.slice uC.a uC.len uC.cap)
   obtain ⟨hX,an7⟩:∃hX,hX=j1.setCell ⟨aK,1,none⟩ (.slice uC.a uC.len uC.cap):=⟨_,rfl⟩
   rw[←an7] at FL K2⊢
   have anr:=FL.size
   have T2:=an4.an FL (fun e=>aJ.1 e)
   have T3:=an5.an FL (fun e=>aJ.2.2 e.symm)
   have T4:eO cu hX aP _:=eO.an an6 FL fun q ab e=>(h.a7 q ab).2.2.2.1 e
   have vV:Ext w hX:=Ext.eX an3 FL ad
   have nG:Ext hX hX.drew:=dL _
   have lH:∀q,(cC q∨(B q∧q<w.heap.size)∨cB.drew.heap.size≤q)→q≠aK:=fun q J e=>by
     subst e
     rcases J with J|J|J
     · rcases h.bT _ J with a6|a6
       · omega
       · exact a6.2.2.2.1 rfl
     · omega
     · have:=h.o.lt;omega
   have an8:=bZ.ext (bZ.an bo FL lH) nG
   have K2:=K2.ext nG
   have T2:=T2.ext nG
   have T3:=T3.ext nG
   have T4:=eO.ext T4 nG
   have vV:=vV.trans nG
   obtain ⟨A2,jy,lL,xK⟩:=cj (V:=⟨none,0,0⟩) K2
   obtain ⟨xL,pZ,iB,DB⟩:=cj T2
   have abk:=eo.sub (abg.ext vV).kids (lo:=to) (hi:=n.kids.length) t2 (cV _)
   have an9:(n.kids.drop to).take (n.kids.length-to)=n.kids.drop to:=gX (by rw[fG];exact cV _)
   rw[an9] at abk
   obtain ⟨uD,rQ,f1,f2,f3⟩:=ZH T4 abk (by rw[dU,d_];omega) (by rw[fG];omega)
   have awe:hX.drew.heap.size=hX.heap.size:=rfl
   have awf:=f3.size
   have hF:∀q,aO aP q→w.heap.size≤q∧q<cB.drew.heap.size∧q≠bE∧q≠aK∧q≠nE:=fun q J=>h.a7 q (DA q J)
   have an_:Ext w rQ:=Ext.gN vV f3 fun q J=>(hF q J).1
   have abl:=K2.an f3 fun J=>(hF _ J).2.2.2.1 rfl
   have aoa:=T3.an f3 fun J=>(hF _ J).2.2.2.2 rfl
   have aob:=bZ.an an8 f3 fun q ab J=>by
     have awg:=hF q J
     rcases ab with ab|ab|ab
     · rcases h.bT q ab with a6|a6
       · omega
       · exact a6.2.2.2.2.2 (DA q J)
     · omega
     · omega
   obtain ⟨dI,ew⟩:=js abl (i:=3) (by simp)
   refine bL (bL ⟨id,aP,xK,id,D,DB,?_,uD,rQ,?_,by rw[aW];exact dI,by rw[aW];exact ew,?_⟩)
   · rw[K1];omega
   · rw[gY,K1];exact f1
   rw[aW,gz]
   have A4:=ig rQ aK 3 (.slice uD.a uD.len uD.cap)
   have abm:=jr abl (i:=3) (.slice uD.a uD.len uD.cap)
   obtain ⟨ko,aoc⟩:∃ko,ko=rQ.setCell ⟨aK,3,none⟩ (.slice uD.a uD.len uD.cap):=⟨_,rfl⟩
   rw[←aoc] at A4 abm⊢
   have awh:=A4.size
   have aod:=aoa.an A4 (fun e=>aJ.2.2 e.symm)
   have aoe:Ext w ko:=Ext.eX an_ A4 ad
   have aof:=bZ.an aob A4 lH
   have aog:=eo.an f2 A4 fun q ab e=>by
     subst e
     rcases ab with ab|ab|ab
     · exact (h.a7 _ ab).2.2.2.1 rfl
     · omega
     · have:=h.o.lt;omega
   obtain ⟨A2,jy,lL,xK⟩:=cj (V:=⟨none,0,0⟩) abm
   refine bL ⟨_,A2,uC,jy,⟨none,0,0⟩,lL,uD,xK,?_⟩
   refine rD false uC ⟨none,0,0⟩ uD aod S0 (Q:=fun b K V D aw=>Pg B n fr to ks kids w (.agg #[.bool b, .slice K.a K.len K.cap, .slice V.a V.len V.cap, .slice D.a D.len D.cap]) aw) fun j2 C2=> ?_
   refine ⟨uC,⟨none,0,0⟩,uD,rfl,⟨?_,?_,?_⟩,Ext.eX aoe C2 au⟩
   · refine bZ.bz (bZ.an aof C2 fun q ab e=> ?_) fun q _ ab=> ?_
     · subst e
       rcases ab with ab|ab|ab
       · rcases h.bT _ ab with a6|a6
         · omega
         · exact a6.2.2.2.2.1 rfl
       · omega
       · have:=h.r.lt;omega
     · rcases ab with ab|ab|ab
       · rcases h.bT _ ab with a6|a6
         · exact .inl a6.1
         · exact .inr a6.1
       · exact .inl ab.1
       · have:=o3.size;exact .inr (by omega)
   · exact bZ.none _ _
   · refine eo.bz (eo.an aog C2 fun q ab e=> ?_) fun q _ ab=> ?_
     · subst e
       rcases ab with ab|ab|ab
       · exact (h.a7 _ ab).2.2.2.2 rfl
       · omega
       · have:=h.r.lt;omega
     · rcases ab with ab|ab|ab
       · exact .inr (h.a7 _ ab).1
       · exact .inl ab.1
       · have:=vV.size;exact .inr (by omega)
end
section
theorem T5 (K D:aa) (w:World):Sem.run Tryz.prog (Instr.build ah.cO #[(1, .slice K.a K.len K.cap),(3, .slice D.a D.len D.cap)]) w= .ok (.agg #[.bool false, .slice K.a K.len K.cap, .slice none 0 0, .slice D.a D.len D.cap]) w:=by kernel_rfl
theorem zc {B:Nat→Prop} {w:World} {n:aM} {K V D s:aa} {ks:List Key} {kids:List Nat} {fr to:Nat} (aD:cd B w n K V D) (az:xJ B w s ks kids) (f1:fr≤n.keys.length) (f2:fr≤n.kids.length) (t1:1≤to) (t2:to≤n.kids.length) (t3:to-1≤n.keys.length) (dk:n.keys.length≤1000) (db:n.kids.length≤1000):
   aQ Tryz.prog F.zc #[e9 n K V D, .int .i64 (fr:Nat), .int .i64 (to:Nat), .slice s.a s.len s.cap] w (Pg B n fr to ks kids w):=by
 refine W.aoh n.leaf K V D (fr:Nat) (to:Nat) s w _ ?_
 (delta W.zc dx ai aq ee nt uE aB a7 bI z4 OI st aC bS Ot;dsimp only)
 refine cn (vs:=[.bool n.leaf, .slice K.a K.len K.cap, .slice V.a V.len V.cap, .slice D.a D.len D.cap]) rfl fun ag gh bD ky=> ?_
 refine cn (vs:=[.bool false, .slice none 0 0, .slice none 0 0, .slice none 0 0]) rfl fun aw fS cA mo=>bL ?_
 have bA:Ext aw aw.drew:=dL _
 have g0:=(bD.trans cA).trans bA
 obtain ⟨aS,mw⟩:∃aS,aS=aw.drew:=⟨_,rfl⟩
 have vn:aS.heap.size=aw.heap.size:=by rw[mw];rfl
 rw[←mw] at g0 bA⊢
 have vA:=(gh.ext cA).ext bA
 have yG:=fS.ext bA
 obtain ⟨cH,aT,bC,ba⟩:=cj vA
 have qQ:cd (fun q=>B q∧q<w.heap.size) aS n K V D:=(aD.bz fun q J ab=>⟨ab,J⟩).ext g0
 have DC:=bZ.len qQ.keys
 have K1:=eo.len qQ.kids
 have awi:=bZ.le qQ.keys
 have aoi:=qQ.kids.2.1
 have T6:=bZ.sub qQ.keys (lo:=0) (hi:=fr) (fl _) f1
 have Pm:=eo.sub qQ.kids (lo:=0) (hi:=fr) (fl _) f2
 rw[zW,G0] at T6 Pm
 have gk:Int.toNat ((fr:Nat):Int)-0=fr:=by rw[gY];rfl
 have fin:∀ (fA:World) (aK:Nat) (gE hY:aa),Ext aS fA→Var fA aK [.bool false, .slice gE.a gE.len gE.cap, .slice none 0 0, .slice hY.a hY.len hY.cap] ah.cO→aS.heap.size≤aK→b4 (fun q=>(B q∧q<w.heap.size)∨(aS.heap.size≤q∧aO gE q)) fA gE (n.keys.take fr)→bV 1 ah.int fA hY (gU (n.kids.take fr))→
     (∀q,aO gE q→aS.heap.size≤q∧q≠aK)→(∀q,aO hY q→aS.heap.size≤q∧q≠aK∧¬aO gE q)→TZ w.heap.size aK ag.heap.size s (to:Nat) fA (Pg B n fr to ks kids w):=by
   intro fA aK gE hY af bQ fi bu vz abn abo
   have bN:=af.size
   have bd:∀q,aO gE q→q<fA.heap.size:=fun q J=>by
     obtain ⟨ts,_,aJ,_,_⟩:=bu
     exact aJ.lt q J
   refine an0 (cC:=fun q=>(B q∧q<w.heap.size)∨aO gE q) (cu:=fun q=>aO hY q) ⟨vA.ext af,yG.ext af,bQ,b4.bz bu fun q _ ab=>ab.imp id fun h=>h.2,⟨vz,fun q J=>⟨J,bV.lt vz q J⟩⟩,fun q ab=> ?_,fun q ab=> ?_,fun q J=>by have:=(abn q J).1;omega⟩ (g0.trans af) aD az rfl (cV _) (by omega) (by omega) ⟨by omega,by omega,by omega⟩ t1 t2 t3 dk db
   · rcases ab with ab|ab
     · exact .inl ab
     · have a6:=abn q ab
       exact .inr ⟨by omega,bd q ab,by omega,a6.2,by omega,fun b8=>(abo q b8).2.2 ab⟩
   · have a6:=abo q ab
     exact ⟨by omega,bV.lt vz q ab,by omega,a6.2.1,by omega⟩
 refine ⟨fun _=>False,id,K,aT,⟨by omega,by omega⟩,id,D,ba,⟨by omega,by omega⟩,?_,?_⟩
 · rw[gk]
   refine (abd T6 (by rw[d_];omega)).use ?_
   rintro _ bh ⟨gE,rfl,FM,fe,yt⟩
   have CL:=fe.size
   refine ⟨gE,rfl,fe,?_,?_⟩
   · refine (Ke (Pm.1.ext fe) (by rw[d_];omega)).use ?_
     rintro _ bK ⟨hY,rfl,H7,kj,abp⟩
     have Ow:=kj.size
     refine ⟨hY,rfl,kj,_,T5 gE hY,cn (vs:=[.bool false, .slice none 0 0, .slice none 0 0, .slice none 0 0]) rfl fun e5 abq rS aoj=>⟨rS,abq.dA rfl (lB (b:=false) (K:=gE) (V:=⟨none,0,0⟩) (D:=hY)),rfl,ek abq (us:=[.bool false, .slice gE.a gE.len gE.cap, .slice none 0 0, .slice hY.a hY.len hY.cap]) rfl rfl fun cF K3 oX T7=> ?_⟩⟩
     have pw:Ext bK cF:=Ext.eX rS oX (cV _)
     have fp:∀q,aO gE q→q<bh.heap.size:=fun q J=>by
       obtain ⟨ts,_,aJ,_,_⟩:=FM
       exact aJ.lt q J
     exact fin cF bK.heap.size gE hY (fe.trans (kj.trans pw)) K3 (by omega) (b4.bz (b4.ext FM (kj.trans pw)) fun q _ ab=>ab.imp (fun h=>h.1) id) (H7.ext pw) (fun q J=>⟨yt q J,by have:=fp q J;omega⟩) fun q J=>⟨by have:=abp q J;omega,by have:=bV.lt H7 q J;omega,fun h=>by have:=fp q h;have:=abp q J;omega⟩
   · refine cn (vs:=[.bool false, .slice none 0 0, .slice none 0 0, .slice none 0 0]) rfl fun fz T8 DD aok=>⟨DD,(Ke ((Pm.1.ext fe).ext DD) (by rw[d_];omega)).use ?_⟩
     rintro _ di ⟨hY,rfl,H7,DE,A5⟩
     have FN:=T8.ext DE
     refine ⟨hY,rfl,DE,_,T5 gE hY,FN.dA rfl (lB (b:=false) (K:=gE) (V:=⟨none,0,0⟩) (D:=hY)),rfl,ek FN (us:=[.bool false, .slice gE.a gE.len gE.cap, .slice none 0 0, .slice hY.a hY.len hY.cap]) rfl rfl fun cF K3 oX T7=> ?_⟩
     have pw:Ext bh cF:=Ext.eX (DD.trans DE) oX (cV _)
     have fp:∀q,aO gE q→q<bh.heap.size:=fun q J=>by
       obtain ⟨ts,_,aJ,_,_⟩:=FM
       exact aJ.lt q J
     exact fin cF bh.heap.size gE hY (fe.trans pw) K3 (by omega) (b4.bz (b4.ext FM pw) fun q _ ab=>ab.imp (fun h=>h.1) id) (H7.an oX fun q J e=>by have:=A5 q J;omega) (fun q J=>⟨yt q J,by have:=fp q J;omega⟩) fun q J=>⟨by have:=A5 q J;omega,by have:=A5 q J;omega,fun h=>by have:=fp q h;have:=A5 q J;omega⟩
 · rw[gk]
   refine cn (vs:=[.bool false, .slice none 0 0, .slice none 0 0, .slice none 0 0]) rfl fun fz T8 DD aok=>⟨DD,(abd (bZ.ext T6 DD) (by rw[d_];omega)).use ?_⟩
   rintro _ bh ⟨gE,rfl,FM,fe,yt⟩
   have CL:=fe.size
   refine ⟨gE,rfl,fe,(Ke ((Pm.1.ext DD).ext fe) (by rw[d_];omega)).use ?_⟩
   rintro _ di ⟨hY,rfl,H7,DE,A5⟩
   have FN:=(T8.ext fe).ext DE
   refine ⟨hY,rfl,DE,_,T5 gE hY,FN.dA rfl (lB (b:=false) (K:=gE) (V:=⟨none,0,0⟩) (D:=hY)),rfl,ek FN (us:=[.bool false, .slice gE.a gE.len gE.cap, .slice none 0 0, .slice hY.a hY.len hY.cap]) rfl rfl fun cF K3 oX T7=> ?_⟩
   have pw:Ext aS cF:=Ext.eX ((DD.trans fe).trans DE) oX (cV _)
   have fp:∀q,aO gE q→q<bh.heap.size:=fun q J=>by
     obtain ⟨ts,_,aJ,_,_⟩:=FM
     exact aJ.lt q J
   have aol:b4 (fun q=>(B q∧q<w.heap.size)∨(aS.heap.size≤q∧aO gE q)) cF gE (n.keys.take fr):=by
     have a6:=b4.bz (C:=fun q=>(B q∧q<w.heap.size)∨(fz.heap.size≤q∧aO gE q)) (b4.ext FM DE) fun q _ ab=>ab.imp (fun h=>h.1) id
     exact b4.bz (b4.an a6 oX fun q ab e=>by rcases ab with ab|ab<;>omega) fun q _ ab=>ab.imp id fun h=>⟨by omega,h.2⟩
   exact fin cF aS.heap.size gE hY pw K3 (cV _) aol (H7.an oX fun q J e=>by have:=A5 q J;omega) (fun q J=>⟨by have:=yt q J;omega,by have:=yt q J;omega⟩) fun q J=>⟨by have:=A5 q J;omega,by have:=A5 q J;omega,fun h=>by have:=fp q h;have:=A5 q J;omega⟩
end
section
def zd (n:aM):Prop:=ef n∧cr n≤400∧(232<cr n→1≤dr n∧(if n.leaf then dr n≤n.keys.length-1∧1≤n.keys.length-1 else dr n≤n.keys.length-2∧1≤n.keys.length-2)∧cr (n.left (dr n))≤232∧cr (n.right (dr n))≤232)
structure ze (B:Nat→Prop) (w:World) (A:Addr) (u:gD):Prop where
 aT:w.cell? (A.add 1)=some (.bool u.n.leaf)
 bC:w.cell? ((A.add 1).add 1)=some (.slice u.K.a u.K.len u.K.cap)
 ba:w.cell? ((A.add 1).add 2)=some (.slice u.V.a u.V.len u.V.cap)
 gl:w.cell? ((A.add 1).add 3)=some (.slice u.D.a u.D.len u.D.cap)
 dN:w.cell? (A.add 5)=some (.int .i64 (u.e2:Nat))
 dT:cd B w u.n u.K u.V u.D
 dn:B A.block
 lt:A.block<w.heap.size
theorem ze.ext {B:Nat→Prop} {w w':World} {A:Addr} {u:gD} (h:ze B w A u) (af:Ext w w'):ze B w' A u:=
 ⟨ao.cell af (fun h=>h) h.aT,ao.cell af (fun h=>h) h.bC,ao.cell af (fun h=>h) h.ba,ao.cell af (fun h=>h) h.gl,ao.cell af (fun h=>h) h.dN,h.dT.ext af,h.dn,lE h.lt af.size⟩
theorem ze.to {w w':World} {T av:aX} {k:Nat} {A:Addr} {u:gD} (h:ze (fun q=>¬T.M q) w A u) (aV:b5 T av w w' k):ze (fun q=>¬av.M q) w' A u:=by
 have al:=aV.an
 have kh:¬T.N A.block:=fun aD=>h.dn (aX.k7 aD)
 refine ⟨ao.cell al (A:=A.add 1) kh h.aT,ao.cell al (A:=(A.add 1).add 1) kh h.bC,ao.cell al (A:=(A.add 1).add 2) kh h.ba,ao.cell al (A:=(A.add 1).add 3) kh h.gl,ao.cell al (A:=A.add 5) kh h.dN,?_,fun hm=> ?_,lE h.lt al.size⟩
 · have U:=aV.dT (lo:=0) (h.dT.bz fun q _ ab=>⟨fl _,ab⟩)
   exact U.bz fun q _ ab=>ab.2
 · rcases aV.jj _ hm with U|U
   · exact h.dn U
   · have:=h.lt;omega
theorem pY.base {T:aX} {c:gH} {n:aM} {bO w w':World} {v:Value} (h:pY T c n w v w') (af:Ext bO w):pY T c n bO v w':=by
 obtain ⟨av,c',m,s,aA,aE,aI,aL⟩:=h
 exact ⟨av,c',m,s,aA,((fV.ext T c af).trans aE).mono (by omega),aI,aL⟩
theorem pY.out {T:aX} {c:gH} {n:aM} {w w':World} {v:Value} (h:pY T c n w v w'):∃ (s:aa) (e:Int),v= .tuple #[.slice s.a s.len s.cap, .int .i64 e]:=by
 obtain ⟨av,c',m,s,aA,aE,aI,aL⟩:=h
 rcases aL with ⟨ks,rfl,_⟩|⟨rfl,_⟩
 · exact ⟨s,0,rfl⟩
 · exact ⟨s,3,rfl⟩
def T9 (bE aK oH bv:Nat) (c up:Option Addr) (n31 n36:Int) (fA:World) (Q:Value→World→Prop):Prop:=
 cY (fun DF:World→Prop=>∃DG:Addr,up=some DG∧∃A6:Int,fA.cell? (DG.add 5)=some (.int .i64 A6)∧((decide ((n36:Int)>A6))=true→ay (fA.drew) fun iP=>∃xM:Nat→Prop,¬xM (⟨bE,0,none⟩:Addr).block∧∃qV:Bool,iP.cell? ⟨bE,0,none⟩=some (.bool qV)∧∃iS:aa,iP.cell? (Addr.add ⟨bE,0,none⟩ 1)=some (.slice iS.a iS.len iS.cap)∧∃g1:aa,iP.cell? (Addr.add ⟨bE,0,none⟩ 2)=some (.slice g1.a g1.len g1.cap)∧∃g2:aa,iP.cell? (Addr.add ⟨bE,0,none⟩ 3)=some (.slice g2.a g2.len g2.cap)∧¬xM (⟨aK,0,none⟩:Addr).block∧∃A7:Bool,iP.cell? ⟨aK,0,none⟩=some (.bool A7)∧∃iT:aa,iP.cell? (Addr.add ⟨aK,0,none⟩ 1)=some (.slice iT.a iT.len iT.cap)∧∃jv:aa,iP.cell? (Addr.add ⟨aK,0,none⟩ 2)=some (.slice jv.a jv.len jv.cap)∧∃iv:aa,iP.cell? (Addr.add ⟨aK,0,none⟩ 3)=some (.slice iv.a iv.len iv.cap)∧cZ iP ⟨oH,0,none⟩ [.bool qV, .slice iS.a iS.len iS.cap, .slice g1.a g1.len g1.cap, .slice g2.a g2.len g2.cap]∧(4:Nat)=4∧ay (setCells iP ⟨oH,0,none⟩ 0 [.bool qV, .slice iS.a iS.len iS.cap, .slice g1.a g1.len g1.cap, .slice g2.a g2.len g2.cap]) fun oI=>ao xM iP oI∧cZ oI ⟨bv,0,none⟩ [.bool A7, .slice iT.a iT.len iT.cap, .slice jv.a jv.len jv.cap, .slice iv.a iv.len iv.cap]∧(4:Nat)=4∧ay (setCells oI ⟨bv,0,none⟩ 0 [.bool A7, .slice iT.a iT.len iT.cap, .slice jv.a jv.len jv.cap, .slice iv.a iv.len iv.cap]) fun FO=>DF FO)∧((decide ((n36:Int)>A6))=false→DF fA)) (fun (mB:World)=>ay (mB.drew) fun fP=>∃mS:Nat→Prop,¬mS (⟨oH,0,none⟩:Addr).block∧∃rT:Bool,fP.cell? ⟨oH,0,none⟩=some (.bool rT)∧∃iE:aa,fP.cell? (Addr.add ⟨oH,0,none⟩ 1)=some (.slice iE.a iE.len iE.cap)∧∃jB:aa,fP.cell? (Addr.add ⟨oH,0,none⟩ 2)=some (.slice jB.a jB.len jB.cap)∧∃gq:aa,fP.cell? (Addr.add ⟨oH,0,none⟩ 3)=some (.slice gq.a gq.len gq.cap)∧∃tq:Addr,up=some tq∧¬mS ((tq.add 1).add 1).block∧∃k4:aa,fP.cell? ((tq.add 1).add 1)=some (.slice k4.a k4.len k4.cap)∧∃xN:Addr,k4.a=some xN∧((0:Int)≤n31∧n31<((k4.len:Nat):Int))∧¬mS (xN.add (Int.toNat n31*1)).block∧∃mT:aa,fP.cell? (xN.add (Int.toNat n31*1))=some (.slice mT.a mT.len mT.cap)∧¬mS (⟨bv,0,none⟩:Addr).block∧∃zf:Bool,fP.cell? ⟨bv,0,none⟩=some (.bool zf)∧∃jw:aa,fP.cell? (Addr.add ⟨bv,0,none⟩ 1)=some (.slice jw.a jw.len jw.cap)∧∃jx:aa,fP.cell? (Addr.add ⟨bv,0,none⟩ 2)=some (.slice jx.a jx.len jx.cap)∧∃mU:aa,fP.cell? (Addr.add ⟨bv,0,none⟩ 3)=some (.slice mU.a mU.len mU.cap)∧(Calls Tryz.prog F.ql #[.agg #[.bool rT, .slice iE.a iE.len iE.cap, .slice jB.a jB.len jB.cap, .slice gq.a gq.len gq.cap], .slice mT.a mT.len mT.cap, .agg #[.bool zf, .slice jw.a jw.len jw.cap, .slice jx.a jx.len jx.cap, .slice mU.a mU.len mU.cap]] fP fun T_ jI=>∃vW:Bool,∃me:aa,∃mf:aa,∃mg:aa,∃uF:Bool,T_= .returned ( .tuple #[.agg #[.bool vW, .slice me.a me.len me.cap, .slice mf.a mf.len mf.cap, .slice mg.a mg.len mg.cap], .bool uF])∧ao mS fP jI∧ay (jI.alloc (.cells #[.bool false, .slice none 0 0, .slice none 0 0, .slice none 0 0] ah.cO)) fun oJ=>ao mS jI oJ∧cZ oJ ⟨jI.heap.size,0,none⟩ [.bool vW, .slice me.a me.len me.cap, .slice mf.a mf.len mf.cap, .slice mg.a mg.len mg.cap]∧(4:Nat)=4∧ay (setCells oJ ⟨jI.heap.size,0,none⟩ 0 [.bool vW, .slice me.a me.len me.cap, .slice mf.a mf.len mf.cap, .slice mg.a mg.len mg.cap]) fun mh=>((!uF)=true→Q (.tuple #[.slice none 0 0, .int .i64 0, .int .i64 0, .int .i64 4]) mh)∧((!uF)=false→∃FP:Bool,mh.cell? ⟨jI.heap.size,0,none⟩=some (.bool FP)∧∃o5:aa,mh.cell? (Addr.add ⟨jI.heap.size,0,none⟩ 1)=some (.slice o5.a o5.len o5.cap)∧∃q4:aa,mh.cell? (Addr.add ⟨jI.heap.size,0,none⟩ 2)=some (.slice q4.a q4.len q4.cap)∧∃q5:aa,mh.cell? (Addr.add ⟨jI.heap.size,0,none⟩ 3)=some (.slice q5.a q5.len q5.cap)∧Calls Tryz.prog F.sE #[.pointer c, .agg #[.bool FP, .slice o5.a o5.len o5.cap, .slice q4.a q4.len q4.cap, .slice q5.a q5.len q5.cap]] mh fun Ua DH=>∃q6:aa,∃FQ:Int,Ua= .returned (.tuple #[.slice q6.a q6.len q6.cap, .int .i64 FQ])∧Q ( .tuple #[.slice q6.a q6.len q6.cap, .int .i64 n31, .int .i64 (IntKind.wrap .i64 (n31+2)), .int .i64 FQ]) DH))∧(ay (fP.alloc (.cells #[.bool false, .slice none 0 0, .slice none 0 0, .slice none 0 0] ah.cO)) fun vX=>ao mS fP vX∧Calls Tryz.prog F.ql #[.agg #[.bool rT, .slice iE.a iE.len iE.cap, .slice jB.a jB.len jB.cap, .slice gq.a gq.len gq.cap], .slice mT.a mT.len mT.cap, .agg #[.bool zf, .slice jw.a jw.len jw.cap, .slice jx.a jx.len jx.cap, .slice mU.a mU.len mU.cap]] vX fun Ub xO=>∃A8:Bool,∃nH:aa,∃o6:aa,∃o7:aa,∃A9:Bool,Ub= .returned ( .tuple #[.agg #[.bool A8, .slice nH.a nH.len nH.cap, .slice o6.a o6.len o6.cap, .slice o7.a o7.len o7.cap], .bool A9])∧ao mS vX xO∧cZ xO ⟨fP.heap.size,0,none⟩ [.bool A8, .slice nH.a nH.len nH.cap, .slice o6.a o6.len o6.cap, .slice o7.a o7.len o7.cap]∧(4:Nat)=4∧ay (setCells xO ⟨fP.heap.size,0,none⟩ 0 [.bool A8, .slice nH.a nH.len nH.cap, .slice o6.a o6.len o6.cap, .slice o7.a o7.len o7.cap]) fun uG=>((!A9)=true→Q (.tuple #[.slice none 0 0, .int .i64 0, .int .i64 0, .int .i64 4]) uG)∧((!A9)=false→∃K4:Bool,uG.cell? ⟨fP.heap.size,0,none⟩=some (.bool K4)∧∃uH:aa,uG.cell? (Addr.add ⟨fP.heap.size,0,none⟩ 1)=some (.slice uH.a uH.len uH.cap)∧∃uI:aa,uG.cell? (Addr.add ⟨fP.heap.size,0,none⟩ 2)=some (.slice uI.a uI.len uI.cap)∧∃p0:aa,uG.cell? (Addr.add ⟨fP.heap.size,0,none⟩ 3)=some (.slice p0.a p0.len p0.cap)∧Calls Tryz.prog F.sE #[.pointer c, .agg #[.bool K4, .slice uH.a uH.len uH.cap, .slice uI.a uI.len uI.cap, .slice p0.a p0.len p0.cap]] uG fun Uc Ud=>∃uJ:aa,∃K5:Int,Uc= .returned (.tuple #[.slice uJ.a uJ.len uJ.cap, .int .i64 K5])∧Q ( .tuple #[.slice uJ.a uJ.len uJ.cap, .int .i64 n31, .int .i64 (IntKind.wrap .i64 (n31+2)), .int .i64 K5]) Ud)))
theorem aom {Ue Uf:Nat→Prop} {bO fA:World} {T:aX} {c:gH} {bE aK oH bv:Nat} {A:Addr} {u:gD} {n o:aM} {K V D mV mW Do:aa} {fr other:Nat} {Q:Value→World→Prop} (h:fU bO T c) (af:Ext bO fA) (kC:Var bO bE (gZ n K V D) ah.cO) (fi:Var bO aK (gZ o mV mW Do) ah.cO)
   (abr:Var fA oH (gZ o mV mW Do) ah.cO) (CI:Var fA bv (gZ n K V D) ah.cO) (U:bO.heap.size≤oH) (ad:bO.heap.size≤bv) (au:oH≠bv) (aD:cd Ue bO n K V D) (bQ:cd Uf bO o mV mW Do) (hu:ze (fun q=>¬T.M q) bO A u)
   (gC:T.C.D.cR≤900000090) (jz:2≤fO T) (pd:c.made.length≤900) (A_:ef n) (FR:ef o) (Pn:cr n≤400) (Ug:cr o≤400) (az:o.leaf=n.leaf) (gg:fr<u.n.keys.length) (n2:eM u.n.keys[fr]) (m:aM) (hm:m=if u.e2<other then g8 n u.n.keys[fr] o else g8 o u.n.keys[fr] n) (j3:zd m) (pI:fr≤1000)
   (yA:∀ (s:aa) (e:Int) (w':World),pY T c m bO (.tuple #[.slice s.a s.len s.cap, .int .i64 e]) w'→Q (.tuple #[.slice s.a s.len s.cap, .int .i64 (fr:Nat), .int .i64 ((fr+2:Nat):Int), .int .i64 e]) w'):
   T9 bE aK oH bv (some ⟨c.dt,0,none⟩) (some A) (fr:Nat) (other:Nat) fA Q:=by
 have sx:=kC.lt
 have Fa:=fi.lt
 have bN:=af.size
 have fn:=A_.k3 (by omega)
 have awj:=FR.k3 (by omega)
 unfold T9
 refine wV (fun mB=>∃ (a b:aM) (eY eG ei dV dW dX:aa) (OG OH:Nat→Prop),Ext bO mB∧Var mB oH (gZ a eY eG ei) ah.cO∧Var mB bv (gZ b dV dW dX) ah.cO∧cd OG bO a eY eG ei∧cd OH bO b dV dW dX∧m=g8 a u.n.keys[fr] b∧ef a∧ef b∧a.leaf=b.leaf∧a.keys.length≤200∧b.keys.length≤200)
   (fun q J=>⟨A,rfl,_,(hu.ext af).dN,fun ab=> ?_,fun ab=>J _ ⟨o,n,mV,mW,Do,K,V,D,Uf,Ue,af,abr,CI,bQ,aD,?_,FR,A_,az,by omega,by omega⟩⟩) ?_
 · have ab:u.e2<other:=by
     have:((other:Nat):Int)>((u.e2:Nat):Int):=dD ab
     omega
   have bA:=af.trans (dL fA)
   obtain ⟨bM,dk,db,bk⟩:=cj (kC.ext bA)
   obtain ⟨A2,jy,lL,xK⟩:=cj (fi.ext bA)
   have abs:=abr.drew
   have aon:=CI.drew
   refine bL ⟨fun q=>q=oH,(show bE≠oH by omega),_,bM,K,dk,V,db,D,bk,(show aK≠oH by omega),_,A2,mV,jy,mW,lL,Do,xK,abs.dA rfl lB,rfl,ek abs (us:=gZ n K V D) rfl rfl fun oI aoo Uh awk=> ?_⟩
   have abt:=aon.an Uh (fun e=>au e.symm)
   refine ⟨Uh,abt.dA rfl lB,rfl,ek abt (us:=gZ o mV mW Do) rfl rfl fun FO aop abu awl=> ?_⟩
   exact J _ ⟨n,o,K,V,D,mV,mW,Do,Ue,Uf,Ext.eX (Ext.eX bA Uh U) abu ad,aoo.an abu au,aop,aD,bQ,by rw[hm,if_pos ab],A_,FR,az.symm,by omega,by omega⟩
 · have ab:¬u.e2<other:=by
     have:¬((other:Nat):Int)>((u.e2:Nat):Int):=eW ab
     omega
   rw[hm,if_neg ab]
 rintro mB ⟨a,b,eY,eG,ei,dV,dW,dX,OG,OH,aoq,aR,ab,abv,abw,Ui,nV,eK,nw,pO,ie⟩
 have bA:=aoq.trans (dL mB)
 have rU:=aR.drew
 have mN:=ab.drew
 obtain ⟨a0,bc,cS,a3⟩:=cj rU
 obtain ⟨oE,c3,cG,eP⟩:=cj mN
 have K6:=hu.ext bA
 obtain ⟨aor,aG,aos,Uj,aot,lG,awm⟩:=bZ.at K6.dT.keys gg
 have vY:ef (g8 a u.n.keys[fr] b):=by rw[←Ui];exact j3.1
 have K7:=ql (abv.ext bA) (abw.ext bA) lG.1 (fun q J=>(lG.2.2 q J).2) (by have:=n2.2;omega) nV eK nw vY (by omega) (by omega)
 rw[←Ui] at K7
 have kG:IntKind.wrap .i64 (((fr:Nat):Int)+2)=((fr+2:Nat):Int):=by rw[cz (by omega) (by omega)];rfl
 obtain ⟨wd,awn⟩:∃wd,wd=mB.drew:=⟨_,rfl⟩
 refine bL ⟨fun _=>False,id,_,a0,eY,bc,eG,cS,ei,a3,A,rfl,id,u.K,K6.bC,aor,aos,Uj,id,aG,aot,id,_,oE,dV,c3,dW,cG,dX,eP,?_,?_⟩
 · refine K7.use ?_
   rintro _ jI ⟨FT,FU,FV,rfl,tr,Ah⟩
   refine ⟨_,FT,FU,FV,true,rfl,Ah,cn (vs:=[.bool false, .slice none 0 0, .slice none 0 0, .slice none 0 0]) rfl fun oJ abx Po Uk=>⟨Po,abx.dA rfl lB,rfl,ek abx (us:=gZ m FT FU FV) rfl rfl fun mh Ul Pp aou=>⟨fun ab=>(by cases ab),fun _=> ?_⟩⟩⟩
   have Pq:Ext jI mh:=Ext.eX Po Pp (cV _)
   have dS:=(bA.trans Ah).trans Pq
   obtain ⟨pQ,vZ,sG,q7⟩:=cj Ul
   refine ⟨_,pQ,FT,vZ,FU,sG,FV,q7,(Pf (h.ext dS) gC jz pd (tr.ext Pq) j3.1 j3.2.1 j3.2.2).use ?_⟩
   intro v w' ak
   obtain ⟨s,e,rfl⟩:=ak.out
   rw[kG]
   exact ⟨s,e,rfl,yA s e w' (ak.base dS)⟩
 · refine cn (vs:=[.bool false, .slice none 0 0, .slice none 0 0, .slice none 0 0]) rfl fun vX aov H8 awo=>⟨H8,?_⟩
   have K7:=ql ((abv.ext bA).ext H8) ((abw.ext bA).ext H8) (lG.1.ext H8) (fun q J=>lE (lG.2.2 q J).2 H8.size) (by have:=n2.2;omega) nV eK nw vY (by omega) (by omega)
   rw[←Ui] at K7
   refine K7.use ?_
   rintro _ xO ⟨FT,FU,FV,rfl,tr,Ah⟩
   have aby:=aov.ext Ah
   refine ⟨_,FT,FU,FV,true,rfl,Ah,aby.dA rfl lB,rfl,ek aby (us:=gZ m FT FU FV) rfl rfl fun mh Ul Pp aou=>⟨fun ab=>(by cases ab),fun _=> ?_⟩⟩
   have Pq:Ext mB.drew mh:=Ext.eX (H8.trans Ah) Pp (cV _)
   have dS:=bA.trans Pq
   have aow:=cd.an tr Pp fun q J e=>by omega
   obtain ⟨pQ,vZ,sG,q7⟩:=cj Ul
   refine ⟨_,pQ,FT,vZ,FU,sG,FV,q7,(Pf (h.ext dS) gC jz pd aow j3.1 j3.2.1 j3.2.2).use ?_⟩
   intro v w' ak
   obtain ⟨s,e,rfl⟩:=ak.out
   rw[kG]
   exact ⟨s,e,rfl,yA s e w' (ak.base dS)⟩
end
section
theorem fV.leave {T:aX} {c c':gH} {E G:Nat→Prop} {w w':World} {no:Nat} (h:b5 T (T.dw E G) w w' 0) (fh:E=T.E) (ih:∀q,T.G q→G q) (U:c'.dt=c.dt) (ad:c'.made=c.made) (au:c'.left=c.left++ [no]):fV T (T.dw E G) c c' [] [no] w w' 0:=
 ⟨h,fh,ih,rfl,rfl,U,by rw[ad,mn],au,JK,fun _ h=>(by cases h),fun no=>by simp[aX.dw],fun _ _=>⟨rfl,rfl⟩,by simp[fO,aX.dw]⟩
def Um (bE aK:Nat) (c up:Option Addr) (n31 n36 n41 mi:Int) (fA:World) (Q:Value→World→Prop):Prop:=
 (((mi:Int) !=0)=true→Q (.tuple #[.slice none 0 0, .int .i64 0, .int .i64 0, .int .i64 mi]) fA)∧(((mi:Int) !=0)=false→∃K8:Addr,c=some K8∧∃p1:aa,fA.cell? (K8.add 2)=some (.slice p1.a p1.len p1.cap)∧ay (fA.alloc (.cells #[.int .i64 n41] ah.int)) fun DI=>∃iu:aa,∃tu:World,Sem.run Tryz.prog (Builtin.append_ #[ah.eg,ah.eg] ah.eg #[.slice p1.a p1.len p1.cap, .slice (some ⟨fA.heap.size,0,none⟩) 1 1]) DI= .ok (.slice iu.a iu.len iu.cap) tu∧∃q8:Addr,c=some q8∧(∃u:Value,tu.cell? (q8.add 2)=some u)∧tu.frozen? (q8.add 2)=false∧ay (tu.setCell (q8.add 2) (.slice iu.a iu.len iu.cap)) fun fz=>ay (fz.drew) fun di=>∃oK:Nat→Prop,¬oK (⟨aK,0,none⟩:Addr).block∧∃uK:Bool,di.cell? ⟨aK,0,none⟩=some (.bool uK)∧∃hJ:aa,di.cell? (Addr.add ⟨aK,0,none⟩ 1)=some (.slice hJ.a hJ.len hJ.cap)∧∃gJ:aa,di.cell? (Addr.add ⟨aK,0,none⟩ 2)=some (.slice gJ.a gJ.len gJ.cap)∧∃hD:aa,di.cell? (Addr.add ⟨aK,0,none⟩ 3)=some (.slice hD.a hD.len hD.cap)∧¬oK (⟨bE,0,none⟩:Addr).block∧∃uL:Bool,di.cell? ⟨bE,0,none⟩=some (.bool uL)∧∃fI:aa,di.cell? (Addr.add ⟨bE,0,none⟩ 1)=some (.slice fI.a fI.len fI.cap)∧∃gp:aa,di.cell? (Addr.add ⟨bE,0,none⟩ 2)=some (.slice gp.a gp.len gp.cap)∧∃gP:aa,di.cell? (Addr.add ⟨bE,0,none⟩ 3)=some (.slice gP.a gP.len gP.cap)∧(ay (di.alloc (.cells #[.bool false, .slice none 0 0, .slice none 0 0, .slice none 0 0] ah.cO)) fun gV=>ao oK di gV∧ay (gV.alloc (.cells #[.bool false, .slice none 0 0, .slice none 0 0, .slice none 0 0] ah.cO)) fun nU=>ao oK gV nU∧cZ nU ⟨di.heap.size,0,none⟩ [.bool uK, .slice hJ.a hJ.len hJ.cap, .slice gJ.a gJ.len gJ.cap, .slice hD.a hD.len hD.cap]∧(4:Nat)=4∧ay (setCells nU ⟨di.heap.size,0,none⟩ 0 [.bool uK, .slice hJ.a hJ.len hJ.cap, .slice gJ.a gJ.len gJ.cap, .slice hD.a hD.len hD.cap]) fun sH=>ao oK nU sH∧cZ sH ⟨gV.heap.size,0,none⟩ [.bool uL, .slice fI.a fI.len fI.cap, .slice gp.a gp.len gp.cap, .slice gP.a gP.len gP.cap]∧(4:Nat)=4∧ay (setCells sH ⟨gV.heap.size,0,none⟩ 0 [.bool uL, .slice fI.a fI.len fI.cap, .slice gp.a gp.len gp.cap, .slice gP.a gP.len gP.cap]) fun lp=>cY (fun DF:World→Prop=>∃DG:Addr,up=some DG∧∃A6:Int,lp.cell? (DG.add 5)=some (.int .i64 A6)∧((decide ((n36:Int)>A6))=true→ay (lp.drew) fun iP=>∃xM:Nat→Prop,¬xM (⟨bE,0,none⟩:Addr).block∧∃qV:Bool,iP.cell? ⟨bE,0,none⟩=some (.bool qV)∧∃iS:aa,iP.cell? (Addr.add ⟨bE,0,none⟩ 1)=some (.slice iS.a iS.len iS.cap)∧∃g1:aa,iP.cell? (Addr.add ⟨bE,0,none⟩ 2)=some (.slice g1.a g1.len g1.cap)∧∃g2:aa,iP.cell? (Addr.add ⟨bE,0,none⟩ 3)=some (.slice g2.a g2.len g2.cap)∧¬xM (⟨aK,0,none⟩:Addr).block∧∃A7:Bool,iP.cell? ⟨aK,0,none⟩=some (.bool A7)∧∃iT:aa,iP.cell? (Addr.add ⟨aK,0,none⟩ 1)=some (.slice iT.a iT.len iT.cap)∧∃jv:aa,iP.cell? (Addr.add ⟨aK,0,none⟩ 2)=some (.slice jv.a jv.len jv.cap)∧∃iv:aa,iP.cell? (Addr.add ⟨aK,0,none⟩ 3)=some (.slice iv.a iv.len iv.cap)∧cZ iP ⟨di.heap.size,0,none⟩ [.bool qV, .slice iS.a iS.len iS.cap, .slice g1.a g1.len g1.cap, .slice g2.a g2.len g2.cap]∧(4:Nat)=4∧ay (setCells iP ⟨di.heap.size,0,none⟩ 0 [.bool qV, .slice iS.a iS.len iS.cap, .slice g1.a g1.len g1.cap, .slice g2.a g2.len g2.cap]) fun oI=>ao xM iP oI∧cZ oI ⟨gV.heap.size,0,none⟩ [.bool A7, .slice iT.a iT.len iT.cap, .slice jv.a jv.len jv.cap, .slice iv.a iv.len iv.cap]∧(4:Nat)=4∧ay (setCells oI ⟨gV.heap.size,0,none⟩ 0 [.bool A7, .slice iT.a iT.len iT.cap, .slice jv.a jv.len jv.cap, .slice iv.a iv.len iv.cap]) fun FO=>DF FO)∧((decide ((n36:Int)>A6))=false→DF lp)) (fun (mB:World)=>ay (mB.drew) fun fP=>∃mS:Nat→Prop,¬mS (⟨di.heap.size,0,none⟩:Addr).block∧∃rT:Bool,fP.cell? ⟨di.heap.size,0,none⟩=some (.bool rT)∧∃iE:aa,fP.cell? (Addr.add ⟨di.heap.size,0,none⟩ 1)=some (.slice iE.a iE.len iE.cap)∧∃jB:aa,fP.cell? (Addr.add ⟨di.heap.size,0,none⟩ 2)=some (.slice jB.a jB.len jB.cap)∧∃gq:aa,fP.cell? (Addr.add ⟨di.heap.size,0,none⟩ 3)=some (.slice gq.a gq.len gq.cap)∧∃tq:Addr,up=some tq∧¬mS ((tq.add 1).add 1).block∧∃k4:aa,fP.cell? ((tq.add 1).add 1)=some (.slice k4.a k4.len k4.cap)∧∃xN:Addr,k4.a=some xN∧((0:Int)≤n31∧n31<((k4.len:Nat):Int))∧¬mS (xN.add (Int.toNat n31*1)).block∧∃mT:aa,fP.cell? (xN.add (Int.toNat n31*1))=some (.slice mT.a mT.len mT.cap)∧¬mS (⟨gV.heap.size,0,none⟩:Addr).block∧∃zf:Bool,fP.cell? ⟨gV.heap.size,0,none⟩=some (.bool zf)∧∃jw:aa,fP.cell? (Addr.add ⟨gV.heap.size,0,none⟩ 1)=some (.slice jw.a jw.len jw.cap)∧∃jx:aa,fP.cell? (Addr.add ⟨gV.heap.size,0,none⟩ 2)=some (.slice jx.a jx.len jx.cap)∧∃mU:aa,fP.cell? (Addr.add ⟨gV.heap.size,0,none⟩ 3)=some (.slice mU.a mU.len mU.cap)∧(Calls Tryz.prog F.ql #[.agg #[.bool rT, .slice iE.a iE.len iE.cap, .slice jB.a jB.len jB.cap, .slice gq.a gq.len gq.cap], .slice mT.a mT.len mT.cap, .agg #[.bool zf, .slice jw.a jw.len jw.cap, .slice jx.a jx.len jx.cap, .slice mU.a mU.len mU.cap]] fP fun T_ jI=>∃vW:Bool,∃me:aa,∃mf:aa,∃mg:aa,∃uF:Bool,T_= .returned ( .tuple #[.agg #[.bool vW, .slice me.a me.len me.cap, .slice mf.a mf.len mf.cap, .slice mg.a mg.len mg.cap], .bool uF])∧ao mS fP jI∧ay (jI.alloc (.cells #[.bool false, .slice none 0 0, .slice none 0 0, .slice none 0 0] ah.cO)) fun oJ=>ao mS jI oJ∧cZ oJ ⟨jI.heap.size,0,none⟩ [.bool vW, .slice me.a me.len me.cap, .slice mf.a mf.len mf.cap, .slice mg.a mg.len mg.cap]∧(4:Nat)=4∧ay (setCells oJ ⟨jI.heap.size,0,none⟩ 0 [.bool vW, .slice me.a me.len me.cap, .slice mf.a mf.len mf.cap, .slice mg.a mg.len mg.cap]) fun mh=>((!uF)=true→Q (.tuple #[.slice none 0 0, .int .i64 0, .int .i64 0, .int .i64 4]) mh)∧((!uF)=false→∃FP:Bool,mh.cell? ⟨jI.heap.size,0,none⟩=some (.bool FP)∧∃o5:aa,mh.cell? (Addr.add ⟨jI.heap.size,0,none⟩ 1)=some (.slice o5.a o5.len o5.cap)∧∃q4:aa,mh.cell? (Addr.add ⟨jI.heap.size,0,none⟩ 2)=some (.slice q4.a q4.len q4.cap)∧∃q5:aa,mh.cell? (Addr.add ⟨jI.heap.size,0,none⟩ 3)=some (.slice q5.a q5.len q5.cap)∧Calls Tryz.prog F.sE #[.pointer c, .agg #[.bool FP, .slice o5.a o5.len o5.cap, .slice q4.a q4.len q4.cap, .slice q5.a q5.len q5.cap]] mh fun Ua DH=>∃q6:aa,∃FQ:Int,Ua= .returned (.tuple #[.slice q6.a q6.len q6.cap, .int .i64 FQ])∧Q ( .tuple #[.slice q6.a q6.len q6.cap, .int .i64 n31, .int .i64 (IntKind.wrap .i64 (n31+2)), .int .i64 FQ]) DH))∧(ay (fP.alloc (.cells #[.bool false, .slice none 0 0, .slice none 0 0, .slice none 0 0] ah.cO)) fun vX=>ao mS fP vX∧Calls Tryz.prog F.ql #[.agg #[.bool rT, .slice iE.a iE.len iE.cap, .slice jB.a jB.len jB.cap, .slice gq.a gq.len gq.cap], .slice mT.a mT.len mT.cap, .agg #[.bool zf, .slice jw.a jw.len jw.cap, .slice jx.a jx.len jx.cap, .slice mU.a mU.len mU.cap]] vX fun Ub xO=>∃A8:Bool,∃nH:aa,∃o6:aa,∃o7:aa,∃A9:Bool,Ub= .returned ( .tuple #[.agg #[.bool A8, .slice nH.a nH.len nH.cap, .slice o6.a o6.len o6.cap, .slice o7.a o7.len o7.cap], .bool A9])∧ao mS vX xO∧cZ xO ⟨fP.heap.size,0,none⟩ [.bool A8, .slice nH.a nH.len nH.cap, .slice o6.a o6.len o6.cap, .slice o7.a o7.len o7.cap]∧(4:Nat)=4∧ay (setCells xO ⟨fP.heap.size,0,none⟩ 0 [.bool A8, .slice nH.a nH.len nH.cap, .slice o6.a o6.len o6.cap, .slice o7.a o7.len o7.cap]) fun uG=>((!A9)=true→Q (.tuple #[.slice none 0 0, .int .i64 0, .int .i64 0, .int .i64 4]) uG)∧((!A9)=false→∃K4:Bool,uG.cell? ⟨fP.heap.size,0,none⟩=some (.bool K4)∧∃uH:aa,uG.cell? (Addr.add ⟨fP.heap.size,0,none⟩ 1)=some (.slice uH.a uH.len uH.cap)∧∃uI:aa,uG.cell? (Addr.add ⟨fP.heap.size,0,none⟩ 2)=some (.slice uI.a uI.len uI.cap)∧∃p0:aa,uG.cell? (Addr.add ⟨fP.heap.size,0,none⟩ 3)=some (.slice p0.a p0.len p0.cap)∧Calls Tryz.prog F.sE #[.pointer c, .agg #[.bool K4, .slice uH.a uH.len uH.cap, .slice uI.a uI.len uI.cap, .slice p0.a p0.len p0.cap]] uG fun Uc Ud=>∃uJ:aa,∃K5:Int,Uc= .returned (.tuple #[.slice uJ.a uJ.len uJ.cap, .int .i64 K5])∧Q ( .tuple #[.slice uJ.a uJ.len uJ.cap, .int .i64 n31, .int .i64 (IntKind.wrap .i64 (n31+2)), .int .i64 K5]) Ud))))∧(ay (di.alloc (.cells #[.bool false, .slice none 0 0, .slice none 0 0, .slice none 0 0] ah.cO)) fun q9=>ao oK di q9∧ay (q9.alloc (.cells #[.bool false, .slice none 0 0, .slice none 0 0, .slice none 0 0] ah.cO)) fun FW=>ao oK q9 FW∧cZ FW ⟨q9.heap.size,0,none⟩ [.bool uK, .slice hJ.a hJ.len hJ.cap, .slice gJ.a gJ.len gJ.cap, .slice hD.a hD.len hD.cap]∧(4:Nat)=4∧ay (setCells FW ⟨q9.heap.size,0,none⟩ 0 [.bool uK, .slice hJ.a hJ.len hJ.cap, .slice gJ.a gJ.len gJ.cap, .slice hD.a hD.len hD.cap]) fun Un=>ao oK FW Un∧cZ Un ⟨di.heap.size,0,none⟩ [.bool uL, .slice fI.a fI.len fI.cap, .slice gp.a gp.len gp.cap, .slice gP.a gP.len gP.cap]∧(4:Nat)=4∧ay (setCells Un ⟨di.heap.size,0,none⟩ 0 [.bool uL, .slice fI.a fI.len fI.cap, .slice gp.a gp.len gp.cap, .slice gP.a gP.len gP.cap]) fun Uo=>cY (fun abz:World→Prop=>∃abA:Addr,up=some abA∧∃Up:Int,Uo.cell? (abA.add 5)=some (.int .i64 Up)∧((decide ((n36:Int)>Up))=true→ay (Uo.drew) fun xP=>∃Uq:Nat→Prop,¬Uq (⟨bE,0,none⟩:Addr).block∧∃Ur:Bool,xP.cell? ⟨bE,0,none⟩=some (.bool Ur)∧∃Ba:aa,xP.cell? (Addr.add ⟨bE,0,none⟩ 1)=some (.slice Ba.a Ba.len Ba.cap)∧∃Bb:aa,xP.cell? (Addr.add ⟨bE,0,none⟩ 2)=some (.slice Bb.a Bb.len Bb.cap)∧∃Bc:aa,xP.cell? (Addr.add ⟨bE,0,none⟩ 3)=some (.slice Bc.a Bc.len Bc.cap)∧¬Uq (⟨aK,0,none⟩:Addr).block∧∃Us:Bool,xP.cell? ⟨aK,0,none⟩=some (.bool Us)∧∃Bd:aa,xP.cell? (Addr.add ⟨aK,0,none⟩ 1)=some (.slice Bd.a Bd.len Bd.cap)∧∃Be:aa,xP.cell? (Addr.add ⟨aK,0,none⟩ 2)=some (.slice Be.a Be.len Be.cap)∧∃Bf:aa,xP.cell? (Addr.add ⟨aK,0,none⟩ 3)=some (.slice Bf.a Bf.len Bf.cap)∧cZ xP ⟨q9.heap.size,0,none⟩ [.bool Ur, .slice Ba.a Ba.len Ba.cap, .slice Bb.a Bb.len Bb.cap, .slice Bc.a Bc.len Bc.cap]∧(4:Nat)=4∧ay (setCells xP ⟨q9.heap.size,0,none⟩ 0 [.bool Ur, .slice Ba.a Ba.len Ba.cap, .slice Bb.a Bb.len Bb.cap, .slice Bc.a Bc.len Bc.cap]) fun Ut=>ao Uq xP Ut∧cZ Ut ⟨di.heap.size,0,none⟩ [.bool Us, .slice Bd.a Bd.len Bd.cap, .slice Be.a Be.len Be.cap, .slice Bf.a Bf.len Bf.cap]∧(4:Nat)=4∧ay (setCells Ut ⟨di.heap.size,0,none⟩ 0 [.bool Us, .slice Bd.a Bd.len Bd.cap, .slice Be.a Be.len Be.cap, .slice Bf.a Bf.len Bf.cap]) fun zg=>abz zg)∧((decide ((n36:Int)>Up))=false→abz Uo)) (fun (H9:World)=>ay (H9.drew) fun px=>∃DJ:Nat→Prop,¬DJ (⟨q9.heap.size,0,none⟩:Addr).block∧∃Uu:Bool,px.cell? ⟨q9.heap.size,0,none⟩=some (.bool Uu)∧∃rV:aa,px.cell? (Addr.add ⟨q9.heap.size,0,none⟩ 1)=some (.slice rV.a rV.len rV.cap)∧∃rW:aa,px.cell? (Addr.add ⟨q9.heap.size,0,none⟩ 2)=some (.slice rW.a rW.len rW.cap)∧∃Bg:aa,px.cell? (Addr.add ⟨q9.heap.size,0,none⟩ 3)=some (.slice Bg.a Bg.len Bg.cap)∧∃Uv:Addr,up=some Uv∧¬DJ ((Uv.add 1).add 1).block∧∃xQ:aa,px.cell? ((Uv.add 1).add 1)=some (.slice xQ.a xQ.len xQ.cap)∧∃Uw:Addr,xQ.a=some Uw∧((0:Int)≤n31∧n31<((xQ.len:Nat):Int))∧¬DJ (Uw.add (Int.toNat n31*1)).block∧∃Bh:aa,px.cell? (Uw.add (Int.toNat n31*1))=some (.slice Bh.a Bh.len Bh.cap)∧¬DJ (⟨di.heap.size,0,none⟩:Addr).block∧∃Ux:Bool,px.cell? ⟨di.heap.size,0,none⟩=some (.bool Ux)∧∃Bi:aa,px.cell? (Addr.add ⟨di.heap.size,0,none⟩ 1)=some (.slice Bi.a Bi.len Bi.cap)∧∃Bj:aa,px.cell? (Addr.add ⟨di.heap.size,0,none⟩ 2)=some (.slice Bj.a Bj.len Bj.cap)∧∃Bk:aa,px.cell? (Addr.add ⟨di.heap.size,0,none⟩ 3)=some (.slice Bk.a Bk.len Bk.cap)∧(Calls Tryz.prog F.ql #[.agg #[.bool Uu, .slice rV.a rV.len rV.cap, .slice rW.a rW.len rW.cap, .slice Bg.a Bg.len Bg.cap], .slice Bh.a Bh.len Bh.cap, .agg #[.bool Ux, .slice Bi.a Bi.len Bi.cap, .slice Bj.a Bj.len Bj.cap, .slice Bk.a Bk.len Bk.cap]] px fun aox Bl=>∃Uy:Bool,∃Bm:aa,∃Bn:aa,∃Bo:aa,∃Uz:Bool,aox= .returned ( .tuple #[.agg #[.bool Uy, .slice Bm.a Bm.len Bm.cap, .slice Bn.a Bn.len Bn.cap, .slice Bo.a Bo.len Bo.cap], .bool Uz])∧ao DJ px Bl∧ay (Bl.alloc (.cells #[.bool false, .slice none 0 0, .slice none 0 0, .slice none 0 0] ah.cO)) fun UA=>ao DJ Bl UA∧cZ UA ⟨Bl.heap.size,0,none⟩ [.bool Uy, .slice Bm.a Bm.len Bm.cap, .slice Bn.a Bn.len Bn.cap, .slice Bo.a Bo.len Bo.cap]∧(4:Nat)=4∧ay (setCells UA ⟨Bl.heap.size,0,none⟩ 0 [.bool Uy, .slice Bm.a Bm.len Bm.cap, .slice Bn.a Bn.len Bn.cap, .slice Bo.a Bo.len Bo.cap]) fun H_=>((!Uz)=true→Q (.tuple #[.slice none 0 0, .int .i64 0, .int .i64 0, .int .i64 4]) H_)∧((!Uz)=false→∃abB:Bool,H_.cell? ⟨Bl.heap.size,0,none⟩=some (.bool abB)∧∃Ia:aa,H_.cell? (Addr.add ⟨Bl.heap.size,0,none⟩ 1)=some (.slice Ia.a Ia.len Ia.cap)∧∃Ib:aa,H_.cell? (Addr.add ⟨Bl.heap.size,0,none⟩ 2)=some (.slice Ib.a Ib.len Ib.cap)∧∃Ic:aa,H_.cell? (Addr.add ⟨Bl.heap.size,0,none⟩ 3)=some (.slice Ic.a Ic.len Ic.cap)∧Calls Tryz.prog F.sE #[.pointer c, .agg #[.bool abB, .slice Ia.a Ia.len Ia.cap, .slice Ib.a Ib.len Ib.cap, .slice Ic.a Ic.len Ic.cap]] H_ fun aoy aoz=>∃Ie:aa,∃abC:Int,aoy= .returned (.tuple #[.slice Ie.a Ie.len Ie.cap, .int .i64 abC])∧Q ( .tuple #[.slice Ie.a Ie.len Ie.cap, .int .i64 n31, .int .i64 (IntKind.wrap .i64 (n31+2)), .int .i64 abC]) aoz))∧(ay (px.alloc (.cells #[.bool false, .slice none 0 0, .slice none 0 0, .slice none 0 0] ah.cO)) fun UB=>ao DJ px UB∧Calls Tryz.prog F.ql #[.agg #[.bool Uu, .slice rV.a rV.len rV.cap, .slice rW.a rW.len rW.cap, .slice Bg.a Bg.len Bg.cap], .slice Bh.a Bh.len Bh.cap, .agg #[.bool Ux, .slice Bi.a Bi.len Bi.cap, .slice Bj.a Bj.len Bj.cap, .slice Bk.a Bk.len Bk.cap]] UB fun aoA UC=>∃UD:Bool,∃Bp:aa,∃Bq:aa,∃rX:aa,∃UE:Bool,aoA= .returned ( .tuple #[.agg #[.bool UD, .slice Bp.a Bp.len Bp.cap, .slice Bq.a Bq.len Bq.cap, .slice rX.a rX.len rX.cap], .bool UE])∧ao DJ UB UC∧cZ UC ⟨px.heap.size,0,none⟩ [.bool UD, .slice Bp.a Bp.len Bp.cap, .slice Bq.a Bq.len Bq.cap, .slice rX.a rX.len rX.cap]∧(4:Nat)=4∧ay (setCells UC ⟨px.heap.size,0,none⟩ 0 [.bool UD, .slice Bp.a Bp.len Bp.cap, .slice Bq.a Bq.len Bq.cap, .slice rX.a rX.len rX.cap]) fun Ig=>((!UE)=true→Q (.tuple #[.slice none 0 0, .int .i64 0, .int .i64 0, .int .i64 4]) Ig)∧((!UE)=false→∃abD:Bool,Ig.cell? ⟨px.heap.size,0,none⟩=some (.bool abD)∧∃Ih:aa,Ig.cell? (Addr.add ⟨px.heap.size,0,none⟩ 1)=some (.slice Ih.a Ih.len Ih.cap)∧∃Ii:aa,Ig.cell? (Addr.add ⟨px.heap.size,0,none⟩ 2)=some (.slice Ii.a Ii.len Ii.cap)∧∃Ij:aa,Ig.cell? (Addr.add ⟨px.heap.size,0,none⟩ 3)=some (.slice Ij.a Ij.len Ij.cap)∧Calls Tryz.prog F.sE #[.pointer c, .agg #[.bool abD, .slice Ih.a Ih.len Ih.cap, .slice Ii.a Ii.len Ii.cap, .slice Ij.a Ij.len Ij.cap]] Ig fun aoB aoC=>∃zh:aa,∃abE:Int,aoB= .returned (.tuple #[.slice zh.a zh.len zh.cap, .int .i64 abE])∧Q ( .tuple #[.slice zh.a zh.len zh.cap, .int .i64 n31, .int .i64 (IntKind.wrap .i64 (n31+2)), .int .i64 abE]) aoC)))))
theorem aoD {w:World} {T:aX} {c:gH} {bE aK:Nat} {A:Addr} {u:gD} {n o:aM} {K V D mV mW Do:aa} {fr other no:Nat} {Q:Value→World→Prop} (h:fU w T c) (kC:Var w bE (gZ n K V D) ah.cO) (fi:Var w aK (gZ o mV mW Do) ah.cO)
   (aoE:¬T.M bE) (aoF:¬T.M aK) (aD:cd (fun q=>¬T.M q) w n K V D) (bQ:cd (fun q=>¬T.M q) w o mV mW Do) (hu:ze (fun q=>¬T.M q) w A u)
   (gC:T.C.D.cR≤900000090) (jz:2≤fO T) (pd:c.made.length≤900) (wJ:c.left.length≤900) (A_:ef n) (FR:ef o) (Pn:cr n≤400) (Ug:cr o≤400) (az:o.leaf=n.leaf) (gg:fr<u.n.keys.length) (n2:eM u.n.keys[fr]) (m:aM) (hm:m=if u.e2<other then g8 n u.n.keys[fr] o else g8 o u.n.keys[fr] n) (j3:zd m) (pI:fr≤1000)
   (yA:∀ (s:aa) (e:Int) (ck:aX) (aT:gH) (ag w':World),fV T ck c aT [] [no] w ag 0→pY ck aT m ag (.tuple #[.slice s.a s.len s.cap, .int .i64 e]) w'→Q (.tuple #[.slice s.a s.len s.cap, .int .i64 (fr:Nat), .int .i64 ((fr+2:Nat):Int), .int .i64 e]) w'):
   Um bE aK (some ⟨c.dt,0,none⟩) (some A) (fr:Nat) (other:Nat) (no:Nat) 0 w Q:=by
 unfold Um
 refine ⟨fun ab=>(by cases ab),fun _=>⟨_,rfl,_,h.cells.2.2,?_⟩⟩
 obtain ⟨ar,tu,aA,aE,aI,aL,cQ⟩:=aaW h no (by omega)
 refine bL ⟨ar,tu,aA,_,rfl,by rw[aW];exact aI,by rw[aW];exact aL,bL ?_⟩
 rw[aW]
 obtain ⟨fz,abF⟩:∃fz,fz=tu.setCell ⟨c.dt,0+2,none⟩ (.slice ar.a ar.len ar.cap):=⟨_,rfl⟩
 rw[←abF]
 obtain ⟨abG,abH⟩:=cQ fz abF
 have gI:=fV.leave (c:=c) (c':={c with mc:=ar,left:=c.left++ [no]}) (no:=no) abH rfl (fun q J=> .inl J) rfl rfl rfl
 obtain ⟨ck,iH⟩:∃ck,ck=T.dw T.E fun q=>T.G q∨aO ar q:=⟨_,rfl⟩
 obtain ⟨aT,iN⟩:∃aT:gH,aT={c with mc:=ar,left:=c.left++ [no]}:=⟨_,rfl⟩
 have rP:aT.dt=c.dt:=by rw[iN]
 have Aw:aT.made=c.made:=by rw[iN]
 have HM:ck.C.D.cR≤900000090:=by rw[iH];exact gC
 have TY:2≤fO ck:=by rw[iH];exact jz
 rw[←iH,←iN] at abG gI
 rw[←iH] at abH
 have bA:Ext fz fz.drew:=dL _
 have abI:=abG.ext bA
 have UF:fV T ck c aT [] [no] w fz.drew 0:=gI.trans (fV.ext ck aT bA)
 obtain ⟨di,aoG⟩:∃di,di=fz.drew:=⟨_,rfl⟩
 rw[←aoG] at bA abI UF⊢
 have cy:=UF.to
 have kh:∀q,¬T.M q→¬T.N q:=fun q U ad=>U (aX.k7 ad)
 have UG:=kC.an cy.an (kh _ aoE)
 have UH:=fi.an cy.an (kh _ aoF)
 have abJ:∀ {m:aM} {K V D:aa},cd (fun q=>¬T.M q) w m K V D→cd (fun q=>¬T.M q) di m K V D:=fun hm=>cd.an hm cy.an fun q J=>kh q J
 have aoH:=abJ aD
 have FN:=abJ bQ
 have aoI:=hu.to cy
 obtain ⟨bM,dk,db,bk⟩:=cj UG
 obtain ⟨A2,jy,lL,xK⟩:=cj UH
 have sx:=UG.lt
 have Fa:=UH.lt
 have fin:∀ (fA:World) (oH bv:Nat),Ext di fA→Var fA oH (gZ o mV mW Do) ah.cO→Var fA bv (gZ n K V D) ah.cO→di.heap.size≤oH→di.heap.size≤bv→oH≠bv→T9 bE aK oH bv (some ⟨c.dt,0,none⟩) (some A) (fr:Nat) (other:Nat) fA Q:=by
   intro fA oH bv af aR ab U ad au
   have:=aom abI af UG UH aR ab U ad au aoH FN aoI HM TY (by rw[Aw];exact pd) A_ FR Pn Ug az gg n2 m hm j3 pI (Q:=Q) fun s e w' aH=>yA s e ck aT di w' UF aH
   rw[rP] at this
   exact this
 refine bL ⟨fun q=>di.heap.size≤q,(show¬di.heap.size≤aK by omega),_,A2,mV,jy,mW,lL,Do,xK,(show¬di.heap.size≤bE by omega),_,bM,K,dk,V,db,D,bk,?_,?_⟩
 · refine cn (vs:=[.bool false, .slice none 0 0, .slice none 0 0, .slice none 0 0]) rfl fun gV aoJ FX aoK=>⟨ao.eQ FX,cn (vs:=[.bool false, .slice none 0 0, .slice none 0 0, .slice none 0 0]) rfl fun nU UI FY aoL=> ?_⟩
   have K9:=aoJ.ext FY
   refine ⟨ao.eQ FY,K9.dA rfl lB,rfl,ek K9 (us:=gZ o mV mW Do) rfl rfl fun sH UJ FZ aoM=> ?_⟩
   have K_:=UI.an FZ (by omega)
   have UK:Ext di sH:=Ext.eX (FX.trans FY) FZ (cV _)
   refine ⟨FZ.mono fun q _ e=>by omega,K_.dA rfl lB,rfl,ek K_ (us:=gZ n K V D) rfl rfl fun lp UL La aoN=> ?_⟩
   exact fin lp di.heap.size gV.heap.size (Ext.eX UK La (by omega)) (UJ.an La (by omega)) UL (cV _) (by omega) (by omega)
 · refine cn (vs:=[.bool false, .slice none 0 0, .slice none 0 0, .slice none 0 0]) rfl fun gV aoO FX aoK=>⟨ao.eQ FX,cn (vs:=[.bool false, .slice none 0 0, .slice none 0 0, .slice none 0 0]) rfl fun nU K9 FY aoL=> ?_⟩
   have UI:=aoO.ext FY
   refine ⟨ao.eQ FY,K9.dA rfl lB,rfl,ek K9 (us:=gZ o mV mW Do) rfl rfl fun sH UJ FZ aoM=> ?_⟩
   have K_:=UI.an FZ (by omega)
   have UK:Ext di sH:=Ext.eX (FX.trans FY) FZ (by omega)
   refine ⟨FZ.mono fun q _ e=>by omega,K_.dA rfl lB,rfl,ek K_ (us:=gZ n K V D) rfl rfl fun lp UL La aoN=> ?_⟩
   exact fin lp gV.heap.size di.heap.size (Ext.eX UK La (cV _)) (UJ.an La (by omega)) UL (by omega) (cV _) (by omega)
theorem b5.read {w w':World} {T:aX} {E:Nat→Prop} {bx:eZ} {P:Nat→Option aM} {k:Nat} (h:b5 (T.dw E fun _=>False) ((T.dw E fun _=>False).cP bx P) w w' k) (fh:∀q,T.E q∨T.G q→E q) (wX:∀q,E q→T.E q∨T.G q∨w.heap.size≤q):b5 T (T.cP bx P) w w' k:=by
 refine ⟨h.cl,h.eK,h.n,h.g,h.s1,h.s2,h.c,h.d,h.gQ,h.gen,h.cR,h.calm,h.an.mono fun q _ J=> ?_,fun q J=> ?_,fun q J=> ?_⟩
 · rcases J with J|J|J|J
   · exact .inl J
   · exact .inr (.inl J)
   · exact .inr (.inr (.inl J))
   · exact J.elim
 · have U:((T.dw E fun _=>False).cP bx P).M q:=by
     rcases J with J|J|J|J
     · exact .inl J
     · exact .inr (.inl J)
     · exact .inr (.inr (.inl J))
     · exact .inr (.inr (.inr (.inl (fh q J))))
   rcases h.jj q U with ad|ad
   · rcases ad with J|J|J|J|J
     · exact .inl (.inl J)
     · exact .inl (.inr (.inl J))
     · exact .inl (.inr (.inr (.inl J)))
     · rcases wX q J with au|au|au
       · exact .inl (.inr (.inr (.inr (.inl au))))
       · exact .inl (.inr (.inr (.inr (.inr au))))
       · exact .inr au
     · exact J.elim
   · exact .inr ad
 · rcases J with J|J|J|J
   · rcases h.fn q (.inl J) with ad|ad
     · rcases ad with ad|ad|ad|ad
       · exact .inl (.inl ad)
       · exact .inl (.inr (.inl ad))
       · exact .inl (.inr (.inr (.inl ad)))
       · exact ad.elim
     · exact .inr ad
   · exact .inl (.inr (.inl J))
   · exact .inl (.inr (.inr (.inl J)))
   · exact .inl (.inr (.inr (.inr J)))
end
section
theorem fV.cache {T:aX} {c:gH} {bx:eZ} {w w':World} {k:Nat} (h:b5 T (T.cP bx T.P) w w' k) (ak:∀j,bx.view j=T.C.view j):fV T (T.cP bx T.P) c c [] [] w w' k:=
 ⟨h,rfl,fun _ h=>h,rfl,rfl,rfl,by simp,by simp,JK,fun _ h=>(by cases h),fun no=>by simp[aX.cP],fun no _=>⟨rfl,ak no⟩,by simp[fO,aX.cP]⟩
theorem abK {w ag:World} {T:aX} {c:gH} {Z:Nat→Prop} {no:Nat} {o:aM} (h:fU w T c) (af:Ext w ag) (vh:∀q,Z q→w.heap.size≤q∧q<ag.heap.size) (gC:T.C.D.cR≤999999999) (gA:T.P no=some o):
   aQ Tryz.prog F.sB #[.pointer (some ⟨T.cl,0,none⟩), .int .i64 (no:Nat), .bool o.leaf] ag (fun v w'=>∃bx:eZ,(∀j,bx.view j=T.C.view j)∧ao (fun q=>T.N q∧¬T.G q) ag w'∧(∀q,(T.cP bx T.P).M q→T.M q∨ag.heap.size≤q)∧
     (∀iG,ao Z w' iG→fU iG (T.cP bx T.P) c∧fV T (T.cP bx T.P) c c [] [] w iG 2)∧
     ((∃ (K V D:aa),v= .tuple #[e9 o K V D, .int .i64 0]∧cd (fun q=>ag.heap.size≤q∧¬(T.cP bx T.P).M q) w' o K V D)∨(v= .tuple #[e9 pj bU bU bU, .int .i64 3]∧¬T.C.D.calm 2))):=by
 obtain ⟨dd,lA⟩:=h.t.l_ no o gA
 obtain ⟨c7,lz⟩:∃c7,c7=fun q=>T.E q∨T.G q∨Z q:=⟨_,rfl⟩
 have ng:∀q,T.E q∨T.G q∨Z q→c7 q:=fun q J=>by rw[lz];exact J
 have p2:∀q,c7 q→T.E q∨T.G q∨Z q:=fun q J=>by rw[lz] at J;exact J
 have aN:c6 ag (T.dw c7 fun _=>False):=h.t.grow (W:=fun _=>False) af (fun _ h=>h.elim) (fun q J=>(p2 q J).imp id (Or.imp id (vh q))) (fun _ h=>h.elim) fun _ _ h=>h
 have Pr:∀q,(T.dw c7 fun _=>False).N q→T.N q∧¬T.G q:=fun q J=>⟨by
   rcases J with J|J|J|J
   · exact .inl J
   · exact .inr (.inl J)
   · exact .inr (.inr (.inl J))
   · exact J.elim,fun bf=>aN.su (ng q (.inr (.inl bf))) J⟩
 refine (TG aN gC dd o.leaf).mono ?_
 rintro v w' ⟨bx,bm,aV,ak,eT⟩
 have abL:=af.size
 have bN:=aV.an.size
 have abM:=(b5.ext (T.dw c7 fun _=>False) af).trans aV
 rw[gz] at abM
 have UM:b5 T (T.cP bx T.P) w w' 2:=b5.read (E:=c7) abM (fun q J=>ng q (J.imp id .inl)) fun q J=>(p2 q J).imp id (Or.imp id fun h=>(vh q h).1)
 have iN:ao (fun q=>T.N q∧¬T.G q) ag w':=aV.an.mono fun q _ J=>Pr q J
 refine ⟨bx,ak,iN,fun q J=> ?_,fun iG al=> ?_,?_⟩
 · rcases J with J|J
   · exact (aV.fn q (.inl J)).imp (fun h=>aX.k7 (Pr q h).1) id
   · exact .inl (.inr J)
 · have rY:c6 iG (T.cP bx T.P):=bm.grow (E:=T.E) (G:=T.G) al (fun q J _=> .inl (ng q (.inr (.inr J)))) (fun q J=> .inl (ng q (.inl J))) (fun q J=> .inl (ng q (.inr (.inl J)))) fun q J=>(h.t.ij q J).2.2
   refine ⟨(h.ext af).of (W:=fun q=>(T.N q∧¬T.G q)∨Z q) rY ((iN.mono fun q _ J=> .inl J).trans (al.mono fun q _ J=> .inr J)) (fun q bf J=> ?_) rfl fun _ h=>h,fV.cache ?_ ak⟩
   · rcases J with J|J
     · exact J.2 bf
     · have:=h.t.lt (q:=q) (.inr (.inr (.inr (.inr bf))))
       have:=(vh q J).1
       omega
   · exact UM.step (E:=T.E) (G:=T.G) al (fun q J az=>by have:=(vh q J).1;omega) (fun q J=> .inl J) fun q J=> .inl J
 · rcases eT with ⟨db,K,V,D,rfl,HW,hG⟩|⟨e,rfl,KT,c4⟩
   · obtain rfl:=ur.uniq lA HW
     refine .inl ⟨K,V,D,rfl,hG.bz fun q J ab=>⟨ab.1,fun hm=>ab.2 ?_⟩⟩
     rcases hm with hm|hm|hm|hm|hm
     · exact .inl hm
     · exact .inr (.inl hm)
     · exact .inr (.inr (.inl hm))
     · exact .inr (.inr (.inr (.inl (ng q (.inl hm)))))
     · exact .inr (.inr (.inr (.inl (ng q (.inr (.inl hm))))))
   · refine .inr ?_
     rcases KT with ⟨rfl,U⟩|U|⟨_,_,U⟩
     · exact ⟨rfl,U⟩
     · obtain ⟨p,aA,_⟩:=lA
       have U:mv (no:Int) (T.C.view no)= .error e:=U
       rw[aA] at U;cases U
     · exact absurd lA (U o)
def tv (u:gD):Nat:=if u.e2=0 then 1 else u.e2-1
def zi (u:gD) (n o:aM):aM:=if u.e2<tv u then g8 n (u.n.keys.getD (u.e2-1) []) o else g8 o (u.n.keys.getD (u.e2-1) []) n
def UN (T:aX) (c:gH) (n:aM) (u:gD) (w:World) (v:Value) (w':World):Prop:=
 (80≤cr n∧∃ (s:aa) (e:Int),v= .tuple #[.slice s.a s.len s.cap, .int .i64 (u.e2:Nat), .int .i64 ((u.e2+1:Nat):Int), .int .i64 e]∧pY T c n w (.tuple #[.slice s.a s.len s.cap, .int .i64 e]) w')∨
 (cr n<80∧∃ (ck:aX) (aT:gH),v= .tuple #[.slice none 0 0, .int .i64 0, .int .i64 0, .int .i64 3]∧fU w' ck aT∧fV T ck c aT [] [] w w' 2∧¬T.C.D.calm 2)∨
 (cr n<80∧∃ (o:aM) (no:Nat) (ck:aX) (aT:gH) (ag:World) (s:aa) (e:Int),u.n.kids[tv u]? =some no∧T.P no=some o∧fV T ck c aT [] [no] w ag 2∧
   v= .tuple #[.slice s.a s.len s.cap, .int .i64 ((u.e2-1:Nat):Int), .int .i64 ((u.e2-1+2:Nat):Int), .int .i64 e]∧pY ck aT (zi u n o) ag (.tuple #[.slice s.a s.len s.cap, .int .i64 e]) w')
end
section
theorem aoP {B:Nat→Prop} {w:World} {T:aX} {c:gH} {n:aM} {K V D:aa} (h:fU w T c) (aD:cd B w n K V D) (j3:zd n) (gC:T.C.D.cR≤900000080) (jz:2≤fO T) (pd:c.made.length≤900):
   aQ Tryz.prog F.zj #[.pointer (some ⟨c.dt,0,none⟩),e9 n K V D, .pointer none] w (fun v w'=>∃ (s:aa) (e:Int),v= .tuple #[.slice s.a s.len s.cap, .int .i64 0, .int .i64 0, .int .i64 e]∧pY T c n w (.tuple #[.slice s.a s.len s.cap, .int .i64 e]) w'):=by
 refine W.abN (some ⟨c.dt,0,none⟩) n.leaf K V D none w _ ?_
 (delta W.zj aB bS ai aq aT bI aC gl a7 uw dx Ps st da Lb fE Pt;dsimp only)
 refine cn (vs:=gZ n K V D) rfl fun ag gh bD ky=> ?_
 refine eA (fun b w'=>b=true∧ag=w') (fun q J=>⟨fun _=>J _ _ ⟨rfl,rfl⟩,fun h=>(by cases h)⟩) ?_
 rintro _ _ ⟨rfl,rfl⟩
 refine ⟨fun _=>UO (fun a b w'=>a=0∧b=0∧ag=w') (fun q J=>⟨fun h=>(by cases h),fun _=>J _ _ _ ⟨rfl,rfl,rfl⟩⟩) ?_,fun h=>(by cases h)⟩
 rintro _ _ _ ⟨rfl,rfl,rfl⟩
 obtain ⟨cH,aT,bC,ba⟩:=cj gh
 refine ⟨_,cH,K,aT,V,bC,D,ba,(Pf (h.ext bD) (by omega) jz pd (aD.ext bD) j3.1 j3.2.1 j3.2.2).use ?_⟩
 intro v w' ak
 obtain ⟨s,e,rfl⟩:=ak.out
 exact ⟨s,e,rfl,s,e,rfl,ak.base bD⟩
theorem aoQ {w:World} {T:aX} {c:gH} {n:aM} {K V D:aa} {A:Addr} {u:gD} (h:fU w T c) (aD:cd (fun q=>¬T.M q) w n K V D) (hu:ze (fun q=>¬T.M q) w A u) (A_:ef n) (Pn:cr n≤400) (ax:80≤cr n→zd n)
   (fw:cr n<80→∃ (o:aM) (no:Nat),u.n.kids[tv u]? =some no∧T.P no=some o∧o.leaf=n.leaf∧u.e2-1<u.n.keys.length∧eM (u.n.keys.getD (u.e2-1) [])∧zd (zi u n o)) (lu:u.e2≤900)
   (gC:T.C.D.cR≤900000080) (jz:2≤fO T) (pd:c.made.length≤900) (wJ:c.left.length≤900):
   aQ Tryz.prog F.zj #[.pointer (some ⟨c.dt,0,none⟩),e9 n K V D, .pointer (some A)] w (UN T c n u w):=by
 have qn:=A_.k3 (by omega)
 refine W.abN (some ⟨c.dt,0,none⟩) n.leaf K V D (some A) w _ ?_
 (delta W.zj aB bS ai aq aT bI aC gl a7 uw dx Ps st da Lb fE Pt;dsimp only)
 refine cn (vs:=gZ n K V D) rfl fun ag gh bD ky=> ?_
 obtain ⟨bE,kC⟩:∃bE,bE=w.heap.size:=⟨_,rfl⟩
 rw[←kC] at gh⊢
 refine eA (fun b w'=>b=decide (80≤cr n)∧Ext ag w') (fun q J=>⟨fun h=>(by cases h),fun _=> ?_⟩) ?_
 · obtain ⟨cH,aT,bC,ba⟩:=cj gh
   refine ⟨_,cH,K,aT,V,bC,D,ba,(vt (aD.ext bD) A_ (by omega)).use ?_⟩
   rintro _ bh ⟨rfl,fe⟩
   refine ⟨_,rfl,J _ _ ⟨?_,fe⟩⟩
   rw[pc,fu,fu]
   omega
 rintro _ b9 ⟨rfl,mx⟩
 have sr:=bD.trans mx
 refine ⟨fun ab=> ?_,fun ab=> ?_⟩
 · have ab:=dD ab
   have j3:=ax ab
   refine UO (fun a b w'=>a=(u.e2:Nat)∧b=((u.e2+1:Nat):Int)∧Ext b9 w') (fun q J=>⟨fun _=> ?_,fun h=>(by cases h)⟩) ?_
   · have bA:Ext b9 b9.drew:=dL _
     have K6:=hu.ext (sr.trans bA)
     refine bL ⟨A,rfl,id,_,K6.dN,A,rfl,id,_,K6.dN,J _ _ _ ⟨rfl,?_,bA⟩⟩
     rw[cz (by omega) (by omega)];rfl
   rintro _ _ cB ⟨rfl,rfl,o3⟩
   have dS:=sr.trans o3
   obtain ⟨cH,aT,bC,ba⟩:=cj (gh.ext (mx.trans o3))
   refine ⟨_,cH,K,aT,V,bC,D,ba,(Pf (h.ext dS) (by omega) jz pd (aD.ext dS) j3.1 j3.2.1 j3.2.2).use ?_⟩
   intro v w' ak
   obtain ⟨s,e,rfl⟩:=ak.out
   exact ⟨s,e,rfl, .inl ⟨ab,s,e,rfl,ak.base dS⟩⟩
 · have ab:¬80≤cr n:=eW ab
   obtain ⟨o,no,lh,gA,Fa,jQ,eC,j3⟩:=fw (by omega)
   obtain ⟨dd,lA⟩:=h.t.l_ no o gA
   obtain ⟨_,FR,Ug⟩:=lA.is
   have Pu:=hu.ext sr
   refine ⟨A,rfl,_,Pu.dN,((u.e2-1:Nat):Int),b9,?_,?_⟩
   · rw[run_max_int2]
     congr 2
     by_cases b7:u.e2=0
     · rw[b7];rfl
     · rw[cz (by omega) (by omega),if_neg (by omega)];omega
   refine eA (fun a w'=>a=(tv u:Nat)∧b9=w') (fun q J=>⟨A,rfl,_,Pu.dN,fun b7=>J _ _ ⟨?_,rfl⟩,fun b7=>J _ _ ⟨?_,rfl⟩⟩) ?_
   · have:u.e2=0:=by simpa using b7
     unfold tv;rw[if_pos this];rfl
   · have:u.e2≠0:=by simpa using b7
     unfold tv;rw[if_neg this]
   rintro _ _ ⟨rfl,rfl⟩
   have aoR:tv u<u.n.kids.length:=(qA.1 lh).1
   obtain ⟨Yq,aoS,mN,rO⟩:=eo.at Pu.dT.kids aoR
   have aoT:u.n.kids[tv u]=no:=(qA.1 lh).2
   rw[aoT] at rO
   refine ⟨A,rfl,u.D,Pu.gl,Yq,aoS,mN,_,rO,bL ?_⟩
   have bA:Ext b9 b9.drew:=dL _
   obtain ⟨gK,aoU⟩:∃gK,gK=b9.drew:=⟨_,rfl⟩
   rw[←aoU] at bA⊢
   have dS:=sr.trans bA
   have UP:=h.ext dS
   have awp:=dS.size
   have m8:=(mx.trans bA).size
   have Lc:=gh.ext (mx.trans bA)
   have UQ:∀q,T.M q→q<w.heap.size:=fun q J=>h.t.lt J
   have n2:u.n.keys.getD (u.e2-1) []=u.n.keys[u.e2-1]:=by rw[pD,gF jQ];rfl
   have fin:∀ (bx:eZ) (aK:Nat) (mV mW Do:aa) (fk:World),fU fk (T.cP bx T.P) c→fV T (T.cP bx T.P) c c [] [] gK fk 2→Var fk bE (gZ n K V D) ah.cO→Var fk aK (gZ o mV mW Do) ah.cO→gK.heap.size≤aK→¬(T.cP bx T.P).M aK→cd (fun q=>¬(T.cP bx T.P).M q) fk o mV mW Do→
       Um bE aK (some ⟨c.dt,0,none⟩) (some A) ((u.e2-1:Nat):Int) (tv u:Nat) (no:Nat) 0 fk (fun v w'=>UN T c n u w v w'):=by
     intro bx aK mV mW Do fk F0 Pv Ik Aq fi aoV aoW
     have gI:=((fV.ext T c dS).trans Pv).mono (j:=2) (by omega)
     have cy:=gI.to
     have DK:¬(T.cP bx T.P).M bE:=fun hm=>by
       rcases Pv.to.jj bE hm with U|U
       · have:=UQ _ U;omega
       · omega
     have aoX:cd (fun q=>¬(T.cP bx T.P).M q) fk n K V D:=(cy.dT (lo:=0) (aD.bz fun q _ ab=>⟨fl _,ab⟩)).bz fun q _ ab=>ab.2
     have F1:(T.cP bx T.P).C.D.cR≤900000090:=jb cy.cR (by omega)
     refine aoD F0 Ik Aq DK aoV aoX aoW (hu.to cy) F1 jz pd wJ A_ FR Pn (by omega) Fa jQ (by rw[←n2];exact eC) (zi u n o) (by unfold zi;rw[n2]) j3 (by omega) ?_
     intro s e ck aT aoY w' aoZ aH
     exact .inr (.inr ⟨by omega,o,no,ck,aT,aoY,s,e,lh,gA,(gI.trans aoZ).mono (by omega),rfl,aH⟩)
   have Pw:∀q,T.N q→q<w.heap.size:=fun q J=>UQ q (aX.k7 J)
   have err:∀ (bx:eZ) (fk:World),fU fk (T.cP bx T.P) c→fV T (T.cP bx T.P) c c [] [] gK fk 2→¬T.C.D.calm 2→UN T c n u w (.tuple #[.slice none 0 0, .int .i64 0, .int .i64 0, .int .i64 3]) fk:=by
     intro bx fk F0 Pv fj
     exact .inr (.inl ⟨by omega,_,c,rfl,F0,((fV.ext T c dS).trans Pv).mono (by omega),fj⟩)
   obtain ⟨cH,aT,bC,ba⟩:=cj Lc
   refine ⟨fun q=>T.N q∧¬T.G q,_,rfl,fun J=>J.2 h.gc,_,UP.cells.1,(fun J=>by have:=Pw _ J.1;show False;exact absurd this (by show¬bE<w.heap.size;omega)),_,cH,?_,?_⟩
   · rw[←Fa]
     refine (abK (Z:=fun _=>False) UP (ao.refl _ _) (fun _ h=>h.elim) (by omega) gA).use ?_
     rintro _ dy ⟨bx,ak,DL,Ld,Le,eT⟩
     have ao0:=DL.size
     rcases eT with ⟨mV,mW,Do,rfl,UR⟩|⟨rfl,fj⟩
     · refine ⟨_,mV,mW,Do,0,rfl,DL,cn (vs:=[.bool false, .slice none 0 0, .slice none 0 0, .slice none 0 0]) rfl fun hM Br Lf ao1=>⟨ao.eQ Lf,Br.dA rfl lB,rfl,ek Br (us:=gZ o mV mW Do) rfl rfl fun fk Lg Bs US=> ?_⟩⟩
       have F2:Ext dy fk:=Ext.eX Lf Bs (cV _)
       obtain ⟨Px,UT⟩:=Le dy (ao.refl _ _)
       have Il:=Lc.an DL fun J=>by have:=Pw _ J.1;omega
       refine fin bx dy.heap.size mV mW Do fk (Px.ext F2) ((UT.trans (fV.ext _ _ F2)).mono (by omega)) (Il.ext F2) Lg (by omega) (fun hm=>by have:=Px.t.lt hm;omega) ?_
       exact (UR.ext F2).bz fun q _ ab=>ab.2
     · refine ⟨_,bU,bU,bU,3,rfl,DL,cn (vs:=[.bool false, .slice none 0 0, .slice none 0 0, .slice none 0 0]) rfl fun hM Br Lf ao1=>⟨ao.eQ Lf,Br.dA rfl lB,rfl,ek Br (us:=gZ pj bU bU bU) rfl rfl fun fk Lg Bs US=>⟨fun _=> ?_,fun ab=>(by cases ab)⟩⟩⟩
       have F2:Ext dy fk:=Ext.eX Lf Bs (cV _)
       obtain ⟨Px,UT⟩:=Le dy (ao.refl _ _)
       exact err bx fk (Px.ext F2) ((UT.trans (fV.ext _ _ F2)).mono (by omega)) fj
   · refine cn (vs:=[.bool false, .slice none 0 0, .slice none 0 0, .slice none 0 0]) rfl fun b6 F3 nh UU=>⟨ao.eQ nh,?_⟩
     rw[←Fa]
     refine (abK (Z:=fun q=>q=gK.heap.size) UP nh (fun q e=>⟨by omega,by omega⟩) (by omega) gA).use ?_
     rintro _ dy ⟨bx,ak,DL,Ld,Le,eT⟩
     have ao0:=DL.size
     have Il:=F3.an DL fun J=>by have:=Pw _ J.1;omega
     have ao2:=(Lc.ext nh).an DL fun J=>by have:=Pw _ J.1;omega
     rcases eT with ⟨mV,mW,Do,rfl,UR⟩|⟨rfl,fj⟩
     · refine ⟨_,mV,mW,Do,0,rfl,Il.dA rfl lB,rfl,ek Il (us:=gZ o mV mW Do) rfl rfl fun fk Lg Bs US=> ?_⟩
       obtain ⟨F0,UW⟩:=Le fk Bs
       refine fin bx gK.heap.size mV mW Do fk F0 UW (ao2.an Bs (by omega)) Lg (cV _) (fun hm=> ?_) ?_
       · rcases Ld _ hm with U|U
         · have:=UQ _ U;omega
         · omega
       · refine (cd.an UR Bs fun q J e=>by have:=J.1;omega).bz fun q _ ab=>ab.2
     · refine ⟨_,bU,bU,bU,3,rfl,Il.dA rfl lB,rfl,ek Il (us:=gZ pj bU bU bU) rfl rfl fun fk Lg Bs US=>⟨fun _=> ?_,fun ab=>(by cases ab)⟩⟩
       obtain ⟨F0,UW⟩:=Le fk Bs
       exact err bx fk F0 UW fj
end
section
structure UX (T av:aX) (l:List Nat) (w w':World):Prop where
 to:b5 T av w w' 0
 E:av.E=T.E
 G:av.G=T.G
 root:av.root=T.root
 bw:av.bw=T.bw
 f:∀no,av.f no=(T.f no&& !decide (no∈l))
 g4:∀no,(no∉l∨T.g no=true)→av.P no=T.P no∧av.C.view no=T.C.view no
theorem abO {w:World} {T:aX} {c:gH} {s:aa} {l:List Nat} (h:fU w T c) (aj:Src 1 w s (gU l)) (wY:∀q,aO s q→T.G q) (az:∀x∈l,T.f x=true) (hG:l.Nodup) (wJ:l.length≤10000):
   aQ Tryz.prog F.Bt #[.pointer (some ⟨c.dt,0,none⟩), .slice s.a s.len s.cap] w (fun v w'=>v= .tuple #[]∧∃av:aX,fU w' av c∧UX T av l w w'):=by
 have gw:s.len=l.length:=by have:=aj.len;rw[Al] at this;omega
 refine W.ao3 (some ⟨c.dt,0,none⟩) s w _ ?_
 (delta W.Bt aB a7 bI ba aT aC;dsimp only)
 refine ⟨fun i w'=>∃ (j:Nat) (av:aX),i=j∧j≤l.length∧fU w' av c∧UX T av (l.take j) w w'∧Src 1 w' s (gU l),fun i _=>((l.length:Int)-i).toNat,⟨0,T,rfl,fl _,h,⟨.refl _ _,rfl,rfl,rfl,rfl,fun no=>by simp,fun _ _=>⟨rfl,rfl⟩⟩,aj⟩,?_⟩
 rintro _ bp ⟨j,ck,rfl,a_,U,bf,J5⟩
 refine ⟨fun bd=> ?_,fun cg=> ?_⟩
 · have bd:j<l.length:=by
     have:((j:Nat):Int)<((s.len:Nat):Int):=dD bd
     omega
   have pH:ck.f l[j]=true:=by
     rw[bf.f,az _ (fg bd)]
     have:l[j]∉l.take j:=fun hm=>by
       obtain ⟨i,hi,he⟩:=m3 hm
       rw[d_] at hi
       rw[GW] at he
       have:=(List.getElem_inj hG).1 he
       omega
     simp[this]
   have awq:l[j]<ck.n:=by
     rcases g6 l[j] ck.n with ad|ad
     · exact ad
     · have:=U.t.s.HO _ ad
       rw[pH] at this;cases this
   obtain ⟨A,ax,ab,al⟩:=J5.at (i:=j) (v:= .int .i64 ((l[j]:Nat):Int)) (by simp[gU,bd])
   refine wV (fun w'=>∃da:aX,fU w' da c∧UX T da (l.take (j+1)) w w'∧Src 1 w' s (gU l)) (fun q J=>⟨A,ax,ab,_,al,_,rfl,_,U.cells.1,_,rfl,_,U.t.cells.2.1,(amG U.t.s _).use ?_⟩) ?_
   · rintro _ _ ⟨rfl,rfl⟩
     refine ⟨_,rfl,_,rfl,_,U.cells.1,_,rfl,_,U.t.cells.2.1,(amC U.t.s _).use ?_⟩
     rintro _ dp ⟨rfl,qG,xH⟩
     have yN:HP ck.f ck.n ((l[j]:Nat):Int)=km ck.f l[j] false:=by
       unfold HP
       rw[if_pos ⟨by omega,by omega⟩,gY]
     rw[yN] at qG
     obtain ⟨ao4,abP⟩:=U.t.aaV qG xH
     have DM:fU dp (ck.HZ (km ck.f l[j] false)) c:=U.of ao4 xH (fun q J aH=>(U.t.uu q J).2 aH) rfl fun _ h=>h
     have Dt:Src 1 dp s (gU l):=J5.an xH fun q J aH=>(U.t.uu q (by rw[bf.G];exact wY q J)).2 aH
     have FC:(decide ((0:Int)≤((l[j]:Nat):Int))&&decide (((l[j]:Nat):Int)<(ck.n:Nat))&&ck.f (Int.toNat ((l[j]:Nat):Int))&& !(ck.g (Int.toNat ((l[j]:Nat):Int))))= !(ck.g l[j]):=by
       rw[gY,pH,iy (by omega),iy (by omega)];simp
     have Im:∀no,km ck.f l[j] false no=(T.f no&& !decide (no∈l.take (j+1))):=fun no=>by
       rw[qz bd]
       unfold km
       by_cases e:no=l[j]
       · rw[if_pos e,e,iy (e8.2 (.inr (lV.2 rfl)))]
         exact (Bool.and_false _).symm
       · rw[if_neg e,bf.f]
         have bo:decide (no∈l.take j++ [l[j]])=decide (no∈l.take j):=by
           rw[pc,fu,fu,e8,lV]
           exact ⟨fun h=>h.resolve_right e, .inl⟩
         rw[bo]
     rw[FC]
     refine ⟨_,rfl,fun gg=>⟨_,rfl,_,DM.cells.1,_,rfl,_,DM.t.cells.1,(al7 DM.t.oF _).use ?_⟩,fun gg=>J _ ⟨_,DM,⟨?_,bf.E,bf.G,bf.root,bf.bw,Im,fun no dd=> ?_⟩,Dt⟩⟩
     · rintro _ cv ⟨⟨b,rfl⟩,bx,n1,cy,ak⟩
       have OT:T.g l[j]=false:=by
         have ad:ck.g=T.g:=bf.to.g
         rw[ad] at gg
         simpa using gg
       obtain ⟨ao5,ao6⟩:=DM.t.TF (P:=fun no=>if no=l[j] then none else ck.P no) n1 cy (fun no dT aZ=>by
         by_cases e:no=l[j]
         · rw[if_pos e] at aZ;cases aZ
         · rw[if_neg e] at aZ
           rw[ak no e]
           exact U.t.l_ no dT aZ)
       have UY:=DM.of (av:=(ck.HZ (km ck.f l[j] false)).cP bx fun no=>if no=l[j] then none else ck.P no) ao5 cy.an (fun q J=>DM.t.KW J) rfl fun _ h=>h
       refine ⟨b,rfl,J _ ⟨_,UY,⟨?_,bf.E,bf.G,bf.root,bf.bw,Im,fun no dd=> ?_⟩,?_⟩⟩
       · exact ((bf.to.trans abP).trans ao6).mono (by omega)
       · have c4:no≠l[j]:=fun e=>by
           rcases dd with ad|ad
           · exact ad (by rw[qz bd,e];exact e8.2 (.inr (lV.2 rfl)))
           · rw[e,OT] at ad;cases ad
         have au:=bf.g4 no (dd.imp (fun ad aJ=>ad (by rw[qz bd];exact e8.2 (.inl aJ))) id)
         exact ⟨(if_neg c4).trans au.1,(ak no c4).trans au.2⟩
       · exact Dt.an cy.an fun q J=>DM.t.KW (by show ck.G q;rw[bf.G];exact wY q J)
     · exact (bf.to.trans abP).mono (by omega)
     · exact bf.g4 no (dd.imp (fun ad aJ=>ad (by rw[qz bd];exact e8.2 (.inl aJ))) id)
   · rintro fy ⟨da,ad,UZ,mo⟩
     rw[cz (n:=(j:Int)+1) (by omega) (by omega)]
     refine ⟨⟨j+1,da,by omega,by omega,ad,UZ,mo⟩,?_⟩
     show ((l.length:Int)-((j:Int)+1)).toNat<((l.length:Int)-(j:Int)).toNat
     omega
 · have cg:j=l.length:=by
     have:¬((j:Nat):Int)<((s.len:Nat):Int):=eW cg
     omega
   subst cg
   rw[qB] at bf
   exact ⟨rfl,ck,U,bf⟩
theorem zk {B:Nat→Prop} {w:World} {n:aM} {K V D:aa} (aD:cd B w n K V D) (bw:Nat) (cT:bw≤100) (ae:n.leaf=false→∃x,n.kids=[x]∧1≤bw):
   aQ Tryz.prog F.zk #[e9 n K V D, .int .i64 (bw:Nat)] w (fun v w'=>v=(if n.leaf then .tuple #[.int .i64 0, .int .i64 0, .int .i64 0] else .tuple #[.int .i64 ((n.kids.getD 0 0:Nat):Int), .int .i64 ((bw-1:Nat):Int), .int .i64 0])∧Ext w w'):=by
 refine W.ao7 n.leaf K V D (bw:Nat) w _ ?_
 (delta W.zk bS ai aB aq a7 bI aC;dsimp only)
 refine cn (vs:=gZ n K V D) rfl fun ag gh bD ky=> ?_
 obtain ⟨cH,aT,bC,ba⟩:=cj gh
 refine ⟨_,cH,fun ab=>⟨by rw[if_pos ab],bD⟩,fun ab=> ?_⟩
 obtain ⟨x,af,U⟩:=ae ab
 obtain ⟨A,ax,gT,al⟩:=eo.at (aD.ext bD).kids (i:=0) (by rw[af];simp)
 refine ⟨D,ba,A,ax,gT,_,al,?_,bD⟩
 have aY:((bw:Nat):Int)-1=((bw-1:Nat):Int):=by omega
 rw[if_neg (by rw[ab];simp),cz (by omega) (by omega),aY]
 simp only[af]
 rfl
end
section
def U0 (T:aX) (c:gH) (ks:List Key) (kids:List Nat) (w:World) (v:Value) (w':World):Prop:=
 (∃x,ks=[]∧kids=[x]∧v= .tuple #[.int .i64 (x:Nat), .int .i64 (T.bw:Nat), .int .i64 0]∧fU w' T c∧Ext w w')∨
 (∃ (k:Key) (x y no:Nat) (av:aX) (c':gH),ks=[k]∧kids=[x,y]∧fU w' av c'∧fV T av c c' [no] [] w w' 1∧
   ((v= .tuple #[.int .i64 (no:Nat), .int .i64 ((T.bw+1:Nat):Int), .int .i64 0]∧av.P no=some ⟨false,[k],[],[x,y]⟩)∨(v= .tuple #[.int .i64 (no:Nat), .int .i64 ((T.bw+1:Nat):Int), .int .i64 3]∧¬T.C.D.calm 1)))
theorem abQ (K D:Nat) (w:World):Sem.run Tryz.prog (Instr.build ah.cO #[(1, .slice (some ⟨K,0,none⟩) 1 1),(3, .slice (some ⟨D,0,none⟩) 2 2)]) w= .ok (.agg #[.bool false, .slice (some ⟨K,0,none⟩) 1 1, .slice none 0 0, .slice (some ⟨D,0,none⟩) 2 2]) w:=by kernel_rfl
theorem Var.abR {w:World} {b:Nat} {vs:List Value} {T:TypeId} (h:Var w b vs T):Src 1 w ⟨some ⟨b,0,none⟩,vs.length,vs.length⟩ vs:=by
 refine ⟨by show _=vs.length*1;omega,(fun h=>by cases h),fun a aR=> ?_⟩
 cases aR
 show eN w ⟨b,0,none⟩ 0 (vs.length*1)=_
 rw[lU,h.rd rfl]
theorem ao8 {w:World} {t:aa} {k:Key} (b:Nat) (ak:Var w b [.slice t.a t.len t.cap] ah.cm) (aV:bF (fun _=>True) w t k):bZ (fun _=>True) w ⟨some ⟨b,0,none⟩,1,1⟩ [k]:=by
 refine ⟨[t],rfl,ak.abR,cV _,fun q J=>⟨trivial,?_⟩,fun i U ad=> ?_⟩
 · obtain ⟨A,ax,rfl⟩:=J
   cases ax
   exact ak.lt
 · have:i=0:=by simp at U;omega
   subst this
   exact aV
theorem ao9 {w:World} {x y:Nat} (b:Nat) (ak:Var w b [.int .i64 (x:Nat), .int .i64 (y:Nat)] ah.int):eo (fun _=>True) w ⟨some ⟨b,0,none⟩,2,2⟩ [x,y]:=by
 refine ⟨ak.abR,cV _,fun q J=>⟨trivial,?_⟩⟩
 obtain ⟨A,ax,rfl⟩:=J
 cases ax
 exact ak.lt
theorem ao_ {w:World} {T:aX} {c:gH} {s:aa} {ks:List Key} {kids:List Nat} (h:fU w T c) (aZ:xJ (fun q=>¬T.M q) w s ks kids) (cT:kids.length=2→T.bw<12) (aj:∀k x y,ks=[k]→kids=[x,y]→eM k∧x<1600∧y<1600)
   (gC:T.C.D.cR≤900000080) (jz:1≤fO T) (pd:c.made.length≤900):
   aQ Tryz.prog F.DN #[.pointer (some ⟨c.dt,0,none⟩), .slice s.a s.len s.cap] w (U0 T c ks kids w):=by
 have awr:=h.t.num.2.1
 refine W.apa (some ⟨c.dt,0,none⟩) s w _ ?_
 (delta W.DN aB a7 bI aq DO ai sD aC;dsimp only)
 have bA:Ext w w.drew:=dL w
 have hd:=h.ext bA
 rcases aZ with ⟨b,x,rfl,rfl,rfl,ak,ab⟩|⟨b,x,y,k,t,rfl,rfl,rfl,ak,ab,aV,ae⟩
 · refine ⟨fun _=>bL ⟨_,rfl,⟨by decide,by show (0:Int)<((1:Nat):Int);decide⟩,id,_,by rw[aW,aW];exact ak.drew.cell,_,rfl,id,_,hd.cells.1,_,rfl,id,_,hd.t.cells.2.2.2.2,?_⟩,fun h=>(by cases h)⟩
   exact .inl ⟨x,rfl,rfl,rfl,hd,bA⟩
 · have cT:=cT rfl
   obtain ⟨s1,s2,bY⟩:=aj k x y rfl rfl
   refine ⟨fun h=>(by cases h),fun _=>⟨_,rfl,_,h.cells.1,_,rfl,_,h.t.cells.2.2.2.2,fun ni=> ?_,fun _=> ?_⟩⟩
   · have:((T.bw:Nat):Int)=12:=by simpa using ni
     omega
   have rM:ef ⟨false,[k],[],[x,y]⟩:= .inr ⟨⟨fun lP jP=>by rw[lV.1 jP];exact s1,List.pairwise_singleton _ _⟩,rfl,by simp,rfl,rfl,fun z bN=>by
     simp only[gb,m4,m5] at bN
     rcases bN with rfl|rfl<;>assumption⟩
   have dR:cr ⟨false,[k],[],[x,y]⟩≤232:=by
     have:=s1.2
     simp[cr,cellsOf]
     omega
   have U1:¬T.N b:=fun aD=>ab (aX.k7 aD)
   have fin:∀ (c5:World) (bT a7:Nat),Ext w c5→Var c5 bT [.slice t.a t.len t.cap] ah.cm→Var c5 a7 [.int .i64 (x:Nat), .int .i64 (y:Nat)] ah.int→
       aQ Tryz.prog F.uA #[.pointer (some ⟨c.dt,0,none⟩), .agg #[.bool false, .slice (some ⟨bT,0,none⟩) 1 1, .slice none 0 0, .slice (some ⟨a7,0,none⟩) 2 2]] c5 (fun v w'=>∃n27:Int,∃n28:Int,v= .tuple #[.int .i64 n27, .int .i64 n28]∧ao T.N c5 w'∧
         ∀iG,Ext w' iG→U0 T c [k] [x,y] w (.tuple #[.int .i64 n27, .int .i64 ((T.bw+1:Nat):Int), .int .i64 n28]) iG∧∃av c',fU iG av c'∧c'.dt=c.dt∧av.cl=T.cl∧av.bw=T.bw):=by
     intro c5 bT a7 af Uj mN
     have hG:cd (fun _=>True) c5 ⟨false,[k],[],[x,y]⟩ ⟨some ⟨bT,0,none⟩,1,1⟩ ⟨none,0,0⟩ ⟨some ⟨a7,0,none⟩,2,2⟩:=by
       exact ⟨ao8 bT Uj (bF.bz (bF.ext aV af) fun _ _ _=>trivial),bZ.none _ _,ao9 a7 mN⟩
     refine (O_ (h.ext af) (by omega) jz (by omega) hG rM dR).mono ?_
     rintro v w' ⟨no,av,c',pt,cy,eT⟩
     have gI:=((fV.ext T c af).trans cy).mono (j:=1) (by omega)
     rcases eT with ⟨rfl,gA⟩|⟨rfl,fj⟩
     · refine ⟨_,_,rfl,cy.to.an,fun iG cA=>⟨.inr ⟨k,x,y,no,av,c',rfl,rfl,pt.ext cA,(gI.trans (fV.ext av c' cA)).mono (by omega), .inl ⟨rfl,gA⟩⟩,av,c',pt.ext cA,cy.dt,cy.to.cl,cy.bw⟩⟩
     · refine ⟨_,_,rfl,cy.to.an,fun iG cA=>⟨.inr ⟨k,x,y,no,av,c',rfl,rfl,pt.ext cA,(gI.trans (fV.ext av c' cA)).mono (by omega), .inr ⟨rfl,fj⟩⟩,av,c',pt.ext cA,cy.dt,cy.to.cl,cy.bw⟩⟩
   have kG:IntKind.wrap .i64 (((T.bw:Nat):Int)+1)=((T.bw+1:Nat):Int):=by rw[cz (by omega) (by omega)];rfl
   refine UO (fun a b w'=>∀iG,Ext w' iG→U0 T c [k] [x,y] w (.tuple #[.int .i64 a, .int .i64 ((T.bw+1:Nat):Int), .int .i64 b]) iG∧∃av c',fU iG av c'∧c'.dt=c.dt∧av.cl=T.cl∧av.bw=T.bw) (fun q J=>bL ⟨T.N,_,rfl,⟨by decide,by show (1:Int)<((2:Nat):Int);decide⟩,U1,t,by rw[aW];exact ak.drew.cell,_,rfl,⟨by decide,by show (0:Int)<((2:Nat):Int);decide⟩,U1,_,by rw[aW,aW];exact ak.drew.cell,_,rfl,⟨by decide,by show (1:Int)<((2:Nat):Int);decide⟩,U1,_,by rw[aW,aW];exact ak.drew.cell,?_,?_⟩) ?_
   · refine cn (vs:=[.slice t.a t.len t.cap]) rfl fun dO apb xR Pd=>⟨ao.eQ xR,cn (vs:=[.int .i64 (x:Nat), .int .i64 (y:Nat)]) rfl fun c5 apc sI abS=>⟨ao.eQ sI,_,fun _=>abQ _ _ _,?_⟩⟩
     refine (fin c5 w.drew.heap.size dO.heap.size (bA.trans (xR.trans sI)) (apb.ext sI) apc).use ?_
     rintro _ w' ⟨n27,n28,rfl,al,bm⟩
     exact ⟨n27,n28,rfl,al,J _ _ _ bm⟩
   · refine cn (vs:=[.int .i64 (x:Nat), .int .i64 (y:Nat)]) rfl fun dO apd xR Pd=>⟨ao.eQ xR,cn (vs:=[.slice t.a t.len t.cap]) rfl fun c5 U2 sI abS=>⟨ao.eQ sI,_,fun _=>abQ _ _ _,?_⟩⟩
     refine (fin c5 dO.heap.size w.drew.heap.size (bA.trans (xR.trans sI)) U2 (apd.ext sI)).use ?_
     rintro _ w' ⟨n27,n28,rfl,al,bm⟩
     exact ⟨n27,n28,rfl,al,J _ _ _ bm⟩
   · intro a b lQ bm
     obtain ⟨U,av,c',ad,au,aJ,a6⟩:=bm _ (dL lQ)
     have al:=ad.cells.1
     rw[au] at al
     have aV:=ad.t.cells.2.2.2.2
     refine bL ⟨_,rfl,id,_,al,_,rfl,id,_,aV,?_⟩
     rw[a6,kG]
     exact U
end
section
theorem fK.U3 {P:Nat→Option aM} {lo hi:Option Key} {h:Nat} {n:aM} {p:List Nat} {L:List bl} (ak:fK P h n lo hi p L) (ad:n.leaf=true→cr n≤310) (au:n.leaf=false→cr n≤335) (ae:n.leaf=false→n.keys≠ []):zd n:=by
 refine ⟨?_,by cases az:n.leaf;exact jb (au az) (by decide);exact jb (ad az) (by decide),fun aj=> ?_⟩
 · cases h with
   |zero=>exact ak.elim
   |succ h=>
     cases h with
     |zero=>exact .inl ak.1
     |succ h=>
       obtain ⟨aA,aE,aI,aL,cQ⟩:=ak
       have aj:=cQ.sorted fun _ _ _ _ _ hw=>hw.in
       exact .inr ⟨⟨aI,aj.2.2.1⟩,aA,ae aA,cQ.len,aE,aL⟩
 · obtain ⟨aA,aE,aI,aL,_⟩:=ak.two (Q:=P) (x:=0) (y:=0) aj ad au
   exact ⟨aA,aE,aI,aL⟩
section
variable {P:Nat→Option aM} {lo hi:Option Key}
theorem ape {h:Nat} {bM fb:aM} {g7 fm:Option Key} {i:Nat} {cq oS:List Nat} {bX pE:List bl} {k:Key} (lg:∀k∈bM.keys,eM k) (hlen:bM.kids.length=bM.keys.length+1) (gA:∀x n,P x=some n→cr n≤232)
   (hT:1≤i) (ou:i<bM.kids.length) (fo:kN g7 fm k)
   (aZ:k2 (kO P (h+1)) lo g7 (bM.keys.take i) (bM.kids.take i) cq bX) (ak:fK P (h+1) fb g7 fm oS pE) (U:cr fb<80):
   ∃ (o:aM) (ab:i-1<bM.kids.length) (gT:i-1<bM.keys.length),P bM.kids[i-1]=some o∧o.leaf=fb.leaf∧eM bM.keys[i-1]∧zd (g8 o bM.keys[i-1] fb):=by
 obtain ⟨s,JO,dK,r,kQ,N,aj,rfl,sf,rfl,rfl,⟨hw,m,hm,kR⟩,G_,wJ⟩:=aZ.last (by rw[d_];omega)
 have fp:(bM.keys.take i).length=i:=by rw[d_];omega
 have lY:(bM.kids.take i).length=i:=by rw[d_];omega
 have sf:s=bM.keys[i-1]'(by omega):=by
   rw[sf,GW];congr 1;omega
 have ES:(bM.kids.take i)[(bM.kids.take i).length-1]'(by omega)=bM.kids[i-1]'(by omega):=by
   rw[GW];congr 1;omega
 rw[ES] at hw hm
 obtain ⟨o,sY,lh,rfl,_,qe⟩:=hw.wG
 rw[lh] at hm
 have kR:2≤o.keys.length:=by rw[Option.some.inj hm];exact kR
 clear hm
 subst sf
 have kh:=(show kO P (h+1) JO (some (bM.keys[i-1]'(by omega))) (bM.kids[i-1]'(by omega)) (bM.kids[i-1]'(by omega)::sY) N from ⟨hw,o,lh,kR⟩).in
 obtain ⟨x,af⟩:=Jz _ kh.1
 have sg:=lg _ (fg (l:=bM.keys) (n:=i-1) (by omega))
 have Cn:=fK.merge qe ak sg (fun c al=>qD (tU ((kh.2.2 x af).1 c al) ((kh.2.2 x af).2 _ rfl))) (fun c al=>qD (tU (fo.1 _ rfl) (fo.2 c al)))
 have dR:=NM qe ak sg (by have:=gA _ _ lh;omega)
 have Ha:=NL (a:=o) (b:=fb) (s:=bM.keys[i-1]'(by omega))
 refine ⟨o,by omega,by omega,lh,by rw[qe.leaf,ak.leaf],sg,Cn.U3 dR.1 dR.2 fun _ e=> ?_⟩
 rw[e,vb] at Ha
 omega
theorem apf {h:Nat} {bM fb:aM} {g7 fm:Option Key} {i:Nat} {cx oS:List Nat} {pE cf:List bl} {k:Key} (lg:∀k∈bM.keys,eM k) (hlen:bM.kids.length=bM.keys.length+1) (gA:∀x n,P x=some n→cr n≤232)
   (ou:i+1<bM.kids.length) (fo:kN g7 fm k)
   (bQ:nr (kO P (h+1)) hi fm (bM.keys.drop i) (bM.kids.drop (i+1)) cx cf) (ak:fK P (h+1) fb g7 fm oS pE) (U:cr fb<80):
   ∃ (o:aM) (ab:i+1<bM.kids.length) (gT:i<bM.keys.length),P bM.kids[i+1]=some o∧o.leaf=fb.leaf∧eM bM.keys[i]∧zd (g8 fb bM.keys[i] o):=by
 obtain ⟨s,fv,r,iK,N,aig,aj,rfl,sf,rfl,rfl,⟨hw,m,hm,kR⟩,JP⟩:=bQ.head (by rw[fG];omega)
 have sf:s=bM.keys[i]'(by omega):=by rw[sf,JE];rfl
 have ES:(bM.kids.drop (i+1))[0]'(by rw[fG];omega)=bM.kids[i+1]'ou:=by rw[JE]
 rw[ES] at hw hm
 obtain ⟨o,sY,lh,rfl,_,qe⟩:=hw.wG
 rw[lh] at hm
 have kR:2≤o.keys.length:=by rw[Option.some.inj hm];exact kR
 clear hm
 subst sf
 have kh:=(show kO P (h+1) (some (bM.keys[i]'(by omega))) fv (bM.kids[i+1]'ou) (bM.kids[i+1]'ou::sY) N from ⟨hw,o,lh,kR⟩).in
 obtain ⟨x,af⟩:=Jz _ kh.1
 have sg:=lg _ (fg (l:=bM.keys) (n:=i) (by omega))
 have Cn:=fK.merge ak qe sg (fun c al=>qD (tU (fo.1 c al) (fo.2 _ rfl))) (fun c al=>qD (tU ((kh.2.2 x af).1 _ rfl) ((kh.2.2 x af).2 c al)))
 have dR:=NM ak qe sg (by have:=gA _ _ lh;omega)
 have Ha:=NL (a:=fb) (b:=o) (s:=bM.keys[i]'(by omega))
 refine ⟨o,ou,by omega,lh,by rw[qe.leaf,ak.leaf],sg,Cn.U3 dR.1 dR.2 fun _ e=> ?_⟩
 rw[e,vb] at Ha
 omega
inductive Ctx (P:Nat→Option aM) (k:Key) (top:Nat):Nat→Option Key→Option Key→List (Nat×aM×Nat)→List Nat→List bl→List bl→Prop
 |top:Ctx P k top top none none [] [] [] []
 |step {jk:Nat} {lo hi g7 fm:Option Key} {st:List (Nat×aM×Nat)} {hW:List Nat} {A B:List bl} {no:Nat} {n:aM} {cq cx:List Nat} {bX cf:List bl} (h:Ctx P k top (jk+2) lo hi st hW A B) (gA:P no=some n) (az:n.leaf=false) (jd:∀k∈n.keys,eM k) (ry:∀x∈n.kids,x<1600)
     (hlen:n.kids.length=n.keys.length+1) (ae:n.keys≠ []) (eC:st≠ []→2≤n.keys.length) (fo:kN g7 fm k) (aZ:k2 (kO P (jk+1)) lo g7 (n.keys.take (fR n.keys k)) (n.kids.take (fR n.keys k)) cq bX)
     (bQ:nr (kO P (jk+1)) hi fm (n.keys.drop (fR n.keys k)) (n.kids.drop (fR n.keys k+1)) cx cf):Ctx P k top (jk+1) g7 fm (st++ [(no,n,fR n.keys k)]) (no::(cq++(cx++hW))) (A++bX) (cf++B)
theorem Ctx.jk {k:Key} {top jk:Nat} {st:List (Nat×aM×Nat)} {hW:List Nat} {A B:List bl} (h:Ctx P k top jk lo hi st hW A B):jk+st.length=top:=by
 induction h with
 |top=>rfl
 |step h _ _ _ _ _ _ _ _ _ _ du=>rw[dU,ru];omega
theorem Ctx.agree {Q:Nat→Option aM} {k:Key} {top jk:Nat} {st:List (Nat×aM×Nat)} {hW:List Nat} {A B:List bl} (h:Ctx P k top jk lo hi st hW A B) (J:∀x∈hW,P x=Q x):Ctx Q k top jk lo hi st hW A B:=by
 induction h with
 |top=>exact .top
 | @step jk lo hi g7 fm st hW A B no n cq cx bX cf h gA az jd ry hlen ae eC fo aZ bQ du=>
   refine .step (du fun x af=>J x (by simp[af])) (by rw[←J no (by simp)];exact gA) az jd ry hlen ae eC fo (aZ.yj fun _ _ _ _ _ aj hw=>hw.agree fun x af=>J x ?_) (bQ.yj fun _ _ _ _ _ aj hw=>hw.agree fun x af=>J x ?_)
   · have:=aj x af;simp[this]
   · have:=aj x af;simp[this]
theorem Ctx.down {k:Key} {top:Nat}:∀ {jk:Nat} {lo hi:Option Key} {st:List (Nat×aM×Nat)} {hW:List Nat} {A B M kQ:List bl} {no:Nat} {p:List Nat},Ctx P k top (jk+1) lo hi st hW A B→hO P (jk+1) lo hi no p M→(st≠ []→∃m,P no=some m∧2≤m.keys.length)→kN lo hi k→kQ=A++(M++B)→(∀u,Loc k u→u kQ=A++(u M++B))→
   ∃ (rest kI:List (Nat×aM×Nat)) (lS:Nat) (dk:aM) (kP hT:Option Key) (oL:List Nat) (nI nJ:List bl),Dv P k (jk+1) no rest∧st++rest=kI++ [(lS,dk,0)]∧Ctx P k top 1 kP hT kI oL nI nJ∧P lS=some dk∧oq dk∧dk.within kP hT∧dk.keys≠ []∧(kI≠ []→2≤dk.keys.length)∧kN kP hT k∧
     (p++hW).Perm (lS::oL)∧kQ=nI++(dk.gL++nJ)∧∀u,Loc k u→u kQ=nI++(u dk.gL++nJ)
 |0,lo,hi,st,hW,A,B,M,kQ,no,p,al,hw,ad,fo,dz,hu=>by
   obtain ⟨n,U,au,aJ,a6,rfl,rfl⟩:=hw
   refine ⟨[(no,n,0)],st,no,n,lo,hi,hW,A,B,⟨n,[],U,by rw[au.leaf];rfl,rfl,rfl⟩,rfl,al,U,au,aJ,a6,fun aj=> ?_,fo,List.Perm.refl _,dz,hu⟩
   obtain ⟨m,hm,kR⟩:=ad aj
   rw[U] at hm;cases hm
   exact kR
 |jk+1,lo,hi,st,hW,A,B,M,kQ,no,p,al,hw,ad,fo,dz,hu=>by
   obtain ⟨n,e0,U,rfl,au,ak⟩:=hw.wG
   obtain ⟨g7,fm,cq,q,cx,bX,pE,cf,ab,rfl,rfl,FG,abT,apg,hlen,G_,JP⟩:=ak.at fo
   obtain ⟨aA,aE,aI,aL,_⟩:=ak
   have pt:=Ctx.step al U aA aI aL hlen au (fun aj=>by
     obtain ⟨m,hm,kR⟩:=ad aj
     rw[U] at hm;cases hm
     exact kR) abT G_ JP
   obtain ⟨rest,kI,lS,dk,kP,hT,oL,nI,nJ,bI,aq,bS,h8,kU,Bu,F4,DP,DQ,zl,Bv,xS⟩:=Ctx.down (kQ:=kQ) pt FG.1 (fun _=>FG.2) abT (by rw[dz];simp only[eL]) (fun u az=>by rw[hu u az,apg u az];simp only[eL])
   refine ⟨(no,n,fR n.keys k)::rest,kI,lS,dk,kP,hT,oL,nI,nJ,⟨n,rest,U,by rw[aA];simp,by rw[if_neg (by omega)],?_⟩,?_,bS,h8,kU,Bu,F4,DP,DQ,?_,Bv,xS⟩
   · rw[pD,gF ab]
     exact bI
   · rw[←aq];simp
   · refine List.Perm.trans ?_ zl
     have aY:(no::(cq++(q++cx))++hW)=no::(cq++(q++(cx++hW))):=by simp[eL]
     rw[aY]
     have bo:(q++no::(cq++(cx++hW))).Perm (no::(q++(cq++(cx++hW)))):=Cd
     refine List.Perm.trans ?_ bo.symm
     refine List.Perm.cons _ ?_
     have en:=(JC (l₁:=cq) (l₂:=q)).append_right (cx++hW)
     simpa[eL] using en
end
end
section
theorem U4 {α:Type} (a b c:List α):(a++(b++c)).Perm (a++c++b):=by
 rw[eL]
 exact (JC (l₁:=b) (l₂:=c)).append_left a
theorem Ctx.up {P:Nat→Option aM} {lo hi:Option Key} {k:Key} {top jk:Nat} {st U5:List (Nat×aM×Nat)} {hW:List Nat} {A B:List bl} {u:gD} {fb:aM} {q:List Nat} {M:List bl} (al:Ctx P k top jk lo hi st hW A B) (g9:st=U5++ [u.st]) (ak:fK P jk fb lo hi q M) (gA:∀x n,P x=some n→cr n≤232) (aj:cr fb≤282):
   ∃ (DR DS:Option Key) (Bw:List Nat) (yz DT:List bl) (ps:List Nat),Ctx P k top (jk+1) DR DS U5 Bw yz DT∧hW=u.no::(ps++Bw)∧P u.no=some u.n∧u.e2<u.n.kids.length∧u.n.kids.length=u.n.keys.length+1∧u.n.keys≠ []∧(U5≠ []→2≤u.n.keys.length)∧
     (80≤cr fb→∀ (Q:Nat→Option aM) (ks:List Key) (kids:List Nat),z_ Q fb ks kids→(∀x∈ps++q,P x=Q x)→(∀x∈kids,x<1600)→∃ (iB:List Nat) (M2:List bl),fK Q (jk+1) (mq u.n u.e2 (u.e2+1) ks kids) DR DS iB M2∧yz++(M2++DT)=A++(M++B)∧iB.Perm (kids++(ps++q))∧
       cr (mq u.n u.e2 (u.e2+1) ks kids)≤cr u.n+27∧u.n.keys.length≤(mq u.n u.e2 (u.e2+1) ks kids).keys.length+1)∧
     (cr fb<80→∃ (o:aM) (no:Nat) (rest:List Nat),u.n.kids[tv u]? =some no∧P no=some o∧o.leaf=fb.leaf∧u.e2-1<u.n.keys.length∧eM (u.n.keys.getD (u.e2-1) [])∧zd (zi u fb o)∧ps.Perm (no::rest)∧
       ∀ (Q:Nat→Option aM) (ks:List Key) (kids:List Nat),z_ Q (zi u fb o) ks kids→(∀x∈rest++q,P x=Q x)→(∀x∈kids,x<1600)→∃ (iB:List Nat) (M2:List bl),fK Q (jk+1) (mq u.n (u.e2-1) (u.e2-1+2) ks kids) DR DS iB M2∧yz++(M2++DT)=A++(M++B)∧iB.Perm (kids++(rest++q))∧
         cr (mq u.n (u.e2-1) (u.e2-1+2) ks kids)≤cr u.n+27∧u.n.keys.length≤(mq u.n (u.e2-1) (u.e2-1+2) ks kids).keys.length+1):=by
 cases al with
 |top=>
   have:=congrArg List.length g9
   simp at this
 | @step jk DR DS _ _ aws Bw yz DT abU bM cq cx bX cf h aph az jd ry hlen ae eC fo aZ bQ=>
   obtain ⟨rfl,ad⟩:=List.append_inj' g9 rfl
   have au:(abU,bM,fR bM.keys k)=u.st:=by simpa using ad
   have dd:abU=u.no:=congrArg Prod.fst au
   have aD:bM=u.n:=congrArg (fun x=>x.2.1) au
   have abV:fR bM.keys k=u.e2:=congrArg (fun x=>x.2.2) au
   subst dd aD
   rw[abV] at aZ bQ
   have lu:=NG u.n.keys k
   rw[abV] at lu
   refine ⟨DR,DS,Bw,yz,DT,cq++cx,h,by rw[eL],aph,by omega,hlen,ae,eC,fun zm Q ks kids aH J Lh=> ?_,fun zm=> ?_⟩
   · obtain ⟨e0,aA,aE,aI,aL⟩:=aic az jd ry aZ bQ ak zm aj aH (fun x af=>J x (by
       simp only[e8] at af⊢
       rcases af with af|af|af
       · exact .inl (.inl af)
       · exact .inr af
       · exact .inl (.inr af))) Lh
     refine ⟨e0,_,aA,by simp only[eL],aE.trans (List.Perm.append_left kids ?_),aI,by omega⟩
     exact U4 cq q cx
   · by_cases b7:u.e2=0
     · obtain ⟨o,vZ,sG,q7,Py,U6,U7⟩:=apf jd hlen gA (i:=u.e2) (by
         have:u.n.keys.length≠0:=fun e=>ae (List.eq_nil_of_length_eq_zero e)
         omega) fo bQ ak zm
       obtain ⟨lL,Hb,abW,vM,Li,U8,_,U9⟩:=aif az jd ry hlen gA vZ fo aZ bQ ak zm
       rw[q7] at Li
       obtain rfl:=Option.some.inj Li
       have aY:tv u=u.e2+1:=by unfold tv;rw[if_pos b7,b7]
       have bo:u.e2-1=u.e2:=by omega
       have en:u.n.keys.getD (u.e2-1) []=u.n.keys[u.e2]:=by rw[bo,pD,gF sG];rfl
       have kT:zi u fb o=g8 fb u.n.keys[u.e2] o:=by unfold zi;rw[if_pos (by rw[aY];omega),en]
       refine ⟨o,u.n.kids[u.e2+1],cq++Hb,by rw[aY];exact gF vZ,q7,Py,by omega,by rw[en];exact U6,by rw[kT];exact U7,?_,fun Q ks kids aH J Lh=> ?_⟩
       · exact (List.Perm.append_left cq U8).trans Cd
       · rw[kT] at aH
         obtain ⟨e0,aA,aE,aI,aL⟩:=U9 Q ks kids aH (fun x af=>J x (by
           simp only[e8] at af⊢
           rcases af with af|af|af
           · exact .inl (.inl af)
           · exact .inr af
           · exact .inl (.inr af))) Lh
         rw[bo]
         exact ⟨e0,_,aA,by simp only[eL],aE.trans (List.Perm.append_left kids (U4 cq q Hb)),aI,aL⟩
     · obtain ⟨o,vZ,sG,q7,Py,U6,U7⟩:=ape jd hlen gA (i:=u.e2) (by omega) (by omega) fo aZ ak zm
       obtain ⟨lL,G9,abW,vM,Li,U8,_,U9⟩:=aid az jd ry hlen gA (by omega) (by omega) fo aZ bQ ak zm
       rw[q7] at Li
       obtain rfl:=Option.some.inj Li
       have aY:tv u=u.e2-1:=by unfold tv;rw[if_neg b7]
       have en:u.n.keys.getD (u.e2-1) []=u.n.keys[u.e2-1]:=by rw[pD,gF sG];rfl
       have kT:zi u fb o=g8 o u.n.keys[u.e2-1] fb:=by unfold zi;rw[if_neg (by rw[aY];omega),en]
       have lZ:u.e2-1+2=u.e2+1:=by omega
       refine ⟨o,u.n.kids[u.e2-1],G9++cx,by rw[aY];exact gF vZ,q7,Py,sG,by rw[en];exact U6,by rw[kT];exact U7,?_,fun Q ks kids aH J Lh=> ?_⟩
       · exact (U8.append_right cx)
       · rw[kT] at aH
         obtain ⟨e0,aA,aE,aI,aL⟩:=U9 Q ks kids aH (fun x af=>J x (by
           simp only[e8] at af⊢
           rcases af with af|af|af
           · exact .inl (.inl af)
           · exact .inr af
           · exact .inl (.inr af))) Lh
         rw[lZ]
         exact ⟨e0,_,aA,by simp only[eL],aE.trans (List.Perm.append_left kids (U4 G9 q cx)),aI,aL⟩
end
section
theorem fU.api {w:World} {T:aX} {c:gH} {E:Nat→Prop} (h:fU w T c) (fh:∀q,E q→T.E q):fU w (T.dw E T.G) c:=
 h.of (av:=T.dw E T.G) (W:=fun _=>False) (h.t.grow (W:=fun _=>False) (ao.refl _ _) (fun _ h=>h.elim) (fun q J=> .inl (fh q J)) (fun q J=> .inr (.inl J)) fun q J=>(h.t.ij q (fh q J)).2.2) (ao.refl _ _) (fun _ _ h=>h) rfl fun _ h=>h
theorem fV.local {T av:aX} {c c':gH} {m l:List Nat} {c7:Nat→Prop} {w ag w':World} {k:Nat} (h:fV (T.dw c7 T.G) av c c' m l ag w' k) (af:Ext w ag) (lz:∀q,c7 q→T.E q∨w.heap.size≤q) (fh:∀q,T.E q→c7 q):fV T (av.dw T.E av.G) c c' m l w w' k:=
 ⟨h.to.local af lz (fun q J=> .inl J) (fun q J=> .inl (by rw[h.E];exact fh q J)) fun q J=>J,rfl,h.G,h.root,h.bw,h.dt,h.made,h.left,h.dT,h.tn,h.f,h.g4,h.room⟩
theorem fU.abX {w w':World} {T:aX} {c:gH} {W:Nat→Prop} (h:fU w T c) (al:ao W w w') (dq:∀q,W q→T.E q∨w.heap.size≤q):fU w' T c:=by
 have dY:ao (fun q=>T.E q) w w':=na (W:=fun q=>T.E q) (ao.refl _ _) al fun q J hw=>(dq q hw).resolve_right (by omega)
 exact h.of (h.t.grow (E:=T.E) (G:=T.G) dY (fun q J _=> .inl J) (fun q J=> .inl J) (fun q J=> .inr (.inl J)) fun q J=>(h.t.ij q J).2.2) dY (fun q bf he=>(h.t.ij q he).2.2 bf) rfl fun _ h=>h
theorem uy.to {w w':World} {T av:aX} {k:Nat} {s:aa} {l:List gD} (h:uy (fun q=>¬T.M q) w s l) (aV:b5 T av w w' k):uy (fun q=>¬av.M q) w' s l:=by
 refine ⟨h.own.an aV.an fun q J aD=>h.FE q J (aX.k7 aD),fun q J hm=> ?_,fun x af=> ?_⟩
 · rcases aV.jj q hm with U|U
   · exact h.FE q J U
   · have:=bV.lt h.own q J;omega
 · exact (aV.dT (lo:=0) ((h.dT x af).bz fun q _ ab=>⟨fl _,ab⟩)).bz fun q _ ab=>ab.2
theorem uy.at {B:Nat→Prop} {w:World} {s:aa} {l:List gD} (h:uy B w s l) {i:Nat} (hi:i<l.length):∃A:Addr,s.a=some A∧s.len=l.length∧B A.block∧w.cell? (A.add (i*6))=some (.int .i64 ((l[i]).no:Nat))∧ze B w (A.add (i*6)) l[i]:=by
 have az:=h.own.1
 rw[oC _ (Du l)] at az
 have gw:s.len=l.length:=by omega
 rcases h.own.2.2.2 with ⟨U,ad⟩|⟨b,c,ab,ak,fc,lG⟩
 · have:=h.own.2.1
   omega
 · have kS:∀j,j<6→w.cell? ⟨b,i*6+j,none⟩=((gD.c l[i]))[j]? :=fun j a_=>by
     rw[ct.cell ak,←KJ (Du l) hi a_,←lG]
     rw[NA,if_pos (by omega),Array.getElem?_toList]
   refine ⟨⟨b,0,none⟩,ab,gw,h.FE b ⟨_,ab,rfl⟩,?_,?_⟩
   · rw[aW,gz]
     exact kS 0 (by decide)
   · rw[aW,gz]
     refine ⟨?_,?_,?_,?_,?_,h.dT _ (fg hi),h.FE b ⟨_,ab,rfl⟩,bV.lt h.own b ⟨_,ab,rfl⟩⟩
     · rw[aW];exact kS 1 (by decide)
     · rw[aW,aW];exact kS 2 (by decide)
     · rw[aW,aW];exact kS 3 (by decide)
     · rw[aW,aW];exact kS 4 (by decide)
     · rw[aW];exact kS 5 (by decide)
theorem Ctx.abY {P:Nat→Option aM} {lo hi:Option Key} {k:Key} {top jk:Nat} {hW:List Nat} {A B:List bl} (h:Ctx P k top jk lo hi [] hW A B):jk=top∧lo=none∧hi=none∧hW=[]∧A=[]∧B=[]:=by
 generalize g9:([]:List (Nat×aM×Nat))=st at h
 cases h with
 |top=>exact ⟨rfl,rfl,rfl,rfl,rfl,rfl⟩
 |step h=>
   have:=congrArg List.length g9
   simp at this
end
section
def Bx (T:aX) (c:gH) (dK:List Nat) (iI:List bl) (w:World) (v:Value) (w':World):Prop:=
 ∃ (av:aX) (c':gH) (m l:List Nat),fU w' av c'∧fV T av c c' m l w w' 60∧
   ((v= .tuple #[.int .i64 0, .int .i64 0, .int .i64 0]∧iI=[]∧l.Perm (m++dK))∨
    (∃ (root h:Nat) (pages:List Nat),v= .tuple #[.int .i64 (root:Nat), .int .i64 (h:Nat), .int .i64 0]∧hO av.P h none none root pages iI∧(pages++l).Perm (m++dK)∧1≤h∧h≤T.bw+1)∨
    (∃a b:Int,v= .tuple #[.int .i64 a, .int .i64 b, .int .i64 3]∧¬T.C.D.calm 60))
theorem Bx.local {T:aX} {c:gH} {dK:List Nat} {iI:List bl} {c7:Nat→Prop} {w ag w':World} {v:Value} (h:Bx (T.dw c7 T.G) c dK iI ag v w') (af:Ext w ag) (lz:∀q,c7 q→T.E q∨w.heap.size≤q) (fh:∀q,T.E q→c7 q):Bx T c dK iI w v w':=by
 obtain ⟨av,c',m,l,U,ad,au⟩:=h
 exact ⟨av.dw T.E av.G,c',m,l,U.api fun q J=>by rw[ad.E];exact fh q J,ad.local af lz fh,au⟩
structure apj (ck:aX) (c:gH) (bh:World) (wl:List gD) (k:Key) (dK:List Nat) (iI:List bl) (ws:aa) (py:Nat) (i:Nat) (w':World) (av:aX) (c':gH) (m l:List Nat) (n:aM) (K V D:aa) (lo hi:Option Key) (hW:List Nat) (A B:List bl) (q:List Nat) (M:List bl) (r:List Nat):Prop where
 ON:i<wl.length
 U_:fU w' av c'
 to:fV ck av c c' m l bh w' (4*(wl.length-1-i))
 Pz:m.length≤2*(wl.length-1-i)
 abZ:l.length≤2*(wl.length-1-i)
 py:Var w' py (gZ n K V D) ah.cO
 dT:cd (fun q=>¬av.M q) w' n K V D
 mH:uy (fun q=>¬av.M q) w' ws wl
 ctx:Ctx av.P k wl.length (wl.length-i) lo hi ((wl.take i).map gD.st) hW A B
 wG:fK av.P (wl.length-i) n lo hi q M
 eq:A++(M++B)=iI
 pp:dK.Perm ((wl[i]).no::(r++hW))
 acc:(q++l).Perm (m++r)
 sz:cr n≤282
 apk:1≤i→n.keys≠ []
 ab0:∀x∈q++hW,av.f x=true
theorem c6.DU {w:World} {T:aX} (h:c6 w T):∀x n,T.P x=some n→cr n≤232:=fun x n af=>(h.l_ x n af).2.is.2.2
theorem pY.cs {T:aX} {c:gH} {n:aM} {w w':World} {s:aa} {e:Int} (h:pY T c n w (.tuple #[.slice s.a s.len s.cap, .int .i64 e]) w'):
   ∃ (av:aX) (c':gH) (m:List Nat),fU w' av c'∧fV T av c c' m [] w w' 2∧m.length≤2∧((e=0∧∃ks,z_ av.P n ks m∧xJ (fun q=>¬av.M q) w' s ks m)∨(e=3∧¬T.C.D.calm 2)):=by
 obtain ⟨av,c',m,s2,U,ad,au,aJ⟩:=h
 refine ⟨av,c',m,U,ad,au,?_⟩
 rcases aJ with ⟨ks,ak,a6,b8⟩|⟨ak,a6⟩
 · simp at ak
   obtain ⟨⟨bc,cS,a3⟩,rfl⟩:=ak
   obtain rfl:s=s2:=by cases s;cases s2;simp_all
   exact .inl ⟨rfl,ks,a6,b8⟩
 · simp at ak
   exact .inr ⟨ak.2,a6⟩
theorem apl {P Q Va:Nat→Option aM} {t:Nat} {n:aM} {q:List Nat} {M:List bl} {uM:Key} {x y no:Nat} (ak:fK P (t+1) n none none q M) (aj:cr n≤282) (aH:z_ Q n [uM] [x,y]) (J:∀z∈q,P z=Q z) (aD:Va no=some ⟨false,[uM],[],[x,y]⟩) (hF:∀z∈x::y::q,Q z=Va z) (af:x<1600) (b3:y<1600):
   eM uM∧∃pages,hO Va (t+2) none none no pages M∧pages.Perm (no::x::y::q):=by
 have zm:232<cr n:=by
   rcases aH with ⟨_,z,e,_⟩|⟨h,_⟩
   · cases e
   · exact h
 obtain ⟨e0,aA,aE,aI,_⟩:=ak.fits (ak.RW (by omega)) (fun _=>by omega) (fun _=>by omega) aH J
 have pz:fK Q (t+2) ⟨false,[uM],[],[x,y]⟩ none none e0 M:=⟨rfl,rfl,aI,fun z bN=>by
   simp only[gb,m4,m5] at bN
   rcases bN with rfl|rfl<;>assumption,aA⟩
 refine ⟨aI uM (by simp),no::e0,pz.lay (by simp) aD fun z bN=>hF z ?_,List.Perm.cons no aE⟩
 have:=aE.mem_iff.1 bN
 simpa using this
theorem DV {a b:List Nat}:a.Perm b↔∀x,a.count x=b.count x:=List.perm_iff_count
theorem By {q l m r:List Nat} {no:Nat} (h:(q++l).Perm (m++r)):(q++(l++ [no])).Perm (m++(no::r)):=by
 rw[DV] at h⊢
 intro x
 have:=h x
 simp only[EL,G2,G3] at this⊢
 omega
theorem rZ {q l m r iB ps ms ls rest:List Nat} (h:(q++l).Perm (m++r)) (ad:iB.Perm (ms++(rest++q))) (au:ps.Perm (ls++rest)):(iB++(l++ls)).Perm ((m++ms)++(ps++r)):=by
 rw[DV] at h ad au⊢
 intro x
 have:=h x
 have:=ad x
 have:=au x
 simp only[EL,G2,G3] at*
 omega
theorem Bz {dK r ps Bw:List Nat} {u:Nat} (h:dK.Perm (r++(u::(ps++Bw)))):dK.Perm (u::((ps++r)++Bw)):=by
 rw[DV] at h⊢
 intro x
 have:=h x
 simp only[EL,G2,G3] at*
 omega
end
section
theorem apm {w:World} {T:aX} {c:gH} {wl:List gD} {k:Key} {dK hW:List Nat} {iI A B M:List bl} {lo hi:Option Key} {ws:aa} {n:aM} {K V D:aa} (h:fU w T c) (hw:uy (fun q=>¬T.M q) w ws wl) (aD:cd (fun q=>¬T.M q) w n K V D) (c4:0<wl.length) (hlen:wl.length=T.bw) (cT:T.bw<12)
   (gC:T.C.D.cR≤900000000) (jz:2*T.bw+3≤fO T) (Aw:c.made.length≤100) (dm:c.left.length≤100) (ab1:Ctx T.P k wl.length 1 lo hi ((wl.take (wl.length-1)).map gD.st) hW A B) (pz:fK T.P 1 n lo hi [] M) (heq:A++(M++B)=iI)
   (tw:dK.Perm ((wl[wl.length-1]'(by omega)).no::hW)) (dR:cr n≤282) (F5:2≤wl.length→n.keys≠ []) (uN:∀x∈hW,T.f x=true):
   aQ Tryz.prog F.xT #[.pointer (some ⟨c.dt,0,none⟩), .slice ws.a ws.len ws.cap,e9 n K V D] w (Bx T c dK iI w):=by
 refine W.ab2 (some ⟨c.dt,0,none⟩) ws n.leaf K V D w _ ?_
 (delta W.xT bS ai aq dx aC aB a7 bI st Io F6 jt gl;dsimp only)
 refine cn (vs:=gZ n K V D) rfl fun ag gh bD ky=> ?_
 obtain ⟨cH,aT,bC,ba⟩:=cj gh
 refine ⟨_,cH,K,aT,V,bC,D,ba,cn (vs:=[.bool false, .slice none 0 0, .slice none 0 0, .slice none 0 0]) rfl fun a8 s8 jR Kk=>⟨s8.dA rfl lB,rfl,ek s8 (us:=gZ n K V D) rfl rfl fun bh Ip qS Oy=> ?_⟩⟩
 have fe:Ext w bh:=bD.trans (Ext.eX jR qS (cV _))
 obtain ⟨py,Ik⟩:∃py,py=ag.heap.size:=⟨_,rfl⟩
 rw[←Ik] at Ip⊢
 obtain ⟨c7,lz⟩:∃c7,c7=fun q=>T.E q∨q=py:=⟨_,rfl⟩
 have ng:∀q,T.E q→c7 q:=fun q J=>by rw[lz];exact .inl J
 have p2:∀q,c7 q→T.E q∨q=py:=fun q J=>by rw[lz] at J;exact J
 have ab3:c7 py:=by rw[lz];exact .inr rfl
 have awt:=Ip.lt
 have iA:fU bh (T.dw c7 T.G) c:=h.of (W:=fun _=>False) (h.t.grow (W:=fun _=>False) fe (fun _ h=>h.elim) (fun q J=>(p2 q J).imp id fun e=> .inr ⟨by omega,by omega⟩) (fun q J=> .inr (.inl J)) fun q J bf=>by
   rcases p2 q J with U|U
   · exact (h.t.ij q U).2.2 bf
   · have:=h.t.lt (q:=q) (.inr (.inr (.inr (.inr bf))));omega) fe (fun _ _ h=>h) rfl fun _ h=>h
 have r0:b5 T (T.dw c7 T.G) w bh 0:=(b5.refl T w).step (W:=fun _=>False) fe (fun _ h=>h.elim) (fun q J=>(p2 q J).imp id fun e=> .inr (by omega)) fun q J=> .inl J
 have conv:∀ (v:Value) (w':World),Bx (T.dw c7 T.G) c dK iI ag v w'→Bx T c dK iI w v w':=fun v w' hu=>hu.local bD (fun q J=>(p2 q J).imp id fun e=>by omega) ng
 obtain ⟨ck,iH⟩:∃ck,ck=T.dw c7 T.G:=⟨_,rfl⟩
 have Fm:=hw.to r0
 have HB:cd (fun q=>¬(T.dw c7 T.G).M q) bh n K V D:=(r0.dT (lo:=0) (aD.bz fun q _ ab=>⟨fl _,ab⟩)).bz fun q _ ab=>ab.2
 have aY:ck.P=T.P:=by rw[iH];rfl
 have bo:ck.f=T.f:=by rw[iH];rfl
 have en:ck.E py:=by rw[iH];exact ab3
 have kT:fO ck=fO T:=by rw[iH];rfl
 have lZ:ck.C=T.C:=by rw[iH];rfl
 have v7:ck.bw=T.bw:=by rw[iH];rfl
 rw[←iH] at iA Fm HB conv
 clear iH r0 lz ng p2 ab3
 have awu:py=ag.heap.size:=Ik
 have F7:ws.len=wl.length:=by
   have:=hw.own.1
   rw[oC _ (Du wl)] at this;omega
 refine ⟨fun n10 w'=>∃ (i:Nat) (av:aX) (c':gH) (m l:List Nat) (n:aM) (K V D:aa) (lo hi:Option Key) (hW:List Nat) (A B:List bl) (q:List Nat) (M:List bl) (r:List Nat),n10=(i:Nat)∧apj ck c ag wl k dK iI ws py i w' av c' m l n K V D lo hi hW A B q M r,fun n10 _=>(n10+1).toNat,
   ⟨wl.length-1,ck,c,[],[],n,K,V,D,lo,hi,hW,A,B,[],M,[],?_,?_⟩,?_⟩
 · rw[cz (by omega) (by omega)];omega
 · have e:wl.length-(wl.length-1)=1:=by omega
   refine ⟨by omega,iA,(fV.ext ck c (Ext.eX jR qS (cV _))).mono (by omega),fl _,fl _,Ip,HB,Fm,by rw[e,aY];exact ab1,by rw[e,aY];exact pz,heq,by simpa using tw,List.Perm.refl _,dR,fun U=>F5 (by omega),fun x af=>by rw[bo];exact uN x (by simpa using af)⟩
 clear ab1 pz heq tw dR F5 uN aD HB Ip hw Fm gh cH aT bC ba s8
 rintro _ b9 ⟨i,av,c',m,l,n,K,V,D,lo,hi,hW,A,B,q,M,r,rfl,I⟩
 have ab4:=I.ON
 have PA:=I.to.dt
 refine ⟨fun _=>bL ?_,fun ab=> ?_⟩
 rotate_left
 · have:¬((i:Nat):Int)≥0:=eW ab
   omega
 have bA:Ext b9 b9.drew:=dL _
 obtain ⟨cJ,apn⟩:∃cJ,cJ=b9.drew:=⟨_,rfl⟩
 rw[←apn] at bA⊢
 have ni:=I.U_.ext bA
 have yK:=ni.cells.2.2
 rw[PA] at yK
 have ab5:uy (fun q=>¬av.M q) cJ ws wl:=I.mH.to (b5.ext av bA)
 obtain ⟨Lj,Vb,awv,apo,dd,_⟩:=ab5.at ab4
 have aaQ:c'.left.length≤200:=by rw[I.to.left,dU];have:=I.abZ;omega
 have apq:c'.made.length≤200:=by rw[I.to.made,dU];have:=I.Pz;omega
 obtain ⟨ar,cB,aA,aE,aI,aL,cQ⟩:=aaW ni (wl[i]).no (by omega)
 rw[PA] at aI aL cQ
 have nw:∀n,(Lj.add n).block=Lj.block:=fun n=>by unfold Addr.add;split<;>rfl
 have apr:∀q,aO c'.mc q→av.M q:=fun q J=> .inr (.inr (.inr (.inr (ni.vS q J).1)))
 refine ⟨aO c'.mc,_,rfl,fun J=>(ni.vS _ J).2 (by rw[PA,aW]),c'.mc,yK,Lj,Vb,⟨by omega,by omega⟩,fun J=>apo (apr _ ((nw _)▸J)),_,by rw[gY];exact dd,bL ⟨ao.eQ (iR _ _),ar,cB,aA,aE,_,rfl,by rw[aW];exact aI,by rw[aW];exact aL,bL ?_⟩⟩
 rw[aW,gz]
 obtain ⟨c5,ab6⟩:∃c5,c5=cB.setCell ⟨c.dt,2,none⟩ (.slice ar.a ar.len ar.cap):=⟨_,rfl⟩
 rw[←ab6]
 obtain ⟨zn,xU⟩:=cQ c5 ab6
 have Vc:=fV.leave (c:=c') (c':=⟨c.dt,c'.nD,ar,c'.made,c'.left++ [(wl[i]).no]⟩) (no:=(wl[i]).no) xU rfl (fun q J=> .inl J) PA.symm rfl rfl
 have v8:=(I.to.trans (fV.ext av c' bA)).trans Vc
 simp only[mn,zV] at v8
 have ab7:av.E py:=by rw[I.to.E];exact en
 have Vd:=(I.py.ext bA).an xU.an (ni.t.su ab7)
 have Ve:=ab5.to xU
 have Lk:cd (fun q=>¬(av.dw av.E fun q=>av.G q∨aO ar q).M q) c5 n K V D:=(xU.dT (lo:=0) ((I.dT.ext bA).bz fun q _ ab=>⟨fl _,ab⟩)).bz fun q _ ab=>ab.2
 obtain ⟨da,rY⟩:∃da,da=av.dw av.E fun q=>av.G q∨aO ar q:=⟨_,rfl⟩
 have cq:da.P=av.P:=by rw[rY];rfl
 have cx:da.f=av.f:=by rw[rY];rfl
 have iK:fO da=fO av:=by rw[rY];rfl
 have mG:da.E py:=by rw[rY];exact ab7
 have BA:da.bw=T.bw:=by rw[rY];show av.bw=_;rw[I.to.bw,v7]
 rw[←rY] at zn xU Vc v8 Ve Lk
 obtain ⟨bC,dY⟩:∃bC:gH,bC=⟨c.dt,c'.nD,ar,c'.made,c'.left++ [(wl[i]).no]⟩:=⟨_,rfl⟩
 rw[←dY] at zn Vc v8
 have pZ:bC.dt=c.dt:=by rw[dY]
 have iB:bC.made.length≤200:=by rw[dY];exact apq
 have DB:bC.left.length≤201:=by rw[dY,dU,ru];omega
 obtain ⟨bM,dk,db,bk⟩:=cj Vd
 have DC:=bZ.len Lk.keys
 have ab8:∀ (w':World) (v:Value),Ext c5 w'→(∀ {dB ba Ll},dB=da→ba=bC→Ll=l++ [(wl[i]).no]→((v= .tuple #[.int .i64 0, .int .i64 0, .int .i64 0]∧iI=[]∧Ll.Perm (m++dK))∨
    (∃ (root h:Nat) (pages:List Nat),v= .tuple #[.int .i64 (root:Nat), .int .i64 (h:Nat), .int .i64 0]∧hO (aX.P dB) h none none root pages iI∧(pages++Ll).Perm (m++dK)∧1≤h∧h≤ck.bw+1)∨
    (∃a b:Int,v= .tuple #[.int .i64 a, .int .i64 b, .int .i64 3]∧¬ck.C.D.calm 60)))→Bx T c dK iI w v w':=by
   intro w' v af hd
   refine conv v w' ⟨da,bC,m,l++ [(wl[i]).no],?_,?_,hd (ba:=bC) rfl rfl rfl⟩
   · exact zn.ext af
   · have:=(v8.trans (fV.ext da _ af)).mono (j:=60) (by omega)
     simp only[mn] at this
     exact this
 refine eA (fun b w'=>(b=true↔(i=0∧n.keys=[]))∧c5=w') (fun Z vh=>⟨fun b7=>⟨K,dk,vh _ _ ⟨?_,rfl⟩⟩,fun b7=>vh _ _ ⟨?_,rfl⟩⟩) ?_
 · have b7:i=0:=by
     have:((i:Nat):Int)=0:=by simpa using b7
     omega
   rw[zZ]
   constructor
   · intro U
     exact ⟨b7,List.eq_nil_of_length_eq_zero (by omega)⟩
   · rintro ⟨_,U⟩
     rw[U] at DC
     simp at DC;omega
 · have b7:i≠0:=by
     have:¬((i:Nat):Int)=0:=by simpa using b7
     omega
   exact ⟨fun h=>(by cases h),fun h=>absurd h.1 b7⟩
 rintro uO _ ⟨ab9,rfl⟩
 refine ⟨fun ab=> ?_,fun ab=> ?_⟩
 · obtain ⟨b7,lg⟩:=ab9.1 ab
   subst b7
   have nG:Ext c5 c5.drew:=dL _
   obtain ⟨pQ,vZ,sG,q7⟩:=cj (Vd.ext nG)
   have PB:=(zn.ext nG).cells.1
   rw[pZ] at PB
   have aps:=(zn.ext nG).t.cells.2.2.2.2
   obtain ⟨t1,t2,t3,t4,t5,t6⟩:=Ctx.abY (by simpa using I.ctx)
   have pz:=I.wG
   have tw:=I.pp
   have heq:=I.eq
   have v_:=By (no:=(wl[0]).no) I.acc
   subst t2 t3 t4 t5 t6
   rw[rq,mn] at heq
   rw[mn] at tw
   subst heq
   have Vf:n.leaf=false→∃x,n.kids=[x]∧1≤da.bw∧hO av.P (da.bw-1) none none x q M∧1≤da.bw-1:=by
     intro az
     have e:wl.length-0=da.bw:=by rw[BA];omega
     rw[e] at pz
     cases aV:da.bw with
     |zero=>omega
     |succ t=>
       rw[aV] at pz
       cases t with
       |zero=>
         have:=pz.1.leaf
         rw[az] at this;cases this
       |succ t=>
         obtain ⟨v1,v2,v3,v4,v5⟩:=pz
         rw[lg] at v5
         generalize ry:n.kids=wa at v5
         cases v5 with
         |one h=>exact ⟨_,rfl,by omega,h.1,by omega⟩
   refine bL ⟨fun _=>False,id,_,pQ,K,vZ,V,sG,D,q7,_,rfl,id,_,PB,_,rfl,id,_,aps,(zk (Lk.ext nG) da.bw (by omega) fun az=>by obtain ⟨x,bc,cS,_⟩:=Vf az;exact ⟨x,bc,cS⟩).use ?_⟩
   rintro v w' ⟨rfl,cA⟩
   have pP:=nG.trans cA
   cases az:n.leaf with
   |true=>
     rw[if_pos rfl]
     have jq:=pz.leaf
     rw[az] at jq
     have PC:wl.length-0=1:=dD jq.symm
     rw[PC] at pz
     obtain ⟨v1,v2,v3,v4⟩:=pz
     subst v3
     refine ⟨_,_,_,rfl,cA,ab8 w' _ pP fun {dB ba Ll} bc cS a3=> .inl ⟨rfl,?_,?_⟩⟩
     · rw[v4];unfold aM.gL;rw[lg];rfl
     · subst a3
       rw[DV] at v_ tw⊢
       intro x
       have:=v_ x
       have:=tw x
       simp only[EL,G2,G3] at*
       omega
   |false=>
     rw[if_neg (by simp)]
     obtain ⟨x,bc,cS,a3,a4⟩:=Vf az
     refine ⟨_,_,_,rfl,cA,ab8 w' _ pP fun {dB ba Ll} c3 cG eP=> .inr (.inl ⟨_,_,q,rfl,?_,?_,a4,?_⟩)⟩
     · subst c3
       have sZ:n.kids.getD 0 0=x:=by rw[bc];rfl
       rw[sZ,cq];exact a3
     · subst eP
       rw[DV] at v_ tw⊢
       intro x
       have:=v_ x
       have:=tw x
       simp only[EL,G2,G3] at*
       omega
     · omega
 · have F5:n.keys≠ []:=fun e=>by
     rcases G4 i with b7|b7
     · have:=ab9.2 ⟨b7,e⟩
       rw[ab] at this;cases this
     · exact I.apk b7 e
   have apt:da.C.D.cR≤900000050:=by
     have:=v8.to.cR
     rw[lZ] at this
     omega
   have ab_:2≤fO da:=by
     have:=v8.room
     have:=I.Pz
     omega
   have aca:∀j,j≤10→¬da.C.D.calm j→¬ck.C.D.calm 60:=fun j a_ aD al=>aD (v8.to.calm j (mE al (by omega)))
   have j3:zd n:=I.wG.U3 (fun _=>by have:=I.sz;omega) (fun _=>by have:=I.sz;omega) fun _=>F5
   refine eA (fun p w'=>p=(if i=0 then none else some (Lj.add ((i-1)*6)))∧c5=w') (fun Z vh=>⟨fun b7=>⟨Lj,Vb,?_,vh _ _ ⟨?_,rfl⟩⟩,fun b7=>vh _ _ ⟨?_,rfl⟩⟩) ?_
   · have b7:((i:Nat):Int)>0:=dD b7
     rw[cz (by omega) (by omega)]
     omega
   · have b7:((i:Nat):Int)>0:=dD b7
     have e:((i:Nat):Int)-1=((i-1:Nat):Int):=by omega
     rw[cz (by omega) (by omega),if_neg (by omega),e,gY]
   · have b7:¬((i:Nat):Int)>0:=eW b7
     rw[if_pos (by omega)]
   rintro _ _ ⟨rfl,rfl⟩
   refine ⟨_,bM,K,dk,V,db,D,bk,?_⟩
   by_cases b7:i=0
   · subst b7
     rw[if_pos rfl]
     have Lm:=aoP zn Lk j3 (by omega) ab_ (by omega)
     rw[pZ] at Lm
     refine Lm.use ?_
     rintro _ oM ⟨il,e,rfl,aH⟩
     obtain ⟨dB,ba,ms,jF,lT,vY,eT⟩:=aH.cs
     have PD:=v8.trans lT
     simp only[mn] at PD
     have apu:ba.dt=c.dt:=by rw[lT.dt,pZ]
     rcases eT with ⟨rfl,ks,zo,BB⟩|⟨rfl,fj⟩
     · refine ⟨il,_,_,0,rfl,fun h=>(by cases h),fun _=>⟨fun _=> ?_,fun h=>(by simp at h)⟩⟩
       obtain ⟨t1,t2,t3,t4,t5,t6⟩:=Ctx.abY (by simpa using I.ctx)
       have pz:=I.wG
       have tw:=I.pp
       have heq:=I.eq
       have dR:=I.sz
       have v_:=By (no:=(wl[0]).no) I.acc
       have uN:=I.ab0
       subst t2 t3 t4 t5 t6
       rw[rq,mn] at heq
       rw[mn] at tw uN
       subst heq
       have apv:da.n≤1600:=zn.t.s.db
       have Vg:∀z∈q,av.P z=dB.P z:=fun z bN=>by
         rw[←cq]
         exact ((lT.g4 z (by rw[cx,uN z bN];rfl)).1).symm
       have acb:wl.length-0=(wl.length-1)+1:=by omega
       have acd:dB.bw=wl.length:=by rw[lT.bw,BA];omega
       rw[acb] at pz
       have ace:∀uM x y,ks=[uM]→ms=[x,y]→eM uM∧x<1600∧y<1600:=fun uM x y aA aE=>by
         subst aA aE
         have zm:232<cr n:=by
           rcases zo with ⟨_,z,e,_⟩|⟨h,_⟩
           · cases e
           · exact h
         obtain ⟨e0,_,_,aI,_⟩:=pz.fits (pz.RW (by omega)) (fun _=>by omega) (fun _=>by omega) zo Vg
         have af:=(lT.tn x (by simp)).2
         have b3:=(lT.tn y (by simp)).2
         exact ⟨aI uM (by simp),by omega,by omega⟩
       have acf:=ao_ jF BB (fun _=>by omega) ace (by have:=lT.to.cR;omega) (by have:=lT.room;have:=v8.room;have:=I.Pz;omega) (by rw[lT.made,dU];omega)
       rw[apu] at acf
       refine acf.use ?_
       rintro v yP bm
       rcases bm with ⟨x,aA,aE,rfl,aL,cQ⟩|⟨uM,x,y,no,uE,gl,aA,aE,aL,cQ,vP⟩
       · subst aA aE
         refine ⟨_,_,_,rfl,conv _ _ ⟨dB,ba,m++ [x],l++ [(wl[0]).no],aL,?_, .inr (.inl ⟨x,dB.bw,x::q,rfl,?_,?_,by omega,by omega⟩)⟩⟩
         · have:=(PD.trans (fV.ext dB ba cQ)).mono (j:=60) (by omega)
           simp only[mn] at this
           exact this
         · rcases zo with ⟨_,z,_,e,bN⟩|⟨_,Vh,apw,_,e,_⟩
           · cases e
             rw[acd,show wl.length=wl.length-1+1 by omega]
             exact pz.lay F5 bN Vg
           · cases e
         · rw[DV] at v_ tw⊢
           intro z
           have:=v_ z
           have:=tw z
           simp only[EL,G2,G3] at*
           omega
       · subst aA aE
         obtain ⟨bc,cS,a3⟩:=ace uM x y rfl rfl
         have DW:=PD.trans cQ
         simp only[mn] at DW
         have acg:=DW.mono (j:=60) (by omega)
         rcases vP with ⟨rfl,KQ⟩|⟨rfl,KQ⟩
         · have sm:∀z∈x::y::q,dB.P z=uE.P z:=fun z bN=>by
             refine ((cQ.g4 z ?_).1).symm
             rw[lT.f]
             simp only[gb] at bN
             rcases bN with bN|bN|bN
             · simp[bN]
             · simp[bN]
             · rw[cx,uN z bN];simp
           obtain ⟨_,pages,c3,cG⟩:=apl pz dR zo Vg KQ sm cS a3
           refine ⟨_,_,_,rfl,conv _ _ ⟨uE,gl,m++ [x,y]++ [no],l++ [(wl[0]).no],aL,acg, .inr (.inl ⟨no,dB.bw+1,pages,rfl,?_,?_,by omega,by omega⟩)⟩⟩
           · rw[acd,show wl.length+1=wl.length-1+2 by omega];exact c3
           · rw[DV] at v_ tw cG⊢
             intro z
             have:=v_ z
             have:=tw z
             have:=cG z
             simp only[EL,G2,G3] at*
             omega
         · refine ⟨_,_,_,rfl,conv _ _ ⟨uE,gl,m++ [x,y]++ [no],l++ [(wl[0]).no],aL,acg, .inr (.inr ⟨_,_,rfl,fun al=>KQ (lT.to.calm 1 (v8.to.calm 3 (mE al (by omega))))⟩)⟩⟩
     · refine ⟨il,_,_,3,rfl,fun _=>conv _ _ ⟨dB,ba,m++ms,l++ [(wl[0]).no],jF,PD.mono (by omega), .inr (.inr ⟨0,0,rfl,aca 2 (by omega) fj⟩)⟩,fun h=>(by cases h)⟩
   · rw[if_neg b7]
     have hT:i-1<wl.length:=by omega
     obtain ⟨aww,ach,_,_,_,hu⟩:=Ve.at hT
     rw[Vb] at ach
     obtain rfl:=Option.some.inj ach
     obtain ⟨u,Vi⟩:∃u,u=wl[i-1]:=⟨_,rfl⟩
     rw[←Vi] at hu
     have g9:(wl.take i).map gD.st=(wl.take (i-1)).map gD.st++ [u.st]:=by
       have:wl.take i=wl.take (i-1)++ [wl[i-1]]:=by
         have e:i-1+1=i:=by omega
         rw[←qz hT,e]
       rw[this,om,Vi];rfl
     obtain ⟨DR,DS,Bw,yz,DT,ps,dI,ew,mO,lN,oZ,F8,ui,zp,BC⟩:=Ctx.up I.ctx g9 I.wG I.U_.t.DU I.sz
     have PC:wl.length-i+1=wl.length-(i-1):=by omega
     rw[PC] at dI zp BC
     have Vj:=(I.U_.t.l_ _ _ mO).2.is
     have awx:=Vj.2.1.k3 (by omega)
     have uN:=I.ab0
     have Lm:=aoQ zn Lk hu j3.1 (by have:=I.sz;omega) (fun _=>j3) (fun F9=>by
       obtain ⟨o,no,rest,c3,cG,eP,fa,h7,lv,_⟩:=BC F9
       exact ⟨o,no,c3,by rw[cq];exact cG,eP,fa,h7,lv⟩) (by omega) (by omega) ab_ (by omega) (by omega)
     rw[pZ] at Lm
     refine Lm.use ?_
     rintro v oM dz
     have JR:0<u.n.keys.length:=List.length_pos_iff.2 F8
     have apv:da.n≤1600:=zn.t.s.db
     have Ln:∀ {dB:aX} {ba:gH} {ms ls:List Nat} {w':World} {apx:Nat},fV da dB bC ba ms ls c5 w' apx→∀x,av.f x=true→av.P x=dB.P x:=fun gI x af=>by
       rw[←cq]
       exact ((gI.g4 x (by rw[cx,af];rfl)).1).symm
     have fx:(∃ (dB:aX) (ba:gH) (ms ls:List Nat) (s:aa) (a b:Int),v= .tuple #[.slice s.a s.len s.cap, .int .i64 a, .int .i64 b, .int .i64 3]∧fU oM dB ba∧fV da dB bC ba ms ls c5 oM 4∧¬da.C.D.calm 4)∨
         (∃ (dB:aX) (ba:gH) (ms ls rest:List Nat) (s:aa) (BD zq:Nat) (ks:List Key) (iB:List Nat) (M2:List bl),v= .tuple #[.slice s.a s.len s.cap, .int .i64 (BD:Nat), .int .i64 (zq:Nat), .int .i64 0]∧fU oM dB ba∧fV da dB bC ba ms ls c5 oM 4∧ms.length≤2∧ls.length≤1∧xJ (fun q=>¬dB.M q) oM s ks ms∧
           fK dB.P (wl.length-(i-1)) (mq u.n BD zq ks ms) DR DS iB M2∧yz++(M2++DT)=A++(M++B)∧iB.Perm (ms++(rest++q))∧ps.Perm (ls++rest)∧cr (mq u.n BD zq ks ms)≤cr u.n+27∧u.n.keys.length≤(mq u.n BD zq ks ms).keys.length+1∧
           BD≤u.n.keys.length∧1≤zq∧zq≤u.n.kids.length):=by
       rcases dz with ⟨zm,s,e,rfl,aH⟩|⟨F9,dB,ba,rfl,aA,aE,aI⟩|⟨F9,o,no,awy,awz,awA,s,e,lh,BE,aci,rfl,aH⟩
       · obtain ⟨dB,ba,ms,jF,lT,vY,eT⟩:=aH.cs
         rcases eT with ⟨rfl,ks,zo,BB⟩|⟨rfl,fj⟩
         · obtain ⟨iB,M2,c3,cG,eP,fa,h7⟩:=zp zm dB.P ks ms zo (fun x af=>Ln lT x (uN x (by
             rw[ew]
             simp only[e8,gb] at af⊢
             rcases af with af|af
             · exact .inr (.inr (.inl af))
             · exact .inl af))) (fun x af=>by have:=(lT.tn x af).2;omega)
           exact .inr ⟨dB,ba,ms,[],ps,s,u.e2,u.e2+1,ks,iB,M2,rfl,jF,lT.mono (by omega),vY,fl _,BB,c3,cG,eP,List.Perm.refl _,fa,h7,by omega,by omega,by omega⟩
         · exact .inl ⟨dB,ba,ms,[],s,_,_,rfl,jF,lT.mono (by omega),fun al=>fj (mE al (by omega))⟩
       · exact .inl ⟨dB,ba,[],[],bU,0,0,rfl,aA,aE.mono (by omega),fun al=>aI (mE al (by omega))⟩
       · obtain ⟨lL,acj,rest,c3,cG,eP,fa,h7,lv,k6,n3⟩:=BC F9
         rw[c3] at lh
         obtain rfl:=Option.some.inj lh
         rw[cq,cG] at BE
         obtain rfl:=Option.some.inj BE
         obtain ⟨dB,ba,ms,jF,lT,vY,eT⟩:=aH.cs
         have DW:=aci.trans lT
         simp only[rq,mn] at DW
         rcases eT with ⟨rfl,ks,zo,BB⟩|⟨rfl,fj⟩
         · obtain ⟨iB,M2,d1,d2,d3,d4,d5⟩:=n3 dB.P ks ms zo (fun x af=>Ln DW x (uN x (by
             rw[ew]
             simp only[e8,gb] at af⊢
             rcases af with af|af
             · exact .inr (.inr (.inl (k6.mem_iff.2 (u7 _ af))))
             · exact .inl af))) (fun x af=>by have:=(DW.tn x af).2;omega)
           refine .inr ⟨dB,ba,ms,[acj],rest,s,u.e2-1,u.e2-1+2,ks,iB,M2,rfl,jF,DW,vY,cV _,BB,d1,d2,d3,k6,d4,d5,by omega,by omega,?_⟩
           rcases G4 u.e2 with a6|a6<;>omega
         · exact .inl ⟨dB,ba,ms,[acj],s,_,_,rfl,jF,DW,fun al=>fj (aci.to.calm 2 al)⟩
     clear dz
     rcases fx with ⟨dB,ba,ms,ls,il,a,b,rfl,jF,lT,fj⟩|⟨dB,ba,ms,ls,rest,il,BD,zq,ks,iB,M2,rfl,jF,lT,vY,awB,BB,v1,v2,v3,v4,v5,v6,apy,SB,v9⟩
     · exact ⟨il,_,_,3,rfl,fun _=>conv _ _ ⟨dB,ba,_,_,jF,(v8.trans lT).mono (by omega), .inr (.inr ⟨0,0,rfl,aca 4 (by omega) fj⟩)⟩,fun h=>(by cases h)⟩
     · refine ⟨il,_,_,0,rfl,fun h=>(by cases h),fun _=>⟨fun h=> ?_,fun _=> ?_⟩⟩
       · have:((i:Nat):Int)=0:=by simpa using h
         omega
       have Lo:=hu.to lT.to
       refine ⟨_,rfl,_,Lo.aT,u.K,Lo.bC,u.V,Lo.ba,u.D,Lo.gl,(zc Lo.dT BB (fr:=BD) (to:=zq) apy (by omega) SB v9 (by omega) (by omega) (by omega)).use ?_⟩
       rintro _ sJ ⟨c9,df,dv,rfl,apz,Lp⟩
       have ack:=Vd.an lT.to.an (zn.t.su mG)
       have acl:=ack.ext Lp
       refine ⟨_,c9,df,dv,rfl,acl.dA rfl lB,rfl,ek acl (us:=gZ (mq u.n BD zq ks ms) c9 df dv) rfl rfl fun tx Vk Lq awC=>⟨⟨i-1,dB,ba,m++ms,l++ [(wl[i]).no]++ls,mq u.n BD zq ks ms,c9,df,dv,DR,DS,Bw,yz,DT,iB,M2,ps++((wl[i]).no::r),?_,?_⟩,?_⟩⟩
       · rw[cz (by omega) (by omega)];omega
       · have acm:dB.E py:=by rw[lT.E];exact mG
         have Vl:dB.M py:= .inr (.inr (.inr (.inl acm)))
         have Vm:=(v8.trans lT).trans (fV.ext dB ba Lp)
         simp only[mn] at Vm
         have apA:b5 ck dB ag tx (4*(wl.length-1-i)+4+0):=Vm.to.step (E:=dB.E) (G:=dB.G) Lq (fun q e az=>by omega) (fun q J=> .inl J) fun q J=> .inl J
         have Im:∀x,av.f x=true→dB.f x=true:=fun x af=>by rw[lT.f,cx,af];rfl
         have PE:=Ve.to lT.to
         refine ⟨hT,(jF.ext Lp).abX Lq fun q e=> .inl (by rw[e];exact acm),{Vm.mono (j:=4*(wl.length-1-(i-1))) (by omega) with to:=apA.mono (by omega)},?_,?_,Vk,?_,?_,dI.agree fun x af=>Ln lT x (uN x (by rw[ew];simp[af])),v1,by rw[v2];exact I.eq,?_,rZ (By I.acc) v3 v4,by omega,fun U e=> ?_,fun x af=> ?_⟩
         · rw[dU];have:=I.Pz;omega
         · rw[dU,dU,ru];have:=I.abZ;omega
         · refine (cd.an apz Lq fun q J e=> ?_).bz fun q _ J hm=> ?_
           · subst e
             rcases J with J|J
             · exact J Vl
             · have:=ack.lt;omega
           · rcases J with J|J
             · exact J hm
             · have:=jF.t.lt hm;omega
         · refine ⟨(PE.own.ext Lp).an Lq fun q J e=>PE.FE q J (by rw[e];exact Vl),PE.FE,fun x af=>cd.an ((PE.dT x af).ext Lp) Lq fun q J e=>J (by rw[e];exact Vl)⟩
         · have this:dK.Perm ((wl[i]'ab4).no::(r++hW)):=I.pp
           rw[ew] at this
           rw[←Vi]
           exact Bz this
         · have ad:=ui (fun bo=>by
             have:=congrArg List.length bo
             rw[lf,d_,vb] at this
             omega)
           rw[e,vb] at v6
           omega
         · rcases e8.1 af with af|af
           · have:=v3.mem_iff.1 af
             rcases e8.1 this with af|af
             · rw[lT.f];simp[af]
             · rcases e8.1 af with af|af
               · refine Im x (uN x ?_)
                 rw[ew]
                 have:x∈ps:=v4.mem_iff.2 (qc _ af)
                 simp[this]
               · exact Im x (uN x (by simp[af]))
           · exact Im x (uN x (by rw[ew];simp[af]))
       · rw[cz (by omega) (by omega)]
         show (((i:Nat):Int)-1+1).toNat<(((i:Nat):Int)+1).toNat
         omega
end
section
theorem apB {w:World} {T:aX} {c:gH} {iI:List bl} {n:aM} {K V D ws:aa} (apC:ws.len=0) (h:fU w T c) (aD:cd (fun q=>¬T.M q) w n K V D) (gC:T.C.D.cR≤900000000) (jz:2≤fO T) (Aw:c.made.length≤100) (hle:c.left=[])
   (Iq:oq n) (ae:n.keys≠ []) (dR:cr n≤232) (heq:n.gL=iI):
   aQ Tryz.prog F.xT #[.pointer (some ⟨c.dt,0,none⟩), .slice ws.a ws.len ws.cap,e9 n K V D] w (Bx T c [] iI w):=by
 refine W.ab2 (some ⟨c.dt,0,none⟩) ws n.leaf K V D w _ ?_
 (delta W.xT bS ai aq dx aC aB a7 bI st Io F6 jt gl;dsimp only)
 refine cn (vs:=gZ n K V D) rfl fun ag gh bD ky=> ?_
 obtain ⟨cH,aT,bC,ba⟩:=cj gh
 refine ⟨_,cH,K,aT,V,bC,D,ba,cn (vs:=[.bool false, .slice none 0 0, .slice none 0 0, .slice none 0 0]) rfl fun a8 s8 jR Kk=>⟨s8.dA rfl lB,rfl,ek s8 (us:=gZ n K V D) rfl rfl fun bh Ip qS Oy=> ?_⟩⟩
 have fe:Ext w bh:=bD.trans (Ext.eX jR qS (cV _))
 refine ⟨fun n10 w'=>n10= -1∧bh=w',fun _ _=>0,⟨by rw[apC];decide,rfl⟩,?_⟩
 rintro _ _ ⟨rfl,rfl⟩
 refine ⟨fun h=>by simp at h,fun _=> ?_⟩
 obtain ⟨d0,d1,d2,d3⟩:=cj Ip
 refine ⟨_,d0,K,d1,V,d2,D,d3,(aa9 (h.ext fe) (by omega) (by omega) (by omega) (aD.ext fe) (.inl Iq) dR).use ?_⟩
 intro v w' ak
 obtain ⟨s,e,rfl⟩:=ak.out
 obtain ⟨av,c',m,pt,gI,hm,eT⟩:=(ak.base fe).cs
 rcases eT with ⟨rfl,ks,zo,BB⟩|⟨rfl,fj⟩
 · refine ⟨s,0,rfl,fun h=>(by cases h),fun _=> ?_⟩
   rcases zo with ⟨_,x,rfl,rfl,af⟩|⟨awD,_⟩
   · rcases BB with ⟨b,Vh,rfl,_,e,ak,_⟩|⟨b,Vh,apw,lP,Fb,rfl,e,_⟩
     · obtain rfl:x=Vh:=by simpa using e
       refine ⟨_,rfl,⟨by decide,by show (0:Int)<((1:Nat):Int);decide⟩,_,by rw[aW,aW];exact ak.cell,av,c',[x],[],pt,gI.mono (by omega), .inr (.inl ⟨x,1,[x],rfl,⟨n,af,Iq,fun k ae=>⟨fun _ e=>(by cases e),fun _ e=>(by cases e)⟩,ae,rfl,heq.symm⟩,List.Perm.refl _,cV _,by omega⟩)⟩
     · cases e
   · omega
 · exact ⟨s,3,rfl,fun _=>⟨av,c',m,[],pt,gI.mono (by omega), .inr (.inr ⟨0,0,rfl,fun al=>fj (mE al (by omega))⟩)⟩,fun h=>(by cases h)⟩
end
section
def aX.F_ (T:aX) (r h:Nat):aX:={T with root:=r,bw:=h}
theorem c6.apD {w w':World} {T:aX} {r h:Nat} (aV:c6 w T) (ak:Var w' T.cl (FA (T.F_ r h)) ah.HS) (al:ao (fun q=>q=T.cl) w w') (aN:r<T.n) (cT:h≤12):c6 w' (T.F_ r h)∧b5 T (T.F_ r h) w w' 0:=
 ⟨⟨ak,aV.s.an al fun q J e=>aV.Ds (e▸J),aV.oF.an al fun q e=> .inl e,aV.Ds,aV.ij,aV.uu,aV.n,⟨aN,cT,aV.num.2.2⟩,aV.l_⟩,
   ⟨rfl,rfl,rfl,rfl,rfl,rfl,rfl,rfl,rfl,rfl,cV _,fun _ h=>h,al.mono fun q _ e=> .inr (.inl e),fun q h=> .inl h,fun q h=> .inl h⟩⟩
def nK (T:aX) (pages:List Nat) (L:List bl):Prop:=(T.bw=0∧T.root=0∧pages=[]∧L=[])∨hO T.P T.bw none none T.root pages L
def PF (T:aX) (dK:List Nat) (iI:List bl) (w:World) (v:Value) (w':World):Prop:=
 ∃av:aX,c6 w' av∧b5 T av w w' 60∧av.E=T.E∧av.G=T.G∧
   ((v= .int .i64 2∧fO T<2*T.bw+3∧av=T)∨
    (v= .int .i64 0∧2*T.bw+3≤fO T∧(∃pages,nK av pages iI∧pages.Nodup∧(∀no∈pages,no∈dK∨(T.f no||T.g no)=false)∧∀no,av.f no=true↔(no∈pages∨(T.f no=true∧no∉dK)))∧∀no,T.g no=true→av.P no=T.P no∧av.C.view no=T.C.view no)∨
    (v= .int .i64 3∧¬T.C.D.calm 60∧av.root=T.root∧av.bw=T.bw∧av.f=T.f∧∀no,(T.f no||T.g no)=true→av.P no=T.P no∧av.C.view no=T.C.view no))
theorem acn {l:List Nat} (h:∀x,l.count x≤1):l.Nodup:=List.nodup_iff_count.2 h
theorem apE {w:World} {T:aX} {s:aa} {dK:List Nat} {iI:List bl} {n:aM} {K V D:aa} (h:c6 w T) (gC:T.C.D.cR≤900000000) (cT:T.bw<12) (Ti:dK.Nodup) (vN:∀x∈dK,T.f x=true) (awE:dK.length≤5000)
   (apF:∀ (c7 iW:Nat→Prop) (ag:World) (aT:gH),fU ag (T.dw c7 iW) aT→b5 T (T.dw c7 iW) w ag 0→2*T.bw+3≤fO T→aT.made=[]→aT.left=[]→aQ Tryz.prog F.xT #[.pointer (some ⟨aT.dt,0,none⟩), .slice s.a s.len s.cap,e9 n K V D] ag (Bx (T.dw c7 iW) aT dK iI ag)):
   aQ Tryz.prog F.xV #[.pointer (some ⟨T.cl,0,none⟩), .slice s.a s.len s.cap,e9 n K V D] w (PF T dK iI w):=by
 have oz:=h.s.db
 refine W.apG (some ⟨T.cl,0,none⟩) s n.leaf K V D w _ ?_
 (delta W.xV bI aT aB aC st ai bS aq Io bC;dsimp only)
 refine cn (vs:=gZ n K V D) rfl fun ag gh bD ky=>cn (vs:=[.int .i64 0]) rfl fun aw aco cA mo=>bL ?_
 have bA:Ext aw aw.drew:=dL _
 obtain ⟨aS,mw⟩:∃aS,aS=aw.drew:=⟨_,rfl⟩
 rw[←mw] at bA⊢
 have g0:=(bD.trans cA).trans bA
 have au:=h.ext g0
 obtain ⟨bB,Vn⟩:∃bB,bB=ag.heap.size:=⟨_,rfl⟩
 rw[←Vn] at aco⊢
 refine ⟨fun _=>False,_,rfl,id,_,au.cells.2.1,_,rfl,id,_,au.cells.2.2.2.2,(TA au.s).use ?_⟩
 rintro _ b6 ⟨rfl,nh⟩
 have JV:=g0.trans nh
 have Lr:=(aco.ext bA).ext nh
 have Ls:((T.n:Int)-mR (fun i=>T.f i||T.g i) T.n)=(fO T:Nat):=by
   have:=HR (fun i=>T.f i||T.g i) T.n
   unfold fO;omega
 have tZ:IntKind.wrap .i64 (IntKind.wrap .i64 (2*((T.bw:Nat):Int))+3)=((2*T.bw+3:Nat):Int):=by
   rw[cz (n:=2*((T.bw:Nat):Int)) (by omega) (by omega),cz (by omega) (by omega)];omega
 rw[Ls,tZ]
 refine ⟨_,rfl,nh,fun ab=> ?_,fun ab=> ?_⟩
 · have ab:((fO T:Nat):Int)<((2*T.bw+3:Nat):Int):=dD ab
   obtain ⟨aA,aE⟩:=js Lr (i:=0) (by simp)
   have fc:=ig b6 bB 0 (.int .i64 2)
   have ak:=jr Lr (i:=0) (.int .i64 2)
   have CM:=Ext.eX JV fc (by omega)
   exact ⟨aA,aE,bL ⟨2,ak.cell,T,h.ext CM,(b5.ext T CM).mono (by omega),rfl,rfl, .inl ⟨rfl,by omega,rfl⟩⟩⟩
 have jz:2*T.bw+3≤fO T:=by
   have:¬((fO T:Nat):Int)<((2*T.bw+3:Nat):Int):=eW ab
   omega
 refine cn (vs:=[.pointer (some ⟨T.cl,0,none⟩), .slice none 0 0, .slice none 0 0]) rfl fun c0 gx Ga Pb=>cn (vs:=[.pointer none]) rfl fun e5 Vo rS aoj=> ?_
 obtain ⟨dt,rP⟩:∃dt,dt=b6.heap.size:=⟨_,rfl⟩
 obtain ⟨kH,Ph⟩:∃kH,kH=c0.heap.size:=⟨_,rfl⟩
 rw[←rP] at gx⊢
 rw[←Ph] at Vo⊢
 obtain ⟨aA,aE⟩:=js Vo (i:=0) (by simp)
 have PG:=ig e5 kH 0 (.pointer (some ⟨dt,0,none⟩))
 have Vp:=jr Vo (i:=0) (.pointer (some ⟨dt,0,none⟩))
 refine ⟨aA,aE,bL ?_⟩
 obtain ⟨cF,apH⟩:∃cF,cF=e5.setCell ⟨kH,0,none⟩ (.pointer (some ⟨dt,0,none⟩)):=⟨_,rfl⟩
 rw[←apH] at PG Vp⊢
 have Hv:=JV.size
 have acp:=PG.size
 have Vq:Ext b6 cF:=Ext.eX (Ga.trans rS) PG (by omega)
 have acq:=JV.trans Vq
 have acr:=Lr.ext Vq
 have oX:=(gx.ext rS).an PG (by omega)
 have PH:=((gh.ext cA).ext bA).ext (nh.trans Vq)
 obtain ⟨c7,lz⟩:∃c7,c7=fun q=>T.E q∨q=bB:=⟨_,rfl⟩
 obtain ⟨iW,AT⟩:∃iW,iW=fun q=>T.G q∨q=dt:=⟨_,rfl⟩
 have p2:∀q,c7 q→T.E q∨q=bB:=fun q J=>by rw[lz] at J;exact J
 have PI:∀q,iW q→T.G q∨q=dt:=fun q J=>by rw[AT] at J;exact J
 have ng:∀q,T.E q→c7 q:=fun q J=>by rw[lz];exact .inl J
 have apI:∀q,T.G q→iW q:=fun q J=>by rw[AT];exact .inl J
 have Vr:c7 bB:=by rw[lz];exact .inr rfl
 have apJ:iW dt:=by rw[AT];exact .inr rfl
 have awF:=acr.lt
 have awG:=oX.lt
 have uP:c6 cF (T.dw c7 iW):=h.grow (W:=fun _=>False) acq (fun _ h=>h.elim) (fun q J=>(p2 q J).imp id fun e=> .inr ⟨by omega,by omega⟩) (fun q J=> .inr ((PI q J).imp id fun e=>⟨by omega,by omega⟩)) fun q J bf=>by
   rcases p2 q J with U|U<;>rcases PI q bf with ad|ad
   · exact (h.ij q U).2.2 ad
   · have:=h.lt (q:=q) (.inr (.inr (.inr (.inl U))));omega
   · have:=h.lt (q:=q) (.inr (.inr (.inr (.inr ad))));omega
   · have:=Lr.lt;omega
 have Gb:b5 T (T.dw c7 iW) w cF 0:=(b5.refl T w).step (W:=fun _=>False) acq (fun _ h=>h.elim) (fun q J=>(p2 q J).imp id fun e=> .inr (by omega)) fun q J=>(PI q J).imp id fun e=>by omega
 have apK:fU cF (T.dw c7 iW) ⟨dt,bU,bU,[],[]⟩:=⟨uP,oX,bV.none _ _ _,bV.none _ _ _,apJ,fun q J=>(qJ q J).elim,fun q J=>(qJ q J).elim⟩
 have vp:=apF c7 iW cF _ apK Gb jz rfl rfl
 obtain ⟨cH,aT,bC,ba⟩:=cj PH
 refine ⟨_,Vp.cell,_,cH,K,aT,V,bC,D,ba,vp.use ?_⟩
 rintro v c5 ⟨ck,zr,m,l,qm,gI,eT⟩
 have Lt:ck.E bB:=by rw[gI.E];exact Vr
 have PJ:=acr.an gI.to.an (uP.su Vr)
 have TW:¬(T.dw c7 iW).N kH:=by
   have A3:dt<kH:=by rw[rP,Ph];omega
   rintro (J|J|J|J)
   · have:=h.lt (q:=kH) (.inl J);omega
   · have:=h.lt (q:=kH) (.inr (.inl J));omega
   · have:=h.lt (q:=kH) (.inr (.inr (.inl J)));omega
   · rcases PI kH J with U|U
     · have:=h.lt (q:=kH) (.inr (.inr (.inr (.inr U))));omega
     · omega
 have acs:=Vp.an gI.to.an TW
 have PK:zr.dt=dt:=gI.dt
 have awH:ck.cl=T.cl:=gI.to.cl
 have PL:zr.made=m:=gI.made
 have PM:zr.left=l:=gI.left
 have Ir:kH≠bB:=by have:=Lr.lt;omega
 have xU:b5 T ck w c5 60:=(Gb.trans gI.to).mono (by omega)
 have fin:∀ (w':World) (av:aX),c6 w' av→b5 T av w w' 60→av.E=c7→(∀q,T.G q→av.G q)→c6 w' (av.dw T.E T.G)∧b5 T (av.dw T.E T.G) w w' 60:=by
   intro w' av al aV fh ih
   exact ⟨al.grow (W:=fun _=>False) (ao.refl _ _) (fun _ h=>h.elim) (fun q J=> .inl (by rw[fh];exact ng q J)) (fun q J=> .inr (.inl (ih q J))) fun q J=>(h.ij q J).2.2,
     aV.step (W:=fun _=>False) (ao.refl _ _) (fun _ h=>h.elim) (fun q J=> .inl (by rw[fh];exact ng q J)) fun q J=> .inl (ih q J)⟩
 have act:∀q,T.G q→ck.G q:=fun q J=>gI.G q (apI q J)
 have xv:=(bD).size
 have Vs:∀ (bO:World) (av:aX) (c':gH) (x:Int),fU bO av c'→b5 T av w bO 60→av.E bB→fU (bO.setCell ⟨bB,0,none⟩ (.int .i64 x)) av c'∧b5 T av w (bO.setCell ⟨bB,0,none⟩ (.int .i64 x)) 60:=fun bO av c' x al aV he=>
   ⟨al.abX (ig bO bB 0 _) fun q e=> .inl (by rw[e];exact he),aV.step (E:=av.E) (G:=av.G) (ig bO bB 0 _) (fun q e az=>by omega) (fun q J=> .inl J) fun q J=> .inl J⟩
 have awI:m.length≤1600:=by
   have:=gI.room
   have:fO (T.dw c7 iW)≤T.n:=by unfold fO;exact Nat.sub_le _ _
   omega
 have Vt:(∃a b:Int,v= .tuple #[.int .i64 a, .int .i64 b, .int .i64 3]∧¬T.C.D.calm 60)∨(∃ (root cT:Nat) (pages:List Nat),v= .tuple #[.int .i64 (root:Nat), .int .i64 (cT:Nat), .int .i64 0]∧((cT=0∧root=0∧pages=[]∧iI=[])∨hO ck.P cT none none root pages iI)∧(pages++l).Perm (m++dK)∧cT≤12):=by
   rcases eT with ⟨rfl,U,ad⟩|⟨root,cT,pages,rfl,U,ad,au,aJ⟩|⟨a,b,rfl,fj⟩
   · exact .inr ⟨0,0,[],rfl, .inl ⟨rfl,rfl,rfl,U⟩,ad,by omega⟩
   · have aJ:cT≤T.bw+1:=aJ
     exact .inr ⟨root,cT,pages,rfl, .inr U,ad,by omega⟩
   · exact .inl ⟨a,b,rfl,fj⟩
 rcases Vt with ⟨a,b,rfl,fj⟩|⟨root,qi,pages,rfl,apL,ot,ni⟩
 ·
   obtain ⟨aA,aE⟩:=js PJ (i:=0) (by simp)
   have DX:=jr PJ (i:=0) (.int .i64 3)
   obtain ⟨PN,PO⟩:=Vs c5 ck zr 3 qm xU Lt
   have Lu:=acs.an (ig c5 bB 0 (.int .i64 3)) Ir
   refine ⟨a,b,3,rfl,aA,aE,bL ⟨3,DX.cell,fun _=>⟨3,DX.cell,?_⟩,fun af=>(by cases af)⟩⟩
   obtain ⟨aI,aL⟩:=js DX (i:=0) (by simp)
   have Vu:=jr DX (i:=0) (.int .i64 3)
   obtain ⟨acu,acv⟩:=Vs _ ck zr 3 PN PO Lt
   have Vv:=Lu.an (ig _ bB 0 (.int .i64 3)) Ir
   refine ⟨aI,aL,bL (W.acw ⟨bB,0,none⟩ ⟨kH,0,none⟩ _ _ ?_)⟩
   generalize awJ:(c5.setCell ⟨bB,0,none⟩ (.int .i64 3)).setCell ⟨bB,0,none⟩ (.int .i64 3)=gn at Vu acu Vv acv⊢
   (delta W.zt bI aB aq bC;dsimp only)
   have nG:Ext gn gn.drew:=dL _
   have rO:=acu.ext nG
   have Lv:=abO rO rO.nD.src (fun q J=>(rO.tm q J).1) (l:=zr.made) (fun x af=>by rw[PL] at af;rw[gI.f];simp[af]) (by rw[PL];exact gI.dT) (by rw[PL];omega)
   rw[PK] at Lv
   have Lw:=rO.cells.2.1
   rw[PK] at Lw
   refine ⟨3,Vu.cell,fun _=>bL ⟨id,_,Vv.drew.cell,id,_,Vv.drew.cell,_,rfl,id,zr.nD,Lw,Lv.use ?_⟩,fun af=>(by cases af)⟩
   rintro _ bh ⟨rfl,da,dY,bf⟩
   rw[PL] at bf
   have apM:=(Vu.ext nG).an bf.to.an (rO.t.su Lt)
   have apN:b5 T da w bh 60:=((acv.trans (b5.ext ck nG)).trans bf.to).mono (by omega)
   obtain ⟨f1,f2⟩:=fin bh da dY.t apN (by rw[bf.E];exact gI.E) fun q J=>by rw[bf.G];exact act q J
   refine ⟨rfl,3,apM.cell,_,f1,f2,rfl,rfl, .inr (.inr ⟨rfl,fj,bf.root.trans gI.root,bf.bw.trans gI.bw,?_,fun no dd=> ?_⟩)⟩
   · funext no
     show da.f no=T.f no
     rw[bf.f,gI.f]
     by_cases hm:no∈m
     · have:=(gI.tn no hm).1
       have e:(T.dw c7 iW).f no=T.f no:=rfl
       rw[e] at this⊢
       cases Db:T.f no
       · simp[hm]
       · rw[Db] at this;cases this
     · simp[hm];rfl
   · have hm:no∉m:=fun hm=>by
       have:=(gI.tn no hm).1
       have e:((T.dw c7 iW).f no||(T.dw c7 iW).g no)=(T.f no||T.g no):=rfl
       rw[e,dd] at this;cases this
     have U:=bf.g4 no (.inl hm)
     have ad:=gI.g4 no dd
     exact ⟨U.1.trans ad.1,U.2.trans ad.2⟩
 ·
   have Is:∀x,pages.count x+l.count x=m.count x+dK.count x:=fun x=>by
     have:=DV.1 ot x
     simpa only[EL] using this
   have PQ:∀x,m.count x+dK.count x≤1:=fun x=>by
     have U:=List.nodup_iff_count.1 gI.dT x
     have ad:=List.nodup_iff_count.1 Ti x
     rcases G4 (m.count x) with au|au
     · omega
     · rcases G4 (dK.count x) with aJ|aJ
       · omega
       · have hm:=tT.1 au
         have aZ:=tT.1 aJ
         have:=(gI.tn x hm).1
         have e:((T.dw c7 iW).f x||(T.dw c7 iW).g x)=(T.f x||T.g x):=rfl
         rw[e,vN x aZ] at this;cases this
   have hlen:pages.length+l.length=m.length+dK.length:=by
     have:=ot.length_eq
     simpa only[dU] using this
   have dm:∀x∈l,ck.f x=true:=fun x af=>by
     have U:=tT.2 af
     have ad:=Is x
     rw[gI.f]
     rcases G4 (m.count x) with au|au
     · have:x∈dK:=tT.1 (by omega)
       have e:(T.dw c7 iW).f x=T.f x:=rfl
       rw[e,vN x this];rfl
     · have:x∈m:=tT.1 au
       simp[this]
   have apO:l.Nodup:=acn fun x=>by have:=Is x;have:=PQ x;omega
   obtain ⟨aA,aE⟩:=js PJ (i:=0) (by simp)
   have DX:=jr PJ (i:=0) (.int .i64 0)
   obtain ⟨PN,PO⟩:=Vs c5 ck zr 0 qm xU Lt
   have Lu:=acs.an (ig c5 bB 0 (.int .i64 0)) Ir
   refine ⟨_,_,0,rfl,aA,aE,bL ⟨0,DX.cell,fun af=>(by cases af),fun _=>bL ?_⟩⟩
   generalize awK:c5.setCell ⟨bB,0,none⟩ (.int .i64 0)=m_ at DX PN Lu PO⊢
   have nG:Ext m_ m_.drew:=dL _
   have rO:=PN.ext nG
   have Lv:=abO rO rO.mc.src (fun q J=>(rO.vS q J).1) (l:=zr.left) (fun x af=>dm x (by rw[PM] at af;exact af)) (by rw[PM];exact apO) (by rw[PM];omega)
   rw[PK] at Lv
   have Lw:=rO.cells.2.2
   rw[PK] at Lw
   refine ⟨id,_,Lu.drew.cell,id,_,Lu.drew.cell,_,rfl,id,zr.mc,Lw,Lv.use ?_⟩
   rintro _ jJ ⟨rfl,da,dY,bf⟩
   rw[PM] at bf
   have apP:=(DX.ext nG).an bf.to.an (rO.t.su Lt)
   have acx:b5 T da w jJ 60:=((PO.trans (b5.ext ck nG)).trans bf.to).mono (by omega)
   have Vw:da.cl=T.cl:=acx.cl
   have wX:da.E=c7:=by rw[bf.E];exact gI.E
   have apQ:da.E bB:=by rw[wX];exact Vr
   have acy:Var jJ T.cl (FA da) ah.HS:=by rw[←Vw];exact dY.t.t
   obtain ⟨dI,ew⟩:=js acy (i:=3) (by simp[FA])
   have acz:=jr acy (i:=3) (.int .i64 (root:Nat))
   have apR:=ig jJ T.cl 3 (.int .i64 (root:Nat))
   obtain ⟨mO,lN⟩:=js acz (i:=4) (by simp[FA])
   have acA:=jr acz (i:=4) (.int .i64 (qi:Nat))
   have apS:=ig (jJ.setCell ⟨T.cl,3,none⟩ (.int .i64 (root:Nat))) T.cl 4 (.int .i64 (qi:Nat))
   refine ⟨rfl,_,rfl,by rw[aW];exact dI,by rw[aW];exact ew,bL ⟨_,rfl,by rw[aW,aW];exact mO,by rw[aW,aW];exact lN,bL ?_⟩⟩
   rw[aW,aW,gz,gz]
   have Vx:ao (fun q=>q=T.cl) jJ ((jJ.setCell ⟨T.cl,3,none⟩ (.int .i64 (root:Nat))).setCell ⟨T.cl,4,none⟩ (.int .i64 (qi:Nat))):=apR.trans apS
   generalize apT:(jJ.setCell ⟨T.cl,3,none⟩ (.int .i64 (root:Nat))).setCell ⟨T.cl,4,none⟩ (.int .i64 (qi:Nat))=jl at acA Vx⊢
   have lA:∀x∈pages,x∉l:=fun x af az=>by
     have U:=tT.2 af
     have ad:=tT.2 az
     have:=Is x
     have:=PQ x
     omega
   have acB:(qi=0∧root=0∧pages=[]∧iI=[])∨(hO da.P qi none none root pages iI∧root∈pages):=apL.imp id fun hw=>hw.agree fun x af=>((bf.g4 x (.inl (lA x af))).1).symm
   have apU:root<da.n:=by
     rcases acB with ⟨_,U,_⟩|⟨U,_⟩
     · have:=dY.t.s.dk;omega
     · obtain ⟨dT,_,ad,_⟩:=U.wG
       exact (dY.t.l_ _ _ ad).1
   have apV:Var jl da.cl (FA (da.F_ root qi)) ah.HS:=by rw[Vw];exact acA
   obtain ⟨apW,apX⟩:=dY.t.apD apV (by rw[Vw];exact Vx) apU ni
   have apY:bB≠T.cl:=fun e=>by have:=h.lt (q:=T.cl) (.inr (.inl rfl));omega
   have acC:=apP.an Vx apY
   obtain ⟨cQ,vP⟩:=js acC (i:=0) (by simp)
   have acD:=jr acC (i:=0) (.int .i64 0)
   have acE:=ig jl bB 0 (.int .i64 0)
   refine ⟨cQ,vP,bL (W.acw ⟨bB,0,none⟩ ⟨kH,0,none⟩ _ _ ?_)⟩
   (delta W.zt bI aB aq bC;dsimp only)
   refine ⟨0,acD.cell,fun af=>(by cases af),fun _=>⟨0,acD.cell,?_⟩⟩
   have apZ:c6 (jl.setCell ⟨bB,0,none⟩ (.int .i64 0)) (da.F_ root qi):=apW.grow (E:=da.E) (G:=da.G) acE (fun q e _=> .inl (by rw[e];exact apQ)) (fun q J=> .inl J) (fun q J=> .inr (.inl J)) fun q J=>(dY.t.ij q J).2.2
   have ap0:b5 T (da.F_ root qi) w (jl.setCell ⟨bB,0,none⟩ (.int .i64 0)) 60:=((acx.trans apX).mono (by omega)).step (E:=da.E) (G:=da.G) acE (fun q e az=>by omega) (fun q J=> .inl J) fun q J=> .inl J
   obtain ⟨f1,f2⟩:=fin _ _ apZ ap0 wX fun q J=>by
     show da.G q
     rw[bf.G];exact act q J
   refine ⟨_,f1,f2,rfl,rfl, .inr (.inl ⟨rfl,jz,⟨pages,?_,acn fun x=>by have:=Is x;have:=PQ x;omega,fun no af=> ?_,fun no=> ?_⟩,fun no dd=> ?_⟩)⟩
   · rcases acB with ⟨U,ad,au,aJ⟩|⟨U,_⟩
     · exact .inl ⟨U,ad,au,aJ⟩
     · exact .inr U
   · have U:=tT.2 af
     have ad:=Is no
     rcases G4 (dK.count no) with au|au
     · have hm:no∈m:=tT.1 (by omega)
       exact .inr (gI.tn no hm).1
     · exact .inl (tT.1 au)
   · show da.f no=true↔_
     rw[bf.f,gI.f]
     have e:(T.dw c7 iW).f no=T.f no:=rfl
     rw[e]
     have iN:=Is no
     have dY:=PQ no
     have Oq:no∈m↔0<m.count no:=tT.symm
     have gh:no∈dK↔0<dK.count no:=tT.symm
     have rz:no∈l↔0<l.count no:=tT.symm
     have Vy:no∈pages↔0<pages.count no:=tT.symm
     have uo:0<dK.count no→T.f no=true:=fun h=>vN no (gh.2 h)
     have ap1:0<m.count no→T.f no=false:=fun h=>by
       have:=(gI.tn no (Oq.2 h)).1
       have e:((T.dw c7 iW).f no||(T.dw c7 iW).g no)=(T.f no||T.g no):=rfl
       rw[e] at this
       cases Db:T.f no
       · rfl
       · rw[Db] at this;cases this
     rw[jD,u_,fu,zX,tS,Oq,gh,rz,Vy]
     constructor
     · rintro ⟨U|U,ad⟩
       · by_cases au:0<dK.count no
         · left;omega
         · exact .inr ⟨U,au⟩
       · left;omega
     · rintro (U|⟨U,ad⟩)
       · refine ⟨?_,by omega⟩
         by_cases au:0<dK.count no
         · exact .inl (uo au)
         · right;omega
       · refine ⟨.inl U,fun au=> ?_⟩
         have:0<m.count no:=by omega
         rw[ap1 this] at U;cases U
   · have KS:(T.f no||T.g no)=true:=by rw[dd];simp
     have ap2:ck.g no=true:=by rw[gI.to.g];exact dd
     have U:=bf.g4 no (.inr ap2)
     have ad:=gI.g4 no KS
     exact ⟨U.1.trans ad.1,U.2.trans ad.2⟩
end
section
theorem acF {ks:List Key} {k:Key} {i:Nat} (aj:ks.Pairwise cw) (U:ey ks k≤i) (hi:i<ks.length) (ae:ks[ey ks k]? ≠some k):cw k ks[i]:=by
 rcases EM.1 (Hd aj U hi) with ad|ad
 · exact ad
 · exfalso
   rcases g6 (ey ks k) i with au|au
   · have a_:ey ks k<ks.length:=by omega
     have aJ:=Hd aj (cV _) a_
     have a6:=GX.1 aj _ _ a_ hi au
     rw[←ad] at a6
     exact aJ a6
   · have e:i=ey ks k:=by omega
     apply ae
     subst e
     rw[gF hi,←ad]
theorem Vz {n:aM} (h:oq n) {i:Nat} (hi:i≤n.keys.length):∃a b c d:List Key,n.keys=a++b∧n.vals=c++d∧a.length=i∧c.length=i∧b.length=d.length∧n.keys.take i=a∧n.keys.drop i=b∧n.vals.take i=c∧n.vals.drop i=d:=by
 have az:=h.len
 refine ⟨n.keys.take i,n.keys.drop i,n.vals.take i,n.vals.drop i,(qd i _).symm,(qd i _).symm,?_,?_,?_,rfl,rfl,rfl,rfl⟩
 · rw[d_];omega
 · rw[d_];omega
 · rw[fG,fG];omega
def uQ (k v:Key):Nat:=2+k.length+v.length
theorem It {n:aM} (h:n.leaf=true):cr n=1+(List.zipWith uQ n.keys n.vals).sum:=by
 unfold cr
 rw[if_pos h,wH h];rfl
theorem ap3 {n:aM} {k v:Key} (h:oq n) (ae:eM k) (ak:v.length≤24):oq (pn n k v)∧(pn n k v).gL=ke n.gL k v∧cr (pn n k v)≤cr n+50∧(pn n k v).keys≠ []∧n.keys.length≤(pn n k v).keys.length∧(∀s∈(pn n k v).keys,s=k∨s∈n.keys):=by
 have hlen:=h.len
 have hle:=Hc n.keys k
 have aZ:n.gL=n.keys.zip n.vals:=rfl
 have Dw:=h.kg
 have w2:∀ (j:Nat) (a_:j<n.keys.length),j<ey n.keys k→cw n.keys[j] k:=fun j a_ U=>ET U a_
 have Lx:n.keys[ey n.keys k]? ≠some k→∀ (j:Nat) (a_:j<n.keys.length),ey n.keys k≤j→cw k n.keys[j]:=fun he j a_ U=>acF Dw U a_ he
 rw[aZ,aii h.kg]
 unfold pn pk
 generalize hi:ey n.keys k=i at hle w2 Lx⊢
 obtain ⟨a,b,c,d,aY,bo,en,kT,lZ,v7,BF,vl,Ai⟩:=Vz h hle
 have bN:n.keys.zip n.vals=a.zip c++b.zip d:=by rw[aY,bo];exact EO (by omega)
 have CJ:(a.zip c).length=i:=by rw[Cc];omega
 by_cases he:n.keys[i]? =some k
 · rw[if_pos (by simpa using he),if_pos he]
   have pV:∃jo,b=k::jo:=by
     cases b with
     |nil=>rw[aY,wF (by omega)] at he;simp at he
     |cons y jo=>
       rw[aY,wF (by omega),en,EF] at he
       simp at he
       exact ⟨jo,by rw[he]⟩
   obtain ⟨jo,rfl⟩:=pV
   obtain ⟨x,k8,rfl⟩:∃x k8,d=x::k8:=by
     cases d with
     |nil=>simp at lZ
     |cons x k8=>exact ⟨x,k8,rfl⟩
   have yH:n.vals.set i v=c++v::k8:=by
     rw[bo,List.set_append_right _ _ (by omega),kT,EF];rfl
   refine ⟨⟨⟨h.ok,h.kg⟩,h.leaf,by simp[hlen],h.kids,fun z bN=> ?_⟩,?_,?_,fun e=>by have e:n.keys=[]:=e;rw[e] at aY;simp at aY,cV _,fun s aj=> .inr aj⟩
   · rcases Ce bN with U|U
     · exact h.vals z U
     · rw[U];exact ak
   · show n.keys.zip (n.vals.set i v)=_
     rw[yH,bN,aY,EO (by omega),Ad CJ]
     have ap4:(a.zip c++(k::jo).zip (x::k8)).drop (i+1)=jo.zip k8:=by
       rw[List.zip_cons_cons,show a.zip c++(k,x)::jo.zip k8=(a.zip c++ [(k,x)])++jo.zip k8 by simp]
       exact drop_left' (by simp only[dU,CJ,ru])
     rw[ap4];rfl
   · rw[It h.leaf,It (n:={n with vals:=n.vals.set i v}) h.leaf]
     show 1+(List.zipWith uQ n.keys (n.vals.set i v)).sum≤_
     rw[yH,aY,bo,GV (by omega),GV (by omega),ye,ye,List.zipWith_cons_cons,List.zipWith_cons_cons,JA,JA]
     unfold uQ
     omega
 · rw[if_neg (by simpa using he),if_neg he]
   have VA:=Lx he
   refine ⟨⟨⟨fun z bN=> ?_,?_⟩,h.leaf,?_,h.kids,fun z bN=> ?_⟩,?_,?_,fun e=> ?_,?_,fun s aj=> ?_⟩
   · have bN:z∈n.keys.take i++ [k]++n.keys.drop i:=bN
     simp only[e8,lV] at bN
     rcases bN with (bN|rfl)|bN
     · exact h.ok z (kM bN)
     · exact ae
     · exact h.ok z (kx bN)
   · show (n.keys.take i++ [k]++n.keys.drop i).Pairwise cw
     rw[v7,BF]
     have nw:(a++b).Pairwise cw:=by rw[←aY];exact Dw
     obtain ⟨aA,aE,aI⟩:=Cb.1 nw
     have ap5:∀x∈a,cw x k:=fun x af=>by
       obtain ⟨j,a_,rfl⟩:=m3 af
       have:=w2 j (by rw[aY,dU];omega) (by omega)
       simp only[aY,zY a_] at this
       exact this
     have sC:∀y∈b,cw k y:=fun y b3=>by
       obtain ⟨j,a_,rfl⟩:=m3 b3
       have:=VA (i+j) (by rw[aY,dU];omega) (by omega)
       have e:(a++b)[i+j]'(by rw[dU];omega)=b[j]:=by
         rw[EH (by omega)];congr 1;omega
       simp only[aY,e] at this
       exact this
     rw[eL]
     refine Cb.2 ⟨aA,?_,fun x af y b3=> ?_⟩
     · exact r9.2 ⟨sC,aE⟩
     · rcases gb.1 b3 with rfl|b3
       · exact ap5 x af
       · exact aI x af y b3
   · show (n.vals.take i++ [v]++n.vals.drop i).length=(n.keys.take i++ [k]++n.keys.drop i).length
     rw[v7,BF,vl,Ai]
     simp only[dU,ru];omega
   · have bN:z∈n.vals.take i++ [v]++n.vals.drop i:=bN
     simp only[e8,lV] at bN
     rcases bN with (bN|rfl)|bN
     · exact h.vals z (kM bN)
     · exact ak
     · exact h.vals z (kx bN)
   · show (n.keys.take i++ [k]++n.keys.drop i).zip (n.vals.take i++ [v]++n.vals.drop i)=_
     rw[v7,BF,vl,Ai,bN,Ad CJ,drop_left' CJ,eL,eL,EO (by omega)]
     rfl
   · rw[It h.leaf,It (n:={n with keys:=n.keys.take i++ [k]++n.keys.drop i,vals:=n.vals.take i++ [v]++n.vals.drop i}) h.leaf]
     show 1+(List.zipWith uQ (n.keys.take i++ [k]++n.keys.drop i) (n.vals.take i++ [v]++n.vals.drop i)).sum≤_
     have aA:(List.zipWith uQ (a++ [k]++b) (c++ [v]++d)).sum=(List.zipWith uQ a c).sum+(uQ k v+(List.zipWith uQ b d).sum):=by
       rw[eL,eL,GV (by omega),ye];rfl
     have aE:(List.zipWith uQ (a++b) (c++d)).sum=(List.zipWith uQ a c).sum+(List.zipWith uQ b d).sum:=by
       rw[GV (by omega),ye]
     rw[v7,BF,vl,Ai,aY,bo,aA,aE]
     have:=ae.2
     unfold uQ
     omega
   · have e:n.keys.take i++ [k]++n.keys.drop i=[]:=e
     simp at e
   · show n.keys.length≤(n.keys.take i++ [k]++n.keys.drop i).length
     rw[v7,BF,aY]
     simp only[dU,ru];omega
   · have aj:s∈n.keys.take i++ [k]++n.keys.drop i:=aj
     simp only[e8,lV] at aj
     rcases aj with (aj|rfl)|aj
     · exact .inr (kM aj)
     · exact .inl rfl
     · exact .inr (kx aj)
end
section
def acG (T:aX) (dK:List Nat) (iI:List bl) (w:World) (v:Value) (w':World):Prop:=
 ∃av:aX,c6 w' av∧b5 T av w w' 100∧av.E=T.E∧av.G=T.G∧
   ((v= .int .i64 2∧fO T<2*T.bw+3∧av=T)∨
    (v= .int .i64 0∧2*T.bw+3≤fO T∧(∃pages,nK av pages iI∧pages.Nodup∧(∀no∈pages,no∈dK∨(T.f no||T.g no)=false)∧∀no,av.f no=true↔(no∈pages∨(T.f no=true∧no∉dK)))∧∀no,T.g no=true→av.P no=T.P no∧av.C.view no=T.C.view no)∨
    (v= .int .i64 3∧¬T.C.D.calm 100∧av.root=T.root∧av.bw=T.bw∧av.f=T.f∧∀no,(T.f no||T.g no)=true→av.P no=T.P no∧av.C.view no=T.C.view no))
theorem PF.an {T:aX} {bx:eZ} {dK:List Nat} {iI:List bl} {w ag w':World} {v:Value} {k:Nat} (h:PF (T.cP bx T.P) dK iI ag v w') (cy:b5 T (T.cP bx T.P) w ag k) (ae:k≤40) (ak:∀j,bx.view j=T.C.view j) (jz:2*T.bw+3≤fO T):acG T dK iI w v w':=by
 obtain ⟨av,U,ad,au,aJ,a6⟩:=h
 refine ⟨av,U,(cy.trans ad).mono (by omega),au,aJ,?_⟩
 have acH:fO (T.cP bx T.P)=fO T:=rfl
 have acI:(T.cP bx T.P).bw=T.bw:=rfl
 rcases a6 with ⟨_,b8,_⟩|⟨rfl,b8,iA,ox⟩|⟨rfl,b8,iA,ox,rE,PR⟩
 · rw[acH,acI] at b8;omega
 · exact .inr (.inl ⟨rfl,jz,iA,fun no dd=>⟨(ox no dd).1,(ox no dd).2.trans (ak no)⟩⟩)
 · exact .inr (.inr ⟨rfl,fun al=>b8 (cy.calm 60 (mE al (by omega))),iA,ox,rE,fun no dd=>⟨(PR no dd).1,(PR no dd).2.trans (ak no)⟩⟩)
theorem tz (w:World) (s:aa):aQ Tryz.prog F.tz #[.slice s.a s.len s.cap] w (fun v w'=>v= .bool (decide (1≤s.len∧s.len≤24))∧w=w'):=by
 refine W.ap6 s w _ ?_
 unfold W.tz
 refine ⟨?_,rfl⟩
 congr 1
 rw[pc,jD,fu,fu,fu]
 omega
theorem VB {T:aX} {w:World} {pages:List Nat} {L:List bl} {k:Key} (h:c6 w T) (dM:nK T pages L):∃steps,Dv T.P k T.bw T.root steps∧
   ((steps=[]∧T.bw=0∧pages=[]∧L=[])∨(∃ (lS:Nat) (dk:aM) (kP hT:Option Key) (kI:List (Nat×aM×Nat)) (oL:List Nat) (nI nJ:List bl),steps=kI++ [(lS,dk,0)]∧Ctx T.P k T.bw 1 kP hT kI oL nI nJ∧T.P lS=some dk∧oq dk∧dk.within kP hT∧dk.keys≠ []∧(kI≠ []→2≤dk.keys.length)∧kN kP hT k∧
     pages.Perm (lS::oL)∧L=nI++(dk.gL++nJ)∧∀u,Loc k u→u L=nI++(u dk.gL++nJ))):=by
 rcases dM with ⟨U,ad,au,aJ⟩|hw
 · exact ⟨[],by rw[U];rfl, .inl ⟨rfl,U,au,aJ⟩⟩
 · cases cT:T.bw with
   |zero=>rw[cT] at hw;exact hw.elim
   |succ t=>
     rw[cT] at hw
     obtain ⟨rest,kI,lS,dk,kP,hT,oL,nI,nJ,bI,aq,bS,h8,kU,Bu,F4,DP,DQ,zl,Bv,xS⟩:=Ctx.down (P:=T.P) (k:=k) (top:=t+1) (kQ:=L) .top hw (fun h=>absurd rfl h) ⟨fun _ e=>(by cases e),fun _ e=>(by cases e)⟩ (by simp) (fun u _=>by simp)
     rw[rq] at aq
     rw[mn] at zl
     exact ⟨rest,bI, .inr ⟨lS,dk,kP,hT,kI,oL,nI,nJ,aq,bS,h8,kU,Bu,F4,DP,DQ,zl,Bv,xS⟩⟩
theorem nK.low {T:aX} {pages:List Nat} {L:List bl} (h:nK T pages L) (dz:L.length<4096):T.bw<12∧pages.length≤L.length:=by
 rcases h with ⟨U,_,au,_⟩|hw
 · rw[U,au];exact ⟨by omega,fl _⟩
 · obtain ⟨aA,aE,aI⟩:=hw.pages
   refine ⟨?_,aA⟩
   rcases g6 T.bw 12 with h|h
   · exact h
   · have a6:=aI (by omega)
     have b8:2^12≤2^T.bw:=Nt (by decide) h
     have iA:(2:Nat)^12=4096:=by decide
     omega
theorem acJ {ag:World} {T:aX} {bx:eZ} {pages:List Nat} {L iI:List bl} {k:Key} {steps:List (Nat×aM×Nat)} {s:aa} {wl:List gD} {dk fb:aM} {K V D:aa} (h:c6 ag (T.cP bx T.P)) (dM:nK T pages L) (dz:L.length<4096) (hG:pages.Nodup) (aH:∀x∈pages,T.f x=true) (gC:bx.D.cR≤900000000)
   (hm:wl.map gD.st=steps) (xW:uy (fun q=>¬(T.cP bx T.P).M q) ag s wl) (aD:cd (fun q=>¬(T.cP bx T.P).M q) ag fb K V D) (PS:oq fb) (g9:(steps=[]∧T.bw=0∧pages=[]∧fb.keys≠ []∧cr fb≤232∧fb.gL=iI)∨(∃ (lS:Nat) (kP hT:Option Key) (kI:List (Nat×aM×Nat)) (oL:List Nat) (nI nJ:List bl),steps=kI++ [(lS,dk,0)]∧Ctx T.P k T.bw 1 kP hT kI oL nI nJ∧fb.within kP hT∧(kI≠ []→fb.keys≠ [])∧pages.Perm (lS::oL)∧iI=nI++(fb.gL++nJ)∧cr fb≤282)):
   aQ Tryz.prog F.xV #[.pointer (some ⟨T.cl,0,none⟩), .slice s.a s.len s.cap,e9 fb K V D] ag (PF (T.cP bx T.P) pages iI ag):=by
 obtain ⟨cT,BG⟩:=dM.low dz
 refine apE h gC cT hG aH (by omega) fun c7 iW aw bC dY cy jz Aw dm=> ?_
 have F7:s.len=wl.length:=by
   have:=xW.own.1
   rw[oC _ (Du wl)] at this;omega
 have oz:cd (fun q=>¬((T.cP bx T.P).dw c7 iW).M q) aw fb K V D:=(cy.dT (lo:=0) (aD.bz fun q _ ab=>⟨fl _,ab⟩)).bz fun q _ ab=>ab.2
 rcases g9 with ⟨U,ad,au,aJ,a6,b8⟩|⟨lS,kP,hT,kI,oL,nI,nJ,aY,bo,en,kT,lZ,v7,BF⟩
 · subst U au
   have Ly:wl=[]:=by simpa using hm
   exact apB (by rw[F7,Ly];rfl) dY oz gC (by
     have e:fO ((T.cP bx T.P).dw c7 iW)=fO (T.cP bx T.P):=rfl
     omega) (by rw[Aw];simp) dm PS aJ a6 b8
 · have hlen:wl.length=kI.length+1:=by
     have:=congrArg List.length hm
     rw[aY,lf,dU,ru] at this;exact this
   have PC:1+kI.length=T.bw:=bo.jk
   have tZ:=xW.to cy
   have Lz:(wl.take (wl.length-1)).map gD.st=kI∧(wl[wl.length-1]'(by omega)).no=lS:=by
     rw[aY] at hm
     have aA:(wl.take (wl.length-1)).map gD.st=(kI++ [(lS,dk,0)]).take (wl.length-1):=by rw[←hm,EE]
     refine ⟨by rw[aA];exact Ad (by omega),?_⟩
     have aE:(wl.map gD.st)[wl.length-1]? =some (lS,dk,0):=by
       rw[hm,wF (by omega)]
       have:wl.length-1-kI.length=0:=by omega
       rw[this];rfl
     rw[JF,gF (by omega)] at aE
     have aI:=Option.some.inj aE
     exact congrArg Prod.fst aI
   refine apm (k:=k) (hW:=oL) (A:=nI) (B:=nJ) (M:=fb.gL) (lo:=kP) (hi:=hT) dY tZ oz (by omega) (by show wl.length=T.bw;omega) cT gC jz (by rw[Aw];simp) (by rw[dm];simp) ?_ ⟨PS,en,rfl,rfl⟩ v7.symm ?_ BF (fun h=>kT fun e=> ?_) fun x af=> ?_
   · rw[Lz.1]
     have:wl.length=T.bw:=by omega
     rw[this]
     exact bo
   · rw[Lz.2];exact lZ
   · rw[e] at hlen;simp at hlen;omega
   · exact aH x (lZ.mem_iff.2 (u7 _ af))
theorem uy.ext' {B C:Nat→Prop} {w w':World} {s:aa} {l:List gD} (h:uy B w s l) (af:Ext w w') (fw:∀q,B q→C q):uy C w' s l:=
 ⟨h.own.ext af,fun q J=>fw q (h.FE q J),fun x hm=>((h.dT x hm).ext af).bz fun q _ ab=>fw q ab⟩
theorem Iu {wl:List gD} {kI:List (Nat×aM×Nat)} {lS:Nat} {db:aM} (hm:wl.map gD.st=kI++ [(lS,db,0)]):∃h:0<wl.length,(wl[wl.length-1]'(by omega)).n=db:=by
 have hlen:wl.length=kI.length+1:=by
   have:=congrArg List.length hm
   rw[lf,dU,ru] at this;exact this
 refine ⟨by omega,?_⟩
 have aE:(wl.map gD.st)[wl.length-1]? =some (lS,db,0):=by
   rw[hm,wF (by omega)]
   have:wl.length-1-kI.length=0:=by omega
   rw[this];rfl
 rw[JF,gF (by omega)] at aE
 exact congrArg (fun x=>x.2.1) (Option.some.inj aE)
theorem VC {w:World} {T:aX} {pages:List Nat} {L:List bl} {aG c1:aa} {key val:Key} (h:c6 w T) (dM:nK T pages L) (dz:L.length<4096) (hG:pages.Nodup) (aH:∀x∈pages,T.f x=true) (gC:T.C.D.cR≤800000000)
   (ae:Src 1 w aG (bn key)) (sC:∀q,aO aG q→q<w.heap.size∧¬T.M q) (ak:Src 1 w c1 (bn val)) (J8:∀q,aO c1 q→q<w.heap.size∧¬T.M q):
   aQ Tryz.prog F.zu #[.pointer (some ⟨T.cl,0,none⟩), .slice aG.a aG.len aG.cap, .slice c1.a c1.len c1.cap] w (fun v w'=>(v= .int .i64 1∧¬(eM key∧val.length≤24)∧w=w')∨(eM key∧val.length≤24∧acG T pages (ke L key val) w v w')):=by
 have fp:=len8 ae
 have jq:=len8 ak
 refine W.ap7 (some ⟨T.cl,0,none⟩) aG c1 w _ ?_
 (delta W.zu aB ba bI aT aC gl dx ai bS aq Lb fE;dsimp only)
 refine eA (fun b w'=>b= !(decide (eM key))∧w=w') (fun q J=>⟨fun h=>(by cases h),fun _=>(tz w aG).use ?_⟩) ?_
 · rintro _ _ ⟨rfl,rfl⟩
   refine ⟨_,rfl,J _ _ ⟨?_,rfl⟩⟩
   unfold eM
   rw[fp]
 rintro _ _ ⟨rfl,rfl⟩
 refine ⟨fun ab=> .inl ⟨rfl,fun bf=> ?_,rfl⟩,fun ab=> ?_⟩
 · rw[iy bf.1,jq] at ab
   have:¬((val.length:Nat):Int)>24:=by have:=bf.2;omega
   simp[this] at ab
 have bf:eM key∧val.length≤24:=by
   by_cases U:eM key
   · refine ⟨U,?_⟩
     rw[iy U,jq] at ab
     have:¬((val.length:Nat):Int)>24:=by simpa using ab
     omega
   · rw[sW U] at ab;simp at ab
 have oz:=h.s.db
 obtain ⟨cT,BG⟩:=dM.low dz
 have bA:Ext w w.drew:=dL w
 have hd:=h.ext bA
 refine bL ⟨fun _=>False,_,rfl,id,_,hd.cells.2.1,_,rfl,id,_,hd.cells.2.2.2.2,(TA hd.s).use ?_⟩
 rintro _ b2 ⟨rfl,jH⟩
 have Ls:((T.n:Int)-mR (fun i=>T.f i||T.g i) T.n)=(fO T:Nat):=by
   have:=HR (fun i=>T.f i||T.g i) T.n
   unfold fO;omega
 have tZ:IntKind.wrap .i64 (IntKind.wrap .i64 (2*((T.bw:Nat):Int))+3)=((2*T.bw+3:Nat):Int):=by
   rw[cz (n:=2*((T.bw:Nat):Int)) (by omega) (by omega),cz (by omega) (by omega)];omega
 rw[Ls,tZ]
 have vB:=bA.trans jH
 have xX:=h.ext vB
 refine ⟨_,rfl,jH,fun ab=> .inr ⟨bf.1,bf.2,T,xX,(b5.ext T vB).mono (by omega),rfl,rfl, .inl ⟨rfl,?_,rfl⟩⟩,fun ab=> ?_⟩
 · have ab:((fO T:Nat):Int)<((2*T.bw+3:Nat):Int):=dD ab
   omega
 have jz:2*T.bw+3≤fO T:=by
   have:¬((fO T:Nat):Int)<((2*T.bw+3:Nat):Int):=eW ab
   omega
 obtain ⟨steps,xW,mj⟩:=VB (k:=key) xX dM
 refine (TN xX (by omega) (ae.ext vB) (fun q J=>⟨lE (sC q J).1 vB.size,(sC q J).2⟩) xW).use ?_
 rintro _ cF ⟨bx,uP,Gb,q_,eT⟩
 have cy:=((b5.ext T vB).trans Gb).mono (l:=2*T.bw) (by omega)
 rcases eT with ⟨s,wl,rfl,hm,zv⟩|⟨rfl,fj⟩
 rotate_left
 · refine ⟨⟨none,0,0⟩,3,rfl,fun _=> .inr ⟨bf.1,bf.2,T.cP bx T.P,uP,cy.mono (by omega),rfl,rfl, .inr (.inr ⟨rfl,fun al=>fj (mE al (by omega)),rfl,rfl,rfl,fun no _=>⟨rfl,q_ no⟩⟩)⟩,fun af=>(by cases af)⟩
 have F7:s.len=wl.length:=by
   have:=zv.own.1
   rw[oC _ (Du wl)] at this;omega
 have Ko:=vB.size
 have acK:wl.length=T.bw:=by
   have:=xW.length
   rw[←hm,lf] at this;exact this
 refine ⟨s,0,rfl,fun af=>(by cases af),fun _=>cn (vs:=[.bool false, .slice none 0 0, .slice none 0 0, .slice none 0 0]) rfl fun cB FD o3 TK=>⟨FD.dA rfl (lB (b:=true) (K:=bU) (V:=bU) (D:=bU)),rfl,ek FD (us:=gZ ⟨true,[],[],[]⟩ bU bU bU) rfl rfl fun dO H4 Pc Pd=> ?_⟩⟩
 have xR:Ext cF dO:=Ext.eX o3 Pc (cV _)
 obtain ⟨py,Ik⟩:∃py,py=cF.heap.size:=⟨_,rfl⟩
 rw[←Ik] at H4⊢
 obtain ⟨dk,mz⟩:∃dk:aM,dk=(if hw:0<wl.length then (wl[wl.length-1]'(by omega)).n else ⟨true,[],[],[]⟩):=⟨_,rfl⟩
 refine wV (fun fy=>∃ (K V D:aa) (B:Nat→Prop),Ext cF fy∧Var fy py (gZ dk K V D) ah.cO∧cd B fy dk K V D) (fun q J=>⟨fun az=> ?_,fun az=> ?_⟩) ?_
 · have tl:0<wl.length:=by
     have:((s.len:Nat):Int)>0:=dD az
     omega
   rw[dif_pos tl] at mz
   have e:IntKind.wrap .i64 (((s.len:Nat):Int)-1)=((wl.length-1:Nat):Int):=by rw[cz (by omega) (by omega)];omega
   obtain ⟨A,ax,_,_,_,hu⟩:=zv.at (i:=wl.length-1) (by omega)
   have PT:=hu.ext xR
   rw[e,gY]
   subst mz
   refine ⟨A,ax,⟨by omega,by omega⟩,_,PT.aT,_,PT.bC,_,PT.ba,_,PT.gl,H4.dA rfl lB,rfl,ek H4 (us:=gZ (wl[wl.length-1]'(by omega)).n (wl[wl.length-1]'(by omega)).K (wl[wl.length-1]'(by omega)).V (wl[wl.length-1]'(by omega)).D) rfl rfl fun fC ap8 ap9 awL=> ?_⟩
   have acL:Ext cF fC:=Ext.eX xR ap9 (by omega)
   exact J _ ⟨_,_,_,_,acL,ap8,hu.dT.ext acL⟩
 · have tl:¬0<wl.length:=by
     have:¬((s.len:Nat):Int)>0:=eW az
     omega
   rw[dif_neg tl] at mz
   subst mz
   exact J _ ⟨bU,bU,bU,fun _=>True,xR,H4,bZ.none _ _,bZ.none _ _,eo.none _ _⟩
 rintro fy ⟨K,V,D,B,PU,ap_,aqa⟩
 have awM:=PU.size
 have acp:=Gb.an.size
 have Iq:oq dk∧cr dk≤232:=by
   rcases mj with ⟨U,ad,au,aJ⟩|⟨lS,db,kP,hT,kI,oL,nI,nJ,aq,bS,h8,kU,Bu,F4,DP,DQ,zl,Bv,xS⟩
   · have Ly:¬0<wl.length:=by
       rw[U] at hm
       have:wl=[]:=by simpa using hm
       rw[this];simp
     rw[mz,dif_neg Ly]
     exact ⟨⟨⟨fun _ h=>(by cases h),List.Pairwise.nil⟩,rfl,rfl,rfl,fun _ h=>(by cases h)⟩,by decide⟩
   · rw[aq] at hm
     obtain ⟨aA,aE⟩:=Iu hm
     rw[mz,dif_pos aA,aE]
     exact ⟨kU,h.DU _ _ h8⟩
 obtain ⟨rz,ky⟩:=Iq
 have qn:=(ef.k3 (.inl rz) (by omega))
 have kh:∀q,T.N q→q<w.heap.size:=fun q J=>h.lt (aX.k7 J)
 have aqb:Src 1 fy aG (bn key):=(ae.an cy.an fun q J hF=>(sC q J).2 (aX.k7 hF)).ext PU
 have aqc:Src 1 fy c1 (bn val):=(ak.an cy.an fun q J hF=>(J8 q J).2 (aX.k7 hF)).ext PU
 obtain ⟨d0,d1,d2,d3⟩:=cj ap_
 refine ⟨_,d0,K,d1,V,d2,D,d3,(yJ aqa rz (by omega) aqb aqc bf.1 bf.2).use ?_⟩
 rintro _ eR ⟨c9,df,dv,rfl,aqd,Pl⟩
 refine ⟨_,c9,df,dv,true,rfl,cn (vs:=[.bool false, .slice none 0 0, .slice none 0 0, .slice none 0 0]) rfl fun dE O6 HY awN=>⟨O6.dA rfl lB,rfl,ek O6 (us:=gZ (pn dk key val) c9 df dv) rfl rfl fun gK Lc aqe awO=>⟨fun af=>(by cases af),fun _=> ?_⟩⟩⟩
 have acM:Ext eR gK:=Ext.eX HY aqe (cV _)
 have VD:=(PU.trans Pl).trans acM
 obtain ⟨d0,d1,d2,d3⟩:=cj Lc
 obtain ⟨cq,cx,iK,mG,BA,oN⟩:=ap3 rz bf.1 bf.2
 have F1:bx.D.cR≤900000000:=by
   have:bx.D.cR≤T.C.D.cR+2*T.bw:=cy.cR
   omega
 have aqf:cd (fun q=>¬(T.cP bx T.P).M q) gK (pn dk key val) c9 df dv:=(aqd.ext acM).bz fun q _ J kR=>by have:=uP.lt kR;omega
 have VE:=acJ (iI:=ke L key val) (k:=key) (steps:=steps) (dk:=dk) (uP.ext VD) dM dz hG aH F1 hm (zv.ext' VD fun q J=>J.2) aqf cq (by
   rcases mj with ⟨U,ad,au,aJ⟩|⟨lS,db,kP,hT,kI,oL,nI,nJ,aq,bS,h8,kU,Bu,F4,DP,DQ,zl,Bv,xS⟩
   · have Ly:¬0<wl.length:=by omega
     rw[dif_neg Ly] at mz
     refine .inl ⟨U,ad,au,mG,?_,?_⟩
     · have:cr dk=1:=by rw[mz];rfl
       omega
     · rw[cx,mz,aJ];rfl
   · rw[aq] at hm
     obtain ⟨aA,aE⟩:=Iu hm
     rw[dif_pos aA,aE] at mz
     rw[mz] at cx iK mG BA oN⊢
     refine .inr ⟨lS,kP,hT,kI,oL,nI,nJ,aq,bS,fun s aj=> ?_,fun _=>mG,zl,?_,by have:=h.DU _ _ h8;omega⟩
     · rcases oN s aj with rfl|a6
       · exact DQ
       · exact Bu s a6
     · rw[cx];exact xS (fun L=>ke L key val) (ah0 key val))
 refine ⟨_,d0,c9,d1,df,d2,dv,d3,VE.use ?_⟩
 intro v w' aN
 have aqg:=aN.an (w:=w) ((cy.trans (b5.ext (T.cP bx T.P) VD)).mono (l:=40) (by omega)) (cV _) q_ jz
 obtain ⟨av,U,ad,au,aJ,a6⟩:=aqg
 rcases a6 with ⟨rfl,b8⟩|⟨rfl,b8⟩|⟨rfl,b8⟩
 · exact ⟨2,rfl, .inr ⟨bf.1,bf.2,av,U,ad,au,aJ, .inl ⟨rfl,b8⟩⟩⟩
 · exact ⟨0,rfl, .inr ⟨bf.1,bf.2,av,U,ad,au,aJ, .inr (.inl ⟨rfl,b8⟩)⟩⟩
 · exact ⟨3,rfl, .inr ⟨bf.1,bf.2,av,U,ad,au,aJ, .inr (.inr ⟨rfl,b8⟩)⟩⟩
end
section
theorem acN {l:List bl} {k:Key} (h:(jN l k).length=l.length):∀p∈l,p.1≠k:=by
 intro p aZ
 unfold jN at h
 have:=(u6 (p:=fun p:bl=>decide (p.1≠k))).1 (List.Sublist.eq_of_length List.filter_sublist h)
 exact dD (this p aZ)
theorem acO {L A B M:List bl} {k:Key} (dz:L=A++(M++B)) (hu:jN L k=A++(jN M k++B)):kf L k=kf M k:=by
 have U:(jN A k).length≤A.length:=G5 _ _
 have ad:(jN B k).length≤B.length:=G5 _ _
 have au:=congrArg List.length hu
 rw[dz,G6,G6] at au
 simp only[dU] at au
 have ax:=acN (l:=A) (k:=k) (by omega)
 have fw:=acN (l:=B) (k:=k) (by omega)
 have LA:A.find? (fun p=>decide (p.1=k))=none:=sd.2 fun p aZ=>by simpa using ax p aZ
 have VF:B.find? (fun p=>decide (p.1=k))=none:=sd.2 fun p aZ=>by simpa using fw p aZ
 unfold kf
 rw[dz,List.find?_append,List.find?_append,LA,VF]
 simp
theorem acP {n:aM} {k:Key} (h:oq n):kf n.gL k=if pk n.keys k then n.vals[ey n.keys k]? else none:=by
 have hle:=Hc n.keys k
 have Dw:=h.kg
 have w2:∀ (j:Nat) (a_:j<n.keys.length),j<ey n.keys k→cw n.keys[j] k:=fun j a_ U=>ET U a_
 have Lx:n.keys[ey n.keys k]? ≠some k→∀ (j:Nat) (a_:j<n.keys.length),ey n.keys k≤j→cw k n.keys[j]:=fun he j a_ U=>acF Dw U a_ he
 have aZ:n.gL=n.keys.zip n.vals:=rfl
 unfold pk
 rw[aZ]
 generalize ey n.keys k=i at hle w2 Lx⊢
 obtain ⟨a,b,c,d,aY,bo,en,kT,lZ,v7,BF,vl,Ai⟩:=Vz h hle
 have bN:n.keys.zip n.vals=a.zip c++b.zip d:=by rw[aY,bo];exact EO (by omega)
 have LA:(a.zip c).find? (fun p:bl=>decide (p.1=k))=none:=sd.2 fun p aZ=>by
   have hm:=(Jy aZ).1
   obtain ⟨j,a_,VG⟩:=m3 hm
   have U:=w2 j (by rw[aY,dU];omega) (by omega)
   simp only[aY,zY a_,VG] at U
   simpa using vc U
 unfold kf
 rw[bN,List.find?_append,LA]
 by_cases he:n.keys[i]? =some k
 · rw[if_pos (by simpa using he)]
   have pV:∃jo,b=k::jo:=by
     cases b with
     |nil=>rw[aY,wF (by omega)] at he;simp at he
     |cons y jo=>
       rw[aY,wF (by omega),en,EF] at he
       simp at he
       exact ⟨jo,by rw[he]⟩
   obtain ⟨jo,rfl⟩:=pV
   obtain ⟨x,k8,rfl⟩:∃x k8,d=x::k8:=by
     cases d with
     |nil=>simp at lZ
     |cons x k8=>exact ⟨x,k8,rfl⟩
   rw[bo,wF (by omega),kT,EF]
   simp
 · rw[if_neg (by simpa using he)]
   have VA:=Lx he
   have VF:(b.zip d).find? (fun p:bl=>decide (p.1=k))=none:=sd.2 fun p aZ=>by
     have hm:=(Jy aZ).1
     obtain ⟨j,a_,VG⟩:=m3 hm
     have U:=VA (i+j) (by rw[aY,dU];omega) (by omega)
     have e:(a++b)[i+j]'(by rw[dU];omega)=b[j]:=by
       rw[EH (by omega)];congr 1;omega
     simp only[aY,e,VG] at U
     have:=vc U
     simpa using fun h=>this h.symm
   rw[VF];rfl
def aqh (T:aX) (L:List bl) (key:Key) (w:World) (v:Value) (w':World):Prop:=
 ∃bx:eZ,c6 w' (T.cP bx T.P)∧b5 T (T.cP bx T.P) w w' 30∧(∀j,bx.view j=T.C.view j)∧
   ((v= .tuple #[.slice none 0 0, .bool false, .int .i64 0]∧(eM key→kf L key=none))∨
    (∃ (t:aa) (x:Key),v= .tuple #[.slice t.a t.len t.cap, .bool true, .int .i64 0]∧eM key∧kf L key=some x∧bF (fun q=>¬(T.cP bx T.P).M q) w' t x)∨
    (v= .tuple #[.slice none 0 0, .bool false, .int .i64 3]∧eM key∧¬T.C.D.calm 30))
theorem acQ {w:World} {T:aX} {pages:List Nat} {L:List bl} {aG:aa} {key:Key} (h:c6 w T) (dM:nK T pages L) (gC:T.C.D.cR≤800000000) (ae:Src 1 w aG (bn key)) (sC:∀q,aO aG q→q<w.heap.size∧¬T.M q):
   aQ Tryz.prog F.BH #[.pointer (some ⟨T.cl,0,none⟩), .slice aG.a aG.len aG.cap] w (aqh T L key w):=by
 have fp:=len8 ae
 have cT:=h.num.2.1
 have HU:T.cP T.C T.P=T:=rfl
 refine W.aqi (some ⟨T.cl,0,none⟩) aG w _ ?_
 (delta W.BH aB ba gl aC bS aq dx ai dN a7;dsimp only)
 refine eA (fun b w'=>b= !(decide (eM key))∧w=w') (fun q J=>⟨fun h=>(by cases h),fun _=>(tz w aG).use ?_⟩) ?_
 · rintro _ _ ⟨rfl,rfl⟩
   refine ⟨_,rfl,J _ _ ⟨?_,rfl⟩⟩
   unfold eM
   rw[fp]
 rintro _ _ ⟨rfl,rfl⟩
 refine ⟨fun ab=>⟨fun h=>(by cases h),fun _=> ?_⟩,fun ab=> ?_⟩
 · have:¬eM key:=by simpa using ab
   exact ⟨T.C,h,(b5.refl T w).mono (by omega),fun _=>rfl, .inl ⟨rfl,fun af=>absurd af this⟩⟩
 have bf:eM key:=by simpa using ab
 obtain ⟨steps,xW,mj⟩:=VB (k:=key) h dM
 refine (TN h (by omega) ae sC xW).use ?_
 rintro _ bh ⟨bx,BI,r0,q_,eT⟩
 rcases eT with ⟨s,wl,rfl,hm,zv⟩|⟨rfl,fj⟩
 rotate_left
 · exact ⟨⟨none,0,0⟩,3,rfl,fun _=>⟨bx,BI,r0.mono (by omega),q_, .inr (.inr ⟨rfl,bf,fun al=>fj (mE al (by omega))⟩)⟩,fun af=>(by simp at af)⟩
 have F7:s.len=wl.length:=by
   have:=zv.own.1
   rw[oC _ (Du wl)] at this;omega
 have acK:wl.length=T.bw:=by
   have:=xW.length
   rw[←hm,lf] at this;exact this
 refine ⟨s,0,rfl,fun af=>⟨bx,BI,r0.mono (by omega),q_, .inl ⟨rfl,fun _=> ?_⟩⟩,fun af=> ?_⟩
 · have tl:wl.length=0:=by
     have:((s.len:Nat):Int)=0:=by simpa using af
     omega
   rcases mj with ⟨_,_,_,aJ⟩|⟨lS,db,kP,hT,kI,oL,nI,nJ,aq,_⟩
   · rw[aJ];rfl
   · rw[aq] at hm
     obtain ⟨aA,_⟩:=Iu hm
     omega
 have tl:0<wl.length:=by
   have:¬((s.len:Nat):Int)=0:=by simpa using af
   omega
 have e:IntKind.wrap .i64 (((s.len:Nat):Int)-1)=((wl.length-1:Nat):Int):=by rw[cz (by omega) (by omega)];omega
 obtain ⟨A,ax,_,_,_,hu⟩:=zv.at (i:=wl.length-1) (by omega)
 rcases mj with ⟨U,_⟩|⟨lS,db,kP,hT,kI,oL,nI,nJ,aq,bS,h8,kU,Bu,F4,DP,DQ,zl,Bv,xS⟩
 · rw[U] at hm
   have:=congrArg List.length hm
   simp at this;omega
 have kR:=hm
 rw[aq] at kR
 obtain ⟨aA,aE⟩:=Iu kR
 rw[e,gY]
 generalize aqj:(wl[wl.length-1]'(by omega))=u at hu aE
 obtain ⟨aqk,un,aql,K,V,D⟩:=u
 obtain rfl:un=db:=aE
 refine ⟨A,ax,⟨by omega,by omega⟩,_,hu.aT,K,hu.bC,V,hu.ba,D,hu.gl,cn (vs:=[.bool false, .slice none 0 0, .slice none 0 0, .slice none 0 0]) rfl fun cF PH pw T7=>⟨PH.dA rfl lB,rfl,ek PH (us:=gZ un K V D) rfl rfl fun ep acR aqm awP=> ?_⟩⟩
 have LB:Ext bh ep:=Ext.eX pw aqm (cV _)
 obtain ⟨d0,d1,d2,d3⟩:=cj acR
 have qn:=(ef.k3 (.inl kU) (by have:=h.DU _ _ h8;omega))
 have aqn:Src 1 ep aG (bn key):=(ae.an r0.an fun q J hF=>(sC q J).2 (aX.k7 hF)).ext LB
 have acS:cd (fun q=>w.heap.size≤q∧¬(T.cP bx T.P).M q) ep un K V D:=hu.dT.ext LB
 refine ⟨_,d0,K,d1,V,d2,D,d3,(yF acS aqn kU.kg (by omega)).use ?_⟩
 rintro _ c5 ⟨rfl,sI⟩
 have dS:=LB.trans sI
 have acT:=BI.ext dS
 have xU:b5 T (T.cP bx T.P) w c5 30:=(r0.trans (b5.ext _ dS)).mono (by omega)
 have r2:kf L key=kf un.gL key:=acO Bv (xS (fun L=>jN L key) (RP key))
 rw[acP kU] at r2
 refine ⟨_,_,rfl,fun aD=>⟨bx,acT,xU,q_, .inl ⟨rfl,fun _=> ?_⟩⟩,fun aD=> ?_⟩
 · have aD:pk un.keys key=false:=by simpa using aD
   rw[r2,if_neg (by rw[aD];simp)]
 · have aD:pk un.keys key=true:=by simpa using aD
   have VH:ey un.keys key<un.keys.length:=(qA.1 (dD aD)).1
   have PV:ey un.keys key<un.vals.length:=by rw[kU.len];exact VH
   obtain ⟨f0,f1,f2,f3⟩:=cj (acR.ext sI)
   obtain ⟨VI,c1,VJ,CI,VK,PW,_⟩:=bZ.at (acS.ext sI).vals PV
   refine ⟨V,f2,VI,VJ,CI,c1,VK,bx,acT,xU,q_, .inr (.inl ⟨c1,un.vals[ey un.keys key],rfl,bf,?_,bF.bz PW fun q _ ab=>ab.2⟩)⟩
   rw[r2,if_pos aD,gF PV]
end
section
theorem aqo {n:aM} {k:Key} (h:oq n) (ae:pk n.keys k=true):oq (yI n k)∧(yI n k).gL=jN n.gL k∧cr (yI n k)≤cr n∧n.keys.length=(yI n k).keys.length+1∧(∀s∈(yI n k).keys,s∈n.keys):=by
 have hle:=Hc n.keys k
 have Dw:=h.kg
 have aZ:n.gL=n.keys.zip n.vals:=rfl
 have he:n.keys[ey n.keys k]? =some k:=dD ae
 rw[aZ]
 unfold yI
 generalize ey n.keys k=i at hle he⊢
 obtain ⟨a,b,c,d,aY,bo,en,kT,lZ,v7,BF,vl,Ai⟩:=Vz h hle
 have bN:n.keys.zip n.vals=a.zip c++b.zip d:=by rw[aY,bo];exact EO (by omega)
 have pV:∃jo,b=k::jo:=by
   cases b with
   |nil=>rw[aY,wF (by omega)] at he;simp at he
   |cons y jo=>
     rw[aY,wF (by omega),en,EF] at he
     simp at he
     exact ⟨jo,by rw[he]⟩
 obtain ⟨jo,rfl⟩:=pV
 obtain ⟨x,k8,rfl⟩:∃x k8,d=x::k8:=by
   cases d with
   |nil=>simp at lZ
   |cons x k8=>exact ⟨x,k8,rfl⟩
 have aA:n.keys.drop (i+1)=jo:=by rw[aY,show a++k::jo=(a++ [k])++jo by simp];exact drop_left' (by simp[en])
 have aE:n.vals.drop (i+1)=k8:=by rw[bo,show c++x::k8=(c++ [x])++k8 by simp];exact drop_left' (by simp[kT])
 rw[v7,vl,aA,aE]
 have nw:(a++k::jo).Pairwise cw:=by rw[←aY];exact Dw
 obtain ⟨pZ,iB,DB⟩:=Cb.1 nw
 have zw:=r9.1 iB
 have ic:∀z,z∈a++jo→z∈n.keys:=fun z bN=>by
   rw[aY]
   simp only[e8,gb] at bN⊢
   rcases bN with U|U
   · exact .inl U
   · exact .inr (.inr U)
 refine ⟨⟨⟨fun z bN=>h.ok z (ic z bN),Cb.2 ⟨pZ,zw.2,fun y b3 z bN=>DB y b3 z (u7 _ bN)⟩⟩,h.leaf,?_,h.kids,fun z bN=>h.vals z ?_⟩,?_,?_,?_,ic⟩
 · show (c++k8).length=(a++jo).length
   simp only[dU,ld] at lZ⊢;omega
 · rw[bo]
   have bN:z∈c++k8:=bN
   simp only[e8,gb] at bN⊢
   rcases bN with U|U
   · exact .inl U
   · exact .inr (.inr U)
 · show (a++jo).zip (c++k8)=_
   rw[bN,EO (by omega),G6,List.zip_cons_cons]
   have f1:jN (a.zip c) k=a.zip c:=EN fun p aZ=>vc (DB _ (Jy aZ).1 k List.mem_cons_self)
   have f2:jN ((k,x)::jo.zip k8) k=jo.zip k8:=by
     have:jN ((k,x)::jo.zip k8) k=jN (jo.zip k8) k:=by unfold jN;simp
     rw[this]
     exact EN fun p aZ=>(vc (zw.1 _ (Jy aZ).1)).symm
   rw[f1,f2]
 · rw[It h.leaf,It (n:={n with keys:=a++jo,vals:=c++k8}) h.leaf]
   show 1+(List.zipWith uQ (a++jo) (c++k8)).sum≤_
   rw[aY,bo,GV (by omega),GV (by omega),ye,ye,List.zipWith_cons_cons,JA]
   omega
 · show n.keys.length=(a++jo).length+1
   rw[aY]
   simp only[dU,ld];omega
end
section
structure oO (T av:aX):Prop where
 root:av.root=T.root
 bw:av.bw=T.bw
 f:av.f=T.f
 g4:∀no,(T.f no||T.g no)=true→av.P no=T.P no∧av.C.view no=T.C.view no
theorem oO.refl (T:aX):oO T T:=⟨rfl,rfl,rfl,fun _ _=>⟨rfl,rfl⟩⟩
theorem oO.cP {T:aX} {bx:eZ} (ak:∀j,bx.view j=T.C.view j):oO T (T.cP bx T.P):=⟨rfl,rfl,rfl,fun no _=>⟨rfl,ak no⟩⟩
theorem oO.trans {T av xG:aX} (U:oO T av) (ad:oO av xG) (bf:av.g=T.g):oO T xG:=
 ⟨ad.root.trans U.root,ad.bw.trans U.bw,ad.f.trans U.f,fun no h=>by
   have au:=U.g4 no h
   have aJ:=ad.g4 no (by rw[U.f,bf];exact h)
   exact ⟨aJ.1.trans au.1,aJ.2.trans au.2⟩⟩
structure VL (T av:aX) (dK:List Nat) (iI:List bl):Prop where
 ok:∃pages,nK av pages iI∧pages.Nodup∧(∀no∈pages,no∈dK∨(T.f no||T.g no)=false)∧∀no,av.f no=true↔(no∈pages∨(T.f no=true∧no∉dK))
 g4:∀no,T.g no=true→av.P no=T.P no∧av.C.view no=T.C.view no
theorem oO.ok {T av:aX} {pages:List Nat} {L:List bl} (h:oO T av) (dM:nK T pages L) (aH:∀x∈pages,T.f x=true):nK av pages L:=by
 unfold nK at dM⊢
 rw[h.root,h.bw]
 rcases dM with dM|hw
 · exact .inl dM
 · exact .inr (hO.agree hw fun x af=>(h.g4 x (by rw[aH x af];rfl)).1.symm).1
def aqp (T:aX) (dK:List Nat) (L:List bl) (key:Key) (w:World) (v:Value) (w':World):Prop:=
 ∃av:aX,c6 w' av∧b5 T av w w' 100∧av.E=T.E∧av.G=T.G∧
   ((v= .tuple #[.bool false, .int .i64 1]∧¬eM key∧oO T av)∨
    (v= .tuple #[.bool false, .int .i64 0]∧eM key∧kf L key=none∧oO T av)∨
    (v= .tuple #[.bool false, .int .i64 2]∧eM key∧kf L key≠none∧fO T<2*T.bw+3∧oO T av)∨
    (v= .tuple #[.bool true, .int .i64 0]∧eM key∧kf L key≠none∧2*T.bw+3≤fO T∧VL T av dK (jN L key))∨
    (v= .tuple #[.bool false, .int .i64 3]∧eM key∧¬T.C.D.calm 100∧oO T av))
theorem acU {w:World} {T:aX} {pages:List Nat} {L:List bl} {aG:aa} {key:Key} (h:c6 w T) (dM:nK T pages L) (dz:L.length<4096) (hG:pages.Nodup) (aH:∀x∈pages,T.f x=true) (gC:T.C.D.cR≤800000000)
   (ae:Src 1 w aG (bn key)) (sC:∀q,aO aG q→q<w.heap.size∧¬T.M q):
   aQ Tryz.prog F.BJ #[.pointer (some ⟨T.cl,0,none⟩), .slice aG.a aG.len aG.cap] w (aqp T pages L key w):=by
 have fp:=len8 ae
 have cT:=h.num.2.1
 refine W.aqq (some ⟨T.cl,0,none⟩) aG w _ ?_
 (delta W.BJ aB ba gl aC bS aq fE dx ai aT;dsimp only)
 refine eA (fun b w'=>b= !(decide (eM key))∧w=w') (fun q J=>⟨fun h=>(by cases h),fun _=>(tz w aG).use ?_⟩) ?_
 · rintro _ _ ⟨rfl,rfl⟩
   refine ⟨_,rfl,J _ _ ⟨?_,rfl⟩⟩
   unfold eM
   rw[fp]
 rintro _ _ ⟨rfl,rfl⟩
 refine ⟨fun ab=>⟨T,h,(b5.refl T w).mono (by omega),rfl,rfl, .inl ⟨rfl,by simpa using ab, .refl T⟩⟩,fun ab=> ?_⟩
 have bf:eM key:=by simpa using ab
 obtain ⟨steps,xW,mj⟩:=VB (k:=key) h dM
 refine (TN h (by omega) ae sC xW).use ?_
 rintro _ bh ⟨bx,BI,r0,q_,eT⟩
 rcases eT with ⟨s,wl,rfl,hm,zv⟩|⟨rfl,fj⟩
 rotate_left
 · exact ⟨⟨none,0,0⟩,3,rfl,fun _=>⟨_,BI,r0.mono (by omega),rfl,rfl, .inr (.inr (.inr (.inr ⟨rfl,bf,fun al=>fj (mE al (by omega)), .cP q_⟩)))⟩,fun af=>(by simp at af)⟩
 have F7:s.len=wl.length:=by
   have:=zv.own.1
   rw[oC _ (Du wl)] at this;omega
 have acK:wl.length=T.bw:=by
   have:=xW.length
   rw[←hm,lf] at this;exact this
 refine ⟨s,0,rfl,fun af=>⟨_,BI,r0.mono (by omega),rfl,rfl, .inr (.inl ⟨rfl,bf,?_, .cP q_⟩)⟩,fun af=> ?_⟩
 · have tl:wl.length=0:=by
     have:((s.len:Nat):Int)=0:=by simpa using af
     omega
   rcases mj with ⟨_,_,_,aJ⟩|⟨lS,db,kP,hT,kI,oL,nI,nJ,aq,_⟩
   · rw[aJ];rfl
   · rw[aq] at hm
     obtain ⟨aA,_⟩:=Iu hm
     omega
 have tl:0<wl.length:=by
   have:¬((s.len:Nat):Int)=0:=by simpa using af
   omega
 have e:IntKind.wrap .i64 (((s.len:Nat):Int)-1)=((wl.length-1:Nat):Int):=by rw[cz (by omega) (by omega)];omega
 obtain ⟨A,ax,_,_,_,hu⟩:=zv.at (i:=wl.length-1) (by omega)
 rcases mj with ⟨U,_⟩|⟨lS,db,kP,hT,kI,oL,nI,nJ,aq,bS,h8,kU,Bu,F4,DP,DQ,zl,Bv,xS⟩
 · rw[U] at hm
   have:=congrArg List.length hm
   simp at this;omega
 have kR:=hm
 rw[aq] at kR
 obtain ⟨aA,aE⟩:=Iu kR
 rw[e,gY]
 generalize aqj:(wl[wl.length-1]'(by omega))=u at hu aE
 obtain ⟨aqk,un,aql,K,V,D⟩:=u
 obtain rfl:un=db:=aE
 have qn:=(ef.k3 (.inl kU) (by have:=h.DU _ _ h8;omega))
 have aqr:Src 1 bh aG (bn key):=ae.an r0.an fun q J hF=>(sC q J).2 (aX.k7 hF)
 have r2:kf L key=kf un.gL key:=acO Bv (xS (fun L=>jN L key) (RP key))
 rw[acP kU] at r2
 refine ⟨A,ax,⟨by omega,by omega⟩,_,hu.aT,K,hu.bC,V,hu.ba,D,hu.gl,(yM (n:=un) hu.dT kU (by omega) aqr).use ?_⟩
 intro v cF eT
 unfold Hw at eT
 by_cases aD:pk un.keys key=true
 rotate_left
 · have aD:pk un.keys key=false:=by simpa using aD
   rw[aD,if_neg (by simp)] at eT
   obtain ⟨rfl,pw⟩:=eT
   refine ⟨_,bU,bU,bU,false,rfl,cn (vs:=[.bool false, .slice none 0 0, .slice none 0 0, .slice none 0 0]) rfl fun kJ LC VM aqs=>⟨LC.dA rfl (lB (b:=pj.leaf) (K:=bU) (V:=bU) (D:=bU)),rfl,ek LC (us:=gZ pj bU bU bU) rfl rfl fun cW Dx VN KY=>⟨fun _=> ?_,fun af=>(by cases af)⟩⟩⟩
   have sF:Ext cF cW:=Ext.eX VM VN (cV _)
   have dS:=pw.trans sF
   refine ⟨_,BI.ext dS,(r0.trans (b5.ext _ dS)).mono (by omega),rfl,rfl, .inr (.inl ⟨rfl,bf,?_, .cP q_⟩)⟩
   rw[r2,if_neg (by rw[aD];simp)]
 rw[if_pos aD] at eT
 obtain ⟨c9,df,dv,rfl,aqt,pw⟩:=eT
 refine ⟨_,c9,df,dv,true,rfl,cn (vs:=[.bool false, .slice none 0 0, .slice none 0 0, .slice none 0 0]) rfl fun kJ LC VM aqs=>⟨LC.dA rfl lB,rfl,ek LC (us:=gZ (yI un key) c9 df dv) rfl rfl fun cW Dx VN KY=>⟨fun af=>(by cases af),fun _=> ?_⟩⟩⟩
 have sF:Ext cF cW:=Ext.eX VM VN (cV _)
 have dS:=pw.trans sF
 obtain ⟨d0,d1,d2,d3⟩:=cj Dx
 obtain ⟨cq,cx,iK,mG,BA⟩:=aqo kU aD
 have VH:ey un.keys key<un.keys.length:=(qA.1 (dD aD)).1
 have PV:ey un.keys key<un.vals.length:=by rw[kU.len];exact VH
 have LD:kf L key≠none:=by
   rw[r2,if_pos aD,gF PV];simp
 have F1:bx.D.cR≤900000000:=by
   have:bx.D.cR≤T.C.D.cR+2*T.bw:=r0.cR
   omega
 have acp:=pw.size
 have LF:cd (fun q=>¬(T.cP bx T.P).M q) cW (yI un key) c9 df dv:=(aqt.ext sF).bz fun q _ J kR=>by have:=BI.lt kR;omega
 have VE:=acJ (iI:=jN L key) (k:=key) (steps:=steps) (dk:=un) (BI.ext dS) dM dz hG aH F1 hm (zv.ext' dS fun q J=>J.2) LF cq (.inr ⟨lS,kP,hT,kI,oL,nI,nJ,aq,bS,fun s aj=>Bu s (BA s aj),fun aj e=>by
   have ox:=DP aj
   rw[e] at mG
   simp at mG;omega,zl,by rw[cx];exact xS (fun L=>jN L key) (RP key),by have:=h.DU _ _ h8;omega⟩)
 refine ⟨_,d0,c9,d1,df,d2,dv,d3,VE.use ?_⟩
 rintro v w' ⟨av,U,ad,au,aJ,a6⟩
 have cy:=((r0.trans (b5.ext (T.cP bx T.P) dS)).trans ad).mono (l:=100) (by omega)
 have acH:fO (T.cP bx T.P)=fO T:=rfl
 have acI:(T.cP bx T.P).bw=T.bw:=rfl
 rcases a6 with ⟨rfl,b8,iA⟩|⟨rfl,b8,iA,ox⟩|⟨rfl,b8,iA,ox,rE,PR⟩
 · subst iA
   exact ⟨2,rfl,_,U,cy,au,aJ, .inr (.inr (.inl ⟨rfl,bf,LD,b8, .cP q_⟩))⟩
 · exact ⟨0,rfl,_,U,cy,au,aJ, .inr (.inr (.inr (.inl ⟨rfl,bf,LD,b8,iA,fun no dd=>⟨(ox no dd).1,(ox no dd).2.trans (q_ no)⟩⟩)))⟩
 · exact ⟨3,rfl,_,U,cy,au,aJ, .inr (.inr (.inr (.inr ⟨rfl,bf,fun al=>b8 (r0.calm 60 (mE al (by omega))),(oO.cP q_).trans ⟨iA,ox,rE,PR⟩ rfl⟩)))⟩
end
end Go.Proofs.YtplieiecebljmaaGreat
