/- Contracts of the functions that the statement reaches, and the plain laws over them; each theorem stands with its conditions. -/
import Derived.Laws.Small
import Derived.Test.YtplieiecebljmaaGreatBElder3
namespace Go.Proofs.YtplieiecebljmaaGreat
open Go b7
section
theorem Z3 {B:Nat→Prop} {w:World} {s:aa} {ls:List Key} (h:bU B w s ls) (az:ls.length≤100000):
   aQ Tryz.prog F.AB #[.slice s.a s.len s.cap] w (fun v w'=>∃au:aa,v= .slice au.a au.len au.cap∧bW (fun q=>(B q∧q<w.heap.size)∨(w.heap.size≤q∧aR au q)) w' au ls∧Ext w w'∧oF w au):=by
 have gA:=bU.len h
 obtain ⟨ts,aA,aF,aJ,aO,cS⟩:=h
 refine W.amt s w _ ?_
 delta W.AB aE ai
 refine ⟨fun aS=> ?_,fun _=> ?_⟩
 · have aS:s.a=none:=by simpa using aS
   have b3:=aF.nil aS
   have:ls=[]:=List.eq_nil_of_length_eq_zero (by rw[←aA];have:=congrArg List.length b3;simpa using this)
   subst this
   exact ⟨⟨none,0,0⟩,rfl,bW.none _ _, .refl _ _,fun k ae=>(r7 k ae).elim⟩
 · obtain ⟨au,w',U,ad,ar,aI,aW,_⟩:=GU.clone (ez:=ah.cC) aF (Nk ts) (by omega)
   refine bM ⟨au,w',U,au,rfl,⟨ts,aA,ad,fun q J=>⟨.inr ⟨aW q J,J⟩,ad.lt q J⟩,fun i i1 i2=> ?_⟩,aI,aW⟩
   have a:=cS i i1 i2
   exact ⟨bD.bw (bD.ext (bD.bw (C:=fun q=>B q∧q<w.heap.size) a fun q J ab=>⟨ab,J⟩) aI) fun q _ ab=> .inl ab,fun k ae dW=>by have:=aW k dW;have:=(a.2.2 k ae).2;omega⟩
theorem xm.at {B:Nat→Prop} {w:World} {s:aa} {ks:List Key} {kids:List Nat} (h:xm B w s ks kids):s.len=kids.length∧kids.length=ks.length+1∧kids.length≤2∧∀ (j:Nat) (a6:j<kids.length),∃ (A:Addr) (t:aa),s.a=some A∧w.cell? (A.add (j*2))=some (.slice t.a t.len t.cap)∧w.cell? ((A.add (j*2)).add 1)=some (.int .i64 ((kids[j]:Nat):Int))∧
   ((t.a=none∧ks.take j=ks.take (j-1))∨(t.a.isSome=true∧∃k,bD B w t k∧ks.take j=ks.take (j-1)++ [k])):=by
 rcases h with ⟨b,x,rfl,rfl,rfl,ak,ab⟩|⟨b,x,y,k,t,rfl,rfl,rfl,ak,ab,aN,ae⟩
 · refine ⟨rfl,rfl,by simp,fun j a6=> ?_⟩
   have:j=0:=by simp at a6;omega
   subst this
   exact ⟨_,⟨none,0,0⟩,rfl,by rw[aV];exact ak.cell,by rw[aV,aV];exact ak.cell, .inl ⟨rfl,rfl⟩⟩
 · refine ⟨rfl,rfl,by simp,fun j a6=> ?_⟩
   rcases hE j 1 with U|U
   · have:j=0:=by omega
     subst this
     exact ⟨_,⟨none,0,0⟩,rfl,by rw[aV];exact ak.cell,by rw[aV,aV];exact ak.cell, .inl ⟨rfl,rfl⟩⟩
   · have:j=1:=by simp at a6;omega
     subst this
     obtain ⟨A,ax⟩:=bD.some aN ae
     exact ⟨_,t,rfl,by rw[aV];exact ak.cell,by rw[aV,aV];exact ak.cell, .inr ⟨by rw[ax];rfl,k,aN,rfl⟩⟩
theorem xm.ext {B:Nat→Prop} {w w':World} {s:aa} {ks:List Key} {kids:List Nat} (h:xm B w s ks kids) (af:Ext w w'):xm B w' s ks kids:=by
 rcases h with ⟨b,x,U,ad,ar,ak,ab⟩|⟨b,x,y,k,t,U,ad,ar,ak,ab,aN,ae⟩
 · exact .inl ⟨b,x,U,ad,ar,ak.ext af,ab⟩
 · exact .inr ⟨b,x,y,k,t,U,ad,ar,ak.ext af,ab,bD.ext aN af,ae⟩
theorem amu {w:World} {bC o:Nat} {vs:List Value} {S t:aa} {ls:List Key} {l:Key} {B:Nat→Prop} {T:TypeId} (ak:Var w bC vs T) (z6:o<vs.length) (o4:bW B w S ls) (Ch:¬B bC)
   (aN:bD B w t l) (hd:∀k,aR t k→¬aR S k) (aD:ls.length≤100000) {K:World→Prop}
   (bk:∀ (w':World) (gB:aa),Var w' bC (vs.set o (.slice gB.a gB.len gB.cap)) T→bW (mv B w w') w' gB (ls++ [l])→ao (fun q=>q=bC∨aR S q) w w'→(∀k,aR gB k→aR S k∨w.heap.size≤k)→K w'):
   ay (w.alloc (.cells #[.slice t.a t.len t.cap] ah.cd)) fun fU=>∃c1:aa,∃eC:World,Sem.run Tryz.prog (Builtin.append_ #[ah.cC,ah.cC] ah.cC #[.slice S.a S.len S.cap, .slice (some ⟨w.heap.size,0,none⟩) 1 1]) fU= .ok (.slice c1.a c1.len c1.cap) eC∧
     (∃u:Value,eC.cell? (Addr.add ⟨bC,0,none⟩ o)=some u)∧eC.frozen? (Addr.add ⟨bC,0,none⟩ o)=false∧ay (eC.setCell (Addr.add ⟨bC,0,none⟩ o) (.slice c1.a c1.len c1.cap)) fun eG=>K eG:=by
 have z7:=bW.bw (C:=fun q=>B q∨w.heap.size≤q) o4 fun k _ h=> .inl h
 have nH:=bD.bw (C:=fun q=>B q∨w.heap.size≤q) aN fun k _ h=> .inl h
 obtain ⟨au,w',aA,aF,aJ,aO⟩:=XB z7 nH hd (by omega) fun k ae=> .inr ae
 have kO:=ak.lt
 have Jw:¬aR S bC:=fun h=>by
   obtain ⟨ts,_,_,ar,_⟩:=o4
   exact Ch (ar bC h).1
 have qH:=ak.an aJ Jw
 obtain ⟨bd,bc⟩:=j5 qH z6
 refine bM ⟨au,w',aA,?_⟩
 rw[aV,gR]
 have al:=iL w' bC o (.slice au.a au.len au.cap)
 refine ⟨bd,bc,bM (bk _ au (j4 qH _) ?_ ?_ aO)⟩
 · have aW:=bW.bw (C:=mv B w (w'.setCell ⟨bC,o,none⟩ (.slice au.a au.len au.cap))) aF fun k ae h=>by
     rcases h with h|h
     · exact .inl h
     · exact .inr ⟨h,lg ae al.size⟩
   refine bW.an aW al fun k ae e=> ?_
   subst e
   rcases ae with h|h
   · exact Ch h
   · omega
 · exact (aJ.mono fun k _ ae=> .inr ae).trans (al.mono fun k _ ae=> .inl ae)
def On (B:Nat→Prop) (n:aL) (fr to:Nat) (ks:List Key) (kids:List Nat) (w:World) (v:Value) (w':World):Prop:=
 ∃K V D:aa,v=e5 (l3 n fr to ks kids) K V D∧b8 (fun q=>B q∨w.heap.size≤q) w' (l3 n fr to ks kids) K V D∧Ext w w'
def SW (bC aK nt:Nat) (l:aa) (to:Int) (eY:World) (Q:Value→World→Prop):Prop:=
 ∃ (Ff:Int→World→Prop) (Kt:Int→World→Nat),Ff 0 eY∧∀ (kU:Int) (ct:World),Ff kU ct→((decide ((kU:Int)<((l.len:Nat):Int)))=true→∃k4:Addr,l.a=some k4∧((0:Int)≤kU∧kU<((l.len:Nat):Int))∧∃fO:aa,ct.cell? (k4.add (Int.toNat kU*2))=some (.slice fO.a fO.len fO.cap)∧∃oR:Int,ct.cell? ((k4.add (Int.toNat kU*2)).add 1)=some (.int .i64 oR)∧ay (ct.alloc (.cells #[.slice none 0 0, .int .i64 0] ah.vv)) fun cK=>cM cK ⟨ct.heap.size,0,none⟩ [.slice fO.a fO.len fO.cap, .int .i64 oR]∧(2:Nat)=2∧ay (setCells cK ⟨ct.heap.size,0,none⟩ 0 [.slice fO.a fO.len fO.cap, .int .i64 oR]) fun fV=>c5 (fun Da:World→Prop=>∃c4:aa,fV.cell? ⟨ct.heap.size,0,none⟩=some (.slice c4.a c4.len c4.cap)∧((!(Option.isNone c4.a))=true→∃eX:aa,fV.cell? (Addr.add ⟨aK,0,none⟩ 1)=some (.slice eX.a eX.len eX.cap)∧∃iF:aa,fV.cell? ⟨ct.heap.size,0,none⟩=some (.slice iF.a iF.len iF.cap)∧ay (fV.alloc (.cells #[.slice iF.a iF.len iF.cap] ah.cd)) fun gj=>∃iQ:aa,∃oQ:World,Sem.run Tryz.prog (Builtin.append_ #[ah.cC,ah.cC] ah.cC #[.slice eX.a eX.len eX.cap, .slice (some ⟨fV.heap.size,0,none⟩) 1 1]) gj= .ok (.slice iQ.a iQ.len iQ.cap) oQ∧(∃u:Value,oQ.cell? (Addr.add ⟨aK,0,none⟩ 1)=some u)∧oQ.frozen? (Addr.add ⟨aK,0,none⟩ 1)=false∧ay (oQ.setCell (Addr.add ⟨aK,0,none⟩ 1) (.slice iQ.a iQ.len iQ.cap)) fun eC=>Da eC)∧((!(Option.isNone c4.a))=false→Da fV)) (fun (eG:World)=>∃fP:aa,eG.cell? (Addr.add ⟨aK,0,none⟩ 3)=some (.slice fP.a fP.len fP.cap)∧∃j_:Int,eG.cell? (Addr.add ⟨ct.heap.size,0,none⟩ 1)=some (.int .i64 j_)∧ay (eG.alloc (.cells #[.int .i64 j_] ah.int)) fun k_=>∃ep:aa,∃mc:World,Sem.run Tryz.prog (Builtin.append_ #[ah.fb,ah.fb] ah.fb #[.slice fP.a fP.len fP.cap, .slice (some ⟨eG.heap.size,0,none⟩) 1 1]) k_= .ok (.slice ep.a ep.len ep.cap) mc∧(∃u:Value,mc.cell? (Addr.add ⟨aK,0,none⟩ 3)=some u)∧mc.frozen? (Addr.add ⟨aK,0,none⟩ 3)=false∧ay (mc.setCell (Addr.add ⟨aK,0,none⟩ 3) (.slice ep.a ep.len ep.cap)) fun ud=>Ff (IntKind.wrap .i64 (kU+1)) ud∧Kt (IntKind.wrap .i64 (kU+1)) ud<Kt kU ct))∧((decide ((kU:Int)<((l.len:Nat):Int)))=false→ay (ct.drew) fun du=>¬False∧∃mY:aa,du.cell? (Addr.add ⟨aK,0,none⟩ 1)=some (.slice mY.a mY.len mY.cap)∧¬False∧∃hJ:aa,du.cell? (Addr.add ⟨bC,0,none⟩ 1)=some (.slice hJ.a hJ.len hJ.cap)∧((0:Int)≤(IntKind.wrap .i64 (to-1))∧(IntKind.wrap .i64 (to-1))≤((hJ.len:Nat):Int))∧∃h9:aa,∃jS:World,Sem.run Tryz.prog (Builtin.append_ #[ah.cC,ah.cC] ah.cC #[.slice mY.a mY.len mY.cap, .slice (a3 hJ.a 1 (Int.toNat (IntKind.wrap .i64 (to-1))) hJ.cap) (hJ.len-(Int.toNat (IntKind.wrap .i64 (to-1)))) (hJ.cap-(Int.toNat (IntKind.wrap .i64 (to-1))))]) du= .ok (.slice h9.a h9.len h9.cap) jS∧(∃u:Value,jS.cell? (Addr.add ⟨aK,0,none⟩ 1)=some u)∧jS.frozen? (Addr.add ⟨aK,0,none⟩ 1)=false∧ay (jS.setCell (Addr.add ⟨aK,0,none⟩ 1) (.slice h9.a h9.len h9.cap)) fun hU=>ay (hU.drew) fun dp=>¬False∧∃nu:aa,dp.cell? (Addr.add ⟨aK,0,none⟩ 3)=some (.slice nu.a nu.len nu.cap)∧¬False∧∃kt:aa,dp.cell? (Addr.add ⟨bC,0,none⟩ 3)=some (.slice kt.a kt.len kt.cap)∧((0:Int)≤to∧to≤((kt.len:Nat):Int))∧∃fB:aa,∃rI:World,Sem.run Tryz.prog (Builtin.append_ #[ah.fb,ah.fb] ah.fb #[.slice nu.a nu.len nu.cap, .slice (a3 kt.a 1 (Int.toNat to) kt.cap) (kt.len-(Int.toNat to)) (kt.cap-(Int.toNat to))]) dp= .ok (.slice fB.a fB.len fB.cap) rI∧(∃u:Value,rI.cell? (Addr.add ⟨aK,0,none⟩ 3)=some u)∧rI.frozen? (Addr.add ⟨aK,0,none⟩ 3)=false∧ay (rI.setCell (Addr.add ⟨aK,0,none⟩ 3) (.slice fB.a fB.len fB.cap)) fun nR=>∃ta:Bool,nR.cell? ⟨aK,0,none⟩=some (.bool ta)∧∃ly:aa,nR.cell? (Addr.add ⟨aK,0,none⟩ 1)=some (.slice ly.a ly.len ly.cap)∧∃rJ:aa,nR.cell? (Addr.add ⟨aK,0,none⟩ 2)=some (.slice rJ.a rJ.len rJ.cap)∧∃ig:aa,nR.cell? (Addr.add ⟨aK,0,none⟩ 3)=some (.slice ig.a ig.len ig.cap)∧cM nR ⟨nt,0,none⟩ [.bool ta, .slice ly.a ly.len ly.cap, .slice rJ.a rJ.len rJ.cap, .slice ig.a ig.len ig.cap]∧(4:Nat)=4∧ay (setCells nR ⟨nt,0,none⟩ 0 [.bool ta, .slice ly.a ly.len ly.cap, .slice rJ.a rJ.len rJ.cap, .slice ig.a ig.len ig.cap]) fun kV=>∃yF:Bool,kV.cell? ⟨nt,0,none⟩=some (.bool yF)∧∃ih:aa,kV.cell? (Addr.add ⟨nt,0,none⟩ 1)=some (.slice ih.a ih.len ih.cap)∧∃fl:aa,kV.cell? (Addr.add ⟨nt,0,none⟩ 2)=some (.slice fl.a fl.len fl.cap)∧∃jB:aa,kV.cell? (Addr.add ⟨nt,0,none⟩ 3)=some (.slice jB.a jB.len jB.cap)∧Q ( .agg #[.bool yF, .slice ih.a ih.len ih.cap, .slice fl.a fl.len fl.cap, .slice jB.a jB.len jB.cap]) kV)
structure HA (B:Nat→Prop) (lo:Nat) (bC aK nt:Nat) (n:aL) (K V D:aa) (vi:List Value) (w:World) (aP aM:aa) (cw cg:Nat→Prop) (ks:List Key) (ds:List Nat):Prop where
 lv:Var w bC [.bool n.leaf, .slice K.a K.len K.cap, .slice V.a V.len V.cap, .slice D.a D.len D.cap] ah.cF
 r:Var w nt vi ah.cF
 o:Var w aK [.bool false, .slice aP.a aP.len aP.cap, .slice none 0 0, .slice aM.a aM.len aM.cap] ah.cF
 k:bW cw w aP ks
 d:eB cg w aM ds
 bO:∀q,cw q→(B q∧q<lo)∨(lo≤q∧q<w.heap.size∧q≠bC∧q≠aK∧q≠nt∧¬cg q)
 a8:∀q,cg q→lo≤q∧q<w.heap.size∧q≠bC∧q≠aK∧q≠nt
 AD:∀q,aR aP q→lo≤q
theorem HA.ext {B:Nat→Prop} {lo bC aK nt:Nat} {n:aL} {K V D:aa} {vi:List Value} {w w':World} {aP aM:aa} {cw cg:Nat→Prop} {ks:List Key} {ds:List Nat} (h:HA B lo bC aK nt n K V D vi w aP aM cw cg ks ds) (af:Ext w w'):HA B lo bC aK nt n K V D vi w' aP aM cw cg ks ds:=by
 have bI:=af.size
 exact ⟨h.lv.ext af,h.r.ext af,h.o.ext af,bW.ext h.k af,eB.ext h.d af,fun q J=>(h.bO q J).imp id fun h=>⟨h.1,by omega,h.2.2⟩,fun q J=>⟨(h.a8 q J).1,by have:=(h.a8 q J).2.1;omega,(h.a8 q J).2.2⟩,h.AD⟩
theorem amv {B:Nat→Prop} {w eY:World} {bC aK nt:Nat} {n:aL} {K V D s gl hV:aa} {vi:List Value} {cw cg:Nat→Prop} {ks:List Key} {kids:List Nat} {fr to:Nat} (gI:HA B w.heap.size bC aK nt n K V D vi eY gl hV cw cg (n.keys.take fr) (n.kids.take fr)) (dC:Ext w eY)
   (aD:b8 B w n K V D) (az:xm B w s ks kids) (R1:vi.length=4) (U:w.heap.size≤bC) (ad:w.heap.size≤aK) (ar:w.heap.size≤nt) (aI:bC≠aK∧bC≠nt∧aK≠nt) (t1:1≤to) (t2:to≤n.kids.length) (t3:to-1≤n.keys.length) (di:n.keys.length≤1000) (c_:n.kids.length≤1000):
   SW bC aK nt s (to:Nat) eY (On B n fr to ks kids w):=by
 obtain ⟨cl,cr,gq,tb⟩:=az.at
 unfold SW
 refine ⟨fun i w'=>∃ (j:Nat) (aP aM:aa) (cw cg:Nat→Prop),i=j∧j≤kids.length∧Ext w w'∧HA B w.heap.size bC aK nt n K V D vi w' aP aM cw cg (n.keys.take fr++ks.take (j-1)) (n.kids.take fr++kids.take j),fun i _=>((kids.length:Int)-i).toNat,⟨0,gl,hV,cw,cg,rfl,fx _,dC,by simpa using gI⟩,?_⟩
 rintro _ ct ⟨j,aP,aM,cw,cg,rfl,a6,oP,h⟩
 have N9:=oP.size
 refine ⟨fun a9=> ?_,fun cm=> ?_⟩
 · have a9:j<kids.length:=by
     have:((j:Nat):Int)<((s.len:Nat):Int):=dU a9
     omega
   obtain ⟨A,t,ax,bd,bc,rH⟩:=(az.ext oP).at.2.2.2 j a9
   refine ⟨A,ax,⟨by omega,by omega⟩,t,by rw[hF];exact bd,_,by rw[hF];exact bc,?_⟩
   have rH:(t.a=none∧ks.take j=ks.take (j-1))∨(t.a.isSome=true∧∃k,bD (fun q=>B q∧q<w.heap.size) ct t k∧ks.take j=ks.take (j-1)++ [k]):=by
     obtain ⟨SX,EK,nv,Ol,_,jJ⟩:=tb j a9
     rw[ax] at nv;cases nv
     have e:=ao.cell oP (fun h=>h) Ol
     rw[bd] at e
     injection e with e
     obtain rfl:t=EK:=by
       cases t;cases EK;simp at e;simp[e]
     rcases jJ with h|⟨U,k,ad,ar⟩
     · exact .inl h
     · exact .inr ⟨U,k,bD.ext (bD.bw ad fun q J ab=>⟨ab,J⟩) oP,ar⟩
   refine cp (vs:=[.slice none 0 0, .int .i64 0]) rfl fun cK C9 su Kq=> ?_
   refine ⟨C9.dr rfl ?_,rfl,ec C9 (us:=[.slice t.a t.len t.cap, .int .i64 ((kids[j]:Nat):Int)]) rfl rfl fun fV Az amw alR=> ?_⟩
   · intro v ak
     simp only[gp,mm,mn] at ak
     rcases ak with rfl|rfl<;>trivial
   have Fc:Ext ct fV:=Ext.e3 su amw (cP _)
   have pd:=h.ext Fc
   have at2:=Fc.size
   have Z4:=oP.trans Fc
   obtain ⟨ku,Oo⟩:∃ku,ku=ct.heap.size:=⟨_,rfl⟩
   rw[←Oo] at Az⊢
   have at3:=Az.lt
   refine ym (fun eG=>∃ (cV:aa) (sS:Nat→Prop),HA B w.heap.size bC aK nt n K V D vi eG cV aM sS cg (n.keys.take fr++ks.take j) (n.kids.take fr++kids.take j)∧Ext w eG∧Var eG ku [.slice t.a t.len t.cap, .int .i64 ((kids[j]:Nat):Int)] ah.vv∧fV.heap.size≤eG.heap.size) (fun q J=>⟨t,Az.cell,fun ab=> ?_,fun ab=> ?_⟩) ?_
   · rcases rH with ⟨aS,_⟩|⟨_,k,aN,tH⟩
     · rw[aS] at ab;cases ab
     obtain ⟨AE,jn,lq,xn⟩:=cj (V:=⟨none,0,0⟩) pd.o
     have Oq:∀q,aR aP q→cw q:=fun q J=>by
       obtain ⟨ts,_,_,ar,_⟩:=pd.k
       exact (ar q J).1
     refine ⟨aP,jn,t,Az.cell,amu (B:=fun q=>cw q∨(B q∧q<w.heap.size)) pd.o (o:=1) (by simp) (bW.bw pd.k fun q _ ab=> .inl ab) (fun ab=> ?_) (bD.bw (bD.ext aN Fc) fun q _ ab=> .inr ab) (fun q J ae=> ?_) ?_ fun w' gB aA aF aJ aO=>J _ ⟨gB,mv (fun q=>cw q∨(B q∧q<w.heap.size)) fV w',?_,?_,?_,aJ.size⟩⟩
     · rcases ab with ab|ab
       · rcases pd.bO _ ab with aW|aW
         · omega
         · exact aW.2.2.2.1 rfl
       · omega
     · have:=(aN.2.2 q J).1.2
       have:=pd.AD q ae
       omega
     · rw[eu,dV,dV];omega
     · have HB:=aJ.size
       have AF:∀q,aR aP q→q<ct.heap.size∧q≠bC∧q≠aK∧q≠nt∧¬cg q:=fun q J=>by
         have b5:=h.AD q J
         rcases h.bO q (Oq q J) with aW|aW
         · omega
         · exact aW.2
       refine ⟨pd.lv.an aJ fun J=> ?_,pd.r.an aJ fun J=> ?_,aA,?_,eB.an pd.d aJ fun q ab J=> ?_,fun q ab=> ?_,fun q ab=>⟨(pd.a8 q ab).1,by have:=(pd.a8 q ab).2.1;omega,(pd.a8 q ab).2.2⟩,fun q J=> ?_⟩
       · rcases J with e|J
         · exact aI.1 e
         · exact (AF _ J).2.1 rfl
       · rcases J with e|J
         · exact aI.2.2 e.symm
         · exact (AF _ J).2.2.2.1 rfl
       · rw[tH,←er];exact aF
       · rcases J with e|J
         · exact (pd.a8 q ab).2.2.2.1 e
         · exact (AF q J).2.2.2.2 ab
       · rcases ab with (ab|ab)|ab
         · exact (pd.bO q ab).imp id fun aW=>⟨aW.1,by omega,aW.2.2⟩
         · exact .inl ab
         · refine .inr ⟨by omega,ab.2,fun e=> ?_,fun e=> ?_,fun e=> ?_,fun hd=> ?_⟩
           · have:=pd.lv.lt;omega
           · have:=pd.o.lt;omega
           · have:=pd.r.lt;omega
           · have:=(pd.a8 q hd).2.1;omega
       · rcases aO q J with aW|aW
         · exact h.AD q aW
         · omega
     · exact Ext.gr Z4 aJ fun q J=>by
         rcases J with rfl|J
         · exact ad
         · exact pd.AD q J
     · refine Az.an aJ fun J=> ?_
       rcases J with e|J
       · have:=h.o.lt;omega
       · rcases h.bO _ (Oq _ J) with aW|aW<;>omega
   · rcases rH with ⟨_,tH⟩|⟨aS,_⟩
     · refine J _ ⟨aP,cw,?_,Z4,Az,cP _⟩
       rw[tH];exact pd
     · cases Z5:t.a with
       |none=>rw[Z5] at aS;cases aS
       |some A=>rw[Z5] at ab;cases ab
   rintro eG ⟨cV,sS,oS,Ot,Z6,amp⟩
   have at4:=Z6.lt
   obtain ⟨AE,jn,lq,xn⟩:=cj (V:=⟨none,0,0⟩) oS.o
   have Db:∀q,aR aM q→cg q:=fun q J=>(oS.d.2 q J).1
   have so:∀q,sS q→¬(q=aK∨aR aM q):=fun q ab J=>by
     rcases oS.bO q ab with aW|aW
     · rcases J with e|J
       · omega
       · have:=(oS.a8 q (Db q J)).1;omega
     · rcases J with e|J
       · exact aW.2.2.2.1 e
       · exact aW.2.2.2.2.2 (Db q J)
   have hw:IntKind.wrap .i64 ((j:Int)+1)=((j+1:Nat):Int):=by rw[cE (by omega) (by omega)];rfl
   refine ⟨aM,xn,_,by rw[aV];exact Z6.cell,(XM (W:=fun _=>True) kids[j] oS.o (o:=3) (by simp) oS.d (fun ab=>(oS.a8 _ ab).2.2.2.1 rfl) (by rw[eu,dV,dV];omega) fun w' gB aA aF aJ=>⟨⟨j+1,cV,gB,sS,mv cg eG w',hw,by omega,?_,?_⟩,?_⟩).2⟩
   · exact Ext.gr Ot aJ fun q J=>by
       rcases J with rfl|J
       · exact ad
       · exact (oS.a8 q (Db q J)).1
   · have HB:=aJ.size
     refine ⟨oS.lv.an aJ fun J=> ?_,oS.r.an aJ fun J=> ?_,aA,?_,?_,fun q ab=> ?_,fun q ab=> ?_,oS.AD⟩
     · rcases J with e|J
       · exact aI.1 e
       · exact (oS.a8 _ (Db _ J)).2.2.1 rfl
     · rcases J with e|J
       · exact aI.2.2 e.symm
       · exact (oS.a8 _ (Db _ J)).2.2.2.2 rfl
     · exact bW.an oS.k aJ so
     · rw[uK a9,←er];exact aF
     · refine (oS.bO q ab).imp id fun aW=>⟨aW.1,by omega,aW.2.2.1,aW.2.2.2.1,aW.2.2.2.2.1,fun hd=> ?_⟩
       rcases hd with hd|hd
       · exact aW.2.2.2.2.2 hd
       · omega
     · rcases ab with ab|ab
       · exact ⟨(oS.a8 q ab).1,by have:=(oS.a8 q ab).2.1;omega,(oS.a8 q ab).2.2⟩
       · refine ⟨by have:=Ot.size;omega,ab.2,fun e=> ?_,fun e=> ?_,fun e=> ?_⟩
         · have:=oS.lv.lt;omega
         · have:=oS.o.lt;omega
         · have:=oS.r.lt;omega
   · rw[hw]
     show ((kids.length:Int)-((j+1:Nat):Int)).toNat<((kids.length:Int)-(j:Int)).toNat
     omega
 · have cm:j=kids.length:=by
     have:¬((j:Nat):Int)<((s.len:Nat):Int):=ff cm
     omega
   subst cm
   have bx:Ext ct ct.drew:=eE _
   have h:=h.ext bx
   have oP:=oP.trans bx
   have tH:ks.take (kids.length-1)=ks:=gX (by omega)
   rw[tH,tD] at h
   obtain ⟨AE,jn,lq,xn⟩:=cj (V:=⟨none,0,0⟩) h.o
   obtain ⟨Dc,pS,iB,Dd⟩:=cj h.lv
   have Z7:b8 (fun q=>B q∧q<w.heap.size) w n K V D:=aD.bw fun q J ab=>⟨ab,J⟩
   have SY:=Z7.ext oP
   have HC:=bU.len SY.keys
   have Ou:=eF.len SY.kids
   have Z8:IntKind.wrap .i64 ((to:Int)-1)=((to-1:Nat):Int):=by rw[cE (by omega) (by omega)];omega
   have Oq:∀q,aR aP q→cw q:=fun q J=>by
     obtain ⟨ts,_,_,ar,_⟩:=h.k
     exact (ar q J).1
   have Db:∀q,aR aM q→cg q:=fun q J=>(h.d.2 q J).1
   have Z9:=bU.sub SY.keys (lo:=to-1) (hi:=n.keys.length) t3 (cP _)
   have amx:(n.keys.drop (to-1)).take (n.keys.length-(to-1))=n.keys.drop (to-1):=gX (by rw[fw];exact cP _)
   rw[amx] at Z9
   obtain ⟨ue,jS,aY,bm,dM⟩:=R0 h.k Z9 (fun q J ae=>by have:=h.AD q ae;omega) (by rw[eu,dV];omega) (by rw[fw];omega)
   have wT:ct.drew.heap.size=ct.heap.size:=rfl
   have AF:∀q,aR aP q→q<ct.drew.heap.size∧q≠bC∧q≠aK∧q≠nt∧¬cg q:=fun q J=>by
     have b5:=h.AD q J
     rcases h.bO q (Oq q J) with aW|aW
     · omega
     · exact aW.2
   have at5:=dM.size
   have amy:Ext w jS:=Ext.gr oP dM fun q J=>h.AD q J
   have Z_:=h.o.an dM fun J=>(AF _ J).2.2.1 rfl
   have amz:=h.lv.an dM fun J=>(AF _ J).2.1 rfl
   have amA:=h.r.an dM fun J=>(AF _ J).2.2.2.1 rfl
   have amB:eB cg jS aM _:=eB.an h.d dM fun q ab J=>(AF q J).2.2.2.2 ab
   obtain ⟨dR,e0⟩:=j5 Z_ (i:=1) (by simp)
   refine bM ⟨id,aP,jn,id,K,pS,?_,ue,jS,?_,by rw[aV];exact dR,by rw[aV];exact e0,?_⟩
   · rw[Z8,HC];omega
   · rw[Z8,hF,HC];exact aY
   rw[aV,gR]
   have Fg:=iL jS aK 1 (.slice ue.a ue.len ue.cap)
   have Ku:=j4 Z_ (i:=1) (.slice ue.a ue.len ue.cap)
   obtain ⟨hU,amC⟩:∃hU,hU=jS.setCell ⟨aK,1,none⟩ (.slice ue.a ue.len ue.cap):=⟨_,rfl⟩
   rw[←amC] at Fg Ku⊢
   have alY:=Fg.size
   have SZ:=amz.an Fg (fun e=>aI.1 e)
   have S0:=amA.an Fg (fun e=>aI.2.2 e.symm)
   have S1:eB cg hU aM _:=eB.an amB Fg fun q ab e=>(h.a8 q ab).2.2.2.1 e
   have vx:Ext w hU:=Ext.e3 amy Fg ad
   have nw:Ext hU hU.drew:=eE _
   have nI:∀q,(cw q∨(B q∧q<w.heap.size)∨ct.drew.heap.size≤q)→q≠aK:=fun q J e=>by
     subst e
     rcases J with J|J|J
     · rcases h.bO _ J with aW|aW
       · omega
       · exact aW.2.2.2.1 rfl
     · omega
     · have:=h.o.lt;omega
   have amD:=bU.ext (bU.an bm Fg nI) nw
   have Ku:=Ku.ext nw
   have SZ:=SZ.ext nw
   have S0:=S0.ext nw
   have S1:=eB.ext S1 nw
   have vx:=vx.trans nw
   obtain ⟨AE,jn,lq,xn⟩:=cj (V:=⟨none,0,0⟩) Ku
   obtain ⟨Dc,pS,iB,Dd⟩:=cj SZ
   have aaa:=eF.sub (Z7.ext vx).kids (lo:=to) (hi:=n.kids.length) t2 (cP _)
   have amE:(n.kids.drop to).take (n.kids.length-to)=n.kids.drop to:=gX (by rw[fw];exact cP _)
   rw[amE] at aaa
   obtain ⟨uf,rI,f1,f2,f3⟩:=Ys S1 aaa (by rw[eu,dV];omega) (by rw[fw];omega)
   have at6:hU.drew.heap.size=hU.heap.size:=rfl
   have at7:=f3.size
   have g9:∀q,aR aM q→w.heap.size≤q∧q<ct.drew.heap.size∧q≠bC∧q≠aK∧q≠nt:=fun q J=>h.a8 q (Db q J)
   have amF:Ext w rI:=Ext.gr vx f3 fun q J=>(g9 q J).1
   have aab:=Ku.an f3 fun J=>(g9 _ J).2.2.2.1 rfl
   have amG:=S0.an f3 fun J=>(g9 _ J).2.2.2.2 rfl
   have amH:=bU.an amD f3 fun q ab J=>by
     have at8:=g9 q J
     rcases ab with ab|ab|ab
     · rcases h.bO q ab with aW|aW
       · omega
       · exact aW.2.2.2.2.2 (Db q J)
     · omega
     · omega
   obtain ⟨dR,e0⟩:=j5 aab (i:=3) (by simp)
   refine bM (bM ⟨id,aM,xn,id,D,Dd,?_,uf,rI,?_,by rw[aV];exact dR,by rw[aV];exact e0,?_⟩)
   · rw[Ou];omega
   · rw[hF,Ou];exact f1
   rw[aV,gR]
   have HD:=iL rI aK 3 (.slice uf.a uf.len uf.cap)
   have aac:=j4 aab (i:=3) (.slice uf.a uf.len uf.cap)
   obtain ⟨nR,amI⟩:∃nR,nR=rI.setCell ⟨aK,3,none⟩ (.slice uf.a uf.len uf.cap):=⟨_,rfl⟩
   rw[←amI] at HD aac⊢
   have at9:=HD.size
   have amJ:=amG.an HD (fun e=>aI.2.2 e.symm)
   have amK:Ext w nR:=Ext.e3 amF HD ad
   have amL:=bU.an amH HD nI
   have amM:=eF.an f2 HD fun q ab e=>by
     subst e
     rcases ab with ab|ab|ab
     · exact (h.a8 _ ab).2.2.2.1 rfl
     · omega
     · have:=h.o.lt;omega
   obtain ⟨AE,jn,lq,xn⟩:=cj (V:=⟨none,0,0⟩) aac
   refine bM ⟨_,AE,ue,jn,⟨none,0,0⟩,lq,uf,xn,?_⟩
   refine rq false ue ⟨none,0,0⟩ uf amJ R1 (Q:=fun b K V D aw=>On B n fr to ks kids w (.agg #[.bool b, .slice K.a K.len K.cap, .slice V.a V.len V.cap, .slice D.a D.len D.cap]) aw) fun kV CI=> ?_
   refine ⟨ue,⟨none,0,0⟩,uf,rfl,⟨?_,?_,?_⟩,Ext.e3 amK CI ar⟩
   · refine bU.bw (bU.an amL CI fun q ab e=> ?_) fun q _ ab=> ?_
     · subst e
       rcases ab with ab|ab|ab
       · rcases h.bO _ ab with aW|aW
         · omega
         · exact aW.2.2.2.2.1 rfl
       · omega
       · have:=h.r.lt;omega
     · rcases ab with ab|ab|ab
       · rcases h.bO _ ab with aW|aW
         · exact .inl aW.1
         · exact .inr aW.1
       · exact .inl ab.1
       · have:=oP.size;exact .inr (by omega)
   · exact bU.none _ _
   · refine eF.bw (eF.an amM CI fun q ab e=> ?_) fun q _ ab=> ?_
     · subst e
       rcases ab with ab|ab|ab
       · exact (h.a8 _ ab).2.2.2.2 rfl
       · omega
       · have:=h.r.lt;omega
     · rcases ab with ab|ab|ab
       · exact .inr (h.a8 _ ab).1
       · exact .inl ab.1
       · have:=vx.size;exact .inr (by omega)
end
section
theorem S2 (K D:aa) (w:World):Sem.run Tryz.prog (Instr.build ah.cF #[(1, .slice K.a K.len K.cap),(3, .slice D.a D.len D.cap)]) w= .ok (.agg #[.bool false, .slice K.a K.len K.cap, .slice none 0 0, .slice D.a D.len D.cap]) w:=by kernel_rfl
theorem yZ {B:Nat→Prop} {w:World} {n:aL} {K V D s:aa} {ks:List Key} {kids:List Nat} {fr to:Nat} (aD:b8 B w n K V D) (az:xm B w s ks kids) (f1:fr≤n.keys.length) (f2:fr≤n.kids.length) (t1:1≤to) (t2:to≤n.kids.length) (t3:to-1≤n.keys.length) (di:n.keys.length≤1000) (c_:n.kids.length≤1000):
   aQ Tryz.prog F.yZ #[e5 n K V D, .int .i64 (fr:Nat), .int .i64 (to:Nat), .slice s.a s.len s.cap] w (On B n fr to ks kids w):=by
 refine W.amN n.leaf K V D (fr:Nat) (to:Nat) s w _ ?_
 (delta W.yZ dt ai aq dL nd tc aE a8 bA CA NQ st aC bP ND;dsimp only)
 refine cp (vs:=[.bool n.leaf, .slice K.a K.len K.cap, .slice V.a V.len V.cap, .slice D.a D.len D.cap]) rfl fun ag gd bz kM=> ?_
 refine cp (vs:=[.bool false, .slice none 0 0, .slice none 0 0, .slice none 0 0]) rfl fun aw fK cv mo=>bM ?_
 have bx:Ext aw aw.drew:=eE _
 have hL:=(bz.trans cv).trans bx
 obtain ⟨aZ,ng⟩:∃aZ,aZ=aw.drew:=⟨_,rfl⟩
 have Cd:aZ.heap.size=aw.heap.size:=by rw[ng];rfl
 rw[←ng] at hL bx⊢
 have va:=(gd.ext cv).ext bx
 have yu:=fK.ext bx
 obtain ⟨cA,bd,bc,a_⟩:=cj va
 have qG:b8 (fun q=>B q∧q<w.heap.size) aZ n K V D:=(aD.bw fun q J ab=>⟨ab,J⟩).ext hL
 have HC:=bU.len qG.keys
 have Ou:=eF.len qG.kids
 have at_:=bU.le qG.keys
 have amO:=qG.kids.2.1
 have S3:=bU.sub qG.keys (lo:=0) (hi:=fr) (fx _) f1
 have Ov:=eF.sub qG.kids (lo:=0) (hi:=fr) (fx _) f2
 rw[zG,Gr] at S3 Ov
 have gK:Int.toNat ((fr:Nat):Int)-0=fr:=by rw[hF];rfl
 have fin:∀ (eY:World) (aK:Nat) (gl hV:aa),Ext aZ eY→Var eY aK [.bool false, .slice gl.a gl.len gl.cap, .slice none 0 0, .slice hV.a hV.len hV.cap] ah.cF→aZ.heap.size≤aK→bW (fun q=>(B q∧q<w.heap.size)∨(aZ.heap.size≤q∧aR gl q)) eY gl (n.keys.take fr)→b6 1 ah.int eY hV (l6 (n.kids.take fr))→
     (∀q,aR gl q→aZ.heap.size≤q∧q≠aK)→(∀q,aR hV q→aZ.heap.size≤q∧q≠aK∧¬aR gl q)→SW w.heap.size aK ag.heap.size s (to:Nat) eY (On B n fr to ks kids w):=by
   intro eY aK gl hV af bJ e8 bk u_ aad aae
   have bI:=af.size
   have a9:∀q,aR gl q→q<eY.heap.size:=fun q J=>by
     obtain ⟨ts,_,aI,_,_⟩:=bk
     exact aI.lt q J
   refine amv (cw:=fun q=>(B q∧q<w.heap.size)∨aR gl q) (cg:=fun q=>aR hV q) ⟨va.ext af,yu.ext af,bJ,bW.bw bk fun q _ ab=>ab.imp id fun h=>h.2,⟨u_,fun q J=>⟨J,b6.lt u_ q J⟩⟩,fun q ab=> ?_,fun q ab=> ?_,fun q J=>by have:=(aad q J).1;omega⟩ (hL.trans af) aD az rfl (cP _) (by omega) (by omega) ⟨by omega,by omega,by omega⟩ t1 t2 t3 di c_
   · rcases ab with ab|ab
     · exact .inl ab
     · have aW:=aad q ab
       exact .inr ⟨by omega,a9 q ab,by omega,aW.2,by omega,fun b5=>(aae q b5).2.2 ab⟩
   · have aW:=aae q ab
     exact ⟨by omega,b6.lt u_ q ab,by omega,aW.2.1,by omega⟩
 refine ⟨fun _=>False,id,K,bd,⟨by omega,by omega⟩,id,D,a_,⟨by omega,by omega⟩,?_,?_⟩
 · rw[gK]
   refine (Z3 S3 (by rw[dV];omega)).use ?_
   rintro _ a5 ⟨gl,rfl,Fh,eN,yc⟩
   have Co:=eN.size
   refine ⟨gl,rfl,eN,?_,?_⟩
   · refine (JJ (Ov.1.ext eN) (by rw[dV];omega)).use ?_
     rintro _ bV ⟨hV,rfl,HE,j3,aaf⟩
     have NI:=j3.size
     refine ⟨hV,rfl,j3,_,S2 gl hV,cp (vs:=[.bool false, .slice none 0 0, .slice none 0 0, .slice none 0 0]) rfl fun dY aag ug amP=>⟨ug,aag.dr rfl (lU (b:=false) (K:=gl) (V:=⟨none,0,0⟩) (D:=hV)),rfl,ec aag (us:=[.bool false, .slice gl.a gl.len gl.cap, .slice none 0 0, .slice hV.a hV.len hV.cap]) rfl rfl fun c0 Kv qJ S4=> ?_⟩⟩
     have pe:Ext bV c0:=Ext.e3 ug qJ (cP _)
     have fm:∀q,aR gl q→q<a5.heap.size:=fun q J=>by
       obtain ⟨ts,_,aI,_,_⟩:=Fh
       exact aI.lt q J
     exact fin c0 bV.heap.size gl hV (eN.trans (j3.trans pe)) Kv (by omega) (bW.bw (bW.ext Fh (j3.trans pe)) fun q _ ab=>ab.imp (fun h=>h.1) id) (HE.ext pe) (fun q J=>⟨yc q J,by have:=fm q J;omega⟩) fun q J=>⟨by have:=aaf q J;omega,by have:=b6.lt HE q J;omega,fun h=>by have:=fm q h;have:=aaf q J;omega⟩
   · refine cp (vs:=[.bool false, .slice none 0 0, .slice none 0 0, .slice none 0 0]) rfl fun gv S5 De amQ=>⟨De,(JJ ((Ov.1.ext eN).ext De) (by rw[dV];omega)).use ?_⟩
     rintro _ c7 ⟨hV,rfl,HE,Df,AG⟩
     have Fi:=S5.ext Df
     refine ⟨hV,rfl,Df,_,S2 gl hV,Fi.dr rfl (lU (b:=false) (K:=gl) (V:=⟨none,0,0⟩) (D:=hV)),rfl,ec Fi (us:=[.bool false, .slice gl.a gl.len gl.cap, .slice none 0 0, .slice hV.a hV.len hV.cap]) rfl rfl fun c0 Kv qJ S4=> ?_⟩
     have pe:Ext a5 c0:=Ext.e3 (De.trans Df) qJ (cP _)
     have fm:∀q,aR gl q→q<a5.heap.size:=fun q J=>by
       obtain ⟨ts,_,aI,_,_⟩:=Fh
       exact aI.lt q J
     exact fin c0 a5.heap.size gl hV (eN.trans pe) Kv (by omega) (bW.bw (bW.ext Fh pe) fun q _ ab=>ab.imp (fun h=>h.1) id) (HE.an qJ fun q J e=>by have:=AG q J;omega) (fun q J=>⟨yc q J,by have:=fm q J;omega⟩) fun q J=>⟨by have:=AG q J;omega,by have:=AG q J;omega,fun h=>by have:=fm q h;have:=AG q J;omega⟩
 · rw[gK]
   refine cp (vs:=[.bool false, .slice none 0 0, .slice none 0 0, .slice none 0 0]) rfl fun gv S5 De amQ=>⟨De,(Z3 (bU.ext S3 De) (by rw[dV];omega)).use ?_⟩
   rintro _ a5 ⟨gl,rfl,Fh,eN,yc⟩
   have Co:=eN.size
   refine ⟨gl,rfl,eN,(JJ ((Ov.1.ext De).ext eN) (by rw[dV];omega)).use ?_⟩
   rintro _ c7 ⟨hV,rfl,HE,Df,AG⟩
   have Fi:=(S5.ext eN).ext Df
   refine ⟨hV,rfl,Df,_,S2 gl hV,Fi.dr rfl (lU (b:=false) (K:=gl) (V:=⟨none,0,0⟩) (D:=hV)),rfl,ec Fi (us:=[.bool false, .slice gl.a gl.len gl.cap, .slice none 0 0, .slice hV.a hV.len hV.cap]) rfl rfl fun c0 Kv qJ S4=> ?_⟩
   have pe:Ext aZ c0:=Ext.e3 ((De.trans eN).trans Df) qJ (cP _)
   have fm:∀q,aR gl q→q<a5.heap.size:=fun q J=>by
     obtain ⟨ts,_,aI,_,_⟩:=Fh
     exact aI.lt q J
   have amR:bW (fun q=>(B q∧q<w.heap.size)∨(aZ.heap.size≤q∧aR gl q)) c0 gl (n.keys.take fr):=by
     have aW:=bW.bw (C:=fun q=>(B q∧q<w.heap.size)∨(gv.heap.size≤q∧aR gl q)) (bW.ext Fh Df) fun q _ ab=>ab.imp (fun h=>h.1) id
     exact bW.bw (bW.an aW qJ fun q ab e=>by rcases ab with ab|ab<;>omega) fun q _ ab=>ab.imp id fun h=>⟨by omega,h.2⟩
   exact fin c0 aZ.heap.size gl hV pe Kv (cP _) amR (HE.an qJ fun q J e=>by have:=AG q J;omega) (fun q J=>⟨by have:=yc q J;omega,by have:=yc q J;omega⟩) fun q J=>⟨by have:=AG q J;omega,by have:=AG q J;omega,fun h=>by have:=fm q h;have:=AG q J;omega⟩
end
section
def y0 (n:aL):Prop:=dX n∧cf n≤400∧(232<cf n→1≤da n∧(if n.leaf then da n≤n.keys.length-1∧1≤n.keys.length-1 else da n≤n.keys.length-2∧1≤n.keys.length-2)∧cf (n.left (da n))≤232∧cf (n.right (da n))≤232)
structure y1 (B:Nat→Prop) (w:World) (A:Addr) (u:gk):Prop where
 bd:w.cell? (A.add 1)=some (.bool u.n.leaf)
 bc:w.cell? ((A.add 1).add 1)=some (.slice u.K.a u.K.len u.K.cap)
 a_:w.cell? ((A.add 1).add 2)=some (.slice u.V.a u.V.len u.V.cap)
 gu:w.cell? ((A.add 1).add 3)=some (.slice u.D.a u.D.len u.D.cap)
 dO:w.cell? (A.add 5)=some (.int .i64 (u.eP:Nat))
 dZ:b8 B w u.n u.K u.V u.D
 dv:B A.block
 lt:A.block<w.heap.size
theorem y1.ext {B:Nat→Prop} {w w':World} {A:Addr} {u:gk} (h:y1 B w A u) (af:Ext w w'):y1 B w' A u:=
 ⟨ao.cell af (fun h=>h) h.bd,ao.cell af (fun h=>h) h.bc,ao.cell af (fun h=>h) h.a_,ao.cell af (fun h=>h) h.gu,ao.cell af (fun h=>h) h.dO,h.dZ.ext af,h.dv,lg h.lt af.size⟩
theorem y1.to {w w':World} {T av:aX} {k:Nat} {A:Addr} {u:gk} (h:y1 (fun q=>¬T.M q) w A u) (aN:cc T av w w' k):y1 (fun q=>¬av.M q) w' A u:=by
 have al:=aN.an
 have j1:¬T.N A.block:=fun aD=>h.dv (aX.lS aD)
 refine ⟨ao.cell al (A:=A.add 1) j1 h.bd,ao.cell al (A:=(A.add 1).add 1) j1 h.bc,ao.cell al (A:=(A.add 1).add 2) j1 h.a_,ao.cell al (A:=(A.add 1).add 3) j1 h.gu,ao.cell al (A:=A.add 5) j1 h.dO,?_,fun hm=> ?_,lg h.lt al.size⟩
 · have U:=aN.dZ (lo:=0) (h.dZ.bw fun q _ ab=>⟨fx _,ab⟩)
   exact U.bw fun q _ ab=>ab.2
 · rcases aN.jR _ hm with U|U
   · exact h.dv U
   · have:=h.lt;omega
theorem pR.base {T:aX} {c:gw} {n:aL} {bB w w':World} {v:Value} (h:pR T c n w v w') (af:Ext bB w):pR T c n bB v w':=by
 obtain ⟨av,c',m,s,aA,aF,aJ,aO⟩:=h
 exact ⟨av,c',m,s,aA,((fN.ext T c af).trans aF).mono (by omega),aJ,aO⟩
theorem pR.out {T:aX} {c:gw} {n:aL} {w w':World} {v:Value} (h:pR T c n w v w'):∃ (s:aa) (e:Int),v= .tuple #[.slice s.a s.len s.cap, .int .i64 e]:=by
 obtain ⟨av,c',m,s,aA,aF,aJ,aO⟩:=h
 rcases aO with ⟨ks,rfl,_⟩|⟨rfl,_⟩
 · exact ⟨s,0,rfl⟩
 · exact ⟨s,3,rfl⟩
def S6 (bC aK oo bv:Nat) (c up:Option Addr) (gM j_:Int) (eY:World) (Q:Value→World→Prop):Prop:=
 c5 (fun Dg:World→Prop=>∃Dh:Addr,up=some Dh∧∃xo:Int,eY.cell? (Dh.add 5)=some (.int .i64 xo)∧((decide ((j_:Int)>xo))=true→ay (eY.drew) fun h5=>∃xp:Nat→Prop,¬xp (⟨bC,0,none⟩:Addr).block∧∃qM:Bool,h5.cell? ⟨bC,0,none⟩=some (.bool qM)∧∃iN:aa,h5.cell? (Addr.add ⟨bC,0,none⟩ 1)=some (.slice iN.a iN.len iN.cap)∧∃gT:aa,h5.cell? (Addr.add ⟨bC,0,none⟩ 2)=some (.slice gT.a gT.len gT.cap)∧∃gU:aa,h5.cell? (Addr.add ⟨bC,0,none⟩ 3)=some (.slice gU.a gU.len gU.cap)∧¬xp (⟨aK,0,none⟩:Addr).block∧∃AH:Bool,h5.cell? ⟨aK,0,none⟩=some (.bool AH)∧∃iO:aa,h5.cell? (Addr.add ⟨aK,0,none⟩ 1)=some (.slice iO.a iO.len iO.cap)∧∃iv:aa,h5.cell? (Addr.add ⟨aK,0,none⟩ 2)=some (.slice iv.a iv.len iv.cap)∧∃ij:aa,h5.cell? (Addr.add ⟨aK,0,none⟩ 3)=some (.slice ij.a ij.len ij.cap)∧cM h5 ⟨oo,0,none⟩ [.bool qM, .slice iN.a iN.len iN.cap, .slice gT.a gT.len gT.cap, .slice gU.a gU.len gU.cap]∧(4:Nat)=4∧ay (setCells h5 ⟨oo,0,none⟩ 0 [.bool qM, .slice iN.a iN.len iN.cap, .slice gT.a gT.len gT.cap, .slice gU.a gU.len gU.cap]) fun oq=>ao xp h5 oq∧cM oq ⟨bv,0,none⟩ [.bool AH, .slice iO.a iO.len iO.cap, .slice iv.a iv.len iv.cap, .slice ij.a ij.len ij.cap]∧(4:Nat)=4∧ay (setCells oq ⟨bv,0,none⟩ 0 [.bool AH, .slice iO.a iO.len iO.cap, .slice iv.a iv.len iv.cap, .slice ij.a ij.len ij.cap]) fun y2=>Dg y2)∧((decide ((j_:Int)>xo))=false→Dg eY)) (fun (l8:World)=>ay (l8.drew) fun fH=>∃mD:Nat→Prop,¬mD (⟨oo,0,none⟩:Addr).block∧∃rK:Bool,fH.cell? ⟨oo,0,none⟩=some (.bool rK)∧∃jk:aa,fH.cell? (Addr.add ⟨oo,0,none⟩ 1)=some (.slice jk.a jk.len jk.cap)∧∃js:aa,fH.cell? (Addr.add ⟨oo,0,none⟩ 2)=some (.slice js.a js.len js.cap)∧∃fA:aa,fH.cell? (Addr.add ⟨oo,0,none⟩ 3)=some (.slice fA.a fA.len fA.cap)∧∃xq:Addr,up=some xq∧¬mD ((xq.add 1).add 1).block∧∃kQ:aa,fH.cell? ((xq.add 1).add 1)=some (.slice kQ.a kQ.len kQ.cap)∧∃xr:Addr,kQ.a=some xr∧((0:Int)≤gM∧gM<((kQ.len:Nat):Int))∧¬mD (xr.add (Int.toNat gM*1)).block∧∃mE:aa,fH.cell? (xr.add (Int.toNat gM*1))=some (.slice mE.a mE.len mE.cap)∧¬mD (⟨bv,0,none⟩:Addr).block∧∃y3:Bool,fH.cell? ⟨bv,0,none⟩=some (.bool y3)∧∃jl:aa,fH.cell? (Addr.add ⟨bv,0,none⟩ 1)=some (.slice jl.a jl.len jl.cap)∧∃jm:aa,fH.cell? (Addr.add ⟨bv,0,none⟩ 2)=some (.slice jm.a jm.len jm.cap)∧∃mF:aa,fH.cell? (Addr.add ⟨bv,0,none⟩ 3)=some (.slice mF.a mF.len mF.cap)∧(Calls Tryz.prog F.qd #[.agg #[.bool rK, .slice jk.a jk.len jk.cap, .slice js.a js.len js.cap, .slice fA.a fA.len fA.cap], .slice mE.a mE.len mE.cap, .agg #[.bool y3, .slice jl.a jl.len jl.cap, .slice jm.a jm.len jm.cap, .slice mF.a mF.len mF.cap]] fH fun S7 jC=>∃vy:Bool,∃lV:aa,∃lW:aa,∃lX:aa,∃xt:Bool,S7= .returned ( .tuple #[.agg #[.bool vy, .slice lV.a lV.len lV.cap, .slice lW.a lW.len lW.cap, .slice lX.a lX.len lX.cap], .bool xt])∧ao mD fH jC∧ay (jC.alloc (.cells #[.bool false, .slice none 0 0, .slice none 0 0, .slice none 0 0] ah.cF)) fun qg=>ao mD jC qg∧cM qg ⟨jC.heap.size,0,none⟩ [.bool vy, .slice lV.a lV.len lV.cap, .slice lW.a lW.len lW.cap, .slice lX.a lX.len lX.cap]∧(4:Nat)=4∧ay (setCells qg ⟨jC.heap.size,0,none⟩ 0 [.bool vy, .slice lV.a lV.len lV.cap, .slice lW.a lW.len lW.cap, .slice lX.a lX.len lX.cap]) fun lY=>((!xt)=true→Q (.tuple #[.slice none 0 0, .int .i64 0, .int .i64 0, .int .i64 4]) lY)∧((!xt)=false→∃Fj:Bool,lY.cell? ⟨jC.heap.size,0,none⟩=some (.bool Fj)∧∃oT:aa,lY.cell? (Addr.add ⟨jC.heap.size,0,none⟩ 1)=some (.slice oT.a oT.len oT.cap)∧∃qV:aa,lY.cell? (Addr.add ⟨jC.heap.size,0,none⟩ 2)=some (.slice qV.a qV.len qV.cap)∧∃qW:aa,lY.cell? (Addr.add ⟨jC.heap.size,0,none⟩ 3)=some (.slice qW.a qW.len qW.cap)∧Calls Tryz.prog F.ss #[.pointer c, .agg #[.bool Fj, .slice oT.a oT.len oT.cap, .slice qV.a qV.len qV.cap, .slice qW.a qW.len qW.cap]] lY fun S8 Kw=>∃qX:aa,∃Fk:Int,S8= .returned (.tuple #[.slice qX.a qX.len qX.cap, .int .i64 Fk])∧Q ( .tuple #[.slice qX.a qX.len qX.cap, .int .i64 gM, .int .i64 (IntKind.wrap .i64 (gM+2)), .int .i64 Fk]) Kw))∧(ay (fH.alloc (.cells #[.bool false, .slice none 0 0, .slice none 0 0, .slice none 0 0] ah.cF)) fun vz=>ao mD fH vz∧Calls Tryz.prog F.qd #[.agg #[.bool rK, .slice jk.a jk.len jk.cap, .slice js.a js.len js.cap, .slice fA.a fA.len fA.cap], .slice mE.a mE.len mE.cap, .agg #[.bool y3, .slice jl.a jl.len jl.cap, .slice jm.a jm.len jm.cap, .slice mF.a mF.len mF.cap]] vz fun S9 xu=>∃AI:Bool,∃nx:aa,∃oU:aa,∃oV:aa,∃AJ:Bool,S9= .returned ( .tuple #[.agg #[.bool AI, .slice nx.a nx.len nx.cap, .slice oU.a oU.len oU.cap, .slice oV.a oV.len oV.cap], .bool AJ])∧ao mD vz xu∧cM xu ⟨fH.heap.size,0,none⟩ [.bool AI, .slice nx.a nx.len nx.cap, .slice oU.a oU.len oU.cap, .slice oV.a oV.len oV.cap]∧(4:Nat)=4∧ay (setCells xu ⟨fH.heap.size,0,none⟩ 0 [.bool AI, .slice nx.a nx.len nx.cap, .slice oU.a oU.len oU.cap, .slice oV.a oV.len oV.cap]) fun uh=>((!AJ)=true→Q (.tuple #[.slice none 0 0, .int .i64 0, .int .i64 0, .int .i64 4]) uh)∧((!AJ)=false→∃Kx:Bool,uh.cell? ⟨fH.heap.size,0,none⟩=some (.bool Kx)∧∃ui:aa,uh.cell? (Addr.add ⟨fH.heap.size,0,none⟩ 1)=some (.slice ui.a ui.len ui.cap)∧∃uj:aa,uh.cell? (Addr.add ⟨fH.heap.size,0,none⟩ 2)=some (.slice uj.a uj.len uj.cap)∧∃pT:aa,uh.cell? (Addr.add ⟨fH.heap.size,0,none⟩ 3)=some (.slice pT.a pT.len pT.cap)∧Calls Tryz.prog F.ss #[.pointer c, .agg #[.bool Kx, .slice ui.a ui.len ui.cap, .slice uj.a uj.len uj.cap, .slice pT.a pT.len pT.cap]] uh fun S_ Ta=>∃uk:aa,∃Ky:Int,S_= .returned (.tuple #[.slice uk.a uk.len uk.cap, .int .i64 Ky])∧Q ( .tuple #[.slice uk.a uk.len uk.cap, .int .i64 gM, .int .i64 (IntKind.wrap .i64 (gM+2)), .int .i64 Ky]) Ta)))
theorem amS {Tb Tc:Nat→Prop} {bB eY:World} {T:aX} {c:gw} {bC aK oo bv:Nat} {A:Addr} {u:gk} {n o:aL} {K V D mG mH Do:aa} {fr other:Nat} {Q:Value→World→Prop} (h:fM bB T c) (af:Ext bB eY) (kO:Var bB bC (hK n K V D) ah.cF) (e8:Var bB aK (hK o mG mH Do) ah.cF)
   (aah:Var eY oo (hK o mG mH Do) ah.cF) (Cl:Var eY bv (hK n K V D) ah.cF) (U:bB.heap.size≤oo) (ad:bB.heap.size≤bv) (ar:oo≠bv) (aD:b8 Tb bB n K V D) (bJ:b8 Tc bB o mG mH Do) (hu:y1 (fun q=>¬T.M q) bB A u)
   (gV:T.C.D.cI≤900000090) (jr:2≤fG T) (n6:c.made.length≤900) (AK:dX n) (Fl:dX o) (Ow:cf n≤400) (Td:cf o≤400) (az:o.leaf=n.leaf) (gC:fr<u.n.keys.length) (rH:ew u.n.keys[fr]) (m:aL) (hm:m=if u.eP<other then g0 n u.n.keys[fr] o else g0 o u.n.keys[fr] n) (jT:y0 m) (py:fr≤1000)
   (yl:∀ (s:aa) (e:Int) (w':World),pR T c m bB (.tuple #[.slice s.a s.len s.cap, .int .i64 e]) w'→Q (.tuple #[.slice s.a s.len s.cap, .int .i64 (fr:Nat), .int .i64 ((fr+2:Nat):Int), .int .i64 e]) w'):
   S6 bC aK oo bv (some ⟨c.dd,0,none⟩) (some A) (fr:Nat) (other:Nat) eY Q:=by
 have si:=kO.lt
 have EJ:=e8.lt
 have bI:=af.size
 have fn:=AK.iM (by omega)
 have aua:=Fl.iM (by omega)
 unfold S6
 refine ym (fun l8=>∃ (a b:aL) (eL ei dT dG dH dI:aa) (NO NP:Nat→Prop),Ext bB l8∧Var l8 oo (hK a eL ei dT) ah.cF∧Var l8 bv (hK b dG dH dI) ah.cF∧b8 NO bB a eL ei dT∧b8 NP bB b dG dH dI∧m=g0 a u.n.keys[fr] b∧dX a∧dX b∧a.leaf=b.leaf∧a.keys.length≤200∧b.keys.length≤200)
   (fun q J=>⟨A,rfl,_,(hu.ext af).dO,fun ab=> ?_,fun ab=>J _ ⟨o,n,mG,mH,Do,K,V,D,Tc,Tb,af,aah,Cl,bJ,aD,?_,Fl,AK,az,by omega,by omega⟩⟩) ?_
 · have ab:u.eP<other:=by
     have:((other:Nat):Int)>((u.eP:Nat):Int):=dU ab
     omega
   have bx:=af.trans (eE eY)
   obtain ⟨bE,di,c_,bq⟩:=cj (kO.ext bx)
   obtain ⟨AE,jn,lq,xn⟩:=cj (e8.ext bx)
   have aai:=aah.drew
   have amT:=Cl.drew
   refine bM ⟨fun q=>q=oo,(show bC≠oo by omega),_,bE,K,di,V,c_,D,bq,(show aK≠oo by omega),_,AE,mG,jn,mH,lq,Do,xn,aai.dr rfl lU,rfl,ec aai (us:=hK n K V D) rfl rfl fun oq amU Te aub=> ?_⟩
   have aaj:=amT.an Te (fun e=>ar e.symm)
   refine ⟨Te,aaj.dr rfl lU,rfl,ec aaj (us:=hK o mG mH Do) rfl rfl fun y2 amV aak auc=> ?_⟩
   exact J _ ⟨n,o,K,V,D,mG,mH,Do,Tb,Tc,Ext.e3 (Ext.e3 bx Te U) aak ad,amU.an aak ar,amV,aD,bJ,by rw[hm,if_pos ab],AK,Fl,az.symm,by omega,by omega⟩
 · have ab:¬u.eP<other:=by
     have:¬((other:Nat):Int)>((u.eP:Nat):Int):=ff ab
     omega
   rw[hm,if_neg ab]
 rintro l8 ⟨a,b,eL,ei,dT,dG,dH,dI,NO,NP,amW,aS,ab,aal,aam,Tf,nK,dc,pH,pE,h7⟩
 have bx:=amW.trans (eE l8)
 have rL:=aS.drew
 have ni:=ab.drew
 obtain ⟨pU,bj,cL,e6⟩:=cj rL
 obtain ⟨o_,cX,cy,eJ⟩:=cj ni
 have Kz:=hu.ext bx
 obtain ⟨amX,aH,amY,Tg,amZ,mS,aud⟩:=bU.at Kz.dZ.keys gC
 have vA:dX (g0 a u.n.keys[fr] b):=by rw[←Tf];exact jT.1
 have KA:=qd (aal.ext bx) (aam.ext bx) mS.1 (fun q J=>(mS.2.2 q J).2) (by have:=rH.2;omega) nK dc pH vA (by omega) (by omega)
 rw[←Tf] at KA
 have mX:IntKind.wrap .i64 (((fr:Nat):Int)+2)=((fr+2:Nat):Int):=by rw[cE (by omega) (by omega)];rfl
 obtain ⟨wd,aue⟩:∃wd,wd=l8.drew:=⟨_,rfl⟩
 refine bM ⟨fun _=>False,id,_,pU,eL,bj,ei,cL,dT,e6,A,rfl,id,u.K,Kz.bc,amX,amY,Tg,id,aH,amZ,id,_,o_,dG,cX,dH,cy,dI,eJ,?_,?_⟩
 · refine KA.use ?_
   rintro _ jC ⟨Fm,Fo,Fp,rfl,AL,zY⟩
   refine ⟨_,Fm,Fo,Fp,true,rfl,zY,cp (vs:=[.bool false, .slice none 0 0, .slice none 0 0, .slice none 0 0]) rfl fun qg aan aao auf=>⟨aao,aan.dr rfl lU,rfl,ec aan (us:=hK m Fm Fo Fp) rfl rfl fun lY Th Ox am0=>⟨fun ab=>(by cases ab),fun _=> ?_⟩⟩⟩
   have Oy:Ext jC lY:=Ext.e3 aao Ox (cP _)
   have dC:=(bx.trans zY).trans Oy
   obtain ⟨pG,vB,sv,qY⟩:=cj Th
   refine ⟨_,pG,Fm,vB,Fo,sv,Fp,qY,(Om (h.ext dC) gV jr n6 (AL.ext Oy) jT.1 jT.2.1 jT.2.2).use ?_⟩
   intro v w' ak
   obtain ⟨s,e,rfl⟩:=ak.out
   rw[mX]
   exact ⟨s,e,rfl,yl s e w' (ak.base dC)⟩
 · refine cp (vs:=[.bool false, .slice none 0 0, .slice none 0 0, .slice none 0 0]) rfl fun vz am1 HF aug=>⟨HF,?_⟩
   have KA:=qd ((aal.ext bx).ext HF) ((aam.ext bx).ext HF) (mS.1.ext HF) (fun q J=>lg (mS.2.2 q J).2 HF.size) (by have:=rH.2;omega) nK dc pH vA (by omega) (by omega)
   rw[←Tf] at KA
   refine KA.use ?_
   rintro _ xu ⟨Fm,Fo,Fp,rfl,AL,zY⟩
   have aap:=am1.ext zY
   refine ⟨_,Fm,Fo,Fp,true,rfl,zY,aap.dr rfl lU,rfl,ec aap (us:=hK m Fm Fo Fp) rfl rfl fun lY Th Ox am0=>⟨fun ab=>(by cases ab),fun _=> ?_⟩⟩
   have Oy:Ext l8.drew lY:=Ext.e3 (HF.trans zY) Ox (cP _)
   have dC:=bx.trans Oy
   have am2:=b8.an AL Ox fun q J e=>by omega
   obtain ⟨pG,vB,sv,qY⟩:=cj Th
   refine ⟨_,pG,Fm,vB,Fo,sv,Fp,qY,(Om (h.ext dC) gV jr n6 am2 jT.1 jT.2.1 jT.2.2).use ?_⟩
   intro v w' ak
   obtain ⟨s,e,rfl⟩:=ak.out
   rw[mX]
   exact ⟨s,e,rfl,yl s e w' (ak.base dC)⟩
end
section
theorem fN.leave {T:aX} {c c':gw} {E G:Nat→Prop} {w w':World} {no:Nat} (h:cc T (T.dA E G) w w' 0) (fD:E=T.E) (h8:∀q,T.G q→G q) (U:c'.dd=c.dd) (ad:c'.made=c.made) (ar:c'.left=c.left++ [no]):fN T (T.dA E G) c c' [] [no] w w' 0:=
 ⟨h,fD,h8,rfl,rfl,U,by rw[ad,l2],ar,Jf,fun _ h=>(by cases h),fun no=>by simp[aX.dA],fun _ _=>⟨rfl,rfl⟩,by simp[fG,aX.dA]⟩
def Ti (bC aK:Nat) (c up:Option Addr) (gM j_ y4 y5:Int) (eY:World) (Q:Value→World→Prop):Prop:=
 (((y5:Int) !=0)=true→Q (.tuple #[.slice none 0 0, .int .i64 0, .int .i64 0, .int .i64 y5]) eY)∧(((y5:Int) !=0)=false→∃KB:Addr,c=some KB∧∃pV:aa,eY.cell? (KB.add 2)=some (.slice pV.a pV.len pV.cap)∧ay (eY.alloc (.cells #[.int .i64 y4] ah.int)) fun Di=>∃ih:aa,∃td:World,Sem.run Tryz.prog (Builtin.append_ #[ah.fb,ah.fb] ah.fb #[.slice pV.a pV.len pV.cap, .slice (some ⟨eY.heap.size,0,none⟩) 1 1]) Di= .ok (.slice ih.a ih.len ih.cap) td∧∃qZ:Addr,c=some qZ∧(∃u:Value,td.cell? (qZ.add 2)=some u)∧td.frozen? (qZ.add 2)=false∧ay (td.setCell (qZ.add 2) (.slice ih.a ih.len ih.cap)) fun gv=>ay (gv.drew) fun c7=>∃ot:Nat→Prop,¬ot (⟨aK,0,none⟩:Addr).block∧∃um:Bool,c7.cell? ⟨aK,0,none⟩=some (.bool um)∧∃g_:aa,c7.cell? (Addr.add ⟨aK,0,none⟩ 1)=some (.slice g_.a g_.len g_.cap)∧∃gN:aa,c7.cell? (Addr.add ⟨aK,0,none⟩ 2)=some (.slice gN.a gN.len gN.cap)∧∃h_:aa,c7.cell? (Addr.add ⟨aK,0,none⟩ 3)=some (.slice h_.a h_.len h_.cap)∧¬ot (⟨bC,0,none⟩:Addr).block∧∃uo:Bool,c7.cell? ⟨bC,0,none⟩=some (.bool uo)∧∃fY:aa,c7.cell? (Addr.add ⟨bC,0,none⟩ 1)=some (.slice fY.a fY.len fY.cap)∧∃fZ:aa,c7.cell? (Addr.add ⟨bC,0,none⟩ 2)=some (.slice fZ.a fZ.len fZ.cap)∧∃gD:aa,c7.cell? (Addr.add ⟨bC,0,none⟩ 3)=some (.slice gD.a gD.len gD.cap)∧(ay (c7.alloc (.cells #[.bool false, .slice none 0 0, .slice none 0 0, .slice none 0 0] ah.cF)) fun gL=>ao ot c7 gL∧ay (gL.alloc (.cells #[.bool false, .slice none 0 0, .slice none 0 0, .slice none 0 0] ah.cF)) fun nJ=>ao ot gL nJ∧cM nJ ⟨c7.heap.size,0,none⟩ [.bool um, .slice g_.a g_.len g_.cap, .slice gN.a gN.len gN.cap, .slice h_.a h_.len h_.cap]∧(4:Nat)=4∧ay (setCells nJ ⟨c7.heap.size,0,none⟩ 0 [.bool um, .slice g_.a g_.len g_.cap, .slice gN.a gN.len gN.cap, .slice h_.a h_.len h_.cap]) fun xv=>ao ot nJ xv∧cM xv ⟨gL.heap.size,0,none⟩ [.bool uo, .slice fY.a fY.len fY.cap, .slice fZ.a fZ.len fZ.cap, .slice gD.a gD.len gD.cap]∧(4:Nat)=4∧ay (setCells xv ⟨gL.heap.size,0,none⟩ 0 [.bool uo, .slice fY.a fY.len fY.cap, .slice fZ.a fZ.len fZ.cap, .slice gD.a gD.len gD.cap]) fun j6=>c5 (fun Dg:World→Prop=>∃Dh:Addr,up=some Dh∧∃xo:Int,j6.cell? (Dh.add 5)=some (.int .i64 xo)∧((decide ((j_:Int)>xo))=true→ay (j6.drew) fun h5=>∃xp:Nat→Prop,¬xp (⟨bC,0,none⟩:Addr).block∧∃qM:Bool,h5.cell? ⟨bC,0,none⟩=some (.bool qM)∧∃iN:aa,h5.cell? (Addr.add ⟨bC,0,none⟩ 1)=some (.slice iN.a iN.len iN.cap)∧∃gT:aa,h5.cell? (Addr.add ⟨bC,0,none⟩ 2)=some (.slice gT.a gT.len gT.cap)∧∃gU:aa,h5.cell? (Addr.add ⟨bC,0,none⟩ 3)=some (.slice gU.a gU.len gU.cap)∧¬xp (⟨aK,0,none⟩:Addr).block∧∃AH:Bool,h5.cell? ⟨aK,0,none⟩=some (.bool AH)∧∃iO:aa,h5.cell? (Addr.add ⟨aK,0,none⟩ 1)=some (.slice iO.a iO.len iO.cap)∧∃iv:aa,h5.cell? (Addr.add ⟨aK,0,none⟩ 2)=some (.slice iv.a iv.len iv.cap)∧∃ij:aa,h5.cell? (Addr.add ⟨aK,0,none⟩ 3)=some (.slice ij.a ij.len ij.cap)∧cM h5 ⟨c7.heap.size,0,none⟩ [.bool qM, .slice iN.a iN.len iN.cap, .slice gT.a gT.len gT.cap, .slice gU.a gU.len gU.cap]∧(4:Nat)=4∧ay (setCells h5 ⟨c7.heap.size,0,none⟩ 0 [.bool qM, .slice iN.a iN.len iN.cap, .slice gT.a gT.len gT.cap, .slice gU.a gU.len gU.cap]) fun oq=>ao xp h5 oq∧cM oq ⟨gL.heap.size,0,none⟩ [.bool AH, .slice iO.a iO.len iO.cap, .slice iv.a iv.len iv.cap, .slice ij.a ij.len ij.cap]∧(4:Nat)=4∧ay (setCells oq ⟨gL.heap.size,0,none⟩ 0 [.bool AH, .slice iO.a iO.len iO.cap, .slice iv.a iv.len iv.cap, .slice ij.a ij.len ij.cap]) fun y2=>Dg y2)∧((decide ((j_:Int)>xo))=false→Dg j6)) (fun (l8:World)=>ay (l8.drew) fun fH=>∃mD:Nat→Prop,¬mD (⟨c7.heap.size,0,none⟩:Addr).block∧∃rK:Bool,fH.cell? ⟨c7.heap.size,0,none⟩=some (.bool rK)∧∃jk:aa,fH.cell? (Addr.add ⟨c7.heap.size,0,none⟩ 1)=some (.slice jk.a jk.len jk.cap)∧∃js:aa,fH.cell? (Addr.add ⟨c7.heap.size,0,none⟩ 2)=some (.slice js.a js.len js.cap)∧∃fA:aa,fH.cell? (Addr.add ⟨c7.heap.size,0,none⟩ 3)=some (.slice fA.a fA.len fA.cap)∧∃xq:Addr,up=some xq∧¬mD ((xq.add 1).add 1).block∧∃kQ:aa,fH.cell? ((xq.add 1).add 1)=some (.slice kQ.a kQ.len kQ.cap)∧∃xr:Addr,kQ.a=some xr∧((0:Int)≤gM∧gM<((kQ.len:Nat):Int))∧¬mD (xr.add (Int.toNat gM*1)).block∧∃mE:aa,fH.cell? (xr.add (Int.toNat gM*1))=some (.slice mE.a mE.len mE.cap)∧¬mD (⟨gL.heap.size,0,none⟩:Addr).block∧∃y3:Bool,fH.cell? ⟨gL.heap.size,0,none⟩=some (.bool y3)∧∃jl:aa,fH.cell? (Addr.add ⟨gL.heap.size,0,none⟩ 1)=some (.slice jl.a jl.len jl.cap)∧∃jm:aa,fH.cell? (Addr.add ⟨gL.heap.size,0,none⟩ 2)=some (.slice jm.a jm.len jm.cap)∧∃mF:aa,fH.cell? (Addr.add ⟨gL.heap.size,0,none⟩ 3)=some (.slice mF.a mF.len mF.cap)∧(Calls Tryz.prog F.qd #[.agg #[.bool rK, .slice jk.a jk.len jk.cap, .slice js.a js.len js.cap, .slice fA.a fA.len fA.cap], .slice mE.a mE.len mE.cap, .agg #[.bool y3, .slice jl.a jl.len jl.cap, .slice jm.a jm.len jm.cap, .slice mF.a mF.len mF.cap]] fH fun S7 jC=>∃vy:Bool,∃lV:aa,∃lW:aa,∃lX:aa,∃xt:Bool,S7= .returned ( .tuple #[.agg #[.bool vy, .slice lV.a lV.len lV.cap, .slice lW.a lW.len lW.cap, .slice lX.a lX.len lX.cap], .bool xt])∧ao mD fH jC∧ay (jC.alloc (.cells #[.bool false, .slice none 0 0, .slice none 0 0, .slice none 0 0] ah.cF)) fun qg=>ao mD jC qg∧cM qg ⟨jC.heap.size,0,none⟩ [.bool vy, .slice lV.a lV.len lV.cap, .slice lW.a lW.len lW.cap, .slice lX.a lX.len lX.cap]∧(4:Nat)=4∧ay (setCells qg ⟨jC.heap.size,0,none⟩ 0 [.bool vy, .slice lV.a lV.len lV.cap, .slice lW.a lW.len lW.cap, .slice lX.a lX.len lX.cap]) fun lY=>((!xt)=true→Q (.tuple #[.slice none 0 0, .int .i64 0, .int .i64 0, .int .i64 4]) lY)∧((!xt)=false→∃Fj:Bool,lY.cell? ⟨jC.heap.size,0,none⟩=some (.bool Fj)∧∃oT:aa,lY.cell? (Addr.add ⟨jC.heap.size,0,none⟩ 1)=some (.slice oT.a oT.len oT.cap)∧∃qV:aa,lY.cell? (Addr.add ⟨jC.heap.size,0,none⟩ 2)=some (.slice qV.a qV.len qV.cap)∧∃qW:aa,lY.cell? (Addr.add ⟨jC.heap.size,0,none⟩ 3)=some (.slice qW.a qW.len qW.cap)∧Calls Tryz.prog F.ss #[.pointer c, .agg #[.bool Fj, .slice oT.a oT.len oT.cap, .slice qV.a qV.len qV.cap, .slice qW.a qW.len qW.cap]] lY fun S8 Kw=>∃qX:aa,∃Fk:Int,S8= .returned (.tuple #[.slice qX.a qX.len qX.cap, .int .i64 Fk])∧Q ( .tuple #[.slice qX.a qX.len qX.cap, .int .i64 gM, .int .i64 (IntKind.wrap .i64 (gM+2)), .int .i64 Fk]) Kw))∧(ay (fH.alloc (.cells #[.bool false, .slice none 0 0, .slice none 0 0, .slice none 0 0] ah.cF)) fun vz=>ao mD fH vz∧Calls Tryz.prog F.qd #[.agg #[.bool rK, .slice jk.a jk.len jk.cap, .slice js.a js.len js.cap, .slice fA.a fA.len fA.cap], .slice mE.a mE.len mE.cap, .agg #[.bool y3, .slice jl.a jl.len jl.cap, .slice jm.a jm.len jm.cap, .slice mF.a mF.len mF.cap]] vz fun S9 xu=>∃AI:Bool,∃nx:aa,∃oU:aa,∃oV:aa,∃AJ:Bool,S9= .returned ( .tuple #[.agg #[.bool AI, .slice nx.a nx.len nx.cap, .slice oU.a oU.len oU.cap, .slice oV.a oV.len oV.cap], .bool AJ])∧ao mD vz xu∧cM xu ⟨fH.heap.size,0,none⟩ [.bool AI, .slice nx.a nx.len nx.cap, .slice oU.a oU.len oU.cap, .slice oV.a oV.len oV.cap]∧(4:Nat)=4∧ay (setCells xu ⟨fH.heap.size,0,none⟩ 0 [.bool AI, .slice nx.a nx.len nx.cap, .slice oU.a oU.len oU.cap, .slice oV.a oV.len oV.cap]) fun uh=>((!AJ)=true→Q (.tuple #[.slice none 0 0, .int .i64 0, .int .i64 0, .int .i64 4]) uh)∧((!AJ)=false→∃Kx:Bool,uh.cell? ⟨fH.heap.size,0,none⟩=some (.bool Kx)∧∃ui:aa,uh.cell? (Addr.add ⟨fH.heap.size,0,none⟩ 1)=some (.slice ui.a ui.len ui.cap)∧∃uj:aa,uh.cell? (Addr.add ⟨fH.heap.size,0,none⟩ 2)=some (.slice uj.a uj.len uj.cap)∧∃pT:aa,uh.cell? (Addr.add ⟨fH.heap.size,0,none⟩ 3)=some (.slice pT.a pT.len pT.cap)∧Calls Tryz.prog F.ss #[.pointer c, .agg #[.bool Kx, .slice ui.a ui.len ui.cap, .slice uj.a uj.len uj.cap, .slice pT.a pT.len pT.cap]] uh fun S_ Ta=>∃uk:aa,∃Ky:Int,S_= .returned (.tuple #[.slice uk.a uk.len uk.cap, .int .i64 Ky])∧Q ( .tuple #[.slice uk.a uk.len uk.cap, .int .i64 gM, .int .i64 (IntKind.wrap .i64 (gM+2)), .int .i64 Ky]) Ta))))∧(ay (c7.alloc (.cells #[.bool false, .slice none 0 0, .slice none 0 0, .slice none 0 0] ah.cF)) fun q0=>ao ot c7 q0∧ay (q0.alloc (.cells #[.bool false, .slice none 0 0, .slice none 0 0, .slice none 0 0] ah.cF)) fun Fq=>ao ot q0 Fq∧cM Fq ⟨q0.heap.size,0,none⟩ [.bool um, .slice g_.a g_.len g_.cap, .slice gN.a gN.len gN.cap, .slice h_.a h_.len h_.cap]∧(4:Nat)=4∧ay (setCells Fq ⟨q0.heap.size,0,none⟩ 0 [.bool um, .slice g_.a g_.len g_.cap, .slice gN.a gN.len gN.cap, .slice h_.a h_.len h_.cap]) fun Tj=>ao ot Fq Tj∧cM Tj ⟨c7.heap.size,0,none⟩ [.bool uo, .slice fY.a fY.len fY.cap, .slice fZ.a fZ.len fZ.cap, .slice gD.a gD.len gD.cap]∧(4:Nat)=4∧ay (setCells Tj ⟨c7.heap.size,0,none⟩ 0 [.bool uo, .slice fY.a fY.len fY.cap, .slice fZ.a fZ.len fZ.cap, .slice gD.a gD.len gD.cap]) fun Tk=>c5 (fun aaq:World→Prop=>∃aar:Addr,up=some aar∧∃Tl:Int,Tk.cell? (aar.add 5)=some (.int .i64 Tl)∧((decide ((j_:Int)>Tl))=true→ay (Tk.drew) fun xw=>∃Tm:Nat→Prop,¬Tm (⟨bC,0,none⟩:Addr).block∧∃Tn:Bool,xw.cell? ⟨bC,0,none⟩=some (.bool Tn)∧∃AM:aa,xw.cell? (Addr.add ⟨bC,0,none⟩ 1)=some (.slice AM.a AM.len AM.cap)∧∃AN:aa,xw.cell? (Addr.add ⟨bC,0,none⟩ 2)=some (.slice AN.a AN.len AN.cap)∧∃AO:aa,xw.cell? (Addr.add ⟨bC,0,none⟩ 3)=some (.slice AO.a AO.len AO.cap)∧¬Tm (⟨aK,0,none⟩:Addr).block∧∃To:Bool,xw.cell? ⟨aK,0,none⟩=some (.bool To)∧∃AP:aa,xw.cell? (Addr.add ⟨aK,0,none⟩ 1)=some (.slice AP.a AP.len AP.cap)∧∃AQ:aa,xw.cell? (Addr.add ⟨aK,0,none⟩ 2)=some (.slice AQ.a AQ.len AQ.cap)∧∃AR:aa,xw.cell? (Addr.add ⟨aK,0,none⟩ 3)=some (.slice AR.a AR.len AR.cap)∧cM xw ⟨q0.heap.size,0,none⟩ [.bool Tn, .slice AM.a AM.len AM.cap, .slice AN.a AN.len AN.cap, .slice AO.a AO.len AO.cap]∧(4:Nat)=4∧ay (setCells xw ⟨q0.heap.size,0,none⟩ 0 [.bool Tn, .slice AM.a AM.len AM.cap, .slice AN.a AN.len AN.cap, .slice AO.a AO.len AO.cap]) fun Tp=>ao Tm xw Tp∧cM Tp ⟨c7.heap.size,0,none⟩ [.bool To, .slice AP.a AP.len AP.cap, .slice AQ.a AQ.len AQ.cap, .slice AR.a AR.len AR.cap]∧(4:Nat)=4∧ay (setCells Tp ⟨c7.heap.size,0,none⟩ 0 [.bool To, .slice AP.a AP.len AP.cap, .slice AQ.a AQ.len AQ.cap, .slice AR.a AR.len AR.cap]) fun y6=>aaq y6)∧((decide ((j_:Int)>Tl))=false→aaq Tk)) (fun (HG:World)=>ay (HG.drew) fun pg=>∃Dj:Nat→Prop,¬Dj (⟨q0.heap.size,0,none⟩:Addr).block∧∃Tq:Bool,pg.cell? ⟨q0.heap.size,0,none⟩=some (.bool Tq)∧∃rM:aa,pg.cell? (Addr.add ⟨q0.heap.size,0,none⟩ 1)=some (.slice rM.a rM.len rM.cap)∧∃rN:aa,pg.cell? (Addr.add ⟨q0.heap.size,0,none⟩ 2)=some (.slice rN.a rN.len rN.cap)∧∃AS:aa,pg.cell? (Addr.add ⟨q0.heap.size,0,none⟩ 3)=some (.slice AS.a AS.len AS.cap)∧∃Tr:Addr,up=some Tr∧¬Dj ((Tr.add 1).add 1).block∧∃xx:aa,pg.cell? ((Tr.add 1).add 1)=some (.slice xx.a xx.len xx.cap)∧∃Ts:Addr,xx.a=some Ts∧((0:Int)≤gM∧gM<((xx.len:Nat):Int))∧¬Dj (Ts.add (Int.toNat gM*1)).block∧∃AT:aa,pg.cell? (Ts.add (Int.toNat gM*1))=some (.slice AT.a AT.len AT.cap)∧¬Dj (⟨c7.heap.size,0,none⟩:Addr).block∧∃Tt:Bool,pg.cell? ⟨c7.heap.size,0,none⟩=some (.bool Tt)∧∃AU:aa,pg.cell? (Addr.add ⟨c7.heap.size,0,none⟩ 1)=some (.slice AU.a AU.len AU.cap)∧∃AV:aa,pg.cell? (Addr.add ⟨c7.heap.size,0,none⟩ 2)=some (.slice AV.a AV.len AV.cap)∧∃AW:aa,pg.cell? (Addr.add ⟨c7.heap.size,0,none⟩ 3)=some (.slice AW.a AW.len AW.cap)∧(Calls Tryz.prog F.qd #[.agg #[.bool Tq, .slice rM.a rM.len rM.cap, .slice rN.a rN.len rN.cap, .slice AS.a AS.len AS.cap], .slice AT.a AT.len AT.cap, .agg #[.bool Tt, .slice AU.a AU.len AU.cap, .slice AV.a AV.len AV.cap, .slice AW.a AW.len AW.cap]] pg fun am3 AX=>∃Tu:Bool,∃AY:aa,∃AZ:aa,∃A0:aa,∃Tv:Bool,am3= .returned ( .tuple #[.agg #[.bool Tu, .slice AY.a AY.len AY.cap, .slice AZ.a AZ.len AZ.cap, .slice A0.a A0.len A0.cap], .bool Tv])∧ao Dj pg AX∧ay (AX.alloc (.cells #[.bool false, .slice none 0 0, .slice none 0 0, .slice none 0 0] ah.cF)) fun Tw=>ao Dj AX Tw∧cM Tw ⟨AX.heap.size,0,none⟩ [.bool Tu, .slice AY.a AY.len AY.cap, .slice AZ.a AZ.len AZ.cap, .slice A0.a A0.len A0.cap]∧(4:Nat)=4∧ay (setCells Tw ⟨AX.heap.size,0,none⟩ 0 [.bool Tu, .slice AY.a AY.len AY.cap, .slice AZ.a AZ.len AZ.cap, .slice A0.a A0.len A0.cap]) fun HH=>((!Tv)=true→Q (.tuple #[.slice none 0 0, .int .i64 0, .int .i64 0, .int .i64 4]) HH)∧((!Tv)=false→∃aas:Bool,HH.cell? ⟨AX.heap.size,0,none⟩=some (.bool aas)∧∃HI:aa,HH.cell? (Addr.add ⟨AX.heap.size,0,none⟩ 1)=some (.slice HI.a HI.len HI.cap)∧∃HJ:aa,HH.cell? (Addr.add ⟨AX.heap.size,0,none⟩ 2)=some (.slice HJ.a HJ.len HJ.cap)∧∃HK:aa,HH.cell? (Addr.add ⟨AX.heap.size,0,none⟩ 3)=some (.slice HK.a HK.len HK.cap)∧Calls Tryz.prog F.ss #[.pointer c, .agg #[.bool aas, .slice HI.a HI.len HI.cap, .slice HJ.a HJ.len HJ.cap, .slice HK.a HK.len HK.cap]] HH fun am4 am5=>∃HL:aa,∃aat:Int,am4= .returned (.tuple #[.slice HL.a HL.len HL.cap, .int .i64 aat])∧Q ( .tuple #[.slice HL.a HL.len HL.cap, .int .i64 gM, .int .i64 (IntKind.wrap .i64 (gM+2)), .int .i64 aat]) am5))∧(ay (pg.alloc (.cells #[.bool false, .slice none 0 0, .slice none 0 0, .slice none 0 0] ah.cF)) fun Tx=>ao Dj pg Tx∧Calls Tryz.prog F.qd #[.agg #[.bool Tq, .slice rM.a rM.len rM.cap, .slice rN.a rN.len rN.cap, .slice AS.a AS.len AS.cap], .slice AT.a AT.len AT.cap, .agg #[.bool Tt, .slice AU.a AU.len AU.cap, .slice AV.a AV.len AV.cap, .slice AW.a AW.len AW.cap]] Tx fun am6 Ty=>∃Tz:Bool,∃A1:aa,∃A2:aa,∃rO:aa,∃TA:Bool,am6= .returned ( .tuple #[.agg #[.bool Tz, .slice A1.a A1.len A1.cap, .slice A2.a A2.len A2.cap, .slice rO.a rO.len rO.cap], .bool TA])∧ao Dj Tx Ty∧cM Ty ⟨pg.heap.size,0,none⟩ [.bool Tz, .slice A1.a A1.len A1.cap, .slice A2.a A2.len A2.cap, .slice rO.a rO.len rO.cap]∧(4:Nat)=4∧ay (setCells Ty ⟨pg.heap.size,0,none⟩ 0 [.bool Tz, .slice A1.a A1.len A1.cap, .slice A2.a A2.len A2.cap, .slice rO.a rO.len rO.cap]) fun HM=>((!TA)=true→Q (.tuple #[.slice none 0 0, .int .i64 0, .int .i64 0, .int .i64 4]) HM)∧((!TA)=false→∃aau:Bool,HM.cell? ⟨pg.heap.size,0,none⟩=some (.bool aau)∧∃HN:aa,HM.cell? (Addr.add ⟨pg.heap.size,0,none⟩ 1)=some (.slice HN.a HN.len HN.cap)∧∃HO:aa,HM.cell? (Addr.add ⟨pg.heap.size,0,none⟩ 2)=some (.slice HO.a HO.len HO.cap)∧∃HP:aa,HM.cell? (Addr.add ⟨pg.heap.size,0,none⟩ 3)=some (.slice HP.a HP.len HP.cap)∧Calls Tryz.prog F.ss #[.pointer c, .agg #[.bool aau, .slice HN.a HN.len HN.cap, .slice HO.a HO.len HO.cap, .slice HP.a HP.len HP.cap]] HM fun am7 am8=>∃y7:aa,∃aav:Int,am7= .returned (.tuple #[.slice y7.a y7.len y7.cap, .int .i64 aav])∧Q ( .tuple #[.slice y7.a y7.len y7.cap, .int .i64 gM, .int .i64 (IntKind.wrap .i64 (gM+2)), .int .i64 aav]) am8)))))
theorem am9 {w:World} {T:aX} {c:gw} {bC aK:Nat} {A:Addr} {u:gk} {n o:aL} {K V D mG mH Do:aa} {fr other no:Nat} {Q:Value→World→Prop} (h:fM w T c) (kO:Var w bC (hK n K V D) ah.cF) (e8:Var w aK (hK o mG mH Do) ah.cF)
   (am_:¬T.M bC) (ana:¬T.M aK) (aD:b8 (fun q=>¬T.M q) w n K V D) (bJ:b8 (fun q=>¬T.M q) w o mG mH Do) (hu:y1 (fun q=>¬T.M q) w A u)
   (gV:T.C.D.cI≤900000090) (jr:2≤fG T) (n6:c.made.length≤900) (zQ:c.left.length≤900) (AK:dX n) (Fl:dX o) (Ow:cf n≤400) (Td:cf o≤400) (az:o.leaf=n.leaf) (gC:fr<u.n.keys.length) (rH:ew u.n.keys[fr]) (m:aL) (hm:m=if u.eP<other then g0 n u.n.keys[fr] o else g0 o u.n.keys[fr] n) (jT:y0 m) (py:fr≤1000)
   (yl:∀ (s:aa) (e:Int) (cT:aX) (bd:gw) (ag w':World),fN T cT c bd [] [no] w ag 0→pR cT bd m ag (.tuple #[.slice s.a s.len s.cap, .int .i64 e]) w'→Q (.tuple #[.slice s.a s.len s.cap, .int .i64 (fr:Nat), .int .i64 ((fr+2:Nat):Int), .int .i64 e]) w'):
   Ti bC aK (some ⟨c.dd,0,none⟩) (some A) (fr:Nat) (other:Nat) (no:Nat) 0 w Q:=by
 unfold Ti
 refine ⟨fun ab=>(by cases ab),fun _=>⟨_,rfl,_,h.cells.2.2,?_⟩⟩
 obtain ⟨au,td,aA,aF,aJ,aO,cS⟩:=ZK h no (by omega)
 refine bM ⟨au,td,aA,_,rfl,by rw[aV];exact aJ,by rw[aV];exact aO,bM ?_⟩
 rw[aV]
 obtain ⟨gv,aaw⟩:∃gv,gv=td.setCell ⟨c.dd,0+2,none⟩ (.slice au.a au.len au.cap):=⟨_,rfl⟩
 rw[←aaw]
 obtain ⟨aax,aay⟩:=cS gv aaw
 have gx:=fN.leave (c:=c) (c':={c with lT:=au,left:=c.left++ [no]}) (no:=no) aay rfl (fun q J=> .inl J) rfl rfl rfl
 obtain ⟨cT,ny⟩:∃cT,cT=T.dA T.E fun q=>T.G q∨aR au q:=⟨_,rfl⟩
 obtain ⟨bd,iZ⟩:∃bd:gw,bd={c with lT:=au,left:=c.left++ [no]}:=⟨_,rfl⟩
 have ub:bd.dd=c.dd:=by rw[iZ]
 have z_:bd.made=c.made:=by rw[iZ]
 have Hm:cT.C.D.cI≤900000090:=by rw[ny];exact gV
 have SV:2≤fG cT:=by rw[ny];exact jr
 rw[←ny,←iZ] at aax gx
 rw[←ny] at aay
 have bx:Ext gv gv.drew:=eE _
 have aaz:=aax.ext bx
 have TB:fN T cT c bd [] [no] w gv.drew 0:=gx.trans (fN.ext cT bd bx)
 obtain ⟨c7,anb⟩:∃c7,c7=gv.drew:=⟨_,rfl⟩
 rw[←anb] at bx aaz TB⊢
 have b4:=TB.to
 have j1:∀q,¬T.M q→¬T.N q:=fun q U ad=>U (aX.lS ad)
 have TC:=kO.an b4.an (j1 _ am_)
 have TD:=e8.an b4.an (j1 _ ana)
 have aaA:∀ {m:aL} {K V D:aa},b8 (fun q=>¬T.M q) w m K V D→b8 (fun q=>¬T.M q) c7 m K V D:=fun hm=>b8.an hm b4.an fun q J=>j1 q J
 have anc:=aaA aD
 have Fi:=aaA bJ
 have ane:=hu.to b4
 obtain ⟨bE,di,c_,bq⟩:=cj TC
 obtain ⟨AE,jn,lq,xn⟩:=cj TD
 have si:=TC.lt
 have EJ:=TD.lt
 have fin:∀ (eY:World) (oo bv:Nat),Ext c7 eY→Var eY oo (hK o mG mH Do) ah.cF→Var eY bv (hK n K V D) ah.cF→c7.heap.size≤oo→c7.heap.size≤bv→oo≠bv→S6 bC aK oo bv (some ⟨c.dd,0,none⟩) (some A) (fr:Nat) (other:Nat) eY Q:=by
   intro eY oo bv af aS ab U ad ar
   have:=amS aaz af TC TD aS ab U ad ar anc Fi ane Hm SV (by rw[z_];exact n6) AK Fl Ow Td az gC rH m hm jT py (Q:=Q) fun s e w' aG=>yl s e cT bd c7 w' TB aG
   rw[ub] at this
   exact this
 refine bM ⟨fun q=>c7.heap.size≤q,(show¬c7.heap.size≤aK by omega),_,AE,mG,jn,mH,lq,Do,xn,(show¬c7.heap.size≤bC by omega),_,bE,K,di,V,c_,D,bq,?_,?_⟩
 · refine cp (vs:=[.bool false, .slice none 0 0, .slice none 0 0, .slice none 0 0]) rfl fun gL anf Fs ang=>⟨ao.eK Fs,cp (vs:=[.bool false, .slice none 0 0, .slice none 0 0, .slice none 0 0]) rfl fun nJ TE Ft anh=> ?_⟩
   have KC:=anf.ext Ft
   refine ⟨ao.eK Ft,KC.dr rfl lU,rfl,ec KC (us:=hK o mG mH Do) rfl rfl fun xv TF Fu ani=> ?_⟩
   have KD:=TE.an Fu (by omega)
   have TG:Ext c7 xv:=Ext.e3 (Fs.trans Ft) Fu (cP _)
   refine ⟨Fu.mono fun q _ e=>by omega,KD.dr rfl lU,rfl,ec KD (us:=hK n K V D) rfl rfl fun j6 TH KE anj=> ?_⟩
   exact fin j6 c7.heap.size gL.heap.size (Ext.e3 TG KE (by omega)) (TF.an KE (by omega)) TH (cP _) (by omega) (by omega)
 · refine cp (vs:=[.bool false, .slice none 0 0, .slice none 0 0, .slice none 0 0]) rfl fun gL ank Fs ang=>⟨ao.eK Fs,cp (vs:=[.bool false, .slice none 0 0, .slice none 0 0, .slice none 0 0]) rfl fun nJ KC Ft anh=> ?_⟩
   have TE:=ank.ext Ft
   refine ⟨ao.eK Ft,KC.dr rfl lU,rfl,ec KC (us:=hK o mG mH Do) rfl rfl fun xv TF Fu ani=> ?_⟩
   have KD:=TE.an Fu (by omega)
   have TG:Ext c7 xv:=Ext.e3 (Fs.trans Ft) Fu (by omega)
   refine ⟨Fu.mono fun q _ e=>by omega,KD.dr rfl lU,rfl,ec KD (us:=hK n K V D) rfl rfl fun j6 TH KE anj=> ?_⟩
   exact fin j6 gL.heap.size c7.heap.size (Ext.e3 TG KE (cP _)) (TF.an KE (by omega)) TH (by omega) (cP _) (by omega)
theorem cc.read {w w':World} {T:aX} {E:Nat→Prop} {bt:eM} {P:Nat→Option aL} {k:Nat} (h:cc (T.dA E fun _=>False) ((T.dA E fun _=>False).cY bt P) w w' k) (fD:∀q,T.E q∨T.G q→E q) (sR:∀q,E q→T.E q∨T.G q∨w.heap.size≤q):cc T (T.cY bt P) w w' k:=by
 refine ⟨h.bK,h.dc,h.n,h.g,h.s1,h.s2,h.c,h.d,h.f_,h.gen,h.cI,h.calm,h.an.mono fun q _ J=> ?_,fun q J=> ?_,fun q J=> ?_⟩
 · rcases J with J|J|J|J
   · exact .inl J
   · exact .inr (.inl J)
   · exact .inr (.inr (.inl J))
   · exact J.elim
 · have U:((T.dA E fun _=>False).cY bt P).M q:=by
     rcases J with J|J|J|J
     · exact .inl J
     · exact .inr (.inl J)
     · exact .inr (.inr (.inl J))
     · exact .inr (.inr (.inr (.inl (fD q J))))
   rcases h.jR q U with ad|ad
   · rcases ad with J|J|J|J|J
     · exact .inl (.inl J)
     · exact .inl (.inr (.inl J))
     · exact .inl (.inr (.inr (.inl J)))
     · rcases sR q J with ar|ar|ar
       · exact .inl (.inr (.inr (.inr (.inl ar))))
       · exact .inl (.inr (.inr (.inr (.inr ar))))
       · exact .inr ar
     · exact J.elim
   · exact .inr ad
 · rcases J with J|J|J|J
   · rcases h.fn q (.inl J) with ad|ad
     · rcases ad with ad|ad|ad|ad
       · exact .inl (.inl ad)
       · exact .inl (.inr (.inl ad))
       · exact .inl (.inr (.inr (.inl ad)))
       · exact ad.elim
     · exact .inr ad
   · exact .inl (.inr (.inl J))
   · exact .inl (.inr (.inr (.inl J)))
   · exact .inl (.inr (.inr (.inr J)))
end
section
theorem fN.cache {T:aX} {c:gw} {bt:eM} {w w':World} {k:Nat} (h:cc T (T.cY bt T.P) w w' k) (ak:∀j,bt.view j=T.C.view j):fN T (T.cY bt T.P) c c [] [] w w' k:=
 ⟨h,rfl,fun _ h=>h,rfl,rfl,rfl,by simp,by simp,Jf,fun _ h=>(by cases h),fun no=>by simp[aX.cY],fun no _=>⟨rfl,ak no⟩,by simp[fG,aX.cY]⟩
theorem aaB {w ag:World} {T:aX} {c:gw} {Z:Nat→Prop} {no:Nat} {o:aL} (h:fM w T c) (af:Ext w ag) (uS:∀q,Z q→w.heap.size≤q∧q<ag.heap.size) (gV:T.C.D.cI≤999999999) (hY:T.P no=some o):
   aQ Tryz.prog F.s6 #[.pointer (some ⟨T.bK,0,none⟩), .int .i64 (no:Nat), .bool o.leaf] ag (fun v w'=>∃bt:eM,(∀j,bt.view j=T.C.view j)∧ao (fun q=>T.N q∧¬T.G q) ag w'∧(∀q,(T.cY bt T.P).M q→T.M q∨ag.heap.size≤q)∧
     (∀hO,ao Z w' hO→fM hO (T.cY bt T.P) c∧fN T (T.cY bt T.P) c c [] [] w hO 2)∧
     ((∃ (K V D:aa),v= .tuple #[e5 o K V D, .int .i64 0]∧b8 (fun q=>ag.heap.size≤q∧¬(T.cY bt T.P).M q) w' o K V D)∨(v= .tuple #[e5 rp bX bX bX, .int .i64 3]∧¬T.C.D.calm 2))):=by
 obtain ⟨dg,k9⟩:=h.t.lv no o hY
 obtain ⟨dj,mb⟩:∃dj,dj=fun q=>T.E q∨T.G q∨Z q:=⟨_,rfl⟩
 have lZ:∀q,T.E q∨T.G q∨Z q→dj q:=fun q J=>by rw[mb];exact J
 have pW:∀q,dj q→T.E q∨T.G q∨Z q:=fun q J=>by rw[mb] at J;exact J
 have aU:c6 ag (T.dA dj fun _=>False):=h.t.grow (W:=fun _=>False) af (fun _ h=>h.elim) (fun q J=>(pW q J).imp id (Or.imp id (uS q))) (fun _ h=>h.elim) fun _ _ h=>h
 have Oz:∀q,(T.dA dj fun _=>False).N q→T.N q∧¬T.G q:=fun q J=>⟨by
   rcases J with J|J|J|J
   · exact .inl J
   · exact .inr (.inl J)
   · exact .inr (.inr (.inl J))
   · exact J.elim,fun a7=>aU.rz (lZ q (.inr (.inl a7))) J⟩
 refine (SD aU gV dg o.leaf).mono ?_
 rintro v w' ⟨bt,bh,aN,ak,e9⟩
 have aaC:=af.size
 have bI:=aN.an.size
 have aaD:=(cc.ext (T.dA dj fun _=>False) af).trans aN
 rw[gR] at aaD
 have TI:cc T (T.cY bt T.P) w w' 2:=cc.read (E:=dj) aaD (fun q J=>lZ q (J.imp id .inl)) fun q J=>(pW q J).imp id (Or.imp id fun h=>(uS q h).1)
 have iZ:ao (fun q=>T.N q∧¬T.G q) ag w':=aN.an.mono fun q _ J=>Oz q J
 refine ⟨bt,ak,iZ,fun q J=> ?_,fun hO al=> ?_,?_⟩
 · rcases J with J|J
   · exact (aN.fn q (.inl J)).imp (fun h=>aX.lS (Oz q h).1) id
   · exact .inl (.inr J)
 · have uq:c6 hO (T.cY bt T.P):=bh.grow (E:=T.E) (G:=T.G) al (fun q J _=> .inl (lZ q (.inr (.inr J)))) (fun q J=> .inl (lZ q (.inl J))) (fun q J=> .inl (lZ q (.inr (.inl J)))) fun q J=>(h.t.h0 q J).2.2
   refine ⟨(h.ext af).of (W:=fun q=>(T.N q∧¬T.G q)∨Z q) uq ((iZ.mono fun q _ J=> .inl J).trans (al.mono fun q _ J=> .inr J)) (fun q a7 J=> ?_) rfl fun _ h=>h,fN.cache ?_ ak⟩
   · rcases J with J|J
     · exact J.2 a7
     · have:=h.t.lt (q:=q) (.inr (.inr (.inr (.inr a7))))
       have:=(uS q J).1
       omega
   · exact TI.step (E:=T.E) (G:=T.G) al (fun q J az=>by have:=(uS q J).1;omega) (fun q J=> .inl J) fun q J=> .inl J
 · rcases e9 with ⟨c_,K,V,D,rfl,Ht,jy⟩|⟨e,rfl,Kn,en⟩
   · obtain rfl:=sn.uniq k9 Ht
     refine .inl ⟨K,V,D,rfl,jy.bw fun q J ab=>⟨ab.1,fun hm=>ab.2 ?_⟩⟩
     rcases hm with hm|hm|hm|hm|hm
     · exact .inl hm
     · exact .inr (.inl hm)
     · exact .inr (.inr (.inl hm))
     · exact .inr (.inr (.inr (.inl (lZ q (.inl hm)))))
     · exact .inr (.inr (.inr (.inl (lZ q (.inr (.inl hm))))))
   · refine .inr ?_
     rcases Kn with ⟨rfl,U⟩|U|⟨_,_,U⟩
     · exact ⟨rfl,U⟩
     · obtain ⟨p,aA,_⟩:=k9
       have U:l5 (no:Int) (T.C.view no)= .error e:=U
       rw[aA] at U;cases U
     · exact absurd k9 (U o)
def te (u:gk):Nat:=if u.eP=0 then 1 else u.eP-1
def y8 (u:gk) (n o:aL):aL:=if u.eP<te u then g0 n (u.n.keys.getD (u.eP-1) []) o else g0 o (u.n.keys.getD (u.eP-1) []) n
def TJ (T:aX) (c:gw) (n:aL) (u:gk) (w:World) (v:Value) (w':World):Prop:=
 (80≤cf n∧∃ (s:aa) (e:Int),v= .tuple #[.slice s.a s.len s.cap, .int .i64 (u.eP:Nat), .int .i64 ((u.eP+1:Nat):Int), .int .i64 e]∧pR T c n w (.tuple #[.slice s.a s.len s.cap, .int .i64 e]) w')∨
 (cf n<80∧∃ (cT:aX) (bd:gw),v= .tuple #[.slice none 0 0, .int .i64 0, .int .i64 0, .int .i64 3]∧fM w' cT bd∧fN T cT c bd [] [] w w' 2∧¬T.C.D.calm 2)∨
 (cf n<80∧∃ (o:aL) (no:Nat) (cT:aX) (bd:gw) (ag:World) (s:aa) (e:Int),u.n.kids[te u]? =some no∧T.P no=some o∧fN T cT c bd [] [no] w ag 2∧
   v= .tuple #[.slice s.a s.len s.cap, .int .i64 ((u.eP-1:Nat):Int), .int .i64 ((u.eP-1+2:Nat):Int), .int .i64 e]∧pR cT bd (y8 u n o) ag (.tuple #[.slice s.a s.len s.cap, .int .i64 e]) w')
end
section
theorem anl {B:Nat→Prop} {w:World} {T:aX} {c:gw} {n:aL} {K V D:aa} (h:fM w T c) (aD:b8 B w n K V D) (jT:y0 n) (gV:T.C.D.cI≤900000080) (jr:2≤fG T) (n6:c.made.length≤900):
   aQ Tryz.prog F.y9 #[.pointer (some ⟨c.dd,0,none⟩),e5 n K V D, .pointer none] w (fun v w'=>∃ (s:aa) (e:Int),v= .tuple #[.slice s.a s.len s.cap, .int .i64 0, .int .i64 0, .int .i64 e]∧pR T c n w (.tuple #[.slice s.a s.len s.cap, .int .i64 e]) w'):=by
 refine W.aaE (some ⟨c.dd,0,none⟩) n.leaf K V D none w _ ?_
 (delta W.y9 aE bP ai aq bc bA aC gu a8 xj dt OA st cW KF ft OB;dsimp only)
 refine cp (vs:=hK n K V D) rfl fun ag gd bz kM=> ?_
 refine e4 (fun b w'=>b=true∧ag=w') (fun q J=>⟨fun _=>J _ _ ⟨rfl,rfl⟩,fun h=>(by cases h)⟩) ?_
 rintro _ _ ⟨rfl,rfl⟩
 refine ⟨fun _=>TK (fun a b w'=>a=0∧b=0∧ag=w') (fun q J=>⟨fun h=>(by cases h),fun _=>J _ _ _ ⟨rfl,rfl,rfl⟩⟩) ?_,fun h=>(by cases h)⟩
 rintro _ _ _ ⟨rfl,rfl,rfl⟩
 obtain ⟨cA,bd,bc,a_⟩:=cj gd
 refine ⟨_,cA,K,bd,V,bc,D,a_,(Om (h.ext bz) (by omega) jr n6 (aD.ext bz) jT.1 jT.2.1 jT.2.2).use ?_⟩
 intro v w' ak
 obtain ⟨s,e,rfl⟩:=ak.out
 exact ⟨s,e,rfl,s,e,rfl,ak.base bz⟩
theorem anm {w:World} {T:aX} {c:gw} {n:aL} {K V D:aa} {A:Addr} {u:gk} (h:fM w T c) (aD:b8 (fun q=>¬T.M q) w n K V D) (hu:y1 (fun q=>¬T.M q) w A u) (AK:dX n) (Ow:cf n≤400) (ax:80≤cf n→y0 n)
   (e1:cf n<80→∃ (o:aL) (no:Nat),u.n.kids[te u]? =some no∧T.P no=some o∧o.leaf=n.leaf∧u.eP-1<u.n.keys.length∧ew (u.n.keys.getD (u.eP-1) [])∧y0 (y8 u n o)) (k6:u.eP≤900)
   (gV:T.C.D.cI≤900000080) (jr:2≤fG T) (n6:c.made.length≤900) (zQ:c.left.length≤900):
   aQ Tryz.prog F.y9 #[.pointer (some ⟨c.dd,0,none⟩),e5 n K V D, .pointer (some A)] w (TJ T c n u w):=by
 have pQ:=AK.iM (by omega)
 refine W.aaE (some ⟨c.dd,0,none⟩) n.leaf K V D (some A) w _ ?_
 (delta W.y9 aE bP ai aq bc bA aC gu a8 xj dt OA st cW KF ft OB;dsimp only)
 refine cp (vs:=hK n K V D) rfl fun ag gd bz kM=> ?_
 obtain ⟨bC,kO⟩:∃bC,bC=w.heap.size:=⟨_,rfl⟩
 rw[←kO] at gd⊢
 refine e4 (fun b w'=>b=decide (80≤cf n)∧Ext ag w') (fun q J=>⟨fun h=>(by cases h),fun _=> ?_⟩) ?_
 · obtain ⟨cA,bd,bc,a_⟩:=cj gd
   refine ⟨_,cA,K,bd,V,bc,D,a_,(u0 (aD.ext bz) AK (by omega)).use ?_⟩
   rintro _ a5 ⟨rfl,eN⟩
   refine ⟨_,rfl,J _ _ ⟨?_,eN⟩⟩
   rw[o1,fI,fI]
   omega
 rintro _ cq ⟨rfl,qD⟩
 have vd:=bz.trans qD
 refine ⟨fun ab=> ?_,fun ab=> ?_⟩
 · have ab:=dU ab
   have jT:=ax ab
   refine TK (fun a b w'=>a=(u.eP:Nat)∧b=((u.eP+1:Nat):Int)∧Ext cq w') (fun q J=>⟨fun _=> ?_,fun h=>(by cases h)⟩) ?_
   · have bx:Ext cq cq.drew:=eE _
     have Kz:=hu.ext (vd.trans bx)
     refine bM ⟨A,rfl,id,_,Kz.dO,A,rfl,id,_,Kz.dO,J _ _ _ ⟨rfl,?_,bx⟩⟩
     rw[cE (by omega) (by omega)];rfl
   rintro _ _ ct ⟨rfl,rfl,oP⟩
   have dC:=vd.trans oP
   obtain ⟨cA,bd,bc,a_⟩:=cj (gd.ext (qD.trans oP))
   refine ⟨_,cA,K,bd,V,bc,D,a_,(Om (h.ext dC) (by omega) jr n6 (aD.ext dC) jT.1 jT.2.1 jT.2.2).use ?_⟩
   intro v w' ak
   obtain ⟨s,e,rfl⟩:=ak.out
   exact ⟨s,e,rfl, .inl ⟨ab,s,e,rfl,ak.base dC⟩⟩
 · have ab:¬80≤cf n:=ff ab
   obtain ⟨o,no,k0,hY,EJ,jK,dW,jT⟩:=e1 (by omega)
   obtain ⟨dg,k9⟩:=h.t.lv no o hY
   obtain ⟨_,Fl,Td⟩:=k9.is
   have OC:=hu.ext vd
   refine ⟨A,rfl,_,OC.dO,((u.eP-1:Nat):Int),cq,?_,?_⟩
   · rw[run_max_int2]
     congr 2
     by_cases b3:u.eP=0
     · rw[b3];rfl
     · rw[cE (by omega) (by omega),if_neg (by omega)];omega
   refine e4 (fun a w'=>a=(te u:Nat)∧cq=w') (fun q J=>⟨A,rfl,_,OC.dO,fun b3=>J _ _ ⟨?_,rfl⟩,fun b3=>J _ _ ⟨?_,rfl⟩⟩) ?_
   · have:u.eP=0:=by simpa using b3
     unfold te;rw[if_pos this];rfl
   · have:u.eP≠0:=by simpa using b3
     unfold te;rw[if_neg this]
   rintro _ _ ⟨rfl,rfl⟩
   have ann:te u<u.n.kids.length:=(qs.1 k0).1
   obtain ⟨W9,ano,ni,rG⟩:=eF.at OC.dZ.kids ann
   have anp:u.n.kids[te u]=no:=(qs.1 k0).2
   rw[anp] at rG
   refine ⟨A,rfl,u.D,OC.gu,W9,ano,ni,_,rG,bM ?_⟩
   have bx:Ext cq cq.drew:=eE _
   obtain ⟨gy,anq⟩:∃gy,gy=cq.drew:=⟨_,rfl⟩
   rw[←anq] at bx⊢
   have dC:=vd.trans bx
   have TL:=h.ext dC
   have auh:=dC.size
   have nf:=(qD.trans bx).size
   have KG:=gd.ext (qD.trans bx)
   have TM:∀q,T.M q→q<w.heap.size:=fun q J=>h.t.lt J
   have rH:u.n.keys.getD (u.eP-1) []=u.n.keys[u.eP-1]:=by rw[p5,g8 jK];rfl
   have fin:∀ (bt:eM) (aK:Nat) (mG mH Do:aa) (e_:World),fM e_ (T.cY bt T.P) c→fN T (T.cY bt T.P) c c [] [] gy e_ 2→Var e_ bC (hK n K V D) ah.cF→Var e_ aK (hK o mG mH Do) ah.cF→gy.heap.size≤aK→¬(T.cY bt T.P).M aK→b8 (fun q=>¬(T.cY bt T.P).M q) e_ o mG mH Do→
       Ti bC aK (some ⟨c.dd,0,none⟩) (some A) ((u.eP-1:Nat):Int) (te u:Nat) (no:Nat) 0 e_ (fun v w'=>TJ T c n u w v w'):=by
     intro bt aK mG mH Do e_ Fv OD HQ z6 e8 anr ans
     have gx:=((fN.ext T c dC).trans OD).mono (j:=2) (by omega)
     have b4:=gx.to
     have Dk:¬(T.cY bt T.P).M bC:=fun hm=>by
       rcases OD.to.jR bC hm with U|U
       · have:=TM _ U;omega
       · omega
     have ant:b8 (fun q=>¬(T.cY bt T.P).M q) e_ n K V D:=(b4.dZ (lo:=0) (aD.bw fun q _ ab=>⟨fx _,ab⟩)).bw fun q _ ab=>ab.2
     have Fw:(T.cY bt T.P).C.D.cI≤900000090:=iT b4.cI (by omega)
     refine am9 Fv HQ z6 Dk anr ant ans (hu.to b4) Fw jr n6 zQ AK Fl Ow (by omega) EJ jK (by rw[←rH];exact dW) (y8 u n o) (by unfold y8;rw[rH]) jT (by omega) ?_
     intro s e cT bd anu w' anv aG
     exact .inr (.inr ⟨by omega,o,no,cT,bd,anu,s,e,k0,hY,(gx.trans anv).mono (by omega),rfl,aG⟩)
   have OE:∀q,T.N q→q<w.heap.size:=fun q J=>TM q (aX.lS J)
   have err:∀ (bt:eM) (e_:World),fM e_ (T.cY bt T.P) c→fN T (T.cY bt T.P) c c [] [] gy e_ 2→¬T.C.D.calm 2→TJ T c n u w (.tuple #[.slice none 0 0, .int .i64 0, .int .i64 0, .int .i64 3]) e_:=by
     intro bt e_ Fv OD fh
     exact .inr (.inl ⟨by omega,_,c,rfl,Fv,((fN.ext T c dC).trans OD).mono (by omega),fh⟩)
   obtain ⟨cA,bd,bc,a_⟩:=cj KG
   refine ⟨fun q=>T.N q∧¬T.G q,_,rfl,fun J=>J.2 h.gc,_,TL.cells.1,(fun J=>by have:=OE _ J.1;show False;exact absurd this (by show¬bC<w.heap.size;omega)),_,cA,?_,?_⟩
   · rw[←EJ]
     refine (aaB (Z:=fun _=>False) TL (ao.refl _ _) (fun _ h=>h.elim) (by omega) hY).use ?_
     rintro _ dp ⟨bt,ak,Dl,aaF,KH,e9⟩
     have anw:=Dl.size
     rcases e9 with ⟨mG,mH,Do,rfl,TN⟩|⟨rfl,fh⟩
     · refine ⟨_,mG,mH,Do,0,rfl,Dl,cp (vs:=[.bool false, .slice none 0 0, .slice none 0 0, .slice none 0 0]) rfl fun kv KI KJ anx=>⟨ao.eK KJ,KI.dr rfl lU,rfl,ec KI (us:=hK o mG mH Do) rfl rfl fun e_ KK A3 TO=> ?_⟩⟩
       have Fx:Ext dp e_:=Ext.e3 KJ A3 (cP _)
       obtain ⟨OF,TP⟩:=KH dp (ao.refl _ _)
       have HR:=KG.an Dl fun J=>by have:=OE _ J.1;omega
       refine fin bt dp.heap.size mG mH Do e_ (OF.ext Fx) ((TP.trans (fN.ext _ _ Fx)).mono (by omega)) (HR.ext Fx) KK (by omega) (fun hm=>by have:=OF.t.lt hm;omega) ?_
       exact (TN.ext Fx).bw fun q _ ab=>ab.2
     · refine ⟨_,bX,bX,bX,3,rfl,Dl,cp (vs:=[.bool false, .slice none 0 0, .slice none 0 0, .slice none 0 0]) rfl fun kv KI KJ anx=>⟨ao.eK KJ,KI.dr rfl lU,rfl,ec KI (us:=hK rp bX bX bX) rfl rfl fun e_ KK A3 TO=>⟨fun _=> ?_,fun ab=>(by cases ab)⟩⟩⟩
       have Fx:Ext dp e_:=Ext.e3 KJ A3 (cP _)
       obtain ⟨OF,TP⟩:=KH dp (ao.refl _ _)
       exact err bt e_ (OF.ext Fx) ((TP.trans (fN.ext _ _ Fx)).mono (by omega)) fh
   · refine cp (vs:=[.bool false, .slice none 0 0, .slice none 0 0, .slice none 0 0]) rfl fun bR HS ou aaG=>⟨ao.eK ou,?_⟩
     rw[←EJ]
     refine (aaB (Z:=fun q=>q=gy.heap.size) TL ou (fun q e=>⟨by omega,by omega⟩) (by omega) hY).use ?_
     rintro _ dp ⟨bt,ak,Dl,aaF,KH,e9⟩
     have anw:=Dl.size
     have HR:=HS.an Dl fun J=>by have:=OE _ J.1;omega
     have anz:=(KG.ext ou).an Dl fun J=>by have:=OE _ J.1;omega
     rcases e9 with ⟨mG,mH,Do,rfl,TN⟩|⟨rfl,fh⟩
     · refine ⟨_,mG,mH,Do,0,rfl,HR.dr rfl lU,rfl,ec HR (us:=hK o mG mH Do) rfl rfl fun e_ KK A3 TO=> ?_⟩
       obtain ⟨Fv,TQ⟩:=KH e_ A3
       refine fin bt gy.heap.size mG mH Do e_ Fv TQ (anz.an A3 (by omega)) KK (cP _) (fun hm=> ?_) ?_
       · rcases aaF _ hm with U|U
         · have:=TM _ U;omega
         · omega
       · refine (b8.an TN A3 fun q J e=>by have:=J.1;omega).bw fun q _ ab=>ab.2
     · refine ⟨_,bX,bX,bX,3,rfl,HR.dr rfl lU,rfl,ec HR (us:=hK rp bX bX bX) rfl rfl fun e_ KK A3 TO=>⟨fun _=> ?_,fun ab=>(by cases ab)⟩⟩
       obtain ⟨Fv,TQ⟩:=KH e_ A3
       exact err bt e_ Fv TQ fh
end
section
structure TR (T av:aX) (l:List Nat) (w w':World):Prop where
 to:cc T av w w' 0
 E:av.E=T.E
 G:av.G=T.G
 root:av.root=T.root
 bl:av.bl=T.bl
 f:∀no,av.f no=(T.f no&& !decide (no∈l))
 gW:∀no,(no∉l∨T.g no=true)→av.P no=T.P no∧av.C.view no=T.C.view no
theorem aaH {w:World} {T:aX} {c:gw} {s:aa} {l:List Nat} (h:fM w T c) (aj:Src 1 w s (l6 l)) (wz:∀q,aR s q→T.G q) (az:∀x∈l,T.f x=true) (jy:l.Nodup) (zQ:l.length≤10000):
   aQ Tryz.prog F.A4 #[.pointer (some ⟨c.dd,0,none⟩), .slice s.a s.len s.cap] w (fun v w'=>v= .tuple #[]∧∃av:aX,fM w' av c∧TR T av l w w'):=by
 have gA:s.len=l.length:=by have:=aj.len;rw[GR] at this;omega
 refine W.anA (some ⟨c.dd,0,none⟩) s w _ ?_
 (delta W.A4 aE a8 bA a_ bc aC;dsimp only)
 refine ⟨fun i w'=>∃ (j:Nat) (av:aX),i=j∧j≤l.length∧fM w' av c∧TR T av (l.take j) w w'∧Src 1 w' s (l6 l),fun i _=>((l.length:Int)-i).toNat,⟨0,T,rfl,fx _,h,⟨.refl _ _,rfl,rfl,rfl,rfl,fun no=>by simp,fun _ _=>⟨rfl,rfl⟩⟩,aj⟩,?_⟩
 rintro _ br ⟨j,cT,rfl,a6,U,a7,JA⟩
 refine ⟨fun a9=> ?_,fun cm=> ?_⟩
 · have a9:j<l.length:=by
     have:((j:Nat):Int)<((s.len:Nat):Int):=dU a9
     omega
   have qz:cT.f l[j]=true:=by
     rw[a7.f,az _ (fv a9)]
     have:l[j]∉l.take j:=fun hm=>by
       obtain ⟨i,hi,he⟩:=na hm
       rw[dV] at hi
       rw[Gm] at he
       have:=(List.getElem_inj jy).1 he
       omega
     simp[this]
   have aui:l[j]<cT.n:=by
     rcases hE l[j] cT.n with ad|ad
     · exact ad
     · have:=U.t.s.E3 _ ad
       rw[qz] at this;cases this
   obtain ⟨A,ax,ab,al⟩:=JA.at (i:=j) (v:= .int .i64 ((l[j]:Nat):Int)) (by simp[l6,a9])
   refine ym (fun w'=>∃cW:aX,fM w' cW c∧TR T cW (l.take (j+1)) w w'∧Src 1 w' s (l6 l)) (fun q J=>⟨A,ax,ab,_,al,_,rfl,_,U.cells.1,_,rfl,_,U.t.cells.2.1,(alf U.t.s _).use ?_⟩) ?_
   · rintro _ _ ⟨rfl,rfl⟩
     refine ⟨_,rfl,_,rfl,_,U.cells.1,_,rfl,_,U.t.cells.2.1,(ald U.t.s _).use ?_⟩
     rintro _ c9 ⟨rfl,p6,xk⟩
     have yB:Ho cT.f cT.n ((l[j]:Nat):Int)=j9 cT.f l[j] false:=by
       unfold Ho
       rw[if_pos ⟨by omega,by omega⟩,hF]
     rw[yB] at p6
     obtain ⟨anB,aaI⟩:=U.t.ZJ p6 xk
     have Dm:fM c9 (cT.Hv (j9 cT.f l[j] false)) c:=U.of anB xk (fun q J aG=>(U.t.s5 q J).2 aG) rfl fun _ h=>h
     have C4:Src 1 c9 s (l6 l):=JA.an xk fun q J aG=>(U.t.s5 q (by rw[a7.G];exact wz q J)).2 aG
     have E6:(decide ((0:Int)≤((l[j]:Nat):Int))&&decide (((l[j]:Nat):Int)<(cT.n:Nat))&&cT.f (Int.toNat ((l[j]:Nat):Int))&& !(cT.g (Int.toNat ((l[j]:Nat):Int))))= !(cT.g l[j]):=by
       rw[hF,qz,il (by omega),il (by omega)];simp
     have HT:∀no,j9 cT.f l[j] false no=(T.f no&& !decide (no∈l.take (j+1))):=fun no=>by
       rw[uK a9]
       unfold j9
       by_cases e:no=l[j]
       · rw[if_pos e,e,il (fe.2 (.inr (nC.2 rfl)))]
         exact (Bool.and_false _).symm
       · rw[if_neg e,a7.f]
         have bm:decide (no∈l.take j++ [l[j]])=decide (no∈l.take j):=by
           rw[o1,fI,fI,fe,nC]
           exact ⟨fun h=>h.resolve_right e, .inl⟩
         rw[bm]
     rw[E6]
     refine ⟨_,rfl,fun gC=>⟨_,rfl,_,Dm.cells.1,_,rfl,_,Dm.t.cells.1,(akI Dm.t.pP _).use ?_⟩,fun gC=>J _ ⟨_,Dm,⟨?_,a7.E,a7.G,a7.root,a7.bl,HT,fun no dg=> ?_⟩,C4⟩⟩
     · rintro _ cu ⟨⟨b,rfl⟩,bt,nQ,b4,ak⟩
       have NZ:T.g l[j]=false:=by
         have ad:cT.g=T.g:=a7.to.g
         rw[ad] at gC
         simpa using gC
       obtain ⟨anC,anD⟩:=Dm.t.SC (P:=fun no=>if no=l[j] then none else cT.P no) nQ b4 (fun no dZ aT=>by
         by_cases e:no=l[j]
         · rw[if_pos e] at aT;cases aT
         · rw[if_neg e] at aT
           rw[ak no e]
           exact U.t.lv no dZ aT)
       have TS:=Dm.of (av:=(cT.Hv (j9 cT.f l[j] false)).cY bt fun no=>if no=l[j] then none else cT.P no) anC b4.an (fun q J=>Dm.t.Of J) rfl fun _ h=>h
       refine ⟨b,rfl,J _ ⟨_,TS,⟨?_,a7.E,a7.G,a7.root,a7.bl,HT,fun no dg=> ?_⟩,?_⟩⟩
       · exact ((a7.to.trans aaI).trans anD).mono (by omega)
       · have en:no≠l[j]:=fun e=>by
           rcases dg with ad|ad
           · exact ad (by rw[uK a9,e];exact fe.2 (.inr (nC.2 rfl)))
           · rw[e,NZ] at ad;cases ad
         have ar:=a7.gW no (dg.imp (fun ad aI=>ad (by rw[uK a9];exact fe.2 (.inl aI))) id)
         exact ⟨(if_neg en).trans ar.1,(ak no en).trans ar.2⟩
       · exact C4.an b4.an fun q J=>Dm.t.Of (by show cT.G q;rw[a7.G];exact wz q J)
     · exact (a7.to.trans aaI).mono (by omega)
     · exact a7.gW no (dg.imp (fun ad aI=>ad (by rw[uK a9];exact fe.2 (.inl aI))) id)
   · rintro e7 ⟨cW,ad,TT,mo⟩
     rw[cE (n:=(j:Int)+1) (by omega) (by omega)]
     refine ⟨⟨j+1,cW,by omega,by omega,ad,TT,mo⟩,?_⟩
     show ((l.length:Int)-((j:Int)+1)).toNat<((l.length:Int)-(j:Int)).toNat
     omega
 · have cm:j=l.length:=by
     have:¬((j:Nat):Int)<((s.len:Nat):Int):=ff cm
     omega
   subst cm
   rw[tD] at a7
   exact ⟨rfl,cT,U,a7⟩
theorem y_ {B:Nat→Prop} {w:World} {n:aL} {K V D:aa} (aD:b8 B w n K V D) (bl:Nat) (dq:bl≤100) (ae:n.leaf=false→∃x,n.kids=[x]∧1≤bl):
   aQ Tryz.prog F.y_ #[e5 n K V D, .int .i64 (bl:Nat)] w (fun v w'=>v=(if n.leaf then .tuple #[.int .i64 0, .int .i64 0, .int .i64 0] else .tuple #[.int .i64 ((n.kids.getD 0 0:Nat):Int), .int .i64 ((bl-1:Nat):Int), .int .i64 0])∧Ext w w'):=by
 refine W.anE n.leaf K V D (bl:Nat) w _ ?_
 (delta W.y_ bP ai aE aq a8 bA aC;dsimp only)
 refine cp (vs:=hK n K V D) rfl fun ag gd bz kM=> ?_
 obtain ⟨cA,bd,bc,a_⟩:=cj gd
 refine ⟨_,cA,fun ab=>⟨by rw[if_pos ab],bz⟩,fun ab=> ?_⟩
 obtain ⟨x,af,U⟩:=ae ab
 obtain ⟨A,ax,g2,al⟩:=eF.at (aD.ext bz).kids (i:=0) (by rw[af];simp)
 refine ⟨D,a_,A,ax,g2,_,al,?_,bz⟩
 have aY:((bl:Nat):Int)-1=((bl-1:Nat):Int):=by omega
 rw[if_neg (by rw[ab];simp),cE (by omega) (by omega),aY]
 simp only[af]
 rfl
end
section
def TU (T:aX) (c:gw) (ks:List Key) (kids:List Nat) (w:World) (v:Value) (w':World):Prop:=
 (∃x,ks=[]∧kids=[x]∧v= .tuple #[.int .i64 (x:Nat), .int .i64 (T.bl:Nat), .int .i64 0]∧fM w' T c∧Ext w w')∨
 (∃ (k:Key) (x y no:Nat) (av:aX) (c':gw),ks=[k]∧kids=[x,y]∧fM w' av c'∧fN T av c c' [no] [] w w' 1∧
   ((v= .tuple #[.int .i64 (no:Nat), .int .i64 ((T.bl+1:Nat):Int), .int .i64 0]∧av.P no=some ⟨false,[k],[],[x,y]⟩)∨(v= .tuple #[.int .i64 (no:Nat), .int .i64 ((T.bl+1:Nat):Int), .int .i64 3]∧¬T.C.D.calm 1)))
theorem aaJ (K D:Nat) (w:World):Sem.run Tryz.prog (Instr.build ah.cF #[(1, .slice (some ⟨K,0,none⟩) 1 1),(3, .slice (some ⟨D,0,none⟩) 2 2)]) w= .ok (.agg #[.bool false, .slice (some ⟨K,0,none⟩) 1 1, .slice none 0 0, .slice (some ⟨D,0,none⟩) 2 2]) w:=by kernel_rfl
theorem Var.aaK {w:World} {b:Nat} {vs:List Value} {T:TypeId} (h:Var w b vs T):Src 1 w ⟨some ⟨b,0,none⟩,vs.length,vs.length⟩ vs:=by
 refine ⟨by show _=vs.length*1;omega,(fun h=>by cases h),fun a aS=> ?_⟩
 cases aS
 show ey w ⟨b,0,none⟩ 0 (vs.length*1)=_
 rw[ml,h.rd rfl]
theorem anF {w:World} {t:aa} {k:Key} (b:Nat) (ak:Var w b [.slice t.a t.len t.cap] ah.cd) (aN:bD (fun _=>True) w t k):bU (fun _=>True) w ⟨some ⟨b,0,none⟩,1,1⟩ [k]:=by
 refine ⟨[t],rfl,ak.aaK,cP _,fun q J=>⟨trivial,?_⟩,fun i U ad=> ?_⟩
 · obtain ⟨A,ax,rfl⟩:=J
   cases ax
   exact ak.lt
 · have:i=0:=by simp at U;omega
   subst this
   exact aN
theorem anG {w:World} {x y:Nat} (b:Nat) (ak:Var w b [.int .i64 (x:Nat), .int .i64 (y:Nat)] ah.int):eF (fun _=>True) w ⟨some ⟨b,0,none⟩,2,2⟩ [x,y]:=by
 refine ⟨ak.aaK,cP _,fun q J=>⟨trivial,?_⟩⟩
 obtain ⟨A,ax,rfl⟩:=J
 cases ax
 exact ak.lt
theorem anH {w:World} {T:aX} {c:gw} {s:aa} {ks:List Key} {kids:List Nat} (h:fM w T c) (aT:xm (fun q=>¬T.M q) w s ks kids) (dq:kids.length=2→T.bl<12) (aj:∀k x y,ks=[k]→kids=[x,y]→ew k∧x<1600∧y<1600)
   (gV:T.C.D.cI≤900000080) (jr:1≤fG T) (n6:c.made.length≤900):
   aQ Tryz.prog F.Dn #[.pointer (some ⟨c.dd,0,none⟩), .slice s.a s.len s.cap] w (TU T c ks kids w):=by
 have auj:=h.t.num.2.1
 refine W.anI (some ⟨c.dd,0,none⟩) s w _ ?_
 (delta W.Dn aE a8 bA aq Dp ai s_ aC;dsimp only)
 have bx:Ext w w.drew:=eE w
 have hd:=h.ext bx
 rcases aT with ⟨b,x,rfl,rfl,rfl,ak,ab⟩|⟨b,x,y,k,t,rfl,rfl,rfl,ak,ab,aN,ae⟩
 · refine ⟨fun _=>bM ⟨_,rfl,⟨by decide,by show (0:Int)<((1:Nat):Int);decide⟩,id,_,by rw[aV,aV];exact ak.drew.cell,_,rfl,id,_,hd.cells.1,_,rfl,id,_,hd.t.cells.2.2.2.2,?_⟩,fun h=>(by cases h)⟩
   exact .inl ⟨x,rfl,rfl,rfl,hd,bx⟩
 · have dq:=dq rfl
   obtain ⟨s1,s2,bQ⟩:=aj k x y rfl rfl
   refine ⟨fun h=>(by cases h),fun _=>⟨_,rfl,_,h.cells.1,_,rfl,_,h.t.cells.2.2.2.2,fun mZ=> ?_,fun _=> ?_⟩⟩
   · have:((T.bl:Nat):Int)=12:=by simpa using mZ
     omega
   have s4:dX ⟨false,[k],[],[x,y]⟩:= .inr ⟨⟨fun mC jJ=>by rw[nC.1 jJ];exact s1,List.pairwise_singleton _ _⟩,rfl,by simp,rfl,rfl,fun z bI=>by
     simp only[gp,mm,mn] at bI
     rcases bI with rfl|rfl<;>assumption⟩
   have dB:cf ⟨false,[k],[],[x,y]⟩≤232:=by
     have:=s1.2
     simp[cf,cellsOf]
     omega
   have TV:¬T.N b:=fun aD=>ab (aX.lS aD)
   have fin:∀ (cO:World) (bO a8:Nat),Ext w cO→Var cO bO [.slice t.a t.len t.cap] ah.cd→Var cO a8 [.int .i64 (x:Nat), .int .i64 (y:Nat)] ah.int→
       aQ Tryz.prog F.uc #[.pointer (some ⟨c.dd,0,none⟩), .agg #[.bool false, .slice (some ⟨bO,0,none⟩) 1 1, .slice none 0 0, .slice (some ⟨a8,0,none⟩) 2 2]] cO (fun v w'=>∃pc:Int,∃pX:Int,v= .tuple #[.int .i64 pc, .int .i64 pX]∧ao T.N cO w'∧
         ∀hO,Ext w' hO→TU T c [k] [x,y] w (.tuple #[.int .i64 pc, .int .i64 ((T.bl+1:Nat):Int), .int .i64 pX]) hO∧∃av c',fM hO av c'∧c'.dd=c.dd∧av.bK=T.bK∧av.bl=T.bl):=by
     intro cO bO a8 af Tg ni
     have jy:b8 (fun _=>True) cO ⟨false,[k],[],[x,y]⟩ ⟨some ⟨bO,0,none⟩,1,1⟩ ⟨none,0,0⟩ ⟨some ⟨a8,0,none⟩,2,2⟩:=by
       exact ⟨anF bO Tg (bD.bw (bD.ext aN af) fun _ _ _=>trivial),bU.none _ _,anG a8 ni⟩
     refine (Oh (h.ext af) (by omega) jr (by omega) jy s4 dB).mono ?_
     rintro v w' ⟨no,av,c',pb,b4,e9⟩
     have gx:=((fN.ext T c af).trans b4).mono (j:=1) (by omega)
     rcases e9 with ⟨rfl,hY⟩|⟨rfl,fh⟩
     · refine ⟨_,_,rfl,b4.to.an,fun hO cv=>⟨.inr ⟨k,x,y,no,av,c',rfl,rfl,pb.ext cv,(gx.trans (fN.ext av c' cv)).mono (by omega), .inl ⟨rfl,hY⟩⟩,av,c',pb.ext cv,b4.dd,b4.to.bK,b4.bl⟩⟩
     · refine ⟨_,_,rfl,b4.to.an,fun hO cv=>⟨.inr ⟨k,x,y,no,av,c',rfl,rfl,pb.ext cv,(gx.trans (fN.ext av c' cv)).mono (by omega), .inr ⟨rfl,fh⟩⟩,av,c',pb.ext cv,b4.dd,b4.to.bK,b4.bl⟩⟩
   have mX:IntKind.wrap .i64 (((T.bl:Nat):Int)+1)=((T.bl+1:Nat):Int):=by rw[cE (by omega) (by omega)];rfl
   refine TK (fun a b w'=>∀hO,Ext w' hO→TU T c [k] [x,y] w (.tuple #[.int .i64 a, .int .i64 ((T.bl+1:Nat):Int), .int .i64 b]) hO∧∃av c',fM hO av c'∧c'.dd=c.dd∧av.bK=T.bK∧av.bl=T.bl) (fun q J=>bM ⟨T.N,_,rfl,⟨by decide,by show (1:Int)<((2:Nat):Int);decide⟩,TV,t,by rw[aV];exact ak.drew.cell,_,rfl,⟨by decide,by show (0:Int)<((2:Nat):Int);decide⟩,TV,_,by rw[aV,aV];exact ak.drew.cell,_,rfl,⟨by decide,by show (1:Int)<((2:Nat):Int);decide⟩,TV,_,by rw[aV,aV];exact ak.drew.cell,?_,?_⟩) ?_
   · refine cp (vs:=[.slice t.a t.len t.cap]) rfl fun dF anJ xy Ok=>⟨ao.eK xy,cp (vs:=[.int .i64 (x:Nat), .int .i64 (y:Nat)]) rfl fun cO anK sw aaL=>⟨ao.eK sw,_,fun _=>aaJ _ _ _,?_⟩⟩
     refine (fin cO w.drew.heap.size dF.heap.size (bx.trans (xy.trans sw)) (anJ.ext sw) anK).use ?_
     rintro _ w' ⟨pc,pX,rfl,al,bh⟩
     exact ⟨pc,pX,rfl,al,J _ _ _ bh⟩
   · refine cp (vs:=[.int .i64 (x:Nat), .int .i64 (y:Nat)]) rfl fun dF anL xy Ok=>⟨ao.eK xy,cp (vs:=[.slice t.a t.len t.cap]) rfl fun cO TW sw aaL=>⟨ao.eK sw,_,fun _=>aaJ _ _ _,?_⟩⟩
     refine (fin cO dF.heap.size w.drew.heap.size (bx.trans (xy.trans sw)) TW (anL.ext sw)).use ?_
     rintro _ w' ⟨pc,pX,rfl,al,bh⟩
     exact ⟨pc,pX,rfl,al,J _ _ _ bh⟩
   · intro a b mc bh
     obtain ⟨U,av,c',ad,ar,aI,aW⟩:=bh _ (eE mc)
     have al:=ad.cells.1
     rw[ar] at al
     have aN:=ad.t.cells.2.2.2.2
     refine bM ⟨_,rfl,id,_,al,_,rfl,id,_,aN,?_⟩
     rw[aW,mX]
     exact U
end
section
theorem fC.TX {P:Nat→Option aL} {lo hi:Option Key} {h:Nat} {n:aL} {p:List Nat} {L:List bf} (ak:fC P h n lo hi p L) (ad:n.leaf=true→cf n≤310) (ar:n.leaf=false→cf n≤335) (ae:n.leaf=false→n.keys≠ []):y0 n:=by
 refine ⟨?_,by cases az:n.leaf;exact iT (ar az) (by decide);exact iT (ad az) (by decide),fun aj=> ?_⟩
 · cases h with
   |zero=>exact ak.elim
   |succ h=>
     cases h with
     |zero=>exact .inl ak.1
     |succ h=>
       obtain ⟨aA,aF,aJ,aO,cS⟩:=ak
       have aj:=cS.sorted fun _ _ _ _ _ hw=>hw.in
       exact .inr ⟨⟨aJ,aj.2.2.1⟩,aA,ae aA,cS.len,aF,aO⟩
 · obtain ⟨aA,aF,aJ,aO,_⟩:=ak.two (Q:=P) (x:=0) (y:=0) aj ad ar
   exact ⟨aA,aF,aJ,aO⟩
section
variable {P:Nat→Option aL} {lo hi:Option Key}
theorem anM {h:Nat} {bE e2:aL} {gY fa:Option Key} {i:Nat} {cl oD:List Nat} {bT pv:List bf} {k:Key} (kZ:∀k∈bE.keys,ew k) (hlen:bE.kids.length=bE.keys.length+1) (hY:∀x n,P x=some n→cf n≤232)
   (hG:1≤i) (n5:i<bE.kids.length) (fy:kY gY fa k)
   (aT:kL (kB P (h+1)) lo gY (bE.keys.take i) (bE.kids.take i) cl bT) (ak:fC P (h+1) e2 gY fa oD pv) (U:cf e2<80):
   ∃ (o:aL) (ab:i-1<bE.kids.length) (g2:i-1<bE.keys.length),P bE.kids[i-1]=some o∧o.leaf=e2.leaf∧ew bE.keys[i-1]∧y0 (g0 o bE.keys[i-1] e2):=by
 obtain ⟨s,Jk,cZ,r,hH,N,aj,rfl,r5,rfl,rfl,⟨hw,m,hm,kD⟩,GC,zQ⟩:=aT.last (by rw[dV];omega)
 have fm:(bE.keys.take i).length=i:=by rw[dV];omega
 have lD:(bE.kids.take i).length=i:=by rw[dV];omega
 have r5:s=bE.keys[i-1]'(by omega):=by
   rw[r5,Gm];congr 1;omega
 have Er:(bE.kids.take i)[(bE.kids.take i).length-1]'(by omega)=bE.kids[i-1]'(by omega):=by
   rw[Gm];congr 1;omega
 rw[Er] at hw hm
 obtain ⟨o,sJ,k0,rfl,_,p7⟩:=hw.v_
 rw[k0] at hm
 have kD:2≤o.keys.length:=by rw[Option.some.inj hm];exact kD
 clear hm
 subst r5
 have j1:=(show kB P (h+1) Jk (some (bE.keys[i-1]'(by omega))) (bE.kids[i-1]'(by omega)) (bE.kids[i-1]'(by omega)::sJ) N from ⟨hw,o,k0,kD⟩).in
 obtain ⟨x,af⟩:=I7 _ j1.1
 have r6:=kZ _ (fv (l:=bE.keys) (n:=i-1) (by omega))
 have BY:=fC.merge p7 ak r6 (fun c al=>qu (tG ((j1.2.2 x af).1 c al) ((j1.2.2 x af).2 _ rfl))) (fun c al=>qu (tG (fy.1 _ rfl) (fy.2 c al)))
 have dB:=MX p7 ak r6 (by have:=hY _ _ k0;omega)
 have GD:=MW (a:=o) (b:=e2) (s:=bE.keys[i-1]'(by omega))
 refine ⟨o,by omega,by omega,k0,by rw[p7.leaf,ak.leaf],r6,BY.TX dB.1 dB.2 fun _ e=> ?_⟩
 rw[e,x0] at GD
 omega
theorem anN {h:Nat} {bE e2:aL} {gY fa:Option Key} {i:Nat} {cr oD:List Nat} {pv b_:List bf} {k:Key} (kZ:∀k∈bE.keys,ew k) (hlen:bE.kids.length=bE.keys.length+1) (hY:∀x n,P x=some n→cf n≤232)
   (n5:i+1<bE.kids.length) (fy:kY gY fa k)
   (bJ:nc (kB P (h+1)) hi fa (bE.keys.drop i) (bE.kids.drop (i+1)) cr b_) (ak:fC P (h+1) e2 gY fa oD pv) (U:cf e2<80):
   ∃ (o:aL) (ab:i+1<bE.kids.length) (g2:i<bE.keys.length),P bE.kids[i+1]=some o∧o.leaf=e2.leaf∧ew bE.keys[i]∧y0 (g0 e2 bE.keys[i] o):=by
 obtain ⟨s,gZ,r,gq,N,W6,aj,rfl,r5,rfl,rfl,⟨hw,m,hm,kD⟩,Jl⟩:=bJ.head (by rw[fw];omega)
 have r5:s=bE.keys[i]'(by omega):=by rw[r5,Jb];rfl
 have Er:(bE.kids.drop (i+1))[0]'(by rw[fw];omega)=bE.kids[i+1]'n5:=by rw[Jb]
 rw[Er] at hw hm
 obtain ⟨o,sJ,k0,rfl,_,p7⟩:=hw.v_
 rw[k0] at hm
 have kD:2≤o.keys.length:=by rw[Option.some.inj hm];exact kD
 clear hm
 subst r5
 have j1:=(show kB P (h+1) (some (bE.keys[i]'(by omega))) gZ (bE.kids[i+1]'n5) (bE.kids[i+1]'n5::sJ) N from ⟨hw,o,k0,kD⟩).in
 obtain ⟨x,af⟩:=I7 _ j1.1
 have r6:=kZ _ (fv (l:=bE.keys) (n:=i) (by omega))
 have BY:=fC.merge ak p7 r6 (fun c al=>qu (tG (fy.1 c al) (fy.2 _ rfl))) (fun c al=>qu (tG ((j1.2.2 x af).1 _ rfl) ((j1.2.2 x af).2 c al)))
 have dB:=MX ak p7 r6 (by have:=hY _ _ k0;omega)
 have GD:=MW (a:=e2) (b:=o) (s:=bE.keys[i]'(by omega))
 refine ⟨o,n5,by omega,k0,by rw[p7.leaf,ak.leaf],r6,BY.TX dB.1 dB.2 fun _ e=> ?_⟩
 rw[e,x0] at GD
 omega
inductive Ctx (P:Nat→Option aL) (k:Key) (top:Nat):Nat→Option Key→Option Key→List (Nat×aL×Nat)→List Nat→List bf→List bf→Prop
 |top:Ctx P k top top none none [] [] [] []
 |step {jb:Nat} {lo hi gY fa:Option Key} {st:List (Nat×aL×Nat)} {hT:List Nat} {A B:List bf} {no:Nat} {n:aL} {cl cr:List Nat} {bT b_:List bf} (h:Ctx P k top (jb+2) lo hi st hT A B) (hY:P no=some n) (az:n.leaf=false) (iU:∀k∈n.keys,ew k) (rj:∀x∈n.kids,x<1600)
     (hlen:n.kids.length=n.keys.length+1) (ae:n.keys≠ []) (dW:st≠ []→2≤n.keys.length) (fy:kY gY fa k) (aT:kL (kB P (jb+1)) lo gY (n.keys.take (fJ n.keys k)) (n.kids.take (fJ n.keys k)) cl bT)
     (bJ:nc (kB P (jb+1)) hi fa (n.keys.drop (fJ n.keys k)) (n.kids.drop (fJ n.keys k+1)) cr b_):Ctx P k top (jb+1) gY fa (st++ [(no,n,fJ n.keys k)]) (no::(cl++(cr++hT))) (A++bT) (b_++B)
theorem Ctx.jb {k:Key} {top jb:Nat} {st:List (Nat×aL×Nat)} {hT:List Nat} {A B:List bf} (h:Ctx P k top jb lo hi st hT A B):jb+st.length=top:=by
 induction h with
 |top=>rfl
 |step h _ _ _ _ _ _ _ _ _ _ dw=>rw[eu,rh];omega
theorem Ctx.pt {Q:Nat→Option aL} {k:Key} {top jb:Nat} {st:List (Nat×aL×Nat)} {hT:List Nat} {A B:List bf} (h:Ctx P k top jb lo hi st hT A B) (J:∀x∈hT,P x=Q x):Ctx Q k top jb lo hi st hT A B:=by
 induction h with
 |top=>exact .top
 | @step jb lo hi gY fa st hT A B no n cl cr bT b_ h hY az iU rj hlen ae dW fy aT bJ dw=>
   refine .step (dw fun x af=>J x (by simp[af])) (by rw[←J no (by simp)];exact hY) az iU rj hlen ae dW fy (aT.x3 fun _ _ _ _ _ aj hw=>hw.pt fun x af=>J x ?_) (bJ.x3 fun _ _ _ _ _ aj hw=>hw.pt fun x af=>J x ?_)
   · have:=aj x af;simp[this]
   · have:=aj x af;simp[this]
theorem Ctx.down {k:Key} {top:Nat}:∀ {jb:Nat} {lo hi:Option Key} {st:List (Nat×aL×Nat)} {hT:List Nat} {A B M hH:List bf} {no:Nat} {p:List Nat},Ctx P k top (jb+1) lo hi st hT A B→jf P (jb+1) lo hi no p M→(st≠ []→∃m,P no=some m∧2≤m.keys.length)→kY lo hi k→hH=A++(M++B)→(∀u,Loc k u→u hH=A++(u M++B))→
   ∃ (rest kx:List (Nat×aL×Nat)) (lz:Nat) (di:aL) (kC hG:Option Key) (ov:List Nat) (nz nA:List bf),C6 P k (jb+1) no rest∧st++rest=kx++ [(lz,di,0)]∧Ctx P k top 1 kC hG kx ov nz nA∧P lz=some di∧oC di∧di.within kC hG∧di.keys≠ []∧(kx≠ []→2≤di.keys.length)∧kY kC hG k∧
     (p++hT).Perm (lz::ov)∧hH=nz++(di.gH++nA)∧∀u,Loc k u→u hH=nz++(u di.gH++nA)
 |0,lo,hi,st,hT,A,B,M,hH,no,p,al,hw,ad,fy,dn,hu=>by
   obtain ⟨n,U,ar,aI,aW,rfl,rfl⟩:=hw
   refine ⟨[(no,n,0)],st,no,n,lo,hi,hT,A,B,⟨n,[],U,by rw[ar.leaf];rfl,rfl,rfl⟩,rfl,al,U,ar,aI,aW,fun aj=> ?_,fy,List.Perm.refl _,dn,hu⟩
   obtain ⟨m,hm,kD⟩:=ad aj
   rw[U] at hm;cases hm
   exact kD
 |jb+1,lo,hi,st,hT,A,B,M,hH,no,p,al,hw,ad,fy,dn,hu=>by
   obtain ⟨n,fi,U,rfl,ar,ak⟩:=hw.v_
   obtain ⟨gY,fa,cl,q,cr,bT,pv,b_,ab,rfl,rfl,E_,aaM,anO,hlen,GC,Jl⟩:=ak.at fy
   obtain ⟨aA,aF,aJ,aO,_⟩:=ak
   have pb:=Ctx.step al U aA aJ aO hlen ar (fun aj=>by
     obtain ⟨m,hm,kD⟩:=ad aj
     rw[U] at hm;cases hm
     exact kD) aaM GC Jl
   obtain ⟨rest,kx,lz,di,kC,hG,ov,nz,nA,aq,bA,bP,iq,kF,A5,Fy,Dq,Dr,za,A6,xz⟩:=Ctx.down (hH:=hH) pb E_.1 (fun _=>E_.2) aaM (by rw[dn];simp only[er]) (fun u az=>by rw[hu u az,anO u az];simp only[er])
   refine ⟨(no,n,fJ n.keys k)::rest,kx,lz,di,kC,hG,ov,nz,nA,⟨n,rest,U,by rw[aA];simp,by rw[if_neg (by omega)],?_⟩,?_,bP,iq,kF,A5,Fy,Dq,Dr,?_,A6,xz⟩
   · rw[p5,g8 ab]
     exact aq
   · rw[←bA];simp
   · refine List.Perm.trans ?_ za
     have aY:(no::(cl++(q++cr))++hT)=no::(cl++(q++(cr++hT))):=by simp[er]
     rw[aY]
     have bm:(q++no::(cl++(cr++hT))).Perm (no::(q++(cl++(cr++hT)))):=BO
     refine List.Perm.trans ?_ bm.symm
     refine List.Perm.cons _ ?_
     have dM:=(I_ (l₁:=cl) (l₂:=q)).append_right (cr++hT)
     simpa[er] using dM
end
end
section
theorem TY {α:Type} (a b c:List α):(a++(b++c)).Perm (a++c++b):=by
 rw[er]
 exact (I_ (l₁:=b) (l₂:=c)).append_left a
theorem Ctx.up {P:Nat→Option aL} {lo hi:Option Key} {k:Key} {top jb:Nat} {st TZ:List (Nat×aL×Nat)} {hT:List Nat} {A B:List bf} {u:gk} {e2:aL} {q:List Nat} {M:List bf} (al:Ctx P k top jb lo hi st hT A B) (gI:st=TZ++ [u.st]) (ak:fC P jb e2 lo hi q M) (hY:∀x n,P x=some n→cf n≤232) (aj:cf e2≤282):
   ∃ (Ds Dt:Option Key) (A7:List Nat) (yk Du:List bf) (ps:List Nat),Ctx P k top (jb+1) Ds Dt TZ A7 yk Du∧hT=u.no::(ps++A7)∧P u.no=some u.n∧u.eP<u.n.kids.length∧u.n.kids.length=u.n.keys.length+1∧u.n.keys≠ []∧(TZ≠ []→2≤u.n.keys.length)∧
     (80≤cf e2→∀ (Q:Nat→Option aL) (ks:List Key) (kids:List Nat),zP Q e2 ks kids→(∀x∈ps++q,P x=Q x)→(∀x∈kids,x<1600)→∃ (iB:List Nat) (M2:List bf),fC Q (jb+1) (l3 u.n u.eP (u.eP+1) ks kids) Ds Dt iB M2∧yk++(M2++Du)=A++(M++B)∧iB.Perm (kids++(ps++q))∧
       cf (l3 u.n u.eP (u.eP+1) ks kids)≤cf u.n+27∧u.n.keys.length≤(l3 u.n u.eP (u.eP+1) ks kids).keys.length+1)∧
     (cf e2<80→∃ (o:aL) (no:Nat) (rest:List Nat),u.n.kids[te u]? =some no∧P no=some o∧o.leaf=e2.leaf∧u.eP-1<u.n.keys.length∧ew (u.n.keys.getD (u.eP-1) [])∧y0 (y8 u e2 o)∧ps.Perm (no::rest)∧
       ∀ (Q:Nat→Option aL) (ks:List Key) (kids:List Nat),zP Q (y8 u e2 o) ks kids→(∀x∈rest++q,P x=Q x)→(∀x∈kids,x<1600)→∃ (iB:List Nat) (M2:List bf),fC Q (jb+1) (l3 u.n (u.eP-1) (u.eP-1+2) ks kids) Ds Dt iB M2∧yk++(M2++Du)=A++(M++B)∧iB.Perm (kids++(rest++q))∧
         cf (l3 u.n (u.eP-1) (u.eP-1+2) ks kids)≤cf u.n+27∧u.n.keys.length≤(l3 u.n (u.eP-1) (u.eP-1+2) ks kids).keys.length+1):=by
 cases al with
 |top=>
   have:=congrArg List.length gI
   simp at this
 | @step jb Ds Dt _ _ auk A7 yk Du aaN bE cl cr bT b_ h anP az iU rj hlen ae dW fy aT bJ=>
   obtain ⟨rfl,ad⟩:=List.append_inj' gI rfl
   have ar:(aaN,bE,fJ bE.keys k)=u.st:=by simpa using ad
   have dg:aaN=u.no:=congrArg Prod.fst ar
   have aD:bE=u.n:=congrArg (fun x=>x.2.1) ar
   have aaO:fJ bE.keys k=u.eP:=congrArg (fun x=>x.2.2) ar
   subst dg aD
   rw[aaO] at aT bJ
   have k6:=MR u.n.keys k
   rw[aaO] at k6
   refine ⟨Ds,Dt,A7,yk,Du,cl++cr,h,by rw[er],anP,by omega,hlen,ae,dW,fun zb Q ks kids aG J KL=> ?_,fun zb=> ?_⟩
   · obtain ⟨fi,aA,aF,aJ,aO⟩:=agN az iU rj aT bJ ak zb aj aG (fun x af=>J x (by
       simp only[fe] at af⊢
       rcases af with af|af|af
       · exact .inl (.inl af)
       · exact .inr af
       · exact .inl (.inr af))) KL
     refine ⟨fi,_,aA,by simp only[er],aF.trans (List.Perm.append_left kids ?_),aJ,by omega⟩
     exact TY cl q cr
   · by_cases b3:u.eP=0
     · obtain ⟨o,vB,sv,qY,OG,T0,T1⟩:=anN iU hlen hY (i:=u.eP) (by
         have:u.n.keys.length≠0:=fun e=>ae (List.eq_nil_of_length_eq_zero e)
         omega) fy bJ ak zb
       obtain ⟨lq,GF,aaP,vo,KM,T2,_,T3⟩:=agQ az iU rj hlen hY vB fy aT bJ ak zb
       rw[qY] at KM
       obtain rfl:=Option.some.inj KM
       have aY:te u=u.eP+1:=by unfold te;rw[if_pos b3,b3]
       have bm:u.eP-1=u.eP:=by omega
       have dM:u.n.keys.getD (u.eP-1) []=u.n.keys[u.eP]:=by rw[bm,p5,g8 sv];rfl
       have kE:y8 u e2 o=g0 e2 u.n.keys[u.eP] o:=by unfold y8;rw[if_pos (by rw[aY];omega),dM]
       refine ⟨o,u.n.kids[u.eP+1],cl++GF,by rw[aY];exact g8 vB,qY,OG,by omega,by rw[dM];exact T0,by rw[kE];exact T1,?_,fun Q ks kids aG J KL=> ?_⟩
       · exact (List.Perm.append_left cl T2).trans BO
       · rw[kE] at aG
         obtain ⟨fi,aA,aF,aJ,aO⟩:=T3 Q ks kids aG (fun x af=>J x (by
           simp only[fe] at af⊢
           rcases af with af|af|af
           · exact .inl (.inl af)
           · exact .inr af
           · exact .inl (.inr af))) KL
         rw[bm]
         exact ⟨fi,_,aA,by simp only[er],aF.trans (List.Perm.append_left kids (TY cl q GF)),aJ,aO⟩
     · obtain ⟨o,vB,sv,qY,OG,T0,T1⟩:=anM iU hlen hY (i:=u.eP) (by omega) (by omega) fy aT ak zb
       obtain ⟨lq,GB,aaP,vo,KM,T2,_,T3⟩:=agO az iU rj hlen hY (by omega) (by omega) fy aT bJ ak zb
       rw[qY] at KM
       obtain rfl:=Option.some.inj KM
       have aY:te u=u.eP-1:=by unfold te;rw[if_neg b3]
       have dM:u.n.keys.getD (u.eP-1) []=u.n.keys[u.eP-1]:=by rw[p5,g8 sv];rfl
       have kE:y8 u e2 o=g0 o u.n.keys[u.eP-1] e2:=by unfold y8;rw[if_neg (by rw[aY];omega),dM]
       have lE:u.eP-1+2=u.eP+1:=by omega
       refine ⟨o,u.n.kids[u.eP-1],GB++cr,by rw[aY];exact g8 vB,qY,OG,sv,by rw[dM];exact T0,by rw[kE];exact T1,?_,fun Q ks kids aG J KL=> ?_⟩
       · exact (T2.append_right cr)
       · rw[kE] at aG
         obtain ⟨fi,aA,aF,aJ,aO⟩:=T3 Q ks kids aG (fun x af=>J x (by
           simp only[fe] at af⊢
           rcases af with af|af|af
           · exact .inl (.inl af)
           · exact .inr af
           · exact .inl (.inr af))) KL
         rw[lE]
         exact ⟨fi,_,aA,by simp only[er],aF.trans (List.Perm.append_left kids (TY GB q cr)),aJ,aO⟩
end
section
theorem fM.anQ {w:World} {T:aX} {c:gw} {E:Nat→Prop} (h:fM w T c) (fD:∀q,E q→T.E q):fM w (T.dA E T.G) c:=
 h.of (av:=T.dA E T.G) (W:=fun _=>False) (h.t.grow (W:=fun _=>False) (ao.refl _ _) (fun _ h=>h.elim) (fun q J=> .inl (fD q J)) (fun q J=> .inr (.inl J)) fun q J=>(h.t.h0 q (fD q J)).2.2) (ao.refl _ _) (fun _ _ h=>h) rfl fun _ h=>h
theorem fN.local {T av:aX} {c c':gw} {m l:List Nat} {dj:Nat→Prop} {w ag w':World} {k:Nat} (h:fN (T.dA dj T.G) av c c' m l ag w' k) (af:Ext w ag) (mb:∀q,dj q→T.E q∨w.heap.size≤q) (fD:∀q,T.E q→dj q):fN T (av.dA T.E av.G) c c' m l w w' k:=
 ⟨h.to.local af mb (fun q J=> .inl J) (fun q J=> .inl (by rw[h.E];exact fD q J)) fun q J=>J,rfl,h.G,h.root,h.bl,h.dd,h.made,h.left,h.dZ,h.s9,h.f,h.gW,h.room⟩
theorem fM.aaQ {w w':World} {T:aX} {c:gw} {W:Nat→Prop} (h:fM w T c) (al:ao W w w') (dK:∀q,W q→T.E q∨w.heap.size≤q):fM w' T c:=by
 have dS:ao (fun q=>T.E q) w w':=mA (W:=fun q=>T.E q) (ao.refl _ _) al fun q J hw=>(dK q hw).resolve_right (by omega)
 exact h.of (h.t.grow (E:=T.E) (G:=T.G) dS (fun q J _=> .inl J) (fun q J=> .inl J) (fun q J=> .inr (.inl J)) fun q J=>(h.t.h0 q J).2.2) dS (fun q a7 he=>(h.t.h0 q he).2.2 a7) rfl fun _ h=>h
theorem t_.to {w w':World} {T av:aX} {k:Nat} {s:aa} {l:List gk} (h:t_ (fun q=>¬T.M q) w s l) (aN:cc T av w w' k):t_ (fun q=>¬av.M q) w' s l:=by
 refine ⟨h.own.an aN.an fun q J aD=>h.E8 q J (aX.lS aD),fun q J hm=> ?_,fun x af=> ?_⟩
 · rcases aN.jR q hm with U|U
   · exact h.E8 q J U
   · have:=b6.lt h.own q J;omega
 · exact (aN.dZ (lo:=0) ((h.dZ x af).bw fun q _ ab=>⟨fx _,ab⟩)).bw fun q _ ab=>ab.2
theorem t_.at {B:Nat→Prop} {w:World} {s:aa} {l:List gk} (h:t_ B w s l) {i:Nat} (hi:i<l.length):∃A:Addr,s.a=some A∧s.len=l.length∧B A.block∧w.cell? (A.add (i*6))=some (.int .i64 ((l[i]).no:Nat))∧y1 B w (A.add (i*6)) l[i]:=by
 have az:=h.own.1
 rw[od _ (C5 l)] at az
 have gA:s.len=l.length:=by omega
 rcases h.own.2.2.2 with ⟨U,ad⟩|⟨b,c,ab,ak,fj,mS⟩
 · have:=h.own.2.1
   omega
 · have k1:∀j,j<6→w.cell? ⟨b,i*6+j,none⟩=((gk.c l[i]))[j]? :=fun j a6=>by
     rw[cn.cell ak,←Kd (C5 l) hi a6,←mS]
     rw[List.getElem?_take,if_pos (by omega),Array.getElem?_toList]
   refine ⟨⟨b,0,none⟩,ab,gA,h.E8 b ⟨_,ab,rfl⟩,?_,?_⟩
   · rw[aV,gR]
     exact k1 0 (by decide)
   · rw[aV,gR]
     refine ⟨?_,?_,?_,?_,?_,h.dZ _ (fv hi),h.E8 b ⟨_,ab,rfl⟩,b6.lt h.own b ⟨_,ab,rfl⟩⟩
     · rw[aV];exact k1 1 (by decide)
     · rw[aV,aV];exact k1 2 (by decide)
     · rw[aV,aV];exact k1 3 (by decide)
     · rw[aV,aV];exact k1 4 (by decide)
     · rw[aV];exact k1 5 (by decide)
theorem Ctx.aaR {P:Nat→Option aL} {lo hi:Option Key} {k:Key} {top jb:Nat} {hT:List Nat} {A B:List bf} (h:Ctx P k top jb lo hi [] hT A B):jb=top∧lo=none∧hi=none∧hT=[]∧A=[]∧B=[]:=by
 generalize gI:([]:List (Nat×aL×Nat))=st at h
 cases h with
 |top=>exact ⟨rfl,rfl,rfl,rfl,rfl,rfl⟩
 |step h=>
   have:=congrArg List.length gI
   simp at this
end
section
def A8 (T:aX) (c:gw) (cZ:List Nat) (iy:List bf) (w:World) (v:Value) (w':World):Prop:=
 ∃ (av:aX) (c':gw) (m l:List Nat),fM w' av c'∧fN T av c c' m l w w' 60∧
   ((v= .tuple #[.int .i64 0, .int .i64 0, .int .i64 0]∧iy=[]∧l.Perm (m++cZ))∨
    (∃ (root h:Nat) (pages:List Nat),v= .tuple #[.int .i64 (root:Nat), .int .i64 (h:Nat), .int .i64 0]∧jf av.P h none none root pages iy∧(pages++l).Perm (m++cZ)∧1≤h∧h≤T.bl+1)∨
    (∃a b:Int,v= .tuple #[.int .i64 a, .int .i64 b, .int .i64 3]∧¬T.C.D.calm 60))
theorem A8.local {T:aX} {c:gw} {cZ:List Nat} {iy:List bf} {dj:Nat→Prop} {w ag w':World} {v:Value} (h:A8 (T.dA dj T.G) c cZ iy ag v w') (af:Ext w ag) (mb:∀q,dj q→T.E q∨w.heap.size≤q) (fD:∀q,T.E q→dj q):A8 T c cZ iy w v w':=by
 obtain ⟨av,c',m,l,U,ad,ar⟩:=h
 exact ⟨av.dA T.E av.G,c',m,l,U.anQ fun q J=>by rw[ad.E];exact fD q J,ad.local af mb fD,ar⟩
structure anR (cT:aX) (c:gw) (a5:World) (wl:List gk) (k:Key) (cZ:List Nat) (iy:List bf) (ws:aa) (ph:Nat) (i:Nat) (w':World) (av:aX) (c':gw) (m l:List Nat) (n:aL) (K V D:aa) (lo hi:Option Key) (hT:List Nat) (A B:List bf) (q:List Nat) (M:List bf) (r:List Nat):Prop where
 NU:i<wl.length
 T4:fM w' av c'
 to:fN cT av c c' m l a5 w' (4*(wl.length-1-i))
 OH:m.length≤2*(wl.length-1-i)
 aaS:l.length≤2*(wl.length-1-i)
 ph:Var w' ph (hK n K V D) ah.cF
 dZ:b8 (fun q=>¬av.M q) w' n K V D
 me:t_ (fun q=>¬av.M q) w' ws wl
 ctx:Ctx av.P k wl.length (wl.length-i) lo hi ((wl.take i).map gk.st) hT A B
 v_:fC av.P (wl.length-i) n lo hi q M
 eq:A++(M++B)=iy
 pp:cZ.Perm ((wl[i]).no::(r++hT))
 acc:(q++l).Perm (m++r)
 sz:cf n≤282
 anS:1≤i→n.keys≠ []
 aaT:∀x∈q++hT,av.f x=true
theorem c6.Fz {w:World} {T:aX} (h:c6 w T):∀x n,T.P x=some n→cf n≤232:=fun x n af=>(h.lv x n af).2.is.2.2
theorem pR.cs {T:aX} {c:gw} {n:aL} {w w':World} {s:aa} {e:Int} (h:pR T c n w (.tuple #[.slice s.a s.len s.cap, .int .i64 e]) w'):
   ∃ (av:aX) (c':gw) (m:List Nat),fM w' av c'∧fN T av c c' m [] w w' 2∧m.length≤2∧((e=0∧∃ks,zP av.P n ks m∧xm (fun q=>¬av.M q) w' s ks m)∨(e=3∧¬T.C.D.calm 2)):=by
 obtain ⟨av,c',m,s2,U,ad,ar,aI⟩:=h
 refine ⟨av,c',m,U,ad,ar,?_⟩
 rcases aI with ⟨ks,ak,aW,b5⟩|⟨ak,aW⟩
 · simp at ak
   obtain ⟨⟨bj,cL,e6⟩,rfl⟩:=ak
   obtain rfl:s=s2:=by cases s;cases s2;simp_all
   exact .inl ⟨rfl,ks,aW,b5⟩
 · simp at ak
   exact .inr ⟨ak.2,aW⟩
theorem anT {P Q T5:Nat→Option aL} {t:Nat} {n:aL} {q:List Nat} {M:List bf} {ur:Key} {x y no:Nat} (ak:fC P (t+1) n none none q M) (aj:cf n≤282) (aG:zP Q n [ur] [x,y]) (J:∀z∈q,P z=Q z) (aD:T5 no=some ⟨false,[ur],[],[x,y]⟩) (g9:∀z∈x::y::q,Q z=T5 z) (af:x<1600) (b2:y<1600):
   ew ur∧∃pages,jf T5 (t+2) none none no pages M∧pages.Perm (no::x::y::q):=by
 have zb:232<cf n:=by
   rcases aG with ⟨_,z,e,_⟩|⟨h,_⟩
   · cases e
   · exact h
 obtain ⟨fi,aA,aF,aJ,_⟩:=ak.fits (ak.Q0 (by omega)) (fun _=>by omega) (fun _=>by omega) aG J
 have pj:fC Q (t+2) ⟨false,[ur],[],[x,y]⟩ none none fi M:=⟨rfl,rfl,aJ,fun z bI=>by
   simp only[gp,mm,mn] at bI
   rcases bI with rfl|rfl<;>assumption,aA⟩
 refine ⟨aJ ur (by simp),no::fi,pj.lay (by simp) aD fun z bI=>g9 z ?_,List.Perm.cons no aF⟩
 have:=aF.mem_iff.1 bI
 simpa using this
theorem Dv {a b:List Nat}:a.Perm b↔∀x,a.count x=b.count x:=List.perm_iff_count
theorem A9 {q l m r:List Nat} {no:Nat} (h:(q++l).Perm (m++r)):(q++(l++ [no])).Perm (m++(no::r)):=by
 rw[Dv] at h⊢
 intro x
 have:=h x
 simp only[Ek,Gu,Gv] at this⊢
 omega
theorem rP {q l m r iB ps ms ls rest:List Nat} (h:(q++l).Perm (m++r)) (ad:iB.Perm (ms++(rest++q))) (ar:ps.Perm (ls++rest)):(iB++(l++ls)).Perm ((m++ms)++(ps++r)):=by
 rw[Dv] at h ad ar⊢
 intro x
 have:=h x
 have:=ad x
 have:=ar x
 simp only[Ek,Gu,Gv] at*
 omega
theorem A_ {cZ r ps A7:List Nat} {u:Nat} (h:cZ.Perm (r++(u::(ps++A7)))):cZ.Perm (u::((ps++r)++A7)):=by
 rw[Dv] at h⊢
 intro x
 have:=h x
 simp only[Ek,Gu,Gv] at*
 omega
end
section
theorem anU {w:World} {T:aX} {c:gw} {wl:List gk} {k:Key} {cZ hT:List Nat} {iy A B M:List bf} {lo hi:Option Key} {ws:aa} {n:aL} {K V D:aa} (h:fM w T c) (hw:t_ (fun q=>¬T.M q) w ws wl) (aD:b8 (fun q=>¬T.M q) w n K V D) (en:0<wl.length) (hlen:wl.length=T.bl) (dq:T.bl<12)
   (gV:T.C.D.cI≤900000000) (jr:2*T.bl+3≤fG T) (z_:c.made.length≤100) (df:c.left.length≤100) (aaU:Ctx T.P k wl.length 1 lo hi ((wl.take (wl.length-1)).map gk.st) hT A B) (pj:fC T.P 1 n lo hi [] M) (heq:A++(M++B)=iy)
   (tf:cZ.Perm ((wl[wl.length-1]'(by omega)).no::hT)) (dB:cf n≤282) (FA:2≤wl.length→n.keys≠ []) (uu:∀x∈hT,T.f x=true):
   aQ Tryz.prog F.xA #[.pointer (some ⟨c.dd,0,none⟩), .slice ws.a ws.len ws.cap,e5 n K V D] w (A8 T c cZ iy w):=by
 refine W.aaV (some ⟨c.dd,0,none⟩) ws n.leaf K V D w _ ?_
 (delta W.xA bP ai aq dt aC aE a8 bA st HU FB ji gu;dsimp only)
 refine cp (vs:=hK n K V D) rfl fun ag gd bz kM=> ?_
 obtain ⟨cA,bd,bc,a_⟩:=cj gd
 refine ⟨_,cA,K,bd,V,bc,D,a_,cp (vs:=[.bool false, .slice none 0 0, .slice none 0 0, .slice none 0 0]) rfl fun a4 wG ko NG=>⟨wG.dr rfl lU,rfl,ec wG (us:=hK n K V D) rfl rfl fun a5 HV qI Yh=> ?_⟩⟩
 have eN:Ext w a5:=bz.trans (Ext.e3 ko qI (cP _))
 obtain ⟨ph,HQ⟩:∃ph,ph=ag.heap.size:=⟨_,rfl⟩
 rw[←HQ] at HV⊢
 obtain ⟨dj,mb⟩:∃dj,dj=fun q=>T.E q∨q=ph:=⟨_,rfl⟩
 have lZ:∀q,T.E q→dj q:=fun q J=>by rw[mb];exact .inl J
 have pW:∀q,dj q→T.E q∨q=ph:=fun q J=>by rw[mb] at J;exact J
 have aaW:dj ph:=by rw[mb];exact .inr rfl
 have aul:=HV.lt
 have im:fM a5 (T.dA dj T.G) c:=h.of (W:=fun _=>False) (h.t.grow (W:=fun _=>False) eN (fun _ h=>h.elim) (fun q J=>(pW q J).imp id fun e=> .inr ⟨by omega,by omega⟩) (fun q J=> .inr (.inl J)) fun q J a7=>by
   rcases pW q J with U|U
   · exact (h.t.h0 q U).2.2 a7
   · have:=h.t.lt (q:=q) (.inr (.inr (.inr (.inr a7))));omega) eN (fun _ _ h=>h) rfl fun _ h=>h
 have rQ:cc T (T.dA dj T.G) w a5 0:=(cc.refl T w).step (W:=fun _=>False) eN (fun _ h=>h.elim) (fun q J=>(pW q J).imp id fun e=> .inr (by omega)) fun q J=> .inl J
 have conv:∀ (v:Value) (w':World),A8 (T.dA dj T.G) c cZ iy ag v w'→A8 T c cZ iy w v w':=fun v w' hu=>hu.local bz (fun q J=>(pW q J).imp id fun e=>by omega) lZ
 obtain ⟨cT,ny⟩:∃cT,cT=T.dA dj T.G:=⟨_,rfl⟩
 have EU:=hw.to rQ
 have G_:b8 (fun q=>¬(T.dA dj T.G).M q) a5 n K V D:=(rQ.dZ (lo:=0) (aD.bw fun q _ ab=>⟨fx _,ab⟩)).bw fun q _ ab=>ab.2
 have aY:cT.P=T.P:=by rw[ny];rfl
 have bm:cT.f=T.f:=by rw[ny];rfl
 have dM:cT.E ph:=by rw[ny];exact aaW
 have kE:fG cT=fG T:=by rw[ny];rfl
 have lE:cT.C=T.C:=by rw[ny];rfl
 have vC:cT.bl=T.bl:=by rw[ny];rfl
 rw[←ny] at im EU G_ conv
 clear ny rQ mb lZ pW aaW
 have aum:ph=ag.heap.size:=HQ
 have KN:ws.len=wl.length:=by
   have:=hw.own.1
   rw[od _ (C5 wl)] at this;omega
 refine ⟨fun gm w'=>∃ (i:Nat) (av:aX) (c':gw) (m l:List Nat) (n:aL) (K V D:aa) (lo hi:Option Key) (hT:List Nat) (A B:List bf) (q:List Nat) (M:List bf) (r:List Nat),gm=(i:Nat)∧anR cT c ag wl k cZ iy ws ph i w' av c' m l n K V D lo hi hT A B q M r,fun gm _=>(gm+1).toNat,
   ⟨wl.length-1,cT,c,[],[],n,K,V,D,lo,hi,hT,A,B,[],M,[],?_,?_⟩,?_⟩
 · rw[cE (by omega) (by omega)];omega
 · have e:wl.length-(wl.length-1)=1:=by omega
   refine ⟨by omega,im,(fN.ext cT c (Ext.e3 ko qI (cP _))).mono (by omega),fx _,fx _,HV,G_,EU,by rw[e,aY];exact aaU,by rw[e,aY];exact pj,heq,by simpa using tf,List.Perm.refl _,dB,fun U=>FA (by omega),fun x af=>by rw[bm];exact uu x (by simpa using af)⟩
 clear aaU pj heq tf dB FA uu aD G_ HV hw EU gd cA bd bc a_ wG
 rintro _ cq ⟨i,av,c',m,l,n,K,V,D,lo,hi,hT,A,B,q,M,r,rfl,I⟩
 have aaX:=I.NU
 have OI:=I.to.dd
 refine ⟨fun _=>bM ?_,fun ab=> ?_⟩
 rotate_left
 · have:¬((i:Nat):Int)≥0:=ff ab
   omega
 have bx:Ext cq cq.drew:=eE _
 obtain ⟨cG,anV⟩:∃cG,cG=cq.drew:=⟨_,rfl⟩
 rw[←anV] at bx⊢
 have mZ:=I.T4.ext bx
 have yy:=mZ.cells.2.2
 rw[OI] at yy
 have aaY:t_ (fun q=>¬av.M q) cG ws wl:=I.me.to (cc.ext av bx)
 obtain ⟨KO,T6,aun,anW,dg,_⟩:=aaY.at aaX
 have ZD:c'.left.length≤200:=by rw[I.to.left,eu];have:=I.aaS;omega
 have anX:c'.made.length≤200:=by rw[I.to.made,eu];have:=I.OH;omega
 obtain ⟨au,ct,aA,aF,aJ,aO,cS⟩:=ZK mZ (wl[i]).no (by omega)
 rw[OI] at aJ aO cS
 have pH:∀n,(KO.add n).block=KO.block:=fun n=>by unfold Addr.add;split<;>rfl
 have anY:∀q,aR c'.lT q→av.M q:=fun q J=> .inr (.inr (.inr (.inr (mZ.vu q J).1)))
 refine ⟨aR c'.lT,_,rfl,fun J=>(mZ.vu _ J).2 (by rw[OI,aV]),c'.lT,yy,KO,T6,⟨by omega,by omega⟩,fun J=>anW (anY _ ((pH _)▸J)),_,by rw[hF];exact dg,bM ⟨ao.eK (iX _ _),au,ct,aA,aF,_,rfl,by rw[aV];exact aJ,by rw[aV];exact aO,bM ?_⟩⟩
 rw[aV,gR]
 obtain ⟨cO,aaZ⟩:∃cO,cO=ct.setCell ⟨c.dd,2,none⟩ (.slice au.a au.len au.cap):=⟨_,rfl⟩
 rw[←aaZ]
 obtain ⟨zc,xB⟩:=cS cO aaZ
 have T7:=fN.leave (c:=c') (c':=⟨c.dd,c'.nr,au,c'.made,c'.left++ [(wl[i]).no]⟩) (no:=(wl[i]).no) xB rfl (fun q J=> .inl J) OI.symm rfl rfl
 have vD:=(I.to.trans (fN.ext av c' bx)).trans T7
 simp only[l2,zE] at vD
 have aa0:av.E ph:=by rw[I.to.E];exact dM
 have T8:=(I.ph.ext bx).an xB.an (mZ.t.rz aa0)
 have T9:=aaY.to xB
 have KP:b8 (fun q=>¬(av.dA av.E fun q=>av.G q∨aR au q).M q) cO n K V D:=(xB.dZ (lo:=0) ((I.dZ.ext bx).bw fun q _ ab=>⟨fx _,ab⟩)).bw fun q _ ab=>ab.2
 obtain ⟨cW,uq⟩:∃cW,cW=av.dA av.E fun q=>av.G q∨aR au q:=⟨_,rfl⟩
 have cl:cW.P=av.P:=by rw[uq];rfl
 have cr:cW.f=av.f:=by rw[uq];rfl
 have gq:fG cW=fG av:=by rw[uq];rfl
 have tb:cW.E ph:=by rw[uq];exact aa0
 have Ba:cW.bl=T.bl:=by rw[uq];show av.bl=_;rw[I.to.bl,vC]
 rw[←uq] at zc xB T7 vD T9 KP
 obtain ⟨bc,dS⟩:∃bc:gw,bc=⟨c.dd,c'.nr,au,c'.made,c'.left++ [(wl[i]).no]⟩:=⟨_,rfl⟩
 rw[←dS] at zc T7 vD
 have pS:bc.dd=c.dd:=by rw[dS]
 have iB:bc.made.length≤200:=by rw[dS];exact anX
 have Dd:bc.left.length≤201:=by rw[dS,eu,rh];omega
 obtain ⟨bE,di,c_,bq⟩:=cj T8
 have HC:=bU.len KP.keys
 have aa1:∀ (w':World) (v:Value),Ext cO w'→(∀ {fg a_ KQ},fg=cW→a_=bc→KQ=l++ [(wl[i]).no]→((v= .tuple #[.int .i64 0, .int .i64 0, .int .i64 0]∧iy=[]∧KQ.Perm (m++cZ))∨
    (∃ (root h:Nat) (pages:List Nat),v= .tuple #[.int .i64 (root:Nat), .int .i64 (h:Nat), .int .i64 0]∧jf (aX.P fg) h none none root pages iy∧(pages++KQ).Perm (m++cZ)∧1≤h∧h≤cT.bl+1)∨
    (∃a b:Int,v= .tuple #[.int .i64 a, .int .i64 b, .int .i64 3]∧¬cT.C.D.calm 60)))→A8 T c cZ iy w v w':=by
   intro w' v af hd
   refine conv v w' ⟨cW,bc,m,l++ [(wl[i]).no],?_,?_,hd (a_:=bc) rfl rfl rfl⟩
   · exact zc.ext af
   · have:=(vD.trans (fN.ext cW _ af)).mono (j:=60) (by omega)
     simp only[l2] at this
     exact this
 refine e4 (fun b w'=>(b=true↔(i=0∧n.keys=[]))∧cO=w') (fun Z uS=>⟨fun b3=>⟨K,di,uS _ _ ⟨?_,rfl⟩⟩,fun b3=>uS _ _ ⟨?_,rfl⟩⟩) ?_
 · have b3:i=0:=by
     have:((i:Nat):Int)=0:=by simpa using b3
     omega
   rw[zJ]
   constructor
   · intro U
     exact ⟨b3,List.eq_nil_of_length_eq_zero (by omega)⟩
   · rintro ⟨_,U⟩
     rw[U] at HC
     simp at HC;omega
 · have b3:i≠0:=by
     have:¬((i:Nat):Int)=0:=by simpa using b3
     omega
   exact ⟨fun h=>(by cases h),fun h=>absurd h.1 b3⟩
 rintro xC _ ⟨aa2,rfl⟩
 refine ⟨fun ab=> ?_,fun ab=> ?_⟩
 · obtain ⟨b3,kZ⟩:=aa2.1 ab
   subst b3
   have nw:Ext cO cO.drew:=eE _
   obtain ⟨pG,vB,sv,qY⟩:=cj (T8.ext nw)
   have OJ:=(zc.ext nw).cells.1
   rw[pS] at OJ
   have anZ:=(zc.ext nw).t.cells.2.2.2.2
   obtain ⟨t1,t2,t3,t4,t5,t6⟩:=Ctx.aaR (by simpa using I.ctx)
   have pj:=I.v_
   have tf:=I.pp
   have heq:=I.eq
   have vE:=A9 (no:=(wl[0]).no) I.acc
   subst t2 t3 t4 t5 t6
   rw[rZ,l2] at heq
   rw[l2] at tf
   subst heq
   have T_:n.leaf=false→∃x,n.kids=[x]∧1≤cW.bl∧jf av.P (cW.bl-1) none none x q M∧1≤cW.bl-1:=by
     intro az
     have e:wl.length-0=cW.bl:=by rw[Ba];omega
     rw[e] at pj
     cases aN:cW.bl with
     |zero=>omega
     |succ t=>
       rw[aN] at pj
       cases t with
       |zero=>
         have:=pj.1.leaf
         rw[az] at this;cases this
       |succ t=>
         obtain ⟨v1,v2,KR,v4,OK⟩:=pj
         rw[kZ] at OK
         generalize rj:n.kids=Dw at OK
         cases OK with
         |one h=>exact ⟨_,rfl,by omega,h.1,by omega⟩
   refine bM ⟨fun _=>False,id,_,pG,K,vB,V,sv,D,qY,_,rfl,id,_,OJ,_,rfl,id,_,anZ,(y_ (KP.ext nw) cW.bl (by omega) fun az=>by obtain ⟨x,bj,cL,_⟩:=T_ az;exact ⟨x,bj,cL⟩).use ?_⟩
   rintro v w' ⟨rfl,cv⟩
   have pF:=nw.trans cv
   cases az:n.leaf with
   |true=>
     rw[if_pos rfl]
     have jx:=pj.leaf
     rw[az] at jx
     have OL:wl.length-0=1:=dU jx.symm
     rw[OL] at pj
     obtain ⟨v1,v2,KR,v4⟩:=pj
     subst KR
     refine ⟨_,_,_,rfl,cv,aa1 w' _ pF fun {fg a_ KQ} bj cL e6=> .inl ⟨rfl,?_,?_⟩⟩
     · rw[v4];unfold aL.gH;rw[kZ];rfl
     · subst e6
       rw[Dv] at vE tf⊢
       intro x
       have:=vE x
       have:=tf x
       simp only[Ek,Gu,Gv] at*
       omega
   |false=>
     rw[if_neg (by simp)]
     obtain ⟨x,bj,cL,e6,dQ⟩:=T_ az
     refine ⟨_,_,_,rfl,cv,aa1 w' _ pF fun {fg a_ KQ} cX cy eJ=> .inr (.inl ⟨_,_,q,rfl,?_,?_,dQ,?_⟩)⟩
     · subst cX
       have sK:n.kids.getD 0 0=x:=by rw[bj];rfl
       rw[sK,cl];exact e6
     · subst eJ
       rw[Dv] at vE tf⊢
       intro x
       have:=vE x
       have:=tf x
       simp only[Ek,Gu,Gv] at*
       omega
     · omega
 · have FA:n.keys≠ []:=fun e=>by
     rcases Jg i with b3|b3
     · have:=aa2.2 ⟨b3,e⟩
       rw[ab] at this;cases this
     · exact I.anS b3 e
   have auo:cW.C.D.cI≤900000050:=by
     have:=vD.to.cI
     rw[lE] at this
     omega
   have aa3:2≤fG cW:=by
     have:=vD.room
     have:=I.OH
     omega
   have aa4:∀j,j≤10→¬cW.C.D.calm j→¬cT.C.D.calm 60:=fun j a6 aD al=>aD (vD.to.calm j (oe al (by omega)))
   have jT:y0 n:=I.v_.TX (fun _=>by have:=I.sz;omega) (fun _=>by have:=I.sz;omega) fun _=>FA
   refine e4 (fun p w'=>p=(if i=0 then none else some (KO.add ((i-1)*6)))∧cO=w') (fun Z uS=>⟨fun b3=>⟨KO,T6,?_,uS _ _ ⟨?_,rfl⟩⟩,fun b3=>uS _ _ ⟨?_,rfl⟩⟩) ?_
   · have b3:((i:Nat):Int)>0:=dU b3
     rw[cE (by omega) (by omega)]
     omega
   · have b3:((i:Nat):Int)>0:=dU b3
     have e:((i:Nat):Int)-1=((i-1:Nat):Int):=by omega
     rw[cE (by omega) (by omega),if_neg (by omega),e,hF]
   · have b3:¬((i:Nat):Int)>0:=ff b3
     rw[if_pos (by omega)]
   rintro _ _ ⟨rfl,rfl⟩
   refine ⟨_,bE,K,di,V,c_,D,bq,?_⟩
   by_cases b3:i=0
   · subst b3
     rw[if_pos rfl]
     have KS:=anl zc KP jT (by omega) aa3 (by omega)
     rw[pS] at KS
     refine KS.use ?_
     rintro _ ow ⟨ia,e,rfl,aG⟩
     obtain ⟨fg,a_,ms,kP,lA,vA,e9⟩:=aG.cs
     have OM:=vD.trans lA
     simp only[l2] at OM
     have an0:a_.dd=c.dd:=by rw[lA.dd,pS]
     rcases e9 with ⟨rfl,ks,zd,Bb⟩|⟨rfl,fh⟩
     · refine ⟨ia,_,_,0,rfl,fun h=>(by cases h),fun _=>⟨fun _=> ?_,fun h=>(by simp at h)⟩⟩
       obtain ⟨t1,t2,t3,t4,t5,t6⟩:=Ctx.aaR (by simpa using I.ctx)
       have pj:=I.v_
       have tf:=I.pp
       have heq:=I.eq
       have dB:=I.sz
       have vE:=A9 (no:=(wl[0]).no) I.acc
       have uu:=I.aaT
       subst t2 t3 t4 t5 t6
       rw[rZ,l2] at heq
       rw[l2] at tf uu
       subst heq
       have an1:cW.n≤1600:=zc.t.s.c_
       have Ua:∀z∈q,av.P z=fg.P z:=fun z bI=>by
         rw[←cl]
         exact ((lA.gW z (by rw[cr,uu z bI];rfl)).1).symm
       have aa5:wl.length-0=(wl.length-1)+1:=by omega
       have aa6:fg.bl=wl.length:=by rw[lA.bl,Ba];omega
       rw[aa5] at pj
       have aa7:∀ur x y,ks=[ur]→ms=[x,y]→ew ur∧x<1600∧y<1600:=fun ur x y aA aF=>by
         subst aA aF
         have zb:232<cf n:=by
           rcases zd with ⟨_,z,e,_⟩|⟨h,_⟩
           · cases e
           · exact h
         obtain ⟨fi,_,_,aJ,_⟩:=pj.fits (pj.Q0 (by omega)) (fun _=>by omega) (fun _=>by omega) zd Ua
         have af:=(lA.s9 x (by simp)).2
         have b2:=(lA.s9 y (by simp)).2
         exact ⟨aJ ur (by simp),by omega,by omega⟩
       have aa8:=anH kP Bb (fun _=>by omega) aa7 (by have:=lA.to.cI;omega) (by have:=lA.room;have:=vD.room;have:=I.OH;omega) (by rw[lA.made,eu];omega)
       rw[an0] at aa8
       refine aa8.use ?_
       rintro v yD bh
       rcases bh with ⟨x,aA,aF,rfl,aO,cS⟩|⟨ur,x,y,no,tc,gu,aA,aF,aO,cS,xe⟩
       · subst aA aF
         refine ⟨_,_,_,rfl,conv _ _ ⟨fg,a_,m++ [x],l++ [(wl[0]).no],aO,?_, .inr (.inl ⟨x,fg.bl,x::q,rfl,?_,?_,by omega,by omega⟩)⟩⟩
         · have:=(OM.trans (fN.ext fg a_ cS)).mono (j:=60) (by omega)
           simp only[l2] at this
           exact this
         · rcases zd with ⟨_,z,_,e,bI⟩|⟨_,Ub,an2,_,e,_⟩
           · cases e
             rw[aa6,show wl.length=wl.length-1+1 by omega]
             exact pj.lay FA bI Ua
           · cases e
         · rw[Dv] at vE tf⊢
           intro z
           have:=vE z
           have:=tf z
           simp only[Ek,Gu,Gv] at*
           omega
       · subst aA aF
         obtain ⟨bj,cL,e6⟩:=aa7 ur x y rfl rfl
         have Dx:=OM.trans cS
         simp only[l2] at Dx
         have aa9:=Dx.mono (j:=60) (by omega)
         rcases xe with ⟨rfl,Kj⟩|⟨rfl,Kj⟩
         · have wh:∀z∈x::y::q,fg.P z=tc.P z:=fun z bI=>by
             refine ((cS.gW z ?_).1).symm
             rw[lA.f]
             simp only[gp] at bI
             rcases bI with bI|bI|bI
             · simp[bI]
             · simp[bI]
             · rw[cr,uu z bI];simp
           obtain ⟨_,pages,cX,cy⟩:=anT pj dB zd Ua Kj wh cL e6
           refine ⟨_,_,_,rfl,conv _ _ ⟨tc,gu,m++ [x,y]++ [no],l++ [(wl[0]).no],aO,aa9, .inr (.inl ⟨no,fg.bl+1,pages,rfl,?_,?_,by omega,by omega⟩)⟩⟩
           · rw[aa6,show wl.length+1=wl.length-1+2 by omega];exact cX
           · rw[Dv] at vE tf cy⊢
             intro z
             have:=vE z
             have:=tf z
             have:=cy z
             simp only[Ek,Gu,Gv] at*
             omega
         · refine ⟨_,_,_,rfl,conv _ _ ⟨tc,gu,m++ [x,y]++ [no],l++ [(wl[0]).no],aO,aa9, .inr (.inr ⟨_,_,rfl,fun al=>Kj (lA.to.calm 1 (vD.to.calm 3 (oe al (by omega))))⟩)⟩⟩
     · refine ⟨ia,_,_,3,rfl,fun _=>conv _ _ ⟨fg,a_,m++ms,l++ [(wl[0]).no],kP,OM.mono (by omega), .inr (.inr ⟨0,0,rfl,aa4 2 (by omega) fh⟩)⟩,fun h=>(by cases h)⟩
   · rw[if_neg b3]
     have hG:i-1<wl.length:=by omega
     obtain ⟨aup,aa_,_,_,_,hu⟩:=T9.at hG
     rw[T6] at aa_
     obtain rfl:=Option.some.inj aa_
     obtain ⟨u,Uc⟩:∃u,u=wl[i-1]:=⟨_,rfl⟩
     rw[←Uc] at hu
     have gI:(wl.take i).map gk.st=(wl.take (i-1)).map gk.st++ [u.st]:=by
       have:wl.take i=wl.take (i-1)++ [wl[i-1]]:=by
         have e:i-1+1=i:=by omega
         rw[←uK hG,e]
       rw[this,n3,Uc];rfl
     obtain ⟨Ds,Dt,A7,yk,Du,ps,dR,e0,nk,np,oK,FC,tV,FD,HW⟩:=Ctx.up I.ctx gI I.v_ I.T4.t.Fz I.sz
     have OL:wl.length-i+1=wl.length-(i-1):=by omega
     rw[OL] at dR FD HW
     have Ud:=(I.T4.t.lv _ _ nk).2.is
     have auq:=Ud.2.1.iM (by omega)
     have uu:=I.aaT
     have KS:=anm zc KP hu jT.1 (by have:=I.sz;omega) (fun _=>jT) (fun FE=>by
       obtain ⟨o,no,rest,cX,cy,eJ,eW,iJ,k7,_⟩:=HW FE
       exact ⟨o,no,cX,by rw[cl];exact cy,eJ,eW,iJ,k7⟩) (by omega) (by omega) aa3 (by omega) (by omega)
     rw[pS] at KS
     refine KS.use ?_
     rintro v ow dn
     have Jo:0<u.n.keys.length:=List.length_pos_iff.2 FC
     have an1:cW.n≤1600:=zc.t.s.c_
     have KT:∀ {fg:aX} {a_:gw} {ms ls:List Nat} {w':World} {an3:Nat},fN cW fg bc a_ ms ls cO w' an3→∀x,av.f x=true→av.P x=fg.P x:=fun gx x af=>by
       rw[←cl]
       exact ((gx.gW x (by rw[cr,af];rfl)).1).symm
     have gJ:(∃ (fg:aX) (a_:gw) (ms ls:List Nat) (s:aa) (a b:Int),v= .tuple #[.slice s.a s.len s.cap, .int .i64 a, .int .i64 b, .int .i64 3]∧fM ow fg a_∧fN cW fg bc a_ ms ls cO ow 4∧¬cW.C.D.calm 4)∨
         (∃ (fg:aX) (a_:gw) (ms ls rest:List Nat) (s:aa) (Bc ze:Nat) (ks:List Key) (iB:List Nat) (M2:List bf),v= .tuple #[.slice s.a s.len s.cap, .int .i64 (Bc:Nat), .int .i64 (ze:Nat), .int .i64 0]∧fM ow fg a_∧fN cW fg bc a_ ms ls cO ow 4∧ms.length≤2∧ls.length≤1∧xm (fun q=>¬fg.M q) ow s ks ms∧
           fC fg.P (wl.length-(i-1)) (l3 u.n Bc ze ks ms) Ds Dt iB M2∧yk++(M2++Du)=A++(M++B)∧iB.Perm (ms++(rest++q))∧ps.Perm (ls++rest)∧cf (l3 u.n Bc ze ks ms)≤cf u.n+27∧u.n.keys.length≤(l3 u.n Bc ze ks ms).keys.length+1∧
           Bc≤u.n.keys.length∧1≤ze∧ze≤u.n.kids.length):=by
       rcases dn with ⟨zb,s,e,rfl,aG⟩|⟨FE,fg,a_,rfl,aA,aF,aJ⟩|⟨FE,o,no,aur,aus,aut,s,e,k0,KU,aba,rfl,aG⟩
       · obtain ⟨fg,a_,ms,kP,lA,vA,e9⟩:=aG.cs
         rcases e9 with ⟨rfl,ks,zd,Bb⟩|⟨rfl,fh⟩
         · obtain ⟨iB,M2,cX,cy,eJ,eW,iJ⟩:=FD zb fg.P ks ms zd (fun x af=>KT lA x (uu x (by
             rw[e0]
             simp only[fe,gp] at af⊢
             rcases af with af|af
             · exact .inr (.inr (.inl af))
             · exact .inl af))) (fun x af=>by have:=(lA.s9 x af).2;omega)
           exact .inr ⟨fg,a_,ms,[],ps,s,u.eP,u.eP+1,ks,iB,M2,rfl,kP,lA.mono (by omega),vA,fx _,Bb,cX,cy,eJ,List.Perm.refl _,eW,iJ,by omega,by omega,by omega⟩
         · exact .inl ⟨fg,a_,ms,[],s,_,_,rfl,kP,lA.mono (by omega),fun al=>fh (oe al (by omega))⟩
       · exact .inl ⟨fg,a_,[],[],bX,0,0,rfl,aA,aF.mono (by omega),fun al=>aJ (oe al (by omega))⟩
       · obtain ⟨lq,abb,rest,cX,cy,eJ,eW,iJ,k7,kS,nS⟩:=HW FE
         rw[cX] at k0
         obtain rfl:=Option.some.inj k0
         rw[cl,cy] at KU
         obtain rfl:=Option.some.inj KU
         obtain ⟨fg,a_,ms,kP,lA,vA,e9⟩:=aG.cs
         have Dx:=aba.trans lA
         simp only[rZ,l2] at Dx
         rcases e9 with ⟨rfl,ks,zd,Bb⟩|⟨rfl,fh⟩
         · obtain ⟨iB,M2,d1,d2,d3,d4,d5⟩:=nS fg.P ks ms zd (fun x af=>KT Dx x (uu x (by
             rw[e0]
             simp only[fe,gp] at af⊢
             rcases af with af|af
             · exact .inr (.inr (.inl (kS.mem_iff.2 (v5 _ af))))
             · exact .inl af))) (fun x af=>by have:=(Dx.s9 x af).2;omega)
           refine .inr ⟨fg,a_,ms,[abb],rest,s,u.eP-1,u.eP-1+2,ks,iB,M2,rfl,kP,Dx,vA,cP _,Bb,d1,d2,d3,kS,d4,d5,by omega,by omega,?_⟩
           rcases Jg u.eP with aW|aW<;>omega
         · exact .inl ⟨fg,a_,ms,[abb],s,_,_,rfl,kP,Dx,fun al=>fh (aba.to.calm 2 al)⟩
     clear dn
     rcases gJ with ⟨fg,a_,ms,ls,ia,a,b,rfl,kP,lA,fh⟩|⟨fg,a_,ms,ls,rest,ia,Bc,ze,ks,iB,M2,rfl,kP,lA,vA,auu,Bb,v1,v2,KR,v4,OK,v6,an4,RE,an5⟩
     · exact ⟨ia,_,_,3,rfl,fun _=>conv _ _ ⟨fg,a_,_,_,kP,(vD.trans lA).mono (by omega), .inr (.inr ⟨0,0,rfl,aa4 4 (by omega) fh⟩)⟩,fun h=>(by cases h)⟩
     · refine ⟨ia,_,_,0,rfl,fun h=>(by cases h),fun _=>⟨fun h=> ?_,fun _=> ?_⟩⟩
       · have:((i:Nat):Int)=0:=by simpa using h
         omega
       have KV:=hu.to lA.to
       refine ⟨_,rfl,_,KV.bd,u.K,KV.bc,u.V,KV.a_,u.D,KV.gu,(yZ KV.dZ Bb (fr:=Bc) (to:=ze) an4 (by omega) RE an5 (by omega) (by omega) (by omega)).use ?_⟩
       rintro _ rR ⟨cV,c2,dh,rfl,an6,KW⟩
       have abc:=T8.an lA.to.an (zc.t.rz tb)
       have abd:=abc.ext KW
       refine ⟨_,cV,c2,dh,rfl,abd.dr rfl lU,rfl,ec abd (us:=hK (l3 u.n Bc ze ks ms) cV c2 dh) rfl rfl fun tg Ue KX auv=>⟨⟨i-1,fg,a_,m++ms,l++ [(wl[i]).no]++ls,l3 u.n Bc ze ks ms,cV,c2,dh,Ds,Dt,A7,yk,Du,iB,M2,ps++((wl[i]).no::r),?_,?_⟩,?_⟩⟩
       · rw[cE (by omega) (by omega)];omega
       · have abe:fg.E ph:=by rw[lA.E];exact tb
         have Uf:fg.M ph:= .inr (.inr (.inr (.inl abe)))
         have Ug:=(vD.trans lA).trans (fN.ext fg a_ KW)
         simp only[l2] at Ug
         have an7:cc cT fg ag tg (4*(wl.length-1-i)+4+0):=Ug.to.step (E:=fg.E) (G:=fg.G) KX (fun q e az=>by omega) (fun q J=> .inl J) fun q J=> .inl J
         have HT:∀x,av.f x=true→fg.f x=true:=fun x af=>by rw[lA.f,cr,af];rfl
         have ON:=T9.to lA.to
         refine ⟨hG,(kP.ext KW).aaQ KX fun q e=> .inl (by rw[e];exact abe),{Ug.mono (j:=4*(wl.length-1-(i-1))) (by omega) with to:=an7.mono (by omega)},?_,?_,Ue,?_,?_,dR.pt fun x af=>KT lA x (uu x (by rw[e0];simp[af])),v1,by rw[v2];exact I.eq,?_,rP (A9 I.acc) KR v4,by omega,fun U e=> ?_,fun x af=> ?_⟩
         · rw[eu];have:=I.OH;omega
         · rw[eu,eu,rh];have:=I.aaS;omega
         · refine (b8.an an6 KX fun q J e=> ?_).bw fun q _ J hm=> ?_
           · subst e
             rcases J with J|J
             · exact J Uf
             · have:=abc.lt;omega
           · rcases J with J|J
             · exact J hm
             · have:=kP.t.lt hm;omega
         · refine ⟨(ON.own.ext KW).an KX fun q J e=>ON.E8 q J (by rw[e];exact Uf),ON.E8,fun x af=>b8.an ((ON.dZ x af).ext KW) KX fun q J e=>J (by rw[e];exact Uf)⟩
         · have this:cZ.Perm ((wl[i]'aaX).no::(r++hT)):=I.pp
           rw[e0] at this
           rw[←Uc]
           exact A_ this
         · have ad:=tV (fun bm=>by
             have:=congrArg List.length bm
             rw[mN,dV,x0] at this
             omega)
           rw[e,x0] at v6
           omega
         · rcases fe.1 af with af|af
           · have:=KR.mem_iff.1 af
             rcases fe.1 this with af|af
             · rw[lA.f];simp[af]
             · rcases fe.1 af with af|af
               · refine HT x (uu x ?_)
                 rw[e0]
                 have:x∈ps:=v4.mem_iff.2 (qp _ af)
                 simp[this]
               · exact HT x (uu x (by simp[af]))
           · exact HT x (uu x (by rw[e0];simp[af]))
       · rw[cE (by omega) (by omega)]
         show (((i:Nat):Int)-1+1).toNat<(((i:Nat):Int)+1).toNat
         omega
end
section
theorem an8 {w:World} {T:aX} {c:gw} {iy:List bf} {n:aL} {K V D ws:aa} (an9:ws.len=0) (h:fM w T c) (aD:b8 (fun q=>¬T.M q) w n K V D) (gV:T.C.D.cI≤900000000) (jr:2≤fG T) (z_:c.made.length≤100) (hle:c.left=[])
   (OO:oC n) (ae:n.keys≠ []) (dB:cf n≤232) (heq:n.gH=iy):
   aQ Tryz.prog F.xA #[.pointer (some ⟨c.dd,0,none⟩), .slice ws.a ws.len ws.cap,e5 n K V D] w (A8 T c [] iy w):=by
 refine W.aaV (some ⟨c.dd,0,none⟩) ws n.leaf K V D w _ ?_
 (delta W.xA bP ai aq dt aC aE a8 bA st HU FB ji gu;dsimp only)
 refine cp (vs:=hK n K V D) rfl fun ag gd bz kM=> ?_
 obtain ⟨cA,bd,bc,a_⟩:=cj gd
 refine ⟨_,cA,K,bd,V,bc,D,a_,cp (vs:=[.bool false, .slice none 0 0, .slice none 0 0, .slice none 0 0]) rfl fun a4 wG ko NG=>⟨wG.dr rfl lU,rfl,ec wG (us:=hK n K V D) rfl rfl fun a5 HV qI Yh=> ?_⟩⟩
 have eN:Ext w a5:=bz.trans (Ext.e3 ko qI (cP _))
 refine ⟨fun gm w'=>gm= -1∧a5=w',fun _ _=>0,⟨by rw[an9];decide,rfl⟩,?_⟩
 rintro _ _ ⟨rfl,rfl⟩
 refine ⟨fun h=>by simp at h,fun _=> ?_⟩
 obtain ⟨d0,d1,d2,d3⟩:=cj HV
 refine ⟨_,d0,K,d1,V,d2,D,d3,(ZY (h.ext eN) (by omega) (by omega) (by omega) (aD.ext eN) (.inl OO) dB).use ?_⟩
 intro v w' ak
 obtain ⟨s,e,rfl⟩:=ak.out
 obtain ⟨av,c',m,pb,gx,hm,e9⟩:=(ak.base eN).cs
 rcases e9 with ⟨rfl,ks,zd,Bb⟩|⟨rfl,fh⟩
 · refine ⟨s,0,rfl,fun h=>(by cases h),fun _=> ?_⟩
   rcases zd with ⟨_,x,rfl,rfl,af⟩|⟨auw,_⟩
   · rcases Bb with ⟨b,Ub,rfl,_,e,ak,_⟩|⟨b,Ub,an2,mC,EK,rfl,e,_⟩
     · obtain rfl:x=Ub:=by simpa using e
       refine ⟨_,rfl,⟨by decide,by show (0:Int)<((1:Nat):Int);decide⟩,_,by rw[aV,aV];exact ak.cell,av,c',[x],[],pb,gx.mono (by omega), .inr (.inl ⟨x,1,[x],rfl,⟨n,af,OO,fun k ae=>⟨fun _ e=>(by cases e),fun _ e=>(by cases e)⟩,ae,rfl,heq.symm⟩,List.Perm.refl _,cP _,by omega⟩)⟩
     · cases e
   · omega
 · exact ⟨s,3,rfl,fun _=>⟨av,c',m,[],pb,gx.mono (by omega), .inr (.inr ⟨0,0,rfl,fun al=>fh (oe al (by omega))⟩)⟩,fun h=>(by cases h)⟩
end
section
def aX.FF (T:aX) (r h:Nat):aX:={T with root:=r,bl:=h}
theorem c6.an_ {w w':World} {T:aX} {r h:Nat} (aN:c6 w T) (ak:Var w' T.bK (vt (T.FF r h)) ah.C3) (al:ao (fun q=>q=T.bK) w w') (aU:r<T.n) (dq:h≤12):c6 w' (T.FF r h)∧cc T (T.FF r h) w w' 0:=
 ⟨⟨ak,aN.s.an al fun q J e=>aN.yW (e▸J),aN.pP.an al fun q e=> .inl e,aN.yW,aN.h0,aN.s5,aN.n,⟨aU,dq,aN.num.2.2⟩,aN.lv⟩,
   ⟨rfl,rfl,rfl,rfl,rfl,rfl,rfl,rfl,rfl,rfl,cP _,fun _ h=>h,al.mono fun q _ e=> .inr (.inl e),fun q h=> .inl h,fun q h=> .inl h⟩⟩
def nT (T:aX) (pages:List Nat) (L:List bf):Prop:=(T.bl=0∧T.root=0∧pages=[]∧L=[])∨jf T.P T.bl none none T.root pages L
def OP (T:aX) (cZ:List Nat) (iy:List bf) (w:World) (v:Value) (w':World):Prop:=
 ∃av:aX,c6 w' av∧cc T av w w' 60∧av.E=T.E∧av.G=T.G∧
   ((v= .int .i64 2∧fG T<2*T.bl+3∧av=T)∨
    (v= .int .i64 0∧2*T.bl+3≤fG T∧(∃pages,nT av pages iy∧pages.Nodup∧(∀no∈pages,no∈cZ∨(T.f no||T.g no)=false)∧∀no,av.f no=true↔(no∈pages∨(T.f no=true∧no∉cZ)))∧∀no,T.g no=true→av.P no=T.P no∧av.C.view no=T.C.view no)∨
    (v= .int .i64 3∧¬T.C.D.calm 60∧av.root=T.root∧av.bl=T.bl∧av.f=T.f∧∀no,(T.f no||T.g no)=true→av.P no=T.P no∧av.C.view no=T.C.view no))
theorem abf {l:List Nat} (h:∀x,l.count x≤1):l.Nodup:=List.nodup_iff_count.2 h
theorem aoa {w:World} {T:aX} {s:aa} {cZ:List Nat} {iy:List bf} {n:aL} {K V D:aa} (h:c6 w T) (gV:T.C.D.cI≤900000000) (dq:T.bl<12) (Si:cZ.Nodup) (vp:∀x∈cZ,T.f x=true) (aux:cZ.length≤5000)
   (aob:∀ (dj iP:Nat→Prop) (ag:World) (bd:gw),fM ag (T.dA dj iP) bd→cc T (T.dA dj iP) w ag 0→2*T.bl+3≤fG T→bd.made=[]→bd.left=[]→aQ Tryz.prog F.xA #[.pointer (some ⟨bd.dd,0,none⟩), .slice s.a s.len s.cap,e5 n K V D] ag (A8 (T.dA dj iP) bd cZ iy ag)):
   aQ Tryz.prog F.xD #[.pointer (some ⟨T.bK,0,none⟩), .slice s.a s.len s.cap,e5 n K V D] w (OP T cZ iy w):=by
 have o5:=h.s.c_
 refine W.aoc (some ⟨T.bK,0,none⟩) s n.leaf K V D w _ ?_
 (delta W.xD bA bc aE aC st ai bP aq HU bd;dsimp only)
 refine cp (vs:=hK n K V D) rfl fun ag gd bz kM=>cp (vs:=[.int .i64 0]) rfl fun aw abg cv mo=>bM ?_
 have bx:Ext aw aw.drew:=eE _
 obtain ⟨aZ,ng⟩:∃aZ,aZ=aw.drew:=⟨_,rfl⟩
 rw[←ng] at bx⊢
 have hL:=(bz.trans cv).trans bx
 have ar:=h.ext hL
 obtain ⟨bu,Uh⟩:∃bu,bu=ag.heap.size:=⟨_,rfl⟩
 rw[←Uh] at abg⊢
 refine ⟨fun _=>False,_,rfl,id,_,ar.cells.2.1,_,rfl,id,_,ar.cells.2.2.2.2,(SA ar.s).use ?_⟩
 rintro _ bR ⟨rfl,ou⟩
 have Js:=hL.trans ou
 have KY:=(abg.ext bx).ext ou
 have KZ:((T.n:Int)-mB (fun i=>T.f i||T.g i) T.n)=(fG T:Nat):=by
   have:=Hq (fun i=>T.f i||T.g i) T.n
   unfold fG;omega
 have tM:IntKind.wrap .i64 (IntKind.wrap .i64 (2*((T.bl:Nat):Int))+3)=((2*T.bl+3:Nat):Int):=by
   rw[cE (n:=2*((T.bl:Nat):Int)) (by omega) (by omega),cE (by omega) (by omega)];omega
 rw[KZ,tM]
 refine ⟨_,rfl,ou,fun ab=> ?_,fun ab=> ?_⟩
 · have ab:((fG T:Nat):Int)<((2*T.bl+3:Nat):Int):=dU ab
   obtain ⟨aA,aF⟩:=j5 KY (i:=0) (by simp)
   have fj:=iL bR bu 0 (.int .i64 2)
   have ak:=j4 KY (i:=0) (.int .i64 2)
   have Cp:=Ext.e3 Js fj (by omega)
   exact ⟨aA,aF,bM ⟨2,ak.cell,T,h.ext Cp,(cc.ext T Cp).mono (by omega),rfl,rfl, .inl ⟨rfl,by omega,rfl⟩⟩⟩
 have jr:2*T.bl+3≤fG T:=by
   have:¬((fG T:Nat):Int)<((2*T.bl+3:Nat):Int):=ff ab
   omega
 refine cp (vs:=[.pointer (some ⟨T.bK,0,none⟩), .slice none 0 0, .slice none 0 0]) rfl fun dy gf OQ ZT=>cp (vs:=[.pointer none]) rfl fun dY Ui ug amP=> ?_
 obtain ⟨dd,ub⟩:∃dd,dd=bR.heap.size:=⟨_,rfl⟩
 obtain ⟨ku,Oo⟩:∃ku,ku=dy.heap.size:=⟨_,rfl⟩
 rw[←ub] at gf⊢
 rw[←Oo] at Ui⊢
 obtain ⟨aA,aF⟩:=j5 Ui (i:=0) (by simp)
 have OR:=iL dY ku 0 (.pointer (some ⟨dd,0,none⟩))
 have Uj:=j4 Ui (i:=0) (.pointer (some ⟨dd,0,none⟩))
 refine ⟨aA,aF,bM ?_⟩
 obtain ⟨c0,aod⟩:∃c0,c0=dY.setCell ⟨ku,0,none⟩ (.pointer (some ⟨dd,0,none⟩)):=⟨_,rfl⟩
 rw[←aod] at OR Uj⊢
 have G2:=Js.size
 have abh:=OR.size
 have Uk:Ext bR c0:=Ext.e3 (OQ.trans ug) OR (by omega)
 have abi:=Js.trans Uk
 have abj:=KY.ext Uk
 have qJ:=(gf.ext ug).an OR (by omega)
 have OS:=((gd.ext cv).ext bx).ext (ou.trans Uk)
 obtain ⟨dj,mb⟩:∃dj,dj=fun q=>T.E q∨q=bu:=⟨_,rfl⟩
 obtain ⟨iP,Au⟩:∃iP,iP=fun q=>T.G q∨q=dd:=⟨_,rfl⟩
 have pW:∀q,dj q→T.E q∨q=bu:=fun q J=>by rw[mb] at J;exact J
 have OT:∀q,iP q→T.G q∨q=dd:=fun q J=>by rw[Au] at J;exact J
 have lZ:∀q,T.E q→dj q:=fun q J=>by rw[mb];exact .inl J
 have aoe:∀q,T.G q→iP q:=fun q J=>by rw[Au];exact .inl J
 have Ul:dj bu:=by rw[mb];exact .inr rfl
 have aof:iP dd:=by rw[Au];exact .inr rfl
 have auy:=abj.lt
 have auz:=qJ.lt
 have HX:c6 c0 (T.dA dj iP):=h.grow (W:=fun _=>False) abi (fun _ h=>h.elim) (fun q J=>(pW q J).imp id fun e=> .inr ⟨by omega,by omega⟩) (fun q J=> .inr ((OT q J).imp id fun e=>⟨by omega,by omega⟩)) fun q J a7=>by
   rcases pW q J with U|U<;>rcases OT q a7 with ad|ad
   · exact (h.h0 q U).2.2 ad
   · have:=h.lt (q:=q) (.inr (.inr (.inr (.inl U))));omega
   · have:=h.lt (q:=q) (.inr (.inr (.inr (.inr ad))));omega
   · have:=KY.lt;omega
 have K0:cc T (T.dA dj iP) w c0 0:=(cc.refl T w).step (W:=fun _=>False) abi (fun _ h=>h.elim) (fun q J=>(pW q J).imp id fun e=> .inr (by omega)) fun q J=>(OT q J).imp id fun e=>by omega
 have aog:fM c0 (T.dA dj iP) ⟨dd,bX,bX,[],[]⟩:=⟨HX,qJ,b6.none _ _ _,b6.none _ _ _,aof,fun q J=>(r7 q J).elim,fun q J=>(r7 q J).elim⟩
 have yi:=aob dj iP c0 _ aog K0 jr rfl rfl
 obtain ⟨cA,bd,bc,a_⟩:=cj OS
 refine ⟨_,Uj.cell,_,cA,K,bd,V,bc,D,a_,yi.use ?_⟩
 rintro v cO ⟨cT,zf,m,l,qe,gx,e9⟩
 have K1:cT.E bu:=by rw[gx.E];exact Ul
 have OU:=abj.an gx.to.an (HX.rz Ul)
 have SS:¬(T.dA dj iP).N ku:=by
   have AF:dd<ku:=by rw[ub,Oo];omega
   rintro (J|J|J|J)
   · have:=h.lt (q:=ku) (.inl J);omega
   · have:=h.lt (q:=ku) (.inr (.inl J));omega
   · have:=h.lt (q:=ku) (.inr (.inr (.inl J)));omega
   · rcases OT ku J with U|U
     · have:=h.lt (q:=ku) (.inr (.inr (.inr (.inr U))));omega
     · omega
 have abk:=Uj.an gx.to.an SS
 have OV:zf.dd=dd:=gx.dd
 have auA:cT.bK=T.bK:=gx.to.bK
 have OW:zf.made=m:=gx.made
 have OX:zf.left=l:=gx.left
 have HY:ku≠bu:=by have:=KY.lt;omega
 have xB:cc T cT w cO 60:=(K0.trans gx.to).mono (by omega)
 have fin:∀ (w':World) (av:aX),c6 w' av→cc T av w w' 60→av.E=dj→(∀q,T.G q→av.G q)→c6 w' (av.dA T.E T.G)∧cc T (av.dA T.E T.G) w w' 60:=by
   intro w' av al aN fD h8
   exact ⟨al.grow (W:=fun _=>False) (ao.refl _ _) (fun _ h=>h.elim) (fun q J=> .inl (by rw[fD];exact lZ q J)) (fun q J=> .inr (.inl (h8 q J))) fun q J=>(h.h0 q J).2.2,
     aN.step (W:=fun _=>False) (ao.refl _ _) (fun _ h=>h.elim) (fun q J=> .inl (by rw[fD];exact lZ q J)) fun q J=> .inl (h8 q J)⟩
 have abl:∀q,T.G q→cT.G q:=fun q J=>gx.G q (aoe q J)
 have Ao:=(bz).size
 have Um:∀ (bB:World) (av:aX) (c':gw) (x:Int),fM bB av c'→cc T av w bB 60→av.E bu→fM (bB.setCell ⟨bu,0,none⟩ (.int .i64 x)) av c'∧cc T av w (bB.setCell ⟨bu,0,none⟩ (.int .i64 x)) 60:=fun bB av c' x al aN he=>
   ⟨al.aaQ (iL bB bu 0 _) fun q e=> .inl (by rw[e];exact he),aN.step (E:=av.E) (G:=av.G) (iL bB bu 0 _) (fun q e az=>by omega) (fun q J=> .inl J) fun q J=> .inl J⟩
 have auB:m.length≤1600:=by
   have:=gx.room
   have:fG (T.dA dj iP)≤T.n:=by unfold fG;exact Nat.sub_le _ _
   omega
 have aoh:(∃a b:Int,v= .tuple #[.int .i64 a, .int .i64 b, .int .i64 3]∧¬T.C.D.calm 60)∨(∃ (root dq:Nat) (pages:List Nat),v= .tuple #[.int .i64 (root:Nat), .int .i64 (dq:Nat), .int .i64 0]∧((dq=0∧root=0∧pages=[]∧iy=[])∨jf cT.P dq none none root pages iy)∧(pages++l).Perm (m++cZ)∧dq≤12):=by
   rcases e9 with ⟨rfl,U,ad⟩|⟨root,dq,pages,rfl,U,ad,ar,aI⟩|⟨a,b,rfl,fh⟩
   · exact .inr ⟨0,0,[],rfl, .inl ⟨rfl,rfl,rfl,U⟩,ad,by omega⟩
   · have aI:dq≤T.bl+1:=aI
     exact .inr ⟨root,dq,pages,rfl, .inr U,ad,by omega⟩
   · exact .inl ⟨a,b,rfl,fh⟩
 rcases aoh with ⟨a,b,rfl,fh⟩|⟨root,p_,pages,rfl,aoi,BX,mZ⟩
 ·
   obtain ⟨aA,aF⟩:=j5 OU (i:=0) (by simp)
   have Dy:=j4 OU (i:=0) (.int .i64 3)
   obtain ⟨OY,OZ⟩:=Um cO cT zf 3 qe xB K1
   have K2:=abk.an (iL cO bu 0 (.int .i64 3)) HY
   refine ⟨a,b,3,rfl,aA,aF,bM ⟨3,Dy.cell,fun _=>⟨3,Dy.cell,?_⟩,fun af=>(by cases af)⟩⟩
   obtain ⟨aJ,aO⟩:=j5 Dy (i:=0) (by simp)
   have Un:=j4 Dy (i:=0) (.int .i64 3)
   obtain ⟨abm,abn⟩:=Um _ cT zf 3 OY OZ K1
   have Uo:=K2.an (iL _ bu 0 (.int .i64 3)) HY
   refine ⟨aJ,aO,bM (W.abo ⟨bu,0,none⟩ ⟨ku,0,none⟩ _ _ ?_)⟩
   generalize auC:(cO.setCell ⟨bu,0,none⟩ (.int .i64 3)).setCell ⟨bu,0,none⟩ (.int .i64 3)=gj at Un abm Uo abn⊢
   (delta W.zg bA aE aq bd;dsimp only)
   have nw:Ext gj gj.drew:=eE _
   have rG:=abm.ext nw
   have K3:=aaH rG rG.nr.src (fun q J=>(rG.s8 q J).1) (l:=zf.made) (fun x af=>by rw[OW] at af;rw[gx.f];simp[af]) (by rw[OW];exact gx.dZ) (by rw[OW];omega)
   rw[OV] at K3
   have K4:=rG.cells.2.1
   rw[OV] at K4
   refine ⟨3,Un.cell,fun _=>bM ⟨id,_,Uo.drew.cell,id,_,Uo.drew.cell,_,rfl,id,zf.nr,K4,K3.use ?_⟩,fun af=>(by cases af)⟩
   rintro _ a5 ⟨rfl,cW,dS,a7⟩
   rw[OW] at a7
   have aoj:=(Un.ext nw).an a7.to.an (rG.t.rz K1)
   have aok:cc T cW w a5 60:=((abn.trans (cc.ext cT nw)).trans a7.to).mono (by omega)
   obtain ⟨f1,f2⟩:=fin a5 cW dS.t aok (by rw[a7.E];exact gx.E) fun q J=>by rw[a7.G];exact abl q J
   refine ⟨rfl,3,aoj.cell,_,f1,f2,rfl,rfl, .inr (.inr ⟨rfl,fh,a7.root.trans gx.root,a7.bl.trans gx.bl,?_,fun no dg=> ?_⟩)⟩
   · funext no
     show cW.f no=T.f no
     rw[a7.f,gx.f]
     by_cases hm:no∈m
     · have:=(gx.s9 no hm).1
       have e:(T.dA dj iP).f no=T.f no:=rfl
       rw[e] at this⊢
       cases CQ:T.f no
       · simp[hm]
       · rw[CQ] at this;cases this
     · simp[hm];rfl
   · have hm:no∉m:=fun hm=>by
       have:=(gx.s9 no hm).1
       have e:((T.dA dj iP).f no||(T.dA dj iP).g no)=(T.f no||T.g no):=rfl
       rw[e,dg] at this;cases this
     have U:=a7.gW no (.inl hm)
     have ad:=gx.gW no dg
     exact ⟨U.1.trans ad.1,U.2.trans ad.2⟩
 ·
   have HZ:∀x,pages.count x+l.count x=m.count x+cZ.count x:=fun x=>by
     have:=Dv.1 BX x
     simpa only[Ek] using this
   have O0:∀x,m.count x+cZ.count x≤1:=fun x=>by
     have U:=List.nodup_iff_count.1 gx.dZ x
     have ad:=List.nodup_iff_count.1 Si x
     rcases Jg (m.count x) with ar|ar
     · omega
     · rcases Jg (cZ.count x) with aI|aI
       · omega
       · have hm:=tF.1 ar
         have aT:=tF.1 aI
         have:=(gx.s9 x hm).1
         have e:((T.dA dj iP).f x||(T.dA dj iP).g x)=(T.f x||T.g x):=rfl
         rw[e,vp x aT] at this;cases this
   have hlen:pages.length+l.length=m.length+cZ.length:=by
     have:=BX.length_eq
     simpa only[eu] using this
   have df:∀x∈l,cT.f x=true:=fun x af=>by
     have U:=tF.2 af
     have ad:=HZ x
     rw[gx.f]
     rcases Jg (m.count x) with ar|ar
     · have:x∈cZ:=tF.1 (by omega)
       have e:(T.dA dj iP).f x=T.f x:=rfl
       rw[e,vp x this];rfl
     · have:x∈m:=tF.1 ar
       simp[this]
   have aol:l.Nodup:=abf fun x=>by have:=HZ x;have:=O0 x;omega
   obtain ⟨aA,aF⟩:=j5 OU (i:=0) (by simp)
   have Dy:=j4 OU (i:=0) (.int .i64 0)
   obtain ⟨OY,OZ⟩:=Um cO cT zf 0 qe xB K1
   have K2:=abk.an (iL cO bu 0 (.int .i64 0)) HY
   refine ⟨_,_,0,rfl,aA,aF,bM ⟨0,Dy.cell,fun af=>(by cases af),fun _=>bM ?_⟩⟩
   generalize auD:cO.setCell ⟨bu,0,none⟩ (.int .i64 0)=mT at Dy OY K2 OZ⊢
   have nw:Ext mT mT.drew:=eE _
   have rG:=OY.ext nw
   have K3:=aaH rG rG.lT.src (fun q J=>(rG.vu q J).1) (l:=zf.left) (fun x af=>df x (by rw[OX] at af;exact af)) (by rw[OX];exact aol) (by rw[OX];omega)
   rw[OV] at K3
   have K4:=rG.cells.2.2
   rw[OV] at K4
   refine ⟨id,_,K2.drew.cell,id,_,K2.drew.cell,_,rfl,id,zf.lT,K4,K3.use ?_⟩
   rintro _ jD ⟨rfl,cW,dS,a7⟩
   rw[OX] at a7
   have aom:=(Dy.ext nw).an a7.to.an (rG.t.rz K1)
   have abp:cc T cW w jD 60:=((OZ.trans (cc.ext cT nw)).trans a7.to).mono (by omega)
   have O1:cW.bK=T.bK:=abp.bK
   have sR:cW.E=dj:=by rw[a7.E];exact gx.E
   have aon:cW.E bu:=by rw[sR];exact Ul
   have abq:Var jD T.bK (vt cW) ah.C3:=by rw[←O1];exact dS.t.t
   obtain ⟨dR,e0⟩:=j5 abq (i:=3) (by simp[vt])
   have abr:=j4 abq (i:=3) (.int .i64 (root:Nat))
   have aoo:=iL jD T.bK 3 (.int .i64 (root:Nat))
   obtain ⟨nk,np⟩:=j5 abr (i:=4) (by simp[vt])
   have abs:=j4 abr (i:=4) (.int .i64 (p_:Nat))
   have aop:=iL (jD.setCell ⟨T.bK,3,none⟩ (.int .i64 (root:Nat))) T.bK 4 (.int .i64 (p_:Nat))
   refine ⟨rfl,_,rfl,by rw[aV];exact dR,by rw[aV];exact e0,bM ⟨_,rfl,by rw[aV,aV];exact nk,by rw[aV,aV];exact np,bM ?_⟩⟩
   rw[aV,aV,gR,gR]
   have Up:ao (fun q=>q=T.bK) jD ((jD.setCell ⟨T.bK,3,none⟩ (.int .i64 (root:Nat))).setCell ⟨T.bK,4,none⟩ (.int .i64 (p_:Nat))):=aoo.trans aop
   generalize auE:(jD.setCell ⟨T.bK,3,none⟩ (.int .i64 (root:Nat))).setCell ⟨T.bK,4,none⟩ (.int .i64 (p_:Nat))=mf at abs Up⊢
   have k9:∀x∈pages,x∉l:=fun x af az=>by
     have U:=tF.2 af
     have ad:=tF.2 az
     have:=HZ x
     have:=O0 x
     omega
   have abt:(p_=0∧root=0∧pages=[]∧iy=[])∨(jf cW.P p_ none none root pages iy∧root∈pages):=aoi.imp id fun hw=>hw.pt fun x af=>((a7.gW x (.inl (k9 x af))).1).symm
   have aoq:root<cW.n:=by
     rcases abt with ⟨_,U,_⟩|⟨U,_⟩
     · have:=dS.t.s.di;omega
     · obtain ⟨dZ,_,ad,_⟩:=U.v_
       exact (dS.t.lv _ _ ad).1
   have aor:Var mf cW.bK (vt (cW.FF root p_)) ah.C3:=by rw[O1];exact abs
   obtain ⟨aos,aot⟩:=dS.t.an_ aor (by rw[O1];exact Up) aoq mZ
   have aou:bu≠T.bK:=fun e=>by have:=h.lt (q:=T.bK) (.inr (.inl rfl));omega
   have abu:=aom.an Up aou
   obtain ⟨cS,xe⟩:=j5 abu (i:=0) (by simp)
   have abv:=j4 abu (i:=0) (.int .i64 0)
   have abw:=iL mf bu 0 (.int .i64 0)
   refine ⟨cS,xe,bM (W.abo ⟨bu,0,none⟩ ⟨ku,0,none⟩ _ _ ?_)⟩
   (delta W.zg bA aE aq bd;dsimp only)
   refine ⟨0,abv.cell,fun af=>(by cases af),fun _=>⟨0,abv.cell,?_⟩⟩
   have aov:c6 (mf.setCell ⟨bu,0,none⟩ (.int .i64 0)) (cW.FF root p_):=aos.grow (E:=cW.E) (G:=cW.G) abw (fun q e _=> .inl (by rw[e];exact aon)) (fun q J=> .inl J) (fun q J=> .inr (.inl J)) fun q J=>(dS.t.h0 q J).2.2
   have aow:cc T (cW.FF root p_) w (mf.setCell ⟨bu,0,none⟩ (.int .i64 0)) 60:=((abp.trans aot).mono (by omega)).step (E:=cW.E) (G:=cW.G) abw (fun q e az=>by omega) (fun q J=> .inl J) fun q J=> .inl J
   obtain ⟨f1,f2⟩:=fin _ _ aov aow sR fun q J=>by
     show cW.G q
     rw[a7.G];exact abl q J
   refine ⟨_,f1,f2,rfl,rfl, .inr (.inl ⟨rfl,jr,⟨pages,?_,abf fun x=>by have:=HZ x;have:=O0 x;omega,fun no af=> ?_,fun no=> ?_⟩,fun no dg=> ?_⟩)⟩
   · rcases abt with ⟨U,ad,ar,aI⟩|⟨U,_⟩
     · exact .inl ⟨U,ad,ar,aI⟩
     · exact .inr U
   · have U:=tF.2 af
     have ad:=HZ no
     rcases Jg (cZ.count no) with ar|ar
     · have hm:no∈m:=tF.1 (by omega)
       exact .inr (gx.s9 no hm).1
     · exact .inl (tF.1 ar)
   · show cW.f no=true↔_
     rw[a7.f,gx.f]
     have e:(T.dA dj iP).f no=T.f no:=rfl
     rw[e]
     have iZ:=HZ no
     have dS:=O0 no
     have NC:no∈m↔0<m.count no:=tF.symm
     have gd:no∈cZ↔0<cZ.count no:=tF.symm
     have r4:no∈l↔0<l.count no:=tF.symm
     have Uq:no∈pages↔0<pages.count no:=tF.symm
     have rE:0<cZ.count no→T.f no=true:=fun h=>vp no (gd.2 h)
     have aox:0<m.count no→T.f no=false:=fun h=>by
       have:=(gx.s9 no (NC.2 h)).1
       have e:((T.dA dj iP).f no||(T.dA dj iP).g no)=(T.f no||T.g no):=rfl
       rw[e] at this
       cases CQ:T.f no
       · rfl
       · rw[CQ] at this;cases this
     rw[jw,xZ,fI,zH,tE,NC,gd,r4,Uq]
     constructor
     · rintro ⟨U|U,ad⟩
       · by_cases ar:0<cZ.count no
         · left;omega
         · exact .inr ⟨U,ar⟩
       · left;omega
     · rintro (U|⟨U,ad⟩)
       · refine ⟨?_,by omega⟩
         by_cases ar:0<cZ.count no
         · exact .inl (rE ar)
         · right;omega
       · refine ⟨.inl U,fun ar=> ?_⟩
         have:0<m.count no:=by omega
         rw[aox this] at U;cases U
   · have Km:(T.f no||T.g no)=true:=by rw[dg];simp
     have aoy:cT.g no=true:=by rw[gx.to.g];exact dg
     have U:=a7.gW no (.inr aoy)
     have ad:=gx.gW no Km
     exact ⟨U.1.trans ad.1,U.2.trans ad.2⟩
end
section
theorem abx {ks:List Key} {k:Key} {i:Nat} (aj:ks.Pairwise ck) (U:d_ ks k≤i) (hi:i<ks.length) (ae:ks[d_ ks k]? ≠some k):ck k ks[i]:=by
 rcases El.1 (GH aj U hi) with ad|ad
 · exact ad
 · exfalso
   rcases hE (d_ ks k) i with ar|ar
   · have a6:d_ ks k<ks.length:=by omega
     have aI:=GH aj (cP _) a6
     have aW:=Gn.1 aj _ _ a6 hi ar
     rw[←ad] at aW
     exact aI aW
   · have e:i=d_ ks k:=by omega
     apply ae
     subst e
     rw[g8 hi,←ad]
theorem Ur {n:aL} (h:oC n) {i:Nat} (hi:i≤n.keys.length):∃a b c d:List Key,n.keys=a++b∧n.vals=c++d∧a.length=i∧c.length=i∧b.length=d.length∧n.keys.take i=a∧n.keys.drop i=b∧n.vals.take i=c∧n.vals.drop i=d:=by
 have az:=h.len
 refine ⟨n.keys.take i,n.keys.drop i,n.vals.take i,n.vals.drop i,(qq i _).symm,(qq i _).symm,?_,?_,?_,rfl,rfl,rfl,rfl⟩
 · rw[dV];omega
 · rw[dV];omega
 · rw[fw,fw];omega
def uv (k v:Key):Nat:=2+k.length+v.length
theorem H0 {n:aL} (h:n.leaf=true):cf n=1+(List.zipWith uv n.keys n.vals).sum:=by
 unfold cf
 rw[if_pos h,wa h];rfl
theorem aoz {n:aL} {k v:Key} (h:oC n) (ae:ew k) (ak:v.length≤24):oC (o7 n k v)∧(o7 n k v).gH=jY n.gH k v∧cf (o7 n k v)≤cf n+50∧(o7 n k v).keys≠ []∧n.keys.length≤(o7 n k v).keys.length∧(∀s∈(o7 n k v).keys,s=k∨s∈n.keys):=by
 have hlen:=h.len
 have hle:=GG n.keys k
 have aT:n.gH=n.keys.zip n.vals:=rfl
 have C7:=h.j0
 have wB:∀ (j:Nat) (a6:j<n.keys.length),j<d_ n.keys k→ck n.keys[j] k:=fun j a6 U=>Es U a6
 have K5:n.keys[d_ n.keys k]? ≠some k→∀ (j:Nat) (a6:j<n.keys.length),d_ n.keys k≤j→ck k n.keys[j]:=fun he j a6 U=>abx C7 U a6 he
 rw[aT,agS h.j0]
 unfold o7 o6
 generalize hi:d_ n.keys k=i at hle wB K5⊢
 obtain ⟨a,b,c,d,aY,bm,dM,kE,lE,vC,Bd,uV,zZ⟩:=Ur h hle
 have bI:n.keys.zip n.vals=a.zip c++b.zip d:=by rw[aY,bm];exact En (by omega)
 have Cm:(a.zip c).length=i:=by rw[Ec];omega
 by_cases he:n.keys[i]? =some k
 · rw[if_pos (by simpa using he),if_pos he]
   have qQ:∃jh,b=k::jh:=by
     cases b with
     |nil=>rw[aY,v9 (by omega)] at he;simp at he
     |cons y jh=>
       rw[aY,v9 (by omega),dM,Ef] at he
       simp at he
       exact ⟨jh,by rw[he]⟩
   obtain ⟨jh,rfl⟩:=qQ
   obtain ⟨x,kW,rfl⟩:∃x kW,d=x::kW:=by
     cases d with
     |nil=>simp at lE
     |cons x kW=>exact ⟨x,kW,rfl⟩
   have yv:n.vals.set i v=c++v::kW:=by
     rw[bm,List.set_append_right _ _ (by omega),kE,Ef];rfl
   refine ⟨⟨⟨h.ok,h.j0⟩,h.leaf,by simp[hlen],h.kids,fun z bI=> ?_⟩,?_,?_,fun e=>by have e:n.keys=[]:=e;rw[e] at aY;simp at aY,cP _,fun s aj=> .inr aj⟩
   · rcases Ej bI with U|U
     · exact h.vals z U
     · rw[U];exact ak
   · show n.keys.zip (n.vals.set i v)=_
     rw[yv,bI,aY,En (by omega),zU Cm]
     have aoA:(a.zip c++(k::jh).zip (x::kW)).drop (i+1)=jh.zip kW:=by
       rw[List.zip_cons_cons,show a.zip c++(k,x)::jh.zip kW=(a.zip c++ [(k,x)])++jh.zip kW by simp]
       exact drop_left' (by simp only[eu,Cm,rh])
     rw[aoA];rfl
   · rw[H0 h.leaf,H0 (n:={n with vals:=n.vals.set i v}) h.leaf]
     show 1+(List.zipWith uv n.keys (n.vals.set i v)).sum≤_
     rw[yv,aY,bm,Gl (by omega),Gl (by omega),xY,xY,List.zipWith_cons_cons,List.zipWith_cons_cons,I8,I8]
     unfold uv
     omega
 · rw[if_neg (by simpa using he),if_neg he]
   have Us:=K5 he
   refine ⟨⟨⟨fun z bI=> ?_,?_⟩,h.leaf,?_,h.kids,fun z bI=> ?_⟩,?_,?_,fun e=> ?_,?_,fun s aj=> ?_⟩
   · have bI:z∈n.keys.take i++ [k]++n.keys.drop i:=bI
     simp only[fe,nC] at bI
     rcases bI with (bI|rfl)|bI
     · exact h.ok z (kA bI)
     · exact ae
     · exact h.ok z (kk bI)
   · show (n.keys.take i++ [k]++n.keys.drop i).Pairwise ck
     rw[vC,Bd]
     have pH:(a++b).Pairwise ck:=by rw[←aY];exact C7
     obtain ⟨aA,aF,aJ⟩:=Eb.1 pH
     have aoB:∀x∈a,ck x k:=fun x af=>by
       obtain ⟨j,a6,rfl⟩:=na af
       have:=wB j (by rw[aY,eu];omega) (by omega)
       simp only[aY,zI a6] at this
       exact this
     have so:∀y∈b,ck k y:=fun y b2=>by
       obtain ⟨j,a6,rfl⟩:=na b2
       have:=Us (i+j) (by rw[aY,eu];omega) (by omega)
       have e:(a++b)[i+j]'(by rw[eu];omega)=b[j]:=by
         rw[Eg (by omega)];congr 1;omega
       simp only[aY,e] at this
       exact this
     rw[er]
     refine Eb.2 ⟨aA,?_,fun x af y b2=> ?_⟩
     · exact tB.2 ⟨so,aF⟩
     · rcases gp.1 b2 with rfl|b2
       · exact aoB x af
       · exact aJ x af y b2
   · show (n.vals.take i++ [v]++n.vals.drop i).length=(n.keys.take i++ [k]++n.keys.drop i).length
     rw[vC,Bd,uV,zZ]
     simp only[eu,rh];omega
   · have bI:z∈n.vals.take i++ [v]++n.vals.drop i:=bI
     simp only[fe,nC] at bI
     rcases bI with (bI|rfl)|bI
     · exact h.vals z (kA bI)
     · exact ak
     · exact h.vals z (kk bI)
   · show (n.keys.take i++ [k]++n.keys.drop i).zip (n.vals.take i++ [v]++n.vals.drop i)=_
     rw[vC,Bd,uV,zZ,bI,zU Cm,drop_left' Cm,er,er,En (by omega)]
     rfl
   · rw[H0 h.leaf,H0 (n:={n with keys:=n.keys.take i++ [k]++n.keys.drop i,vals:=n.vals.take i++ [v]++n.vals.drop i}) h.leaf]
     show 1+(List.zipWith uv (n.keys.take i++ [k]++n.keys.drop i) (n.vals.take i++ [v]++n.vals.drop i)).sum≤_
     have aA:(List.zipWith uv (a++ [k]++b) (c++ [v]++d)).sum=(List.zipWith uv a c).sum+(uv k v+(List.zipWith uv b d).sum):=by
       rw[er,er,Gl (by omega),xY];rfl
     have aF:(List.zipWith uv (a++b) (c++d)).sum=(List.zipWith uv a c).sum+(List.zipWith uv b d).sum:=by
       rw[Gl (by omega),xY]
     rw[vC,Bd,uV,zZ,aY,bm,aA,aF]
     have:=ae.2
     unfold uv
     omega
   · have e:n.keys.take i++ [k]++n.keys.drop i=[]:=e
     simp at e
   · show n.keys.length≤(n.keys.take i++ [k]++n.keys.drop i).length
     rw[vC,Bd,aY]
     simp only[eu,rh];omega
   · have aj:s∈n.keys.take i++ [k]++n.keys.drop i:=aj
     simp only[fe,nC] at aj
     rcases aj with (aj|rfl)|aj
     · exact .inr (kA aj)
     · exact .inl rfl
     · exact .inr (kk aj)
end
section
def aby (T:aX) (cZ:List Nat) (iy:List bf) (w:World) (v:Value) (w':World):Prop:=
 ∃av:aX,c6 w' av∧cc T av w w' 100∧av.E=T.E∧av.G=T.G∧
   ((v= .int .i64 2∧fG T<2*T.bl+3∧av=T)∨
    (v= .int .i64 0∧2*T.bl+3≤fG T∧(∃pages,nT av pages iy∧pages.Nodup∧(∀no∈pages,no∈cZ∨(T.f no||T.g no)=false)∧∀no,av.f no=true↔(no∈pages∨(T.f no=true∧no∉cZ)))∧∀no,T.g no=true→av.P no=T.P no∧av.C.view no=T.C.view no)∨
    (v= .int .i64 3∧¬T.C.D.calm 100∧av.root=T.root∧av.bl=T.bl∧av.f=T.f∧∀no,(T.f no||T.g no)=true→av.P no=T.P no∧av.C.view no=T.C.view no))
theorem OP.an {T:aX} {bt:eM} {cZ:List Nat} {iy:List bf} {w ag w':World} {v:Value} {k:Nat} (h:OP (T.cY bt T.P) cZ iy ag v w') (b4:cc T (T.cY bt T.P) w ag k) (ae:k≤40) (ak:∀j,bt.view j=T.C.view j) (jr:2*T.bl+3≤fG T):aby T cZ iy w v w':=by
 obtain ⟨av,U,ad,ar,aI,aW⟩:=h
 refine ⟨av,U,(b4.trans ad).mono (by omega),ar,aI,?_⟩
 have abz:fG (T.cY bt T.P)=fG T:=rfl
 have abA:(T.cY bt T.P).bl=T.bl:=rfl
 rcases aW with ⟨_,b5,_⟩|⟨rfl,b5,im,n9⟩|⟨rfl,b5,im,n9,ru,O2⟩
 · rw[abz,abA] at b5;omega
 · exact .inr (.inl ⟨rfl,jr,im,fun no dg=>⟨(n9 no dg).1,(n9 no dg).2.trans (ak no)⟩⟩)
 · exact .inr (.inr ⟨rfl,fun al=>b5 (b4.calm 60 (oe al (by omega))),im,n9,ru,fun no dg=>⟨(O2 no dg).1,(O2 no dg).2.trans (ak no)⟩⟩)
theorem th (w:World) (s:aa):aQ Tryz.prog F.th #[.slice s.a s.len s.cap] w (fun v w'=>v= .bool (decide (1≤s.len∧s.len≤24))∧w=w'):=by
 refine W.aoC s w _ ?_
 unfold W.th
 refine ⟨?_,rfl⟩
 congr 1
 rw[o1,jw,fI,fI,fI]
 omega
theorem Ut {T:aX} {w:World} {pages:List Nat} {L:List bf} {k:Key} (h:c6 w T) (eA:nT T pages L):∃steps,C6 T.P k T.bl T.root steps∧
   ((steps=[]∧T.bl=0∧pages=[]∧L=[])∨(∃ (lz:Nat) (di:aL) (kC hG:Option Key) (kx:List (Nat×aL×Nat)) (ov:List Nat) (nz nA:List bf),steps=kx++ [(lz,di,0)]∧Ctx T.P k T.bl 1 kC hG kx ov nz nA∧T.P lz=some di∧oC di∧di.within kC hG∧di.keys≠ []∧(kx≠ []→2≤di.keys.length)∧kY kC hG k∧
     pages.Perm (lz::ov)∧L=nz++(di.gH++nA)∧∀u,Loc k u→u L=nz++(u di.gH++nA))):=by
 rcases eA with ⟨U,ad,ar,aI⟩|hw
 · exact ⟨[],by rw[U];rfl, .inl ⟨rfl,U,ar,aI⟩⟩
 · cases dq:T.bl with
   |zero=>rw[dq] at hw;exact hw.elim
   |succ t=>
     rw[dq] at hw
     obtain ⟨rest,kx,lz,di,kC,hG,ov,nz,nA,aq,bA,bP,iq,kF,A5,Fy,Dq,Dr,za,A6,xz⟩:=Ctx.down (P:=T.P) (k:=k) (top:=t+1) (hH:=L) .top hw (fun h=>absurd rfl h) ⟨fun _ e=>(by cases e),fun _ e=>(by cases e)⟩ (by simp) (fun u _=>by simp)
     rw[rZ] at bA
     rw[l2] at za
     exact ⟨rest,aq, .inr ⟨lz,di,kC,hG,kx,ov,nz,nA,bA,bP,iq,kF,A5,Fy,Dq,Dr,za,A6,xz⟩⟩
theorem nT.low {T:aX} {pages:List Nat} {L:List bf} (h:nT T pages L) (dn:L.length<4096):T.bl<12∧pages.length≤L.length:=by
 rcases h with ⟨U,_,ar,_⟩|hw
 · rw[U,ar];exact ⟨by omega,fx _⟩
 · obtain ⟨aA,aF,aJ⟩:=hw.pages
   refine ⟨?_,aA⟩
   rcases hE T.bl 12 with h|h
   · exact h
   · have aW:=aJ (by omega)
     have b5:2^12≤2^T.bl:=ML (by decide) h
     have im:(2:Nat)^12=4096:=by decide
     omega
theorem abB {ag:World} {T:aX} {bt:eM} {pages:List Nat} {L iy:List bf} {k:Key} {steps:List (Nat×aL×Nat)} {s:aa} {wl:List gk} {di e2:aL} {K V D:aa} (h:c6 ag (T.cY bt T.P)) (eA:nT T pages L) (dn:L.length<4096) (jy:pages.Nodup) (aG:∀x∈pages,T.f x=true) (gV:bt.D.cI≤900000000)
   (hm:wl.map gk.st=steps) (xE:t_ (fun q=>¬(T.cY bt T.P).M q) ag s wl) (aD:b8 (fun q=>¬(T.cY bt T.P).M q) ag e2 K V D) (O3:oC e2) (gI:(steps=[]∧T.bl=0∧pages=[]∧e2.keys≠ []∧cf e2≤232∧e2.gH=iy)∨(∃ (lz:Nat) (kC hG:Option Key) (kx:List (Nat×aL×Nat)) (ov:List Nat) (nz nA:List bf),steps=kx++ [(lz,di,0)]∧Ctx T.P k T.bl 1 kC hG kx ov nz nA∧e2.within kC hG∧(kx≠ []→e2.keys≠ [])∧pages.Perm (lz::ov)∧iy=nz++(e2.gH++nA)∧cf e2≤282)):
   aQ Tryz.prog F.xD #[.pointer (some ⟨T.bK,0,none⟩), .slice s.a s.len s.cap,e5 e2 K V D] ag (OP (T.cY bt T.P) pages iy ag):=by
 obtain ⟨dq,K6⟩:=eA.low dn
 refine aoa h gV dq jy aG (by omega) fun dj iP aw bc dS b4 jr z_ df=> ?_
 have KN:s.len=wl.length:=by
   have:=xE.own.1
   rw[od _ (C5 wl)] at this;omega
 have o5:b8 (fun q=>¬((T.cY bt T.P).dA dj iP).M q) aw e2 K V D:=(b4.dZ (lo:=0) (aD.bw fun q _ ab=>⟨fx _,ab⟩)).bw fun q _ ab=>ab.2
 rcases gI with ⟨U,ad,ar,aI,aW,b5⟩|⟨lz,kC,hG,kx,ov,nz,nA,aY,bm,dM,kE,lE,vC,Bd⟩
 · subst U ar
   have K7:wl=[]:=by simpa using hm
   exact an8 (by rw[KN,K7];rfl) dS o5 gV (by
     have e:fG ((T.cY bt T.P).dA dj iP)=fG (T.cY bt T.P):=rfl
     omega) (by rw[z_];simp) df O3 aI aW b5
 · have hlen:wl.length=kx.length+1:=by
     have:=congrArg List.length hm
     rw[aY,mN,eu,rh] at this;exact this
   have OL:1+kx.length=T.bl:=bm.jb
   have tM:=xE.to b4
   have K8:(wl.take (wl.length-1)).map gk.st=kx∧(wl[wl.length-1]'(by omega)).no=lz:=by
     rw[aY] at hm
     have aA:(wl.take (wl.length-1)).map gk.st=(kx++ [(lz,di,0)]).take (wl.length-1):=by rw[←hm,Ee]
     refine ⟨by rw[aA];exact zU (by omega),?_⟩
     have aF:(wl.map gk.st)[wl.length-1]? =some (lz,di,0):=by
       rw[hm,v9 (by omega)]
       have:wl.length-1-kx.length=0:=by omega
       rw[this];rfl
     rw[List.getElem?_map,g8 (by omega)] at aF
     have aJ:=Option.some.inj aF
     exact congrArg Prod.fst aJ
   refine anU (k:=k) (hT:=ov) (A:=nz) (B:=nA) (M:=e2.gH) (lo:=kC) (hi:=hG) dS tM o5 (by omega) (by show wl.length=T.bl;omega) dq gV jr (by rw[z_];simp) (by rw[df];simp) ?_ ⟨O3,dM,rfl,rfl⟩ vC.symm ?_ Bd (fun h=>kE fun e=> ?_) fun x af=> ?_
   · rw[K8.1]
     have:wl.length=T.bl:=by omega
     rw[this]
     exact bm
   · rw[K8.2];exact lE
   · rw[e] at hlen;simp at hlen;omega
   · exact aG x (lE.mem_iff.2 (v5 _ af))
theorem t_.ext' {B C:Nat→Prop} {w w':World} {s:aa} {l:List gk} (h:t_ B w s l) (af:Ext w w') (e1:∀q,B q→C q):t_ C w' s l:=
 ⟨h.own.ext af,fun q J=>e1 q (h.E8 q J),fun x hm=>((h.dZ x hm).ext af).bw fun q _ ab=>e1 q ab⟩
theorem H2 {wl:List gk} {kx:List (Nat×aL×Nat)} {lz:Nat} {c_:aL} (hm:wl.map gk.st=kx++ [(lz,c_,0)]):∃h:0<wl.length,(wl[wl.length-1]'(by omega)).n=c_:=by
 have hlen:wl.length=kx.length+1:=by
   have:=congrArg List.length hm
   rw[mN,eu,rh] at this;exact this
 refine ⟨by omega,?_⟩
 have aF:(wl.map gk.st)[wl.length-1]? =some (lz,c_,0):=by
   rw[hm,v9 (by omega)]
   have:wl.length-1-kx.length=0:=by omega
   rw[this];rfl
 rw[List.getElem?_map,g8 (by omega)] at aF
 exact congrArg (fun x=>x.2.1) (Option.some.inj aF)
theorem abC {w:World} {T:aX} {pages:List Nat} {L:List bf} {aH eI:aa} {key val:Key} (h:c6 w T) (eA:nT T pages L) (dn:L.length<4096) (jy:pages.Nodup) (aG:∀x∈pages,T.f x=true) (gV:T.C.D.cI≤800000000)
   (ae:Src 1 w aH (bg key)) (so:∀q,aR aH q→q<w.heap.size∧¬T.M q) (ak:Src 1 w eI (bg val)) (JD:∀q,aR eI q→q<w.heap.size∧¬T.M q):
   aQ Tryz.prog F.Be #[.pointer (some ⟨T.bK,0,none⟩), .slice aH.a aH.len aH.cap, .slice eI.a eI.len eI.cap] w (fun v w'=>(v= .int .i64 1∧¬(ew key∧val.length≤24)∧w=w')∨(ew key∧val.length≤24∧aby T pages (jY L key val) w v w')):=by
 have fm:=kN ae
 have jx:=kN ak
 refine W.aoD (some ⟨T.bK,0,none⟩) aH eI w _ ?_
 (delta W.Be aE a_ bA bc aC gu dt ai bP aq KF ft;dsimp only)
 refine e4 (fun b w'=>b= !(decide (ew key))∧w=w') (fun q J=>⟨fun h=>(by cases h),fun _=>(th w aH).use ?_⟩) ?_
 · rintro _ _ ⟨rfl,rfl⟩
   refine ⟨_,rfl,J _ _ ⟨?_,rfl⟩⟩
   unfold ew
   rw[fm]
 rintro _ _ ⟨rfl,rfl⟩
 refine ⟨fun ab=> .inl ⟨rfl,fun a7=> ?_,rfl⟩,fun ab=> ?_⟩
 · rw[il a7.1,jx] at ab
   have:¬((val.length:Nat):Int)>24:=by have:=a7.2;omega
   simp[this] at ab
 have a7:ew key∧val.length≤24:=by
   by_cases U:ew key
   · refine ⟨U,?_⟩
     rw[il U,jx] at ab
     have:¬((val.length:Nat):Int)>24:=by simpa using ab
     omega
   · rw[sH U] at ab;simp at ab
 have o5:=h.s.c_
 obtain ⟨dq,K6⟩:=eA.low dn
 have bx:Ext w w.drew:=eE w
 have hd:=h.ext bx
 refine bM ⟨fun _=>False,_,rfl,id,_,hd.cells.2.1,_,rfl,id,_,hd.cells.2.2.2.2,(SA hd.s).use ?_⟩
 rintro _ bY ⟨rfl,jA⟩
 have KZ:((T.n:Int)-mB (fun i=>T.f i||T.g i) T.n)=(fG T:Nat):=by
   have:=Hq (fun i=>T.f i||T.g i) T.n
   unfold fG;omega
 have tM:IntKind.wrap .i64 (IntKind.wrap .i64 (2*((T.bl:Nat):Int))+3)=((2*T.bl+3:Nat):Int):=by
   rw[cE (n:=2*((T.bl:Nat):Int)) (by omega) (by omega),cE (by omega) (by omega)];omega
 rw[KZ,tM]
 have vb:=bx.trans jA
 have xF:=h.ext vb
 refine ⟨_,rfl,jA,fun ab=> .inr ⟨a7.1,a7.2,T,xF,(cc.ext T vb).mono (by omega),rfl,rfl, .inl ⟨rfl,?_,rfl⟩⟩,fun ab=> ?_⟩
 · have ab:((fG T:Nat):Int)<((2*T.bl+3:Nat):Int):=dU ab
   omega
 have jr:2*T.bl+3≤fG T:=by
   have:¬((fG T:Nat):Int)<((2*T.bl+3:Nat):Int):=ff ab
   omega
 obtain ⟨steps,xE,ox⟩:=Ut (k:=key) xF eA
 refine (SJ xF (by omega) (ae.ext vb) (fun q J=>⟨lg (so q J).1 vb.size,(so q J).2⟩) xE).use ?_
 rintro _ c0 ⟨bt,HX,K0,q1,e9⟩
 have b4:=((cc.ext T vb).trans K0).mono (l:=2*T.bl) (by omega)
 rcases e9 with ⟨s,wl,rfl,hm,zh⟩|⟨rfl,fh⟩
 rotate_left
 · refine ⟨⟨none,0,0⟩,3,rfl,fun _=> .inr ⟨a7.1,a7.2,T.cY bt T.P,HX,b4.mono (by omega),rfl,rfl, .inr (.inr ⟨rfl,fun al=>fh (oe al (by omega)),rfl,rfl,rfl,fun no _=>⟨rfl,q1 no⟩⟩)⟩,fun af=>(by cases af)⟩
 have KN:s.len=wl.length:=by
   have:=zh.own.1
   rw[od _ (C5 wl)] at this;omega
 have JS:=vb.size
 have abD:wl.length=T.bl:=by
   have:=xE.length
   rw[←hm,mN] at this;exact this
 refine ⟨s,0,rfl,fun af=>(by cases af),fun _=>cp (vs:=[.bool false, .slice none 0 0, .slice none 0 0, .slice none 0 0]) rfl fun ct E7 oP SH=>⟨E7.dr rfl (lU (b:=true) (K:=bX) (V:=bX) (D:=bX)),rfl,ec E7 (us:=hK ⟨true,[],[],[]⟩ bX bX bX) rfl rfl fun dF Hz Oj Ok=> ?_⟩⟩
 have xy:Ext c0 dF:=Ext.e3 oP Oj (cP _)
 obtain ⟨ph,HQ⟩:∃ph,ph=c0.heap.size:=⟨_,rfl⟩
 rw[←HQ] at Hz⊢
 obtain ⟨di,mR⟩:∃di:aL,di=(if hw:0<wl.length then (wl[wl.length-1]'(by omega)).n else ⟨true,[],[],[]⟩):=⟨_,rfl⟩
 refine ym (fun e7=>∃ (K V D:aa) (B:Nat→Prop),Ext c0 e7∧Var e7 ph (hK di K V D) ah.cF∧b8 B e7 di K V D) (fun q J=>⟨fun az=> ?_,fun az=> ?_⟩) ?_
 · have sq:0<wl.length:=by
     have:((s.len:Nat):Int)>0:=dU az
     omega
   rw[dif_pos sq] at mR
   have e:IntKind.wrap .i64 (((s.len:Nat):Int)-1)=((wl.length-1:Nat):Int):=by rw[cE (by omega) (by omega)];omega
   obtain ⟨A,ax,_,_,_,hu⟩:=zh.at (i:=wl.length-1) (by omega)
   have O4:=hu.ext xy
   rw[e,hF]
   subst mR
   refine ⟨A,ax,⟨by omega,by omega⟩,_,O4.bd,_,O4.bc,_,O4.a_,_,O4.gu,Hz.dr rfl lU,rfl,ec Hz (us:=hK (wl[wl.length-1]'(by omega)).n (wl[wl.length-1]'(by omega)).K (wl[wl.length-1]'(by omega)).V (wl[wl.length-1]'(by omega)).D) rfl rfl fun fp aoE aoF auF=> ?_⟩
   have abE:Ext c0 fp:=Ext.e3 xy aoF (by omega)
   exact J _ ⟨_,_,_,_,abE,aoE,hu.dZ.ext abE⟩
 · have sq:¬0<wl.length:=by
     have:¬((s.len:Nat):Int)>0:=ff az
     omega
   rw[dif_neg sq] at mR
   subst mR
   exact J _ ⟨bX,bX,bX,fun _=>True,xy,Hz,bU.none _ _,bU.none _ _,eF.none _ _⟩
 rintro e7 ⟨K,V,D,B,O5,aoG,aoH⟩
 have auG:=O5.size
 have abh:=K0.an.size
 have OO:oC di∧cf di≤232:=by
   rcases ox with ⟨U,ad,ar,aI⟩|⟨lz,c_,kC,hG,kx,ov,nz,nA,bA,bP,iq,kF,A5,Fy,Dq,Dr,za,A6,xz⟩
   · have K7:¬0<wl.length:=by
       rw[U] at hm
       have:wl=[]:=by simpa using hm
       rw[this];simp
     rw[mR,dif_neg K7]
     exact ⟨⟨⟨fun _ h=>(by cases h),List.Pairwise.nil⟩,rfl,rfl,rfl,fun _ h=>(by cases h)⟩,by decide⟩
   · rw[bA] at hm
     obtain ⟨aA,aF⟩:=H2 hm
     rw[mR,dif_pos aA,aF]
     exact ⟨kF,h.Fz _ _ iq⟩
 obtain ⟨r4,kM⟩:=OO
 have pQ:=(dX.iM (.inl r4) (by omega))
 have j1:∀q,T.N q→q<w.heap.size:=fun q J=>h.lt (aX.lS J)
 have aoI:Src 1 e7 aH (bg key):=(ae.an b4.an fun q J g9=>(so q J).2 (aX.lS g9)).ext O5
 have aoJ:Src 1 e7 eI (bg val):=(ak.an b4.an fun q J g9=>(JD q J).2 (aX.lS g9)).ext O5
 obtain ⟨d0,d1,d2,d3⟩:=cj aoG
 refine ⟨_,d0,K,d1,V,d2,D,d3,(yx aoH r4 (by omega) aoI aoJ a7.1 a7.2).use ?_⟩
 rintro _ eG ⟨cV,c2,dh,rfl,aoK,Ot⟩
 refine ⟨_,cV,c2,dh,true,rfl,cp (vs:=[.bool false, .slice none 0 0, .slice none 0 0, .slice none 0 0]) rfl fun du Oc Ob auH=>⟨Oc.dr rfl lU,rfl,ec Oc (us:=hK (o7 di key val) cV c2 dh) rfl rfl fun gy KG aoL auI=>⟨fun af=>(by cases af),fun _=> ?_⟩⟩⟩
 have abF:Ext eG gy:=Ext.e3 Ob aoL (cP _)
 have Uu:=(O5.trans Ot).trans abF
 obtain ⟨d0,d1,d2,d3⟩:=cj KG
 obtain ⟨cl,cr,gq,tb,Ba,m0⟩:=aoz r4 a7.1 a7.2
 have Fw:bt.D.cI≤900000000:=by
   have:bt.D.cI≤T.C.D.cI+2*T.bl:=b4.cI
   omega
 have aoM:b8 (fun q=>¬(T.cY bt T.P).M q) gy (o7 di key val) cV c2 dh:=(aoK.ext abF).bw fun q _ J kD=>by have:=HX.lt kD;omega
 have Uv:=abB (iy:=jY L key val) (k:=key) (steps:=steps) (di:=di) (HX.ext Uu) eA dn jy aG Fw hm (zh.ext' Uu fun q J=>J.2) aoM cl (by
   rcases ox with ⟨U,ad,ar,aI⟩|⟨lz,c_,kC,hG,kx,ov,nz,nA,bA,bP,iq,kF,A5,Fy,Dq,Dr,za,A6,xz⟩
   · have K7:¬0<wl.length:=by omega
     rw[dif_neg K7] at mR
     refine .inl ⟨U,ad,ar,tb,?_,?_⟩
     · have:cf di=1:=by rw[mR];rfl
       omega
     · rw[cr,mR,aI];rfl
   · rw[bA] at hm
     obtain ⟨aA,aF⟩:=H2 hm
     rw[dif_pos aA,aF] at mR
     rw[mR] at cr gq tb Ba m0⊢
     refine .inr ⟨lz,kC,hG,kx,ov,nz,nA,bA,bP,fun s aj=> ?_,fun _=>tb,za,?_,by have:=h.Fz _ _ iq;omega⟩
     · rcases m0 s aj with rfl|aW
       · exact Dr
       · exact A5 s aW
     · rw[cr];exact xz (fun L=>jY L key val) (agA key val))
 refine ⟨_,d0,cV,d1,c2,d2,dh,d3,Uv.use ?_⟩
 intro v w' aU
 have aoN:=aU.an (w:=w) ((b4.trans (cc.ext (T.cY bt T.P) Uu)).mono (l:=40) (by omega)) (cP _) q1 jr
 obtain ⟨av,U,ad,ar,aI,aW⟩:=aoN
 rcases aW with ⟨rfl,b5⟩|⟨rfl,b5⟩|⟨rfl,b5⟩
 · exact ⟨2,rfl, .inr ⟨a7.1,a7.2,av,U,ad,ar,aI, .inl ⟨rfl,b5⟩⟩⟩
 · exact ⟨0,rfl, .inr ⟨a7.1,a7.2,av,U,ad,ar,aI, .inr (.inl ⟨rfl,b5⟩)⟩⟩
 · exact ⟨3,rfl, .inr ⟨a7.1,a7.2,av,U,ad,ar,aI, .inr (.inr ⟨rfl,b5⟩)⟩⟩
end
section
theorem abG {l:List bf} {k:Key} (h:(jH l k).length=l.length):∀p∈l,p.1≠k:=by
 intro p aT
 unfold jH at h
 have:=(uH (p:=fun p:bf=>decide (p.1≠k))).1 (List.Sublist.eq_of_length List.filter_sublist h)
 exact dU (this p aT)
theorem abH {L A B M:List bf} {k:Key} (dn:L=A++(M++B)) (hu:jH L k=A++(jH M k++B)):jZ L k=jZ M k:=by
 have U:(jH A k).length≤A.length:=Gw _ _
 have ad:(jH B k).length≤B.length:=Gw _ _
 have ar:=congrArg List.length hu
 rw[dn,Gx,Gx] at ar
 simp only[eu] at ar
 have ax:=abG (l:=A) (k:=k) (by omega)
 have e1:=abG (l:=B) (k:=k) (by omega)
 have K9:A.find? (fun p=>decide (p.1=k))=none:=r2.2 fun p aT=>by simpa using ax p aT
 have Uw:B.find? (fun p=>decide (p.1=k))=none:=r2.2 fun p aT=>by simpa using e1 p aT
 unfold jZ
 rw[dn,List.find?_append,List.find?_append,K9,Uw]
 simp
theorem abI {n:aL} {k:Key} (h:oC n):jZ n.gH k=if o6 n.keys k then n.vals[d_ n.keys k]? else none:=by
 have hle:=GG n.keys k
 have C7:=h.j0
 have wB:∀ (j:Nat) (a6:j<n.keys.length),j<d_ n.keys k→ck n.keys[j] k:=fun j a6 U=>Es U a6
 have K5:n.keys[d_ n.keys k]? ≠some k→∀ (j:Nat) (a6:j<n.keys.length),d_ n.keys k≤j→ck k n.keys[j]:=fun he j a6 U=>abx C7 U a6 he
 have aT:n.gH=n.keys.zip n.vals:=rfl
 unfold o6
 rw[aT]
 generalize d_ n.keys k=i at hle wB K5⊢
 obtain ⟨a,b,c,d,aY,bm,dM,kE,lE,vC,Bd,uV,zZ⟩:=Ur h hle
 have bI:n.keys.zip n.vals=a.zip c++b.zip d:=by rw[aY,bm];exact En (by omega)
 have K9:(a.zip c).find? (fun p:bf=>decide (p.1=k))=none:=r2.2 fun p aT=>by
   have hm:=(I6 aT).1
   obtain ⟨j,a6,Ux⟩:=na hm
   have U:=wB j (by rw[aY,eu];omega) (by omega)
   simp only[aY,zI a6,Ux] at U
   simpa using uN U
 unfold jZ
 rw[bI,List.find?_append,K9]
 by_cases he:n.keys[i]? =some k
 · rw[if_pos (by simpa using he)]
   have qQ:∃jh,b=k::jh:=by
     cases b with
     |nil=>rw[aY,v9 (by omega)] at he;simp at he
     |cons y jh=>
       rw[aY,v9 (by omega),dM,Ef] at he
       simp at he
       exact ⟨jh,by rw[he]⟩
   obtain ⟨jh,rfl⟩:=qQ
   obtain ⟨x,kW,rfl⟩:∃x kW,d=x::kW:=by
     cases d with
     |nil=>simp at lE
     |cons x kW=>exact ⟨x,kW,rfl⟩
   rw[bm,v9 (by omega),kE,Ef]
   simp
 · rw[if_neg (by simpa using he)]
   have Us:=K5 he
   have Uw:(b.zip d).find? (fun p:bf=>decide (p.1=k))=none:=r2.2 fun p aT=>by
     have hm:=(I6 aT).1
     obtain ⟨j,a6,Ux⟩:=na hm
     have U:=Us (i+j) (by rw[aY,eu];omega) (by omega)
     have e:(a++b)[i+j]'(by rw[eu];omega)=b[j]:=by
       rw[Eg (by omega)];congr 1;omega
     simp only[aY,e,Ux] at U
     have:=uN U
     simpa using fun h=>this h.symm
   rw[Uw];rfl
def aoO (T:aX) (L:List bf) (key:Key) (w:World) (v:Value) (w':World):Prop:=
 ∃bt:eM,c6 w' (T.cY bt T.P)∧cc T (T.cY bt T.P) w w' 30∧(∀j,bt.view j=T.C.view j)∧
   ((v= .tuple #[.slice none 0 0, .bool false, .int .i64 0]∧(ew key→jZ L key=none))∨
    (∃ (t:aa) (x:Key),v= .tuple #[.slice t.a t.len t.cap, .bool true, .int .i64 0]∧ew key∧jZ L key=some x∧bD (fun q=>¬(T.cY bt T.P).M q) w' t x)∨
    (v= .tuple #[.slice none 0 0, .bool false, .int .i64 3]∧ew key∧¬T.C.D.calm 30))
theorem abJ {w:World} {T:aX} {pages:List Nat} {L:List bf} {aH:aa} {key:Key} (h:c6 w T) (eA:nT T pages L) (gV:T.C.D.cI≤800000000) (ae:Src 1 w aH (bg key)) (so:∀q,aR aH q→q<w.heap.size∧¬T.M q):
   aQ Tryz.prog F.Bf #[.pointer (some ⟨T.bK,0,none⟩), .slice aH.a aH.len aH.cap] w (aoO T L key w):=by
 have fm:=kN ae
 have dq:=h.num.2.1
 have Hr:T.cY T.C T.P=T:=rfl
 refine W.aoP (some ⟨T.bK,0,none⟩) aH w _ ?_
 (delta W.Bf aE a_ gu aC bP aq dt ai dO a8;dsimp only)
 refine e4 (fun b w'=>b= !(decide (ew key))∧w=w') (fun q J=>⟨fun h=>(by cases h),fun _=>(th w aH).use ?_⟩) ?_
 · rintro _ _ ⟨rfl,rfl⟩
   refine ⟨_,rfl,J _ _ ⟨?_,rfl⟩⟩
   unfold ew
   rw[fm]
 rintro _ _ ⟨rfl,rfl⟩
 refine ⟨fun ab=>⟨fun h=>(by cases h),fun _=> ?_⟩,fun ab=> ?_⟩
 · have:¬ew key:=by simpa using ab
   exact ⟨T.C,h,(cc.refl T w).mono (by omega),fun _=>rfl, .inl ⟨rfl,fun af=>absurd af this⟩⟩
 have a7:ew key:=by simpa using ab
 obtain ⟨steps,xE,ox⟩:=Ut (k:=key) h eA
 refine (SJ h (by omega) ae so xE).use ?_
 rintro _ a5 ⟨bt,Bg,rQ,q1,e9⟩
 rcases e9 with ⟨s,wl,rfl,hm,zh⟩|⟨rfl,fh⟩
 rotate_left
 · exact ⟨⟨none,0,0⟩,3,rfl,fun _=>⟨bt,Bg,rQ.mono (by omega),q1, .inr (.inr ⟨rfl,a7,fun al=>fh (oe al (by omega))⟩)⟩,fun af=>(by simp at af)⟩
 have KN:s.len=wl.length:=by
   have:=zh.own.1
   rw[od _ (C5 wl)] at this;omega
 have abD:wl.length=T.bl:=by
   have:=xE.length
   rw[←hm,mN] at this;exact this
 refine ⟨s,0,rfl,fun af=>⟨bt,Bg,rQ.mono (by omega),q1, .inl ⟨rfl,fun _=> ?_⟩⟩,fun af=> ?_⟩
 · have sq:wl.length=0:=by
     have:((s.len:Nat):Int)=0:=by simpa using af
     omega
   rcases ox with ⟨_,_,_,aI⟩|⟨lz,c_,kC,hG,kx,ov,nz,nA,bA,_⟩
   · rw[aI];rfl
   · rw[bA] at hm
     obtain ⟨aA,_⟩:=H2 hm
     omega
 have sq:0<wl.length:=by
   have:¬((s.len:Nat):Int)=0:=by simpa using af
   omega
 have e:IntKind.wrap .i64 (((s.len:Nat):Int)-1)=((wl.length-1:Nat):Int):=by rw[cE (by omega) (by omega)];omega
 obtain ⟨A,ax,_,_,_,hu⟩:=zh.at (i:=wl.length-1) (by omega)
 rcases ox with ⟨U,_⟩|⟨lz,c_,kC,hG,kx,ov,nz,nA,bA,bP,iq,kF,A5,Fy,Dq,Dr,za,A6,xz⟩
 · rw[U] at hm
   have:=congrArg List.length hm
   simp at this;omega
 have kD:=hm
 rw[bA] at kD
 obtain ⟨aA,aF⟩:=H2 kD
 rw[e,hF]
 generalize aoQ:(wl[wl.length-1]'(by omega))=u at hu aF
 obtain ⟨aoR,un,aoS,K,V,D⟩:=u
 obtain rfl:un=c_:=aF
 refine ⟨A,ax,⟨by omega,by omega⟩,_,hu.bd,K,hu.bc,V,hu.a_,D,hu.gu,cp (vs:=[.bool false, .slice none 0 0, .slice none 0 0, .slice none 0 0]) rfl fun c0 OS pe S4=>⟨OS.dr rfl lU,rfl,ec OS (us:=hK un K V D) rfl rfl fun eQ abK aoT auJ=> ?_⟩⟩
 have Uy:Ext a5 eQ:=Ext.e3 pe aoT (cP _)
 obtain ⟨d0,d1,d2,d3⟩:=cj abK
 have pQ:=(dX.iM (.inl kF) (by have:=h.Fz _ _ iq;omega))
 have aoU:Src 1 eQ aH (bg key):=(ae.an rQ.an fun q J g9=>(so q J).2 (aX.lS g9)).ext Uy
 have abL:b8 (fun q=>w.heap.size≤q∧¬(T.cY bt T.P).M q) eQ un K V D:=hu.dZ.ext Uy
 refine ⟨_,d0,K,d1,V,d2,D,d3,(yt abL aoU kF.j0 (by omega)).use ?_⟩
 rintro _ cO ⟨rfl,sw⟩
 have dC:=Uy.trans sw
 have abM:=Bg.ext dC
 have xB:cc T (T.cY bt T.P) w cO 30:=(rQ.trans (cc.ext _ dC)).mono (by omega)
 have uw:jZ L key=jZ un.gH key:=abH A6 (xz (fun L=>jH L key) (QT key))
 rw[abI kF] at uw
 refine ⟨_,_,rfl,fun aD=>⟨bt,abM,xB,q1, .inl ⟨rfl,fun _=> ?_⟩⟩,fun aD=> ?_⟩
 · have aD:o6 un.keys key=false:=by simpa using aD
   rw[uw,if_neg (by rw[aD];simp)]
 · have aD:o6 un.keys key=true:=by simpa using aD
   have Uz:d_ un.keys key<un.keys.length:=(qs.1 (dU aD)).1
   have O6:d_ un.keys key<un.vals.length:=by rw[kF.len];exact Uz
   obtain ⟨f0,f1,f2,f3⟩:=cj (abK.ext sw)
   obtain ⟨UA,eI,UB,Cl,UC,O7,_⟩:=bU.at (abL.ext sw).vals O6
   refine ⟨V,f2,UA,UB,Cl,eI,UC,bt,abM,xB,q1, .inr (.inl ⟨eI,un.vals[d_ un.keys key],rfl,a7,?_,bD.bw O7 fun q _ ab=>ab.2⟩)⟩
   rw[uw,if_pos aD,g8 O6]
end
section
theorem aoV {n:aL} {k:Key} (h:oC n) (ae:o6 n.keys k=true):oC (yw n k)∧(yw n k).gH=jH n.gH k∧cf (yw n k)≤cf n∧n.keys.length=(yw n k).keys.length+1∧(∀s∈(yw n k).keys,s∈n.keys):=by
 have hle:=GG n.keys k
 have C7:=h.j0
 have aT:n.gH=n.keys.zip n.vals:=rfl
 have he:n.keys[d_ n.keys k]? =some k:=dU ae
 rw[aT]
 unfold yw
 generalize d_ n.keys k=i at hle he⊢
 obtain ⟨a,b,c,d,aY,bm,dM,kE,lE,vC,Bd,uV,zZ⟩:=Ur h hle
 have bI:n.keys.zip n.vals=a.zip c++b.zip d:=by rw[aY,bm];exact En (by omega)
 have qQ:∃jh,b=k::jh:=by
   cases b with
   |nil=>rw[aY,v9 (by omega)] at he;simp at he
   |cons y jh=>
     rw[aY,v9 (by omega),dM,Ef] at he
     simp at he
     exact ⟨jh,by rw[he]⟩
 obtain ⟨jh,rfl⟩:=qQ
 obtain ⟨x,kW,rfl⟩:∃x kW,d=x::kW:=by
   cases d with
   |nil=>simp at lE
   |cons x kW=>exact ⟨x,kW,rfl⟩
 have aA:n.keys.drop (i+1)=jh:=by rw[aY,show a++k::jh=(a++ [k])++jh by simp];exact drop_left' (by simp[dM])
 have aF:n.vals.drop (i+1)=kW:=by rw[bm,show c++x::kW=(c++ [x])++kW by simp];exact drop_left' (by simp[kE])
 rw[vC,uV,aA,aF]
 have pH:(a++k::jh).Pairwise ck:=by rw[←aY];exact C7
 obtain ⟨pS,iB,Dd⟩:=Eb.1 pH
 have zi:=tB.1 iB
 have iK:∀z,z∈a++jh→z∈n.keys:=fun z bI=>by
   rw[aY]
   simp only[fe,gp] at bI⊢
   rcases bI with U|U
   · exact .inl U
   · exact .inr (.inr U)
 refine ⟨⟨⟨fun z bI=>h.ok z (iK z bI),Eb.2 ⟨pS,zi.2,fun y b2 z bI=>Dd y b2 z (v5 _ bI)⟩⟩,h.leaf,?_,h.kids,fun z bI=>h.vals z ?_⟩,?_,?_,?_,iK⟩
 · show (c++kW).length=(a++jh).length
   simp only[eu,oB] at lE⊢;omega
 · rw[bm]
   have bI:z∈c++kW:=bI
   simp only[fe,gp] at bI⊢
   rcases bI with U|U
   · exact .inl U
   · exact .inr (.inr U)
 · show (a++jh).zip (c++kW)=_
   rw[bI,En (by omega),Gx,List.zip_cons_cons]
   have f1:jH (a.zip c) k=a.zip c:=Em fun p aT=>uN (Dd _ (I6 aT).1 k List.mem_cons_self)
   have f2:jH ((k,x)::jh.zip kW) k=jh.zip kW:=by
     have:jH ((k,x)::jh.zip kW) k=jH (jh.zip kW) k:=by unfold jH;simp
     rw[this]
     exact Em fun p aT=>(uN (zi.1 _ (I6 aT).1)).symm
   rw[f1,f2]
 · rw[H0 h.leaf,H0 (n:={n with keys:=a++jh,vals:=c++kW}) h.leaf]
   show 1+(List.zipWith uv (a++jh) (c++kW)).sum≤_
   rw[aY,bm,Gl (by omega),Gl (by omega),xY,xY,List.zipWith_cons_cons,I8]
   omega
 · show n.keys.length=(a++jh).length+1
   rw[aY]
   simp only[eu,oB];omega
end
section
structure oW (T av:aX):Prop where
 root:av.root=T.root
 bl:av.bl=T.bl
 f:av.f=T.f
 gW:∀no,(T.f no||T.g no)=true→av.P no=T.P no∧av.C.view no=T.C.view no
theorem oW.refl (T:aX):oW T T:=⟨rfl,rfl,rfl,fun _ _=>⟨rfl,rfl⟩⟩
theorem oW.cY {T:aX} {bt:eM} (ak:∀j,bt.view j=T.C.view j):oW T (T.cY bt T.P):=⟨rfl,rfl,rfl,fun no _=>⟨rfl,ak no⟩⟩
theorem oW.trans {T av xi:aX} (U:oW T av) (ad:oW av xi) (a7:av.g=T.g):oW T xi:=
 ⟨ad.root.trans U.root,ad.bl.trans U.bl,ad.f.trans U.f,fun no h=>by
   have ar:=U.gW no h
   have aI:=ad.gW no (by rw[U.f,a7];exact h)
   exact ⟨aI.1.trans ar.1,aI.2.trans ar.2⟩⟩
structure UD (T av:aX) (cZ:List Nat) (iy:List bf):Prop where
 ok:∃pages,nT av pages iy∧pages.Nodup∧(∀no∈pages,no∈cZ∨(T.f no||T.g no)=false)∧∀no,av.f no=true↔(no∈pages∨(T.f no=true∧no∉cZ))
 gW:∀no,T.g no=true→av.P no=T.P no∧av.C.view no=T.C.view no
theorem oW.ok {T av:aX} {pages:List Nat} {L:List bf} (h:oW T av) (eA:nT T pages L) (aG:∀x∈pages,T.f x=true):nT av pages L:=by
 unfold nT at eA⊢
 rw[h.root,h.bl]
 rcases eA with eA|hw
 · exact .inl eA
 · exact .inr (jf.pt hw fun x af=>(h.gW x (by rw[aG x af];rfl)).1.symm).1
def aoW (T:aX) (cZ:List Nat) (L:List bf) (key:Key) (w:World) (v:Value) (w':World):Prop:=
 ∃av:aX,c6 w' av∧cc T av w w' 100∧av.E=T.E∧av.G=T.G∧
   ((v= .tuple #[.bool false, .int .i64 1]∧¬ew key∧oW T av)∨
    (v= .tuple #[.bool false, .int .i64 0]∧ew key∧jZ L key=none∧oW T av)∨
    (v= .tuple #[.bool false, .int .i64 2]∧ew key∧jZ L key≠none∧fG T<2*T.bl+3∧oW T av)∨
    (v= .tuple #[.bool true, .int .i64 0]∧ew key∧jZ L key≠none∧2*T.bl+3≤fG T∧UD T av cZ (jH L key))∨
    (v= .tuple #[.bool false, .int .i64 3]∧ew key∧¬T.C.D.calm 100∧oW T av))
theorem aoX {w:World} {T:aX} {pages:List Nat} {L:List bf} {aH:aa} {key:Key} (h:c6 w T) (eA:nT T pages L) (dn:L.length<4096) (jy:pages.Nodup) (aG:∀x∈pages,T.f x=true) (gV:T.C.D.cI≤800000000)
   (ae:Src 1 w aH (bg key)) (so:∀q,aR aH q→q<w.heap.size∧¬T.M q):
   aQ Tryz.prog F.Dz #[.pointer (some ⟨T.bK,0,none⟩), .slice aH.a aH.len aH.cap] w (aoW T pages L key w):=by
 have fm:=kN ae
 have dq:=h.num.2.1
 refine W.aoY (some ⟨T.bK,0,none⟩) aH w _ ?_
 (delta W.Dz aE a_ gu aC bP aq ft dt ai bc;dsimp only)
 refine e4 (fun b w'=>b= !(decide (ew key))∧w=w') (fun q J=>⟨fun h=>(by cases h),fun _=>(th w aH).use ?_⟩) ?_
 · rintro _ _ ⟨rfl,rfl⟩
   refine ⟨_,rfl,J _ _ ⟨?_,rfl⟩⟩
   unfold ew
   rw[fm]
 rintro _ _ ⟨rfl,rfl⟩
 refine ⟨fun ab=>⟨T,h,(cc.refl T w).mono (by omega),rfl,rfl, .inl ⟨rfl,by simpa using ab, .refl T⟩⟩,fun ab=> ?_⟩
 have a7:ew key:=by simpa using ab
 obtain ⟨steps,xE,ox⟩:=Ut (k:=key) h eA
 refine (SJ h (by omega) ae so xE).use ?_
 rintro _ a5 ⟨bt,Bg,rQ,q1,e9⟩
 rcases e9 with ⟨s,wl,rfl,hm,zh⟩|⟨rfl,fh⟩
 rotate_left
 · exact ⟨⟨none,0,0⟩,3,rfl,fun _=>⟨_,Bg,rQ.mono (by omega),rfl,rfl, .inr (.inr (.inr (.inr ⟨rfl,a7,fun al=>fh (oe al (by omega)), .cY q1⟩)))⟩,fun af=>(by simp at af)⟩
 have KN:s.len=wl.length:=by
   have:=zh.own.1
   rw[od _ (C5 wl)] at this;omega
 have abD:wl.length=T.bl:=by
   have:=xE.length
   rw[←hm,mN] at this;exact this
 refine ⟨s,0,rfl,fun af=>⟨_,Bg,rQ.mono (by omega),rfl,rfl, .inr (.inl ⟨rfl,a7,?_, .cY q1⟩)⟩,fun af=> ?_⟩
 · have sq:wl.length=0:=by
     have:((s.len:Nat):Int)=0:=by simpa using af
     omega
   rcases ox with ⟨_,_,_,aI⟩|⟨lz,c_,kC,hG,kx,ov,nz,nA,bA,_⟩
   · rw[aI];rfl
   · rw[bA] at hm
     obtain ⟨aA,_⟩:=H2 hm
     omega
 have sq:0<wl.length:=by
   have:¬((s.len:Nat):Int)=0:=by simpa using af
   omega
 have e:IntKind.wrap .i64 (((s.len:Nat):Int)-1)=((wl.length-1:Nat):Int):=by rw[cE (by omega) (by omega)];omega
 obtain ⟨A,ax,_,_,_,hu⟩:=zh.at (i:=wl.length-1) (by omega)
 rcases ox with ⟨U,_⟩|⟨lz,c_,kC,hG,kx,ov,nz,nA,bA,bP,iq,kF,A5,Fy,Dq,Dr,za,A6,xz⟩
 · rw[U] at hm
   have:=congrArg List.length hm
   simp at this;omega
 have kD:=hm
 rw[bA] at kD
 obtain ⟨aA,aF⟩:=H2 kD
 rw[e,hF]
 generalize aoQ:(wl[wl.length-1]'(by omega))=u at hu aF
 obtain ⟨aoR,un,aoS,K,V,D⟩:=u
 obtain rfl:un=c_:=aF
 have pQ:=(dX.iM (.inl kF) (by have:=h.Fz _ _ iq;omega))
 have aoZ:Src 1 a5 aH (bg key):=ae.an rQ.an fun q J g9=>(so q J).2 (aX.lS g9)
 have uw:jZ L key=jZ un.gH key:=abH A6 (xz (fun L=>jH L key) (QT key))
 rw[abI kF] at uw
 refine ⟨A,ax,⟨by omega,by omega⟩,_,hu.bd,K,hu.bc,V,hu.a_,D,hu.gu,(yA (n:=un) hu.dZ kF (by omega) aoZ).use ?_⟩
 intro v c0 e9
 unfold G3 at e9
 by_cases aD:o6 un.keys key=true
 rotate_left
 · have aD:o6 un.keys key=false:=by simpa using aD
   rw[aD,if_neg (by simp)] at e9
   obtain ⟨rfl,pe⟩:=e9
   refine ⟨_,bX,bX,bX,false,rfl,cp (vs:=[.bool false, .slice none 0 0, .slice none 0 0, .slice none 0 0]) rfl fun oX K_ UE ao0=>⟨K_.dr rfl (lU (b:=rp.leaf) (K:=bX) (V:=bX) (D:=bX)),rfl,ec K_ (us:=hK rp bX bX bX) rfl rfl fun cK C9 UF Kq=>⟨fun _=> ?_,fun af=>(by cases af)⟩⟩⟩
   have su:Ext c0 cK:=Ext.e3 UE UF (cP _)
   have dC:=pe.trans su
   refine ⟨_,Bg.ext dC,(rQ.trans (cc.ext _ dC)).mono (by omega),rfl,rfl, .inr (.inl ⟨rfl,a7,?_, .cY q1⟩)⟩
   rw[uw,if_neg (by rw[aD];simp)]
 rw[if_pos aD] at e9
 obtain ⟨cV,c2,dh,rfl,ao1,pe⟩:=e9
 refine ⟨_,cV,c2,dh,true,rfl,cp (vs:=[.bool false, .slice none 0 0, .slice none 0 0, .slice none 0 0]) rfl fun oX K_ UE ao0=>⟨K_.dr rfl lU,rfl,ec K_ (us:=hK (yw un key) cV c2 dh) rfl rfl fun cK C9 UF Kq=>⟨fun af=>(by cases af),fun _=> ?_⟩⟩⟩
 have su:Ext c0 cK:=Ext.e3 UE UF (cP _)
 have dC:=pe.trans su
 obtain ⟨d0,d1,d2,d3⟩:=cj C9
 obtain ⟨cl,cr,gq,tb,Ba⟩:=aoV kF aD
 have Uz:d_ un.keys key<un.keys.length:=(qs.1 (dU aD)).1
 have O6:d_ un.keys key<un.vals.length:=by rw[kF.len];exact Uz
 have La:jZ L key≠none:=by
   rw[uw,if_pos aD,g8 O6];simp
 have Fw:bt.D.cI≤900000000:=by
   have:bt.D.cI≤T.C.D.cI+2*T.bl:=rQ.cI
   omega
 have abh:=pe.size
 have Lb:b8 (fun q=>¬(T.cY bt T.P).M q) cK (yw un key) cV c2 dh:=(ao1.ext su).bw fun q _ J kD=>by have:=Bg.lt kD;omega
 have Uv:=abB (iy:=jH L key) (k:=key) (steps:=steps) (di:=un) (Bg.ext dC) eA dn jy aG Fw hm (zh.ext' dC fun q J=>J.2) Lb cl (.inr ⟨lz,kC,hG,kx,ov,nz,nA,bA,bP,fun s aj=>A5 s (Ba s aj),fun aj e=>by
   have n9:=Dq aj
   rw[e] at tb
   simp at tb;omega,za,by rw[cr];exact xz (fun L=>jH L key) (QT key),by have:=h.Fz _ _ iq;omega⟩)
 refine ⟨_,d0,cV,d1,c2,d2,dh,d3,Uv.use ?_⟩
 rintro v w' ⟨av,U,ad,ar,aI,aW⟩
 have b4:=((rQ.trans (cc.ext (T.cY bt T.P) dC)).trans ad).mono (l:=100) (by omega)
 have abz:fG (T.cY bt T.P)=fG T:=rfl
 have abA:(T.cY bt T.P).bl=T.bl:=rfl
 rcases aW with ⟨rfl,b5,im⟩|⟨rfl,b5,im,n9⟩|⟨rfl,b5,im,n9,ru,O2⟩
 · subst im
   exact ⟨2,rfl,_,U,b4,ar,aI, .inr (.inr (.inl ⟨rfl,a7,La,b5, .cY q1⟩))⟩
 · exact ⟨0,rfl,_,U,b4,ar,aI, .inr (.inr (.inr (.inl ⟨rfl,a7,La,b5,im,fun no dg=>⟨(n9 no dg).1,(n9 no dg).2.trans (q1 no)⟩⟩)))⟩
 · exact ⟨3,rfl,_,U,b4,ar,aI, .inr (.inr (.inr (.inr ⟨rfl,a7,fun al=>b5 (rQ.calm 60 (oe al (by omega))),(oW.cY q1).trans ⟨im,n9,ru,O2⟩ rfl⟩)))⟩
end
end Go.Proofs.YtplieiecebljmaaGreat
