/- Contracts of the functions that the statement reaches, and the plain laws over them; each theorem stands with its conditions. -/
import Derived.Laws.Small
import Derived.Test.YtplieiecebljmaaGreatBShad3
namespace Go.Proofs.YtplieiecebljmaaGreat
open Go b8
section
theorem aaY {B:Nat→Prop} {w:World} {s:ab} {ls:List Key} (h:bU B w s ls) (aB:ls.length≤100000):
   aP Tryz.prog F.A8 #[.slice s.a s.len s.cap] w (fun v w'=>∃au:ab,v= .slice au.a au.len au.cap∧bZ (fun q=>(B q∧q<w.heap.size)∨(w.heap.size≤q∧aQ au q)) w' au ls∧Ext w w'∧oX w au):=by
 have gh:=bU.len h
 obtain ⟨ts,aC,aG,aJ,aN,cX⟩:=h
 refine W.anP s w _ ?_
 delta W.A8 aF ai
 refine ⟨fun aR=> ?_,fun _=> ?_⟩
 · have aR:s.a=none:=by simpa using aR
   have b5:=aG.nil aR
   have:ls=[]:=List.eq_nil_of_length_eq_zero (by rw[←aC];have:=congrArg List.length b5;simpa using this)
   subst this
   exact ⟨⟨none,0,0⟩,rfl,bZ.none _ _, .refl _ _,fun k ae=>(rD k ae).elim⟩
 · obtain ⟨au,w',U,ad,aq,aK,aW,_⟩:=Hp.clone (ew:=ah.cJ) aG (N8 ts) (by omega)
   refine bN ⟨au,w',U,au,rfl,⟨ts,aC,ad,fun q J=>⟨.inr ⟨aW q J,J⟩,ad.lt q J⟩,fun i i1 i2=> ?_⟩,aK,aW⟩
   have a:=cX i i1 i2
   exact ⟨bH.bA (bH.ext (bH.bA (C:=fun q=>B q∧q<w.heap.size) a fun q J aa=>⟨aa,J⟩) aK) fun q _ aa=> .inl aa,fun k ae dW=>by have:=aW k dW;have:=(a.2.2 k ae).2;omega⟩
theorem xt.at {B:Nat→Prop} {w:World} {s:ab} {ks:List Key} {kids:List Nat} (h:xt B w s ks kids):s.len=kids.length∧kids.length=ks.length+1∧kids.length≤2∧∀ (j:Nat) (aZ:j<kids.length),∃ (A:Addr) (t:ab),s.a=some A∧w.cell? (A.add (j*2))=some (.slice t.a t.len t.cap)∧w.cell? ((A.add (j*2)).add 1)=some (.int .i64 ((kids[j]:Nat):Int))∧
   ((t.a=none∧ks.take j=ks.take (j-1))∨(t.a.isSome=true∧∃k,bH B w t k∧ks.take j=ks.take (j-1)++ [k])):=by
 rcases h with ⟨b,x,rfl,rfl,rfl,al,aa⟩|⟨b,x,y,k,t,rfl,rfl,rfl,al,aa,aU,ae⟩
 · refine ⟨rfl,rfl,by simp,fun j aZ=> ?_⟩
   have:j=0:=by simp at aZ;omega
   subst this
   exact ⟨_,⟨none,0,0⟩,rfl,by rw[aX];exact al.cell,by rw[aX,aX];exact al.cell, .inl ⟨rfl,rfl⟩⟩
 · refine ⟨rfl,rfl,by simp,fun j aZ=> ?_⟩
   rcases hJ j 1 with U|U
   · have:j=0:=by omega
     subst this
     exact ⟨_,⟨none,0,0⟩,rfl,by rw[aX];exact al.cell,by rw[aX,aX];exact al.cell, .inl ⟨rfl,rfl⟩⟩
   · have:j=1:=by simp at aZ;omega
     subst this
     obtain ⟨A,ay⟩:=bH.some aU ae
     exact ⟨_,t,rfl,by rw[aX];exact al.cell,by rw[aX,aX];exact al.cell, .inr ⟨by rw[ay];rfl,k,aU,rfl⟩⟩
theorem xt.ext {B:Nat→Prop} {w w':World} {s:ab} {ks:List Key} {kids:List Nat} (h:xt B w s ks kids) (af:Ext w w'):xt B w' s ks kids:=by
 rcases h with ⟨b,x,U,ad,aq,al,aa⟩|⟨b,x,y,k,t,U,ad,aq,al,aa,aU,ae⟩
 · exact .inl ⟨b,x,U,ad,aq,al.ext af,aa⟩
 · exact .inr ⟨b,x,y,k,t,U,ad,aq,al.ext af,aa,bH.ext aU af,ae⟩
theorem anQ {w:World} {bJ o:Nat} {vs:List Value} {S t:ab} {ls:List Key} {l:Key} {B:Nat→Prop} {T:TypeId} (al:Var w bJ vs T) (As:o<vs.length) (po:bZ B w S ls) (CR:¬B bJ)
   (aU:bH B w t l) (hd:∀k,aQ t k→¬aQ S k) (aD:ls.length≤100000) {K:World→Prop}
   (bq:∀ (w':World) (gQ:ab),Var w' bJ (vs.set o (.slice gQ.a gQ.len gQ.cap)) T→bZ (Grow B w w') w' gQ (ls++ [l])→ao (fun q=>q=bJ∨aQ S q) w w'→(∀k,aQ gQ k→aQ S k∨w.heap.size≤k)→K w'):
   az (w.alloc (.cells #[.slice t.a t.len t.cap] ah.cc)) fun fu=>∃c9:ab,∃eo:World,Sem.run Tryz.prog (Builtin.append_ #[ah.cJ,ah.cJ] ah.cJ #[.slice S.a S.len S.cap, .slice (some ⟨w.heap.size,0,none⟩) 1 1]) fu= .ok (.slice c9.a c9.len c9.cap) eo∧
     (∃u:Value,eo.cell? (Addr.add ⟨bJ,0,none⟩ o)=some u)∧eo.frozen? (Addr.add ⟨bJ,0,none⟩ o)=false∧az (eo.setCell (Addr.add ⟨bJ,0,none⟩ o) (.slice c9.a c9.len c9.cap)) fun eO=>K eO:=by
 have Au:=bZ.bA (C:=fun q=>B q∨w.heap.size≤q) po fun k _ h=> .inl h
 have nQ:=bH.bA (C:=fun q=>B q∨w.heap.size≤q) aU fun k _ h=> .inl h
 obtain ⟨au,w',aC,aG,aJ,aN⟩:=Su Au nQ hd (by omega) fun k ae=> .inr ae
 have k0:=al.lt
 have J8:¬aQ S bJ:=fun h=>by
   obtain ⟨ts,_,_,aq,_⟩:=po
   exact CR (aq bJ h).1
 have qU:=al.an aJ J8
 obtain ⟨bm,bj⟩:=kc qU As
 refine bN ⟨au,w',aC,?_⟩
 rw[aX,gJ]
 have ak:=iV w' bJ o (.slice au.a au.len au.cap)
 refine ⟨bm,bj,bN (bq _ au (j_ qU _) ?_ ?_ aN)⟩
 · have aW:=bZ.bA (C:=Grow B w (w'.setCell ⟨bJ,o,none⟩ (.slice au.a au.len au.cap))) aG fun k ae h=>by
     rcases h with h|h
     · exact .inl h
     · exact .inr ⟨h,ly ae ak.size⟩
   refine bZ.an aW ak fun k ae e=> ?_
   subst e
   rcases ae with h|h
   · exact CR h
   · omega
 · exact (aJ.mono fun k _ ae=> .inr ae).trans (ak.mono fun k _ ae=> .inl ae)
def Pg (B:Nat→Prop) (n:aO) (fr to:Nat) (ks:List Key) (kids:List Nat) (w:World) (v:Value) (w':World):Prop:=
 ∃K V D:ab,v=fg (mn n fr to ks kids) K V D∧ck (fun q=>B q∨w.heap.size≤q) w' (mn n fr to ks kids) K V D∧Ext w w'
def TY (bJ aL nA:Nat) (l:ab) (to:Int) (fx:World) (Q:Value→World→Prop):Prop:=
 ∃ (FO:Int→World→Prop) (La:Int→World→Nat),FO 0 fx∧∀ (n19:Int) (cC:World),FO n19 cC→((decide ((n19:Int)<((l.len:Nat):Int)))=true→∃kz:Addr,l.a=some kz∧((0:Int)≤n19∧n19<((l.len:Nat):Int))∧∃f_:ab,cC.cell? (kz.add (Int.toNat n19*2))=some (.slice f_.a f_.len f_.cap)∧∃n23:Int,cC.cell? ((kz.add (Int.toNat n19*2)).add 1)=some (.int .i64 n23)∧az (cC.alloc (.cells #[.slice none 0 0, .int .i64 0] ah.vC)) fun cI=>cT cI ⟨cC.heap.size,0,none⟩ [.slice f_.a f_.len f_.cap, .int .i64 n23]∧(2:Nat)=2∧az (setCells cI ⟨cC.heap.size,0,none⟩ 0 [.slice f_.a f_.len f_.cap, .int .i64 n23]) fun fM=>de (fun DK:World→Prop=>∃dd:ab,fM.cell? ⟨cC.heap.size,0,none⟩=some (.slice dd.a dd.len dd.cap)∧((!(Option.isNone dd.a))=true→∃e9:ab,fM.cell? (Addr.add ⟨aL,0,none⟩ 1)=some (.slice e9.a e9.len e9.cap)∧∃iQ:ab,fM.cell? ⟨cC.heap.size,0,none⟩=some (.slice iQ.a iQ.len iQ.cap)∧az (fM.alloc (.cells #[.slice iQ.a iQ.len iQ.cap] ah.cc)) fun fN=>∃ic:ab,∃m6:World,Sem.run Tryz.prog (Builtin.append_ #[ah.cJ,ah.cJ] ah.cJ #[.slice e9.a e9.len e9.cap, .slice (some ⟨fM.heap.size,0,none⟩) 1 1]) fN= .ok (.slice ic.a ic.len ic.cap) m6∧(∃u:Value,m6.cell? (Addr.add ⟨aL,0,none⟩ 1)=some u)∧m6.frozen? (Addr.add ⟨aL,0,none⟩ 1)=false∧az (m6.setCell (Addr.add ⟨aL,0,none⟩ 1) (.slice ic.a ic.len ic.cap)) fun eo=>DK eo)∧((!(Option.isNone dd.a))=false→DK fM)) (fun (eO:World)=>∃ga:ab,eO.cell? (Addr.add ⟨aL,0,none⟩ 3)=some (.slice ga.a ga.len ga.cap)∧∃n36:Int,eO.cell? (Addr.add ⟨cC.heap.size,0,none⟩ 1)=some (.int .i64 n36)∧az (eO.alloc (.cells #[.int .i64 n36] ah.int)) fun lr=>∃eE:ab,∃mx:World,Sem.run Tryz.prog (Builtin.append_ #[ah.eY,ah.eY] ah.eY #[.slice ga.a ga.len ga.cap, .slice (some ⟨eO.heap.size,0,none⟩) 1 1]) lr= .ok (.slice eE.a eE.len eE.cap) mx∧(∃u:Value,mx.cell? (Addr.add ⟨aL,0,none⟩ 3)=some u)∧mx.frozen? (Addr.add ⟨aL,0,none⟩ 3)=false∧az (mx.setCell (Addr.add ⟨aL,0,none⟩ 3) (.slice eE.a eE.len eE.cap)) fun ux=>FO (IntKind.wrap .i64 (n19+1)) ux∧La (IntKind.wrap .i64 (n19+1)) ux<La n19 cC))∧((decide ((n19:Int)<((l.len:Nat):Int)))=false→az (cC.drew) fun ek=>¬False∧∃m7:ab,ek.cell? (Addr.add ⟨aL,0,none⟩ 1)=some (.slice m7.a m7.len m7.cap)∧¬False∧∃hW:ab,ek.cell? (Addr.add ⟨bJ,0,none⟩ 1)=some (.slice hW.a hW.len hW.cap)∧((0:Int)≤(IntKind.wrap .i64 (to-1))∧(IntKind.wrap .i64 (to-1))≤((hW.len:Nat):Int))∧∃iZ:ab,∃jW:World,Sem.run Tryz.prog (Builtin.append_ #[ah.cJ,ah.cJ] ah.cJ #[.slice m7.a m7.len m7.cap, .slice (bh hW.a 1 (Int.toNat (IntKind.wrap .i64 (to-1))) hW.cap) (hW.len-(Int.toNat (IntKind.wrap .i64 (to-1)))) (hW.cap-(Int.toNat (IntKind.wrap .i64 (to-1))))]) ek= .ok (.slice iZ.a iZ.len iZ.cap) jW∧(∃u:Value,jW.cell? (Addr.add ⟨aL,0,none⟩ 1)=some u)∧jW.frozen? (Addr.add ⟨aL,0,none⟩ 1)=false∧az (jW.setCell (Addr.add ⟨aL,0,none⟩ 1) (.slice iZ.a iZ.len iZ.cap)) fun hF=>az (hF.drew) fun dI=>¬False∧∃nB:ab,dI.cell? (Addr.add ⟨aL,0,none⟩ 3)=some (.slice nB.a nB.len nB.cap)∧¬False∧∃hO:ab,dI.cell? (Addr.add ⟨bJ,0,none⟩ 3)=some (.slice hO.a hO.len hO.cap)∧((0:Int)≤to∧to≤((hO.len:Nat):Int))∧∃gM:ab,∃me:World,Sem.run Tryz.prog (Builtin.append_ #[ah.eY,ah.eY] ah.eY #[.slice nB.a nB.len nB.cap, .slice (bh hO.a 1 (Int.toNat to) hO.cap) (hO.len-(Int.toNat to)) (hO.cap-(Int.toNat to))]) dI= .ok (.slice gM.a gM.len gM.cap) me∧(∃u:Value,me.cell? (Addr.add ⟨aL,0,none⟩ 3)=some u)∧me.frozen? (Addr.add ⟨aL,0,none⟩ 3)=false∧az (me.setCell (Addr.add ⟨aL,0,none⟩ 3) (.slice gM.a gM.len gM.cap)) fun my=>∃ti:Bool,my.cell? ⟨aL,0,none⟩=some (.bool ti)∧∃lK:ab,my.cell? (Addr.add ⟨aL,0,none⟩ 1)=some (.slice lK.a lK.len lK.cap)∧∃rP:ab,my.cell? (Addr.add ⟨aL,0,none⟩ 2)=some (.slice rP.a rP.len rP.cap)∧∃im:ab,my.cell? (Addr.add ⟨aL,0,none⟩ 3)=some (.slice im.a im.len im.cap)∧cT my ⟨nA,0,none⟩ [.bool ti, .slice lK.a lK.len lK.cap, .slice rP.a rP.len rP.cap, .slice im.a im.len im.cap]∧(4:Nat)=4∧az (setCells my ⟨nA,0,none⟩ 0 [.bool ti, .slice lK.a lK.len lK.cap, .slice rP.a rP.len rP.cap, .slice im.a im.len im.cap]) fun k4=>∃yT:Bool,k4.cell? ⟨nA,0,none⟩=some (.bool yT)∧∃iq:ab,k4.cell? (Addr.add ⟨nA,0,none⟩ 1)=some (.slice iq.a iq.len iq.cap)∧∃e7:ab,k4.cell? (Addr.add ⟨nA,0,none⟩ 2)=some (.slice e7.a e7.len e7.cap)∧∃jK:ab,k4.cell? (Addr.add ⟨nA,0,none⟩ 3)=some (.slice jK.a jK.len jK.cap)∧Q ( .agg #[.bool yT, .slice iq.a iq.len iq.cap, .slice e7.a e7.len e7.cap, .slice jK.a jK.len jK.cap]) k4)
structure H8 (B:Nat→Prop) (lo:Nat) (bJ aL nA:Nat) (n:aO) (K V D:ab) (vr:List Value) (w:World) (aT aH:ab) (cE ct:Nat→Prop) (ks:List Key) (ds:List Nat):Prop where
 l_:Var w bJ [.bool n.leaf, .slice K.a K.len K.cap, .slice V.a V.len V.cap, .slice D.a D.len D.cap] ah.cR
 r:Var w nA vr ah.cR
 o:Var w aL [.bool false, .slice aT.a aT.len aT.cap, .slice none 0 0, .slice aH.a aH.len aH.cap] ah.cR
 k:bZ cE w aT ks
 d:eJ ct w aH ds
 bW:∀q,cE q→(B q∧q<lo)∨(lo≤q∧q<w.heap.size∧q≠bJ∧q≠aL∧q≠nA∧¬ct q)
 bc:∀q,ct q→lo≤q∧q<w.heap.size∧q≠bJ∧q≠aL∧q≠nA
 A9:∀q,aQ aT q→lo≤q
theorem H8.ext {B:Nat→Prop} {lo bJ aL nA:Nat} {n:aO} {K V D:ab} {vr:List Value} {w w':World} {aT aH:ab} {cE ct:Nat→Prop} {ks:List Key} {ds:List Nat} (h:H8 B lo bJ aL nA n K V D vr w aT aH cE ct ks ds) (af:Ext w w'):H8 B lo bJ aL nA n K V D vr w' aT aH cE ct ks ds:=by
 have bF:=af.size
 exact ⟨h.l_.ext af,h.r.ext af,h.o.ext af,bZ.ext h.k af,eJ.ext h.d af,fun q J=>(h.bW q J).imp id fun h=>⟨h.1,by omega,h.2.2⟩,fun q J=>⟨(h.bc q J).1,by have:=(h.bc q J).2.1;omega,(h.bc q J).2.2⟩,h.A9⟩
theorem anR {B:Nat→Prop} {w fx:World} {bJ aL nA:Nat} {n:aO} {K V D s gI h6:ab} {vr:List Value} {cE ct:Nat→Prop} {ks:List Key} {kids:List Nat} {fr to:Nat} (hE:H8 B w.heap.size bJ aL nA n K V D vr fx gI h6 cE ct (n.keys.take fr) (n.kids.take fr)) (dO:Ext w fx)
   (aD:ck B w n K V D) (aB:xt B w s ks kids) (KI:vr.length=4) (U:w.heap.size≤bJ) (ad:w.heap.size≤aL) (aq:w.heap.size≤nA) (aK:bJ≠aL∧bJ≠nA∧aL≠nA) (t1:1≤to) (t2:to≤n.kids.length) (t3:to-1≤n.keys.length) (dc:n.keys.length≤1000) (c7:n.kids.length≤1000):
   TY bJ aL nA s (to:Nat) fx (Pg B n fr to ks kids w):=by
 obtain ⟨cq,cA,gl,p6⟩:=aB.at
 unfold TY
 refine ⟨fun i w'=>∃ (j:Nat) (aT aH:ab) (cE ct:Nat→Prop),i=j∧j≤kids.length∧Ext w w'∧H8 B w.heap.size bJ aL nA n K V D vr w' aT aH cE ct (n.keys.take fr++ks.take (j-1)) (n.kids.take fr++kids.take j),fun i _=>((kids.length:Int)-i).toNat,⟨0,gI,h6,cE,ct,rfl,fi _,dO,by simpa using hE⟩,?_⟩
 rintro _ cC ⟨j,aT,aH,cE,ct,rfl,aZ,o8,h⟩
 have O1:=o8.size
 refine ⟨fun a6=> ?_,fun cm=> ?_⟩
 · have a6:j<kids.length:=by
     have:((j:Nat):Int)<((s.len:Nat):Int):=dL a6
     omega
   obtain ⟨A,t,ay,bm,bj,qq⟩:=(aB.ext o8).at.2.2.2 j a6
   refine ⟨A,ay,⟨by omega,by omega⟩,t,by rw[g_];exact bm,_,by rw[g_];exact bj,?_⟩
   have qq:(t.a=none∧ks.take j=ks.take (j-1))∨(t.a.isSome=true∧∃k,bH (fun q=>B q∧q<w.heap.size) cC t k∧ks.take j=ks.take (j-1)++ [k]):=by
     obtain ⟨TZ,Fj,oH,Pe,_,iz⟩:=p6 j a6
     rw[ay] at oH;cases oH
     have e:=ao.cell o8 (fun h=>h) Pe
     rw[bm] at e
     injection e with e
     obtain rfl:t=Fj:=by
       cases t;cases Fj;simp at e;simp[e]
     rcases iz with h|⟨U,k,ad,aq⟩
     · exact .inl h
     · exact .inr ⟨U,k,bH.ext (bH.bA ad fun q J aa=>⟨aa,J⟩) o8,aq⟩
   refine cx (vs:=[.slice none 0 0, .int .i64 0]) rfl fun cI DI qs K8=> ?_
   refine ⟨DI.du rfl ?_,rfl,eg DI (us:=[.slice t.a t.len t.cap, .int .i64 ((kids[j]:Nat):Int)]) rfl rfl fun fM A4 anS ana=> ?_⟩
   · intro v al
     simp only[gg,ml,mm] at al
     rcases al with rfl|rfl<;>trivial
   have FM:Ext cC fM:=Ext.e_ qs anS (cP _)
   have py:=h.ext FM
   have av2:=FM.size
   have aaZ:=o8.trans FM
   obtain ⟨kB,Ph⟩:∃kB,kB=cC.heap.size:=⟨_,rfl⟩
   rw[←Ph] at A4⊢
   have av3:=A4.lt
   refine yB (fun eO=>∃ (c6:ab) (sZ:Nat→Prop),H8 B w.heap.size bJ aL nA n K V D vr eO c6 aH sZ ct (n.keys.take fr++ks.take j) (n.kids.take fr++kids.take j)∧Ext w eO∧Var eO kB [.slice t.a t.len t.cap, .int .i64 ((kids[j]:Nat):Int)] ah.vC∧fM.heap.size≤eO.heap.size) (fun q J=>⟨t,A4.cell,fun aa=> ?_,fun aa=> ?_⟩) ?_
   · rcases qq with ⟨aR,_⟩|⟨_,k,aU,tN⟩
     · rw[aR] at aa;cases aa
     obtain ⟨A_,jv,lF,xu⟩:=cu (V:=⟨none,0,0⟩) py.o
     have Pj:∀q,aQ aT q→cE q:=fun q J=>by
       obtain ⟨ts,_,_,aq,_⟩:=py.k
       exact (aq q J).1
     refine ⟨aT,jv,t,A4.cell,anQ (B:=fun q=>cE q∨(B q∧q<w.heap.size)) py.o (o:=1) (by simp) (bZ.bA py.k fun q _ aa=> .inl aa) (fun aa=> ?_) (bH.bA (bH.ext aU FM) fun q _ aa=> .inr aa) (fun q J ae=> ?_) ?_ fun w' gQ aC aG aJ aN=>J _ ⟨gQ,Grow (fun q=>cE q∨(B q∧q<w.heap.size)) fM w',?_,?_,?_,aJ.size⟩⟩
     · rcases aa with aa|aa
       · rcases py.bW _ aa with aW|aW
         · omega
         · exact aW.2.2.2.1 rfl
       · omega
     · have:=(aU.2.2 q J).1.2
       have:=py.A9 q ae
       omega
     · rw[eC,ee,ee];omega
     · have H9:=aJ.size
       have Ba:∀q,aQ aT q→q<cC.heap.size∧q≠bJ∧q≠aL∧q≠nA∧¬ct q:=fun q J=>by
         have b7:=h.A9 q J
         rcases h.bW q (Pj q J) with aW|aW
         · omega
         · exact aW.2
       refine ⟨py.l_.an aJ fun J=> ?_,py.r.an aJ fun J=> ?_,aC,?_,eJ.an py.d aJ fun q aa J=> ?_,fun q aa=> ?_,fun q aa=>⟨(py.bc q aa).1,by have:=(py.bc q aa).2.1;omega,(py.bc q aa).2.2⟩,fun q J=> ?_⟩
       · rcases J with e|J
         · exact aK.1 e
         · exact (Ba _ J).2.1 rfl
       · rcases J with e|J
         · exact aK.2.2 e.symm
         · exact (Ba _ J).2.2.2.1 rfl
       · rw[tN,←eF];exact aG
       · rcases J with e|J
         · exact (py.bc q aa).2.2.2.1 e
         · exact (Ba q J).2.2.2.2 aa
       · rcases aa with (aa|aa)|aa
         · exact (py.bW q aa).imp id fun aW=>⟨aW.1,by omega,aW.2.2⟩
         · exact .inl aa
         · refine .inr ⟨by omega,aa.2,fun e=> ?_,fun e=> ?_,fun e=> ?_,fun hd=> ?_⟩
           · have:=py.l_.lt;omega
           · have:=py.o.lt;omega
           · have:=py.r.lt;omega
           · have:=(py.bc q hd).2.1;omega
       · rcases aN q J with aW|aW
         · exact h.A9 q aW
         · omega
     · exact Ext.gv aaZ aJ fun q J=>by
         rcases J with rfl|J
         · exact ad
         · exact py.A9 q J
     · refine A4.an aJ fun J=> ?_
       rcases J with e|J
       · have:=h.o.lt;omega
       · rcases h.bW _ (Pj _ J) with aW|aW<;>omega
   · rcases qq with ⟨_,tN⟩|⟨aR,_⟩
     · refine J _ ⟨aT,cE,?_,aaZ,A4,cP _⟩
       rw[tN];exact py
     · cases aa0:t.a with
       |none=>rw[aa0] at aR;cases aR
       |some A=>rw[aa0] at aa;cases aa
   rintro eO ⟨c6,sZ,o9,Pk,aa1,anL⟩
   have av4:=aa1.lt
   obtain ⟨A_,jv,lF,xu⟩:=cu (V:=⟨none,0,0⟩) o9.o
   have DL:∀q,aQ aH q→ct q:=fun q J=>(o9.d.2 q J).1
   have sw:∀q,sZ q→¬(q=aL∨aQ aH q):=fun q aa J=>by
     rcases o9.bW q aa with aW|aW
     · rcases J with e|J
       · omega
       · have:=(o9.bc q (DL q J)).1;omega
     · rcases J with e|J
       · exact aW.2.2.2.1 e
       · exact aW.2.2.2.2.2 (DL q J)
   have hw:IntKind.wrap .i64 ((j:Int)+1)=((j+1:Nat):Int):=by rw[cL (by omega) (by omega)];rfl
   refine ⟨aH,xu,_,by rw[aX];exact aa1.cell,(YP (W:=fun _=>True) kids[j] o9.o (o:=3) (by simp) o9.d (fun aa=>(o9.bc _ aa).2.2.2.1 rfl) (by rw[eC,ee,ee];omega) fun w' gQ aC aG aJ=>⟨⟨j+1,c6,gQ,sZ,Grow ct eO w',hw,by omega,?_,?_⟩,?_⟩).2⟩
   · exact Ext.gv Pk aJ fun q J=>by
       rcases J with rfl|J
       · exact ad
       · exact (o9.bc q (DL q J)).1
   · have H9:=aJ.size
     refine ⟨o9.l_.an aJ fun J=> ?_,o9.r.an aJ fun J=> ?_,aC,?_,?_,fun q aa=> ?_,fun q aa=> ?_,o9.A9⟩
     · rcases J with e|J
       · exact aK.1 e
       · exact (o9.bc _ (DL _ J)).2.2.1 rfl
     · rcases J with e|J
       · exact aK.2.2 e.symm
       · exact (o9.bc _ (DL _ J)).2.2.2.2 rfl
     · exact bZ.an o9.k aJ sw
     · rw[sL a6,←eF];exact aG
     · refine (o9.bW q aa).imp id fun aW=>⟨aW.1,by omega,aW.2.2.1,aW.2.2.2.1,aW.2.2.2.2.1,fun hd=> ?_⟩
       rcases hd with hd|hd
       · exact aW.2.2.2.2.2 hd
       · omega
     · rcases aa with aa|aa
       · exact ⟨(o9.bc q aa).1,by have:=(o9.bc q aa).2.1;omega,(o9.bc q aa).2.2⟩
       · refine ⟨by have:=Pk.size;omega,aa.2,fun e=> ?_,fun e=> ?_,fun e=> ?_⟩
         · have:=o9.l_.lt;omega
         · have:=o9.o.lt;omega
         · have:=o9.r.lt;omega
   · rw[hw]
     show ((kids.length:Int)-((j+1:Nat):Int)).toNat<((kids.length:Int)-(j:Int)).toNat
     omega
 · have cm:j=kids.length:=by
     have:¬((j:Nat):Int)<((s.len:Nat):Int):=fb cm
     omega
   subst cm
   have bB:Ext cC cC.drew:=ej _
   have h:=h.ext bB
   have o8:=o8.trans bB
   have tN:ks.take (kids.length-1)=ks:=hU (by omega)
   rw[tN,r9] at h
   obtain ⟨A_,jv,lF,xu⟩:=cu (V:=⟨none,0,0⟩) h.o
   obtain ⟨DM,mz,g3,DN⟩:=cu h.l_
   have aa2:ck (fun q=>B q∧q<w.heap.size) w n K V D:=aD.bA fun q J aa=>⟨aa,J⟩
   have T0:=aa2.ext o8
   have H_:=bU.len T0.keys
   have Lb:=dG.len T0.kids
   have aa3:IntKind.wrap .i64 ((to:Int)-1)=((to-1:Nat):Int):=by rw[cL (by omega) (by omega)];omega
   have Pj:∀q,aQ aT q→cE q:=fun q J=>by
     obtain ⟨ts,_,_,aq,_⟩:=h.k
     exact (aq q J).1
   have DL:∀q,aQ aH q→ct q:=fun q J=>(h.d.2 q J).1
   have aa4:=bU.sub T0.keys (lo:=to-1) (hi:=n.keys.length) t3 (cP _)
   have anT:(n.keys.drop (to-1)).take (n.keys.length-(to-1))=n.keys.drop (to-1):=hU (by rw[fF];exact cP _)
   rw[anT] at aa4
   obtain ⟨uy,jW,ba,bp,dM⟩:=SY h.k aa4 (fun q J ae=>by have:=h.A9 q ae;omega) (by rw[eC,ee];omega) (by rw[fF];omega)
   have w5:cC.drew.heap.size=cC.heap.size:=rfl
   have Ba:∀q,aQ aT q→q<cC.drew.heap.size∧q≠bJ∧q≠aL∧q≠nA∧¬ct q:=fun q J=>by
     have b7:=h.A9 q J
     rcases h.bW q (Pj q J) with aW|aW
     · omega
     · exact aW.2
   have av5:=dM.size
   have anU:Ext w jW:=Ext.gv o8 dM fun q J=>h.A9 q J
   have aa5:=h.o.an dM fun J=>(Ba _ J).2.2.1 rfl
   have anV:=h.l_.an dM fun J=>(Ba _ J).2.1 rfl
   have anW:=h.r.an dM fun J=>(Ba _ J).2.2.2.1 rfl
   have anX:eJ ct jW aH _:=eJ.an h.d dM fun q aa J=>(Ba q J).2.2.2.2 aa
   obtain ⟨dJ,eM⟩:=kc aa5 (i:=1) (by simp)
   refine bN ⟨id,aT,jv,id,K,mz,?_,uy,jW,?_,by rw[aX];exact dJ,by rw[aX];exact eM,?_⟩
   · rw[aa3,H_];omega
   · rw[aa3,g_,H_];exact ba
   rw[aX,gJ]
   have FP:=iV jW aL 1 (.slice uy.a uy.len uy.cap)
   have Lc:=j_ aa5 (i:=1) (.slice uy.a uy.len uy.cap)
   obtain ⟨hF,anY⟩:∃hF,hF=jW.setCell ⟨aL,1,none⟩ (.slice uy.a uy.len uy.cap):=⟨_,rfl⟩
   rw[←anY] at FP Lc⊢
   have anh:=FP.size
   have T1:=anV.an FP (fun e=>aK.1 e)
   have T2:=anW.an FP (fun e=>aK.2.2 e.symm)
   have T3:eJ ct hF aH _:=eJ.an anX FP fun q aa e=>(h.bc q aa).2.2.2.1 e
   have vE:Ext w hF:=Ext.e_ anU FP ad
   have mA:Ext hF hF.drew:=ej _
   have nR:∀q,(cE q∨(B q∧q<w.heap.size)∨cC.drew.heap.size≤q)→q≠aL:=fun q J e=>by
     subst e
     rcases J with J|J|J
     · rcases h.bW _ J with aW|aW
       · omega
       · exact aW.2.2.2.1 rfl
     · omega
     · have:=h.o.lt;omega
   have anZ:=bU.ext (bU.an bp FP nR) mA
   have Lc:=Lc.ext mA
   have T1:=T1.ext mA
   have T2:=T2.ext mA
   have T3:=eJ.ext T3 mA
   have vE:=vE.trans mA
   obtain ⟨A_,jv,lF,xu⟩:=cu (V:=⟨none,0,0⟩) Lc
   obtain ⟨DM,mz,g3,DN⟩:=cu T1
   have aa6:=dG.sub (aa2.ext vE).kids (lo:=to) (hi:=n.kids.length) t2 (cP _)
   have an0:(n.kids.drop to).take (n.kids.length-to)=n.kids.drop to:=hU (by rw[fF];exact cP _)
   rw[an0] at aa6
   obtain ⟨uz,me,f1,f2,f3⟩:=Zs T3 aa6 (by rw[eC,ee];omega) (by rw[fF];omega)
   have av6:hF.drew.heap.size=hF.heap.size:=rfl
   have av7:=f3.size
   have hL:∀q,aQ aH q→w.heap.size≤q∧q<cC.drew.heap.size∧q≠bJ∧q≠aL∧q≠nA:=fun q J=>h.bc q (DL q J)
   have an1:Ext w me:=Ext.gv vE f3 fun q J=>(hL q J).1
   have aa7:=Lc.an f3 fun J=>(hL _ J).2.2.2.1 rfl
   have an2:=T2.an f3 fun J=>(hL _ J).2.2.2.2 rfl
   have an3:=bU.an anZ f3 fun q aa J=>by
     have av8:=hL q J
     rcases aa with aa|aa|aa
     · rcases h.bW q aa with aW|aW
       · omega
       · exact aW.2.2.2.2.2 (DL q J)
     · omega
     · omega
   obtain ⟨dJ,eM⟩:=kc aa7 (i:=3) (by simp)
   refine bN (bN ⟨id,aH,xu,id,D,DN,?_,uz,me,?_,by rw[aX];exact dJ,by rw[aX];exact eM,?_⟩)
   · rw[Lb];omega
   · rw[g_,Lb];exact f1
   rw[aX,gJ]
   have Ia:=iV me aL 3 (.slice uz.a uz.len uz.cap)
   have aa8:=j_ aa7 (i:=3) (.slice uz.a uz.len uz.cap)
   obtain ⟨my,an4⟩:∃my,my=me.setCell ⟨aL,3,none⟩ (.slice uz.a uz.len uz.cap):=⟨_,rfl⟩
   rw[←an4] at Ia aa8⊢
   have av9:=Ia.size
   have an5:=an2.an Ia (fun e=>aK.2.2 e.symm)
   have an6:Ext w my:=Ext.e_ an1 Ia ad
   have an7:=bU.an an3 Ia nR
   have an8:=dG.an f2 Ia fun q aa e=>by
     subst e
     rcases aa with aa|aa|aa
     · exact (h.bc _ aa).2.2.2.1 rfl
     · omega
     · have:=h.o.lt;omega
   obtain ⟨A_,jv,lF,xu⟩:=cu (V:=⟨none,0,0⟩) aa8
   refine bN ⟨_,A_,uy,jv,⟨none,0,0⟩,lF,uz,xu,?_⟩
   refine rH false uy ⟨none,0,0⟩ uz an5 KI (Q:=fun b K V D aw=>Pg B n fr to ks kids w (.agg #[.bool b, .slice K.a K.len K.cap, .slice V.a V.len V.cap, .slice D.a D.len D.cap]) aw) fun k4 Dc=> ?_
   refine ⟨uy,⟨none,0,0⟩,uz,rfl,⟨?_,?_,?_⟩,Ext.e_ an6 Dc aq⟩
   · refine bU.bA (bU.an an7 Dc fun q aa e=> ?_) fun q _ aa=> ?_
     · subst e
       rcases aa with aa|aa|aa
       · rcases h.bW _ aa with aW|aW
         · omega
         · exact aW.2.2.2.2.1 rfl
       · omega
       · have:=h.r.lt;omega
     · rcases aa with aa|aa|aa
       · rcases h.bW _ aa with aW|aW
         · exact .inl aW.1
         · exact .inr aW.1
       · exact .inl aa.1
       · have:=o8.size;exact .inr (by omega)
   · exact bU.none _ _
   · refine dG.bA (dG.an an8 Dc fun q aa e=> ?_) fun q _ aa=> ?_
     · subst e
       rcases aa with aa|aa|aa
       · exact (h.bc _ aa).2.2.2.2 rfl
       · omega
       · have:=h.r.lt;omega
     · rcases aa with aa|aa|aa
       · exact .inr (h.bc _ aa).1
       · exact .inl aa.1
       · have:=vE.size;exact .inr (by omega)
end
section
theorem T4 (K D:ab) (w:World):Sem.run Tryz.prog (Instr.build ah.cR #[(1, .slice K.a K.len K.cap),(3, .slice D.a D.len D.cap)]) w= .ok (.agg #[.bool false, .slice K.a K.len K.cap, .slice none 0 0, .slice D.a D.len D.cap]) w:=by kernel_rfl
theorem ze {B:Nat→Prop} {w:World} {n:aO} {K V D s:ab} {ks:List Key} {kids:List Nat} {fr to:Nat} (aD:ck B w n K V D) (aB:xt B w s ks kids) (f1:fr≤n.keys.length) (f2:fr≤n.kids.length) (t1:1≤to) (t2:to≤n.kids.length) (t3:to-1≤n.keys.length) (dc:n.keys.length≤1000) (c7:n.kids.length≤1000):
   aP Tryz.prog F.ze #[fg n K V D, .int .i64 (fr:Nat), .int .i64 (to:Nat), .slice s.a s.len s.cap] w (Pg B n fr to ks kids w):=by
 refine W.an9 n.leaf K V D (fr:Nat) (to:Nat) s w _ ?_
 (delta W.ze dA ai ar dZ oy oI aF bc bD z4 OJ st aE bR Ov;dsimp only)
 refine cx (vs:=[.bool n.leaf, .slice K.a K.len K.cap, .slice V.a V.len V.cap, .slice D.a D.len D.cap]) rfl fun ag gx bK k_=> ?_
 refine cx (vs:=[.bool false, .slice none 0 0, .slice none 0 0, .slice none 0 0]) rfl fun aw fU cD mD=>bN ?_
 have bB:Ext aw aw.drew:=ej _
 have hY:=(bK.trans cD).trans bB
 obtain ⟨a8,nm⟩:∃a8,a8=aw.drew:=⟨_,rfl⟩
 have CN:a8.heap.size=aw.heap.size:=by rw[nm];rfl
 rw[←nm] at hY bB⊢
 have vj:=(gx.ext cD).ext bB
 have yH:=fU.ext bB
 obtain ⟨cK,bm,bj,bk⟩:=cu vj
 have ou:ck (fun q=>B q∧q<w.heap.size) a8 n K V D:=(aD.bA fun q J aa=>⟨aa,J⟩).ext hY
 have H_:=bU.len ou.keys
 have Lb:=dG.len ou.kids
 have av_:=bU.le ou.keys
 have an_:=ou.kids.2.1
 have T5:=bU.sub ou.keys (lo:=0) (hi:=fr) (fi _) f1
 have Pl:=dG.sub ou.kids (lo:=0) (hi:=fr) (fi _) f2
 rw[z8,G0] at T5 Pl
 have gX:Int.toNat ((fr:Nat):Int)-0=fr:=by rw[g_];rfl
 have fin:∀ (fx:World) (aL:Nat) (gI h6:ab),Ext a8 fx→Var fx aL [.bool false, .slice gI.a gI.len gI.cap, .slice none 0 0, .slice h6.a h6.len h6.cap] ah.cR→a8.heap.size≤aL→bZ (fun q=>(B q∧q<w.heap.size)∨(a8.heap.size≤q∧aQ gI q)) fx gI (n.keys.take fr)→bX 1 ah.int fx h6 (kY (n.kids.take fr))→
     (∀q,aQ gI q→a8.heap.size≤q∧q≠aL)→(∀q,aQ h6 q→a8.heap.size≤q∧q≠aL∧¬aQ gI q)→TY w.heap.size aL ag.heap.size s (to:Nat) fx (Pg B n fr to ks kids w):=by
   intro fx aL gI h6 af bG fl bq vi aa9 aa_
   have bF:=af.size
   have a6:∀q,aQ gI q→q<fx.heap.size:=fun q J=>by
     obtain ⟨ts,_,aK,_,_⟩:=bq
     exact aK.lt q J
   refine anR (cE:=fun q=>(B q∧q<w.heap.size)∨aQ gI q) (ct:=fun q=>aQ h6 q) ⟨vj.ext af,yH.ext af,bG,bZ.bA bq fun q _ aa=>aa.imp id fun h=>h.2,⟨vi,fun q J=>⟨J,bX.lt vi q J⟩⟩,fun q aa=> ?_,fun q aa=> ?_,fun q J=>by have:=(aa9 q J).1;omega⟩ (hY.trans af) aD aB rfl (cP _) (by omega) (by omega) ⟨by omega,by omega,by omega⟩ t1 t2 t3 dc c7
   · rcases aa with aa|aa
     · exact .inl aa
     · have aW:=aa9 q aa
       exact .inr ⟨by omega,a6 q aa,by omega,aW.2,by omega,fun b7=>(aa_ q b7).2.2 aa⟩
   · have aW:=aa_ q aa
     exact ⟨by omega,bX.lt vi q aa,by omega,aW.2.1,by omega⟩
 refine ⟨fun _=>False,id,K,bm,⟨by omega,by omega⟩,id,D,bk,⟨by omega,by omega⟩,?_,?_⟩
 · rw[gX]
   refine (aaY T5 (by rw[ee];omega)).use ?_
   rintro _ aS ⟨gI,rfl,FQ,eW,yu⟩
   have CZ:=eW.size
   refine ⟨gI,rfl,eW,?_,?_⟩
   · refine (Kk (Pl.1.ext eW) (by rw[ee];omega)).use ?_
     rintro _ b3 ⟨h6,rfl,Ib,j9,aba⟩
     have Oz:=j9.size
     refine ⟨h6,rfl,j9,_,T4 gI h6,cx (vs:=[.bool false, .slice none 0 0, .slice none 0 0, .slice none 0 0]) rfl fun ep abb uA aoa=>⟨uA,abb.du rfl (mc (b:=false) (K:=gI) (V:=⟨none,0,0⟩) (D:=h6)),rfl,eg abb (us:=[.bool false, .slice gI.a gI.len gI.cap, .slice none 0 0, .slice h6.a h6.len h6.cap]) rfl rfl fun cZ Ld qX Pm=> ?_⟩⟩
     have oJ:Ext b3 cZ:=Ext.e_ uA qX (cP _)
     have fy:∀q,aQ gI q→q<aS.heap.size:=fun q J=>by
       obtain ⟨ts,_,aK,_,_⟩:=FQ
       exact aK.lt q J
     exact fin cZ b3.heap.size gI h6 (eW.trans (j9.trans oJ)) Ld (by omega) (bZ.bA (bZ.ext FQ (j9.trans oJ)) fun q _ aa=>aa.imp (fun h=>h.1) id) (Ib.ext oJ) (fun q J=>⟨yu q J,by have:=fy q J;omega⟩) fun q J=>⟨by have:=aba q J;omega,by have:=bX.lt Ib q J;omega,fun h=>by have:=fy q h;have:=aba q J;omega⟩
   · refine cx (vs:=[.bool false, .slice none 0 0, .slice none 0 0, .slice none 0 0]) rfl fun gz T6 DO aob=>⟨DO,(Kk ((Pl.1.ext eW).ext DO) (by rw[ee];omega)).use ?_⟩
     rintro _ dg ⟨h6,rfl,Ib,DP,Bb⟩
     have FR:=T6.ext DP
     refine ⟨h6,rfl,DP,_,T4 gI h6,FR.du rfl (mc (b:=false) (K:=gI) (V:=⟨none,0,0⟩) (D:=h6)),rfl,eg FR (us:=[.bool false, .slice gI.a gI.len gI.cap, .slice none 0 0, .slice h6.a h6.len h6.cap]) rfl rfl fun cZ Ld qX Pm=> ?_⟩
     have oJ:Ext aS cZ:=Ext.e_ (DO.trans DP) qX (cP _)
     have fy:∀q,aQ gI q→q<aS.heap.size:=fun q J=>by
       obtain ⟨ts,_,aK,_,_⟩:=FQ
       exact aK.lt q J
     exact fin cZ aS.heap.size gI h6 (eW.trans oJ) Ld (by omega) (bZ.bA (bZ.ext FQ oJ) fun q _ aa=>aa.imp (fun h=>h.1) id) (Ib.an qX fun q J e=>by have:=Bb q J;omega) (fun q J=>⟨yu q J,by have:=fy q J;omega⟩) fun q J=>⟨by have:=Bb q J;omega,by have:=Bb q J;omega,fun h=>by have:=fy q h;have:=Bb q J;omega⟩
 · rw[gX]
   refine cx (vs:=[.bool false, .slice none 0 0, .slice none 0 0, .slice none 0 0]) rfl fun gz T6 DO aob=>⟨DO,(aaY (bU.ext T5 DO) (by rw[ee];omega)).use ?_⟩
   rintro _ aS ⟨gI,rfl,FQ,eW,yu⟩
   have CZ:=eW.size
   refine ⟨gI,rfl,eW,(Kk ((Pl.1.ext DO).ext eW) (by rw[ee];omega)).use ?_⟩
   rintro _ dg ⟨h6,rfl,Ib,DP,Bb⟩
   have FR:=(T6.ext eW).ext DP
   refine ⟨h6,rfl,DP,_,T4 gI h6,FR.du rfl (mc (b:=false) (K:=gI) (V:=⟨none,0,0⟩) (D:=h6)),rfl,eg FR (us:=[.bool false, .slice gI.a gI.len gI.cap, .slice none 0 0, .slice h6.a h6.len h6.cap]) rfl rfl fun cZ Ld qX Pm=> ?_⟩
   have oJ:Ext a8 cZ:=Ext.e_ ((DO.trans eW).trans DP) qX (cP _)
   have fy:∀q,aQ gI q→q<aS.heap.size:=fun q J=>by
     obtain ⟨ts,_,aK,_,_⟩:=FQ
     exact aK.lt q J
   have aoc:bZ (fun q=>(B q∧q<w.heap.size)∨(a8.heap.size≤q∧aQ gI q)) cZ gI (n.keys.take fr):=by
     have aW:=bZ.bA (C:=fun q=>(B q∧q<w.heap.size)∨(gz.heap.size≤q∧aQ gI q)) (bZ.ext FQ DP) fun q _ aa=>aa.imp (fun h=>h.1) id
     exact bZ.bA (bZ.an aW qX fun q aa e=>by rcases aa with aa|aa<;>omega) fun q _ aa=>aa.imp id fun h=>⟨by omega,h.2⟩
   exact fin cZ a8.heap.size gI h6 oJ Ld (cP _) aoc (Ib.an qX fun q J e=>by have:=Bb q J;omega) (fun q J=>⟨by have:=yu q J;omega,by have:=yu q J;omega⟩) fun q J=>⟨by have:=Bb q J;omega,by have:=Bb q J;omega,fun h=>by have:=fy q h;have:=Bb q J;omega⟩
end
section
def zf (n:aO):Prop:=ei n∧cr n≤400∧(232<cr n→1≤dm n∧(if n.leaf then dm n≤n.keys.length-1∧1≤n.keys.length-1 else dm n≤n.keys.length-2∧1≤n.keys.length-2)∧cr (n.left (dm n))≤232∧cr (n.right (dm n))≤232)
structure zg (B:Nat→Prop) (w:World) (A:Addr) (u:gH):Prop where
 bm:w.cell? (A.add 1)=some (.bool u.n.leaf)
 bj:w.cell? ((A.add 1).add 1)=some (.slice u.K.a u.K.len u.K.cap)
 bk:w.cell? ((A.add 1).add 2)=some (.slice u.V.a u.V.len u.V.cap)
 gE:w.cell? ((A.add 1).add 3)=some (.slice u.D.a u.D.len u.D.cap)
 dQ:w.cell? (A.add 5)=some (.int .i64 (u.e1:Nat))
 e0:ck B w u.n u.K u.V u.D
 c1:B A.block
 lt:A.block<w.heap.size
theorem zg.ext {B:Nat→Prop} {w w':World} {A:Addr} {u:gH} (h:zg B w A u) (af:Ext w w'):zg B w' A u:=
 ⟨ao.cell af (fun h=>h) h.bm,ao.cell af (fun h=>h) h.bj,ao.cell af (fun h=>h) h.bk,ao.cell af (fun h=>h) h.gE,ao.cell af (fun h=>h) h.dQ,h.e0.ext af,h.c1,ly h.lt af.size⟩
theorem zg.to {w w':World} {T av:bf} {k:Nat} {A:Addr} {u:gH} (h:zg (fun q=>¬T.M q) w A u) (aU:cp T av w w' k):zg (fun q=>¬av.M q) w' A u:=by
 have ak:=aU.an
 have j6:¬T.N A.block:=fun aD=>h.c1 (bf.mM aD)
 refine ⟨ao.cell ak (A:=A.add 1) j6 h.bm,ao.cell ak (A:=(A.add 1).add 1) j6 h.bj,ao.cell ak (A:=(A.add 1).add 2) j6 h.bk,ao.cell ak (A:=(A.add 1).add 3) j6 h.gE,ao.cell ak (A:=A.add 5) j6 h.dQ,?_,fun hm=> ?_,ly h.lt ak.size⟩
 · have U:=aU.e0 (lo:=0) (h.e0.bA fun q _ aa=>⟨fi _,aa⟩)
   exact U.bA fun q _ aa=>aa.2
 · rcases aU.fP _ hm with U|U
   · exact h.c1 U
   · have:=h.lt;omega
theorem p5.base {T:bf} {c:gK} {n:aO} {bI w w':World} {v:Value} (h:p5 T c n w v w') (af:Ext bI w):p5 T c n bI v w':=by
 obtain ⟨av,c',m,s,aC,aG,aJ,aN⟩:=h
 exact ⟨av,c',m,s,aC,((fZ.ext T c af).trans aG).mono (by omega),aJ,aN⟩
theorem p5.out {T:bf} {c:gK} {n:aO} {w w':World} {v:Value} (h:p5 T c n w v w'):∃ (s:ab) (e:Int),v= .tuple #[.slice s.a s.len s.cap, .int .i64 e]:=by
 obtain ⟨av,c',m,s,aC,aG,aJ,aN⟩:=h
 rcases aN with ⟨ks,rfl,_⟩|⟨rfl,_⟩
 · exact ⟨s,0,rfl⟩
 · exact ⟨s,3,rfl⟩
def T7 (bJ aL oK bv:Nat) (c up:Option Addr) (n31 n36:Int) (fx:World) (Q:Value→World→Prop):Prop:=
 de (fun DQ:World→Prop=>∃DR:Addr,up=some DR∧∃vF:Int,fx.cell? (DR.add 5)=some (.int .i64 vF)∧((decide ((n36:Int)>vF))=true→az (fx.drew) fun ie=>∃xv:Nat→Prop,¬xv (⟨bJ,0,none⟩:Addr).block∧∃q0:Bool,ie.cell? ⟨bJ,0,none⟩=some (.bool q0)∧∃iW:ab,ie.cell? (Addr.add ⟨bJ,0,none⟩ 1)=some (.slice iW.a iW.len iW.cap)∧∃g5:ab,ie.cell? (Addr.add ⟨bJ,0,none⟩ 2)=some (.slice g5.a g5.len g5.cap)∧∃g6:ab,ie.cell? (Addr.add ⟨bJ,0,none⟩ 3)=some (.slice g6.a g6.len g6.cap)∧¬xv (⟨aL,0,none⟩:Addr).block∧∃Bc:Bool,ie.cell? ⟨aL,0,none⟩=some (.bool Bc)∧∃iX:ab,ie.cell? (Addr.add ⟨aL,0,none⟩ 1)=some (.slice iX.a iX.len iX.cap)∧∃jr:ab,ie.cell? (Addr.add ⟨aL,0,none⟩ 2)=some (.slice jr.a jr.len jr.cap)∧∃ir:ab,ie.cell? (Addr.add ⟨aL,0,none⟩ 3)=some (.slice ir.a ir.len ir.cap)∧cT ie ⟨oK,0,none⟩ [.bool q0, .slice iW.a iW.len iW.cap, .slice g5.a g5.len g5.cap, .slice g6.a g6.len g6.cap]∧(4:Nat)=4∧az (setCells ie ⟨oK,0,none⟩ 0 [.bool q0, .slice iW.a iW.len iW.cap, .slice g5.a g5.len g5.cap, .slice g6.a g6.len g6.cap]) fun oL=>ao xv ie oL∧cT oL ⟨bv,0,none⟩ [.bool Bc, .slice iX.a iX.len iX.cap, .slice jr.a jr.len jr.cap, .slice ir.a ir.len ir.cap]∧(4:Nat)=4∧az (setCells oL ⟨bv,0,none⟩ 0 [.bool Bc, .slice iX.a iX.len iX.cap, .slice jr.a jr.len jr.cap, .slice ir.a ir.len ir.cap]) fun FT=>DQ FT)∧((decide ((n36:Int)>vF))=false→DQ fx)) (fun (k1:World)=>az (k1.drew) fun fS=>∃mO:Nat→Prop,¬mO (⟨oK,0,none⟩:Addr).block∧∃rQ:Bool,fS.cell? ⟨oK,0,none⟩=some (.bool rQ)∧∃js:ab,fS.cell? (Addr.add ⟨oK,0,none⟩ 1)=some (.slice js.a js.len js.cap)∧∃jy:ab,fS.cell? (Addr.add ⟨oK,0,none⟩ 2)=some (.slice jy.a jy.len jy.cap)∧∃gq:ab,fS.cell? (Addr.add ⟨oK,0,none⟩ 3)=some (.slice gq.a gq.len gq.cap)∧∃xw:Addr,up=some xw∧¬mO ((xw.add 1).add 1).block∧∃k2:ab,fS.cell? ((xw.add 1).add 1)=some (.slice k2.a k2.len k2.cap)∧∃xx:Addr,k2.a=some xx∧((0:Int)≤n31∧n31<((k2.len:Nat):Int))∧¬mO (xx.add (Int.toNat n31*1)).block∧∃mP:ab,fS.cell? (xx.add (Int.toNat n31*1))=some (.slice mP.a mP.len mP.cap)∧¬mO (⟨bv,0,none⟩:Addr).block∧∃zh:Bool,fS.cell? ⟨bv,0,none⟩=some (.bool zh)∧∃jt:ab,fS.cell? (Addr.add ⟨bv,0,none⟩ 1)=some (.slice jt.a jt.len jt.cap)∧∃ju:ab,fS.cell? (Addr.add ⟨bv,0,none⟩ 2)=some (.slice ju.a ju.len ju.cap)∧∃mQ:ab,fS.cell? (Addr.add ⟨bv,0,none⟩ 3)=some (.slice mQ.a mQ.len mQ.cap)∧(Calls Tryz.prog F.qn #[.agg #[.bool rQ, .slice js.a js.len js.cap, .slice jy.a jy.len jy.cap, .slice gq.a gq.len gq.cap], .slice mP.a mP.len mP.cap, .agg #[.bool zh, .slice jt.a jt.len jt.cap, .slice ju.a ju.len ju.cap, .slice mQ.a mQ.len mQ.cap]] fS fun T8 jL=>∃vG:Bool,∃ki:ab,∃mf:ab,∃mg:ab,∃xy:Bool,T8= .returned ( .tuple #[.agg #[.bool vG, .slice ki.a ki.len ki.cap, .slice mf.a mf.len mf.cap, .slice mg.a mg.len mg.cap], .bool xy])∧ao mO fS jL∧az (jL.alloc (.cells #[.bool false, .slice none 0 0, .slice none 0 0, .slice none 0 0] ah.cR)) fun qt=>ao mO jL qt∧cT qt ⟨jL.heap.size,0,none⟩ [.bool vG, .slice ki.a ki.len ki.cap, .slice mf.a mf.len mf.cap, .slice mg.a mg.len mg.cap]∧(4:Nat)=4∧az (setCells qt ⟨jL.heap.size,0,none⟩ 0 [.bool vG, .slice ki.a ki.len ki.cap, .slice mf.a mf.len mf.cap, .slice mg.a mg.len mg.cap]) fun mh=>((!xy)=true→Q (.tuple #[.slice none 0 0, .int .i64 0, .int .i64 0, .int .i64 4]) mh)∧((!xy)=false→∃FU:Bool,mh.cell? ⟨jL.heap.size,0,none⟩=some (.bool FU)∧∃o_:ab,mh.cell? (Addr.add ⟨jL.heap.size,0,none⟩ 1)=some (.slice o_.a o_.len o_.cap)∧∃pz:ab,mh.cell? (Addr.add ⟨jL.heap.size,0,none⟩ 2)=some (.slice pz.a pz.len pz.cap)∧∃q9:ab,mh.cell? (Addr.add ⟨jL.heap.size,0,none⟩ 3)=some (.slice q9.a q9.len q9.cap)∧Calls Tryz.prog F.sx #[.pointer c, .agg #[.bool FU, .slice o_.a o_.len o_.cap, .slice pz.a pz.len pz.cap, .slice q9.a q9.len q9.cap]] mh fun T9 Le=>∃q_:ab,∃FV:Int,T9= .returned (.tuple #[.slice q_.a q_.len q_.cap, .int .i64 FV])∧Q ( .tuple #[.slice q_.a q_.len q_.cap, .int .i64 n31, .int .i64 (IntKind.wrap .i64 (n31+2)), .int .i64 FV]) Le))∧(az (fS.alloc (.cells #[.bool false, .slice none 0 0, .slice none 0 0, .slice none 0 0] ah.cR)) fun vH=>ao mO fS vH∧Calls Tryz.prog F.qn #[.agg #[.bool rQ, .slice js.a js.len js.cap, .slice jy.a jy.len jy.cap, .slice gq.a gq.len gq.cap], .slice mP.a mP.len mP.cap, .agg #[.bool zh, .slice jt.a jt.len jt.cap, .slice ju.a ju.len ju.cap, .slice mQ.a mQ.len mQ.cap]] vH fun T_ xz=>∃Bd:Bool,∃nC:ab,∃pb:ab,∃pc:ab,∃Be:Bool,T_= .returned ( .tuple #[.agg #[.bool Bd, .slice nC.a nC.len nC.cap, .slice pb.a pb.len pb.cap, .slice pc.a pc.len pc.cap], .bool Be])∧ao mO vH xz∧cT xz ⟨fS.heap.size,0,none⟩ [.bool Bd, .slice nC.a nC.len nC.cap, .slice pb.a pb.len pb.cap, .slice pc.a pc.len pc.cap]∧(4:Nat)=4∧az (setCells xz ⟨fS.heap.size,0,none⟩ 0 [.bool Bd, .slice nC.a nC.len nC.cap, .slice pb.a pb.len pb.cap, .slice pc.a pc.len pc.cap]) fun uB=>((!Be)=true→Q (.tuple #[.slice none 0 0, .int .i64 0, .int .i64 0, .int .i64 4]) uB)∧((!Be)=false→∃Lf:Bool,uB.cell? ⟨fS.heap.size,0,none⟩=some (.bool Lf)∧∃uC:ab,uB.cell? (Addr.add ⟨fS.heap.size,0,none⟩ 1)=some (.slice uC.a uC.len uC.cap)∧∃uD:ab,uB.cell? (Addr.add ⟨fS.heap.size,0,none⟩ 2)=some (.slice uD.a uD.len uD.cap)∧∃p7:ab,uB.cell? (Addr.add ⟨fS.heap.size,0,none⟩ 3)=some (.slice p7.a p7.len p7.cap)∧Calls Tryz.prog F.sx #[.pointer c, .agg #[.bool Lf, .slice uC.a uC.len uC.cap, .slice uD.a uD.len uD.cap, .slice p7.a p7.len p7.cap]] uB fun Ua Ub=>∃uE:ab,∃Lg:Int,Ua= .returned (.tuple #[.slice uE.a uE.len uE.cap, .int .i64 Lg])∧Q ( .tuple #[.slice uE.a uE.len uE.cap, .int .i64 n31, .int .i64 (IntKind.wrap .i64 (n31+2)), .int .i64 Lg]) Ub)))
theorem aod {Uc Ud:Nat→Prop} {bI fx:World} {T:bf} {c:gK} {bJ aL oK bv:Nat} {A:Addr} {u:gH} {n o:aO} {K V D mR mS Do:ab} {fr other:Nat} {Q:Value→World→Prop} (h:fY bI T c) (af:Ext bI fx) (k0:Var bI bJ (hX n K V D) ah.cR) (fl:Var bI aL (hX o mR mS Do) ah.cR)
   (abc:Var fx oK (hX o mR mS Do) ah.cR) (CW:Var fx bv (hX n K V D) ah.cR) (U:bI.heap.size≤oK) (ad:bI.heap.size≤bv) (aq:oK≠bv) (aD:ck Uc bI n K V D) (bG:ck Ud bI o mR mS Do) (hu:zg (fun q=>¬T.M q) bI A u)
   (gA:T.C.D.cl≤900000090) (jx:2≤fR T) (oh:c.made.length≤900) (Bf:ei n) (FW:ei o) (Pn:cr n≤400) (Ue:cr o≤400) (aB:o.leaf=n.leaf) (eR:fr<u.n.keys.length) (qq:eG u.n.keys[fr]) (m:aO) (hm:m=if u.e1<other then hC n u.n.keys[fr] o else hC o u.n.keys[fr] n) (jX:zf m) (oW:fr≤1000)
   (yA:∀ (s:ab) (e:Int) (w':World),p5 T c m bI (.tuple #[.slice s.a s.len s.cap, .int .i64 e]) w'→Q (.tuple #[.slice s.a s.len s.cap, .int .i64 (fr:Nat), .int .i64 ((fr+2:Nat):Int), .int .i64 e]) w'):
   T7 bJ aL oK bv (some ⟨c.dq,0,none⟩) (some A) (fr:Nat) (other:Nat) fx Q:=by
 have p2:=k0.lt
 have Fi:=fl.lt
 have bF:=af.size
 have fn:=Bf.jS (by omega)
 have awa:=FW.jS (by omega)
 unfold T7
 refine yB (fun k1=>∃ (a b:aO) (eU ez ef dS dT dU:ab) (OH OI:Nat→Prop),Ext bI k1∧Var k1 oK (hX a eU ez ef) ah.cR∧Var k1 bv (hX b dS dT dU) ah.cR∧ck OH bI a eU ez ef∧ck OI bI b dS dT dU∧m=hC a u.n.keys[fr] b∧ei a∧ei b∧a.leaf=b.leaf∧a.keys.length≤200∧b.keys.length≤200)
   (fun q J=>⟨A,rfl,_,(hu.ext af).dQ,fun aa=> ?_,fun aa=>J _ ⟨o,n,mR,mS,Do,K,V,D,Ud,Uc,af,abc,CW,bG,aD,?_,FW,Bf,aB,by omega,by omega⟩⟩) ?_
 · have aa:u.e1<other:=by
     have:((other:Nat):Int)>((u.e1:Nat):Int):=dL aa
     omega
   have bB:=af.trans (ej fx)
   obtain ⟨bM,dc,c7,bw⟩:=cu (k0.ext bB)
   obtain ⟨A_,jv,lF,xu⟩:=cu (fl.ext bB)
   have abd:=abc.drew
   have aoe:=CW.drew
   refine bN ⟨fun q=>q=oK,(show bJ≠oK by omega),_,bM,K,dc,V,c7,D,bw,(show aL≠oK by omega),_,A_,mR,jv,mS,lF,Do,xu,abd.du rfl mc,rfl,eg abd (us:=hX n K V D) rfl rfl fun oL aof Uf awb=> ?_⟩
   have abe:=aoe.an Uf (fun e=>aq e.symm)
   refine ⟨Uf,abe.du rfl mc,rfl,eg abe (us:=hX o mR mS Do) rfl rfl fun FT aog abf awc=> ?_⟩
   exact J _ ⟨n,o,K,V,D,mR,mS,Do,Uc,Ud,Ext.e_ (Ext.e_ bB Uf U) abf ad,aof.an abf aq,aog,aD,bG,by rw[hm,if_pos aa],Bf,FW,aB.symm,by omega,by omega⟩
 · have aa:¬u.e1<other:=by
     have:¬((other:Nat):Int)>((u.e1:Nat):Int):=fb aa
     omega
   rw[hm,if_neg aa]
 rintro k1 ⟨a,b,eU,ez,ef,dS,dT,dU,OH,OI,aoh,aR,aa,abg,abh,DS,nS,dV,o2,pS,fj⟩
 have bB:=aoh.trans (ej k1)
 have rR:=aR.drew
 have l2:=aa.drew
 obtain ⟨a0,a7,cQ,a3⟩:=cu rR
 obtain ⟨pw,c3,cG,eT⟩:=cu l2
 have Lh:=hu.ext bB
 obtain ⟨aoi,aI,aoj,xA,aok,l1,awd⟩:=bU.at Lh.e0.keys eR
 have vI:ei (hC a u.n.keys[fr] b):=by rw[←DS];exact jX.1
 have Li:=qn (abg.ext bB) (abh.ext bB) l1.1 (fun q J=>(l1.2.2 q J).2) (by have:=qq.2;omega) nS dV o2 vI (by omega) (by omega)
 rw[←DS] at Li
 have lJ:IntKind.wrap .i64 (((fr:Nat):Int)+2)=((fr+2:Nat):Int):=by rw[cL (by omega) (by omega)];rfl
 obtain ⟨wd,awe⟩:∃wd,wd=k1.drew:=⟨_,rfl⟩
 refine bN ⟨fun _=>False,id,_,a0,eU,a7,ez,cQ,ef,a3,A,rfl,id,u.K,Lh.bj,aoi,aoj,xA,id,aI,aok,id,_,pw,dS,c3,dT,cG,dU,eT,?_,?_⟩
 · refine Li.use ?_
   rintro _ jL ⟨FX,FY,FZ,rfl,Bg,tQ⟩
   refine ⟨_,FX,FY,FZ,true,rfl,tQ,cx (vs:=[.bool false, .slice none 0 0, .slice none 0 0, .slice none 0 0]) rfl fun qt abi abj awf=>⟨abj,abi.du rfl mc,rfl,eg abi (us:=hX m FX FY FZ) rfl rfl fun mh Ug Po aol=>⟨fun aa=>(by cases aa),fun _=> ?_⟩⟩⟩
   have Pp:Ext jL mh:=Ext.e_ abj Po (cP _)
   have dO:=(bB.trans tQ).trans Pp
   obtain ⟨pU,vJ,sy,ra⟩:=cu Ug
   refine ⟨_,pU,FX,vJ,FY,sy,FZ,ra,(Pf (h.ext dO) gA jx oh (Bg.ext Pp) jX.1 jX.2.1 jX.2.2).use ?_⟩
   intro v w' al
   obtain ⟨s,e,rfl⟩:=al.out
   rw[lJ]
   exact ⟨s,e,rfl,yA s e w' (al.base dO)⟩
 · refine cx (vs:=[.bool false, .slice none 0 0, .slice none 0 0, .slice none 0 0]) rfl fun vH aom Ic awg=>⟨Ic,?_⟩
   have Li:=qn ((abg.ext bB).ext Ic) ((abh.ext bB).ext Ic) (l1.1.ext Ic) (fun q J=>ly (l1.2.2 q J).2 Ic.size) (by have:=qq.2;omega) nS dV o2 vI (by omega) (by omega)
   rw[←DS] at Li
   refine Li.use ?_
   rintro _ xz ⟨FX,FY,FZ,rfl,Bg,tQ⟩
   have abk:=aom.ext tQ
   refine ⟨_,FX,FY,FZ,true,rfl,tQ,abk.du rfl mc,rfl,eg abk (us:=hX m FX FY FZ) rfl rfl fun mh Ug Po aol=>⟨fun aa=>(by cases aa),fun _=> ?_⟩⟩
   have Pp:Ext k1.drew mh:=Ext.e_ (Ic.trans tQ) Po (cP _)
   have dO:=bB.trans Pp
   have aon:=ck.an Bg Po fun q J e=>by omega
   obtain ⟨pU,vJ,sy,ra⟩:=cu Ug
   refine ⟨_,pU,FX,vJ,FY,sy,FZ,ra,(Pf (h.ext dO) gA jx oh aon jX.1 jX.2.1 jX.2.2).use ?_⟩
   intro v w' al
   obtain ⟨s,e,rfl⟩:=al.out
   rw[lJ]
   exact ⟨s,e,rfl,yA s e w' (al.base dO)⟩
end
section
theorem fZ.leave {T:bf} {c c':gK} {E G:Nat→Prop} {w w':World} {no:Nat} (h:cp T (T.dF E G) w w' 0) (gw:E=T.E) (ke:∀q,T.G q→G q) (U:c'.dq=c.dq) (ad:c'.made=c.made) (aq:c'.left=c.left++ [no]):fZ T (T.dF E G) c c' [] [no] w w' 0:=
 ⟨h,gw,ke,rfl,rfl,U,by rw[ad,lP],aq,JQ,fun _ h=>(by cases h),fun no=>by simp[bf.dF],fun _ _=>⟨rfl,rfl⟩,by simp[fR,bf.dF]⟩
def Uh (bJ aL:Nat) (c up:Option Addr) (n31 n36 n41 zi:Int) (fx:World) (Q:Value→World→Prop):Prop:=
 (((zi:Int) !=0)=true→Q (.tuple #[.slice none 0 0, .int .i64 0, .int .i64 0, .int .i64 zi]) fx)∧(((zi:Int) !=0)=false→∃Bh:Addr,c=some Bh∧∃p8:ab,fx.cell? (Bh.add 2)=some (.slice p8.a p8.len p8.cap)∧az (fx.alloc (.cells #[.int .i64 n41] ah.int)) fun uF=>∃iq:ab,∃tj:World,Sem.run Tryz.prog (Builtin.append_ #[ah.eY,ah.eY] ah.eY #[.slice p8.a p8.len p8.cap, .slice (some ⟨fx.heap.size,0,none⟩) 1 1]) uF= .ok (.slice iq.a iq.len iq.cap) tj∧∃rf:Addr,c=some rf∧(∃u:Value,tj.cell? (rf.add 2)=some u)∧tj.frozen? (rf.add 2)=false∧az (tj.setCell (rf.add 2) (.slice iq.a iq.len iq.cap)) fun gz=>az (gz.drew) fun dg=>∃oM:Nat→Prop,¬oM (⟨aL,0,none⟩:Addr).block∧∃uG:Bool,dg.cell? ⟨aL,0,none⟩=some (.bool uG)∧∃hM:ab,dg.cell? (Addr.add ⟨aL,0,none⟩ 1)=some (.slice hM.a hM.len hM.cap)∧∃gZ:ab,dg.cell? (Addr.add ⟨aL,0,none⟩ 2)=some (.slice gZ.a gZ.len gZ.cap)∧∃ig:ab,dg.cell? (Addr.add ⟨aL,0,none⟩ 3)=some (.slice ig.a ig.len ig.cap)∧¬oM (⟨bJ,0,none⟩:Addr).block∧∃uH:Bool,dg.cell? ⟨bJ,0,none⟩=some (.bool uH)∧∃gn:ab,dg.cell? (Addr.add ⟨bJ,0,none⟩ 1)=some (.slice gn.a gn.len gn.cap)∧∃fI:ab,dg.cell? (Addr.add ⟨bJ,0,none⟩ 2)=some (.slice fI.a fI.len fI.cap)∧∃gp:ab,dg.cell? (Addr.add ⟨bJ,0,none⟩ 3)=some (.slice gp.a gp.len gp.cap)∧(az (dg.alloc (.cells #[.bool false, .slice none 0 0, .slice none 0 0, .slice none 0 0] ah.cR)) fun gY=>ao oM dg gY∧az (gY.alloc (.cells #[.bool false, .slice none 0 0, .slice none 0 0, .slice none 0 0] ah.cR)) fun lE=>ao oM gY lE∧cT lE ⟨dg.heap.size,0,none⟩ [.bool uG, .slice hM.a hM.len hM.cap, .slice gZ.a gZ.len gZ.cap, .slice ig.a ig.len ig.cap]∧(4:Nat)=4∧az (setCells lE ⟨dg.heap.size,0,none⟩ 0 [.bool uG, .slice hM.a hM.len hM.cap, .slice gZ.a gZ.len gZ.cap, .slice ig.a ig.len ig.cap]) fun xB=>ao oM lE xB∧cT xB ⟨gY.heap.size,0,none⟩ [.bool uH, .slice gn.a gn.len gn.cap, .slice fI.a fI.len fI.cap, .slice gp.a gp.len gp.cap]∧(4:Nat)=4∧az (setCells xB ⟨gY.heap.size,0,none⟩ 0 [.bool uH, .slice gn.a gn.len gn.cap, .slice fI.a fI.len fI.cap, .slice gp.a gp.len gp.cap]) fun lj=>de (fun DQ:World→Prop=>∃DR:Addr,up=some DR∧∃vF:Int,lj.cell? (DR.add 5)=some (.int .i64 vF)∧((decide ((n36:Int)>vF))=true→az (lj.drew) fun ie=>∃xv:Nat→Prop,¬xv (⟨bJ,0,none⟩:Addr).block∧∃q0:Bool,ie.cell? ⟨bJ,0,none⟩=some (.bool q0)∧∃iW:ab,ie.cell? (Addr.add ⟨bJ,0,none⟩ 1)=some (.slice iW.a iW.len iW.cap)∧∃g5:ab,ie.cell? (Addr.add ⟨bJ,0,none⟩ 2)=some (.slice g5.a g5.len g5.cap)∧∃g6:ab,ie.cell? (Addr.add ⟨bJ,0,none⟩ 3)=some (.slice g6.a g6.len g6.cap)∧¬xv (⟨aL,0,none⟩:Addr).block∧∃Bc:Bool,ie.cell? ⟨aL,0,none⟩=some (.bool Bc)∧∃iX:ab,ie.cell? (Addr.add ⟨aL,0,none⟩ 1)=some (.slice iX.a iX.len iX.cap)∧∃jr:ab,ie.cell? (Addr.add ⟨aL,0,none⟩ 2)=some (.slice jr.a jr.len jr.cap)∧∃ir:ab,ie.cell? (Addr.add ⟨aL,0,none⟩ 3)=some (.slice ir.a ir.len ir.cap)∧cT ie ⟨dg.heap.size,0,none⟩ [.bool q0, .slice iW.a iW.len iW.cap, .slice g5.a g5.len g5.cap, .slice g6.a g6.len g6.cap]∧(4:Nat)=4∧az (setCells ie ⟨dg.heap.size,0,none⟩ 0 [.bool q0, .slice iW.a iW.len iW.cap, .slice g5.a g5.len g5.cap, .slice g6.a g6.len g6.cap]) fun oL=>ao xv ie oL∧cT oL ⟨gY.heap.size,0,none⟩ [.bool Bc, .slice iX.a iX.len iX.cap, .slice jr.a jr.len jr.cap, .slice ir.a ir.len ir.cap]∧(4:Nat)=4∧az (setCells oL ⟨gY.heap.size,0,none⟩ 0 [.bool Bc, .slice iX.a iX.len iX.cap, .slice jr.a jr.len jr.cap, .slice ir.a ir.len ir.cap]) fun FT=>DQ FT)∧((decide ((n36:Int)>vF))=false→DQ lj)) (fun (k1:World)=>az (k1.drew) fun fS=>∃mO:Nat→Prop,¬mO (⟨dg.heap.size,0,none⟩:Addr).block∧∃rQ:Bool,fS.cell? ⟨dg.heap.size,0,none⟩=some (.bool rQ)∧∃js:ab,fS.cell? (Addr.add ⟨dg.heap.size,0,none⟩ 1)=some (.slice js.a js.len js.cap)∧∃jy:ab,fS.cell? (Addr.add ⟨dg.heap.size,0,none⟩ 2)=some (.slice jy.a jy.len jy.cap)∧∃gq:ab,fS.cell? (Addr.add ⟨dg.heap.size,0,none⟩ 3)=some (.slice gq.a gq.len gq.cap)∧∃xw:Addr,up=some xw∧¬mO ((xw.add 1).add 1).block∧∃k2:ab,fS.cell? ((xw.add 1).add 1)=some (.slice k2.a k2.len k2.cap)∧∃xx:Addr,k2.a=some xx∧((0:Int)≤n31∧n31<((k2.len:Nat):Int))∧¬mO (xx.add (Int.toNat n31*1)).block∧∃mP:ab,fS.cell? (xx.add (Int.toNat n31*1))=some (.slice mP.a mP.len mP.cap)∧¬mO (⟨gY.heap.size,0,none⟩:Addr).block∧∃zh:Bool,fS.cell? ⟨gY.heap.size,0,none⟩=some (.bool zh)∧∃jt:ab,fS.cell? (Addr.add ⟨gY.heap.size,0,none⟩ 1)=some (.slice jt.a jt.len jt.cap)∧∃ju:ab,fS.cell? (Addr.add ⟨gY.heap.size,0,none⟩ 2)=some (.slice ju.a ju.len ju.cap)∧∃mQ:ab,fS.cell? (Addr.add ⟨gY.heap.size,0,none⟩ 3)=some (.slice mQ.a mQ.len mQ.cap)∧(Calls Tryz.prog F.qn #[.agg #[.bool rQ, .slice js.a js.len js.cap, .slice jy.a jy.len jy.cap, .slice gq.a gq.len gq.cap], .slice mP.a mP.len mP.cap, .agg #[.bool zh, .slice jt.a jt.len jt.cap, .slice ju.a ju.len ju.cap, .slice mQ.a mQ.len mQ.cap]] fS fun T8 jL=>∃vG:Bool,∃ki:ab,∃mf:ab,∃mg:ab,∃xy:Bool,T8= .returned ( .tuple #[.agg #[.bool vG, .slice ki.a ki.len ki.cap, .slice mf.a mf.len mf.cap, .slice mg.a mg.len mg.cap], .bool xy])∧ao mO fS jL∧az (jL.alloc (.cells #[.bool false, .slice none 0 0, .slice none 0 0, .slice none 0 0] ah.cR)) fun qt=>ao mO jL qt∧cT qt ⟨jL.heap.size,0,none⟩ [.bool vG, .slice ki.a ki.len ki.cap, .slice mf.a mf.len mf.cap, .slice mg.a mg.len mg.cap]∧(4:Nat)=4∧az (setCells qt ⟨jL.heap.size,0,none⟩ 0 [.bool vG, .slice ki.a ki.len ki.cap, .slice mf.a mf.len mf.cap, .slice mg.a mg.len mg.cap]) fun mh=>((!xy)=true→Q (.tuple #[.slice none 0 0, .int .i64 0, .int .i64 0, .int .i64 4]) mh)∧((!xy)=false→∃FU:Bool,mh.cell? ⟨jL.heap.size,0,none⟩=some (.bool FU)∧∃o_:ab,mh.cell? (Addr.add ⟨jL.heap.size,0,none⟩ 1)=some (.slice o_.a o_.len o_.cap)∧∃pz:ab,mh.cell? (Addr.add ⟨jL.heap.size,0,none⟩ 2)=some (.slice pz.a pz.len pz.cap)∧∃q9:ab,mh.cell? (Addr.add ⟨jL.heap.size,0,none⟩ 3)=some (.slice q9.a q9.len q9.cap)∧Calls Tryz.prog F.sx #[.pointer c, .agg #[.bool FU, .slice o_.a o_.len o_.cap, .slice pz.a pz.len pz.cap, .slice q9.a q9.len q9.cap]] mh fun T9 Le=>∃q_:ab,∃FV:Int,T9= .returned (.tuple #[.slice q_.a q_.len q_.cap, .int .i64 FV])∧Q ( .tuple #[.slice q_.a q_.len q_.cap, .int .i64 n31, .int .i64 (IntKind.wrap .i64 (n31+2)), .int .i64 FV]) Le))∧(az (fS.alloc (.cells #[.bool false, .slice none 0 0, .slice none 0 0, .slice none 0 0] ah.cR)) fun vH=>ao mO fS vH∧Calls Tryz.prog F.qn #[.agg #[.bool rQ, .slice js.a js.len js.cap, .slice jy.a jy.len jy.cap, .slice gq.a gq.len gq.cap], .slice mP.a mP.len mP.cap, .agg #[.bool zh, .slice jt.a jt.len jt.cap, .slice ju.a ju.len ju.cap, .slice mQ.a mQ.len mQ.cap]] vH fun T_ xz=>∃Bd:Bool,∃nC:ab,∃pb:ab,∃pc:ab,∃Be:Bool,T_= .returned ( .tuple #[.agg #[.bool Bd, .slice nC.a nC.len nC.cap, .slice pb.a pb.len pb.cap, .slice pc.a pc.len pc.cap], .bool Be])∧ao mO vH xz∧cT xz ⟨fS.heap.size,0,none⟩ [.bool Bd, .slice nC.a nC.len nC.cap, .slice pb.a pb.len pb.cap, .slice pc.a pc.len pc.cap]∧(4:Nat)=4∧az (setCells xz ⟨fS.heap.size,0,none⟩ 0 [.bool Bd, .slice nC.a nC.len nC.cap, .slice pb.a pb.len pb.cap, .slice pc.a pc.len pc.cap]) fun uB=>((!Be)=true→Q (.tuple #[.slice none 0 0, .int .i64 0, .int .i64 0, .int .i64 4]) uB)∧((!Be)=false→∃Lf:Bool,uB.cell? ⟨fS.heap.size,0,none⟩=some (.bool Lf)∧∃uC:ab,uB.cell? (Addr.add ⟨fS.heap.size,0,none⟩ 1)=some (.slice uC.a uC.len uC.cap)∧∃uD:ab,uB.cell? (Addr.add ⟨fS.heap.size,0,none⟩ 2)=some (.slice uD.a uD.len uD.cap)∧∃p7:ab,uB.cell? (Addr.add ⟨fS.heap.size,0,none⟩ 3)=some (.slice p7.a p7.len p7.cap)∧Calls Tryz.prog F.sx #[.pointer c, .agg #[.bool Lf, .slice uC.a uC.len uC.cap, .slice uD.a uD.len uD.cap, .slice p7.a p7.len p7.cap]] uB fun Ua Ub=>∃uE:ab,∃Lg:Int,Ua= .returned (.tuple #[.slice uE.a uE.len uE.cap, .int .i64 Lg])∧Q ( .tuple #[.slice uE.a uE.len uE.cap, .int .i64 n31, .int .i64 (IntKind.wrap .i64 (n31+2)), .int .i64 Lg]) Ub))))∧(az (dg.alloc (.cells #[.bool false, .slice none 0 0, .slice none 0 0, .slice none 0 0] ah.cR)) fun rh=>ao oM dg rh∧az (rh.alloc (.cells #[.bool false, .slice none 0 0, .slice none 0 0, .slice none 0 0] ah.cR)) fun F0=>ao oM rh F0∧cT F0 ⟨rh.heap.size,0,none⟩ [.bool uG, .slice hM.a hM.len hM.cap, .slice gZ.a gZ.len gZ.cap, .slice ig.a ig.len ig.cap]∧(4:Nat)=4∧az (setCells F0 ⟨rh.heap.size,0,none⟩ 0 [.bool uG, .slice hM.a hM.len hM.cap, .slice gZ.a gZ.len gZ.cap, .slice ig.a ig.len ig.cap]) fun Ui=>ao oM F0 Ui∧cT Ui ⟨dg.heap.size,0,none⟩ [.bool uH, .slice gn.a gn.len gn.cap, .slice fI.a fI.len fI.cap, .slice gp.a gp.len gp.cap]∧(4:Nat)=4∧az (setCells Ui ⟨dg.heap.size,0,none⟩ 0 [.bool uH, .slice gn.a gn.len gn.cap, .slice fI.a fI.len fI.cap, .slice gp.a gp.len gp.cap]) fun Uj=>de (fun abl:World→Prop=>∃abm:Addr,up=some abm∧∃Uk:Int,Uj.cell? (abm.add 5)=some (.int .i64 Uk)∧((decide ((n36:Int)>Uk))=true→az (Uj.drew) fun xC=>∃Ul:Nat→Prop,¬Ul (⟨bJ,0,none⟩:Addr).block∧∃Um:Bool,xC.cell? ⟨bJ,0,none⟩=some (.bool Um)∧∃Bi:ab,xC.cell? (Addr.add ⟨bJ,0,none⟩ 1)=some (.slice Bi.a Bi.len Bi.cap)∧∃Bj:ab,xC.cell? (Addr.add ⟨bJ,0,none⟩ 2)=some (.slice Bj.a Bj.len Bj.cap)∧∃Bk:ab,xC.cell? (Addr.add ⟨bJ,0,none⟩ 3)=some (.slice Bk.a Bk.len Bk.cap)∧¬Ul (⟨aL,0,none⟩:Addr).block∧∃Un:Bool,xC.cell? ⟨aL,0,none⟩=some (.bool Un)∧∃Bl:ab,xC.cell? (Addr.add ⟨aL,0,none⟩ 1)=some (.slice Bl.a Bl.len Bl.cap)∧∃Bm:ab,xC.cell? (Addr.add ⟨aL,0,none⟩ 2)=some (.slice Bm.a Bm.len Bm.cap)∧∃Bn:ab,xC.cell? (Addr.add ⟨aL,0,none⟩ 3)=some (.slice Bn.a Bn.len Bn.cap)∧cT xC ⟨rh.heap.size,0,none⟩ [.bool Um, .slice Bi.a Bi.len Bi.cap, .slice Bj.a Bj.len Bj.cap, .slice Bk.a Bk.len Bk.cap]∧(4:Nat)=4∧az (setCells xC ⟨rh.heap.size,0,none⟩ 0 [.bool Um, .slice Bi.a Bi.len Bi.cap, .slice Bj.a Bj.len Bj.cap, .slice Bk.a Bk.len Bk.cap]) fun Uo=>ao Ul xC Uo∧cT Uo ⟨dg.heap.size,0,none⟩ [.bool Un, .slice Bl.a Bl.len Bl.cap, .slice Bm.a Bm.len Bm.cap, .slice Bn.a Bn.len Bn.cap]∧(4:Nat)=4∧az (setCells Uo ⟨dg.heap.size,0,none⟩ 0 [.bool Un, .slice Bl.a Bl.len Bl.cap, .slice Bm.a Bm.len Bm.cap, .slice Bn.a Bn.len Bn.cap]) fun zj=>abl zj)∧((decide ((n36:Int)>Uk))=false→abl Uj)) (fun (Ie:World)=>az (Ie.drew) fun pA=>∃DT:Nat→Prop,¬DT (⟨rh.heap.size,0,none⟩:Addr).block∧∃Up:Bool,pA.cell? ⟨rh.heap.size,0,none⟩=some (.bool Up)∧∃rS:ab,pA.cell? (Addr.add ⟨rh.heap.size,0,none⟩ 1)=some (.slice rS.a rS.len rS.cap)∧∃rT:ab,pA.cell? (Addr.add ⟨rh.heap.size,0,none⟩ 2)=some (.slice rT.a rT.len rT.cap)∧∃Bo:ab,pA.cell? (Addr.add ⟨rh.heap.size,0,none⟩ 3)=some (.slice Bo.a Bo.len Bo.cap)∧∃Uq:Addr,up=some Uq∧¬DT ((Uq.add 1).add 1).block∧∃xD:ab,pA.cell? ((Uq.add 1).add 1)=some (.slice xD.a xD.len xD.cap)∧∃Ur:Addr,xD.a=some Ur∧((0:Int)≤n31∧n31<((xD.len:Nat):Int))∧¬DT (Ur.add (Int.toNat n31*1)).block∧∃Bp:ab,pA.cell? (Ur.add (Int.toNat n31*1))=some (.slice Bp.a Bp.len Bp.cap)∧¬DT (⟨dg.heap.size,0,none⟩:Addr).block∧∃Us:Bool,pA.cell? ⟨dg.heap.size,0,none⟩=some (.bool Us)∧∃Bq:ab,pA.cell? (Addr.add ⟨dg.heap.size,0,none⟩ 1)=some (.slice Bq.a Bq.len Bq.cap)∧∃Br:ab,pA.cell? (Addr.add ⟨dg.heap.size,0,none⟩ 2)=some (.slice Br.a Br.len Br.cap)∧∃Bs:ab,pA.cell? (Addr.add ⟨dg.heap.size,0,none⟩ 3)=some (.slice Bs.a Bs.len Bs.cap)∧(Calls Tryz.prog F.qn #[.agg #[.bool Up, .slice rS.a rS.len rS.cap, .slice rT.a rT.len rT.cap, .slice Bo.a Bo.len Bo.cap], .slice Bp.a Bp.len Bp.cap, .agg #[.bool Us, .slice Bq.a Bq.len Bq.cap, .slice Br.a Br.len Br.cap, .slice Bs.a Bs.len Bs.cap]] pA fun aoo Bt=>∃Ut:Bool,∃Bu:ab,∃Bv:ab,∃Bw:ab,∃Uu:Bool,aoo= .returned ( .tuple #[.agg #[.bool Ut, .slice Bu.a Bu.len Bu.cap, .slice Bv.a Bv.len Bv.cap, .slice Bw.a Bw.len Bw.cap], .bool Uu])∧ao DT pA Bt∧az (Bt.alloc (.cells #[.bool false, .slice none 0 0, .slice none 0 0, .slice none 0 0] ah.cR)) fun Uv=>ao DT Bt Uv∧cT Uv ⟨Bt.heap.size,0,none⟩ [.bool Ut, .slice Bu.a Bu.len Bu.cap, .slice Bv.a Bv.len Bv.cap, .slice Bw.a Bw.len Bw.cap]∧(4:Nat)=4∧az (setCells Uv ⟨Bt.heap.size,0,none⟩ 0 [.bool Ut, .slice Bu.a Bu.len Bu.cap, .slice Bv.a Bv.len Bv.cap, .slice Bw.a Bw.len Bw.cap]) fun Ig=>((!Uu)=true→Q (.tuple #[.slice none 0 0, .int .i64 0, .int .i64 0, .int .i64 4]) Ig)∧((!Uu)=false→∃abn:Bool,Ig.cell? ⟨Bt.heap.size,0,none⟩=some (.bool abn)∧∃Ih:ab,Ig.cell? (Addr.add ⟨Bt.heap.size,0,none⟩ 1)=some (.slice Ih.a Ih.len Ih.cap)∧∃Ii:ab,Ig.cell? (Addr.add ⟨Bt.heap.size,0,none⟩ 2)=some (.slice Ii.a Ii.len Ii.cap)∧∃Ij:ab,Ig.cell? (Addr.add ⟨Bt.heap.size,0,none⟩ 3)=some (.slice Ij.a Ij.len Ij.cap)∧Calls Tryz.prog F.sx #[.pointer c, .agg #[.bool abn, .slice Ih.a Ih.len Ih.cap, .slice Ii.a Ii.len Ii.cap, .slice Ij.a Ij.len Ij.cap]] Ig fun aop aoq=>∃Ik:ab,∃abo:Int,aop= .returned (.tuple #[.slice Ik.a Ik.len Ik.cap, .int .i64 abo])∧Q ( .tuple #[.slice Ik.a Ik.len Ik.cap, .int .i64 n31, .int .i64 (IntKind.wrap .i64 (n31+2)), .int .i64 abo]) aoq))∧(az (pA.alloc (.cells #[.bool false, .slice none 0 0, .slice none 0 0, .slice none 0 0] ah.cR)) fun Uw=>ao DT pA Uw∧Calls Tryz.prog F.qn #[.agg #[.bool Up, .slice rS.a rS.len rS.cap, .slice rT.a rT.len rT.cap, .slice Bo.a Bo.len Bo.cap], .slice Bp.a Bp.len Bp.cap, .agg #[.bool Us, .slice Bq.a Bq.len Bq.cap, .slice Br.a Br.len Br.cap, .slice Bs.a Bs.len Bs.cap]] Uw fun aor Ux=>∃Uy:Bool,∃Bx:ab,∃By:ab,∃rU:ab,∃Uz:Bool,aor= .returned ( .tuple #[.agg #[.bool Uy, .slice Bx.a Bx.len Bx.cap, .slice By.a By.len By.cap, .slice rU.a rU.len rU.cap], .bool Uz])∧ao DT Uw Ux∧cT Ux ⟨pA.heap.size,0,none⟩ [.bool Uy, .slice Bx.a Bx.len Bx.cap, .slice By.a By.len By.cap, .slice rU.a rU.len rU.cap]∧(4:Nat)=4∧az (setCells Ux ⟨pA.heap.size,0,none⟩ 0 [.bool Uy, .slice Bx.a Bx.len Bx.cap, .slice By.a By.len By.cap, .slice rU.a rU.len rU.cap]) fun Il=>((!Uz)=true→Q (.tuple #[.slice none 0 0, .int .i64 0, .int .i64 0, .int .i64 4]) Il)∧((!Uz)=false→∃abp:Bool,Il.cell? ⟨pA.heap.size,0,none⟩=some (.bool abp)∧∃Im:ab,Il.cell? (Addr.add ⟨pA.heap.size,0,none⟩ 1)=some (.slice Im.a Im.len Im.cap)∧∃Io:ab,Il.cell? (Addr.add ⟨pA.heap.size,0,none⟩ 2)=some (.slice Io.a Io.len Io.cap)∧∃Ip:ab,Il.cell? (Addr.add ⟨pA.heap.size,0,none⟩ 3)=some (.slice Ip.a Ip.len Ip.cap)∧Calls Tryz.prog F.sx #[.pointer c, .agg #[.bool abp, .slice Im.a Im.len Im.cap, .slice Io.a Io.len Io.cap, .slice Ip.a Ip.len Ip.cap]] Il fun aos aot=>∃zk:ab,∃abq:Int,aos= .returned (.tuple #[.slice zk.a zk.len zk.cap, .int .i64 abq])∧Q ( .tuple #[.slice zk.a zk.len zk.cap, .int .i64 n31, .int .i64 (IntKind.wrap .i64 (n31+2)), .int .i64 abq]) aot)))))
theorem aou {w:World} {T:bf} {c:gK} {bJ aL:Nat} {A:Addr} {u:gH} {n o:aO} {K V D mR mS Do:ab} {fr other no:Nat} {Q:Value→World→Prop} (h:fY w T c) (k0:Var w bJ (hX n K V D) ah.cR) (fl:Var w aL (hX o mR mS Do) ah.cR)
   (aov:¬T.M bJ) (aow:¬T.M aL) (aD:ck (fun q=>¬T.M q) w n K V D) (bG:ck (fun q=>¬T.M q) w o mR mS Do) (hu:zg (fun q=>¬T.M q) w A u)
   (gA:T.C.D.cl≤900000090) (jx:2≤fR T) (oh:c.made.length≤900) (Af:c.left.length≤900) (Bf:ei n) (FW:ei o) (Pn:cr n≤400) (Ue:cr o≤400) (aB:o.leaf=n.leaf) (eR:fr<u.n.keys.length) (qq:eG u.n.keys[fr]) (m:aO) (hm:m=if u.e1<other then hC n u.n.keys[fr] o else hC o u.n.keys[fr] n) (jX:zf m) (oW:fr≤1000)
   (yA:∀ (s:ab) (e:Int) (c2:bf) (bm:gK) (ag w':World),fZ T c2 c bm [] [no] w ag 0→p5 c2 bm m ag (.tuple #[.slice s.a s.len s.cap, .int .i64 e]) w'→Q (.tuple #[.slice s.a s.len s.cap, .int .i64 (fr:Nat), .int .i64 ((fr+2:Nat):Int), .int .i64 e]) w'):
   Uh bJ aL (some ⟨c.dq,0,none⟩) (some A) (fr:Nat) (other:Nat) (no:Nat) 0 w Q:=by
 unfold Uh
 refine ⟨fun aa=>(by cases aa),fun _=>⟨_,rfl,_,h.cells.2.2,?_⟩⟩
 obtain ⟨au,tj,aC,aG,aJ,aN,cX⟩:=aaF h no (by omega)
 refine bN ⟨au,tj,aC,_,rfl,by rw[aX];exact aJ,by rw[aX];exact aN,bN ?_⟩
 rw[aX]
 obtain ⟨gz,abr⟩:∃gz,gz=tj.setCell ⟨c.dq,0+2,none⟩ (.slice au.a au.len au.cap):=⟨_,rfl⟩
 rw[←abr]
 obtain ⟨abs,abt⟩:=cX gz abr
 have gL:=fZ.leave (c:=c) (c':={c with mb:=au,left:=c.left++ [no]}) (no:=no) abt rfl (fun q J=> .inl J) rfl rfl rfl
 obtain ⟨c2,nD⟩:∃c2,c2=T.dF T.E fun q=>T.G q∨aQ au q:=⟨_,rfl⟩
 obtain ⟨bm,gF⟩:∃bm:gK,bm={c with mb:=au,left:=c.left++ [no]}:=⟨_,rfl⟩
 have uv:bm.dq=c.dq:=by rw[gF]
 have Ay:bm.made=c.made:=by rw[gF]
 have FA:c2.C.D.cl≤900000090:=by rw[nD];exact gA
 have TX:2≤fR c2:=by rw[nD];exact jx
 rw[←nD,←gF] at abs gL
 rw[←nD] at abt
 have bB:Ext gz gz.drew:=ej _
 have abu:=abs.ext bB
 have UA:fZ T c2 c bm [] [no] w gz.drew 0:=gL.trans (fZ.ext c2 bm bB)
 obtain ⟨dg,aox⟩:∃dg,dg=gz.drew:=⟨_,rfl⟩
 rw[←aox] at bB abu UA⊢
 have bT:=UA.to
 have j6:∀q,¬T.M q→¬T.N q:=fun q U ad=>U (bf.mM ad)
 have UB:=k0.an bT.an (j6 _ aov)
 have UC:=fl.an bT.an (j6 _ aow)
 have abv:∀ {m:aO} {K V D:ab},ck (fun q=>¬T.M q) w m K V D→ck (fun q=>¬T.M q) dg m K V D:=fun hm=>ck.an hm bT.an fun q J=>j6 q J
 have aoy:=abv aD
 have FR:=abv bG
 have aoz:=hu.to bT
 obtain ⟨bM,dc,c7,bw⟩:=cu UB
 obtain ⟨A_,jv,lF,xu⟩:=cu UC
 have p2:=UB.lt
 have Fi:=UC.lt
 have fin:∀ (fx:World) (oK bv:Nat),Ext dg fx→Var fx oK (hX o mR mS Do) ah.cR→Var fx bv (hX n K V D) ah.cR→dg.heap.size≤oK→dg.heap.size≤bv→oK≠bv→T7 bJ aL oK bv (some ⟨c.dq,0,none⟩) (some A) (fr:Nat) (other:Nat) fx Q:=by
   intro fx oK bv af aR aa U ad aq
   have:=aod abu af UB UC aR aa U ad aq aoy FR aoz FA TX (by rw[Ay];exact oh) Bf FW Pn Ue aB eR qq m hm jX oW (Q:=Q) fun s e w' aA=>yA s e c2 bm dg w' UA aA
   rw[uv] at this
   exact this
 refine bN ⟨fun q=>dg.heap.size≤q,(show¬dg.heap.size≤aL by omega),_,A_,mR,jv,mS,lF,Do,xu,(show¬dg.heap.size≤bJ by omega),_,bM,K,dc,V,c7,D,bw,?_,?_⟩
 · refine cx (vs:=[.bool false, .slice none 0 0, .slice none 0 0, .slice none 0 0]) rfl fun gY aoA F1 aoB=>⟨ao.eN F1,cx (vs:=[.bool false, .slice none 0 0, .slice none 0 0, .slice none 0 0]) rfl fun lE UD F2 aoC=> ?_⟩
   have Lj:=aoA.ext F2
   refine ⟨ao.eN F2,Lj.du rfl mc,rfl,eg Lj (us:=hX o mR mS Do) rfl rfl fun xB UE F3 aoD=> ?_⟩
   have Lk:=UD.an F3 (by omega)
   have UF:Ext dg xB:=Ext.e_ (F1.trans F2) F3 (cP _)
   refine ⟨F3.mono fun q _ e=>by omega,Lk.du rfl mc,rfl,eg Lk (us:=hX n K V D) rfl rfl fun lj UG Ll aoE=> ?_⟩
   exact fin lj dg.heap.size gY.heap.size (Ext.e_ UF Ll (by omega)) (UE.an Ll (by omega)) UG (cP _) (by omega) (by omega)
 · refine cx (vs:=[.bool false, .slice none 0 0, .slice none 0 0, .slice none 0 0]) rfl fun gY aoF F1 aoB=>⟨ao.eN F1,cx (vs:=[.bool false, .slice none 0 0, .slice none 0 0, .slice none 0 0]) rfl fun lE Lj F2 aoC=> ?_⟩
   have UD:=aoF.ext F2
   refine ⟨ao.eN F2,Lj.du rfl mc,rfl,eg Lj (us:=hX o mR mS Do) rfl rfl fun xB UE F3 aoD=> ?_⟩
   have Lk:=UD.an F3 (by omega)
   have UF:Ext dg xB:=Ext.e_ (F1.trans F2) F3 (by omega)
   refine ⟨F3.mono fun q _ e=>by omega,Lk.du rfl mc,rfl,eg Lk (us:=hX n K V D) rfl rfl fun lj UG Ll aoE=> ?_⟩
   exact fin lj gY.heap.size dg.heap.size (Ext.e_ UF Ll (cP _)) (UE.an Ll (by omega)) UG (by omega) (cP _) (by omega)
theorem cp.read {w w':World} {T:bf} {E:Nat→Prop} {bd:dC} {P:Nat→Option aO} {k:Nat} (h:cp (T.dF E fun _=>False) ((T.dF E fun _=>False).cU bd P) w w' k) (gw:∀q,T.E q∨T.G q→E q) (wI:∀q,E q→T.E q∨T.G q∨w.heap.size≤q):cp T (T.cU bd P) w w' k:=by
 refine ⟨h.cB,h.dV,h.n,h.g,h.s1,h.s2,h.c,h.d,h.e5,h.gen,h.cl,h.calm,h.an.mono fun q _ J=> ?_,fun q J=> ?_,fun q J=> ?_⟩
 · rcases J with J|J|J|J
   · exact .inl J
   · exact .inr (.inl J)
   · exact .inr (.inr (.inl J))
   · exact J.elim
 · have U:((T.dF E fun _=>False).cU bd P).M q:=by
     rcases J with J|J|J|J
     · exact .inl J
     · exact .inr (.inl J)
     · exact .inr (.inr (.inl J))
     · exact .inr (.inr (.inr (.inl (gw q J))))
   rcases h.fP q U with ad|ad
   · rcases ad with J|J|J|J|J
     · exact .inl (.inl J)
     · exact .inl (.inr (.inl J))
     · exact .inl (.inr (.inr (.inl J)))
     · rcases wI q J with aq|aq|aq
       · exact .inl (.inr (.inr (.inr (.inl aq))))
       · exact .inl (.inr (.inr (.inr (.inr aq))))
       · exact .inr aq
     · exact J.elim
   · exact .inr ad
 · rcases J with J|J|J|J
   · rcases h.fn q (.inl J) with ad|ad
     · rcases ad with ad|ad|ad|ad
       · exact .inl (.inl ad)
       · exact .inl (.inr (.inl ad))
       · exact .inl (.inr (.inr (.inl ad)))
       · exact ad.elim
     · exact .inr ad
   · exact .inl (.inr (.inl J))
   · exact .inl (.inr (.inr (.inl J)))
   · exact .inl (.inr (.inr (.inr J)))
end
section
theorem fZ.cache {T:bf} {c:gK} {bd:dC} {w w':World} {k:Nat} (h:cp T (T.cU bd T.P) w w' k) (al:∀j,bd.view j=T.C.view j):fZ T (T.cU bd T.P) c c [] [] w w' k:=
 ⟨h,rfl,fun _ h=>h,rfl,rfl,rfl,by simp,by simp,JQ,fun _ h=>(by cases h),fun no=>by simp[bf.cU],fun no _=>⟨rfl,al no⟩,by simp[fR,bf.cU]⟩
theorem abw {w ag:World} {T:bf} {c:gK} {Z:Nat→Prop} {no:Nat} {o:aO} (h:fY w T c) (af:Ext w ag) (u3:∀q,Z q→w.heap.size≤q∧q<ag.heap.size) (gA:T.C.D.cl≤999999999) (h8:T.P no=some o):
   aP Tryz.prog F.tb #[.pointer (some ⟨T.cB,0,none⟩), .int .i64 (no:Nat), .bool o.leaf] ag (fun v w'=>∃bd:dC,(∀j,bd.view j=T.C.view j)∧ao (fun q=>T.N q∧¬T.G q) ag w'∧(∀q,(T.cU bd T.P).M q→T.M q∨ag.heap.size≤q)∧
     (∀iH,ao Z w' iH→fY iH (T.cU bd T.P) c∧fZ T (T.cU bd T.P) c c [] [] w iH 2)∧
     ((∃ (K V D:ab),v= .tuple #[fg o K V D, .int .i64 0]∧ck (fun q=>ag.heap.size≤q∧¬(T.cU bd T.P).M q) w' o K V D)∨(v= .tuple #[fg rG cg cg cg, .int .i64 3]∧¬T.C.D.calm 2))):=by
 obtain ⟨c8,lq⟩:=h.t.l_ no o h8
 obtain ⟨dv,mw⟩:∃dv,dv=fun q=>T.E q∨T.G q∨Z q:=⟨_,rfl⟩
 have pB:∀q,T.E q∨T.G q∨Z q→dv q:=fun q J=>by rw[mw];exact J
 have sA:∀q,dv q→T.E q∨T.G q∨Z q:=fun q J=>by rw[mw] at J;exact J
 have aY:dz ag (T.dF dv fun _=>False):=h.t.grow (W:=fun _=>False) af (fun _ h=>h.elim) (fun q J=>(sA q J).imp id (Or.imp id (u3 q))) (fun _ h=>h.elim) fun _ _ h=>h
 have Pq:∀q,(T.dF dv fun _=>False).N q→T.N q∧¬T.G q:=fun q J=>⟨by
   rcases J with J|J|J|J
   · exact .inl J
   · exact .inr (.inl J)
   · exact .inr (.inr (.inl J))
   · exact J.elim,fun bl=>aY.ue (pB q (.inr (.inl bl))) J⟩
 refine (TG aY gA c8 o.leaf).mono ?_
 rintro v w' ⟨bd,bn,aU,al,fm⟩
 have UH:=af.size
 have bF:=aU.an.size
 have abx:=(cp.ext (T.dF dv fun _=>False) af).trans aU
 rw[gJ] at abx
 have UI:cp T (T.cU bd T.P) w w' 2:=cp.read (E:=dv) abx (fun q J=>pB q (J.imp id .inl)) fun q J=>(sA q J).imp id (Or.imp id fun h=>(u3 q h).1)
 have gF:ao (fun q=>T.N q∧¬T.G q) ag w':=aU.an.mono fun q _ J=>Pq q J
 refine ⟨bd,al,gF,fun q J=> ?_,fun iH ak=> ?_,?_⟩
 · rcases J with J|J
   · exact (aU.fn q (.inl J)).imp (fun h=>bf.mM (Pq q h).1) id
   · exact .inl (.inr J)
 · have DU:dz iH (T.cU bd T.P):=bn.grow (E:=T.E) (G:=T.G) ak (fun q J _=> .inl (pB q (.inr (.inr J)))) (fun q J=> .inl (pB q (.inl J))) (fun q J=> .inl (pB q (.inr (.inl J)))) fun q J=>(h.t.iJ q J).2.2
   refine ⟨(h.ext af).of (W:=fun q=>(T.N q∧¬T.G q)∨Z q) DU ((gF.mono fun q _ J=> .inl J).trans (ak.mono fun q _ J=> .inr J)) (fun q bl J=> ?_) rfl fun _ h=>h,fZ.cache ?_ al⟩
   · rcases J with J|J
     · exact J.2 bl
     · have:=h.t.lt (q:=q) (.inr (.inr (.inr (.inr bl))))
       have:=(u3 q J).1
       omega
   · exact UI.step (E:=T.E) (G:=T.G) ak (fun q J aB=>by have:=(u3 q J).1;omega) (fun q J=> .inl J) fun q J=> .inl J
 · rcases fm with ⟨c7,K,V,D,rfl,H0,jH⟩|⟨e,rfl,K5,dN⟩
   · obtain rfl:=ta.uniq lq H0
     refine .inl ⟨K,V,D,rfl,jH.bA fun q J aa=>⟨aa.1,fun hm=>aa.2 ?_⟩⟩
     rcases hm with hm|hm|hm|hm|hm
     · exact .inl hm
     · exact .inr (.inl hm)
     · exact .inr (.inr (.inl hm))
     · exact .inr (.inr (.inr (.inl (pB q (.inl hm)))))
     · exact .inr (.inr (.inr (.inl (pB q (.inr (.inl hm))))))
   · refine .inr ?_
     rcases K5 with ⟨rfl,U⟩|U|⟨_,_,U⟩
     · exact ⟨rfl,U⟩
     · obtain ⟨p,aC,_⟩:=lq
       have U:mq (no:Int) (T.C.view no)= .error e:=U
       rw[aC] at U;cases U
     · exact absurd lq (U o)
def tl (u:gH):Nat:=if u.e1=0 then 1 else u.e1-1
def zl (u:gH) (n o:aO):aO:=if u.e1<tl u then hC n (u.n.keys.getD (u.e1-1) []) o else hC o (u.n.keys.getD (u.e1-1) []) n
def UJ (T:bf) (c:gK) (n:aO) (u:gH) (w:World) (v:Value) (w':World):Prop:=
 (80≤cr n∧∃ (s:ab) (e:Int),v= .tuple #[.slice s.a s.len s.cap, .int .i64 (u.e1:Nat), .int .i64 ((u.e1+1:Nat):Int), .int .i64 e]∧p5 T c n w (.tuple #[.slice s.a s.len s.cap, .int .i64 e]) w')∨
 (cr n<80∧∃ (c2:bf) (bm:gK),v= .tuple #[.slice none 0 0, .int .i64 0, .int .i64 0, .int .i64 3]∧fY w' c2 bm∧fZ T c2 c bm [] [] w w' 2∧¬T.C.D.calm 2)∨
 (cr n<80∧∃ (o:aO) (no:Nat) (c2:bf) (bm:gK) (ag:World) (s:ab) (e:Int),u.n.kids[tl u]? =some no∧T.P no=some o∧fZ T c2 c bm [] [no] w ag 2∧
   v= .tuple #[.slice s.a s.len s.cap, .int .i64 ((u.e1-1:Nat):Int), .int .i64 ((u.e1-1+2:Nat):Int), .int .i64 e]∧p5 c2 bm (zl u n o) ag (.tuple #[.slice s.a s.len s.cap, .int .i64 e]) w')
end
section
theorem aoG {B:Nat→Prop} {w:World} {T:bf} {c:gK} {n:aO} {K V D:ab} (h:fY w T c) (aD:ck B w n K V D) (jX:zf n) (gA:T.C.D.cl≤900000080) (jx:2≤fR T) (oh:c.made.length≤900):
   aP Tryz.prog F.zm #[.pointer (some ⟨c.dq,0,none⟩),fg n K V D, .pointer none] w (fun v w'=>∃ (s:ab) (e:Int),v= .tuple #[.slice s.a s.len s.cap, .int .i64 0, .int .i64 0, .int .i64 e]∧p5 T c n w (.tuple #[.slice s.a s.len s.cap, .int .i64 e]) w'):=by
 refine W.aby (some ⟨c.dq,0,none⟩) n.leaf K V D none w _ ?_
 (delta W.zm aF bR ai ar bj bD aE gE bc q7 dA Pr st df Lm fC Ps;dsimp only)
 refine cx (vs:=hX n K V D) rfl fun ag gx bK k_=> ?_
 refine ff (fun b w'=>b=true∧ag=w') (fun q J=>⟨fun _=>J _ _ ⟨rfl,rfl⟩,fun h=>(by cases h)⟩) ?_
 rintro _ _ ⟨rfl,rfl⟩
 refine ⟨fun _=>UK (fun a b w'=>a=0∧b=0∧ag=w') (fun q J=>⟨fun h=>(by cases h),fun _=>J _ _ _ ⟨rfl,rfl,rfl⟩⟩) ?_,fun h=>(by cases h)⟩
 rintro _ _ _ ⟨rfl,rfl,rfl⟩
 obtain ⟨cK,bm,bj,bk⟩:=cu gx
 refine ⟨_,cK,K,bm,V,bj,D,bk,(Pf (h.ext bK) (by omega) jx oh (aD.ext bK) jX.1 jX.2.1 jX.2.2).use ?_⟩
 intro v w' al
 obtain ⟨s,e,rfl⟩:=al.out
 exact ⟨s,e,rfl,s,e,rfl,al.base bK⟩
theorem aoH {w:World} {T:bf} {c:gK} {n:aO} {K V D:ab} {A:Addr} {u:gH} (h:fY w T c) (aD:ck (fun q=>¬T.M q) w n K V D) (hu:zg (fun q=>¬T.M q) w A u) (Bf:ei n) (Pn:cr n≤400) (ay:80≤cr n→zf n)
   (fc:cr n<80→∃ (o:aO) (no:Nat),u.n.kids[tl u]? =some no∧T.P no=some o∧o.leaf=n.leaf∧u.e1-1<u.n.keys.length∧eG (u.n.keys.getD (u.e1-1) [])∧zf (zl u n o)) (kA:u.e1≤900)
   (gA:T.C.D.cl≤900000080) (jx:2≤fR T) (oh:c.made.length≤900) (Af:c.left.length≤900):
   aP Tryz.prog F.zm #[.pointer (some ⟨c.dq,0,none⟩),fg n K V D, .pointer (some A)] w (UJ T c n u w):=by
 have q8:=Bf.jS (by omega)
 refine W.aby (some ⟨c.dq,0,none⟩) n.leaf K V D (some A) w _ ?_
 (delta W.zm aF bR ai ar bj bD aE gE bc q7 dA Pr st df Lm fC Ps;dsimp only)
 refine cx (vs:=hX n K V D) rfl fun ag gx bK k_=> ?_
 obtain ⟨bJ,k0⟩:∃bJ,bJ=w.heap.size:=⟨_,rfl⟩
 rw[←k0] at gx⊢
 refine ff (fun b w'=>b=decide (80≤cr n)∧Ext ag w') (fun q J=>⟨fun h=>(by cases h),fun _=> ?_⟩) ?_
 · obtain ⟨cK,bm,bj,bk⟩:=cu gx
   refine ⟨_,cK,K,bm,V,bj,D,bk,(vc (aD.ext bK) Bf (by omega)).use ?_⟩
   rintro _ aS ⟨rfl,eW⟩
   refine ⟨_,rfl,J _ _ ⟨?_,eW⟩⟩
   rw[oT,fE,fE]
   omega
 rintro _ cf ⟨rfl,qS⟩
 have vm:=bK.trans qS
 refine ⟨fun aa=> ?_,fun aa=> ?_⟩
 · have aa:=dL aa
   have jX:=ay aa
   refine UK (fun a b w'=>a=(u.e1:Nat)∧b=((u.e1+1:Nat):Int)∧Ext cf w') (fun q J=>⟨fun _=> ?_,fun h=>(by cases h)⟩) ?_
   · have bB:Ext cf cf.drew:=ej _
     have Lh:=hu.ext (vm.trans bB)
     refine bN ⟨A,rfl,id,_,Lh.dQ,A,rfl,id,_,Lh.dQ,J _ _ _ ⟨rfl,?_,bB⟩⟩
     rw[cL (by omega) (by omega)];rfl
   rintro _ _ cC ⟨rfl,rfl,o8⟩
   have dO:=vm.trans o8
   obtain ⟨cK,bm,bj,bk⟩:=cu (gx.ext (qS.trans o8))
   refine ⟨_,cK,K,bm,V,bj,D,bk,(Pf (h.ext dO) (by omega) jx oh (aD.ext dO) jX.1 jX.2.1 jX.2.2).use ?_⟩
   intro v w' al
   obtain ⟨s,e,rfl⟩:=al.out
   exact ⟨s,e,rfl, .inl ⟨aa,s,e,rfl,al.base dO⟩⟩
 · have aa:¬80≤cr n:=fb aa
   obtain ⟨o,no,lf,h8,Fi,jd,dW,jX⟩:=fc (by omega)
   obtain ⟨c8,lq⟩:=h.t.l_ no o h8
   obtain ⟨_,FW,Ue⟩:=lq.is
   have Pt:=hu.ext vm
   refine ⟨A,rfl,_,Pt.dQ,((u.e1-1:Nat):Int),cf,?_,?_⟩
   · rw[run_max_int2]
     congr 2
     by_cases b5:u.e1=0
     · rw[b5];rfl
     · rw[cL (by omega) (by omega),if_neg (by omega)];omega
   refine ff (fun a w'=>a=(tl u:Nat)∧cf=w') (fun q J=>⟨A,rfl,_,Pt.dQ,fun b5=>J _ _ ⟨?_,rfl⟩,fun b5=>J _ _ ⟨?_,rfl⟩⟩) ?_
   · have:u.e1=0:=by simpa using b5
     unfold tl;rw[if_pos this];rfl
   · have:u.e1≠0:=by simpa using b5
     unfold tl;rw[if_neg this]
   rintro _ _ ⟨rfl,rfl⟩
   have aoI:tl u<u.n.kids.length:=(qJ.1 lf).1
   obtain ⟨Yb,aoJ,l2,nx⟩:=dG.at Pt.e0.kids aoI
   have aoK:u.n.kids[tl u]=no:=(qJ.1 lf).2
   rw[aoK] at nx
   refine ⟨A,rfl,u.D,Pt.gE,Yb,aoJ,l2,_,nx,bN ?_⟩
   have bB:Ext cf cf.drew:=ej _
   obtain ⟨gN,aoL⟩:∃gN,gN=cf.drew:=⟨_,rfl⟩
   rw[←aoL] at bB⊢
   have dO:=vm.trans bB
   have UL:=h.ext dO
   have awh:=dO.size
   have nM:=(qS.trans bB).size
   have Ln:=gx.ext (qS.trans bB)
   have UM:∀q,T.M q→q<w.heap.size:=fun q J=>h.t.lt J
   have qq:u.n.keys.getD (u.e1-1) []=u.n.keys[u.e1-1]:=by rw[od,gT jd];rfl
   have fin:∀ (bd:dC) (aL:Nat) (mR mS Do:ab) (fo:World),fY fo (T.cU bd T.P) c→fZ T (T.cU bd T.P) c c [] [] gN fo 2→Var fo bJ (hX n K V D) ah.cR→Var fo aL (hX o mR mS Do) ah.cR→gN.heap.size≤aL→¬(T.cU bd T.P).M aL→ck (fun q=>¬(T.cU bd T.P).M q) fo o mR mS Do→
       Uh bJ aL (some ⟨c.dq,0,none⟩) (some A) ((u.e1-1:Nat):Int) (tl u:Nat) (no:Nat) 0 fo (fun v w'=>UJ T c n u w v w'):=by
     intro bd aL mR mS Do fo F4 Pu Iq As fl aoM aoN
     have gL:=((fZ.ext T c dO).trans Pu).mono (j:=2) (by omega)
     have bT:=gL.to
     have DV:¬(T.cU bd T.P).M bJ:=fun hm=>by
       rcases Pu.to.fP bJ hm with U|U
       · have:=UM _ U;omega
       · omega
     have aoO:ck (fun q=>¬(T.cU bd T.P).M q) fo n K V D:=(bT.e0 (lo:=0) (aD.bA fun q _ aa=>⟨fi _,aa⟩)).bA fun q _ aa=>aa.2
     have F5:(T.cU bd T.P).C.D.cl≤900000090:=jb bT.cl (by omega)
     refine aou F4 Iq As DV aoM aoO aoN (hu.to bT) F5 jx oh Af Bf FW Pn (by omega) Fi jd (by rw[←qq];exact dW) (zl u n o) (by unfold zl;rw[qq]) jX (by omega) ?_
     intro s e c2 bm aoP w' aoQ aA
     exact .inr (.inr ⟨by omega,o,no,c2,bm,aoP,s,e,lf,h8,(gL.trans aoQ).mono (by omega),rfl,aA⟩)
   have Pv:∀q,T.N q→q<w.heap.size:=fun q J=>UM q (bf.mM J)
   have err:∀ (bd:dC) (fo:World),fY fo (T.cU bd T.P) c→fZ T (T.cU bd T.P) c c [] [] gN fo 2→¬T.C.D.calm 2→UJ T c n u w (.tuple #[.slice none 0 0, .int .i64 0, .int .i64 0, .int .i64 3]) fo:=by
     intro bd fo F4 Pu fQ
     exact .inr (.inl ⟨by omega,_,c,rfl,F4,((fZ.ext T c dO).trans Pu).mono (by omega),fQ⟩)
   obtain ⟨cK,bm,bj,bk⟩:=cu Ln
   refine ⟨fun q=>T.N q∧¬T.G q,_,rfl,fun J=>J.2 h.gc,_,UL.cells.1,(fun J=>by have:=Pv _ J.1;show False;exact absurd this (by show¬bJ<w.heap.size;omega)),_,cK,?_,?_⟩
   · rw[←Fi]
     refine (abw (Z:=fun _=>False) UL (ao.refl _ _) (fun _ h=>h.elim) (by omega) h8).use ?_
     rintro _ dI ⟨bd,al,vK,abz,Lo,fm⟩
     have abA:=vK.size
     rcases fm with ⟨mR,mS,Do,rfl,UN⟩|⟨rfl,fQ⟩
     · refine ⟨_,mR,mS,Do,0,rfl,vK,cx (vs:=[.bool false, .slice none 0 0, .slice none 0 0, .slice none 0 0]) rfl fun lu Lp Lq aoR=>⟨ao.eN Lq,Lp.du rfl mc,rfl,eg Lp (us:=hX o mR mS Do) rfl rfl fun fo Lr Bz UO=> ?_⟩⟩
       have F6:Ext dI fo:=Ext.e_ Lq Bz (cP _)
       obtain ⟨Pw,UP⟩:=Lo dI (ao.refl _ _)
       have Ir:=Ln.an vK fun J=>by have:=Pv _ J.1;omega
       refine fin bd dI.heap.size mR mS Do fo (Pw.ext F6) ((UP.trans (fZ.ext _ _ F6)).mono (by omega)) (Ir.ext F6) Lr (by omega) (fun hm=>by have:=Pw.t.lt hm;omega) ?_
       exact (UN.ext F6).bA fun q _ aa=>aa.2
     · refine ⟨_,cg,cg,cg,3,rfl,vK,cx (vs:=[.bool false, .slice none 0 0, .slice none 0 0, .slice none 0 0]) rfl fun lu Lp Lq aoR=>⟨ao.eN Lq,Lp.du rfl mc,rfl,eg Lp (us:=hX rG cg cg cg) rfl rfl fun fo Lr Bz UO=>⟨fun _=> ?_,fun aa=>(by cases aa)⟩⟩⟩
       have F6:Ext dI fo:=Ext.e_ Lq Bz (cP _)
       obtain ⟨Pw,UP⟩:=Lo dI (ao.refl _ _)
       exact err bd fo (Pw.ext F6) ((UP.trans (fZ.ext _ _ F6)).mono (by omega)) fQ
   · refine cx (vs:=[.bool false, .slice none 0 0, .slice none 0 0, .slice none 0 0]) rfl fun bY Is oN abB=>⟨ao.eN oN,?_⟩
     rw[←Fi]
     refine (abw (Z:=fun q=>q=gN.heap.size) UL oN (fun q e=>⟨by omega,by omega⟩) (by omega) h8).use ?_
     rintro _ dI ⟨bd,al,vK,abz,Lo,fm⟩
     have abA:=vK.size
     have Ir:=Is.an vK fun J=>by have:=Pv _ J.1;omega
     have aoS:=(Ln.ext oN).an vK fun J=>by have:=Pv _ J.1;omega
     rcases fm with ⟨mR,mS,Do,rfl,UN⟩|⟨rfl,fQ⟩
     · refine ⟨_,mR,mS,Do,0,rfl,Ir.du rfl mc,rfl,eg Ir (us:=hX o mR mS Do) rfl rfl fun fo Lr Bz UO=> ?_⟩
       obtain ⟨F4,UQ⟩:=Lo fo Bz
       refine fin bd gN.heap.size mR mS Do fo F4 UQ (aoS.an Bz (by omega)) Lr (cP _) (fun hm=> ?_) ?_
       · rcases abz _ hm with U|U
         · have:=UM _ U;omega
         · omega
       · refine (ck.an UN Bz fun q J e=>by have:=J.1;omega).bA fun q _ aa=>aa.2
     · refine ⟨_,cg,cg,cg,3,rfl,Ir.du rfl mc,rfl,eg Ir (us:=hX rG cg cg cg) rfl rfl fun fo Lr Bz UO=>⟨fun _=> ?_,fun aa=>(by cases aa)⟩⟩
       obtain ⟨F4,UQ⟩:=Lo fo Bz
       exact err bd fo F4 UQ fQ
end
section
structure UR (T av:bf) (l:List Nat) (w w':World):Prop where
 to:cp T av w w' 0
 E:av.E=T.E
 G:av.G=T.G
 root:av.root=T.root
 bx:av.bx=T.bx
 f:∀no,av.f no=(T.f no&& !decide (no∈l))
 g8:∀no,(no∉l∨T.g no=true)→av.P no=T.P no∧av.C.view no=T.C.view no
theorem abC {w:World} {T:bf} {c:gK} {s:ab} {l:List Nat} (h:fY w T c) (aj:Src 1 w s (kY l)) (wJ:∀q,aQ s q→T.G q) (aB:∀x∈l,T.f x=true) (jH:l.Nodup) (Af:l.length≤10000):
   aP Tryz.prog F.BA #[.pointer (some ⟨c.dq,0,none⟩), .slice s.a s.len s.cap] w (fun v w'=>v= .tuple #[]∧∃av:bf,fY w' av c∧UR T av l w w'):=by
 have gh:s.len=l.length:=by have:=aj.len;rw[E9] at this;omega
 refine W.aoT (some ⟨c.dq,0,none⟩) s w _ ?_
 (delta W.BA aF bc bD bk bj aE;dsimp only)
 refine ⟨fun i w'=>∃ (j:Nat) (av:bf),i=j∧j≤l.length∧fY w' av c∧UR T av (l.take j) w w'∧Src 1 w' s (kY l),fun i _=>((l.length:Int)-i).toNat,⟨0,T,rfl,fi _,h,⟨.refl _ _,rfl,rfl,rfl,rfl,fun no=>by simp,fun _ _=>⟨rfl,rfl⟩⟩,aj⟩,?_⟩
 rintro _ bz ⟨j,c2,rfl,aZ,U,bl,Kb⟩
 refine ⟨fun a6=> ?_,fun cm=> ?_⟩
 · have a6:j<l.length:=by
     have:((j:Nat):Int)<((s.len:Nat):Int):=dL a6
     omega
   have pM:c2.f l[j]=true:=by
     rw[bl.f,aB _ (e3 a6)]
     have:l[j]∉l.take j:=fun hm=>by
       obtain ⟨i,hi,he⟩:=lU hm
       rw[ee] at hi
       rw[GW] at he
       have:=(List.getElem_inj jH).1 he
       omega
     simp[this]
   have awi:l[j]<c2.n:=by
     rcases hJ l[j] c2.n with ad|ad
     · exact ad
     · have:=U.t.s.FD _ ad
       rw[pM] at this;cases this
   obtain ⟨A,ay,aa,ak⟩:=Kb.at (i:=j) (v:= .int .i64 ((l[j]:Nat):Int)) (by simp[kY,a6])
   refine yB (fun w'=>∃df:bf,fY w' df c∧UR T df (l.take (j+1)) w w'∧Src 1 w' s (kY l)) (fun q J=>⟨A,ay,aa,_,ak,_,rfl,_,U.cells.1,_,rfl,_,U.t.cells.2.1,(amw U.t.s _).use ?_⟩) ?_
   · rintro _ _ ⟨rfl,rfl⟩
     refine ⟨_,rfl,_,rfl,_,U.cells.1,_,rfl,_,U.t.cells.2.1,(amu U.t.s _).use ?_⟩
     rintro _ dk ⟨rfl,qf,xr⟩
     have yO:HT c2.f c2.n ((l[j]:Nat):Int)=kh c2.f l[j] false:=by
       unfold HT
       rw[if_pos ⟨by omega,by omega⟩,g_]
     rw[yO] at qf
     obtain ⟨aoU,abD⟩:=U.t.aaE qf xr
     have DW:fY dk (c2.H3 (kh c2.f l[j] false)) c:=U.of aoU xr (fun q J aA=>(U.t.um q J).2 aA) rfl fun _ h=>h
     have DD:Src 1 dk s (kY l):=Kb.an xr fun q J aA=>(U.t.um q (by rw[bl.G];exact wJ q J)).2 aA
     have FF:(decide ((0:Int)≤((l[j]:Nat):Int))&&decide (((l[j]:Nat):Int)<(c2.n:Nat))&&c2.f (Int.toNat ((l[j]:Nat):Int))&& !(c2.g (Int.toNat ((l[j]:Nat):Int))))= !(c2.g l[j]):=by
       rw[g_,pM,ik (by omega),ik (by omega)];simp
     have It:∀no,kh c2.f l[j] false no=(T.f no&& !decide (no∈l.take (j+1))):=fun no=>by
       rw[sL a6]
       unfold kh
       by_cases e:no=l[j]
       · rw[if_pos e,e,ik (fa.2 (.inr (lT.2 rfl)))]
         exact (Bool.and_false _).symm
       · rw[if_neg e,bl.f]
         have bp:decide (no∈l.take j++ [l[j]])=decide (no∈l.take j):=by
           rw[oT,fE,fE,fa,lT]
           exact ⟨fun h=>h.resolve_right e, .inl⟩
         rw[bp]
     rw[FF]
     refine ⟨_,rfl,fun eR=>⟨_,rfl,_,DW.cells.1,_,rfl,_,DW.t.cells.1,(alZ DW.t.oG _).use ?_⟩,fun eR=>J _ ⟨_,DW,⟨?_,bl.E,bl.G,bl.root,bl.bx,It,fun no c8=> ?_⟩,DD⟩⟩
     · rintro _ cv ⟨⟨b,rfl⟩,bd,m4,bT,al⟩
       have OT:T.g l[j]=false:=by
         have ad:c2.g=T.g:=bl.to.g
         rw[ad] at eR
         simpa using eR
       obtain ⟨aoV,aoW⟩:=DW.t.TF (P:=fun no=>if no=l[j] then none else c2.P no) m4 bT (fun no e0 aV=>by
         by_cases e:no=l[j]
         · rw[if_pos e] at aV;cases aV
         · rw[if_neg e] at aV
           rw[al no e]
           exact U.t.l_ no e0 aV)
       have US:=DW.of (av:=(c2.H3 (kh c2.f l[j] false)).cU bd fun no=>if no=l[j] then none else c2.P no) aoV bT.an (fun q J=>DW.t.O9 J) rfl fun _ h=>h
       refine ⟨b,rfl,J _ ⟨_,US,⟨?_,bl.E,bl.G,bl.root,bl.bx,It,fun no c8=> ?_⟩,?_⟩⟩
       · exact ((bl.to.trans abD).trans aoW).mono (by omega)
       · have dN:no≠l[j]:=fun e=>by
           rcases c8 with ad|ad
           · exact ad (by rw[sL a6,e];exact fa.2 (.inr (lT.2 rfl)))
           · rw[e,OT] at ad;cases ad
         have aq:=bl.g8 no (c8.imp (fun ad aK=>ad (by rw[sL a6];exact fa.2 (.inl aK))) id)
         exact ⟨(if_neg dN).trans aq.1,(al no dN).trans aq.2⟩
       · exact DD.an bT.an fun q J=>DW.t.O9 (by show c2.G q;rw[bl.G];exact wJ q J)
     · exact (bl.to.trans abD).mono (by omega)
     · exact bl.g8 no (c8.imp (fun ad aK=>ad (by rw[sL a6];exact fa.2 (.inl aK))) id)
   · rintro fk ⟨df,ad,BB,mD⟩
     rw[cL (n:=(j:Int)+1) (by omega) (by omega)]
     refine ⟨⟨j+1,df,by omega,by omega,ad,BB,mD⟩,?_⟩
     show ((l.length:Int)-((j:Int)+1)).toNat<((l.length:Int)-(j:Int)).toNat
     omega
 · have cm:j=l.length:=by
     have:¬((j:Nat):Int)<((s.len:Nat):Int):=fb cm
     omega
   subst cm
   rw[r9] at bl
   exact ⟨rfl,c2,U,bl⟩
theorem zn {B:Nat→Prop} {w:World} {n:aO} {K V D:ab} (aD:ck B w n K V D) (bx:Nat) (c4:bx≤100) (ae:n.leaf=false→∃x,n.kids=[x]∧1≤bx):
   aP Tryz.prog F.zn #[fg n K V D, .int .i64 (bx:Nat)] w (fun v w'=>v=(if n.leaf then .tuple #[.int .i64 0, .int .i64 0, .int .i64 0] else .tuple #[.int .i64 ((n.kids.getD 0 0:Nat):Int), .int .i64 ((bx-1:Nat):Int), .int .i64 0])∧Ext w w'):=by
 refine W.aoX n.leaf K V D (bx:Nat) w _ ?_
 (delta W.zn bR ai aF ar bc bD aE;dsimp only)
 refine cx (vs:=hX n K V D) rfl fun ag gx bK k_=> ?_
 obtain ⟨cK,bm,bj,bk⟩:=cu gx
 refine ⟨_,cK,fun aa=>⟨by rw[if_pos aa],bK⟩,fun aa=> ?_⟩
 obtain ⟨x,af,U⟩:=ae aa
 obtain ⟨A,ay,gO,ak⟩:=dG.at (aD.ext bK).kids (i:=0) (by rw[af];simp)
 refine ⟨D,bk,A,ay,gO,_,ak,?_,bK⟩
 have ba:((bx:Nat):Int)-1=((bx-1:Nat):Int):=by omega
 rw[if_neg (by rw[aa];simp),cL (by omega) (by omega),ba]
 simp only[af]
 rfl
end
section
def UT (T:bf) (c:gK) (ks:List Key) (kids:List Nat) (w:World) (v:Value) (w':World):Prop:=
 (∃x,ks=[]∧kids=[x]∧v= .tuple #[.int .i64 (x:Nat), .int .i64 (T.bx:Nat), .int .i64 0]∧fY w' T c∧Ext w w')∨
 (∃ (k:Key) (x y no:Nat) (av:bf) (c':gK),ks=[k]∧kids=[x,y]∧fY w' av c'∧fZ T av c c' [no] [] w w' 1∧
   ((v= .tuple #[.int .i64 (no:Nat), .int .i64 ((T.bx+1:Nat):Int), .int .i64 0]∧av.P no=some ⟨false,[k],[],[x,y]⟩)∨(v= .tuple #[.int .i64 (no:Nat), .int .i64 ((T.bx+1:Nat):Int), .int .i64 3]∧¬T.C.D.calm 1)))
theorem abE (K D:Nat) (w:World):Sem.run Tryz.prog (Instr.build ah.cR #[(1, .slice (some ⟨K,0,none⟩) 1 1),(3, .slice (some ⟨D,0,none⟩) 2 2)]) w= .ok (.agg #[.bool false, .slice (some ⟨K,0,none⟩) 1 1, .slice none 0 0, .slice (some ⟨D,0,none⟩) 2 2]) w:=by kernel_rfl
theorem Var.abF {w:World} {b:Nat} {vs:List Value} {T:TypeId} (h:Var w b vs T):Src 1 w ⟨some ⟨b,0,none⟩,vs.length,vs.length⟩ vs:=by
 refine ⟨by show _=vs.length*1;omega,(fun h=>by cases h),fun a aR=> ?_⟩
 cases aR
 show eH w ⟨b,0,none⟩ 0 (vs.length*1)=_
 rw[lQ,h.rd rfl]
theorem aoY {w:World} {t:ab} {k:Key} (b:Nat) (al:Var w b [.slice t.a t.len t.cap] ah.cc) (aU:bH (fun _=>True) w t k):bU (fun _=>True) w ⟨some ⟨b,0,none⟩,1,1⟩ [k]:=by
 refine ⟨[t],rfl,al.abF,cP _,fun q J=>⟨trivial,?_⟩,fun i U ad=> ?_⟩
 · obtain ⟨A,ay,rfl⟩:=J
   cases ay
   exact al.lt
 · have:i=0:=by simp at U;omega
   subst this
   exact aU
theorem aoZ {w:World} {x y:Nat} (b:Nat) (al:Var w b [.int .i64 (x:Nat), .int .i64 (y:Nat)] ah.int):dG (fun _=>True) w ⟨some ⟨b,0,none⟩,2,2⟩ [x,y]:=by
 refine ⟨al.abF,cP _,fun q J=>⟨trivial,?_⟩⟩
 obtain ⟨A,ay,rfl⟩:=J
 cases ay
 exact al.lt
theorem ao0 {w:World} {T:bf} {c:gK} {s:ab} {ks:List Key} {kids:List Nat} (h:fY w T c) (aV:xt (fun q=>¬T.M q) w s ks kids) (c4:kids.length=2→T.bx<12) (aj:∀k x y,ks=[k]→kids=[x,y]→eG k∧x<1600∧y<1600)
   (gA:T.C.D.cl≤900000080) (jx:1≤fR T) (oh:c.made.length≤900):
   aP Tryz.prog F.DX #[.pointer (some ⟨c.dq,0,none⟩), .slice s.a s.len s.cap] w (UT T c ks kids w):=by
 have awj:=h.t.num.2.1
 refine W.ao1 (some ⟨c.dq,0,none⟩) s w _ ?_
 (delta W.DX aF bc bD ar DY ai th aE;dsimp only)
 have bB:Ext w w.drew:=ej w
 have hd:=h.ext bB
 rcases aV with ⟨b,x,rfl,rfl,rfl,al,aa⟩|⟨b,x,y,k,t,rfl,rfl,rfl,al,aa,aU,ae⟩
 · refine ⟨fun _=>bN ⟨_,rfl,⟨by decide,by show (0:Int)<((1:Nat):Int);decide⟩,id,_,by rw[aX,aX];exact al.drew.cell,_,rfl,id,_,hd.cells.1,_,rfl,id,_,hd.t.cells.2.2.2.2,?_⟩,fun h=>(by cases h)⟩
   exact .inl ⟨x,rfl,rfl,rfl,hd,bB⟩
 · have c4:=c4 rfl
   obtain ⟨s1,s2,bS⟩:=aj k x y rfl rfl
   refine ⟨fun h=>(by cases h),fun _=>⟨_,rfl,_,h.cells.1,_,rfl,_,h.t.cells.2.2.2.2,fun m8=> ?_,fun _=> ?_⟩⟩
   · have:((T.bx:Nat):Int)=12:=by simpa using m8
     omega
   have s_:ei ⟨false,[k],[],[x,y]⟩:= .inr ⟨⟨fun mN iz=>by rw[lT.1 iz];exact s1,List.pairwise_singleton _ _⟩,rfl,by simp,rfl,rfl,fun z bF=>by
     simp only[gg,ml,mm] at bF
     rcases bF with rfl|rfl<;>assumption⟩
   have dE:cr ⟨false,[k],[],[x,y]⟩≤232:=by
     have:=s1.2
     simp[cr,cellsOf]
     omega
   have UU:¬T.N b:=fun aD=>aa (bf.mM aD)
   have fin:∀ (cF:World) (bW bc:Nat),Ext w cF→Var cF bW [.slice t.a t.len t.cap] ah.cc→Var cF bc [.int .i64 (x:Nat), .int .i64 (y:Nat)] ah.int→
       aP Tryz.prog F.uw #[.pointer (some ⟨c.dq,0,none⟩), .agg #[.bool false, .slice (some ⟨bW,0,none⟩) 1 1, .slice none 0 0, .slice (some ⟨bc,0,none⟩) 2 2]] cF (fun v w'=>∃n27:Int,∃n28:Int,v= .tuple #[.int .i64 n27, .int .i64 n28]∧ao T.N cF w'∧
         ∀iH,Ext w' iH→UT T c [k] [x,y] w (.tuple #[.int .i64 n27, .int .i64 ((T.bx+1:Nat):Int), .int .i64 n28]) iH∧∃av c',fY iH av c'∧c'.dq=c.dq∧av.cB=T.cB∧av.bx=T.bx):=by
     intro cF bW bc af xA l2
     have jH:ck (fun _=>True) cF ⟨false,[k],[],[x,y]⟩ ⟨some ⟨bW,0,none⟩,1,1⟩ ⟨none,0,0⟩ ⟨some ⟨bc,0,none⟩,2,2⟩:=by
       exact ⟨aoY bW xA (bH.bA (bH.ext aU af) fun _ _ _=>trivial),bU.none _ _,aoZ bc l2⟩
     refine (Pa (h.ext af) (by omega) jx (by omega) jH s_ dE).mono ?_
     rintro v w' ⟨no,av,c',px,bT,fm⟩
     have gL:=((fZ.ext T c af).trans bT).mono (j:=1) (by omega)
     rcases fm with ⟨rfl,h8⟩|⟨rfl,fQ⟩
     · refine ⟨_,_,rfl,bT.to.an,fun iH cD=>⟨.inr ⟨k,x,y,no,av,c',rfl,rfl,px.ext cD,(gL.trans (fZ.ext av c' cD)).mono (by omega), .inl ⟨rfl,h8⟩⟩,av,c',px.ext cD,bT.dq,bT.to.cB,bT.bx⟩⟩
     · refine ⟨_,_,rfl,bT.to.an,fun iH cD=>⟨.inr ⟨k,x,y,no,av,c',rfl,rfl,px.ext cD,(gL.trans (fZ.ext av c' cD)).mono (by omega), .inr ⟨rfl,fQ⟩⟩,av,c',px.ext cD,bT.dq,bT.to.cB,bT.bx⟩⟩
   have lJ:IntKind.wrap .i64 (((T.bx:Nat):Int)+1)=((T.bx+1:Nat):Int):=by rw[cL (by omega) (by omega)];rfl
   refine UK (fun a b w'=>∀iH,Ext w' iH→UT T c [k] [x,y] w (.tuple #[.int .i64 a, .int .i64 ((T.bx+1:Nat):Int), .int .i64 b]) iH∧∃av c',fY iH av c'∧c'.dq=c.dq∧av.cB=T.cB∧av.bx=T.bx) (fun q J=>bN ⟨T.N,_,rfl,⟨by decide,by show (1:Int)<((2:Nat):Int);decide⟩,UU,t,by rw[aX];exact al.drew.cell,_,rfl,⟨by decide,by show (0:Int)<((2:Nat):Int);decide⟩,UU,_,by rw[aX,aX];exact al.drew.cell,_,rfl,⟨by decide,by show (1:Int)<((2:Nat):Int);decide⟩,UU,_,by rw[aX,aX];exact al.drew.cell,?_,?_⟩) ?_
   · refine cx (vs:=[.slice t.a t.len t.cap]) rfl fun dR ao2 xE Pd=>⟨ao.eN xE,cx (vs:=[.int .i64 (x:Nat), .int .i64 (y:Nat)]) rfl fun cF tm p9 abG=>⟨ao.eN p9,_,fun _=>abE _ _ _,?_⟩⟩
     refine (fin cF w.drew.heap.size dR.heap.size (bB.trans (xE.trans p9)) (ao2.ext p9) tm).use ?_
     rintro _ w' ⟨n27,n28,rfl,ak,bn⟩
     exact ⟨n27,n28,rfl,ak,J _ _ _ bn⟩
   · refine cx (vs:=[.int .i64 (x:Nat), .int .i64 (y:Nat)]) rfl fun dR ao3 xE Pd=>⟨ao.eN xE,cx (vs:=[.slice t.a t.len t.cap]) rfl fun cF UW p9 abG=>⟨ao.eN p9,_,fun _=>abE _ _ _,?_⟩⟩
     refine (fin cF dR.heap.size w.drew.heap.size (bB.trans (xE.trans p9)) UW (ao3.ext p9)).use ?_
     rintro _ w' ⟨n27,n28,rfl,ak,bn⟩
     exact ⟨n27,n28,rfl,ak,J _ _ _ bn⟩
   · intro a b mx bn
     obtain ⟨U,av,c',ad,aq,aK,aW⟩:=bn _ (ej mx)
     have ak:=ad.cells.1
     rw[aq] at ak
     have aU:=ad.t.cells.2.2.2.2
     refine bN ⟨_,rfl,id,_,ak,_,rfl,id,_,aU,?_⟩
     rw[aW,lJ]
     exact U
end
section
theorem fK.UX {P:Nat→Option aO} {lo hi:Option Key} {h:Nat} {n:aO} {p:List Nat} {L:List bo} (al:fK P h n lo hi p L) (ad:n.leaf=true→cr n≤310) (aq:n.leaf=false→cr n≤335) (ae:n.leaf=false→n.keys≠ []):zf n:=by
 refine ⟨?_,by cases aB:n.leaf;exact jb (aq aB) (by decide);exact jb (ad aB) (by decide),fun aj=> ?_⟩
 · cases h with
   |zero=>exact al.elim
   |succ h=>
     cases h with
     |zero=>exact .inl al.1
     |succ h=>
       obtain ⟨aC,aG,aJ,aN,cX⟩:=al
       have aj:=cX.sorted fun _ _ _ _ _ hw=>hw.in
       exact .inr ⟨⟨aJ,aj.2.2.1⟩,aC,ae aC,cX.len,aG,aN⟩
 · obtain ⟨aC,aG,aJ,aN,_⟩:=al.two (Q:=P) (x:=0) (y:=0) aj ad aq
   exact ⟨aC,aG,aJ,aN⟩
section
variable {P:Nat→Option aO} {lo hi:Option Key}
theorem ao4 {h:Nat} {bM fe:aO} {hA eV:Option Key} {i:Nat} {cq oV:List Nat} {b1 pJ:List bo} {k:Key} (kq:∀k∈bM.keys,eG k) (hlen:bM.kids.length=bM.keys.length+1) (h8:∀x n,P x=some n→cr n≤232)
   (g4:1≤i) (og:i<bM.kids.length) (fG:k9 hA eV k)
   (aV:kW (kG P (h+1)) lo hA (bM.keys.take i) (bM.kids.take i) cq b1) (al:fK P (h+1) fe hA eV oV pJ) (U:cr fe<80):
   ∃ (o:aO) (aa:i-1<bM.kids.length) (gO:i-1<bM.keys.length),P bM.kids[i-1]=some o∧o.leaf=fe.leaf∧eG bM.keys[i-1]∧zf (hC o bM.keys[i-1] fe):=by
 obtain ⟨s,JT,di,r,iB,N,aj,rfl,se,rfl,rfl,⟨hw,m,hm,kI⟩,Hb,Af⟩:=aV.last (by rw[ee];omega)
 have fy:(bM.keys.take i).length=i:=by rw[ee];omega
 have ld:(bM.kids.take i).length=i:=by rw[ee];omega
 have se:s=bM.keys[i-1]'(by omega):=by
   rw[se,GW];congr 1;omega
 have E0:(bM.kids.take i)[(bM.kids.take i).length-1]'(by omega)=bM.kids[i-1]'(by omega):=by
   rw[GW];congr 1;omega
 rw[E0] at hw hm
 obtain ⟨o,sQ,lf,rfl,_,qh⟩:=hw.wq
 rw[lf] at hm
 have kI:2≤o.keys.length:=by rw[Option.some.inj hm];exact kI
 clear hm
 subst se
 have j6:=(show kG P (h+1) JT (some (bM.keys[i-1]'(by omega))) (bM.kids[i-1]'(by omega)) (bM.kids[i-1]'(by omega)::sQ) N from ⟨hw,o,lf,kI⟩).in
 obtain ⟨x,af⟩:=JG _ j6.1
 have sf:=kq _ (e3 (l:=bM.keys) (n:=i-1) (by omega))
 have Cx:=fK.merge qh al sf (fun c ak=>qL (tM ((j6.2.2 x af).1 c ak) ((j6.2.2 x af).2 _ rfl))) (fun c ak=>qL (tM (fG.1 _ rfl) (fG.2 c ak)))
 have dE:=NN qh al sf (by have:=h8 _ _ lf;omega)
 have Hc:=NM (a:=o) (b:=fe) (s:=bM.keys[i-1]'(by omega))
 refine ⟨o,by omega,by omega,lf,by rw[qh.leaf,al.leaf],sf,Cx.UX dE.1 dE.2 fun _ e=> ?_⟩
 rw[e,wo] at Hc
 omega
theorem ao5 {h:Nat} {bM fe:aO} {hA eV:Option Key} {i:Nat} {cA oV:List Nat} {pJ cn:List bo} {k:Key} (kq:∀k∈bM.keys,eG k) (hlen:bM.kids.length=bM.keys.length+1) (h8:∀x n,P x=some n→cr n≤232)
   (og:i+1<bM.kids.length) (fG:k9 hA eV k)
   (bG:nk (kG P (h+1)) hi eV (bM.keys.drop i) (bM.kids.drop (i+1)) cA cn) (al:fK P (h+1) fe hA eV oV pJ) (U:cr fe<80):
   ∃ (o:aO) (aa:i+1<bM.kids.length) (gO:i<bM.keys.length),P bM.kids[i+1]=some o∧o.leaf=fe.leaf∧eG bM.keys[i]∧zf (hC fe bM.keys[i] o):=by
 obtain ⟨s,gW,r,gl,N,aif,aj,rfl,se,rfl,rfl,⟨hw,m,hm,kI⟩,JU⟩:=bG.head (by rw[fF];omega)
 have se:s=bM.keys[i]'(by omega):=by rw[se,JL];rfl
 have E0:(bM.kids.drop (i+1))[0]'(by rw[fF];omega)=bM.kids[i+1]'og:=by rw[JL]
 rw[E0] at hw hm
 obtain ⟨o,sQ,lf,rfl,_,qh⟩:=hw.wq
 rw[lf] at hm
 have kI:2≤o.keys.length:=by rw[Option.some.inj hm];exact kI
 clear hm
 subst se
 have j6:=(show kG P (h+1) (some (bM.keys[i]'(by omega))) gW (bM.kids[i+1]'og) (bM.kids[i+1]'og::sQ) N from ⟨hw,o,lf,kI⟩).in
 obtain ⟨x,af⟩:=JG _ j6.1
 have sf:=kq _ (e3 (l:=bM.keys) (n:=i) (by omega))
 have Cx:=fK.merge al qh sf (fun c ak=>qL (tM (fG.1 c ak) (fG.2 _ rfl))) (fun c ak=>qL (tM ((j6.2.2 x af).1 _ rfl) ((j6.2.2 x af).2 c ak)))
 have dE:=NN al qh sf (by have:=h8 _ _ lf;omega)
 have Hc:=NM (a:=fe) (b:=o) (s:=bM.keys[i]'(by omega))
 refine ⟨o,og,by omega,lf,by rw[qh.leaf,al.leaf],sf,Cx.UX dE.1 dE.2 fun _ e=> ?_⟩
 rw[e,wo] at Hc
 omega
inductive Ctx (P:Nat→Option aO) (k:Key) (top:Nat):Nat→Option Key→Option Key→List (Nat×aO×Nat)→List Nat→List bo→List bo→Prop
 |top:Ctx P k top top none none [] [] [] []
 |step {jk:Nat} {lo hi hA eV:Option Key} {st:List (Nat×aO×Nat)} {h5:List Nat} {A B:List bo} {no:Nat} {n:aO} {cq cA:List Nat} {b1 cn:List bo} (h:Ctx P k top (jk+2) lo hi st h5 A B) (h8:P no=some n) (aB:n.leaf=false) (jc:∀k∈n.keys,eG k) (rz:∀x∈n.kids,x<1600)
     (hlen:n.kids.length=n.keys.length+1) (ae:n.keys≠ []) (dW:st≠ []→2≤n.keys.length) (fG:k9 hA eV k) (aV:kW (kG P (jk+1)) lo hA (n.keys.take (fT n.keys k)) (n.kids.take (fT n.keys k)) cq b1)
     (bG:nk (kG P (jk+1)) hi eV (n.keys.drop (fT n.keys k)) (n.kids.drop (fT n.keys k+1)) cA cn):Ctx P k top (jk+1) hA eV (st++ [(no,n,fT n.keys k)]) (no::(cq++(cA++h5))) (A++b1) (cn++B)
theorem Ctx.jk {k:Key} {top jk:Nat} {st:List (Nat×aO×Nat)} {h5:List Nat} {A B:List bo} (h:Ctx P k top jk lo hi st h5 A B):jk+st.length=top:=by
 induction h with
 |top=>rfl
 |step h _ _ _ _ _ _ _ _ _ _ dx=>rw[eC,ru];omega
theorem Ctx.agree {Q:Nat→Option aO} {k:Key} {top jk:Nat} {st:List (Nat×aO×Nat)} {h5:List Nat} {A B:List bo} (h:Ctx P k top jk lo hi st h5 A B) (J:∀x∈h5,P x=Q x):Ctx Q k top jk lo hi st h5 A B:=by
 induction h with
 |top=>exact .top
 | @step jk lo hi hA eV st h5 A B no n cq cA b1 cn h h8 aB jc rz hlen ae dW fG aV bG dx=>
   refine .step (dx fun x af=>J x (by simp[af])) (by rw[←J no (by simp)];exact h8) aB jc rz hlen ae dW fG (aV.yi fun _ _ _ _ _ aj hw=>hw.agree fun x af=>J x ?_) (bG.yi fun _ _ _ _ _ aj hw=>hw.agree fun x af=>J x ?_)
   · have:=aj x af;simp[this]
   · have:=aj x af;simp[this]
theorem Ctx.down {k:Key} {top:Nat}:∀ {jk:Nat} {lo hi:Option Key} {st:List (Nat×aO×Nat)} {h5:List Nat} {A B M iB:List bo} {no:Nat} {p:List Nat},Ctx P k top (jk+1) lo hi st h5 A B→jD P (jk+1) lo hi no p M→(st≠ []→∃m,P no=some m∧2≤m.keys.length)→k9 lo hi k→iB=A++(M++B)→(∀u,Loc k u→u iB=A++(u M++B))→
   ∃ (rest kC:List (Nat×aO×Nat)) (lL:Nat) (dc:aO) (kH g4:Option Key) (oO:List Nat) (nE nF:List bo),DF P k (jk+1) no rest∧st++rest=kC++ [(lL,dc,0)]∧Ctx P k top 1 kH g4 kC oO nE nF∧P lL=some dc∧oU dc∧dc.within kH g4∧dc.keys≠ []∧(kC≠ []→2≤dc.keys.length)∧k9 kH g4 k∧
     (p++h5).Perm (lL::oO)∧iB=nE++(dc.gV++nF)∧∀u,Loc k u→u iB=nE++(u dc.gV++nF)
 |0,lo,hi,st,h5,A,B,M,iB,no,p,ak,hw,ad,fG,dy,hu=>by
   obtain ⟨n,U,aq,aK,aW,rfl,rfl⟩:=hw
   refine ⟨[(no,n,0)],st,no,n,lo,hi,h5,A,B,⟨n,[],U,by rw[aq.leaf];rfl,rfl,rfl⟩,rfl,ak,U,aq,aK,aW,fun aj=> ?_,fG,List.Perm.refl _,dy,hu⟩
   obtain ⟨m,hm,kI⟩:=ad aj
   rw[U] at hm;cases hm
   exact kI
 |jk+1,lo,hi,st,h5,A,B,M,iB,no,p,ak,hw,ad,fG,dy,hu=>by
   obtain ⟨n,fv,U,rfl,aq,al⟩:=hw.wq
   obtain ⟨hA,eV,cq,q,cA,b1,pJ,cn,aa,rfl,rfl,FJ,abH,ao6,hlen,Hb,JU⟩:=al.at fG
   obtain ⟨aC,aG,aJ,aN,_⟩:=al
   have px:=Ctx.step ak U aC aJ aN hlen aq (fun aj=>by
     obtain ⟨m,hm,kI⟩:=ad aj
     rw[U] at hm;cases hm
     exact kI) abH Hb JU
   obtain ⟨rest,kC,lL,dc,kH,g4,oO,nE,nF,ar,bD,bR,iC,kJ,BC,F7,DZ,D1,zo,BD,xF⟩:=Ctx.down (iB:=iB) px FJ.1 (fun _=>FJ.2) abH (by rw[dy];simp only[eF]) (fun u aB=>by rw[hu u aB,ao6 u aB];simp only[eF])
   refine ⟨(no,n,fT n.keys k)::rest,kC,lL,dc,kH,g4,oO,nE,nF,⟨n,rest,U,by rw[aC];simp,by rw[if_neg (by omega)],?_⟩,?_,bR,iC,kJ,BC,F7,DZ,D1,?_,BD,xF⟩
   · rw[od,gT aa]
     exact ar
   · rw[←bD];simp
   · refine List.Perm.trans ?_ zo
     have ba:(no::(cq++(q++cA))++h5)=no::(cq++(q++(cA++h5))):=by simp[eF]
     rw[ba]
     have bp:(q++no::(cq++(cA++h5))).Perm (no::(q++(cq++(cA++h5)))):=Cm
     refine List.Perm.trans ?_ bp.symm
     refine List.Perm.cons _ ?_
     have dM:=(JJ (l₁:=cq) (l₂:=q)).append_right (cA++h5)
     simpa[eF] using dM
end
end
section
theorem UY {α:Type} (a b c:List α):(a++(b++c)).Perm (a++c++b):=by
 rw[eF]
 exact (JJ (l₁:=b) (l₂:=c)).append_left a
theorem Ctx.up {P:Nat→Option aO} {lo hi:Option Key} {k:Key} {top jk:Nat} {st UZ:List (Nat×aO×Nat)} {h5:List Nat} {A B:List bo} {u:gH} {fe:aO} {q:List Nat} {M:List bo} (ak:Ctx P k top jk lo hi st h5 A B) (hE:st=UZ++ [u.st]) (al:fK P jk fe lo hi q M) (h8:∀x n,P x=some n→cr n≤232) (aj:cr fe≤282):
   ∃ (D2 zp:Option Key) (BE:List Nat) (yz D3:List bo) (ps:List Nat),Ctx P k top (jk+1) D2 zp UZ BE yz D3∧h5=u.no::(ps++BE)∧P u.no=some u.n∧u.e1<u.n.kids.length∧u.n.kids.length=u.n.keys.length+1∧u.n.keys≠ []∧(UZ≠ []→2≤u.n.keys.length)∧
     (80≤cr fe→∀ (Q:Nat→Option aO) (ks:List Key) (kids:List Nat),Ae Q fe ks kids→(∀x∈ps++q,P x=Q x)→(∀x∈kids,x<1600)→∃ (g3:List Nat) (M2:List bo),fK Q (jk+1) (mn u.n u.e1 (u.e1+1) ks kids) D2 zp g3 M2∧yz++(M2++D3)=A++(M++B)∧g3.Perm (kids++(ps++q))∧
       cr (mn u.n u.e1 (u.e1+1) ks kids)≤cr u.n+27∧u.n.keys.length≤(mn u.n u.e1 (u.e1+1) ks kids).keys.length+1)∧
     (cr fe<80→∃ (o:aO) (no:Nat) (rest:List Nat),u.n.kids[tl u]? =some no∧P no=some o∧o.leaf=fe.leaf∧u.e1-1<u.n.keys.length∧eG (u.n.keys.getD (u.e1-1) [])∧zf (zl u fe o)∧ps.Perm (no::rest)∧
       ∀ (Q:Nat→Option aO) (ks:List Key) (kids:List Nat),Ae Q (zl u fe o) ks kids→(∀x∈rest++q,P x=Q x)→(∀x∈kids,x<1600)→∃ (g3:List Nat) (M2:List bo),fK Q (jk+1) (mn u.n (u.e1-1) (u.e1-1+2) ks kids) D2 zp g3 M2∧yz++(M2++D3)=A++(M++B)∧g3.Perm (kids++(rest++q))∧
         cr (mn u.n (u.e1-1) (u.e1-1+2) ks kids)≤cr u.n+27∧u.n.keys.length≤(mn u.n (u.e1-1) (u.e1-1+2) ks kids).keys.length+1):=by
 cases ak with
 |top=>
   have:=congrArg List.length hE
   simp at this
 | @step jk D2 zp _ _ awk BE yz D3 abI bM cq cA b1 cn h ao7 aB jc rz hlen ae dW fG aV bG=>
   obtain ⟨rfl,ad⟩:=List.append_inj' hE rfl
   have aq:(abI,bM,fT bM.keys k)=u.st:=by simpa using ad
   have c8:abI=u.no:=congrArg Prod.fst aq
   have aD:bM=u.n:=congrArg (fun x=>x.2.1) aq
   have abJ:fT bM.keys k=u.e1:=congrArg (fun x=>x.2.2) aq
   subst c8 aD
   rw[abJ] at aV bG
   have kA:=NH u.n.keys k
   rw[abJ] at kA
   refine ⟨D2,zp,BE,yz,D3,cq++cA,h,by rw[eF],ao7,by omega,hlen,ae,dW,fun zq Q ks kids aA J Ls=> ?_,fun zq=> ?_⟩
   · obtain ⟨fv,aC,aG,aJ,aN⟩:=aib aB jc rz aV bG al zq aj aA (fun x af=>J x (by
       simp only[fa] at af⊢
       rcases af with af|af|af
       · exact .inl (.inl af)
       · exact .inr af
       · exact .inl (.inr af))) Ls
     refine ⟨fv,_,aC,by simp only[eF],aG.trans (List.Perm.append_left kids ?_),aJ,by omega⟩
     exact UY cq q cA
   · by_cases b5:u.e1=0
     · obtain ⟨o,vJ,sy,ra,Px,U0,Iu⟩:=ao5 jc hlen h8 (i:=u.e1) (by
         have:u.n.keys.length≠0:=fun e=>ae (List.eq_nil_of_length_eq_zero e)
         omega) fG bG al zq
       obtain ⟨lF,Hd,abK,vy,Lt,U1,_,U2⟩:=aie aB jc rz hlen h8 vJ fG aV bG al zq
       rw[ra] at Lt
       obtain rfl:=Option.some.inj Lt
       have ba:tl u=u.e1+1:=by unfold tl;rw[if_pos b5,b5]
       have bp:u.e1-1=u.e1:=by omega
       have dM:u.n.keys.getD (u.e1-1) []=u.n.keys[u.e1]:=by rw[bp,od,gT sy];rfl
       have j8:zl u fe o=hC fe u.n.keys[u.e1] o:=by unfold zl;rw[if_pos (by rw[ba];omega),dM]
       refine ⟨o,u.n.kids[u.e1+1],cq++Hd,by rw[ba];exact gT vJ,ra,Px,by omega,by rw[dM];exact U0,by rw[j8];exact Iu,?_,fun Q ks kids aA J Ls=> ?_⟩
       · exact (List.Perm.append_left cq U1).trans Cm
       · rw[j8] at aA
         obtain ⟨fv,aC,aG,aJ,aN⟩:=U2 Q ks kids aA (fun x af=>J x (by
           simp only[fa] at af⊢
           rcases af with af|af|af
           · exact .inl (.inl af)
           · exact .inr af
           · exact .inl (.inr af))) Ls
         rw[bp]
         exact ⟨fv,_,aC,by simp only[eF],aG.trans (List.Perm.append_left kids (UY cq q Hd)),aJ,aN⟩
     · obtain ⟨o,vJ,sy,ra,Px,U0,Iu⟩:=ao4 jc hlen h8 (i:=u.e1) (by omega) (by omega) fG aV al zq
       obtain ⟨lF,Ha,abK,vy,Lt,U1,_,U2⟩:=aic aB jc rz hlen h8 (by omega) (by omega) fG aV bG al zq
       rw[ra] at Lt
       obtain rfl:=Option.some.inj Lt
       have ba:tl u=u.e1-1:=by unfold tl;rw[if_neg b5]
       have dM:u.n.keys.getD (u.e1-1) []=u.n.keys[u.e1-1]:=by rw[od,gT sy];rfl
       have j8:zl u fe o=hC o u.n.keys[u.e1-1] fe:=by unfold zl;rw[if_neg (by rw[ba];omega),dM]
       have lX:u.e1-1+2=u.e1+1:=by omega
       refine ⟨o,u.n.kids[u.e1-1],Ha++cA,by rw[ba];exact gT vJ,ra,Px,sy,by rw[dM];exact U0,by rw[j8];exact Iu,?_,fun Q ks kids aA J Ls=> ?_⟩
       · exact (U1.append_right cA)
       · rw[j8] at aA
         obtain ⟨fv,aC,aG,aJ,aN⟩:=U2 Q ks kids aA (fun x af=>J x (by
           simp only[fa] at af⊢
           rcases af with af|af|af
           · exact .inl (.inl af)
           · exact .inr af
           · exact .inl (.inr af))) Ls
         rw[lX]
         exact ⟨fv,_,aC,by simp only[eF],aG.trans (List.Perm.append_left kids (UY Ha q cA)),aJ,aN⟩
end
section
theorem fY.ao8 {w:World} {T:bf} {c:gK} {E:Nat→Prop} (h:fY w T c) (gw:∀q,E q→T.E q):fY w (T.dF E T.G) c:=
 h.of (av:=T.dF E T.G) (W:=fun _=>False) (h.t.grow (W:=fun _=>False) (ao.refl _ _) (fun _ h=>h.elim) (fun q J=> .inl (gw q J)) (fun q J=> .inr (.inl J)) fun q J=>(h.t.iJ q (gw q J)).2.2) (ao.refl _ _) (fun _ _ h=>h) rfl fun _ h=>h
theorem fZ.local {T av:bf} {c c':gK} {m l:List Nat} {dv:Nat→Prop} {w ag w':World} {k:Nat} (h:fZ (T.dF dv T.G) av c c' m l ag w' k) (af:Ext w ag) (mw:∀q,dv q→T.E q∨w.heap.size≤q) (gw:∀q,T.E q→dv q):fZ T (av.dF T.E av.G) c c' m l w w' k:=
 ⟨h.to.local af mw (fun q J=> .inl J) (fun q J=> .inl (by rw[h.E];exact gw q J)) fun q J=>J,rfl,h.G,h.root,h.bx,h.dq,h.made,h.left,h.e0,h.tg,h.f,h.g8,h.room⟩
theorem fY.abL {w w':World} {T:bf} {c:gK} {W:Nat→Prop} (h:fY w T c) (ak:ao W w w') (dY:∀q,W q→T.E q∨w.heap.size≤q):fY w' T c:=by
 have dh:ao (fun q=>T.E q) w w':=jw (W:=fun q=>T.E q) (ao.refl _ _) ak fun q J hw=>(dY q hw).resolve_right (by omega)
 exact h.of (h.t.grow (E:=T.E) (G:=T.G) dh (fun q J _=> .inl J) (fun q J=> .inl J) (fun q J=> .inr (.inl J)) fun q J=>(h.t.iJ q J).2.2) dh (fun q bl he=>(h.t.iJ q he).2.2 bl) rfl fun _ h=>h
theorem ur.to {w w':World} {T av:bf} {k:Nat} {s:ab} {l:List gH} (h:ur (fun q=>¬T.M q) w s l) (aU:cp T av w w' k):ur (fun q=>¬av.M q) w' s l:=by
 refine ⟨h.own.an aU.an fun q J aD=>h.FH q J (bf.mM aD),fun q J hm=> ?_,fun x af=> ?_⟩
 · rcases aU.fP q hm with U|U
   · exact h.FH q J U
   · have:=bX.lt h.own q J;omega
 · exact (aU.e0 (lo:=0) ((h.e0 x af).bA fun q _ aa=>⟨fi _,aa⟩)).bA fun q _ aa=>aa.2
theorem ur.at {B:Nat→Prop} {w:World} {s:ab} {l:List gH} (h:ur B w s l) {i:Nat} (hi:i<l.length):∃A:Addr,s.a=some A∧s.len=l.length∧B A.block∧w.cell? (A.add (i*6))=some (.int .i64 ((l[i]).no:Nat))∧zg B w (A.add (i*6)) l[i]:=by
 have aB:=h.own.1
 rw[nW _ (DE l)] at aB
 have gh:s.len=l.length:=by omega
 rcases h.own.2.2.2 with ⟨U,ad⟩|⟨b,c,aa,al,fq,l1⟩
 · have:=h.own.2.1
   omega
 · have jF:∀j,j<6→w.cell? ⟨b,i*6+j,none⟩=((gH.c l[i]))[j]? :=fun j aZ=>by
     rw[cj.cell al,←KP (DE l) hi aZ,←l1]
     rw[NC,if_pos (by omega),Array.getElem?_toList]
   refine ⟨⟨b,0,none⟩,aa,gh,h.FH b ⟨_,aa,rfl⟩,?_,?_⟩
   · rw[aX,gJ]
     exact jF 0 (by decide)
   · rw[aX,gJ]
     refine ⟨?_,?_,?_,?_,?_,h.e0 _ (e3 hi),h.FH b ⟨_,aa,rfl⟩,bX.lt h.own b ⟨_,aa,rfl⟩⟩
     · rw[aX];exact jF 1 (by decide)
     · rw[aX,aX];exact jF 2 (by decide)
     · rw[aX,aX];exact jF 3 (by decide)
     · rw[aX,aX];exact jF 4 (by decide)
     · rw[aX];exact jF 5 (by decide)
theorem Ctx.abM {P:Nat→Option aO} {lo hi:Option Key} {k:Key} {top jk:Nat} {h5:List Nat} {A B:List bo} (h:Ctx P k top jk lo hi [] h5 A B):jk=top∧lo=none∧hi=none∧h5=[]∧A=[]∧B=[]:=by
 generalize hE:([]:List (Nat×aO×Nat))=st at h
 cases h with
 |top=>exact ⟨rfl,rfl,rfl,rfl,rfl,rfl⟩
 |step h=>
   have:=congrArg List.length hE
   simp at this
end
section
def BF (T:bf) (c:gK) (di:List Nat) (iK:List bo) (w:World) (v:Value) (w':World):Prop:=
 ∃ (av:bf) (c':gK) (m l:List Nat),fY w' av c'∧fZ T av c c' m l w w' 60∧
   ((v= .tuple #[.int .i64 0, .int .i64 0, .int .i64 0]∧iK=[]∧l.Perm (m++di))∨
    (∃ (root h:Nat) (pages:List Nat),v= .tuple #[.int .i64 (root:Nat), .int .i64 (h:Nat), .int .i64 0]∧jD av.P h none none root pages iK∧(pages++l).Perm (m++di)∧1≤h∧h≤T.bx+1)∨
    (∃a b:Int,v= .tuple #[.int .i64 a, .int .i64 b, .int .i64 3]∧¬T.C.D.calm 60))
theorem BF.local {T:bf} {c:gK} {di:List Nat} {iK:List bo} {dv:Nat→Prop} {w ag w':World} {v:Value} (h:BF (T.dF dv T.G) c di iK ag v w') (af:Ext w ag) (mw:∀q,dv q→T.E q∨w.heap.size≤q) (gw:∀q,T.E q→dv q):BF T c di iK w v w':=by
 obtain ⟨av,c',m,l,U,ad,aq⟩:=h
 exact ⟨av.dF T.E av.G,c',m,l,U.ao8 fun q J=>by rw[ad.E];exact gw q J,ad.local af mw gw,aq⟩
structure ao9 (c2:bf) (c:gK) (aS:World) (wl:List gH) (k:Key) (di:List Nat) (iK:List bo) (ws:ab) (pC:Nat) (i:Nat) (w':World) (av:bf) (c':gK) (m l:List Nat) (n:aO) (K V D:ab) (lo hi:Option Key) (h5:List Nat) (A B:List bo) (q:List Nat) (M:List bo) (r:List Nat):Prop where
 ON:i<wl.length
 U3:fY w' av c'
 to:fZ c2 av c c' m l aS w' (4*(wl.length-1-i))
 Py:m.length≤2*(wl.length-1-i)
 abN:l.length≤2*(wl.length-1-i)
 pC:Var w' pC (hX n K V D) ah.cR
 e0:ck (fun q=>¬av.M q) w' n K V D
 lM:ur (fun q=>¬av.M q) w' ws wl
 ctx:Ctx av.P k wl.length (wl.length-i) lo hi ((wl.take i).map gH.st) h5 A B
 wq:fK av.P (wl.length-i) n lo hi q M
 eq:A++(M++B)=iK
 pp:di.Perm ((wl[i]).no::(r++h5))
 acc:(q++l).Perm (m++r)
 sz:cr n≤282
 ao_:1≤i→n.keys≠ []
 abO:∀x∈q++h5,av.f x=true
theorem dz.F8 {w:World} {T:bf} (h:dz w T):∀x n,T.P x=some n→cr n≤232:=fun x n af=>(h.l_ x n af).2.is.2.2
theorem p5.cs {T:bf} {c:gK} {n:aO} {w w':World} {s:ab} {e:Int} (h:p5 T c n w (.tuple #[.slice s.a s.len s.cap, .int .i64 e]) w'):
   ∃ (av:bf) (c':gK) (m:List Nat),fY w' av c'∧fZ T av c c' m [] w w' 2∧m.length≤2∧((e=0∧∃ks,Ae av.P n ks m∧xt (fun q=>¬av.M q) w' s ks m)∨(e=3∧¬T.C.D.calm 2)):=by
 obtain ⟨av,c',m,s2,U,ad,aq,aK⟩:=h
 refine ⟨av,c',m,U,ad,aq,?_⟩
 rcases aK with ⟨ks,al,aW,b7⟩|⟨al,aW⟩
 · simp at al
   obtain ⟨⟨a7,cQ,a3⟩,rfl⟩:=al
   obtain rfl:s=s2:=by cases s;cases s2;simp_all
   exact .inl ⟨rfl,ks,aW,b7⟩
 · simp at al
   exact .inr ⟨al.2,aW⟩
theorem apa {P Q U4:Nat→Option aO} {t:Nat} {n:aO} {q:List Nat} {M:List bo} {uI:Key} {x y no:Nat} (al:fK P (t+1) n none none q M) (aj:cr n≤282) (aA:Ae Q n [uI] [x,y]) (J:∀z∈q,P z=Q z) (aD:U4 no=some ⟨false,[uI],[],[x,y]⟩) (hL:∀z∈x::y::q,Q z=U4 z) (af:x<1600) (b2:y<1600):
   eG uI∧∃pages,jD U4 (t+2) none none no pages M∧pages.Perm (no::x::y::q):=by
 have zq:232<cr n:=by
   rcases aA with ⟨_,z,e,_⟩|⟨h,_⟩
   · cases e
   · exact h
 obtain ⟨fv,aC,aG,aJ,_⟩:=al.fits (al.RY (by omega)) (fun _=>by omega) (fun _=>by omega) aA J
 have pD:fK Q (t+2) ⟨false,[uI],[],[x,y]⟩ none none fv M:=⟨rfl,rfl,aJ,fun z bF=>by
   simp only[gg,ml,mm] at bF
   rcases bF with rfl|rfl<;>assumption,aC⟩
 refine ⟨aJ uI (by simp),no::fv,pD.lay (by simp) aD fun z bF=>hL z ?_,List.Perm.cons no aG⟩
 have:=aG.mem_iff.1 bF
 simpa using this
theorem D4 {a b:List Nat}:a.Perm b↔∀x,a.count x=b.count x:=List.perm_iff_count
theorem BG {q l m r:List Nat} {no:Nat} (h:(q++l).Perm (m++r)):(q++(l++ [no])).Perm (m++(no::r)):=by
 rw[D4] at h⊢
 intro x
 have:=h x
 simp only[EU,G4,G5] at this⊢
 omega
theorem rV {q l m r g3 ps ms ls rest:List Nat} (h:(q++l).Perm (m++r)) (ad:g3.Perm (ms++(rest++q))) (aq:ps.Perm (ls++rest)):(g3++(l++ls)).Perm ((m++ms)++(ps++r)):=by
 rw[D4] at h ad aq⊢
 intro x
 have:=h x
 have:=ad x
 have:=aq x
 simp only[EU,G4,G5] at*
 omega
theorem BH {di r ps BE:List Nat} {u:Nat} (h:di.Perm (r++(u::(ps++BE)))):di.Perm (u::((ps++r)++BE)):=by
 rw[D4] at h⊢
 intro x
 have:=h x
 simp only[EU,G4,G5] at*
 omega
end
section
theorem apb {w:World} {T:bf} {c:gK} {wl:List gH} {k:Key} {di h5:List Nat} {iK A B M:List bo} {lo hi:Option Key} {ws:ab} {n:aO} {K V D:ab} (h:fY w T c) (hw:ur (fun q=>¬T.M q) w ws wl) (aD:ck (fun q=>¬T.M q) w n K V D) (dN:0<wl.length) (hlen:wl.length=T.bx) (c4:T.bx<12)
   (gA:T.C.D.cl≤900000000) (jx:2*T.bx+3≤fR T) (Ay:c.made.length≤100) (dt:c.left.length≤100) (abP:Ctx T.P k wl.length 1 lo hi ((wl.take (wl.length-1)).map gH.st) h5 A B) (pD:fK T.P 1 n lo hi [] M) (heq:A++(M++B)=iK)
   (tn:di.Perm ((wl[wl.length-1]'(by omega)).no::h5)) (dE:cr n≤282) (F9:2≤wl.length→n.keys≠ []) (uJ:∀x∈h5,T.f x=true):
   aP Tryz.prog F.xG #[.pointer (some ⟨c.dq,0,none⟩), .slice ws.a ws.len ws.cap,fg n K V D] w (BF T c di iK w):=by
 refine W.abQ (some ⟨c.dq,0,none⟩) ws n.leaf K V D w _ ?_
 (delta W.xG bR ai ar dA aE aF bc bD st oy U5 nq gE;dsimp only)
 refine cx (vs:=hX n K V D) rfl fun ag gx bK k_=> ?_
 obtain ⟨cK,bm,bj,bk⟩:=cu gx
 refine ⟨_,cK,K,bm,V,bj,D,bk,cx (vs:=[.bool false, .slice none 0 0, .slice none 0 0, .slice none 0 0]) rfl fun bg wQ kt Ox=>⟨wQ.du rfl mc,rfl,eg wQ (us:=hX n K V D) rfl rfl fun aS Iv qV HC=> ?_⟩⟩
 have eW:Ext w aS:=bK.trans (Ext.e_ kt qV (cP _))
 obtain ⟨pC,Iq⟩:∃pC,pC=ag.heap.size:=⟨_,rfl⟩
 rw[←Iq] at Iv⊢
 obtain ⟨dv,mw⟩:∃dv,dv=fun q=>T.E q∨q=pC:=⟨_,rfl⟩
 have pB:∀q,T.E q→dv q:=fun q J=>by rw[mw];exact .inl J
 have sA:∀q,dv q→T.E q∨q=pC:=fun q J=>by rw[mw] at J;exact J
 have Lu:dv pC:=by rw[mw];exact .inr rfl
 have awl:=Iv.lt
 have hV:fY aS (T.dF dv T.G) c:=h.of (W:=fun _=>False) (h.t.grow (W:=fun _=>False) eW (fun _ h=>h.elim) (fun q J=>(sA q J).imp id fun e=> .inr ⟨by omega,by omega⟩) (fun q J=> .inr (.inl J)) fun q J bl=>by
   rcases sA q J with U|U
   · exact (h.t.iJ q U).2.2 bl
   · have:=h.t.lt (q:=q) (.inr (.inr (.inr (.inr bl))));omega) eW (fun _ _ h=>h) rfl fun _ h=>h
 have rW:cp T (T.dF dv T.G) w aS 0:=(cp.refl T w).step (W:=fun _=>False) eW (fun _ h=>h.elim) (fun q J=>(sA q J).imp id fun e=> .inr (by omega)) fun q J=> .inl J
 have conv:∀ (v:Value) (w':World),BF (T.dF dv T.G) c di iK ag v w'→BF T c di iK w v w':=fun v w' hu=>hu.local bK (fun q J=>(sA q J).imp id fun e=>by omega) pB
 obtain ⟨c2,nD⟩:∃c2,c2=T.dF dv T.G:=⟨_,rfl⟩
 have Fv:=hw.to rW
 have HI:ck (fun q=>¬(T.dF dv T.G).M q) aS n K V D:=(rW.e0 (lo:=0) (aD.bA fun q _ aa=>⟨fi _,aa⟩)).bA fun q _ aa=>aa.2
 have ba:c2.P=T.P:=by rw[nD];rfl
 have bp:c2.f=T.f:=by rw[nD];rfl
 have dM:c2.E pC:=by rw[nD];exact Lu
 have j8:fR c2=fR T:=by rw[nD];rfl
 have lX:c2.C=T.C:=by rw[nD];rfl
 have vL:c2.bx=T.bx:=by rw[nD];rfl
 rw[←nD] at hV Fv HI conv
 clear nD rW mw pB sA Lu
 have awm:pC=ag.heap.size:=Iq
 have D5:ws.len=wl.length:=by
   have:=hw.own.1
   rw[nW _ (DE wl)] at this;omega
 refine ⟨fun n10 w'=>∃ (i:Nat) (av:bf) (c':gK) (m l:List Nat) (n:aO) (K V D:ab) (lo hi:Option Key) (h5:List Nat) (A B:List bo) (q:List Nat) (M:List bo) (r:List Nat),n10=(i:Nat)∧ao9 c2 c ag wl k di iK ws pC i w' av c' m l n K V D lo hi h5 A B q M r,fun n10 _=>(n10+1).toNat,
   ⟨wl.length-1,c2,c,[],[],n,K,V,D,lo,hi,h5,A,B,[],M,[],?_,?_⟩,?_⟩
 · rw[cL (by omega) (by omega)];omega
 · have e:wl.length-(wl.length-1)=1:=by omega
   refine ⟨by omega,hV,(fZ.ext c2 c (Ext.e_ kt qV (cP _))).mono (by omega),fi _,fi _,Iv,HI,Fv,by rw[e,ba];exact abP,by rw[e,ba];exact pD,heq,by simpa using tn,List.Perm.refl _,dE,fun U=>F9 (by omega),fun x af=>by rw[bp];exact uJ x (by simpa using af)⟩
 clear abP pD heq tn dE F9 uJ aD HI Iv hw Fv gx cK bm bj bk wQ
 rintro _ cf ⟨i,av,c',m,l,n,K,V,D,lo,hi,h5,A,B,q,M,r,rfl,I⟩
 have abR:=I.ON
 have Pz:=I.to.dq
 refine ⟨fun _=>bN ?_,fun aa=> ?_⟩
 rotate_left
 · have:¬((i:Nat):Int)≥0:=fb aa
   omega
 have bB:Ext cf cf.drew:=ej _
 obtain ⟨cy,apc⟩:∃cy,cy=cf.drew:=⟨_,rfl⟩
 rw[←apc] at bB⊢
 have m8:=I.U3.ext bB
 have ub:=m8.cells.2.2
 rw[Pz] at ub
 have abS:ur (fun q=>¬av.M q) cy ws wl:=I.lM.to (cp.ext av bB)
 obtain ⟨Lv,U6,awn,apd,c8,_⟩:=abS.at abR
 have aax:c'.left.length≤200:=by rw[I.to.left,eC];have:=I.abN;omega
 have ape:c'.made.length≤200:=by rw[I.to.made,eC];have:=I.Py;omega
 obtain ⟨au,cC,aC,aG,aJ,aN,cX⟩:=aaF m8 (wl[i]).no (by omega)
 rw[Pz] at aJ aN cX
 have o2:∀n,(Lv.add n).block=Lv.block:=fun n=>by unfold Addr.add;split<;>rfl
 have abT:∀q,aQ c'.mb q→av.M q:=fun q J=> .inr (.inr (.inr (.inr (m8.vB q J).1)))
 refine ⟨aQ c'.mb,_,rfl,fun J=>(m8.vB _ J).2 (by rw[Pz,aX]),c'.mb,ub,Lv,U6,⟨by omega,by omega⟩,fun J=>apd (abT _ ((o2 _)▸J)),_,by rw[g_];exact c8,bN ⟨ao.eN (iM _ _),au,cC,aC,aG,_,rfl,by rw[aX];exact aJ,by rw[aX];exact aN,bN ?_⟩⟩
 rw[aX,gJ]
 obtain ⟨cF,abU⟩:∃cF,cF=cC.setCell ⟨c.dq,2,none⟩ (.slice au.a au.len au.cap):=⟨_,rfl⟩
 rw[←abU]
 obtain ⟨zr,xH⟩:=cX cF abU
 have U7:=fZ.leave (c:=c') (c':=⟨c.dq,c'.nz,au,c'.made,c'.left++ [(wl[i]).no]⟩) (no:=(wl[i]).no) xH rfl (fun q J=> .inl J) Pz.symm rfl rfl
 have vM:=(I.to.trans (fZ.ext av c' bB)).trans U7
 simp only[lP,z7] at vM
 have abV:av.E pC:=by rw[I.to.E];exact dM
 have U8:=(I.pC.ext bB).an xH.an (m8.t.ue abV)
 have U9:=abS.to xH
 have Lw:ck (fun q=>¬(av.dF av.E fun q=>av.G q∨aQ au q).M q) cF n K V D:=(xH.e0 (lo:=0) ((I.e0.ext bB).bA fun q _ aa=>⟨fi _,aa⟩)).bA fun q _ aa=>aa.2
 obtain ⟨df,DU⟩:∃df,df=av.dF av.E fun q=>av.G q∨aQ au q:=⟨_,rfl⟩
 have cq:df.P=av.P:=by rw[DU];rfl
 have cA:df.f=av.f:=by rw[DU];rfl
 have gl:fR df=fR av:=by rw[DU];rfl
 have p6:df.E pC:=by rw[DU];exact abV
 have xI:df.bx=T.bx:=by rw[DU];show av.bx=_;rw[I.to.bx,vL]
 rw[←DU] at zr xH U7 vM U9 Lw
 obtain ⟨bj,dh⟩:∃bj:gK,bj=⟨c.dq,c'.nz,au,c'.made,c'.left++ [(wl[i]).no]⟩:=⟨_,rfl⟩
 rw[←dh] at zr U7 vM
 have mz:bj.dq=c.dq:=by rw[dh]
 have g3:bj.made.length≤200:=by rw[dh];exact ape
 have DN:bj.left.length≤201:=by rw[dh,eC,ru];omega
 obtain ⟨bM,dc,c7,bw⟩:=cu U8
 have H_:=bU.len Lw.keys
 have abW:∀ (w':World) (v:Value),Ext cF w'→(∀ {dp bk Lx},dp=df→bk=bj→Lx=l++ [(wl[i]).no]→((v= .tuple #[.int .i64 0, .int .i64 0, .int .i64 0]∧iK=[]∧Lx.Perm (m++di))∨
    (∃ (root h:Nat) (pages:List Nat),v= .tuple #[.int .i64 (root:Nat), .int .i64 (h:Nat), .int .i64 0]∧jD (bf.P dp) h none none root pages iK∧(pages++Lx).Perm (m++di)∧1≤h∧h≤c2.bx+1)∨
    (∃a b:Int,v= .tuple #[.int .i64 a, .int .i64 b, .int .i64 3]∧¬c2.C.D.calm 60)))→BF T c di iK w v w':=by
   intro w' v af hd
   refine conv v w' ⟨df,bj,m,l++ [(wl[i]).no],?_,?_,hd (bk:=bj) rfl rfl rfl⟩
   · exact zr.ext af
   · have:=(vM.trans (fZ.ext df _ af)).mono (j:=60) (by omega)
     simp only[lP] at this
     exact this
 refine ff (fun b w'=>(b=true↔(i=0∧n.keys=[]))∧cF=w') (fun Z u3=>⟨fun b5=>⟨K,dc,u3 _ _ ⟨?_,rfl⟩⟩,fun b5=>u3 _ _ ⟨?_,rfl⟩⟩) ?_
 · have b5:i=0:=by
     have:((i:Nat):Int)=0:=by simpa using b5
     omega
   rw[yb]
   constructor
   · intro U
     exact ⟨b5,List.eq_nil_of_length_eq_zero (by omega)⟩
   · rintro ⟨_,U⟩
     rw[U] at H_
     simp at H_;omega
 · have b5:i≠0:=by
     have:¬((i:Nat):Int)=0:=by simpa using b5
     omega
   exact ⟨fun h=>(by cases h),fun h=>absurd h.1 b5⟩
 rintro xJ _ ⟨abX,rfl⟩
 refine ⟨fun aa=> ?_,fun aa=> ?_⟩
 · obtain ⟨b5,kq⟩:=abX.1 aa
   subst b5
   have mA:Ext cF cF.drew:=ej _
   obtain ⟨pU,vJ,sy,ra⟩:=cu (U8.ext mA)
   have PA:=(zr.ext mA).cells.1
   rw[mz] at PA
   have apf:=(zr.ext mA).t.cells.2.2.2.2
   obtain ⟨t1,t2,t3,t4,t5,t6⟩:=Ctx.abM (by simpa using I.ctx)
   have pD:=I.wq
   have tn:=I.pp
   have heq:=I.eq
   have vN:=BG (no:=(wl[0]).no) I.acc
   subst t2 t3 t4 t5 t6
   rw[r6,lP] at heq
   rw[lP] at tn
   subst heq
   have U_:n.leaf=false→∃x,n.kids=[x]∧1≤df.bx∧jD av.P (df.bx-1) none none x q M∧1≤df.bx-1:=by
     intro aB
     have e:wl.length-0=df.bx:=by rw[xI];omega
     rw[e] at pD
     cases aU:df.bx with
     |zero=>omega
     |succ t=>
       rw[aU] at pD
       cases t with
       |zero=>
         have:=pD.1.leaf
         rw[aB] at this;cases this
       |succ t=>
         obtain ⟨v1,v2,v3,v4,v5⟩:=pD
         rw[kq] at v5
         generalize rz:n.kids=D6 at v5
         cases v5 with
         |one h=>exact ⟨_,rfl,by omega,h.1,by omega⟩
   refine bN ⟨fun _=>False,id,_,pU,K,vJ,V,sy,D,ra,_,rfl,id,_,PA,_,rfl,id,_,apf,(zn (Lw.ext mA) df.bx (by omega) fun aB=>by obtain ⟨x,a7,cQ,_⟩:=U_ aB;exact ⟨x,a7,cQ⟩).use ?_⟩
   rintro v w' ⟨rfl,cD⟩
   have pT:=mA.trans cD
   cases aB:n.leaf with
   |true=>
     rw[if_pos rfl]
     have jG:=pD.leaf
     rw[aB] at jG
     have PB:wl.length-0=1:=dL jG.symm
     rw[PB] at pD
     obtain ⟨v1,v2,v3,v4⟩:=pD
     subst v3
     refine ⟨_,_,_,rfl,cD,abW w' _ pT fun {dp bk Lx} a7 cQ a3=> .inl ⟨rfl,?_,?_⟩⟩
     · rw[v4];unfold aO.gV;rw[kq];rfl
     · subst a3
       rw[D4] at vN tn⊢
       intro x
       have:=vN x
       have:=tn x
       simp only[EU,G4,G5] at*
       omega
   |false=>
     rw[if_neg (by simp)]
     obtain ⟨x,a7,cQ,a3,a4⟩:=U_ aB
     refine ⟨_,_,_,rfl,cD,abW w' _ pT fun {dp bk Lx} c3 cG eT=> .inr (.inl ⟨_,_,q,rfl,?_,?_,a4,?_⟩)⟩
     · subst c3
       have sR:n.kids.getD 0 0=x:=by rw[a7];rfl
       rw[sR,cq];exact a3
     · subst eT
       rw[D4] at vN tn⊢
       intro x
       have:=vN x
       have:=tn x
       simp only[EU,G4,G5] at*
       omega
     · omega
 · have F9:n.keys≠ []:=fun e=>by
     rcases G6 i with b5|b5
     · have:=abX.2 ⟨b5,e⟩
       rw[aa] at this;cases this
     · exact I.ao_ b5 e
   have awo:df.C.D.cl≤900000050:=by
     have:=vM.to.cl
     rw[lX] at this
     omega
   have abY:2≤fR df:=by
     have:=vM.room
     have:=I.Py
     omega
   have abZ:∀j,j≤10→¬df.C.D.calm j→¬c2.C.D.calm 60:=fun j aZ aD ak=>aD (vM.to.calm j (mI ak (by omega)))
   have jX:zf n:=I.wq.UX (fun _=>by have:=I.sz;omega) (fun _=>by have:=I.sz;omega) fun _=>F9
   refine ff (fun p w'=>p=(if i=0 then none else some (Lv.add ((i-1)*6)))∧cF=w') (fun Z u3=>⟨fun b5=>⟨Lv,U6,?_,u3 _ _ ⟨?_,rfl⟩⟩,fun b5=>u3 _ _ ⟨?_,rfl⟩⟩) ?_
   · have b5:((i:Nat):Int)>0:=dL b5
     rw[cL (by omega) (by omega)]
     omega
   · have b5:((i:Nat):Int)>0:=dL b5
     have e:((i:Nat):Int)-1=((i-1:Nat):Int):=by omega
     rw[cL (by omega) (by omega),if_neg (by omega),e,g_]
   · have b5:¬((i:Nat):Int)>0:=fb b5
     rw[if_pos (by omega)]
   rintro _ _ ⟨rfl,rfl⟩
   refine ⟨_,bM,K,dc,V,c7,D,bw,?_⟩
   by_cases b5:i=0
   · subst b5
     rw[if_pos rfl]
     have Ly:=aoG zr Lw jX (by omega) abY (by omega)
     rw[mz] at Ly
     refine Ly.use ?_
     rintro _ oP ⟨ih,e,rfl,aA⟩
     obtain ⟨dp,bk,ms,kv,lN,vI,fm⟩:=aA.cs
     have PC:=vM.trans lN
     simp only[lP] at PC
     have apg:bk.dq=c.dq:=by rw[lN.dq,mz]
     rcases fm with ⟨rfl,ks,zt,BI⟩|⟨rfl,fQ⟩
     · refine ⟨ih,_,_,0,rfl,fun h=>(by cases h),fun _=>⟨fun _=> ?_,fun h=>(by simp at h)⟩⟩
       obtain ⟨t1,t2,t3,t4,t5,t6⟩:=Ctx.abM (by simpa using I.ctx)
       have pD:=I.wq
       have tn:=I.pp
       have heq:=I.eq
       have dE:=I.sz
       have vN:=BG (no:=(wl[0]).no) I.acc
       have uJ:=I.abO
       subst t2 t3 t4 t5 t6
       rw[r6,lP] at heq
       rw[lP] at tn uJ
       subst heq
       have aph:df.n≤1600:=zr.t.s.c7
       have Va:∀z∈q,av.P z=dp.P z:=fun z bF=>by
         rw[←cq]
         exact ((lN.g8 z (by rw[cA,uJ z bF];rfl)).1).symm
       have ab0:wl.length-0=(wl.length-1)+1:=by omega
       have ab1:dp.bx=wl.length:=by rw[lN.bx,xI];omega
       rw[ab0] at pD
       have ab2:∀uI x y,ks=[uI]→ms=[x,y]→eG uI∧x<1600∧y<1600:=fun uI x y aC aG=>by
         subst aC aG
         have zq:232<cr n:=by
           rcases zt with ⟨_,z,e,_⟩|⟨h,_⟩
           · cases e
           · exact h
         obtain ⟨fv,_,_,aJ,_⟩:=pD.fits (pD.RY (by omega)) (fun _=>by omega) (fun _=>by omega) zt Va
         have af:=(lN.tg x (by simp)).2
         have b2:=(lN.tg y (by simp)).2
         exact ⟨aJ uI (by simp),by omega,by omega⟩
       have ab3:=ao0 kv BI (fun _=>by omega) ab2 (by have:=lN.to.cl;omega) (by have:=lN.room;have:=vM.room;have:=I.Py;omega) (by rw[lN.made,eC];omega)
       rw[apg] at ab3
       refine ab3.use ?_
       rintro v yR bn
       rcases bn with ⟨x,aC,aG,rfl,aN,cX⟩|⟨uI,x,y,no,oI,gE,aC,aG,aN,cX,xm⟩
       · subst aC aG
         refine ⟨_,_,_,rfl,conv _ _ ⟨dp,bk,m++ [x],l++ [(wl[0]).no],aN,?_, .inr (.inl ⟨x,dp.bx,x::q,rfl,?_,?_,by omega,by omega⟩)⟩⟩
         · have:=(PC.trans (fZ.ext dp bk cX)).mono (j:=60) (by omega)
           simp only[lP] at this
           exact this
         · rcases zt with ⟨_,z,_,e,bF⟩|⟨_,BJ,api,_,e,_⟩
           · cases e
             rw[ab1,show wl.length=wl.length-1+1 by omega]
             exact pD.lay F9 bF Va
           · cases e
         · rw[D4] at vN tn⊢
           intro z
           have:=vN z
           have:=tn z
           simp only[EU,G4,G5] at*
           omega
       · subst aC aG
         obtain ⟨a7,cQ,a3⟩:=ab2 uI x y rfl rfl
         have D7:=PC.trans cX
         simp only[lP] at D7
         have ab4:=D7.mono (j:=60) (by omega)
         rcases xm with ⟨rfl,K2⟩|⟨rfl,K2⟩
         · have tT:∀z∈x::y::q,dp.P z=oI.P z:=fun z bF=>by
             refine ((cX.g8 z ?_).1).symm
             rw[lN.f]
             simp only[gg] at bF
             rcases bF with bF|bF|bF
             · simp[bF]
             · simp[bF]
             · rw[cA,uJ z bF];simp
           obtain ⟨_,pages,c3,cG⟩:=apa pD dE zt Va K2 tT cQ a3
           refine ⟨_,_,_,rfl,conv _ _ ⟨oI,gE,m++ [x,y]++ [no],l++ [(wl[0]).no],aN,ab4, .inr (.inl ⟨no,dp.bx+1,pages,rfl,?_,?_,by omega,by omega⟩)⟩⟩
           · rw[ab1,show wl.length+1=wl.length-1+2 by omega];exact c3
           · rw[D4] at vN tn cG⊢
             intro z
             have:=vN z
             have:=tn z
             have:=cG z
             simp only[EU,G4,G5] at*
             omega
         · refine ⟨_,_,_,rfl,conv _ _ ⟨oI,gE,m++ [x,y]++ [no],l++ [(wl[0]).no],aN,ab4, .inr (.inr ⟨_,_,rfl,fun ak=>K2 (lN.to.calm 1 (vM.to.calm 3 (mI ak (by omega))))⟩)⟩⟩
     · refine ⟨ih,_,_,3,rfl,fun _=>conv _ _ ⟨dp,bk,m++ms,l++ [(wl[0]).no],kv,PC.mono (by omega), .inr (.inr ⟨0,0,rfl,abZ 2 (by omega) fQ⟩)⟩,fun h=>(by cases h)⟩
   · rw[if_neg b5]
     have g4:i-1<wl.length:=by omega
     obtain ⟨awp,ab5,_,_,_,hu⟩:=U9.at g4
     rw[U6] at ab5
     obtain rfl:=Option.some.inj ab5
     obtain ⟨u,Vb⟩:∃u,u=wl[i-1]:=⟨_,rfl⟩
     rw[←Vb] at hu
     have hE:(wl.take i).map gH.st=(wl.take (i-1)).map gH.st++ [u.st]:=by
       have:wl.take i=wl.take (i-1)++ [wl[i-1]]:=by
         have e:i-1+1=i:=by omega
         rw[←sL g4,e]
       rw[this,mV,Vb];rfl
     obtain ⟨D2,zp,BE,yz,D3,ps,dJ,eM,kN,mK,oz,F_,ud,sB,Iw⟩:=Ctx.up I.ctx hE I.wq I.U3.t.F8 I.sz
     have PB:wl.length-i+1=wl.length-(i-1):=by omega
     rw[PB] at dJ sB Iw
     have Vc:=(I.U3.t.l_ _ _ kN).2.is
     have awq:=Vc.2.1.jS (by omega)
     have uJ:=I.abO
     have Ly:=aoH zr Lw hu jX.1 (by have:=I.sz;omega) (fun _=>jX) (fun Lz=>by
       obtain ⟨o,no,rest,c3,cG,eT,eQ,iA,ln,_⟩:=Iw Lz
       exact ⟨o,no,c3,by rw[cq];exact cG,eT,eQ,iA,ln⟩) (by omega) (by omega) abY (by omega) (by omega)
     rw[mz] at Ly
     refine Ly.use ?_
     rintro v oP dy
     have JX:0<u.n.keys.length:=List.length_pos_iff.2 F_
     have aph:df.n≤1600:=zr.t.s.c7
     have LA:∀ {dp:bf} {bk:gK} {ms ls:List Nat} {w':World} {apj:Nat},fZ df dp bj bk ms ls cF w' apj→∀x,av.f x=true→av.P x=dp.P x:=fun gL x af=>by
       rw[←cq]
       exact ((gL.g8 x (by rw[cA,af];rfl)).1).symm
     have gj:(∃ (dp:bf) (bk:gK) (ms ls:List Nat) (s:ab) (a b:Int),v= .tuple #[.slice s.a s.len s.cap, .int .i64 a, .int .i64 b, .int .i64 3]∧fY oP dp bk∧fZ df dp bj bk ms ls cF oP 4∧¬df.C.D.calm 4)∨
         (∃ (dp:bf) (bk:gK) (ms ls rest:List Nat) (s:ab) (BK zu:Nat) (ks:List Key) (g3:List Nat) (M2:List bo),v= .tuple #[.slice s.a s.len s.cap, .int .i64 (BK:Nat), .int .i64 (zu:Nat), .int .i64 0]∧fY oP dp bk∧fZ df dp bj bk ms ls cF oP 4∧ms.length≤2∧ls.length≤1∧xt (fun q=>¬dp.M q) oP s ks ms∧
           fK dp.P (wl.length-(i-1)) (mn u.n BK zu ks ms) D2 zp g3 M2∧yz++(M2++D3)=A++(M++B)∧g3.Perm (ms++(rest++q))∧ps.Perm (ls++rest)∧cr (mn u.n BK zu ks ms)≤cr u.n+27∧u.n.keys.length≤(mn u.n BK zu ks ms).keys.length+1∧
           BK≤u.n.keys.length∧1≤zu∧zu≤u.n.kids.length):=by
       rcases dy with ⟨zq,s,e,rfl,aA⟩|⟨Lz,dp,bk,rfl,aC,aG,aJ⟩|⟨Lz,o,no,awr,aws,awt,s,e,lf,LB,ab6,rfl,aA⟩
       · obtain ⟨dp,bk,ms,kv,lN,vI,fm⟩:=aA.cs
         rcases fm with ⟨rfl,ks,zt,BI⟩|⟨rfl,fQ⟩
         · obtain ⟨g3,M2,c3,cG,eT,eQ,iA⟩:=sB zq dp.P ks ms zt (fun x af=>LA lN x (uJ x (by
             rw[eM]
             simp only[fa,gg] at af⊢
             rcases af with af|af
             · exact .inr (.inr (.inl af))
             · exact .inl af))) (fun x af=>by have:=(lN.tg x af).2;omega)
           exact .inr ⟨dp,bk,ms,[],ps,s,u.e1,u.e1+1,ks,g3,M2,rfl,kv,lN.mono (by omega),vI,fi _,BI,c3,cG,eT,List.Perm.refl _,eQ,iA,by omega,by omega,by omega⟩
         · exact .inl ⟨dp,bk,ms,[],s,_,_,rfl,kv,lN.mono (by omega),fun ak=>fQ (mI ak (by omega))⟩
       · exact .inl ⟨dp,bk,[],[],cg,0,0,rfl,aC,aG.mono (by omega),fun ak=>aJ (mI ak (by omega))⟩
       · obtain ⟨lF,ab7,rest,c3,cG,eT,eQ,iA,ln,k3,nZ⟩:=Iw Lz
         rw[c3] at lf
         obtain rfl:=Option.some.inj lf
         rw[cq,cG] at LB
         obtain rfl:=Option.some.inj LB
         obtain ⟨dp,bk,ms,kv,lN,vI,fm⟩:=aA.cs
         have D7:=ab6.trans lN
         simp only[r6,lP] at D7
         rcases fm with ⟨rfl,ks,zt,BI⟩|⟨rfl,fQ⟩
         · obtain ⟨g3,M2,d1,d2,d3,d4,d5⟩:=nZ dp.P ks ms zt (fun x af=>LA D7 x (uJ x (by
             rw[eM]
             simp only[fa,gg] at af⊢
             rcases af with af|af
             · exact .inr (.inr (.inl (k3.mem_iff.2 (wh _ af))))
             · exact .inl af))) (fun x af=>by have:=(D7.tg x af).2;omega)
           refine .inr ⟨dp,bk,ms,[ab7],rest,s,u.e1-1,u.e1-1+2,ks,g3,M2,rfl,kv,D7,vI,cP _,BI,d1,d2,d3,k3,d4,d5,by omega,by omega,?_⟩
           rcases G6 u.e1 with aW|aW<;>omega
         · exact .inl ⟨dp,bk,ms,[ab7],s,_,_,rfl,kv,D7,fun ak=>fQ (ab6.to.calm 2 ak)⟩
     clear dy
     rcases gj with ⟨dp,bk,ms,ls,ih,a,b,rfl,kv,lN,fQ⟩|⟨dp,bk,ms,ls,rest,ih,BK,zu,ks,g3,M2,rfl,kv,lN,vI,awu,BI,v1,v2,v3,v4,v5,v6,BL,SD,v9⟩
     · exact ⟨ih,_,_,3,rfl,fun _=>conv _ _ ⟨dp,bk,_,_,kv,(vM.trans lN).mono (by omega), .inr (.inr ⟨0,0,rfl,abZ 4 (by omega) fQ⟩)⟩,fun h=>(by cases h)⟩
     · refine ⟨ih,_,_,0,rfl,fun h=>(by cases h),fun _=>⟨fun h=> ?_,fun _=> ?_⟩⟩
       · have:((i:Nat):Int)=0:=by simpa using h
         omega
       have LC:=hu.to lN.to
       refine ⟨_,rfl,_,LC.bm,u.K,LC.bj,u.V,LC.bk,u.D,LC.gE,(ze LC.e0 BI (fr:=BK) (to:=zu) BL (by omega) SD v9 (by omega) (by omega) (by omega)).use ?_⟩
       rintro _ zv ⟨c6,c_,da,rfl,apk,LD⟩
       have ab8:=U8.an lN.to.an (zr.t.ue p6)
       have ab9:=ab8.ext LD
       refine ⟨_,c6,c_,da,rfl,ab9.du rfl mc,rfl,eg ab9 (us:=hX (mn u.n BK zu ks ms) c6 c_ da) rfl rfl fun tp Vd LF awv=>⟨⟨i-1,dp,bk,m++ms,l++ [(wl[i]).no]++ls,mn u.n BK zu ks ms,c6,c_,da,D2,zp,BE,yz,D3,g3,M2,ps++((wl[i]).no::r),?_,?_⟩,?_⟩⟩
       · rw[cL (by omega) (by omega)];omega
       · have ab_:dp.E pC:=by rw[lN.E];exact p6
         have Ve:dp.M pC:= .inr (.inr (.inr (.inl ab_)))
         have Vf:=(vM.trans lN).trans (fZ.ext dp bk LD)
         simp only[lP] at Vf
         have apl:cp c2 dp ag tp (4*(wl.length-1-i)+4+0):=Vf.to.step (E:=dp.E) (G:=dp.G) LF (fun q e aB=>by omega) (fun q J=> .inl J) fun q J=> .inl J
         have It:∀x,av.f x=true→dp.f x=true:=fun x af=>by rw[lN.f,cA,af];rfl
         have PD:=U9.to lN.to
         refine ⟨g4,(kv.ext LD).abL LF fun q e=> .inl (by rw[e];exact ab_),{Vf.mono (j:=4*(wl.length-1-(i-1))) (by omega) with to:=apl.mono (by omega)},?_,?_,Vd,?_,?_,dJ.agree fun x af=>LA lN x (uJ x (by rw[eM];simp[af])),v1,by rw[v2];exact I.eq,?_,rV (BG I.acc) v3 v4,by omega,fun U e=> ?_,fun x af=> ?_⟩
         · rw[eC];have:=I.Py;omega
         · rw[eC,eC,ru];have:=I.abN;omega
         · refine (ck.an apk LF fun q J e=> ?_).bA fun q _ J hm=> ?_
           · subst e
             rcases J with J|J
             · exact J Ve
             · have:=ab8.lt;omega
           · rcases J with J|J
             · exact J hm
             · have:=kv.t.lt hm;omega
         · refine ⟨(PD.own.ext LD).an LF fun q J e=>PD.FH q J (by rw[e];exact Ve),PD.FH,fun x af=>ck.an ((PD.e0 x af).ext LD) LF fun q J e=>J (by rw[e];exact Ve)⟩
         · have this:di.Perm ((wl[i]'abR).no::(r++h5)):=I.pp
           rw[eM] at this
           rw[←Vb]
           exact BH this
         · have ad:=ud (fun bp=>by
             have:=congrArg List.length bp
             rw[kF,ee,wo] at this
             omega)
           rw[e,wo] at v6
           omega
         · rcases fa.1 af with af|af
           · have:=v3.mem_iff.1 af
             rcases fa.1 this with af|af
             · rw[lN.f];simp[af]
             · rcases fa.1 af with af|af
               · refine It x (uJ x ?_)
                 rw[eM]
                 have:x∈ps:=v4.mem_iff.2 (qH _ af)
                 simp[this]
               · exact It x (uJ x (by simp[af]))
           · exact It x (uJ x (by rw[eM];simp[af]))
       · rw[cL (by omega) (by omega)]
         show (((i:Nat):Int)-1+1).toNat<(((i:Nat):Int)+1).toNat
         omega
end
section
theorem apm {w:World} {T:bf} {c:gK} {iK:List bo} {n:aO} {K V D ws:ab} (apn:ws.len=0) (h:fY w T c) (aD:ck (fun q=>¬T.M q) w n K V D) (gA:T.C.D.cl≤900000000) (jx:2≤fR T) (Ay:c.made.length≤100) (hle:c.left=[])
   (PE:oU n) (ae:n.keys≠ []) (dE:cr n≤232) (heq:n.gV=iK):
   aP Tryz.prog F.xG #[.pointer (some ⟨c.dq,0,none⟩), .slice ws.a ws.len ws.cap,fg n K V D] w (BF T c [] iK w):=by
 refine W.abQ (some ⟨c.dq,0,none⟩) ws n.leaf K V D w _ ?_
 (delta W.xG bR ai ar dA aE aF bc bD st oy U5 nq gE;dsimp only)
 refine cx (vs:=hX n K V D) rfl fun ag gx bK k_=> ?_
 obtain ⟨cK,bm,bj,bk⟩:=cu gx
 refine ⟨_,cK,K,bm,V,bj,D,bk,cx (vs:=[.bool false, .slice none 0 0, .slice none 0 0, .slice none 0 0]) rfl fun bg wQ kt Ox=>⟨wQ.du rfl mc,rfl,eg wQ (us:=hX n K V D) rfl rfl fun aS Iv qV HC=> ?_⟩⟩
 have eW:Ext w aS:=bK.trans (Ext.e_ kt qV (cP _))
 refine ⟨fun n10 w'=>n10= -1∧aS=w',fun _ _=>0,⟨by rw[apn];decide,rfl⟩,?_⟩
 rintro _ _ ⟨rfl,rfl⟩
 refine ⟨fun h=>by simp at h,fun _=> ?_⟩
 obtain ⟨d0,d1,d2,d3⟩:=cu Iv
 refine ⟨_,d0,K,d1,V,d2,D,d3,(aaT (h.ext eW) (by omega) (by omega) (by omega) (aD.ext eW) (.inl PE) dE).use ?_⟩
 intro v w' al
 obtain ⟨s,e,rfl⟩:=al.out
 obtain ⟨av,c',m,px,gL,hm,fm⟩:=(al.base eW).cs
 rcases fm with ⟨rfl,ks,zt,BI⟩|⟨rfl,fQ⟩
 · refine ⟨s,0,rfl,fun h=>(by cases h),fun _=> ?_⟩
   rcases zt with ⟨_,x,rfl,rfl,af⟩|⟨aww,_⟩
   · rcases BI with ⟨b,BJ,rfl,_,e,al,_⟩|⟨b,BJ,api,mN,Fj,rfl,e,_⟩
     · obtain rfl:x=BJ:=by simpa using e
       refine ⟨_,rfl,⟨by decide,by show (0:Int)<((1:Nat):Int);decide⟩,_,by rw[aX,aX];exact al.cell,av,c',[x],[],px,gL.mono (by omega), .inr (.inl ⟨x,1,[x],rfl,⟨n,af,PE,fun k ae=>⟨fun _ e=>(by cases e),fun _ e=>(by cases e)⟩,ae,rfl,heq.symm⟩,List.Perm.refl _,cP _,by omega⟩)⟩
     · cases e
   · omega
 · exact ⟨s,3,rfl,fun _=>⟨av,c',m,[],px,gL.mono (by omega), .inr (.inr ⟨0,0,rfl,fun ak=>fQ (mI ak (by omega))⟩)⟩,fun h=>(by cases h)⟩
end
section
def bf.Ga (T:bf) (r h:Nat):bf:={T with root:=r,bx:=h}
theorem dz.apo {w w':World} {T:bf} {r h:Nat} (aU:dz w T) (al:Var w' T.cB (DC (T.Ga r h)) ah.HW) (ak:ao (fun q=>q=T.cB) w w') (aY:r<T.n) (c4:h≤12):dz w' (T.Ga r h)∧cp T (T.Ga r h) w w' 0:=
 ⟨⟨al,aU.s.an ak fun q J e=>aU.zb (e▸J),aU.oG.an ak fun q e=> .inl e,aU.zb,aU.iJ,aU.um,aU.n,⟨aY,c4,aU.num.2.2⟩,aU.l_⟩,
   ⟨rfl,rfl,rfl,rfl,rfl,rfl,rfl,rfl,rfl,rfl,cP _,fun _ h=>h,ak.mono fun q _ e=> .inr (.inl e),fun q h=> .inl h,fun q h=> .inl h⟩⟩
def n0 (T:bf) (pages:List Nat) (L:List bo):Prop:=(T.bx=0∧T.root=0∧pages=[]∧L=[])∨jD T.P T.bx none none T.root pages L
def PF (T:bf) (di:List Nat) (iK:List bo) (w:World) (v:Value) (w':World):Prop:=
 ∃av:bf,dz w' av∧cp T av w w' 60∧av.E=T.E∧av.G=T.G∧
   ((v= .int .i64 2∧fR T<2*T.bx+3∧av=T)∨
    (v= .int .i64 0∧2*T.bx+3≤fR T∧(∃pages,n0 av pages iK∧pages.Nodup∧(∀no∈pages,no∈di∨(T.f no||T.g no)=false)∧∀no,av.f no=true↔(no∈pages∨(T.f no=true∧no∉di)))∧∀no,T.g no=true→av.P no=T.P no∧av.C.view no=T.C.view no)∨
    (v= .int .i64 3∧¬T.C.D.calm 60∧av.root=T.root∧av.bx=T.bx∧av.f=T.f∧∀no,(T.f no||T.g no)=true→av.P no=T.P no∧av.C.view no=T.C.view no))
theorem aca {l:List Nat} (h:∀x,l.count x≤1):l.Nodup:=List.nodup_iff_count.2 h
theorem apq {w:World} {T:bf} {s:ab} {di:List Nat} {iK:List bo} {n:aO} {K V D:ab} (h:dz w T) (gA:T.C.D.cl≤900000000) (c4:T.bx<12) (Ti:di.Nodup) (vz:∀x∈di,T.f x=true) (awx:di.length≤5000)
   (apr:∀ (dv iY:Nat→Prop) (ag:World) (bm:gK),fY ag (T.dF dv iY) bm→cp T (T.dF dv iY) w ag 0→2*T.bx+3≤fR T→bm.made=[]→bm.left=[]→aP Tryz.prog F.xG #[.pointer (some ⟨bm.dq,0,none⟩), .slice s.a s.len s.cap,fg n K V D] ag (BF (T.dF dv iY) bm di iK ag)):
   aP Tryz.prog F.xK #[.pointer (some ⟨T.cB,0,none⟩), .slice s.a s.len s.cap,fg n K V D] w (PF T di iK w):=by
 have nn:=h.s.c7
 refine W.aps (some ⟨T.cB,0,none⟩) s n.leaf K V D w _ ?_
 (delta W.xK bD bj aF aE st ai bR ar oy bm;dsimp only)
 refine cx (vs:=hX n K V D) rfl fun ag gx bK k_=>cx (vs:=[.int .i64 0]) rfl fun aw acb cD mD=>bN ?_
 have bB:Ext aw aw.drew:=ej _
 obtain ⟨a8,nm⟩:∃a8,a8=aw.drew:=⟨_,rfl⟩
 rw[←nm] at bB⊢
 have hY:=(bK.trans cD).trans bB
 have aq:=h.ext hY
 obtain ⟨bC,Vg⟩:∃bC,bC=ag.heap.size:=⟨_,rfl⟩
 rw[←Vg] at acb⊢
 refine ⟨fun _=>False,_,rfl,id,_,aq.cells.2.1,_,rfl,id,_,aq.cells.2.2.2.2,(TC aq.s).use ?_⟩
 rintro _ bY ⟨rfl,oN⟩
 have J1:=hY.trans oN
 have LG:=(acb.ext bB).ext oN
 have BM:((T.n:Int)-mL (fun i=>T.f i||T.g i) T.n)=(fR T:Nat):=by
   have:=HV (fun i=>T.f i||T.g i) T.n
   unfold fR;omega
 have tV:IntKind.wrap .i64 (IntKind.wrap .i64 (2*((T.bx:Nat):Int))+3)=((2*T.bx+3:Nat):Int):=by
   rw[cL (n:=2*((T.bx:Nat):Int)) (by omega) (by omega),cL (by omega) (by omega)];omega
 rw[BM,tV]
 refine ⟨_,rfl,oN,fun aa=> ?_,fun aa=> ?_⟩
 · have aa:((fR T:Nat):Int)<((2*T.bx+3:Nat):Int):=dL aa
   obtain ⟨aC,aG⟩:=kc LG (i:=0) (by simp)
   have fq:=iV bY bC 0 (.int .i64 2)
   have al:=j_ LG (i:=0) (.int .i64 2)
   have C0:=Ext.e_ J1 fq (by omega)
   exact ⟨aC,aG,bN ⟨2,al.cell,T,h.ext C0,(cp.ext T C0).mono (by omega),rfl,rfl, .inl ⟨rfl,by omega,rfl⟩⟩⟩
 have jx:2*T.bx+3≤fR T:=by
   have:¬((fR T:Nat):Int)<((2*T.bx+3:Nat):Int):=fb aa
   omega
 refine cx (vs:=[.pointer (some ⟨T.cB,0,none⟩), .slice none 0 0, .slice none 0 0]) rfl fun dB gy PG aaO=>cx (vs:=[.pointer none]) rfl fun ep Vh uA aoa=> ?_
 obtain ⟨dq,uv⟩:∃dq,dq=bY.heap.size:=⟨_,rfl⟩
 obtain ⟨kB,Ph⟩:∃kB,kB=dB.heap.size:=⟨_,rfl⟩
 rw[←uv] at gy⊢
 rw[←Ph] at Vh⊢
 obtain ⟨aC,aG⟩:=kc Vh (i:=0) (by simp)
 have PH:=iV ep kB 0 (.pointer (some ⟨dq,0,none⟩))
 have Vi:=j_ Vh (i:=0) (.pointer (some ⟨dq,0,none⟩))
 refine ⟨aC,aG,bN ?_⟩
 obtain ⟨cZ,apt⟩:∃cZ,cZ=ep.setCell ⟨kB,0,none⟩ (.pointer (some ⟨dq,0,none⟩)):=⟨_,rfl⟩
 rw[←apt] at PH Vi⊢
 have Hz:=J1.size
 have acd:=PH.size
 have Vj:Ext bY cZ:=Ext.e_ (PG.trans uA) PH (by omega)
 have ace:=J1.trans Vj
 have acf:=LG.ext Vj
 have qX:=(gy.ext uA).an PH (by omega)
 have PI:=((gx.ext cD).ext bB).ext (oN.trans Vj)
 obtain ⟨dv,mw⟩:∃dv,dv=fun q=>T.E q∨q=bC:=⟨_,rfl⟩
 obtain ⟨iY,AZ⟩:∃iY,iY=fun q=>T.G q∨q=dq:=⟨_,rfl⟩
 have sA:∀q,dv q→T.E q∨q=bC:=fun q J=>by rw[mw] at J;exact J
 have PJ:∀q,iY q→T.G q∨q=dq:=fun q J=>by rw[AZ] at J;exact J
 have pB:∀q,T.E q→dv q:=fun q J=>by rw[mw];exact .inl J
 have apu:∀q,T.G q→iY q:=fun q J=>by rw[AZ];exact .inl J
 have Vk:dv bC:=by rw[mw];exact .inr rfl
 have apv:iY dq:=by rw[AZ];exact .inr rfl
 have awy:=acf.lt
 have awz:=qX.lt
 have Ix:dz cZ (T.dF dv iY):=h.grow (W:=fun _=>False) ace (fun _ h=>h.elim) (fun q J=>(sA q J).imp id fun e=> .inr ⟨by omega,by omega⟩) (fun q J=> .inr ((PJ q J).imp id fun e=>⟨by omega,by omega⟩)) fun q J bl=>by
   rcases sA q J with U|U<;>rcases PJ q bl with ad|ad
   · exact (h.iJ q U).2.2 ad
   · have:=h.lt (q:=q) (.inr (.inr (.inr (.inl U))));omega
   · have:=h.lt (q:=q) (.inr (.inr (.inr (.inr ad))));omega
   · have:=LG.lt;omega
 have LH:cp T (T.dF dv iY) w cZ 0:=(cp.refl T w).step (W:=fun _=>False) ace (fun _ h=>h.elim) (fun q J=>(sA q J).imp id fun e=> .inr (by omega)) fun q J=>(PJ q J).imp id fun e=>by omega
 have apw:fY cZ (T.dF dv iY) ⟨dq,cg,cg,[],[]⟩:=⟨Ix,qX,bX.none _ _ _,bX.none _ _ _,apv,fun q J=>(rD q J).elim,fun q J=>(rD q J).elim⟩
 have u_:=apr dv iY cZ _ apw LH jx rfl rfl
 obtain ⟨cK,bm,bj,bk⟩:=cu PI
 refine ⟨_,Vi.cell,_,cK,K,bm,V,bj,D,bk,u_.use ?_⟩
 rintro v cF ⟨c2,zw,m,l,oD,gL,fm⟩
 have LI:c2.E bC:=by rw[gL.E];exact Vk
 have PK:=acf.an gL.to.an (Ix.ue Vk)
 have TV:¬(T.dF dv iY).N kB:=by
   have Ba:dq<kB:=by rw[uv,Ph];omega
   rintro (J|J|J|J)
   · have:=h.lt (q:=kB) (.inl J);omega
   · have:=h.lt (q:=kB) (.inr (.inl J));omega
   · have:=h.lt (q:=kB) (.inr (.inr (.inl J)));omega
   · rcases PJ kB J with U|U
     · have:=h.lt (q:=kB) (.inr (.inr (.inr (.inr U))));omega
     · omega
 have acg:=Vi.an gL.to.an TV
 have PL:zw.dq=dq:=gL.dq
 have awA:c2.cB=T.cB:=gL.to.cB
 have PM:zw.made=m:=gL.made
 have xL:zw.left=l:=gL.left
 have Iy:kB≠bC:=by have:=LG.lt;omega
 have xH:cp T c2 w cF 60:=(LH.trans gL.to).mono (by omega)
 have fin:∀ (w':World) (av:bf),dz w' av→cp T av w w' 60→av.E=dv→(∀q,T.G q→av.G q)→dz w' (av.dF T.E T.G)∧cp T (av.dF T.E T.G) w w' 60:=by
   intro w' av ak aU gw ke
   exact ⟨ak.grow (W:=fun _=>False) (ao.refl _ _) (fun _ h=>h.elim) (fun q J=> .inl (by rw[gw];exact pB q J)) (fun q J=> .inr (.inl (ke q J))) fun q J=>(h.iJ q J).2.2,
     aU.step (W:=fun _=>False) (ao.refl _ _) (fun _ h=>h.elim) (fun q J=> .inl (by rw[gw];exact pB q J)) fun q J=> .inl (ke q J)⟩
 have ach:∀q,T.G q→c2.G q:=fun q J=>gL.G q (apu q J)
 have AQ:=(bK).size
 have Vl:∀ (bI:World) (av:bf) (c':gK) (x:Int),fY bI av c'→cp T av w bI 60→av.E bC→fY (bI.setCell ⟨bC,0,none⟩ (.int .i64 x)) av c'∧cp T av w (bI.setCell ⟨bC,0,none⟩ (.int .i64 x)) 60:=fun bI av c' x ak aU he=>
   ⟨ak.abL (iV bI bC 0 _) fun q e=> .inl (by rw[e];exact he),aU.step (E:=av.E) (G:=av.G) (iV bI bC 0 _) (fun q e aB=>by omega) (fun q J=> .inl J) fun q J=> .inl J⟩
 have awB:m.length≤1600:=by
   have:=gL.room
   have:fR (T.dF dv iY)≤T.n:=by unfold fR;exact Nat.sub_le _ _
   omega
 have apx:(∃a b:Int,v= .tuple #[.int .i64 a, .int .i64 b, .int .i64 3]∧¬T.C.D.calm 60)∨(∃ (root c4:Nat) (pages:List Nat),v= .tuple #[.int .i64 (root:Nat), .int .i64 (c4:Nat), .int .i64 0]∧((c4=0∧root=0∧pages=[]∧iK=[])∨jD c2.P c4 none none root pages iK)∧(pages++l).Perm (m++di)∧c4≤12):=by
   rcases fm with ⟨rfl,U,ad⟩|⟨root,c4,pages,rfl,U,ad,aq,aK⟩|⟨a,b,rfl,fQ⟩
   · exact .inr ⟨0,0,[],rfl, .inl ⟨rfl,rfl,rfl,U⟩,ad,by omega⟩
   · have aK:c4≤T.bx+1:=aK
     exact .inr ⟨root,c4,pages,rfl, .inr U,ad,by omega⟩
   · exact .inl ⟨a,b,rfl,fQ⟩
 rcases apx with ⟨a,b,rfl,fQ⟩|⟨root,ql,pages,rfl,apy,sd,m8⟩
 ·
   obtain ⟨aC,aG⟩:=kc PK (i:=0) (by simp)
   have D8:=j_ PK (i:=0) (.int .i64 3)
   obtain ⟨PN,PO⟩:=Vl cF c2 zw 3 oD xH LI
   have LJ:=acg.an (iV cF bC 0 (.int .i64 3)) Iy
   refine ⟨a,b,3,rfl,aC,aG,bN ⟨3,D8.cell,fun _=>⟨3,D8.cell,?_⟩,fun af=>(by cases af)⟩⟩
   obtain ⟨aJ,aN⟩:=kc D8 (i:=0) (by simp)
   have Vm:=j_ D8 (i:=0) (.int .i64 3)
   obtain ⟨aci,acj⟩:=Vl _ c2 zw 3 PN PO LI
   have Vn:=LJ.an (iV _ bC 0 (.int .i64 3)) Iy
   refine ⟨aJ,aN,bN (W.ack ⟨bC,0,none⟩ ⟨kB,0,none⟩ _ _ ?_)⟩
   generalize awC:(cF.setCell ⟨bC,0,none⟩ (.int .i64 3)).setCell ⟨bC,0,none⟩ (.int .i64 3)=fN at Vm aci Vn acj⊢
   (delta W.zx bD aF ar bm;dsimp only)
   have mA:Ext fN fN.drew:=ej _
   have nx:=aci.ext mA
   have LK:=abC nx nx.nz.src (fun q J=>(nx.tf q J).1) (l:=zw.made) (fun x af=>by rw[PM] at af;rw[gL.f];simp[af]) (by rw[PM];exact gL.e0) (by rw[PM];omega)
   rw[PL] at LK
   have LL:=nx.cells.2.1
   rw[PL] at LL
   refine ⟨3,Vm.cell,fun _=>bN ⟨id,_,Vn.drew.cell,id,_,Vn.drew.cell,_,rfl,id,zw.nz,LL,LK.use ?_⟩,fun af=>(by cases af)⟩
   rintro _ aS ⟨rfl,df,dh,bl⟩
   rw[PM] at bl
   have apz:=(Vm.ext mA).an bl.to.an (nx.t.ue LI)
   have apA:cp T df w aS 60:=((acj.trans (cp.ext c2 mA)).trans bl.to).mono (by omega)
   obtain ⟨f1,f2⟩:=fin aS df dh.t apA (by rw[bl.E];exact gL.E) fun q J=>by rw[bl.G];exact ach q J
   refine ⟨rfl,3,apz.cell,_,f1,f2,rfl,rfl, .inr (.inr ⟨rfl,fQ,bl.root.trans gL.root,bl.bx.trans gL.bx,?_,fun no c8=> ?_⟩)⟩
   · funext no
     show df.f no=T.f no
     rw[bl.f,gL.f]
     by_cases hm:no∈m
     · have:=(gL.tg no hm).1
       have e:(T.dF dv iY).f no=T.f no:=rfl
       rw[e] at this⊢
       cases Dm:T.f no
       · simp[hm]
       · rw[Dm] at this;cases this
     · simp[hm];rfl
   · have hm:no∉m:=fun hm=>by
       have:=(gL.tg no hm).1
       have e:((T.dF dv iY).f no||(T.dF dv iY).g no)=(T.f no||T.g no):=rfl
       rw[e,c8] at this;cases this
     have U:=bl.g8 no (.inl hm)
     have ad:=gL.g8 no c8
     exact ⟨U.1.trans ad.1,U.2.trans ad.2⟩
 ·
   have Iz:∀x,pages.count x+l.count x=m.count x+di.count x:=fun x=>by
     have:=D4.1 sd x
     simpa only[EU] using this
   have PQ:∀x,m.count x+di.count x≤1:=fun x=>by
     have U:=List.nodup_iff_count.1 gL.e0 x
     have ad:=List.nodup_iff_count.1 Ti x
     rcases G6 (m.count x) with aq|aq
     · omega
     · rcases G6 (di.count x) with aK|aK
       · omega
       · have hm:=tL.1 aq
         have aV:=tL.1 aK
         have:=(gL.tg x hm).1
         have e:((T.dF dv iY).f x||(T.dF dv iY).g x)=(T.f x||T.g x):=rfl
         rw[e,vz x aV] at this;cases this
   have hlen:pages.length+l.length=m.length+di.length:=by
     have:=sd.length_eq
     simpa only[eC] using this
   have dt:∀x∈l,c2.f x=true:=fun x af=>by
     have U:=tL.2 af
     have ad:=Iz x
     rw[gL.f]
     rcases G6 (m.count x) with aq|aq
     · have:x∈di:=tL.1 (by omega)
       have e:(T.dF dv iY).f x=T.f x:=rfl
       rw[e,vz x this];rfl
     · have:x∈m:=tL.1 aq
       simp[this]
   have apB:l.Nodup:=aca fun x=>by have:=Iz x;have:=PQ x;omega
   obtain ⟨aC,aG⟩:=kc PK (i:=0) (by simp)
   have D8:=j_ PK (i:=0) (.int .i64 0)
   obtain ⟨PN,PO⟩:=Vl cF c2 zw 0 oD xH LI
   have LJ:=acg.an (iV cF bC 0 (.int .i64 0)) Iy
   refine ⟨_,_,0,rfl,aC,aG,bN ⟨0,D8.cell,fun af=>(by cases af),fun _=>bN ?_⟩⟩
   generalize awD:cF.setCell ⟨bC,0,none⟩ (.int .i64 0)=mY at D8 PN LJ PO⊢
   have mA:Ext mY mY.drew:=ej _
   have nx:=PN.ext mA
   have LK:=abC nx nx.mb.src (fun q J=>(nx.vB q J).1) (l:=zw.left) (fun x af=>dt x (by rw[xL] at af;exact af)) (by rw[xL];exact apB) (by rw[xL];omega)
   rw[PL] at LK
   have LL:=nx.cells.2.2
   rw[PL] at LL
   refine ⟨id,_,LJ.drew.cell,id,_,LJ.drew.cell,_,rfl,id,zw.mb,LL,LK.use ?_⟩
   rintro _ iu ⟨rfl,df,dh,bl⟩
   rw[xL] at bl
   have apC:=(D8.ext mA).an bl.to.an (nx.t.ue LI)
   have acl:cp T df w iu 60:=((PO.trans (cp.ext c2 mA)).trans bl.to).mono (by omega)
   have Vo:df.cB=T.cB:=acl.cB
   have wI:df.E=dv:=by rw[bl.E];exact gL.E
   have apD:df.E bC:=by rw[wI];exact Vk
   have acm:Var iu T.cB (DC df) ah.HW:=by rw[←Vo];exact dh.t.t
   obtain ⟨dJ,eM⟩:=kc acm (i:=3) (by simp[DC])
   have acn:=j_ acm (i:=3) (.int .i64 (root:Nat))
   have apE:=iV iu T.cB 3 (.int .i64 (root:Nat))
   obtain ⟨kN,mK⟩:=kc acn (i:=4) (by simp[DC])
   have aco:=j_ acn (i:=4) (.int .i64 (ql:Nat))
   have apF:=iV (iu.setCell ⟨T.cB,3,none⟩ (.int .i64 (root:Nat))) T.cB 4 (.int .i64 (ql:Nat))
   refine ⟨rfl,_,rfl,by rw[aX];exact dJ,by rw[aX];exact eM,bN ⟨_,rfl,by rw[aX,aX];exact kN,by rw[aX,aX];exact mK,bN ?_⟩⟩
   rw[aX,aX,gJ,gJ]
   have Vp:ao (fun q=>q=T.cB) iu ((iu.setCell ⟨T.cB,3,none⟩ (.int .i64 (root:Nat))).setCell ⟨T.cB,4,none⟩ (.int .i64 (ql:Nat))):=apE.trans apF
   generalize awE:(iu.setCell ⟨T.cB,3,none⟩ (.int .i64 (root:Nat))).setCell ⟨T.cB,4,none⟩ (.int .i64 (ql:Nat))=iv at aco Vp⊢
   have lq:∀x∈pages,x∉l:=fun x af aB=>by
     have U:=tL.2 af
     have ad:=tL.2 aB
     have:=Iz x
     have:=PQ x
     omega
   have acp:(ql=0∧root=0∧pages=[]∧iK=[])∨(jD df.P ql none none root pages iK∧root∈pages):=apy.imp id fun hw=>hw.agree fun x af=>((bl.g8 x (.inl (lq x af))).1).symm
   have apG:root<df.n:=by
     rcases acp with ⟨_,U,_⟩|⟨U,_⟩
     · have:=dh.t.s.dc;omega
     · obtain ⟨e0,_,ad,_⟩:=U.wq
       exact (dh.t.l_ _ _ ad).1
   have apH:Var iv df.cB (DC (df.Ga root ql)) ah.HW:=by rw[Vo];exact aco
   obtain ⟨apI,apJ⟩:=dh.t.apo apH (by rw[Vo];exact Vp) apG m8
   have apK:bC≠T.cB:=fun e=>by have:=h.lt (q:=T.cB) (.inr (.inl rfl));omega
   have acq:=apC.an Vp apK
   obtain ⟨cX,xm⟩:=kc acq (i:=0) (by simp)
   have acr:=j_ acq (i:=0) (.int .i64 0)
   have acs:=iV iv bC 0 (.int .i64 0)
   refine ⟨cX,xm,bN (W.ack ⟨bC,0,none⟩ ⟨kB,0,none⟩ _ _ ?_)⟩
   (delta W.zx bD aF ar bm;dsimp only)
   refine ⟨0,acr.cell,fun af=>(by cases af),fun _=>⟨0,acr.cell,?_⟩⟩
   have apL:dz (iv.setCell ⟨bC,0,none⟩ (.int .i64 0)) (df.Ga root ql):=apI.grow (E:=df.E) (G:=df.G) acs (fun q e _=> .inl (by rw[e];exact apD)) (fun q J=> .inl J) (fun q J=> .inr (.inl J)) fun q J=>(dh.t.iJ q J).2.2
   have apM:cp T (df.Ga root ql) w (iv.setCell ⟨bC,0,none⟩ (.int .i64 0)) 60:=((acl.trans apJ).mono (by omega)).step (E:=df.E) (G:=df.G) acs (fun q e aB=>by omega) (fun q J=> .inl J) fun q J=> .inl J
   obtain ⟨f1,f2⟩:=fin _ _ apL apM wI fun q J=>by
     show df.G q
     rw[bl.G];exact ach q J
   refine ⟨_,f1,f2,rfl,rfl, .inr (.inl ⟨rfl,jx,⟨pages,?_,aca fun x=>by have:=Iz x;have:=PQ x;omega,fun no af=> ?_,fun no=> ?_⟩,fun no c8=> ?_⟩)⟩
   · rcases acp with ⟨U,ad,aq,aK⟩|⟨U,_⟩
     · exact .inl ⟨U,ad,aq,aK⟩
     · exact .inr U
   · have U:=tL.2 af
     have ad:=Iz no
     rcases G6 (di.count no) with aq|aq
     · have hm:no∈m:=tL.1 (by omega)
       exact .inr (gL.tg no hm).1
     · exact .inl (tL.1 aq)
   · show df.f no=true↔_
     rw[bl.f,gL.f]
     have e:(T.dF dv iY).f no=T.f no:=rfl
     rw[e]
     have gF:=Iz no
     have dh:=PQ no
     have Ou:no∈m↔0<m.count no:=tL.symm
     have gx:no∈di↔0<di.count no:=tL.symm
     have rA:no∈l↔0<l.count no:=tL.symm
     have Gb:no∈pages↔0<pages.count no:=tL.symm
     have nw:0<di.count no→T.f no=true:=fun h=>vz no (gx.2 h)
     have apN:0<m.count no→T.f no=false:=fun h=>by
       have:=(gL.tg no (Ou.2 h)).1
       have e:((T.dF dv iY).f no||(T.dF dv iY).g no)=(T.f no||T.g no):=rfl
       rw[e] at this
       cases Dm:T.f no
       · rfl
       · rw[Dm] at this;cases this
     rw[iL,wj,fE,ya,sO,Ou,gx,rA,Gb]
     constructor
     · rintro ⟨U|U,ad⟩
       · by_cases aq:0<di.count no
         · left;omega
         · exact .inr ⟨U,aq⟩
       · left;omega
     · rintro (U|⟨U,ad⟩)
       · refine ⟨?_,by omega⟩
         by_cases aq:0<di.count no
         · exact .inl (nw aq)
         · right;omega
       · refine ⟨.inl U,fun aq=> ?_⟩
         have:0<m.count no:=by omega
         rw[apN this] at U;cases U
   · have K4:(T.f no||T.g no)=true:=by rw[c8];simp
     have apO:c2.g no=true:=by rw[gL.to.g];exact c8
     have U:=bl.g8 no (.inr apO)
     have ad:=gL.g8 no K4
     exact ⟨U.1.trans ad.1,U.2.trans ad.2⟩
end
section
theorem act {ks:List Key} {k:Key} {i:Nat} (aj:ks.Pairwise cw) (U:er ks k≤i) (hi:i<ks.length) (ae:ks[er ks k]? ≠some k):cw k ks[i]:=by
 rcases EV.1 (Hf aj U hi) with ad|ad
 · exact ad
 · exfalso
   rcases hJ (er ks k) i with aq|aq
   · have aZ:er ks k<ks.length:=by omega
     have aK:=Hf aj (cP _) aZ
     have aW:=Cn.1 aj _ _ aZ hi aq
     rw[←ad] at aW
     exact aK aW
   · have e:i=er ks k:=by omega
     apply ae
     subst e
     rw[gT hi,←ad]
theorem Vq {n:aO} (h:oU n) {i:Nat} (hi:i≤n.keys.length):∃a b c d:List Key,n.keys=a++b∧n.vals=c++d∧a.length=i∧c.length=i∧b.length=d.length∧n.keys.take i=a∧n.keys.drop i=b∧n.vals.take i=c∧n.vals.drop i=d:=by
 have aB:=h.len
 refine ⟨n.keys.take i,n.keys.drop i,n.vals.take i,n.vals.drop i,(qI i _).symm,(qI i _).symm,?_,?_,?_,rfl,rfl,rfl,rfl⟩
 · rw[ee];omega
 · rw[ee];omega
 · rw[fF,fF];omega
def uK (k v:Key):Nat:=2+k.length+v.length
theorem IA {n:aO} (h:n.leaf=true):cr n=1+(List.zipWith uK n.keys n.vals).sum:=by
 unfold cr
 rw[if_pos h,wu h];rfl
theorem apP {n:aO} {k v:Key} (h:oU n) (ae:eG k) (al:v.length≤24):oU (pr n k v)∧(pr n k v).gV=j2 n.gV k v∧cr (pr n k v)≤cr n+50∧(pr n k v).keys≠ []∧n.keys.length≤(pr n k v).keys.length∧(∀s∈(pr n k v).keys,s=k∨s∈n.keys):=by
 have hlen:=h.len
 have hle:=He n.keys k
 have aV:n.gV=n.keys.zip n.vals:=rfl
 have DG:=h.j5
 have wL:∀ (j:Nat) (aZ:j<n.keys.length),j<er n.keys k→cw n.keys[j] k:=fun j aZ U=>E1 U aZ
 have LM:n.keys[er n.keys k]? ≠some k→∀ (j:Nat) (aZ:j<n.keys.length),er n.keys k≤j→cw k n.keys[j]:=fun he j aZ U=>act DG U aZ he
 rw[aV,aih h.j5]
 unfold pr pq
 generalize hi:er n.keys k=i at hle wL LM⊢
 obtain ⟨a,b,c,d,ba,bp,dM,j8,lX,vL,BN,u6,Al⟩:=Vq h hle
 have bF:n.keys.zip n.vals=a.zip c++b.zip d:=by rw[ba,bp];exact EX (by omega)
 have Ax:(a.zip c).length=i:=by rw[EO];omega
 by_cases he:n.keys[i]? =some k
 · rw[if_pos (by simpa using he),if_pos he]
   have q4:∃jn,b=k::jn:=by
     cases b with
     |nil=>rw[ba,wm (by omega)] at he;simp at he
     |cons y jn=>
       rw[ba,wm (by omega),dM,ER] at he
       simp at he
       exact ⟨jn,by rw[he]⟩
   obtain ⟨jn,rfl⟩:=q4
   obtain ⟨x,k5,rfl⟩:∃x k5,d=x::k5:=by
     cases d with
     |nil=>simp at lX
     |cons x k5=>exact ⟨x,k5,rfl⟩
   have yI:n.vals.set i v=c++v::k5:=by
     rw[bp,List.set_append_right _ _ (by omega),j8,ER];rfl
   refine ⟨⟨⟨h.ok,h.j5⟩,h.leaf,by simp[hlen],h.kids,fun z bF=> ?_⟩,?_,?_,fun e=>by have e:n.keys=[]:=e;rw[e] at ba;simp at ba,cP _,fun s aj=> .inr aj⟩
   · rcases Cp bF with U|U
     · exact h.vals z U
     · rw[U];exact al
   · show n.keys.zip (n.vals.set i v)=_
     rw[yI,bF,ba,EX (by omega),Ai Ax]
     have apQ:(a.zip c++(k::jn).zip (x::k5)).drop (i+1)=jn.zip k5:=by
       rw[List.zip_cons_cons,show a.zip c++(k,x)::jn.zip k5=(a.zip c++ [(k,x)])++jn.zip k5 by simp]
       exact drop_left' (by simp only[eC,Ax,ru])
     rw[apQ];rfl
   · rw[IA h.leaf,IA (n:={n with vals:=n.vals.set i v}) h.leaf]
     show 1+(List.zipWith uK n.keys (n.vals.set i v)).sum≤_
     rw[yI,ba,bp,GV (by omega),GV (by omega),x8,x8,List.zipWith_cons_cons,List.zipWith_cons_cons,JH,JH]
     unfold uK
     omega
 · rw[if_neg (by simpa using he),if_neg he]
   have Vr:=LM he
   refine ⟨⟨⟨fun z bF=> ?_,?_⟩,h.leaf,?_,h.kids,fun z bF=> ?_⟩,?_,?_,fun e=> ?_,?_,fun s aj=> ?_⟩
   · have bF:z∈n.keys.take i++ [k]++n.keys.drop i:=bF
     simp only[fa,lT] at bF
     rcases bF with (bF|rfl)|bF
     · exact h.ok z (kE bF)
     · exact ae
     · exact h.ok z (kp bF)
   · show (n.keys.take i++ [k]++n.keys.drop i).Pairwise cw
     rw[vL,BN]
     have o2:(a++b).Pairwise cw:=by rw[←ba];exact DG
     obtain ⟨aC,aG,aJ⟩:=Cl.1 o2
     have apR:∀x∈a,cw x k:=fun x af=>by
       obtain ⟨j,aZ,rfl⟩:=lU af
       have:=wL j (by rw[ba,eC];omega) (by omega)
       simp only[ba,z_ aZ] at this
       exact this
     have sw:∀y∈b,cw k y:=fun y b2=>by
       obtain ⟨j,aZ,rfl⟩:=lU b2
       have:=Vr (i+j) (by rw[ba,eC];omega) (by omega)
       have e:(a++b)[i+j]'(by rw[eC];omega)=b[j]:=by
         rw[ES (by omega)];congr 1;omega
       simp only[ba,e] at this
       exact this
     rw[eF]
     refine Cl.2 ⟨aC,?_,fun x af y b2=> ?_⟩
     · exact tJ.2 ⟨sw,aG⟩
     · rcases gg.1 b2 with rfl|b2
       · exact apR x af
       · exact aJ x af y b2
   · show (n.vals.take i++ [v]++n.vals.drop i).length=(n.keys.take i++ [k]++n.keys.drop i).length
     rw[vL,BN,u6,Al]
     simp only[eC,ru];omega
   · have bF:z∈n.vals.take i++ [v]++n.vals.drop i:=bF
     simp only[fa,lT] at bF
     rcases bF with (bF|rfl)|bF
     · exact h.vals z (kE bF)
     · exact al
     · exact h.vals z (kp bF)
   · show (n.keys.take i++ [k]++n.keys.drop i).zip (n.vals.take i++ [v]++n.vals.drop i)=_
     rw[vL,BN,u6,Al,bF,Ai Ax,drop_left' Ax,eF,eF,EX (by omega)]
     rfl
   · rw[IA h.leaf,IA (n:={n with keys:=n.keys.take i++ [k]++n.keys.drop i,vals:=n.vals.take i++ [v]++n.vals.drop i}) h.leaf]
     show 1+(List.zipWith uK (n.keys.take i++ [k]++n.keys.drop i) (n.vals.take i++ [v]++n.vals.drop i)).sum≤_
     have aC:(List.zipWith uK (a++ [k]++b) (c++ [v]++d)).sum=(List.zipWith uK a c).sum+(uK k v+(List.zipWith uK b d).sum):=by
       rw[eF,eF,GV (by omega),x8];rfl
     have aG:(List.zipWith uK (a++b) (c++d)).sum=(List.zipWith uK a c).sum+(List.zipWith uK b d).sum:=by
       rw[GV (by omega),x8]
     rw[vL,BN,u6,Al,ba,bp,aC,aG]
     have:=ae.2
     unfold uK
     omega
   · have e:n.keys.take i++ [k]++n.keys.drop i=[]:=e
     simp at e
   · show n.keys.length≤(n.keys.take i++ [k]++n.keys.drop i).length
     rw[vL,BN,ba]
     simp only[eC,ru];omega
   · have aj:s∈n.keys.take i++ [k]++n.keys.drop i:=aj
     simp only[fa,lT] at aj
     rcases aj with (aj|rfl)|aj
     · exact .inr (kE aj)
     · exact .inl rfl
     · exact .inr (kp aj)
end
section
def acu (T:bf) (di:List Nat) (iK:List bo) (w:World) (v:Value) (w':World):Prop:=
 ∃av:bf,dz w' av∧cp T av w w' 100∧av.E=T.E∧av.G=T.G∧
   ((v= .int .i64 2∧fR T<2*T.bx+3∧av=T)∨
    (v= .int .i64 0∧2*T.bx+3≤fR T∧(∃pages,n0 av pages iK∧pages.Nodup∧(∀no∈pages,no∈di∨(T.f no||T.g no)=false)∧∀no,av.f no=true↔(no∈pages∨(T.f no=true∧no∉di)))∧∀no,T.g no=true→av.P no=T.P no∧av.C.view no=T.C.view no)∨
    (v= .int .i64 3∧¬T.C.D.calm 100∧av.root=T.root∧av.bx=T.bx∧av.f=T.f∧∀no,(T.f no||T.g no)=true→av.P no=T.P no∧av.C.view no=T.C.view no))
theorem PF.an {T:bf} {bd:dC} {di:List Nat} {iK:List bo} {w ag w':World} {v:Value} {k:Nat} (h:PF (T.cU bd T.P) di iK ag v w') (bT:cp T (T.cU bd T.P) w ag k) (ae:k≤40) (al:∀j,bd.view j=T.C.view j) (jx:2*T.bx+3≤fR T):acu T di iK w v w':=by
 obtain ⟨av,U,ad,aq,aK,aW⟩:=h
 refine ⟨av,U,(bT.trans ad).mono (by omega),aq,aK,?_⟩
 have acv:fR (T.cU bd T.P)=fR T:=rfl
 have acw:(T.cU bd T.P).bx=T.bx:=rfl
 rcases aW with ⟨_,b7,_⟩|⟨rfl,b7,hV,ot⟩|⟨rfl,b7,hV,ot,rI,PR⟩
 · rw[acv,acw] at b7;omega
 · exact .inr (.inl ⟨rfl,jx,hV,fun no c8=>⟨(ot no c8).1,(ot no c8).2.trans (al no)⟩⟩)
 · exact .inr (.inr ⟨rfl,fun ak=>b7 (bT.calm 60 (mI ak (by omega))),hV,ot,rI,fun no c8=>⟨(PR no c8).1,(PR no c8).2.trans (al no)⟩⟩)
theorem tq (w:World) (s:ab):aP Tryz.prog F.tq #[.slice s.a s.len s.cap] w (fun v w'=>v= .bool (decide (1≤s.len∧s.len≤24))∧w=w'):=by
 refine W.apS s w _ ?_
 unfold W.tq
 refine ⟨?_,rfl⟩
 congr 1
 rw[oT,iL,fE,fE,fE]
 omega
theorem Vs {T:bf} {w:World} {pages:List Nat} {L:List bo} {k:Key} (h:dz w T) (eI:n0 T pages L):∃steps,DF T.P k T.bx T.root steps∧
   ((steps=[]∧T.bx=0∧pages=[]∧L=[])∨(∃ (lL:Nat) (dc:aO) (kH g4:Option Key) (kC:List (Nat×aO×Nat)) (oO:List Nat) (nE nF:List bo),steps=kC++ [(lL,dc,0)]∧Ctx T.P k T.bx 1 kH g4 kC oO nE nF∧T.P lL=some dc∧oU dc∧dc.within kH g4∧dc.keys≠ []∧(kC≠ []→2≤dc.keys.length)∧k9 kH g4 k∧
     pages.Perm (lL::oO)∧L=nE++(dc.gV++nF)∧∀u,Loc k u→u L=nE++(u dc.gV++nF))):=by
 rcases eI with ⟨U,ad,aq,aK⟩|hw
 · exact ⟨[],by rw[U];rfl, .inl ⟨rfl,U,aq,aK⟩⟩
 · cases c4:T.bx with
   |zero=>rw[c4] at hw;exact hw.elim
   |succ t=>
     rw[c4] at hw
     obtain ⟨rest,kC,lL,dc,kH,g4,oO,nE,nF,ar,bD,bR,iC,kJ,BC,F7,DZ,D1,zo,BD,xF⟩:=Ctx.down (P:=T.P) (k:=k) (top:=t+1) (iB:=L) .top hw (fun h=>absurd rfl h) ⟨fun _ e=>(by cases e),fun _ e=>(by cases e)⟩ (by simp) (fun u _=>by simp)
     rw[r6] at bD
     rw[lP] at zo
     exact ⟨rest,ar, .inr ⟨lL,dc,kH,g4,kC,oO,nE,nF,bD,bR,iC,kJ,BC,F7,DZ,D1,zo,BD,xF⟩⟩
theorem n0.low {T:bf} {pages:List Nat} {L:List bo} (h:n0 T pages L) (dy:L.length<4096):T.bx<12∧pages.length≤L.length:=by
 rcases h with ⟨U,_,aq,_⟩|hw
 · rw[U,aq];exact ⟨by omega,fi _⟩
 · obtain ⟨aC,aG,aJ⟩:=hw.pages
   refine ⟨?_,aC⟩
   rcases hJ T.bx 12 with h|h
   · exact h
   · have aW:=aJ (by omega)
     have b7:2^12≤2^T.bx:=Nx (by decide) h
     have hV:(2:Nat)^12=4096:=by decide
     omega
theorem acx {ag:World} {T:bf} {bd:dC} {pages:List Nat} {L iK:List bo} {k:Key} {steps:List (Nat×aO×Nat)} {s:ab} {wl:List gH} {dc fe:aO} {K V D:ab} (h:dz ag (T.cU bd T.P)) (eI:n0 T pages L) (dy:L.length<4096) (jH:pages.Nodup) (aA:∀x∈pages,T.f x=true) (gA:bd.D.cl≤900000000)
   (hm:wl.map gH.st=steps) (xM:ur (fun q=>¬(T.cU bd T.P).M q) ag s wl) (aD:ck (fun q=>¬(T.cU bd T.P).M q) ag fe K V D) (PS:oU fe) (hE:(steps=[]∧T.bx=0∧pages=[]∧fe.keys≠ []∧cr fe≤232∧fe.gV=iK)∨(∃ (lL:Nat) (kH g4:Option Key) (kC:List (Nat×aO×Nat)) (oO:List Nat) (nE nF:List bo),steps=kC++ [(lL,dc,0)]∧Ctx T.P k T.bx 1 kH g4 kC oO nE nF∧fe.within kH g4∧(kC≠ []→fe.keys≠ [])∧pages.Perm (lL::oO)∧iK=nE++(fe.gV++nF)∧cr fe≤282)):
   aP Tryz.prog F.xK #[.pointer (some ⟨T.cB,0,none⟩), .slice s.a s.len s.cap,fg fe K V D] ag (PF (T.cU bd T.P) pages iK ag):=by
 obtain ⟨c4,Gc⟩:=eI.low dy
 refine apq h gA c4 jH aA (by omega) fun dv iY aw bj dh bT jx Ay dt=> ?_
 have D5:s.len=wl.length:=by
   have:=xM.own.1
   rw[nW _ (DE wl)] at this;omega
 have nn:ck (fun q=>¬((T.cU bd T.P).dF dv iY).M q) aw fe K V D:=(bT.e0 (lo:=0) (aD.bA fun q _ aa=>⟨fi _,aa⟩)).bA fun q _ aa=>aa.2
 rcases hE with ⟨U,ad,aq,aK,aW,b7⟩|⟨lL,kH,g4,kC,oO,nE,nF,ba,bp,dM,j8,lX,vL,BN⟩
 · subst U aq
   have LN:wl=[]:=by simpa using hm
   exact apm (by rw[D5,LN];rfl) dh nn gA (by
     have e:fR ((T.cU bd T.P).dF dv iY)=fR (T.cU bd T.P):=rfl
     omega) (by rw[Ay];simp) dt PS aK aW b7
 · have hlen:wl.length=kC.length+1:=by
     have:=congrArg List.length hm
     rw[ba,kF,eC,ru] at this;exact this
   have PB:1+kC.length=T.bx:=bp.jk
   have tV:=xM.to bT
   have Gd:(wl.take (wl.length-1)).map gH.st=kC∧(wl[wl.length-1]'(by omega)).no=lL:=by
     rw[ba] at hm
     have aC:(wl.take (wl.length-1)).map gH.st=(kC++ [(lL,dc,0)]).take (wl.length-1):=by rw[←hm,EP]
     refine ⟨by rw[aC];exact Ai (by omega),?_⟩
     have aG:(wl.map gH.st)[wl.length-1]? =some (lL,dc,0):=by
       rw[hm,wm (by omega)]
       have:wl.length-1-kC.length=0:=by omega
       rw[this];rfl
     rw[GY,gT (by omega)] at aG
     have aJ:=Option.some.inj aG
     exact congrArg Prod.fst aJ
   refine apb (k:=k) (h5:=oO) (A:=nE) (B:=nF) (M:=fe.gV) (lo:=kH) (hi:=g4) dh tV nn (by omega) (by show wl.length=T.bx;omega) c4 gA jx (by rw[Ay];simp) (by rw[dt];simp) ?_ ⟨PS,dM,rfl,rfl⟩ vL.symm ?_ BN (fun h=>j8 fun e=> ?_) fun x af=> ?_
   · rw[Gd.1]
     have:wl.length=T.bx:=by omega
     rw[this]
     exact bp
   · rw[Gd.2];exact lX
   · rw[e] at hlen;simp at hlen;omega
   · exact aA x (lX.mem_iff.2 (wh _ af))
theorem ur.ext' {B C:Nat→Prop} {w w':World} {s:ab} {l:List gH} (h:ur B w s l) (af:Ext w w') (fc:∀q,B q→C q):ur C w' s l:=
 ⟨h.own.ext af,fun q J=>fc q (h.FH q J),fun x hm=>((h.e0 x hm).ext af).bA fun q _ aa=>fc q aa⟩
theorem IB {wl:List gH} {kC:List (Nat×aO×Nat)} {lL:Nat} {c7:aO} (hm:wl.map gH.st=kC++ [(lL,c7,0)]):∃h:0<wl.length,(wl[wl.length-1]'(by omega)).n=c7:=by
 have hlen:wl.length=kC.length+1:=by
   have:=congrArg List.length hm
   rw[kF,eC,ru] at this;exact this
 refine ⟨by omega,?_⟩
 have aG:(wl.map gH.st)[wl.length-1]? =some (lL,c7,0):=by
   rw[hm,wm (by omega)]
   have:wl.length-1-kC.length=0:=by omega
   rw[this];rfl
 rw[GY,gT (by omega)] at aG
 exact congrArg (fun x=>x.2.1) (Option.some.inj aG)
theorem acy {w:World} {T:bf} {pages:List Nat} {L:List bo} {aI eS:ab} {key val:Key} (h:dz w T) (eI:n0 T pages L) (dy:L.length<4096) (jH:pages.Nodup) (aA:∀x∈pages,T.f x=true) (gA:T.C.D.cl≤800000000)
   (ae:Src 1 w aI (a_ key)) (sw:∀q,aQ aI q→q<w.heap.size∧¬T.M q) (al:Src 1 w eS (a_ val)) (Kf:∀q,aQ eS q→q<w.heap.size∧¬T.M q):
   aP Tryz.prog F.BO #[.pointer (some ⟨T.cB,0,none⟩), .slice aI.a aI.len aI.cap, .slice eS.a eS.len eS.cap] w (fun v w'=>(v= .int .i64 1∧¬(eG key∧val.length≤24)∧w=w')∨(eG key∧val.length≤24∧acu T pages (j2 L key val) w v w')):=by
 have fy:=len8 ae
 have jG:=len8 al
 refine W.apT (some ⟨T.cB,0,none⟩) aI eS w _ ?_
 (delta W.BO aF bk bD bj aE gE dA ai bR ar Lm fC;dsimp only)
 refine ff (fun b w'=>b= !(decide (eG key))∧w=w') (fun q J=>⟨fun h=>(by cases h),fun _=>(tq w aI).use ?_⟩) ?_
 · rintro _ _ ⟨rfl,rfl⟩
   refine ⟨_,rfl,J _ _ ⟨?_,rfl⟩⟩
   unfold eG
   rw[fy]
 rintro _ _ ⟨rfl,rfl⟩
 refine ⟨fun aa=> .inl ⟨rfl,fun bl=> ?_,rfl⟩,fun aa=> ?_⟩
 · rw[ik bl.1,jG] at aa
   have:¬((val.length:Nat):Int)>24:=by have:=bl.2;omega
   simp[this] at aa
 have bl:eG key∧val.length≤24:=by
   by_cases U:eG key
   · refine ⟨U,?_⟩
     rw[ik U,jG] at aa
     have:¬((val.length:Nat):Int)>24:=by simpa using aa
     omega
   · rw[sN U] at aa;simp at aa
 have nn:=h.s.c7
 obtain ⟨c4,Gc⟩:=eI.low dy
 have bB:Ext w w.drew:=ej w
 have hd:=h.ext bB
 refine bN ⟨fun _=>False,_,rfl,id,_,hd.cells.2.1,_,rfl,id,_,hd.cells.2.2.2.2,(TC hd.s).use ?_⟩
 rintro _ b4 ⟨rfl,jJ⟩
 have BM:((T.n:Int)-mL (fun i=>T.f i||T.g i) T.n)=(fR T:Nat):=by
   have:=HV (fun i=>T.f i||T.g i) T.n
   unfold fR;omega
 have tV:IntKind.wrap .i64 (IntKind.wrap .i64 (2*((T.bx:Nat):Int))+3)=((2*T.bx+3:Nat):Int):=by
   rw[cL (n:=2*((T.bx:Nat):Int)) (by omega) (by omega),cL (by omega) (by omega)];omega
 rw[BM,tV]
 have vk:=bB.trans jJ
 have xN:=h.ext vk
 refine ⟨_,rfl,jJ,fun aa=> .inr ⟨bl.1,bl.2,T,xN,(cp.ext T vk).mono (by omega),rfl,rfl, .inl ⟨rfl,?_,rfl⟩⟩,fun aa=> ?_⟩
 · have aa:((fR T:Nat):Int)<((2*T.bx+3:Nat):Int):=dL aa
   omega
 have jx:2*T.bx+3≤fR T:=by
   have:¬((fR T:Nat):Int)<((2*T.bx+3:Nat):Int):=fb aa
   omega
 obtain ⟨steps,xM,oQ⟩:=Vs (k:=key) xN eI
 refine (TM xN (by omega) (ae.ext vk) (fun q J=>⟨ly (sw q J).1 vk.size,(sw q J).2⟩) xM).use ?_
 rintro _ cZ ⟨bd,Ix,LH,ri,fm⟩
 have bT:=((cp.ext T vk).trans LH).mono (l:=2*T.bx) (by omega)
 rcases fm with ⟨s,wl,rfl,hm,zy⟩|⟨rfl,fQ⟩
 rotate_left
 · refine ⟨⟨none,0,0⟩,3,rfl,fun _=> .inr ⟨bl.1,bl.2,T.cU bd T.P,Ix,bT.mono (by omega),rfl,rfl, .inr (.inr ⟨rfl,fun ak=>fQ (mI ak (by omega)),rfl,rfl,rfl,fun no _=>⟨rfl,ri no⟩⟩)⟩,fun af=>(by cases af)⟩
 have D5:s.len=wl.length:=by
   have:=zy.own.1
   rw[nW _ (DE wl)] at this;omega
 have Kv:=vk.size
 have acz:wl.length=T.bx:=by
   have:=xM.length
   rw[←hm,kF] at this;exact this
 refine ⟨s,0,rfl,fun af=>(by cases af),fun _=>cx (vs:=[.bool false, .slice none 0 0, .slice none 0 0, .slice none 0 0]) rfl fun cC FG o8 TK=>⟨FG.du rfl (mc (b:=true) (K:=cg) (V:=cg) (D:=cg)),rfl,eg FG (us:=hX ⟨true,[],[],[]⟩ cg cg cg) rfl rfl fun dR H7 Pc Pd=> ?_⟩⟩
 have xE:Ext cZ dR:=Ext.e_ o8 Pc (cP _)
 obtain ⟨pC,Iq⟩:∃pC,pC=cZ.heap.size:=⟨_,rfl⟩
 rw[←Iq] at H7⊢
 obtain ⟨dc,l0⟩:∃dc:aO,dc=(if hw:0<wl.length then (wl[wl.length-1]'(by omega)).n else ⟨true,[],[],[]⟩):=⟨_,rfl⟩
 refine yB (fun fk=>∃ (K V D:ab) (B:Nat→Prop),Ext cZ fk∧Var fk pC (hX dc K V D) ah.cR∧ck B fk dc K V D) (fun q J=>⟨fun aB=> ?_,fun aB=> ?_⟩) ?_
 · have te:0<wl.length:=by
     have:((s.len:Nat):Int)>0:=dL aB
     omega
   rw[dif_pos te] at l0
   have e:IntKind.wrap .i64 (((s.len:Nat):Int)-1)=((wl.length-1:Nat):Int):=by rw[cL (by omega) (by omega)];omega
   obtain ⟨A,ay,_,_,_,hu⟩:=zy.at (i:=wl.length-1) (by omega)
   have PT:=hu.ext xE
   rw[e,g_]
   subst l0
   refine ⟨A,ay,⟨by omega,by omega⟩,_,PT.bm,_,PT.bj,_,PT.bk,_,PT.gE,H7.du rfl mc,rfl,eg H7 (us:=hX (wl[wl.length-1]'(by omega)).n (wl[wl.length-1]'(by omega)).K (wl[wl.length-1]'(by omega)).V (wl[wl.length-1]'(by omega)).D) rfl rfl fun fA apU apV awF=> ?_⟩
   have acA:Ext cZ fA:=Ext.e_ xE apV (by omega)
   exact J _ ⟨_,_,_,_,acA,apU,hu.e0.ext acA⟩
 · have te:¬0<wl.length:=by
     have:¬((s.len:Nat):Int)>0:=fb aB
     omega
   rw[dif_neg te] at l0
   subst l0
   exact J _ ⟨cg,cg,cg,fun _=>True,xE,H7,bU.none _ _,bU.none _ _,dG.none _ _⟩
 rintro fk ⟨K,V,D,B,PU,apW,apX⟩
 have awG:=PU.size
 have acd:=LH.an.size
 have PE:oU dc∧cr dc≤232:=by
   rcases oQ with ⟨U,ad,aq,aK⟩|⟨lL,c7,kH,g4,kC,oO,nE,nF,bD,bR,iC,kJ,BC,F7,DZ,D1,zo,BD,xF⟩
   · have LN:¬0<wl.length:=by
       rw[U] at hm
       have:wl=[]:=by simpa using hm
       rw[this];simp
     rw[l0,dif_neg LN]
     exact ⟨⟨⟨fun _ h=>(by cases h),List.Pairwise.nil⟩,rfl,rfl,rfl,fun _ h=>(by cases h)⟩,by decide⟩
   · rw[bD] at hm
     obtain ⟨aC,aG⟩:=IB hm
     rw[l0,dif_pos aC,aG]
     exact ⟨kJ,h.F8 _ _ iC⟩
 obtain ⟨rA,k_⟩:=PE
 have q8:=(ei.jS (.inl rA) (by omega))
 have j6:∀q,T.N q→q<w.heap.size:=fun q J=>h.lt (bf.mM J)
 have apY:Src 1 fk aI (a_ key):=(ae.an bT.an fun q J hL=>(sw q J).2 (bf.mM hL)).ext PU
 have apZ:Src 1 fk eS (a_ val):=(al.an bT.an fun q J hL=>(Kf q J).2 (bf.mM hL)).ext PU
 obtain ⟨d0,d1,d2,d3⟩:=cu apW
 refine ⟨_,d0,K,d1,V,d2,D,d3,(yK apX rA (by omega) apY apZ bl.1 bl.2).use ?_⟩
 rintro _ eO ⟨c6,c_,da,rfl,ap0,Pk⟩
 refine ⟨_,c6,c_,da,true,rfl,cx (vs:=[.bool false, .slice none 0 0, .slice none 0 0, .slice none 0 0]) rfl fun ek O6 O5 awH=>⟨O6.du rfl mc,rfl,eg O6 (us:=hX (pr dc key val) c6 c_ da) rfl rfl fun gN Ln ap1 awI=>⟨fun af=>(by cases af),fun _=> ?_⟩⟩⟩
 have acB:Ext eO gN:=Ext.e_ O5 ap1 (cP _)
 have Vt:=(PU.trans Pk).trans acB
 obtain ⟨d0,d1,d2,d3⟩:=cu Ln
 obtain ⟨cq,cA,gl,p6,xI,m9⟩:=apP rA bl.1 bl.2
 have F5:bd.D.cl≤900000000:=by
   have:bd.D.cl≤T.C.D.cl+2*T.bx:=bT.cl
   omega
 have ap2:ck (fun q=>¬(T.cU bd T.P).M q) gN (pr dc key val) c6 c_ da:=(ap0.ext acB).bA fun q _ J kI=>by have:=Ix.lt kI;omega
 have Vu:=acx (iK:=j2 L key val) (k:=key) (steps:=steps) (dc:=dc) (Ix.ext Vt) eI dy jH aA F5 hm (zy.ext' Vt fun q J=>J.2) ap2 cq (by
   rcases oQ with ⟨U,ad,aq,aK⟩|⟨lL,c7,kH,g4,kC,oO,nE,nF,bD,bR,iC,kJ,BC,F7,DZ,D1,zo,BD,xF⟩
   · have LN:¬0<wl.length:=by omega
     rw[dif_neg LN] at l0
     refine .inl ⟨U,ad,aq,p6,?_,?_⟩
     · have:cr dc=1:=by rw[l0];rfl
       omega
     · rw[cA,l0,aK];rfl
   · rw[bD] at hm
     obtain ⟨aC,aG⟩:=IB hm
     rw[dif_pos aC,aG] at l0
     rw[l0] at cA gl p6 xI m9⊢
     refine .inr ⟨lL,kH,g4,kC,oO,nE,nF,bD,bR,fun s aj=> ?_,fun _=>p6,zo,?_,by have:=h.F8 _ _ iC;omega⟩
     · rcases m9 s aj with rfl|aW
       · exact D1
       · exact BC s aW
     · rw[cA];exact xF (fun L=>j2 L key val) (ah0 key val))
 refine ⟨_,d0,c6,d1,c_,d2,da,d3,Vu.use ?_⟩
 intro v w' aY
 have ap3:=aY.an (w:=w) ((bT.trans (cp.ext (T.cU bd T.P) Vt)).mono (l:=40) (by omega)) (cP _) ri jx
 obtain ⟨av,U,ad,aq,aK,aW⟩:=ap3
 rcases aW with ⟨rfl,b7⟩|⟨rfl,b7⟩|⟨rfl,b7⟩
 · exact ⟨2,rfl, .inr ⟨bl.1,bl.2,av,U,ad,aq,aK, .inl ⟨rfl,b7⟩⟩⟩
 · exact ⟨0,rfl, .inr ⟨bl.1,bl.2,av,U,ad,aq,aK, .inr (.inl ⟨rfl,b7⟩)⟩⟩
 · exact ⟨3,rfl, .inr ⟨bl.1,bl.2,av,U,ad,aq,aK, .inr (.inr ⟨rfl,b7⟩)⟩⟩
end
section
theorem acC {l:List bo} {k:Key} (h:(jP l k).length=l.length):∀p∈l,p.1≠k:=by
 intro p aV
 unfold jP at h
 have:=(uV (p:=fun p:bo=>decide (p.1≠k))).1 (List.Sublist.eq_of_length List.filter_sublist h)
 exact dL (this p aV)
theorem acD {L A B M:List bo} {k:Key} (dy:L=A++(M++B)) (hu:jP L k=A++(jP M k++B)):j3 L k=j3 M k:=by
 have U:(jP A k).length≤A.length:=ye _ _
 have ad:(jP B k).length≤B.length:=ye _ _
 have aq:=congrArg List.length hu
 rw[dy,G7,G7] at aq
 simp only[eC] at aq
 have ay:=acC (l:=A) (k:=k) (by omega)
 have fc:=acC (l:=B) (k:=k) (by omega)
 have LO:A.find? (fun p=>decide (p.1=k))=none:=rv.2 fun p aV=>by simpa using ay p aV
 have Vv:B.find? (fun p=>decide (p.1=k))=none:=rv.2 fun p aV=>by simpa using fc p aV
 unfold j3
 rw[dy,List.find?_append,List.find?_append,LO,Vv]
 simp
theorem acE {n:aO} {k:Key} (h:oU n):j3 n.gV k=if pq n.keys k then n.vals[er n.keys k]? else none:=by
 have hle:=He n.keys k
 have DG:=h.j5
 have wL:∀ (j:Nat) (aZ:j<n.keys.length),j<er n.keys k→cw n.keys[j] k:=fun j aZ U=>E1 U aZ
 have LM:n.keys[er n.keys k]? ≠some k→∀ (j:Nat) (aZ:j<n.keys.length),er n.keys k≤j→cw k n.keys[j]:=fun he j aZ U=>act DG U aZ he
 have aV:n.gV=n.keys.zip n.vals:=rfl
 unfold pq
 rw[aV]
 generalize er n.keys k=i at hle wL LM⊢
 obtain ⟨a,b,c,d,ba,bp,dM,j8,lX,vL,BN,u6,Al⟩:=Vq h hle
 have bF:n.keys.zip n.vals=a.zip c++b.zip d:=by rw[ba,bp];exact EX (by omega)
 have LO:(a.zip c).find? (fun p:bo=>decide (p.1=k))=none:=rv.2 fun p aV=>by
   have hm:=(JF aV).1
   obtain ⟨j,aZ,Vw⟩:=lU hm
   have U:=wL j (by rw[ba,eC];omega) (by omega)
   simp only[ba,z_ aZ,Vw] at U
   simpa using uX U
 unfold j3
 rw[bF,List.find?_append,LO]
 by_cases he:n.keys[i]? =some k
 · rw[if_pos (by simpa using he)]
   have q4:∃jn,b=k::jn:=by
     cases b with
     |nil=>rw[ba,wm (by omega)] at he;simp at he
     |cons y jn=>
       rw[ba,wm (by omega),dM,ER] at he
       simp at he
       exact ⟨jn,by rw[he]⟩
   obtain ⟨jn,rfl⟩:=q4
   obtain ⟨x,k5,rfl⟩:∃x k5,d=x::k5:=by
     cases d with
     |nil=>simp at lX
     |cons x k5=>exact ⟨x,k5,rfl⟩
   rw[bp,wm (by omega),j8,ER]
   simp
 · rw[if_neg (by simpa using he)]
   have Vr:=LM he
   have Vv:(b.zip d).find? (fun p:bo=>decide (p.1=k))=none:=rv.2 fun p aV=>by
     have hm:=(JF aV).1
     obtain ⟨j,aZ,Vw⟩:=lU hm
     have U:=Vr (i+j) (by rw[ba,eC];omega) (by omega)
     have e:(a++b)[i+j]'(by rw[eC];omega)=b[j]:=by
       rw[ES (by omega)];congr 1;omega
     simp only[ba,e,Vw] at U
     have:=uX U
     simpa using fun h=>this h.symm
   rw[Vv];rfl
def ap4 (T:bf) (L:List bo) (key:Key) (w:World) (v:Value) (w':World):Prop:=
 ∃bd:dC,dz w' (T.cU bd T.P)∧cp T (T.cU bd T.P) w w' 30∧(∀j,bd.view j=T.C.view j)∧
   ((v= .tuple #[.slice none 0 0, .bool false, .int .i64 0]∧(eG key→j3 L key=none))∨
    (∃ (t:ab) (x:Key),v= .tuple #[.slice t.a t.len t.cap, .bool true, .int .i64 0]∧eG key∧j3 L key=some x∧bH (fun q=>¬(T.cU bd T.P).M q) w' t x)∨
    (v= .tuple #[.slice none 0 0, .bool false, .int .i64 3]∧eG key∧¬T.C.D.calm 30))
theorem acF {w:World} {T:bf} {pages:List Nat} {L:List bo} {aI:ab} {key:Key} (h:dz w T) (eI:n0 T pages L) (gA:T.C.D.cl≤800000000) (ae:Src 1 w aI (a_ key)) (sw:∀q,aQ aI q→q<w.heap.size∧¬T.M q):
   aP Tryz.prog F.BP #[.pointer (some ⟨T.cB,0,none⟩), .slice aI.a aI.len aI.cap] w (ap4 T L key w):=by
 have fy:=len8 ae
 have c4:=h.num.2.1
 have HY:T.cU T.C T.P=T:=rfl
 refine W.ap5 (some ⟨T.cB,0,none⟩) aI w _ ?_
 (delta W.BP aF bk gE aE bR ar dA ai dQ bc;dsimp only)
 refine ff (fun b w'=>b= !(decide (eG key))∧w=w') (fun q J=>⟨fun h=>(by cases h),fun _=>(tq w aI).use ?_⟩) ?_
 · rintro _ _ ⟨rfl,rfl⟩
   refine ⟨_,rfl,J _ _ ⟨?_,rfl⟩⟩
   unfold eG
   rw[fy]
 rintro _ _ ⟨rfl,rfl⟩
 refine ⟨fun aa=>⟨fun h=>(by cases h),fun _=> ?_⟩,fun aa=> ?_⟩
 · have:¬eG key:=by simpa using aa
   exact ⟨T.C,h,(cp.refl T w).mono (by omega),fun _=>rfl, .inl ⟨rfl,fun af=>absurd af this⟩⟩
 have bl:eG key:=by simpa using aa
 obtain ⟨steps,xM,oQ⟩:=Vs (k:=key) h eI
 refine (TM h (by omega) ae sw xM).use ?_
 rintro _ aS ⟨bd,BQ,rW,ri,fm⟩
 rcases fm with ⟨s,wl,rfl,hm,zy⟩|⟨rfl,fQ⟩
 rotate_left
 · exact ⟨⟨none,0,0⟩,3,rfl,fun _=>⟨bd,BQ,rW.mono (by omega),ri, .inr (.inr ⟨rfl,bl,fun ak=>fQ (mI ak (by omega))⟩)⟩,fun af=>(by simp at af)⟩
 have D5:s.len=wl.length:=by
   have:=zy.own.1
   rw[nW _ (DE wl)] at this;omega
 have acz:wl.length=T.bx:=by
   have:=xM.length
   rw[←hm,kF] at this;exact this
 refine ⟨s,0,rfl,fun af=>⟨bd,BQ,rW.mono (by omega),ri, .inl ⟨rfl,fun _=> ?_⟩⟩,fun af=> ?_⟩
 · have te:wl.length=0:=by
     have:((s.len:Nat):Int)=0:=by simpa using af
     omega
   rcases oQ with ⟨_,_,_,aK⟩|⟨lL,c7,kH,g4,kC,oO,nE,nF,bD,_⟩
   · rw[aK];rfl
   · rw[bD] at hm
     obtain ⟨aC,_⟩:=IB hm
     omega
 have te:0<wl.length:=by
   have:¬((s.len:Nat):Int)=0:=by simpa using af
   omega
 have e:IntKind.wrap .i64 (((s.len:Nat):Int)-1)=((wl.length-1:Nat):Int):=by rw[cL (by omega) (by omega)];omega
 obtain ⟨A,ay,_,_,_,hu⟩:=zy.at (i:=wl.length-1) (by omega)
 rcases oQ with ⟨U,_⟩|⟨lL,c7,kH,g4,kC,oO,nE,nF,bD,bR,iC,kJ,BC,F7,DZ,D1,zo,BD,xF⟩
 · rw[U] at hm
   have:=congrArg List.length hm
   simp at this;omega
 have kI:=hm
 rw[bD] at kI
 obtain ⟨aC,aG⟩:=IB kI
 rw[e,g_]
 generalize ap6:(wl[wl.length-1]'(by omega))=u at hu aG
 obtain ⟨ap7,un,ap8,K,V,D⟩:=u
 obtain rfl:un=c7:=aG
 refine ⟨A,ay,⟨by omega,by omega⟩,_,hu.bm,K,hu.bj,V,hu.bk,D,hu.gE,cx (vs:=[.bool false, .slice none 0 0, .slice none 0 0, .slice none 0 0]) rfl fun cZ PI oJ Pm=>⟨PI.du rfl mc,rfl,eg PI (us:=hX un K V D) rfl rfl fun dK acG Vx ap9=> ?_⟩⟩
 have LP:Ext aS dK:=Ext.e_ oJ Vx (cP _)
 obtain ⟨d0,d1,d2,d3⟩:=cu acG
 have q8:=(ei.jS (.inl kJ) (by have:=h.F8 _ _ iC;omega))
 have ap_:Src 1 dK aI (a_ key):=(ae.an rW.an fun q J hL=>(sw q J).2 (bf.mM hL)).ext LP
 have acH:ck (fun q=>w.heap.size≤q∧¬(T.cU bd T.P).M q) dK un K V D:=hu.e0.ext LP
 refine ⟨_,d0,K,d1,V,d2,D,d3,(yG acH ap_ kJ.j5 (by omega)).use ?_⟩
 rintro _ cF ⟨rfl,p9⟩
 have dO:=LP.trans p9
 have acI:=BQ.ext dO
 have xH:cp T (T.cU bd T.P) w cF 30:=(rW.trans (cp.ext _ dO)).mono (by omega)
 have rX:j3 L key=j3 un.gV key:=acD BD (xF (fun L=>jP L key) (RR key))
 rw[acE kJ] at rX
 refine ⟨_,_,rfl,fun aD=>⟨bd,acI,xH,ri, .inl ⟨rfl,fun _=> ?_⟩⟩,fun aD=> ?_⟩
 · have aD:pq un.keys key=false:=by simpa using aD
   rw[rX,if_neg (by rw[aD];simp)]
 · have aD:pq un.keys key=true:=by simpa using aD
   have Vy:er un.keys key<un.keys.length:=(qJ.1 (dL aD)).1
   have PV:er un.keys key<un.vals.length:=by rw[kJ.len];exact Vy
   obtain ⟨f0,f1,f2,f3⟩:=cu (acG.ext p9)
   obtain ⟨Vz,eS,VA,CW,VB,PW,_⟩:=bU.at (acH.ext p9).vals PV
   refine ⟨V,f2,Vz,VA,CW,eS,VB,bd,acI,xH,ri, .inr (.inl ⟨eS,un.vals[er un.keys key],rfl,bl,?_,bH.bA PW fun q _ aa=>aa.2⟩)⟩
   rw[rX,if_pos aD,gT PV]
end
section
theorem aqa {n:aO} {k:Key} (h:oU n) (ae:pq n.keys k=true):oU (yJ n k)∧(yJ n k).gV=jP n.gV k∧cr (yJ n k)≤cr n∧n.keys.length=(yJ n k).keys.length+1∧(∀s∈(yJ n k).keys,s∈n.keys):=by
 have hle:=He n.keys k
 have DG:=h.j5
 have aV:n.gV=n.keys.zip n.vals:=rfl
 have he:n.keys[er n.keys k]? =some k:=dL ae
 rw[aV]
 unfold yJ
 generalize er n.keys k=i at hle he⊢
 obtain ⟨a,b,c,d,ba,bp,dM,j8,lX,vL,BN,u6,Al⟩:=Vq h hle
 have bF:n.keys.zip n.vals=a.zip c++b.zip d:=by rw[ba,bp];exact EX (by omega)
 have q4:∃jn,b=k::jn:=by
   cases b with
   |nil=>rw[ba,wm (by omega)] at he;simp at he
   |cons y jn=>
     rw[ba,wm (by omega),dM,ER] at he
     simp at he
     exact ⟨jn,by rw[he]⟩
 obtain ⟨jn,rfl⟩:=q4
 obtain ⟨x,k5,rfl⟩:∃x k5,d=x::k5:=by
   cases d with
   |nil=>simp at lX
   |cons x k5=>exact ⟨x,k5,rfl⟩
 have aC:n.keys.drop (i+1)=jn:=by rw[ba,show a++k::jn=(a++ [k])++jn by simp];exact drop_left' (by simp[dM])
 have aG:n.vals.drop (i+1)=k5:=by rw[bp,show c++x::k5=(c++ [x])++k5 by simp];exact drop_left' (by simp[j8])
 rw[vL,u6,aC,aG]
 have o2:(a++k::jn).Pairwise cw:=by rw[←ba];exact DG
 obtain ⟨mz,g3,DN⟩:=Cl.1 o2
 have zz:=tJ.1 g3
 have iU:∀z,z∈a++jn→z∈n.keys:=fun z bF=>by
   rw[ba]
   simp only[fa,gg] at bF⊢
   rcases bF with U|U
   · exact .inl U
   · exact .inr (.inr U)
 refine ⟨⟨⟨fun z bF=>h.ok z (iU z bF),Cl.2 ⟨mz,zz.2,fun y b2 z bF=>DN y b2 z (wh _ bF)⟩⟩,h.leaf,?_,h.kids,fun z bF=>h.vals z ?_⟩,?_,?_,?_,iU⟩
 · show (c++k5).length=(a++jn).length
   simp only[eC,oS] at lX⊢;omega
 · rw[bp]
   have bF:z∈c++k5:=bF
   simp only[fa,gg] at bF⊢
   rcases bF with U|U
   · exact .inl U
   · exact .inr (.inr U)
 · show (a++jn).zip (c++k5)=_
   rw[bF,EX (by omega),G7,List.zip_cons_cons]
   have f1:jP (a.zip c) k=a.zip c:=EW fun p aV=>uX (DN _ (JF aV).1 k List.mem_cons_self)
   have f2:jP ((k,x)::jn.zip k5) k=jn.zip k5:=by
     have:jP ((k,x)::jn.zip k5) k=jP (jn.zip k5) k:=by unfold jP;simp
     rw[this]
     exact EW fun p aV=>(uX (zz.1 _ (JF aV).1)).symm
   rw[f1,f2]
 · rw[IA h.leaf,IA (n:={n with keys:=a++jn,vals:=c++k5}) h.leaf]
   show 1+(List.zipWith uK (a++jn) (c++k5)).sum≤_
   rw[ba,bp,GV (by omega),GV (by omega),x8,x8,List.zipWith_cons_cons,JH]
   omega
 · show n.keys.length=(a++jn).length+1
   rw[ba]
   simp only[eC,oS];omega
end
section
structure pE (T av:bf):Prop where
 root:av.root=T.root
 bx:av.bx=T.bx
 f:av.f=T.f
 g8:∀no,(T.f no||T.g no)=true→av.P no=T.P no∧av.C.view no=T.C.view no
theorem pE.refl (T:bf):pE T T:=⟨rfl,rfl,rfl,fun _ _=>⟨rfl,rfl⟩⟩
theorem pE.cU {T:bf} {bd:dC} (al:∀j,bd.view j=T.C.view j):pE T (T.cU bd T.P):=⟨rfl,rfl,rfl,fun no _=>⟨rfl,al no⟩⟩
theorem pE.trans {T av xq:bf} (U:pE T av) (ad:pE av xq) (bl:av.g=T.g):pE T xq:=
 ⟨ad.root.trans U.root,ad.bx.trans U.bx,ad.f.trans U.f,fun no h=>by
   have aq:=U.g8 no h
   have aK:=ad.g8 no (by rw[U.f,bl];exact h)
   exact ⟨aK.1.trans aq.1,aK.2.trans aq.2⟩⟩
structure VC (T av:bf) (di:List Nat) (iK:List bo):Prop where
 ok:∃pages,n0 av pages iK∧pages.Nodup∧(∀no∈pages,no∈di∨(T.f no||T.g no)=false)∧∀no,av.f no=true↔(no∈pages∨(T.f no=true∧no∉di))
 g8:∀no,T.g no=true→av.P no=T.P no∧av.C.view no=T.C.view no
theorem pE.ok {T av:bf} {pages:List Nat} {L:List bo} (h:pE T av) (eI:n0 T pages L) (aA:∀x∈pages,T.f x=true):n0 av pages L:=by
 unfold n0 at eI⊢
 rw[h.root,h.bx]
 rcases eI with eI|hw
 · exact .inl eI
 · exact .inr (jD.agree hw fun x af=>(h.g8 x (by rw[aA x af];rfl)).1.symm).1
def aqb (T:bf) (di:List Nat) (L:List bo) (key:Key) (w:World) (v:Value) (w':World):Prop:=
 ∃av:bf,dz w' av∧cp T av w w' 100∧av.E=T.E∧av.G=T.G∧
   ((v= .tuple #[.bool false, .int .i64 1]∧¬eG key∧pE T av)∨
    (v= .tuple #[.bool false, .int .i64 0]∧eG key∧j3 L key=none∧pE T av)∨
    (v= .tuple #[.bool false, .int .i64 2]∧eG key∧j3 L key≠none∧fR T<2*T.bx+3∧pE T av)∨
    (v= .tuple #[.bool true, .int .i64 0]∧eG key∧j3 L key≠none∧2*T.bx+3≤fR T∧VC T av di (jP L key))∨
    (v= .tuple #[.bool false, .int .i64 3]∧eG key∧¬T.C.D.calm 100∧pE T av))
theorem aqc {w:World} {T:bf} {pages:List Nat} {L:List bo} {aI:ab} {key:Key} (h:dz w T) (eI:n0 T pages L) (dy:L.length<4096) (jH:pages.Nodup) (aA:∀x∈pages,T.f x=true) (gA:T.C.D.cl≤800000000)
   (ae:Src 1 w aI (a_ key)) (sw:∀q,aQ aI q→q<w.heap.size∧¬T.M q):
   aP Tryz.prog F.D9 #[.pointer (some ⟨T.cB,0,none⟩), .slice aI.a aI.len aI.cap] w (aqb T pages L key w):=by
 have fy:=len8 ae
 have c4:=h.num.2.1
 refine W.aqd (some ⟨T.cB,0,none⟩) aI w _ ?_
 (delta W.D9 aF bk gE aE bR ar fC dA ai bj;dsimp only)
 refine ff (fun b w'=>b= !(decide (eG key))∧w=w') (fun q J=>⟨fun h=>(by cases h),fun _=>(tq w aI).use ?_⟩) ?_
 · rintro _ _ ⟨rfl,rfl⟩
   refine ⟨_,rfl,J _ _ ⟨?_,rfl⟩⟩
   unfold eG
   rw[fy]
 rintro _ _ ⟨rfl,rfl⟩
 refine ⟨fun aa=>⟨T,h,(cp.refl T w).mono (by omega),rfl,rfl, .inl ⟨rfl,by simpa using aa, .refl T⟩⟩,fun aa=> ?_⟩
 have bl:eG key:=by simpa using aa
 obtain ⟨steps,xM,oQ⟩:=Vs (k:=key) h eI
 refine (TM h (by omega) ae sw xM).use ?_
 rintro _ aS ⟨bd,BQ,rW,ri,fm⟩
 rcases fm with ⟨s,wl,rfl,hm,zy⟩|⟨rfl,fQ⟩
 rotate_left
 · exact ⟨⟨none,0,0⟩,3,rfl,fun _=>⟨_,BQ,rW.mono (by omega),rfl,rfl, .inr (.inr (.inr (.inr ⟨rfl,bl,fun ak=>fQ (mI ak (by omega)), .cU ri⟩)))⟩,fun af=>(by simp at af)⟩
 have D5:s.len=wl.length:=by
   have:=zy.own.1
   rw[nW _ (DE wl)] at this;omega
 have acz:wl.length=T.bx:=by
   have:=xM.length
   rw[←hm,kF] at this;exact this
 refine ⟨s,0,rfl,fun af=>⟨_,BQ,rW.mono (by omega),rfl,rfl, .inr (.inl ⟨rfl,bl,?_, .cU ri⟩)⟩,fun af=> ?_⟩
 · have te:wl.length=0:=by
     have:((s.len:Nat):Int)=0:=by simpa using af
     omega
   rcases oQ with ⟨_,_,_,aK⟩|⟨lL,c7,kH,g4,kC,oO,nE,nF,bD,_⟩
   · rw[aK];rfl
   · rw[bD] at hm
     obtain ⟨aC,_⟩:=IB hm
     omega
 have te:0<wl.length:=by
   have:¬((s.len:Nat):Int)=0:=by simpa using af
   omega
 have e:IntKind.wrap .i64 (((s.len:Nat):Int)-1)=((wl.length-1:Nat):Int):=by rw[cL (by omega) (by omega)];omega
 obtain ⟨A,ay,_,_,_,hu⟩:=zy.at (i:=wl.length-1) (by omega)
 rcases oQ with ⟨U,_⟩|⟨lL,c7,kH,g4,kC,oO,nE,nF,bD,bR,iC,kJ,BC,F7,DZ,D1,zo,BD,xF⟩
 · rw[U] at hm
   have:=congrArg List.length hm
   simp at this;omega
 have kI:=hm
 rw[bD] at kI
 obtain ⟨aC,aG⟩:=IB kI
 rw[e,g_]
 generalize ap6:(wl[wl.length-1]'(by omega))=u at hu aG
 obtain ⟨ap7,un,ap8,K,V,D⟩:=u
 obtain rfl:un=c7:=aG
 have q8:=(ei.jS (.inl kJ) (by have:=h.F8 _ _ iC;omega))
 have aqe:Src 1 aS aI (a_ key):=ae.an rW.an fun q J hL=>(sw q J).2 (bf.mM hL)
 have rX:j3 L key=j3 un.gV key:=acD BD (xF (fun L=>jP L key) (RR key))
 rw[acE kJ] at rX
 refine ⟨A,ay,⟨by omega,by omega⟩,_,hu.bm,K,hu.bj,V,hu.bk,D,hu.gE,(yM (n:=un) hu.e0 kJ (by omega) aqe).use ?_⟩
 intro v cZ fm
 unfold HA at fm
 by_cases aD:pq un.keys key=true
 rotate_left
 · have aD:pq un.keys key=false:=by simpa using aD
   rw[aD,if_neg (by simp)] at fm
   obtain ⟨rfl,oJ⟩:=fm
   refine ⟨_,cg,cg,cg,false,rfl,cx (vs:=[.bool false, .slice none 0 0, .slice none 0 0, .slice none 0 0]) rfl fun pd LQ VD aqf=>⟨LQ.du rfl (mc (b:=rG.leaf) (K:=cg) (V:=cg) (D:=cg)),rfl,eg LQ (us:=hX rG cg cg cg) rfl rfl fun cI DI VE K8=>⟨fun _=> ?_,fun af=>(by cases af)⟩⟩⟩
   have qs:Ext cZ cI:=Ext.e_ VD VE (cP _)
   have dO:=oJ.trans qs
   refine ⟨_,BQ.ext dO,(rW.trans (cp.ext _ dO)).mono (by omega),rfl,rfl, .inr (.inl ⟨rfl,bl,?_, .cU ri⟩)⟩
   rw[rX,if_neg (by rw[aD];simp)]
 rw[if_pos aD] at fm
 obtain ⟨c6,c_,da,rfl,aqg,oJ⟩:=fm
 refine ⟨_,c6,c_,da,true,rfl,cx (vs:=[.bool false, .slice none 0 0, .slice none 0 0, .slice none 0 0]) rfl fun pd LQ VD aqf=>⟨LQ.du rfl mc,rfl,eg LQ (us:=hX (yJ un key) c6 c_ da) rfl rfl fun cI DI VE K8=>⟨fun af=>(by cases af),fun _=> ?_⟩⟩⟩
 have qs:Ext cZ cI:=Ext.e_ VD VE (cP _)
 have dO:=oJ.trans qs
 obtain ⟨d0,d1,d2,d3⟩:=cu DI
 obtain ⟨cq,cA,gl,p6,xI⟩:=aqa kJ aD
 have Vy:er un.keys key<un.keys.length:=(qJ.1 (dL aD)).1
 have PV:er un.keys key<un.vals.length:=by rw[kJ.len];exact Vy
 have LR:j3 L key≠none:=by
   rw[rX,if_pos aD,gT PV];simp
 have F5:bd.D.cl≤900000000:=by
   have:bd.D.cl≤T.C.D.cl+2*T.bx:=rW.cl
   omega
 have acd:=oJ.size
 have LS:ck (fun q=>¬(T.cU bd T.P).M q) cI (yJ un key) c6 c_ da:=(aqg.ext qs).bA fun q _ J kI=>by have:=BQ.lt kI;omega
 have Vu:=acx (iK:=jP L key) (k:=key) (steps:=steps) (dc:=un) (BQ.ext dO) eI dy jH aA F5 hm (zy.ext' dO fun q J=>J.2) LS cq (.inr ⟨lL,kH,g4,kC,oO,nE,nF,bD,bR,fun s aj=>BC s (xI s aj),fun aj e=>by
   have ot:=DZ aj
   rw[e] at p6
   simp at p6;omega,zo,by rw[cA];exact xF (fun L=>jP L key) (RR key),by have:=h.F8 _ _ iC;omega⟩)
 refine ⟨_,d0,c6,d1,c_,d2,da,d3,Vu.use ?_⟩
 rintro v w' ⟨av,U,ad,aq,aK,aW⟩
 have bT:=((rW.trans (cp.ext (T.cU bd T.P) dO)).trans ad).mono (l:=100) (by omega)
 have acv:fR (T.cU bd T.P)=fR T:=rfl
 have acw:(T.cU bd T.P).bx=T.bx:=rfl
 rcases aW with ⟨rfl,b7,hV⟩|⟨rfl,b7,hV,ot⟩|⟨rfl,b7,hV,ot,rI,PR⟩
 · subst hV
   exact ⟨2,rfl,_,U,bT,aq,aK, .inr (.inr (.inl ⟨rfl,bl,LR,b7, .cU ri⟩))⟩
 · exact ⟨0,rfl,_,U,bT,aq,aK, .inr (.inr (.inr (.inl ⟨rfl,bl,LR,b7,hV,fun no c8=>⟨(ot no c8).1,(ot no c8).2.trans (ri no)⟩⟩)))⟩
 · exact ⟨3,rfl,_,U,bT,aq,aK, .inr (.inr (.inr (.inr ⟨rfl,bl,fun ak=>b7 (rW.calm 60 (mI ak (by omega))),(pE.cU ri).trans ⟨hV,ot,rI,PR⟩ rfl⟩)))⟩
end
end Go.Proofs.YtplieiecebljmaaGreat
