/- Contracts of the functions that the statement reaches, and the plain laws over them; each theorem stands with its conditions. -/
import Derived.Laws.Small
import Derived.Test.YtplieiecebljmaaGreatBPlays3
namespace Go.Proofs.YtplieiecebljmaaGreat
open Go cd
section
theorem aaH {B:Nat→Prop} {w:World} {s:aa} {ls:List Key} (h:b2 B w s ls) (az:ls.length≤100000):
   aO Tryz.prog F.AV #[.slice s.a s.len s.cap] w (fun v w'=>∃ar:aa,v= .slice ar.a ar.len ar.cap∧b6 (fun q=>(B q∧q<w.heap.size)∨(w.heap.size≤q∧aQ ar q)) w' ar ls∧Ext w w'∧oG w ar):=by
 have gv:=b2.len h
 obtain ⟨ts,aB,aF,aJ,aM,cU⟩:=h
 refine W.anm s w _ ?_
 delta W.AV aA ai
 refine ⟨fun aU=> ?_,fun _=> ?_⟩
 · have aU:s.a=none:=by simpa using aU
   have b7:=aF.nil aU
   have:ls=[]:=List.eq_nil_of_length_eq_zero (by rw[←aB];have:=congrArg List.length b7;simpa using this)
   subst this
   exact ⟨⟨none,0,0⟩,rfl,b6.none _ _, .refl _ _,fun k ae=>(qF k ae).elim⟩
 · obtain ⟨ar,w',U,ad,au,aH,aY,_⟩:=Hu.clone (ey:=ah.cM) aF (NV ts) (by omega)
   refine bN ⟨ar,w',U,ar,rfl,⟨ts,aB,ad,fun q J=>⟨.inr ⟨aY q J,J⟩,ad.lt q J⟩,fun i i1 i2=> ?_⟩,aH,aY⟩
   have a:=cU i i1 i2
   exact ⟨bL.bz (bL.ext (bL.bz (C:=fun q=>B q∧q<w.heap.size) a fun q J ab=>⟨ab,J⟩) aH) fun q _ ab=> .inl ab,fun k ae dW=>by have:=aY k dW;have:=(a.2.2 k ae).2;omega⟩
theorem xC.at {B:Nat→Prop} {w:World} {s:aa} {ks:List Key} {kids:List Nat} (h:xC B w s ks kids):s.len=kids.length∧kids.length=ks.length+1∧kids.length≤2∧∀ (j:Nat) (a8:j<kids.length),∃ (A:Addr) (t:aa),s.a=some A∧w.cell? (A.add (j*2))=some (.slice t.a t.len t.cap)∧w.cell? ((A.add (j*2)).add 1)=some (.int .i64 ((kids[j]:Nat):Int))∧
   ((t.a=none∧ks.take j=ks.take (j-1))∨(t.a.isSome=true∧∃k,bL B w t k∧ks.take j=ks.take (j-1)++ [k])):=by
 rcases h with ⟨b,x,rfl,rfl,rfl,ak,ab⟩|⟨b,x,y,k,t,rfl,rfl,rfl,ak,ab,aR,ae⟩
 · refine ⟨rfl,rfl,by simp,fun j a8=> ?_⟩
   have:j=0:=by simp at a8;omega
   subst this
   exact ⟨_,⟨none,0,0⟩,rfl,by rw[aX];exact ak.cell,by rw[aX,aX];exact ak.cell, .inl ⟨rfl,rfl⟩⟩
 · refine ⟨rfl,rfl,by simp,fun j a8=> ?_⟩
   rcases g8 j 1 with U|U
   · have:j=0:=by omega
     subst this
     exact ⟨_,⟨none,0,0⟩,rfl,by rw[aX];exact ak.cell,by rw[aX,aX];exact ak.cell, .inl ⟨rfl,rfl⟩⟩
   · have:j=1:=by simp at a8;omega
     subst this
     obtain ⟨A,ax⟩:=bL.some aR ae
     exact ⟨_,t,rfl,by rw[aX];exact ak.cell,by rw[aX,aX];exact ak.cell, .inr ⟨by rw[ax];rfl,k,aR,rfl⟩⟩
theorem xC.ext {B:Nat→Prop} {w w':World} {s:aa} {ks:List Key} {kids:List Nat} (h:xC B w s ks kids) (af:Ext w w'):xC B w' s ks kids:=by
 rcases h with ⟨b,x,U,ad,au,ak,ab⟩|⟨b,x,y,k,t,U,ad,au,ak,ab,aR,ae⟩
 · exact .inl ⟨b,x,U,ad,au,ak.ext af,ab⟩
 · exact .inr ⟨b,x,y,k,t,U,ad,au,ak.ext af,ab,bL.ext aR af,ae⟩
theorem ann {w:World} {bF o:Nat} {vs:List Value} {S t:aa} {ls:List Key} {l:Key} {B:Nat→Prop} {T:TypeId} (ak:Var w bF vs T) (Ap:o<vs.length) (o3:b6 B w S ls) (CE:¬B bF)
   (aR:bL B w t l) (hd:∀k,aQ t k→¬aQ S k) (aC:ls.length≤100000) {K:World→Prop}
   (bu:∀ (w':World) (gS:aa),Var w' bF (vs.set o (.slice gS.a gS.len gS.cap)) T→b6 (Grow B w w') w' gS (ls++ [l])→ao (fun q=>q=bF∨aQ S q) w w'→(∀k,aQ gS k→aQ S k∨w.heap.size≤k)→K w'):
   ay (w.alloc (.cells #[.slice t.a t.len t.cap] ah.cn)) fun gb=>∃dh:aa,∃e8:World,Sem.run Tryz.prog (Builtin.append_ #[ah.cM,ah.cM] ah.cM #[.slice S.a S.len S.cap, .slice (some ⟨w.heap.size,0,none⟩) 1 1]) gb= .ok (.slice dh.a dh.len dh.cap) e8∧
     (∃u:Value,e8.cell? (Addr.add ⟨bF,0,none⟩ o)=some u)∧e8.frozen? (Addr.add ⟨bF,0,none⟩ o)=false∧ay (e8.setCell (Addr.add ⟨bF,0,none⟩ o) (.slice dh.a dh.len dh.cap)) fun e4=>K e4:=by
 have Aq:=b6.bz (C:=fun q=>B q∨w.heap.size≤q) o3 fun k _ h=> .inl h
 have nK:=bL.bz (C:=fun q=>B q∨w.heap.size≤q) aR fun k _ h=> .inl h
 obtain ⟨ar,w',aB,aF,aJ,aM⟩:=Yg Aq nK hd (by omega) fun k ae=> .inr ae
 have jY:=ak.lt
 have J9:¬aQ S bF:=fun h=>by
   obtain ⟨ts,_,_,au,_⟩:=o3
   exact CE (au bF h).1
 have qO:=ak.an aJ J9
 obtain ⟨aV,bA⟩:=jk qO Ap
 refine bN ⟨ar,w',aB,?_⟩
 rw[aX,gy]
 have al:=il w' bF o (.slice ar.a ar.len ar.cap)
 refine ⟨aV,bA,bN (bu _ ar (jj qO _) ?_ ?_ aM)⟩
 · have aY:=b6.bz (C:=Grow B w (w'.setCell ⟨bF,o,none⟩ (.slice ar.a ar.len ar.cap))) aF fun k ae h=>by
     rcases h with h|h
     · exact .inl h
     · exact .inr ⟨h,lv ae al.size⟩
   refine b6.an aY al fun k ae e=> ?_
   subst e
   rcases ae with h|h
   · exact CE h
   · omega
 · exact (aJ.mono fun k _ ae=> .inr ae).trans (al.mono fun k _ ae=> .inl ae)
def O2 (B:Nat→Prop) (n:aL) (fr to:Nat) (ks:List Key) (kids:List Nat) (w:World) (v:Value) (w':World):Prop:=
 ∃K V D:aa,v=fc (ml n fr to ks kids) K V D∧cg (fun q=>B q∨w.heap.size≤q) w' (ml n fr to ks kids) K V D∧Ext w w'
def TA (bF aK nx:Nat) (l:aa) (to:Int) (fe:World) (Q:Value→World→Prop):Prop:=
 ∃ (FT:Int→World→Prop) (K5:Int→World→Nat),FT 0 fe∧∀ (n19:Int) (cw:World),FT n19 cw→((decide ((n19:Int)<((l.len:Nat):Int)))=true→∃kC:Addr,l.a=some kC∧((0:Int)≤n19∧n19<((l.len:Nat):Int))∧∃e5:aa,cw.cell? (kC.add (Int.toNat n19*2))=some (.slice e5.a e5.len e5.cap)∧∃n23:Int,cw.cell? ((kC.add (Int.toNat n19*2)).add 1)=some (.int .i64 n23)∧ay (cw.alloc (.cells #[.slice none 0 0, .int .i64 0] ah.vI)) fun cD=>c2 cD ⟨cw.heap.size,0,none⟩ [.slice e5.a e5.len e5.cap, .int .i64 n23]∧(2:Nat)=2∧ay (setCells cD ⟨cw.heap.size,0,none⟩ 0 [.slice e5.a e5.len e5.cap, .int .i64 n23]) fun gd=>c0 (fun DB:World→Prop=>∃dM:aa,gd.cell? ⟨cw.heap.size,0,none⟩=some (.slice dM.a dM.len dM.cap)∧((!(Option.isNone dM.a))=true→∃e9:aa,gd.cell? (Addr.add ⟨aK,0,none⟩ 1)=some (.slice e9.a e9.len e9.cap)∧∃ih:aa,gd.cell? ⟨cw.heap.size,0,none⟩=some (.slice ih.a ih.len ih.cap)∧ay (gd.alloc (.cells #[.slice ih.a ih.len ih.cap] ah.cn)) fun fB=>∃im:aa,∃nv:World,Sem.run Tryz.prog (Builtin.append_ #[ah.cM,ah.cM] ah.cM #[.slice e9.a e9.len e9.cap, .slice (some ⟨gd.heap.size,0,none⟩) 1 1]) fB= .ok (.slice im.a im.len im.cap) nv∧(∃u:Value,nv.cell? (Addr.add ⟨aK,0,none⟩ 1)=some u)∧nv.frozen? (Addr.add ⟨aK,0,none⟩ 1)=false∧ay (nv.setCell (Addr.add ⟨aK,0,none⟩ 1) (.slice im.a im.len im.cap)) fun e8=>DB e8)∧((!(Option.isNone dM.a))=false→DB gd)) (fun (e4:World)=>∃fV:aa,e4.cell? (Addr.add ⟨aK,0,none⟩ 3)=some (.slice fV.a fV.len fV.cap)∧∃n36:Int,e4.cell? (Addr.add ⟨cw.heap.size,0,none⟩ 1)=some (.int .i64 n36)∧ay (e4.alloc (.cells #[.int .i64 n36] ah.int)) fun lu=>∃ei:aa,∃lM:World,Sem.run Tryz.prog (Builtin.append_ #[ah.ef,ah.ef] ah.ef #[.slice fV.a fV.len fV.cap, .slice (some ⟨e4.heap.size,0,none⟩) 1 1]) lu= .ok (.slice ei.a ei.len ei.cap) lM∧(∃u:Value,lM.cell? (Addr.add ⟨aK,0,none⟩ 3)=some u)∧lM.frozen? (Addr.add ⟨aK,0,none⟩ 3)=false∧ay (lM.setCell (Addr.add ⟨aK,0,none⟩ 3) (.slice ei.a ei.len ei.cap)) fun qZ=>FT (IntKind.wrap .i64 (n19+1)) qZ∧K5 (IntKind.wrap .i64 (n19+1)) qZ<K5 n19 cw))∧((decide ((n19:Int)<((l.len:Nat):Int)))=false→ay (cw.drew) fun dy=>¬False∧∃m3:aa,dy.cell? (Addr.add ⟨aK,0,none⟩ 1)=some (.slice m3.a m3.len m3.cap)∧¬False∧∃h5:aa,dy.cell? (Addr.add ⟨bF,0,none⟩ 1)=some (.slice h5.a h5.len h5.cap)∧((0:Int)≤(IntKind.wrap .i64 (to-1))∧(IntKind.wrap .i64 (to-1))≤((h5.len:Nat):Int))∧∃ja:aa,∃j6:World,Sem.run Tryz.prog (Builtin.append_ #[ah.cM,ah.cM] ah.cM #[.slice m3.a m3.len m3.cap, .slice (bh h5.a 1 (Int.toNat (IntKind.wrap .i64 (to-1))) h5.cap) (h5.len-(Int.toNat (IntKind.wrap .i64 (to-1)))) (h5.cap-(Int.toNat (IntKind.wrap .i64 (to-1))))]) dy= .ok (.slice ja.a ja.len ja.cap) j6∧(∃u:Value,j6.cell? (Addr.add ⟨aK,0,none⟩ 1)=some u)∧j6.frozen? (Addr.add ⟨aK,0,none⟩ 1)=false∧ay (j6.setCell (Addr.add ⟨aK,0,none⟩ 1) (.slice ja.a ja.len ja.cap)) fun h8=>ay (h8.drew) fun dq=>¬False∧∃ny:aa,dq.cell? (Addr.add ⟨aK,0,none⟩ 3)=some (.slice ny.a ny.len ny.cap)∧¬False∧∃kF:aa,dq.cell? (Addr.add ⟨bF,0,none⟩ 3)=some (.slice kF.a kF.len kF.cap)∧((0:Int)≤to∧to≤((kF.len:Nat):Int))∧∃gh:aa,∃rP:World,Sem.run Tryz.prog (Builtin.append_ #[ah.ef,ah.ef] ah.ef #[.slice ny.a ny.len ny.cap, .slice (bh kF.a 1 (Int.toNat to) kF.cap) (kF.len-(Int.toNat to)) (kF.cap-(Int.toNat to))]) dq= .ok (.slice gh.a gh.len gh.cap) rP∧(∃u:Value,rP.cell? (Addr.add ⟨aK,0,none⟩ 3)=some u)∧rP.frozen? (Addr.add ⟨aK,0,none⟩ 3)=false∧ay (rP.setCell (Addr.add ⟨aK,0,none⟩ 3) (.slice gh.a gh.len gh.cap)) fun lN=>∃tg:Bool,lN.cell? ⟨aK,0,none⟩=some (.bool tg)∧∃kG:aa,lN.cell? (Addr.add ⟨aK,0,none⟩ 1)=some (.slice kG.a kG.len kG.cap)∧∃rQ:aa,lN.cell? (Addr.add ⟨aK,0,none⟩ 2)=some (.slice rQ.a rQ.len rQ.cap)∧∃iw:aa,lN.cell? (Addr.add ⟨aK,0,none⟩ 3)=some (.slice iw.a iw.len iw.cap)∧c2 lN ⟨nx,0,none⟩ [.bool tg, .slice kG.a kG.len kG.cap, .slice rQ.a rQ.len rQ.cap, .slice iw.a iw.len iw.cap]∧(4:Nat)=4∧ay (setCells lN ⟨nx,0,none⟩ 0 [.bool tg, .slice kG.a kG.len kG.cap, .slice rQ.a rQ.len rQ.cap, .slice iw.a iw.len iw.cap]) fun k5=>∃yQ:Bool,k5.cell? ⟨nx,0,none⟩=some (.bool yQ)∧∃ix:aa,k5.cell? (Addr.add ⟨nx,0,none⟩ 1)=some (.slice ix.a ix.len ix.cap)∧∃fq:aa,k5.cell? (Addr.add ⟨nx,0,none⟩ 2)=some (.slice fq.a fq.len fq.cap)∧∃iU:aa,k5.cell? (Addr.add ⟨nx,0,none⟩ 3)=some (.slice iU.a iU.len iU.cap)∧Q ( .agg #[.bool yQ, .slice ix.a ix.len ix.cap, .slice fq.a fq.len fq.cap, .slice iU.a iU.len iU.cap]) k5)
structure Ib (B:Nat→Prop) (lo:Nat) (bF aK nx:Nat) (n:aL) (K V D:aa) (vx:List Value) (w:World) (aT aP:aa) (cC ct:Nat→Prop) (ks:List Key) (ds:List Nat):Prop where
 lK:Var w bF [.bool n.leaf, .slice K.a K.len K.cap, .slice V.a V.len V.cap, .slice D.a D.len D.cap] ah.cO
 r:Var w nx vx ah.cO
 o:Var w aK [.bool false, .slice aT.a aT.len aT.cap, .slice none 0 0, .slice aP.a aP.len aP.cap] ah.cO
 k:b6 cC w aT ks
 d:eL ct w aP ds
 bW:∀q,cC q→(B q∧q<lo)∨(lo≤q∧q<w.heap.size∧q≠bF∧q≠aK∧q≠nx∧¬ct q)
 a6:∀q,ct q→lo≤q∧q<w.heap.size∧q≠bF∧q≠aK∧q≠nx
 AW:∀q,aQ aT q→lo≤q
theorem Ib.ext {B:Nat→Prop} {lo bF aK nx:Nat} {n:aL} {K V D:aa} {vx:List Value} {w w':World} {aT aP:aa} {cC ct:Nat→Prop} {ks:List Key} {ds:List Nat} (h:Ib B lo bF aK nx n K V D vx w aT aP cC ct ks ds) (af:Ext w w'):Ib B lo bF aK nx n K V D vx w' aT aP cC ct ks ds:=by
 have bO:=af.size
 exact ⟨h.lK.ext af,h.r.ext af,h.o.ext af,b6.ext h.k af,eL.ext h.d af,fun q J=>(h.bW q J).imp id fun h=>⟨h.1,by omega,h.2.2⟩,fun q J=>⟨(h.a6 q J).1,by have:=(h.a6 q J).2.1;omega,(h.a6 q J).2.2⟩,h.AW⟩
theorem ano {B:Nat→Prop} {w fe:World} {bF aK nx:Nat} {n:aL} {K V D s gF h9:aa} {vx:List Value} {cC ct:Nat→Prop} {ks:List Key} {kids:List Nat} {fr to:Nat} (gW:Ib B w.heap.size bF aK nx n K V D vx fe gF h9 cC ct (n.keys.take fr) (n.kids.take fr)) (ee:Ext w fe)
   (aC:cg B w n K V D) (az:xC B w s ks kids) (SD:vx.length=4) (U:w.heap.size≤bF) (ad:w.heap.size≤aK) (au:w.heap.size≤nx) (aH:bF≠aK∧bF≠nx∧aK≠nx) (t1:1≤to) (t2:to≤n.kids.length) (t3:to-1≤n.keys.length) (dt:n.keys.length≤1000) (db:n.kids.length≤1000):
   TA bF aK nx s (to:Nat) fe (O2 B n fr to ks kids w):=by
 obtain ⟨cp,cm,hO,th⟩:=az.at
 unfold TA
 refine ⟨fun i w'=>∃ (j:Nat) (aT aP:aa) (cC ct:Nat→Prop),i=j∧j≤kids.length∧Ext w w'∧Ib B w.heap.size bF aK nx n K V D vx w' aT aP cC ct (n.keys.take fr++ks.take (j-1)) (n.kids.take fr++kids.take j),fun i _=>((kids.length:Int)-i).toNat,⟨0,gF,h9,cC,ct,rfl,fm _,ee,by simpa using gW⟩,?_⟩
 rintro _ cw ⟨j,aT,aP,cC,ct,rfl,a8,oQ,h⟩
 have OP:=oQ.size
 refine ⟨fun ba=> ?_,fun ck=> ?_⟩
 · have ba:j<kids.length:=by
     have:((j:Nat):Int)<((s.len:Nat):Int):=dG ba
     omega
   obtain ⟨A,t,ax,aV,bA,nW⟩:=(az.ext oQ).at.2.2.2 j ba
   refine ⟨A,ax,⟨by omega,by omega⟩,t,by rw[g9];exact aV,_,by rw[g9];exact bA,?_⟩
   have nW:(t.a=none∧ks.take j=ks.take (j-1))∨(t.a.isSome=true∧∃k,bL (fun q=>B q∧q<w.heap.size) cw t k∧ks.take j=ks.take (j-1)++ [k]):=by
     obtain ⟨TB,Fm,ox,O0,_,jW⟩:=th j ba
     rw[ax] at ox;cases ox
     have e:=ao.cell oQ (fun h=>h) O0
     rw[aV] at e
     injection e with e
     obtain rfl:t=Fm:=by
       cases t;cases Fm;simp at e;simp[e]
     rcases jW with h|⟨U,k,ad,au⟩
     · exact .inl h
     · exact .inr ⟨U,k,bL.ext (bL.bz ad fun q J ab=>⟨ab,J⟩) oQ,au⟩
   refine cx (vs:=[.slice none 0 0, .int .i64 0]) rfl fun cD Dz sA K3=> ?_
   refine ⟨Dz.dC rfl ?_,rfl,eo Dz (us:=[.slice t.a t.len t.cap, .int .i64 ((kids[j]:Nat):Int)]) rfl rfl fun gd AT anp amJ=> ?_⟩
   · intro v ak
     simp only[fZ,mT,mU] at ak
     rcases ak with rfl|rfl<;>trivial
   have FQ:Ext cw gd:=Ext.fb sA anp (cR _)
   have pe:=h.ext FQ
   have avq:=FQ.size
   have aaI:=oQ.trans FQ
   obtain ⟨kH,O3⟩:∃kH,kH=cw.heap.size:=⟨_,rfl⟩
   rw[←O3] at AT⊢
   have avr:=AT.lt
   refine vh (fun e4=>∃ (c_:aa) (s4:Nat→Prop),Ib B w.heap.size bF aK nx n K V D vx e4 c_ aP s4 ct (n.keys.take fr++ks.take j) (n.kids.take fr++kids.take j)∧Ext w e4∧Var e4 kH [.slice t.a t.len t.cap, .int .i64 ((kids[j]:Nat):Int)] ah.vI∧gd.heap.size≤e4.heap.size) (fun q J=>⟨t,AT.cell,fun ab=> ?_,fun ab=> ?_⟩) ?_
   · rcases nW with ⟨aU,_⟩|⟨_,k,aR,sU⟩
     · rw[aU] at ab;cases ab
     obtain ⟨AX,jE,lE,xD⟩:=cl (V:=⟨none,0,0⟩) pe.o
     have O4:∀q,aQ aT q→cC q:=fun q J=>by
       obtain ⟨ts,_,_,au,_⟩:=pe.k
       exact (au q J).1
     refine ⟨aT,jE,t,AT.cell,ann (B:=fun q=>cC q∨(B q∧q<w.heap.size)) pe.o (o:=1) (by simp) (b6.bz pe.k fun q _ ab=> .inl ab) (fun ab=> ?_) (bL.bz (bL.ext aR FQ) fun q _ ab=> .inr ab) (fun q J ae=> ?_) ?_ fun w' gS aB aF aJ aM=>J _ ⟨gS,Grow (fun q=>cC q∨(B q∧q<w.heap.size)) gd w',?_,?_,?_,aJ.size⟩⟩
     · rcases ab with ab|ab
       · rcases pe.bW _ ab with aY|aY
         · omega
         · exact aY.2.2.2.1 rfl
       · omega
     · have:=(aR.2.2 q J).1.2
       have:=pe.AW q ae
       omega
     · rw[dO,ej,ej];omega
     · have Ic:=aJ.size
       have AY:∀q,aQ aT q→q<cw.heap.size∧q≠bF∧q≠aK∧q≠nx∧¬ct q:=fun q J=>by
         have b9:=h.AW q J
         rcases h.bW q (O4 q J) with aY|aY
         · omega
         · exact aY.2
       refine ⟨pe.lK.an aJ fun J=> ?_,pe.r.an aJ fun J=> ?_,aB,?_,eL.an pe.d aJ fun q ab J=> ?_,fun q ab=> ?_,fun q ab=>⟨(pe.a6 q ab).1,by have:=(pe.a6 q ab).2.1;omega,(pe.a6 q ab).2.2⟩,fun q J=> ?_⟩
       · rcases J with e|J
         · exact aH.1 e
         · exact (AY _ J).2.1 rfl
       · rcases J with e|J
         · exact aH.2.2 e.symm
         · exact (AY _ J).2.2.2.1 rfl
       · rw[sU,←eI];exact aF
       · rcases J with e|J
         · exact (pe.a6 q ab).2.2.2.1 e
         · exact (AY q J).2.2.2.2 ab
       · rcases ab with (ab|ab)|ab
         · exact (pe.bW q ab).imp id fun aY=>⟨aY.1,by omega,aY.2.2⟩
         · exact .inl ab
         · refine .inr ⟨by omega,ab.2,fun e=> ?_,fun e=> ?_,fun e=> ?_,fun hd=> ?_⟩
           · have:=pe.lK.lt;omega
           · have:=pe.o.lt;omega
           · have:=pe.r.lt;omega
           · have:=(pe.a6 q hd).2.1;omega
       · rcases aM q J with aY|aY
         · exact h.AW q aY
         · omega
     · exact Ext.gA aaI aJ fun q J=>by
         rcases J with rfl|J
         · exact ad
         · exact pe.AW q J
     · refine AT.an aJ fun J=> ?_
       rcases J with e|J
       · have:=h.o.lt;omega
       · rcases h.bW _ (O4 _ J) with aY|aY<;>omega
   · rcases nW with ⟨_,sU⟩|⟨aU,_⟩
     · refine J _ ⟨aT,cC,?_,aaI,AT,cR _⟩
       rw[sU];exact pe
     · cases O5:t.a with
       |none=>rw[O5] at aU;cases aU
       |some A=>rw[O5] at ab;cases ab
   rintro e4 ⟨c_,s4,oR,O6,aaJ,ani⟩
   have avs:=aaJ.lt
   obtain ⟨AX,jE,lE,xD⟩:=cl (V:=⟨none,0,0⟩) oR.o
   have DC:∀q,aQ aP q→ct q:=fun q J=>(oR.d.2 q J).1
   have sx:∀q,s4 q→¬(q=aK∨aQ aP q):=fun q ab J=>by
     rcases oR.bW q ab with aY|aY
     · rcases J with e|J
       · omega
       · have:=(oR.a6 q (DC q J)).1;omega
     · rcases J with e|J
       · exact aY.2.2.2.1 e
       · exact aY.2.2.2.2.2 (DC q J)
   have hw:IntKind.wrap .i64 ((j:Int)+1)=((j+1:Nat):Int):=by rw[cz (by omega) (by omega)];rfl
   refine ⟨aP,xD,_,by rw[aX];exact aaJ.cell,(Yr (W:=fun _=>True) kids[j] oR.o (o:=3) (by simp) oR.d (fun ab=>(oR.a6 _ ab).2.2.2.1 rfl) (by rw[dO,ej,ej];omega) fun w' gS aB aF aJ=>⟨⟨j+1,c_,gS,s4,Grow ct e4 w',hw,by omega,?_,?_⟩,?_⟩).2⟩
   · exact Ext.gA O6 aJ fun q J=>by
       rcases J with rfl|J
       · exact ad
       · exact (oR.a6 q (DC q J)).1
   · have Ic:=aJ.size
     refine ⟨oR.lK.an aJ fun J=> ?_,oR.r.an aJ fun J=> ?_,aB,?_,?_,fun q ab=> ?_,fun q ab=> ?_,oR.AW⟩
     · rcases J with e|J
       · exact aH.1 e
       · exact (oR.a6 _ (DC _ J)).2.2.1 rfl
     · rcases J with e|J
       · exact aH.2.2 e.symm
       · exact (oR.a6 _ (DC _ J)).2.2.2.2 rfl
     · exact b6.an oR.k aJ sx
     · rw[qx ba,←eI];exact aF
     · refine (oR.bW q ab).imp id fun aY=>⟨aY.1,by omega,aY.2.2.1,aY.2.2.2.1,aY.2.2.2.2.1,fun hd=> ?_⟩
       rcases hd with hd|hd
       · exact aY.2.2.2.2.2 hd
       · omega
     · rcases ab with ab|ab
       · exact ⟨(oR.a6 q ab).1,by have:=(oR.a6 q ab).2.1;omega,(oR.a6 q ab).2.2⟩
       · refine ⟨by have:=O6.size;omega,ab.2,fun e=> ?_,fun e=> ?_,fun e=> ?_⟩
         · have:=oR.lK.lt;omega
         · have:=oR.o.lt;omega
         · have:=oR.r.lt;omega
   · rw[hw]
     show ((kids.length:Int)-((j+1:Nat):Int)).toNat<((kids.length:Int)-(j:Int)).toNat
     omega
 · have ck:j=kids.length:=by
     have:¬((j:Nat):Int)<((s.len:Nat):Int):=eW ck
     omega
   subst ck
   have bD:Ext cw cw.drew:=dT _
   have h:=h.ext bD
   have oQ:=oQ.trans bD
   have sU:ks.take (kids.length-1)=ks:=g3 (by omega)
   rw[sU,qz] at h
   obtain ⟨AX,jE,lE,xD⟩:=cl (V:=⟨none,0,0⟩) h.o
   obtain ⟨DD,pR,iO,DE⟩:=cl h.lK
   have aaK:cg (fun q=>B q∧q<w.heap.size) w n K V D:=aC.bz fun q J ab=>⟨ab,J⟩
   have TC:=aaK.ext oQ
   have DF:=b2.len TC.keys
   have K6:=en.len TC.kids
   have aaL:IntKind.wrap .i64 ((to:Int)-1)=((to-1:Nat):Int):=by rw[cz (by omega) (by omega)];omega
   have O4:∀q,aQ aT q→cC q:=fun q J=>by
     obtain ⟨ts,_,_,au,_⟩:=h.k
     exact (au q J).1
   have DC:∀q,aQ aP q→ct q:=fun q J=>(h.d.2 q J).1
   have aaM:=b2.sub TC.keys (lo:=to-1) (hi:=n.keys.length) t3 (cR _)
   have anq:(n.keys.drop (to-1)).take (n.keys.length-(to-1))=n.keys.drop (to-1):=g3 (by rw[fF];exact cR _)
   rw[anq] at aaM
   obtain ⟨uv,j6,a_,bw,ek⟩:=SC h.k aaM (fun q J ae=>by have:=h.AW q ae;omega) (by rw[dO,ej];omega) (by rw[fF];omega)
   have xa:cw.drew.heap.size=cw.heap.size:=rfl
   have AY:∀q,aQ aT q→q<cw.drew.heap.size∧q≠bF∧q≠aK∧q≠nx∧¬ct q:=fun q J=>by
     have b9:=h.AW q J
     rcases h.bW q (O4 q J) with aY|aY
     · omega
     · exact aY.2
   have avt:=ek.size
   have anr:Ext w j6:=Ext.gA oQ ek fun q J=>h.AW q J
   have aaN:=h.o.an ek fun J=>(AY _ J).2.2.1 rfl
   have ans:=h.lK.an ek fun J=>(AY _ J).2.1 rfl
   have ant:=h.r.an ek fun J=>(AY _ J).2.2.2.1 rfl
   have anu:eL ct j6 aP _:=eL.an h.d ek fun q ab J=>(AY q J).2.2.2.2 ab
   obtain ⟨dB,dZ⟩:=jk aaN (i:=1) (by simp)
   refine bN ⟨id,aT,jE,id,K,pR,?_,uv,j6,?_,by rw[aX];exact dB,by rw[aX];exact dZ,?_⟩
   · rw[aaL,DF];omega
   · rw[aaL,g9,DF];exact a_
   rw[aX,gy]
   have FU:=il j6 aK 1 (.slice uv.a uv.len uv.cap)
   have K7:=jj aaN (i:=1) (.slice uv.a uv.len uv.cap)
   obtain ⟨h8,anv⟩:∃h8,h8=j6.setCell ⟨aK,1,none⟩ (.slice uv.a uv.len uv.cap):=⟨_,rfl⟩
   rw[←anv] at FU K7⊢
   have amQ:=FU.size
   have TD:=ans.an FU (fun e=>aH.1 e)
   have TE:=ant.an FU (fun e=>aH.2.2 e.symm)
   have TF:eL ct h8 aP _:=eL.an anu FU fun q ab e=>(h.a6 q ab).2.2.2.1 e
   have vK:Ext w h8:=Ext.fb anr FU ad
   have nz:Ext h8 h8.drew:=dT _
   have lA:∀q,(cC q∨(B q∧q<w.heap.size)∨cw.drew.heap.size≤q)→q≠aK:=fun q J e=>by
     subst e
     rcases J with J|J|J
     · rcases h.bW _ J with aY|aY
       · omega
       · exact aY.2.2.2.1 rfl
     · omega
     · have:=h.o.lt;omega
   have anw:=b2.ext (b2.an bw FU lA) nz
   have K7:=K7.ext nz
   have TD:=TD.ext nz
   have TE:=TE.ext nz
   have TF:=eL.ext TF nz
   have vK:=vK.trans nz
   obtain ⟨AX,jE,lE,xD⟩:=cl (V:=⟨none,0,0⟩) K7
   obtain ⟨DD,pR,iO,DE⟩:=cl TD
   have aaO:=en.sub (aaK.ext vK).kids (lo:=to) (hi:=n.kids.length) t2 (cR _)
   have anx:(n.kids.drop to).take (n.kids.length-to)=n.kids.drop to:=g3 (by rw[fF];exact cR _)
   rw[anx] at aaO
   obtain ⟨uw,rP,f1,f2,f3⟩:=Y7 TF aaO (by rw[dO,ej];omega) (by rw[fF];omega)
   have avu:h8.drew.heap.size=h8.heap.size:=rfl
   have avv:=f3.size
   have hT:∀q,aQ aP q→w.heap.size≤q∧q<cw.drew.heap.size∧q≠bF∧q≠aK∧q≠nx:=fun q J=>h.a6 q (DC q J)
   have anz:Ext w rP:=Ext.gA vK f3 fun q J=>(hT q J).1
   have aaP:=K7.an f3 fun J=>(hT _ J).2.2.2.1 rfl
   have anA:=TE.an f3 fun J=>(hT _ J).2.2.2.2 rfl
   have anB:=b2.an anw f3 fun q ab J=>by
     have avw:=hT q J
     rcases ab with ab|ab|ab
     · rcases h.bW q ab with aY|aY
       · omega
       · exact aY.2.2.2.2.2 (DC q J)
     · omega
     · omega
   obtain ⟨dB,dZ⟩:=jk aaP (i:=3) (by simp)
   refine bN (bN ⟨id,aP,xD,id,D,DE,?_,uw,rP,?_,by rw[aX];exact dB,by rw[aX];exact dZ,?_⟩)
   · rw[K6];omega
   · rw[g9,K6];exact f1
   rw[aX,gy]
   have Ie:=il rP aK 3 (.slice uw.a uw.len uw.cap)
   have aaQ:=jj aaP (i:=3) (.slice uw.a uw.len uw.cap)
   obtain ⟨lN,anC⟩:∃lN,lN=rP.setCell ⟨aK,3,none⟩ (.slice uw.a uw.len uw.cap):=⟨_,rfl⟩
   rw[←anC] at Ie aaQ⊢
   have avx:=Ie.size
   have anD:=anA.an Ie (fun e=>aH.2.2 e.symm)
   have anE:Ext w lN:=Ext.fb anz Ie ad
   have anF:=b2.an anB Ie lA
   have anG:=en.an f2 Ie fun q ab e=>by
     subst e
     rcases ab with ab|ab|ab
     · exact (h.a6 _ ab).2.2.2.1 rfl
     · omega
     · have:=h.o.lt;omega
   obtain ⟨AX,jE,lE,xD⟩:=cl (V:=⟨none,0,0⟩) aaQ
   refine bN ⟨_,AX,uv,jE,⟨none,0,0⟩,lE,uw,xD,?_⟩
   refine ry false uv ⟨none,0,0⟩ uw anD SD (Q:=fun b K V D aw=>O2 B n fr to ks kids w (.agg #[.bool b, .slice K.a K.len K.cap, .slice V.a V.len V.cap, .slice D.a D.len D.cap]) aw) fun k5 C2=> ?_
   refine ⟨uv,⟨none,0,0⟩,uw,rfl,⟨?_,?_,?_⟩,Ext.fb anE C2 au⟩
   · refine b2.bz (b2.an anF C2 fun q ab e=> ?_) fun q _ ab=> ?_
     · subst e
       rcases ab with ab|ab|ab
       · rcases h.bW _ ab with aY|aY
         · omega
         · exact aY.2.2.2.2.1 rfl
       · omega
       · have:=h.r.lt;omega
     · rcases ab with ab|ab|ab
       · rcases h.bW _ ab with aY|aY
         · exact .inl aY.1
         · exact .inr aY.1
       · exact .inl ab.1
       · have:=oQ.size;exact .inr (by omega)
   · exact b2.none _ _
   · refine en.bz (en.an anG C2 fun q ab e=> ?_) fun q _ ab=> ?_
     · subst e
       rcases ab with ab|ab|ab
       · exact (h.a6 _ ab).2.2.2.2 rfl
       · omega
       · have:=h.r.lt;omega
     · rcases ab with ab|ab|ab
       · exact .inr (h.a6 _ ab).1
       · exact .inl ab.1
       · have:=vK.size;exact .inr (by omega)
end
section
theorem TG (K D:aa) (w:World):Sem.run Tryz.prog (Instr.build ah.cO #[(1, .slice K.a K.len K.cap),(3, .slice D.a D.len D.cap)]) w= .ok (.agg #[.bool false, .slice K.a K.len K.cap, .slice none 0 0, .slice D.a D.len D.cap]) w:=by kernel_rfl
theorem zd {B:Nat→Prop} {w:World} {n:aL} {K V D s:aa} {ks:List Key} {kids:List Nat} {fr to:Nat} (aC:cg B w n K V D) (az:xC B w s ks kids) (f1:fr≤n.keys.length) (f2:fr≤n.kids.length) (t1:1≤to) (t2:to≤n.kids.length) (t3:to-1≤n.keys.length) (dt:n.keys.length≤1000) (db:n.kids.length≤1000):
   aO Tryz.prog F.zd #[fc n K V D, .int .i64 (fr:Nat), .int .i64 (to:Nat), .slice s.a s.len s.cap] w (O2 B n fr to ks kids w):=by
 refine W.anH n.leaf K V D (fr:Nat) (to:Nat) s w _ ?_
 (delta W.zd dx ai aq dK ng sB aA a6 bK z4 Ov st aD bV Oc;dsimp only)
 refine cx (vs:=[.bool n.leaf, .slice K.a K.len K.cap, .slice V.a V.len V.cap, .slice D.a D.len D.cap]) rfl fun ag gg bG kO=> ?_
 refine cx (vs:=[.bool false, .slice none 0 0, .slice none 0 0, .slice none 0 0]) rfl fun aw fS cB mB=>bN ?_
 have bD:Ext aw aw.drew:=dT _
 have h6:=(bG.trans cB).trans bD
 obtain ⟨aS,nh⟩:∃aS,aS=aw.drew:=⟨_,rfl⟩
 have va:aS.heap.size=aw.heap.size:=by rw[nh];rfl
 rw[←nh] at h6 bD⊢
 have vn:=(gg.ext cB).ext bD
 have yG:=fS.ext bD
 obtain ⟨cJ,aV,bA,bd⟩:=cl vn
 have qN:cg (fun q=>B q∧q<w.heap.size) aS n K V D:=(aC.bz fun q J ab=>⟨ab,J⟩).ext h6
 have DF:=b2.len qN.keys
 have K6:=en.len qN.kids
 have avy:=b2.le qN.keys
 have anI:=qN.kids.2.1
 have TH:=b2.sub qN.keys (lo:=0) (hi:=fr) (fm _) f1
 have O7:=en.sub qN.kids (lo:=0) (hi:=fr) (fm _) f2
 rw[zW,G5] at TH O7
 have gY:Int.toNat ((fr:Nat):Int)-0=fr:=by rw[g9];rfl
 have fin:∀ (fe:World) (aK:Nat) (gF h9:aa),Ext aS fe→Var fe aK [.bool false, .slice gF.a gF.len gF.cap, .slice none 0 0, .slice h9.a h9.len h9.cap] ah.cO→aS.heap.size≤aK→b6 (fun q=>(B q∧q<w.heap.size)∨(aS.heap.size≤q∧aQ gF q)) fe gF (n.keys.take fr)→b3 1 ah.int fe h9 (gX (n.kids.take fr))→
     (∀q,aQ gF q→aS.heap.size≤q∧q≠aK)→(∀q,aQ h9 q→aS.heap.size≤q∧q≠aK∧¬aQ gF q)→TA w.heap.size aK ag.heap.size s (to:Nat) fe (O2 B n fr to ks kids w):=by
   intro fe aK gF h9 af bE fj bu vm aaR aaS
   have bO:=af.size
   have ba:∀q,aQ gF q→q<fe.heap.size:=fun q J=>by
     obtain ⟨ts,_,aH,_,_⟩:=bu
     exact aH.lt q J
   refine ano (cC:=fun q=>(B q∧q<w.heap.size)∨aQ gF q) (ct:=fun q=>aQ h9 q) ⟨vn.ext af,yG.ext af,bE,b6.bz bu fun q _ ab=>ab.imp id fun h=>h.2,⟨vm,fun q J=>⟨J,b3.lt vm q J⟩⟩,fun q ab=> ?_,fun q ab=> ?_,fun q J=>by have:=(aaR q J).1;omega⟩ (h6.trans af) aC az rfl (cR _) (by omega) (by omega) ⟨by omega,by omega,by omega⟩ t1 t2 t3 dt db
   · rcases ab with ab|ab
     · exact .inl ab
     · have aY:=aaR q ab
       exact .inr ⟨by omega,ba q ab,by omega,aY.2,by omega,fun b9=>(aaS q b9).2.2 ab⟩
   · have aY:=aaS q ab
     exact ⟨by omega,b3.lt vm q ab,by omega,aY.2.1,by omega⟩
 refine ⟨fun _=>False,id,K,aV,⟨by omega,by omega⟩,id,D,bd,⟨by omega,by omega⟩,?_,?_⟩
 · rw[gY]
   refine (aaH TH (by rw[ej];omega)).use ?_
   rintro _ a7 ⟨gF,rfl,FV,eR,yr⟩
   have CK:=eR.size
   refine ⟨gF,rfl,eR,?_,?_⟩
   · refine (Kl (O7.1.ext eR) (by rw[ej];omega)).use ?_
     rintro _ bR ⟨h9,rfl,Ig,kj,aaT⟩
     have Og:=kj.size
     refine ⟨h9,rfl,kj,_,TG gF h9,cx (vs:=[.bool false, .slice none 0 0, .slice none 0 0, .slice none 0 0]) rfl fun fg aaU oy aaV=>⟨oy,aaU.dC rfl (lr (b:=false) (K:=gF) (V:=⟨none,0,0⟩) (D:=h9)),rfl,eo aaU (us:=[.bool false, .slice gF.a gF.len gF.cap, .slice none 0 0, .slice h9.a h9.len h9.cap]) rfl rfl fun cV K8 oJ TI=> ?_⟩⟩
     have pg:Ext bR cV:=Ext.fb oy oJ (cR _)
     have fv:∀q,aQ gF q→q<a7.heap.size:=fun q J=>by
       obtain ⟨ts,_,aH,_,_⟩:=FV
       exact aH.lt q J
     exact fin cV bR.heap.size gF h9 (eR.trans (kj.trans pg)) K8 (by omega) (b6.bz (b6.ext FV (kj.trans pg)) fun q _ ab=>ab.imp (fun h=>h.1) id) (Ig.ext pg) (fun q J=>⟨yr q J,by have:=fv q J;omega⟩) fun q J=>⟨by have:=aaT q J;omega,by have:=b3.lt Ig q J;omega,fun h=>by have:=fv q h;have:=aaT q J;omega⟩
   · refine cx (vs:=[.bool false, .slice none 0 0, .slice none 0 0, .slice none 0 0]) rfl fun fL TJ DG anJ=>⟨DG,(Kl ((O7.1.ext eR).ext DG) (by rw[ej];omega)).use ?_⟩
     rintro _ c8 ⟨h9,rfl,Ig,ze,AZ⟩
     have FW:=TJ.ext ze
     refine ⟨h9,rfl,ze,_,TG gF h9,FW.dC rfl (lr (b:=false) (K:=gF) (V:=⟨none,0,0⟩) (D:=h9)),rfl,eo FW (us:=[.bool false, .slice gF.a gF.len gF.cap, .slice none 0 0, .slice h9.a h9.len h9.cap]) rfl rfl fun cV K8 oJ TI=> ?_⟩
     have pg:Ext a7 cV:=Ext.fb (DG.trans ze) oJ (cR _)
     have fv:∀q,aQ gF q→q<a7.heap.size:=fun q J=>by
       obtain ⟨ts,_,aH,_,_⟩:=FV
       exact aH.lt q J
     exact fin cV a7.heap.size gF h9 (eR.trans pg) K8 (by omega) (b6.bz (b6.ext FV pg) fun q _ ab=>ab.imp (fun h=>h.1) id) (Ig.an oJ fun q J e=>by have:=AZ q J;omega) (fun q J=>⟨yr q J,by have:=fv q J;omega⟩) fun q J=>⟨by have:=AZ q J;omega,by have:=AZ q J;omega,fun h=>by have:=fv q h;have:=AZ q J;omega⟩
 · rw[gY]
   refine cx (vs:=[.bool false, .slice none 0 0, .slice none 0 0, .slice none 0 0]) rfl fun fL TJ DG anJ=>⟨DG,(aaH (b2.ext TH DG) (by rw[ej];omega)).use ?_⟩
   rintro _ a7 ⟨gF,rfl,FV,eR,yr⟩
   have CK:=eR.size
   refine ⟨gF,rfl,eR,(Kl ((O7.1.ext DG).ext eR) (by rw[ej];omega)).use ?_⟩
   rintro _ c8 ⟨h9,rfl,Ig,ze,AZ⟩
   have FW:=(TJ.ext eR).ext ze
   refine ⟨h9,rfl,ze,_,TG gF h9,FW.dC rfl (lr (b:=false) (K:=gF) (V:=⟨none,0,0⟩) (D:=h9)),rfl,eo FW (us:=[.bool false, .slice gF.a gF.len gF.cap, .slice none 0 0, .slice h9.a h9.len h9.cap]) rfl rfl fun cV K8 oJ TI=> ?_⟩
   have pg:Ext aS cV:=Ext.fb ((DG.trans eR).trans ze) oJ (cR _)
   have fv:∀q,aQ gF q→q<a7.heap.size:=fun q J=>by
     obtain ⟨ts,_,aH,_,_⟩:=FV
     exact aH.lt q J
   have anK:b6 (fun q=>(B q∧q<w.heap.size)∨(aS.heap.size≤q∧aQ gF q)) cV gF (n.keys.take fr):=by
     have aY:=b6.bz (C:=fun q=>(B q∧q<w.heap.size)∨(fL.heap.size≤q∧aQ gF q)) (b6.ext FV ze) fun q _ ab=>ab.imp (fun h=>h.1) id
     exact b6.bz (b6.an aY oJ fun q ab e=>by rcases ab with ab|ab<;>omega) fun q _ ab=>ab.imp id fun h=>⟨by omega,h.2⟩
   exact fin cV aS.heap.size gF h9 pg K8 (cR _) anK (Ig.an oJ fun q J e=>by have:=AZ q J;omega) (fun q J=>⟨by have:=yr q J;omega,by have:=yr q J;omega⟩) fun q J=>⟨by have:=AZ q J;omega,by have:=AZ q J;omega,fun h=>by have:=fv q h;have:=AZ q J;omega⟩
end
section
def zf (n:aL):Prop:=d_ n∧cq n≤400∧(232<cq n→1≤dm n∧(if n.leaf then dm n≤n.keys.length-1∧1≤n.keys.length-1 else dm n≤n.keys.length-2∧1≤n.keys.length-2)∧cq (n.left (dm n))≤232∧cq (n.right (dm n))≤232)
structure zg (B:Nat→Prop) (w:World) (A:Addr) (u:gE):Prop where
 aV:w.cell? (A.add 1)=some (.bool u.n.leaf)
 bA:w.cell? ((A.add 1).add 1)=some (.slice u.K.a u.K.len u.K.cap)
 bd:w.cell? ((A.add 1).add 2)=some (.slice u.V.a u.V.len u.V.cap)
 gk:w.cell? ((A.add 1).add 3)=some (.slice u.D.a u.D.len u.D.cap)
 dL:w.cell? (A.add 5)=some (.int .i64 (u.e3:Nat))
 dE:cg B w u.n u.K u.V u.D
 df:B A.block
 lt:A.block<w.heap.size
theorem zg.ext {B:Nat→Prop} {w w':World} {A:Addr} {u:gE} (h:zg B w A u) (af:Ext w w'):zg B w' A u:=
 ⟨ao.cell af (fun h=>h) h.aV,ao.cell af (fun h=>h) h.bA,ao.cell af (fun h=>h) h.bd,ao.cell af (fun h=>h) h.gk,ao.cell af (fun h=>h) h.dL,h.dE.ext af,h.df,lv h.lt af.size⟩
theorem zg.to {w w':World} {T av:aZ} {k:Nat} {A:Addr} {u:gE} (h:zg (fun q=>¬T.M q) w A u) (aR:b_ T av w w' k):zg (fun q=>¬av.M q) w' A u:=by
 have al:=aR.an
 have kh:¬T.N A.block:=fun aC=>h.df (aZ.lJ aC)
 refine ⟨ao.cell al (A:=A.add 1) kh h.aV,ao.cell al (A:=(A.add 1).add 1) kh h.bA,ao.cell al (A:=(A.add 1).add 2) kh h.bd,ao.cell al (A:=(A.add 1).add 3) kh h.gk,ao.cell al (A:=A.add 5) kh h.dL,?_,fun hm=> ?_,lv h.lt al.size⟩
 · have U:=aR.dE (lo:=0) (h.dE.bz fun q _ ab=>⟨fm _,ab⟩)
   exact U.bz fun q _ ab=>ab.2
 · rcases aR.jH _ hm with U|U
   · exact h.df U
   · have:=h.lt;omega
theorem pQ.base {T:aZ} {c:gK} {n:aL} {bJ w w':World} {v:Value} (h:pQ T c n w v w') (af:Ext bJ w):pQ T c n bJ v w':=by
 obtain ⟨av,c',m,s,aB,aF,aJ,aM⟩:=h
 exact ⟨av,c',m,s,aB,((fU.ext T c af).trans aF).mono (by omega),aJ,aM⟩
theorem pQ.out {T:aZ} {c:gK} {n:aL} {w w':World} {v:Value} (h:pQ T c n w v w'):∃ (s:aa) (e:Int),v= .tuple #[.slice s.a s.len s.cap, .int .i64 e]:=by
 obtain ⟨av,c',m,s,aB,aF,aJ,aM⟩:=h
 rcases aM with ⟨ks,rfl,_⟩|⟨rfl,_⟩
 · exact ⟨s,0,rfl⟩
 · exact ⟨s,3,rfl⟩
def TK (bF aK oz bv:Nat) (c up:Option Addr) (n31 n36:Int) (fe:World) (Q:Value→World→Prop):Prop:=
 c0 (fun DH:World→Prop=>∃DI:Addr,up=some DI∧∃A0:Int,fe.cell? (DI.add 5)=some (.int .i64 A0)∧((decide ((n36:Int)>A0))=true→ay (fe.drew) fun iW=>∃xE:Nat→Prop,¬xE (⟨bF,0,none⟩:Addr).block∧∃qS:Bool,iW.cell? ⟨bF,0,none⟩=some (.bool qS)∧∃iY:aa,iW.cell? (Addr.add ⟨bF,0,none⟩ 1)=some (.slice iY.a iY.len iY.cap)∧∃g5:aa,iW.cell? (Addr.add ⟨bF,0,none⟩ 2)=some (.slice g5.a g5.len g5.cap)∧∃g6:aa,iW.cell? (Addr.add ⟨bF,0,none⟩ 3)=some (.slice g6.a g6.len g6.cap)∧¬xE (⟨aK,0,none⟩:Addr).block∧∃A1:Bool,iW.cell? ⟨aK,0,none⟩=some (.bool A1)∧∃iZ:aa,iW.cell? (Addr.add ⟨aK,0,none⟩ 1)=some (.slice iZ.a iZ.len iZ.cap)∧∃jA:aa,iW.cell? (Addr.add ⟨aK,0,none⟩ 2)=some (.slice jA.a jA.len jA.cap)∧∃iy:aa,iW.cell? (Addr.add ⟨aK,0,none⟩ 3)=some (.slice iy.a iy.len iy.cap)∧c2 iW ⟨oz,0,none⟩ [.bool qS, .slice iY.a iY.len iY.cap, .slice g5.a g5.len g5.cap, .slice g6.a g6.len g6.cap]∧(4:Nat)=4∧ay (setCells iW ⟨oz,0,none⟩ 0 [.bool qS, .slice iY.a iY.len iY.cap, .slice g5.a g5.len g5.cap, .slice g6.a g6.len g6.cap]) fun oA=>ao xE iW oA∧c2 oA ⟨bv,0,none⟩ [.bool A1, .slice iZ.a iZ.len iZ.cap, .slice jA.a jA.len jA.cap, .slice iy.a iy.len iy.cap]∧(4:Nat)=4∧ay (setCells oA ⟨bv,0,none⟩ 0 [.bool A1, .slice iZ.a iZ.len iZ.cap, .slice jA.a jA.len jA.cap, .slice iy.a iy.len iy.cap]) fun FX=>DH FX)∧((decide ((n36:Int)>A0))=false→DH fe)) (fun (mq:World)=>ay (mq.drew) fun fN=>∃mI:Nat→Prop,¬mI (⟨oz,0,none⟩:Addr).block∧∃rR:Bool,fN.cell? ⟨oz,0,none⟩=some (.bool rR)∧∃jB:aa,fN.cell? (Addr.add ⟨oz,0,none⟩ 1)=some (.slice jB.a jB.len jB.cap)∧∃jJ:aa,fN.cell? (Addr.add ⟨oz,0,none⟩ 2)=some (.slice jJ.a jJ.len jJ.cap)∧∃gn:aa,fN.cell? (Addr.add ⟨oz,0,none⟩ 3)=some (.slice gn.a gn.len gn.cap)∧∃xF:Addr,up=some xF∧¬mI ((xF.add 1).add 1).block∧∃k2:aa,fN.cell? ((xF.add 1).add 1)=some (.slice k2.a k2.len k2.cap)∧∃xG:Addr,k2.a=some xG∧((0:Int)≤n31∧n31<((k2.len:Nat):Int))∧¬mI (xG.add (Int.toNat n31*1)).block∧∃mJ:aa,fN.cell? (xG.add (Int.toNat n31*1))=some (.slice mJ.a mJ.len mJ.cap)∧¬mI (⟨bv,0,none⟩:Addr).block∧∃zh:Bool,fN.cell? ⟨bv,0,none⟩=some (.bool zh)∧∃jC:aa,fN.cell? (Addr.add ⟨bv,0,none⟩ 1)=some (.slice jC.a jC.len jC.cap)∧∃jD:aa,fN.cell? (Addr.add ⟨bv,0,none⟩ 2)=some (.slice jD.a jD.len jD.cap)∧∃mK:aa,fN.cell? (Addr.add ⟨bv,0,none⟩ 3)=some (.slice mK.a mK.len mK.cap)∧(Calls Tryz.prog F.qd #[.agg #[.bool rR, .slice jB.a jB.len jB.cap, .slice jJ.a jJ.len jJ.cap, .slice gn.a gn.len gn.cap], .slice mJ.a mJ.len mJ.cap, .agg #[.bool zh, .slice jC.a jC.len jC.cap, .slice jD.a jD.len jD.cap, .slice mK.a mK.len mK.cap]] fN fun TL jQ=>∃vL:Bool,∃l9:aa,∃l_:aa,∃mb:aa,∃xH:Bool,TL= .returned ( .tuple #[.agg #[.bool vL, .slice l9.a l9.len l9.cap, .slice l_.a l_.len l_.cap, .slice mb.a mb.len mb.cap], .bool xH])∧ao mI fN jQ∧ay (jQ.alloc (.cells #[.bool false, .slice none 0 0, .slice none 0 0, .slice none 0 0] ah.cO)) fun qf=>ao mI jQ qf∧c2 qf ⟨jQ.heap.size,0,none⟩ [.bool vL, .slice l9.a l9.len l9.cap, .slice l_.a l_.len l_.cap, .slice mb.a mb.len mb.cap]∧(4:Nat)=4∧ay (setCells qf ⟨jQ.heap.size,0,none⟩ 0 [.bool vL, .slice l9.a l9.len l9.cap, .slice l_.a l_.len l_.cap, .slice mb.a mb.len mb.cap]) fun mc=>((!xH)=true→Q (.tuple #[.slice none 0 0, .int .i64 0, .int .i64 0, .int .i64 4]) mc)∧((!xH)=false→∃FY:Bool,mc.cell? ⟨jQ.heap.size,0,none⟩=some (.bool FY)∧∃oS:aa,mc.cell? (Addr.add ⟨jQ.heap.size,0,none⟩ 1)=some (.slice oS.a oS.len oS.cap)∧∃q0:aa,mc.cell? (Addr.add ⟨jQ.heap.size,0,none⟩ 2)=some (.slice q0.a q0.len q0.cap)∧∃q1:aa,mc.cell? (Addr.add ⟨jQ.heap.size,0,none⟩ 3)=some (.slice q1.a q1.len q1.cap)∧Calls Tryz.prog F.sy #[.pointer c, .agg #[.bool FY, .slice oS.a oS.len oS.cap, .slice q0.a q0.len q0.cap, .slice q1.a q1.len q1.cap]] mc fun TM K9=>∃q2:aa,∃FZ:Int,TM= .returned (.tuple #[.slice q2.a q2.len q2.cap, .int .i64 FZ])∧Q ( .tuple #[.slice q2.a q2.len q2.cap, .int .i64 n31, .int .i64 (IntKind.wrap .i64 (n31+2)), .int .i64 FZ]) K9))∧(ay (fN.alloc (.cells #[.bool false, .slice none 0 0, .slice none 0 0, .slice none 0 0] ah.cO)) fun vM=>ao mI fN vM∧Calls Tryz.prog F.qd #[.agg #[.bool rR, .slice jB.a jB.len jB.cap, .slice jJ.a jJ.len jJ.cap, .slice gn.a gn.len gn.cap], .slice mJ.a mJ.len mJ.cap, .agg #[.bool zh, .slice jC.a jC.len jC.cap, .slice jD.a jD.len jD.cap, .slice mK.a mK.len mK.cap]] vM fun TN xI=>∃A2:Bool,∃nA:aa,∃oT:aa,∃oU:aa,∃A3:Bool,TN= .returned ( .tuple #[.agg #[.bool A2, .slice nA.a nA.len nA.cap, .slice oT.a oT.len oT.cap, .slice oU.a oU.len oU.cap], .bool A3])∧ao mI vM xI∧c2 xI ⟨fN.heap.size,0,none⟩ [.bool A2, .slice nA.a nA.len nA.cap, .slice oT.a oT.len oT.cap, .slice oU.a oU.len oU.cap]∧(4:Nat)=4∧ay (setCells xI ⟨fN.heap.size,0,none⟩ 0 [.bool A2, .slice nA.a nA.len nA.cap, .slice oT.a oT.len oT.cap, .slice oU.a oU.len oU.cap]) fun ux=>((!A3)=true→Q (.tuple #[.slice none 0 0, .int .i64 0, .int .i64 0, .int .i64 4]) ux)∧((!A3)=false→∃K_:Bool,ux.cell? ⟨fN.heap.size,0,none⟩=some (.bool K_)∧∃uy:aa,ux.cell? (Addr.add ⟨fN.heap.size,0,none⟩ 1)=some (.slice uy.a uy.len uy.cap)∧∃uz:aa,ux.cell? (Addr.add ⟨fN.heap.size,0,none⟩ 2)=some (.slice uz.a uz.len uz.cap)∧∃pS:aa,ux.cell? (Addr.add ⟨fN.heap.size,0,none⟩ 3)=some (.slice pS.a pS.len pS.cap)∧Calls Tryz.prog F.sy #[.pointer c, .agg #[.bool K_, .slice uy.a uy.len uy.cap, .slice uz.a uz.len uz.cap, .slice pS.a pS.len pS.cap]] ux fun TO TP=>∃uA:aa,∃La:Int,TO= .returned (.tuple #[.slice uA.a uA.len uA.cap, .int .i64 La])∧Q ( .tuple #[.slice uA.a uA.len uA.cap, .int .i64 n31, .int .i64 (IntKind.wrap .i64 (n31+2)), .int .i64 La]) TP)))
theorem anL {TQ TR:Nat→Prop} {bJ fe:World} {T:aZ} {c:gK} {bF aK oz bv:Nat} {A:Addr} {u:gE} {n o:aL} {K V D mL mM Do:aa} {fr other:Nat} {Q:Value→World→Prop} (h:fT bJ T c) (af:Ext bJ fe) (jY:Var bJ bF (g4 n K V D) ah.cO) (fj:Var bJ aK (g4 o mL mM Do) ah.cO)
   (aaW:Var fe oz (g4 o mL mM Do) ah.cO) (CI:Var fe bv (g4 n K V D) ah.cO) (U:bJ.heap.size≤oz) (ad:bJ.heap.size≤bv) (au:oz≠bv) (aC:cg TQ bJ n K V D) (bE:cg TR bJ o mL mM Do) (hu:zg (fun q=>¬T.M q) bJ A u)
   (gC:T.C.D.cX≤900000090) (jI:2≤fM T) (o0:c.made.length≤900) (A4:d_ n) (F0:d_ o) (O8:cq n≤400) (TS:cq o≤400) (az:o.leaf=n.leaf) (gf:fr<u.n.keys.length) (nW:eJ u.n.keys[fr]) (m:aL) (hm:m=if u.e3<other then hA n u.n.keys[fr] o else hA o u.n.keys[fr] n) (j7:zf m) (py:fr≤1000)
   (yA:∀ (s:aa) (e:Int) (w':World),pQ T c m bJ (.tuple #[.slice s.a s.len s.cap, .int .i64 e]) w'→Q (.tuple #[.slice s.a s.len s.cap, .int .i64 (fr:Nat), .int .i64 ((fr+2:Nat):Int), .int .i64 e]) w'):
   TK bF aK oz bv (some ⟨c.dp,0,none⟩) (some A) (fr:Nat) (other:Nat) fe Q:=by
 have sq:=jY.lt
 have Fl:=fj.lt
 have bO:=af.size
 have fn:=A4.iS (by omega)
 have avz:=F0.iS (by omega)
 unfold TK
 refine vh (fun mq=>∃ (a b:aL) (eX eD eg dP dQ dR:aa) (Ot Ou:Nat→Prop),Ext bJ mq∧Var mq oz (g4 a eX eD eg) ah.cO∧Var mq bv (g4 b dP dQ dR) ah.cO∧cg Ot bJ a eX eD eg∧cg Ou bJ b dP dQ dR∧m=hA a u.n.keys[fr] b∧d_ a∧d_ b∧a.leaf=b.leaf∧a.keys.length≤200∧b.keys.length≤200)
   (fun q J=>⟨A,rfl,_,(hu.ext af).dL,fun ab=> ?_,fun ab=>J _ ⟨o,n,mL,mM,Do,K,V,D,TR,TQ,af,aaW,CI,bE,aC,?_,F0,A4,az,by omega,by omega⟩⟩) ?_
 · have ab:u.e3<other:=by
     have:((other:Nat):Int)>((u.e3:Nat):Int):=dG ab
     omega
   have bD:=af.trans (dT fe)
   obtain ⟨bP,dt,db,bm⟩:=cl (jY.ext bD)
   obtain ⟨AX,jE,lE,xD⟩:=cl (fj.ext bD)
   have aaX:=aaW.drew
   have anM:=CI.drew
   refine bN ⟨fun q=>q=oz,(show bF≠oz by omega),_,bP,K,dt,V,db,D,bm,(show aK≠oz by omega),_,AX,mL,jE,mM,lE,Do,xD,aaX.dC rfl lr,rfl,eo aaX (us:=g4 n K V D) rfl rfl fun oA anN TT avA=> ?_⟩
   have aaY:=anM.an TT (fun e=>au e.symm)
   refine ⟨TT,aaY.dC rfl lr,rfl,eo aaY (us:=g4 o mL mM Do) rfl rfl fun FX anO aaZ avB=> ?_⟩
   exact J _ ⟨n,o,K,V,D,mL,mM,Do,TQ,TR,Ext.fb (Ext.fb bD TT U) aaZ ad,anN.an aaZ au,anO,aC,bE,by rw[hm,if_pos ab],A4,F0,az.symm,by omega,by omega⟩
 · have ab:¬u.e3<other:=by
     have:¬((other:Nat):Int)>((u.e3:Nat):Int):=eW ab
     omega
   rw[hm,if_neg ab]
 rintro mq ⟨a,b,eX,eD,eg,dP,dQ,dR,Ot,Ou,anP,aU,ab,aa0,aa1,TU,nN,dD,nL,pE,ik⟩
 have bD:=anP.trans (dT mq)
 have rS:=aU.drew
 have mE:=ab.drew
 obtain ⟨a0,bc,cW,a3⟩:=cl rS
 obtain ⟨pb,da,cI,eM⟩:=cl mE
 have Lb:=hu.ext bD
 obtain ⟨anQ,aI,anR,TV,anS,k1,avC⟩:=b2.at Lb.dE.keys gf
 have vN:d_ (hA a u.n.keys[fr] b):=by rw[←TU];exact j7.1
 have Lc:=qd (aa0.ext bD) (aa1.ext bD) k1.1 (fun q J=>(k1.2.2 q J).2) (by have:=nW.2;omega) nN dD nL vN (by omega) (by omega)
 rw[←TU] at Lc
 have kE:IntKind.wrap .i64 (((fr:Nat):Int)+2)=((fr+2:Nat):Int):=by rw[cz (by omega) (by omega)];rfl
 obtain ⟨wd,avD⟩:∃wd,wd=mq.drew:=⟨_,rfl⟩
 refine bN ⟨fun _=>False,id,_,a0,eX,bc,eD,cW,eg,a3,A,rfl,id,u.K,Lb.bA,anQ,anR,TV,id,aI,anS,id,_,pb,dP,da,dQ,cI,dR,eM,?_,?_⟩
 · refine Lc.use ?_
   rintro _ jQ ⟨F1,F2,F3,rfl,ti,Ah⟩
   refine ⟨_,F1,F2,F3,true,rfl,Ah,cx (vs:=[.bool false, .slice none 0 0, .slice none 0 0, .slice none 0 0]) rfl fun qf aa2 aa3 avE=>⟨aa3,aa2.dC rfl lr,rfl,eo aa2 (us:=g4 m F1 F2 F3) rfl rfl fun mc TW O9 anT=>⟨fun ab=>(by cases ab),fun _=> ?_⟩⟩⟩
   have O_:Ext jQ mc:=Ext.fb aa3 O9 (cR _)
   have ee:=(bD.trans Ah).trans O_
   obtain ⟨pG,vO,sC,q3⟩:=cl TW
   refine ⟨_,pG,F1,vO,F2,sC,F3,q3,(O1 (h.ext ee) gC jI o0 (ti.ext O_) j7.1 j7.2.1 j7.2.2).use ?_⟩
   intro v w' ak
   obtain ⟨s,e,rfl⟩:=ak.out
   rw[kE]
   exact ⟨s,e,rfl,yA s e w' (ak.base ee)⟩
 · refine cx (vs:=[.bool false, .slice none 0 0, .slice none 0 0, .slice none 0 0]) rfl fun vM anU Ih avF=>⟨Ih,?_⟩
   have Lc:=qd ((aa0.ext bD).ext Ih) ((aa1.ext bD).ext Ih) (k1.1.ext Ih) (fun q J=>lv (k1.2.2 q J).2 Ih.size) (by have:=nW.2;omega) nN dD nL vN (by omega) (by omega)
   rw[←TU] at Lc
   refine Lc.use ?_
   rintro _ xI ⟨F1,F2,F3,rfl,ti,Ah⟩
   have aa4:=anU.ext Ah
   refine ⟨_,F1,F2,F3,true,rfl,Ah,aa4.dC rfl lr,rfl,eo aa4 (us:=g4 m F1 F2 F3) rfl rfl fun mc TW O9 anT=>⟨fun ab=>(by cases ab),fun _=> ?_⟩⟩
   have O_:Ext mq.drew mc:=Ext.fb (Ih.trans Ah) O9 (cR _)
   have ee:=bD.trans O_
   have anV:=cg.an ti O9 fun q J e=>by omega
   obtain ⟨pG,vO,sC,q3⟩:=cl TW
   refine ⟨_,pG,F1,vO,F2,sC,F3,q3,(O1 (h.ext ee) gC jI o0 anV j7.1 j7.2.1 j7.2.2).use ?_⟩
   intro v w' ak
   obtain ⟨s,e,rfl⟩:=ak.out
   rw[kE]
   exact ⟨s,e,rfl,yA s e w' (ak.base ee)⟩
end
section
theorem fU.leave {T:aZ} {c c':gK} {E G:Nat→Prop} {w w':World} {no:Nat} (h:b_ T (T.dw E G) w w' 0) (fJ:E=T.E) (hF:∀q,T.G q→G q) (U:c'.dp=c.dp) (ad:c'.made=c.made) (au:c'.left=c.left++ [no]):fU T (T.dw E G) c c' [] [no] w w' 0:=
 ⟨h,fJ,hF,rfl,rfl,U,by rw[ad,mh],au,JQ,fun _ h=>(by cases h),fun no=>by simp[aZ.dw],fun _ _=>⟨rfl,rfl⟩,by simp[fM,aZ.dw]⟩
def TX (bF aK:Nat) (c up:Option Addr) (n31 n36 n41 me:Int) (fe:World) (Q:Value→World→Prop):Prop:=
 (((me:Int) !=0)=true→Q (.tuple #[.slice none 0 0, .int .i64 0, .int .i64 0, .int .i64 me]) fe)∧(((me:Int) !=0)=false→∃Ld:Addr,c=some Ld∧∃pT:aa,fe.cell? (Ld.add 2)=some (.slice pT.a pT.len pT.cap)∧ay (fe.alloc (.cells #[.int .i64 n41] ah.int)) fun DJ=>∃ix:aa,∃tj:World,Sem.run Tryz.prog (Builtin.append_ #[ah.ef,ah.ef] ah.ef #[.slice pT.a pT.len pT.cap, .slice (some ⟨fe.heap.size,0,none⟩) 1 1]) DJ= .ok (.slice ix.a ix.len ix.cap) tj∧∃q4:Addr,c=some q4∧(∃u:Value,tj.cell? (q4.add 2)=some u)∧tj.frozen? (q4.add 2)=false∧ay (tj.setCell (q4.add 2) (.slice ix.a ix.len ix.cap)) fun fL=>ay (fL.drew) fun c8=>∃oB:Nat→Prop,¬oB (⟨aK,0,none⟩:Addr).block∧∃uB:Bool,c8.cell? ⟨aK,0,none⟩=some (.bool uB)∧∃hV:aa,c8.cell? (Addr.add ⟨aK,0,none⟩ 1)=some (.slice hV.a hV.len hV.cap)∧∃gM:aa,c8.cell? (Addr.add ⟨aK,0,none⟩ 2)=some (.slice gM.a gM.len gM.cap)∧∃hM:aa,c8.cell? (Addr.add ⟨aK,0,none⟩ 3)=some (.slice hM.a hM.len hM.cap)∧¬oB (⟨bF,0,none⟩:Addr).block∧∃uC:Bool,c8.cell? ⟨bF,0,none⟩=some (.bool uC)∧∃gl:aa,c8.cell? (Addr.add ⟨bF,0,none⟩ 1)=some (.slice gl.a gl.len gl.cap)∧∃gm:aa,c8.cell? (Addr.add ⟨bF,0,none⟩ 2)=some (.slice gm.a gm.len gm.cap)∧∃gT:aa,c8.cell? (Addr.add ⟨bF,0,none⟩ 3)=some (.slice gT.a gT.len gT.cap)∧(ay (c8.alloc (.cells #[.bool false, .slice none 0 0, .slice none 0 0, .slice none 0 0] ah.cO)) fun gZ=>ao oB c8 gZ∧ay (gZ.alloc (.cells #[.bool false, .slice none 0 0, .slice none 0 0, .slice none 0 0] ah.cO)) fun nM=>ao oB gZ nM∧c2 nM ⟨c8.heap.size,0,none⟩ [.bool uB, .slice hV.a hV.len hV.cap, .slice gM.a gM.len gM.cap, .slice hM.a hM.len hM.cap]∧(4:Nat)=4∧ay (setCells nM ⟨c8.heap.size,0,none⟩ 0 [.bool uB, .slice hV.a hV.len hV.cap, .slice gM.a gM.len gM.cap, .slice hM.a hM.len hM.cap]) fun xJ=>ao oB nM xJ∧c2 xJ ⟨gZ.heap.size,0,none⟩ [.bool uC, .slice gl.a gl.len gl.cap, .slice gm.a gm.len gm.cap, .slice gT.a gT.len gT.cap]∧(4:Nat)=4∧ay (setCells xJ ⟨gZ.heap.size,0,none⟩ 0 [.bool uC, .slice gl.a gl.len gl.cap, .slice gm.a gm.len gm.cap, .slice gT.a gT.len gT.cap]) fun lh=>c0 (fun DH:World→Prop=>∃DI:Addr,up=some DI∧∃A0:Int,lh.cell? (DI.add 5)=some (.int .i64 A0)∧((decide ((n36:Int)>A0))=true→ay (lh.drew) fun iW=>∃xE:Nat→Prop,¬xE (⟨bF,0,none⟩:Addr).block∧∃qS:Bool,iW.cell? ⟨bF,0,none⟩=some (.bool qS)∧∃iY:aa,iW.cell? (Addr.add ⟨bF,0,none⟩ 1)=some (.slice iY.a iY.len iY.cap)∧∃g5:aa,iW.cell? (Addr.add ⟨bF,0,none⟩ 2)=some (.slice g5.a g5.len g5.cap)∧∃g6:aa,iW.cell? (Addr.add ⟨bF,0,none⟩ 3)=some (.slice g6.a g6.len g6.cap)∧¬xE (⟨aK,0,none⟩:Addr).block∧∃A1:Bool,iW.cell? ⟨aK,0,none⟩=some (.bool A1)∧∃iZ:aa,iW.cell? (Addr.add ⟨aK,0,none⟩ 1)=some (.slice iZ.a iZ.len iZ.cap)∧∃jA:aa,iW.cell? (Addr.add ⟨aK,0,none⟩ 2)=some (.slice jA.a jA.len jA.cap)∧∃iy:aa,iW.cell? (Addr.add ⟨aK,0,none⟩ 3)=some (.slice iy.a iy.len iy.cap)∧c2 iW ⟨c8.heap.size,0,none⟩ [.bool qS, .slice iY.a iY.len iY.cap, .slice g5.a g5.len g5.cap, .slice g6.a g6.len g6.cap]∧(4:Nat)=4∧ay (setCells iW ⟨c8.heap.size,0,none⟩ 0 [.bool qS, .slice iY.a iY.len iY.cap, .slice g5.a g5.len g5.cap, .slice g6.a g6.len g6.cap]) fun oA=>ao xE iW oA∧c2 oA ⟨gZ.heap.size,0,none⟩ [.bool A1, .slice iZ.a iZ.len iZ.cap, .slice jA.a jA.len jA.cap, .slice iy.a iy.len iy.cap]∧(4:Nat)=4∧ay (setCells oA ⟨gZ.heap.size,0,none⟩ 0 [.bool A1, .slice iZ.a iZ.len iZ.cap, .slice jA.a jA.len jA.cap, .slice iy.a iy.len iy.cap]) fun FX=>DH FX)∧((decide ((n36:Int)>A0))=false→DH lh)) (fun (mq:World)=>ay (mq.drew) fun fN=>∃mI:Nat→Prop,¬mI (⟨c8.heap.size,0,none⟩:Addr).block∧∃rR:Bool,fN.cell? ⟨c8.heap.size,0,none⟩=some (.bool rR)∧∃jB:aa,fN.cell? (Addr.add ⟨c8.heap.size,0,none⟩ 1)=some (.slice jB.a jB.len jB.cap)∧∃jJ:aa,fN.cell? (Addr.add ⟨c8.heap.size,0,none⟩ 2)=some (.slice jJ.a jJ.len jJ.cap)∧∃gn:aa,fN.cell? (Addr.add ⟨c8.heap.size,0,none⟩ 3)=some (.slice gn.a gn.len gn.cap)∧∃xF:Addr,up=some xF∧¬mI ((xF.add 1).add 1).block∧∃k2:aa,fN.cell? ((xF.add 1).add 1)=some (.slice k2.a k2.len k2.cap)∧∃xG:Addr,k2.a=some xG∧((0:Int)≤n31∧n31<((k2.len:Nat):Int))∧¬mI (xG.add (Int.toNat n31*1)).block∧∃mJ:aa,fN.cell? (xG.add (Int.toNat n31*1))=some (.slice mJ.a mJ.len mJ.cap)∧¬mI (⟨gZ.heap.size,0,none⟩:Addr).block∧∃zh:Bool,fN.cell? ⟨gZ.heap.size,0,none⟩=some (.bool zh)∧∃jC:aa,fN.cell? (Addr.add ⟨gZ.heap.size,0,none⟩ 1)=some (.slice jC.a jC.len jC.cap)∧∃jD:aa,fN.cell? (Addr.add ⟨gZ.heap.size,0,none⟩ 2)=some (.slice jD.a jD.len jD.cap)∧∃mK:aa,fN.cell? (Addr.add ⟨gZ.heap.size,0,none⟩ 3)=some (.slice mK.a mK.len mK.cap)∧(Calls Tryz.prog F.qd #[.agg #[.bool rR, .slice jB.a jB.len jB.cap, .slice jJ.a jJ.len jJ.cap, .slice gn.a gn.len gn.cap], .slice mJ.a mJ.len mJ.cap, .agg #[.bool zh, .slice jC.a jC.len jC.cap, .slice jD.a jD.len jD.cap, .slice mK.a mK.len mK.cap]] fN fun TL jQ=>∃vL:Bool,∃l9:aa,∃l_:aa,∃mb:aa,∃xH:Bool,TL= .returned ( .tuple #[.agg #[.bool vL, .slice l9.a l9.len l9.cap, .slice l_.a l_.len l_.cap, .slice mb.a mb.len mb.cap], .bool xH])∧ao mI fN jQ∧ay (jQ.alloc (.cells #[.bool false, .slice none 0 0, .slice none 0 0, .slice none 0 0] ah.cO)) fun qf=>ao mI jQ qf∧c2 qf ⟨jQ.heap.size,0,none⟩ [.bool vL, .slice l9.a l9.len l9.cap, .slice l_.a l_.len l_.cap, .slice mb.a mb.len mb.cap]∧(4:Nat)=4∧ay (setCells qf ⟨jQ.heap.size,0,none⟩ 0 [.bool vL, .slice l9.a l9.len l9.cap, .slice l_.a l_.len l_.cap, .slice mb.a mb.len mb.cap]) fun mc=>((!xH)=true→Q (.tuple #[.slice none 0 0, .int .i64 0, .int .i64 0, .int .i64 4]) mc)∧((!xH)=false→∃FY:Bool,mc.cell? ⟨jQ.heap.size,0,none⟩=some (.bool FY)∧∃oS:aa,mc.cell? (Addr.add ⟨jQ.heap.size,0,none⟩ 1)=some (.slice oS.a oS.len oS.cap)∧∃q0:aa,mc.cell? (Addr.add ⟨jQ.heap.size,0,none⟩ 2)=some (.slice q0.a q0.len q0.cap)∧∃q1:aa,mc.cell? (Addr.add ⟨jQ.heap.size,0,none⟩ 3)=some (.slice q1.a q1.len q1.cap)∧Calls Tryz.prog F.sy #[.pointer c, .agg #[.bool FY, .slice oS.a oS.len oS.cap, .slice q0.a q0.len q0.cap, .slice q1.a q1.len q1.cap]] mc fun TM K9=>∃q2:aa,∃FZ:Int,TM= .returned (.tuple #[.slice q2.a q2.len q2.cap, .int .i64 FZ])∧Q ( .tuple #[.slice q2.a q2.len q2.cap, .int .i64 n31, .int .i64 (IntKind.wrap .i64 (n31+2)), .int .i64 FZ]) K9))∧(ay (fN.alloc (.cells #[.bool false, .slice none 0 0, .slice none 0 0, .slice none 0 0] ah.cO)) fun vM=>ao mI fN vM∧Calls Tryz.prog F.qd #[.agg #[.bool rR, .slice jB.a jB.len jB.cap, .slice jJ.a jJ.len jJ.cap, .slice gn.a gn.len gn.cap], .slice mJ.a mJ.len mJ.cap, .agg #[.bool zh, .slice jC.a jC.len jC.cap, .slice jD.a jD.len jD.cap, .slice mK.a mK.len mK.cap]] vM fun TN xI=>∃A2:Bool,∃nA:aa,∃oT:aa,∃oU:aa,∃A3:Bool,TN= .returned ( .tuple #[.agg #[.bool A2, .slice nA.a nA.len nA.cap, .slice oT.a oT.len oT.cap, .slice oU.a oU.len oU.cap], .bool A3])∧ao mI vM xI∧c2 xI ⟨fN.heap.size,0,none⟩ [.bool A2, .slice nA.a nA.len nA.cap, .slice oT.a oT.len oT.cap, .slice oU.a oU.len oU.cap]∧(4:Nat)=4∧ay (setCells xI ⟨fN.heap.size,0,none⟩ 0 [.bool A2, .slice nA.a nA.len nA.cap, .slice oT.a oT.len oT.cap, .slice oU.a oU.len oU.cap]) fun ux=>((!A3)=true→Q (.tuple #[.slice none 0 0, .int .i64 0, .int .i64 0, .int .i64 4]) ux)∧((!A3)=false→∃K_:Bool,ux.cell? ⟨fN.heap.size,0,none⟩=some (.bool K_)∧∃uy:aa,ux.cell? (Addr.add ⟨fN.heap.size,0,none⟩ 1)=some (.slice uy.a uy.len uy.cap)∧∃uz:aa,ux.cell? (Addr.add ⟨fN.heap.size,0,none⟩ 2)=some (.slice uz.a uz.len uz.cap)∧∃pS:aa,ux.cell? (Addr.add ⟨fN.heap.size,0,none⟩ 3)=some (.slice pS.a pS.len pS.cap)∧Calls Tryz.prog F.sy #[.pointer c, .agg #[.bool K_, .slice uy.a uy.len uy.cap, .slice uz.a uz.len uz.cap, .slice pS.a pS.len pS.cap]] ux fun TO TP=>∃uA:aa,∃La:Int,TO= .returned (.tuple #[.slice uA.a uA.len uA.cap, .int .i64 La])∧Q ( .tuple #[.slice uA.a uA.len uA.cap, .int .i64 n31, .int .i64 (IntKind.wrap .i64 (n31+2)), .int .i64 La]) TP))))∧(ay (c8.alloc (.cells #[.bool false, .slice none 0 0, .slice none 0 0, .slice none 0 0] ah.cO)) fun q5=>ao oB c8 q5∧ay (q5.alloc (.cells #[.bool false, .slice none 0 0, .slice none 0 0, .slice none 0 0] ah.cO)) fun F4=>ao oB q5 F4∧c2 F4 ⟨q5.heap.size,0,none⟩ [.bool uB, .slice hV.a hV.len hV.cap, .slice gM.a gM.len gM.cap, .slice hM.a hM.len hM.cap]∧(4:Nat)=4∧ay (setCells F4 ⟨q5.heap.size,0,none⟩ 0 [.bool uB, .slice hV.a hV.len hV.cap, .slice gM.a gM.len gM.cap, .slice hM.a hM.len hM.cap]) fun TY=>ao oB F4 TY∧c2 TY ⟨c8.heap.size,0,none⟩ [.bool uC, .slice gl.a gl.len gl.cap, .slice gm.a gm.len gm.cap, .slice gT.a gT.len gT.cap]∧(4:Nat)=4∧ay (setCells TY ⟨c8.heap.size,0,none⟩ 0 [.bool uC, .slice gl.a gl.len gl.cap, .slice gm.a gm.len gm.cap, .slice gT.a gT.len gT.cap]) fun TZ=>c0 (fun aa5:World→Prop=>∃aa6:Addr,up=some aa6∧∃T0:Int,TZ.cell? (aa6.add 5)=some (.int .i64 T0)∧((decide ((n36:Int)>T0))=true→ay (TZ.drew) fun xK=>∃T1:Nat→Prop,¬T1 (⟨bF,0,none⟩:Addr).block∧∃T2:Bool,xK.cell? ⟨bF,0,none⟩=some (.bool T2)∧∃A5:aa,xK.cell? (Addr.add ⟨bF,0,none⟩ 1)=some (.slice A5.a A5.len A5.cap)∧∃A6:aa,xK.cell? (Addr.add ⟨bF,0,none⟩ 2)=some (.slice A6.a A6.len A6.cap)∧∃A7:aa,xK.cell? (Addr.add ⟨bF,0,none⟩ 3)=some (.slice A7.a A7.len A7.cap)∧¬T1 (⟨aK,0,none⟩:Addr).block∧∃T3:Bool,xK.cell? ⟨aK,0,none⟩=some (.bool T3)∧∃A8:aa,xK.cell? (Addr.add ⟨aK,0,none⟩ 1)=some (.slice A8.a A8.len A8.cap)∧∃A9:aa,xK.cell? (Addr.add ⟨aK,0,none⟩ 2)=some (.slice A9.a A9.len A9.cap)∧∃A_:aa,xK.cell? (Addr.add ⟨aK,0,none⟩ 3)=some (.slice A_.a A_.len A_.cap)∧c2 xK ⟨q5.heap.size,0,none⟩ [.bool T2, .slice A5.a A5.len A5.cap, .slice A6.a A6.len A6.cap, .slice A7.a A7.len A7.cap]∧(4:Nat)=4∧ay (setCells xK ⟨q5.heap.size,0,none⟩ 0 [.bool T2, .slice A5.a A5.len A5.cap, .slice A6.a A6.len A6.cap, .slice A7.a A7.len A7.cap]) fun T4=>ao T1 xK T4∧c2 T4 ⟨c8.heap.size,0,none⟩ [.bool T3, .slice A8.a A8.len A8.cap, .slice A9.a A9.len A9.cap, .slice A_.a A_.len A_.cap]∧(4:Nat)=4∧ay (setCells T4 ⟨c8.heap.size,0,none⟩ 0 [.bool T3, .slice A8.a A8.len A8.cap, .slice A9.a A9.len A9.cap, .slice A_.a A_.len A_.cap]) fun zi=>aa5 zi)∧((decide ((n36:Int)>T0))=false→aa5 TZ)) (fun (Ii:World)=>ay (Ii.drew) fun ph=>∃DK:Nat→Prop,¬DK (⟨q5.heap.size,0,none⟩:Addr).block∧∃T5:Bool,ph.cell? ⟨q5.heap.size,0,none⟩=some (.bool T5)∧∃rT:aa,ph.cell? (Addr.add ⟨q5.heap.size,0,none⟩ 1)=some (.slice rT.a rT.len rT.cap)∧∃rU:aa,ph.cell? (Addr.add ⟨q5.heap.size,0,none⟩ 2)=some (.slice rU.a rU.len rU.cap)∧∃Ba:aa,ph.cell? (Addr.add ⟨q5.heap.size,0,none⟩ 3)=some (.slice Ba.a Ba.len Ba.cap)∧∃T6:Addr,up=some T6∧¬DK ((T6.add 1).add 1).block∧∃xL:aa,ph.cell? ((T6.add 1).add 1)=some (.slice xL.a xL.len xL.cap)∧∃T7:Addr,xL.a=some T7∧((0:Int)≤n31∧n31<((xL.len:Nat):Int))∧¬DK (T7.add (Int.toNat n31*1)).block∧∃Bb:aa,ph.cell? (T7.add (Int.toNat n31*1))=some (.slice Bb.a Bb.len Bb.cap)∧¬DK (⟨c8.heap.size,0,none⟩:Addr).block∧∃T8:Bool,ph.cell? ⟨c8.heap.size,0,none⟩=some (.bool T8)∧∃Bc:aa,ph.cell? (Addr.add ⟨c8.heap.size,0,none⟩ 1)=some (.slice Bc.a Bc.len Bc.cap)∧∃Bd:aa,ph.cell? (Addr.add ⟨c8.heap.size,0,none⟩ 2)=some (.slice Bd.a Bd.len Bd.cap)∧∃Be:aa,ph.cell? (Addr.add ⟨c8.heap.size,0,none⟩ 3)=some (.slice Be.a Be.len Be.cap)∧(Calls Tryz.prog F.qd #[.agg #[.bool T5, .slice rT.a rT.len rT.cap, .slice rU.a rU.len rU.cap, .slice Ba.a Ba.len Ba.cap], .slice Bb.a Bb.len Bb.cap, .agg #[.bool T8, .slice Bc.a Bc.len Bc.cap, .slice Bd.a Bd.len Bd.cap, .slice Be.a Be.len Be.cap]] ph fun anW Bf=>∃T9:Bool,∃Bg:aa,∃Bh:aa,∃Bi:aa,∃T_:Bool,anW= .returned ( .tuple #[.agg #[.bool T9, .slice Bg.a Bg.len Bg.cap, .slice Bh.a Bh.len Bh.cap, .slice Bi.a Bi.len Bi.cap], .bool T_])∧ao DK ph Bf∧ay (Bf.alloc (.cells #[.bool false, .slice none 0 0, .slice none 0 0, .slice none 0 0] ah.cO)) fun Ua=>ao DK Bf Ua∧c2 Ua ⟨Bf.heap.size,0,none⟩ [.bool T9, .slice Bg.a Bg.len Bg.cap, .slice Bh.a Bh.len Bh.cap, .slice Bi.a Bi.len Bi.cap]∧(4:Nat)=4∧ay (setCells Ua ⟨Bf.heap.size,0,none⟩ 0 [.bool T9, .slice Bg.a Bg.len Bg.cap, .slice Bh.a Bh.len Bh.cap, .slice Bi.a Bi.len Bi.cap]) fun Ij=>((!T_)=true→Q (.tuple #[.slice none 0 0, .int .i64 0, .int .i64 0, .int .i64 4]) Ij)∧((!T_)=false→∃aa7:Bool,Ij.cell? ⟨Bf.heap.size,0,none⟩=some (.bool aa7)∧∃Ik:aa,Ij.cell? (Addr.add ⟨Bf.heap.size,0,none⟩ 1)=some (.slice Ik.a Ik.len Ik.cap)∧∃Il:aa,Ij.cell? (Addr.add ⟨Bf.heap.size,0,none⟩ 2)=some (.slice Il.a Il.len Il.cap)∧∃Im:aa,Ij.cell? (Addr.add ⟨Bf.heap.size,0,none⟩ 3)=some (.slice Im.a Im.len Im.cap)∧Calls Tryz.prog F.sy #[.pointer c, .agg #[.bool aa7, .slice Ik.a Ik.len Ik.cap, .slice Il.a Il.len Il.cap, .slice Im.a Im.len Im.cap]] Ij fun anX anY=>∃Io:aa,∃aa8:Int,anX= .returned (.tuple #[.slice Io.a Io.len Io.cap, .int .i64 aa8])∧Q ( .tuple #[.slice Io.a Io.len Io.cap, .int .i64 n31, .int .i64 (IntKind.wrap .i64 (n31+2)), .int .i64 aa8]) anY))∧(ay (ph.alloc (.cells #[.bool false, .slice none 0 0, .slice none 0 0, .slice none 0 0] ah.cO)) fun Ub=>ao DK ph Ub∧Calls Tryz.prog F.qd #[.agg #[.bool T5, .slice rT.a rT.len rT.cap, .slice rU.a rU.len rU.cap, .slice Ba.a Ba.len Ba.cap], .slice Bb.a Bb.len Bb.cap, .agg #[.bool T8, .slice Bc.a Bc.len Bc.cap, .slice Bd.a Bd.len Bd.cap, .slice Be.a Be.len Be.cap]] Ub fun anZ Uc=>∃Ud:Bool,∃Bj:aa,∃Bk:aa,∃rV:aa,∃Ue:Bool,anZ= .returned ( .tuple #[.agg #[.bool Ud, .slice Bj.a Bj.len Bj.cap, .slice Bk.a Bk.len Bk.cap, .slice rV.a rV.len rV.cap], .bool Ue])∧ao DK Ub Uc∧c2 Uc ⟨ph.heap.size,0,none⟩ [.bool Ud, .slice Bj.a Bj.len Bj.cap, .slice Bk.a Bk.len Bk.cap, .slice rV.a rV.len rV.cap]∧(4:Nat)=4∧ay (setCells Uc ⟨ph.heap.size,0,none⟩ 0 [.bool Ud, .slice Bj.a Bj.len Bj.cap, .slice Bk.a Bk.len Bk.cap, .slice rV.a rV.len rV.cap]) fun Ip=>((!Ue)=true→Q (.tuple #[.slice none 0 0, .int .i64 0, .int .i64 0, .int .i64 4]) Ip)∧((!Ue)=false→∃aa9:Bool,Ip.cell? ⟨ph.heap.size,0,none⟩=some (.bool aa9)∧∃Iq:aa,Ip.cell? (Addr.add ⟨ph.heap.size,0,none⟩ 1)=some (.slice Iq.a Iq.len Iq.cap)∧∃Ir:aa,Ip.cell? (Addr.add ⟨ph.heap.size,0,none⟩ 2)=some (.slice Ir.a Ir.len Ir.cap)∧∃Is:aa,Ip.cell? (Addr.add ⟨ph.heap.size,0,none⟩ 3)=some (.slice Is.a Is.len Is.cap)∧Calls Tryz.prog F.sy #[.pointer c, .agg #[.bool aa9, .slice Iq.a Iq.len Iq.cap, .slice Ir.a Ir.len Ir.cap, .slice Is.a Is.len Is.cap]] Ip fun an0 an1=>∃zj:aa,∃aa_:Int,an0= .returned (.tuple #[.slice zj.a zj.len zj.cap, .int .i64 aa_])∧Q ( .tuple #[.slice zj.a zj.len zj.cap, .int .i64 n31, .int .i64 (IntKind.wrap .i64 (n31+2)), .int .i64 aa_]) an1)))))
theorem an2 {w:World} {T:aZ} {c:gK} {bF aK:Nat} {A:Addr} {u:gE} {n o:aL} {K V D mL mM Do:aa} {fr other no:Nat} {Q:Value→World→Prop} (h:fT w T c) (jY:Var w bF (g4 n K V D) ah.cO) (fj:Var w aK (g4 o mL mM Do) ah.cO)
   (an3:¬T.M bF) (an4:¬T.M aK) (aC:cg (fun q=>¬T.M q) w n K V D) (bE:cg (fun q=>¬T.M q) w o mL mM Do) (hu:zg (fun q=>¬T.M q) w A u)
   (gC:T.C.D.cX≤900000090) (jI:2≤fM T) (o0:c.made.length≤900) (wB:c.left.length≤900) (A4:d_ n) (F0:d_ o) (O8:cq n≤400) (TS:cq o≤400) (az:o.leaf=n.leaf) (gf:fr<u.n.keys.length) (nW:eJ u.n.keys[fr]) (m:aL) (hm:m=if u.e3<other then hA n u.n.keys[fr] o else hA o u.n.keys[fr] n) (j7:zf m) (py:fr≤1000)
   (yA:∀ (s:aa) (e:Int) (cE:aZ) (aV:gK) (ag w':World),fU T cE c aV [] [no] w ag 0→pQ cE aV m ag (.tuple #[.slice s.a s.len s.cap, .int .i64 e]) w'→Q (.tuple #[.slice s.a s.len s.cap, .int .i64 (fr:Nat), .int .i64 ((fr+2:Nat):Int), .int .i64 e]) w'):
   TX bF aK (some ⟨c.dp,0,none⟩) (some A) (fr:Nat) (other:Nat) (no:Nat) 0 w Q:=by
 unfold TX
 refine ⟨fun ab=>(by cases ab),fun _=>⟨_,rfl,_,h.cells.2.2,?_⟩⟩
 obtain ⟨ar,tj,aB,aF,aJ,aM,cU⟩:=aap h no (by omega)
 refine bN ⟨ar,tj,aB,_,rfl,by rw[aX];exact aJ,by rw[aX];exact aM,bN ?_⟩
 rw[aX]
 obtain ⟨fL,aba⟩:∃fL,fL=tj.setCell ⟨c.dp,0+2,none⟩ (.slice ar.a ar.len ar.cap):=⟨_,rfl⟩
 rw[←aba]
 obtain ⟨abb,abc⟩:=cU fL aba
 have gL:=fU.leave (c:=c) (c':={c with l8:=ar,left:=c.left++ [no]}) (no:=no) abc rfl (fun q J=> .inl J) rfl rfl rfl
 obtain ⟨cE,iJ⟩:∃cE,cE=T.dw T.E fun q=>T.G q∨aQ ar q:=⟨_,rfl⟩
 obtain ⟨aV,iR⟩:∃aV:gK,aV={c with l8:=ar,left:=c.left++ [no]}:=⟨_,rfl⟩
 have rO:aV.dp=c.dp:=by rw[iR]
 have Av:aV.made=c.made:=by rw[iR]
 have HW:cE.C.D.cX≤900000090:=by rw[iJ];exact gC
 have Tz:2≤fM cE:=by rw[iJ];exact jI
 rw[←iJ,←iR] at abb gL
 rw[←iJ] at abc
 have bD:Ext fL fL.drew:=dT _
 have abd:=abb.ext bD
 have Uf:fU T cE c aV [] [no] w fL.drew 0:=gL.trans (fU.ext cE aV bD)
 obtain ⟨c8,an5⟩:∃c8,c8=fL.drew:=⟨_,rfl⟩
 rw[←an5] at bD abd Uf⊢
 have cA:=Uf.to
 have kh:∀q,¬T.M q→¬T.N q:=fun q U ad=>U (aZ.lJ ad)
 have Ug:=jY.an cA.an (kh _ an3)
 have Uh:=fj.an cA.an (kh _ an4)
 have abe:∀ {m:aL} {K V D:aa},cg (fun q=>¬T.M q) w m K V D→cg (fun q=>¬T.M q) c8 m K V D:=fun hm=>cg.an hm cA.an fun q J=>kh q J
 have an6:=abe aC
 have FW:=abe bE
 have an7:=hu.to cA
 obtain ⟨bP,dt,db,bm⟩:=cl Ug
 obtain ⟨AX,jE,lE,xD⟩:=cl Uh
 have sq:=Ug.lt
 have Fl:=Uh.lt
 have fin:∀ (fe:World) (oz bv:Nat),Ext c8 fe→Var fe oz (g4 o mL mM Do) ah.cO→Var fe bv (g4 n K V D) ah.cO→c8.heap.size≤oz→c8.heap.size≤bv→oz≠bv→TK bF aK oz bv (some ⟨c.dp,0,none⟩) (some A) (fr:Nat) (other:Nat) fe Q:=by
   intro fe oz bv af aU ab U ad au
   have:=anL abd af Ug Uh aU ab U ad au an6 FW an7 HW Tz (by rw[Av];exact o0) A4 F0 O8 TS az gf nW m hm j7 py (Q:=Q) fun s e w' aG=>yA s e cE aV c8 w' Uf aG
   rw[rO] at this
   exact this
 refine bN ⟨fun q=>c8.heap.size≤q,(show¬c8.heap.size≤aK by omega),_,AX,mL,jE,mM,lE,Do,xD,(show¬c8.heap.size≤bF by omega),_,bP,K,dt,V,db,D,bm,?_,?_⟩
 · refine cx (vs:=[.bool false, .slice none 0 0, .slice none 0 0, .slice none 0 0]) rfl fun gZ an8 F5 an9=>⟨ao.eT F5,cx (vs:=[.bool false, .slice none 0 0, .slice none 0 0, .slice none 0 0]) rfl fun nM Ui F6 an_=> ?_⟩
   have Le:=an8.ext F6
   refine ⟨ao.eT F6,Le.dC rfl lr,rfl,eo Le (us:=g4 o mL mM Do) rfl rfl fun xJ Uj F7 aoa=> ?_⟩
   have Lf:=Ui.an F7 (by omega)
   have Uk:Ext c8 xJ:=Ext.fb (F5.trans F6) F7 (cR _)
   refine ⟨F7.mono fun q _ e=>by omega,Lf.dC rfl lr,rfl,eo Lf (us:=g4 n K V D) rfl rfl fun lh Ul Lg aob=> ?_⟩
   exact fin lh c8.heap.size gZ.heap.size (Ext.fb Uk Lg (by omega)) (Uj.an Lg (by omega)) Ul (cR _) (by omega) (by omega)
 · refine cx (vs:=[.bool false, .slice none 0 0, .slice none 0 0, .slice none 0 0]) rfl fun gZ aoc F5 an9=>⟨ao.eT F5,cx (vs:=[.bool false, .slice none 0 0, .slice none 0 0, .slice none 0 0]) rfl fun nM Le F6 an_=> ?_⟩
   have Ui:=aoc.ext F6
   refine ⟨ao.eT F6,Le.dC rfl lr,rfl,eo Le (us:=g4 o mL mM Do) rfl rfl fun xJ Uj F7 aoa=> ?_⟩
   have Lf:=Ui.an F7 (by omega)
   have Uk:Ext c8 xJ:=Ext.fb (F5.trans F6) F7 (by omega)
   refine ⟨F7.mono fun q _ e=>by omega,Lf.dC rfl lr,rfl,eo Lf (us:=g4 n K V D) rfl rfl fun lh Ul Lg aob=> ?_⟩
   exact fin lh gZ.heap.size c8.heap.size (Ext.fb Uk Lg (cR _)) (Uj.an Lg (by omega)) Ul (by omega) (cR _) (by omega)
theorem b_.read {w w':World} {T:aZ} {E:Nat→Prop} {bx:eY} {P:Nat→Option aL} {k:Nat} (h:b_ (T.dw E fun _=>False) ((T.dw E fun _=>False).cQ bx P) w w' k) (fJ:∀q,T.E q∨T.G q→E q) (wP:∀q,E q→T.E q∨T.G q∨w.heap.size≤q):b_ T (T.cQ bx P) w w' k:=by
 refine ⟨h.bQ,h.dD,h.n,h.g,h.s1,h.s2,h.c,h.d,h.gp,h.gen,h.cX,h.calm,h.an.mono fun q _ J=> ?_,fun q J=> ?_,fun q J=> ?_⟩
 · rcases J with J|J|J|J
   · exact .inl J
   · exact .inr (.inl J)
   · exact .inr (.inr (.inl J))
   · exact J.elim
 · have U:((T.dw E fun _=>False).cQ bx P).M q:=by
     rcases J with J|J|J|J
     · exact .inl J
     · exact .inr (.inl J)
     · exact .inr (.inr (.inl J))
     · exact .inr (.inr (.inr (.inl (fJ q J))))
   rcases h.jH q U with ad|ad
   · rcases ad with J|J|J|J|J
     · exact .inl (.inl J)
     · exact .inl (.inr (.inl J))
     · exact .inl (.inr (.inr (.inl J)))
     · rcases wP q J with au|au|au
       · exact .inl (.inr (.inr (.inr (.inl au))))
       · exact .inl (.inr (.inr (.inr (.inr au))))
       · exact .inr au
     · exact J.elim
   · exact .inr ad
 · rcases J with J|J|J|J
   · rcases h.fn q (.inl J) with ad|ad
     · rcases ad with ad|ad|ad|ad
       · exact .inl (.inl ad)
       · exact .inl (.inr (.inl ad))
       · exact .inl (.inr (.inr (.inl ad)))
       · exact ad.elim
     · exact .inr ad
   · exact .inl (.inr (.inl J))
   · exact .inl (.inr (.inr (.inl J)))
   · exact .inl (.inr (.inr (.inr J)))
end
section
theorem fU.cache {T:aZ} {c:gK} {bx:eY} {w w':World} {k:Nat} (h:b_ T (T.cQ bx T.P) w w' k) (ak:∀j,bx.view j=T.C.view j):fU T (T.cQ bx T.P) c c [] [] w w' k:=
 ⟨h,rfl,fun _ h=>h,rfl,rfl,rfl,by simp,by simp,JQ,fun _ h=>(by cases h),fun no=>by simp[aZ.cQ],fun no _=>⟨rfl,ak no⟩,by simp[fM,aZ.cQ]⟩
theorem abf {w ag:World} {T:aZ} {c:gK} {Z:Nat→Prop} {no:Nat} {o:aL} (h:fT w T c) (af:Ext w ag) (u4:∀q,Z q→w.heap.size≤q∧q<ag.heap.size) (gC:T.C.D.cX≤999999999) (gz:T.P no=some o):
   aO Tryz.prog F.sw #[.pointer (some ⟨T.bQ,0,none⟩), .int .i64 (no:Nat), .bool o.leaf] ag (fun v w'=>∃bx:eY,(∀j,bx.view j=T.C.view j)∧ao (fun q=>T.N q∧¬T.G q) ag w'∧(∀q,(T.cQ bx T.P).M q→T.M q∨ag.heap.size≤q)∧
     (∀iI,ao Z w' iI→fT iI (T.cQ bx T.P) c∧fU T (T.cQ bx T.P) c c [] [] w iI 2)∧
     ((∃ (K V D:aa),v= .tuple #[fc o K V D, .int .i64 0]∧cg (fun q=>ag.heap.size≤q∧¬(T.cQ bx T.P).M q) w' o K V D)∨(v= .tuple #[fc o4 bX bX bX, .int .i64 3]∧¬T.C.D.calm 2))):=by
 obtain ⟨dc,lq⟩:=h.t.lK no o gz
 obtain ⟨c7,lp⟩:∃c7,c7=fun q=>T.E q∨T.G q∨Z q:=⟨_,rfl⟩
 have m4:∀q,T.E q∨T.G q∨Z q→c7 q:=fun q J=>by rw[lp];exact J
 have pU:∀q,c7 q→T.E q∨T.G q∨Z q:=fun q J=>by rw[lp] at J;exact J
 have aN:c1 ag (T.dw c7 fun _=>False):=h.t.grow (W:=fun _=>False) af (fun _ h=>h.elim) (fun q J=>(pU q J).imp id (Or.imp id (u4 q))) (fun _ h=>h.elim) fun _ _ h=>h
 have Pa:∀q,(T.dw c7 fun _=>False).N q→T.N q∧¬T.G q:=fun q J=>⟨by
   rcases J with J|J|J|J
   · exact .inl J
   · exact .inr (.inl J)
   · exact .inr (.inr (.inl J))
   · exact J.elim,fun bg=>aN.uc (m4 q (.inr (.inl bg))) J⟩
 refine (Tg aN gC dc o.leaf).mono ?_
 rintro v w' ⟨bx,bj,aR,ak,eZ⟩
 have abg:=af.size
 have bO:=aR.an.size
 have abh:=(b_.ext (T.dw c7 fun _=>False) af).trans aR
 rw[gy] at abh
 have Um:b_ T (T.cQ bx T.P) w w' 2:=b_.read (E:=c7) abh (fun q J=>m4 q (J.imp id .inl)) fun q J=>(pU q J).imp id (Or.imp id fun h=>(u4 q h).1)
 have iR:ao (fun q=>T.N q∧¬T.G q) ag w':=aR.an.mono fun q _ J=>Pa q J
 refine ⟨bx,ak,iR,fun q J=> ?_,fun iI al=> ?_,?_⟩
 · rcases J with J|J
   · exact (aR.fn q (.inl J)).imp (fun h=>aZ.lJ (Pa q h).1) id
   · exact .inl (.inr J)
 · have DL:c1 iI (T.cQ bx T.P):=bj.grow (E:=T.E) (G:=T.G) al (fun q J _=> .inl (m4 q (.inr (.inr J)))) (fun q J=> .inl (m4 q (.inl J))) (fun q J=> .inl (m4 q (.inr (.inl J)))) fun q J=>(h.t.gD q J).2.2
   refine ⟨(h.ext af).of (W:=fun q=>(T.N q∧¬T.G q)∨Z q) DL ((iR.mono fun q _ J=> .inl J).trans (al.mono fun q _ J=> .inr J)) (fun q bg J=> ?_) rfl fun _ h=>h,fU.cache ?_ ak⟩
   · rcases J with J|J
     · exact J.2 bg
     · have:=h.t.lt (q:=q) (.inr (.inr (.inr (.inr bg))))
       have:=(u4 q J).1
       omega
   · exact Um.step (E:=T.E) (G:=T.G) al (fun q J az=>by have:=(u4 q J).1;omega) (fun q J=> .inl J) fun q J=> .inl J
 · rcases eZ with ⟨db,K,V,D,rfl,H6,hU⟩|⟨e,rfl,KY,c5⟩
   · obtain rfl:=tb.uniq lq H6
     refine .inl ⟨K,V,D,rfl,hU.bz fun q J ab=>⟨ab.1,fun hm=>ab.2 ?_⟩⟩
     rcases hm with hm|hm|hm|hm|hm
     · exact .inl hm
     · exact .inr (.inl hm)
     · exact .inr (.inr (.inl hm))
     · exact .inr (.inr (.inr (.inl (m4 q (.inl hm)))))
     · exact .inr (.inr (.inr (.inl (m4 q (.inr (.inl hm))))))
   · refine .inr ?_
     rcases KY with ⟨rfl,U⟩|U|⟨_,_,U⟩
     · exact ⟨rfl,U⟩
     · obtain ⟨p,aB,_⟩:=lq
       have U:mn (no:Int) (T.C.view no)= .error e:=U
       rw[aB] at U;cases U
     · exact absurd lq (U o)
def tl (u:gE):Nat:=if u.e3=0 then 1 else u.e3-1
def zk (u:gE) (n o:aL):aL:=if u.e3<tl u then hA n (u.n.keys.getD (u.e3-1) []) o else hA o (u.n.keys.getD (u.e3-1) []) n
def Un (T:aZ) (c:gK) (n:aL) (u:gE) (w:World) (v:Value) (w':World):Prop:=
 (80≤cq n∧∃ (s:aa) (e:Int),v= .tuple #[.slice s.a s.len s.cap, .int .i64 (u.e3:Nat), .int .i64 ((u.e3+1:Nat):Int), .int .i64 e]∧pQ T c n w (.tuple #[.slice s.a s.len s.cap, .int .i64 e]) w')∨
 (cq n<80∧∃ (cE:aZ) (aV:gK),v= .tuple #[.slice none 0 0, .int .i64 0, .int .i64 0, .int .i64 3]∧fT w' cE aV∧fU T cE c aV [] [] w w' 2∧¬T.C.D.calm 2)∨
 (cq n<80∧∃ (o:aL) (no:Nat) (cE:aZ) (aV:gK) (ag:World) (s:aa) (e:Int),u.n.kids[tl u]? =some no∧T.P no=some o∧fU T cE c aV [] [no] w ag 2∧
   v= .tuple #[.slice s.a s.len s.cap, .int .i64 ((u.e3-1:Nat):Int), .int .i64 ((u.e3-1+2:Nat):Int), .int .i64 e]∧pQ cE aV (zk u n o) ag (.tuple #[.slice s.a s.len s.cap, .int .i64 e]) w')
end
section
theorem aod {B:Nat→Prop} {w:World} {T:aZ} {c:gK} {n:aL} {K V D:aa} (h:fT w T c) (aC:cg B w n K V D) (j7:zf n) (gC:T.C.D.cX≤900000080) (jI:2≤fM T) (o0:c.made.length≤900):
   aO Tryz.prog F.zl #[.pointer (some ⟨c.dp,0,none⟩),fc n K V D, .pointer none] w (fun v w'=>∃ (s:aa) (e:Int),v= .tuple #[.slice s.a s.len s.cap, .int .i64 0, .int .i64 0, .int .i64 e]∧pQ T c n w (.tuple #[.slice s.a s.len s.cap, .int .i64 e]) w'):=by
 refine W.abi (some ⟨c.dp,0,none⟩) n.leaf K V D none w _ ?_
 (delta W.zl aA bV ai aq aV bK aD gk a6 uk dx Pb st dz Lh fD Pc;dsimp only)
 refine cx (vs:=g4 n K V D) rfl fun ag gg bG kO=> ?_
 refine eN (fun b w'=>b=true∧ag=w') (fun q J=>⟨fun _=>J _ _ ⟨rfl,rfl⟩,fun h=>(by cases h)⟩) ?_
 rintro _ _ ⟨rfl,rfl⟩
 refine ⟨fun _=>Uo (fun a b w'=>a=0∧b=0∧ag=w') (fun q J=>⟨fun h=>(by cases h),fun _=>J _ _ _ ⟨rfl,rfl,rfl⟩⟩) ?_,fun h=>(by cases h)⟩
 rintro _ _ _ ⟨rfl,rfl,rfl⟩
 obtain ⟨cJ,aV,bA,bd⟩:=cl gg
 refine ⟨_,cJ,K,aV,V,bA,D,bd,(O1 (h.ext bG) (by omega) jI o0 (aC.ext bG) j7.1 j7.2.1 j7.2.2).use ?_⟩
 intro v w' ak
 obtain ⟨s,e,rfl⟩:=ak.out
 exact ⟨s,e,rfl,s,e,rfl,ak.base bG⟩
theorem aoe {w:World} {T:aZ} {c:gK} {n:aL} {K V D:aa} {A:Addr} {u:gE} (h:fT w T c) (aC:cg (fun q=>¬T.M q) w n K V D) (hu:zg (fun q=>¬T.M q) w A u) (A4:d_ n) (O8:cq n≤400) (ax:80≤cq n→zf n)
   (fu:cq n<80→∃ (o:aL) (no:Nat),u.n.kids[tl u]? =some no∧T.P no=some o∧o.leaf=n.leaf∧u.e3-1<u.n.keys.length∧eJ (u.n.keys.getD (u.e3-1) [])∧zf (zk u n o)) (lj:u.e3≤900)
   (gC:T.C.D.cX≤900000080) (jI:2≤fM T) (o0:c.made.length≤900) (wB:c.left.length≤900):
   aO Tryz.prog F.zl #[.pointer (some ⟨c.dp,0,none⟩),fc n K V D, .pointer (some A)] w (Un T c n u w):=by
 have pd:=A4.iS (by omega)
 refine W.abi (some ⟨c.dp,0,none⟩) n.leaf K V D (some A) w _ ?_
 (delta W.zl aA bV ai aq aV bK aD gk a6 uk dx Pb st dz Lh fD Pc;dsimp only)
 refine cx (vs:=g4 n K V D) rfl fun ag gg bG kO=> ?_
 obtain ⟨bF,jY⟩:∃bF,bF=w.heap.size:=⟨_,rfl⟩
 rw[←jY] at gg⊢
 refine eN (fun b w'=>b=decide (80≤cq n)∧Ext ag w') (fun q J=>⟨fun h=>(by cases h),fun _=> ?_⟩) ?_
 · obtain ⟨cJ,aV,bA,bd⟩:=cl gg
   refine ⟨_,cJ,K,aV,V,bA,D,bd,(vf (aC.ext bG) A4 (by omega)).use ?_⟩
   rintro _ a7 ⟨rfl,eR⟩
   refine ⟨_,rfl,J _ _ ⟨?_,eR⟩⟩
   rw[oX,fx,fx]
   omega
 rintro _ cf ⟨rfl,nj⟩
 have vr:=bG.trans nj
 refine ⟨fun ab=> ?_,fun ab=> ?_⟩
 · have ab:=dG ab
   have j7:=ax ab
   refine Uo (fun a b w'=>a=(u.e3:Nat)∧b=((u.e3+1:Nat):Int)∧Ext cf w') (fun q J=>⟨fun _=> ?_,fun h=>(by cases h)⟩) ?_
   · have bD:Ext cf cf.drew:=dT _
     have Lb:=hu.ext (vr.trans bD)
     refine bN ⟨A,rfl,id,_,Lb.dL,A,rfl,id,_,Lb.dL,J _ _ _ ⟨rfl,?_,bD⟩⟩
     rw[cz (by omega) (by omega)];rfl
   rintro _ _ cw ⟨rfl,rfl,oQ⟩
   have ee:=vr.trans oQ
   obtain ⟨cJ,aV,bA,bd⟩:=cl (gg.ext (nj.trans oQ))
   refine ⟨_,cJ,K,aV,V,bA,D,bd,(O1 (h.ext ee) (by omega) jI o0 (aC.ext ee) j7.1 j7.2.1 j7.2.2).use ?_⟩
   intro v w' ak
   obtain ⟨s,e,rfl⟩:=ak.out
   exact ⟨s,e,rfl, .inl ⟨ab,s,e,rfl,ak.base ee⟩⟩
 · have ab:¬80≤cq n:=eW ab
   obtain ⟨o,no,k_,gz,Fl,jX,dW,j7⟩:=fu (by omega)
   obtain ⟨dc,lq⟩:=h.t.lK no o gz
   obtain ⟨_,F0,TS⟩:=lq.is
   have Pd:=hu.ext vr
   refine ⟨A,rfl,_,Pd.dL,((u.e3-1:Nat):Int),cf,?_,?_⟩
   · rw[run_max_int2]
     congr 2
     by_cases b7:u.e3=0
     · rw[b7];rfl
     · rw[cz (by omega) (by omega),if_neg (by omega)];omega
   refine eN (fun a w'=>a=(tl u:Nat)∧cf=w') (fun q J=>⟨A,rfl,_,Pd.dL,fun b7=>J _ _ ⟨?_,rfl⟩,fun b7=>J _ _ ⟨?_,rfl⟩⟩) ?_
   · have:u.e3=0:=by simpa using b7
     unfold tl;rw[if_pos this];rfl
   · have:u.e3≠0:=by simpa using b7
     unfold tl;rw[if_neg this]
   rintro _ _ ⟨rfl,rfl⟩
   have aof:tl u<u.n.kids.length:=(qy.1 k_).1
   obtain ⟨XP,aog,mE,rM⟩:=en.at Pd.dE.kids aof
   have aoh:u.n.kids[tl u]=no:=(qy.1 k_).2
   rw[aoh] at rM
   refine ⟨A,rfl,u.D,Pd.gk,XP,aog,mE,_,rM,bN ?_⟩
   have bD:Ext cf cf.drew:=dT _
   obtain ⟨gN,aoi⟩:∃gN,gN=cf.drew:=⟨_,rfl⟩
   rw[←aoi] at bD⊢
   have ee:=vr.trans bD
   have Up:=h.ext ee
   have avG:=ee.size
   have nH:=(nj.trans bD).size
   have Li:=gg.ext (nj.trans bD)
   have Uq:∀q,T.M q→q<w.heap.size:=fun q J=>h.t.lt J
   have nW:u.n.keys.getD (u.e3-1) []=u.n.keys[u.e3-1]:=by rw[p6,gH jX];rfl
   have fin:∀ (bx:eY) (aK:Nat) (mL mM Do:aa) (fl:World),fT fl (T.cQ bx T.P) c→fU T (T.cQ bx T.P) c c [] [] gN fl 2→Var fl bF (g4 n K V D) ah.cO→Var fl aK (g4 o mL mM Do) ah.cO→gN.heap.size≤aK→¬(T.cQ bx T.P).M aK→cg (fun q=>¬(T.cQ bx T.P).M q) fl o mL mM Do→
       TX bF aK (some ⟨c.dp,0,none⟩) (some A) ((u.e3-1:Nat):Int) (tl u:Nat) (no:Nat) 0 fl (fun v w'=>Un T c n u w v w'):=by
     intro bx aK mL mM Do fl F8 Pe It Ap fj aoj aok
     have gL:=((fU.ext T c ee).trans Pe).mono (j:=2) (by omega)
     have cA:=gL.to
     have DM:¬(T.cQ bx T.P).M bF:=fun hm=>by
       rcases Pe.to.jH bF hm with U|U
       · have:=Uq _ U;omega
       · omega
     have aol:cg (fun q=>¬(T.cQ bx T.P).M q) fl n K V D:=(cA.dE (lo:=0) (aC.bz fun q _ ab=>⟨fm _,ab⟩)).bz fun q _ ab=>ab.2
     have F9:(T.cQ bx T.P).C.D.cX≤900000090:=ju cA.cX (by omega)
     refine an2 F8 It Ap DM aoj aol aok (hu.to cA) F9 jI o0 wB A4 F0 O8 (by omega) Fl jX (by rw[←nW];exact dW) (zk u n o) (by unfold zk;rw[nW]) j7 (by omega) ?_
     intro s e cE aV aom w' aon aG
     exact .inr (.inr ⟨by omega,o,no,cE,aV,aom,s,e,k_,gz,(gL.trans aon).mono (by omega),rfl,aG⟩)
   have Pf:∀q,T.N q→q<w.heap.size:=fun q J=>Uq q (aZ.lJ J)
   have err:∀ (bx:eY) (fl:World),fT fl (T.cQ bx T.P) c→fU T (T.cQ bx T.P) c c [] [] gN fl 2→¬T.C.D.calm 2→Un T c n u w (.tuple #[.slice none 0 0, .int .i64 0, .int .i64 0, .int .i64 3]) fl:=by
     intro bx fl F8 Pe fk
     exact .inr (.inl ⟨by omega,_,c,rfl,F8,((fU.ext T c ee).trans Pe).mono (by omega),fk⟩)
   obtain ⟨cJ,aV,bA,bd⟩:=cl Li
   refine ⟨fun q=>T.N q∧¬T.G q,_,rfl,fun J=>J.2 h.gc,_,Up.cells.1,(fun J=>by have:=Pf _ J.1;show False;exact absurd this (by show¬bF<w.heap.size;omega)),_,cJ,?_,?_⟩
   · rw[←Fl]
     refine (abf (Z:=fun _=>False) Up (ao.refl _ _) (fun _ h=>h.elim) (by omega) gz).use ?_
     rintro _ dq ⟨bx,ak,DN,abj,Lj,eZ⟩
     have aoo:=DN.size
     rcases eZ with ⟨mL,mM,Do,rfl,Ur⟩|⟨rfl,fk⟩
     · refine ⟨_,mL,mM,Do,0,rfl,DN,cx (vs:=[.bool false, .slice none 0 0, .slice none 0 0, .slice none 0 0]) rfl fun hX Bl Lk aop=>⟨ao.eT Lk,Bl.dC rfl lr,rfl,eo Bl (us:=g4 o mL mM Do) rfl rfl fun fl Ll Bm Us=> ?_⟩⟩
       have F_:Ext dq fl:=Ext.fb Lk Bm (cR _)
       obtain ⟨Pg,Ut⟩:=Lj dq (ao.refl _ _)
       have Iu:=Li.an DN fun J=>by have:=Pf _ J.1;omega
       refine fin bx dq.heap.size mL mM Do fl (Pg.ext F_) ((Ut.trans (fU.ext _ _ F_)).mono (by omega)) (Iu.ext F_) Ll (by omega) (fun hm=>by have:=Pg.t.lt hm;omega) ?_
       exact (Ur.ext F_).bz fun q _ ab=>ab.2
     · refine ⟨_,bX,bX,bX,3,rfl,DN,cx (vs:=[.bool false, .slice none 0 0, .slice none 0 0, .slice none 0 0]) rfl fun hX Bl Lk aop=>⟨ao.eT Lk,Bl.dC rfl lr,rfl,eo Bl (us:=g4 o4 bX bX bX) rfl rfl fun fl Ll Bm Us=>⟨fun _=> ?_,fun ab=>(by cases ab)⟩⟩⟩
       have F_:Ext dq fl:=Ext.fb Lk Bm (cR _)
       obtain ⟨Pg,Ut⟩:=Lj dq (ao.refl _ _)
       exact err bx fl (Pg.ext F_) ((Ut.trans (fU.ext _ _ F_)).mono (by omega)) fk
   · refine cx (vs:=[.bool false, .slice none 0 0, .slice none 0 0, .slice none 0 0]) rfl fun bY Ga m5 Uu=>⟨ao.eT m5,?_⟩
     rw[←Fl]
     refine (abf (Z:=fun q=>q=gN.heap.size) Up m5 (fun q e=>⟨by omega,by omega⟩) (by omega) gz).use ?_
     rintro _ dq ⟨bx,ak,DN,abj,Lj,eZ⟩
     have aoo:=DN.size
     have Iu:=Ga.an DN fun J=>by have:=Pf _ J.1;omega
     have aoq:=(Li.ext m5).an DN fun J=>by have:=Pf _ J.1;omega
     rcases eZ with ⟨mL,mM,Do,rfl,Ur⟩|⟨rfl,fk⟩
     · refine ⟨_,mL,mM,Do,0,rfl,Iu.dC rfl lr,rfl,eo Iu (us:=g4 o mL mM Do) rfl rfl fun fl Ll Bm Us=> ?_⟩
       obtain ⟨F8,Uv⟩:=Lj fl Bm
       refine fin bx gN.heap.size mL mM Do fl F8 Uv (aoq.an Bm (by omega)) Ll (cR _) (fun hm=> ?_) ?_
       · rcases abj _ hm with U|U
         · have:=Uq _ U;omega
         · omega
       · refine (cg.an Ur Bm fun q J e=>by have:=J.1;omega).bz fun q _ ab=>ab.2
     · refine ⟨_,bX,bX,bX,3,rfl,Iu.dC rfl lr,rfl,eo Iu (us:=g4 o4 bX bX bX) rfl rfl fun fl Ll Bm Us=>⟨fun _=> ?_,fun ab=>(by cases ab)⟩⟩
       obtain ⟨F8,Uv⟩:=Lj fl Bm
       exact err bx fl F8 Uv fk
end
section
structure Uw (T av:aZ) (l:List Nat) (w w':World):Prop where
 to:b_ T av w w' 0
 E:av.E=T.E
 G:av.G=T.G
 root:av.root=T.root
 bn:av.bn=T.bn
 f:∀no,av.f no=(T.f no&& !decide (no∈l))
 hL:∀no,(no∉l∨T.g no=true)→av.P no=T.P no∧av.C.view no=T.C.view no
theorem abk {w:World} {T:aZ} {c:gK} {s:aa} {l:List Nat} (h:fT w T c) (aj:Src 1 w s (gX l)) (wQ:∀q,aQ s q→T.G q) (az:∀x∈l,T.f x=true) (hU:l.Nodup) (wB:l.length≤10000):
   aO Tryz.prog F.Bn #[.pointer (some ⟨c.dp,0,none⟩), .slice s.a s.len s.cap] w (fun v w'=>v= .tuple #[]∧∃av:aZ,fT w' av c∧Uw T av l w w'):=by
 have gv:s.len=l.length:=by have:=aj.len;rw[yx] at this;omega
 refine W.aor (some ⟨c.dp,0,none⟩) s w _ ?_
 (delta W.Bn aA a6 bK bd aV aD;dsimp only)
 refine ⟨fun i w'=>∃ (j:Nat) (av:aZ),i=j∧j≤l.length∧fT w' av c∧Uw T av (l.take j) w w'∧Src 1 w' s (gX l),fun i _=>((l.length:Int)-i).toNat,⟨0,T,rfl,fm _,h,⟨.refl _ _,rfl,rfl,rfl,rfl,fun no=>by simp,fun _ _=>⟨rfl,rfl⟩⟩,aj⟩,?_⟩
 rintro _ bp ⟨j,cE,rfl,a8,U,bg,Fh⟩
 refine ⟨fun ba=> ?_,fun ck=> ?_⟩
 · have ba:j<l.length:=by
     have:((j:Nat):Int)<((s.len:Nat):Int):=dG ba
     omega
   have qG:cE.f l[j]=true:=by
     rw[bg.f,az _ (fh ba)]
     have:l[j]∉l.take j:=fun hm=>by
       obtain ⟨i,hi,he⟩:=mS hm
       rw[ej] at hi
       rw[G1] at he
       have:=(List.getElem_inj hU).1 he
       omega
     simp[this]
   have avH:l[j]<cE.n:=by
     rcases g8 l[j] cE.n with ad|ad
     · exact ad
     · have:=U.t.s.Dg _ ad
       rw[qG] at this;cases this
   obtain ⟨A,ax,ab,al⟩:=Fh.at (i:=j) (v:= .int .i64 ((l[j]:Nat):Int)) (by simp[gX,ba])
   refine vh (fun w'=>∃dz:aZ,fT w' dz c∧Uw T dz (l.take (j+1)) w w'∧Src 1 w' s (gX l)) (fun q J=>⟨A,ax,ab,_,al,_,rfl,_,U.cells.1,_,rfl,_,U.t.cells.2.1,(al5 U.t.s _).use ?_⟩) ?_
   · rintro _ _ ⟨rfl,rfl⟩
     refine ⟨_,rfl,_,rfl,_,U.cells.1,_,rfl,_,U.t.cells.2.1,(al1 U.t.s _).use ?_⟩
     rintro _ dj ⟨rfl,oY,xA⟩
     have yN:HY cE.f cE.n ((l[j]:Nat):Int)=km cE.f l[j] false:=by
       unfold HY
       rw[if_pos ⟨by omega,by omega⟩,g9]
     rw[yN] at oY
     obtain ⟨aos,abl⟩:=U.t.aao oY xA
     have DO:fT dj (cE.H7 (km cE.f l[j] false)) c:=U.of aos xA (fun q J aG=>(U.t.rL q J).2 aG) rfl fun _ h=>h
     have Du:Src 1 dj s (gX l):=Fh.an xA fun q J aG=>(U.t.rL q (by rw[bg.G];exact wQ q J)).2 aG
     have FJ:(decide ((0:Int)≤((l[j]:Nat):Int))&&decide (((l[j]:Nat):Int)<(cE.n:Nat))&&cE.f (Int.toNat ((l[j]:Nat):Int))&& !(cE.g (Int.toNat ((l[j]:Nat):Int))))= !(cE.g l[j]):=by
       rw[g9,qG,iB (by omega),iB (by omega)];simp
     have Iv:∀no,km cE.f l[j] false no=(T.f no&& !decide (no∈l.take (j+1))):=fun no=>by
       rw[qx ba]
       unfold km
       by_cases e:no=l[j]
       · rw[if_pos e,e,iB (fa.2 (.inr (lR.2 rfl)))]
         exact (Bool.and_false _).symm
       · rw[if_neg e,bg.f]
         have bw:decide (no∈l.take j++ [l[j]])=decide (no∈l.take j):=by
           rw[oX,fx,fx,fa,lR]
           exact ⟨fun h=>h.resolve_right e, .inl⟩
         rw[bw]
     rw[FJ]
     refine ⟨_,rfl,fun gf=>⟨_,rfl,_,DO.cells.1,_,rfl,_,DO.t.cells.1,(alv DO.t.pP _).use ?_⟩,fun gf=>J _ ⟨_,DO,⟨?_,bg.E,bg.G,bg.root,bg.bn,Iv,fun no dc=> ?_⟩,Du⟩⟩
     · rintro _ cu ⟨⟨b,rfl⟩,bx,nU,cA,ak⟩
       have OE:T.g l[j]=false:=by
         have ad:cE.g=T.g:=bg.to.g
         rw[ad] at gf
         simpa using gf
       obtain ⟨aot,aou⟩:=DO.t.Tf (P:=fun no=>if no=l[j] then none else cE.P no) nU cA (fun no dE aW=>by
         by_cases e:no=l[j]
         · rw[if_pos e] at aW;cases aW
         · rw[if_neg e] at aW
           rw[ak no e]
           exact U.t.lK no dE aW)
       have Ux:=DO.of (av:=(cE.H7 (km cE.f l[j] false)).cQ bx fun no=>if no=l[j] then none else cE.P no) aot cA.an (fun q J=>DO.t.K1 J) rfl fun _ h=>h
       refine ⟨b,rfl,J _ ⟨_,Ux,⟨?_,bg.E,bg.G,bg.root,bg.bn,Iv,fun no dc=> ?_⟩,?_⟩⟩
       · exact ((bg.to.trans abl).trans aou).mono (by omega)
       · have c5:no≠l[j]:=fun e=>by
           rcases dc with ad|ad
           · exact ad (by rw[qx ba,e];exact fa.2 (.inr (lR.2 rfl)))
           · rw[e,OE] at ad;cases ad
         have au:=bg.hL no (dc.imp (fun ad aH=>ad (by rw[qx ba];exact fa.2 (.inl aH))) id)
         exact ⟨(if_neg c5).trans au.1,(ak no c5).trans au.2⟩
       · exact Du.an cA.an fun q J=>DO.t.K1 (by show cE.G q;rw[bg.G];exact wQ q J)
     · exact (bg.to.trans abl).mono (by omega)
     · exact bg.hL no (dc.imp (fun ad aH=>ad (by rw[qx ba];exact fa.2 (.inl aH))) id)
   · rintro fG ⟨dz,ad,Uy,mB⟩
     rw[cz (n:=(j:Int)+1) (by omega) (by omega)]
     refine ⟨⟨j+1,dz,by omega,by omega,ad,Uy,mB⟩,?_⟩
     show ((l.length:Int)-((j:Int)+1)).toNat<((l.length:Int)-(j:Int)).toNat
     omega
 · have ck:j=l.length:=by
     have:¬((j:Nat):Int)<((s.len:Nat):Int):=eW ck
     omega
   subst ck
   rw[qz] at bg
   exact ⟨rfl,cE,U,bg⟩
theorem zm {B:Nat→Prop} {w:World} {n:aL} {K V D:aa} (aC:cg B w n K V D) (bn:Nat) (cS:bn≤100) (ae:n.leaf=false→∃x,n.kids=[x]∧1≤bn):
   aO Tryz.prog F.zm #[fc n K V D, .int .i64 (bn:Nat)] w (fun v w'=>v=(if n.leaf then .tuple #[.int .i64 0, .int .i64 0, .int .i64 0] else .tuple #[.int .i64 ((n.kids.getD 0 0:Nat):Int), .int .i64 ((bn-1:Nat):Int), .int .i64 0])∧Ext w w'):=by
 refine W.aov n.leaf K V D (bn:Nat) w _ ?_
 (delta W.zm bV ai aA aq a6 bK aD;dsimp only)
 refine cx (vs:=g4 n K V D) rfl fun ag gg bG kO=> ?_
 obtain ⟨cJ,aV,bA,bd⟩:=cl gg
 refine ⟨_,cJ,fun ab=>⟨by rw[if_pos ab],bG⟩,fun ab=> ?_⟩
 obtain ⟨x,af,U⟩:=ae ab
 obtain ⟨A,ax,gu,al⟩:=en.at (aC.ext bG).kids (i:=0) (by rw[af];simp)
 refine ⟨D,bd,A,ax,gu,_,al,?_,bG⟩
 have a_:((bn:Nat):Int)-1=((bn-1:Nat):Int):=by omega
 rw[if_neg (by rw[ab];simp),cz (by omega) (by omega),a_]
 simp only[af]
 rfl
end
section
def Uz (T:aZ) (c:gK) (ks:List Key) (kids:List Nat) (w:World) (v:Value) (w':World):Prop:=
 (∃x,ks=[]∧kids=[x]∧v= .tuple #[.int .i64 (x:Nat), .int .i64 (T.bn:Nat), .int .i64 0]∧fT w' T c∧Ext w w')∨
 (∃ (k:Key) (x y no:Nat) (av:aZ) (c':gK),ks=[k]∧kids=[x,y]∧fT w' av c'∧fU T av c c' [no] [] w w' 1∧
   ((v= .tuple #[.int .i64 (no:Nat), .int .i64 ((T.bn+1:Nat):Int), .int .i64 0]∧av.P no=some ⟨false,[k],[],[x,y]⟩)∨(v= .tuple #[.int .i64 (no:Nat), .int .i64 ((T.bn+1:Nat):Int), .int .i64 3]∧¬T.C.D.calm 1)))
theorem abm (K D:Nat) (w:World):Sem.run Tryz.prog (Instr.build ah.cO #[(1, .slice (some ⟨K,0,none⟩) 1 1),(3, .slice (some ⟨D,0,none⟩) 2 2)]) w= .ok (.agg #[.bool false, .slice (some ⟨K,0,none⟩) 1 1, .slice none 0 0, .slice (some ⟨D,0,none⟩) 2 2]) w:=by kernel_rfl
theorem Var.abn {w:World} {b:Nat} {vs:List Value} {T:TypeId} (h:Var w b vs T):Src 1 w ⟨some ⟨b,0,none⟩,vs.length,vs.length⟩ vs:=by
 refine ⟨by show _=vs.length*1;omega,(fun h=>by cases h),fun a aU=> ?_⟩
 cases aU
 show eK w ⟨b,0,none⟩ 0 (vs.length*1)=_
 rw[mi,h.rd rfl]
theorem aow {w:World} {t:aa} {k:Key} (b:Nat) (ak:Var w b [.slice t.a t.len t.cap] ah.cn) (aR:bL (fun _=>True) w t k):b2 (fun _=>True) w ⟨some ⟨b,0,none⟩,1,1⟩ [k]:=by
 refine ⟨[t],rfl,ak.abn,cR _,fun q J=>⟨trivial,?_⟩,fun i U ad=> ?_⟩
 · obtain ⟨A,ax,rfl⟩:=J
   cases ax
   exact ak.lt
 · have:i=0:=by simp at U;omega
   subst this
   exact aR
theorem aox {w:World} {x y:Nat} (b:Nat) (ak:Var w b [.int .i64 (x:Nat), .int .i64 (y:Nat)] ah.int):en (fun _=>True) w ⟨some ⟨b,0,none⟩,2,2⟩ [x,y]:=by
 refine ⟨ak.abn,cR _,fun q J=>⟨trivial,?_⟩⟩
 obtain ⟨A,ax,rfl⟩:=J
 cases ax
 exact ak.lt
theorem aoy {w:World} {T:aZ} {c:gK} {s:aa} {ks:List Key} {kids:List Nat} (h:fT w T c) (aW:xC (fun q=>¬T.M q) w s ks kids) (cS:kids.length=2→T.bn<12) (aj:∀k x y,ks=[k]→kids=[x,y]→eJ k∧x<1600∧y<1600)
   (gC:T.C.D.cX≤900000080) (jI:1≤fM T) (o0:c.made.length≤900):
   aO Tryz.prog F.DP #[.pointer (some ⟨c.dp,0,none⟩), .slice s.a s.len s.cap] w (Uz T c ks kids w):=by
 have avI:=h.t.num.2.1
 refine W.aoz (some ⟨c.dp,0,none⟩) s w _ ?_
 (delta W.DP aA a6 bK aq DQ ai tf aD;dsimp only)
 have bD:Ext w w.drew:=dT w
 have hd:=h.ext bD
 rcases aW with ⟨b,x,rfl,rfl,rfl,ak,ab⟩|⟨b,x,y,k,t,rfl,rfl,rfl,ak,ab,aR,ae⟩
 · refine ⟨fun _=>bN ⟨_,rfl,⟨by decide,by show (0:Int)<((1:Nat):Int);decide⟩,id,_,by rw[aX,aX];exact ak.drew.cell,_,rfl,id,_,hd.cells.1,_,rfl,id,_,hd.t.cells.2.2.2.2,?_⟩,fun h=>(by cases h)⟩
   exact .inl ⟨x,rfl,rfl,rfl,hd,bD⟩
 · have cS:=cS rfl
   obtain ⟨s1,s2,b1⟩:=aj k x y rfl rfl
   refine ⟨fun h=>(by cases h),fun _=>⟨_,rfl,_,h.cells.1,_,rfl,_,h.t.cells.2.2.2.2,fun m6=> ?_,fun _=> ?_⟩⟩
   · have:((T.bn:Nat):Int)=12:=by simpa using m6
     omega
   have rI:d_ ⟨false,[k],[],[x,y]⟩:= .inr ⟨⟨fun lL jW=>by rw[lR.1 jW];exact s1,List.pairwise_singleton _ _⟩,rfl,by simp,rfl,rfl,fun z bO=>by
     simp only[fZ,mT,mU] at bO
     rcases bO with rfl|rfl<;>assumption⟩
   have dH:cq ⟨false,[k],[],[x,y]⟩≤232:=by
     have:=s1.2
     simp[cq,cellsOf]
     omega
   have UA:¬T.N b:=fun aC=>ab (aZ.lJ aC)
   have fin:∀ (dJ:World) (bW a6:Nat),Ext w dJ→Var dJ bW [.slice t.a t.len t.cap] ah.cn→Var dJ a6 [.int .i64 (x:Nat), .int .i64 (y:Nat)] ah.int→
       aO Tryz.prog F.ur #[.pointer (some ⟨c.dp,0,none⟩), .agg #[.bool false, .slice (some ⟨bW,0,none⟩) 1 1, .slice none 0 0, .slice (some ⟨a6,0,none⟩) 2 2]] dJ (fun v w'=>∃n27:Int,∃n28:Int,v= .tuple #[.int .i64 n27, .int .i64 n28]∧ao T.N dJ w'∧
         ∀iI,Ext w' iI→Uz T c [k] [x,y] w (.tuple #[.int .i64 n27, .int .i64 ((T.bn+1:Nat):Int), .int .i64 n28]) iI∧∃av c',fT iI av c'∧c'.dp=c.dp∧av.bQ=T.bQ∧av.bn=T.bn):=by
     intro dJ bW a6 af TV mE
     have hU:cg (fun _=>True) dJ ⟨false,[k],[],[x,y]⟩ ⟨some ⟨bW,0,none⟩,1,1⟩ ⟨none,0,0⟩ ⟨some ⟨a6,0,none⟩,2,2⟩:=by
       exact ⟨aow bW TV (bL.bz (bL.ext aR af) fun _ _ _=>trivial),b2.none _ _,aox a6 mE⟩
     refine (OW (h.ext af) (by omega) jI (by omega) hU rI dH).mono ?_
     rintro v w' ⟨no,av,c',pc,cA,eZ⟩
     have gL:=((fU.ext T c af).trans cA).mono (j:=1) (by omega)
     rcases eZ with ⟨rfl,gz⟩|⟨rfl,fk⟩
     · refine ⟨_,_,rfl,cA.to.an,fun iI cB=>⟨.inr ⟨k,x,y,no,av,c',rfl,rfl,pc.ext cB,(gL.trans (fU.ext av c' cB)).mono (by omega), .inl ⟨rfl,gz⟩⟩,av,c',pc.ext cB,cA.dp,cA.to.bQ,cA.bn⟩⟩
     · refine ⟨_,_,rfl,cA.to.an,fun iI cB=>⟨.inr ⟨k,x,y,no,av,c',rfl,rfl,pc.ext cB,(gL.trans (fU.ext av c' cB)).mono (by omega), .inr ⟨rfl,fk⟩⟩,av,c',pc.ext cB,cA.dp,cA.to.bQ,cA.bn⟩⟩
   have kE:IntKind.wrap .i64 (((T.bn:Nat):Int)+1)=((T.bn+1:Nat):Int):=by rw[cz (by omega) (by omega)];rfl
   refine Uo (fun a b w'=>∀iI,Ext w' iI→Uz T c [k] [x,y] w (.tuple #[.int .i64 a, .int .i64 ((T.bn+1:Nat):Int), .int .i64 b]) iI∧∃av c',fT iI av c'∧c'.dp=c.dp∧av.bQ=T.bQ∧av.bn=T.bn) (fun q J=>bN ⟨T.N,_,rfl,⟨by decide,by show (1:Int)<((2:Nat):Int);decide⟩,UA,t,by rw[aX];exact ak.drew.cell,_,rfl,⟨by decide,by show (0:Int)<((2:Nat):Int);decide⟩,UA,_,by rw[aX,aX];exact ak.drew.cell,_,rfl,⟨by decide,by show (1:Int)<((2:Nat):Int);decide⟩,UA,_,by rw[aX,aX];exact ak.drew.cell,?_,?_⟩) ?_
   · refine cx (vs:=[.slice t.a t.len t.cap]) rfl fun ep aoA Bo Tx=>⟨ao.eT Bo,cx (vs:=[.int .i64 (x:Nat), .int .i64 (y:Nat)]) rfl fun dJ aoB xM aoC=>⟨ao.eT xM,_,fun _=>abm _ _ _,?_⟩⟩
     refine (fin dJ w.drew.heap.size ep.heap.size (bD.trans (Bo.trans xM)) (aoA.ext xM) aoB).use ?_
     rintro _ w' ⟨n27,n28,rfl,al,bj⟩
     exact ⟨n27,n28,rfl,al,J _ _ _ bj⟩
   · refine cx (vs:=[.int .i64 (x:Nat), .int .i64 (y:Nat)]) rfl fun ep aoD Bo Tx=>⟨ao.eT Bo,cx (vs:=[.slice t.a t.len t.cap]) rfl fun dJ aoE xM aoC=>⟨ao.eT xM,_,fun _=>abm _ _ _,?_⟩⟩
     refine (fin dJ ep.heap.size w.drew.heap.size (bD.trans (Bo.trans xM)) aoE (aoD.ext xM)).use ?_
     rintro _ w' ⟨n27,n28,rfl,al,bj⟩
     exact ⟨n27,n28,rfl,al,J _ _ _ bj⟩
   · intro a b lM bj
     obtain ⟨U,av,c',ad,au,aH,aY⟩:=bj _ (dT lM)
     have al:=ad.cells.1
     rw[au] at al
     have aR:=ad.t.cells.2.2.2.2
     refine bN ⟨_,rfl,id,_,al,_,rfl,id,_,aR,?_⟩
     rw[aY,kE]
     exact U
end
section
theorem fH.UB {P:Nat→Option aL} {lo hi:Option Key} {h:Nat} {n:aL} {p:List Nat} {L:List bl} (ak:fH P h n lo hi p L) (ad:n.leaf=true→cq n≤310) (au:n.leaf=false→cq n≤335) (ae:n.leaf=false→n.keys≠ []):zf n:=by
 refine ⟨?_,by cases az:n.leaf;exact ju (au az) (by decide);exact ju (ad az) (by decide),fun aj=> ?_⟩
 · cases h with
   |zero=>exact ak.elim
   |succ h=>
     cases h with
     |zero=>exact .inl ak.1
     |succ h=>
       obtain ⟨aB,aF,aJ,aM,cU⟩:=ak
       have aj:=cU.sorted fun _ _ _ _ _ hw=>hw.in
       exact .inr ⟨⟨aJ,aj.2.2.1⟩,aB,ae aB,cU.len,aF,aM⟩
 · obtain ⟨aB,aF,aJ,aM,_⟩:=ak.two (Q:=P) (x:=0) (y:=0) aj ad au
   exact ⟨aB,aF,aJ,aM⟩
section
variable {P:Nat→Option aL} {lo hi:Option Key}
theorem aoF {h:Nat} {bP ff:aL} {g_ fo:Option Key} {i:Nat} {cp oE:List Nat} {bU pv:List bl} {k:Key} (k9:∀k∈bP.keys,eJ k) (hlen:bP.kids.length=bP.keys.length+1) (gz:∀x n,P x=some n→cq n≤232)
   (h4:1≤i) (og:i<bP.kids.length) (fp:kM g_ fo k)
   (aW:k0 (kN P (h+1)) lo g_ (bP.keys.take i) (bP.kids.take i) cp bU) (ak:fH P (h+1) ff g_ fo oE pv) (U:cq ff<80):
   ∃ (o:aL) (ab:i-1<bP.kids.length) (gu:i-1<bP.keys.length),P bP.kids[i-1]=some o∧o.leaf=ff.leaf∧eJ bP.keys[i-1]∧zf (hA o bP.keys[i-1] ff):=by
 obtain ⟨s,JU,de,r,gJ,N,aj,rfl,se,rfl,rfl,⟨hw,m,hm,kQ⟩,Hf,wB⟩:=aW.last (by rw[ej];omega)
 have fv:(bP.keys.take i).length=i:=by rw[ej];omega
 have lU:(bP.kids.take i).length=i:=by rw[ej];omega
 have se:s=bP.keys[i-1]'(by omega):=by
   rw[se,G1];congr 1;omega
 have E1:(bP.kids.take i)[(bP.kids.take i).length-1]'(by omega)=bP.kids[i-1]'(by omega):=by
   rw[G1];congr 1;omega
 rw[E1] at hw hm
 obtain ⟨o,p7,k_,rfl,_,p8⟩:=hw.wy
 rw[k_] at hm
 have kQ:2≤o.keys.length:=by rw[Option.some.inj hm];exact kQ
 clear hm
 subst se
 have kh:=(show kN P (h+1) JU (some (bP.keys[i-1]'(by omega))) (bP.kids[i-1]'(by omega)) (bP.kids[i-1]'(by omega)::p7) N from ⟨hw,o,k_,kQ⟩).in
 obtain ⟨x,af⟩:=JF _ kh.1
 have sf:=k9 _ (fh (l:=bP.keys) (n:=i-1) (by omega))
 have Cm:=fH.merge p8 ak sf (fun c al=>qB (tN ((kh.2.2 x af).1 c al) ((kh.2.2 x af).2 _ rfl))) (fun c al=>qB (tN (fp.1 _ rfl) (fp.2 c al)))
 have dH:=Nz p8 ak sf (by have:=gz _ _ k_;omega)
 have Hg:=Ny (a:=o) (b:=ff) (s:=bP.keys[i-1]'(by omega))
 refine ⟨o,by omega,by omega,k_,by rw[p8.leaf,ak.leaf],sf,Cm.UB dH.1 dH.2 fun _ e=> ?_⟩
 rw[e,uW] at Hg
 omega
theorem aoG {h:Nat} {bP ff:aL} {g_ fo:Option Key} {i:Nat} {cm oE:List Nat} {pv cj:List bl} {k:Key} (k9:∀k∈bP.keys,eJ k) (hlen:bP.kids.length=bP.keys.length+1) (gz:∀x n,P x=some n→cq n≤232)
   (og:i+1<bP.kids.length) (fp:kM g_ fo k)
   (bE:nf (kN P (h+1)) hi fo (bP.keys.drop i) (bP.kids.drop (i+1)) cm cj) (ak:fH P (h+1) ff g_ fo oE pv) (U:cq ff<80):
   ∃ (o:aL) (ab:i+1<bP.kids.length) (gu:i<bP.keys.length),P bP.kids[i+1]=some o∧o.leaf=ff.leaf∧eJ bP.keys[i]∧zf (hA ff bP.keys[i] o):=by
 obtain ⟨s,ft,r,hO,N,JV,aj,rfl,se,rfl,rfl,⟨hw,m,hm,kQ⟩,JW⟩:=bE.head (by rw[fF];omega)
 have se:s=bP.keys[i]'(by omega):=by rw[se,JK];rfl
 have E1:(bP.kids.drop (i+1))[0]'(by rw[fF];omega)=bP.kids[i+1]'og:=by rw[JK]
 rw[E1] at hw hm
 obtain ⟨o,p7,k_,rfl,_,p8⟩:=hw.wy
 rw[k_] at hm
 have kQ:2≤o.keys.length:=by rw[Option.some.inj hm];exact kQ
 clear hm
 subst se
 have kh:=(show kN P (h+1) (some (bP.keys[i]'(by omega))) ft (bP.kids[i+1]'og) (bP.kids[i+1]'og::p7) N from ⟨hw,o,k_,kQ⟩).in
 obtain ⟨x,af⟩:=JF _ kh.1
 have sf:=k9 _ (fh (l:=bP.keys) (n:=i) (by omega))
 have Cm:=fH.merge ak p8 sf (fun c al=>qB (tN (fp.1 c al) (fp.2 _ rfl))) (fun c al=>qB (tN ((kh.2.2 x af).1 _ rfl) ((kh.2.2 x af).2 c al)))
 have dH:=Nz ak p8 sf (by have:=gz _ _ k_;omega)
 have Hg:=Ny (a:=ff) (b:=o) (s:=bP.keys[i]'(by omega))
 refine ⟨o,og,by omega,k_,by rw[p8.leaf,ak.leaf],sf,Cm.UB dH.1 dH.2 fun _ e=> ?_⟩
 rw[e,uW] at Hg
 omega
inductive Ctx (P:Nat→Option aL) (k:Key) (top:Nat):Nat→Option Key→Option Key→List (Nat×aL×Nat)→List Nat→List bl→List bl→Prop
 |top:Ctx P k top top none none [] [] [] []
 |step {jq:Nat} {lo hi g_ fo:Option Key} {st:List (Nat×aL×Nat)} {hK:List Nat} {A B:List bl} {no:Nat} {n:aL} {cp cm:List Nat} {bU cj:List bl} (h:Ctx P k top (jq+2) lo hi st hK A B) (gz:P no=some n) (az:n.leaf=false) (jf:∀k∈n.keys,eJ k) (rp:∀x∈n.kids,x<1600)
     (hlen:n.kids.length=n.keys.length+1) (ae:n.keys≠ []) (dW:st≠ []→2≤n.keys.length) (fp:kM g_ fo k) (aW:k0 (kN P (jq+1)) lo g_ (n.keys.take (fR n.keys k)) (n.kids.take (fR n.keys k)) cp bU)
     (bE:nf (kN P (jq+1)) hi fo (n.keys.drop (fR n.keys k)) (n.kids.drop (fR n.keys k+1)) cm cj):Ctx P k top (jq+1) g_ fo (st++ [(no,n,fR n.keys k)]) (no::(cp++(cm++hK))) (A++bU) (cj++B)
theorem Ctx.jq {k:Key} {top jq:Nat} {st:List (Nat×aL×Nat)} {hK:List Nat} {A B:List bl} (h:Ctx P k top jq lo hi st hK A B):jq+st.length=top:=by
 induction h with
 |top=>rfl
 |step h _ _ _ _ _ _ _ _ _ _ dr=>rw[dO,rm];omega
theorem Ctx.agree {Q:Nat→Option aL} {k:Key} {top jq:Nat} {st:List (Nat×aL×Nat)} {hK:List Nat} {A B:List bl} (h:Ctx P k top jq lo hi st hK A B) (J:∀x∈hK,P x=Q x):Ctx Q k top jq lo hi st hK A B:=by
 induction h with
 |top=>exact .top
 | @step jq lo hi g_ fo st hK A B no n cp cm bU cj h gz az jf rp hlen ae dW fp aW bE dr=>
   refine .step (dr fun x af=>J x (by simp[af])) (by rw[←J no (by simp)];exact gz) az jf rp hlen ae dW fp (aW.yi fun _ _ _ _ _ aj hw=>hw.agree fun x af=>J x ?_) (bE.yi fun _ _ _ _ _ aj hw=>hw.agree fun x af=>J x ?_)
   · have:=aj x af;simp[this]
   · have:=aj x af;simp[this]
theorem Ctx.down {k:Key} {top:Nat}:∀ {jq:Nat} {lo hi:Option Key} {st:List (Nat×aL×Nat)} {hK:List Nat} {A B M gJ:List bl} {no:Nat} {p:List Nat},Ctx P k top (jq+1) lo hi st hK A B→hN P (jq+1) lo hi no p M→(st≠ []→∃m,P no=some m∧2≤m.keys.length)→kM lo hi k→gJ=A++(M++B)→(∀u,Loc k u→u gJ=A++(u M++B))→
   ∃ (rest kI:List (Nat×aL×Nat)) (lO:Nat) (dt:aL) (kP h4:Option Key) (nB:List Nat) (nC nD:List bl),Dw P k (jq+1) no rest∧st++rest=kI++ [(lO,dt,0)]∧Ctx P k top 1 kP h4 kI nB nC nD∧P lO=some dt∧oe dt∧dt.within kP h4∧dt.keys≠ []∧(kI≠ []→2≤dt.keys.length)∧kM kP h4 k∧
     (p++hK).Perm (lO::nB)∧gJ=nC++(dt.gQ++nD)∧∀u,Loc k u→u gJ=nC++(u dt.gQ++nD)
 |0,lo,hi,st,hK,A,B,M,gJ,no,p,al,hw,ad,fp,du,hu=>by
   obtain ⟨n,U,au,aH,aY,rfl,rfl⟩:=hw
   refine ⟨[(no,n,0)],st,no,n,lo,hi,hK,A,B,⟨n,[],U,by rw[au.leaf];rfl,rfl,rfl⟩,rfl,al,U,au,aH,aY,fun aj=> ?_,fp,List.Perm.refl _,du,hu⟩
   obtain ⟨m,hm,kQ⟩:=ad aj
   rw[U] at hm;cases hm
   exact kQ
 |jq+1,lo,hi,st,hK,A,B,M,gJ,no,p,al,hw,ad,fp,du,hu=>by
   obtain ⟨n,e2,U,rfl,au,ak⟩:=hw.wy
   obtain ⟨g_,fo,cp,q,cm,bU,pv,cj,ab,rfl,rfl,FN,abo,aoH,hlen,Hf,JW⟩:=ak.at fp
   obtain ⟨aB,aF,aJ,aM,_⟩:=ak
   have pc:=Ctx.step al U aB aJ aM hlen au (fun aj=>by
     obtain ⟨m,hm,kQ⟩:=ad aj
     rw[U] at hm;cases hm
     exact kQ) abo Hf JW
   obtain ⟨rest,kI,lO,dt,kP,h4,nB,nC,nD,bK,aq,bV,iE,kT,Bp,Gb,DR,DS,zn,Bq,xN⟩:=Ctx.down (gJ:=gJ) pc FN.1 (fun _=>FN.2) abo (by rw[du];simp only[eI]) (fun u az=>by rw[hu u az,aoH u az];simp only[eI])
   refine ⟨(no,n,fR n.keys k)::rest,kI,lO,dt,kP,h4,nB,nC,nD,⟨n,rest,U,by rw[aB];simp,by rw[if_neg (by omega)],?_⟩,?_,bV,iE,kT,Bp,Gb,DR,DS,?_,Bq,xN⟩
   · rw[p6,gH ab]
     exact bK
   · rw[←aq];simp
   · refine List.Perm.trans ?_ zn
     have a_:(no::(cp++(q++cm))++hK)=no::(cp++(q++(cm++hK))):=by simp[eI]
     rw[a_]
     have bw:(q++no::(cp++(cm++hK))).Perm (no::(q++(cp++(cm++hK)))):=Cd
     refine List.Perm.trans ?_ bw.symm
     refine List.Perm.cons _ ?_
     have ek:=(JI (l₁:=cp) (l₂:=q)).append_right (cm++hK)
     simpa[eI] using ek
end
end
section
theorem UC {α:Type} (a b c:List α):(a++(b++c)).Perm (a++c++b):=by
 rw[eI]
 exact (JI (l₁:=b) (l₂:=c)).append_left a
theorem Ctx.up {P:Nat→Option aL} {lo hi:Option Key} {k:Key} {top jq:Nat} {st UD:List (Nat×aL×Nat)} {hK:List Nat} {A B:List bl} {u:gE} {ff:aL} {q:List Nat} {M:List bl} (al:Ctx P k top jq lo hi st hK A B) (gW:st=UD++ [u.st]) (ak:fH P jq ff lo hi q M) (gz:∀x n,P x=some n→cq n≤232) (aj:cq ff≤282):
   ∃ (DT DU:Option Key) (Br:List Nat) (yz DV:List bl) (ps:List Nat),Ctx P k top (jq+1) DT DU UD Br yz DV∧hK=u.no::(ps++Br)∧P u.no=some u.n∧u.e3<u.n.kids.length∧u.n.kids.length=u.n.keys.length+1∧u.n.keys≠ []∧(UD≠ []→2≤u.n.keys.length)∧
     (80≤cq ff→∀ (Q:Nat→Option aL) (ks:List Key) (kids:List Nat),z_ Q ff ks kids→(∀x∈ps++q,P x=Q x)→(∀x∈kids,x<1600)→∃ (iO:List Nat) (M2:List bl),fH Q (jq+1) (ml u.n u.e3 (u.e3+1) ks kids) DT DU iO M2∧yz++(M2++DV)=A++(M++B)∧iO.Perm (kids++(ps++q))∧
       cq (ml u.n u.e3 (u.e3+1) ks kids)≤cq u.n+27∧u.n.keys.length≤(ml u.n u.e3 (u.e3+1) ks kids).keys.length+1)∧
     (cq ff<80→∃ (o:aL) (no:Nat) (rest:List Nat),u.n.kids[tl u]? =some no∧P no=some o∧o.leaf=ff.leaf∧u.e3-1<u.n.keys.length∧eJ (u.n.keys.getD (u.e3-1) [])∧zf (zk u ff o)∧ps.Perm (no::rest)∧
       ∀ (Q:Nat→Option aL) (ks:List Key) (kids:List Nat),z_ Q (zk u ff o) ks kids→(∀x∈rest++q,P x=Q x)→(∀x∈kids,x<1600)→∃ (iO:List Nat) (M2:List bl),fH Q (jq+1) (ml u.n (u.e3-1) (u.e3-1+2) ks kids) DT DU iO M2∧yz++(M2++DV)=A++(M++B)∧iO.Perm (kids++(rest++q))∧
         cq (ml u.n (u.e3-1) (u.e3-1+2) ks kids)≤cq u.n+27∧u.n.keys.length≤(ml u.n (u.e3-1) (u.e3-1+2) ks kids).keys.length+1):=by
 cases al with
 |top=>
   have:=congrArg List.length gW
   simp at this
 | @step jq DT DU _ _ avJ Br yz DV abp bP cp cm bU cj h aoI az jf rp hlen ae dW fp aW bE=>
   obtain ⟨rfl,ad⟩:=List.append_inj' gW rfl
   have au:(abp,bP,fR bP.keys k)=u.st:=by simpa using ad
   have dc:abp=u.no:=congrArg Prod.fst au
   have aC:bP=u.n:=congrArg (fun x=>x.2.1) au
   have abq:fR bP.keys k=u.e3:=congrArg (fun x=>x.2.2) au
   subst dc aC
   rw[abq] at aW bE
   have lj:=Nt u.n.keys k
   rw[abq] at lj
   refine ⟨DT,DU,Br,yz,DV,cp++cm,h,by rw[eI],aoI,by omega,hlen,ae,dW,fun zo Q ks kids aG J Lm=> ?_,fun zo=> ?_⟩
   · obtain ⟨e2,aB,aF,aJ,aM⟩:=ahA az jf rp aW bE ak zo aj aG (fun x af=>J x (by
       simp only[fa] at af⊢
       rcases af with af|af|af
       · exact .inl (.inl af)
       · exact .inr af
       · exact .inl (.inr af))) Lm
     refine ⟨e2,_,aB,by simp only[eI],aF.trans (List.Perm.append_left kids ?_),aJ,by omega⟩
     exact UC cp q cm
   · by_cases b7:u.e3=0
     · obtain ⟨o,vO,sC,q3,Ph,UE,UF⟩:=aoG jf hlen gz (i:=u.e3) (by
         have:u.n.keys.length≠0:=fun e=>ae (List.eq_nil_of_length_eq_zero e)
         omega) fp bE ak zo
       obtain ⟨lE,Hh,abr,vD,Ln,UG,_,UH⟩:=ahD az jf rp hlen gz vO fp aW bE ak zo
       rw[q3] at Ln
       obtain rfl:=Option.some.inj Ln
       have a_:tl u=u.e3+1:=by unfold tl;rw[if_pos b7,b7]
       have bw:u.e3-1=u.e3:=by omega
       have ek:u.n.keys.getD (u.e3-1) []=u.n.keys[u.e3]:=by rw[bw,p6,gH sC];rfl
       have kS:zk u ff o=hA ff u.n.keys[u.e3] o:=by unfold zk;rw[if_pos (by rw[a_];omega),ek]
       refine ⟨o,u.n.kids[u.e3+1],cp++Hh,by rw[a_];exact gH vO,q3,Ph,by omega,by rw[ek];exact UE,by rw[kS];exact UF,?_,fun Q ks kids aG J Lm=> ?_⟩
       · exact (List.Perm.append_left cp UG).trans Cd
       · rw[kS] at aG
         obtain ⟨e2,aB,aF,aJ,aM⟩:=UH Q ks kids aG (fun x af=>J x (by
           simp only[fa] at af⊢
           rcases af with af|af|af
           · exact .inl (.inl af)
           · exact .inr af
           · exact .inl (.inr af))) Lm
         rw[bw]
         exact ⟨e2,_,aB,by simp only[eI],aF.trans (List.Perm.append_left kids (UC cp q Hh)),aJ,aM⟩
     · obtain ⟨o,vO,sC,q3,Ph,UE,UF⟩:=aoF jf hlen gz (i:=u.e3) (by omega) (by omega) fp aW ak zo
       obtain ⟨lE,He,abr,vD,Ln,UG,_,UH⟩:=ahB az jf rp hlen gz (by omega) (by omega) fp aW bE ak zo
       rw[q3] at Ln
       obtain rfl:=Option.some.inj Ln
       have a_:tl u=u.e3-1:=by unfold tl;rw[if_neg b7]
       have ek:u.n.keys.getD (u.e3-1) []=u.n.keys[u.e3-1]:=by rw[p6,gH sC];rfl
       have kS:zk u ff o=hA o u.n.keys[u.e3-1] ff:=by unfold zk;rw[if_neg (by rw[a_];omega),ek]
       have lV:u.e3-1+2=u.e3+1:=by omega
       refine ⟨o,u.n.kids[u.e3-1],He++cm,by rw[a_];exact gH vO,q3,Ph,sC,by rw[ek];exact UE,by rw[kS];exact UF,?_,fun Q ks kids aG J Lm=> ?_⟩
       · exact (UG.append_right cm)
       · rw[kS] at aG
         obtain ⟨e2,aB,aF,aJ,aM⟩:=UH Q ks kids aG (fun x af=>J x (by
           simp only[fa] at af⊢
           rcases af with af|af|af
           · exact .inl (.inl af)
           · exact .inr af
           · exact .inl (.inr af))) Lm
         rw[lV]
         exact ⟨e2,_,aB,by simp only[eI],aF.trans (List.Perm.append_left kids (UC He q cm)),aJ,aM⟩
end
section
theorem fT.aoJ {w:World} {T:aZ} {c:gK} {E:Nat→Prop} (h:fT w T c) (fJ:∀q,E q→T.E q):fT w (T.dw E T.G) c:=
 h.of (av:=T.dw E T.G) (W:=fun _=>False) (h.t.grow (W:=fun _=>False) (ao.refl _ _) (fun _ h=>h.elim) (fun q J=> .inl (fJ q J)) (fun q J=> .inr (.inl J)) fun q J=>(h.t.gD q (fJ q J)).2.2) (ao.refl _ _) (fun _ _ h=>h) rfl fun _ h=>h
theorem fU.local {T av:aZ} {c c':gK} {m l:List Nat} {c7:Nat→Prop} {w ag w':World} {k:Nat} (h:fU (T.dw c7 T.G) av c c' m l ag w' k) (af:Ext w ag) (lp:∀q,c7 q→T.E q∨w.heap.size≤q) (fJ:∀q,T.E q→c7 q):fU T (av.dw T.E av.G) c c' m l w w' k:=
 ⟨h.to.local af lp (fun q J=> .inl J) (fun q J=> .inl (by rw[h.E];exact fJ q J)) fun q J=>J,rfl,h.G,h.root,h.bn,h.dp,h.made,h.left,h.dE,h.te,h.f,h.hL,h.room⟩
theorem fT.abs {w w':World} {T:aZ} {c:gK} {W:Nat→Prop} (h:fT w T c) (al:ao W w w') (dk:∀q,W q→T.E q∨w.heap.size≤q):fT w' T c:=by
 have dS:ao (fun q=>T.E q) w w':=l5 (W:=fun q=>T.E q) (ao.refl _ _) al fun q J hw=>(dk q hw).resolve_right (by omega)
 exact h.of (h.t.grow (E:=T.E) (G:=T.G) dS (fun q J _=> .inl J) (fun q J=> .inl J) (fun q J=> .inr (.inl J)) fun q J=>(h.t.gD q J).2.2) dS (fun q bg he=>(h.t.gD q he).2.2 bg) rfl fun _ h=>h
theorem uo.to {w w':World} {T av:aZ} {k:Nat} {s:aa} {l:List gE} (h:uo (fun q=>¬T.M q) w s l) (aR:b_ T av w w' k):uo (fun q=>¬av.M q) w' s l:=by
 refine ⟨h.own.an aR.an fun q J aC=>h.FL q J (aZ.lJ aC),fun q J hm=> ?_,fun x af=> ?_⟩
 · rcases aR.jH q hm with U|U
   · exact h.FL q J U
   · have:=b3.lt h.own q J;omega
 · exact (aR.dE (lo:=0) ((h.dE x af).bz fun q _ ab=>⟨fm _,ab⟩)).bz fun q _ ab=>ab.2
theorem uo.at {B:Nat→Prop} {w:World} {s:aa} {l:List gE} (h:uo B w s l) {i:Nat} (hi:i<l.length):∃A:Addr,s.a=some A∧s.len=l.length∧B A.block∧w.cell? (A.add (i*6))=some (.int .i64 ((l[i]).no:Nat))∧zg B w (A.add (i*6)) l[i]:=by
 have az:=h.own.1
 rw[ov _ (Dv l)] at az
 have gv:s.len=l.length:=by omega
 rcases h.own.2.2.2 with ⟨U,ad⟩|⟨b,c,ab,ak,ec,k1⟩
 · have:=h.own.2.1
   omega
 · have kR:∀j,j<6→w.cell? ⟨b,i*6+j,none⟩=((gE.c l[i]))[j]? :=fun j a8=>by
     rw[cr.cell ak,←KQ (Dv l) hi a8,←k1]
     rw[No,if_pos (by omega),Array.getElem?_toList]
   refine ⟨⟨b,0,none⟩,ab,gv,h.FL b ⟨_,ab,rfl⟩,?_,?_⟩
   · rw[aX,gy]
     exact kR 0 (by decide)
   · rw[aX,gy]
     refine ⟨?_,?_,?_,?_,?_,h.dE _ (fh hi),h.FL b ⟨_,ab,rfl⟩,b3.lt h.own b ⟨_,ab,rfl⟩⟩
     · rw[aX];exact kR 1 (by decide)
     · rw[aX,aX];exact kR 2 (by decide)
     · rw[aX,aX];exact kR 3 (by decide)
     · rw[aX,aX];exact kR 4 (by decide)
     · rw[aX];exact kR 5 (by decide)
theorem Ctx.abt {P:Nat→Option aL} {lo hi:Option Key} {k:Key} {top jq:Nat} {hK:List Nat} {A B:List bl} (h:Ctx P k top jq lo hi [] hK A B):jq=top∧lo=none∧hi=none∧hK=[]∧A=[]∧B=[]:=by
 generalize gW:([]:List (Nat×aL×Nat))=st at h
 cases h with
 |top=>exact ⟨rfl,rfl,rfl,rfl,rfl,rfl⟩
 |step h=>
   have:=congrArg List.length gW
   simp at this
end
section
def Bs (T:aZ) (c:gK) (de:List Nat) (iK:List bl) (w:World) (v:Value) (w':World):Prop:=
 ∃ (av:aZ) (c':gK) (m l:List Nat),fT w' av c'∧fU T av c c' m l w w' 60∧
   ((v= .tuple #[.int .i64 0, .int .i64 0, .int .i64 0]∧iK=[]∧l.Perm (m++de))∨
    (∃ (root h:Nat) (pages:List Nat),v= .tuple #[.int .i64 (root:Nat), .int .i64 (h:Nat), .int .i64 0]∧hN av.P h none none root pages iK∧(pages++l).Perm (m++de)∧1≤h∧h≤T.bn+1)∨
    (∃a b:Int,v= .tuple #[.int .i64 a, .int .i64 b, .int .i64 3]∧¬T.C.D.calm 60))
theorem Bs.local {T:aZ} {c:gK} {de:List Nat} {iK:List bl} {c7:Nat→Prop} {w ag w':World} {v:Value} (h:Bs (T.dw c7 T.G) c de iK ag v w') (af:Ext w ag) (lp:∀q,c7 q→T.E q∨w.heap.size≤q) (fJ:∀q,T.E q→c7 q):Bs T c de iK w v w':=by
 obtain ⟨av,c',m,l,U,ad,au⟩:=h
 exact ⟨av.dw T.E av.G,c',m,l,U.aoJ fun q J=>by rw[ad.E];exact fJ q J,ad.local af lp fJ,au⟩
structure aoK (cE:aZ) (c:gK) (a7:World) (wl:List gE) (k:Key) (de:List Nat) (iK:List bl) (ws:aa) (pj:Nat) (i:Nat) (w':World) (av:aZ) (c':gK) (m l:List Nat) (n:aL) (K V D:aa) (lo hi:Option Key) (hK:List Nat) (A B:List bl) (q:List Nat) (M:List bl) (r:List Nat):Prop where
 Oz:i<wl.length
 UI:fT w' av c'
 to:fU cE av c c' m l a7 w' (4*(wl.length-1-i))
 Pj:m.length≤2*(wl.length-1-i)
 abu:l.length≤2*(wl.length-1-i)
 pj:Var w' pj (g4 n K V D) ah.cO
 dE:cg (fun q=>¬av.M q) w' n K V D
 mv:uo (fun q=>¬av.M q) w' ws wl
 ctx:Ctx av.P k wl.length (wl.length-i) lo hi ((wl.take i).map gE.st) hK A B
 wy:fH av.P (wl.length-i) n lo hi q M
 eq:A++(M++B)=iK
 pp:de.Perm ((wl[i]).no::(r++hK))
 acc:(q++l).Perm (m++r)
 sz:cq n≤282
 aoL:1≤i→n.keys≠ []
 abv:∀x∈q++hK,av.f x=true
theorem c1.DW {w:World} {T:aZ} (h:c1 w T):∀x n,T.P x=some n→cq n≤232:=fun x n af=>(h.lK x n af).2.is.2.2
theorem pQ.cs {T:aZ} {c:gK} {n:aL} {w w':World} {s:aa} {e:Int} (h:pQ T c n w (.tuple #[.slice s.a s.len s.cap, .int .i64 e]) w'):
   ∃ (av:aZ) (c':gK) (m:List Nat),fT w' av c'∧fU T av c c' m [] w w' 2∧m.length≤2∧((e=0∧∃ks,z_ av.P n ks m∧xC (fun q=>¬av.M q) w' s ks m)∨(e=3∧¬T.C.D.calm 2)):=by
 obtain ⟨av,c',m,s2,U,ad,au,aH⟩:=h
 refine ⟨av,c',m,U,ad,au,?_⟩
 rcases aH with ⟨ks,ak,aY,b9⟩|⟨ak,aY⟩
 · simp at ak
   obtain ⟨⟨bc,cW,a3⟩,rfl⟩:=ak
   obtain rfl:s=s2:=by cases s;cases s2;simp_all
   exact .inl ⟨rfl,ks,aY,b9⟩
 · simp at ak
   exact .inr ⟨ak.2,aY⟩
theorem aoM {P Q UJ:Nat→Option aL} {t:Nat} {n:aL} {q:List Nat} {M:List bl} {uD:Key} {x y no:Nat} (ak:fH P (t+1) n none none q M) (aj:cq n≤282) (aG:z_ Q n [uD] [x,y]) (J:∀z∈q,P z=Q z) (aC:UJ no=some ⟨false,[uD],[],[x,y]⟩) (hT:∀z∈x::y::q,Q z=UJ z) (af:x<1600) (b8:y<1600):
   eJ uD∧∃pages,hN UJ (t+2) none none no pages M∧pages.Perm (no::x::y::q):=by
 have zo:232<cq n:=by
   rcases aG with ⟨_,z,e,_⟩|⟨h,_⟩
   · cases e
   · exact h
 obtain ⟨e2,aB,aF,aJ,_⟩:=ak.fits (ak.RC (by omega)) (fun _=>by omega) (fun _=>by omega) aG J
 have pk:fH Q (t+2) ⟨false,[uD],[],[x,y]⟩ none none e2 M:=⟨rfl,rfl,aJ,fun z bO=>by
   simp only[fZ,mT,mU] at bO
   rcases bO with rfl|rfl<;>assumption,aB⟩
 refine ⟨aJ uD (by simp),no::e2,pk.lay (by simp) aC fun z bO=>hT z ?_,List.Perm.cons no aF⟩
 have:=aF.mem_iff.1 bO
 simpa using this
theorem DX {a b:List Nat}:a.Perm b↔∀x,a.count x=b.count x:=List.perm_iff_count
theorem Bt {q l m r:List Nat} {no:Nat} (h:(q++l).Perm (m++r)):(q++(l++ [no])).Perm (m++(no::r)):=by
 rw[DX] at h⊢
 intro x
 have:=h x
 simp only[EV,G8,G9] at this⊢
 omega
theorem rW {q l m r iO ps ms ls rest:List Nat} (h:(q++l).Perm (m++r)) (ad:iO.Perm (ms++(rest++q))) (au:ps.Perm (ls++rest)):(iO++(l++ls)).Perm ((m++ms)++(ps++r)):=by
 rw[DX] at h ad au⊢
 intro x
 have:=h x
 have:=ad x
 have:=au x
 simp only[EV,G8,G9] at*
 omega
theorem Bu {de r ps Br:List Nat} {u:Nat} (h:de.Perm (r++(u::(ps++Br)))):de.Perm (u::((ps++r)++Br)):=by
 rw[DX] at h⊢
 intro x
 have:=h x
 simp only[EV,G8,G9] at*
 omega
end
section
theorem aoN {w:World} {T:aZ} {c:gK} {wl:List gE} {k:Key} {de hK:List Nat} {iK A B M:List bl} {lo hi:Option Key} {ws:aa} {n:aL} {K V D:aa} (h:fT w T c) (hw:uo (fun q=>¬T.M q) w ws wl) (aC:cg (fun q=>¬T.M q) w n K V D) (c5:0<wl.length) (hlen:wl.length=T.bn) (cS:T.bn<12)
   (gC:T.C.D.cX≤900000000) (jI:2*T.bn+3≤fM T) (Av:c.made.length≤100) (di:c.left.length≤100) (abw:Ctx T.P k wl.length 1 lo hi ((wl.take (wl.length-1)).map gE.st) hK A B) (pk:fH T.P 1 n lo hi [] M) (heq:A++(M++B)=iK)
   (tm:de.Perm ((wl[wl.length-1]'(by omega)).no::hK)) (dH:cq n≤282) (Gc:2≤wl.length→n.keys≠ []) (uE:∀x∈hK,T.f x=true):
   aO Tryz.prog F.xO #[.pointer (some ⟨c.dp,0,none⟩), .slice ws.a ws.len ws.cap,fc n K V D] w (Bs T c de iK w):=by
 refine W.abx (some ⟨c.dp,0,none⟩) ws n.leaf K V D w _ ?_
 (delta W.xO bV ai aq dx aD aA a6 bK st Iw Gd jy gk;dsimp only)
 refine cx (vs:=g4 n K V D) rfl fun ag gg bG kO=> ?_
 obtain ⟨cJ,aV,bA,bd⟩:=cl gg
 refine ⟨_,cJ,K,aV,V,bA,D,bd,cx (vs:=[.bool false, .slice none 0 0, .slice none 0 0, .slice none 0 0]) rfl fun bf wW ky Oe=>⟨wW.dC rfl lr,rfl,eo wW (us:=g4 n K V D) rfl rfl fun a7 Ix qP YW=> ?_⟩⟩
 have eR:Ext w a7:=bG.trans (Ext.fb ky qP (cR _))
 obtain ⟨pj,It⟩:∃pj,pj=ag.heap.size:=⟨_,rfl⟩
 rw[←It] at Ix⊢
 obtain ⟨c7,lp⟩:∃c7,c7=fun q=>T.E q∨q=pj:=⟨_,rfl⟩
 have m4:∀q,T.E q→c7 q:=fun q J=>by rw[lp];exact .inl J
 have pU:∀q,c7 q→T.E q∨q=pj:=fun q J=>by rw[lp] at J;exact J
 have aby:c7 pj:=by rw[lp];exact .inr rfl
 have avK:=Ix.lt
 have iD:fT a7 (T.dw c7 T.G) c:=h.of (W:=fun _=>False) (h.t.grow (W:=fun _=>False) eR (fun _ h=>h.elim) (fun q J=>(pU q J).imp id fun e=> .inr ⟨by omega,by omega⟩) (fun q J=> .inr (.inl J)) fun q J bg=>by
   rcases pU q J with U|U
   · exact (h.t.gD q U).2.2 bg
   · have:=h.t.lt (q:=q) (.inr (.inr (.inr (.inr bg))));omega) eR (fun _ _ h=>h) rfl fun _ h=>h
 have rX:b_ T (T.dw c7 T.G) w a7 0:=(b_.refl T w).step (W:=fun _=>False) eR (fun _ h=>h.elim) (fun q J=>(pU q J).imp id fun e=> .inr (by omega)) fun q J=> .inl J
 have conv:∀ (v:Value) (w':World),Bs (T.dw c7 T.G) c de iK ag v w'→Bs T c de iK w v w':=fun v w' hu=>hu.local bG (fun q J=>(pU q J).imp id fun e=>by omega) m4
 obtain ⟨cE,iJ⟩:∃cE,cE=T.dw c7 T.G:=⟨_,rfl⟩
 have Fx:=hw.to rX
 have HJ:cg (fun q=>¬(T.dw c7 T.G).M q) a7 n K V D:=(rX.dE (lo:=0) (aC.bz fun q _ ab=>⟨fm _,ab⟩)).bz fun q _ ab=>ab.2
 have a_:cE.P=T.P:=by rw[iJ];rfl
 have bw:cE.f=T.f:=by rw[iJ];rfl
 have ek:cE.E pj:=by rw[iJ];exact aby
 have kS:fM cE=fM T:=by rw[iJ];rfl
 have lV:cE.C=T.C:=by rw[iJ];rfl
 have vP:cE.bn=T.bn:=by rw[iJ];rfl
 rw[←iJ] at iD Fx HJ conv
 clear iJ rX lp m4 pU aby
 have avL:pj=ag.heap.size:=It
 have Ge:ws.len=wl.length:=by
   have:=hw.own.1
   rw[ov _ (Dv wl)] at this;omega
 refine ⟨fun n10 w'=>∃ (i:Nat) (av:aZ) (c':gK) (m l:List Nat) (n:aL) (K V D:aa) (lo hi:Option Key) (hK:List Nat) (A B:List bl) (q:List Nat) (M:List bl) (r:List Nat),n10=(i:Nat)∧aoK cE c ag wl k de iK ws pj i w' av c' m l n K V D lo hi hK A B q M r,fun n10 _=>(n10+1).toNat,
   ⟨wl.length-1,cE,c,[],[],n,K,V,D,lo,hi,hK,A,B,[],M,[],?_,?_⟩,?_⟩
 · rw[cz (by omega) (by omega)];omega
 · have e:wl.length-(wl.length-1)=1:=by omega
   refine ⟨by omega,iD,(fU.ext cE c (Ext.fb ky qP (cR _))).mono (by omega),fm _,fm _,Ix,HJ,Fx,by rw[e,a_];exact abw,by rw[e,a_];exact pk,heq,by simpa using tm,List.Perm.refl _,dH,fun U=>Gc (by omega),fun x af=>by rw[bw];exact uE x (by simpa using af)⟩
 clear abw pk heq tm dH Gc uE aC HJ Ix hw Fx gg cJ aV bA bd wW
 rintro _ cf ⟨i,av,c',m,l,n,K,V,D,lo,hi,hK,A,B,q,M,r,rfl,I⟩
 have abz:=I.Oz
 have Pk:=I.to.dp
 refine ⟨fun _=>bN ?_,fun ab=> ?_⟩
 rotate_left
 · have:¬((i:Nat):Int)≥0:=eW ab
   omega
 have bD:Ext cf cf.drew:=dT _
 obtain ⟨cy,aoO⟩:∃cy,cy=cf.drew:=⟨_,rfl⟩
 rw[←aoO] at bD⊢
 have m6:=I.UI.ext bD
 have yK:=m6.cells.2.2
 rw[Pk] at yK
 have abA:uo (fun q=>¬av.M q) cy ws wl:=I.mv.to (b_.ext av bD)
 obtain ⟨Lo,UK,avM,aoP,dc,_⟩:=abA.at abz
 have aaj:c'.left.length≤200:=by rw[I.to.left,dO];have:=I.abu;omega
 have aoQ:c'.made.length≤200:=by rw[I.to.made,dO];have:=I.Pj;omega
 obtain ⟨ar,cw,aB,aF,aJ,aM,cU⟩:=aap m6 (wl[i]).no (by omega)
 rw[Pk] at aJ aM cU
 have nL:∀n,(Lo.add n).block=Lo.block:=fun n=>by unfold Addr.add;split<;>rfl
 have aoR:∀q,aQ c'.l8 q→av.M q:=fun q J=> .inr (.inr (.inr (.inr (m6.vH q J).1)))
 refine ⟨aQ c'.l8,_,rfl,fun J=>(m6.vH _ J).2 (by rw[Pk,aX]),c'.l8,yK,Lo,UK,⟨by omega,by omega⟩,fun J=>aoP (aoR _ ((nL _)▸J)),_,by rw[g9];exact dc,bN ⟨ao.eT (iP _ _),ar,cw,aB,aF,_,rfl,by rw[aX];exact aJ,by rw[aX];exact aM,bN ?_⟩⟩
 rw[aX,gy]
 obtain ⟨dJ,abB⟩:∃dJ,dJ=cw.setCell ⟨c.dp,2,none⟩ (.slice ar.a ar.len ar.cap):=⟨_,rfl⟩
 rw[←abB]
 obtain ⟨zp,xP⟩:=cU dJ abB
 have UL:=fU.leave (c:=c') (c':=⟨c.dp,c'.nw,ar,c'.made,c'.left++ [(wl[i]).no]⟩) (no:=(wl[i]).no) xP rfl (fun q J=> .inl J) Pk.symm rfl rfl
 have vQ:=(I.to.trans (fU.ext av c' bD)).trans UL
 simp only[mh,zV] at vQ
 have abC:av.E pj:=by rw[I.to.E];exact ek
 have UM:=(I.pj.ext bD).an xP.an (m6.t.uc abC)
 have UN:=abA.to xP
 have Lp:cg (fun q=>¬(av.dw av.E fun q=>av.G q∨aQ ar q).M q) dJ n K V D:=(xP.dE (lo:=0) ((I.dE.ext bD).bz fun q _ ab=>⟨fm _,ab⟩)).bz fun q _ ab=>ab.2
 obtain ⟨dz,DL⟩:∃dz,dz=av.dw av.E fun q=>av.G q∨aQ ar q:=⟨_,rfl⟩
 have cp:dz.P=av.P:=by rw[DL];rfl
 have cm:dz.f=av.f:=by rw[DL];rfl
 have hO:fM dz=fM av:=by rw[DL];rfl
 have th:dz.E pj:=by rw[DL];exact abC
 have Bv:dz.bn=T.bn:=by rw[DL];show av.bn=_;rw[I.to.bn,vP]
 rw[←DL] at zp xP UL vQ UN Lp
 obtain ⟨bA,dS⟩:∃bA:gK,bA=⟨c.dp,c'.nw,ar,c'.made,c'.left++ [(wl[i]).no]⟩:=⟨_,rfl⟩
 rw[←dS] at zp UL vQ
 have pR:bA.dp=c.dp:=by rw[dS]
 have iO:bA.made.length≤200:=by rw[dS];exact aoQ
 have DE:bA.left.length≤201:=by rw[dS,dO,rm];omega
 obtain ⟨bP,dt,db,bm⟩:=cl UM
 have DF:=b2.len Lp.keys
 have abD:∀ (w':World) (v:Value),Ext dJ w'→(∀ {e_ bd Lq},e_=dz→bd=bA→Lq=l++ [(wl[i]).no]→((v= .tuple #[.int .i64 0, .int .i64 0, .int .i64 0]∧iK=[]∧Lq.Perm (m++de))∨
    (∃ (root h:Nat) (pages:List Nat),v= .tuple #[.int .i64 (root:Nat), .int .i64 (h:Nat), .int .i64 0]∧hN (aZ.P e_) h none none root pages iK∧(pages++Lq).Perm (m++de)∧1≤h∧h≤cE.bn+1)∨
    (∃a b:Int,v= .tuple #[.int .i64 a, .int .i64 b, .int .i64 3]∧¬cE.C.D.calm 60)))→Bs T c de iK w v w':=by
   intro w' v af hd
   refine conv v w' ⟨dz,bA,m,l++ [(wl[i]).no],?_,?_,hd (bd:=bA) rfl rfl rfl⟩
   · exact zp.ext af
   · have:=(vQ.trans (fU.ext dz _ af)).mono (j:=60) (by omega)
     simp only[mh] at this
     exact this
 refine eN (fun b w'=>(b=true↔(i=0∧n.keys=[]))∧dJ=w') (fun Z u4=>⟨fun b7=>⟨K,dt,u4 _ _ ⟨?_,rfl⟩⟩,fun b7=>u4 _ _ ⟨?_,rfl⟩⟩) ?_
 · have b7:i=0:=by
     have:((i:Nat):Int)=0:=by simpa using b7
     omega
   rw[zZ]
   constructor
   · intro U
     exact ⟨b7,List.eq_nil_of_length_eq_zero (by omega)⟩
   · rintro ⟨_,U⟩
     rw[U] at DF
     simp at DF;omega
 · have b7:i≠0:=by
     have:¬((i:Nat):Int)=0:=by simpa using b7
     omega
   exact ⟨fun h=>(by cases h),fun h=>absurd h.1 b7⟩
 rintro uF _ ⟨abE,rfl⟩
 refine ⟨fun ab=> ?_,fun ab=> ?_⟩
 · obtain ⟨b7,k9⟩:=abE.1 ab
   subst b7
   have nz:Ext dJ dJ.drew:=dT _
   obtain ⟨pG,vO,sC,q3⟩:=cl (UM.ext nz)
   have abF:=(zp.ext nz).cells.1
   rw[pR] at abF
   have aoS:=(zp.ext nz).t.cells.2.2.2.2
   obtain ⟨t1,t2,t3,t4,t5,t6⟩:=Ctx.abt (by simpa using I.ctx)
   have pk:=I.wy
   have tm:=I.pp
   have heq:=I.eq
   have vR:=Bt (no:=(wl[0]).no) I.acc
   subst t2 t3 t4 t5 t6
   rw[rl,mh] at heq
   rw[mh] at tm
   subst heq
   have UO:n.leaf=false→∃x,n.kids=[x]∧1≤dz.bn∧hN av.P (dz.bn-1) none none x q M∧1≤dz.bn-1:=by
     intro az
     have e:wl.length-0=dz.bn:=by rw[Bv];omega
     rw[e] at pk
     cases aR:dz.bn with
     |zero=>omega
     |succ t=>
       rw[aR] at pk
       cases t with
       |zero=>
         have:=pk.1.leaf
         rw[az] at this;cases this
       |succ t=>
         obtain ⟨v1,v2,v3,v4,v5⟩:=pk
         rw[k9] at v5
         generalize rp:n.kids=DY at v5
         cases v5 with
         |one h=>exact ⟨_,rfl,by omega,h.1,by omega⟩
   refine bN ⟨fun _=>False,id,_,pG,K,vO,V,sC,D,q3,_,rfl,id,_,abF,_,rfl,id,_,aoS,(zm (Lp.ext nz) dz.bn (by omega) fun az=>by obtain ⟨x,bc,cW,_⟩:=UO az;exact ⟨x,bc,cW⟩).use ?_⟩
   rintro v w' ⟨rfl,cB⟩
   have pF:=nz.trans cB
   cases az:n.leaf with
   |true=>
     rw[if_pos rfl]
     have jM:=pk.leaf
     rw[az] at jM
     have Pl:wl.length-0=1:=dG jM.symm
     rw[Pl] at pk
     obtain ⟨v1,v2,v3,v4⟩:=pk
     subst v3
     refine ⟨_,_,_,rfl,cB,abD w' _ pF fun {e_ bd Lq} bc cW a3=> .inl ⟨rfl,?_,?_⟩⟩
     · rw[v4];unfold aL.gQ;rw[k9];rfl
     · subst a3
       rw[DX] at vR tm⊢
       intro x
       have:=vR x
       have:=tm x
       simp only[EV,G8,G9] at*
       omega
   |false=>
     rw[if_neg (by simp)]
     obtain ⟨x,bc,cW,a3,a4⟩:=UO az
     refine ⟨_,_,_,rfl,cB,abD w' _ pF fun {e_ bd Lq} da cI eM=> .inr (.inl ⟨_,_,q,rfl,?_,?_,a4,?_⟩)⟩
     · subst da
       have sV:n.kids.getD 0 0=x:=by rw[bc];rfl
       rw[sV,cp];exact a3
     · subst eM
       rw[DX] at vR tm⊢
       intro x
       have:=vR x
       have:=tm x
       simp only[EV,G8,G9] at*
       omega
     · omega
 · have Gc:n.keys≠ []:=fun e=>by
     rcases G_ i with b7|b7
     · have:=abE.2 ⟨b7,e⟩
       rw[ab] at this;cases this
     · exact I.aoL b7 e
   have avN:dz.C.D.cX≤900000050:=by
     have:=vQ.to.cX
     rw[lV] at this
     omega
   have abG:2≤fM dz:=by
     have:=vQ.room
     have:=I.Pj
     omega
   have abH:∀j,j≤10→¬dz.C.D.calm j→¬cE.C.D.calm 60:=fun j a8 aC al=>aC (vQ.to.calm j (nt al (by omega)))
   have j7:zf n:=I.wy.UB (fun _=>by have:=I.sz;omega) (fun _=>by have:=I.sz;omega) fun _=>Gc
   refine eN (fun p w'=>p=(if i=0 then none else some (Lo.add ((i-1)*6)))∧dJ=w') (fun Z u4=>⟨fun b7=>⟨Lo,UK,?_,u4 _ _ ⟨?_,rfl⟩⟩,fun b7=>u4 _ _ ⟨?_,rfl⟩⟩) ?_
   · have b7:((i:Nat):Int)>0:=dG b7
     rw[cz (by omega) (by omega)]
     omega
   · have b7:((i:Nat):Int)>0:=dG b7
     have e:((i:Nat):Int)-1=((i-1:Nat):Int):=by omega
     rw[cz (by omega) (by omega),if_neg (by omega),e,g9]
   · have b7:¬((i:Nat):Int)>0:=eW b7
     rw[if_pos (by omega)]
   rintro _ _ ⟨rfl,rfl⟩
   refine ⟨_,bP,K,dt,V,db,D,bm,?_⟩
   by_cases b7:i=0
   · subst b7
     rw[if_pos rfl]
     have Lr:=aod zp Lp j7 (by omega) abG (by omega)
     rw[pR] at Lr
     refine Lr.use ?_
     rintro _ oC ⟨iq,e,rfl,aG⟩
     obtain ⟨e_,bd,ms,jN,lP,vN,eZ⟩:=aG.cs
     have Pm:=vQ.trans lP
     simp only[mh] at Pm
     have aoT:bd.dp=c.dp:=by rw[lP.dp,pR]
     rcases eZ with ⟨rfl,ks,zq,Bw⟩|⟨rfl,fk⟩
     · refine ⟨iq,_,_,0,rfl,fun h=>(by cases h),fun _=>⟨fun _=> ?_,fun h=>(by simp at h)⟩⟩
       obtain ⟨t1,t2,t3,t4,t5,t6⟩:=Ctx.abt (by simpa using I.ctx)
       have pk:=I.wy
       have tm:=I.pp
       have heq:=I.eq
       have dH:=I.sz
       have vR:=Bt (no:=(wl[0]).no) I.acc
       have uE:=I.abv
       subst t2 t3 t4 t5 t6
       rw[rl,mh] at heq
       rw[mh] at tm uE
       subst heq
       have aoU:dz.n≤1600:=zp.t.s.db
       have UP:∀z∈q,av.P z=e_.P z:=fun z bO=>by
         rw[←cp]
         exact ((lP.hL z (by rw[cm,uE z bO];rfl)).1).symm
       have abI:wl.length-0=(wl.length-1)+1:=by omega
       have abJ:e_.bn=wl.length:=by rw[lP.bn,Bv];omega
       rw[abI] at pk
       have abK:∀uD x y,ks=[uD]→ms=[x,y]→eJ uD∧x<1600∧y<1600:=fun uD x y aB aF=>by
         subst aB aF
         have zo:232<cq n:=by
           rcases zq with ⟨_,z,e,_⟩|⟨h,_⟩
           · cases e
           · exact h
         obtain ⟨e2,_,_,aJ,_⟩:=pk.fits (pk.RC (by omega)) (fun _=>by omega) (fun _=>by omega) zq UP
         have af:=(lP.te x (by simp)).2
         have b8:=(lP.te y (by simp)).2
         exact ⟨aJ uD (by simp),by omega,by omega⟩
       have abL:=aoy jN Bw (fun _=>by omega) abK (by have:=lP.to.cX;omega) (by have:=lP.room;have:=vQ.room;have:=I.Pj;omega) (by rw[lP.made,dO];omega)
       rw[aoT] at abL
       refine abL.use ?_
       rintro v yP bj
       rcases bj with ⟨x,aB,aF,rfl,aM,cU⟩|⟨uD,x,y,no,sB,gk,aB,aF,aM,cU,vG⟩
       · subst aB aF
         refine ⟨_,_,_,rfl,conv _ _ ⟨e_,bd,m++ [x],l++ [(wl[0]).no],aM,?_, .inr (.inl ⟨x,e_.bn,x::q,rfl,?_,?_,by omega,by omega⟩)⟩⟩
         · have:=(Pm.trans (fU.ext e_ bd cU)).mono (j:=60) (by omega)
           simp only[mh] at this
           exact this
         · rcases zq with ⟨_,z,_,e,bO⟩|⟨_,UQ,aoV,_,e,_⟩
           · cases e
             rw[abJ,show wl.length=wl.length-1+1 by omega]
             exact pk.lay Gc bO UP
           · cases e
         · rw[DX] at vR tm⊢
           intro z
           have:=vR z
           have:=tm z
           simp only[EV,G8,G9] at*
           omega
       · subst aB aF
         obtain ⟨bc,cW,a3⟩:=abK uD x y rfl rfl
         have DZ:=Pm.trans cU
         simp only[mh] at DZ
         have abM:=DZ.mono (j:=60) (by omega)
         rcases vG with ⟨rfl,KV⟩|⟨rfl,KV⟩
         · have wF:∀z∈x::y::q,e_.P z=sB.P z:=fun z bO=>by
             refine ((cU.hL z ?_).1).symm
             rw[lP.f]
             simp only[fZ] at bO
             rcases bO with bO|bO|bO
             · simp[bO]
             · simp[bO]
             · rw[cm,uE z bO];simp
           obtain ⟨_,pages,da,cI⟩:=aoM pk dH zq UP KV wF cW a3
           refine ⟨_,_,_,rfl,conv _ _ ⟨sB,gk,m++ [x,y]++ [no],l++ [(wl[0]).no],aM,abM, .inr (.inl ⟨no,e_.bn+1,pages,rfl,?_,?_,by omega,by omega⟩)⟩⟩
           · rw[abJ,show wl.length+1=wl.length-1+2 by omega];exact da
           · rw[DX] at vR tm cI⊢
             intro z
             have:=vR z
             have:=tm z
             have:=cI z
             simp only[EV,G8,G9] at*
             omega
         · refine ⟨_,_,_,rfl,conv _ _ ⟨sB,gk,m++ [x,y]++ [no],l++ [(wl[0]).no],aM,abM, .inr (.inr ⟨_,_,rfl,fun al=>KV (lP.to.calm 1 (vQ.to.calm 3 (nt al (by omega))))⟩)⟩⟩
     · refine ⟨iq,_,_,3,rfl,fun _=>conv _ _ ⟨e_,bd,m++ms,l++ [(wl[0]).no],jN,Pm.mono (by omega), .inr (.inr ⟨0,0,rfl,abH 2 (by omega) fk⟩)⟩,fun h=>(by cases h)⟩
   · rw[if_neg b7]
     have h4:i-1<wl.length:=by omega
     obtain ⟨avO,abN,_,_,_,hu⟩:=UN.at h4
     rw[UK] at abN
     obtain rfl:=Option.some.inj abN
     obtain ⟨u,UR⟩:∃u,u=wl[i-1]:=⟨_,rfl⟩
     rw[←UR] at hu
     have gW:(wl.take i).map gE.st=(wl.take (i-1)).map gE.st++ [u.st]:=by
       have:wl.take i=wl.take (i-1)++ [wl[i-1]]:=by
         have e:i-1+1=i:=by omega
         rw[←qx h4,e]
       rw[this,oc,UR];rfl
     obtain ⟨DT,DU,Br,yz,DV,ps,dB,dZ,mF,lH,oL,Gf,ub,zr,Bx⟩:=Ctx.up I.ctx gW I.wy I.UI.t.DW I.sz
     have Pl:wl.length-i+1=wl.length-(i-1):=by omega
     rw[Pl] at dB zr Bx
     have US:=(I.UI.t.lK _ _ mF).2.is
     have avP:=US.2.1.iS (by omega)
     have uE:=I.abv
     have Lr:=aoe zp Lp hu j7.1 (by have:=I.sz;omega) (fun _=>j7) (fun Gg=>by
       obtain ⟨o,no,rest,da,cI,eM,e7,iu,lk,_⟩:=Bx Gg
       exact ⟨o,no,da,by rw[cp];exact cI,eM,e7,iu,lk⟩) (by omega) (by omega) abG (by omega) (by omega)
     rw[pR] at Lr
     refine Lr.use ?_
     rintro v oC du
     have JZ:0<u.n.keys.length:=List.length_pos_iff.2 Gf
     have aoU:dz.n≤1600:=zp.t.s.db
     have Ls:∀ {e_:aZ} {bd:gK} {ms ls:List Nat} {w':World} {aoW:Nat},fU dz e_ bA bd ms ls dJ w' aoW→∀x,av.f x=true→av.P x=e_.P x:=fun gL x af=>by
       rw[←cp]
       exact ((gL.hL x (by rw[cm,af];rfl)).1).symm
     have fw:(∃ (e_:aZ) (bd:gK) (ms ls:List Nat) (s:aa) (a b:Int),v= .tuple #[.slice s.a s.len s.cap, .int .i64 a, .int .i64 b, .int .i64 3]∧fT oC e_ bd∧fU dz e_ bA bd ms ls dJ oC 4∧¬dz.C.D.calm 4)∨
         (∃ (e_:aZ) (bd:gK) (ms ls rest:List Nat) (s:aa) (By zt:Nat) (ks:List Key) (iO:List Nat) (M2:List bl),v= .tuple #[.slice s.a s.len s.cap, .int .i64 (By:Nat), .int .i64 (zt:Nat), .int .i64 0]∧fT oC e_ bd∧fU dz e_ bA bd ms ls dJ oC 4∧ms.length≤2∧ls.length≤1∧xC (fun q=>¬e_.M q) oC s ks ms∧
           fH e_.P (wl.length-(i-1)) (ml u.n By zt ks ms) DT DU iO M2∧yz++(M2++DV)=A++(M++B)∧iO.Perm (ms++(rest++q))∧ps.Perm (ls++rest)∧cq (ml u.n By zt ks ms)≤cq u.n+27∧u.n.keys.length≤(ml u.n By zt ks ms).keys.length+1∧
           By≤u.n.keys.length∧1≤zt∧zt≤u.n.kids.length):=by
       rcases du with ⟨zo,s,e,rfl,aG⟩|⟨Gg,e_,bd,rfl,aB,aF,aJ⟩|⟨Gg,o,no,avQ,avR,avS,s,e,k_,Bz,abO,rfl,aG⟩
       · obtain ⟨e_,bd,ms,jN,lP,vN,eZ⟩:=aG.cs
         rcases eZ with ⟨rfl,ks,zq,Bw⟩|⟨rfl,fk⟩
         · obtain ⟨iO,M2,da,cI,eM,e7,iu⟩:=zr zo e_.P ks ms zq (fun x af=>Ls lP x (uE x (by
             rw[dZ]
             simp only[fa,fZ] at af⊢
             rcases af with af|af
             · exact .inr (.inr (.inl af))
             · exact .inl af))) (fun x af=>by have:=(lP.te x af).2;omega)
           exact .inr ⟨e_,bd,ms,[],ps,s,u.e3,u.e3+1,ks,iO,M2,rfl,jN,lP.mono (by omega),vN,fm _,Bw,da,cI,eM,List.Perm.refl _,e7,iu,by omega,by omega,by omega⟩
         · exact .inl ⟨e_,bd,ms,[],s,_,_,rfl,jN,lP.mono (by omega),fun al=>fk (nt al (by omega))⟩
       · exact .inl ⟨e_,bd,[],[],bX,0,0,rfl,aB,aF.mono (by omega),fun al=>aJ (nt al (by omega))⟩
       · obtain ⟨lE,abP,rest,da,cI,eM,e7,iu,lk,k4,nX⟩:=Bx Gg
         rw[da] at k_
         obtain rfl:=Option.some.inj k_
         rw[cp,cI] at Bz
         obtain rfl:=Option.some.inj Bz
         obtain ⟨e_,bd,ms,jN,lP,vN,eZ⟩:=aG.cs
         have DZ:=abO.trans lP
         simp only[rl,mh] at DZ
         rcases eZ with ⟨rfl,ks,zq,Bw⟩|⟨rfl,fk⟩
         · obtain ⟨iO,M2,d1,d2,d3,d4,d5⟩:=nX e_.P ks ms zq (fun x af=>Ls DZ x (uE x (by
             rw[dZ]
             simp only[fa,fZ] at af⊢
             rcases af with af|af
             · exact .inr (.inr (.inl (k4.mem_iff.2 (uT _ af))))
             · exact .inl af))) (fun x af=>by have:=(DZ.te x af).2;omega)
           refine .inr ⟨e_,bd,ms,[abP],rest,s,u.e3-1,u.e3-1+2,ks,iO,M2,rfl,jN,DZ,vN,cR _,Bw,d1,d2,d3,k4,d4,d5,by omega,by omega,?_⟩
           rcases G_ u.e3 with aY|aY<;>omega
         · exact .inl ⟨e_,bd,ms,[abP],s,_,_,rfl,jN,DZ,fun al=>fk (abO.to.calm 2 al)⟩
     clear du
     rcases fw with ⟨e_,bd,ms,ls,iq,a,b,rfl,jN,lP,fk⟩|⟨e_,bd,ms,ls,rest,iq,By,zt,ks,iO,M2,rfl,jN,lP,vN,aoX,Bw,v1,v2,v3,v4,v5,v6,aoY,Sg,v9⟩
     · exact ⟨iq,_,_,3,rfl,fun _=>conv _ _ ⟨e_,bd,_,_,jN,(vQ.trans lP).mono (by omega), .inr (.inr ⟨0,0,rfl,abH 4 (by omega) fk⟩)⟩,fun h=>(by cases h)⟩
     · refine ⟨iq,_,_,0,rfl,fun h=>(by cases h),fun _=>⟨fun h=> ?_,fun _=> ?_⟩⟩
       · have:((i:Nat):Int)=0:=by simpa using h
         omega
       have Lt:=hu.to lP.to
       refine ⟨_,rfl,_,Lt.aV,u.K,Lt.bA,u.V,Lt.bd,u.D,Lt.gk,(zd Lt.dE Bw (fr:=By) (to:=zt) aoY (by omega) Sg v9 (by omega) (by omega) (by omega)).use ?_⟩
       rintro _ zu ⟨c_,c6,dv,rfl,aoZ,Lu⟩
       have abQ:=UM.an lP.to.an (zp.t.uc th)
       have abR:=abQ.ext Lu
       refine ⟨_,c_,c6,dv,rfl,abR.dC rfl lr,rfl,eo abR (us:=g4 (ml u.n By zt ks ms) c_ c6 dv) rfl rfl fun tn UT Lv avT=>⟨⟨i-1,e_,bd,m++ms,l++ [(wl[i]).no]++ls,ml u.n By zt ks ms,c_,c6,dv,DT,DU,Br,yz,DV,iO,M2,ps++((wl[i]).no::r),?_,?_⟩,?_⟩⟩
       · rw[cz (by omega) (by omega)];omega
       · have abS:e_.E pj:=by rw[lP.E];exact th
         have UU:e_.M pj:= .inr (.inr (.inr (.inl abS)))
         have UW:=(vQ.trans lP).trans (fU.ext e_ bd Lu)
         simp only[mh] at UW
         have ao0:b_ cE e_ ag tn (4*(wl.length-1-i)+4+0):=UW.to.step (E:=e_.E) (G:=e_.G) Lv (fun q e az=>by omega) (fun q J=> .inl J) fun q J=> .inl J
         have Iv:∀x,av.f x=true→e_.f x=true:=fun x af=>by rw[lP.f,cm,af];rfl
         have Pn:=UN.to lP.to
         refine ⟨h4,(jN.ext Lu).abs Lv fun q e=> .inl (by rw[e];exact abS),{UW.mono (j:=4*(wl.length-1-(i-1))) (by omega) with to:=ao0.mono (by omega)},?_,?_,UT,?_,?_,dB.agree fun x af=>Ls lP x (uE x (by rw[dZ];simp[af])),v1,by rw[v2];exact I.eq,?_,rW (Bt I.acc) v3 v4,by omega,fun U e=> ?_,fun x af=> ?_⟩
         · rw[dO];have:=I.Pj;omega
         · rw[dO,dO,rm];have:=I.abu;omega
         · refine (cg.an aoZ Lv fun q J e=> ?_).bz fun q _ J hm=> ?_
           · subst e
             rcases J with J|J
             · exact J UU
             · have:=abQ.lt;omega
           · rcases J with J|J
             · exact J hm
             · have:=jN.t.lt hm;omega
         · refine ⟨(Pn.own.ext Lu).an Lv fun q J e=>Pn.FL q J (by rw[e];exact UU),Pn.FL,fun x af=>cg.an ((Pn.dE x af).ext Lu) Lv fun q J e=>J (by rw[e];exact UU)⟩
         · have this:de.Perm ((wl[i]'abz).no::(r++hK)):=I.pp
           rw[dZ] at this
           rw[←UR]
           exact Bu this
         · have ad:=ub (fun bw=>by
             have:=congrArg List.length bw
             rw[mj,ej,uW] at this
             omega)
           rw[e,uW] at v6
           omega
         · rcases fa.1 af with af|af
           · have:=v3.mem_iff.1 af
             rcases fa.1 this with af|af
             · rw[lP.f];simp[af]
             · rcases fa.1 af with af|af
               · refine Iv x (uE x ?_)
                 rw[dZ]
                 have:x∈ps:=v4.mem_iff.2 (p4 _ af)
                 simp[this]
               · exact Iv x (uE x (by simp[af]))
           · exact Iv x (uE x (by rw[dZ];simp[af]))
       · rw[cz (by omega) (by omega)]
         show (((i:Nat):Int)-1+1).toNat<(((i:Nat):Int)+1).toNat
         omega
end
section
theorem ao1 {w:World} {T:aZ} {c:gK} {iK:List bl} {n:aL} {K V D ws:aa} (ao2:ws.len=0) (h:fT w T c) (aC:cg (fun q=>¬T.M q) w n K V D) (gC:T.C.D.cX≤900000000) (jI:2≤fM T) (Av:c.made.length≤100) (hle:c.left=[])
   (Iy:oe n) (ae:n.keys≠ []) (dH:cq n≤232) (heq:n.gQ=iK):
   aO Tryz.prog F.xO #[.pointer (some ⟨c.dp,0,none⟩), .slice ws.a ws.len ws.cap,fc n K V D] w (Bs T c [] iK w):=by
 refine W.abx (some ⟨c.dp,0,none⟩) ws n.leaf K V D w _ ?_
 (delta W.xO bV ai aq dx aD aA a6 bK st Iw Gd jy gk;dsimp only)
 refine cx (vs:=g4 n K V D) rfl fun ag gg bG kO=> ?_
 obtain ⟨cJ,aV,bA,bd⟩:=cl gg
 refine ⟨_,cJ,K,aV,V,bA,D,bd,cx (vs:=[.bool false, .slice none 0 0, .slice none 0 0, .slice none 0 0]) rfl fun bf wW ky Oe=>⟨wW.dC rfl lr,rfl,eo wW (us:=g4 n K V D) rfl rfl fun a7 Ix qP YW=> ?_⟩⟩
 have eR:Ext w a7:=bG.trans (Ext.fb ky qP (cR _))
 refine ⟨fun n10 w'=>n10= -1∧a7=w',fun _ _=>0,⟨by rw[ao2];decide,rfl⟩,?_⟩
 rintro _ _ ⟨rfl,rfl⟩
 refine ⟨fun h=>by simp at h,fun _=> ?_⟩
 obtain ⟨d0,d1,d2,d3⟩:=cl Ix
 refine ⟨_,d0,K,d1,V,d2,D,d3,(aaC (h.ext eR) (by omega) (by omega) (by omega) (aC.ext eR) (.inl Iy) dH).use ?_⟩
 intro v w' ak
 obtain ⟨s,e,rfl⟩:=ak.out
 obtain ⟨av,c',m,pc,gL,hm,eZ⟩:=(ak.base eR).cs
 rcases eZ with ⟨rfl,ks,zq,Bw⟩|⟨rfl,fk⟩
 · refine ⟨s,0,rfl,fun h=>(by cases h),fun _=> ?_⟩
   rcases zq with ⟨_,x,rfl,rfl,af⟩|⟨avU,_⟩
   · rcases Bw with ⟨b,UQ,rfl,_,e,ak,_⟩|⟨b,UQ,aoV,lL,Fm,rfl,e,_⟩
     · obtain rfl:x=UQ:=by simpa using e
       refine ⟨_,rfl,⟨by decide,by show (0:Int)<((1:Nat):Int);decide⟩,_,by rw[aX,aX];exact ak.cell,av,c',[x],[],pc,gL.mono (by omega), .inr (.inl ⟨x,1,[x],rfl,⟨n,af,Iy,fun k ae=>⟨fun _ e=>(by cases e),fun _ e=>(by cases e)⟩,ae,rfl,heq.symm⟩,List.Perm.refl _,cR _,by omega⟩)⟩
     · cases e
   · omega
 · exact ⟨s,3,rfl,fun _=>⟨av,c',m,[],pc,gL.mono (by omega), .inr (.inr ⟨0,0,rfl,fun al=>fk (nt al (by omega))⟩)⟩,fun h=>(by cases h)⟩
end
section
def aZ.Gh (T:aZ) (r h:Nat):aZ:={T with root:=r,bn:=h}
theorem c1.ao3 {w w':World} {T:aZ} {r h:Nat} (aR:c1 w T) (ak:Var w' T.bQ (Dt (T.Gh r h)) ah.FH) (al:ao (fun q=>q=T.bQ) w w') (aN:r<T.n) (cS:h≤12):c1 w' (T.Gh r h)∧b_ T (T.Gh r h) w w' 0:=
 ⟨⟨ak,aR.s.an al fun q J e=>aR.y9 (e▸J),aR.pP.an al fun q e=> .inl e,aR.y9,aR.gD,aR.rL,aR.n,⟨aN,cS,aR.num.2.2⟩,aR.lK⟩,
   ⟨rfl,rfl,rfl,rfl,rfl,rfl,rfl,rfl,rfl,rfl,cR _,fun _ h=>h,al.mono fun q _ e=> .inr (.inl e),fun q h=> .inl h,fun q h=> .inl h⟩⟩
def mN (T:aZ) (pages:List Nat) (L:List bl):Prop:=(T.bn=0∧T.root=0∧pages=[]∧L=[])∨hN T.P T.bn none none T.root pages L
def Po (T:aZ) (de:List Nat) (iK:List bl) (w:World) (v:Value) (w':World):Prop:=
 ∃av:aZ,c1 w' av∧b_ T av w w' 60∧av.E=T.E∧av.G=T.G∧
   ((v= .int .i64 2∧fM T<2*T.bn+3∧av=T)∨
    (v= .int .i64 0∧2*T.bn+3≤fM T∧(∃pages,mN av pages iK∧pages.Nodup∧(∀no∈pages,no∈de∨(T.f no||T.g no)=false)∧∀no,av.f no=true↔(no∈pages∨(T.f no=true∧no∉de)))∧∀no,T.g no=true→av.P no=T.P no∧av.C.view no=T.C.view no)∨
    (v= .int .i64 3∧¬T.C.D.calm 60∧av.root=T.root∧av.bn=T.bn∧av.f=T.f∧∀no,(T.f no||T.g no)=true→av.P no=T.P no∧av.C.view no=T.C.view no))
theorem abT {l:List Nat} (h:∀x,l.count x≤1):l.Nodup:=List.nodup_iff_count.2 h
theorem ao4 {w:World} {T:aZ} {s:aa} {de:List Nat} {iK:List bl} {n:aL} {K V D:aa} (h:c1 w T) (gC:T.C.D.cX≤900000000) (cS:T.bn<12) (SV:de.Nodup) (vE:∀x∈de,T.f x=true) (avV:de.length≤5000)
   (ao5:∀ (c7 i_:Nat→Prop) (ag:World) (aV:gK),fT ag (T.dw c7 i_) aV→b_ T (T.dw c7 i_) w ag 0→2*T.bn+3≤fM T→aV.made=[]→aV.left=[]→aO Tryz.prog F.xO #[.pointer (some ⟨aV.dp,0,none⟩), .slice s.a s.len s.cap,fc n K V D] ag (Bs (T.dw c7 i_) aV de iK ag)):
   aO Tryz.prog F.xQ #[.pointer (some ⟨T.bQ,0,none⟩), .slice s.a s.len s.cap,fc n K V D] w (Po T de iK w):=by
 have nk:=h.s.db
 refine W.ao6 (some ⟨T.bQ,0,none⟩) s n.leaf K V D w _ ?_
 (delta W.xQ bK aV aA aD st ai bV aq Iw bA;dsimp only)
 refine cx (vs:=g4 n K V D) rfl fun ag gg bG kO=>cx (vs:=[.int .i64 0]) rfl fun aw abU cB mB=>bN ?_
 have bD:Ext aw aw.drew:=dT _
 obtain ⟨aS,nh⟩:∃aS,aS=aw.drew:=⟨_,rfl⟩
 rw[←nh] at bD⊢
 have h6:=(bG.trans cB).trans bD
 have au:=h.ext h6
 obtain ⟨bC,UX⟩:∃bC,bC=ag.heap.size:=⟨_,rfl⟩
 rw[←UX] at abU⊢
 refine ⟨fun _=>False,_,rfl,id,_,au.cells.2.1,_,rfl,id,_,au.cells.2.2.2.2,(Tc au.s).use ?_⟩
 rintro _ bY ⟨rfl,m5⟩
 have J3:=h6.trans m5
 have Lw:=(abU.ext bD).ext m5
 have Lx:((T.n:Int)-mH (fun i=>T.f i||T.g i) T.n)=(fM T:Nat):=by
   have:=H2 (fun i=>T.f i||T.g i) T.n
   unfold fM;omega
 have tS:IntKind.wrap .i64 (IntKind.wrap .i64 (2*((T.bn:Nat):Int))+3)=((2*T.bn+3:Nat):Int):=by
   rw[cz (n:=2*((T.bn:Nat):Int)) (by omega) (by omega),cz (by omega) (by omega)];omega
 rw[Lx,tS]
 refine ⟨_,rfl,m5,fun ab=> ?_,fun ab=> ?_⟩
 · have ab:((fM T:Nat):Int)<((2*T.bn+3:Nat):Int):=dG ab
   obtain ⟨aB,aF⟩:=jk Lw (i:=0) (by simp)
   have ec:=il bY bC 0 (.int .i64 2)
   have ak:=jj Lw (i:=0) (.int .i64 2)
   have CL:=Ext.fb J3 ec (by omega)
   exact ⟨aB,aF,bN ⟨2,ak.cell,T,h.ext CL,(b_.ext T CL).mono (by omega),rfl,rfl, .inl ⟨rfl,by omega,rfl⟩⟩⟩
 have jI:2*T.bn+3≤fM T:=by
   have:¬((fM T:Nat):Int)<((2*T.bn+3:Nat):Int):=eW ab
   omega
 refine cx (vs:=[.pointer (some ⟨T.bQ,0,none⟩), .slice none 0 0, .slice none 0 0]) rfl fun cZ gw Gi OY=>cx (vs:=[.pointer none]) rfl fun fg UY oy aaV=> ?_
 obtain ⟨dp,rO⟩:∃dp,dp=bY.heap.size:=⟨_,rfl⟩
 obtain ⟨kH,O3⟩:∃kH,kH=cZ.heap.size:=⟨_,rfl⟩
 rw[←rO] at gw⊢
 rw[←O3] at UY⊢
 obtain ⟨aB,aF⟩:=jk UY (i:=0) (by simp)
 have Pp:=il fg kH 0 (.pointer (some ⟨dp,0,none⟩))
 have UZ:=jj UY (i:=0) (.pointer (some ⟨dp,0,none⟩))
 refine ⟨aB,aF,bN ?_⟩
 obtain ⟨cV,ao7⟩:∃cV,cV=fg.setCell ⟨kH,0,none⟩ (.pointer (some ⟨dp,0,none⟩)):=⟨_,rfl⟩
 rw[←ao7] at Pp UZ⊢
 have HC:=J3.size
 have abV:=Pp.size
 have U0:Ext bY cV:=Ext.fb (Gi.trans oy) Pp (by omega)
 have abW:=J3.trans U0
 have abX:=Lw.ext U0
 have oJ:=(gw.ext oy).an Pp (by omega)
 have Pq:=((gg.ext cB).ext bD).ext (m5.trans U0)
 obtain ⟨c7,lp⟩:∃c7,c7=fun q=>T.E q∨q=bC:=⟨_,rfl⟩
 obtain ⟨i_,AP⟩:∃i_,i_=fun q=>T.G q∨q=dp:=⟨_,rfl⟩
 have pU:∀q,c7 q→T.E q∨q=bC:=fun q J=>by rw[lp] at J;exact J
 have Pr:∀q,i_ q→T.G q∨q=dp:=fun q J=>by rw[AP] at J;exact J
 have m4:∀q,T.E q→c7 q:=fun q J=>by rw[lp];exact .inl J
 have ao8:∀q,T.G q→i_ q:=fun q J=>by rw[AP];exact .inl J
 have U1:c7 bC:=by rw[lp];exact .inr rfl
 have ao9:i_ dp:=by rw[AP];exact .inr rfl
 have avW:=abX.lt
 have avX:=oJ.lt
 have uG:c1 cV (T.dw c7 i_):=h.grow (W:=fun _=>False) abW (fun _ h=>h.elim) (fun q J=>(pU q J).imp id fun e=> .inr ⟨by omega,by omega⟩) (fun q J=> .inr ((Pr q J).imp id fun e=>⟨by omega,by omega⟩)) fun q J bg=>by
   rcases pU q J with U|U<;>rcases Pr q bg with ad|ad
   · exact (h.gD q U).2.2 ad
   · have:=h.lt (q:=q) (.inr (.inr (.inr (.inl U))));omega
   · have:=h.lt (q:=q) (.inr (.inr (.inr (.inr ad))));omega
   · have:=Lw.lt;omega
 have Gj:b_ T (T.dw c7 i_) w cV 0:=(b_.refl T w).step (W:=fun _=>False) abW (fun _ h=>h.elim) (fun q J=>(pU q J).imp id fun e=> .inr (by omega)) fun q J=>(Pr q J).imp id fun e=>by omega
 have ao_:fT cV (T.dw c7 i_) ⟨dp,bX,bX,[],[]⟩:=⟨uG,oJ,b3.none _ _ _,b3.none _ _ _,ao9,fun q J=>(qF q J).elim,fun q J=>(qF q J).elim⟩
 have vc:=ao5 c7 i_ cV _ ao_ Gj jI rfl rfl
 obtain ⟨cJ,aV,bA,bd⟩:=cl Pq
 refine ⟨_,UZ.cell,_,cJ,K,aV,V,bA,D,bd,vc.use ?_⟩
 rintro v dJ ⟨cE,zv,m,l,qe,gL,eZ⟩
 have Ly:cE.E bC:=by rw[gL.E];exact U1
 have Ps:=abX.an gL.to.an (uG.uc U1)
 have Tw:¬(T.dw c7 i_).N kH:=by
   have AY:dp<kH:=by rw[rO,O3];omega
   rintro (J|J|J|J)
   · have:=h.lt (q:=kH) (.inl J);omega
   · have:=h.lt (q:=kH) (.inr (.inl J));omega
   · have:=h.lt (q:=kH) (.inr (.inr (.inl J)));omega
   · rcases Pr kH J with U|U
     · have:=h.lt (q:=kH) (.inr (.inr (.inr (.inr U))));omega
     · omega
 have abY:=UZ.an gL.to.an Tw
 have Pt:zv.dp=dp:=gL.dp
 have avY:cE.bQ=T.bQ:=gL.to.bQ
 have Pu:zv.made=m:=gL.made
 have Pv:zv.left=l:=gL.left
 have Iz:kH≠bC:=by have:=Lw.lt;omega
 have xP:b_ T cE w dJ 60:=(Gj.trans gL.to).mono (by omega)
 have fin:∀ (w':World) (av:aZ),c1 w' av→b_ T av w w' 60→av.E=c7→(∀q,T.G q→av.G q)→c1 w' (av.dw T.E T.G)∧b_ T (av.dw T.E T.G) w w' 60:=by
   intro w' av al aR fJ hF
   exact ⟨al.grow (W:=fun _=>False) (ao.refl _ _) (fun _ h=>h.elim) (fun q J=> .inl (by rw[fJ];exact m4 q J)) (fun q J=> .inr (.inl (hF q J))) fun q J=>(h.gD q J).2.2,
     aR.step (W:=fun _=>False) (ao.refl _ _) (fun _ h=>h.elim) (fun q J=> .inl (by rw[fJ];exact m4 q J)) fun q J=> .inl (hF q J)⟩
 have abZ:∀q,T.G q→cE.G q:=fun q J=>gL.G q (ao8 q J)
 have xn:=(bG).size
 have U2:∀ (bJ:World) (av:aZ) (c':gK) (x:Int),fT bJ av c'→b_ T av w bJ 60→av.E bC→fT (bJ.setCell ⟨bC,0,none⟩ (.int .i64 x)) av c'∧b_ T av w (bJ.setCell ⟨bC,0,none⟩ (.int .i64 x)) 60:=fun bJ av c' x al aR he=>
   ⟨al.abs (il bJ bC 0 _) fun q e=> .inl (by rw[e];exact he),aR.step (E:=av.E) (G:=av.G) (il bJ bC 0 _) (fun q e az=>by omega) (fun q J=> .inl J) fun q J=> .inl J⟩
 have avZ:m.length≤1600:=by
   have:=gL.room
   have:fM (T.dw c7 i_)≤T.n:=by unfold fM;exact Nat.sub_le _ _
   omega
 have apa:(∃a b:Int,v= .tuple #[.int .i64 a, .int .i64 b, .int .i64 3]∧¬T.C.D.calm 60)∨(∃ (root cS:Nat) (pages:List Nat),v= .tuple #[.int .i64 (root:Nat), .int .i64 (cS:Nat), .int .i64 0]∧((cS=0∧root=0∧pages=[]∧iK=[])∨hN cE.P cS none none root pages iK)∧(pages++l).Perm (m++de)∧cS≤12):=by
   rcases eZ with ⟨rfl,U,ad⟩|⟨root,cS,pages,rfl,U,ad,au,aH⟩|⟨a,b,rfl,fk⟩
   · exact .inr ⟨0,0,[],rfl, .inl ⟨rfl,rfl,rfl,U⟩,ad,by omega⟩
   · have aH:cS≤T.bn+1:=aH
     exact .inr ⟨root,cS,pages,rfl, .inr U,ad,by omega⟩
   · exact .inl ⟨a,b,rfl,fk⟩
 rcases apa with ⟨a,b,rfl,fk⟩|⟨root,qa,pages,rfl,apb,oZ,m6⟩
 ·
   obtain ⟨aB,aF⟩:=jk Ps (i:=0) (by simp)
   have D1:=jj Ps (i:=0) (.int .i64 3)
   obtain ⟨Pw,Px⟩:=U2 dJ cE zv 3 qe xP Ly
   have Lz:=abY.an (il dJ bC 0 (.int .i64 3)) Iz
   refine ⟨a,b,3,rfl,aB,aF,bN ⟨3,D1.cell,fun _=>⟨3,D1.cell,?_⟩,fun af=>(by cases af)⟩⟩
   obtain ⟨aJ,aM⟩:=jk D1 (i:=0) (by simp)
   have U3:=jj D1 (i:=0) (.int .i64 3)
   obtain ⟨ab0,ab1⟩:=U2 _ cE zv 3 Pw Px Ly
   have U4:=Lz.an (il _ bC 0 (.int .i64 3)) Iz
   refine ⟨aJ,aM,bN (W.ab2 ⟨bC,0,none⟩ ⟨kH,0,none⟩ _ _ ?_)⟩
   generalize av0:(dJ.setCell ⟨bC,0,none⟩ (.int .i64 3)).setCell ⟨bC,0,none⟩ (.int .i64 3)=fB at U3 ab0 U4 ab1⊢
   (delta W.zw bK aA aq bA;dsimp only)
   have nz:Ext fB fB.drew:=dT _
   have rM:=ab0.ext nz
   have LA:=abk rM rM.nw.src (fun q J=>(rM.td q J).1) (l:=zv.made) (fun x af=>by rw[Pu] at af;rw[gL.f];simp[af]) (by rw[Pu];exact gL.dE) (by rw[Pu];omega)
   rw[Pt] at LA
   have LB:=rM.cells.2.1
   rw[Pt] at LB
   refine ⟨3,U3.cell,fun _=>bN ⟨id,_,U4.drew.cell,id,_,U4.drew.cell,_,rfl,id,zv.nw,LB,LA.use ?_⟩,fun af=>(by cases af)⟩
   rintro _ a7 ⟨rfl,dz,dS,bg⟩
   rw[Pu] at bg
   have apc:=(U3.ext nz).an bg.to.an (rM.t.uc Ly)
   have apd:b_ T dz w a7 60:=((ab1.trans (b_.ext cE nz)).trans bg.to).mono (by omega)
   obtain ⟨f1,f2⟩:=fin a7 dz dS.t apd (by rw[bg.E];exact gL.E) fun q J=>by rw[bg.G];exact abZ q J
   refine ⟨rfl,3,apc.cell,_,f1,f2,rfl,rfl, .inr (.inr ⟨rfl,fk,bg.root.trans gL.root,bg.bn.trans gL.bn,?_,fun no dc=> ?_⟩)⟩
   · funext no
     show dz.f no=T.f no
     rw[bg.f,gL.f]
     by_cases hm:no∈m
     · have:=(gL.te no hm).1
       have e:(T.dw c7 i_).f no=T.f no:=rfl
       rw[e] at this⊢
       cases Db:T.f no
       · simp[hm]
       · rw[Db] at this;cases this
     · simp[hm];rfl
   · have hm:no∉m:=fun hm=>by
       have:=(gL.te no hm).1
       have e:((T.dw c7 i_).f no||(T.dw c7 i_).g no)=(T.f no||T.g no):=rfl
       rw[e,dc] at this;cases this
     have U:=bg.hL no (.inl hm)
     have ad:=gL.hL no dc
     exact ⟨U.1.trans ad.1,U.2.trans ad.2⟩
 ·
   have IA:∀x,pages.count x+l.count x=m.count x+de.count x:=fun x=>by
     have:=DX.1 oZ x
     simpa only[EV] using this
   have Py:∀x,m.count x+de.count x≤1:=fun x=>by
     have U:=List.nodup_iff_count.1 gL.dE x
     have ad:=List.nodup_iff_count.1 SV x
     rcases G_ (m.count x) with au|au
     · omega
     · rcases G_ (de.count x) with aH|aH
       · omega
       · have hm:=tM.1 au
         have aW:=tM.1 aH
         have:=(gL.te x hm).1
         have e:((T.dw c7 i_).f x||(T.dw c7 i_).g x)=(T.f x||T.g x):=rfl
         rw[e,vE x aW] at this;cases this
   have hlen:pages.length+l.length=m.length+de.length:=by
     have:=oZ.length_eq
     simpa only[dO] using this
   have di:∀x∈l,cE.f x=true:=fun x af=>by
     have U:=tM.2 af
     have ad:=IA x
     rw[gL.f]
     rcases G_ (m.count x) with au|au
     · have:x∈de:=tM.1 (by omega)
       have e:(T.dw c7 i_).f x=T.f x:=rfl
       rw[e,vE x this];rfl
     · have:x∈m:=tM.1 au
       simp[this]
   have ape:l.Nodup:=abT fun x=>by have:=IA x;have:=Py x;omega
   obtain ⟨aB,aF⟩:=jk Ps (i:=0) (by simp)
   have D1:=jj Ps (i:=0) (.int .i64 0)
   obtain ⟨Pw,Px⟩:=U2 dJ cE zv 0 qe xP Ly
   have Lz:=abY.an (il dJ bC 0 (.int .i64 0)) Iz
   refine ⟨_,_,0,rfl,aB,aF,bN ⟨0,D1.cell,fun af=>(by cases af),fun _=>bN ?_⟩⟩
   generalize av1:dJ.setCell ⟨bC,0,none⟩ (.int .i64 0)=mY at D1 Pw Lz Px⊢
   have nz:Ext mY mY.drew:=dT _
   have rM:=Pw.ext nz
   have LA:=abk rM rM.l8.src (fun q J=>(rM.vH q J).1) (l:=zv.left) (fun x af=>di x (by rw[Pv] at af;exact af)) (by rw[Pv];exact ape) (by rw[Pv];omega)
   rw[Pt] at LA
   have LB:=rM.cells.2.2
   rw[Pt] at LB
   refine ⟨id,_,Lz.drew.cell,id,_,Lz.drew.cell,_,rfl,id,zv.l8,LB,LA.use ?_⟩
   rintro _ jR ⟨rfl,dz,dS,bg⟩
   rw[Pv] at bg
   have apf:=(D1.ext nz).an bg.to.an (rM.t.uc Ly)
   have ab3:b_ T dz w jR 60:=((Px.trans (b_.ext cE nz)).trans bg.to).mono (by omega)
   have U5:dz.bQ=T.bQ:=ab3.bQ
   have wP:dz.E=c7:=by rw[bg.E];exact gL.E
   have apg:dz.E bC:=by rw[wP];exact U1
   have ab4:Var jR T.bQ (Dt dz) ah.FH:=by rw[←U5];exact dS.t.t
   obtain ⟨dB,dZ⟩:=jk ab4 (i:=3) (by simp[Dt])
   have ab5:=jj ab4 (i:=3) (.int .i64 (root:Nat))
   have aph:=il jR T.bQ 3 (.int .i64 (root:Nat))
   obtain ⟨mF,lH⟩:=jk ab5 (i:=4) (by simp[Dt])
   have ab6:=jj ab5 (i:=4) (.int .i64 (qa:Nat))
   have api:=il (jR.setCell ⟨T.bQ,3,none⟩ (.int .i64 (root:Nat))) T.bQ 4 (.int .i64 (qa:Nat))
   refine ⟨rfl,_,rfl,by rw[aX];exact dB,by rw[aX];exact dZ,bN ⟨_,rfl,by rw[aX,aX];exact mF,by rw[aX,aX];exact lH,bN ?_⟩⟩
   rw[aX,aX,gy,gy]
   have U6:ao (fun q=>q=T.bQ) jR ((jR.setCell ⟨T.bQ,3,none⟩ (.int .i64 (root:Nat))).setCell ⟨T.bQ,4,none⟩ (.int .i64 (qa:Nat))):=aph.trans api
   generalize apj:(jR.setCell ⟨T.bQ,3,none⟩ (.int .i64 (root:Nat))).setCell ⟨T.bQ,4,none⟩ (.int .i64 (qa:Nat))=jr at ab6 U6⊢
   have lq:∀x∈pages,x∉l:=fun x af az=>by
     have U:=tM.2 af
     have ad:=tM.2 az
     have:=IA x
     have:=Py x
     omega
   have ab7:(qa=0∧root=0∧pages=[]∧iK=[])∨(hN dz.P qa none none root pages iK∧root∈pages):=apb.imp id fun hw=>hw.agree fun x af=>((bg.hL x (.inl (lq x af))).1).symm
   have apk:root<dz.n:=by
     rcases ab7 with ⟨_,U,_⟩|⟨U,_⟩
     · have:=dS.t.s.dt;omega
     · obtain ⟨dE,_,ad,_⟩:=U.wy
       exact (dS.t.lK _ _ ad).1
   have apl:Var jr dz.bQ (Dt (dz.Gh root qa)) ah.FH:=by rw[U5];exact ab6
   obtain ⟨apm,apn⟩:=dS.t.ao3 apl (by rw[U5];exact U6) apk m6
   have apo:bC≠T.bQ:=fun e=>by have:=h.lt (q:=T.bQ) (.inr (.inl rfl));omega
   have ab8:=apf.an U6 apo
   obtain ⟨cU,vG⟩:=jk ab8 (i:=0) (by simp)
   have ab9:=jj ab8 (i:=0) (.int .i64 0)
   have ab_:=il jr bC 0 (.int .i64 0)
   refine ⟨cU,vG,bN (W.ab2 ⟨bC,0,none⟩ ⟨kH,0,none⟩ _ _ ?_)⟩
   (delta W.zw bK aA aq bA;dsimp only)
   refine ⟨0,ab9.cell,fun af=>(by cases af),fun _=>⟨0,ab9.cell,?_⟩⟩
   have apq:c1 (jr.setCell ⟨bC,0,none⟩ (.int .i64 0)) (dz.Gh root qa):=apm.grow (E:=dz.E) (G:=dz.G) ab_ (fun q e _=> .inl (by rw[e];exact apg)) (fun q J=> .inl J) (fun q J=> .inr (.inl J)) fun q J=>(dS.t.gD q J).2.2
   have apr:b_ T (dz.Gh root qa) w (jr.setCell ⟨bC,0,none⟩ (.int .i64 0)) 60:=((ab3.trans apn).mono (by omega)).step (E:=dz.E) (G:=dz.G) ab_ (fun q e az=>by omega) (fun q J=> .inl J) fun q J=> .inl J
   obtain ⟨f1,f2⟩:=fin _ _ apq apr wP fun q J=>by
     show dz.G q
     rw[bg.G];exact abZ q J
   refine ⟨_,f1,f2,rfl,rfl, .inr (.inl ⟨rfl,jI,⟨pages,?_,abT fun x=>by have:=IA x;have:=Py x;omega,fun no af=> ?_,fun no=> ?_⟩,fun no dc=> ?_⟩)⟩
   · rcases ab7 with ⟨U,ad,au,aH⟩|⟨U,_⟩
     · exact .inl ⟨U,ad,au,aH⟩
     · exact .inr U
   · have U:=tM.2 af
     have ad:=IA no
     rcases G_ (de.count no) with au|au
     · have hm:no∈m:=tM.1 (by omega)
       exact .inr (gL.te no hm).1
     · exact .inl (tM.1 au)
   · show dz.f no=true↔_
     rw[bg.f,gL.f]
     have e:(T.dw c7 i_).f no=T.f no:=rfl
     rw[e]
     have iR:=IA no
     have dS:=Py no
     have Ob:no∈m↔0<m.count no:=tM.symm
     have gg:no∈de↔0<de.count no:=tM.symm
     have sd:no∈l↔0<l.count no:=tM.symm
     have U7:no∈pages↔0<pages.count no:=tM.symm
     have ug:0<de.count no→T.f no=true:=fun h=>vE no (gg.2 h)
     have aps:0<m.count no→T.f no=false:=fun h=>by
       have:=(gL.te no (Ob.2 h)).1
       have e:((T.dw c7 i_).f no||(T.dw c7 i_).g no)=(T.f no||T.g no):=rfl
       rw[e] at this
       cases Db:T.f no
       · rfl
       · rw[Db] at this;cases this
     rw[jL,wu,fx,zX,tL,Ob,gg,sd,U7]
     constructor
     · rintro ⟨U|U,ad⟩
       · by_cases au:0<de.count no
         · left;omega
         · exact .inr ⟨U,au⟩
       · left;omega
     · rintro (U|⟨U,ad⟩)
       · refine ⟨?_,by omega⟩
         by_cases au:0<de.count no
         · exact .inl (ug au)
         · right;omega
       · refine ⟨.inl U,fun au=> ?_⟩
         have:0<m.count no:=by omega
         rw[aps this] at U;cases U
   · have KX:(T.f no||T.g no)=true:=by rw[dc];simp
     have apt:cE.g no=true:=by rw[gL.to.g];exact dc
     have U:=bg.hL no (.inr apt)
     have ad:=gL.hL no KX
     exact ⟨U.1.trans ad.1,U.2.trans ad.2⟩
end
section
theorem aca {ks:List Key} {k:Key} {i:Nat} (aj:ks.Pairwise cv) (U:eu ks k≤i) (hi:i<ks.length) (ae:ks[eu ks k]? ≠some k):cv k ks[i]:=by
 rcases EW.1 (Hj aj U hi) with ad|ad
 · exact ad
 · exfalso
   rcases g8 (eu ks k) i with au|au
   · have a8:eu ks k<ks.length:=by omega
     have aH:=Hj aj (cR _) a8
     have aY:=G2.1 aj _ _ a8 hi au
     rw[←ad] at aY
     exact aH aY
   · have e:i=eu ks k:=by omega
     apply ae
     subst e
     rw[gH hi,←ad]
theorem U8 {n:aL} (h:oe n) {i:Nat} (hi:i≤n.keys.length):∃a b c d:List Key,n.keys=a++b∧n.vals=c++d∧a.length=i∧c.length=i∧b.length=d.length∧n.keys.take i=a∧n.keys.drop i=b∧n.vals.take i=c∧n.vals.drop i=d:=by
 have az:=h.len
 refine ⟨n.keys.take i,n.keys.drop i,n.vals.take i,n.vals.drop i,(p5 i _).symm,(p5 i _).symm,?_,?_,?_,rfl,rfl,rfl,rfl⟩
 · rw[ej];omega
 · rw[ej];omega
 · rw[fF,fF];omega
def uH (k v:Key):Nat:=2+k.length+v.length
theorem IB {n:aL} (h:n.leaf=true):cq n=1+(List.zipWith uH n.keys n.vals).sum:=by
 unfold cq
 rw[if_pos h,wz h];rfl
theorem apu {n:aL} {k v:Key} (h:oe n) (ae:eJ k) (ak:v.length≤24):oe (o6 n k v)∧(o6 n k v).gQ=ke n.gQ k v∧cq (o6 n k v)≤cq n+50∧(o6 n k v).keys≠ []∧n.keys.length≤(o6 n k v).keys.length∧(∀s∈(o6 n k v).keys,s=k∨s∈n.keys):=by
 have hlen:=h.len
 have hle:=Hi n.keys k
 have aW:n.gQ=n.keys.zip n.vals:=rfl
 have Dy:=h.kg
 have wR:∀ (j:Nat) (a8:j<n.keys.length),j<eu n.keys k→cv n.keys[j] k:=fun j a8 U=>E2 U a8
 have LC:n.keys[eu n.keys k]? ≠some k→∀ (j:Nat) (a8:j<n.keys.length),eu n.keys k≤j→cv k n.keys[j]:=fun he j a8 U=>aca Dy U a8 he
 rw[aW,ahF h.kg]
 unfold o6 o5
 generalize hi:eu n.keys k=i at hle wR LC⊢
 obtain ⟨a,b,c,d,a_,bw,ek,kS,lV,vP,BA,u9,Ai⟩:=U8 h hle
 have bO:n.keys.zip n.vals=a.zip c++b.zip d:=by rw[a_,bw];exact EY (by omega)
 have Au:(a.zip c).length=i:=by rw[Cc];omega
 by_cases he:n.keys[i]? =some k
 · rw[if_pos (by simpa using he),if_pos he]
   have pM:∃jx,b=k::jx:=by
     cases b with
     |nil=>rw[a_,wx (by omega)] at he;simp at he
     |cons y jx=>
       rw[a_,wx (by omega),ek,EO] at he
       simp at he
       exact ⟨jx,by rw[he]⟩
   obtain ⟨jx,rfl⟩:=pM
   obtain ⟨x,k6,rfl⟩:∃x k6,d=x::k6:=by
     cases d with
     |nil=>simp at lV
     |cons x k6=>exact ⟨x,k6,rfl⟩
   have yH:n.vals.set i v=c++v::k6:=by
     rw[bw,List.set_append_right _ _ (by omega),kS,EO];rfl
   refine ⟨⟨⟨h.ok,h.kg⟩,h.leaf,by simp[hlen],h.kids,fun z bO=> ?_⟩,?_,?_,fun e=>by have e:n.keys=[]:=e;rw[e] at a_;simp at a_,cR _,fun s aj=> .inr aj⟩
   · rcases EU bO with U|U
     · exact h.vals z U
     · rw[U];exact ak
   · show n.keys.zip (n.vals.set i v)=_
     rw[yH,bO,a_,EY (by omega),Ad Au]
     have apv:(a.zip c++(k::jx).zip (x::k6)).drop (i+1)=jx.zip k6:=by
       rw[List.zip_cons_cons,show a.zip c++(k,x)::jx.zip k6=(a.zip c++ [(k,x)])++jx.zip k6 by simp]
       exact drop_left' (by simp only[dO,Au,rm])
     rw[apv];rfl
   · rw[IB h.leaf,IB (n:={n with vals:=n.vals.set i v}) h.leaf]
     show 1+(List.zipWith uH n.keys (n.vals.set i v)).sum≤_
     rw[yH,a_,bw,G0 (by omega),G0 (by omega),yd,yd,List.zipWith_cons_cons,List.zipWith_cons_cons,JG,JG]
     unfold uH
     omega
 · rw[if_neg (by simpa using he),if_neg he]
   have U9:=LC he
   refine ⟨⟨⟨fun z bO=> ?_,?_⟩,h.leaf,?_,h.kids,fun z bO=> ?_⟩,?_,?_,fun e=> ?_,?_,fun s aj=> ?_⟩
   · have bO:z∈n.keys.take i++ [k]++n.keys.drop i:=bO
     simp only[fa,lR] at bO
     rcases bO with (bO|rfl)|bO
     · exact h.ok z (kL bO)
     · exact ae
     · exact h.ok z (kt bO)
   · show (n.keys.take i++ [k]++n.keys.drop i).Pairwise cv
     rw[vP,BA]
     have nL:(a++b).Pairwise cv:=by rw[←a_];exact Dy
     obtain ⟨aB,aF,aJ⟩:=Cb.1 nL
     have apw:∀x∈a,cv x k:=fun x af=>by
       obtain ⟨j,a8,rfl⟩:=mS af
       have:=wR j (by rw[a_,dO];omega) (by omega)
       simp only[a_,zY a8] at this
       exact this
     have sx:∀y∈b,cv k y:=fun y b8=>by
       obtain ⟨j,a8,rfl⟩:=mS b8
       have:=U9 (i+j) (by rw[a_,dO];omega) (by omega)
       have e:(a++b)[i+j]'(by rw[dO];omega)=b[j]:=by
         rw[ER (by omega)];congr 1;omega
       simp only[a_,e] at this
       exact this
     rw[eI]
     refine Cb.2 ⟨aB,?_,fun x af y b8=> ?_⟩
     · exact r7.2 ⟨sx,aF⟩
     · rcases fZ.1 b8 with rfl|b8
       · exact apw x af
       · exact aJ x af y b8
   · show (n.vals.take i++ [v]++n.vals.drop i).length=(n.keys.take i++ [k]++n.keys.drop i).length
     rw[vP,BA,u9,Ai]
     simp only[dO,rm];omega
   · have bO:z∈n.vals.take i++ [v]++n.vals.drop i:=bO
     simp only[fa,lR] at bO
     rcases bO with (bO|rfl)|bO
     · exact h.vals z (kL bO)
     · exact ak
     · exact h.vals z (kt bO)
   · show (n.keys.take i++ [k]++n.keys.drop i).zip (n.vals.take i++ [v]++n.vals.drop i)=_
     rw[vP,BA,u9,Ai,bO,Ad Au,drop_left' Au,eI,eI,EY (by omega)]
     rfl
   · rw[IB h.leaf,IB (n:={n with keys:=n.keys.take i++ [k]++n.keys.drop i,vals:=n.vals.take i++ [v]++n.vals.drop i}) h.leaf]
     show 1+(List.zipWith uH (n.keys.take i++ [k]++n.keys.drop i) (n.vals.take i++ [v]++n.vals.drop i)).sum≤_
     have aB:(List.zipWith uH (a++ [k]++b) (c++ [v]++d)).sum=(List.zipWith uH a c).sum+(uH k v+(List.zipWith uH b d).sum):=by
       rw[eI,eI,G0 (by omega),yd];rfl
     have aF:(List.zipWith uH (a++b) (c++d)).sum=(List.zipWith uH a c).sum+(List.zipWith uH b d).sum:=by
       rw[G0 (by omega),yd]
     rw[vP,BA,u9,Ai,a_,bw,aB,aF]
     have:=ae.2
     unfold uH
     omega
   · have e:n.keys.take i++ [k]++n.keys.drop i=[]:=e
     simp at e
   · show n.keys.length≤(n.keys.take i++ [k]++n.keys.drop i).length
     rw[vP,BA,a_]
     simp only[dO,rm];omega
   · have aj:s∈n.keys.take i++ [k]++n.keys.drop i:=aj
     simp only[fa,lR] at aj
     rcases aj with (aj|rfl)|aj
     · exact .inr (kL aj)
     · exact .inl rfl
     · exact .inr (kt aj)
end
section
def acb (T:aZ) (de:List Nat) (iK:List bl) (w:World) (v:Value) (w':World):Prop:=
 ∃av:aZ,c1 w' av∧b_ T av w w' 100∧av.E=T.E∧av.G=T.G∧
   ((v= .int .i64 2∧fM T<2*T.bn+3∧av=T)∨
    (v= .int .i64 0∧2*T.bn+3≤fM T∧(∃pages,mN av pages iK∧pages.Nodup∧(∀no∈pages,no∈de∨(T.f no||T.g no)=false)∧∀no,av.f no=true↔(no∈pages∨(T.f no=true∧no∉de)))∧∀no,T.g no=true→av.P no=T.P no∧av.C.view no=T.C.view no)∨
    (v= .int .i64 3∧¬T.C.D.calm 100∧av.root=T.root∧av.bn=T.bn∧av.f=T.f∧∀no,(T.f no||T.g no)=true→av.P no=T.P no∧av.C.view no=T.C.view no))
theorem Po.an {T:aZ} {bx:eY} {de:List Nat} {iK:List bl} {w ag w':World} {v:Value} {k:Nat} (h:Po (T.cQ bx T.P) de iK ag v w') (cA:b_ T (T.cQ bx T.P) w ag k) (ae:k≤40) (ak:∀j,bx.view j=T.C.view j) (jI:2*T.bn+3≤fM T):acb T de iK w v w':=by
 obtain ⟨av,U,ad,au,aH,aY⟩:=h
 refine ⟨av,U,(cA.trans ad).mono (by omega),au,aH,?_⟩
 have acd:fM (T.cQ bx T.P)=fM T:=rfl
 have ace:(T.cQ bx T.P).bn=T.bn:=rfl
 rcases aY with ⟨_,b9,_⟩|⟨rfl,b9,iD,oq⟩|⟨rfl,b9,iD,oq,rz,Pz⟩
 · rw[acd,ace] at b9;omega
 · exact .inr (.inl ⟨rfl,jI,iD,fun no dc=>⟨(oq no dc).1,(oq no dc).2.trans (ak no)⟩⟩)
 · exact .inr (.inr ⟨rfl,fun al=>b9 (cA.calm 60 (nt al (by omega))),iD,oq,rz,fun no dc=>⟨(Pz no dc).1,(Pz no dc).2.trans (ak no)⟩⟩)
theorem tp (w:World) (s:aa):aO Tryz.prog F.tp #[.slice s.a s.len s.cap] w (fun v w'=>v= .bool (decide (1≤s.len∧s.len≤24))∧w=w'):=by
 refine W.apx s w _ ?_
 unfold W.tp
 refine ⟨?_,rfl⟩
 congr 1
 rw[oX,jL,fx,fx,fx]
 omega
theorem U_ {T:aZ} {w:World} {pages:List Nat} {L:List bl} {k:Key} (h:c1 w T) (ed:mN T pages L):∃steps,Dw T.P k T.bn T.root steps∧
   ((steps=[]∧T.bn=0∧pages=[]∧L=[])∨(∃ (lO:Nat) (dt:aL) (kP h4:Option Key) (kI:List (Nat×aL×Nat)) (nB:List Nat) (nC nD:List bl),steps=kI++ [(lO,dt,0)]∧Ctx T.P k T.bn 1 kP h4 kI nB nC nD∧T.P lO=some dt∧oe dt∧dt.within kP h4∧dt.keys≠ []∧(kI≠ []→2≤dt.keys.length)∧kM kP h4 k∧
     pages.Perm (lO::nB)∧L=nC++(dt.gQ++nD)∧∀u,Loc k u→u L=nC++(u dt.gQ++nD))):=by
 rcases ed with ⟨U,ad,au,aH⟩|hw
 · exact ⟨[],by rw[U];rfl, .inl ⟨rfl,U,au,aH⟩⟩
 · cases cS:T.bn with
   |zero=>rw[cS] at hw;exact hw.elim
   |succ t=>
     rw[cS] at hw
     obtain ⟨rest,kI,lO,dt,kP,h4,nB,nC,nD,bK,aq,bV,iE,kT,Bp,Gb,DR,DS,zn,Bq,xN⟩:=Ctx.down (P:=T.P) (k:=k) (top:=t+1) (gJ:=L) .top hw (fun h=>absurd rfl h) ⟨fun _ e=>(by cases e),fun _ e=>(by cases e)⟩ (by simp) (fun u _=>by simp)
     rw[rl] at aq
     rw[mh] at zn
     exact ⟨rest,bK, .inr ⟨lO,dt,kP,h4,kI,nB,nC,nD,aq,bV,iE,kT,Bp,Gb,DR,DS,zn,Bq,xN⟩⟩
theorem mN.low {T:aZ} {pages:List Nat} {L:List bl} (h:mN T pages L) (du:L.length<4096):T.bn<12∧pages.length≤L.length:=by
 rcases h with ⟨U,_,au,_⟩|hw
 · rw[U,au];exact ⟨by omega,fm _⟩
 · obtain ⟨aB,aF,aJ⟩:=hw.pages
   refine ⟨?_,aB⟩
   rcases g8 T.bn 12 with h|h
   · exact h
   · have aY:=aJ (by omega)
     have b9:2^12≤2^T.bn:=Nh (by decide) h
     have iD:(2:Nat)^12=4096:=by decide
     omega
theorem acf {ag:World} {T:aZ} {bx:eY} {pages:List Nat} {L iK:List bl} {k:Key} {steps:List (Nat×aL×Nat)} {s:aa} {wl:List gE} {dt ff:aL} {K V D:aa} (h:c1 ag (T.cQ bx T.P)) (ed:mN T pages L) (du:L.length<4096) (hU:pages.Nodup) (aG:∀x∈pages,T.f x=true) (gC:bx.D.cX≤900000000)
   (hm:wl.map gE.st=steps) (xR:uo (fun q=>¬(T.cQ bx T.P).M q) ag s wl) (aC:cg (fun q=>¬(T.cQ bx T.P).M q) ag ff K V D) (IC:oe ff) (gW:(steps=[]∧T.bn=0∧pages=[]∧ff.keys≠ []∧cq ff≤232∧ff.gQ=iK)∨(∃ (lO:Nat) (kP h4:Option Key) (kI:List (Nat×aL×Nat)) (nB:List Nat) (nC nD:List bl),steps=kI++ [(lO,dt,0)]∧Ctx T.P k T.bn 1 kP h4 kI nB nC nD∧ff.within kP h4∧(kI≠ []→ff.keys≠ [])∧pages.Perm (lO::nB)∧iK=nC++(ff.gQ++nD)∧cq ff≤282)):
   aO Tryz.prog F.xQ #[.pointer (some ⟨T.bQ,0,none⟩), .slice s.a s.len s.cap,fc ff K V D] ag (Po (T.cQ bx T.P) pages iK ag):=by
 obtain ⟨cS,BB⟩:=ed.low du
 refine ao4 h gC cS hU aG (by omega) fun c7 i_ aw bA dS cA jI Av di=> ?_
 have Ge:s.len=wl.length:=by
   have:=xR.own.1
   rw[ov _ (Dv wl)] at this;omega
 have nk:cg (fun q=>¬((T.cQ bx T.P).dw c7 i_).M q) aw ff K V D:=(cA.dE (lo:=0) (aC.bz fun q _ ab=>⟨fm _,ab⟩)).bz fun q _ ab=>ab.2
 rcases gW with ⟨U,ad,au,aH,aY,b9⟩|⟨lO,kP,h4,kI,nB,nC,nD,a_,bw,ek,kS,lV,vP,BA⟩
 · subst U au
   have LD:wl=[]:=by simpa using hm
   exact ao1 (by rw[Ge,LD];rfl) dS nk gC (by
     have e:fM ((T.cQ bx T.P).dw c7 i_)=fM (T.cQ bx T.P):=rfl
     omega) (by rw[Av];simp) di IC aH aY b9
 · have hlen:wl.length=kI.length+1:=by
     have:=congrArg List.length hm
     rw[a_,mj,dO,rm] at this;exact this
   have Pl:1+kI.length=T.bn:=bw.jq
   have tS:=xR.to cA
   have LF:(wl.take (wl.length-1)).map gE.st=kI∧(wl[wl.length-1]'(by omega)).no=lO:=by
     rw[a_] at hm
     have aB:(wl.take (wl.length-1)).map gE.st=(kI++ [(lO,dt,0)]).take (wl.length-1):=by rw[←hm,EN]
     refine ⟨by rw[aB];exact Ad (by omega),?_⟩
     have aF:(wl.map gE.st)[wl.length-1]? =some (lO,dt,0):=by
       rw[hm,wx (by omega)]
       have:wl.length-1-kI.length=0:=by omega
       rw[this];rfl
     rw[JL,gH (by omega)] at aF
     have aJ:=Option.some.inj aF
     exact congrArg Prod.fst aJ
   refine aoN (k:=k) (hK:=nB) (A:=nC) (B:=nD) (M:=ff.gQ) (lo:=kP) (hi:=h4) dS tS nk (by omega) (by show wl.length=T.bn;omega) cS gC jI (by rw[Av];simp) (by rw[di];simp) ?_ ⟨IC,ek,rfl,rfl⟩ vP.symm ?_ BA (fun h=>kS fun e=> ?_) fun x af=> ?_
   · rw[LF.1]
     have:wl.length=T.bn:=by omega
     rw[this]
     exact bw
   · rw[LF.2];exact lV
   · rw[e] at hlen;simp at hlen;omega
   · exact aG x (lV.mem_iff.2 (uT _ af))
theorem uo.ext' {B C:Nat→Prop} {w w':World} {s:aa} {l:List gE} (h:uo B w s l) (af:Ext w w') (fu:∀q,B q→C q):uo C w' s l:=
 ⟨h.own.ext af,fun q J=>fu q (h.FL q J),fun x hm=>((h.dE x hm).ext af).bz fun q _ ab=>fu q ab⟩
theorem ID {wl:List gE} {kI:List (Nat×aL×Nat)} {lO:Nat} {db:aL} (hm:wl.map gE.st=kI++ [(lO,db,0)]):∃h:0<wl.length,(wl[wl.length-1]'(by omega)).n=db:=by
 have hlen:wl.length=kI.length+1:=by
   have:=congrArg List.length hm
   rw[mj,dO,rm] at this;exact this
 refine ⟨by omega,?_⟩
 have aF:(wl.map gE.st)[wl.length-1]? =some (lO,db,0):=by
   rw[hm,wx (by omega)]
   have:wl.length-1-kI.length=0:=by omega
   rw[this];rfl
 rw[JL,gH (by omega)] at aF
 exact congrArg (fun x=>x.2.1) (Option.some.inj aF)
theorem acg {w:World} {T:aZ} {pages:List Nat} {L:List bl} {aI eU:aa} {key val:Key} (h:c1 w T) (ed:mN T pages L) (du:L.length<4096) (hU:pages.Nodup) (aG:∀x∈pages,T.f x=true) (gC:T.C.D.cX≤800000000)
   (ae:Src 1 w aI (bo key)) (sx:∀q,aQ aI q→q<w.heap.size∧¬T.M q) (ak:Src 1 w eU (bo val)) (Kf:∀q,aQ eU q→q<w.heap.size∧¬T.M q):
   aO Tryz.prog F.BC #[.pointer (some ⟨T.bQ,0,none⟩), .slice aI.a aI.len aI.cap, .slice eU.a eU.len eU.cap] w (fun v w'=>(v= .int .i64 1∧¬(eJ key∧val.length≤24)∧w=w')∨(eJ key∧val.length≤24∧acb T pages (ke L key val) w v w')):=by
 have fv:=len8 ae
 have jM:=len8 ak
 refine W.apy (some ⟨T.bQ,0,none⟩) aI eU w _ ?_
 (delta W.BC aA bd bK aV aD gk dx ai bV aq Lh fD;dsimp only)
 refine eN (fun b w'=>b= !(decide (eJ key))∧w=w') (fun q J=>⟨fun h=>(by cases h),fun _=>(tp w aI).use ?_⟩) ?_
 · rintro _ _ ⟨rfl,rfl⟩
   refine ⟨_,rfl,J _ _ ⟨?_,rfl⟩⟩
   unfold eJ
   rw[fv]
 rintro _ _ ⟨rfl,rfl⟩
 refine ⟨fun ab=> .inl ⟨rfl,fun bg=> ?_,rfl⟩,fun ab=> ?_⟩
 · rw[iB bg.1,jM] at ab
   have:¬((val.length:Nat):Int)>24:=by have:=bg.2;omega
   simp[this] at ab
 have bg:eJ key∧val.length≤24:=by
   by_cases U:eJ key
   · refine ⟨U,?_⟩
     rw[iB U,jM] at ab
     have:¬((val.length:Nat):Int)>24:=by simpa using ab
     omega
   · rw[sS U] at ab;simp at ab
 have nk:=h.s.db
 obtain ⟨cS,BB⟩:=ed.low du
 have bD:Ext w w.drew:=dT w
 have hd:=h.ext bD
 refine bN ⟨fun _=>False,_,rfl,id,_,hd.cells.2.1,_,rfl,id,_,hd.cells.2.2.2.2,(Tc hd.s).use ?_⟩
 rintro _ bZ ⟨rfl,jP⟩
 have Lx:((T.n:Int)-mH (fun i=>T.f i||T.g i) T.n)=(fM T:Nat):=by
   have:=H2 (fun i=>T.f i||T.g i) T.n
   unfold fM;omega
 have tS:IntKind.wrap .i64 (IntKind.wrap .i64 (2*((T.bn:Nat):Int))+3)=((2*T.bn+3:Nat):Int):=by
   rw[cz (n:=2*((T.bn:Nat):Int)) (by omega) (by omega),cz (by omega) (by omega)];omega
 rw[Lx,tS]
 have vp:=bD.trans jP
 have xS:=h.ext vp
 refine ⟨_,rfl,jP,fun ab=> .inr ⟨bg.1,bg.2,T,xS,(b_.ext T vp).mono (by omega),rfl,rfl, .inl ⟨rfl,?_,rfl⟩⟩,fun ab=> ?_⟩
 · have ab:((fM T:Nat):Int)<((2*T.bn+3:Nat):Int):=dG ab
   omega
 have jI:2*T.bn+3≤fM T:=by
   have:¬((fM T:Nat):Int)<((2*T.bn+3:Nat):Int):=eW ab
   omega
 obtain ⟨steps,xR,nE⟩:=U_ (k:=key) xS ed
 refine (Tn xS (by omega) (ae.ext vp) (fun q J=>⟨lv (sx q J).1 vp.size,(sx q J).2⟩) xR).use ?_
 rintro _ cV ⟨bx,uG,Gj,q6,eZ⟩
 have cA:=((b_.ext T vp).trans Gj).mono (l:=2*T.bn) (by omega)
 rcases eZ with ⟨s,wl,rfl,hm,zx⟩|⟨rfl,fk⟩
 rotate_left
 · refine ⟨⟨none,0,0⟩,3,rfl,fun _=> .inr ⟨bg.1,bg.2,T.cQ bx T.P,uG,cA.mono (by omega),rfl,rfl, .inr (.inr ⟨rfl,fun al=>fk (nt al (by omega)),rfl,rfl,rfl,fun no _=>⟨rfl,q6 no⟩⟩)⟩,fun af=>(by cases af)⟩
 have Ge:s.len=wl.length:=by
   have:=zx.own.1
   rw[ov _ (Dv wl)] at this;omega
 have Kv:=vp.size
 have ach:wl.length=T.bn:=by
   have:=xR.length
   rw[←hm,mj] at this;exact this
 refine ⟨s,0,rfl,fun af=>(by cases af),fun _=>cx (vs:=[.bool false, .slice none 0 0, .slice none 0 0, .slice none 0 0]) rfl fun cw FK oQ Tk=>⟨FK.dC rfl (lr (b:=true) (K:=bX) (V:=bX) (D:=bX)),rfl,eo FK (us:=g4 ⟨true,[],[],[]⟩ bX bX bX) rfl rfl fun ep Ia OZ Tx=> ?_⟩⟩
 have Bo:Ext cV ep:=Ext.fb oQ OZ (cR _)
 obtain ⟨pj,It⟩:∃pj,pj=cV.heap.size:=⟨_,rfl⟩
 rw[←It] at Ia⊢
 obtain ⟨dt,ld⟩:∃dt:aL,dt=(if hw:0<wl.length then (wl[wl.length-1]'(by omega)).n else ⟨true,[],[],[]⟩):=⟨_,rfl⟩
 refine vh (fun fG=>∃ (K V D:aa) (B:Nat→Prop),Ext cV fG∧Var fG pj (g4 dt K V D) ah.cO∧cg B fG dt K V D) (fun q J=>⟨fun az=> ?_,fun az=> ?_⟩) ?_
 · have rN:0<wl.length:=by
     have:((s.len:Nat):Int)>0:=dG az
     omega
   rw[dif_pos rN] at ld
   have e:IntKind.wrap .i64 (((s.len:Nat):Int)-1)=((wl.length-1:Nat):Int):=by rw[cz (by omega) (by omega)];omega
   obtain ⟨A,ax,_,_,_,hu⟩:=zx.at (i:=wl.length-1) (by omega)
   have PA:=hu.ext Bo
   rw[e,g9]
   subst ld
   refine ⟨A,ax,⟨by omega,by omega⟩,_,PA.aV,_,PA.bA,_,PA.bd,_,PA.gk,Ia.dC rfl lr,rfl,eo Ia (us:=g4 (wl[wl.length-1]'(by omega)).n (wl[wl.length-1]'(by omega)).K (wl[wl.length-1]'(by omega)).V (wl[wl.length-1]'(by omega)).D) rfl rfl fun fA apz apA av2=> ?_⟩
   have aci:Ext cV fA:=Ext.fb Bo apA (by omega)
   exact J _ ⟨_,_,_,_,aci,apz,hu.dE.ext aci⟩
 · have rN:¬0<wl.length:=by
     have:¬((s.len:Nat):Int)>0:=eW az
     omega
   rw[dif_neg rN] at ld
   subst ld
   exact J _ ⟨bX,bX,bX,fun _=>True,Bo,Ia,b2.none _ _,b2.none _ _,en.none _ _⟩
 rintro fG ⟨K,V,D,B,PB,apB,apC⟩
 have av3:=PB.size
 have abV:=Gj.an.size
 have Iy:oe dt∧cq dt≤232:=by
   rcases nE with ⟨U,ad,au,aH⟩|⟨lO,db,kP,h4,kI,nB,nC,nD,aq,bV,iE,kT,Bp,Gb,DR,DS,zn,Bq,xN⟩
   · have LD:¬0<wl.length:=by
       rw[U] at hm
       have:wl=[]:=by simpa using hm
       rw[this];simp
     rw[ld,dif_neg LD]
     exact ⟨⟨⟨fun _ h=>(by cases h),List.Pairwise.nil⟩,rfl,rfl,rfl,fun _ h=>(by cases h)⟩,by decide⟩
   · rw[aq] at hm
     obtain ⟨aB,aF⟩:=ID hm
     rw[ld,dif_pos aB,aF]
     exact ⟨kT,h.DW _ _ iE⟩
 obtain ⟨sd,kO⟩:=Iy
 have pd:=(d_.iS (.inl sd) (by omega))
 have kh:∀q,T.N q→q<w.heap.size:=fun q J=>h.lt (aZ.lJ J)
 have apD:Src 1 fG aI (bo key):=(ae.an cA.an fun q J hT=>(sx q J).2 (aZ.lJ hT)).ext PB
 have apE:Src 1 fG eU (bo val):=(ak.an cA.an fun q J hT=>(Kf q J).2 (aZ.lJ hT)).ext PB
 obtain ⟨d0,d1,d2,d3⟩:=cl apB
 refine ⟨_,d0,K,d1,V,d2,D,d3,(yJ apC sd (by omega) apD apE bg.1 bg.2).use ?_⟩
 rintro _ e4 ⟨c_,c6,dv,rfl,apF,O6⟩
 refine ⟨_,c_,c6,dv,true,rfl,cx (vs:=[.bool false, .slice none 0 0, .slice none 0 0, .slice none 0 0]) rfl fun dy OS OR av4=>⟨OS.dC rfl lr,rfl,eo OS (us:=g4 (o6 dt key val) c_ c6 dv) rfl rfl fun gN Li apG av5=>⟨fun af=>(by cases af),fun _=> ?_⟩⟩⟩
 have acj:Ext e4 gN:=Ext.fb OR apG (cR _)
 have Va:=(PB.trans O6).trans acj
 obtain ⟨d0,d1,d2,d3⟩:=cl Li
 obtain ⟨cp,cm,hO,th,Bv,m7⟩:=apu sd bg.1 bg.2
 have F9:bx.D.cX≤900000000:=by
   have:bx.D.cX≤T.C.D.cX+2*T.bn:=cA.cX
   omega
 have apH:cg (fun q=>¬(T.cQ bx T.P).M q) gN (o6 dt key val) c_ c6 dv:=(apF.ext acj).bz fun q _ J kQ=>by have:=uG.lt kQ;omega
 have Vb:=acf (iK:=ke L key val) (k:=key) (steps:=steps) (dt:=dt) (uG.ext Va) ed du hU aG F9 hm (zx.ext' Va fun q J=>J.2) apH cp (by
   rcases nE with ⟨U,ad,au,aH⟩|⟨lO,db,kP,h4,kI,nB,nC,nD,aq,bV,iE,kT,Bp,Gb,DR,DS,zn,Bq,xN⟩
   · have LD:¬0<wl.length:=by omega
     rw[dif_neg LD] at ld
     refine .inl ⟨U,ad,au,th,?_,?_⟩
     · have:cq dt=1:=by rw[ld];rfl
       omega
     · rw[cm,ld,aH];rfl
   · rw[aq] at hm
     obtain ⟨aB,aF⟩:=ID hm
     rw[dif_pos aB,aF] at ld
     rw[ld] at cm hO th Bv m7⊢
     refine .inr ⟨lO,kP,h4,kI,nB,nC,nD,aq,bV,fun s aj=> ?_,fun _=>th,zn,?_,by have:=h.DW _ _ iE;omega⟩
     · rcases m7 s aj with rfl|aY
       · exact DS
       · exact Bp s aY
     · rw[cm];exact xN (fun L=>ke L key val) (ahn key val))
 refine ⟨_,d0,c_,d1,c6,d2,dv,d3,Vb.use ?_⟩
 intro v w' aN
 have apI:=aN.an (w:=w) ((cA.trans (b_.ext (T.cQ bx T.P) Va)).mono (l:=40) (by omega)) (cR _) q6 jI
 obtain ⟨av,U,ad,au,aH,aY⟩:=apI
 rcases aY with ⟨rfl,b9⟩|⟨rfl,b9⟩|⟨rfl,b9⟩
 · exact ⟨2,rfl, .inr ⟨bg.1,bg.2,av,U,ad,au,aH, .inl ⟨rfl,b9⟩⟩⟩
 · exact ⟨0,rfl, .inr ⟨bg.1,bg.2,av,U,ad,au,aH, .inr (.inl ⟨rfl,b9⟩)⟩⟩
 · exact ⟨3,rfl, .inr ⟨bg.1,bg.2,av,U,ad,au,aH, .inr (.inr ⟨rfl,b9⟩)⟩⟩
end
section
theorem ack {l:List bl} {k:Key} (h:(jU l k).length=l.length):∀p∈l,p.1≠k:=by
 intro p aW
 unfold jU at h
 have:=(uS (p:=fun p:bl=>decide (p.1≠k))).1 (List.Sublist.eq_of_length List.filter_sublist h)
 exact dG (this p aW)
theorem acl {L A B M:List bl} {k:Key} (du:L=A++(M++B)) (hu:jU L k=A++(jU M k++B)):kf L k=kf M k:=by
 have U:(jU A k).length≤A.length:=Ha _ _
 have ad:(jU B k).length≤B.length:=Ha _ _
 have au:=congrArg List.length hu
 rw[du,Hb,Hb] at au
 simp only[dO] at au
 have ax:=ack (l:=A) (k:=k) (by omega)
 have fu:=ack (l:=B) (k:=k) (by omega)
 have LG:A.find? (fun p=>decide (p.1=k))=none:=r9.2 fun p aW=>by simpa using ax p aW
 have Vc:B.find? (fun p=>decide (p.1=k))=none:=r9.2 fun p aW=>by simpa using fu p aW
 unfold kf
 rw[du,List.find?_append,List.find?_append,LG,Vc]
 simp
theorem acm {n:aL} {k:Key} (h:oe n):kf n.gQ k=if o5 n.keys k then n.vals[eu n.keys k]? else none:=by
 have hle:=Hi n.keys k
 have Dy:=h.kg
 have wR:∀ (j:Nat) (a8:j<n.keys.length),j<eu n.keys k→cv n.keys[j] k:=fun j a8 U=>E2 U a8
 have LC:n.keys[eu n.keys k]? ≠some k→∀ (j:Nat) (a8:j<n.keys.length),eu n.keys k≤j→cv k n.keys[j]:=fun he j a8 U=>aca Dy U a8 he
 have aW:n.gQ=n.keys.zip n.vals:=rfl
 unfold o5
 rw[aW]
 generalize eu n.keys k=i at hle wR LC⊢
 obtain ⟨a,b,c,d,a_,bw,ek,kS,lV,vP,BA,u9,Ai⟩:=U8 h hle
 have bO:n.keys.zip n.vals=a.zip c++b.zip d:=by rw[a_,bw];exact EY (by omega)
 have LG:(a.zip c).find? (fun p:bl=>decide (p.1=k))=none:=r9.2 fun p aW=>by
   have hm:=(JE aW).1
   obtain ⟨j,a8,Vd⟩:=mS hm
   have U:=wR j (by rw[a_,dO];omega) (by omega)
   simp only[a_,zY a8,Vd] at U
   simpa using uX U
 unfold kf
 rw[bO,List.find?_append,LG]
 by_cases he:n.keys[i]? =some k
 · rw[if_pos (by simpa using he)]
   have pM:∃jx,b=k::jx:=by
     cases b with
     |nil=>rw[a_,wx (by omega)] at he;simp at he
     |cons y jx=>
       rw[a_,wx (by omega),ek,EO] at he
       simp at he
       exact ⟨jx,by rw[he]⟩
   obtain ⟨jx,rfl⟩:=pM
   obtain ⟨x,k6,rfl⟩:∃x k6,d=x::k6:=by
     cases d with
     |nil=>simp at lV
     |cons x k6=>exact ⟨x,k6,rfl⟩
   rw[bw,wx (by omega),kS,EO]
   simp
 · rw[if_neg (by simpa using he)]
   have U9:=LC he
   have Vc:(b.zip d).find? (fun p:bl=>decide (p.1=k))=none:=r9.2 fun p aW=>by
     have hm:=(JE aW).1
     obtain ⟨j,a8,Vd⟩:=mS hm
     have U:=U9 (i+j) (by rw[a_,dO];omega) (by omega)
     have e:(a++b)[i+j]'(by rw[dO];omega)=b[j]:=by
       rw[ER (by omega)];congr 1;omega
     simp only[a_,e,Vd] at U
     have:=uX U
     simpa using fun h=>this h.symm
   rw[Vc];rfl
def apJ (T:aZ) (L:List bl) (key:Key) (w:World) (v:Value) (w':World):Prop:=
 ∃bx:eY,c1 w' (T.cQ bx T.P)∧b_ T (T.cQ bx T.P) w w' 30∧(∀j,bx.view j=T.C.view j)∧
   ((v= .tuple #[.slice none 0 0, .bool false, .int .i64 0]∧(eJ key→kf L key=none))∨
    (∃ (t:aa) (x:Key),v= .tuple #[.slice t.a t.len t.cap, .bool true, .int .i64 0]∧eJ key∧kf L key=some x∧bL (fun q=>¬(T.cQ bx T.P).M q) w' t x)∨
    (v= .tuple #[.slice none 0 0, .bool false, .int .i64 3]∧eJ key∧¬T.C.D.calm 30))
theorem acn {w:World} {T:aZ} {pages:List Nat} {L:List bl} {aI:aa} {key:Key} (h:c1 w T) (ed:mN T pages L) (gC:T.C.D.cX≤800000000) (ae:Src 1 w aI (bo key)) (sx:∀q,aQ aI q→q<w.heap.size∧¬T.M q):
   aO Tryz.prog F.BD #[.pointer (some ⟨T.bQ,0,none⟩), .slice aI.a aI.len aI.cap] w (apJ T L key w):=by
 have fv:=len8 ae
 have cS:=h.num.2.1
 have H4:T.cQ T.C T.P=T:=rfl
 refine W.apK (some ⟨T.bQ,0,none⟩) aI w _ ?_
 (delta W.BD aA bd gk aD bV aq dx ai dL a6;dsimp only)
 refine eN (fun b w'=>b= !(decide (eJ key))∧w=w') (fun q J=>⟨fun h=>(by cases h),fun _=>(tp w aI).use ?_⟩) ?_
 · rintro _ _ ⟨rfl,rfl⟩
   refine ⟨_,rfl,J _ _ ⟨?_,rfl⟩⟩
   unfold eJ
   rw[fv]
 rintro _ _ ⟨rfl,rfl⟩
 refine ⟨fun ab=>⟨fun h=>(by cases h),fun _=> ?_⟩,fun ab=> ?_⟩
 · have:¬eJ key:=by simpa using ab
   exact ⟨T.C,h,(b_.refl T w).mono (by omega),fun _=>rfl, .inl ⟨rfl,fun af=>absurd af this⟩⟩
 have bg:eJ key:=by simpa using ab
 obtain ⟨steps,xR,nE⟩:=U_ (k:=key) h ed
 refine (Tn h (by omega) ae sx xR).use ?_
 rintro _ a7 ⟨bx,BE,rX,q6,eZ⟩
 rcases eZ with ⟨s,wl,rfl,hm,zx⟩|⟨rfl,fk⟩
 rotate_left
 · exact ⟨⟨none,0,0⟩,3,rfl,fun _=>⟨bx,BE,rX.mono (by omega),q6, .inr (.inr ⟨rfl,bg,fun al=>fk (nt al (by omega))⟩)⟩,fun af=>(by simp at af)⟩
 have Ge:s.len=wl.length:=by
   have:=zx.own.1
   rw[ov _ (Dv wl)] at this;omega
 have ach:wl.length=T.bn:=by
   have:=xR.length
   rw[←hm,mj] at this;exact this
 refine ⟨s,0,rfl,fun af=>⟨bx,BE,rX.mono (by omega),q6, .inl ⟨rfl,fun _=> ?_⟩⟩,fun af=> ?_⟩
 · have rN:wl.length=0:=by
     have:((s.len:Nat):Int)=0:=by simpa using af
     omega
   rcases nE with ⟨_,_,_,aH⟩|⟨lO,db,kP,h4,kI,nB,nC,nD,aq,_⟩
   · rw[aH];rfl
   · rw[aq] at hm
     obtain ⟨aB,_⟩:=ID hm
     omega
 have rN:0<wl.length:=by
   have:¬((s.len:Nat):Int)=0:=by simpa using af
   omega
 have e:IntKind.wrap .i64 (((s.len:Nat):Int)-1)=((wl.length-1:Nat):Int):=by rw[cz (by omega) (by omega)];omega
 obtain ⟨A,ax,_,_,_,hu⟩:=zx.at (i:=wl.length-1) (by omega)
 rcases nE with ⟨U,_⟩|⟨lO,db,kP,h4,kI,nB,nC,nD,aq,bV,iE,kT,Bp,Gb,DR,DS,zn,Bq,xN⟩
 · rw[U] at hm
   have:=congrArg List.length hm
   simp at this;omega
 have kQ:=hm
 rw[aq] at kQ
 obtain ⟨aB,aF⟩:=ID kQ
 rw[e,g9]
 generalize apL:(wl[wl.length-1]'(by omega))=u at hu aF
 obtain ⟨apM,un,apN,K,V,D⟩:=u
 obtain rfl:un=db:=aF
 refine ⟨A,ax,⟨by omega,by omega⟩,_,hu.aV,K,hu.bA,V,hu.bd,D,hu.gk,cx (vs:=[.bool false, .slice none 0 0, .slice none 0 0, .slice none 0 0]) rfl fun cV Pq pg TI=>⟨Pq.dC rfl lr,rfl,eo Pq (us:=g4 un K V D) rfl rfl fun eV aco apO av6=> ?_⟩⟩
 have Ve:Ext a7 eV:=Ext.fb pg apO (cR _)
 obtain ⟨d0,d1,d2,d3⟩:=cl aco
 have pd:=(d_.iS (.inl kT) (by have:=h.DW _ _ iE;omega))
 have apP:Src 1 eV aI (bo key):=(ae.an rX.an fun q J hT=>(sx q J).2 (aZ.lJ hT)).ext Ve
 have acp:cg (fun q=>w.heap.size≤q∧¬(T.cQ bx T.P).M q) eV un K V D:=hu.dE.ext Ve
 refine ⟨_,d0,K,d1,V,d2,D,d3,(yF acp apP kT.kg (by omega)).use ?_⟩
 rintro _ dJ ⟨rfl,xM⟩
 have ee:=Ve.trans xM
 have acq:=BE.ext ee
 have xP:b_ T (T.cQ bx T.P) w dJ 30:=(rX.trans (b_.ext _ ee)).mono (by omega)
 have rY:kf L key=kf un.gQ key:=acl Bq (xN (fun L=>jU L key) (Rv key))
 rw[acm kT] at rY
 refine ⟨_,_,rfl,fun aC=>⟨bx,acq,xP,q6, .inl ⟨rfl,fun _=> ?_⟩⟩,fun aC=> ?_⟩
 · have aC:o5 un.keys key=false:=by simpa using aC
   rw[rY,if_neg (by rw[aC];simp)]
 · have aC:o5 un.keys key=true:=by simpa using aC
   have Vf:eu un.keys key<un.keys.length:=(qy.1 (dG aC)).1
   have PC:eu un.keys key<un.vals.length:=by rw[kT.len];exact Vf
   obtain ⟨f0,f1,f2,f3⟩:=cl (aco.ext xM)
   obtain ⟨Vg,eU,Vh,CI,Vi,PD,_⟩:=b2.at (acp.ext xM).vals PC
   refine ⟨V,f2,Vg,Vh,CI,eU,Vi,bx,acq,xP,q6, .inr (.inl ⟨eU,un.vals[eu un.keys key],rfl,bg,?_,bL.bz PD fun q _ ab=>ab.2⟩)⟩
   rw[rY,if_pos aC,gH PC]
end
section
theorem apQ {n:aL} {k:Key} (h:oe n) (ae:o5 n.keys k=true):oe (yI n k)∧(yI n k).gQ=jU n.gQ k∧cq (yI n k)≤cq n∧n.keys.length=(yI n k).keys.length+1∧(∀s∈(yI n k).keys,s∈n.keys):=by
 have hle:=Hi n.keys k
 have Dy:=h.kg
 have aW:n.gQ=n.keys.zip n.vals:=rfl
 have he:n.keys[eu n.keys k]? =some k:=dG ae
 rw[aW]
 unfold yI
 generalize eu n.keys k=i at hle he⊢
 obtain ⟨a,b,c,d,a_,bw,ek,kS,lV,vP,BA,u9,Ai⟩:=U8 h hle
 have bO:n.keys.zip n.vals=a.zip c++b.zip d:=by rw[a_,bw];exact EY (by omega)
 have pM:∃jx,b=k::jx:=by
   cases b with
   |nil=>rw[a_,wx (by omega)] at he;simp at he
   |cons y jx=>
     rw[a_,wx (by omega),ek,EO] at he
     simp at he
     exact ⟨jx,by rw[he]⟩
 obtain ⟨jx,rfl⟩:=pM
 obtain ⟨x,k6,rfl⟩:∃x k6,d=x::k6:=by
   cases d with
   |nil=>simp at lV
   |cons x k6=>exact ⟨x,k6,rfl⟩
 have aB:n.keys.drop (i+1)=jx:=by rw[a_,show a++k::jx=(a++ [k])++jx by simp];exact drop_left' (by simp[ek])
 have aF:n.vals.drop (i+1)=k6:=by rw[bw,show c++x::k6=(c++ [x])++k6 by simp];exact drop_left' (by simp[kS])
 rw[vP,u9,aB,aF]
 have nL:(a++k::jx).Pairwise cv:=by rw[←a_];exact Dy
 obtain ⟨pR,iO,DE⟩:=Cb.1 nL
 have zy:=r7.1 iO
 have ij:∀z,z∈a++jx→z∈n.keys:=fun z bO=>by
   rw[a_]
   simp only[fa,fZ] at bO⊢
   rcases bO with U|U
   · exact .inl U
   · exact .inr (.inr U)
 refine ⟨⟨⟨fun z bO=>h.ok z (ij z bO),Cb.2 ⟨pR,zy.2,fun y b8 z bO=>DE y b8 z (uT _ bO)⟩⟩,h.leaf,?_,h.kids,fun z bO=>h.vals z ?_⟩,?_,?_,?_,ij⟩
 · show (c++k6).length=(a++jx).length
   simp only[dO,k8] at lV⊢;omega
 · rw[bw]
   have bO:z∈c++k6:=bO
   simp only[fa,fZ] at bO⊢
   rcases bO with U|U
   · exact .inl U
   · exact .inr (.inr U)
 · show (a++jx).zip (c++k6)=_
   rw[bO,EY (by omega),Hb,List.zip_cons_cons]
   have f1:jU (a.zip c) k=a.zip c:=EX fun p aW=>uX (DE _ (JE aW).1 k List.mem_cons_self)
   have f2:jU ((k,x)::jx.zip k6) k=jx.zip k6:=by
     have:jU ((k,x)::jx.zip k6) k=jU (jx.zip k6) k:=by unfold jU;simp
     rw[this]
     exact EX fun p aW=>(uX (zy.1 _ (JE aW).1)).symm
   rw[f1,f2]
 · rw[IB h.leaf,IB (n:={n with keys:=a++jx,vals:=c++k6}) h.leaf]
   show 1+(List.zipWith uH (a++jx) (c++k6)).sum≤_
   rw[a_,bw,G0 (by omega),G0 (by omega),yd,yd,List.zipWith_cons_cons,JG]
   omega
 · show n.keys.length=(a++jx).length+1
   rw[a_]
   simp only[dO,k8];omega
end
section
structure oV (T av:aZ):Prop where
 root:av.root=T.root
 bn:av.bn=T.bn
 f:av.f=T.f
 hL:∀no,(T.f no||T.g no)=true→av.P no=T.P no∧av.C.view no=T.C.view no
theorem oV.refl (T:aZ):oV T T:=⟨rfl,rfl,rfl,fun _ _=>⟨rfl,rfl⟩⟩
theorem oV.cQ {T:aZ} {bx:eY} (ak:∀j,bx.view j=T.C.view j):oV T (T.cQ bx T.P):=⟨rfl,rfl,rfl,fun no _=>⟨rfl,ak no⟩⟩
theorem oV.trans {T av xz:aZ} (U:oV T av) (ad:oV av xz) (bg:av.g=T.g):oV T xz:=
 ⟨ad.root.trans U.root,ad.bn.trans U.bn,ad.f.trans U.f,fun no h=>by
   have au:=U.hL no h
   have aH:=ad.hL no (by rw[U.f,bg];exact h)
   exact ⟨aH.1.trans au.1,aH.2.trans au.2⟩⟩
structure Vj (T av:aZ) (de:List Nat) (iK:List bl):Prop where
 ok:∃pages,mN av pages iK∧pages.Nodup∧(∀no∈pages,no∈de∨(T.f no||T.g no)=false)∧∀no,av.f no=true↔(no∈pages∨(T.f no=true∧no∉de))
 hL:∀no,T.g no=true→av.P no=T.P no∧av.C.view no=T.C.view no
theorem oV.ok {T av:aZ} {pages:List Nat} {L:List bl} (h:oV T av) (ed:mN T pages L) (aG:∀x∈pages,T.f x=true):mN av pages L:=by
 unfold mN at ed⊢
 rw[h.root,h.bn]
 rcases ed with ed|hw
 · exact .inl ed
 · exact .inr (hN.agree hw fun x af=>(h.hL x (by rw[aG x af];rfl)).1.symm).1
def apR (T:aZ) (de:List Nat) (L:List bl) (key:Key) (w:World) (v:Value) (w':World):Prop:=
 ∃av:aZ,c1 w' av∧b_ T av w w' 100∧av.E=T.E∧av.G=T.G∧
   ((v= .tuple #[.bool false, .int .i64 1]∧¬eJ key∧oV T av)∨
    (v= .tuple #[.bool false, .int .i64 0]∧eJ key∧kf L key=none∧oV T av)∨
    (v= .tuple #[.bool false, .int .i64 2]∧eJ key∧kf L key≠none∧fM T<2*T.bn+3∧oV T av)∨
    (v= .tuple #[.bool true, .int .i64 0]∧eJ key∧kf L key≠none∧2*T.bn+3≤fM T∧Vj T av de (jU L key))∨
    (v= .tuple #[.bool false, .int .i64 3]∧eJ key∧¬T.C.D.calm 100∧oV T av))
theorem apS {w:World} {T:aZ} {pages:List Nat} {L:List bl} {aI:aa} {key:Key} (h:c1 w T) (ed:mN T pages L) (du:L.length<4096) (hU:pages.Nodup) (aG:∀x∈pages,T.f x=true) (gC:T.C.D.cX≤800000000)
   (ae:Src 1 w aI (bo key)) (sx:∀q,aQ aI q→q<w.heap.size∧¬T.M q):
   aO Tryz.prog F.D2 #[.pointer (some ⟨T.bQ,0,none⟩), .slice aI.a aI.len aI.cap] w (apR T pages L key w):=by
 have fv:=len8 ae
 have cS:=h.num.2.1
 refine W.apT (some ⟨T.bQ,0,none⟩) aI w _ ?_
 (delta W.D2 aA bd gk aD bV aq fD dx ai aV;dsimp only)
 refine eN (fun b w'=>b= !(decide (eJ key))∧w=w') (fun q J=>⟨fun h=>(by cases h),fun _=>(tp w aI).use ?_⟩) ?_
 · rintro _ _ ⟨rfl,rfl⟩
   refine ⟨_,rfl,J _ _ ⟨?_,rfl⟩⟩
   unfold eJ
   rw[fv]
 rintro _ _ ⟨rfl,rfl⟩
 refine ⟨fun ab=>⟨T,h,(b_.refl T w).mono (by omega),rfl,rfl, .inl ⟨rfl,by simpa using ab, .refl T⟩⟩,fun ab=> ?_⟩
 have bg:eJ key:=by simpa using ab
 obtain ⟨steps,xR,nE⟩:=U_ (k:=key) h ed
 refine (Tn h (by omega) ae sx xR).use ?_
 rintro _ a7 ⟨bx,BE,rX,q6,eZ⟩
 rcases eZ with ⟨s,wl,rfl,hm,zx⟩|⟨rfl,fk⟩
 rotate_left
 · exact ⟨⟨none,0,0⟩,3,rfl,fun _=>⟨_,BE,rX.mono (by omega),rfl,rfl, .inr (.inr (.inr (.inr ⟨rfl,bg,fun al=>fk (nt al (by omega)), .cQ q6⟩)))⟩,fun af=>(by simp at af)⟩
 have Ge:s.len=wl.length:=by
   have:=zx.own.1
   rw[ov _ (Dv wl)] at this;omega
 have ach:wl.length=T.bn:=by
   have:=xR.length
   rw[←hm,mj] at this;exact this
 refine ⟨s,0,rfl,fun af=>⟨_,BE,rX.mono (by omega),rfl,rfl, .inr (.inl ⟨rfl,bg,?_, .cQ q6⟩)⟩,fun af=> ?_⟩
 · have rN:wl.length=0:=by
     have:((s.len:Nat):Int)=0:=by simpa using af
     omega
   rcases nE with ⟨_,_,_,aH⟩|⟨lO,db,kP,h4,kI,nB,nC,nD,aq,_⟩
   · rw[aH];rfl
   · rw[aq] at hm
     obtain ⟨aB,_⟩:=ID hm
     omega
 have rN:0<wl.length:=by
   have:¬((s.len:Nat):Int)=0:=by simpa using af
   omega
 have e:IntKind.wrap .i64 (((s.len:Nat):Int)-1)=((wl.length-1:Nat):Int):=by rw[cz (by omega) (by omega)];omega
 obtain ⟨A,ax,_,_,_,hu⟩:=zx.at (i:=wl.length-1) (by omega)
 rcases nE with ⟨U,_⟩|⟨lO,db,kP,h4,kI,nB,nC,nD,aq,bV,iE,kT,Bp,Gb,DR,DS,zn,Bq,xN⟩
 · rw[U] at hm
   have:=congrArg List.length hm
   simp at this;omega
 have kQ:=hm
 rw[aq] at kQ
 obtain ⟨aB,aF⟩:=ID kQ
 rw[e,g9]
 generalize apL:(wl[wl.length-1]'(by omega))=u at hu aF
 obtain ⟨apM,un,apN,K,V,D⟩:=u
 obtain rfl:un=db:=aF
 have pd:=(d_.iS (.inl kT) (by have:=h.DW _ _ iE;omega))
 have apU:Src 1 a7 aI (bo key):=ae.an rX.an fun q J hT=>(sx q J).2 (aZ.lJ hT)
 have rY:kf L key=kf un.gQ key:=acl Bq (xN (fun L=>jU L key) (Rv key))
 rw[acm kT] at rY
 refine ⟨A,ax,⟨by omega,by omega⟩,_,hu.aV,K,hu.bA,V,hu.bd,D,hu.gk,(yM (n:=un) hu.dE kT (by omega) apU).use ?_⟩
 intro v cV eZ
 unfold HD at eZ
 by_cases aC:o5 un.keys key=true
 rotate_left
 · have aC:o5 un.keys key=false:=by simpa using aC
   rw[aC,if_neg (by simp)] at eZ
   obtain ⟨rfl,pg⟩:=eZ
   refine ⟨_,bX,bX,bX,false,rfl,cx (vs:=[.bool false, .slice none 0 0, .slice none 0 0, .slice none 0 0]) rfl fun m8 LH Vk apV=>⟨LH.dC rfl (lr (b:=o4.leaf) (K:=bX) (V:=bX) (D:=bX)),rfl,eo LH (us:=g4 o4 bX bX bX) rfl rfl fun cD Dz Vl K3=>⟨fun _=> ?_,fun af=>(by cases af)⟩⟩⟩
   have sA:Ext cV cD:=Ext.fb Vk Vl (cR _)
   have ee:=pg.trans sA
   refine ⟨_,BE.ext ee,(rX.trans (b_.ext _ ee)).mono (by omega),rfl,rfl, .inr (.inl ⟨rfl,bg,?_, .cQ q6⟩)⟩
   rw[rY,if_neg (by rw[aC];simp)]
 rw[if_pos aC] at eZ
 obtain ⟨c_,c6,dv,rfl,apW,pg⟩:=eZ
 refine ⟨_,c_,c6,dv,true,rfl,cx (vs:=[.bool false, .slice none 0 0, .slice none 0 0, .slice none 0 0]) rfl fun m8 LH Vk apV=>⟨LH.dC rfl lr,rfl,eo LH (us:=g4 (yI un key) c_ c6 dv) rfl rfl fun cD Dz Vl K3=>⟨fun af=>(by cases af),fun _=> ?_⟩⟩⟩
 have sA:Ext cV cD:=Ext.fb Vk Vl (cR _)
 have ee:=pg.trans sA
 obtain ⟨d0,d1,d2,d3⟩:=cl Dz
 obtain ⟨cp,cm,hO,th,Bv⟩:=apQ kT aC
 have Vf:eu un.keys key<un.keys.length:=(qy.1 (dG aC)).1
 have PC:eu un.keys key<un.vals.length:=by rw[kT.len];exact Vf
 have LI:kf L key≠none:=by
   rw[rY,if_pos aC,gH PC];simp
 have F9:bx.D.cX≤900000000:=by
   have:bx.D.cX≤T.C.D.cX+2*T.bn:=rX.cX
   omega
 have abV:=pg.size
 have LJ:cg (fun q=>¬(T.cQ bx T.P).M q) cD (yI un key) c_ c6 dv:=(apW.ext sA).bz fun q _ J kQ=>by have:=BE.lt kQ;omega
 have Vb:=acf (iK:=jU L key) (k:=key) (steps:=steps) (dt:=un) (BE.ext ee) ed du hU aG F9 hm (zx.ext' ee fun q J=>J.2) LJ cp (.inr ⟨lO,kP,h4,kI,nB,nC,nD,aq,bV,fun s aj=>Bp s (Bv s aj),fun aj e=>by
   have oq:=DR aj
   rw[e] at th
   simp at th;omega,zn,by rw[cm];exact xN (fun L=>jU L key) (Rv key),by have:=h.DW _ _ iE;omega⟩)
 refine ⟨_,d0,c_,d1,c6,d2,dv,d3,Vb.use ?_⟩
 rintro v w' ⟨av,U,ad,au,aH,aY⟩
 have cA:=((rX.trans (b_.ext (T.cQ bx T.P) ee)).trans ad).mono (l:=100) (by omega)
 have acd:fM (T.cQ bx T.P)=fM T:=rfl
 have ace:(T.cQ bx T.P).bn=T.bn:=rfl
 rcases aY with ⟨rfl,b9,iD⟩|⟨rfl,b9,iD,oq⟩|⟨rfl,b9,iD,oq,rz,Pz⟩
 · subst iD
   exact ⟨2,rfl,_,U,cA,au,aH, .inr (.inr (.inl ⟨rfl,bg,LI,b9, .cQ q6⟩))⟩
 · exact ⟨0,rfl,_,U,cA,au,aH, .inr (.inr (.inr (.inl ⟨rfl,bg,LI,b9,iD,fun no dc=>⟨(oq no dc).1,(oq no dc).2.trans (q6 no)⟩⟩)))⟩
 · exact ⟨3,rfl,_,U,cA,au,aH, .inr (.inr (.inr (.inr ⟨rfl,bg,fun al=>b9 (rX.calm 60 (nt al (by omega))),(oV.cQ q6).trans ⟨iD,oq,rz,Pz⟩ rfl⟩)))⟩
end
end Go.Proofs.YtplieiecebljmaaGreat
