/- Contracts of the functions that the statement reaches, and the plain laws over them; each theorem stands with its conditions. -/
import Derived.Test.YtplieiecebljmaaGreatBFails5
namespace Go.Proofs.YtplieiecebljmaaGreat
open Go b_
section
def aX.L9 (T:aX) (k:Nat) (a:Int):aX:=T.cP {T.C with D:=T.C.D.fail k a} T.P
section
variable {bO w w':World} {dC cp:Nat} {T av:aX} {r h k c:Nat} {pages dK:List Nat} {L mX kQ:List bl} {V:Nat→mD} {ms l:aa} {A:List oQ}
theorem c6.KL {a:Int} (aV:c6 w T) (hd:ji w' (T.C.D.fail k a)) (al:ao (fun q=>q=T.C.D.d) w w'):c6 w' (T.L9 k a):=by
 have aH:iV T.C T.C.D.d:= .inr (.inr (.inl rfl))
 have af:=aV.oF.inv.mQ
 have kX:=aV.oF.raw
 have aek:∀q,T.X q→q≠T.C.D.d:=fun q J e=>(af q J).2 (by rw[e];exact aH)
 have hinv:=aV.oF.inv.an al fun q e=> .inl (by rw[e];exact aH)
 refine ⟨aV.t.an al (aek _ (.inl rfl)),aV.s.an al fun q J=>aek q (.inr (.inl J)),⟨⟨kX.v.an al fun e=>kX.bc.2.1 (by rw[e];exact .inl rfl),ct.an kX.f al fun e=>kX.bc.2.2 (by have e:T.C.b1=T.C.D.d:=e;rw[e];exact .inl rfl),hd,kX.dI,kX.ew,kX.hd,kX.bc⟩,⟨hinv.pins,fun f aH lr=> ?_,hinv.un,hinv.mQ⟩⟩,aV.Ds,aV.ij,aV.uu,aV.n,aV.num,aV.l_⟩
 obtain ⟨no,aA,aE,aI,aL,cQ⟩:=hinv.ok f aH lr
 exact ⟨no,aA,aE,aI,aL,cQ⟩
theorem asS {a:Int} (aj:nM bO w dC T r h pages L) (ae:1≤k∧k≤3) (aR:0≤a∧a≤9223372036854775807):
   aQ Tryz.prog F.xw #[.pointer (some ⟨T.C.D.d,0,none⟩), .int .i64 (k:Nat), .int .i64 a] w (fun v w'=>v= .int .i64 0∧nM bO w' dC (T.L9 k a) r h pages L∧ao (fun q=>q=T.C.D.d) w w'):=by
 refine (Td aj.t.oF.raw.dev ae aR).mono ?_
 rintro v w' ⟨rfl,hd,al,_⟩
 have aH:iV T.C T.C.D.d:= .inr (.inr (.inl rfl))
 refine ⟨rfl,⟨Ext.eX aj.x al (aj.zG _ (.inl aH)),aj.v.an al fun e=> ?_,aj.t.KL hd al,aj.ex,aj.zG,aj.ok,aj.dT,aj.two,aj.f,aj.o8⟩,al⟩
 exact aj.t.su aj.ex (.inl (by rw[e];exact aH))
theorem jK.Wy {s:aa} {xL:Nat} (aZ:jK (fun q=>¬T.M q) w s L) (al:ao (fun q=>q=xL) w w') (J:T.M xL):jK (fun q=>¬T.M q) w' s L:=aZ.an al fun q ab _ e=>ab (by rw[e];exact J)
theorem asT {D:dF} (aJ:D.fN.length=4):((D.fail 1 999999).fail 2 999999).calm 999999:=by
 obtain ⟨fN⟩:∃fN,fN=D.fN:=⟨_,rfl⟩
 match aH:D.fN,aJ with
 | [a,b,c,d],_=>
   unfold dF.calm dF.fail
   simp only[aH]
   exact ⟨.inr (Int.le_refl 999999), .inr (Int.le_refl 999999)⟩
theorem zI {w:World} {l aG c1:aa} {A:List oQ} {j5 after:Nat} {kind n:Int} {key val:Key} (ax:uU w l A) (hw:1≤j5∧j5≤2) (axo:after≤10) (ae:Src 1 w aG (bn key)) (Gn:∀q,aO aG q→q<w.heap.size) (ak:Src 1 w c1 (bn val)) (L0:∀q,aO c1 q→q<w.heap.size) (fp:key.length≤30) (jq:val.length≤30):
   aQ Tryz.prog F.zI #[.slice l.a l.len l.cap, .int .i64 (j5:Nat), .int .i64 (after:Nat), .agg #[.int .i64 kind, .slice aG.a aG.len aG.cap, .slice c1.a c1.len c1.cap, .int .i64 n]] w (fun v w'=>v= .bool true∧Ext w w'):=by
 have wJ:=ax.len
 refine W.asU l (j5:Nat) (after:Nat) kind aG c1 n w _ ?_
 (delta W.zI y9 aB a7 bI aq DO Ql ai ba aC sD ee aT DZ gl;dsimp only)
 refine cn (vs:=[.int .i64 kind, .slice aG.a aG.len aG.cap, .slice c1.a c1.len c1.cap, .int .i64 n]) rfl fun ag LY jE sh=> ?_
 obtain ⟨uT,nw⟩:∃uT,uT=w.heap.size:=⟨_,rfl⟩
 rw[←nw] at LY⊢
 refine (wh (n:=200) (by omega) (by omega) ag).use ?_
 rintro _ aw ⟨dC,T,rfl,g9,bD,Wi,c3,cG,eP,fa,h7,lv,k6,n3,iY,n_,r4⟩
 refine ⟨_,true,rfl,fun h=>(by cases h),fun _=>cn (vs:=[.slice none 0 0]) rfl fun a8 KN jR Kk=> ?_⟩
 have Qx:=asQ g9 bD Wi c3 (by omega) cG eP fa h7 lv k6 n3 iY n_ r4 KN jR
 obtain ⟨cp,iD⟩:∃cp,cp=aw.heap.size:=⟨_,rfl⟩
 rw[←iD] at Qx⊢
 generalize (T.dw (fun q=>q=dC∨q=cp) T.G)=asV at Qx
 generalize T.C.view=asW at Qx
 have hZ:=ax.ext jE
 have m8:=jE.size
 refine ⟨fun n w'=>∃ (i:Nat) (T:aX) (pages:List Nat) (ms:aa) (L:List bl),n=(i:Int)∧i≤60∧i≤A.length∧uV ag w' dC cp T 0 0 pages ms L [] [] asW i,
   fun n _=>((60:Int)-n).toNat,⟨0,asV,[],bU,[],rfl,by omega,fl _,Qx⟩,?_⟩
 rintro _ bK ⟨i,ck,pages,ms,L,rfl,hi,axp,iM⟩
 refine ⟨fun bd=> ?_,fun cg=> ?_⟩
 · obtain ⟨U,ad⟩:=asI (m:=60) wJ bd
   refine asM hZ U iM (by omega) fun w' av o9 o_ mX OB _=>⟨fun h=>(by cases h),fun _=> ?_⟩
   rw[asJ (by omega)]
   exact ⟨⟨i+1,av,o9,o_,mX,rfl,by omega,by omega,OB⟩,by show ((60:Int)-((i+1:Nat):Int)).toNat<((60:Int)-((i:Nat):Int)).toNat;omega⟩
 have qn:=iM.k3
 have gC:=iM.cR
 refine ⟨_,rfl,_,by rw[aW];exact iM.st.v.cell,(VV iM.st.t).use ?_⟩
 rintro _ kn ⟨rfl,asX⟩
 have HY:=Ext.trans asX (dL kn)
 have L_:=iM.ext HY
 refine ⟨_,_,rfl,bL ⟨fun _=>False,_,rfl,id,_,by rw[aW];exact L_.st.v.cell,_,rfl,id,ms,L_.L6.m.v.cell,(TC L_.st.t.s).use ?_⟩⟩
 rintro _ dy ⟨Gp,rfl,hu,Qt,asY⟩
 have ael:=L_.ext Qt
 have Wz:=ael.st
 have asZ:(0:Int)≤(after:Nat)∧((after:Nat):Int)≤9223372036854775807:=by omega
 refine ⟨Gp,rfl,Qt,_,rfl,_,Wz.v.cell,(asS Wz ⟨hw.1,by omega⟩ asZ).use ?_⟩
 rintro _ ko ⟨rfl,tH,A4⟩
 obtain ⟨da,rY⟩:∃da,da=ck.L9 j5 (after:Nat):=⟨_,rfl⟩
 rw[←rY] at tH
 have as0:da.f=ck.f:=by rw[rY];rfl
 have WA:ck.M ck.C.D.d:= .inl (.inr (.inr (.inl rfl)))
 have Ld:∀q,da.M q↔ck.M q:=fun q=>by rw[rY];exact Iff.rfl
 have as1:jK (fun q=>¬da.M q) ko ms L:=(ael.L6.m.p.Wy A4 WA).bz fun q _ ab hm=>ab ((Ld q).1 hm)
 have axq:ag.heap.size≤ck.C.D.d:=Wz.zG _ WA
 have hold:∀ {sO:World},Ext ag sO→Var sO uT [.int .i64 kind, .slice aG.a aG.len aG.cap, .slice c1.a c1.len c1.cap, .int .i64 n] ah.qt∧Src 1 sO aG (bn key)∧Src 1 sO c1 (bn val):=fun af=>⟨LY.ext af,(ae.ext jE).ext af,(ak.ext jE).ext af⟩
 have qF:∀ {sO:World},Ext ag sO→∀q,aO aG q→q<sO.heap.size∧¬da.M q:=fun af q J=>⟨by have:=Gn q J;have:=af.size;omega,fun hm=>by have:=tH.zG q hm;have:=Gn q J;omega⟩
 have jS:∀ {sO:World},Ext ag sO→∀q,aO c1 q→q<sO.heap.size∧¬da.M q:=fun af q J=>⟨by have:=L0 q J;have:=af.size;omega,fun hm=>by have:=tH.zG q hm;have:=L0 q J;omega⟩
 have F9:=tH.ok.low (by omega)
 have apt:da.C.D.cR=ck.C.D.cR:=by rw[rY];rfl
 obtain ⟨as2,_,_⟩:=hold tH.x
 refine ⟨0,rfl,eA (fun n w'=>∃dB:aX,c6 w' dB∧b5 da dB ko w' 100∧dB.E=da.E∧(n=0∨(n≠0∧oO da dB))) (fun q J=>⟨_,as2.cell,fun _=> ?_,fun _=> ?_⟩) ?_⟩
 · have bA:=dL ko
   have lD:=tH.ext bA
   obtain ⟨Qy,wa,aem⟩:=hold lD.x
   refine bL ⟨fun _=>False,_,rfl,id,_,by rw[aW];exact lD.v.cell,id,aG,by rw[aW];exact Qy.cell,(acU lD.t lD.ok (by omega) lD.dT (fun x af=>(lD.f x).2 (.inl af)) (by omega) wa (qF lD.x)).use ?_⟩
   rintro _ fz ⟨dB,rh,cy,fh,ih,mj⟩
   have gr:=((b5.ext da bA).trans cy).mono (l:=100) (by omega)
   rcases mj with ⟨rfl,_,kL⟩|⟨rfl,_,_,kL⟩|⟨rfl,_,_,_,kL⟩|⟨rfl,_,_,_,_⟩|⟨rfl,_,_,kL⟩
   · exact ⟨_,1,rfl,J _ _ ⟨dB,rh,gr,fh, .inr ⟨by decide,kL⟩⟩⟩
   · exact ⟨_,0,rfl,J _ _ ⟨dB,rh,gr,fh, .inl rfl⟩⟩
   · exact ⟨_,2,rfl,J _ _ ⟨dB,rh,gr,fh, .inr ⟨by decide,kL⟩⟩⟩
   · exact ⟨_,0,rfl,J _ _ ⟨dB,rh,gr,fh, .inl rfl⟩⟩
   · exact ⟨_,3,rfl,J _ _ ⟨dB,rh,gr,fh, .inr ⟨by decide,kL⟩⟩⟩
 · have bA:=dL ko
   have lD:=tH.ext bA
   obtain ⟨Qy,wa,aem⟩:=hold lD.x
   refine bL ⟨_,rfl,id,_,by rw[aW];exact lD.v.cell,id,aG,by rw[aW];exact Qy.cell,id,c1,by rw[aW];exact Qy.cell,(VC lD.t lD.ok (by omega) lD.dT (fun x af=>(lD.f x).2 (.inl af)) (by omega) wa (qF lD.x) aem (jS lD.x)).use ?_⟩
   rintro _ p5 (⟨rfl,_,rfl⟩|⟨_,_,dB,rh,cy,fh,ih,mj⟩)
   · exact ⟨1,rfl,J _ _ ⟨da,lD.t,(b5.ext da bA).mono (by omega),rfl, .inr ⟨by decide, .refl _⟩⟩⟩
   have gr:=((b5.ext da bA).trans cy).mono (l:=100) (by omega)
   rcases mj with ⟨rfl,_,rfl⟩|⟨rfl,_,_,_⟩|⟨rfl,_,kL⟩
   · exact ⟨2,rfl,J _ _ ⟨dB,rh,gr,fh, .inr ⟨by decide, .refl _⟩⟩⟩
   · exact ⟨0,rfl,J _ _ ⟨dB,rh,gr,fh, .inl rfl⟩⟩
   · obtain ⟨aA,aE,aI,aL⟩:=kL
     exact ⟨3,rfl,J _ _ ⟨dB,rh,gr,fh, .inr ⟨by decide,⟨aA,aE,aI,aL⟩⟩⟩⟩
 rintro WB sH ⟨dB,rh,Dc,as3,eT⟩
 obtain ⟨aA,aE,aI,aL⟩:=tH.base Dc as3
 have OY:∀ {sO:World} {T:aX},c6 sO T→ji sO T.C.D:=fun h=>h.oF.raw.dev
 refine ⟨_,rfl,_,aE.cell,(Td (OY rh) (k:=1) ⟨by omega,by omega⟩ (a:=999999) ⟨by omega,by omega⟩).use ?_⟩
 rintro _ rH ⟨rfl,as4,Ma,_⟩
 have WC:=rh.KL as4 Ma
 have aen:∀ {sO:World} {T:aX},c6 sO T→T.E dC→dC≠T.C.D.d:=fun h he e=>h.su he (.inl (.inr (.inr (.inl e))))
 have aeo:=aE.an Ma (aen rh aI)
 refine ⟨0,rfl,_,rfl,_,aeo.cell,(Td (OY WC) (k:=2) ⟨by omega,by omega⟩ (a:=999999) ⟨by omega,by omega⟩).use ?_⟩
 rintro _ oB ⟨rfl,as5,Mb,_⟩
 have P9:=WC.KL as5 Mb
 have as6:=aeo.an Mb (aen WC aI)
 have IS:dB.M dB.C.D.d:= .inl (.inr (.inr (.inl rfl)))
 have aep:Ext ag oB:=Ext.eX (Ext.eX aA Ma (aL _ IS)) Mb (aL _ IS)
 refine ⟨0,rfl,fun _=>⟨rfl,Ext.trans jE aep⟩,fun c4=> ?_⟩
 have as7:WB≠0:=fun e=>by rw[e] at c4;simp at c4
 have kL:=(eT.resolve_left as7).2
 have Vt:=kL.ok tH.ok fun x af=>(tH.f x).2 (.inl af)
 obtain ⟨lq,wk⟩:∃lq,lq=(dB.L9 1 999999).L9 2 999999:=⟨_,rfl⟩
 rw[←wk] at P9
 have WD:∀q,lq.M q↔dB.M q:=fun q=>by rw[wk];exact Iff.rfl
 have E8:nM ag oB dC lq 0 0 pages L:=by
   refine ⟨aep,by rw[wk];exact as6,P9,by rw[wk];exact aI,fun q J=>aL q ((WD q).1 J),by rw[wk];exact Vt,tH.dT,tH.two,fun no=> ?_,tH.o8⟩
   rw[wk]
   show dB.f no=true↔_
   rw[kL.f];exact tH.f no
 have aeq:lq.C.D.calm 999999:=by rw[wk];exact asT rh.oF.raw.dev.f4
 have aer:jK (fun q=>¬lq.M q) oB ms L:=by
   have U:=Dc.PY as1
   exact ((U.Wy Ma IS).Wy Mb IS).bz fun q _ ab hm=>ab ((WD q).1 hm)
 have axr:lq.C.D.cR≤1000000:=by
   rw[wk]
   show dB.C.D.cR≤_
   have:=Dc.cR
   omega
 have S4:lq.root=ck.root:=by rw[wk];show dB.root=_;rw[kL.root,rY];rfl
 have as8:lq.bw=ck.bw:=by rw[wk];show dB.bw=_;rw[kL.bw,rY];rfl
 have Sm:lq.f=ck.f:=by rw[wk];show dB.f=_;rw[kL.f,as0]
 have as9:lq.n=ck.n:=by rw[wk];show dB.n=_;rw[Dc.n,rY];rfl
 refine ⟨_,rfl,_,by rw[aW];exact E8.v.cell,(VV E8.t).use ?_⟩
 rintro _ zJ ⟨rfl,WE⟩
 have Qz:=E8.ext WE
 refine ⟨_,_,rfl,_,rfl,_,by rw[aW];exact Qz.v.cell,(adg (kK:=bU) (kY:=bU) (most:=1000) Qz.t Qz.ok (by omega) (by omega) (aei zJ) aej (aei zJ) aej (by decide)).use ?_⟩
 rintro _ IT ⟨nx,as_,ml,ata,⟨cM,rfl,s8⟩|⟨_,fj⟩⟩
 rotate_left
 · exact absurd (mE aeq (by omega)) fj
 rw[asR,gX (by have:(1000:Int).toNat=1000:=rfl;omega)] at s8
 have QA:=Qz.kept as_ ml.to ml.E ⟨ml.root,ml.bw,ml.f,fun no _=>⟨by rw[ml.P],ml.view no⟩⟩
 have atb:=(ml.done (by omega) ata).PY (aer.ext WE)
 have atc:bV 1 ah.int IT Gp (vQ ck.f ck.n):=by
   have U:Ext dy ko∨True:= .inr trivial
   have aes:∀q,aO Gp q→¬ck.M q∧q<dy.heap.size:=fun q J=>⟨fun hm=>by have:=asY q J;have:=L_.st.t.lt hm;omega,hu.lt q J⟩
   have aet:=hu.an A4 fun q J e=>(aes q J).1 (by rw[e];exact WA)
   have WG:∀q,aO Gp q→¬da.M q∧q<ko.heap.size:=fun q J=>⟨fun hm=>(aes q J).1 ((Ld q).1 hm),aet.lt q J⟩
   have atd:=aet.an Dc.an fun q J aD=>(WG q J).1 (aX.k7 aD)
   have WH:∀q,aO Gp q→¬dB.M q:=fun q J=>(Dc.out (WG q J).2 (WG q J).1).1
   have ate:=(atd.an Ma fun q J e=>WH q J (by rw[e];exact IS)).an Mb fun q J e=>WH q J (by rw[e];exact IS)
   exact (ate.ext WE).an ml.to.an fun q J aD=>WH q J ((WD q).1 (aX.k7 aD))
 refine ⟨cM,0,rfl,eA (fun b w'=>b=true∧Ext IT w') (fun q J=>⟨fun _=>⟨_,rfl,_,by rw[aW];exact QA.v.cell,(TC QA.t.s).use ?_⟩,fun h=> ?_⟩) ?_⟩
 · rintro _ tc ⟨dP,rfl,adJ,aeu,_⟩
   have e:vQ nx.f nx.n=vQ ck.f ck.n:=by
     have aY:nx.n=lq.n:=ml.to.n
     rw[ml.f,Sm,aY,as9]
   refine ⟨dP,rfl,(wg adJ.src (atc.ext aeu).src (fun v ak=> ?_) (fun v ak=> ?_) ?_).use ?_⟩
   · obtain ⟨d,_,rfl⟩:=nq.1 ak
     exact ⟨_,rfl⟩
   · obtain ⟨d,_,rfl⟩:=nq.1 ak
     exact ⟨_,rfl⟩
   · unfold vQ
     rw[lf]
     have:=TB nx.f nx.n
     have:=QA.t.s.db
     omega
   · rintro _ aev ⟨b,rfl,ab,af⟩
     exact ⟨b,rfl,J _ _ ⟨ab.2 e,Ext.trans aeu af⟩⟩
 · rw[S4,as8] at h
   simp at h
 rintro _ QB ⟨rfl,WI⟩
 refine eA (fun b w'=>b=true∧Ext QB w') (fun q J=>⟨fun _=>(wi (s8.ext WI) (atb.ext WI) (by omega)).use ?_,fun h=>(by cases h)⟩) ?_
 · rintro _ aew ⟨b,rfl,ab,af⟩
   exact ⟨b,rfl,J _ _ ⟨ab.2 rfl,af⟩⟩
 rintro _ oJ ⟨rfl,Po⟩
 have Uk:=QA.ext (Ext.trans WI Po)
 have arE:=ml.to.cR
 have atf:nx.C.D.calm 2000:=ml.to.calm 2000 (mE aeq (by omega))
 have hlen:((ms.len:Nat):Int)=(L.length:Nat):=by rw[aer.len]
 refine eA (fun b w'=>b=true∧Ext w w') (fun q J=>⟨fun _=> ?_,fun h=>(by cases h)⟩) ?_
 · rw[hlen]
   refine (asF Uk (by omega) (by omega) atf (by have:=Uk.t.s.dk;have U:=iM.n;have aY:nx.n=lq.n:=ml.to.n;omega)).use ?_
   rintro _ aex ⟨rfl,Fc,Oy,_,_⟩
   exact ⟨true,rfl,J _ _ ⟨rfl,Ext.trans jE Oy.x⟩⟩
 rintro _ DH ⟨rfl,atg⟩
 exact ⟨rfl,atg⟩
end
end
section
theorem ath {w:World} {l:aa} {A:List oQ} {a:oQ} {x y:Int} (ax:uU w l A) (af:0≤x∧x≤255) (b3:0≤y∧y≤255) (aR:Ec w a):
   aQ Tryz.prog F.Gs #[.slice l.a l.len l.cap, .agg #[.int .u8 x, .int .u8 y], .agg #[.int .i64 a.kind, .slice a.aG.a a.aG.len a.aG.cap, .slice a.c1.a a.c1.len a.c1.cap, .int .i64 a.n]] w (fun v w'=>v= .bool true∧Ext w w'):=by
 refine W.ati l x y a.kind a.aG a.c1 a.n w _ ?_
 (delta W.Gs ai h8 bI aq DO ba aC aB;dsimp only)
 refine cn (vs:=[.int .u8 x, .int .u8 y]) rfl fun ag pH bD ky=>cn (vs:=[.int .i64 a.kind, .slice a.aG.a a.aG.len a.aG.cap, .slice a.c1.a a.c1.len a.c1.cap, .int .i64 a.n]) rfl fun aw YC cA mo=>bL ?_
 obtain ⟨aS,mw⟩:∃aS,aS=aw.drew:=⟨_,rfl⟩
 rw[←mw]
 have eU:Ext aw aS:=by rw[mw];exact dL _
 have g0:=Ext.trans (Ext.trans bD cA) eU
 have sm:=(pH.ext cA).ext eU
 have Mc:=YC.ext eU
 have dM:=aR.ext g0
 have m8:=bD.size
 have CN:=eU.size
 have rz:=sm.lt
 have aap:=Mc.lt
 have aY:IntKind.wrap .i64 ((IntKind.wrap .i64 (Int.tmod x 2))+1)=(((x%2+1).toNat:Nat):Int):=by
   rw[RJ af.1,cz (n:=x%2) (by omega) (by omega),cz (by omega) (by omega)];omega
 have bo:IntKind.wrap .i64 (Int.tmod y 6)=(((y%6).toNat:Nat):Int):=by
   rw[RJ b3.1,cz (by omega) (by omega)];omega
 refine ⟨fun q=>aS.heap.size≤q,fun h=> ?_,_,sm.cell,by decide,fun h=> ?_,_,by rw[aW];exact sm.cell,by decide,fun h=> ?_,_,Mc.cell,a.aG,by rw[aW];exact Mc.cell,a.c1,by rw[aW];exact Mc.cell,_,by rw[aW];exact Mc.cell,(uS a.kind a.n dM.k dM.Wt dM.v dM.Av).use ?_⟩
 · have h:aS.heap.size≤w.heap.size:=h
   omega
 · have h:aS.heap.size≤w.heap.size:=h
   omega
 · have h:aS.heap.size≤ag.heap.size:=h
   omega
 rintro _ b9 ⟨dj,dP,rfl,mx,aG,c1⟩
 have sr:=Ext.trans g0 mx
 rw[aY,bo]
 refine ⟨_,dj,dP,_,rfl,ao.eQ mx,(zI (ax.ext sr) ⟨by omega,by omega⟩ (by omega) aG.1 (fun q J=>(aG.2.2 q J).2) c1.1 (fun q J=>(c1.2.2 q J).2) (by rw[d_];omega) (by rw[d_];omega)).use ?_⟩
 rintro _ ep ⟨rfl,LB⟩
 refine ⟨true,rfl,eA (fun b w'=>b=true∧Ext ep w') (fun q J=>⟨fun _=>(ash ep).use ?_,fun h=>(by cases h)⟩) ?_⟩
 · rintro _ dO ⟨rfl,af⟩
   exact ⟨true,rfl,J _ _ ⟨rfl,af⟩⟩
 rintro _ fH ⟨rfl,AY⟩
 exact ⟨rfl,Ext.trans (Ext.trans sr LB) AY⟩
set_option maxRecDepth 100000 in
theorem atj.of {w:World} {v:Value} (h:wj Tryz.prog w ah.qt v):∃a:oQ,v= .agg #[.int .i64 a.kind, .slice a.aG.a a.aG.len a.aG.cap, .slice a.c1.a a.c1.len a.c1.cap, .int .i64 a.n]∧Ec w a:=by
 have hu:Tryz.prog.underlying ah.qt=some (.struct (fieldsOf Tryz.prog ah.qt)):=by kernel_rfl
 unfold wj at h
 rw[hu] at h
 obtain ⟨cs,rfl,fuel,h⟩:=h
 obtain ⟨a,e,h⟩:=L5 h
 refine ⟨a,?_,h⟩
 have bo:cs=a.c.toArray:=by rw[←e]
 rw[bo];rfl
set_option maxRecDepth 100000 in
theorem atk.of {w:World} {v:Value} (h:wj Tryz.prog w ah.Md v):∃x y:Int,v= .agg #[.int .u8 x, .int .u8 y]∧(0≤x∧x≤255)∧(0≤y∧y≤255):=by
 have hu:Tryz.prog.underlying ah.Md=some (.struct (fieldsOf Tryz.prog ah.Md)):=by kernel_rfl
 unfold wj at h
 rw[hu] at h
 obtain ⟨cs,rfl,fuel,h⟩:=h
 have hlen:cs.toList.length=2:=by
   have:=(Ww h hu).1
   rwa[show Tryz.prog.cellsOf ah.Md=2 by kernel_rfl] at this
 obtain ⟨_,f0⟩:=IQ h hu 0 (t:=ah.uint8) (o:=0) (n:=1) (by kernel_rfl) (by kernel_rfl)
 obtain ⟨_,f1⟩:=IQ h hu 1 (t:=ah.uint8) (o:=1) (n:=1) (by kernel_rfl) (by kernel_rfl)
 obtain ⟨bM,gk,a0,oE⟩:=L4 f0 (k:= .u8) (by kernel_rfl)
 obtain ⟨dk,aY,bc,c3⟩:=L4 f1 (k:= .u8) (by kernel_rfl)
 refine ⟨bM,dk,?_,Wv a0 oE,Wv bc c3⟩
 have bo:cs=cs.toList.toArray:=rfl
 rw[bo]
 match cs.toList,hlen,gk,aY with
 | [a,b],_,gk,aY=>
   simp at gk aY
   rw[gk,aY]
end
end Go.Proofs.YtplieiecebljmaaGreat
