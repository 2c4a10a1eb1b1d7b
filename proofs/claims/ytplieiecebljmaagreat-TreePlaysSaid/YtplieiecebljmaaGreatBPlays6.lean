/- Contracts of the functions that the statement reaches, and the plain laws over them; each theorem stands with its conditions. -/
import Derived.Test.YtplieiecebljmaaGreatBPlays5
namespace Go.Proofs.YtplieiecebljmaaGreat
open Go cd
section
section
variable {bJ w w':World} {cF b5:Nat} {T av:aZ} {r h k c:Nat} {pages de:List Nat} {L pY gJ:List bl} {V:Nat→lF} {ms l:aa} {A:List qm}
theorem e6.done (c4:e6 T av w w' k) (ae:k≤3000) (hF:av.G=T.G):uK T av w w':=c4.to.done ae c4.E hF fun no _=>⟨by rw[c4.P],c4.view no⟩
theorem qn.rd (ga:qn bJ w cF b5 T r h pages ms L de gJ V c) (bj:c1 w' av) (c4:e6 T av w w' k) (ae:k≤3000) (hF:av.G=T.G):qn bJ w' cF b5 av r h pages ms L de gJ V (c+1):=
 ⟨ga.st.kept bj c4.to c4.E ⟨c4.root,c4.bn,c4.f,fun no _=>⟨by rw[c4.P],c4.view no⟩⟩,ga.qo.to ga.st.t c4.to c4.E,ga.iV.done (c4.done ae hF),fun m=>c4.to.calm m (ga.calm _),by have:=ga.cX;have:=c4.to.cX;omega,by have:=ga.iS;omega,by rw[c4.to.n];exact ga.n⟩
theorem ad1 (w:World):Src 1 w bX (bo []):=(b3.none 1 ah.uint8 w).src
theorem ad2 {B:Nat→Prop}:∀q,aQ bX q→B q:=fun q J=>(qF q J).elim
theorem ass (ga:qn bJ w cF b5 T r h pages ms L de gJ V c) (al:c≤400) {most:Int} (hm:(L.length:Int)≤most):
   aO Tryz.prog F.zC #[.pointer (some ⟨T.bQ,0,none⟩), .slice none 0 0, .slice none 0 0, .int .i64 most] w (fun v w'=>∃ (av:aZ) (s:aa),v= .tuple #[.slice s.a s.len s.cap, .int .i64 0]∧iL (fun q=>¬av.M q) w' s L∧qn bJ w' cF b5 av r h pages ms L de gJ V (c+1)∧e6 T av w w' 2000∧av.G=T.G):=by
 have pd:=ga.iS
 have gC:=ga.cX
 have Gg:=ga.st.ok.low (by omega)
 refine (acM (kJ:=bX) (kY:=bX) (most:=most) ga.st.t ga.st.ok (by omega) (by omega) (ad1 w) ad2 (ad1 w) ad2 (by decide)).mono ?_
 rintro v w' ⟨av,fO,c4,hF,⟨s,rfl,aW⟩|⟨_,fk⟩⟩
 · rw[asr,g3 (by omega)] at aW
   exact ⟨av,s,rfl,aW,ga.rd fO c4 (by omega) hF,c4.mono (by omega),hF⟩
 · exact absurd (ga.calm _) fk
theorem ast (ga:qn bJ w cF b5 T r h pages ms L de gJ V c) (al:c≤400):aO Tryz.prog F.zI #[.pointer (some ⟨cF,0,none⟩)] w (fun v w'=>v= .tuple #[]∧∃ (av:aZ),av.C=T.C∧av.E=T.E∧av.G=T.G∧av.f=T.f∧av.g=T.f∧av.n=T.n∧av.P=T.P∧qn bJ w' cF b5 av T.root T.bn pages ms L pages L T.C.view c):=by
 have pd:=ga.iS
 refine (ar6 ga.st ga.qo (by omega) ga.iV.gen).mono ?_
 rintro v w' ⟨rfl,s2,av,rfl,U,ad,au⟩
 exact ⟨rfl,T.Ee T.f T.f T.s1 s2,rfl,rfl,rfl,rfl,rfl,rfl,rfl,U,ad,au,ga.calm,ga.cX,ga.iS,ga.n⟩
theorem asu {bY:World} {Qb:aa} (ax:v8 bJ l A) (ga:qn bJ bY cF b5 T r h pages ms L de gJ V c) (oO:iL (fun q=>¬T.M q) bY Qb gJ) (al:c≤390) (awJ:gJ.length≤c) {i:Nat} (hi:i<A.length) {R:aa→World→Prop} {X:World→Prop}
   (c9:∀ (w':World) (av:aZ) (p7 oo:Nat) (sH V4:List Nat) (sI V5:aa) (pY L9:List bl) (bM:Nat→lF),qn bJ w' cF b5 av p7 oo sH sI pY V4 L9 bM (c+2)→iL (fun q=>¬av.M q) w' V5 L9→L9.length≤c+2→R V5 w'):
   ∃gG:Addr,l.a=some gG∧((0:Int)≤(i:Int)∧(i:Int)<((l.len:Nat):Int))∧
  ∃n14:Int,bY.cell? (gG.add (Int.toNat (i:Int)*4))=some (.int .i64 n14)∧
  ∃eQ:aa,bY.cell? ((gG.add (Int.toNat (i:Int)*4)).add 1)=some (.slice eQ.a eQ.len eQ.cap)∧
  ∃dd:aa,bY.cell? ((gG.add (Int.toNat (i:Int)*4)).add 2)=some (.slice dd.a dd.len dd.cap)∧
  ∃n17:Int,bY.cell? ((gG.add (Int.toNat (i:Int)*4)).add 3)=some (.int .i64 n17)∧
  Calls Tryz.prog F.xY #[.agg #[.int .i64 n14, .slice eQ.a eQ.len eQ.cap, .slice dd.a dd.len dd.cap, .int .i64 n17]] bY fun S4 eP=>
  ∃n20:Int,∃dV:aa,∃e5:aa,∃n23:Int,S4= .returned (.agg #[.int .i64 n20, .slice dV.a dV.len dV.cap, .slice e5.a e5.len e5.cap, .int .i64 n23])∧
  Calls Tryz.prog F.zH #[.pointer (some ⟨cF,0,none⟩), .pointer (some ⟨b5,0,none⟩), .agg #[.int .i64 n20, .slice dV.a dV.len dV.cap, .slice e5.a e5.len e5.cap, .int .i64 n23]] eP fun Kn cD=>
  ∃x2:Bool,Kn= .returned (.bool x2)∧((!x2)=true→X cD)∧
  ((!x2)=false→c0 (
    fun tB:aa→World→Prop=>∃a28:Addr,l.a=some a28∧((0:Int)≤(i:Int)∧(i:Int)<((l.len:Nat):Int))∧
    ∃n29:Int,cD.cell? (a28.add (Int.toNat (i:Int)*4))=some (.int .i64 n29)∧
    (((n29:Int)==4)=true→Calls Tryz.prog F.zI #[.pointer (some ⟨cF,0,none⟩)] cD fun asv fB=>
     asv= .returned (.tuple #[])∧∃a32:Addr,(some ⟨b5,0,none⟩:Option Addr)=some a32∧
     ∃jd:aa,fB.cell? a32=some (.slice jd.a jd.len jd.cap)∧tB jd fB)
    ∧(((n29:Int)==4)=false→tB Qb cD))
   (fun (dY:aa) (gV:World)=>c0 (
     fun Eg:World→Prop=>∃x3:Addr,l.a=some x3∧((0:Int)≤(i:Int)∧(i:Int)<((l.len:Nat):Int))∧
     ∃n38:Int,gV.cell? (x3.add (Int.toNat (i:Int)*4))=some (.int .i64 n38)∧
     (((n38:Int)==5)=true→∃v_:Addr,(some ⟨b5,0,none⟩:Option Addr)=some v_∧
      (∃u:Value,gV.cell? v_=some u)∧gV.frozen? v_=false∧ay (gV.setCell v_ (.slice dY.a dY.len dY.cap)) fun qZ=>
      Calls Tryz.prog F.BR #[.pointer (some ⟨cF,0,none⟩)] qZ fun R3 dy=>∃pZ:Bool,R3= .returned (.bool pZ)∧
      ((!pZ)=true→X dy)∧((!pZ)=false→Eg dy))
     ∧(((n38:Int)==5)=false→Eg gV))
    (fun (jo:World)=>∃Eh:Addr,(some ⟨b5,0,none⟩:Option Addr)=some Eh∧
     ∃mO:aa,jo.cell? Eh=some (.slice mO.a mO.len mO.cap)∧Calls Tryz.prog F.BS #[.pointer (some ⟨cF,0,none⟩), .int .i64 ((mO.len:Nat):Int)] jo fun V6 dq=>
     ∃qp:Bool,V6= .returned (.bool qp)∧((!qp)=true→X dq)∧((!qp)=false→R dY dq)))):=by
 obtain ⟨a,hY,ab,cJ,aV,bA,bd⟩:=(ax.ext ga.st.x).at hi
 have ed:=(ax.ok A[i] (fh hi)).ext ga.st.x
 have ad3:∀w',Ext bJ w'→w'.cell? (a.add (Int.toNat (i:Int)*4))=some (.int .i64 (A[i]).kind):=fun w' af=>by
   obtain ⟨dg,kU,_,d0,_⟩:=(ax.ext af).at hi
   rw[hY] at kU;cases kU
   exact d0
 refine ⟨a,hY,ab,_,cJ,(A[i]).aI,aV,(A[i]).eU,bA,_,bd,(xY (A[i]).kind (A[i]).n ed.k ed.adX ed.v ed.CH).use ?_⟩
 rintro _ fg ⟨dN,e1,rfl,oy,aI,eU⟩
 have DM:∀q,bY.heap.size≤q→¬T.M q:=fun q J hm=>by have:=ga.st.t.lt hm;omega
 refine ⟨_,dN,e1,_,rfl,(asp _ _ (ga.ext oy) (by omega) (bL.bz aI fun q _ J=>DM q J) (bL.bz eU fun q _ J=>DM q J) (by rw[ej];omega) (by rw[ej];omega)).use ?_⟩
 rintro _ cD ⟨rfl,cE,nB,ad4,bU,V7,Ei⟩
 have asw:=Ei.PF (oO.ext oy)
 refine ⟨true,rfl,fun h=>(by cases h),fun _=>eN (fun dY gV=>∃ (dz:aZ) (aq ad:Nat) (L_:List Nat) (zJ:List bl) (c6:Nat→lF),qn bJ gV cF b5 dz aq ad nB ad4 bU L_ zJ c6 (c+1)∧iL (fun q=>¬dz.M q) gV dY zJ∧zJ.length≤c+1) (fun q J=>⟨a,hY,ab,_,ad3 _ V7.st.x,fun _=>(ast V7 (by omega)).use ?_,fun _=>J _ _ ⟨cE,r,h,de,gJ,V,V7,asw,by omega⟩⟩) ?_⟩
 · rintro _ fB ⟨rfl,dz,_,_,_,_,_,_,_,mw⟩
   exact ⟨rfl,_,rfl,ad4,mw.qo.m.v.cell,J _ _ ⟨dz,_,_,_,_,_,mw,mw.qo.m.p,mw.iS⟩⟩
 rintro dY gV ⟨dz,aq,ad,L_,zJ,c6,mw,ad5,ZP⟩
 refine vh (fun jo=>∃ (e_:aZ) (V8:List Nat) (Qe:aa) (JV:List bl),qn bJ jo cF b5 e_ aq ad V8 Qe JV L_ zJ c6 (c+1)∧iL (fun q=>¬e_.M q) jo dY zJ) (fun q J=>⟨a,hY,ab,_,ad3 _ mw.st.x,fun _=> ?_,fun _=>J _ ⟨dz,_,_,_,mw,ad5⟩⟩) ?_
 · obtain ⟨dB,dZ⟩:=jk mw.qo.m.v (i:=0) (by simp)
   have ec:=il gV b5 0 (.slice dY.a dY.len dY.cap)
   have jY:∀q,¬dz.M q→q<gV.heap.size→¬q=b5:=fun q J _ e=>J (.inr (.inr (.inr (.inl (by rw[e];exact mw.qo.em)))))
   have asx:iL (fun q=>¬dz.M q) (gV.setCell ⟨b5,0,none⟩ (.slice dY.a dY.len dY.cap)) dY zJ:=ad5.an ec jY
   have asy:tA (gV.setCell ⟨b5,0,none⟩ (.slice dY.a dY.len dY.cap)) cF b5 dz dY zJ:=⟨⟨jj mw.qo.m.v (i:=0) _,asx,mw.qo.m.bF,fun p aW=>⟨by have:=(mw.iV.m9 p aW).1.2;omega,(mw.iV.m9 p aW).2⟩,by have:=mw.iV.iS;omega⟩,mw.qo.em,mw.qo.sG⟩
   refine ⟨_,rfl,dB,dZ,bN ((ase (mw.st.map mw.qo.em mw.qo.sG ec) asy mw.iV).use ?_)⟩
   rintro _ dy ⟨rfl,s1,bQ,e_,vV,U,ad,au⟩
   refine ⟨true,rfl,fun h=>(by cases h),fun _=>J _ ⟨e_,L_,dY,zJ,⟨U,ad,au,?_,?_,by omega,?_⟩,ad.m.p⟩⟩
   · rw[vV];exact mw.calm
   · rw[vV];exact mw.cX
   · rw[vV];exact mw.n
 rintro jo ⟨e_,V8,Qe,JV,Ej,asz⟩
 have aoX:=Ej.iS
 have ss:=Ej.cX
 refine ⟨_,rfl,Qe,Ej.qo.m.v.cell,?_⟩
 rw[Ej.qo.m.p.len]
 refine (asm Ej.st (by omega) (by omega) Ej.calm Ej.n).use ?_
 rintro _ dq ⟨rfl,sB,Fh,Fi,ad6⟩
 exact ⟨true,rfl,fun h=>(by cases h),fun _=>c9 dq sB aq ad V8 L_ Qe dY JV zJ c6 (Ej.rd Fh.t Fi (by omega) ad6) ((Fi.done (by omega) ad6).PF asz) (by omega)⟩
end
end
section
theorem asA {i n m:Nat} {a:Nat} (az:n=a) (h:(decide (((i:Nat):Int)<((n:Nat):Int))&&decide (((i:Nat):Int)<((m:Nat):Int)))=true):i<a∧i<m:=by
 rw[jL,fx,fx] at h
 omega
theorem asB {i:Nat} (h:i≤1000000):IntKind.wrap .i64 (((i:Nat):Int)+1)=((i+1:Nat):Int):=by rw[cz (by omega) (by omega)];omega
theorem asC {w:World} {qq:Int} {l:aa} {A:List qm} (b7:0≤qq∧qq≤255) (ax:v8 w l A):
   aO Tryz.prog F.Gy #[.int .u8 qq, .slice l.a l.len l.cap] w (fun v w'=>v= .bool true∧Ext w w'):=by
 have wB:=ax.len
 refine W.asD qq l w _ ?_
 (delta W.Gy DQ aD aA a6 bK aq Dx bd ai bA gk;dsimp only)
 obtain ⟨n,ld,nk,aC⟩:∃n:Nat,16≤n∧n≤1600∧IntKind.wrap .i64 (16+(Int.tmod (IntKind.wrap .i64 qq) 100))=(n:Nat):=by
   rw[cz (n:=qq) (by omega) (by omega),Int.tmod_eq_emod_of_nonneg b7.1,cz (by omega) (by omega)]
   exact ⟨(16+qq%100).toNat,by omega,by omega,by omega⟩
 rw[aC]
 refine ⟨by decide,(vY ld nk w).use ?_⟩
 rintro _ ag ⟨cF,T,rfl,gW,bG,VO,da,cI,eM,e7,iu,lk,k4,nX,jc,nZ,r2⟩
 refine ⟨_,true,rfl,fun h=>(by cases h),fun _=>cx (vs:=[.slice none 0 0]) rfl fun bB HS ji N1=> ?_⟩
 have Ma:=asq gW bG VO da ld cI eM e7 iu lk k4 nX jc nZ r2 HS ji
 obtain ⟨b5,iG⟩:∃b5,b5=ag.heap.size:=⟨_,rfl⟩
 rw[←iG] at Ma⊢
 generalize (T.dw (fun q=>q=cF∨q=b5) T.G)=ad7 at Ma
 generalize T.C.view=asE at Ma
 have eR:=iP bB (.cells #[] ah.mf)
 have lz:iL (fun q=>¬ad7.M q) (bB.alloc (.cells #[] ah.mf)) ⟨some ⟨bB.heap.size,0,none⟩,0,0⟩ []:=by
   have bE:=b3.new (sz:=2) (T:=ah.mf) bB [] 0 (by simp) (by decide)
   refine ⟨[],bE.src,cR _,fun q J=>⟨fun hm=> ?_,bE.lt q J⟩,rfl,fun i h=>by simp at h⟩
   have:=Ma.st.t.lt hm
   rw[ui] at J;simp at J;omega
 refine ⟨⟨some ⟨bB.heap.size,0,none⟩,0,0⟩,_,LY bB,fun fi n w'=>∃ (i:Nat) (T:aZ) (r h:Nat) (pages de:List Nat) (ms:aa) (L gJ:List bl) (V:Nat→lF),n=(i:Int)∧i≤120∧i≤A.length∧qn w w' cF b5 T r h pages ms L de gJ V (2*i)∧iL (fun q=>¬T.M q) w' fi gJ∧gJ.length≤2*i,
   fun _ n _=>((120:Int)-n).toNat,⟨0,ad7,0,0,[],[],bX,[],[],asE,rfl,by omega,fm _,Ma.ext eR,lz,cR _⟩,?_⟩
 rintro fi _ cy ⟨i,cE,r,h,pages,de,ms,L,gJ,V,rfl,hi,awK,ga,oO,rN⟩
 refine ⟨fun ba=> ?_,fun ck=> ?_⟩
 · obtain ⟨U,ad⟩:=asA (m:=120) wB ba
   refine asu ax ga oO (by omega) rN U fun w' av p7 oo sH V4 sI V5 pY L9 bM Ol asF IC=> ?_
   rw[asB (by omega)]
   exact ⟨⟨i+1,av,p7,oo,sH,V4,sI,pY,L9,bM,rfl,by omega,by omega,Ol,asF,IC⟩,by show ((120:Int)-((i+1:Nat):Int)).toNat<((120:Int)-((i:Nat):Int)).toNat;omega⟩
 · have pd:=ga.iS
   refine ⟨_,rfl,_,by rw[aX];exact ga.st.v.cell,(ass ga (by omega) (most:=1000) (by omega)).use ?_⟩
   rintro _ lN ⟨av,s,rfl,aW,mw,c4,hF⟩
   refine ⟨s,0,rfl,eN (fun b w'=>b=true∧Ext lN w') (fun q J=>⟨fun _=>⟨_,rfl,ms,mw.qo.m.v.cell,(vZ aW mw.qo.m.p (by omega)).use ?_⟩,fun h=>(by cases h)⟩) ?_⟩
   · rintro _ o7 ⟨b,rfl,ab,af⟩
     exact ⟨b,rfl,J _ _ ⟨ab.2 rfl,af⟩⟩
   rintro _ c8 ⟨rfl,ze⟩
   refine eN (fun b w'=>b=true∧Ext c8 w') (fun q J=>⟨fun _=>(arJ c8).use ?_,fun h=>(by cases h)⟩) ?_
   · rintro _ qU ⟨rfl,af⟩
     exact ⟨true,rfl,J _ _ ⟨rfl,af⟩⟩
   rintro _ pK ⟨rfl,asG⟩
   exact ⟨rfl,Ext.trans (Ext.trans mw.st.x ze) asG⟩
end
end Go.Proofs.YtplieiecebljmaaGreat
