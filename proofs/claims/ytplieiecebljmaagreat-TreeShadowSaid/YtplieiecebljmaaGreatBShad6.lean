/- Contracts of the functions that the statement reaches, and the plain laws over them; each theorem stands with its conditions. -/
import Derived.Test.YtplieiecebljmaaGreatBShad5
namespace Go.Proofs.YtplieiecebljmaaGreat
open Go b8
section
section
variable {bI w w':World} {cV b6:Nat} {T av:bf} {r h k c:Nat} {pages di:List Nat} {L k7 iB:List bo} {V:Nat→kO} {ms l:ab} {A:List pF}
structure xU (T av:bf) (w w':World):Prop where
 an:ao T.M w w'
 fP:∀q,av.M q→T.M q∨w.heap.size≤q
theorem qz.aeh (h:qz T av w w'):xU T av w w':=⟨h.an,h.fP⟩
theorem xU.oq {s:ab} {ls:List Key} (h:xU T av w w') (aV:bU (fun q=>¬T.M q) w s ls):bU (fun q=>¬av.M q) w' s ls:=by
 have U:bU (fun q=>q<w.heap.size∧¬T.M q) w s ls:=bU.bA aV fun q J aa=>⟨J,aa⟩
 refine bU.bA (bU.an U h.an fun q J aD=>J.2 aD) fun q _ aa hm=> ?_
 rcases h.fP q hm with ad|ad
 · exact aa.2 ad
 · have:=aa.1;omega
theorem xU.u7 {s:ab} {ds:List Nat} (h:xU T av w w') (aV:dG (fun q=>¬T.M q) w s ds):dG (fun q=>¬av.M q) w' s ds:=by
 have U:dG (fun q=>q<w.heap.size∧¬T.M q) w s ds:=dG.bA aV fun q J aa=>⟨J,aa⟩
 refine dG.bA (dG.an U h.an fun q J aD=>J.2 aD) fun q _ aa hm=> ?_
 rcases h.fP q hm with ad|ad
 · exact aa.2 ad
 · have:=aa.1;omega
theorem xU.VF {s:ab} (h:xU T av w w') (aV:kR (fun q=>¬T.M q) w s L):kR (fun q=>¬av.M q) w' s L:=by
 have U:kR (fun q=>q<w.heap.size∧¬T.M q) w s L:=aV.bA fun q J aa=>⟨J,aa⟩
 refine (U.an h.an fun q J _ aD=>J.2 aD).bA fun q _ aa hm=> ?_
 rcases h.fP q hm with ad|ad
 · exact aa.2 ad
 · have:=aa.1;omega
theorem aei {bd:dC} (en:nI bI w cV b6 T r h pages ms L di iB V c) (m4:kg T.X w' bd) (ak:bd.c=T.C.c) (hd:bd.D.d=T.C.D.d) (aD:bd.D.n=T.C.D.n) {d:Nat} (gA:bd.D.cl≤6000*d) (nx:c≤d) (CV:∀k,bd.D.calm k) (oZ:ao (g7 T.C) w w') (nw:∀q,g7 bd q→g7 T.C q∨w.heap.size≤q) (al:∀j,bd.view j=T.C.view j):
   nI bI w' cV b6 (T.cU bd T.P) r h pages ms L di iB V d∧xU T (T.cU bd T.P) w w':=by
 have aj:=en.st
 have hm:=en.Mf
 have aU:=aj.t
 have af:=aU.oG.inv.m0
 have Lu:∀q,T.E q→¬g7 T.C q:=fun q J=>(af q (.inr (.inr (.inl J)))).2
 have A0:xU T (T.cU bd T.P) w w':=⟨oZ.mono fun q _ J=> .inl J,fun q J=>by
   rcases J with J|J
   · exact (nw q J).imp .inl id
   · exact .inl (.inr J)⟩
 have dE:=aj.x.size
 refine ⟨⟨⟨Ext.gv aj.x A0.an fun q J=>aj.BX q J,?_,⟨?_,aU.s.an oZ fun q J aA=>(af q (.inr (.inl J))).2 aA,m4,aU.zb,aU.iJ,aU.um,by show bd.D.n=T.n;rw[aD,aU.n],aU.num,fun no e0 aV=>by show _∧ta _ _ _ (bd.view no) _;rw[al];exact aU.l_ no e0 aV⟩,aj.ex,fun q J=> ?_,aj.ok.agree rfl rfl fun _ _=>rfl,aj.e0,aj.two,aj.f,aj.n1⟩,⟨⟨hm.m.v.an oZ (Lu _ hm.em),A0.VF hm.m.p,fun J=>J (.inr (.inr (.inr (.inl hm.em)))),hm.m.ok,hm.m.jS⟩,hm.em,hm.vT⟩,⟨en.hN.ok.agree rfl rfl fun _ _=>rfl,en.hN.e0,en.hN.two,en.hN.g,fun no c8=>(al no).trans (en.hN.view no c8),en.hN.n1,en.hN.jS,en.hN.num,en.hN.gen⟩,CV,gA,by have:=en.jS;omega,en.n⟩,A0⟩
 · show Var w' cV [.pointer (some ⟨bd.D.d,0,none⟩), .pointer (some ⟨bd.c,0,none⟩),_,_,_,_] _
   rw[ak,hd]
   exact aj.v.an oZ (Lu _ aj.ex)
 · have:=aU.t.an oZ fun aA=>(af T.cB (.inl rfl)).2 aA
   unfold DC at this⊢
   show Var w' T.cB [.pointer (some ⟨bd.c,0,none⟩),_,_,_,_] _
   rw[ak];exact this
 · rcases A0.fP q J with U|U
   · exact aj.BX q U
   · omega
theorem aej (en:nI bI w cV b6 T r h pages ms L di iB V c) (ak:c≤10000) (Kr:T.C.D.e4.getD 3 0= -1):
   aP Tryz.prog F.zL #[.pointer (some ⟨T.C.c,0,none⟩)] w (fun v w'=>v= .int .i64 0∧∃bd:dC,nI bI w' cV b6 (T.cU bd T.P) r h pages ms L di iB V (c+1)∧xU T (T.cU bd T.P) w w'∧bd.D.e4.getD 3 0= -1∧∀j,bd.D.now j=T.C.view j):=by
 have gA:=en.cl
 refine (asH en.st.t.oG (by omega)).mono ?_
 rintro v w' ⟨bd,aj⟩
 rcases aj.lM with ⟨rfl,hw,qg,asL⟩|⟨_,_,U|U⟩
 · obtain ⟨U,ad⟩:=aei en aj.at_ aj.c aj.d aj.n (d:=c+1) (by have:=aj.cl;omega) (yd _) (fun k=>aj.calm k (en.calm _)) aj.an aj.fP aj.view
   exact ⟨rfl,bd,U,ad,by rw[asL,Kr];rfl,fun j=>by rw[←asE aj.at_ qg,aj.view]⟩
 · exact absurd (en.calm _) U
 · unfold cM.p1 at U
   rw[Kr] at U
   cases U
structure xV (T:bf) (w w':World) (aH:cM):Prop where
 dev:h9 w' aH
 d:aH.d=T.C.D.d
 n:aH.n=T.C.D.n
 cl:aH.cl=T.C.D.cl
 now:∀j,aH.now j=T.C.D.now j
 calm:∀k,aH.calm k
 e4:aH.e4.getD 3 0=T.C.D.e4.getD 3 0
 fP:∀q,gG aH q→gG T.C.D q
 an:ao (gG T.C.D) w w'
theorem nI.fJ (en:nI bI w cV b6 T r h pages ms L di iB V c):xV T w w T.C.D:=⟨en.st.t.oG.raw.dev,rfl,rfl,rfl,fun _=>rfl,en.calm,rfl,fun _ h=>h, .refl _ _⟩
theorem xV.en {aH:cM} (aa:xV T w w' aH) (en:nI bI w cV b6 T r h pages ms L di iB V c):nI bI w' cV b6 (T.cU {T.C with D:=aH} T.P) r h pages ms L di iB V c∧xU T (T.cU {T.C with D:=aH} T.P) w w':=by
 obtain ⟨mz,g3⟩:=Qt en.st.t.oG aa.dev aa.d aa.n aa.now aa.an fun q J=> .inl (aa.fP q J)
 refine aei en mz rfl aa.d aa.n (d:=c) (by show aH.cl≤_;rw[aa.cl];exact en.cl) (cP _) aa.calm (aa.an.mono fun q _ e=> .inr (.inr e)) (fun q J=> ?_) g3
 rcases J with J|J|J
 · exact .inl (.inl J)
 · exact .inl (.inr (.inl J))
 · exact .inl (.inr (.inr (aa.fP q J)))
theorem xV.new {ag:World} {aH:cM} (aa:xV T w ag aH) (aU:dz w T) (ak:ao (fun q=>w.heap.size≤q) ag w'):xV T w w' aH:=
 ⟨aa.dev.an ak fun q J aB=>by have:=aU.oG.raw.dev.lt (aa.fP q J);omega,aa.d,aa.n,aa.cl,aa.now,aa.calm,aa.e4,aa.fP,jw aa.an ak fun q J aB=>by omega⟩
theorem xV.read {ag:World} {aH:cM} (aa:xV T w ag aH) (gA:aH.cl≤1000000000) {i:Nat} (hi:i<aH.n):
   aP Tryz.prog F.xg #[.pointer (some ⟨T.C.D.d,0,none⟩), .int .i64 ((i:Nat):Int)] ag (fun v w'=>∃ (s:ab) (da:cM),v= .tuple #[.slice s.a s.len s.cap, .int .i64 0]∧bH (fun q=>ag.heap.size≤q) w' s (T.C.D.now i)∧xV T w w' da∧da.n=aH.n∧da.cl=aH.cl∧ao (fun q=>q=T.C.D.d) ag w'):=by
 rw[←aa.d]
 refine (ZQ aa.dev hi gA).mono ?_
 rintro v w' ⟨hd,oZ,⟨aek,_⟩|⟨aek,s,rfl,aj⟩⟩
 · have:=(y3 (k:=1) (m:=0) (.inl rfl) aa.dev.f4 (aa.calm 1)).2
   rw[aek] at this;cases this
 · rw[aa.now] at aj
   refine ⟨s,aH.fJ 1,rfl,aj,⟨hd,aa.d,aa.n,aa.cl,aa.now,fun k=>(y3 (.inl rfl) aa.dev.f4 (aa.calm _)).1,(congrArg Prod.snd (KT aH (.inl rfl))).trans aa.e4,aa.fP,jw aa.an oZ fun q _ e=>by rw[e,aa.d];exact .inl rfl⟩,rfl,rfl,oZ⟩
end
end
section
section
variable {bI w w':World} {cV b6:Nat} {T av:bf} {r h k c:Nat} {pages di:List Nat} {L k7 iB:List bo} {V:Nat→kO} {ms l:ab} {A:List pF}
theorem dG.CX {B:Nat→Prop} {s:ab} {ds:List Nat} (h:dG B w s ds) {i:Nat} (hi:i<ds.length):∃A:Addr,s.a=some A∧((0:Int)≤(i:Int)∧(i:Int)<((s.len:Nat):Int))∧¬(fun _:Nat=>False) (A.add (Int.toNat (i:Int)*1)).block∧w.cell? (A.add (Int.toNat (i:Int)*1))=some (.int .i64 ((ds[i]:Nat):Int)):=by
 obtain ⟨A,U,ad,aq⟩:=h.at hi
 exact ⟨A,U,ad,id,aq⟩
theorem asM {w:World} {l more:ab} {A B:List pF} (ay:tx w l A) (fc:tx w more B):
   aP Tryz.prog F.Gs #[.slice l.a l.len l.cap, .slice more.a more.len more.cap] w (fun v w'=>v= .bool true∧Ext w w'):=by
 have Af:=ay.len
 have oh:=fc.len
 refine W.asN l more w _ ?_
 (delta W.Gs DY aF bc bD ar tc z5 ai Wm bk aE bm bj dZ gE;dsimp only)
 refine (vR (n:=300) (by omega) (by omega) w).use ?_
 rintro _ ag ⟨cV,T,rfl,hE,bK,VZ,c3,cG,eT,eQ,iA,ln,k3,nZ,jB,nH,qa,uM⟩
 refine ⟨_,true,rfl,fun h=>(by cases h),fun _=>cx (vs:=[.slice none 0 0]) rfl fun bO HO kK Oe=> ?_⟩
 have B2:=asb hE bK VZ c3 (by omega) cG eT eQ iA ln k3 nZ jB nH qa HO kK
 obtain ⟨b6,iE⟩:∃b6,b6=ag.heap.size:=⟨_,rfl⟩
 rw[←iE] at B2⊢
 have kq:(T.dF (fun q=>q=cV∨q=b6) T.G).C.D.e4.getD 3 0= -1:=uM
 have Hv:(T.dF (fun q=>q=cV∨q=b6) T.G).n=300:=c3
 generalize (T.dF (fun q=>q=cV∨q=b6) T.G)=asO at B2 kq Hv
 generalize T.C.view=asP at B2
 refine ⟨fun n w'=>∃ (i:Nat) (T:bf) (pages:List Nat) (ms:ab) (L:List bo),n=(i:Int)∧i≤60∧i≤A.length∧nI w w' cV b6 T 0 0 pages ms L [] [] asP i∧T.C.D.e4.getD 3 0= -1∧T.n=300,
   fun n _=>((60:Int)-n).toNat,⟨0,asO,[],cg,[],rfl,by omega,fi _,B2,kq,Hv⟩,?_⟩
 rintro _ bY ⟨i,c2,pages,ms,L,rfl,hi,axf,en,jd,l0⟩
 refine ⟨fun a6=> ?_,fun cm=> ?_⟩
 · obtain ⟨U,ad⟩:=ad0 (m:=60) Af a6
   refine ad1 ay U en (by omega) fun w' av nd nf k7 HE hd=>⟨fun h=>(by cases h),fun _=> ?_⟩
   rw[Qq (by omega)]
   exact ⟨⟨i+1,av,nd,nf,k7,rfl,by omega,by omega,HE,(congrArg Prod.snd hd.e5).trans jd,hd.n.trans l0⟩,by show ((60:Int)-((i+1:Nat):Int)).toNat<((60:Int)-((i:Nat):Int)).toNat;omega⟩
 refine (asc en (by omega)).use ?_
 rintro _ eO ⟨rfl,df,ael,_,_,_,zM,vf,_,aem⟩
 have dW:df.C.D.e4.getD 3 0= -1:=by rw[ael];exact jd
 have BB:df.f=df.g:=by rw[zM];assumption
 refine ⟨rfl,_,rfl,_,by rw[aX];exact aem.st.v.cell,(aej aem (by omega) dW).use ?_⟩
 rintro _ iu ⟨rfl,AW,Mj,_,Mi,aen⟩
 obtain ⟨dp,Eh⟩:∃dp,dp=df.cU AW df.P:=⟨_,rfl⟩
 have K0:dp.C=AW:=by rw[Eh];rfl
 have ou:dp.n=300:=by rw[Eh];exact vf.trans l0
 have asQ:dp.f=dp.g:=by rw[Eh];exact BB
 rw[←Eh] at Mj
 rw[←K0] at Mi aen
 refine ⟨0,rfl,fun h=>(by cases h),fun _=>⟨_,rfl,_,by rw[aX];exact Mj.st.v.cell,(amM Mj.st.t.s).use ?_⟩⟩
 rintro _ iv ⟨Gt,rfl,nX,aeo,asR⟩
 obtain ⟨ds,pe⟩:∃ds,ds=(List.range dp.n).filter dp.f:=⟨_,rfl⟩
 have Qu:∀x,x∈ds↔x<dp.n∧dp.f x=true:=fun x=>by rw[pe];simp
 have ld:ds.length≤300:=by
   rw[pe]
   have:=ye dp.f (List.range dp.n)
   rw[List.length_range,ou] at this
   rw[ou];exact this
 have asS:kY ds=Dy dp.f dp.n:=ar4 (by rw[pe];exact List.Pairwise.filter _ List.pairwise_lt_range) Qu
 rw[←asS] at nX
 have axg:Gt.len=ds.length:=by
   have:=nX.1
   rw[E9] at this;omega
 have Gu:=Mj.ext aeo
 have Gl:∀q,dp.M q→q<iu.heap.size:=fun q J=>Mj.st.t.lt J
 have axh:=aeo.size
 have aep:dG (fun q=>¬dp.M q) iv Gt ds:=⟨nX.src,nX.2.1,fun q J=>⟨fun hm=>by have:=Gl q hm;have:=asR q J;omega,nX.lt q J⟩⟩
 obtain ⟨zN,aeq⟩:∃zN,zN=iv.heap.size:=⟨_,rfl⟩
 have kX:Ext iv (iv.alloc (.cells #[] ah.cc)):=iM _ _
 have aaA:(iv.alloc (.cells #[] ah.cc)).heap.size=zN+1:=by rw[aeq];exact Array.size_push _
 have asT:bZ (fun q=>zN≤q) (iv.alloc (.cells #[] ah.cc)) ⟨some ⟨iv.heap.size,0,none⟩,0,0⟩ []:=by
   have U:bX 1 ah.cc (iv.alloc (.cells #[] ah.cc)) ⟨some ⟨iv.heap.size,0,none⟩,0,0⟩ []:=bX.new iv [] 0 rfl (by decide)
   refine ⟨[],rfl,U,fun q J=>⟨?_,U.lt q J⟩,fun i hi=>(by cases hi)⟩
   obtain ⟨A,ay,rfl⟩:=J
   cases ay
   rw[aeq];exact cP _
 have asU:∀q,gG dp.C.D q→q<zN:=fun q J=>by have:=Gl q (.inl (.inr (.inr J)));omega
 have asV:gG dp.C.D dp.C.D.d:= .inl rfl
 refine ⟨Gt,rfl,bN ⟨fun s n w'=>∃ (k:Nat) (D:cM),n=(k:Int)∧k≤ds.length∧xV dp iv w' D∧bZ (fun q=>zN≤q) w' s ((ds.take k).map df.C.view)∧zN≤w'.heap.size,
   fun _ n _=>((ds.length:Int)-n).toNat,⟨0,dp.C.D,rfl,fi _,Gu.fJ.new Gu.st.t (kX.mono fun _ _ h=>h.elim),asT,by omega⟩,?_⟩⟩
 rintro hO _ me ⟨k,D,rfl,ae,xA,Qv,axi⟩
 have Wl:D.n=300:=xA.n.trans (Gu.st.t.n.trans ou)
 have Lb:D.cl≤1000000:=by rw[xA.cl];have:=Gu.cl;omega
 obtain ⟨Wn,Wo⟩:=xA.en Gu
 refine ⟨fun a6=> ?_,fun cm=> ?_⟩
 · have iz:k<ds.length:=by
     have:((k:Nat):Int)<((Gt.len:Nat):Int):=dL a6
     omega
   have bB:=ej me
   have l2:=xA.new Gu.st.t (bB.mono fun _ _ h=>h.elim)
   obtain ⟨A,ay,aa,asW,jF⟩:=(dG.ext (Wo.u7 aep) bB).CX iz
   have asX:=(Qu _).1 (e3 iz)
   have Wp:=Wn.st.v.ext bB
   have Hu:me.drew.cell? ⟨cV,0,none⟩=some (.pointer (some ⟨dp.C.D.d,0,none⟩)):=by
     have U:=Wp.cell (i:=0)
     rw[←xA.d];exact U
   refine bN ⟨fun _=>False,_,rfl,id,_,Hu,A,ay,aa,id,_,jF,(l2.read (by omega) (i:=ds[k]) (by omega)).use ?_⟩
   rintro _ uF ⟨e7,asY,rfl,Ek,Yz,_,_,si⟩
   rw[aen] at Ek
   have abT:me.drew.heap.size=me.heap.size:=rfl
   have dN:∀q,zN≤q→¬q=dp.C.D.d:=fun q J e=>by have:=asU _ asV;omega
   have asZ:bZ (fun q=>zN≤q) uF hO ((ds.take k).map df.C.view):=bZ.an (bZ.ext Qv bB) si dN
   have D5:∀q,aQ hO q→zN≤q∧q<me.heap.size:=fun q J=>by
     obtain ⟨ts,_,_,aq,_⟩:=Qv
     exact aq q J
   have HB:=si.size
   obtain ⟨pg,ph,aC,aG,aJ,aN⟩:=Su asZ (t:=e7) (l:=df.C.view ds[k]) (bH.bA Ek fun q _ J=>by omega) (fun q J bG=>by have:=(Ek.2.2 q J).1;have:=(D5 q bG).2;omega) (by simp;omega) (fun q J=>by omega)
   have Qw:=Qq (i:=k) (by omega)
   refine ⟨e7,0,rfl,bN ⟨pg,ph,aC,?_,?_⟩⟩
   · rw[Qw]
     refine ⟨k+1,asY,rfl,by omega,Yz.new Gu.st.t (aJ.mono fun q _ J=>by have:=(D5 q J).1;omega),?_,by have:=aJ.size;omega⟩
     rw[sL iz,mV];exact aG
   · rw[Qw]
     show ((ds.length:Int)-((k+1:Nat):Int)).toNat<((ds.length:Int)-((k:Nat):Int)).toNat;omega
 have iz:k=ds.length:=by
   have:¬((k:Nat):Int)<((Gt.len:Nat):Int):=fb cm
   omega
 rw[iz,r9] at Qv
 obtain ⟨oI,Mk⟩:∃oI,oI=dp.cU {dp.C with D:=D} dp.P:=⟨_,rfl⟩
 rw[←Mk] at Wn Wo
 have as0:oI.C.D.e4.getD 3 0= -1:=by rw[Mk];exact xA.e4.trans Mi
 have J6:oI.n=300:=by rw[Mk];exact ou
 have as1:oI.g=dp.f:=by rw[Mk,asQ];rfl
 have as2:∀q,oI.M q→dp.M q:=fun q J=>by
   rw[Mk] at J
   rcases J with (J|J|J)|J
   · exact .inl (.inl J)
   · exact .inl (.inr (.inl J))
   · exact .inl (.inr (.inr (xA.fP q J)))
   · exact .inr J
 have as3:bU (fun q=>¬oI.M q) me hO (ds.map df.C.view):=bU.bA Qv.oq fun q J aa hm=>by have:=Gl q (as2 q hm);omega
 have as4:=Wo.u7 aep
 refine ⟨fun n w'=>∃ (j:Nat) (T:bf) (nd:List Nat) (nf:ab) (k7:List bo),n=(j:Int)∧j≤60∧j≤B.length∧nI w w' cV b6 T c2.root c2.bx nd nf k7 pages L c2.C.view (i+1+j)∧dG (fun q=>¬T.M q) w' Gt ds∧bU (fun q=>¬T.M q) w' hO (ds.map df.C.view)∧T.C.D.e4.getD 3 0= -1∧T.n=300∧T.g=dp.f,
   fun n _=>((60:Int)-n).toNat,⟨0,oI,pages,ms,L,rfl,by omega,fi _,Wn,as4,as3,as0,J6,as1⟩,?_⟩
 rintro _ nt ⟨j,yQ,axj,axk,axl,rfl,aZ,axm,B2,aer,aes,Ss,aet,Ot⟩
 refine ⟨fun a6=> ?_,fun cm=> ?_⟩
 · obtain ⟨U,ad⟩:=ad0 (m:=60) oh a6
   refine ad1 fc U B2 (by omega) fun w' av nd nf k7 HE hd=>⟨fun h=>(by cases h),fun _=> ?_⟩
   rw[Qq (by omega)]
   exact ⟨⟨j+1,av,nd,nf,k7,rfl,by omega,by omega,HE,hd.aeh.u7 aer,hd.aeh.oq aes,(congrArg Prod.snd hd.e5).trans Ss,hd.n.trans aet,hd.g.trans Ot⟩,by show ((60:Int)-((j+1:Nat):Int)).toNat<((60:Int)-((j:Nat):Int)).toNat;omega⟩
 refine ⟨_,rfl,_,by rw[aX];exact B2.st.v.cell,(aej B2 (by omega) Ss).use ?_⟩
 rintro _ Gv ⟨rfl,aeu,En,aev,axn,aew⟩
 have aex:=aev.u7 aer
 have aey:=aev.oq aes
 obtain ⟨sq,Wq⟩:∃sq,sq=yQ.cU aeu yQ.P:=⟨_,rfl⟩
 have as5:sq.C=aeu:=by rw[Wq];rfl
 have P1:sq.n=300:=by rw[Wq];exact aet
 rw[←Wq] at En aex aey
 rw[←as5] at aew
 have sE:∀x∈ds,sq.C.D.now x=df.C.view x:=fun x af=>by
   have af:=(Qu x).1 af
   rw[aew,ael]
   exact B2.hN.view x (by rw[Ot];exact af.2)
 refine ⟨0,rfl,fun h=>(by cases h),fun _=>⟨fun n w'=>∃ (k:Nat) (D:cM),n=(k:Int)∧k≤ds.length∧xV sq Gv w' D,
   fun n _=>((ds.length:Int)-n).toNat,⟨0,sq.C.D,rfl,fi _,En.fJ⟩,?_⟩⟩
 rintro _ o4 ⟨m,D,rfl,hm,Ml⟩
 have axo:D.n=300:=Ml.n.trans (En.st.t.n.trans P1)
 have axp:D.cl≤1000000:=by rw[Ml.cl];have:=En.cl;omega
 obtain ⟨aez,as6⟩:=Ml.en En
 refine ⟨fun a6=> ?_,fun cm=> ?_⟩
 · have DS:m<ds.length:=by
     have:((m:Nat):Int)<((Gt.len:Nat):Int):=dL a6
     omega
   have bB:=ej o4
   have l2:=Ml.new En.st.t (bB.mono fun _ _ h=>h.elim)
   obtain ⟨A,ay,aa,asW,jF⟩:=(dG.ext (as6.u7 aex) bB).CX DS
   have asX:=(Qu _).1 (e3 DS)
   have Wp:=aez.st.v.ext bB
   have Hu:o4.drew.cell? ⟨cV,0,none⟩=some (.pointer (some ⟨sq.C.D.d,0,none⟩)):=by
     have U:=Wp.cell (i:=0)
     rw[←Ml.d];exact U
   refine bN ⟨fun _=>False,_,rfl,id,_,Hu,A,ay,aa,id,_,jF,(l2.read (by omega) (i:=ds[m]) (by omega)).use ?_⟩
   rintro _ Wr ⟨ki,as7,rfl,Ek,as8,_,_,_⟩
   rw[sE _ (e3 DS)] at Ek
   have mA:=ej Wr
   have aeA:=as8.new En.st.t (mA.mono fun _ _ h=>h.elim)
   obtain ⟨axq,as9⟩:=aeA.en En
   obtain ⟨as_,t8,ata,atb,yC,aeB,_⟩:=(as9.oq aey).at (i:=m) (by simp;exact DS)
   rw[List.getElem_map] at aeB
   have Qw:=Qq (i:=m) (by omega)
   refine ⟨ki,0,rfl,bN ⟨fun h=>(by cases h),fun _=>⟨S (df.C.view ds[m]),fun Qx af=>tU ((Ek.1.ext mA).ext af),as_,ata,atb,id,t8,yC,S (df.C.view ds[m]),fun Qy af=>tU (aeB.1.ext af),fun h=> ?_,fun _=> ?_⟩⟩⟩
   · rw[beq_self_eq_true] at h
     cases h
   · rw[Qw]
     exact ⟨⟨m+1,as7,rfl,by omega,aeA⟩,by show ((ds.length:Int)-((m+1:Nat):Int)).toNat<((ds.length:Int)-((m:Nat):Int)).toNat;omega⟩
 refine (arx o4).use ?_
 rintro _ I3 ⟨rfl,af⟩
 exact ⟨true,rfl,rfl,Ext.trans aez.st.x af⟩
end
end
end Go.Proofs.YtplieiecebljmaaGreat
