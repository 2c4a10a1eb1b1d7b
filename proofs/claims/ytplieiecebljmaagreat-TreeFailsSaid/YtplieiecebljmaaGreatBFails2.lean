/- Contracts of the functions that the statement reaches, and the plain laws over them; each theorem stands with its conditions. -/
import Derived.Test.YtplieiecebljmaaGreatBFails1
namespace Go.Proofs.YtplieiecebljmaaGreat
open Go b_
section
def pj:aM:=⟨false,[],[],[]⟩
def bU:aa:=⟨none,0,0⟩
def Sz (leaf:Bool) (l:List UInt8) (w w':World) (v:Value):Prop:=
 (∃ (n:aM) (K V D:aa),v= .tuple #[e9 n K V D, .int .i64 0]∧ym leaf l n∧cd (fun q=>w.heap.size≤q) w' n K V D)∨
 (v= .tuple #[e9 pj bU bU bU, .int .i64 4]∧∀n,¬ym leaf l n)
theorem rD {w':World} {h:Nat} {vs:List Value} (b:Bool) (K V D:aa) (ak:Var w' h vs ah.cO) (az:vs.length=4) {Q:Bool→aa→aa→aa→World→Prop} (yA:∀aw,ao (fun q=>q=h) w' aw→Q b K V D aw):
   cZ w' ⟨h,0,none⟩ [.bool b, .slice K.a K.len K.cap, .slice V.a V.len V.cap, .slice D.a D.len D.cap]∧(4:Nat)=4∧ay (setCells w' ⟨h,0,none⟩ 0 [.bool b, .slice K.a K.len K.cap, .slice V.a V.len V.cap, .slice D.a D.len D.cap]) fun aw=>
     ∃eP:Bool,aw.cell? ⟨h,0,none⟩=some (.bool eP)∧∃cN:aa,aw.cell? (Addr.add ⟨h,0,none⟩ 1)=some (.slice cN.a cN.len cN.cap)∧∃bJ:aa,aw.cell? (Addr.add ⟨h,0,none⟩ 2)=some (.slice bJ.a bJ.len bJ.cap)∧
       ∃cM:aa,aw.cell? (Addr.add ⟨h,0,none⟩ 3)=some (.slice cM.a cM.len cM.cap)∧Q eP cN bJ cM aw:=by
 refine ⟨ak.dA (by rw[az];rfl) ?_,rfl,ek ak (us:=[.bool b, .slice K.a K.len K.cap, .slice V.a V.len V.cap, .slice D.a D.len D.cap]) (by rw[az];rfl) rfl fun aw gM al _=> ?_⟩
 · intro v ak
   simp only[gb,m4,m5] at ak
   rcases ak with rfl|rfl|rfl|rfl<;>trivial
 · obtain ⟨cH,aT,bC,ba⟩:=cj gM
   exact ⟨b,cH,K,aT,V,bC,D,ba,yA aw al⟩
theorem wU {w:World} {s:aa} {l:List UInt8} (aj:Src 1 w s (bn l)) (al:s.len≤s.cap) (fo:∀k,aO s k→k<w.heap.size) (az:l.length≤100000) (leaf:Bool):
   aQ Tryz.prog F.wU #[.bool leaf, .slice s.a s.len s.cap] w (fun v w'=>Sz leaf l w w' v∧Ext w w'):=by
 refine W.ajC leaf s w _ ?_
 (delta W.wU dx ai aT aB SA aq st ee aC bS gl ba J4;dsimp only)
 refine cn (vs:=[.bool false, .slice none 0 0, .slice none 0 0, .slice none 0 0]) rfl fun ag m8 bD ky=> ?_
 refine cn (vs:=[.slice s.a s.len s.cap, .bool true]) rfl fun aw fS cA mo=> ?_
 refine cn (vs:=[.bool false, .slice none 0 0, .slice none 0 0, .slice none 0 0]) rfl fun aS qQ eU vn=> ?_
 refine ⟨qQ.dA rfl (by
   intro v ak
   simp only[gb,m4,m5] at ak
   rcases ak with rfl|rfl|rfl|rfl<;>trivial),rfl,ek qQ (us:=[.bool leaf, .slice none 0 0, .slice none 0 0, .slice none 0 0]) rfl rfl fun bp St yw J5=> ?_⟩
 obtain ⟨lo,lX⟩:∃lo,lo=bp.heap.size:=⟨_,rfl⟩
 obtain ⟨r,aN⟩:∃r,r=ag.heap.size:=⟨_,rfl⟩
 obtain ⟨bE,kC⟩:∃bE,bE=aw.heap.size:=⟨_,rfl⟩
 have tX:Ext w bp:=Ext.eX (bD.trans (cA.trans eU)) yw (by omega)
 have Od:sn bp ag.heap.size s (l,true):=by
   refine ⟨(fS.ext eU).an yw (by omega),(aj.ext (bD.trans (cA.trans eU))).an yw fun k ae e=> ?_,al,fun k ae=> ?_⟩
   · have:=fo k ae;omega
   · have:=fo k ae;omega
 refine (Sw Od 1 (by decide) az).use ?_
 rintro _ bH ⟨bJ,rfl,ajD,l0,yr⟩
 have kh:(rdNum (l,true) 1).1<256:=Sx _ 1
 have E8:=l0.size
 have Y8:t_ lo bH r bE bJ (⟨leaf,[],[],[]⟩,(rdNum (l,true) 1).2) bU bU bU (fun _=>False) (fun _=>False) (fun _=>False):=by
   refine ⟨by rw[kC];exact St.an l0 (by omega),by rw[aN];exact ajD,b4.none _ _,b4.none _ _,eO.none _ _,fun q h=>h.elim,fun q h=>h.elim,fun q h=>h.elim,fun q J=> ?_,by omega,by omega,by omega,jb (Oa _ 1) az⟩
   have:=fo q (yr q J)
   exact ⟨by omega,by omega⟩
 have Y9:ao (E6 lo r bE) bp bH:=l0.mono fun k _ ae=> .inl (by omega)
 rw[←aN,←kC]
 refine ⟨_,rfl,wV (fun w'=>∃ (ar D:aa) (cu:Nat→Prop),t_ lo w' r bE ar (Ac leaf (rdNum (l,true) 1).2) bU bU D (fun _=>False) (fun _=>False) cu∧ao (E6 lo r bE) bp w'∧lo≤w'.heap.size) (fun q J=>⟨fun dm=> ?_,fun dm=>J _ ⟨bJ,bU,fun _=>False,?_,Y9,by omega⟩⟩) ?_⟩
 · have dm:leaf=false:=by simpa using dm
   subst dm
   refine Y7 Y8 (by omega) (by simp) fun w' aP ar Sy U ad au=>J _ ⟨ar,aP,Sy,?_,Y9.trans ad,au⟩
   have:Ac false (rdNum (l,true) 1).2=(⟨false,[],[],[]++ [(rdNum (rdNum (l,true) 1).2 2).1]⟩,(rdNum (rdNum (l,true) 1).2 2).2):=by simp[Ac]
   rw[this];exact U
 · have dm:leaf=true:=by simpa using dm
   subst dm
   exact Y8
 rintro a8 ⟨cM,ajE,ajF,Y_,qN,ajG⟩
 obtain ⟨pQ,E9⟩:∃pQ,pQ=Ac leaf (rdNum (l,true) 1).2:=⟨_,rfl⟩
 rw[←E9] at Y_
 have ajH:pQ.1.leaf=leaf:=by rw[E9];unfold Ac;cases leaf<;>rfl
 have avF:pQ.1.keys.length=0∧pQ.1.vals.length≤1∧pQ.1.kids.length≤1:=by rw[E9];unfold Ac;cases leaf<;>simp
 refine ⟨fun i w'=>∃ (j:Nat) (ar K V D:aa) (cC cX cu:Nat→Prop),i=j∧j≤(rdNum (l,true) 1).1∧t_ lo w' r bE ar (qg pQ j) K V D cC cX cu∧ao (E6 lo r bE) bp w'∧lo≤w'.heap.size,fun i _=>(((rdNum (l,true) 1).1:Int)-i).toNat,⟨0,cM,bU,bU,ajE,_,_,ajF,rfl,fl _,Y_,qN,ajG⟩,?_⟩
 rintro _ bh ⟨j,g_,K,V,D,cC,cX,cu,rfl,a_,wW,qS,ajI⟩
 obtain ⟨pH,pI,sm⟩:=Y6 pQ j
 have Hr:=Y5 pQ j ajH
 refine ⟨fun bd=> ?_,fun cg=> ?_⟩
 · have bd:j<(rdNum (l,true) 1).1:=by have:=dD bd;omega
   rw[cz (n:=(j:Int)+1) (by omega) (by omega)]
   refine wV (fun w'=>∃ (ar K V D:aa) (cC cX cu:Nat→Prop),t_ lo w' r bE ar (qg pQ (j+1)) K V D cC cX cu∧ao (E6 lo r bE) bp w'∧lo≤w'.heap.size) (fun q J=> ?_) ?_
   · refine ajA wW ajI (by omega) fun bW Oe ec Of Og CG Oh=>⟨fun dm=> ?_,fun dm=> ?_⟩
     · refine ajB Og Oh (by show (qg pQ j).1.vals.length≤_;omega) fun b6 ajJ dc ajK J6 hA J7=>J _ ⟨dc,Oe,ajJ,D,Of,ajK,cu,?_,qS.trans (CG.trans hA),J7⟩
       rw[qg]
       unfold EZ
       rw[Hr,dm,if_pos rfl]
       rw[Hr,dm] at J6
       exact J6
     · refine Y7 Og Oh (by show (qg pQ j).1.kids.length≤_;omega) fun b6 ajL dc ajM J6 hA J7=>J _ ⟨dc,Oe,V,ajL,Of,cX,ajM,?_,qS.trans (CG.trans hA),J7⟩
       rw[qg]
       unfold EZ
       rw[Hr,dm,if_neg (by simp)]
       rw[Hr,dm] at J6
       exact J6
   · rintro bW ⟨ec,Oe,ajN,ajO,Of,ajP,ajQ,Og,CG,Oh⟩
     refine ⟨⟨j+1,ec,Oe,ajN,ajO,Of,ajP,ajQ,by omega,by omega,Og,CG,Oh⟩,?_⟩
     show (((rdNum (l,true) 1).1:Int)-((j:Int)+1)).toNat<(((rdNum (l,true) 1).1:Int)-(j:Int)).toNat
     omega
 · have cg:j=(rdNum (l,true) 1).1:=by have:=eW cg;omega
   have Ag:qg pQ j=qK leaf l:=by rw[cg,E9];rfl
   rw[Ag] at wW pH pI sm Hr
   obtain ⟨cH,aT,bC,ba⟩:=cj wW.v
   have hG:cd (fun q=>lo≤q) bh (qK leaf l).1 K V D:=⟨bZ.bz (b4.qP wW.keys) fun q _ J=>(wW.bT q J).1,bZ.bz (b4.qP wW.vals) fun q _ J=>(wW.bv q J).1,eo.bz (eO.Hn wW.kids) fun q _ J=>(wW.a7 q J).1⟩
   have sj:Ext w bh:=Ext.gN tX qS fun k ae=>by
     rcases ae with ae|ae|ae<;>omega
   refine ⟨_,cH,K,aT,V,bC,D,ba,(vu hG (by omega) (by omega) (by omega)).use ?_⟩
   rintro SB bW ⟨fh,gd⟩
   have Cy:=sj.trans gd
   have SC:=wW.v.ext gd
   have ajR:=wW.rd.ext gd
   have E_:Var bW w.heap.size [.bool false, .slice none 0 0, .slice none 0 0, .slice none 0 0] ah.cO:=by
     refine (Var.an (w:=bp) ?_ qS ?_).ext gd
     · exact (((m8.ext cA).ext eU).an yw (by omega))
     · rintro (ae|ae|ae)<;>omega
   have ajS:=hG.ext gd
   obtain ⟨d0,d1,d2,d3⟩:=cj SC
   have wX:∃ (CH:aa) (e:Int),SB=Value.tuple #[.slice CH.a CH.len CH.cap, .int .i64 e]∧(e=0→bV 1 ah.uint8 bW CH (bn (si (qK leaf l).1))∧ef (qK leaf l).1∧cr (qK leaf l).1≤232)∧(e≠0→ef (qK leaf l).1→232<cr (qK leaf l).1):=by
     rcases fh with ⟨CH,rfl,U,ad,au,aJ⟩|⟨e,rfl,U,ad⟩
     · exact ⟨CH,0,rfl,fun _=>⟨U,au,aJ⟩,fun h=>absurd rfl h⟩
     · exact ⟨bU,e,rfl,fun h=>absurd h U,fun _=>ad⟩
   obtain ⟨CH,e,rfl,ajT,Za⟩:=wX
   have ajU:Src 1 bW s (bn l):=aj.ext Cy
   have Zb:∀n,ym leaf l n→qK leaf l=(n,([],true)):=by
     rintro n ⟨U,ad,au,aJ⟩
     have:=Sb U au
     rw[ad,aJ] at this
     exact this
   refine ⟨CH,e,rfl,_,rfl,(qK leaf l).2.2,by rw[aW];exact ajR.v.cell,eA (fun b w'=>bW=w'∧(b=true→∀n,¬ym leaf l n)∧(b=false→ym leaf l (qK leaf l).1)) (fun q J=>⟨fun U=>J _ _ ⟨rfl,fun _ n aD=> ?_,fun h=>(by cases h)⟩,fun U=> ?_⟩) ?_⟩
   · have hu:=Zb n aD
     obtain ⟨ad,au,aJ,a6⟩:=aD
     rw[hu] at U Za
     have U:(e !=0)=true:=by simpa using U
     have rE:232<cr n:=Za (by simpa using U) ad
     omega
   · have ajV:(qK leaf l).2.2=true∧e=0:=by
       simp only[Nv,Bool.not_eq_false',bne_eq_false_iff_eq] at U
       exact U
     obtain ⟨ad,rfl⟩:=ajV
     obtain ⟨au,aJ,a6⟩:=ajT rfl
     refine (yx au.src ajU).use ?_
     rintro _ _ ⟨rfl,rfl⟩
     refine ⟨_,rfl,J _ _ ⟨rfl,fun b8 n aD=> ?_,fun b8=> ?_⟩⟩
     · have hu:=Zb n aD
       have b8:¬si (qK leaf l).1=l:=by simpa using b8
       rw[hu] at b8
       exact b8 aD.2.2.2
     · have b8:si (qK leaf l).1=l:=by simpa using b8
       exact ⟨aJ,Hr,a6,b8⟩
   rintro b w' ⟨rfl,aA,aE⟩
   refine ⟨fun ab=> ?_,fun ab=>⟨_,d0,K,d1,V,d2,D,d3,?_⟩⟩
   · refine rD false bU bU bU E_ rfl (Q:=fun b K V D aw=>(fun v w'=>Sz leaf l w w' v∧Ext w w') (.tuple #[.agg #[.bool b, .slice K.a K.len K.cap, .slice V.a V.len V.cap, .slice D.a D.len D.cap], .int .i64 4]) aw) fun b6 hA=>⟨.inr ⟨rfl,aA ab⟩,Ext.eX Cy hA (cV _)⟩
   · refine rD (qK leaf l).1.leaf K V D E_ rfl (Q:=fun b K V D aw=>(fun v w'=>Sz leaf l w w' v∧Ext w w') (.tuple #[.agg #[.bool b, .slice K.a K.len K.cap, .slice V.a V.len V.cap, .slice D.a D.len D.cap], .int .i64 0]) aw) fun b6 hA=>⟨.inl ⟨(qK leaf l).1,K,V,D,rfl,aE ab,?_⟩,Ext.eX Cy hA (cV _)⟩
     exact (ajS.an hA fun k ae e=>by omega).bz fun k _ ae=>by omega
end
section
theorem ajW {s v:aa} {vs xs:List Value} {i Au:Nat} {Av:Array Value} {Zc:TypeId} {w:World} (bQ:bV 1 ah.cm w s vs) (ak:Src 1 w v xs) (jq:v.len=1) (Zd:v.a=some ⟨Au,0,none⟩) (J8:ct w Au Av Zc) (c4:¬aO s Au)
   (yq:∀u∈xs,Plain u) (SD:∀u∈vs,Plain u) (hi:i≤s.len) (aD:s.len≤1000000):
   aQ Tryz.prog F.yB #[.slice s.a s.len s.cap, .int .i64 (i:Int), .slice v.a v.len v.cap] w (fun u w'=>∃ar:aa,u= .slice ar.a ar.len ar.cap∧bV 1 ah.cm w' ar (vs.take (i*1)++xs++vs.drop (i*1))∧ar.len=s.len+1∧ao (aO s) w w'∧(∀k,aO ar k→aO s k∨w.heap.size≤k)):=by
 obtain ⟨U,i0,z0,ad,au,aJ,a6,b8,iA,ox⟩:=(Ho).out
 obtain ⟨d0,pF⟩:=ub _ au
 refine W.ajX s i v w _ ?_
 (delta W.yB aB aC bC;dsimp only)
 have ajY:=bQ.2.1
 have Oi:=bQ.2.2.1
 have ajZ:maxLen=9223372036854775807:=rfl
 have vv:xs.length=1:=by have:=ak.len;rw[jq] at this;omega
 have Hs:=bQ.1
 refine ⟨⟨by omega,by omega⟩,fun h=>by rw[jq] at h;simp at h,fun _=>⟨fun h=> ?_,fun h=> ?_⟩⟩
 · have fv:i=s.len:=by have:=eq_of_beq h;omega
   subst fv
   obtain ⟨ar,w',aA,aE,aI,aL,cQ⟩:=(Ho).append (eB:=ah.cL) ak bQ yq (by rw[jq];omega)
   refine ⟨ar,w',aA,ar,rfl,?_,by rw[aI,jq],aL,cQ⟩
   rwa[gX (by omega),List.drop_of_length_le (by omega),mn]
 have bd:i<s.len:=by
   have h:¬((i:Int)=(s.len:Int)):=fun e=>by rw[e] at h;simp at h
   omega
 rcases bQ.2.2.2 with ⟨_,al⟩|⟨b,c,ab,jf,fc,jS⟩
 · omega
 have CI:b≠Au:=fun e=>c4 ⟨_,ab,e⟩
 have aY:IntKind.wrap .i64 (((s.len:Nat):Int)+((v.len:Nat):Int))=((s.len+1:Nat):Int):=by rw[jq,cz (by omega) (by omega)];rfl
 have bo:IntKind.wrap .i64 ((i:Int)+((v.len:Nat):Int))=((i+1:Nat):Int):=by rw[jq,cz (by omega) (by omega)];rfl
 have en:IntKind.wrap .i64 (((s.len+1:Nat):Int)-(i:Int))=((s.len+1-i:Nat):Int):=by rw[cz (by omega) (by omega)];omega
 have Cm:c.toList.length=s.cap*1:=by simpa using fc
 have lG:∀k,k≤s.len→vs.take (k*1)=c.toList.take (k*1):=fun k ae=>by rw[←jS,JD,r_ (by omega)]
 have uc:vs.drop (i*1)=(c.toList.drop (i*1)).take ((s.len-i)*1):=by rw[←jS,List.drop_take,show s.len*1-i*1=(s.len-i)*1 by omega]
 have Oj:∀u∈vs.drop (i*1),Plain u:=fun u hu=>SD u (kx hu)
 have lY:(vs.drop (i*1)).length=(s.len-i)*1:=by rw[fG,Hs];omega
 have J9:∀ (Ol o l m:Nat),l<m→bg (some (Addr.mk Ol o none)) 1 l m=some ⟨Ol,o+l*1,none⟩:=fun Ol o l m avG=>N2 (by omega)
 simp only[aY,bo,en,gY,G0,Ze]
 refine ⟨fun bf=> ?_,fun bf=> ?_⟩
 · have qi:s.cap<s.len+1:=by have:=dD bf;omega
   have mM:Src 1 w ⟨some ⟨b,0,none⟩,i,s.cap⟩ (vs.take (i*1)):=by
     have:=jf.J_ (sz:=1) (o:=0) (n:=i) (cap:=s.cap) (by omega)
     rw[zW] at this
     rwa[lG i (by omega)]
   obtain ⟨jT,zs,rest,aA,aE,aI,aL,cQ⟩:=aj0 (P:=Tryz.prog) (nv:= #[ah.cL,ah.int]) (eB:=ah.cL) (vw:=ah.int) (k:= .i64) (s:=⟨some ⟨b,0,none⟩,i,s.cap⟩) (n:=s.len+1-i) rfl rfl U (by kernel_rfl) ad au aJ a6 b8 (by rw[iA];exact ox) mM (by show s.cap<i+_;omega) (by rw[iA];show (2*(i+_)+1000)*_≤_;omega)
   have aj1:i+(s.len+1-i)=s.len+1:=by omega
   simp only[aj1] at aA aL cQ
   obtain ⟨C,lH⟩:∃C,C=(vs.take (i*1)++zs++rest).toArray:=⟨_,rfl⟩
   rw[←lH] at cQ
   obtain ⟨bp,Hk⟩:∃bp,bp=w.drew.alloc (.cells C ah.cm):=⟨_,rfl⟩
   rw[←Hk] at cQ
   have Zf:ct bp w.heap.size C ah.cm:=by rw[Hk];exact ct.new w.drew _ _
   have fB:Ext w bp:=by rw[Hk];exact ao.alloc (ao.drew (.refl _ _)) _
   have nu:(vs.take (i*1)).length=i*1:=by rw[d_,Hs];omega
   have Zg:C.size=jT*1:=by rw[lH];simp[nu,aI,aL];omega
   have avH:C.toList.length=jT*1:=by simpa using Zg
   have Ka:=Om (P:=Tryz.prog) (Ab:=ah.cL) (ez:=ah.cL) (ty:=ah.int) (A:=⟨w.heap.size,0+i*1,none⟩) (dl:=s.len+1-i) (EW:=jT-i) (n:=1) U pF b8 (x:=v) (by rw[jq];exact r_ (by omega)) (xs:=xs) (by have:=ak.ext fB;have e:(⟨v.a,1,v.cap⟩:aa)=v:=(by rw[←jq]);rw[e];exact this) (by rw[gz];exact Zf.dA _ _ (by omega) yq)
   obtain ⟨a8,yC⟩:∃a8,a8=setCells bp ⟨w.heap.size,0+i*1,none⟩ 0 xs:=⟨_,rfl⟩
   rw[←yC] at Ka
   have jg:ct a8 w.heap.size (oT C (i*1) xs) ah.cm:=by rw[yC,gz];exact Zf.Cv xs
   have jR:Ext w a8:=by rw[yC];exact Ext.gN fB (ao.Aa (.refl _ _) xs 0) (fun k ae=>by subst ae;exact cV _)
   have aj2:Ext a8 a8.drew:=ao.drew (.refl _ _)
   have fe:=Ext.trans jR aj2
   have SE:=Om (P:=Tryz.prog) (w:=a8.drew) (Ab:=ah.cL) (ez:=ah.cL) (ty:=ah.int) (A:=⟨w.heap.size,0+(i+1)*1,none⟩) (dl:=s.len+1-(i+1)) (EW:=jT-(i+1)) (n:=s.len-i) U pF b8 (x:=⟨some ⟨b,0+i*1,none⟩,s.len-i,s.cap-i⟩) (r_ (by show s.len-i≤_;omega)) (xs:=vs.drop (i*1))
     (by have:=(jf.ext fe).J_ (sz:=1) (o:=i*1) (n:=s.len-i) (cap:=s.cap-i) (by omega);rw[uc,gz];exact this) (by rw[gz];exact ct.dA (ct.drew jg) _ _ (by rw[rA];omega) Oj)
   have On:bg (some (Addr.mk w.heap.size 0 none)) 1 i jT=some ⟨w.heap.size,0+i*1,none⟩:=J9 _ _ _ _ (by omega)
   have Oo:bg (some (Addr.mk w.heap.size 0 none)) 1 (i+1) jT=some ⟨w.heap.size,0+(i+1)*1,none⟩:=J9 _ _ _ _ (by omega)
   have aj3:bg s.a 1 i s.cap=some ⟨b,0+i*1,none⟩:=by rw[ab];exact J9 _ _ _ _ (by omega)
   have aj4:Sem.run Tryz.prog (Builtin.append_ #[ah.cL,ah.int] ah.cL #[.slice s.a i s.cap, .int .i64 ((s.len+1-i:Nat):Int)]) w= .ok (.slice (some ⟨w.heap.size,0,none⟩) (s.len+1) jT) bp:=by rw[ab];exact cQ
   refine ⟨⟨by omega,by omega⟩,⟨some ⟨w.heap.size,0,none⟩,s.len+1,jT⟩,bp,aj4,⟨by omega,by show (i:Int)≤((s.len+1:Nat):Int);omega⟩,_,a8,by rw[On];exact Ka,bL ⟨⟨by omega,by show ((i+1:Nat):Int)≤((s.len+1:Nat):Int);omega⟩,⟨by omega,by omega⟩,_,_,by rw[Oo,aj3];exact SE,⟨some ⟨w.heap.size,0,none⟩,s.len+1,jT⟩,rfl,?_,rfl,?_,?_⟩⟩
   · refine bV.mk' ((ct.drew jg).Cv (o:=0+(i+1)*1) _) (by simp[nu,vv,lY];omega) (by omega) (by omega) (by rw[rA,rA,Zg]) ?_
     rw[Af _ _ _ (by rw[rA];omega),Af _ _ _ (by omega)]
     have t1:C.toList.take (i*1)=vs.take (i*1):=by rw[lH,JH,eL];exact List.take_left' nu
     have t2:(C.toList.take (i*1)++xs++C.toList.drop (i*1+xs.length)).take (0+(i+1)*1)=vs.take (i*1)++xs:=by
       rw[t1,EJ (by simp[nu,vv];omega),gX (by simp[nu,vv];omega)]
     rw[t2,EJ (by simp[nu,vv,lY];omega),gX (by simp[nu,vv,lY];omega)]
   · exact ao.eQ (Ext.gN fe (ao.Aa (.refl _ _) _ 0) (fun k ae=>by subst ae;exact cV _))
   · rintro k ⟨A,ax,ae⟩
     cases ax
     exact .inr (Nat.le_of_eq ae)
 · have hle:s.len+1≤s.cap:=by have:=eW bf;omega
   have On:bg s.a 1 (i+1) s.cap=some ⟨b,0+(i+1)*1,none⟩:=by rw[ab];exact J9 _ _ _ _ (by omega)
   have Oo:bg s.a 1 i s.cap=some ⟨b,0+i*1,none⟩:=by rw[ab];exact J9 _ _ _ _ (by omega)
   have Aq:Sem.run Tryz.prog (callFunc F.Zh #[.slice v.a v.len v.cap, .slice (some ⟨b,0+(i+1)*1,none⟩) (s.len+1-(i+1)) (s.cap-(i+1))]) w= .ok (.value (.bool false)) w:=by
     rw[Zd,run_callFunc_extern (e:=Extern.SlicesOverlaps.overlaps #[ah.cL,ah.cL] #[ah.bool]) Tryz.func160 (by kernel_rfl) (by kernel_rfl) (by kernel_rfl) (by kernel_rfl)]
     have:=Lib.run_overlaps_apart (P:=Tryz.prog) w ah.cL ah.bool ah.cm U 1 (fun w=>by have:=qI (w:=w) pF;rwa[b8] at this) ⟨Au,0,none⟩ ⟨b,0+(i+1)*1,none⟩ v.len v.cap (s.len+1-(i+1)) (s.cap-(i+1)) (fun e=>CI e.symm) Zc ah.cm Av.size c.size
       (by have:=J8;unfold ct at this;simp[World.shape?,this]) (by have:=jf;unfold ct at this;simp[World.shape?,this]) (by omega) (J8.frozen _ rfl) (J8.frozen _ rfl)
     rw[this];rfl
   have Ka:=Om (P:=Tryz.prog) (w:=w.drew) (Ab:=ah.cL) (ez:=ah.cL) (ty:=ah.int) (A:=⟨b,0+(i+1)*1,none⟩) (dl:=s.len+1-(i+1)) (EW:=s.cap-(i+1)) (n:=s.len-i) U pF b8 (x:=⟨some ⟨b,0+i*1,none⟩,s.len+1-i,s.cap-i⟩) ((Nat.min_eq_right (by show _≤s.len+1-i;omega)).trans (by omega)) (xs:=vs.drop (i*1))
     (by have:=(ct.drew jf).J_ (sz:=1) (o:=i*1) (n:=s.len-i) (cap:=s.cap-i) (by omega);rw[uc,gz];exact this) (by rw[gz];exact ct.dA (ct.drew jf) _ _ (by omega) Oj)
   obtain ⟨aS,mw⟩:∃aS,aS=setCells w.drew ⟨b,0+(i+1)*1,none⟩ 0 (vs.drop (i*1)):=⟨_,rfl⟩
   rw[←mw] at Ka
   have Kb:ct aS b (oT c ((i+1)*1) (vs.drop (i*1))) ah.cm:=by rw[mw,gz];exact (ct.drew jf).Cv _
   have jF:ao (aO s) w aS:=by
     rw[mw]
     exact ao.mono (W:=fun q=>q=b) (ao.Aa (ao.drew (.refl _ _)) _ 0) (fun k _ ae=>⟨_,ab,ae.symm⟩)
   have l3:Src 1 aS v xs:=ak.an jF (fun k ae eC=>by obtain ⟨A,ax,rfl⟩:=ae;rw[Zd] at ax;cases ax;exact c4 eC)
   have SE:=Om (P:=Tryz.prog) (w:=aS) (Ab:=ah.cL) (ez:=ah.cL) (ty:=ah.int) (A:=⟨b,0+i*1,none⟩) (dl:=s.len+1-i) (EW:=s.cap-i) (n:=1) U pF b8 (x:=v) (by rw[jq];exact r_ (by omega)) (xs:=xs) (by have e:(⟨v.a,1,v.cap⟩:aa)=v:=(by rw[←jq]);rw[e];exact l3) (by rw[gz];exact Kb.dA _ _ (by rw[rA];omega) yq)
   refine ⟨⟨by omega,by omega⟩,⟨by omega,by omega⟩,false,w,by rw[On];exact Aq,fun _=>bL ⟨⟨by omega,by omega⟩,⟨by omega,by omega⟩,_,aS,by rw[On,Oo];exact Ka,⟨by omega,by omega⟩,_,_,by rw[Oo];exact SE,⟨s.a,s.len+1,s.cap⟩,rfl,?_,rfl,?_,fun k ae=> .inl ae⟩,fun h=>by simp at h⟩
   · have wY:bV 1 ah.cm (setCells aS ⟨b,0+i*1,none⟩ 0 xs) ⟨some ⟨b,0,none⟩,s.len+1,s.cap⟩ (vs.take (i*1)++xs++vs.drop (i*1)):=by
       have nu:(vs.take (i*1)).length=i*1:=by rw[d_,Hs];omega
       refine bV.mk' (Kb.Cv (o:=0+i*1) _) (by simp[nu,vv,lY];omega) (by omega) (by omega) (by rw[rA,rA,fc]) ?_
       rw[Af _ _ _ (by rw[rA];omega),Af _ _ _ (by omega)]
       have t1:(c.toList.take ((i+1)*1)++vs.drop (i*1)++c.toList.drop ((i+1)*1+(vs.drop (i*1)).length)).take (0+i*1)=vs.take (i*1):=by
         rw[gz,EJ (by simp[lY];omega),EJ (by simp;omega),JD,lG i (by omega),r_ (by omega)]
       have t2:(c.toList.take ((i+1)*1)++vs.drop (i*1)++c.toList.drop ((i+1)*1+(vs.drop (i*1)).length)).drop (0+i*1+xs.length)=vs.drop (i*1)++c.toList.drop ((i+1)*1+(vs.drop (i*1)).length):=by
         have az:(c.toList.take ((i+1)*1)).length=0+i*1+xs.length:=by simp;omega
         rw[eL,←az,List.drop_left]
       rw[t1,t2,←eL,EJ (by simp[nu,vv,lY];omega),gX (by simp[nu,vv,lY];omega)]
     rw[←ab] at wY
     exact wY
   · exact jF.trans (ao.mono (W:=fun q=>q=b) (ao.Aa (.refl _ _) _ 0) (fun k _ ae=>⟨_,ab,ae.symm⟩))
theorem aj5 {s:aa} {vs:List Value} {i:Nat} {w:World} (bQ:bV 1 ah.cm w s vs) (SD:∀u∈vs,Plain u) (aj6:∀z,(Tryz.prog.info? ah.cm).bind (·.zero)=some z→∀u∈z.cells.toList,Plain u) (hi:i<s.len) (aD:s.len≤1000000):
   aQ Tryz.prog F.yD #[.slice s.a s.len s.cap, .int .i64 (i:Int), .int .i64 ((i+1:Nat):Int)] w (fun u w'=>∃ar:aa,u= .slice ar.a ar.len ar.cap∧bV 1 ah.cm w' ar (vs.take (i*1)++vs.drop ((i+1)*1))∧ar.len=s.len-1∧ar.a=s.a∧ao (aO s) w w'):=by
 obtain ⟨U,i0,z0,ad,au,aJ,a6,b8,iA,ox⟩:=(Ho).out
 obtain ⟨d0,pF⟩:=ub _ au
 refine W.aj7 s i ((i+1:Nat):Int) w _ ?_
 (delta W.yD aB h8;dsimp only)
 have ajY:=bQ.2.1
 have Oi:=bQ.2.2.1
 have Hs:=bQ.1
 rcases bQ.2.2.2 with ⟨_,al⟩|⟨b,c,ab,jf,fc,jS⟩
 · omega
 have Cm:c.toList.length=s.cap*1:=by simpa using fc
 simp only[gY,G0,Ze]
 have uc:vs.drop ((i+1)*1)=(c.toList.drop ((i+1)*1)).take ((s.len-(i+1))*1):=by rw[←jS,List.drop_take,show s.len*1-(i+1)*1=(s.len-(i+1))*1 by omega]
 have lY:(vs.drop ((i+1)*1)).length=(s.len-(i+1))*1:=by rw[fG,Hs];omega
 have lG:vs.take (i*1)=c.toList.take (i*1):=by rw[←jS,JD,r_ (by omega)]
 have nu:(vs.take (i*1)).length=i*1:=by rw[d_,Hs];omega
 have Oj:∀u∈vs.drop ((i+1)*1),Plain u:=fun u hu=>SD u (kx hu)
 have SF:ct w.drew b c ah.cm:=ct.drew jf
 have mM:Src 1 w.drew ⟨bg s.a 1 (i+1) s.cap,s.len-(i+1),s.cap-(i+1)⟩ (vs.drop ((i+1)*1)):=by
   by_cases he:i+1=s.cap
   · have gk:s.len-(i+1)=0:=by omega
     refine ⟨by rw[lY],fun _=>yf.1 (by rw[lY,gk,Nat.zero_mul]),fun a _=> ?_⟩
     have:vs.drop ((i+1)*1)=[]:=yf.1 (by rw[lY,gk,Nat.zero_mul])
     rw[this]
     show eN _ _ 0 ((s.len-(i+1))*1)=_
     rw[gk,Nat.zero_mul];rfl
   · rw[ab,N2 (by omega),uc,gz]
     exact SF.J_ (by omega)
 have Kc:=SG (P:=Tryz.prog) (nv:= #[ah.cL,ah.cL]) (eB:=ah.cL) (s:=⟨s.a,i,s.cap⟩) rfl rfl U U pF b8 mM (by show i+(s.len-(i+1))≤s.cap;omega) (fun a aR=>by
   have aR:s.a=some a:=aR
   rw[ab] at aR;cases aR
   rw[aW,gz]
   exact SF.dA _ _ (by show i*1+_≤_;omega) Oj)
 have yE:i+(s.len-(i+1))=s.len-1:=by omega
 simp only[ab,aW,gz,yE] at Kc
 obtain ⟨aS,mw⟩:∃aS,aS=setCells w.drew ⟨b,i*1,none⟩ 0 (vs.drop ((i+1)*1)):=⟨_,rfl⟩
 rw[←mw] at Kc
 have Kb:ct aS b (oT c (i*1) (vs.drop ((i+1)*1))) ah.cm:=by rw[mw];exact SF.Cv _
 have jF:ao (aO s) w aS:=by
   rw[mw]
   exact ao.mono (W:=fun q=>q=b) (ao.Aa (ao.drew (.refl _ _)) _ 0) (fun k _ ae=>⟨_,ab,ae.symm⟩)
 obtain ⟨zs,CJ,aj8⟩:=aj9 (P:=Tryz.prog) (w:=aS) (T:=ah.cL) (o:=ah.t) (n:=1) (c:=s.cap-(s.len-1)) (A:=⟨b,(s.len-1)*1,none⟩) U ad aJ a6 (by decide) (fun zs wZ=>by
   refine Kb.dA _ _ (by rw[wZ,rA];simp[Builtin.zeroCells,a6];omega) fun u hu=> ?_
   rw[wZ] at hu
   simp only[Builtin.zeroCells,Array.toList_map,nq] at hu
   obtain ⟨j,a_,rfl⟩:=hu
   have a_:j<1*z0.cells.size:=by simpa using a_
   have aj_:j%z0.cells.size<z0.cells.size:=sX _ (by omega)
   have bf:z0.cells[j%z0.cells.size]! =z0.cells[j%z0.cells.size]:=getElem!_pos z0.cells (j%z0.cells.size) aj_
   rw[bf]
   exact aj6 z0 (by rw[ad];exact aJ) _ (by simp))
 have aka:bg (some (Addr.mk b 0 none)) 1 (s.len-1) s.cap=some ⟨b,(s.len-1)*1,none⟩:=by rw[N2 (by omega),gz]
 have akb:s.len-(s.len-1)=1:=by omega
 refine ⟨⟨by omega,by omega⟩,⟨by omega,by omega⟩,⟨by omega,by omega⟩,fun h=> ?_,fun _=>bL ⟨⟨by omega,by omega⟩,⟨by omega,by omega⟩,⟨some ⟨b,0,none⟩,s.len-1,s.cap⟩,aS,by rw[ab];exact Kc,⟨by omega,by show ((s.len:Nat):Int)≤((s.cap:Nat):Int);omega⟩,⟨by omega,by show ((s.len-1:Nat):Int)≤((s.len:Nat):Int);omega⟩,_,_,by rw[akb,aka];exact aj8,⟨some ⟨b,0,none⟩,s.len-1,s.cap⟩,rfl,?_,rfl,ab.symm,?_⟩⟩
 · have:=eq_of_beq h;omega
 · refine bV.mk' (Kb.Cv _) (by simp[nu,lY];omega) (by omega) Oi (by rw[rA,rA,fc]) ?_
   rw[Af _ _ _ (by rw[rA];omega),Af _ _ _ (by omega)]
   have t1:(c.toList.take (i*1)++vs.drop ((i+1)*1)++c.toList.drop (i*1+(vs.drop ((i+1)*1)).length)).take ((s.len-1)*1)=vs.take (i*1)++vs.drop ((i+1)*1):=by
     rw[←lG,EJ (by simp[nu,lY];omega),gX (by simp[nu,lY];omega)]
   rw[t1,eL,EJ (by simp[nu,lY];omega),gX (by simp[nu,lY];omega)]
 · exact jF.trans (ao.mono (W:=fun q=>q=b) (ao.Aa (.refl _ _) _ 0) (fun k _ ae=>⟨_,ab,ae.symm⟩))
theorem Ke {w:World} {s:aa} {ds:List Nat} (h:Src 1 w s (gU ds)) (az:ds.length≤1000000):
   aQ Tryz.prog F.vx #[.slice s.a s.len s.cap] w (fun v w'=>∃ar:aa,v= .slice ar.a ar.len ar.cap∧bV 1 ah.int w' ar (gU ds)∧Ext w w'∧oU w ar):=by
 have gw:s.len=ds.length:=by have:=h.len;rw[Al] at this;omega
 refine W.akc s w _ ?_
 delta W.vx aB ai
 refine ⟨fun aR=> ?_,fun _=> ?_⟩
 · have aR:s.a=none:=by simpa using aR
   rw[h.nil aR]
   exact ⟨⟨none,0,0⟩,rfl,bV.none _ _ _, .refl _ _,fun k ae=>(qJ k ae).elim⟩
 · obtain ⟨ar,w',U,ad,au,aJ,a6,_⟩:=JY.clone (eB:=ah.eg) h (Sr ds) (by omega)
   exact bL ⟨ar,w',U,ar,rfl,ad,aJ,a6⟩
theorem akd {ks:List Key} {k:Key} {a:Nat} (aR:a≤ks.length) (U:∀ (j:Nat) (h:j<ks.length),j<a→cw ks[j] k) (ad:∀ (j:Nat) (h:j<ks.length),a≤j→¬cw ks[j] k):ey ks k=a:=by
 unfold ey
 rcases g6 a ks.length with h|h
 · exact (List.findIdx_eq h).2 ⟨iy (ad a h (cV _)),fun j a_=>sW fun au=>au (U j (by omega) a_)⟩
 · have:a=ks.length:=by omega
   subst this
   refine List.findIdx_eq_length_of_false fun x af=> ?_
   obtain ⟨j,a_,rfl⟩:=m3 af
   exact sW fun au=>au (U j a_ a_)
def pk (ks:List Key) (k:Key):Bool:=decide (ks[ey ks k]? =some k)
theorem ake {B C:Nat→Prop} {s t:aa} {ks:List Key} {key:Key} {w:World} (aj:bZ B w s ks) (aV:Src 1 w t (bn key)) (aN:ks.Pairwise cw) (aD:ks.length≤100000):
   aQ Tryz.prog F.CK #[.slice s.a s.len s.cap, .slice t.a t.len t.cap, .func (.func F.m9) #[] #[]] w (fun v w'=>v= .tuple #[.int .i64 ((ey ks key:Nat):Int), .bool (pk ks key)]∧w=w'):=by
 refine W.akf s t ⟨F.m9, #[], #[]⟩ w _ ?_
 (delta W.CK aB aC aq a7;dsimp only)
 have az:=bZ.len aj
 have vp:tY Tryz.prog F.m9:=⟨_,(Option.some_get (show (Tryz.prog.funcs[F.m9]?).isSome=true by kernel_rfl)).symm,by kernel_rfl,by kernel_rfl⟩
 have bd:=fun {i j:Nat} (hi:i<j) (a_:j<ks.length)=>GX.1 aN i j (by omega) a_ hi
 refine ⟨fun lo hi w'=>∃a b:Nat,lo=a∧hi=b∧a≤b∧b≤ks.length∧w=w'∧(∀ (j:Nat) (h:j<ks.length),j<a→cw ks[j] key)∧(∀ (j:Nat) (h:j<ks.length),b≤j→¬cw ks[j] key),fun lo hi _=>(hi-lo).toNat,
   ⟨0,ks.length,rfl,by rw[az],fl _,cV _,rfl,fun j _ h=>by omega,fun j h ad=>by omega⟩,?_⟩
 rintro _ _ _ ⟨a,b,rfl,rfl,nw,ab,rfl,U,ad⟩
 have hm:=akg (a:=a) (b:=b) (by omega)
 refine ⟨fun h=> ?_,fun h=> ?_⟩
 · have akh:(a:Int)<(b:Int):=dD h
   rw[hm]
   obtain ⟨m,Aw⟩:∃m,m=(a+b)/2:=⟨_,rfl⟩
   rw[←Aw]
   have Oq:a≤m:=by omega
   have kR:m<b:=by omega
   obtain ⟨A,t2,ax,mN,dQ,nT,_⟩:=bZ.at aj (i:=m) (by omega)
   refine ⟨by decide,A,ax,mN,t2,dQ,vp,(m9 nT.1 aV).use ?_⟩
   rintro _ _ ⟨rfl,rfl⟩
   have hw:IntKind.wrap .i64 ((m:Int)+1)=((m+1:Nat):Int):=by rw[cz (by omega) (by omega)];rfl
   refine ⟨_,rfl,fun al=> ?_,fun al=> ?_⟩
   · have al:cw ks[m] key:=dD al
     rw[hw]
     have Kf:((b:Int)-((m+1:Nat):Int)).toNat<((b:Int)-(a:Int)).toNat:=by omega
     refine ⟨⟨m+1,b,rfl,rfl,by omega,ab,rfl,fun j a_ aki=> ?_,ad⟩,Kf⟩
     rcases g6 j m with au|au
     · exact yh (bd au (by omega)) al
     · have:j=m:=by omega
       subst this;exact al
   · have al:¬cw ks[m] key:=eW al
     have Kf:((m:Int)-(a:Int)).toNat<((b:Int)-(a:Int)).toNat:=by omega
     refine ⟨⟨a,m,rfl,rfl,Oq,by omega,rfl,U,fun j a_ aki=> ?_⟩,Kf⟩
     rcases g6 m j with au|au
     · exact fun aJ=>al (yh (bd au a_) aJ)
     · have:j=m:=by omega
       subst this;exact al
 · have cg:¬(a:Int)<(b:Int):=eW h
   have akj:b=a:=by omega
   subst akj
   have aZ:ey ks key=b:=akd ab U ad
   refine eA (fun c w'=>w=w'∧c=pk ks key) (fun q J=>⟨fun h=> ?_,fun h=> ?_⟩) ?_
   · have akh:(b:Int)<((s.len:Nat):Int):=dD h
     have w2:b<ks.length:=by omega
     obtain ⟨A,t2,ax,mN,dQ,nT,_⟩:=bZ.at aj w2
     refine ⟨A,ax,mN,t2,dQ,vp,(m9 nT.1 aV).use ?_⟩
     rintro _ _ ⟨rfl,rfl⟩
     refine ⟨_,rfl,J _ _ ⟨rfl,?_⟩⟩
     unfold pk
     rw[aZ,pc,fu,zZ,gF w2,ahQ]
     exact ⟨fun h=>by rw[h],fun h=>Option.some.inj h⟩
   · have cg:¬(b:Int)<((s.len:Nat):Int):=eW h
     refine J _ _ ⟨rfl,?_⟩
     unfold pk
     rw[aZ,Nw (by omega)]
     simp
   · rintro _ _ ⟨rfl,rfl⟩
     exact ⟨by rw[aZ],rfl⟩
theorem rF {B:Nat→Prop} {w:World} {n:aM} {K V D t:aa} {key:Key} (h:cd B w n K V D) (aV:Src 1 w t (bn key)) (aN:n.keys.Pairwise cw) (aD:n.keys.length≤100000):
   aQ Tryz.prog F.rF #[e9 n K V D, .slice t.a t.len t.cap] w (fun v w'=>v= .tuple #[.int .i64 ((ey n.keys key:Nat):Int), .bool (pk n.keys key)]∧Ext w w'):=by
 refine W.akk n.leaf K V D t w _ ?_
 (delta W.rF aq ai dN;dsimp only)
 refine cn (vs:=[.bool n.leaf, .slice K.a K.len K.cap, .slice V.a V.len V.cap, .slice D.a D.len D.cap]) rfl fun ag ak bD _=> ?_
 obtain ⟨cH,aT,bC,ba⟩:=cj ak
 refine ⟨K,aT,(ake (B:=B) (C:=B) (h.keys.ext bD) (aV.ext bD) aN aD).use ?_⟩
 rintro _ _ ⟨rfl,rfl⟩
 exact ⟨_,_,rfl,rfl,bD⟩
theorem yF {B:Nat→Prop} {w:World} {n:aM} {K V D t:aa} {key:Key} (h:cd B w n K V D) (aV:Src 1 w t (bn key)) (aN:n.keys.Pairwise cw) (aD:n.keys.length≤100000):
   aQ Tryz.prog F.yF #[e9 n K V D, .slice t.a t.len t.cap] w (fun v w'=>v= .tuple #[.int .i64 ((ey n.keys key:Nat):Int), .bool (pk n.keys key)]∧Ext w w'):=by
 refine W.akl n.leaf K V D t w _ ?_
 (delta W.yF bS ai aq dN;dsimp only)
 refine cn (vs:=[.bool n.leaf, .slice K.a K.len K.cap, .slice V.a V.len V.cap, .slice D.a D.len D.cap]) rfl fun ag ak bD _=> ?_
 obtain ⟨cH,aT,bC,ba⟩:=cj ak
 refine ⟨_,cH,K,aT,V,bC,D,ba,(rF (h.ext bD) (aV.ext bD) aN aD).use ?_⟩
 rintro _ _ ⟨rfl,cA⟩
 exact ⟨_,_,rfl,rfl,bD.trans cA⟩
theorem akm {ks:List Key} (aN:ks.Pairwise cw) (k:Key):fR ks k=if pk ks k then ey ks k+1 else ey ks k:=by
 have hle:=Hc ks k
 have key:∀a,a≤ks.length→(∀ (j:Nat) (h:j<ks.length),j<a→¬cw k ks[j])→(∀h:a<ks.length,cw k ks[a])→fR ks k=a:=by
   intro a aR U ad
   unfold fR
   rcases g6 a ks.length with h|h
   · exact (List.findIdx_eq h).2 ⟨iy (ad h),fun j a_=>sW (U j (by omega) a_)⟩
   · have:a=ks.length:=by omega
     subst this
     refine List.findIdx_eq_length_of_false fun x af=> ?_
     obtain ⟨j,a_,rfl⟩:=m3 af
     exact sW (U j a_ a_)
 split
 · rename_i cT
   have cT:ks[ey ks k]? =some k:=dD cT
   obtain ⟨bd,he⟩:=qA.1 cT
   refine key _ bd (fun j a_ h=> ?_) fun h=> ?_
   · rcases g6 j (ey ks k) with au|au
     · exact z7 (ET au a_)
     · have:j=ey ks k:=by omega
       subst this
       rw[he];exact z6 _
   · have:=GX.1 aN _ _ bd h (Nat.lt_succ_self _)
     rwa[he] at this
 · rename_i cT
   have cT:¬ks[ey ks k]? =some k:=fun h=>cT (iy h)
   refine key _ hle (fun j a_ h=>z7 (ET h a_)) fun h=> ?_
   rcases EM.1 (Hd aN (cV _) h) with au|au
   · exact au
   · exact absurd ((gF h).trans (congrArg some au.symm)) cT
theorem vy {B:Nat→Prop} {w:World} {n:aM} {K V D t:aa} {key:Key} (h:cd B w n K V D) (aV:Src 1 w t (bn key)) (aN:n.keys.Pairwise cw) (aD:n.keys.length≤100000):
   aQ Tryz.prog F.vy #[e9 n K V D, .slice t.a t.len t.cap] w (fun v w'=>v= .int .i64 ((fR n.keys key:Nat):Int)∧Ext w w'):=by
 refine W.akn n.leaf K V D t w _ ?_
 (delta W.vy bS ai aq dN aB aC;dsimp only)
 refine cn (vs:=[.bool n.leaf, .slice K.a K.len K.cap, .slice V.a V.len V.cap, .slice D.a D.len D.cap]) rfl fun ag ak bD _=> ?_
 obtain ⟨cH,aT,bC,ba⟩:=cj ak
 have hle:=Hc n.keys key
 refine ⟨_,cH,K,aT,V,bC,D,ba,(rF (h.ext bD) (aV.ext bD) aN aD).use ?_⟩
 rintro _ aw ⟨rfl,cA⟩
 rw[akm aN]
 refine ⟨_,_,rfl,eA (fun c w'=>aw=w'∧c=((if pk n.keys key then ey n.keys key+1 else ey n.keys key:Nat):Int)) (fun q J=>⟨fun h=>J _ _ ⟨rfl,?_⟩,fun h=>J _ _ ⟨rfl,?_⟩⟩) ?_⟩
 · rw[if_pos h,cz (by omega) (by omega)];rfl
 · rw[if_neg (by simp[h])]
 · rintro _ _ ⟨rfl,rfl⟩
   exact ⟨rfl,bD.trans cA⟩
end
section
structure pR (lo:Nat) (w:World) (aK:Nat) (n:aM) (K V D:aa) (cC cX cu:Nat→Prop):Prop where
 v:Var w aK [.bool n.leaf, .slice K.a K.len K.cap, .slice V.a V.len V.cap, .slice D.a D.len D.cap] ah.cO
 keys:b4 cC w K n.keys
 vals:b4 cX w V n.vals
 kids:eO cu w D n.kids
 bT:∀q,cC q→lo≤q∧q<w.heap.size∧q≠aK∧¬cX q∧¬cu q
 bv:∀q,cX q→lo≤q∧q<w.heap.size∧q≠aK∧¬cu q
 a7:∀q,cu q→lo≤q∧q<w.heap.size∧q≠aK
 Ax:lo≤aK
structure jU (lo:Nat) (w:World) (n:aM) (K V D:aa) (cC cX cu:Nat→Prop):Prop where
 keys:b4 cC w K n.keys
 vals:b4 cX w V n.vals
 kids:eO cu w D n.kids
 bT:∀q,cC q→lo≤q∧q<w.heap.size∧¬cX q∧¬cu q
 bv:∀q,cX q→lo≤q∧q<w.heap.size∧¬cu q
 a7:∀q,cu q→lo≤q∧q<w.heap.size
section
variable {lo:Nat} {w w':World} {aK:Nat} {n:aM} {K V D:aa} {cC cX cu:Nat→Prop}
theorem pR.mem (h:pR lo w aK n K V D cC cX cu):jU lo w n K V D cC cX cu:=⟨h.keys,h.vals,h.kids,fun q J=>⟨(h.bT q J).1,(h.bT q J).2.1,(h.bT q J).2.2.2⟩,fun q J=>⟨(h.bv q J).1,(h.bv q J).2.1,(h.bv q J).2.2.2⟩,fun q J=>⟨(h.a7 q J).1,(h.a7 q J).2.1⟩⟩
theorem jU.an {W:Nat→Prop} (h:jU lo w n K V D cC cX cu) (al:ao W w w') (dq:∀q,lo≤q→q<w.heap.size→cC q∨cX q∨cu q→¬W q):jU lo w' n K V D cC cX cu:=by
 have aj:=al.size
 refine ⟨b4.an h.keys al fun q J=>dq q (h.bT q J).1 (h.bT q J).2.1 (.inl J),b4.an h.vals al fun q J=>dq q (h.bv q J).1 (h.bv q J).2.1 (.inr (.inl J)),eO.an h.kids al fun q J=>dq q (h.a7 q J).1 (h.a7 q J).2 (.inr (.inr J)),fun q J=> ?_,fun q J=> ?_,fun q J=> ?_⟩
 · have:=h.bT q J;exact ⟨this.1,by omega,this.2.2⟩
 · have:=h.bv q J;exact ⟨this.1,by omega,this.2.2⟩
 · have:=h.a7 q J;exact ⟨this.1,by omega⟩
theorem jU.ext (h:jU lo w n K V D cC cX cu) (al:Ext w w'):jU lo w' n K V D cC cX cu:=h.an al fun _ _ _ _ h=>h
theorem pR.ext (h:pR lo w aK n K V D cC cX cu) (af:Ext w w'):pR lo w' aK n K V D cC cX cu:=
 ⟨h.v.ext af,b4.ext h.keys af,b4.ext h.vals af,eO.ext h.kids af,fun q J=>⟨(h.bT q J).1,lE (h.bT q J).2.1 af.size,(h.bT q J).2.2⟩,fun q J=>⟨(h.bv q J).1,lE (h.bv q J).2.1 af.size,(h.bv q J).2.2⟩,fun q J=>⟨(h.a7 q J).1,lE (h.a7 q J).2.1 af.size,(h.a7 q J).2.2⟩,h.Ax⟩
theorem jU.at (h:jU lo w n K V D cC cX cu):cd (fun q=>lo≤q) w n K V D:=
 ⟨bZ.bz (b4.qP h.keys) fun q _ J=>(h.bT q J).1,bZ.bz (b4.qP h.vals) fun q _ J=>(h.bv q J).1,eo.bz (eO.Hn h.kids) fun q _ J=>(h.a7 q J).1⟩
theorem jU.low {g7:Nat} (h:jU lo w n K V D cC cX cu) (az:g7≤lo):jU g7 w n K V D cC cX cu:=
 ⟨h.keys,h.vals,h.kids,fun q J=>⟨jb az (h.bT q J).1,(h.bT q J).2⟩,fun q J=>⟨jb az (h.bv q J).1,(h.bv q J).2⟩,fun q J=>⟨jb az (h.a7 q J).1,(h.a7 q J).2⟩⟩
end
theorem SH {lo:Nat} {w:World} {aK:Nat} {n:aM} {K V D t:aa} {l:Key} {cC cX cu:Nat→Prop} (h:pR lo w aK n K V D cC cX cu) (aV:Src 1 w t (bn l)) (az:l.length≤100000) (aD:n.keys.length≤100000) {R:World→Prop}
   (c8:∀ (w':World) (aU:aa) (As:Nat→Prop),pR lo w' aK {n with keys:=n.keys++ [l]} aU V D As cX cu→ao (fun q=>q=aK∨cC q) w w'→(∀q,As q→cC q∨w.heap.size≤q)→R w'):
   ay w.drew fun dO=>∃w3:Nat→Prop,¬w3 (Addr.add ⟨aK,0,none⟩ 1).block∧∃eD:aa,dO.cell? (Addr.add ⟨aK,0,none⟩ 1)=some (.slice eD.a eD.len eD.cap)∧
     Calls Tryz.prog F.mu #[.slice t.a t.len t.cap] dO fun SI cW=>∃gm:aa,SI= .returned (.slice gm.a gm.len gm.cap)∧ao w3 dO cW∧
     ay (cW.alloc (.cells #[.slice gm.a gm.len gm.cap] ah.cm)) fun m_=>ao w3 cW m_∧∃eV:aa,∃fy:World,Sem.run Tryz.prog (Builtin.append_ #[ah.cL,ah.cL] ah.cL #[.slice eD.a eD.len eD.cap, .slice (some ⟨cW.heap.size,0,none⟩) 1 1]) m_= .ok (.slice eV.a eV.len eV.cap) fy∧
     (∃u:Value,fy.cell? (Addr.add ⟨aK,0,none⟩ 1)=some u)∧fy.frozen? (Addr.add ⟨aK,0,none⟩ 1)=false∧ay (fy.setCell (Addr.add ⟨aK,0,none⟩ 1) (.slice eV.a eV.len eV.cap)) fun gn=>R gn:=by
 have fi:=h.Ax
 have Fa:=h.v.lt
 have bA:=dL w
 obtain ⟨cH,aT,bC,ba⟩:=cj (h.v.ext bA)
 refine bL ⟨fun _=>False,id,K,aT,(vo (B:=fun q=>w.heap.size≤q) (aV.ext bA) (by omega) (fun q J=>J)).use ?_⟩
 rintro _ cW ⟨Fb,rfl,Ay,af,aH⟩
 have dS:=bA.trans af
 have bN:w.drew.heap.size=w.heap.size:=rfl
 have dR:=dS.size
 have bu:=b4.ext h.keys dS
 have ud:=b4.ext h.vals dS
 have vz:=eO.ext h.kids dS
 refine ⟨Fb,rfl,af,Ob (B:=Grow cC w.drew cW) (h.v.ext dS) (o:=1) (by simp) (b4.bz bu fun k _ h=> .inl h) ?_ (bF.bz Ay fun k ae h=> .inr ⟨h,ae⟩) ?_ aD fun w' gO aA aE aI=> ?_⟩
 · rintro (U|U)
   · exact (h.bT aK U).2.2.1 rfl
   · omega
 · intro k jQ E7
   obtain ⟨ts,_,_,au,_⟩:=h.keys
   have:=(au k E7).2
   have:=(Ay.2.2 k jQ).1
   omega
 have gg:∀q,Grow (Grow cC w.drew cW) cW w' q→cC q∨(w.heap.size≤q∧q<w'.heap.size):=by
   rintro q ((U|U)|U)
   · exact .inl U
   · exact .inr ⟨U.1,lE U.2 aI.size⟩
   · exact .inr ⟨jb dR U.1,U.2⟩
 have bf:=aI.size
 have kV:∀q,aO K q→cC q:=fun q J=>by
   obtain ⟨ts,_,_,au,_⟩:=h.keys
   exact (au q J).1
 refine c8 w' gO (fun q=>cC q∨(w.heap.size≤q∧q<w'.heap.size)) ⟨by simpa using aA,b4.bz aE fun k _ ae=>gg k ae,b4.an ud aI ?_,eO.an vz aI ?_,?_,fun q J=> ?_,fun q J=> ?_,h.Ax⟩ ?_ ?_
 · rintro q J (U|U)
   · exact (h.bv q J).2.2.1 U
   · exact (h.bT q (kV q U)).2.2.2.1 J
 · rintro q J (U|U)
   · exact (h.a7 q J).2.2 U
   · exact (h.bT q (kV q U)).2.2.2.2 J
 · rintro q (U|U)
   · have:=h.bT q U;exact ⟨this.1,by omega,this.2.2⟩
   · exact ⟨by omega,U.2,by omega,fun ad=>by have:=h.bv q ad;omega,fun ad=>by have:=h.a7 q ad;omega⟩
 · have:=h.bv q J;exact ⟨this.1,by omega,this.2.2⟩
 · have:=h.a7 q J;exact ⟨this.1,by omega,this.2.2⟩
 · refine (ao.eQ dS).trans (aI.mono fun k _ ae=> ?_)
   rcases ae with ae|ae
   · exact .inl ae
   · exact .inr (kV k ae)
 · rintro q (U|U)
   · exact .inl U
   · exact .inr U.1
theorem Zi {lo:Nat} {w:World} {aK:Nat} {n:aM} {K V D t:aa} {l:Key} {cC cX cu:Nat→Prop} (h:pR lo w aK n K V D cC cX cu) (aV:Src 1 w t (bn l)) (az:l.length≤100000) (aD:n.vals.length≤100000) {R:World→Prop}
   (c8:∀ (w':World) (bP:aa) (Oc:Nat→Prop),pR lo w' aK {n with vals:=n.vals++ [l]} K bP D cC Oc cu→ao (fun q=>q=aK∨cX q) w w'→(∀q,Oc q→cX q∨w.heap.size≤q)→R w'):
   ay w.drew fun dO=>∃w3:Nat→Prop,¬w3 (Addr.add ⟨aK,0,none⟩ 2).block∧∃eD:aa,dO.cell? (Addr.add ⟨aK,0,none⟩ 2)=some (.slice eD.a eD.len eD.cap)∧
     Calls Tryz.prog F.mu #[.slice t.a t.len t.cap] dO fun SI cW=>∃gm:aa,SI= .returned (.slice gm.a gm.len gm.cap)∧ao w3 dO cW∧
     ay (cW.alloc (.cells #[.slice gm.a gm.len gm.cap] ah.cm)) fun m_=>ao w3 cW m_∧∃eV:aa,∃fy:World,Sem.run Tryz.prog (Builtin.append_ #[ah.cL,ah.cL] ah.cL #[.slice eD.a eD.len eD.cap, .slice (some ⟨cW.heap.size,0,none⟩) 1 1]) m_= .ok (.slice eV.a eV.len eV.cap) fy∧
     (∃u:Value,fy.cell? (Addr.add ⟨aK,0,none⟩ 2)=some u)∧fy.frozen? (Addr.add ⟨aK,0,none⟩ 2)=false∧ay (fy.setCell (Addr.add ⟨aK,0,none⟩ 2) (.slice eV.a eV.len eV.cap)) fun gn=>R gn:=by
 have fi:=h.Ax
 have Fa:=h.v.lt
 have bA:=dL w
 obtain ⟨cH,aT,bC,ba⟩:=cj (h.v.ext bA)
 refine bL ⟨fun _=>False,id,V,bC,(vo (B:=fun q=>w.heap.size≤q) (aV.ext bA) (by omega) (fun q J=>J)).use ?_⟩
 rintro _ cW ⟨Fb,rfl,Ay,af,aH⟩
 have dS:=bA.trans af
 have bN:w.drew.heap.size=w.heap.size:=rfl
 have dR:=dS.size
 have bu:=b4.ext h.keys dS
 have ud:=b4.ext h.vals dS
 have vz:=eO.ext h.kids dS
 refine ⟨Fb,rfl,af,Ob (B:=Grow cX w.drew cW) (h.v.ext dS) (o:=2) (by simp) (b4.bz ud fun k _ h=> .inl h) ?_ (bF.bz Ay fun k ae h=> .inr ⟨h,ae⟩) ?_ aD fun w' gO aA aE aI=> ?_⟩
 · rintro (U|U)
   · exact (h.bv aK U).2.2.1 rfl
   · omega
 · intro k jQ E7
   obtain ⟨ts,_,_,au,_⟩:=h.vals
   have:=(au k E7).2
   have:=(Ay.2.2 k jQ).1
   omega
 have gg:∀q,Grow (Grow cX w.drew cW) cW w' q→cX q∨(w.heap.size≤q∧q<w'.heap.size):=by
   rintro q ((U|U)|U)
   · exact .inl U
   · exact .inr ⟨U.1,lE U.2 aI.size⟩
   · exact .inr ⟨jb dR U.1,U.2⟩
 have bf:=aI.size
 have kV:∀q,aO V q→cX q:=fun q J=>by
   obtain ⟨ts,_,_,au,_⟩:=h.vals
   exact (au q J).1
 refine c8 w' gO (fun q=>cX q∨(w.heap.size≤q∧q<w'.heap.size)) ⟨by simpa using aA,b4.an bu aI ?_,b4.bz aE fun k _ ae=>gg k ae,eO.an vz aI ?_,fun q J=> ?_,?_,fun q J=> ?_,h.Ax⟩ ?_ ?_
 · rintro q J (U|U)
   · exact (h.bT q J).2.2.1 U
   · exact (h.bT q J).2.2.2.1 (kV q U)
 · rintro q J (U|U)
   · exact (h.a7 q J).2.2 U
   · exact (h.bv q (kV q U)).2.2.2 J
 · have:=h.bT q J
   refine ⟨this.1,by omega,this.2.2.1,?_,this.2.2.2.2⟩
   rintro (U|U)
   · exact this.2.2.2.1 U
   · omega
 · rintro q (U|U)
   · have:=h.bv q U;exact ⟨this.1,by omega,this.2.2⟩
   · exact ⟨by omega,U.2,by omega,fun ad=>by have:=h.a7 q ad;omega⟩
 · have:=h.a7 q J;exact ⟨this.1,by omega,this.2.2⟩
 · refine (ao.eQ dS).trans (aI.mono fun k _ ae=> ?_)
   rcases ae with ae|ae
   · exact .inl ae
   · exact .inr (kV k ae)
 · rintro q (U|U)
   · exact .inl U
   · exact .inr U.1
theorem fM {B:Nat→Prop} {bO:World} {n:aM} {K V D:aa} (h:cd B bO n K V D) (Zj:n.keys.length≤100000) (Zk:n.vals.length≤100000) (avI:n.kids.length≤100000) (fp:∀k∈n.keys,k.length≤100000) (jq:∀v∈n.vals,v.length≤100000):
   aQ Tryz.prog F.fM #[e9 n K V D] bO (fun v w'=>∃ (K V D:aa) (cC cX cu:Nat→Prop),v=e9 n K V D∧jU bO.heap.size w' n K V D cC cX cu∧Ext bO w'):=by
 refine W.ako n.leaf K V D bO _ ?_
 (delta W.fM dx ai bS aq ee jt SJ aB Zl a7 st aC Zm Fc Ot;dsimp only)
 have SK:cd (fun q=>q<bO.heap.size) bO n K V D:=h.bz fun q J _=>J
 have CE:=bZ.len h.keys
 have iM:=bZ.len h.vals
 refine cn (vs:=[.bool n.leaf, .slice K.a K.len K.cap, .slice V.a V.len V.cap, .slice D.a D.len D.cap]) rfl fun ag gh bD ky=> ?_
 refine cn (vs:=[.bool false, .slice none 0 0, .slice none 0 0, .slice none 0 0]) rfl fun aw fS cA mo=>bL ?_
 have bA:=dL aw
 have bN:aw.drew.heap.size=aw.heap.size:=rfl
 have vA:=(gh.ext cA).ext bA
 have yG:=fS.ext bA
 have g0:=bD.trans (cA.trans bA)
 obtain ⟨gk,aY,bo,en⟩:=cj vA
 have qQ:=SK.ext g0
 obtain ⟨lo,lX⟩:∃lo,lo=aw.heap.size:=⟨_,rfl⟩
 refine ⟨fun _=>False,id,_,gk,id,D,en,⟨?_,?_⟩⟩
 · refine (Ke qQ.kids.1 (by omega)).use ?_
   rintro _ bh ⟨aP,rfl,Az,fe,yt⟩
   have CL:=fe.size
   refine ⟨aP,rfl,fe, #[.bool n.leaf, .slice none 0 0, .slice none 0 0, .slice aP.a aP.len aP.cap],(fun w=>by kernel_rfl),?_⟩
   refine cn (vs:=[.bool false, .slice none 0 0, .slice none 0 0, .slice none 0 0]) rfl fun cJ Ou hV Zn=> ?_
   refine ⟨hV,Ou.dA rfl ?_,rfl,ek Ou (us:=[.bool n.leaf, .slice none 0 0, .slice none 0 0, .slice aP.a aP.len aP.cap]) rfl rfl fun b2 AA pS SL=> ?_⟩
   · intro v ak
     simp only[gb,m4,m5] at ak
     rcases ak with rfl|rfl|rfl|rfl<;>trivial
   obtain ⟨aK,fi⟩:∃aK,aK=bh.heap.size:=⟨_,rfl⟩
   rw[←fi] at AA pS⊢
   obtain ⟨cu,AB⟩:∃cu:Nat→Prop,cu=fun q=>aw.heap.size≤q∧q<bh.heap.size:=⟨_,rfl⟩
   have SM:eO cu bh aP n.kids:=by subst AB;exact ⟨Az,fun k ae=>⟨⟨yt k ae,Az.lt k ae⟩,Az.lt k ae⟩⟩
   have w4:ao (fun q=>lo≤q) aw.drew b2:=(ao.eQ (fe.trans hV)).trans (pS.mono fun k _ ae=>by omega)
   have SN:pR lo b2 aK ⟨n.leaf,[],[],n.kids⟩ bU bU aP (fun _=>False) (fun _=>False) cu:=⟨AA,b4.none _ _,b4.none _ _,eO.an (eO.ext SM hV) pS (fun q J e=>by subst AB;have J:=J.2;omega),fun q h=>h.elim,fun q h=>h.elim,fun q J=>(by subst AB;obtain ⟨U,ad⟩:=J;exact ⟨by omega,by omega,by omega⟩),by omega⟩
   clear AB
   obtain ⟨cH,aT,bC,ba⟩:=cj (vA.an w4 (by omega))
   have Fe:cd (fun q=>q<bO.heap.size) b2 n K V D:=qQ.an w4 fun q J h=>by omega
   have Kg:=yG.an w4 (by omega)
   refine ⟨K,aT,fun i w'=>∃ (j:Nat) (aU:aa) (cC:Nat→Prop),i=j∧j≤n.keys.length∧pR lo w' aK ⟨n.leaf,n.keys.take j,[],n.kids⟩ aU bU aP cC (fun _=>False) cu∧ao (fun q=>lo≤q) b2 w',fun i _=>((n.keys.length:Int)-i).toNat,⟨0,bU,_,rfl,fl _,SN,ao.refl _ _⟩,?_⟩
   rintro _ c0 ⟨j,aU,cC,rfl,a_,w5,gx⟩
   have SO:cd (fun q=>q<bO.heap.size) c0 n K V D:=Fe.an gx fun q J h=>by omega
   refine ⟨fun bd=> ?_,fun cg=> ?_⟩
   · have bd:j<n.keys.length:=by have:=dD bd;omega
     obtain ⟨A,t,ax,ab,al,aV,_⟩:=bZ.at SO.keys bd
     refine ⟨A,ax,ab,t,al,SH w5 aV.1 (fp _ (fg bd)) (by show (n.keys.take j).length≤_;rw[d_];omega) fun w' c9 s7 st AD _=> ?_⟩
     have dY:ao (fun q=>lo≤q) c0 w':=AD.mono fun q _ J=>by
       rcases J with J|J
       · have:=w5.Ax;omega
       · exact (w5.bT q J).1
     rw[cz (n:=(j:Int)+1) (by omega) (by omega)]
     refine ⟨⟨j+1,c9,s7,by omega,by omega,?_,gx.trans dY⟩,?_⟩
     · rw[take_succ _ bd];exact st
     · show ((n.keys.length:Int)-((j:Int)+1)).toNat<((n.keys.length:Int)-(j:Int)).toNat
       omega
   have cg:j=n.keys.length:=by have:=eW cg;omega
   subst cg
   rw[qB] at w5
   obtain ⟨cH,aT,bC,ba⟩:=cj ((vA.an w4 (by omega)).an gx (by omega))
   refine ⟨V,bC,fun i w'=>∃ (j:Nat) (bP:aa) (cX:Nat→Prop),i=j∧j≤n.vals.length∧pR lo w' aK ⟨n.leaf,n.keys,n.vals.take j,n.kids⟩ aU bP aP cC cX cu∧ao (fun q=>lo≤q) b2 w',fun i _=>((n.vals.length:Int)-i).toNat,⟨0,bU,_,rfl,fl _,w5,gx⟩,?_⟩
   rintro _ e5 ⟨j,bP,cX,rfl,a_,ue,AE⟩
   have SP:cd (fun q=>q<bO.heap.size) e5 n K V D:=Fe.an AE fun q J h=>by omega
   refine ⟨fun bd=> ?_,fun cg=> ?_⟩
   · have bd:j<n.vals.length:=by have:=dD bd;omega
     obtain ⟨A,t,ax,ab,al,aV,_⟩:=bZ.at SP.vals bd
     refine ⟨A,ax,ab,t,al,Zi ue aV.1 (jq _ (fg bd)) (by show (n.vals.take j).length≤_;rw[d_];omega) fun w' df AF st AD _=> ?_⟩
     have dY:ao (fun q=>lo≤q) e5 w':=AD.mono fun q _ J=>by
       rcases J with J|J
       · have:=ue.Ax;omega
       · exact (ue.bv q J).1
     rw[cz (n:=(j:Int)+1) (by omega) (by omega)]
     refine ⟨⟨j+1,df,AF,by omega,by omega,?_,AE.trans dY⟩,?_⟩
     · rw[take_succ _ bd];exact st
     · show ((n.vals.length:Int)-((j:Int)+1)).toNat<((n.vals.length:Int)-(j:Int)).toNat
       omega
   have cg:j=n.vals.length:=by have:=eW cg;omega
   subst cg
   rw[qB] at ue
   obtain ⟨d0,d1,d2,d3⟩:=cj ue.v
   refine ⟨_,d0,aU,d1,bP,d2,aP,d3,rD n.leaf aU bP aP (Kg.an AE (by omega)) rfl (Q:=fun b K V D aw=>(fun v w'=>∃ (K V D:aa) (cC cX cu:Nat→Prop),v=e9 n K V D∧jU bO.heap.size w' n K V D cC cX cu∧Ext bO w') (.agg #[.bool b, .slice K.a K.len K.cap, .slice V.a V.len V.cap, .slice D.a D.len D.cap]) aw) fun cF oX=>⟨aU,bP,aP,cC,cX,cu,rfl,?_,?_⟩⟩
   · exact (jU.an ue.mem oX fun q J _ _ h=>by omega).low (by omega)
   · exact Ext.eX (Ext.gN g0 (w4.trans AE) fun k ae=>by omega) oX (by omega)
 · refine cn (vs:=[.bool false, .slice none 0 0, .slice none 0 0, .slice none 0 0]) rfl fun cJ Ou hV Zn=>⟨hV,?_⟩
   refine (Ke (qQ.kids.ext hV).1 (by omega)).use ?_
   rintro _ bh ⟨aP,rfl,Az,fe,yt⟩
   have CL:=fe.size
   have Kh:=Ou.ext fe
   refine ⟨aP,rfl,fe, #[.bool n.leaf, .slice none 0 0, .slice none 0 0, .slice aP.a aP.len aP.cap],(fun w=>by kernel_rfl),?_⟩
   refine ⟨Kh.dA rfl ?_,rfl,ek Kh (us:=[.bool n.leaf, .slice none 0 0, .slice none 0 0, .slice aP.a aP.len aP.cap]) rfl rfl fun b2 AA pS SL=> ?_⟩
   · intro v ak
     simp only[gb,m4,m5] at ak
     rcases ak with rfl|rfl|rfl|rfl<;>trivial
   obtain ⟨aK,fi⟩:∃aK,aK=aw.drew.heap.size:=⟨_,rfl⟩
   rw[←fi] at AA pS⊢
   obtain ⟨cu,AB⟩:∃cu:Nat→Prop,cu=fun q=>cJ.heap.size≤q∧q<bh.heap.size:=⟨_,rfl⟩
   have SM:eO cu bh aP n.kids:=by subst AB;exact ⟨Az,fun k ae=>⟨⟨yt k ae,Az.lt k ae⟩,Az.lt k ae⟩⟩
   have w4:ao (fun q=>lo≤q) aw.drew b2:=(ao.eQ (hV.trans fe)).trans (pS.mono fun k _ ae=>by omega)
   have SN:pR lo b2 aK ⟨n.leaf,[],[],n.kids⟩ bU bU aP (fun _=>False) (fun _=>False) cu:=⟨AA,b4.none _ _,b4.none _ _,eO.an SM pS (fun q J e=>by subst AB;have J:=J.1;omega),fun q h=>h.elim,fun q h=>h.elim,fun q J=>(by subst AB;obtain ⟨U,ad⟩:=J;exact ⟨by omega,by omega,by omega⟩),by omega⟩
   clear AB
   obtain ⟨cH,aT,bC,ba⟩:=cj (vA.an w4 (by omega))
   have Fe:cd (fun q=>q<bO.heap.size) b2 n K V D:=qQ.an w4 fun q J h=>by omega
   have Kg:=yG.an w4 (by omega)
   refine ⟨K,aT,fun i w'=>∃ (j:Nat) (aU:aa) (cC:Nat→Prop),i=j∧j≤n.keys.length∧pR lo w' aK ⟨n.leaf,n.keys.take j,[],n.kids⟩ aU bU aP cC (fun _=>False) cu∧ao (fun q=>lo≤q) b2 w',fun i _=>((n.keys.length:Int)-i).toNat,⟨0,bU,_,rfl,fl _,SN,ao.refl _ _⟩,?_⟩
   rintro _ c0 ⟨j,aU,cC,rfl,a_,w5,gx⟩
   have SO:cd (fun q=>q<bO.heap.size) c0 n K V D:=Fe.an gx fun q J h=>by omega
   refine ⟨fun bd=> ?_,fun cg=> ?_⟩
   · have bd:j<n.keys.length:=by have:=dD bd;omega
     obtain ⟨A,t,ax,ab,al,aV,_⟩:=bZ.at SO.keys bd
     refine ⟨A,ax,ab,t,al,SH w5 aV.1 (fp _ (fg bd)) (by show (n.keys.take j).length≤_;rw[d_];omega) fun w' c9 s7 st AD _=> ?_⟩
     have dY:ao (fun q=>lo≤q) c0 w':=AD.mono fun q _ J=>by
       rcases J with J|J
       · have:=w5.Ax;omega
       · exact (w5.bT q J).1
     rw[cz (n:=(j:Int)+1) (by omega) (by omega)]
     refine ⟨⟨j+1,c9,s7,by omega,by omega,?_,gx.trans dY⟩,?_⟩
     · rw[take_succ _ bd];exact st
     · show ((n.keys.length:Int)-((j:Int)+1)).toNat<((n.keys.length:Int)-(j:Int)).toNat
       omega
   have cg:j=n.keys.length:=by have:=eW cg;omega
   subst cg
   rw[qB] at w5
   obtain ⟨cH,aT,bC,ba⟩:=cj ((vA.an w4 (by omega)).an gx (by omega))
   refine ⟨V,bC,fun i w'=>∃ (j:Nat) (bP:aa) (cX:Nat→Prop),i=j∧j≤n.vals.length∧pR lo w' aK ⟨n.leaf,n.keys,n.vals.take j,n.kids⟩ aU bP aP cC cX cu∧ao (fun q=>lo≤q) b2 w',fun i _=>((n.vals.length:Int)-i).toNat,⟨0,bU,_,rfl,fl _,w5,gx⟩,?_⟩
   rintro _ e5 ⟨j,bP,cX,rfl,a_,ue,AE⟩
   have SP:cd (fun q=>q<bO.heap.size) e5 n K V D:=Fe.an AE fun q J h=>by omega
   refine ⟨fun bd=> ?_,fun cg=> ?_⟩
   · have bd:j<n.vals.length:=by have:=dD bd;omega
     obtain ⟨A,t,ax,ab,al,aV,_⟩:=bZ.at SP.vals bd
     refine ⟨A,ax,ab,t,al,Zi ue aV.1 (jq _ (fg bd)) (by show (n.vals.take j).length≤_;rw[d_];omega) fun w' df AF st AD _=> ?_⟩
     have dY:ao (fun q=>lo≤q) e5 w':=AD.mono fun q _ J=>by
       rcases J with J|J
       · have:=ue.Ax;omega
       · exact (ue.bv q J).1
     rw[cz (n:=(j:Int)+1) (by omega) (by omega)]
     refine ⟨⟨j+1,df,AF,by omega,by omega,?_,AE.trans dY⟩,?_⟩
     · rw[take_succ _ bd];exact st
     · show ((n.vals.length:Int)-((j:Int)+1)).toNat<((n.vals.length:Int)-(j:Int)).toNat
       omega
   have cg:j=n.vals.length:=by have:=eW cg;omega
   subst cg
   rw[qB] at ue
   obtain ⟨d0,d1,d2,d3⟩:=cj ue.v
   refine ⟨_,d0,aU,d1,bP,d2,aP,d3,rD n.leaf aU bP aP (Kg.an AE (by omega)) rfl (Q:=fun b K V D aw=>(fun v w'=>∃ (K V D:aa) (cC cX cu:Nat→Prop),v=e9 n K V D∧jU bO.heap.size w' n K V D cC cX cu∧Ext bO w') (.agg #[.bool b, .slice K.a K.len K.cap, .slice V.a V.len V.cap, .slice D.a D.len D.cap]) aw) fun cF oX=>⟨aU,bP,aP,cC,cX,cu,rfl,?_,?_⟩⟩
   · exact (jU.an ue.mem oX fun q J _ _ h=>by omega).low (by omega)
   · exact Ext.eX (Ext.gN g0 (w4.trans AE) fun k ae=>by omega) oX (by omega)
end
section
theorem b4.mk' {B:Nat→Prop} {w:World} {s:aa} {ts:List aa} {ls:List Key} (az:ts.length=ls.length) (bQ:bV 1 ah.cm w s (ts.map pL)) (hi:In B w s) (bN:∀p∈ts.zip ls,bF B w p.1 p.2∧∀k,aO p.1 k→¬aO s k):b4 B w s ls:=by
 refine ⟨ts,az,bQ,hi,fun i U ad=> ?_⟩
 have:=bN (ts[i],ls[i]) (by
   rw[List.mem_iff_getElem]
   exact ⟨i,by rw[Cc];omega,by rw[Nr]⟩)
 exact this
theorem b4.out {B:Nat→Prop} {w:World} {s:aa} {ls:List Key} (h:b4 B w s ls):∃ts:List aa,ts.length=ls.length∧bV 1 ah.cm w s (ts.map pL)∧In B w s∧∀p∈ts.zip ls,bF B w p.1 p.2∧∀k,aO p.1 k→¬aO s k:=by
 obtain ⟨ts,U,ad,au,aJ⟩:=h
 refine ⟨ts,U,ad,au,fun p aZ=> ?_⟩
 obtain ⟨i,hi,rfl⟩:=List.mem_iff_getElem.1 aZ
 rw[Cc] at hi
 rw[Nr]
 exact aJ i (by omega) (by omega)
theorem Zo {α β:Type} (a:List α) (b:List β) (i:Nat):(a.take i).zip (b.take i)=(a.zip b).take i:=by
 rw[List.zip_eq_zipWith,List.zip_eq_zipWith,List.take_zipWith]
theorem Zp {α β:Type} (a:List α) (b:List β) (i:Nat):(a.drop i).zip (b.drop i)=(a.zip b).drop i:=by
 rw[List.zip_eq_zipWith,List.zip_eq_zipWith,List.drop_zipWith]
theorem Zq {B:Nat→Prop} {w:World} {s t:aa} {ls:List Key} {l:Key} {i:Nat} (bQ:b4 B w s ls) (aV:bF B w t l) (hd:∀k,aO t k→¬aO s k) (aD:ls.length≤100000) (hi:i≤ls.length):
   aQ Tryz.prog F.yB #[.slice s.a s.len s.cap, .int .i64 (i:Int), .slice (some ⟨w.heap.size,0,none⟩) 1 1] (w.alloc (.cells #[.slice t.a t.len t.cap] ah.cm))
     (fun u w'=>∃ar:aa,u= .slice ar.a ar.len ar.cap∧b4 (Grow B w w') w' ar (ls.take i++ [l]++ls.drop i)∧ao (aO s) w w'):=by
 obtain ⟨ts,U,ad,au,aJ⟩:=b4.out bQ
 have gw:s.len=ls.length:=by have:=ad.1;rw[lf] at this;omega
 have af:=iR w (.cells #[.slice t.a t.len t.cap] ah.cm)
 have jf:=ct.new w #[.slice t.a t.len t.cap] ah.cm
 refine (ajW (v:=⟨some ⟨w.heap.size,0,none⟩,1,1⟩) (xs:=[pL t]) (i:=i) (ad.ext af) (Src.new (T:=ah.cm) w [pL t] 1 rfl) rfl rfl jf (fun h=>by have:=(au _ h).2;omega) (fun v ak=>by rw[lV.1 ak];trivial) (N8 ts) (by omega) (by omega)).mono ?_
 rintro _ w' ⟨ar,rfl,aA,aE,aI,aL⟩
 rw[lU] at aA
 have al:ao (aO s) w w':=(ao.eQ af).trans aI
 have dR:=al.size
 have sh:(w.alloc (.cells #[.slice t.a t.len t.cap] ah.cm)).heap.size=w.heap.size+1:=JU _ _
 have mA:∀k,aO ar k→aO s k∨w.heap.size≤k:=fun k ae=>(aL k ae).imp id fun h=>by omega
 have my:∀ (x:aa),In B w x→(∀k,aO x k→¬aO s k)→∀k,aO x k→¬aO ar k:=fun x af cA k ae eC=>by
   rcases mA k eC with h|h
   · exact cA k ae h
   · have:=(af k ae).2;omega
 have ih:∀ (x:aa) (y:Key),bF B w x y→(∀k,aO x k→¬aO s k)→bF (Grow B w w') w' x y∧∀k,aO x k→¬aO ar k:=fun x y Zr cA=>⟨bF.bz (bF.qO Zr al cA) fun k _ h=> .inl h,my x Zr.2.2 cA⟩
 refine ⟨ar,rfl,b4.mk' (ts:=ts.take i++ [t]++ts.drop i) ?_ ?_ ?_ ?_,al⟩
 · simp only[dU,d_,fG,ru];omega
 · simpa[EE,GU] using aA
 · intro k ae
   refine ⟨?_,aA.lt k ae⟩
   rcases mA k ae with h|h
   · exact .inl (au k h).1
   · exact .inr ⟨h,aA.lt k ae⟩
 · intro p aZ
   rw[List.zip_append (by simp only[dU,d_,ru];omega),List.zip_append (by simp only[d_];omega),Zo,Zp] at aZ
   rcases e8.1 aZ with aZ|aZ
   · rcases e8.1 aZ with aZ|aZ
     · obtain ⟨a,b⟩:=aJ p (kM aZ)
       exact ih _ _ a b
     · simp only[List.zip_cons_cons,List.zip_nil_left,lV] at aZ
       subst aZ
       exact ih _ _ aV hd
   · obtain ⟨a,b⟩:=aJ p (kx aZ)
     exact ih _ _ a b
theorem akp:(Tryz.prog.info? ah.cm).bind (·.zero)=some (.slice none 0 0):=by kernel_rfl
theorem Zs {B:Nat→Prop} {w:World} {s:aa} {ls:List Key} {i:Nat} (bQ:b4 B w s ls) (aD:ls.length≤100000) (hi:i<ls.length):
   aQ Tryz.prog F.yD #[.slice s.a s.len s.cap, .int .i64 (i:Int), .int .i64 ((i+1:Nat):Int)] w
     (fun u w'=>∃ar:aa,u= .slice ar.a ar.len ar.cap∧b4 B w' ar (ls.take i++ls.drop (i+1))∧ao (aO s) w w'):=by
 obtain ⟨ts,U,ad,au,aJ⟩:=b4.out bQ
 have gw:s.len=ls.length:=by have:=ad.1;rw[lf] at this;omega
 refine (aj5 (i:=i) ad (N8 ts) (fun z bN u hu=>by
   rw[akp] at bN
   cases bN
   simp[Value.cells] at hu
   subst hu;trivial) (by omega) (by omega)).mono ?_
 rintro _ w' ⟨ar,rfl,aA,aE,aI,aL⟩
 rw[lU,lU] at aA
 have dR:=aL.size
 have mA:∀k,aO ar k→aO s k:=fun k ⟨A,ax,ae⟩=>⟨A,by rw[←aI];exact ax,ae⟩
 refine ⟨ar,rfl,b4.mk' (ts:=ts.take i++ts.drop (i+1)) ?_ ?_ ?_ ?_,aL⟩
 · simp only[dU,d_,fG];omega
 · simpa[EE,GU] using aA
 · exact fun k ae=>⟨(au k (mA k ae)).1,aA.lt k ae⟩
 · intro p aZ
   rw[List.zip_append (by simp only[d_];omega),Zo,Zp] at aZ
   have hm:p∈ts.zip ls:=by
     rcases e8.1 aZ with aZ|aZ
     · exact kM aZ
     · exact kx aZ
   obtain ⟨a,b⟩:=aJ p hm
   exact ⟨bF.qO a aL b,fun k ae eC=>b k ae (mA k eC)⟩
theorem akq {B:Nat→Prop} {w:World} {s t:aa} {ls:List Key} {l:Key} {i:Nat} (bQ:b4 B w s ls) (aV:bF B w t l) (hd:∀k,aO t k→¬aO s k) (hi:i<ls.length):
   ∃A:Addr,s.a=some A∧((0:Int)≤(i:Int)∧(i:Int)<((s.len:Nat):Int))∧(∃u:Value,w.cell? (A.add (Int.toNat (i:Int)*1))=some u)∧w.frozen? (A.add (Int.toNat (i:Int)*1))=false∧
     b4 B (w.setCell (A.add (Int.toNat (i:Int)*1)) (pL t)) s (ls.set i l)∧ao (aO s) w (w.setCell (A.add (Int.toNat (i:Int)*1)) (pL t)):=by
 obtain ⟨ts,U,ad,au,aJ⟩:=bQ
 obtain ⟨A,ax,ab,al,aH,fi,yH⟩:=ad.at (i:=i) (v:=pL (ts[i]'(by omega))) (by simp[U,hi])
 have vm:ao (aO s) w (w.setCell (A.add (Int.toNat (i:Int)*1)) (pL t)):=ao.set (.refl _ _) (fun _=>fi) _
 refine ⟨A,ax,ab,⟨_,al⟩,aH,⟨ts.set i t,by simp[U],?_,In.an au vm,fun j a6 b8=> ?_⟩,vm⟩
 · have:=yH (pL t)
   rwa[←List.map_set] at this
 · rw[jc] at a6 b8
   rw[List.getElem_set,List.getElem_set]
   by_cases e:i=j
   · rw[if_pos e,if_pos e]
     exact ⟨bF.qO aV vm hd,hd⟩
   · rw[if_neg e,if_neg e]
     obtain ⟨a,b⟩:=aJ j a6 b8
     exact ⟨bF.qO a vm b,b⟩
def pn (n:aM) (k v:Key):aM:=
 if pk n.keys k then {n with vals:=n.vals.set (ey n.keys k) v}
 else {n with keys:=n.keys.take (ey n.keys k)++ [k]++n.keys.drop (ey n.keys k),vals:=n.vals.take (ey n.keys k)++ [v]++n.vals.drop (ey n.keys k)}
def yI (n:aM) (k:Key):aM:={n with keys:=n.keys.take (ey n.keys k)++n.keys.drop (ey n.keys k+1),vals:=n.vals.take (ey n.keys k)++n.vals.drop (ey n.keys k+1)}
theorem oq.k3 {n:aM} (h:oq n):(∀k∈n.keys,k.length≤100000)∧(∀v∈n.vals,v.length≤100000):=⟨fun k ae=>by have:=(h.ok k ae).2;omega,fun v ak=>by have:=h.vals v ak;omega⟩
def Ff (n:aM) (w:World) (v:Value) (w':World):Prop:=∃K V D:aa,v= .tuple #[e9 n K V D, .bool true]∧cd (fun q=>w.heap.size≤q) w' n K V D∧Ext w w'
theorem yJ {B:Nat→Prop} {w:World} {n:aM} {K V D aG c1:aa} {key val:Key} (h:cd B w n K V D) (aj:oq n) (aD:n.keys.length≤10000) (ae:Src 1 w aG (bn key)) (ak:Src 1 w c1 (bn val)) (jd:eM key) (qe:val.length≤24):
   aQ Tryz.prog F.yJ #[e9 n K V D, .slice aG.a aG.len aG.cap, .slice c1.a c1.len c1.cap] w (Ff (pn n key val) w):=by
 have jq:=aj.len
 have lY:n.kids.length=0:=by rw[aj.kids];rfl
 have avJ:=len8 ak
 have fp:key.length≤24:=jd.2
 refine W.akr n.leaf K V D aG c1 w _ ?_
 (delta W.yJ dx bS ai Ht aB aq ba nx Ki jt dN ee a7 st dB Kj;dsimp only)
 refine cn (vs:=[.bool n.leaf, .slice K.a K.len K.cap, .slice V.a V.len V.cap, .slice D.a D.len D.cap]) rfl fun ag gh bD ky=> ?_
 refine cn (vs:=[.bool false, .slice none 0 0, .slice none 0 0, .slice none 0 0]) rfl fun aw fS cA mo=> ?_
 have pP:=bD.trans cA
 obtain ⟨cH,aT,bC,ba⟩:=cj (gh.ext cA)
 refine ⟨n.leaf,cH,eA (fun b w'=>b=false∧Ext aw w') (fun q J=>⟨fun ab=> ?_,fun ab=>⟨_,cH,K,aT,V,bC,D,ba,(nS (h.ext pP) (by omega) (by omega) (by omega)).use ?_⟩⟩) ?_⟩
 · rw[aj.leaf] at ab;cases ab
 · rintro _ aS ⟨b,rfl,gT,eU⟩
   have:=gT.2 (.inl aj)
   subst this
   exact ⟨true,rfl,J _ _ ⟨rfl,eU⟩⟩
 rintro _ aS ⟨rfl,eU⟩
 have g0:=pP.trans eU
 refine eA (fun b w'=>b=false∧aS=w') (fun q J=>⟨fun h=>(by cases h),fun _=>(vq (ae.ext g0)).use ?_⟩) ?_
 · rintro _ _ ⟨rfl,rfl⟩
   exact ⟨_,rfl,J _ _ ⟨by simp[jd],rfl⟩⟩
 rintro _ _ ⟨rfl,rfl⟩
 obtain ⟨cH,aT,bC,ba⟩:=cj (gh.ext (cA.trans eU))
 refine ⟨fun ab=> ?_,fun _=>⟨_,cH,K,aT,V,bC,D,ba,(fM (h.ext g0) (by omega) (by omega) (by omega) aj.k3.1 aj.k3.2).use ?_⟩⟩
 · have ab:decide ((((c1.len:Nat):Int):Int)>24)=true:=ab
   have:=dD ab;omega
 rintro _ bp ⟨aU,bP,aP,cC,cX,cu,rfl,w6,fB⟩
 have tX:=g0.trans fB
 have J5:=tX.size
 have avK:=g0.size
 have avL:=eU.size
 have avM:=fB.size
 refine ⟨n.leaf,aU,bP,aP,rfl,cn (vs:=[.bool false, .slice none 0 0, .slice none 0 0, .slice none 0 0]) rfl fun bH yr lj E8=>⟨yr.dA rfl ?_,rfl,ek yr (us:=[.bool n.leaf, .slice aU.a aU.len aU.cap, .slice bP.a bP.len bP.cap, .slice aP.a aP.len aP.cap]) rfl rfl fun a8 vk qN Kk=> ?_⟩⟩
 · intro v ak
   simp only[gb,m4,m5] at ak
   rcases ak with rfl|rfl|rfl|rfl<;>trivial
 obtain ⟨aK,fi⟩:∃aK,aK=bp.heap.size:=⟨_,rfl⟩
 rw[←fi] at vk qN⊢
 obtain ⟨lo,lX⟩:∃lo,lo=aS.heap.size:=⟨_,rfl⟩
 rw[←lX] at w6
 have nR:Ext w a8:=Ext.eX (tX.trans lj) qN (by omega)
 have s8:Var a8 w.heap.size [.bool n.leaf, .slice K.a K.len K.cap, .slice V.a V.len V.cap, .slice D.a D.len D.cap] ah.cO:=(((gh.ext (cA.trans eU)).ext fB).ext lj).an qN (by omega)
 have Zt:Var a8 ag.heap.size [.bool false, .slice none 0 0, .slice none 0 0, .slice none 0 0] ah.cO:=(((fS.ext eU).ext fB).ext lj).an qN (by omega)
 have lI:jU lo a8 n aU bP aP cC cX cu:=(w6.ext lj).an qN fun q _ _ J e=>by
   subst e
   rcases J with J|J|J
   · have:=(w6.bT _ J).2.1;omega
   · have:=(w6.bv _ J).2.1;omega
   · have:=(w6.a7 _ J).2;omega
 obtain ⟨cH,aT,bC,ba⟩:=cj s8
 have hle:=Hc n.keys key
 refine ⟨_,cH,K,aT,V,bC,D,ba,(rF (h.ext nR) (ae.ext nR) aj.kg (by omega)).use ?_⟩
 rintro _ bh ⟨rfl,fe⟩
 have sj:=nR.trans fe
 have Ov:=fe.size
 refine ⟨_,_,rfl,fun cT=> ?_,fun cT=> ?_⟩
 ·
   have bA:=dL bh
   have l1:=fe.trans bA
   have bd:ey n.keys key<n.keys.length:=by
     have:=dD cT
     exact (qA.1 this).1
   obtain ⟨d0,d1,d2,d3⟩:=cj (vk.ext l1)
   refine bL ⟨fun _=>False,id,bP,d2,(vo (B:=fun q=>bh.heap.size≤q) (ak.ext (sj.trans bA)) (by omega) (fun q J=>J)).use ?_⟩
   rintro _ bW ⟨t,rfl,aV,gd,YH⟩
   have CM:=l1.trans gd
   have SQ:=lI.ext CM
   have E_:=CM.size
   have aks:b4 (Grow cX bh bW) bW bP n.vals:=b4.bz SQ.vals fun k _ h=> .inl h
   have w7:∀k,aO bP k→cX k:=fun k ae=>by obtain ⟨ts,_,_,au,_⟩:=lI.vals;exact (au k ae).1
   obtain ⟨A,ax,ab,kS,Zu,yH,vm⟩:=akq (i:=ey n.keys key) aks (bF.bz aV fun k ae h=> .inr ⟨h,ae⟩) (fun k jQ eC=>by
     have:=(aV.2.2 k jQ).1
     have:=(lI.bv k (w7 k eC)).2.1
     omega) (by omega)
   refine ⟨t,rfl,gd,A,ax,ab,kS,Zu,bL ?_⟩
   obtain ⟨b6,Hu⟩:∃b6,b6=bW.setCell (A.add (Int.toNat (ey n.keys key:Int)*1)) (pL t):=⟨_,rfl⟩
   rw[←Hu] at yH vm
   have akt:bW.setCell (A.add (Int.toNat (ey n.keys key:Int)*1)) (.slice t.a t.len t.cap)=b6:=Hu.symm
   rw[akt]
   have Kl:ao (fun q=>lo≤q∧q<a8.heap.size∧cX q) bW b6:=vm.mono fun k _ ae=>⟨(lI.bv k (w7 k ae)).1,(lI.bv k (w7 k ae)).2.1,w7 k ae⟩
   have oV:=(vk.ext CM).an Kl (fun e=>by
     have U:=(w6.bv _ e.2.2).2.1;omega)
   obtain ⟨gk,aY,bo,en⟩:=cj oV
   have aku:cd (fun q=>lo≤q) b6 (pn n key val) aU bP aP:=by
     unfold pn
     rw[if_pos cT]
     refine ⟨bZ.bz (bZ.an (b4.qP SQ.keys) Kl fun q J e=>(lI.bT q J).2.2.1 e.2.2) fun q _ J=>(lI.bT q J).1,bZ.bz (b4.qP yH) fun q _ J=> ?_,eo.bz (eo.an (eO.Hn SQ.kids) Kl fun q J e=>(lI.bv q e.2.2).2.2 J) fun q _ J=>(lI.a7 q J).1⟩
     rcases J with J|J
     · exact (lI.bv q J).1
     · omega
   have J7:(pn n key val).leaf=n.leaf:=by unfold pn;rw[if_pos cT]
   refine ⟨_,gk,aU,aY,bP,bo,aP,en,rD n.leaf aU bP aP ((Zt.ext CM).an Kl (fun e=>by have:=e.1;omega)) rfl (Q:=fun b K V D aw=>Ff (pn n key val) w (.tuple #[.agg #[.bool b, .slice K.a K.len K.cap, .slice V.a V.len V.cap, .slice D.a D.len D.cap], .bool true]) aw) fun bK w8=>⟨aU,bP,aP,by unfold e9;rw[J7],?_,?_⟩⟩
   · exact (aku.an w8 fun q J e=>by omega).bz fun q _ J=>by omega
   · exact Ext.eX (Ext.gN (nR.trans CM) Kl fun k ae=>by omega) w8 (by omega)
 ·
   have bA:=dL bh
   have l1:=fe.trans bA
   have l4:pR lo bh.drew aK n aU bP aP cC cX cu:=by
     have sq:=lI.ext l1
     refine ⟨vk.ext l1,sq.keys,sq.vals,sq.kids,fun q J=> ?_,fun q J=> ?_,fun q J=> ?_,by omega⟩
     · have U:=sq.bT q J;have:=(w6.bT q J).2.1;exact ⟨U.1,U.2.1,by omega,U.2.2⟩
     · have U:=sq.bv q J;have:=(w6.bv q J).2.1;exact ⟨U.1,U.2.1,by omega,U.2.2⟩
     · have U:=sq.a7 q J;have:=(w6.a7 q J).2;exact ⟨U.1,U.2,by omega⟩
   obtain ⟨d0,d1,d2,d3⟩:=cj l4.v
   refine bL ⟨fun _=>False,id,aU,d1,(vo (B:=fun q=>bh.heap.size≤q) (ae.ext (sj.trans bA)) (by omega) (fun q J=>J)).use ?_⟩
   rintro _ bW ⟨t,rfl,aV,gd,YH⟩
   have E_:bh.heap.size≤bW.heap.size:=(bA.trans gd).size
   have kV:∀k,aO aU k→cC k:=fun k ae=>by obtain ⟨ts,_,_,au,_⟩:=lI.keys;exact (au k ae).1
   have w7:∀k,aO bP k→cX k:=fun k ae=>by obtain ⟨ts,_,_,au,_⟩:=lI.vals;exact (au k ae).1
   have oA:=l4.ext gd
   refine ⟨t,rfl,gd,bL ⟨iR _ _,(Zq (B:=Grow cC bh bW) (i:=ey n.keys key) (b4.bz oA.keys fun k _ h=> .inl h) (bF.bz aV fun k ae h=> .inr ⟨h,ae⟩) (fun k jQ eC=>by
     have:=(aV.2.2 k jQ).1
     have:=(lI.bT k (kV k eC)).2.1
     omega) (by omega) hle).use ?_⟩⟩
   rintro _ b6 ⟨S,rfl,ph,hA⟩
   have Hv:=hA.size
   have Km:ao (fun q=>lo≤q∧cC q) bW b6:=hA.mono fun k _ ae=>⟨(lI.bT k (kV k ae)).1,kV k ae⟩
   have oV:=oA.v.an Km fun e=>(oA.bT _ e.2).2.2.1 rfl
   obtain ⟨s1,s2⟩:=js oV (i:=1) (by simp)
   refine ⟨S,rfl,?_⟩
   rw[aW,aW]
   refine ⟨s1,s2,bL (bL ?_)⟩
   obtain ⟨bK,SR⟩:∃bK,bK=(b6.setCell ⟨aK,0+1,none⟩ (.slice S.a S.len S.cap)).drew:=⟨_,rfl⟩
   rw[←SR]
   have w8:ao (fun q=>q=aK) b6 bK:=by rw[SR];exact ao.drew (ig _ _ _ _)
   have Zv:Var bK aK [.bool n.leaf, .slice S.a S.len S.cap, .slice bP.a bP.len bP.cap, .slice aP.a aP.len aP.cap] ah.cO:=by rw[SR];exact (jr oV _).drew
   have Ow:=w8.size
   have avN:aK<bh.heap.size:=by have:=vk.lt;omega
   have akv:b4 (fun q=>cC q∨(bh.heap.size≤q∧q<b6.heap.size)) bK S (n.keys.take (ey n.keys key)++ [key]++n.keys.drop (ey n.keys key)):=by
     refine b4.an (b4.bz ph fun k _ ae=> ?_) w8 fun k ae e=> ?_
     · rcases ae with (ae|ae)|ae
       · exact .inl ae
       · exact .inr ⟨ae.1,by omega⟩
       · exact .inr ⟨by omega,ae.2⟩
     · subst e
       rcases ae with ae|ae
       · exact (oA.bT _ ae).2.2.1 rfl
       · omega
   have akw:b4 cX bK bP n.vals:=b4.an (b4.an oA.vals Km fun q J e=>(oA.bT q e.2).2.2.2.1 J) w8 fun q J e=>(oA.bv q J).2.2.1 e
   have akx:eO cu bK aP n.kids:=eO.an (eO.an oA.kids Km fun q J e=>(oA.bT q e.2).2.2.2.2 J) w8 fun q J e=>(oA.a7 q J).2.2 e
   have w9:Ext w bK:=Ext.gN (Ext.gN ((sj.trans bA).trans gd) Km fun k ae=>by omega) w8 fun k ae=>by omega
   obtain ⟨f0,f1,f2,f3⟩:=cj Zv
   rw[aW] at f2
   refine ⟨fun _=>False,id,bP,f2,(vo (B:=fun q=>bK.heap.size≤q) (ak.ext w9) (by omega) (fun q J=>J)).use ?_⟩
   rintro _ b9 ⟨t2,rfl,nT,mx,aiX⟩
   have aky:=mx.size
   refine ⟨t2,rfl,mx,bL ⟨iR _ _,(Zq (B:=Grow cX bK b9) (i:=ey n.keys key) (b4.bz (b4.ext akw mx) fun k _ h=> .inl h) (bF.bz nT fun k ae h=> .inr ⟨h,ae⟩) (fun k jQ eC=>by
     have:=(nT.2.2 k jQ).1
     have:=(lI.bv k (w7 k eC)).2.1
     omega) (by omega) (by omega)).use ?_⟩⟩
   rintro _ cJ ⟨iC,rfl,Ar,yK⟩
   have akz:=yK.size
   have Kn:ao (fun q=>lo≤q∧cX q) b9 cJ:=yK.mono fun k _ ae=>⟨(lI.bv k (w7 k ae)).1,w7 k ae⟩
   have Zw:=(Zv.ext mx).an Kn fun e=>(oA.bv _ e.2).2.2.1 rfl
   obtain ⟨s1,s2⟩:=js Zw (i:=2) (by simp)
   refine ⟨iC,rfl,?_⟩
   rw[aW,aW]
   refine ⟨s1,s2,bL ?_⟩
   obtain ⟨b2,yL⟩:∃b2,b2=cJ.setCell ⟨aK,0+2,none⟩ (.slice iC.a iC.len iC.cap):=⟨_,rfl⟩
   rw[←yL]
   have pS:ao (fun q=>q=aK) cJ b2:=by rw[yL];exact ig _ _ _ _
   have AA:Var b2 aK [.bool n.leaf, .slice S.a S.len S.cap, .slice iC.a iC.len iC.cap, .slice aP.a aP.len aP.cap] ah.cO:=by rw[yL];exact jr Zw _
   have Ko:=pS.size
   obtain ⟨Kp,aA,aE,aI⟩:=cj AA
   rw[aW] at aA aE aI
   have Fe:cd (fun q=>lo≤q) b2 (pn n key val) S iC aP:=by
     unfold pn
     rw[if_neg (by rw[cT];simp)]
     refine ⟨?_,?_,?_⟩
     · refine bZ.bz (b4.qP (b4.an (b4.an (b4.ext akv mx) Kn fun q J e=> ?_) pS fun q J e=> ?_)) fun q _ J=> ?_
       · rcases J with J|J
         · exact (oA.bT q J).2.2.2.1 e.2
         · have:=(lI.bv q e.2).2.1;omega
       · subst e
         rcases J with J|J
         · exact (oA.bT _ J).2.2.1 rfl
         · omega
       · rcases J with J|J
         · exact (oA.bT q J).1
         · omega
     · refine bZ.bz (b4.qP (b4.an Ar pS fun q J e=> ?_)) fun q _ J=> ?_
       · subst e
         rcases J with (J|J)|J
         · exact (oA.bv _ J).2.2.1 rfl
         · omega
         · omega
       · rcases J with (J|J)|J
         · exact (oA.bv q J).1
         · omega
         · omega
     · exact eo.bz (eO.Hn (eO.an (eO.an (eO.ext akx mx) Kn fun q J e=>(oA.bv q e.2).2.2.2 J) pS fun q J e=>(oA.a7 q J).2.2 e)) fun q _ J=>(oA.a7 q J).1
   have akA:(pn n key val).leaf=n.leaf:=by unfold pn;rw[if_neg (by rw[cT];simp)]
   have vB:Ext w b2:=Ext.gN (Ext.gN (w9.trans mx) Kn fun k ae=>by omega) pS fun k ae=>by omega
   have Kg:Var b2 ag.heap.size [.bool false, .slice none 0 0, .slice none 0 0, .slice none 0 0] ah.cO:=by
     have U:=Zt.ext (l1.trans gd)
     have ad:=(U.an Km (fun e=>by have:=e.1;omega)).an w8 (by omega)
     exact ((ad.ext mx).an Kn (fun e=>by have:=e.1;omega)).an pS (by omega)
   rw[aW,aW]
   refine ⟨_,Kp,S,aA,iC,aE,aP,aI,?_⟩
   have:=rD n.leaf S iC aP Kg rfl (Q:=fun b K V D aw=>Ff (pn n key val) w (.tuple #[.agg #[.bool b, .slice K.a K.len K.cap, .slice V.a V.len V.cap, .slice D.a D.len D.cap], .bool true]) aw) fun c0 gx=>⟨S,iC,aP,by unfold e9;rw[akA],(Fe.an gx fun q J e=>by omega).bz fun q _ J=>by omega,Ext.eX vB gx (by omega)⟩
   simpa only[aW] using this
end
section
def Hw (n:aM) (key:Key) (w:World) (v:Value) (w':World):Prop:=
 if pk n.keys key then Ff (yI n key) w v w' else v= .tuple #[e9 pj bU bU bU, .bool false]∧Ext w w'
theorem yM {B:Nat→Prop} {w:World} {n:aM} {K V D aG:aa} {key:Key} (h:cd B w n K V D) (aj:oq n) (aD:n.keys.length≤10000) (ae:Src 1 w aG (bn key)):
   aQ Tryz.prog F.yM #[e9 n K V D, .slice aG.a aG.len aG.cap] w (Hw n key w):=by
 have jq:=aj.len
 have lY:n.kids.length=0:=by rw[aj.kids];rfl
 refine W.akB n.leaf K V D aG w _ ?_
 (delta W.yM dx bS ai aq dN Ht aB ba nx Ki jt ee aC st dB Kj;dsimp only)
 refine cn (vs:=[.bool n.leaf, .slice K.a K.len K.cap, .slice V.a V.len V.cap, .slice D.a D.len D.cap]) rfl fun ag gh bD ky=> ?_
 refine cn (vs:=[.bool false, .slice none 0 0, .slice none 0 0, .slice none 0 0]) rfl fun aw fS cA mo=> ?_
 have pP:=bD.trans cA
 obtain ⟨cH,aT,bC,ba⟩:=cj (gh.ext cA)
 refine ⟨_,cH,K,aT,V,bC,D,ba,(rF (h.ext pP) (ae.ext pP) aj.kg (by omega)).use ?_⟩
 rintro _ aS ⟨rfl,eU⟩
 have g0:=pP.trans eU
 obtain ⟨cH,aT,bC,ba⟩:=cj (gh.ext (cA.trans eU))
 refine ⟨_,_,rfl,n.leaf,cH,eA (fun b w'=>b=false∧Ext aS w') (fun q J=>⟨fun ab=> ?_,fun ab=>⟨_,cH,K,aT,V,bC,D,ba,(nS (h.ext g0) (by omega) (by omega) (by omega)).use ?_⟩⟩) ?_⟩
 · rw[aj.leaf] at ab;cases ab
 · rintro _ bp ⟨b,rfl,gT,fB⟩
   have:=gT.2 (.inl aj)
   subst this
   exact ⟨true,rfl,J _ _ ⟨rfl,fB⟩⟩
 rintro _ bp ⟨rfl,fB⟩
 have tX:=g0.trans fB
 have Kq:=fB.size
 have CN:=eU.size
 have Zx:=fS.ext (eU.trans fB)
 refine ⟨fun ab=> ?_,fun ab=> ?_⟩
 · have ab:pk n.keys key=false:=by simpa using ab
   refine rD false bU bU bU Zx rfl (Q:=fun b K V D aw=>Hw n key w (.tuple #[.agg #[.bool b, .slice K.a K.len K.cap, .slice V.a V.len V.cap, .slice D.a D.len D.cap], .bool false]) aw) fun bH l0=> ?_
   unfold Hw
   rw[if_neg (by rw[ab];simp)]
   exact ⟨rfl,Ext.eX tX l0 (by omega)⟩
 have cT:pk n.keys key=true:=by simpa using ab
 have bd:ey n.keys key<n.keys.length:=(qA.1 (dD cT)).1
 obtain ⟨cH,aT,bC,ba⟩:=cj (gh.ext (cA.trans (eU.trans fB)))
 refine ⟨_,cH,K,aT,V,bC,D,ba,(fM (h.ext tX) (by omega) (by omega) (by omega) aj.k3.1 aj.k3.2).use ?_⟩
 rintro _ bH ⟨aU,bP,aP,cC,cX,cu,rfl,vC,lj⟩
 have qM:=tX.trans lj
 have Ox:=lj.size
 refine ⟨n.leaf,aU,bP,aP,rfl,cn (vs:=[.bool false, .slice none 0 0, .slice none 0 0, .slice none 0 0]) rfl fun a8 vk jR Kk=>⟨vk.dA rfl ?_,rfl,ek vk (us:=[.bool n.leaf, .slice aU.a aU.len aU.cap, .slice bP.a bP.len bP.cap, .slice aP.a aP.len aP.cap]) rfl rfl fun bh Hl qS Oy=> ?_⟩⟩
 · intro v ak
   simp only[gb,m4,m5] at ak
   rcases ak with rfl|rfl|rfl|rfl<;>trivial
 obtain ⟨aK,fi⟩:∃aK,aK=bH.heap.size:=⟨_,rfl⟩
 rw[←fi] at Hl qS⊢
 obtain ⟨lo,lX⟩:∃lo,lo=bp.heap.size:=⟨_,rfl⟩
 rw[←lX] at vC
 have sj:Ext w bh:=Ext.eX (qM.trans jR) qS (by omega)
 have SS:Var bh ag.heap.size [.bool false, .slice none 0 0, .slice none 0 0, .slice none 0 0] ah.cO:=((Zx.ext lj).ext jR).an qS (by omega)
 have l4:pR lo bh aK n aU bP aP cC cX cu:=by
   have sq:jU lo bh n aU bP aP cC cX cu:=(vC.ext jR).an qS fun q _ _ J e=>by
     subst e
     rcases J with J|J|J
     · have:=(vC.bT _ J).2.1;omega
     · have:=(vC.bv _ J).2.1;omega
     · have:=(vC.a7 _ J).2;omega
   refine ⟨Hl,sq.keys,sq.vals,sq.kids,fun q J=> ?_,fun q J=> ?_,fun q J=> ?_,by omega⟩
   · have U:=sq.bT q J;have:=(vC.bT q J).2.1;exact ⟨U.1,U.2.1,by omega,U.2.2⟩
   · have U:=sq.bv q J;have:=(vC.bv q J).2.1;exact ⟨U.1,U.2.1,by omega,U.2.2⟩
   · have U:=sq.a7 q J;have:=(vC.a7 q J).2;exact ⟨U.1,U.2,by omega⟩
 have kV:∀k,aO aU k→cC k:=fun k ae=>by obtain ⟨ts,_,_,au,_⟩:=l4.keys;exact (au k ae).1
 have w7:∀k,aO bP k→cX k:=fun k ae=>by obtain ⟨ts,_,_,au,_⟩:=l4.vals;exact (au k ae).1
 obtain ⟨d0,d1,d2,d3⟩:=cj l4.v
 have avO:=l4.v.lt
 rw[cz (n:=((ey n.keys key:Nat):Int)+1) (by omega) (by omega)]
 refine ⟨aU,d1,(Zs l4.keys (by omega) bd).use ?_⟩
 rintro _ bW ⟨S,rfl,ph,CG⟩
 have Kr:ao (fun q=>lo≤q∧cC q) bh bW:=CG.mono fun k _ ae=>⟨(l4.bT k (kV k ae)).1,kV k ae⟩
 have s5:=l4.v.an Kr fun e=>(l4.bT _ e.2).2.2.1 rfl
 obtain ⟨s1,s2⟩:=js s5 (i:=1) (by simp)
 refine ⟨S,rfl,?_⟩
 rw[aW,aW]
 refine ⟨s1,s2,bL ?_⟩
 obtain ⟨b6,Hu⟩:∃b6,b6=bW.setCell ⟨aK,0+1,none⟩ (.slice S.a S.len S.cap):=⟨_,rfl⟩
 rw[←Hu]
 have hA:ao (fun q=>q=aK) bW b6:=by rw[Hu];exact ig _ _ _ _
 have Zy:Var b6 aK [.bool n.leaf, .slice S.a S.len S.cap, .slice bP.a bP.len bP.cap, .slice aP.a aP.len aP.cap] ah.cO:=by rw[Hu];exact jr s5 _
 have akC:b4 cC b6 S (n.keys.take (ey n.keys key)++n.keys.drop (ey n.keys key+1)):=b4.an ph hA fun q J e=>(l4.bT q J).2.2.1 e
 have akD:b4 cX b6 bP n.vals:=b4.an (b4.an l4.vals Kr fun q J e=>(l4.bT q e.2).2.2.2.1 J) hA fun q J e=>(l4.bv q J).2.2.1 e
 have akE:eO cu b6 aP n.kids:=eO.an (eO.an l4.kids Kr fun q J e=>(l4.bT q e.2).2.2.2.2 J) hA fun q J e=>(l4.a7 q J).2.2 e
 obtain ⟨f0,f1,f2,f3⟩:=cj Zy
 rw[aW] at f2
 refine ⟨bP,f2,(Zs akD (by omega) (by omega)).use ?_⟩
 rintro _ bK ⟨iC,rfl,Ar,w8⟩
 have Ks:ao (fun q=>lo≤q∧cX q) b6 bK:=w8.mono fun k _ ae=>⟨(l4.bv k (w7 k ae)).1,w7 k ae⟩
 have Kt:=Zy.an Ks fun e=>(l4.bv _ e.2).2.2.1 rfl
 obtain ⟨s1,s2⟩:=js Kt (i:=2) (by simp)
 refine ⟨iC,rfl,?_⟩
 rw[aW,aW]
 refine ⟨s1,s2,bL ?_⟩
 obtain ⟨b9,Ku⟩:∃b9,b9=bK.setCell ⟨aK,0+2,none⟩ (.slice iC.a iC.len iC.cap):=⟨_,rfl⟩
 rw[←Ku]
 have Fg:ao (fun q=>q=aK) bK b9:=by rw[Ku];exact ig _ _ _ _
 have akF:Var b9 aK [.bool n.leaf, .slice S.a S.len S.cap, .slice iC.a iC.len iC.cap, .slice aP.a aP.len aP.cap] ah.cO:=by rw[Ku];exact jr Kt _
 obtain ⟨Kp,aA,aE,aI⟩:=cj akF
 have iO:cd (fun q=>lo≤q) b9 (yI n key) S iC aP:=by
   refine ⟨?_,?_,?_⟩
   · exact bZ.bz (b4.qP (b4.an (b4.an akC Ks fun q J e=>(l4.bT q J).2.2.2.1 e.2) Fg fun q J e=>(l4.bT q J).2.2.1 e)) fun q _ J=>(l4.bT q J).1
   · exact bZ.bz (b4.qP (b4.an Ar Fg fun q J e=>(l4.bv q J).2.2.1 e)) fun q _ J=>(l4.bv q J).1
   · exact eo.bz (eO.Hn (eO.an (eO.an akE Ks fun q J e=>(l4.bv q e.2).2.2.2 J) Fg fun q J e=>(l4.a7 q J).2.2 e)) fun q _ J=>(l4.a7 q J).1
 have sr:Ext w b9:=Ext.gN (Ext.gN (Ext.gN (Ext.gN sj Kr fun k ae=>by omega) hA fun k ae=>by omega) Ks fun k ae=>by omega) Fg fun k ae=>by omega
 have akG:Var b9 ag.heap.size [.bool false, .slice none 0 0, .slice none 0 0, .slice none 0 0] ah.cO:=
   (((SS.an Kr (fun e=>by have:=e.1;omega)).an hA (by omega)).an Ks (fun e=>by have:=e.1;omega)).an Fg (by omega)
 refine ⟨_,Kp,S,aA,iC,aE,aP,aI,rD n.leaf S iC aP akG rfl (Q:=fun b K V D aw=>Hw n key w (.tuple #[.agg #[.bool b, .slice K.a K.len K.cap, .slice V.a V.len V.cap, .slice D.a D.len D.cap], .bool true]) aw) fun cJ yK=> ?_⟩
 unfold Hw
 rw[if_pos cT]
 exact ⟨S,iC,aP,rfl,(iO.an yK fun q J e=>by omega).bz fun q _ J=>by omega,Ext.eX sr yK (by omega)⟩
theorem SU {n:aM} (aj:ef n) (m:Nat):((cellsOf n).take m).sum≤100*n.keys.length:=by
 have U:((cellsOf n).take m).sum≤(cellsOf n).sum:=by
   have:=RR (cellsOf n) m;omega
 have ad:=R8 aj n.keys.length (cV _)
 rw[gX (by rw[Hj aj];exact cV _)] at ad
 have au:=Su aj n.keys.length (cV _)
 omega
theorem s9 {B:Nat→Prop} {w:World} {n:aM} {K V D:aa} (h:cd B w n K V D) (aj:ef n) (aD:n.keys.length≤10000) {most:Nat} (hm:most≤n.keys.length):
   aQ Tryz.prog F.s9 #[e9 n K V D, .int .i64 ((most:Nat):Int)] w (fun v w'=>v= .int .i64 ((m7 (cellsOf n) most:Nat):Int)∧Ext w w'):=by
 refine W.akH n.leaf K V D ((most:Nat):Int) w _ ?_
 (delta W.s9 aq ai aB bS ee aC;dsimp only)
 refine cn (vs:=[.bool n.leaf, .slice K.a K.len K.cap, .slice V.a V.len V.cap, .slice D.a D.len D.cap]) rfl fun ag mL bD _=> ?_
 obtain ⟨cH,aT,bC,ba⟩:=cj mL
 have CE:=bZ.len h.keys
 have Cm:=Hj aj
 have kS:∀ (j:Nat) (a_:j<(cellsOf n).length),(cellsOf n)[j]=(ow n j).length:=fun j a_=>by
   have U:=R7 aj (i:=j) (by omega)
   rw[gF a_] at U
   exact Option.some.inj U
 refine ⟨K,aT,fun a i w'=>∃j:Nat,i=j∧j≤n.keys.length∧a=((((cellsOf n).take j).sum:Nat):Int)∧Ext ag w',fun _ i _=>((n.keys.length:Int)-i).toNat,⟨0,rfl,fl _,by simp, .refl _ _⟩,?_⟩
 rintro _ _ aw ⟨j,rfl,a_,rfl,cA⟩
 obtain ⟨d0,d1,d2,d3⟩:=cj (mL.ext cA)
 refine ⟨fun bd=> ?_,fun cg=> ?_⟩
 · have bd:j<n.keys.length:=by have:=dD bd;omega
   refine ⟨_,d0,K,d1,V,d2,D,d3,(s6 (h.ext (bD.trans cA)) aj bd (by omega)).use ?_⟩
   rintro _ aS ⟨s,rfl,bQ,eU,_⟩
   have az:=Ae bQ
   have ab:=SU aj j
   have al:=N9 aj bd
   have e:=G8 (l:=cellsOf n) (i:=j) (by omega)
   rw[kS j (by omega)] at e
   refine ⟨s,rfl,?_⟩
   rw[az,cz (n:=((((cellsOf n).take j).sum:Nat):Int)+(((ow n j).length:Nat):Int)) (by omega) (by omega),cz (n:=(j:Int)+1) (by omega) (by omega)]
   refine ⟨⟨j+1,by omega,by omega,by omega,cA.trans eU⟩,?_⟩
   show ((n.keys.length:Int)-((j:Int)+1)).toNat<((n.keys.length:Int)-(j:Int)).toNat
   omega
 have cg:j=n.keys.length:=by have:=eW cg;omega
 subst cg
 rw[gX (l:=cellsOf n) (by omega)]
 refine ⟨fun a i w'=>∃j:Nat,i=j∧j≤most∧a=((((cellsOf n).take j).sum:Nat):Int)∧Ext ag w'∧∀k,k<j→2*((cellsOf n).take (k+1)).sum<(cellsOf n).sum,fun _ i _=>((most:Int)-i).toNat,⟨0,rfl,fl _,by simp,cA,fun k ae=>by omega⟩,?_⟩
 rintro _ _ bp ⟨j,rfl,a_,rfl,fB,dd⟩
 obtain ⟨d0,d1,d2,d3⟩:=cj (mL.ext fB)
 have fx:=SU aj (cellsOf n).length
 rw[qB] at fx
 refine ⟨fun bd=> ?_,fun cg=> ?_⟩
 · have bd:j<most:=by have:=dD bd;omega
   refine ⟨_,d0,K,d1,V,d2,D,d3,(s6 (h.ext (bD.trans fB)) aj (by omega) (by omega)).use ?_⟩
   rintro _ bH ⟨s,rfl,bQ,lj,_⟩
   have az:=Ae bQ
   have ab:=SU aj j
   have al:=N9 aj (i:=j) (by omega)
   have e:=G8 (l:=cellsOf n) (i:=j) (by omega)
   rw[kS j (by omega)] at e
   refine ⟨s,rfl,?_⟩
   rw[az,cz (n:=((((cellsOf n).take j).sum:Nat):Int)+(((ow n j).length:Nat):Int)) (by omega) (by omega),cz (n:=2*(((((cellsOf n).take j).sum:Nat):Int)+(((ow n j).length:Nat):Int))) (by omega) (by omega),cz (n:=(j:Int)+1) (by omega) (by omega)]
   refine ⟨fun hd=>⟨?_,bD.trans (fB.trans lj)⟩,fun hd=>⟨⟨j+1,by omega,by omega,by omega,fB.trans lj,fun k ae=> ?_⟩,?_⟩⟩
   · have hd:=dD hd
     have yN:(List.range most).find? (fun i=>decide ((cellsOf n).sum≤2*((cellsOf n).take (i+1)).sum))=some j:=by
       have:=lE bd (cV most)
       rw[List.find?_eq_some_iff_append]
       refine ⟨iy (by omega),List.range j,List.range' (j+1) (most-(j+1)),?_,fun a aR=> ?_⟩
       · have aY:=List.range'_append (s:=0) (m:=j) (n:=most-(j+1)+1) (step:=1)
         rw[Nx,Nx,←List.range'_succ]
         rw[Nat.one_mul,gz] at aY
         rw[aY]
         congr 1
         omega
       · have:=dd a (wD.1 aR)
         simp;omega
     unfold m7
     rw[yN];rfl
   · have hd:=eW hd
     rcases g6 k j with U|U
     · exact dd k U
     · have:k=j:=by omega
       subst this;omega
   · show ((most:Int)-((j:Int)+1)).toNat<((most:Int)-(j:Int)).toNat
     omega
 · have cg:j=most:=by have:=eW cg;omega
   subst cg
   refine ⟨?_,bD.trans fB⟩
   have yN:(List.range j).find? (fun i=>decide ((cellsOf n).sum≤2*((cellsOf n).take (i+1)).sum))=none:=by
     rw[sd]
     intro a aR
     have:=dd a (wD.1 aR)
     simp;omega
   unfold m7
   rw[yN]
end
section
theorem bZ.sub {B:Nat→Prop} {w:World} {s:aa} {ls:List Key} {lo hi:Nat} (h:bZ B w s ls) (U:lo≤hi) (ad:hi≤ls.length):bZ B w ⟨bg s.a 1 lo s.cap,hi-lo,s.cap-lo⟩ ((ls.drop lo).take (hi-lo)):=by
 have az:=bZ.len h
 obtain ⟨ts,aA,aE,aI,aL,cQ⟩:=h
 refine ⟨(ts.drop lo).take (hi-lo),by simp[aA],?_,by show hi-lo≤s.cap-lo;omega,fun k ae=> ?_,fun i au aJ=> ?_⟩
 · have:=Src.sub aE aI U (by omega)
   simpa[GU,EE] using this
 · obtain ⟨A,ax,ab⟩:=N_ ae
   exact aL k ⟨A,ax,ab⟩
 · simp only[GW,JE]
   rw[d_,fG] at au aJ
   exact cQ (lo+i) (by omega) (by omega)
theorem bZ.le {B:Nat→Prop} {w:World} {s:aa} {ls:List Key} (h:bZ B w s ls):s.len≤s.cap:=by
 obtain ⟨ts,_,_,au,_⟩:=h
 exact au
theorem eo.sub {B:Nat→Prop} {w:World} {s:aa} {ds:List Nat} {lo hi:Nat} (h:eo B w s ds) (U:lo≤hi) (ad:hi≤ds.length):eo B w ⟨bg s.a 1 lo s.cap,hi-lo,s.cap-lo⟩ ((ds.drop lo).take (hi-lo)):=by
 have az:=eo.len h
 obtain ⟨aE,aI,aL⟩:=h
 have avP:s.len≤s.cap:=aI
 refine ⟨?_,by show hi-lo≤s.cap-lo;omega,fun k ae=> ?_⟩
 · have:=Src.sub aE aI U (by omega)
   simpa[gU,GU,EE] using this
 · obtain ⟨A,ax,ab⟩:=N_ ae
   exact aL k ⟨A,ax,ab⟩
theorem lJ (b:Bool) (K V D:aa):∀v∈([.bool b, .slice K.a K.len K.cap, .slice V.a V.len V.cap, .slice D.a D.len D.cap]:List Value),Plain v:=by
 intro v ak
 simp only[gb,m4,m5] at ak
 rcases ak with rfl|rfl|rfl|rfl<;>trivial
theorem Hx {ln:World} {bI aq:Nat} {SV SW:List Value} {c3 cG:Bool} {dZ eE eF c9 df dv:aa} (U:Var ln bI SV ah.cO) (ad:Var ln aq SW ah.cO) (qT:SV.length=4) (qU:SW.length=4) (c4:bI≠aq) {W:Nat→Prop} (dq:∀q,q=bI→W q)
   {Q:Bool→aa→aa→aa→Bool→aa→aa→aa→World→Prop} (yA:∀jG,ao (fun q=>q=bI∨q=aq) ln jG→Q c3 dZ eE eF cG c9 df dv jG):
   cZ ln ⟨bI,0,none⟩ [.bool c3, .slice dZ.a dZ.len dZ.cap, .slice eE.a eE.len eE.cap, .slice eF.a eF.len eF.cap]∧(4:Nat)=4∧ay (setCells ln ⟨bI,0,none⟩ 0 [.bool c3, .slice dZ.a dZ.len dZ.cap, .slice eE.a eE.len eE.cap, .slice eF.a eF.len eF.cap]) fun lp=>
     ao W ln lp∧cZ lp ⟨aq,0,none⟩ [.bool cG, .slice c9.a c9.len c9.cap, .slice df.a df.len df.cap, .slice dv.a dv.len dv.cap]∧(4:Nat)=4∧ay (setCells lp ⟨aq,0,none⟩ 0 [.bool cG, .slice c9.a c9.len c9.cap, .slice df.a df.len df.cap, .slice dv.a dv.len dv.cap]) fun jG=>
     ∃Oz:Bool,jG.cell? ⟨bI,0,none⟩=some (.bool Oz)∧∃qj:aa,jG.cell? (Addr.add ⟨bI,0,none⟩ 1)=some (.slice qj.a qj.len qj.cap)∧∃kD:aa,jG.cell? (Addr.add ⟨bI,0,none⟩ 2)=some (.slice kD.a kD.len kD.cap)∧∃pT:aa,jG.cell? (Addr.add ⟨bI,0,none⟩ 3)=some (.slice pT.a pT.len pT.cap)∧
     ∃qV:Bool,jG.cell? ⟨aq,0,none⟩=some (.bool qV)∧∃iS:aa,jG.cell? (Addr.add ⟨aq,0,none⟩ 1)=some (.slice iS.a iS.len iS.cap)∧∃g1:aa,jG.cell? (Addr.add ⟨aq,0,none⟩ 2)=some (.slice g1.a g1.len g1.cap)∧∃g2:aa,jG.cell? (Addr.add ⟨aq,0,none⟩ 3)=some (.slice g2.a g2.len g2.cap)∧Q Oz qj kD pT qV iS g1 g2 jG:=by
 refine ⟨U.dA (by rw[qT];rfl) (lJ _ _ _ _),rfl,ek U (us:=[.bool c3, .slice dZ.a dZ.len dZ.cap, .slice eE.a eE.len eE.cap, .slice eF.a eF.len eF.cap]) (by rw[qT];rfl) rfl fun lp mL iN _=> ?_⟩
 have Fh:=ad.an iN (fun e=>c4 e.symm)
 refine ⟨iN.mono fun q _ h=>dq q h,Fh.dA (by rw[qU];rfl) (lJ _ _ _ _),rfl,ek Fh (us:=[.bool cG, .slice c9.a c9.len c9.cap, .slice df.a df.len df.cap, .slice dv.a dv.len dv.cap]) (by rw[qU];rfl) rfl fun jG gM dY _=> ?_⟩
 obtain ⟨cH,aT,bC,ba⟩:=cj (mL.an dY c4)
 obtain ⟨d0,d1,d2,d3⟩:=cj gM
 exact ⟨c3,cH,dZ,aT,eE,bC,eF,ba,cG,d0,c9,d1,df,d2,dv,d3,yA jG ((iN.mono fun q _ h=> .inl h).trans (dY.mono fun q _ h=> .inr h))⟩
def Fi (n:aM) (w:World) (v:Value) (w':World):Prop:=
 ∃ (dZ eE eF c9 df dv t:aa),v= .tuple #[e9 (n.left (dr n)) dZ eE eF, .slice t.a t.len t.cap,e9 (n.right (dr n)) c9 df dv, .bool true]∧
   cd (fun q=>w.heap.size≤q) w' (n.left (dr n)) dZ eE eF∧cd (fun q=>w.heap.size≤q) w' (n.right (dr n)) c9 df dv∧bF (fun q=>w.heap.size≤q) w' t (n.keys.getD (dr n) [])∧Ext w w'
theorem yO {B:Nat→Prop} {w:World} {n:aM} {K V D:aa} (h:cd B w n K V D) (aj:ef n) (aD:n.keys.length≤10000) (hT:1≤dr n)
   (fv:if n.leaf then dr n≤n.keys.length-1∧1≤n.keys.length-1 else dr n≤n.keys.length-2∧1≤n.keys.length-2):
   aQ Tryz.prog F.yO #[e9 n K V D] w (Fi n w):=by
 have jq:n.vals.length≤10000:=by
   rcases aj with aj|aj
   · rw[aj.len];omega
   · rw[aj.vals];simp
 have lY:n.kids.length≤10001:=by
   rcases aj with aj|aj
   · rw[aj.kids];simp
   · rw[aj.len];omega
 have fp:∀k∈n.keys,k.length≤100000:=fun k ae=>by have:=(aj.keys.ok k ae).2;omega
 have CO:∀k∈n.vals,k.length≤100000:=fun k ae=>by have:=aj.vals k ae;omega
 have CE:=bZ.len h.keys
 obtain ⟨most,CP⟩:∃most,most=if n.leaf then n.keys.length-1 else n.keys.length-2:=⟨_,rfl⟩
 have iD:1≤most∧most≤n.keys.length∧dr n≤most:=by
   rw[CP]
   cases az:n.leaf<;>rw[az] at fv<;>simp at fv⊢<;>omega
 have vD:dr n<n.keys.length:=by
   cases az:n.leaf<;>rw[az] at fv<;>simp at fv<;>omega
 refine W.akI n.leaf K V D w _ ?_
 (delta W.yO dx aq ai bS aB aC ba jt aT a7 ee lq;dsimp only)
 refine cn (vs:=[.bool n.leaf, .slice K.a K.len K.cap, .slice V.a V.len V.cap, .slice D.a D.len D.cap]) rfl fun ag gh bD m8=> ?_
 refine cn (vs:=[.bool false, .slice none 0 0, .slice none 0 0, .slice none 0 0]) rfl fun aw lk cA vi=> ?_
 refine cn (vs:=[.bool false, .slice none 0 0, .slice none 0 0, .slice none 0 0]) rfl fun aS fS eU CN=> ?_
 have g0:=bD.trans (cA.trans eU)
 obtain ⟨cH,aT,bC,ba⟩:=cj ((gh.ext cA).ext eU)
 refine ⟨K,aT,eA (fun m w'=>m=((most:Nat):Int)∧aS=w') (fun q J=>⟨n.leaf,cH,fun ab=>J _ _ ⟨?_,rfl⟩,fun ab=>J _ _ ⟨?_,rfl⟩⟩) ?_⟩
 · have ab:n.leaf=false:=by simpa using ab
   rw[ab] at fv CP
   simp at fv CP
   rw[cz (n:=((K.len:Nat):Int)-1) (by omega) (by omega),cz (by omega) (by omega)]
   omega
 · have ab:n.leaf=true:=by simpa using ab
   rw[ab] at fv CP
   simp at fv CP
   rw[cz (by omega) (by omega)]
   omega
 rintro _ _ ⟨rfl,rfl⟩
 refine ⟨_,cH,K,aT,V,bC,D,ba,(nS (h.ext g0) (by omega) (by omega) (by omega)).use ?_⟩
 rintro _ bp ⟨b,rfl,ab,fB⟩
 have Sv:=ab.2 aj
 subst Sv
 have bA:=dL bp
 have qM:=g0.trans (fB.trans bA)
 have OA:=((gh.ext cA).ext eU).ext (fB.trans bA)
 have SX:=(lk.ext eU).ext (fB.trans bA)
 have SY:=fS.ext (fB.trans bA)
 have Ox:=(fB.trans bA).size
 obtain ⟨cH,aT,bC,ba⟩:=cj OA
 refine ⟨true,rfl,fun h=> ?_,fun _=>bL ⟨fun _=>False,id,_,cH,K,aT,V,bC,D,ba,id,_,cH,K,aT,V,bC,D,ba,⟨?_,?_⟩⟩⟩
 · simp only[Bool.not_true,EK] at h
   have:=dD h;omega
 · refine (fM (h.ext qM) (by omega) (by omega) (by omega) fp CO).use ?_
   rintro _ a8 ⟨aU,bP,aP,cC,cX,cu,rfl,lI,jR⟩
   refine ⟨n.leaf,aU,bP,aP,rfl,jR,⟨?_,?_⟩⟩
   · refine (s9 (h.ext (qM.trans jR)) aj aD (most:=most) iD.2.1).use ?_
     rintro _ bh ⟨rfl,fe⟩
     refine ⟨_,rfl,fe,cn (vs:=[.bool false, .slice none 0 0, .slice none 0 0, .slice none 0 0]) rfl fun bW s5 gd E_=>⟨gd,s5.dA rfl (lJ _ _ _ _),rfl,ek s5 (us:=[.bool n.leaf, .slice aU.a aU.len aU.cap, .slice bP.a bP.len bP.cap, .slice aP.a aP.len aP.cap]) rfl rfl fun b6 oV hA Hv=> ?_⟩⟩
     have Ov:=jR.size
     have CL:=fe.size
     obtain ⟨aK,fi⟩:∃aK,aK=bh.heap.size:=⟨_,rfl⟩
     rw[←fi] at oV hA⊢
     have s_:=jR.trans (fe.trans gd)
     have w_:jU bp.heap.size b6 n aU bP aP cC cX cu:=(lI.ext (fe.trans gd)).an hA fun q _ _ J e=>by
       subst e
       rcases J with J|J|J
       · have:=(lI.bT _ J).2.1;omega
       · have:=(lI.bv _ J).2.1;omega
       · have:=(lI.a7 _ J).2;omega
     have Zz:bp.drew.heap.size=bp.heap.size:=rfl
     have ta:Ext w b6:=Ext.eX (qM.trans s_) hA (by omega)
     have CQ:=(OA.ext s_).an hA (by omega)
     have CR:=(SX.ext s_).an hA (by omega)
     have CS:=(SY.ext s_).an hA (by omega)
     have Kv:m7 (cellsOf n) most=dr n:=by unfold dr;rw[CP]
     rw[Kv]
     obtain ⟨i,hi⟩:∃i,i=dr n:=⟨_,rfl⟩
     rw[←hi] at vD iD hT
     rw[←hi]
     obtain ⟨gk,aY,bo,en⟩:=cj CQ
     obtain ⟨A,t,ax,gT,al,aV,_⟩:=bZ.at (h.ext ta).keys vD
     refine ⟨K,aY,A,ax,gT,t,al,(vo (B:=fun q=>w.heap.size≤q) aV.1 (by have:=fp _ (fg vD);omega) (fun q J=>jb ta.size J)).use ?_⟩
     rintro _ bK ⟨aG,rfl,lG,kj,CT⟩
     have l1:=dL bK
     obtain ⟨gk,aY,bo,en⟩:=cj (CQ.ext kj)
     have kW:=kj.trans l1
     obtain ⟨f0,f1,f2,f3⟩:=cj (oV.ext kW)
     have iO:=w_.at.ext kW
     have ZA:=bZ.len iO.keys
     have OB:=bZ.len iO.vals
     have ZB:=eo.len iO.kids
     have ZC:=bZ.le (b4.qP w_.keys)
     have ZD:=bZ.le (b4.qP w_.vals)
     have ZE:aP.len≤aP.cap:=iO.kids.2.1
     have ZF:b6.heap.size≤bK.heap.size:=kj.size
     have vE:n.keys.getD i []=n.keys[i]:=oy vD
     refine ⟨aG,rfl,n.leaf,gk,fun az=>bL ⟨fun q=>q=ag.heap.size,fun e=> ?_,aU,f1,⟨by omega,by omega⟩,fun e=> ?_,bP,f2,⟨by omega,?_⟩, #[.bool true, .slice (bg aU.a 1 0 aU.cap) i aU.cap, .slice (bg bP.a 1 0 bP.cap) i bP.cap, .slice none 0 0],(fun w=>by kernel_rfl),fun e=> ?_,aU,f1,⟨by omega,by omega⟩,fun e=> ?_,bP,f2,⟨by omega,?_⟩, #[.bool true, .slice (bg aU.a 1 i aU.cap) (aU.len-i) (aU.cap-i), .slice (bg bP.a 1 i bP.cap) (bP.len-i) (bP.cap-i), .slice none 0 0],(fun w=>by kernel_rfl),?_⟩,fun az=> ?_⟩
     · rw[aW] at e;have e:aK=ag.heap.size:=e;omega
     · rw[aW] at e;have e:aK=ag.heap.size:=e;omega
     · have:=aj.wQ az;omega
     · rw[aW] at e;have e:aK=ag.heap.size:=e;omega
     · rw[aW] at e;have e:aK=ag.heap.size:=e;omega
     · have:=aj.wQ az;omega
     · have Kw:=aj.wQ az
       have dz:n.left i=⟨true,n.keys.take i,n.vals.take i,[]⟩:=by unfold aM.left;rw[az];rfl
       have c8:n.right i=⟨true,n.keys.drop i,n.vals.drop i,[]⟩:=by unfold aM.right;rw[az];rfl
       have xa:cd (fun q=>bp.heap.size≤q) bK.drew (n.left i) ⟨bg aU.a 1 0 aU.cap,i,aU.cap⟩ ⟨bg bP.a 1 0 bP.cap,i,bP.cap⟩ bU:=by
         rw[dz]
         refine ⟨?_,?_,eo.none _ _⟩
         · have:=bZ.sub iO.keys (lo:=0) (hi:=i) (by omega) (by omega)
           simpa using this
         · have:=bZ.sub iO.vals (lo:=0) (hi:=i) (by omega) (by omega)
           simpa using this
       have xb:cd (fun q=>bp.heap.size≤q) bK.drew (n.right i) ⟨bg aU.a 1 i aU.cap,aU.len-i,aU.cap-i⟩ ⟨bg bP.a 1 i bP.cap,bP.len-i,bP.cap-i⟩ bU:=by
         rw[c8]
         refine ⟨?_,?_,eo.none _ _⟩
         · have:=bZ.sub iO.keys (lo:=i) (hi:=aU.len) (by omega) (by omega)
           rwa[gX (by rw[fG];omega)] at this
         · have:=bZ.sub iO.vals (lo:=i) (hi:=bP.len) (by omega) (by omega)
           rwa[gX (by rw[fG];omega)] at this
       have xc:=fM xa (by rw[dz];show (n.keys.take i).length≤_;rw[d_];omega) (by rw[dz];show (n.vals.take i).length≤_;rw[d_];omega) (by rw[dz];simp) (by rw[dz];exact fun k ae=>fp k (kM ae)) (by rw[dz];exact fun k ae=>CO k (kM ae))
       have xd:(.agg #[.bool true, .slice (bg aU.a 1 0 aU.cap) i aU.cap, .slice (bg bP.a 1 0 bP.cap) i bP.cap, .slice none 0 0]:Value)=e9 (n.left i) ⟨bg aU.a 1 0 aU.cap,i,aU.cap⟩ ⟨bg bP.a 1 0 bP.cap,i,bP.cap⟩ bU:=by rw[dz];rfl
       have xe:(.agg #[.bool true, .slice (bg aU.a 1 i aU.cap) (aU.len-i) (aU.cap-i), .slice (bg bP.a 1 i bP.cap) (bP.len-i) (bP.cap-i), .slice none 0 0]:Value)=e9 (n.right i) ⟨bg aU.a 1 i aU.cap,aU.len-i,aU.cap-i⟩ ⟨bg bP.a 1 i bP.cap,bP.len-i,bP.cap-i⟩ bU:=by rw[c8];rfl
       rw[xd,xe]
       refine xc.use ?_
       rintro _ cJ ⟨dZ,eE,eF,AG,Kx,Ky,rfl,xf,hV⟩
       have xg:=fM (xb.ext hV) (by rw[c8];show (n.keys.drop i).length≤_;rw[fG];omega) (by rw[c8];show (n.vals.drop i).length≤_;rw[fG];omega) (by rw[c8];simp) (by rw[c8];exact fun k ae=>fp k (kx ae)) (by rw[c8];exact fun k ae=>CO k (kx ae))
       refine ⟨_,dZ,eE,eF,rfl,ao.eQ hV,xg.use ?_⟩
       rintro _ b2 ⟨c9,df,dv,s7,AF,Kz,rfl,xh,jH⟩
       have lK:=hV.trans jH
       have uf:=hV.size
       have KA:=kW.size
       refine ⟨_,c9,df,dv,rfl,ao.eQ jH,Hx (c3:=(n.left i).leaf) (cG:=(n.right i).leaf) (dZ:=dZ) (eE:=eE) (eF:=eF) (c9:=c9) (df:=df) (dv:=dv) ((CR.ext kW).ext lK) ((CS.ext kW).ext lK) rfl rfl (by omega) (fun q J=>J) (Q:=fun c3 dZ eE eF cG c9 df dv w'=>Fi n w (.tuple #[.agg #[.bool c3, .slice dZ.a dZ.len dZ.cap, .slice eE.a eE.len eE.cap, .slice eF.a eF.len eF.cap], .slice aG.a aG.len aG.cap, .agg #[.bool cG, .slice c9.a c9.len c9.cap, .slice df.a df.len df.cap, .slice dv.a dv.len dv.cap], .bool true]) w') fun c0 gx=> ?_⟩
       have xi:bK.drew.heap.size=bK.heap.size:=rfl
       refine ⟨dZ,eE,eF,c9,df,dv,aG,by rw[←hi];rfl,?_,?_,?_,?_⟩
       · rw[←hi];exact ((xf.at.ext jH).an gx fun q J e=>by omega).bz fun q _ J=>by omega
       · rw[←hi];exact (xh.at.an gx fun q J e=>by omega).bz fun q _ J=>by omega
       · rw[←hi,vE]
         have gg:∀q,aO aG q→b6.heap.size≤q:=CT
         exact bF.qO (bF.ext (bF.ext lG l1) lK) gx fun q J e=>by have:=gg q J;omega
       · exact Ext.gN (ta.trans (kW.trans lK)) gx fun q J=>by omega
     · have Kw:=aj.Hp az
       have ZG:i≤n.keys.length-2∧1≤n.keys.length-2:=by rw[az,←hi] at fv;simpa using fv
       have KB:IntKind.wrap .i64 ((i:Int)+1)=((i+1:Nat):Int):=by rw[cz (by omega) (by omega)];rfl
       rw[KB]
       refine bL ⟨fun q=>q=ag.heap.size,fun e=> ?_,aU,f1,⟨by omega,by omega⟩,fun e=> ?_,aP,f3,⟨by omega,by omega⟩, #[.bool false, .slice (bg aU.a 1 0 aU.cap) i aU.cap, .slice none 0 0, .slice (bg aP.a 1 0 aP.cap) (i+1) aP.cap],(fun w=>by kernel_rfl),fun e=> ?_,aU,f1,⟨by omega,by omega⟩,fun e=> ?_,aP,f3,⟨by omega,by omega⟩, #[.bool false, .slice (bg aU.a 1 (i+1) aU.cap) (aU.len-(i+1)) (aU.cap-(i+1)), .slice none 0 0, .slice (bg aP.a 1 (i+1) aP.cap) (aP.len-(i+1)) (aP.cap-(i+1))],(fun w=>by kernel_rfl),?_⟩
       · rw[aW] at e;have e:aK=ag.heap.size:=e;omega
       · rw[aW] at e;have e:aK=ag.heap.size:=e;omega
       · rw[aW] at e;have e:aK=ag.heap.size:=e;omega
       · rw[aW] at e;have e:aK=ag.heap.size:=e;omega
       have dz:n.left i=⟨false,n.keys.take i,[],n.kids.take (i+1)⟩:=by unfold aM.left;rw[az];rfl
       have c8:n.right i=⟨false,n.keys.drop (i+1),[],n.kids.drop (i+1)⟩:=by unfold aM.right;rw[az];rfl
       have xa:cd (fun q=>bp.heap.size≤q) bK.drew (n.left i) ⟨bg aU.a 1 0 aU.cap,i,aU.cap⟩ bU ⟨bg aP.a 1 0 aP.cap,i+1,aP.cap⟩:=by
         rw[dz]
         refine ⟨?_,bZ.none _ _,?_⟩
         · have:=bZ.sub iO.keys (lo:=0) (hi:=i) (by omega) (by omega)
           simpa using this
         · have:=eo.sub iO.kids (lo:=0) (hi:=i+1) (by omega) (by omega)
           simpa using this
       have xb:cd (fun q=>bp.heap.size≤q) bK.drew (n.right i) ⟨bg aU.a 1 (i+1) aU.cap,aU.len-(i+1),aU.cap-(i+1)⟩ bU ⟨bg aP.a 1 (i+1) aP.cap,aP.len-(i+1),aP.cap-(i+1)⟩:=by
         rw[c8]
         refine ⟨?_,bZ.none _ _,?_⟩
         · have:=bZ.sub iO.keys (lo:=i+1) (hi:=aU.len) (by omega) (by omega)
           rwa[gX (by rw[fG];omega)] at this
         · have:=eo.sub iO.kids (lo:=i+1) (hi:=aP.len) (by omega) (by omega)
           rwa[gX (by rw[fG];omega)] at this
       have xc:=fM xa (by rw[dz];show (n.keys.take i).length≤_;rw[d_];omega) (by rw[dz];simp) (by rw[dz];show (n.kids.take (i+1)).length≤_;rw[d_];omega) (by rw[dz];exact fun k ae=>fp k (kM ae)) (by rw[dz];simp)
       have xd:(.agg #[.bool false, .slice (bg aU.a 1 0 aU.cap) i aU.cap, .slice none 0 0, .slice (bg aP.a 1 0 aP.cap) (i+1) aP.cap]:Value)=e9 (n.left i) ⟨bg aU.a 1 0 aU.cap,i,aU.cap⟩ bU ⟨bg aP.a 1 0 aP.cap,i+1,aP.cap⟩:=by rw[dz];rfl
       have xe:(.agg #[.bool false, .slice (bg aU.a 1 (i+1) aU.cap) (aU.len-(i+1)) (aU.cap-(i+1)), .slice none 0 0, .slice (bg aP.a 1 (i+1) aP.cap) (aP.len-(i+1)) (aP.cap-(i+1))]:Value)=e9 (n.right i) ⟨bg aU.a 1 (i+1) aU.cap,aU.len-(i+1),aU.cap-(i+1)⟩ bU ⟨bg aP.a 1 (i+1) aP.cap,aP.len-(i+1),aP.cap-(i+1)⟩:=by rw[c8];rfl
       rw[xd,xe]
       refine xc.use ?_
       rintro _ cJ ⟨dZ,eE,eF,AG,Kx,Ky,rfl,xf,hV⟩
       have xg:=fM (xb.ext hV) (by rw[c8];show (n.keys.drop (i+1)).length≤_;rw[fG];omega) (by rw[c8];simp) (by rw[c8];show (n.kids.drop (i+1)).length≤_;rw[fG];omega) (by rw[c8];exact fun k ae=>fp k (kx ae)) (by rw[c8];simp)
       refine ⟨_,dZ,eE,eF,rfl,ao.eQ hV,xg.use ?_⟩
       rintro _ b2 ⟨c9,df,dv,s7,AF,Kz,rfl,xh,jH⟩
       have lK:=hV.trans jH
       have uf:=hV.size
       have KA:=kW.size
       refine ⟨_,c9,df,dv,rfl,ao.eQ jH,Hx (c3:=(n.left i).leaf) (cG:=(n.right i).leaf) (dZ:=dZ) (eE:=eE) (eF:=eF) (c9:=c9) (df:=df) (dv:=dv) ((CR.ext kW).ext lK) ((CS.ext kW).ext lK) rfl rfl (by omega) (fun q J=>J) (Q:=fun c3 dZ eE eF cG c9 df dv w'=>Fi n w (.tuple #[.agg #[.bool c3, .slice dZ.a dZ.len dZ.cap, .slice eE.a eE.len eE.cap, .slice eF.a eF.len eF.cap], .slice aG.a aG.len aG.cap, .agg #[.bool cG, .slice c9.a c9.len c9.cap, .slice df.a df.len df.cap, .slice dv.a dv.len dv.cap], .bool true]) w') fun c0 gx=> ?_⟩
       have xi:bK.drew.heap.size=bK.heap.size:=rfl
       refine ⟨dZ,eE,eF,c9,df,dv,aG,by rw[←hi];rfl,?_,?_,?_,?_⟩
       · rw[←hi];exact ((xf.at.ext jH).an gx fun q J e=>by omega).bz fun q _ J=>by omega
       · rw[←hi];exact (xh.at.an gx fun q J e=>by omega).bz fun q _ J=>by omega
       · rw[←hi,vE]
         have gg:∀q,aO aG q→b6.heap.size≤q:=CT
         exact bF.qO (bF.ext (bF.ext lG l1) lK) gx fun q J e=>by have:=gg q J;omega
       · exact Ext.gN (ta.trans (kW.trans lK)) gx fun q J=>by omega
   · refine cn (vs:=[.bool false, .slice none 0 0, .slice none 0 0, .slice none 0 0]) rfl fun bh Hl fe avQ=>⟨fe,?_⟩
     refine (s9 (h.ext (qM.trans (jR.trans fe))) aj aD (most:=most) iD.2.1).use ?_
     rintro _ bW ⟨rfl,gd⟩
     have s5:=Hl.ext gd
     refine ⟨_,rfl,gd,s5.dA rfl (lJ _ _ _ _),rfl,ek s5 (us:=[.bool n.leaf, .slice aU.a aU.len aU.cap, .slice bP.a bP.len bP.cap, .slice aP.a aP.len aP.cap]) rfl rfl fun b6 oV hA Hv=> ?_⟩
     have Ov:=jR.size
     have E_:=gd.size
     obtain ⟨aK,fi⟩:∃aK,aK=a8.heap.size:=⟨_,rfl⟩
     rw[←fi] at oV hA⊢
     have s_:=jR.trans (fe.trans gd)
     have w_:jU bp.heap.size b6 n aU bP aP cC cX cu:=(lI.ext (fe.trans gd)).an hA fun q _ _ J e=>by
       subst e
       rcases J with J|J|J
       · have:=(lI.bT _ J).2.1;omega
       · have:=(lI.bv _ J).2.1;omega
       · have:=(lI.a7 _ J).2;omega
     have Zz:bp.drew.heap.size=bp.heap.size:=rfl
     have ta:Ext w b6:=Ext.eX (qM.trans s_) hA (by omega)
     have CQ:=(OA.ext s_).an hA (by omega)
     have CR:=(SX.ext s_).an hA (by omega)
     have CS:=(SY.ext s_).an hA (by omega)
     have Kv:m7 (cellsOf n) most=dr n:=by unfold dr;rw[CP]
     rw[Kv]
     obtain ⟨i,hi⟩:∃i,i=dr n:=⟨_,rfl⟩
     rw[←hi] at vD iD hT
     rw[←hi]
     obtain ⟨gk,aY,bo,en⟩:=cj CQ
     obtain ⟨A,t,ax,gT,al,aV,_⟩:=bZ.at (h.ext ta).keys vD
     refine ⟨K,aY,A,ax,gT,t,al,(vo (B:=fun q=>w.heap.size≤q) aV.1 (by have:=fp _ (fg vD);omega) (fun q J=>jb ta.size J)).use ?_⟩
     rintro _ bK ⟨aG,rfl,lG,kj,CT⟩
     have l1:=dL bK
     obtain ⟨gk,aY,bo,en⟩:=cj (CQ.ext kj)
     have kW:=kj.trans l1
     obtain ⟨f0,f1,f2,f3⟩:=cj (oV.ext kW)
     have iO:=w_.at.ext kW
     have ZA:=bZ.len iO.keys
     have OB:=bZ.len iO.vals
     have ZB:=eo.len iO.kids
     have ZC:=bZ.le (b4.qP w_.keys)
     have ZD:=bZ.le (b4.qP w_.vals)
     have ZE:aP.len≤aP.cap:=iO.kids.2.1
     have ZF:b6.heap.size≤bK.heap.size:=kj.size
     have vE:n.keys.getD i []=n.keys[i]:=oy vD
     refine ⟨aG,rfl,n.leaf,gk,fun az=>bL ⟨fun q=>q=ag.heap.size,fun e=> ?_,aU,f1,⟨by omega,by omega⟩,fun e=> ?_,bP,f2,⟨by omega,?_⟩, #[.bool true, .slice (bg aU.a 1 0 aU.cap) i aU.cap, .slice (bg bP.a 1 0 bP.cap) i bP.cap, .slice none 0 0],(fun w=>by kernel_rfl),fun e=> ?_,aU,f1,⟨by omega,by omega⟩,fun e=> ?_,bP,f2,⟨by omega,?_⟩, #[.bool true, .slice (bg aU.a 1 i aU.cap) (aU.len-i) (aU.cap-i), .slice (bg bP.a 1 i bP.cap) (bP.len-i) (bP.cap-i), .slice none 0 0],(fun w=>by kernel_rfl),?_⟩,fun az=> ?_⟩
     · rw[aW] at e;have e:aK=ag.heap.size:=e;omega
     · rw[aW] at e;have e:aK=ag.heap.size:=e;omega
     · have:=aj.wQ az;omega
     · rw[aW] at e;have e:aK=ag.heap.size:=e;omega
     · rw[aW] at e;have e:aK=ag.heap.size:=e;omega
     · have:=aj.wQ az;omega
     · have Kw:=aj.wQ az
       have dz:n.left i=⟨true,n.keys.take i,n.vals.take i,[]⟩:=by unfold aM.left;rw[az];rfl
       have c8:n.right i=⟨true,n.keys.drop i,n.vals.drop i,[]⟩:=by unfold aM.right;rw[az];rfl
       have xa:cd (fun q=>bp.heap.size≤q) bK.drew (n.left i) ⟨bg aU.a 1 0 aU.cap,i,aU.cap⟩ ⟨bg bP.a 1 0 bP.cap,i,bP.cap⟩ bU:=by
         rw[dz]
         refine ⟨?_,?_,eo.none _ _⟩
         · have:=bZ.sub iO.keys (lo:=0) (hi:=i) (by omega) (by omega)
           simpa using this
         · have:=bZ.sub iO.vals (lo:=0) (hi:=i) (by omega) (by omega)
           simpa using this
       have xb:cd (fun q=>bp.heap.size≤q) bK.drew (n.right i) ⟨bg aU.a 1 i aU.cap,aU.len-i,aU.cap-i⟩ ⟨bg bP.a 1 i bP.cap,bP.len-i,bP.cap-i⟩ bU:=by
         rw[c8]
         refine ⟨?_,?_,eo.none _ _⟩
         · have:=bZ.sub iO.keys (lo:=i) (hi:=aU.len) (by omega) (by omega)
           rwa[gX (by rw[fG];omega)] at this
         · have:=bZ.sub iO.vals (lo:=i) (hi:=bP.len) (by omega) (by omega)
           rwa[gX (by rw[fG];omega)] at this
       have xc:=fM xa (by rw[dz];show (n.keys.take i).length≤_;rw[d_];omega) (by rw[dz];show (n.vals.take i).length≤_;rw[d_];omega) (by rw[dz];simp) (by rw[dz];exact fun k ae=>fp k (kM ae)) (by rw[dz];exact fun k ae=>CO k (kM ae))
       have xd:(.agg #[.bool true, .slice (bg aU.a 1 0 aU.cap) i aU.cap, .slice (bg bP.a 1 0 bP.cap) i bP.cap, .slice none 0 0]:Value)=e9 (n.left i) ⟨bg aU.a 1 0 aU.cap,i,aU.cap⟩ ⟨bg bP.a 1 0 bP.cap,i,bP.cap⟩ bU:=by rw[dz];rfl
       have xe:(.agg #[.bool true, .slice (bg aU.a 1 i aU.cap) (aU.len-i) (aU.cap-i), .slice (bg bP.a 1 i bP.cap) (bP.len-i) (bP.cap-i), .slice none 0 0]:Value)=e9 (n.right i) ⟨bg aU.a 1 i aU.cap,aU.len-i,aU.cap-i⟩ ⟨bg bP.a 1 i bP.cap,bP.len-i,bP.cap-i⟩ bU:=by rw[c8];rfl
       rw[xd,xe]
       refine xc.use ?_
       rintro _ cJ ⟨dZ,eE,eF,AG,Kx,Ky,rfl,xf,hV⟩
       have xg:=fM (xb.ext hV) (by rw[c8];show (n.keys.drop i).length≤_;rw[fG];omega) (by rw[c8];show (n.vals.drop i).length≤_;rw[fG];omega) (by rw[c8];simp) (by rw[c8];exact fun k ae=>fp k (kx ae)) (by rw[c8];exact fun k ae=>CO k (kx ae))
       refine ⟨_,dZ,eE,eF,rfl,ao.eQ hV,xg.use ?_⟩
       rintro _ b2 ⟨c9,df,dv,s7,AF,Kz,rfl,xh,jH⟩
       have lK:=hV.trans jH
       have uf:=hV.size
       have KA:=kW.size
       refine ⟨_,c9,df,dv,rfl,ao.eQ jH,Hx (c3:=(n.left i).leaf) (cG:=(n.right i).leaf) (dZ:=dZ) (eE:=eE) (eF:=eF) (c9:=c9) (df:=df) (dv:=dv) ((CR.ext kW).ext lK) ((CS.ext kW).ext lK) rfl rfl (by omega) (fun q J=>J) (Q:=fun c3 dZ eE eF cG c9 df dv w'=>Fi n w (.tuple #[.agg #[.bool c3, .slice dZ.a dZ.len dZ.cap, .slice eE.a eE.len eE.cap, .slice eF.a eF.len eF.cap], .slice aG.a aG.len aG.cap, .agg #[.bool cG, .slice c9.a c9.len c9.cap, .slice df.a df.len df.cap, .slice dv.a dv.len dv.cap], .bool true]) w') fun c0 gx=> ?_⟩
       have xi:bK.drew.heap.size=bK.heap.size:=rfl
       refine ⟨dZ,eE,eF,c9,df,dv,aG,by rw[←hi];rfl,?_,?_,?_,?_⟩
       · rw[←hi];exact ((xf.at.ext jH).an gx fun q J e=>by omega).bz fun q _ J=>by omega
       · rw[←hi];exact (xh.at.an gx fun q J e=>by omega).bz fun q _ J=>by omega
       · rw[←hi,vE]
         have gg:∀q,aO aG q→b6.heap.size≤q:=CT
         exact bF.qO (bF.ext (bF.ext lG l1) lK) gx fun q J e=>by have:=gg q J;omega
       · exact Ext.gN (ta.trans (kW.trans lK)) gx fun q J=>by omega
     · have Kw:=aj.Hp az
       have ZG:i≤n.keys.length-2∧1≤n.keys.length-2:=by rw[az,←hi] at fv;simpa using fv
       have KB:IntKind.wrap .i64 ((i:Int)+1)=((i+1:Nat):Int):=by rw[cz (by omega) (by omega)];rfl
       rw[KB]
       refine bL ⟨fun q=>q=ag.heap.size,fun e=> ?_,aU,f1,⟨by omega,by omega⟩,fun e=> ?_,aP,f3,⟨by omega,by omega⟩, #[.bool false, .slice (bg aU.a 1 0 aU.cap) i aU.cap, .slice none 0 0, .slice (bg aP.a 1 0 aP.cap) (i+1) aP.cap],(fun w=>by kernel_rfl),fun e=> ?_,aU,f1,⟨by omega,by omega⟩,fun e=> ?_,aP,f3,⟨by omega,by omega⟩, #[.bool false, .slice (bg aU.a 1 (i+1) aU.cap) (aU.len-(i+1)) (aU.cap-(i+1)), .slice none 0 0, .slice (bg aP.a 1 (i+1) aP.cap) (aP.len-(i+1)) (aP.cap-(i+1))],(fun w=>by kernel_rfl),?_⟩
       · rw[aW] at e;have e:aK=ag.heap.size:=e;omega
       · rw[aW] at e;have e:aK=ag.heap.size:=e;omega
       · rw[aW] at e;have e:aK=ag.heap.size:=e;omega
       · rw[aW] at e;have e:aK=ag.heap.size:=e;omega
       have dz:n.left i=⟨false,n.keys.take i,[],n.kids.take (i+1)⟩:=by unfold aM.left;rw[az];rfl
       have c8:n.right i=⟨false,n.keys.drop (i+1),[],n.kids.drop (i+1)⟩:=by unfold aM.right;rw[az];rfl
       have xa:cd (fun q=>bp.heap.size≤q) bK.drew (n.left i) ⟨bg aU.a 1 0 aU.cap,i,aU.cap⟩ bU ⟨bg aP.a 1 0 aP.cap,i+1,aP.cap⟩:=by
         rw[dz]
         refine ⟨?_,bZ.none _ _,?_⟩
         · have:=bZ.sub iO.keys (lo:=0) (hi:=i) (by omega) (by omega)
           simpa using this
         · have:=eo.sub iO.kids (lo:=0) (hi:=i+1) (by omega) (by omega)
           simpa using this
       have xb:cd (fun q=>bp.heap.size≤q) bK.drew (n.right i) ⟨bg aU.a 1 (i+1) aU.cap,aU.len-(i+1),aU.cap-(i+1)⟩ bU ⟨bg aP.a 1 (i+1) aP.cap,aP.len-(i+1),aP.cap-(i+1)⟩:=by
         rw[c8]
         refine ⟨?_,bZ.none _ _,?_⟩
         · have:=bZ.sub iO.keys (lo:=i+1) (hi:=aU.len) (by omega) (by omega)
           rwa[gX (by rw[fG];omega)] at this
         · have:=eo.sub iO.kids (lo:=i+1) (hi:=aP.len) (by omega) (by omega)
           rwa[gX (by rw[fG];omega)] at this
       have xc:=fM xa (by rw[dz];show (n.keys.take i).length≤_;rw[d_];omega) (by rw[dz];simp) (by rw[dz];show (n.kids.take (i+1)).length≤_;rw[d_];omega) (by rw[dz];exact fun k ae=>fp k (kM ae)) (by rw[dz];simp)
       have xd:(.agg #[.bool false, .slice (bg aU.a 1 0 aU.cap) i aU.cap, .slice none 0 0, .slice (bg aP.a 1 0 aP.cap) (i+1) aP.cap]:Value)=e9 (n.left i) ⟨bg aU.a 1 0 aU.cap,i,aU.cap⟩ bU ⟨bg aP.a 1 0 aP.cap,i+1,aP.cap⟩:=by rw[dz];rfl
       have xe:(.agg #[.bool false, .slice (bg aU.a 1 (i+1) aU.cap) (aU.len-(i+1)) (aU.cap-(i+1)), .slice none 0 0, .slice (bg aP.a 1 (i+1) aP.cap) (aP.len-(i+1)) (aP.cap-(i+1))]:Value)=e9 (n.right i) ⟨bg aU.a 1 (i+1) aU.cap,aU.len-(i+1),aU.cap-(i+1)⟩ bU ⟨bg aP.a 1 (i+1) aP.cap,aP.len-(i+1),aP.cap-(i+1)⟩:=by rw[c8];rfl
       rw[xd,xe]
       refine xc.use ?_
       rintro _ cJ ⟨dZ,eE,eF,AG,Kx,Ky,rfl,xf,hV⟩
       have xg:=fM (xb.ext hV) (by rw[c8];show (n.keys.drop (i+1)).length≤_;rw[fG];omega) (by rw[c8];simp) (by rw[c8];show (n.kids.drop (i+1)).length≤_;rw[fG];omega) (by rw[c8];exact fun k ae=>fp k (kx ae)) (by rw[c8];simp)
       refine ⟨_,dZ,eE,eF,rfl,ao.eQ hV,xg.use ?_⟩
       rintro _ b2 ⟨c9,df,dv,s7,AF,Kz,rfl,xh,jH⟩
       have lK:=hV.trans jH
       have uf:=hV.size
       have KA:=kW.size
       refine ⟨_,c9,df,dv,rfl,ao.eQ jH,Hx (c3:=(n.left i).leaf) (cG:=(n.right i).leaf) (dZ:=dZ) (eE:=eE) (eF:=eF) (c9:=c9) (df:=df) (dv:=dv) ((CR.ext kW).ext lK) ((CS.ext kW).ext lK) rfl rfl (by omega) (fun q J=>J) (Q:=fun c3 dZ eE eF cG c9 df dv w'=>Fi n w (.tuple #[.agg #[.bool c3, .slice dZ.a dZ.len dZ.cap, .slice eE.a eE.len eE.cap, .slice eF.a eF.len eF.cap], .slice aG.a aG.len aG.cap, .agg #[.bool cG, .slice c9.a c9.len c9.cap, .slice df.a df.len df.cap, .slice dv.a dv.len dv.cap], .bool true]) w') fun c0 gx=> ?_⟩
       have xi:bK.drew.heap.size=bK.heap.size:=rfl
       refine ⟨dZ,eE,eF,c9,df,dv,aG,by rw[←hi];rfl,?_,?_,?_,?_⟩
       · rw[←hi];exact ((xf.at.ext jH).an gx fun q J e=>by omega).bz fun q _ J=>by omega
       · rw[←hi];exact (xh.at.an gx fun q J e=>by omega).bz fun q _ J=>by omega
       · rw[←hi,vE]
         have gg:∀q,aO aG q→b6.heap.size≤q:=CT
         exact bF.qO (bF.ext (bF.ext lG l1) lK) gx fun q J e=>by have:=gg q J;omega
       · exact Ext.gN (ta.trans (kW.trans lK)) gx fun q J=>by omega
 · refine cn (vs:=[.bool false, .slice none 0 0, .slice none 0 0, .slice none 0 0]) rfl fun a8 vk jR avR=>⟨jR,?_⟩
   refine (fM (h.ext (qM.trans jR)) (by omega) (by omega) (by omega) fp CO).use ?_
   rintro _ bh ⟨aU,bP,aP,cC,cX,cu,rfl,sq,fe⟩
   refine ⟨n.leaf,aU,bP,aP,rfl,fe,(s9 (h.ext (qM.trans (jR.trans fe))) aj aD (most:=most) iD.2.1).use ?_⟩
   rintro _ bW ⟨rfl,gd⟩
   have s5:=vk.ext (fe.trans gd)
   refine ⟨_,rfl,gd,s5.dA rfl (lJ _ _ _ _),rfl,ek s5 (us:=[.bool n.leaf, .slice aU.a aU.len aU.cap, .slice bP.a bP.len bP.cap, .slice aP.a aP.len aP.cap]) rfl rfl fun b6 oV hA Hv=> ?_⟩
   have CL:=fe.size
   have E_:=gd.size
   have Zz:bp.drew.heap.size=bp.heap.size:=rfl
   obtain ⟨aK,fi⟩:∃aK,aK=bp.drew.heap.size:=⟨_,rfl⟩
   rw[←fi] at oV hA⊢
   have s_:=jR.trans (fe.trans gd)
   have w_:jU bp.heap.size b6 n aU bP aP cC cX cu:=((sq.ext gd).an hA fun q U _ _ e=>by omega).low (by omega)
   have ta:Ext w b6:=Ext.eX (qM.trans s_) hA (by omega)
   have CQ:=(OA.ext s_).an hA (by omega)
   have CR:=(SX.ext s_).an hA (by omega)
   have CS:=(SY.ext s_).an hA (by omega)
   have Kv:m7 (cellsOf n) most=dr n:=by unfold dr;rw[CP]
   rw[Kv]
   obtain ⟨i,hi⟩:∃i,i=dr n:=⟨_,rfl⟩
   rw[←hi] at vD iD hT
   rw[←hi]
   obtain ⟨gk,aY,bo,en⟩:=cj CQ
   obtain ⟨A,t,ax,gT,al,aV,_⟩:=bZ.at (h.ext ta).keys vD
   refine ⟨K,aY,A,ax,gT,t,al,(vo (B:=fun q=>w.heap.size≤q) aV.1 (by have:=fp _ (fg vD);omega) (fun q J=>jb ta.size J)).use ?_⟩
   rintro _ bK ⟨aG,rfl,lG,kj,CT⟩
   have l1:=dL bK
   obtain ⟨gk,aY,bo,en⟩:=cj (CQ.ext kj)
   have kW:=kj.trans l1
   obtain ⟨f0,f1,f2,f3⟩:=cj (oV.ext kW)
   have iO:=w_.at.ext kW
   have ZA:=bZ.len iO.keys
   have OB:=bZ.len iO.vals
   have ZB:=eo.len iO.kids
   have ZC:=bZ.le (b4.qP w_.keys)
   have ZD:=bZ.le (b4.qP w_.vals)
   have ZE:aP.len≤aP.cap:=iO.kids.2.1
   have ZF:b6.heap.size≤bK.heap.size:=kj.size
   have vE:n.keys.getD i []=n.keys[i]:=oy vD
   refine ⟨aG,rfl,n.leaf,gk,fun az=>bL ⟨fun q=>q=ag.heap.size,fun e=> ?_,aU,f1,⟨by omega,by omega⟩,fun e=> ?_,bP,f2,⟨by omega,?_⟩, #[.bool true, .slice (bg aU.a 1 0 aU.cap) i aU.cap, .slice (bg bP.a 1 0 bP.cap) i bP.cap, .slice none 0 0],(fun w=>by kernel_rfl),fun e=> ?_,aU,f1,⟨by omega,by omega⟩,fun e=> ?_,bP,f2,⟨by omega,?_⟩, #[.bool true, .slice (bg aU.a 1 i aU.cap) (aU.len-i) (aU.cap-i), .slice (bg bP.a 1 i bP.cap) (bP.len-i) (bP.cap-i), .slice none 0 0],(fun w=>by kernel_rfl),?_⟩,fun az=> ?_⟩
   · rw[aW] at e;have e:aK=ag.heap.size:=e;omega
   · rw[aW] at e;have e:aK=ag.heap.size:=e;omega
   · have:=aj.wQ az;omega
   · rw[aW] at e;have e:aK=ag.heap.size:=e;omega
   · rw[aW] at e;have e:aK=ag.heap.size:=e;omega
   · have:=aj.wQ az;omega
   · have Kw:=aj.wQ az
     have dz:n.left i=⟨true,n.keys.take i,n.vals.take i,[]⟩:=by unfold aM.left;rw[az];rfl
     have c8:n.right i=⟨true,n.keys.drop i,n.vals.drop i,[]⟩:=by unfold aM.right;rw[az];rfl
     have xa:cd (fun q=>bp.heap.size≤q) bK.drew (n.left i) ⟨bg aU.a 1 0 aU.cap,i,aU.cap⟩ ⟨bg bP.a 1 0 bP.cap,i,bP.cap⟩ bU:=by
       rw[dz]
       refine ⟨?_,?_,eo.none _ _⟩
       · have:=bZ.sub iO.keys (lo:=0) (hi:=i) (by omega) (by omega)
         simpa using this
       · have:=bZ.sub iO.vals (lo:=0) (hi:=i) (by omega) (by omega)
         simpa using this
     have xb:cd (fun q=>bp.heap.size≤q) bK.drew (n.right i) ⟨bg aU.a 1 i aU.cap,aU.len-i,aU.cap-i⟩ ⟨bg bP.a 1 i bP.cap,bP.len-i,bP.cap-i⟩ bU:=by
       rw[c8]
       refine ⟨?_,?_,eo.none _ _⟩
       · have:=bZ.sub iO.keys (lo:=i) (hi:=aU.len) (by omega) (by omega)
         rwa[gX (by rw[fG];omega)] at this
       · have:=bZ.sub iO.vals (lo:=i) (hi:=bP.len) (by omega) (by omega)
         rwa[gX (by rw[fG];omega)] at this
     have xc:=fM xa (by rw[dz];show (n.keys.take i).length≤_;rw[d_];omega) (by rw[dz];show (n.vals.take i).length≤_;rw[d_];omega) (by rw[dz];simp) (by rw[dz];exact fun k ae=>fp k (kM ae)) (by rw[dz];exact fun k ae=>CO k (kM ae))
     have xd:(.agg #[.bool true, .slice (bg aU.a 1 0 aU.cap) i aU.cap, .slice (bg bP.a 1 0 bP.cap) i bP.cap, .slice none 0 0]:Value)=e9 (n.left i) ⟨bg aU.a 1 0 aU.cap,i,aU.cap⟩ ⟨bg bP.a 1 0 bP.cap,i,bP.cap⟩ bU:=by rw[dz];rfl
     have xe:(.agg #[.bool true, .slice (bg aU.a 1 i aU.cap) (aU.len-i) (aU.cap-i), .slice (bg bP.a 1 i bP.cap) (bP.len-i) (bP.cap-i), .slice none 0 0]:Value)=e9 (n.right i) ⟨bg aU.a 1 i aU.cap,aU.len-i,aU.cap-i⟩ ⟨bg bP.a 1 i bP.cap,bP.len-i,bP.cap-i⟩ bU:=by rw[c8];rfl
     rw[xd,xe]
     refine xc.use ?_
     rintro _ cJ ⟨dZ,eE,eF,AG,Kx,Ky,rfl,xf,hV⟩
     have xg:=fM (xb.ext hV) (by rw[c8];show (n.keys.drop i).length≤_;rw[fG];omega) (by rw[c8];show (n.vals.drop i).length≤_;rw[fG];omega) (by rw[c8];simp) (by rw[c8];exact fun k ae=>fp k (kx ae)) (by rw[c8];exact fun k ae=>CO k (kx ae))
     refine ⟨_,dZ,eE,eF,rfl,ao.eQ hV,xg.use ?_⟩
     rintro _ b2 ⟨c9,df,dv,s7,AF,Kz,rfl,xh,jH⟩
     have lK:=hV.trans jH
     have uf:=hV.size
     have KA:=kW.size
     refine ⟨_,c9,df,dv,rfl,ao.eQ jH,Hx (c3:=(n.left i).leaf) (cG:=(n.right i).leaf) (dZ:=dZ) (eE:=eE) (eF:=eF) (c9:=c9) (df:=df) (dv:=dv) ((CR.ext kW).ext lK) ((CS.ext kW).ext lK) rfl rfl (by omega) (fun q J=>J) (Q:=fun c3 dZ eE eF cG c9 df dv w'=>Fi n w (.tuple #[.agg #[.bool c3, .slice dZ.a dZ.len dZ.cap, .slice eE.a eE.len eE.cap, .slice eF.a eF.len eF.cap], .slice aG.a aG.len aG.cap, .agg #[.bool cG, .slice c9.a c9.len c9.cap, .slice df.a df.len df.cap, .slice dv.a dv.len dv.cap], .bool true]) w') fun c0 gx=> ?_⟩
     have xi:bK.drew.heap.size=bK.heap.size:=rfl
     refine ⟨dZ,eE,eF,c9,df,dv,aG,by rw[←hi];rfl,?_,?_,?_,?_⟩
     · rw[←hi];exact ((xf.at.ext jH).an gx fun q J e=>by omega).bz fun q _ J=>by omega
     · rw[←hi];exact (xh.at.an gx fun q J e=>by omega).bz fun q _ J=>by omega
     · rw[←hi,vE]
       have gg:∀q,aO aG q→b6.heap.size≤q:=CT
       exact bF.qO (bF.ext (bF.ext lG l1) lK) gx fun q J e=>by have:=gg q J;omega
     · exact Ext.gN (ta.trans (kW.trans lK)) gx fun q J=>by omega
   · have Kw:=aj.Hp az
     have ZG:i≤n.keys.length-2∧1≤n.keys.length-2:=by rw[az,←hi] at fv;simpa using fv
     have KB:IntKind.wrap .i64 ((i:Int)+1)=((i+1:Nat):Int):=by rw[cz (by omega) (by omega)];rfl
     rw[KB]
     refine bL ⟨fun q=>q=ag.heap.size,fun e=> ?_,aU,f1,⟨by omega,by omega⟩,fun e=> ?_,aP,f3,⟨by omega,by omega⟩, #[.bool false, .slice (bg aU.a 1 0 aU.cap) i aU.cap, .slice none 0 0, .slice (bg aP.a 1 0 aP.cap) (i+1) aP.cap],(fun w=>by kernel_rfl),fun e=> ?_,aU,f1,⟨by omega,by omega⟩,fun e=> ?_,aP,f3,⟨by omega,by omega⟩, #[.bool false, .slice (bg aU.a 1 (i+1) aU.cap) (aU.len-(i+1)) (aU.cap-(i+1)), .slice none 0 0, .slice (bg aP.a 1 (i+1) aP.cap) (aP.len-(i+1)) (aP.cap-(i+1))],(fun w=>by kernel_rfl),?_⟩
     · rw[aW] at e;have e:aK=ag.heap.size:=e;omega
     · rw[aW] at e;have e:aK=ag.heap.size:=e;omega
     · rw[aW] at e;have e:aK=ag.heap.size:=e;omega
     · rw[aW] at e;have e:aK=ag.heap.size:=e;omega
     have dz:n.left i=⟨false,n.keys.take i,[],n.kids.take (i+1)⟩:=by unfold aM.left;rw[az];rfl
     have c8:n.right i=⟨false,n.keys.drop (i+1),[],n.kids.drop (i+1)⟩:=by unfold aM.right;rw[az];rfl
     have xa:cd (fun q=>bp.heap.size≤q) bK.drew (n.left i) ⟨bg aU.a 1 0 aU.cap,i,aU.cap⟩ bU ⟨bg aP.a 1 0 aP.cap,i+1,aP.cap⟩:=by
       rw[dz]
       refine ⟨?_,bZ.none _ _,?_⟩
       · have:=bZ.sub iO.keys (lo:=0) (hi:=i) (by omega) (by omega)
         simpa using this
       · have:=eo.sub iO.kids (lo:=0) (hi:=i+1) (by omega) (by omega)
         simpa using this
     have xb:cd (fun q=>bp.heap.size≤q) bK.drew (n.right i) ⟨bg aU.a 1 (i+1) aU.cap,aU.len-(i+1),aU.cap-(i+1)⟩ bU ⟨bg aP.a 1 (i+1) aP.cap,aP.len-(i+1),aP.cap-(i+1)⟩:=by
       rw[c8]
       refine ⟨?_,bZ.none _ _,?_⟩
       · have:=bZ.sub iO.keys (lo:=i+1) (hi:=aU.len) (by omega) (by omega)
         rwa[gX (by rw[fG];omega)] at this
       · have:=eo.sub iO.kids (lo:=i+1) (hi:=aP.len) (by omega) (by omega)
         rwa[gX (by rw[fG];omega)] at this
     have xc:=fM xa (by rw[dz];show (n.keys.take i).length≤_;rw[d_];omega) (by rw[dz];simp) (by rw[dz];show (n.kids.take (i+1)).length≤_;rw[d_];omega) (by rw[dz];exact fun k ae=>fp k (kM ae)) (by rw[dz];simp)
     have xd:(.agg #[.bool false, .slice (bg aU.a 1 0 aU.cap) i aU.cap, .slice none 0 0, .slice (bg aP.a 1 0 aP.cap) (i+1) aP.cap]:Value)=e9 (n.left i) ⟨bg aU.a 1 0 aU.cap,i,aU.cap⟩ bU ⟨bg aP.a 1 0 aP.cap,i+1,aP.cap⟩:=by rw[dz];rfl
     have xe:(.agg #[.bool false, .slice (bg aU.a 1 (i+1) aU.cap) (aU.len-(i+1)) (aU.cap-(i+1)), .slice none 0 0, .slice (bg aP.a 1 (i+1) aP.cap) (aP.len-(i+1)) (aP.cap-(i+1))]:Value)=e9 (n.right i) ⟨bg aU.a 1 (i+1) aU.cap,aU.len-(i+1),aU.cap-(i+1)⟩ bU ⟨bg aP.a 1 (i+1) aP.cap,aP.len-(i+1),aP.cap-(i+1)⟩:=by rw[c8];rfl
     rw[xd,xe]
     refine xc.use ?_
     rintro _ cJ ⟨dZ,eE,eF,AG,Kx,Ky,rfl,xf,hV⟩
     have xg:=fM (xb.ext hV) (by rw[c8];show (n.keys.drop (i+1)).length≤_;rw[fG];omega) (by rw[c8];simp) (by rw[c8];show (n.kids.drop (i+1)).length≤_;rw[fG];omega) (by rw[c8];exact fun k ae=>fp k (kx ae)) (by rw[c8];simp)
     refine ⟨_,dZ,eE,eF,rfl,ao.eQ hV,xg.use ?_⟩
     rintro _ b2 ⟨c9,df,dv,s7,AF,Kz,rfl,xh,jH⟩
     have lK:=hV.trans jH
     have uf:=hV.size
     have KA:=kW.size
     refine ⟨_,c9,df,dv,rfl,ao.eQ jH,Hx (c3:=(n.left i).leaf) (cG:=(n.right i).leaf) (dZ:=dZ) (eE:=eE) (eF:=eF) (c9:=c9) (df:=df) (dv:=dv) ((CR.ext kW).ext lK) ((CS.ext kW).ext lK) rfl rfl (by omega) (fun q J=>J) (Q:=fun c3 dZ eE eF cG c9 df dv w'=>Fi n w (.tuple #[.agg #[.bool c3, .slice dZ.a dZ.len dZ.cap, .slice eE.a eE.len eE.cap, .slice eF.a eF.len eF.cap], .slice aG.a aG.len aG.cap, .agg #[.bool cG, .slice c9.a c9.len c9.cap, .slice df.a df.len df.cap, .slice dv.a dv.len dv.cap], .bool true]) w') fun c0 gx=> ?_⟩
     have xi:bK.drew.heap.size=bK.heap.size:=rfl
     refine ⟨dZ,eE,eF,c9,df,dv,aG,by rw[←hi];rfl,?_,?_,?_,?_⟩
     · rw[←hi];exact ((xf.at.ext jH).an gx fun q J e=>by omega).bz fun q _ J=>by omega
     · rw[←hi];exact (xh.at.an gx fun q J e=>by omega).bz fun q _ J=>by omega
     · rw[←hi,vE]
       have gg:∀q,aO aG q→b6.heap.size≤q:=CT
       exact bF.qO (bF.ext (bF.ext lG l1) lK) gx fun q J e=>by have:=gg q J;omega
     · exact Ext.gN (ta.trans (kW.trans lK)) gx fun q J=>by omega
end
section
theorem SZ {B C:Nat→Prop} {w:World} {s x:aa} {ls xs:List Key} (bQ:b4 B w s ls) (af:bZ C w x xs) (hd:∀q,C q→¬aO s q) (aD:ls.length≤100000) (hm:xs.length≤100000):
   ∃ (ar:aa) (w':World),Sem.run Tryz.prog (Builtin.append_ #[ah.cL,ah.cL] ah.cL #[.slice s.a s.len s.cap, .slice x.a x.len x.cap]) w= .ok (.slice ar.a ar.len ar.cap) w'∧bZ (fun q=>B q∨C q∨w.heap.size≤q) w' ar (ls++xs)∧ao (aO s) w w':=by
 have akJ:=bZ.len af
 obtain ⟨ts,U,ad,au,aJ⟩:=bQ
 obtain ⟨us,aA,aE,aI,aL,cQ⟩:=af
 have akK:s.len=ls.length:=by have:=ad.1;rw[lf] at this;omega
 obtain ⟨ar,w',aY,bo,en,kT,lZ⟩:=Ho.append (eB:=ah.cL) aE ad (N8 us) (by omega)
 refine ⟨ar,w',aY,⟨ts++us,by simp[U,aA],?_,bo.2.1,?_,fun i i1 i2=> ?_⟩,kT⟩
 · rw[om];exact bo.src
 · intro k ae
   refine ⟨?_,bo.lt k ae⟩
   rcases lZ k ae with h|h
   · exact .inl (au k h).1
   · exact .inr (.inr h)
 · rcases g6 i ts.length with h|h
   · have fv:i<ls.length:=by omega
     rw[zY h,zY fv]
     obtain ⟨a,b⟩:=aJ i h fv
     exact bF.bz (bF.qO a kT b) fun k _ ae=> .inl ae
   · have a_:i-ts.length<us.length:=by rw[dU] at i1;omega
     have EX:i-ls.length<xs.length:=by omega
     rw[EH h,EH (by omega)]
     have e:i-ls.length=i-ts.length:=by omega
     have a:=cQ (i-ts.length) a_ (by omega)
     simp only[e]
     exact bF.bz (bF.qO a kT fun k ae=>hd k (a.2.2 k ae).1) fun k _ ae=> .inr (.inl ae)
theorem ZH {B C:Nat→Prop} {w:World} {s x:aa} {ds es:List Nat} (bQ:eO B w s ds) (af:eo C w x es) (aD:ds.length≤100000) (hm:es.length≤100000):
   ∃ (ar:aa) (w':World),Sem.run Tryz.prog (Builtin.append_ #[ah.eg,ah.eg] ah.eg #[.slice s.a s.len s.cap, .slice x.a x.len x.cap]) w= .ok (.slice ar.a ar.len ar.cap) w'∧eo (fun q=>B q∨C q∨w.heap.size≤q) w' ar (ds++es)∧ao (aO s) w w':=by
 have akJ:=eo.len af
 obtain ⟨U,ad⟩:=bQ
 have akK:s.len=ds.length:=by have:=U.1;rw[Al] at this;omega
 obtain ⟨ar,w',aY,bo,en,kT,lZ⟩:=JY.append (eB:=ah.eg) af.1 U (Sr es) (by omega)
 refine ⟨ar,w',aY,⟨?_,bo.2.1,?_⟩,kT⟩
 · have:gU ds++gU es=gU (ds++es):=by simp[gU]
   rw[this] at bo;exact bo.src
 · intro k ae
   refine ⟨?_,bo.lt k ae⟩
   rcases lZ k ae with h|h
   · exact .inl (ad k h).1
   · exact .inr (.inr h)
def ZI (pa c2 aK qW:Nat) (key:aa) (yP:World) (Q:Value→World→Prop):Prop:=
 cY (fun ug:World→Prop=>∃yQ:Bool,yP.cell? ⟨pa,0,none⟩=some (.bool yQ)∧((!yQ)=true→ay (yP.drew) fun qX=>∃Fj:Nat→Prop,¬Fj (Addr.add ⟨c2,0,none⟩ 1).block∧∃h_:aa,qX.cell? (Addr.add ⟨c2,0,none⟩ 1)=some (.slice h_.a h_.len h_.cap)∧Calls Tryz.prog F.mu #[.slice key.a key.len key.cap] qX fun akL fz=>∃ny:aa,akL= .returned (.slice ny.a ny.len ny.cap)∧ao Fj qX fz∧ay (fz.alloc (.cells #[.slice ny.a ny.len ny.cap] ah.cm)) fun tb=>ao Fj fz tb∧∃hJ:aa,∃oY:World,Sem.run Tryz.prog (Builtin.append_ #[ah.cL,ah.cL] ah.cL #[.slice h_.a h_.len h_.cap, .slice (some ⟨fz.heap.size,0,none⟩) 1 1]) tb= .ok (.slice hJ.a hJ.len hJ.cap) oY∧(∃u:Value,oY.cell? (Addr.add ⟨c2,0,none⟩ 1)=some u)∧oY.frozen? (Addr.add ⟨c2,0,none⟩ 1)=false∧ay (oY.setCell (Addr.add ⟨c2,0,none⟩ 1) (.slice hJ.a hJ.len hJ.cap)) fun uh=>ug uh)∧((!yQ)=false→ug yP)) (fun (rG:World)=>∃fI:aa,rG.cell? (Addr.add ⟨c2,0,none⟩ 1)=some (.slice fI.a fI.len fI.cap)∧∃gp:aa,rG.cell? (Addr.add ⟨aK,0,none⟩ 1)=some (.slice gp.a gp.len gp.cap)∧∃gP:aa,∃gV:World,Sem.run Tryz.prog (Builtin.append_ #[ah.cL,ah.cL] ah.cL #[.slice fI.a fI.len fI.cap, .slice gp.a gp.len gp.cap]) rG= .ok (.slice gP.a gP.len gP.cap) gV∧(∃u:Value,gV.cell? (Addr.add ⟨c2,0,none⟩ 1)=some u)∧gV.frozen? (Addr.add ⟨c2,0,none⟩ 1)=false∧ay (gV.setCell (Addr.add ⟨c2,0,none⟩ 1) (.slice gP.a gP.len gP.cap)) fun nU=>∃ju:aa,nU.cell? (Addr.add ⟨c2,0,none⟩ 2)=some (.slice ju.a ju.len ju.cap)∧∃l5:aa,nU.cell? (Addr.add ⟨aK,0,none⟩ 2)=some (.slice l5.a l5.len l5.cap)∧∃qk:aa,∃rH:World,Sem.run Tryz.prog (Builtin.append_ #[ah.cL,ah.cL] ah.cL #[.slice ju.a ju.len ju.cap, .slice l5.a l5.len l5.cap]) nU= .ok (.slice qk.a qk.len qk.cap) rH∧(∃u:Value,rH.cell? (Addr.add ⟨c2,0,none⟩ 2)=some u)∧rH.frozen? (Addr.add ⟨c2,0,none⟩ 2)=false∧ay (rH.setCell (Addr.add ⟨c2,0,none⟩ 2) (.slice qk.a qk.len qk.cap)) fun ss=>∃kD:aa,ss.cell? (Addr.add ⟨c2,0,none⟩ 3)=some (.slice kD.a kD.len kD.cap)∧∃pT:aa,ss.cell? (Addr.add ⟨aK,0,none⟩ 3)=some (.slice pT.a pT.len pT.cap)∧∃nz:aa,∃oB:World,Sem.run Tryz.prog (Builtin.append_ #[ah.eg,ah.eg] ah.eg #[.slice kD.a kD.len kD.cap, .slice pT.a pT.len pT.cap]) ss= .ok (.slice nz.a nz.len nz.cap) oB∧(∃u:Value,oB.cell? (Addr.add ⟨c2,0,none⟩ 3)=some u)∧oB.frozen? (Addr.add ⟨c2,0,none⟩ 3)=false∧ay (oB.setCell (Addr.add ⟨c2,0,none⟩ 3) (.slice nz.a nz.len nz.cap)) fun xj=>∃OC:Bool,xj.cell? ⟨c2,0,none⟩=some (.bool OC)∧∃yR:aa,xj.cell? (Addr.add ⟨c2,0,none⟩ 1)=some (.slice yR.a yR.len yR.cap)∧∃iT:aa,xj.cell? (Addr.add ⟨c2,0,none⟩ 2)=some (.slice iT.a iT.len iT.cap)∧∃jv:aa,xj.cell? (Addr.add ⟨c2,0,none⟩ 3)=some (.slice jv.a jv.len jv.cap)∧Calls Tryz.prog F.nS #[.agg #[.bool OC, .slice yR.a yR.len yR.cap, .slice iT.a iT.len iT.cap, .slice jv.a jv.len jv.cap]] xj fun akM pU=>∃KC:Bool,akM= .returned (.bool KC)∧((!KC)=true→cZ pU ⟨qW,0,none⟩ [.bool false, .slice none 0 0, .slice none 0 0, .slice none 0 0]∧(4:Nat)=4∧ay (setCells pU ⟨qW,0,none⟩ 0 [.bool false, .slice none 0 0, .slice none 0 0, .slice none 0 0]) fun mB=>∃Hy:Bool,mB.cell? ⟨qW,0,none⟩=some (.bool Hy)∧∃qY:aa,mB.cell? (Addr.add ⟨qW,0,none⟩ 1)=some (.slice qY.a qY.len qY.cap)∧∃yS:aa,mB.cell? (Addr.add ⟨qW,0,none⟩ 2)=some (.slice yS.a yS.len yS.cap)∧∃iE:aa,mB.cell? (Addr.add ⟨qW,0,none⟩ 3)=some (.slice iE.a iE.len iE.cap)∧Q ( .tuple #[.agg #[.bool Hy, .slice qY.a qY.len qY.cap, .slice yS.a yS.len yS.cap, .slice iE.a iE.len iE.cap], .bool false]) mB)∧((!KC)=false→∃CU:Bool,pU.cell? ⟨c2,0,none⟩=some (.bool CU)∧∃gq:aa,pU.cell? (Addr.add ⟨c2,0,none⟩ 1)=some (.slice gq.a gq.len gq.cap)∧∃rI:aa,pU.cell? (Addr.add ⟨c2,0,none⟩ 2)=some (.slice rI.a rI.len rI.cap)∧∃k4:aa,pU.cell? (Addr.add ⟨c2,0,none⟩ 3)=some (.slice k4.a k4.len k4.cap)∧cZ pU ⟨qW,0,none⟩ [.bool CU, .slice gq.a gq.len gq.cap, .slice rI.a rI.len rI.cap, .slice k4.a k4.len k4.cap]∧(4:Nat)=4∧ay (setCells pU ⟨qW,0,none⟩ 0 [.bool CU, .slice gq.a gq.len gq.cap, .slice rI.a rI.len rI.cap, .slice k4.a k4.len k4.cap]) fun tc=>∃OD:Bool,tc.cell? ⟨qW,0,none⟩=some (.bool OD)∧∃td:aa,tc.cell? (Addr.add ⟨qW,0,none⟩ 1)=some (.slice td.a td.len td.cap)∧∃jw:aa,tc.cell? (Addr.add ⟨qW,0,none⟩ 2)=some (.slice jw.a jw.len jw.cap)∧∃jx:aa,tc.cell? (Addr.add ⟨qW,0,none⟩ 3)=some (.slice jx.a jx.len jx.cap)∧Q ( .tuple #[.agg #[.bool OD, .slice td.a td.len td.cap, .slice jw.a jw.len jw.cap, .slice jx.a jx.len jx.cap], .bool true]) tc))
theorem vF {lo pa c2 aK qW:Nat} {key eY eG ei dV dW dX:aa} {w fA:World} {a b:aM} {s:Key} {cC cX cu C:Nat→Prop} {vG:List Value} (OE:fA.cell? ⟨pa,0,none⟩=some (.bool a.leaf))
   (ax:Var fA c2 [.bool a.leaf, .slice eY.a eY.len eY.cap, .slice eG.a eG.len eG.cap, .slice ei.a ei.len ei.cap] ah.cO) (fw:Var fA aK [.bool b.leaf, .slice dV.a dV.len dV.cap, .slice dW.a dW.len dW.cap, .slice dX.a dX.len dX.cap] ah.cO)
   (bR:jU lo fA a eY eG ei cC cX cu) (iD:cd C fA b dV dW dX) (lH:∀q,C q→lo≤q∧q<fA.heap.size∧q≠c2∧q≠aK∧¬cC q∧¬cX q∧¬cu q) (iq:∀q,cC q∨cX q∨cu q→q≠c2∧q≠aK) (pO:lo≤c2) (ie:lo≤aK) (nw:c2≠aK)
   (aN:Var fA qW vG ah.cO) (S0:vG.length=4) (ZJ:qW<lo) (lX:w.heap.size≤qW) (ae:Src 1 fA key (bn s)) (gw:s.length≤1000) (dS:Ext w fA) (aj:ef (g8 a s b)) (az:a.leaf=b.leaf) (nV:ef a) (eK:ef b)
   (dk:a.keys.length≤10000) (db:b.keys.length≤10000):ZI pa c2 aK qW key fA (Ff (g8 a s b) w):=by
 unfold ZI
 have akN:=ax.lt
 have wM:=fw.lt
 have KD:∀ {n:aM},ef n→n.keys.length≤10000→n.vals.length≤10000∧n.kids.length≤10001:=fun {n} U ad=>by
   rcases U with U|U
   · rw[U.len,U.kids];exact ⟨ad,fl _⟩
   · rw[U.len,U.vals];exact ⟨fl _,by omega⟩
 obtain ⟨akO,EP⟩:=KD nV dk
 obtain ⟨Au,ER⟩:=KD eK db
 have jV:pR lo fA c2 a eY eG ei cC cX cu:=⟨ax,bR.keys,bR.vals,bR.kids,fun q J=>⟨(bR.bT q J).1,(bR.bT q J).2.1,(iq q (.inl J)).1,(bR.bT q J).2.2⟩,fun q J=>⟨(bR.bv q J).1,(bR.bv q J).2.1,(iq q (.inr (.inl J))).1,(bR.bv q J).2.2⟩,fun q J=>⟨(bR.a7 q J).1,(bR.a7 q J).2,(iq q (.inr (.inr J))).1⟩,pO⟩
 refine wV (fun w'=>∃ (K:aa) (As:Nat→Prop),pR lo w' c2 ⟨a.leaf,if a.leaf then a.keys else a.keys++ [s],a.vals,a.kids⟩ K eG ei As cX cu∧ao (fun q=>q=c2∨cC q) fA w'∧(∀q,As q→cC q∨fA.heap.size≤q)) (fun q J=>⟨_,OE,fun ab=> ?_,fun ab=>J _ ⟨eY,cC,?_, .refl _ _,fun q h=> .inl h⟩⟩) ?_
 · have ab:a.leaf=false:=by simpa using ab
   refine SH jV ae (by omega) (by omega) fun w' aU As U ad au=>J _ ⟨aU,As,?_,ad,au⟩
   rw[if_neg (by rw[ab];simp)]
   exact U
 · have ab:a.leaf=true:=by simpa using ab
   rw[if_pos ab]
   exact jV
 rintro ag ⟨dZ,AG,U,iN,ZK⟩
 have m8:=iN.size
 have nA:=fw.an iN (by
   rintro (h|h)
   · exact nw h.symm
   · exact (iq _ (.inl h)).2 rfl)
 have ZL:=iD.an iN fun q J h=>by
   have:=lH q J
   rcases h with h|h
   · exact this.2.2.1 h
   · exact this.2.2.2.2.1 h
 have lk:=aN.an iN (by
   rintro (h|h)
   · omega
   · have:=(bR.bT _ h).1;omega)
 have akP:Ext w ag:=Ext.gN dS iN fun q J=>by
   rcases J with h|h
   · omega
   · have:=(bR.bT _ h).1;omega
 obtain ⟨KE,OF⟩:∃l,l=(if a.leaf then a.keys else a.keys++ [s]):=⟨_,rfl⟩
 rw[←OF] at U
 have avS:KE.length≤10001:=by
   rw[OF]
   split
   · omega
   · rw[dU];simp;omega
 obtain ⟨cH,aT,bC,ba⟩:=cj U.v
 obtain ⟨d0,d1,d2,d3⟩:=cj nA
 have Fk:∀q,aO dZ q→AG q:=fun k ae=>by obtain ⟨ts,_,_,au,_⟩:=U.keys;exact (au k ae).1
 have S1:∀q,aO eG q→cX q:=fun k ae=>by obtain ⟨ts,_,_,au,_⟩:=U.vals;exact (au k ae).1
 have ZM:∀q,aO ei q→cu q:=fun k ae=>(U.kids.2 k ae).1
 have ZN:∀q,C q→¬aO dZ q:=fun q J h=>by
   rcases ZK q (Fk q h) with ad|ad
   · exact (lH q J).2.2.2.2.1 ad
   · have:=(lH q J).2.1;omega
 obtain ⟨po,aw,aY,bo,en⟩:=SZ U.keys ZL.keys ZN (by show KE.length≤_;omega) (by omega)
 have lF:=U.v.an en fun h=>(U.bT _ (Fk _ h)).2.2.1 rfl
 obtain ⟨jy,lL⟩:=js lF (i:=1) (by simp)
 refine ⟨dZ,aT,dV,d1,po,aw,aY,?_⟩
 rw[aW,aW]
 refine ⟨jy,lL,bL ?_⟩
 obtain ⟨aS,mw⟩:∃aS,aS=aw.setCell ⟨c2,0+1,none⟩ (.slice po.a po.len po.cap):=⟨_,rfl⟩
 rw[←mw]
 have mO:ao (fun q=>q=c2) aw aS:=by rw[mw];exact ig _ _ _ _
 have ZO:Var aS c2 [.bool a.leaf, .slice po.a po.len po.cap, .slice eG.a eG.len eG.cap, .slice ei.a ei.len ei.cap] ah.cO:=by rw[mw];exact jr lF _
 have nt:ao (fun q=>q=c2∨aO dZ q) ag aS:=(en.mono fun q _ h=> .inr h).trans (mO.mono fun q _ h=> .inl h)
 have Hz:=nA.an nt (by
   rintro (h|h)
   · exact nw h.symm
   · rcases ZK _ (Fk _ h) with ad|ad
     · exact (iq _ (.inl ad)).2 rfl
     · omega)
 have ZP:=ZL.an nt fun q J h=>by
   rcases h with h|h
   · exact (lH q J).2.2.1 h
   · exact ZN q J h
 have akQ:=b4.an U.vals nt fun q J h=>by
   rcases h with h|h
   · exact (U.bv q J).2.2.1 h
   · exact (U.bT q (Fk q h)).2.2.2.1 J
 have akR:=eO.an U.kids nt fun q J h=>by
   rcases h with h|h
   · exact (U.a7 q J).2.2 h
   · exact (U.bT q (Fk q h)).2.2.2.2 J
 have yG:=lk.an nt (by
   rintro (h|h)
   · omega
   · have:=(U.bT _ (Fk _ h)).1;omega)
 have g0:Ext w aS:=Ext.gN akP nt fun q J=>by
   rcases J with h|h
   · omega
   · have:=(U.bT _ (Fk _ h)).1;omega
 have HA:bZ (fun q=>(AG q∨C q∨ag.heap.size≤q)∧q≠c2) aS po (KE++b.keys):=by
   have S2:bZ (fun q=>(AG q∨C q∨ag.heap.size≤q)∧q≠c2) aw po (KE++b.keys):=bZ.bz bo fun q _ J=>⟨J,by
     rcases J with h|h|h
     · exact (U.bT _ h).2.2.1
     · exact (lH _ h).2.2.1
     · omega⟩
   exact bZ.an S2 mO fun q J h=>J.2 h
 obtain ⟨cH,aT,bC,ba⟩:=cj ZO
 obtain ⟨d0,d1,d2,d3⟩:=cj Hz
 have CN:=nt.size
 obtain ⟨iC,bp,aY,bo,en⟩:=SZ akQ ZP.vals (fun q J h=>(lH q J).2.2.2.2.2.1 (S1 q h)) (by show a.vals.length≤_;omega) (by omega)
 have N5:=ZO.an en fun h=>(U.bv _ (S1 _ h)).2.2.1 rfl
 obtain ⟨jy,lL⟩:=js N5 (i:=2) (by simp)
 rw[aW] at bC d2
 refine ⟨eG,bC,dW,d2,iC,bp,aY,?_⟩
 rw[aW,aW]
 refine ⟨jy,lL,bL ?_⟩
 obtain ⟨bH,S3⟩:∃bH,bH=bp.setCell ⟨c2,0+2,none⟩ (.slice iC.a iC.len iC.cap):=⟨_,rfl⟩
 rw[←S3]
 have oZ:ao (fun q=>q=c2) bp bH:=by rw[S3];exact ig _ _ _ _
 have iL:Var bH c2 [.bool a.leaf, .slice po.a po.len po.cap, .slice iC.a iC.len iC.cap, .slice ei.a ei.len ei.cap] ah.cO:=by rw[S3];exact jr N5 _
 have Fl:ao (fun q=>q=c2∨cX q) aS bH:=(en.mono fun q _ h=> .inr (S1 q h)).trans (oZ.mono fun q _ h=> .inl h)
 have N6:=Hz.an Fl (by
   rintro (h|h)
   · exact nw h.symm
   · exact (iq _ (.inr (.inl h))).2 rfl)
 have akS:=ZP.an Fl fun q J h=>by
   rcases h with h|h
   · exact (lH q J).2.2.1 h
   · exact (lH q J).2.2.2.2.2.1 h
 have akT:=bZ.an HA Fl fun q J h=>by
   rcases h with h|h
   · exact J.2 h
   · rcases J.1 with ad|ad|ad
     · exact (U.bT _ ad).2.2.2.1 h
     · exact (lH _ ad).2.2.2.2.2.1 h
     · have:=(U.bv _ h).2.1;omega
 have akU:=eO.an akR Fl fun q J h=>by
   rcases h with h|h
   · exact (U.a7 q J).2.2 h
   · exact (U.bv q h).2.2.2 J
 have S4:=yG.an Fl (by
   rintro (h|h)
   · omega
   · have:=(U.bv _ h).1;omega)
 have qM:Ext w bH:=Ext.gN g0 Fl fun q J=>by
   rcases J with h|h
   · omega
   · have:=(U.bv _ h).1;omega
 have akV:bZ (fun q=>(cX q∨C q∨aS.heap.size≤q)∧q≠c2) bH iC (a.vals++b.vals):=by
   have S2:bZ (fun q=>(cX q∨C q∨aS.heap.size≤q)∧q≠c2) bp iC (a.vals++b.vals):=bZ.bz bo fun q _ J=>⟨J,by
     rcases J with h|h|h
     · exact (U.bv _ h).2.2.1
     · exact (lH _ h).2.2.1
     · omega⟩
   exact bZ.an S2 oZ fun q J h=>J.2 h
 obtain ⟨cH,aT,bC,ba⟩:=cj iL
 obtain ⟨d0,d1,d2,d3⟩:=cj N6
 have Ox:=Fl.size
 obtain ⟨vH,a8,aY,bo,en⟩:=ZH akU akS.kids (by show a.kids.length≤_;omega) (by omega)
 have N7:=iL.an en fun h=>(U.a7 _ (ZM _ h)).2.2 rfl
 obtain ⟨jy,lL⟩:=js N7 (i:=3) (by simp)
 rw[aW] at ba d3
 refine ⟨ei,ba,dX,d3,vH,a8,aY,?_⟩
 rw[aW,aW]
 refine ⟨jy,lL,bL ?_⟩
 obtain ⟨bh,Fm⟩:∃bh,bh=a8.setCell ⟨c2,0+3,none⟩ (.slice vH.a vH.len vH.cap):=⟨_,rfl⟩
 rw[←Fm]
 have ui:ao (fun q=>q=c2) a8 bh:=by rw[Fm];exact ig _ _ _ _
 have ZQ:Var bh c2 [.bool a.leaf, .slice po.a po.len po.cap, .slice iC.a iC.len iC.cap, .slice vH.a vH.len vH.cap] ah.cO:=by rw[Fm];exact jr N7 _
 have KF:ao (fun q=>q=c2∨cu q) bH bh:=(en.mono fun q _ h=> .inr (ZM q h)).trans (ui.mono fun q _ h=> .inl h)
 have akW:=bZ.an akT KF fun q J h=>by
   rcases h with h|h
   · exact J.2 h
   · rcases J.1 with ad|ad|ad
     · exact (U.bT _ ad).2.2.2.2 h
     · exact (lH _ ad).2.2.2.2.2.2 h
     · have:=(U.a7 _ h).2.1;omega
 have akX:=bZ.an akV KF fun q J h=>by
   rcases h with h|h
   · exact J.2 h
   · rcases J.1 with ad|ad|ad
     · exact (U.bv _ ad).2.2.2 h
     · exact (lH _ ad).2.2.2.2.2.2 h
     · have:=(U.a7 _ h).2.1;omega
 have SS:=S4.an KF (by
   rintro (h|h)
   · omega
   · have:=(U.a7 _ h).1;omega)
 have sj:Ext w bh:=Ext.gN qM KF fun q J=>by
   rcases J with h|h
   · omega
   · have:=(U.a7 _ h).1;omega
 have CL:=KF.size
 have HB:cd (fun q=>lo≤q) bh (g8 a s b) po iC vH:=by
   have su:g8 a s b=⟨a.leaf,KE++b.keys,a.vals++b.vals,a.kids++b.kids⟩:=by
     unfold g8
     cases dm:a.leaf with
     |true=>
       have z8:a.kids=[]:=by
         rcases nV with h|h
         · exact h.kids
         · have:=h.inner;rw[dm] at this;cases this
       have yk:b.kids=[]:=by
         rcases eK with h|h
         · exact h.kids
         · have:=h.inner;rw[←az,dm] at this;cases this
       rw[OF,dm,z8,yk]
       simp
     |false=>
       have z8:a.vals=[]:=by
         rcases nV with h|h
         · have:=h.leaf;rw[dm] at this;cases this
         · exact h.vals
       have yk:b.vals=[]:=by
         rcases eK with h|h
         · have:=h.leaf;rw[←az,dm] at this;cases this
         · exact h.vals
       rw[OF,dm,z8,yk]
       simp
   rw[su]
   refine ⟨bZ.bz akW fun q _ J=> ?_,bZ.bz akX fun q _ J=> ?_,eo.bz (eo.an (B:=fun q=>(cu q∨C q∨bH.heap.size≤q)∧q≠c2) (eo.bz bo fun q _ J=>⟨J,?_⟩) ui fun q J h=>J.2 h) fun q _ J=> ?_⟩
   · rcases J.1 with h|h|h
     · exact (U.bT _ h).1
     · exact (lH _ h).1
     · omega
   · rcases J.1 with h|h|h
     · exact (U.bv _ h).1
     · exact (lH _ h).1
     · omega
   · rcases J with h|h|h
     · exact (U.a7 _ h).2.2
     · exact (lH _ h).2.2.1
     · omega
   · rcases J.1 with h|h|h
     · exact (U.a7 _ h).1
     · exact (lH _ h).1
     · omega
 obtain ⟨cH,aT,bC,ba⟩:=cj ZQ
 rw[aW] at aT bC ba
 have Ha:(g8 a s b).keys.length≤20001:=by
   unfold g8
   split
   · show (a.keys++b.keys).length≤_;rw[dU];omega
   · show (a.keys++s::b.keys).length≤_;rw[dU,ld];omega
 have Cn:(g8 a s b).vals.length≤20001:=by
   unfold g8
   split
   · show (a.vals++b.vals).length≤_;rw[dU];omega
   · simp
 have Aw:(g8 a s b).kids.length≤20002:=by
   unfold g8
   split
   · simp
   · show (a.kids++b.kids).length≤_;rw[dU];omega
 have pd:(g8 a s b).leaf=a.leaf:=Yn
 repeat rw[aW]
 refine ⟨_,cH,po,aT,iC,bC,vH,ba,?_⟩
 have wY:=nS HB (by omega) (by omega) (by omega)
 unfold e9 at wY
 rw[pd] at wY
 refine wY.use ?_
 rintro _ bW ⟨Ol,rfl,HC,gd⟩
 have:=HC.2 aj
 subst this
 obtain ⟨cH,aT,bC,ba⟩:=cj (ZQ.ext gd)
 rw[aW] at aT bC ba
 have CV:=rD a.leaf po iC vH (SS.ext gd) S0 (Q:=fun jo K V D aw=>Ff (g8 a s b) w (.tuple #[.agg #[.bool jo, .slice K.a K.len K.cap, .slice V.a V.len V.cap, .slice D.a D.len D.cap], .bool true]) aw) fun b6 hA=>⟨po,iC,vH,by unfold e9;rw[pd],((HB.ext gd).an hA fun q J e=>by omega).bz fun q _ J=>by omega,Ext.eX (sj.trans gd) hA lX⟩
 repeat rw[aW] at CV
 exact ⟨true,rfl,fun h=>(by cases h),fun _=>⟨_,cH,po,aT,iC,bC,vH,ba,CV⟩⟩
theorem ql {OG OH:Nat→Prop} {w:World} {a b:aM} {xk xl xm xn xo xp key:aa} {s:Key} (aR:cd OG w a xk xl xm) (ab:cd OH w b xn xo xp) (ae:Src 1 w key (bn s)) (vI:∀q,aO key q→q<w.heap.size) (gw:s.length≤1000) (nV:ef a) (eK:ef b) (az:a.leaf=b.leaf) (aj:ef (g8 a s b))
   (dk:a.keys.length≤10000) (db:b.keys.length≤10000):
   aQ Tryz.prog F.ql #[e9 a xk xl xm, .slice key.a key.len key.cap,e9 b xn xo xp] w (Ff (g8 a s b) w):=by
 have KD:∀ {n:aM},ef n→n.keys.length≤10000→n.vals.length≤10000∧n.kids.length≤10001:=fun {n} U ad=>by
   rcases U with U|U
   · rw[U.len,U.kids];exact ⟨ad,fl _⟩
   · rw[U.len,U.vals];exact ⟨fl _,by omega⟩
 obtain ⟨akO,EP⟩:=KD nV dk
 obtain ⟨Au,ER⟩:=KD eK db
 have KG:∀k∈a.keys,k.length≤100000:=fun k ae=>by have:=(nV.keys.ok k ae).2;omega
 have xq:∀k∈b.keys,k.length≤100000:=fun k ae=>by have:=(eK.keys.ok k ae).2;omega
 have KH:∀k∈a.vals,k.length≤100000:=fun k ae=>by have:=nV.vals k ae;omega
 have xr:∀k∈b.vals,k.length≤100000:=fun k ae=>by have:=eK.vals k ae;omega
 refine W.akY a.leaf xk xl xm key b.leaf xn xo xp w _ ?_
 (delta W.ql dx bS ai aq ba Ht aB nx Ki jt ck ee OI st Kj Fo;dsimp only)
 refine cn (vs:=[.bool a.leaf, .slice xk.a xk.len xk.cap, .slice xl.a xl.len xl.cap, .slice xm.a xm.len xm.cap]) rfl fun ag gh bD m8=> ?_
 refine cn (vs:=[.bool b.leaf, .slice xn.a xn.len xn.cap, .slice xo.a xo.len xo.cap, .slice xp.a xp.len xp.cap]) rfl fun aw hF cA vi=> ?_
 refine cn (vs:=[.bool false, .slice none 0 0, .slice none 0 0, .slice none 0 0]) rfl fun aS yG eU CN=> ?_
 have g0:=bD.trans (cA.trans eU)
 obtain ⟨cH,aT,bC,ba⟩:=cj (gh.ext (cA.trans eU))
 refine ⟨_,cH,xk,aT,xl,bC,xm,ba,(nS (aR.ext g0) (by omega) (by omega) (by omega)).use ?_⟩
 rintro _ bp ⟨c3,rfl,nA,fB⟩
 have:=nA.2 nV
 subst this
 have tX:=g0.trans fB
 obtain ⟨d0,d1,d2,d3⟩:=cj (hF.ext (eU.trans fB))
 refine ⟨true,rfl,eA (fun b w'=>b=false∧Ext bp w') (fun q J=>⟨fun h=>(by cases h),fun _=>⟨_,d0,xn,d1,xo,d2,xp,d3,(nS (ab.ext tX) (by omega) (by omega) (by omega)).use ?_⟩⟩) ?_⟩
 · rintro _ bH ⟨cG,rfl,gT,lj⟩
   have:=gT.2 eK
   subst this
   exact ⟨true,rfl,J _ _ ⟨rfl,lj⟩⟩
 rintro _ bH ⟨rfl,lj⟩
 have qM:=tX.trans lj
 obtain ⟨cH,aT,bC,ba⟩:=cj (gh.ext (cA.trans (eU.trans (fB.trans lj))))
 obtain ⟨d0,d1,d2,d3⟩:=cj (hF.ext (eU.trans (fB.trans lj)))
 refine eA (fun b w'=>b=false∧bH=w') (fun q J=>⟨fun h=>(by cases h),fun _=>⟨_,cH,_,d0,J _ _ ⟨by rw[az];simp,rfl⟩⟩⟩) ?_
 rintro _ _ ⟨rfl,rfl⟩
 have bA:=dL bH
 have ZR:=qM.trans bA
 obtain ⟨mP,Fp⟩:∃mP,mP=bH.drew:=⟨_,rfl⟩
 have uj:Var mP w.heap.size [.bool a.leaf, .slice xk.a xk.len xk.cap, .slice xl.a xl.len xl.cap, .slice xm.a xm.len xm.cap] ah.cO:=by rw[Fp];exact (gh.ext (cA.trans (eU.trans (fB.trans lj)))).ext bA
 have akZ:Var mP ag.heap.size [.bool b.leaf, .slice xn.a xn.len xn.cap, .slice xo.a xo.len xo.cap, .slice xp.a xp.len xp.cap] ah.cO:=by rw[Fp];exact (hF.ext (eU.trans (fB.trans lj))).ext bA
 have vJ:Var mP aw.heap.size [.bool false, .slice none 0 0, .slice none 0 0, .slice none 0 0] ah.cO:=by rw[Fp];exact (yG.ext (fB.trans lj)).ext bA
 have mC:Ext w mP:=by rw[Fp];exact ZR
 have avT:aS.heap.size≤mP.heap.size:=by rw[Fp];exact (fB.trans lj).size
 have KI:=aR.ext mC
 have pV:=ab.ext mC
 have lg:=ae.ext mC
 obtain ⟨lo,lX⟩:∃lo,lo=mP.heap.size:=⟨_,rfl⟩
 rw[←Fp]
 clear cH aT bC ba d0 d1 d2 d3 Fp ZR bA
 obtain ⟨cH,aT,bC,ba⟩:=cj uj
 obtain ⟨d0,d1,d2,d3⟩:=cj akZ
 refine ⟨fun h=>(by cases h),fun _=>bL ⟨fun _=>False,id,_,cH,xk,aT,xl,bC,xm,ba,id,_,d0,xn,d1,xo,d2,xp,d3,?_⟩⟩
 refine ⟨?_,?_,?_⟩
 · refine (fM KI (by omega) (by omega) (by omega) KG KH).use ?_
   rintro _ kk ⟨eY,eG,ei,l6,l7,l8,rfl,bR,aA⟩
   refine ⟨_,eY,eG,ei,rfl,aA,?_⟩
   have s1:=aA.size
   refine ⟨?_,?_,?_⟩
   · refine (fM (pV.ext aA) (by omega) (by omega) (by omega) xq xr).use ?_
     rintro _ jh ⟨dV,dW,dX,yT,yU,yV,rfl,iD,aE⟩
     refine ⟨_,dV,dW,dX,rfl,aE,?_⟩
     have s2:=aE.size
     refine ⟨?_,?_⟩
     · refine cn (vs:=[.bool false, .slice none 0 0, .slice none 0 0, .slice none 0 0]) rfl fun iF l3 aI z3=>⟨aI,?_⟩
       have bY:=aI.size
       refine cn (vs:=[.bool false, .slice none 0 0, .slice none 0 0, .slice none 0 0]) rfl fun jW rJ aL z4=>⟨aL,?_⟩
       have cN:=aL.size
       have jX:=l3.ext aL
       have nW:=rJ
       refine ⟨jX.dA rfl (lJ _ _ _ _),rfl,ek jX (us:=[.bool a.leaf, .slice eY.a eY.len eY.cap, .slice eG.a eG.len eG.cap, .slice ei.a ei.len ei.cap]) rfl rfl fun xt iL dN t5=> ?_⟩
       have jY:=nW.an dN (by omega)
       refine ⟨jY.dA rfl (lJ _ _ _ _),rfl,ek jY (us:=[.bool b.leaf, .slice dV.a dV.len dV.cap, .slice dW.a dW.len dW.cap, .slice dX.a dX.len dX.cap]) rfl rfl fun fD jg fE t6=> ?_⟩
       obtain ⟨c2,iq⟩:∃c2,c2=jh.heap.size:=⟨_,rfl⟩
       obtain ⟨aK,fi⟩:∃aK,aK=iF.heap.size:=⟨_,rfl⟩
       rw[←iq] at iL dN
       rw[←fi] at jg fE
       rw[←iq,←fi]
       have dJ:ao (fun q=>q=c2∨q=aK) jW fD:=(dN.mono fun q _ h=> .inl h).trans (fE.mono fun q _ h=> .inr h)
       have nX:jU lo fD a eY eG ei l6 l7 l8:=(((bR.ext (aE.trans (aI.trans (aL)))).an dJ fun q _ _ J e=>by have rE:mP.heap.size≤q∧q<kk.heap.size:=(by rcases J with J|J|J;exact ⟨(bR.bT q J).1,(bR.bT q J).2.1⟩;exact ⟨(bR.bv q J).1,(bR.bv q J).2.1⟩;exact bR.a7 q J);omega).low (by omega))
       have nY:cd (fun q=>kk.heap.size≤q∧q<jh.heap.size) fD b dV dW dX:=((iD.at.bz fun q U ad=>⟨ad,U⟩).ext (aI.trans (aL))).an dJ fun q J e=>by omega
       have fF:∀q,l6 q∨l7 q∨l8 q→mP.heap.size≤q∧q<kk.heap.size:=fun q J=>by
         rcases J with J|J|J
         · exact ⟨(bR.bT q J).1,(bR.bT q J).2.1⟩
         · exact ⟨(bR.bv q J).1,(bR.bv q J).2.1⟩
         · exact bR.a7 q J
       exact vF (lo:=lo) (fA:=fD) (C:=fun q=>kk.heap.size≤q∧q<jh.heap.size) ((uj.ext (aA.trans (aE.trans (aI.trans aL)))).an dJ (by omega)).cell (iL.an fE (by omega)) jg nX nY (fun q J=>⟨by omega,by omega,by omega,by omega,fun h=>(by have:=fF q (.inl h);omega),fun h=>(by have:=fF q (.inr (.inl h));omega),fun h=>(by have:=fF q (.inr (.inr h));omega)⟩) (fun q J=>(by have:=fF q J;exact ⟨by omega,by omega⟩)) (by omega) (by omega) (by omega) ((vJ.ext (aA.trans (aE.trans (aI.trans aL)))).an dJ (by omega)) rfl (by omega) (by omega) ((lg.ext (aA.trans (aE.trans (aI.trans aL)))).an dJ fun q J e=>(by have:=vI q J;have:=mC.size;omega)) gw (Ext.gN (mC.trans (aA.trans (aE.trans (aI.trans aL)))) dJ fun q J=>by omega) aj az nV eK dk db
     · refine cn (vs:=[.bool false, .slice none 0 0, .slice none 0 0, .slice none 0 0]) rfl fun iF l3 aI z3=>⟨aI,?_⟩
       have bY:=aI.size
       refine cn (vs:=[.bool false, .slice none 0 0, .slice none 0 0, .slice none 0 0]) rfl fun jW rJ aL z4=>⟨aL,?_⟩
       have cN:=aL.size
       have jX:=rJ
       have nW:=l3.ext aL
       refine ⟨jX.dA rfl (lJ _ _ _ _),rfl,ek jX (us:=[.bool a.leaf, .slice eY.a eY.len eY.cap, .slice eG.a eG.len eG.cap, .slice ei.a ei.len ei.cap]) rfl rfl fun xt iL dN t5=> ?_⟩
       have jY:=nW.an dN (by omega)
       refine ⟨jY.dA rfl (lJ _ _ _ _),rfl,ek jY (us:=[.bool b.leaf, .slice dV.a dV.len dV.cap, .slice dW.a dW.len dW.cap, .slice dX.a dX.len dX.cap]) rfl rfl fun fD jg fE t6=> ?_⟩
       obtain ⟨c2,iq⟩:∃c2,c2=iF.heap.size:=⟨_,rfl⟩
       obtain ⟨aK,fi⟩:∃aK,aK=jh.heap.size:=⟨_,rfl⟩
       rw[←iq] at iL dN
       rw[←fi] at jg fE
       rw[←iq,←fi]
       have dJ:ao (fun q=>q=c2∨q=aK) jW fD:=(dN.mono fun q _ h=> .inl h).trans (fE.mono fun q _ h=> .inr h)
       have nX:jU lo fD a eY eG ei l6 l7 l8:=(((bR.ext (aE.trans (aI.trans (aL)))).an dJ fun q _ _ J e=>by have rE:mP.heap.size≤q∧q<kk.heap.size:=(by rcases J with J|J|J;exact ⟨(bR.bT q J).1,(bR.bT q J).2.1⟩;exact ⟨(bR.bv q J).1,(bR.bv q J).2.1⟩;exact bR.a7 q J);omega).low (by omega))
       have nY:cd (fun q=>kk.heap.size≤q∧q<jh.heap.size) fD b dV dW dX:=((iD.at.bz fun q U ad=>⟨ad,U⟩).ext (aI.trans (aL))).an dJ fun q J e=>by omega
       have fF:∀q,l6 q∨l7 q∨l8 q→mP.heap.size≤q∧q<kk.heap.size:=fun q J=>by
         rcases J with J|J|J
         · exact ⟨(bR.bT q J).1,(bR.bT q J).2.1⟩
         · exact ⟨(bR.bv q J).1,(bR.bv q J).2.1⟩
         · exact bR.a7 q J
       exact vF (lo:=lo) (fA:=fD) (C:=fun q=>kk.heap.size≤q∧q<jh.heap.size) ((uj.ext (aA.trans (aE.trans (aI.trans aL)))).an dJ (by omega)).cell (iL.an fE (by omega)) jg nX nY (fun q J=>⟨by omega,by omega,by omega,by omega,fun h=>(by have:=fF q (.inl h);omega),fun h=>(by have:=fF q (.inr (.inl h));omega),fun h=>(by have:=fF q (.inr (.inr h));omega)⟩) (fun q J=>(by have:=fF q J;exact ⟨by omega,by omega⟩)) (by omega) (by omega) (by omega) ((vJ.ext (aA.trans (aE.trans (aI.trans aL)))).an dJ (by omega)) rfl (by omega) (by omega) ((lg.ext (aA.trans (aE.trans (aI.trans aL)))).an dJ fun q J e=>(by have:=vI q J;have:=mC.size;omega)) gw (Ext.gN (mC.trans (aA.trans (aE.trans (aI.trans aL)))) dJ fun q J=>by omega) aj az nV eK dk db
   · refine cn (vs:=[.bool false, .slice none 0 0, .slice none 0 0, .slice none 0 0]) rfl fun jh gM aE pN=>⟨aE,?_⟩
     have s2:=aE.size
     refine ⟨?_,?_⟩
     · refine (fM (pV.ext (aA.trans (aE))) (by omega) (by omega) (by omega) xq xr).use ?_
       rintro _ iF ⟨dV,dW,dX,yT,yU,yV,rfl,iD,aI⟩
       refine ⟨_,dV,dW,dX,rfl,aI,?_⟩
       have bY:=aI.size
       refine cn (vs:=[.bool false, .slice none 0 0, .slice none 0 0, .slice none 0 0]) rfl fun jW rJ aL z4=>⟨aL,?_⟩
       have cN:=aL.size
       have jX:=gM.ext (aI.trans (aL))
       have nW:=rJ
       refine ⟨jX.dA rfl (lJ _ _ _ _),rfl,ek jX (us:=[.bool a.leaf, .slice eY.a eY.len eY.cap, .slice eG.a eG.len eG.cap, .slice ei.a ei.len ei.cap]) rfl rfl fun xt iL dN t5=> ?_⟩
       have jY:=nW.an dN (by omega)
       refine ⟨jY.dA rfl (lJ _ _ _ _),rfl,ek jY (us:=[.bool b.leaf, .slice dV.a dV.len dV.cap, .slice dW.a dW.len dW.cap, .slice dX.a dX.len dX.cap]) rfl rfl fun fD jg fE t6=> ?_⟩
       obtain ⟨c2,iq⟩:∃c2,c2=kk.heap.size:=⟨_,rfl⟩
       obtain ⟨aK,fi⟩:∃aK,aK=iF.heap.size:=⟨_,rfl⟩
       rw[←iq] at iL dN
       rw[←fi] at jg fE
       rw[←iq,←fi]
       have dJ:ao (fun q=>q=c2∨q=aK) jW fD:=(dN.mono fun q _ h=> .inl h).trans (fE.mono fun q _ h=> .inr h)
       have nX:jU lo fD a eY eG ei l6 l7 l8:=(((bR.ext (aE.trans (aI.trans (aL)))).an dJ fun q _ _ J e=>by have rE:mP.heap.size≤q∧q<kk.heap.size:=(by rcases J with J|J|J;exact ⟨(bR.bT q J).1,(bR.bT q J).2.1⟩;exact ⟨(bR.bv q J).1,(bR.bv q J).2.1⟩;exact bR.a7 q J);omega).low (by omega))
       have nY:cd (fun q=>jh.heap.size≤q∧q<iF.heap.size) fD b dV dW dX:=((iD.at.bz fun q U ad=>⟨ad,U⟩).ext aL).an dJ fun q J e=>by omega
       have fF:∀q,l6 q∨l7 q∨l8 q→mP.heap.size≤q∧q<kk.heap.size:=fun q J=>by
         rcases J with J|J|J
         · exact ⟨(bR.bT q J).1,(bR.bT q J).2.1⟩
         · exact ⟨(bR.bv q J).1,(bR.bv q J).2.1⟩
         · exact bR.a7 q J
       exact vF (lo:=lo) (fA:=fD) (C:=fun q=>jh.heap.size≤q∧q<iF.heap.size) ((uj.ext (aA.trans (aE.trans (aI.trans aL)))).an dJ (by omega)).cell (iL.an fE (by omega)) jg nX nY (fun q J=>⟨by omega,by omega,by omega,by omega,fun h=>(by have:=fF q (.inl h);omega),fun h=>(by have:=fF q (.inr (.inl h));omega),fun h=>(by have:=fF q (.inr (.inr h));omega)⟩) (fun q J=>(by have:=fF q J;exact ⟨by omega,by omega⟩)) (by omega) (by omega) (by omega) ((vJ.ext (aA.trans (aE.trans (aI.trans aL)))).an dJ (by omega)) rfl (by omega) (by omega) ((lg.ext (aA.trans (aE.trans (aI.trans aL)))).an dJ fun q J e=>(by have:=vI q J;have:=mC.size;omega)) gw (Ext.gN (mC.trans (aA.trans (aE.trans (aI.trans aL)))) dJ fun q J=>by omega) aj az nV eK dk db
     · refine cn (vs:=[.bool false, .slice none 0 0, .slice none 0 0, .slice none 0 0]) rfl fun iF l3 aI z3=>⟨aI,?_⟩
       have bY:=aI.size
       refine (fM (pV.ext (aA.trans (aE.trans (aI)))) (by omega) (by omega) (by omega) xq xr).use ?_
       rintro _ jW ⟨dV,dW,dX,yT,yU,yV,rfl,iD,aL⟩
       refine ⟨_,dV,dW,dX,rfl,aL,?_⟩
       have cN:=aL.size
       have jX:=gM.ext (aI.trans (aL))
       have nW:=l3.ext aL
       refine ⟨jX.dA rfl (lJ _ _ _ _),rfl,ek jX (us:=[.bool a.leaf, .slice eY.a eY.len eY.cap, .slice eG.a eG.len eG.cap, .slice ei.a ei.len ei.cap]) rfl rfl fun xt iL dN t5=> ?_⟩
       have jY:=nW.an dN (by omega)
       refine ⟨jY.dA rfl (lJ _ _ _ _),rfl,ek jY (us:=[.bool b.leaf, .slice dV.a dV.len dV.cap, .slice dW.a dW.len dW.cap, .slice dX.a dX.len dX.cap]) rfl rfl fun fD jg fE t6=> ?_⟩
       obtain ⟨c2,iq⟩:∃c2,c2=kk.heap.size:=⟨_,rfl⟩
       obtain ⟨aK,fi⟩:∃aK,aK=jh.heap.size:=⟨_,rfl⟩
       rw[←iq] at iL dN
       rw[←fi] at jg fE
       rw[←iq,←fi]
       have dJ:ao (fun q=>q=c2∨q=aK) jW fD:=(dN.mono fun q _ h=> .inl h).trans (fE.mono fun q _ h=> .inr h)
       have nX:jU lo fD a eY eG ei l6 l7 l8:=(((bR.ext (aE.trans (aI.trans (aL)))).an dJ fun q _ _ J e=>by have rE:mP.heap.size≤q∧q<kk.heap.size:=(by rcases J with J|J|J;exact ⟨(bR.bT q J).1,(bR.bT q J).2.1⟩;exact ⟨(bR.bv q J).1,(bR.bv q J).2.1⟩;exact bR.a7 q J);omega).low (by omega))
       have nY:cd (fun q=>iF.heap.size≤q∧q<jW.heap.size) fD b dV dW dX:=(iD.at.bz fun q U ad=>⟨ad,U⟩).an dJ fun q J e=>by omega
       have fF:∀q,l6 q∨l7 q∨l8 q→mP.heap.size≤q∧q<kk.heap.size:=fun q J=>by
         rcases J with J|J|J
         · exact ⟨(bR.bT q J).1,(bR.bT q J).2.1⟩
         · exact ⟨(bR.bv q J).1,(bR.bv q J).2.1⟩
         · exact bR.a7 q J
       exact vF (lo:=lo) (fA:=fD) (C:=fun q=>iF.heap.size≤q∧q<jW.heap.size) ((uj.ext (aA.trans (aE.trans (aI.trans aL)))).an dJ (by omega)).cell (iL.an fE (by omega)) jg nX nY (fun q J=>⟨by omega,by omega,by omega,by omega,fun h=>(by have:=fF q (.inl h);omega),fun h=>(by have:=fF q (.inr (.inl h));omega),fun h=>(by have:=fF q (.inr (.inr h));omega)⟩) (fun q J=>(by have:=fF q J;exact ⟨by omega,by omega⟩)) (by omega) (by omega) (by omega) ((vJ.ext (aA.trans (aE.trans (aI.trans aL)))).an dJ (by omega)) rfl (by omega) (by omega) ((lg.ext (aA.trans (aE.trans (aI.trans aL)))).an dJ fun q J e=>(by have:=vI q J;have:=mC.size;omega)) gw (Ext.gN (mC.trans (aA.trans (aE.trans (aI.trans aL)))) dJ fun q J=>by omega) aj az nV eK dk db
   · refine cn (vs:=[.bool false, .slice none 0 0, .slice none 0 0, .slice none 0 0]) rfl fun jh gM aE pN=>⟨aE,?_⟩
     have s2:=aE.size
     refine ⟨?_,?_⟩
     · refine (fM (pV.ext (aA.trans (aE))) (by omega) (by omega) (by omega) xq xr).use ?_
       rintro _ iF ⟨dV,dW,dX,yT,yU,yV,rfl,iD,aI⟩
       refine ⟨_,dV,dW,dX,rfl,aI,?_⟩
       have bY:=aI.size
       refine cn (vs:=[.bool false, .slice none 0 0, .slice none 0 0, .slice none 0 0]) rfl fun jW rJ aL z4=>⟨aL,?_⟩
       have cN:=aL.size
       have jX:=rJ
       have nW:=gM.ext (aI.trans (aL))
       refine ⟨jX.dA rfl (lJ _ _ _ _),rfl,ek jX (us:=[.bool a.leaf, .slice eY.a eY.len eY.cap, .slice eG.a eG.len eG.cap, .slice ei.a ei.len ei.cap]) rfl rfl fun xt iL dN t5=> ?_⟩
       have jY:=nW.an dN (by omega)
       refine ⟨jY.dA rfl (lJ _ _ _ _),rfl,ek jY (us:=[.bool b.leaf, .slice dV.a dV.len dV.cap, .slice dW.a dW.len dW.cap, .slice dX.a dX.len dX.cap]) rfl rfl fun fD jg fE t6=> ?_⟩
       obtain ⟨c2,iq⟩:∃c2,c2=iF.heap.size:=⟨_,rfl⟩
       obtain ⟨aK,fi⟩:∃aK,aK=kk.heap.size:=⟨_,rfl⟩
       rw[←iq] at iL dN
       rw[←fi] at jg fE
       rw[←iq,←fi]
       have dJ:ao (fun q=>q=c2∨q=aK) jW fD:=(dN.mono fun q _ h=> .inl h).trans (fE.mono fun q _ h=> .inr h)
       have nX:jU lo fD a eY eG ei l6 l7 l8:=(((bR.ext (aE.trans (aI.trans (aL)))).an dJ fun q _ _ J e=>by have rE:mP.heap.size≤q∧q<kk.heap.size:=(by rcases J with J|J|J;exact ⟨(bR.bT q J).1,(bR.bT q J).2.1⟩;exact ⟨(bR.bv q J).1,(bR.bv q J).2.1⟩;exact bR.a7 q J);omega).low (by omega))
       have nY:cd (fun q=>jh.heap.size≤q∧q<iF.heap.size) fD b dV dW dX:=((iD.at.bz fun q U ad=>⟨ad,U⟩).ext aL).an dJ fun q J e=>by omega
       have fF:∀q,l6 q∨l7 q∨l8 q→mP.heap.size≤q∧q<kk.heap.size:=fun q J=>by
         rcases J with J|J|J
         · exact ⟨(bR.bT q J).1,(bR.bT q J).2.1⟩
         · exact ⟨(bR.bv q J).1,(bR.bv q J).2.1⟩
         · exact bR.a7 q J
       exact vF (lo:=lo) (fA:=fD) (C:=fun q=>jh.heap.size≤q∧q<iF.heap.size) ((uj.ext (aA.trans (aE.trans (aI.trans aL)))).an dJ (by omega)).cell (iL.an fE (by omega)) jg nX nY (fun q J=>⟨by omega,by omega,by omega,by omega,fun h=>(by have:=fF q (.inl h);omega),fun h=>(by have:=fF q (.inr (.inl h));omega),fun h=>(by have:=fF q (.inr (.inr h));omega)⟩) (fun q J=>(by have:=fF q J;exact ⟨by omega,by omega⟩)) (by omega) (by omega) (by omega) ((vJ.ext (aA.trans (aE.trans (aI.trans aL)))).an dJ (by omega)) rfl (by omega) (by omega) ((lg.ext (aA.trans (aE.trans (aI.trans aL)))).an dJ fun q J e=>(by have:=vI q J;have:=mC.size;omega)) gw (Ext.gN (mC.trans (aA.trans (aE.trans (aI.trans aL)))) dJ fun q J=>by omega) aj az nV eK dk db
     · refine cn (vs:=[.bool false, .slice none 0 0, .slice none 0 0, .slice none 0 0]) rfl fun iF l3 aI z3=>⟨aI,?_⟩
       have bY:=aI.size
       refine (fM (pV.ext (aA.trans (aE.trans (aI)))) (by omega) (by omega) (by omega) xq xr).use ?_
       rintro _ jW ⟨dV,dW,dX,yT,yU,yV,rfl,iD,aL⟩
       refine ⟨_,dV,dW,dX,rfl,aL,?_⟩
       have cN:=aL.size
       have jX:=l3.ext aL
       have nW:=gM.ext (aI.trans (aL))
       refine ⟨jX.dA rfl (lJ _ _ _ _),rfl,ek jX (us:=[.bool a.leaf, .slice eY.a eY.len eY.cap, .slice eG.a eG.len eG.cap, .slice ei.a ei.len ei.cap]) rfl rfl fun xt iL dN t5=> ?_⟩
       have jY:=nW.an dN (by omega)
       refine ⟨jY.dA rfl (lJ _ _ _ _),rfl,ek jY (us:=[.bool b.leaf, .slice dV.a dV.len dV.cap, .slice dW.a dW.len dW.cap, .slice dX.a dX.len dX.cap]) rfl rfl fun fD jg fE t6=> ?_⟩
       obtain ⟨c2,iq⟩:∃c2,c2=jh.heap.size:=⟨_,rfl⟩
       obtain ⟨aK,fi⟩:∃aK,aK=kk.heap.size:=⟨_,rfl⟩
       rw[←iq] at iL dN
       rw[←fi] at jg fE
       rw[←iq,←fi]
       have dJ:ao (fun q=>q=c2∨q=aK) jW fD:=(dN.mono fun q _ h=> .inl h).trans (fE.mono fun q _ h=> .inr h)
       have nX:jU lo fD a eY eG ei l6 l7 l8:=(((bR.ext (aE.trans (aI.trans (aL)))).an dJ fun q _ _ J e=>by have rE:mP.heap.size≤q∧q<kk.heap.size:=(by rcases J with J|J|J;exact ⟨(bR.bT q J).1,(bR.bT q J).2.1⟩;exact ⟨(bR.bv q J).1,(bR.bv q J).2.1⟩;exact bR.a7 q J);omega).low (by omega))
       have nY:cd (fun q=>iF.heap.size≤q∧q<jW.heap.size) fD b dV dW dX:=(iD.at.bz fun q U ad=>⟨ad,U⟩).an dJ fun q J e=>by omega
       have fF:∀q,l6 q∨l7 q∨l8 q→mP.heap.size≤q∧q<kk.heap.size:=fun q J=>by
         rcases J with J|J|J
         · exact ⟨(bR.bT q J).1,(bR.bT q J).2.1⟩
         · exact ⟨(bR.bv q J).1,(bR.bv q J).2.1⟩
         · exact bR.a7 q J
       exact vF (lo:=lo) (fA:=fD) (C:=fun q=>iF.heap.size≤q∧q<jW.heap.size) ((uj.ext (aA.trans (aE.trans (aI.trans aL)))).an dJ (by omega)).cell (iL.an fE (by omega)) jg nX nY (fun q J=>⟨by omega,by omega,by omega,by omega,fun h=>(by have:=fF q (.inl h);omega),fun h=>(by have:=fF q (.inr (.inl h));omega),fun h=>(by have:=fF q (.inr (.inr h));omega)⟩) (fun q J=>(by have:=fF q J;exact ⟨by omega,by omega⟩)) (by omega) (by omega) (by omega) ((vJ.ext (aA.trans (aE.trans (aI.trans aL)))).an dJ (by omega)) rfl (by omega) (by omega) ((lg.ext (aA.trans (aE.trans (aI.trans aL)))).an dJ fun q J e=>(by have:=vI q J;have:=mC.size;omega)) gw (Ext.gN (mC.trans (aA.trans (aE.trans (aI.trans aL)))) dJ fun q J=>by omega) aj az nV eK dk db
 · refine cn (vs:=[.bool false, .slice none 0 0, .slice none 0 0, .slice none 0 0]) rfl fun kk mL aA dx=>⟨aA,?_⟩
   have s1:=aA.size
   refine ⟨?_,?_⟩
   · refine (fM (KI.ext aA) (by omega) (by omega) (by omega) KG KH).use ?_
     rintro _ jh ⟨eY,eG,ei,l6,l7,l8,rfl,bR,aE⟩
     refine ⟨_,eY,eG,ei,rfl,aE,?_⟩
     have s2:=aE.size
     refine ⟨?_,?_⟩
     · refine (fM (pV.ext (aA.trans (aE))) (by omega) (by omega) (by omega) xq xr).use ?_
       rintro _ iF ⟨dV,dW,dX,yT,yU,yV,rfl,iD,aI⟩
       refine ⟨_,dV,dW,dX,rfl,aI,?_⟩
       have bY:=aI.size
       refine cn (vs:=[.bool false, .slice none 0 0, .slice none 0 0, .slice none 0 0]) rfl fun jW rJ aL z4=>⟨aL,?_⟩
       have cN:=aL.size
       have jX:=mL.ext (aE.trans (aI.trans (aL)))
       have nW:=rJ
       refine ⟨jX.dA rfl (lJ _ _ _ _),rfl,ek jX (us:=[.bool a.leaf, .slice eY.a eY.len eY.cap, .slice eG.a eG.len eG.cap, .slice ei.a ei.len ei.cap]) rfl rfl fun xt iL dN t5=> ?_⟩
       have jY:=nW.an dN (by omega)
       refine ⟨jY.dA rfl (lJ _ _ _ _),rfl,ek jY (us:=[.bool b.leaf, .slice dV.a dV.len dV.cap, .slice dW.a dW.len dW.cap, .slice dX.a dX.len dX.cap]) rfl rfl fun fD jg fE t6=> ?_⟩
       obtain ⟨c2,iq⟩:∃c2,c2=mP.heap.size:=⟨_,rfl⟩
       obtain ⟨aK,fi⟩:∃aK,aK=iF.heap.size:=⟨_,rfl⟩
       rw[←iq] at iL dN
       rw[←fi] at jg fE
       rw[←iq,←fi]
       have dJ:ao (fun q=>q=c2∨q=aK) jW fD:=(dN.mono fun q _ h=> .inl h).trans (fE.mono fun q _ h=> .inr h)
       have nX:jU lo fD a eY eG ei l6 l7 l8:=(((bR.ext (aI.trans (aL))).an dJ fun q _ _ J e=>by have rE:kk.heap.size≤q∧q<jh.heap.size:=(by rcases J with J|J|J;exact ⟨(bR.bT q J).1,(bR.bT q J).2.1⟩;exact ⟨(bR.bv q J).1,(bR.bv q J).2.1⟩;exact bR.a7 q J);omega).low (by omega))
       have nY:cd (fun q=>jh.heap.size≤q∧q<iF.heap.size) fD b dV dW dX:=((iD.at.bz fun q U ad=>⟨ad,U⟩).ext aL).an dJ fun q J e=>by omega
       have fF:∀q,l6 q∨l7 q∨l8 q→kk.heap.size≤q∧q<jh.heap.size:=fun q J=>by
         rcases J with J|J|J
         · exact ⟨(bR.bT q J).1,(bR.bT q J).2.1⟩
         · exact ⟨(bR.bv q J).1,(bR.bv q J).2.1⟩
         · exact bR.a7 q J
       exact vF (lo:=lo) (fA:=fD) (C:=fun q=>jh.heap.size≤q∧q<iF.heap.size) ((uj.ext (aA.trans (aE.trans (aI.trans aL)))).an dJ (by omega)).cell (iL.an fE (by omega)) jg nX nY (fun q J=>⟨by omega,by omega,by omega,by omega,fun h=>(by have:=fF q (.inl h);omega),fun h=>(by have:=fF q (.inr (.inl h));omega),fun h=>(by have:=fF q (.inr (.inr h));omega)⟩) (fun q J=>(by have:=fF q J;exact ⟨by omega,by omega⟩)) (by omega) (by omega) (by omega) ((vJ.ext (aA.trans (aE.trans (aI.trans aL)))).an dJ (by omega)) rfl (by omega) (by omega) ((lg.ext (aA.trans (aE.trans (aI.trans aL)))).an dJ fun q J e=>(by have:=vI q J;have:=mC.size;omega)) gw (Ext.gN (mC.trans (aA.trans (aE.trans (aI.trans aL)))) dJ fun q J=>by omega) aj az nV eK dk db
     · refine cn (vs:=[.bool false, .slice none 0 0, .slice none 0 0, .slice none 0 0]) rfl fun iF l3 aI z3=>⟨aI,?_⟩
       have bY:=aI.size
       refine (fM (pV.ext (aA.trans (aE.trans (aI)))) (by omega) (by omega) (by omega) xq xr).use ?_
       rintro _ jW ⟨dV,dW,dX,yT,yU,yV,rfl,iD,aL⟩
       refine ⟨_,dV,dW,dX,rfl,aL,?_⟩
       have cN:=aL.size
       have jX:=mL.ext (aE.trans (aI.trans (aL)))
       have nW:=l3.ext aL
       refine ⟨jX.dA rfl (lJ _ _ _ _),rfl,ek jX (us:=[.bool a.leaf, .slice eY.a eY.len eY.cap, .slice eG.a eG.len eG.cap, .slice ei.a ei.len ei.cap]) rfl rfl fun xt iL dN t5=> ?_⟩
       have jY:=nW.an dN (by omega)
       refine ⟨jY.dA rfl (lJ _ _ _ _),rfl,ek jY (us:=[.bool b.leaf, .slice dV.a dV.len dV.cap, .slice dW.a dW.len dW.cap, .slice dX.a dX.len dX.cap]) rfl rfl fun fD jg fE t6=> ?_⟩
       obtain ⟨c2,iq⟩:∃c2,c2=mP.heap.size:=⟨_,rfl⟩
       obtain ⟨aK,fi⟩:∃aK,aK=jh.heap.size:=⟨_,rfl⟩
       rw[←iq] at iL dN
       rw[←fi] at jg fE
       rw[←iq,←fi]
       have dJ:ao (fun q=>q=c2∨q=aK) jW fD:=(dN.mono fun q _ h=> .inl h).trans (fE.mono fun q _ h=> .inr h)
       have nX:jU lo fD a eY eG ei l6 l7 l8:=(((bR.ext (aI.trans (aL))).an dJ fun q _ _ J e=>by have rE:kk.heap.size≤q∧q<jh.heap.size:=(by rcases J with J|J|J;exact ⟨(bR.bT q J).1,(bR.bT q J).2.1⟩;exact ⟨(bR.bv q J).1,(bR.bv q J).2.1⟩;exact bR.a7 q J);omega).low (by omega))
       have nY:cd (fun q=>iF.heap.size≤q∧q<jW.heap.size) fD b dV dW dX:=(iD.at.bz fun q U ad=>⟨ad,U⟩).an dJ fun q J e=>by omega
       have fF:∀q,l6 q∨l7 q∨l8 q→kk.heap.size≤q∧q<jh.heap.size:=fun q J=>by
         rcases J with J|J|J
         · exact ⟨(bR.bT q J).1,(bR.bT q J).2.1⟩
         · exact ⟨(bR.bv q J).1,(bR.bv q J).2.1⟩
         · exact bR.a7 q J
       exact vF (lo:=lo) (fA:=fD) (C:=fun q=>iF.heap.size≤q∧q<jW.heap.size) ((uj.ext (aA.trans (aE.trans (aI.trans aL)))).an dJ (by omega)).cell (iL.an fE (by omega)) jg nX nY (fun q J=>⟨by omega,by omega,by omega,by omega,fun h=>(by have:=fF q (.inl h);omega),fun h=>(by have:=fF q (.inr (.inl h));omega),fun h=>(by have:=fF q (.inr (.inr h));omega)⟩) (fun q J=>(by have:=fF q J;exact ⟨by omega,by omega⟩)) (by omega) (by omega) (by omega) ((vJ.ext (aA.trans (aE.trans (aI.trans aL)))).an dJ (by omega)) rfl (by omega) (by omega) ((lg.ext (aA.trans (aE.trans (aI.trans aL)))).an dJ fun q J e=>(by have:=vI q J;have:=mC.size;omega)) gw (Ext.gN (mC.trans (aA.trans (aE.trans (aI.trans aL)))) dJ fun q J=>by omega) aj az nV eK dk db
   · refine cn (vs:=[.bool false, .slice none 0 0, .slice none 0 0, .slice none 0 0]) rfl fun jh gM aE pN=>⟨aE,?_⟩
     have s2:=aE.size
     refine (fM (KI.ext (aA.trans (aE))) (by omega) (by omega) (by omega) KG KH).use ?_
     rintro _ iF ⟨eY,eG,ei,l6,l7,l8,rfl,bR,aI⟩
     refine ⟨_,eY,eG,ei,rfl,aI,?_⟩
     have bY:=aI.size
     refine (fM (pV.ext (aA.trans (aE.trans (aI)))) (by omega) (by omega) (by omega) xq xr).use ?_
     rintro _ jW ⟨dV,dW,dX,yT,yU,yV,rfl,iD,aL⟩
     refine ⟨_,dV,dW,dX,rfl,aL,?_⟩
     have cN:=aL.size
     have jX:=mL.ext (aE.trans (aI.trans (aL)))
     have nW:=gM.ext (aI.trans (aL))
     refine ⟨jX.dA rfl (lJ _ _ _ _),rfl,ek jX (us:=[.bool a.leaf, .slice eY.a eY.len eY.cap, .slice eG.a eG.len eG.cap, .slice ei.a ei.len ei.cap]) rfl rfl fun xt iL dN t5=> ?_⟩
     have jY:=nW.an dN (by omega)
     refine ⟨jY.dA rfl (lJ _ _ _ _),rfl,ek jY (us:=[.bool b.leaf, .slice dV.a dV.len dV.cap, .slice dW.a dW.len dW.cap, .slice dX.a dX.len dX.cap]) rfl rfl fun fD jg fE t6=> ?_⟩
     obtain ⟨c2,iq⟩:∃c2,c2=mP.heap.size:=⟨_,rfl⟩
     obtain ⟨aK,fi⟩:∃aK,aK=kk.heap.size:=⟨_,rfl⟩
     rw[←iq] at iL dN
     rw[←fi] at jg fE
     rw[←iq,←fi]
     have dJ:ao (fun q=>q=c2∨q=aK) jW fD:=(dN.mono fun q _ h=> .inl h).trans (fE.mono fun q _ h=> .inr h)
     have nX:jU lo fD a eY eG ei l6 l7 l8:=(((bR.ext aL).an dJ fun q _ _ J e=>by have rE:jh.heap.size≤q∧q<iF.heap.size:=(by rcases J with J|J|J;exact ⟨(bR.bT q J).1,(bR.bT q J).2.1⟩;exact ⟨(bR.bv q J).1,(bR.bv q J).2.1⟩;exact bR.a7 q J);omega).low (by omega))
     have nY:cd (fun q=>iF.heap.size≤q∧q<jW.heap.size) fD b dV dW dX:=(iD.at.bz fun q U ad=>⟨ad,U⟩).an dJ fun q J e=>by omega
     have fF:∀q,l6 q∨l7 q∨l8 q→jh.heap.size≤q∧q<iF.heap.size:=fun q J=>by
       rcases J with J|J|J
       · exact ⟨(bR.bT q J).1,(bR.bT q J).2.1⟩
       · exact ⟨(bR.bv q J).1,(bR.bv q J).2.1⟩
       · exact bR.a7 q J
     exact vF (lo:=lo) (fA:=fD) (C:=fun q=>iF.heap.size≤q∧q<jW.heap.size) ((uj.ext (aA.trans (aE.trans (aI.trans aL)))).an dJ (by omega)).cell (iL.an fE (by omega)) jg nX nY (fun q J=>⟨by omega,by omega,by omega,by omega,fun h=>(by have:=fF q (.inl h);omega),fun h=>(by have:=fF q (.inr (.inl h));omega),fun h=>(by have:=fF q (.inr (.inr h));omega)⟩) (fun q J=>(by have:=fF q J;exact ⟨by omega,by omega⟩)) (by omega) (by omega) (by omega) ((vJ.ext (aA.trans (aE.trans (aI.trans aL)))).an dJ (by omega)) rfl (by omega) (by omega) ((lg.ext (aA.trans (aE.trans (aI.trans aL)))).an dJ fun q J e=>(by have:=vI q J;have:=mC.size;omega)) gw (Ext.gN (mC.trans (aA.trans (aE.trans (aI.trans aL)))) dJ fun q J=>by omega) aj az nV eK dk db
 · refine cn (vs:=[.bool false, .slice none 0 0, .slice none 0 0, .slice none 0 0]) rfl fun kk mL aA dx=>⟨aA,?_⟩
   have s1:=aA.size
   refine ⟨?_,?_⟩
   · refine (fM (KI.ext aA) (by omega) (by omega) (by omega) KG KH).use ?_
     rintro _ jh ⟨eY,eG,ei,l6,l7,l8,rfl,bR,aE⟩
     refine ⟨_,eY,eG,ei,rfl,aE,?_⟩
     have s2:=aE.size
     refine ⟨?_,?_⟩
     · refine (fM (pV.ext (aA.trans (aE))) (by omega) (by omega) (by omega) xq xr).use ?_
       rintro _ iF ⟨dV,dW,dX,yT,yU,yV,rfl,iD,aI⟩
       refine ⟨_,dV,dW,dX,rfl,aI,?_⟩
       have bY:=aI.size
       refine cn (vs:=[.bool false, .slice none 0 0, .slice none 0 0, .slice none 0 0]) rfl fun jW rJ aL z4=>⟨aL,?_⟩
       have cN:=aL.size
       have jX:=rJ
       have nW:=mL.ext (aE.trans (aI.trans (aL)))
       refine ⟨jX.dA rfl (lJ _ _ _ _),rfl,ek jX (us:=[.bool a.leaf, .slice eY.a eY.len eY.cap, .slice eG.a eG.len eG.cap, .slice ei.a ei.len ei.cap]) rfl rfl fun xt iL dN t5=> ?_⟩
       have jY:=nW.an dN (by omega)
       refine ⟨jY.dA rfl (lJ _ _ _ _),rfl,ek jY (us:=[.bool b.leaf, .slice dV.a dV.len dV.cap, .slice dW.a dW.len dW.cap, .slice dX.a dX.len dX.cap]) rfl rfl fun fD jg fE t6=> ?_⟩
       obtain ⟨c2,iq⟩:∃c2,c2=iF.heap.size:=⟨_,rfl⟩
       obtain ⟨aK,fi⟩:∃aK,aK=mP.heap.size:=⟨_,rfl⟩
       rw[←iq] at iL dN
       rw[←fi] at jg fE
       rw[←iq,←fi]
       have dJ:ao (fun q=>q=c2∨q=aK) jW fD:=(dN.mono fun q _ h=> .inl h).trans (fE.mono fun q _ h=> .inr h)
       have nX:jU lo fD a eY eG ei l6 l7 l8:=(((bR.ext (aI.trans (aL))).an dJ fun q _ _ J e=>by have rE:kk.heap.size≤q∧q<jh.heap.size:=(by rcases J with J|J|J;exact ⟨(bR.bT q J).1,(bR.bT q J).2.1⟩;exact ⟨(bR.bv q J).1,(bR.bv q J).2.1⟩;exact bR.a7 q J);omega).low (by omega))
       have nY:cd (fun q=>jh.heap.size≤q∧q<iF.heap.size) fD b dV dW dX:=((iD.at.bz fun q U ad=>⟨ad,U⟩).ext aL).an dJ fun q J e=>by omega
       have fF:∀q,l6 q∨l7 q∨l8 q→kk.heap.size≤q∧q<jh.heap.size:=fun q J=>by
         rcases J with J|J|J
         · exact ⟨(bR.bT q J).1,(bR.bT q J).2.1⟩
         · exact ⟨(bR.bv q J).1,(bR.bv q J).2.1⟩
         · exact bR.a7 q J
       exact vF (lo:=lo) (fA:=fD) (C:=fun q=>jh.heap.size≤q∧q<iF.heap.size) ((uj.ext (aA.trans (aE.trans (aI.trans aL)))).an dJ (by omega)).cell (iL.an fE (by omega)) jg nX nY (fun q J=>⟨by omega,by omega,by omega,by omega,fun h=>(by have:=fF q (.inl h);omega),fun h=>(by have:=fF q (.inr (.inl h));omega),fun h=>(by have:=fF q (.inr (.inr h));omega)⟩) (fun q J=>(by have:=fF q J;exact ⟨by omega,by omega⟩)) (by omega) (by omega) (by omega) ((vJ.ext (aA.trans (aE.trans (aI.trans aL)))).an dJ (by omega)) rfl (by omega) (by omega) ((lg.ext (aA.trans (aE.trans (aI.trans aL)))).an dJ fun q J e=>(by have:=vI q J;have:=mC.size;omega)) gw (Ext.gN (mC.trans (aA.trans (aE.trans (aI.trans aL)))) dJ fun q J=>by omega) aj az nV eK dk db
     · refine cn (vs:=[.bool false, .slice none 0 0, .slice none 0 0, .slice none 0 0]) rfl fun iF l3 aI z3=>⟨aI,?_⟩
       have bY:=aI.size
       refine (fM (pV.ext (aA.trans (aE.trans (aI)))) (by omega) (by omega) (by omega) xq xr).use ?_
       rintro _ jW ⟨dV,dW,dX,yT,yU,yV,rfl,iD,aL⟩
       refine ⟨_,dV,dW,dX,rfl,aL,?_⟩
       have cN:=aL.size
       have jX:=l3.ext aL
       have nW:=mL.ext (aE.trans (aI.trans (aL)))
       refine ⟨jX.dA rfl (lJ _ _ _ _),rfl,ek jX (us:=[.bool a.leaf, .slice eY.a eY.len eY.cap, .slice eG.a eG.len eG.cap, .slice ei.a ei.len ei.cap]) rfl rfl fun xt iL dN t5=> ?_⟩
       have jY:=nW.an dN (by omega)
       refine ⟨jY.dA rfl (lJ _ _ _ _),rfl,ek jY (us:=[.bool b.leaf, .slice dV.a dV.len dV.cap, .slice dW.a dW.len dW.cap, .slice dX.a dX.len dX.cap]) rfl rfl fun fD jg fE t6=> ?_⟩
       obtain ⟨c2,iq⟩:∃c2,c2=jh.heap.size:=⟨_,rfl⟩
       obtain ⟨aK,fi⟩:∃aK,aK=mP.heap.size:=⟨_,rfl⟩
       rw[←iq] at iL dN
       rw[←fi] at jg fE
       rw[←iq,←fi]
       have dJ:ao (fun q=>q=c2∨q=aK) jW fD:=(dN.mono fun q _ h=> .inl h).trans (fE.mono fun q _ h=> .inr h)
       have nX:jU lo fD a eY eG ei l6 l7 l8:=(((bR.ext (aI.trans (aL))).an dJ fun q _ _ J e=>by have rE:kk.heap.size≤q∧q<jh.heap.size:=(by rcases J with J|J|J;exact ⟨(bR.bT q J).1,(bR.bT q J).2.1⟩;exact ⟨(bR.bv q J).1,(bR.bv q J).2.1⟩;exact bR.a7 q J);omega).low (by omega))
       have nY:cd (fun q=>iF.heap.size≤q∧q<jW.heap.size) fD b dV dW dX:=(iD.at.bz fun q U ad=>⟨ad,U⟩).an dJ fun q J e=>by omega
       have fF:∀q,l6 q∨l7 q∨l8 q→kk.heap.size≤q∧q<jh.heap.size:=fun q J=>by
         rcases J with J|J|J
         · exact ⟨(bR.bT q J).1,(bR.bT q J).2.1⟩
         · exact ⟨(bR.bv q J).1,(bR.bv q J).2.1⟩
         · exact bR.a7 q J
       exact vF (lo:=lo) (fA:=fD) (C:=fun q=>iF.heap.size≤q∧q<jW.heap.size) ((uj.ext (aA.trans (aE.trans (aI.trans aL)))).an dJ (by omega)).cell (iL.an fE (by omega)) jg nX nY (fun q J=>⟨by omega,by omega,by omega,by omega,fun h=>(by have:=fF q (.inl h);omega),fun h=>(by have:=fF q (.inr (.inl h));omega),fun h=>(by have:=fF q (.inr (.inr h));omega)⟩) (fun q J=>(by have:=fF q J;exact ⟨by omega,by omega⟩)) (by omega) (by omega) (by omega) ((vJ.ext (aA.trans (aE.trans (aI.trans aL)))).an dJ (by omega)) rfl (by omega) (by omega) ((lg.ext (aA.trans (aE.trans (aI.trans aL)))).an dJ fun q J e=>(by have:=vI q J;have:=mC.size;omega)) gw (Ext.gN (mC.trans (aA.trans (aE.trans (aI.trans aL)))) dJ fun q J=>by omega) aj az nV eK dk db
   · refine cn (vs:=[.bool false, .slice none 0 0, .slice none 0 0, .slice none 0 0]) rfl fun jh gM aE pN=>⟨aE,?_⟩
     have s2:=aE.size
     refine (fM (KI.ext (aA.trans (aE))) (by omega) (by omega) (by omega) KG KH).use ?_
     rintro _ iF ⟨eY,eG,ei,l6,l7,l8,rfl,bR,aI⟩
     refine ⟨_,eY,eG,ei,rfl,aI,?_⟩
     have bY:=aI.size
     refine (fM (pV.ext (aA.trans (aE.trans (aI)))) (by omega) (by omega) (by omega) xq xr).use ?_
     rintro _ jW ⟨dV,dW,dX,yT,yU,yV,rfl,iD,aL⟩
     refine ⟨_,dV,dW,dX,rfl,aL,?_⟩
     have cN:=aL.size
     have jX:=gM.ext (aI.trans (aL))
     have nW:=mL.ext (aE.trans (aI.trans (aL)))
     refine ⟨jX.dA rfl (lJ _ _ _ _),rfl,ek jX (us:=[.bool a.leaf, .slice eY.a eY.len eY.cap, .slice eG.a eG.len eG.cap, .slice ei.a ei.len ei.cap]) rfl rfl fun xt iL dN t5=> ?_⟩
     have jY:=nW.an dN (by omega)
     refine ⟨jY.dA rfl (lJ _ _ _ _),rfl,ek jY (us:=[.bool b.leaf, .slice dV.a dV.len dV.cap, .slice dW.a dW.len dW.cap, .slice dX.a dX.len dX.cap]) rfl rfl fun fD jg fE t6=> ?_⟩
     obtain ⟨c2,iq⟩:∃c2,c2=kk.heap.size:=⟨_,rfl⟩
     obtain ⟨aK,fi⟩:∃aK,aK=mP.heap.size:=⟨_,rfl⟩
     rw[←iq] at iL dN
     rw[←fi] at jg fE
     rw[←iq,←fi]
     have dJ:ao (fun q=>q=c2∨q=aK) jW fD:=(dN.mono fun q _ h=> .inl h).trans (fE.mono fun q _ h=> .inr h)
     have nX:jU lo fD a eY eG ei l6 l7 l8:=(((bR.ext aL).an dJ fun q _ _ J e=>by have rE:jh.heap.size≤q∧q<iF.heap.size:=(by rcases J with J|J|J;exact ⟨(bR.bT q J).1,(bR.bT q J).2.1⟩;exact ⟨(bR.bv q J).1,(bR.bv q J).2.1⟩;exact bR.a7 q J);omega).low (by omega))
     have nY:cd (fun q=>iF.heap.size≤q∧q<jW.heap.size) fD b dV dW dX:=(iD.at.bz fun q U ad=>⟨ad,U⟩).an dJ fun q J e=>by omega
     have fF:∀q,l6 q∨l7 q∨l8 q→jh.heap.size≤q∧q<iF.heap.size:=fun q J=>by
       rcases J with J|J|J
       · exact ⟨(bR.bT q J).1,(bR.bT q J).2.1⟩
       · exact ⟨(bR.bv q J).1,(bR.bv q J).2.1⟩
       · exact bR.a7 q J
     exact vF (lo:=lo) (fA:=fD) (C:=fun q=>iF.heap.size≤q∧q<jW.heap.size) ((uj.ext (aA.trans (aE.trans (aI.trans aL)))).an dJ (by omega)).cell (iL.an fE (by omega)) jg nX nY (fun q J=>⟨by omega,by omega,by omega,by omega,fun h=>(by have:=fF q (.inl h);omega),fun h=>(by have:=fF q (.inr (.inl h));omega),fun h=>(by have:=fF q (.inr (.inr h));omega)⟩) (fun q J=>(by have:=fF q J;exact ⟨by omega,by omega⟩)) (by omega) (by omega) (by omega) ((vJ.ext (aA.trans (aE.trans (aI.trans aL)))).an dJ (by omega)) rfl (by omega) (by omega) ((lg.ext (aA.trans (aE.trans (aI.trans aL)))).an dJ fun q J e=>(by have:=vI q J;have:=mC.size;omega)) gw (Ext.gN (mC.trans (aA.trans (aE.trans (aI.trans aL)))) dJ fun q J=>by omega) aj az nV eK dk db
end
section
section
variable {α:Type} {c:α→List Value} {sz:Nat}
def cI (c:α→List Value) (l:List α):List Value:=(l.map c).flatten
theorem yW (l m:List α):cI c (l++m)=cI c l++cI c m:=by simp[cI]
theorem HD (x:α) (l:List α):cI c (x::l)=c x++cI c l:=rfl
theorem oC:∀ (l:List α),(∀x∈l,(c x).length=sz)→(cI c l).length=l.length*sz
 | [],_=>by simp[cI]
 |x::l,h=>by
   rw[HD,dU,h x (by simp),oC l fun y b3=>h y (by simp[b3]),ld,wE];omega
theorem ak0 {l:List α} {i:Nat} (h:i<l.length):l=l.take i++l[i]::l.drop (i+1):=by rw[←tQ h,qd]
theorem S5 {l:List α} (al:∀x∈l,(c x).length=sz) {i:Nat} (h:i<l.length):(cI c l).take (i*sz)=cI c (l.take i)∧(cI c l).drop (i*sz)=c l[i]++cI c (l.drop (i+1)):=by
 have az:(cI c (l.take i)).length=i*sz:=by
   rw[oC _ fun x af=>al x (kM af),d_,r_ (by omega)]
 have e:cI c l=cI c (l.take i)++(c l[i]++cI c (l.drop (i+1))):=by
   conv=>lhs;rw[ak0 h]
   rw[yW,HD]
 rw[e]
 exact ⟨Ad az,drop_left' az⟩
theorem ZS {l:List α} (al:∀x∈l,(c x).length=sz) {i:Nat} (h:i<l.length):((cI c l).drop (i*sz)).take sz=c l[i]:=by
 rw[(S5 al h).2]
 exact Ad (al _ (fg h))
theorem KJ {l:List α} (al:∀x∈l,(c x).length=sz) {i j:Nat} (h:i<l.length) (a_:j<sz):(cI c l)[i*sz+j]? =(c l[i])[j]? :=by
 rw[←ZS al h,List.getElem?_take_of_lt a_,Ns]
theorem ak1 {l:List α} (al:∀x∈l,(c x).length=sz) {i:Nat} (h:i<l.length) (x:α):(cI c l).take (i*sz)++c x++(cI c l).drop (i*sz+sz)=cI c (l.set i x):=by
 have U:=S5 al h
 have ad:(cI c l).drop (i*sz+sz)=cI c (l.drop (i+1)):=by
   rw[←JB,U.2]
   exact drop_left' (al _ (fg h))
 rw[U.1,ad,List.set_eq_take_append_cons_drop,if_pos h,yW,HD,eL]
theorem ak2 {l:List α} (al:∀x∈l,(c x).length=sz) {i j:Nat} (h:i<l.length) (a_:j<sz) {x:α} {v:Value} (af:c x=(c l[i]).set j v):(cI c l).set (i*sz+j) v=cI c (l.set i x):=by
 have az:(c l[i]).length=sz:=al _ (fg h)
 have U:=S5 al h
 have e:cI c l=cI c (l.take i)++(c l[i]++cI c (l.drop (i+1))):=by
   conv=>lhs;rw[←qd (i*sz) (cI c l),U.1,U.2]
 have rz:(cI c (l.take i)).length=i*sz:=by
   rw[oC _ fun x af=>al x (kM af),d_,r_ (by omega)]
 rw[e,List.set_append_right _ _ (by omega),show i*sz+j-(cI c (l.take i)).length=j by omega,List.set_append_left _ _ (by omega),←af,List.set_eq_take_append_cons_drop,if_pos h,yW,HD]
end
section
variable {α:Type} [DecidableEq α] {P:Program} {w:World} {sw HE T:TypeId} {enc:α→Value} {r:Nat} {M:List (α×Value)} {k:α} {v:Value}
theorem ak3 (bu:CW P sw enc) (bm:P.underlying T=some (.map sw HE)) (h:kE w r enc M) (hm:∀v,(k,v)∉M) (v:Value):
   ∃ag:World,(Instr.mapUpdate T (.map (some r)) (enc k) v).run P w= .ok () ag∧ao (fun q=>q=r) w ag∧ag.heap.size=w.heap.size∧kE ag r enc ((k,v)::M):=by
 have bd:=h.lt
 obtain ⟨L,k5,h,U,ad,au,aJ⟩:=h
 have nw:=ZT U hm
 have aH:=bu.find L k w
 rw[S6 nw] at aH
 refine ⟨xu w r (.map ((L.map (rK enc)).toArray.push ⟨enc k,v,k5⟩) (k5+1)),?_,ZU _ _ _,ZV _ _ _,L++ [(k,v,k5)],k5+1,?_,?_,?_,?_,?_⟩
 · simp only[Instr.mapUpdate,Sem.run_bind,gj bm,Result.andThen,OJ h,Sem.run_pure,bu.check,aH,ZW h]
 · rw[ZX bd]
   simp[rK]
 · rw[om]
   have:([(k,v,k5)]:List (α×Value×Nat)).map Fq=[(k,v)]:=rfl
   rw[this]
   exact (JC).trans (List.Perm.cons _ U)
 · rw[om,JI]
   refine ⟨ad,by simp,fun a aR b ab=> ?_⟩
   obtain ⟨x,af,rfl⟩:=nq.1 aR
   simp only[tR,List.map_nil,lV] at ab
   subst ab
   exact nw x af
 · rw[om,JI]
   refine ⟨au,by simp,fun a aR b ab=> ?_⟩
   obtain ⟨x,af,rfl⟩:=nq.1 aR
   simp only[tR,List.map_nil,lV] at ab
   subst ab
   have:=aJ x af
   omega
 · intro x af
   rcases e8.1 af with af|af
   · have:=aJ x af;omega
   · rw[lV.1 af];show k5<k5+1;omega
theorem ak4 (bu:CW P sw enc) (bm:P.underlying T=some (.map sw HE)) (h:kE w r enc ((k,v)::M)) (uk:Value):
   ∃ag:World,(Instr.mapUpdate T (.map (some r)) (enc k) uk).run P w= .ok () ag∧ao (fun q=>q=r) w ag∧ag.heap.size=w.heap.size∧kE ag r enc ((k,uk)::M):=by
 have bd:=h.lt
 obtain ⟨n,bX,cf,fb,k5,h,U,ad,au,aJ,_⟩:=h.split
 have aH:=bu.find (bX++(k,v,fb)::cf) k w
 rw[S7 (ZY ad),gz] at aH
 have bf:((bX++(k,v,fb)::cf).map (rK enc)).toArray[bX.length]? =some ⟨enc k,v,fb⟩:=by simp[rK]
 have ak5:((bX++(k,v,fb)::cf).map (rK enc)).toArray.modify bX.length (fun e=>{e with key:=enc k,val:=uk})=((bX++(k,uk,fb)::cf).map (rK enc)).toArray:=by
   apply Array.toList_inj.1
   rw[Array.toList_modify,om,tR]
   have:=ZZ (fun e=>{e with key:=enc k,val:=uk}) (rK enc (k,v,fb)) (cf.map (rK enc)) (bX.map (rK enc))
   rw[lf] at this
   rw[this]
   simp[rK]
 refine ⟨xu w r (.map ((bX++(k,uk,fb)::cf).map (rK enc)).toArray k5),?_,ZU _ _ _,ZV _ _ _,bX++(k,uk,fb)::cf,k5,ZX bd _,?_,?_,?_,?_⟩
 · simp only[Instr.mapUpdate,Sem.run_bind,gj bm,Result.andThen,OJ h,Sem.run_pure,bu.check,aH,bf,yg,Option.getD_some,Instr.keyThatStays,bu.bits,if_true,ZW h,ak5]
 · rw[om,tR]
   rw[om] at U
   exact Cd.trans (U.cons _)
 · simpa using ad
 · simpa using au
 · intro x af
   rcases e8.1 af with af|af
   · exact aJ x (by simp[af])
   · rcases gb.1 af with rfl|af
     · exact aJ (k,v,fb) (by simp)
     · exact aJ x (by simp[af])
end
abbrev mD:=List UInt8
structure pW where
 i:Nat
 s:aa
 rL:List mD
structure dF where
 d:Nat
 ie:Nat
 jZ:Nat
 fN:List Int
 gQ:List mD
 waits:List pW
 writes:Int
 cR:Nat
def pW.e (x:pW):Int×Value:=((x.i:Int), .slice x.s.a x.s.len x.s.cap)
def dF.c (D:dF):List Value:=D.fN.map (.int .i64)++ [.slice (some ⟨D.ie,0,none⟩) D.gQ.length D.gQ.length, .map (some D.jZ), .int .i64 D.writes]
def dF.n (D:dF):Nat:=D.gQ.length
abbrev encZ:Int→Value:=fun n=> .int .i64 n
theorem HF:CW Tryz.prog ah.int encZ:=CW.int (by kernel_rfl)
theorem HG:Tryz.prog.underlying ah.AH=some (.map ah.int ah.um):=by kernel_rfl
theorem Z0:(Tryz.prog.info? ah.um).bind (·.zero)=some (.slice none 0 0):=by kernel_rfl
theorem KK {P:Program} {T:TypeId} {z:Value} (h:(P.info? T).bind (·.zero)=some z):∃i,P.info? T=some i∧i.zero=some z:=by
 cases hi:P.info? T with
 |none=>rw[hi] at h;cases h
 |some i=>rw[hi] at h;exact ⟨i,rfl,h⟩
def nB (D:dF) (q:Nat):Prop:=q=D.d∨q=D.ie∨q=D.jZ∨∃x∈D.waits,aO x.s q
structure ji (w:World) (D:dF):Prop where
 v:Var w D.d D.c ah.OK
 l:ct w D.ie (cI bn D.gQ).toArray ah.o0
 m:kE w D.jZ encZ (D.waits.map pW.e)
 ws:∀x∈D.waits,bV 256 ah.o0 w x.s (cI bn x.rL)
 wn:∀x∈D.waits,x.rL≠ []∧x.i<D.n∧x.rL.length≤D.cR
 AI:∀s∈D.gQ,s.length=256
 Fs:∀x∈D.waits,∀s∈x.rL,s.length=256
 dk:16≤D.n
 db:D.n≤1600
 f4:D.fN.length=4
 fr:∀x∈D.fN, -1≤x∧x≤9223372036854775807
 bc:D.d≠D.ie∧D.d≠D.jZ∧D.ie≠D.jZ
 cS:∀x∈D.waits,¬aO x.s D.d∧¬aO x.s D.ie∧¬aO x.s D.jZ
 a3:∀x∈D.waits,∀y∈D.waits,x.i≠y.i→∀q,aO x.s q→¬aO y.s q
section
variable {w w':World} {D:dF}
theorem ji.an {W:Nat→Prop} (h:ji w D) (al:ao W w w') (aD:∀q,nB D q→¬W q):ji w' D:=
 ⟨h.v.an al (aD _ (.inl rfl)),ct.an h.l al (aD _ (.inr (.inl rfl))),h.m.an al (aD _ (.inr (.inr (.inl rfl)))),fun x af=>(h.ws x af).an al fun q J=>aD q (.inr (.inr (.inr ⟨x,af,J⟩))),h.wn,h.AI,h.Fs,h.dk,h.db,h.f4,h.fr,h.bc,h.cS,h.a3⟩
theorem ji.ext (h:ji w D) (al:Ext w w'):ji w' D:=h.an al fun _ _ h=>h
theorem ji.lt (h:ji w D) {q:Nat} (J:nB D q):q<w.heap.size:=by
 rcases J with rfl|rfl|rfl|⟨x,af,J⟩
 · exact h.v.lt
 · exact ct.lt h.l
 · exact h.m.lt
 · exact (h.ws x af).lt q J
theorem ji.KL (h:ji w D) {k:Nat} (ae:k<4):w.cell? ⟨D.d,k,none⟩=some (.int .i64 (D.fN.getD k 0)):=by
 rw[h.v.cell]
 unfold dF.c
 have:=h.f4
 rw[List.getElem?_append_left (by rw[lf];omega),JF,gF (by omega),oy (by omega)]
 rfl
theorem ji.gl (h:ji w D):w.cell? (Addr.add ⟨D.d,0,none⟩ 4)=some (.slice (some ⟨D.ie,0,none⟩) D.gQ.length D.gQ.length):=by
 rw[aW,h.v.cell]
 unfold dF.c
 have:=h.f4
 rw[wF (by rw[lf];omega),lf,this];rfl
theorem ji.dN (h:ji w D):w.cell? (Addr.add ⟨D.d,0,none⟩ 5)=some (.map (some D.jZ)):=by
 rw[aW,h.v.cell]
 unfold dF.c
 have:=h.f4
 rw[wF (by rw[lf];omega),lf,this];rfl
theorem ji.OL (h:ji w D):D.c.length=7:=by
 unfold dF.c
 have:=h.f4
 simp;omega
def dF.now (D:dF) (i:Nat):mD:=match D.waits.find? fun x=>x.i==i with
 |some x=>x.rL.getLastD []
 |none=>D.gQ.getD i []
theorem ak6 {α:Type} {l:List α} {d:α} (h:l≠ []):l.getLastD d∈l:=by
 cases l with
 |nil=>exact absurd rfl h
 |cons a l=>
   rw[List.getLastD_cons]
   rw[←List.getLast_eq_getLastD]
   exact List.getLast_mem h
theorem ji.OM (h:ji w D) {i:Nat} (hi:i<D.n):(D.now i).length=256:=by
 unfold dF.now
 cases aH:D.waits.find? fun x=>x.i==i with
 |some x=>
   have af:=ED aH
   exact h.Fs x af _ (ak6 (h.wn x af).1)
 |none=>
   have fm:i<D.gQ.length:=hi
   rw[show (match (none:Option pW) with|some x=>x.rL.getLastD []|none=>D.gQ.getD i [])=D.gQ.getD i [] from rfl,oy fm]
   exact h.AI _ (fg _)
theorem Z1 (h:ji w D):aQ Tryz.prog F.AJ #[.pointer (some ⟨D.d,0,none⟩)] w (fun v w'=>v= .int .i64 (D.n:Nat)∧w=w'):=by
 refine W.ak7 (some ⟨D.d,0,none⟩) w _ ?_
 (delta W.AJ aB aq;dsimp only)
 exact ⟨fun h=>(by cases h),fun _=>⟨_,rfl,⟨some ⟨D.ie,0,none⟩,D.gQ.length,D.gQ.length⟩,h.gl,rfl,rfl⟩⟩
theorem Z2 (h:ji w D) (i:Int):aQ Tryz.prog F.AK #[.pointer (some ⟨D.d,0,none⟩), .int .i64 i] w (fun v w'=>v= .bool (decide (0≤i∧i<D.n))∧w=w'):=by
 refine W.ak8 (some ⟨D.d,0,none⟩) i w _ ?_
 (delta W.AK aB aq;dsimp only)
 refine eA (fun b w'=>b=decide (0≤i∧i<D.n)∧w=w') (fun q J=>⟨fun ab=>⟨_,rfl,⟨some ⟨D.ie,0,none⟩,D.gQ.length,D.gQ.length⟩,h.gl,J _ _ ⟨?_,rfl⟩⟩,fun ab=>J _ _ ⟨?_,rfl⟩⟩) ?_
 · have ab:0≤i:=by simpa using ab
   rw[pc,fu,fu]
   exact ⟨fun h=>⟨ab,h⟩,fun h=>h.2⟩
 · have ab:¬0≤i:=by simpa using ab
   rw[sW (fun h=>ab h.1)]
 · rintro _ _ ⟨rfl,rfl⟩
   exact ⟨rfl,rfl⟩
end
def o1 (f:Int):Bool×Int:=if f= -1 then (false, -1) else if f=0 then (true, -1) else (false,f-1)
theorem ak9 {f:Int} (h: -1≤f∧f≤9223372036854775807): -1≤(o1 f).2∧(o1 f).2≤9223372036854775807:=by
 unfold o1
 split
 · exact ⟨by decide,by decide⟩
 · split
   · exact ⟨by decide,by decide⟩
   · show -1≤f-1∧f-1≤_;omega
def dF.iU (D:dF) (k:Nat):dF:={D with fN:=D.fN.set k (o1 (D.fN.getD k 0)).2}
def dF.te (D:dF) (k:Nat):Bool:=(o1 (D.fN.getD k 0)).1
theorem Z3 {w:World} {D:dF} (h:ji w D) {k:Nat} (ae:k<4):
   aQ Tryz.prog F.AL #[.pointer (some ⟨D.d,0,none⟩), .int .i64 ((k:Nat):Int)] w (fun v w'=>v= .bool (D.te k)∧ji w' (D.iU k)∧ao (fun q=>q=D.d) w w'∧w'.heap.size=w.heap.size):=by
 have aH:=h.KL ae
 have aJ:=h.f4
 have aN: -1≤D.fN.getD k 0∧D.fN.getD k 0≤9223372036854775807:=by rw[oy (by omega)];exact h.fr _ (fg _)
 have yH:∀ (ag:World),ji ag D→ji (ag.setCell ⟨D.d,k,none⟩ (.int .i64 (o1 (D.fN.getD k 0)).2)) (D.iU k):=by
   intro ag U
   have al:=ig ag D.d k (.int .i64 (o1 (D.fN.getD k 0)).2)
   have ak:=jr U.v (i:=k) (.int .i64 (o1 (D.fN.getD k 0)).2)
   have e:D.c.set k (.int .i64 (o1 (D.fN.getD k 0)).2)=(D.iU k).c:=by
     unfold dF.c dF.iU
     rw[List.set_append_left _ _ (by rw[lf];omega),←List.map_set]
   rw[e] at ak
   refine ⟨ak,ct.an U.l al (fun e=>h.bc.1 e.symm),U.m.an al (fun e=>h.bc.2.1 e.symm),fun x af=>(U.ws x af).an al fun q J e=>(h.cS x af).1 (by subst e;exact J),h.wn,h.AI,h.Fs,h.dk,h.db,by show (D.fN.set k _).length=4;rw[jc];exact aJ,fun x af=> ?_,h.bc,h.cS,h.a3⟩
   rcases Ce af with af|rfl
   · exact h.fr x af
   · exact ak9 aN
 have aR:Addr.add ⟨D.d,0,none⟩ (Int.toNat ((k:Nat):Int)*1)=⟨D.d,k,none⟩:=by rw[gY,lU,aW,gz]
 refine W.ak_ (some ⟨D.d,0,none⟩) ((k:Nat):Int) w _ ?_
 (delta W.AL bI aB st aC;dsimp only)
 refine ⟨_,rfl,⟨by omega,by show (k:Int)<4;omega⟩,D.fN.getD k 0,by rw[aR];exact aH,fun U=> ?_,fun U=>⟨fun ad=>⟨_,rfl,⟨by omega,by show (k:Int)<4;omega⟩,?_⟩,fun ad=>bL ⟨_,rfl,⟨by omega,by show (k:Int)<4;omega⟩,id,_,by rw[aR];exact aH,_,rfl,⟨by omega,by show (k:Int)<4;omega⟩,?_⟩⟩⟩
 · have U:D.fN.getD k 0= -1:=by simpa using U
   have aY:D.te k=false:=by unfold dF.te o1;rw[if_pos U]
   have bo:D.iU k=D:=by
     unfold dF.iU o1
     rw[if_pos U]
     have:D.fN.set k (-1)=D.fN:=by
       rw[←U,oy (by omega)]
       exact List.set_getElem_self _
     rw[this]
   rw[aY,bo]
   exact ⟨rfl,h, .refl _ _,rfl⟩
 · have U:D.fN.getD k 0≠ -1:=by simpa using U
   have ad:D.fN.getD k 0=0:=by simpa using ad
   have aj:=js h.v (i:=k) (by rw[h.OL];omega)
   have aY:D.te k=true:=by unfold dF.te o1;rw[if_neg U,if_pos ad]
   have bo:(o1 (D.fN.getD k 0)).2= -1:=by unfold o1;rw[if_neg U,if_pos ad]
   have:=yH w h
   rw[bo] at this
   rw[aR,aY]
   exact ⟨aj.1,aj.2,bL ⟨rfl,this,ig _ _ _ _,by simp[World.setCell]⟩⟩
 · have U:D.fN.getD k 0≠ -1:=by simpa using U
   have ad:D.fN.getD k 0≠0:=by simpa using ad
   have hd:=h.ext (dL w)
   have aj:=js hd.v (i:=k) (by rw[h.OL];omega)
   have aY:D.te k=false:=by unfold dF.te o1;rw[if_neg U,if_neg ad]
   have bo:(o1 (D.fN.getD k 0)).2=D.fN.getD k 0-1:=by unfold o1;rw[if_neg U,if_neg ad]
   have:=yH w.drew hd
   rw[bo] at this
   rw[aR,aY,cz (by omega) (by omega)]
   exact ⟨aj.1,aj.2,bL ⟨rfl,this,(ao.eQ (dL w)).trans (ig _ _ _ _),by simp[World.setCell]⟩⟩
end
end Go.Proofs.YtplieiecebljmaaGreat
