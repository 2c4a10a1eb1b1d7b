/- Contracts of the functions that the statement reaches, and the plain laws over them; each theorem stands with its conditions. -/
import Derived.Test.YtplieiecebljmaaGreatBPlays1
namespace Go.Proofs.YtplieiecebljmaaGreat
open Go cd
section
def o4:aL:=⟨false,[],[],[]⟩
def bX:aa:=⟨none,0,0⟩
def Se (leaf:Bool) (l:List UInt8) (w w':World) (v:Value):Prop:=
 (∃ (n:aL) (K V D:aa),v= .tuple #[fc n K V D, .int .i64 0]∧yl leaf l n∧cg (fun q=>w.heap.size≤q) w' n K V D)∨
 (v= .tuple #[fc o4 bX bX bX, .int .i64 4]∧∀n,¬yl leaf l n)
theorem ry {w':World} {h:Nat} {vs:List Value} (b:Bool) (K V D:aa) (ak:Var w' h vs ah.cO) (az:vs.length=4) {Q:Bool→aa→aa→aa→World→Prop} (yA:∀aw,ao (fun q=>q=h) w' aw→Q b K V D aw):
   c2 w' ⟨h,0,none⟩ [.bool b, .slice K.a K.len K.cap, .slice V.a V.len V.cap, .slice D.a D.len D.cap]∧(4:Nat)=4∧ay (setCells w' ⟨h,0,none⟩ 0 [.bool b, .slice K.a K.len K.cap, .slice V.a V.len V.cap, .slice D.a D.len D.cap]) fun aw=>
     ∃eM:Bool,aw.cell? ⟨h,0,none⟩=some (.bool eM)∧∃cN:aa,aw.cell? (Addr.add ⟨h,0,none⟩ 1)=some (.slice cN.a cN.len cN.cap)∧∃bH:aa,aw.cell? (Addr.add ⟨h,0,none⟩ 2)=some (.slice bH.a bH.len bH.cap)∧
       ∃cK:aa,aw.cell? (Addr.add ⟨h,0,none⟩ 3)=some (.slice cK.a cK.len cK.cap)∧Q eM cN bH cK aw:=by
 refine ⟨ak.dC (by rw[az];rfl) ?_,rfl,eo ak (us:=[.bool b, .slice K.a K.len K.cap, .slice V.a V.len V.cap, .slice D.a D.len D.cap]) (by rw[az];rfl) rfl fun aw gR al _=> ?_⟩
 · intro v ak
   simp only[fZ,mT,mU] at ak
   rcases ak with rfl|rfl|rfl|rfl<;>trivial
 · obtain ⟨cJ,aV,bA,bd⟩:=cl gR
   exact ⟨b,cJ,K,aV,V,bA,D,bd,yA aw al⟩
theorem wN {w:World} {s:aa} {l:List UInt8} (aj:Src 1 w s (bo l)) (al:s.len≤s.cap) (fp:∀k,aQ s k→k<w.heap.size) (az:l.length≤100000) (leaf:Bool):
   aO Tryz.prog F.wN #[.bool leaf, .slice s.a s.len s.cap] w (fun v w'=>Se leaf l w w' v∧Ext w w'):=by
 refine W.aiZ leaf s w _ ?_
 (delta W.wN dx ai aV aA Sf aq st dK aD bV gk bd Kb;dsimp only)
 refine cx (vs:=[.bool false, .slice none 0 0, .slice none 0 0, .slice none 0 0]) rfl fun ag nH bG kO=> ?_
 refine cx (vs:=[.slice s.a s.len s.cap, .bool true]) rfl fun aw fS cB mB=> ?_
 refine cx (vs:=[.bool false, .slice none 0 0, .slice none 0 0, .slice none 0 0]) rfl fun aS qN eS va=> ?_
 refine ⟨qN.dC rfl (by
   intro v ak
   simp only[fZ,mT,mU] at ak
   rcases ak with rfl|rfl|rfl|rfl<;>trivial),rfl,eo qN (us:=[.bool leaf, .slice none 0 0, .slice none 0 0, .slice none 0 0]) rfl rfl fun bp R9 yv Fh=> ?_⟩
 obtain ⟨lo,lT⟩:∃lo,lo=bp.heap.size:=⟨_,rfl⟩
 obtain ⟨r,aN⟩:∃r,r=ag.heap.size:=⟨_,rfl⟩
 obtain ⟨bF,jY⟩:∃bF,bF=aw.heap.size:=⟨_,rfl⟩
 have tQ:Ext w bp:=Ext.fb (bG.trans (cB.trans eS)) yv (by omega)
 have Fi:sj bp ag.heap.size s (l,true):=by
   refine ⟨(fS.ext eS).an yv (by omega),(aj.ext (bG.trans (cB.trans eS))).an yv fun k ae e=> ?_,al,fun k ae=> ?_⟩
   · have:=fp k ae;omega
   · have:=fp k ae;omega
 refine (Sb Fi 1 (by decide) az).use ?_
 rintro _ bB ⟨bH,rfl,ai0,lW,yq⟩
 have kh:(rdNum (l,true) 1).1<256:=Sc _ 1
 have N1:=lW.size
 have Yv:tT lo bB r bF bH (⟨leaf,[],[],[]⟩,(rdNum (l,true) 1).2) bX bX bX (fun _=>False) (fun _=>False) (fun _=>False):=by
   refine ⟨by rw[jY];exact R9.an lW (by omega),by rw[aN];exact ai0,b6.none _ _,b6.none _ _,eL.none _ _,fun q h=>h.elim,fun q h=>h.elim,fun q h=>h.elim,fun q J=> ?_,by omega,by omega,by omega,ju (NY _ 1) az⟩
   have:=fp q (yq q J)
   exact ⟨by omega,by omega⟩
 have Yw:ao (Ff lo r bF) bp bB:=lW.mono fun k _ ae=> .inl (by omega)
 rw[←aN,←jY]
 refine ⟨_,rfl,vh (fun w'=>∃ (ar D:aa) (ct:Nat→Prop),tT lo w' r bF ar (Ac leaf (rdNum (l,true) 1).2) bX bX D (fun _=>False) (fun _=>False) ct∧ao (Ff lo r bF) bp w'∧lo≤w'.heap.size) (fun q J=>⟨fun di=> ?_,fun di=>J _ ⟨bH,bX,fun _=>False,?_,Yw,by omega⟩⟩) ?_⟩
 · have di:leaf=false:=by simpa using di
   subst di
   refine Yu Yv (by omega) (by simp) fun w' aP ar Sd U ad au=>J _ ⟨ar,aP,Sd,?_,Yw.trans ad,au⟩
   have:Ac false (rdNum (l,true) 1).2=(⟨false,[],[],[]++ [(rdNum (rdNum (l,true) 1).2 2).1]⟩,(rdNum (rdNum (l,true) 1).2 2).2):=by simp[Ac]
   rw[this];exact U
 · have di:leaf=true:=by simpa using di
   subst di
   exact Yv
 rintro bf ⟨cK,ai1,ai2,Yx,qK,ai3⟩
 obtain ⟨pG,Fj⟩:∃pG,pG=Ac leaf (rdNum (l,true) 1).2:=⟨_,rfl⟩
 rw[←Fj] at Yx
 have ai4:pG.1.leaf=leaf:=by rw[Fj];unfold Ac;cases leaf<;>rfl
 have auV:pG.1.keys.length=0∧pG.1.vals.length≤1∧pG.1.kids.length≤1:=by rw[Fj];unfold Ac;cases leaf<;>simp
 refine ⟨fun i w'=>∃ (j:Nat) (ar K V D:aa) (cC cY ct:Nat→Prop),i=j∧j≤(rdNum (l,true) 1).1∧tT lo w' r bF ar (p_ pG j) K V D cC cY ct∧ao (Ff lo r bF) bp w'∧lo≤w'.heap.size,fun i _=>(((rdNum (l,true) 1).1:Int)-i).toNat,⟨0,cK,bX,bX,ai1,_,_,ai2,rfl,fm _,Yx,qK,ai3⟩,?_⟩
 rintro _ a7 ⟨j,hC,K,V,D,cC,cY,ct,rfl,a8,wO,qP,ai5⟩
 obtain ⟨qG,py,wF⟩:=Yt pG j
 have Hx:=Ys pG j ai4
 refine ⟨fun ba=> ?_,fun ck=> ?_⟩
 · have ba:j<(rdNum (l,true) 1).1:=by have:=dG ba;omega
   rw[cz (n:=(j:Int)+1) (by omega) (by omega)]
   refine vh (fun w'=>∃ (ar K V D:aa) (cC cY ct:Nat→Prop),tT lo w' r bF ar (p_ pG (j+1)) K V D cC cY ct∧ao (Ff lo r bF) bp w'∧lo≤w'.heap.size) (fun q J=> ?_) ?_
   · refine aiX wO ai5 (by omega) fun bS N2 ez N3 N4 CF N5=>⟨fun di=> ?_,fun di=> ?_⟩
     · refine aiY N4 N5 (by show (p_ pG j).1.vals.length≤_;omega) fun bY ai6 dn ai7 Kc hD Ke=>J _ ⟨dn,N2,ai6,D,N3,ai7,ct,?_,qP.trans (CF.trans hD),Ke⟩
       rw[p_]
       unfold E8
       rw[Hx,di,if_pos rfl]
       rw[Hx,di] at Kc
       exact Kc
     · refine Yu N4 N5 (by show (p_ pG j).1.kids.length≤_;omega) fun bY ai8 dn ai9 Kc hD Ke=>J _ ⟨dn,N2,V,ai8,N3,cY,ai9,?_,qP.trans (CF.trans hD),Ke⟩
       rw[p_]
       unfold E8
       rw[Hx,di,if_neg (by simp)]
       rw[Hx,di] at Kc
       exact Kc
   · rintro bS ⟨ez,N2,ai_,aja,N3,ajb,ajc,N4,CF,N5⟩
     refine ⟨⟨j+1,ez,N2,ai_,aja,N3,ajb,ajc,by omega,by omega,N4,CF,N5⟩,?_⟩
     show (((rdNum (l,true) 1).1:Int)-((j:Int)+1)).toNat<(((rdNum (l,true) 1).1:Int)-(j:Int)).toNat
     omega
 · have ck:j=(rdNum (l,true) 1).1:=by have:=eW ck;omega
   have Ag:p_ pG j=qH leaf l:=by rw[ck,Fj];rfl
   rw[Ag] at wO qG py wF Hx
   obtain ⟨cJ,aV,bA,bd⟩:=cl wO.v
   have hU:cg (fun q=>lo≤q) a7 (qH leaf l).1 K V D:=⟨b2.bz (b6.qM wO.keys) fun q _ J=>(wO.bW q J).1,b2.bz (b6.qM wO.vals) fun q _ J=>(wO.bv q J).1,en.bz (eL.Ht wO.kids) fun q _ J=>(wO.a6 q J).1⟩
   have sh:Ext w a7:=Ext.gA tQ qP fun k ae=>by
     rcases ae with ae|ae|ae<;>omega
   refine ⟨_,cJ,K,aV,V,bA,D,bd,(vg hU (by omega) (by omega) (by omega)).use ?_⟩
   rintro Sg bS ⟨fJ,f_⟩
   have Cx:=sh.trans f_
   have Sh:=wO.v.ext f_
   have ajd:=wO.rd.ext f_
   have Fk:Var bS w.heap.size [.bool false, .slice none 0 0, .slice none 0 0, .slice none 0 0] ah.cO:=by
     refine (Var.an (w:=bp) ?_ qP ?_).ext f_
     · exact (((nH.ext cB).ext eS).an yv (by omega))
     · rintro (ae|ae|ae)<;>omega
   have aje:=hU.ext f_
   obtain ⟨d0,d1,d2,d3⟩:=cl Sh
   have wP:∃ (CG:aa) (e:Int),Sg=Value.tuple #[.slice CG.a CG.len CG.cap, .int .i64 e]∧(e=0→b3 1 ah.uint8 bS CG (bo (sg (qH leaf l).1))∧d_ (qH leaf l).1∧cq (qH leaf l).1≤232)∧(e≠0→d_ (qH leaf l).1→232<cq (qH leaf l).1):=by
     rcases fJ with ⟨CG,rfl,U,ad,au,aH⟩|⟨e,rfl,U,ad⟩
     · exact ⟨CG,0,rfl,fun _=>⟨U,au,aH⟩,fun h=>absurd rfl h⟩
     · exact ⟨bX,e,rfl,fun h=>absurd h U,fun _=>ad⟩
   obtain ⟨CG,e,rfl,ajf,Yy⟩:=wP
   have ajg:Src 1 bS s (bo l):=aj.ext Cx
   have Yz:∀n,yl leaf l n→qH leaf l=(n,([],true)):=by
     rintro n ⟨U,ad,au,aH⟩
     have:=RS U au
     rw[ad,aH] at this
     exact this
   refine ⟨CG,e,rfl,_,rfl,(qH leaf l).2.2,by rw[aX];exact ajd.v.cell,eN (fun b w'=>bS=w'∧(b=true→∀n,¬yl leaf l n)∧(b=false→yl leaf l (qH leaf l).1)) (fun q J=>⟨fun U=>J _ _ ⟨rfl,fun _ n aC=> ?_,fun h=>(by cases h)⟩,fun U=> ?_⟩) ?_⟩
   · have hu:=Yz n aC
     obtain ⟨ad,au,aH,aY⟩:=aC
     rw[hu] at U Yy
     have U:(e !=0)=true:=by simpa using U
     have rz:232<cq n:=Yy (by simpa using U) ad
     omega
   · have ajh:(qH leaf l).2.2=true∧e=0:=by
       simp only[Nj,Bool.not_eq_false',bne_eq_false_iff_eq] at U
       exact U
     obtain ⟨ad,rfl⟩:=ajh
     obtain ⟨au,aH,aY⟩:=ajf rfl
     refine (yw au.src ajg).use ?_
     rintro _ _ ⟨rfl,rfl⟩
     refine ⟨_,rfl,J _ _ ⟨rfl,fun b9 n aC=> ?_,fun b9=> ?_⟩⟩
     · have hu:=Yz n aC
       have b9:¬sg (qH leaf l).1=l:=by simpa using b9
       rw[hu] at b9
       exact b9 aC.2.2.2
     · have b9:sg (qH leaf l).1=l:=by simpa using b9
       exact ⟨aH,Hx,aY,b9⟩
   rintro b w' ⟨rfl,aB,aF⟩
   refine ⟨fun ab=> ?_,fun ab=>⟨_,d0,K,d1,V,d2,D,d3,?_⟩⟩
   · refine ry false bX bX bX Fk rfl (Q:=fun b K V D aw=>(fun v w'=>Se leaf l w w' v∧Ext w w') (.tuple #[.agg #[.bool b, .slice K.a K.len K.cap, .slice V.a V.len V.cap, .slice D.a D.len D.cap], .int .i64 4]) aw) fun bY hD=>⟨.inr ⟨rfl,aB ab⟩,Ext.fb Cx hD (cR _)⟩
   · refine ry (qH leaf l).1.leaf K V D Fk rfl (Q:=fun b K V D aw=>(fun v w'=>Se leaf l w w' v∧Ext w w') (.tuple #[.agg #[.bool b, .slice K.a K.len K.cap, .slice V.a V.len V.cap, .slice D.a D.len D.cap], .int .i64 0]) aw) fun bY hD=>⟨.inl ⟨(qH leaf l).1,K,V,D,rfl,aF ab,?_⟩,Ext.fb Cx hD (cR _)⟩
     exact (aje.an hD fun k ae e=>by omega).bz fun k _ ae=>by omega
end
section
theorem aji {s v:aa} {vs xs:List Value} {i As:Nat} {CH:Array Value} {YA:TypeId} {w:World} (bE:b3 1 ah.cn w s vs) (ak:Src 1 w v xs) (jM:v.len=1) (YB:v.a=some ⟨As,0,none⟩) (Kf:cr w As CH YA) (c5:¬aQ s As)
   (yp:∀u∈xs,Plain u) (Si:∀u∈vs,Plain u) (hi:i≤s.len) (aC:s.len≤1000000):
   aO Tryz.prog F.yB #[.slice s.a s.len s.cap, .int .i64 (i:Int), .slice v.a v.len v.cap] w (fun u w'=>∃ar:aa,u= .slice ar.a ar.len ar.cap∧b3 1 ah.cn w' ar (vs.take (i*1)++xs++vs.drop (i*1))∧ar.len=s.len+1∧ao (aQ s) w w'∧(∀k,aQ ar k→aQ s k∨w.heap.size≤k)):=by
 obtain ⟨U,i0,z0,ad,au,aH,aY,b9,iD,oq⟩:=(Hu).out
 obtain ⟨d0,pw⟩:=tV _ au
 refine W.ajj s i v w _ ?_
 (delta W.yB aA aD bA;dsimp only)
 have ajk:=bE.2.1
 have N6:=bE.2.2.1
 have ajl:maxLen=9223372036854775807:=rfl
 have vi:xs.length=1:=by have:=ak.len;rw[jM] at this;omega
 have Hy:=bE.1
 refine ⟨⟨by omega,by omega⟩,fun h=>by rw[jM] at h;simp at h,fun _=>⟨fun h=> ?_,fun h=> ?_⟩⟩
 · have ft:i=s.len:=by have:=eq_of_beq h;omega
   subst ft
   obtain ⟨ar,w',aB,aF,aJ,aM,cU⟩:=(Hu).append (ey:=ah.cM) ak bE yp (by rw[jM];omega)
   refine ⟨ar,w',aB,ar,rfl,?_,by rw[aJ,jM],aM,cU⟩
   rwa[g3 (by omega),List.drop_of_length_le (by omega),mh]
 have ba:i<s.len:=by
   have h:¬((i:Int)=(s.len:Int)):=fun e=>by rw[e] at h;simp at h
   omega
 rcases bE.2.2.2 with ⟨_,al⟩|⟨b,c,ab,jh,ec,kz⟩
 · omega
 have CI:b≠As:=fun e=>c5 ⟨_,ab,e⟩
 have a_:IntKind.wrap .i64 (((s.len:Nat):Int)+((v.len:Nat):Int))=((s.len+1:Nat):Int):=by rw[jM,cz (by omega) (by omega)];rfl
 have bw:IntKind.wrap .i64 ((i:Int)+((v.len:Nat):Int))=((i+1:Nat):Int):=by rw[jM,cz (by omega) (by omega)];rfl
 have ek:IntKind.wrap .i64 (((s.len+1:Nat):Int)-(i:Int))=((s.len+1-i:Nat):Int):=by rw[cz (by omega) (by omega)];omega
 have Cl:c.toList.length=s.cap*1:=by simpa using ec
 have k1:∀k,k≤s.len→vs.take (k*1)=c.toList.take (k*1):=fun k ae=>by rw[←kz,JJ,r8 (by omega)]
 have tW:vs.drop (i*1)=(c.toList.drop (i*1)).take ((s.len-i)*1):=by rw[←kz,List.drop_take,show s.len*1-i*1=(s.len-i)*1 by omega]
 have N7:∀u∈vs.drop (i*1),Plain u:=fun u hu=>Si u (kt hu)
 have lU:(vs.drop (i*1)).length=(s.len-i)*1:=by rw[fF,Hy];omega
 have Kg:∀ (N8 o l m:Nat),l<m→bh (some (Addr.mk N8 o none)) 1 l m=some ⟨N8,o+l*1,none⟩:=fun N8 o l m auW=>NP (by omega)
 simp only[a_,bw,ek,g9,G5,YC]
 refine ⟨fun bg=> ?_,fun bg=> ?_⟩
 · have qa:s.cap<s.len+1:=by have:=dG bg;omega
   have mD:Src 1 w ⟨some ⟨b,0,none⟩,i,s.cap⟩ (vs.take (i*1)):=by
     have:=jh.Kh (sz:=1) (o:=0) (n:=i) (cap:=s.cap) (by omega)
     rw[zW] at this
     rwa[k1 i (by omega)]
   obtain ⟨jZ,zs,rest,aB,aF,aJ,aM,cU⟩:=ajm (P:=Tryz.prog) (nm:= #[ah.cM,ah.int]) (ey:=ah.cM) (vj:=ah.int) (k:= .i64) (s:=⟨some ⟨b,0,none⟩,i,s.cap⟩) (n:=s.len+1-i) rfl rfl U (by kernel_rfl) ad au aH aY b9 (by rw[iD];exact oq) mD (by show s.cap<i+_;omega) (by rw[iD];show (2*(i+_)+1000)*_≤_;omega)
   have ajn:i+(s.len+1-i)=s.len+1:=by omega
   simp only[ajn] at aB aM cU
   obtain ⟨C,lA⟩:∃C,C=(vs.take (i*1)++zs++rest).toArray:=⟨_,rfl⟩
   rw[←lA] at cU
   obtain ⟨bp,Hq⟩:∃bp,bp=w.drew.alloc (.cells C ah.cn):=⟨_,rfl⟩
   rw[←Hq] at cU
   have YD:cr bp w.heap.size C ah.cn:=by rw[Hq];exact cr.new w.drew _ _
   have fz:Ext w bp:=by rw[Hq];exact ao.alloc (ao.drew (.refl _ _)) _
   have ni:(vs.take (i*1)).length=i*1:=by rw[ej,Hy];omega
   have YE:C.size=jZ*1:=by rw[lA];simp[ni,aJ,aM];omega
   have auX:C.toList.length=jZ*1:=by simpa using YE
   have Ki:=N9 (P:=Tryz.prog) (Ab:=ah.cM) (ew:=ah.cM) (ty:=ah.int) (A:=⟨w.heap.size,0+i*1,none⟩) (dl:=s.len+1-i) (E5:=jZ-i) (n:=1) U pw b9 (x:=v) (by rw[jM];exact r8 (by omega)) (xs:=xs) (by have:=ak.ext fz;have e:(⟨v.a,1,v.cap⟩:aa)=v:=(by rw[←jM]);rw[e];exact this) (by rw[gy];exact YD.dC _ _ (by omega) yp)
   obtain ⟨bf,yC⟩:∃bf,bf=setCells bp ⟨w.heap.size,0+i*1,none⟩ 0 xs:=⟨_,rfl⟩
   rw[←yC] at Ki
   have jl:cr bf w.heap.size (oF C (i*1) xs) ah.cn:=by rw[yC,gy];exact YD.Cu xs
   have ky:Ext w bf:=by rw[yC];exact Ext.gA fz (ao.Aa (.refl _ _) xs 0) (fun k ae=>by subst ae;exact cR _)
   have ajo:Ext bf bf.drew:=ao.drew (.refl _ _)
   have eR:=Ext.trans ky ajo
   have Sj:=N9 (P:=Tryz.prog) (w:=bf.drew) (Ab:=ah.cM) (ew:=ah.cM) (ty:=ah.int) (A:=⟨w.heap.size,0+(i+1)*1,none⟩) (dl:=s.len+1-(i+1)) (E5:=jZ-(i+1)) (n:=s.len-i) U pw b9 (x:=⟨some ⟨b,0+i*1,none⟩,s.len-i,s.cap-i⟩) (r8 (by show s.len-i≤_;omega)) (xs:=vs.drop (i*1))
     (by have:=(jh.ext eR).Kh (sz:=1) (o:=i*1) (n:=s.len-i) (cap:=s.cap-i) (by omega);rw[tW,gy];exact this) (by rw[gy];exact cr.dC (cr.drew jl) _ _ (by rw[rq];omega) N7)
   have N_:bh (some (Addr.mk w.heap.size 0 none)) 1 i jZ=some ⟨w.heap.size,0+i*1,none⟩:=Kg _ _ _ _ (by omega)
   have Oa:bh (some (Addr.mk w.heap.size 0 none)) 1 (i+1) jZ=some ⟨w.heap.size,0+(i+1)*1,none⟩:=Kg _ _ _ _ (by omega)
   have ajp:bh s.a 1 i s.cap=some ⟨b,0+i*1,none⟩:=by rw[ab];exact Kg _ _ _ _ (by omega)
   have ajq:Sem.run Tryz.prog (Builtin.append_ #[ah.cM,ah.int] ah.cM #[.slice s.a i s.cap, .int .i64 ((s.len+1-i:Nat):Int)]) w= .ok (.slice (some ⟨w.heap.size,0,none⟩) (s.len+1) jZ) bp:=by rw[ab];exact cU
   refine ⟨⟨by omega,by omega⟩,⟨some ⟨w.heap.size,0,none⟩,s.len+1,jZ⟩,bp,ajq,⟨by omega,by show (i:Int)≤((s.len+1:Nat):Int);omega⟩,_,bf,by rw[N_];exact Ki,bN ⟨⟨by omega,by show ((i+1:Nat):Int)≤((s.len+1:Nat):Int);omega⟩,⟨by omega,by omega⟩,_,_,by rw[Oa,ajp];exact Sj,⟨some ⟨w.heap.size,0,none⟩,s.len+1,jZ⟩,rfl,?_,rfl,?_,?_⟩⟩
   · refine b3.mk' ((cr.drew jl).Cu (o:=0+(i+1)*1) _) (by simp[ni,vi,lU];omega) (by omega) (by omega) (by rw[rq,rq,YE]) ?_
     rw[Af _ _ _ (by rw[rq];omega),Af _ _ _ (by omega)]
     have t1:C.toList.take (i*1)=vs.take (i*1):=by rw[lA,JN,eI];exact List.take_left' ni
     have t2:(C.toList.take (i*1)++xs++C.toList.drop (i*1+xs.length)).take (0+(i+1)*1)=vs.take (i*1)++xs:=by
       rw[t1,ET (by simp[ni,vi];omega),g3 (by simp[ni,vi];omega)]
     rw[t2,ET (by simp[ni,vi,lU];omega),g3 (by simp[ni,vi,lU];omega)]
   · exact ao.eT (Ext.gA eR (ao.Aa (.refl _ _) _ 0) (fun k ae=>by subst ae;exact cR _))
   · rintro k ⟨A,ax,ae⟩
     cases ax
     exact .inr (Nat.le_of_eq ae)
 · have hle:s.len+1≤s.cap:=by have:=eW bg;omega
   have N_:bh s.a 1 (i+1) s.cap=some ⟨b,0+(i+1)*1,none⟩:=by rw[ab];exact Kg _ _ _ _ (by omega)
   have Oa:bh s.a 1 i s.cap=some ⟨b,0+i*1,none⟩:=by rw[ab];exact Kg _ _ _ _ (by omega)
   have Ap:Sem.run Tryz.prog (callFunc F.YF #[.slice v.a v.len v.cap, .slice (some ⟨b,0+(i+1)*1,none⟩) (s.len+1-(i+1)) (s.cap-(i+1))]) w= .ok (.value (.bool false)) w:=by
     rw[YB,run_callFunc_extern (e:=Extern.SlicesOverlaps.overlaps #[ah.cM,ah.cM] #[ah.bool]) Tryz.func160 (by kernel_rfl) (by kernel_rfl) (by kernel_rfl) (by kernel_rfl)]
     have:=Lib.run_overlaps_apart (P:=Tryz.prog) w ah.cM ah.bool ah.cn U 1 (fun w=>by have:=qE (w:=w) pw;rwa[b9] at this) ⟨As,0,none⟩ ⟨b,0+(i+1)*1,none⟩ v.len v.cap (s.len+1-(i+1)) (s.cap-(i+1)) (fun e=>CI e.symm) YA ah.cn CH.size c.size
       (by have:=Kf;unfold cr at this;simp[World.shape?,this]) (by have:=jh;unfold cr at this;simp[World.shape?,this]) (by omega) (Kf.frozen _ rfl) (Kf.frozen _ rfl)
     rw[this];rfl
   have Ki:=N9 (P:=Tryz.prog) (w:=w.drew) (Ab:=ah.cM) (ew:=ah.cM) (ty:=ah.int) (A:=⟨b,0+(i+1)*1,none⟩) (dl:=s.len+1-(i+1)) (E5:=s.cap-(i+1)) (n:=s.len-i) U pw b9 (x:=⟨some ⟨b,0+i*1,none⟩,s.len+1-i,s.cap-i⟩) ((Nat.min_eq_right (by show _≤s.len+1-i;omega)).trans (by omega)) (xs:=vs.drop (i*1))
     (by have:=(cr.drew jh).Kh (sz:=1) (o:=i*1) (n:=s.len-i) (cap:=s.cap-i) (by omega);rw[tW,gy];exact this) (by rw[gy];exact cr.dC (cr.drew jh) _ _ (by omega) N7)
   obtain ⟨aS,nh⟩:∃aS,aS=setCells w.drew ⟨b,0+(i+1)*1,none⟩ 0 (vs.drop (i*1)):=⟨_,rfl⟩
   rw[←nh] at Ki
   have Kj:cr aS b (oF c ((i+1)*1) (vs.drop (i*1))) ah.cn:=by rw[nh,gy];exact (cr.drew jh).Cu _
   have jN:ao (aQ s) w aS:=by
     rw[nh]
     exact ao.mono (W:=fun q=>q=b) (ao.Aa (ao.drew (.refl _ _)) _ 0) (fun k _ ae=>⟨_,ab,ae.symm⟩)
   have lZ:Src 1 aS v xs:=ak.an jN (fun k ae dW=>by obtain ⟨A,ax,rfl⟩:=ae;rw[YB] at ax;cases ax;exact c5 dW)
   have Sj:=N9 (P:=Tryz.prog) (w:=aS) (Ab:=ah.cM) (ew:=ah.cM) (ty:=ah.int) (A:=⟨b,0+i*1,none⟩) (dl:=s.len+1-i) (E5:=s.cap-i) (n:=1) U pw b9 (x:=v) (by rw[jM];exact r8 (by omega)) (xs:=xs) (by have e:(⟨v.a,1,v.cap⟩:aa)=v:=(by rw[←jM]);rw[e];exact lZ) (by rw[gy];exact Kj.dC _ _ (by rw[rq];omega) yp)
   refine ⟨⟨by omega,by omega⟩,⟨by omega,by omega⟩,false,w,by rw[N_];exact Ap,fun _=>bN ⟨⟨by omega,by omega⟩,⟨by omega,by omega⟩,_,aS,by rw[N_,Oa];exact Ki,⟨by omega,by omega⟩,_,_,by rw[Oa];exact Sj,⟨s.a,s.len+1,s.cap⟩,rfl,?_,rfl,?_,fun k ae=> .inl ae⟩,fun h=>by simp at h⟩
   · have wQ:b3 1 ah.cn (setCells aS ⟨b,0+i*1,none⟩ 0 xs) ⟨some ⟨b,0,none⟩,s.len+1,s.cap⟩ (vs.take (i*1)++xs++vs.drop (i*1)):=by
       have ni:(vs.take (i*1)).length=i*1:=by rw[ej,Hy];omega
       refine b3.mk' (Kj.Cu (o:=0+i*1) _) (by simp[ni,vi,lU];omega) (by omega) (by omega) (by rw[rq,rq,ec]) ?_
       rw[Af _ _ _ (by rw[rq];omega),Af _ _ _ (by omega)]
       have t1:(c.toList.take ((i+1)*1)++vs.drop (i*1)++c.toList.drop ((i+1)*1+(vs.drop (i*1)).length)).take (0+i*1)=vs.take (i*1):=by
         rw[gy,ET (by simp[lU];omega),ET (by simp;omega),JJ,k1 i (by omega),r8 (by omega)]
       have t2:(c.toList.take ((i+1)*1)++vs.drop (i*1)++c.toList.drop ((i+1)*1+(vs.drop (i*1)).length)).drop (0+i*1+xs.length)=vs.drop (i*1)++c.toList.drop ((i+1)*1+(vs.drop (i*1)).length):=by
         have az:(c.toList.take ((i+1)*1)).length=0+i*1+xs.length:=by simp;omega
         rw[eI,←az,List.drop_left]
       rw[t1,t2,←eI,ET (by simp[ni,vi,lU];omega),g3 (by simp[ni,vi,lU];omega)]
     rw[←ab] at wQ
     exact wQ
   · exact jN.trans (ao.mono (W:=fun q=>q=b) (ao.Aa (.refl _ _) _ 0) (fun k _ ae=>⟨_,ab,ae.symm⟩))
theorem ajr {s:aa} {vs:List Value} {i:Nat} {w:World} (bE:b3 1 ah.cn w s vs) (Si:∀u∈vs,Plain u) (ajs:∀z,(Tryz.prog.info? ah.cn).bind (·.zero)=some z→∀u∈z.cells.toList,Plain u) (hi:i<s.len) (aC:s.len≤1000000):
   aO Tryz.prog F.yD #[.slice s.a s.len s.cap, .int .i64 (i:Int), .int .i64 ((i+1:Nat):Int)] w (fun u w'=>∃ar:aa,u= .slice ar.a ar.len ar.cap∧b3 1 ah.cn w' ar (vs.take (i*1)++vs.drop ((i+1)*1))∧ar.len=s.len-1∧ar.a=s.a∧ao (aQ s) w w'):=by
 obtain ⟨U,i0,z0,ad,au,aH,aY,b9,iD,oq⟩:=(Hu).out
 obtain ⟨d0,pw⟩:=tV _ au
 refine W.ajt s i ((i+1:Nat):Int) w _ ?_
 (delta W.yD aA iE;dsimp only)
 have ajk:=bE.2.1
 have N6:=bE.2.2.1
 have Hy:=bE.1
 rcases bE.2.2.2 with ⟨_,al⟩|⟨b,c,ab,jh,ec,kz⟩
 · omega
 have Cl:c.toList.length=s.cap*1:=by simpa using ec
 simp only[g9,G5,YC]
 have tW:vs.drop ((i+1)*1)=(c.toList.drop ((i+1)*1)).take ((s.len-(i+1))*1):=by rw[←kz,List.drop_take,show s.len*1-(i+1)*1=(s.len-(i+1))*1 by omega]
 have lU:(vs.drop ((i+1)*1)).length=(s.len-(i+1))*1:=by rw[fF,Hy];omega
 have k1:vs.take (i*1)=c.toList.take (i*1):=by rw[←kz,JJ,r8 (by omega)]
 have ni:(vs.take (i*1)).length=i*1:=by rw[ej,Hy];omega
 have N7:∀u∈vs.drop ((i+1)*1),Plain u:=fun u hu=>Si u (kt hu)
 have Sk:cr w.drew b c ah.cn:=cr.drew jh
 have mD:Src 1 w.drew ⟨bh s.a 1 (i+1) s.cap,s.len-(i+1),s.cap-(i+1)⟩ (vs.drop ((i+1)*1)):=by
   by_cases he:i+1=s.cap
   · have gY:s.len-(i+1)=0:=by omega
     refine ⟨by rw[lU],fun _=>ye.1 (by rw[lU,gY,Nat.zero_mul]),fun a _=> ?_⟩
     have:vs.drop ((i+1)*1)=[]:=ye.1 (by rw[lU,gY,Nat.zero_mul])
     rw[this]
     show eK _ _ 0 ((s.len-(i+1))*1)=_
     rw[gY,Nat.zero_mul];rfl
   · rw[ab,NP (by omega),tW,gy]
     exact Sk.Kh (by omega)
 have Kk:=Sl (P:=Tryz.prog) (nm:= #[ah.cM,ah.cM]) (ey:=ah.cM) (s:=⟨s.a,i,s.cap⟩) rfl rfl U U pw b9 mD (by show i+(s.len-(i+1))≤s.cap;omega) (fun a aU=>by
   have aU:s.a=some a:=aU
   rw[ab] at aU;cases aU
   rw[aX,gy]
   exact Sk.dC _ _ (by show i*1+_≤_;omega) N7)
 have yE:i+(s.len-(i+1))=s.len-1:=by omega
 simp only[ab,aX,gy,yE] at Kk
 obtain ⟨aS,nh⟩:∃aS,aS=setCells w.drew ⟨b,i*1,none⟩ 0 (vs.drop ((i+1)*1)):=⟨_,rfl⟩
 rw[←nh] at Kk
 have Kj:cr aS b (oF c (i*1) (vs.drop ((i+1)*1))) ah.cn:=by rw[nh];exact Sk.Cu _
 have jN:ao (aQ s) w aS:=by
   rw[nh]
   exact ao.mono (W:=fun q=>q=b) (ao.Aa (ao.drew (.refl _ _)) _ 0) (fun k _ ae=>⟨_,ab,ae.symm⟩)
 obtain ⟨zs,Au,aju⟩:=ajv (P:=Tryz.prog) (w:=aS) (T:=ah.cM) (o:=ah.t) (n:=1) (c:=s.cap-(s.len-1)) (A:=⟨b,(s.len-1)*1,none⟩) U ad aH aY (by decide) (fun zs rA=>by
   refine Kj.dC _ _ (by rw[rA,rq];simp[Builtin.zeroCells,aY];omega) fun u hu=> ?_
   rw[rA] at hu
   simp only[Builtin.zeroCells,Array.toList_map,oa] at hu
   obtain ⟨j,a8,rfl⟩:=hu
   have a8:j<1*z0.cells.size:=by simpa using a8
   have ajw:j%z0.cells.size<z0.cells.size:=sT _ (by omega)
   have bg:z0.cells[j%z0.cells.size]! =z0.cells[j%z0.cells.size]:=getElem!_pos z0.cells (j%z0.cells.size) ajw
   rw[bg]
   exact ajs z0 (by rw[ad];exact aH) _ (by simp))
 have ajx:bh (some (Addr.mk b 0 none)) 1 (s.len-1) s.cap=some ⟨b,(s.len-1)*1,none⟩:=by rw[NP (by omega),gy]
 have ajy:s.len-(s.len-1)=1:=by omega
 refine ⟨⟨by omega,by omega⟩,⟨by omega,by omega⟩,⟨by omega,by omega⟩,fun h=> ?_,fun _=>bN ⟨⟨by omega,by omega⟩,⟨by omega,by omega⟩,⟨some ⟨b,0,none⟩,s.len-1,s.cap⟩,aS,by rw[ab];exact Kk,⟨by omega,by show ((s.len:Nat):Int)≤((s.cap:Nat):Int);omega⟩,⟨by omega,by show ((s.len-1:Nat):Int)≤((s.len:Nat):Int);omega⟩,_,_,by rw[ajy,ajx];exact aju,⟨some ⟨b,0,none⟩,s.len-1,s.cap⟩,rfl,?_,rfl,ab.symm,?_⟩⟩
 · have:=eq_of_beq h;omega
 · refine b3.mk' (Kj.Cu _) (by simp[ni,lU];omega) (by omega) N6 (by rw[rq,rq,ec]) ?_
   rw[Af _ _ _ (by rw[rq];omega),Af _ _ _ (by omega)]
   have t1:(c.toList.take (i*1)++vs.drop ((i+1)*1)++c.toList.drop (i*1+(vs.drop ((i+1)*1)).length)).take ((s.len-1)*1)=vs.take (i*1)++vs.drop ((i+1)*1):=by
     rw[←k1,ET (by simp[ni,lU];omega),g3 (by simp[ni,lU];omega)]
   rw[t1,eI,ET (by simp[ni,lU];omega),g3 (by simp[ni,lU];omega)]
 · exact jN.trans (ao.mono (W:=fun q=>q=b) (ao.Aa (.refl _ _) _ 0) (fun k _ ae=>⟨_,ab,ae.symm⟩))
theorem Kl {w:World} {s:aa} {ds:List Nat} (h:Src 1 w s (gX ds)) (az:ds.length≤1000000):
   aO Tryz.prog F.vk #[.slice s.a s.len s.cap] w (fun v w'=>∃ar:aa,v= .slice ar.a ar.len ar.cap∧b3 1 ah.int w' ar (gX ds)∧Ext w w'∧oG w ar):=by
 have gv:s.len=ds.length:=by have:=h.len;rw[yx] at this;omega
 refine W.ajz s w _ ?_
 delta W.vk aA ai
 refine ⟨fun aU=> ?_,fun _=> ?_⟩
 · have aU:s.a=none:=by simpa using aU
   rw[h.nil aU]
   exact ⟨⟨none,0,0⟩,rfl,b3.none _ _ _, .refl _ _,fun k ae=>(qF k ae).elim⟩
 · obtain ⟨ar,w',U,ad,au,aH,aY,_⟩:=J6.clone (ey:=ah.ef) h (R7 ds) (by omega)
   exact bN ⟨ar,w',U,ar,rfl,ad,aH,aY⟩
theorem ajA {ks:List Key} {k:Key} {a:Nat} (aU:a≤ks.length) (U:∀ (j:Nat) (h:j<ks.length),j<a→cv ks[j] k) (ad:∀ (j:Nat) (h:j<ks.length),a≤j→¬cv ks[j] k):eu ks k=a:=by
 unfold eu
 rcases g8 a ks.length with h|h
 · exact (List.findIdx_eq h).2 ⟨iB (ad a h (cR _)),fun j a8=>sS fun au=>au (U j (by omega) a8)⟩
 · have:a=ks.length:=by omega
   subst this
   refine List.findIdx_eq_length_of_false fun x af=> ?_
   obtain ⟨j,a8,rfl⟩:=mS af
   exact sS fun au=>au (U j a8 a8)
def o5 (ks:List Key) (k:Key):Bool:=decide (ks[eu ks k]? =some k)
theorem ajB {B C:Nat→Prop} {s t:aa} {ks:List Key} {key:Key} {w:World} (aj:b2 B w s ks) (aR:Src 1 w t (bo key)) (aN:ks.Pairwise cv) (aC:ks.length≤100000):
   aO Tryz.prog F.CJ #[.slice s.a s.len s.cap, .slice t.a t.len t.cap, .func (.func F.mX) #[] #[]] w (fun v w'=>v= .tuple #[.int .i64 ((eu ks key:Nat):Int), .bool (o5 ks key)]∧w=w'):=by
 refine W.ajC s t ⟨F.mX, #[], #[]⟩ w _ ?_
 (delta W.CJ aA aD aq a6;dsimp only)
 have az:=b2.len aj
 have vc:tR Tryz.prog F.mX:=⟨_,(Option.some_get (show (Tryz.prog.funcs[F.mX]?).isSome=true by kernel_rfl)).symm,by kernel_rfl,by kernel_rfl⟩
 have ba:=fun {i j:Nat} (hi:i<j) (a8:j<ks.length)=>G2.1 aN i j (by omega) a8 hi
 refine ⟨fun lo hi w'=>∃a b:Nat,lo=a∧hi=b∧a≤b∧b≤ks.length∧w=w'∧(∀ (j:Nat) (h:j<ks.length),j<a→cv ks[j] key)∧(∀ (j:Nat) (h:j<ks.length),b≤j→¬cv ks[j] key),fun lo hi _=>(hi-lo).toNat,
   ⟨0,ks.length,rfl,by rw[az],fm _,cR _,rfl,fun j _ h=>by omega,fun j h ad=>by omega⟩,?_⟩
 rintro _ _ _ ⟨a,b,rfl,rfl,nL,ab,rfl,U,ad⟩
 have hm:=ajD (a:=a) (b:=b) (by omega)
 refine ⟨fun h=> ?_,fun h=> ?_⟩
 · have ajE:(a:Int)<(b:Int):=dG h
   rw[hm]
   obtain ⟨m,Av⟩:∃m,m=(a+b)/2:=⟨_,rfl⟩
   rw[←Av]
   have Ob:a≤m:=by omega
   have kQ:m<b:=by omega
   obtain ⟨A,t2,ax,mE,c4,nK,_⟩:=b2.at aj (i:=m) (by omega)
   refine ⟨by decide,A,ax,mE,t2,c4,vc,(mX nK.1 aR).use ?_⟩
   rintro _ _ ⟨rfl,rfl⟩
   have hw:IntKind.wrap .i64 ((m:Int)+1)=((m+1:Nat):Int):=by rw[cz (by omega) (by omega)];rfl
   refine ⟨_,rfl,fun al=> ?_,fun al=> ?_⟩
   · have al:cv ks[m] key:=dG al
     rw[hw]
     have Km:((b:Int)-((m+1:Nat):Int)).toNat<((b:Int)-(a:Int)).toNat:=by omega
     refine ⟨⟨m+1,b,rfl,rfl,by omega,ab,rfl,fun j a8 ajF=> ?_,ad⟩,Km⟩
     rcases g8 j m with au|au
     · exact yg (ba au (by omega)) al
     · have:j=m:=by omega
       subst this;exact al
   · have al:¬cv ks[m] key:=eW al
     have Km:((m:Int)-(a:Int)).toNat<((b:Int)-(a:Int)).toNat:=by omega
     refine ⟨⟨a,m,rfl,rfl,Ob,by omega,rfl,U,fun j a8 ajF=> ?_⟩,Km⟩
     rcases g8 m j with au|au
     · exact fun aH=>al (yg (ba au a8) aH)
     · have:j=m:=by omega
       subst this;exact al
 · have ck:¬(a:Int)<(b:Int):=eW h
   have ajG:b=a:=by omega
   subst ajG
   have aW:eu ks key=b:=ajA ab U ad
   refine eN (fun c w'=>w=w'∧c=o5 ks key) (fun q J=>⟨fun h=> ?_,fun h=> ?_⟩) ?_
   · have ajE:(b:Int)<((s.len:Nat):Int):=dG h
     have wR:b<ks.length:=by omega
     obtain ⟨A,t2,ax,mE,c4,nK,_⟩:=b2.at aj wR
     refine ⟨A,ax,mE,t2,c4,vc,(mX nK.1 aR).use ?_⟩
     rintro _ _ ⟨rfl,rfl⟩
     refine ⟨_,rfl,J _ _ ⟨rfl,?_⟩⟩
     unfold o5
     rw[aW,oX,fx,zZ,gH wR,ahd]
     exact ⟨fun h=>by rw[h],fun h=>Option.some.inj h⟩
   · have ck:¬(b:Int)<((s.len:Nat):Int):=eW h
     refine J _ _ ⟨rfl,?_⟩
     unfold o5
     rw[aW,Nk (by omega)]
     simp
   · rintro _ _ ⟨rfl,rfl⟩
     exact ⟨by rw[aW],rfl⟩
theorem rB {B:Nat→Prop} {w:World} {n:aL} {K V D t:aa} {key:Key} (h:cg B w n K V D) (aR:Src 1 w t (bo key)) (aN:n.keys.Pairwise cv) (aC:n.keys.length≤100000):
   aO Tryz.prog F.rB #[fc n K V D, .slice t.a t.len t.cap] w (fun v w'=>v= .tuple #[.int .i64 ((eu n.keys key:Nat):Int), .bool (o5 n.keys key)]∧Ext w w'):=by
 refine W.ajH n.leaf K V D t w _ ?_
 (delta W.rB aq ai dL;dsimp only)
 refine cx (vs:=[.bool n.leaf, .slice K.a K.len K.cap, .slice V.a V.len V.cap, .slice D.a D.len D.cap]) rfl fun ag ak bG _=> ?_
 obtain ⟨cJ,aV,bA,bd⟩:=cl ak
 refine ⟨K,aV,(ajB (B:=B) (C:=B) (h.keys.ext bG) (aR.ext bG) aN aC).use ?_⟩
 rintro _ _ ⟨rfl,rfl⟩
 exact ⟨_,_,rfl,rfl,bG⟩
theorem yF {B:Nat→Prop} {w:World} {n:aL} {K V D t:aa} {key:Key} (h:cg B w n K V D) (aR:Src 1 w t (bo key)) (aN:n.keys.Pairwise cv) (aC:n.keys.length≤100000):
   aO Tryz.prog F.yF #[fc n K V D, .slice t.a t.len t.cap] w (fun v w'=>v= .tuple #[.int .i64 ((eu n.keys key:Nat):Int), .bool (o5 n.keys key)]∧Ext w w'):=by
 refine W.ajI n.leaf K V D t w _ ?_
 (delta W.yF bV ai aq dL;dsimp only)
 refine cx (vs:=[.bool n.leaf, .slice K.a K.len K.cap, .slice V.a V.len V.cap, .slice D.a D.len D.cap]) rfl fun ag ak bG _=> ?_
 obtain ⟨cJ,aV,bA,bd⟩:=cl ak
 refine ⟨_,cJ,K,aV,V,bA,D,bd,(rB (h.ext bG) (aR.ext bG) aN aC).use ?_⟩
 rintro _ _ ⟨rfl,cB⟩
 exact ⟨_,_,rfl,rfl,bG.trans cB⟩
theorem ajJ {ks:List Key} (aN:ks.Pairwise cv) (k:Key):fR ks k=if o5 ks k then eu ks k+1 else eu ks k:=by
 have hle:=Hi ks k
 have key:∀a,a≤ks.length→(∀ (j:Nat) (h:j<ks.length),j<a→¬cv k ks[j])→(∀h:a<ks.length,cv k ks[a])→fR ks k=a:=by
   intro a aU U ad
   unfold fR
   rcases g8 a ks.length with h|h
   · exact (List.findIdx_eq h).2 ⟨iB (ad h),fun j a8=>sS (U j (by omega) a8)⟩
   · have:a=ks.length:=by omega
     subst this
     refine List.findIdx_eq_length_of_false fun x af=> ?_
     obtain ⟨j,a8,rfl⟩:=mS af
     exact sS (U j a8 a8)
 split
 · rename_i cS
   have cS:ks[eu ks k]? =some k:=dG cS
   obtain ⟨ba,he⟩:=qy.1 cS
   refine key _ ba (fun j a8 h=> ?_) fun h=> ?_
   · rcases g8 j (eu ks k) with au|au
     · exact z7 (E2 au a8)
     · have:j=eu ks k:=by omega
       subst this
       rw[he];exact z6 _
   · have:=G2.1 aN _ _ ba h (Nat.lt_succ_self _)
     rwa[he] at this
 · rename_i cS
   have cS:¬ks[eu ks k]? =some k:=fun h=>cS (iB h)
   refine key _ hle (fun j a8 h=>z7 (E2 h a8)) fun h=> ?_
   rcases EW.1 (Hj aN (cR _) h) with au|au
   · exact au
   · exact absurd ((gH h).trans (congrArg some au.symm)) cS
theorem vl {B:Nat→Prop} {w:World} {n:aL} {K V D t:aa} {key:Key} (h:cg B w n K V D) (aR:Src 1 w t (bo key)) (aN:n.keys.Pairwise cv) (aC:n.keys.length≤100000):
   aO Tryz.prog F.vl #[fc n K V D, .slice t.a t.len t.cap] w (fun v w'=>v= .int .i64 ((fR n.keys key:Nat):Int)∧Ext w w'):=by
 refine W.ajK n.leaf K V D t w _ ?_
 (delta W.vl bV ai aq dL aA aD;dsimp only)
 refine cx (vs:=[.bool n.leaf, .slice K.a K.len K.cap, .slice V.a V.len V.cap, .slice D.a D.len D.cap]) rfl fun ag ak bG _=> ?_
 obtain ⟨cJ,aV,bA,bd⟩:=cl ak
 have hle:=Hi n.keys key
 refine ⟨_,cJ,K,aV,V,bA,D,bd,(rB (h.ext bG) (aR.ext bG) aN aC).use ?_⟩
 rintro _ aw ⟨rfl,cB⟩
 rw[ajJ aN]
 refine ⟨_,_,rfl,eN (fun c w'=>aw=w'∧c=((if o5 n.keys key then eu n.keys key+1 else eu n.keys key:Nat):Int)) (fun q J=>⟨fun h=>J _ _ ⟨rfl,?_⟩,fun h=>J _ _ ⟨rfl,?_⟩⟩) ?_⟩
 · rw[if_pos h,cz (by omega) (by omega)];rfl
 · rw[if_neg (by simp[h])]
 · rintro _ _ ⟨rfl,rfl⟩
   exact ⟨rfl,bG.trans cB⟩
end
section
structure pH (lo:Nat) (w:World) (aK:Nat) (n:aL) (K V D:aa) (cC cY ct:Nat→Prop):Prop where
 v:Var w aK [.bool n.leaf, .slice K.a K.len K.cap, .slice V.a V.len V.cap, .slice D.a D.len D.cap] ah.cO
 keys:b6 cC w K n.keys
 vals:b6 cY w V n.vals
 kids:eL ct w D n.kids
 bW:∀q,cC q→lo≤q∧q<w.heap.size∧q≠aK∧¬cY q∧¬ct q
 bv:∀q,cY q→lo≤q∧q<w.heap.size∧q≠aK∧¬ct q
 a6:∀q,ct q→lo≤q∧q<w.heap.size∧q≠aK
 Aw:lo≤aK
structure j0 (lo:Nat) (w:World) (n:aL) (K V D:aa) (cC cY ct:Nat→Prop):Prop where
 keys:b6 cC w K n.keys
 vals:b6 cY w V n.vals
 kids:eL ct w D n.kids
 bW:∀q,cC q→lo≤q∧q<w.heap.size∧¬cY q∧¬ct q
 bv:∀q,cY q→lo≤q∧q<w.heap.size∧¬ct q
 a6:∀q,ct q→lo≤q∧q<w.heap.size
section
variable {lo:Nat} {w w':World} {aK:Nat} {n:aL} {K V D:aa} {cC cY ct:Nat→Prop}
theorem pH.mem (h:pH lo w aK n K V D cC cY ct):j0 lo w n K V D cC cY ct:=⟨h.keys,h.vals,h.kids,fun q J=>⟨(h.bW q J).1,(h.bW q J).2.1,(h.bW q J).2.2.2⟩,fun q J=>⟨(h.bv q J).1,(h.bv q J).2.1,(h.bv q J).2.2.2⟩,fun q J=>⟨(h.a6 q J).1,(h.a6 q J).2.1⟩⟩
theorem j0.an {W:Nat→Prop} (h:j0 lo w n K V D cC cY ct) (al:ao W w w') (dk:∀q,lo≤q→q<w.heap.size→cC q∨cY q∨ct q→¬W q):j0 lo w' n K V D cC cY ct:=by
 have aj:=al.size
 refine ⟨b6.an h.keys al fun q J=>dk q (h.bW q J).1 (h.bW q J).2.1 (.inl J),b6.an h.vals al fun q J=>dk q (h.bv q J).1 (h.bv q J).2.1 (.inr (.inl J)),eL.an h.kids al fun q J=>dk q (h.a6 q J).1 (h.a6 q J).2 (.inr (.inr J)),fun q J=> ?_,fun q J=> ?_,fun q J=> ?_⟩
 · have:=h.bW q J;exact ⟨this.1,by omega,this.2.2⟩
 · have:=h.bv q J;exact ⟨this.1,by omega,this.2.2⟩
 · have:=h.a6 q J;exact ⟨this.1,by omega⟩
theorem j0.ext (h:j0 lo w n K V D cC cY ct) (al:Ext w w'):j0 lo w' n K V D cC cY ct:=h.an al fun _ _ _ _ h=>h
theorem pH.ext (h:pH lo w aK n K V D cC cY ct) (af:Ext w w'):pH lo w' aK n K V D cC cY ct:=
 ⟨h.v.ext af,b6.ext h.keys af,b6.ext h.vals af,eL.ext h.kids af,fun q J=>⟨(h.bW q J).1,lv (h.bW q J).2.1 af.size,(h.bW q J).2.2⟩,fun q J=>⟨(h.bv q J).1,lv (h.bv q J).2.1 af.size,(h.bv q J).2.2⟩,fun q J=>⟨(h.a6 q J).1,lv (h.a6 q J).2.1 af.size,(h.a6 q J).2.2⟩,h.Aw⟩
theorem j0.at (h:j0 lo w n K V D cC cY ct):cg (fun q=>lo≤q) w n K V D:=
 ⟨b2.bz (b6.qM h.keys) fun q _ J=>(h.bW q J).1,b2.bz (b6.qM h.vals) fun q _ J=>(h.bv q J).1,en.bz (eL.Ht h.kids) fun q _ J=>(h.a6 q J).1⟩
theorem j0.low {g_:Nat} (h:j0 lo w n K V D cC cY ct) (az:g_≤lo):j0 g_ w n K V D cC cY ct:=
 ⟨h.keys,h.vals,h.kids,fun q J=>⟨ju az (h.bW q J).1,(h.bW q J).2⟩,fun q J=>⟨ju az (h.bv q J).1,(h.bv q J).2⟩,fun q J=>⟨ju az (h.a6 q J).1,(h.a6 q J).2⟩⟩
end
theorem Sm {lo:Nat} {w:World} {aK:Nat} {n:aL} {K V D t:aa} {l:Key} {cC cY ct:Nat→Prop} (h:pH lo w aK n K V D cC cY ct) (aR:Src 1 w t (bo l)) (az:l.length≤100000) (aC:n.keys.length≤100000) {R:World→Prop}
   (c9:∀ (w':World) (aT:aa) (Ar:Nat→Prop),pH lo w' aK {n with keys:=n.keys++ [l]} aT V D Ar cY ct→ao (fun q=>q=aK∨cC q) w w'→(∀q,Ar q→cC q∨w.heap.size≤q)→R w'):
   ay w.drew fun ep=>∃wS:Nat→Prop,¬wS (Addr.add ⟨aK,0,none⟩ 1).block∧∃eA:aa,ep.cell? (Addr.add ⟨aK,0,none⟩ 1)=some (.slice eA.a eA.len eA.cap)∧
     Calls Tryz.prog F.mm #[.slice t.a t.len t.cap] ep fun Kn cD=>∃hE:aa,Kn= .returned (.slice hE.a hE.len hE.cap)∧ao wS ep cD∧
     ay (cD.alloc (.cells #[.slice hE.a hE.len hE.cap] ah.cn)) fun mY=>ao wS cD mY∧∃e9:aa,∃fG:World,Sem.run Tryz.prog (Builtin.append_ #[ah.cM,ah.cM] ah.cM #[.slice eA.a eA.len eA.cap, .slice (some ⟨cD.heap.size,0,none⟩) 1 1]) mY= .ok (.slice e9.a e9.len e9.cap) fG∧
     (∃u:Value,fG.cell? (Addr.add ⟨aK,0,none⟩ 1)=some u)∧fG.frozen? (Addr.add ⟨aK,0,none⟩ 1)=false∧ay (fG.setCell (Addr.add ⟨aK,0,none⟩ 1) (.slice e9.a e9.len e9.cap)) fun fB=>R fB:=by
 have fj:=h.Aw
 have Fl:=h.v.lt
 have bD:=dT w
 obtain ⟨cJ,aV,bA,bd⟩:=cl (h.v.ext bD)
 refine bN ⟨fun _=>False,id,K,aV,(vb (B:=fun q=>w.heap.size≤q) (aR.ext bD) (by omega) (fun q J=>J)).use ?_⟩
 rintro _ cD ⟨Fm,rfl,Ax,af,aG⟩
 have ee:=bD.trans af
 have bO:w.drew.heap.size=w.heap.size:=rfl
 have dH:=ee.size
 have bu:=b6.ext h.keys ee
 have tX:=b6.ext h.vals ee
 have vm:=eL.ext h.kids ee
 refine ⟨Fm,rfl,af,NZ (B:=Grow cC w.drew cD) (h.v.ext ee) (o:=1) (by simp) (b6.bz bu fun k _ h=> .inl h) ?_ (bL.bz Ax fun k ae h=> .inr ⟨h,ae⟩) ?_ aC fun w' gS aB aF aJ=> ?_⟩
 · rintro (U|U)
   · exact (h.bW aK U).2.2.1 rfl
   · omega
 · intro k jX Fg
   obtain ⟨ts,_,_,au,_⟩:=h.keys
   have:=(au k Fg).2
   have:=(Ax.2.2 k jX).1
   omega
 have gf:∀q,Grow (Grow cC w.drew cD) cD w' q→cC q∨(w.heap.size≤q∧q<w'.heap.size):=by
   rintro q ((U|U)|U)
   · exact .inl U
   · exact .inr ⟨U.1,lv U.2 aJ.size⟩
   · exact .inr ⟨ju dH U.1,U.2⟩
 have bg:=aJ.size
 have kV:∀q,aQ K q→cC q:=fun q J=>by
   obtain ⟨ts,_,_,au,_⟩:=h.keys
   exact (au q J).1
 refine c9 w' gS (fun q=>cC q∨(w.heap.size≤q∧q<w'.heap.size)) ⟨by simpa using aB,b6.bz aF fun k _ ae=>gf k ae,b6.an tX aJ ?_,eL.an vm aJ ?_,?_,fun q J=> ?_,fun q J=> ?_,h.Aw⟩ ?_ ?_
 · rintro q J (U|U)
   · exact (h.bv q J).2.2.1 U
   · exact (h.bW q (kV q U)).2.2.2.1 J
 · rintro q J (U|U)
   · exact (h.a6 q J).2.2 U
   · exact (h.bW q (kV q U)).2.2.2.2 J
 · rintro q (U|U)
   · have:=h.bW q U;exact ⟨this.1,by omega,this.2.2⟩
   · exact ⟨by omega,U.2,by omega,fun ad=>by have:=h.bv q ad;omega,fun ad=>by have:=h.a6 q ad;omega⟩
 · have:=h.bv q J;exact ⟨this.1,by omega,this.2.2⟩
 · have:=h.a6 q J;exact ⟨this.1,by omega,this.2.2⟩
 · refine (ao.eT ee).trans (aJ.mono fun k _ ae=> ?_)
   rcases ae with ae|ae
   · exact .inl ae
   · exact .inr (kV k ae)
 · rintro q (U|U)
   · exact .inl U
   · exact .inr U.1
theorem YG {lo:Nat} {w:World} {aK:Nat} {n:aL} {K V D t:aa} {l:Key} {cC cY ct:Nat→Prop} (h:pH lo w aK n K V D cC cY ct) (aR:Src 1 w t (bo l)) (az:l.length≤100000) (aC:n.vals.length≤100000) {R:World→Prop}
   (c9:∀ (w':World) (bM:aa) (N0:Nat→Prop),pH lo w' aK {n with vals:=n.vals++ [l]} K bM D cC N0 ct→ao (fun q=>q=aK∨cY q) w w'→(∀q,N0 q→cY q∨w.heap.size≤q)→R w'):
   ay w.drew fun ep=>∃wS:Nat→Prop,¬wS (Addr.add ⟨aK,0,none⟩ 2).block∧∃eA:aa,ep.cell? (Addr.add ⟨aK,0,none⟩ 2)=some (.slice eA.a eA.len eA.cap)∧
     Calls Tryz.prog F.mm #[.slice t.a t.len t.cap] ep fun Kn cD=>∃hE:aa,Kn= .returned (.slice hE.a hE.len hE.cap)∧ao wS ep cD∧
     ay (cD.alloc (.cells #[.slice hE.a hE.len hE.cap] ah.cn)) fun mY=>ao wS cD mY∧∃e9:aa,∃fG:World,Sem.run Tryz.prog (Builtin.append_ #[ah.cM,ah.cM] ah.cM #[.slice eA.a eA.len eA.cap, .slice (some ⟨cD.heap.size,0,none⟩) 1 1]) mY= .ok (.slice e9.a e9.len e9.cap) fG∧
     (∃u:Value,fG.cell? (Addr.add ⟨aK,0,none⟩ 2)=some u)∧fG.frozen? (Addr.add ⟨aK,0,none⟩ 2)=false∧ay (fG.setCell (Addr.add ⟨aK,0,none⟩ 2) (.slice e9.a e9.len e9.cap)) fun fB=>R fB:=by
 have fj:=h.Aw
 have Fl:=h.v.lt
 have bD:=dT w
 obtain ⟨cJ,aV,bA,bd⟩:=cl (h.v.ext bD)
 refine bN ⟨fun _=>False,id,V,bA,(vb (B:=fun q=>w.heap.size≤q) (aR.ext bD) (by omega) (fun q J=>J)).use ?_⟩
 rintro _ cD ⟨Fm,rfl,Ax,af,aG⟩
 have ee:=bD.trans af
 have bO:w.drew.heap.size=w.heap.size:=rfl
 have dH:=ee.size
 have bu:=b6.ext h.keys ee
 have tX:=b6.ext h.vals ee
 have vm:=eL.ext h.kids ee
 refine ⟨Fm,rfl,af,NZ (B:=Grow cY w.drew cD) (h.v.ext ee) (o:=2) (by simp) (b6.bz tX fun k _ h=> .inl h) ?_ (bL.bz Ax fun k ae h=> .inr ⟨h,ae⟩) ?_ aC fun w' gS aB aF aJ=> ?_⟩
 · rintro (U|U)
   · exact (h.bv aK U).2.2.1 rfl
   · omega
 · intro k jX Fg
   obtain ⟨ts,_,_,au,_⟩:=h.vals
   have:=(au k Fg).2
   have:=(Ax.2.2 k jX).1
   omega
 have gf:∀q,Grow (Grow cY w.drew cD) cD w' q→cY q∨(w.heap.size≤q∧q<w'.heap.size):=by
   rintro q ((U|U)|U)
   · exact .inl U
   · exact .inr ⟨U.1,lv U.2 aJ.size⟩
   · exact .inr ⟨ju dH U.1,U.2⟩
 have bg:=aJ.size
 have kV:∀q,aQ V q→cY q:=fun q J=>by
   obtain ⟨ts,_,_,au,_⟩:=h.vals
   exact (au q J).1
 refine c9 w' gS (fun q=>cY q∨(w.heap.size≤q∧q<w'.heap.size)) ⟨by simpa using aB,b6.an bu aJ ?_,b6.bz aF fun k _ ae=>gf k ae,eL.an vm aJ ?_,fun q J=> ?_,?_,fun q J=> ?_,h.Aw⟩ ?_ ?_
 · rintro q J (U|U)
   · exact (h.bW q J).2.2.1 U
   · exact (h.bW q J).2.2.2.1 (kV q U)
 · rintro q J (U|U)
   · exact (h.a6 q J).2.2 U
   · exact (h.bv q (kV q U)).2.2.2 J
 · have:=h.bW q J
   refine ⟨this.1,by omega,this.2.2.1,?_,this.2.2.2.2⟩
   rintro (U|U)
   · exact this.2.2.2.1 U
   · omega
 · rintro q (U|U)
   · have:=h.bv q U;exact ⟨this.1,by omega,this.2.2⟩
   · exact ⟨by omega,U.2,by omega,fun ad=>by have:=h.a6 q ad;omega⟩
 · have:=h.a6 q J;exact ⟨this.1,by omega,this.2.2⟩
 · refine (ao.eT ee).trans (aJ.mono fun k _ ae=> ?_)
   rcases ae with ae|ae
   · exact .inl ae
   · exact .inr (kV k ae)
 · rintro q (U|U)
   · exact .inl U
   · exact .inr U.1
theorem fK {B:Nat→Prop} {bJ:World} {n:aL} {K V D:aa} (h:cg B bJ n K V D) (YH:n.keys.length≤100000) (YI:n.vals.length≤100000) (auY:n.kids.length≤100000) (fv:∀k∈n.keys,k.length≤100000) (jM:∀v∈n.vals,v.length≤100000):
   aO Tryz.prog F.fK #[fc n K V D] bJ (fun v w'=>∃ (K V D:aa) (cC cY ct:Nat→Prop),v=fc n K V D∧j0 bJ.heap.size w' n K V D cC cY ct∧Ext bJ w'):=by
 refine W.ajL n.leaf K V D bJ _ ?_
 (delta W.fK dx ai bV aq dK jy Sn aA YJ a6 st aD YK Hz Oc;dsimp only)
 have Sp:cg (fun q=>q<bJ.heap.size) bJ n K V D:=h.bz fun q J _=>J
 have CD:=b2.len h.keys
 have ga:=b2.len h.vals
 refine cx (vs:=[.bool n.leaf, .slice K.a K.len K.cap, .slice V.a V.len V.cap, .slice D.a D.len D.cap]) rfl fun ag gg bG kO=> ?_
 refine cx (vs:=[.bool false, .slice none 0 0, .slice none 0 0, .slice none 0 0]) rfl fun aw fS cB mB=>bN ?_
 have bD:=dT aw
 have bO:aw.drew.heap.size=aw.heap.size:=rfl
 have vn:=(gg.ext cB).ext bD
 have yG:=fS.ext bD
 have h6:=bG.trans (cB.trans bD)
 obtain ⟨gY,a_,bw,ek⟩:=cl vn
 have qN:=Sp.ext h6
 obtain ⟨lo,lT⟩:∃lo,lo=aw.heap.size:=⟨_,rfl⟩
 refine ⟨fun _=>False,id,_,gY,id,D,ek,⟨?_,?_⟩⟩
 · refine (Kl qN.kids.1 (by omega)).use ?_
   rintro _ a7 ⟨aP,rfl,Ay,eR,yr⟩
   have CK:=eR.size
   refine ⟨aP,rfl,eR, #[.bool n.leaf, .slice none 0 0, .slice none 0 0, .slice aP.a aP.len aP.cap],(fun w=>by kernel_rfl),?_⟩
   refine cx (vs:=[.bool false, .slice none 0 0, .slice none 0 0, .slice none 0 0]) rfl fun cy Od h7 YL=> ?_
   refine ⟨h7,Od.dC rfl ?_,rfl,eo Od (us:=[.bool n.leaf, .slice none 0 0, .slice none 0 0, .slice aP.a aP.len aP.cap]) rfl rfl fun bZ Az pI Sq=> ?_⟩
   · intro v ak
     simp only[fZ,mT,mU] at ak
     rcases ak with rfl|rfl|rfl|rfl<;>trivial
   obtain ⟨aK,fj⟩:∃aK,aK=a7.heap.size:=⟨_,rfl⟩
   rw[←fj] at Az pI⊢
   obtain ⟨ct,AA⟩:∃ct:Nat→Prop,ct=fun q=>aw.heap.size≤q∧q<a7.heap.size:=⟨_,rfl⟩
   have Sr:eL ct a7 aP n.kids:=by subst AA;exact ⟨Ay,fun k ae=>⟨⟨yr k ae,Ay.lt k ae⟩,Ay.lt k ae⟩⟩
   have wT:ao (fun q=>lo≤q) aw.drew bZ:=(ao.eT (eR.trans h7)).trans (pI.mono fun k _ ae=>by omega)
   have Ss:pH lo bZ aK ⟨n.leaf,[],[],n.kids⟩ bX bX aP (fun _=>False) (fun _=>False) ct:=⟨Az,b6.none _ _,b6.none _ _,eL.an (eL.ext Sr h7) pI (fun q J e=>by subst AA;have J:=J.2;omega),fun q h=>h.elim,fun q h=>h.elim,fun q J=>(by subst AA;obtain ⟨U,ad⟩:=J;exact ⟨by omega,by omega,by omega⟩),by omega⟩
   clear AA
   obtain ⟨cJ,aV,bA,bd⟩:=cl (vn.an wT (by omega))
   have Fo:cg (fun q=>q<bJ.heap.size) bZ n K V D:=qN.an wT fun q J h=>by omega
   have Ko:=yG.an wT (by omega)
   refine ⟨K,aV,fun i w'=>∃ (j:Nat) (aT:aa) (cC:Nat→Prop),i=j∧j≤n.keys.length∧pH lo w' aK ⟨n.leaf,n.keys.take j,[],n.kids⟩ aT bX aP cC (fun _=>False) ct∧ao (fun q=>lo≤q) bZ w',fun i _=>((n.keys.length:Int)-i).toNat,⟨0,bX,_,rfl,fm _,Ss,ao.refl _ _⟩,?_⟩
   rintro _ cZ ⟨j,aT,cC,rfl,a8,wU,gw⟩
   have St:cg (fun q=>q<bJ.heap.size) cZ n K V D:=Fo.an gw fun q J h=>by omega
   refine ⟨fun ba=> ?_,fun ck=> ?_⟩
   · have ba:j<n.keys.length:=by have:=dG ba;omega
     obtain ⟨A,t,ax,ab,al,aR,_⟩:=b2.at St.keys ba
     refine ⟨A,ax,ab,t,al,Sm wU aR.1 (fv _ (fh ba)) (by show (n.keys.take j).length≤_;rw[ej];omega) fun w' c_ s4 st AB _=> ?_⟩
     have dS:ao (fun q=>lo≤q) cZ w':=AB.mono fun q _ J=>by
       rcases J with J|J
       · have:=wU.Aw;omega
       · exact (wU.bW q J).1
     rw[cz (n:=(j:Int)+1) (by omega) (by omega)]
     refine ⟨⟨j+1,c_,s4,by omega,by omega,?_,gw.trans dS⟩,?_⟩
     · rw[take_succ _ ba];exact st
     · show ((n.keys.length:Int)-((j:Int)+1)).toNat<((n.keys.length:Int)-(j:Int)).toNat
       omega
   have ck:j=n.keys.length:=by have:=eW ck;omega
   subst ck
   rw[qz] at wU
   obtain ⟨cJ,aV,bA,bd⟩:=cl ((vn.an wT (by omega)).an gw (by omega))
   refine ⟨V,bA,fun i w'=>∃ (j:Nat) (bM:aa) (cY:Nat→Prop),i=j∧j≤n.vals.length∧pH lo w' aK ⟨n.leaf,n.keys,n.vals.take j,n.kids⟩ aT bM aP cC cY ct∧ao (fun q=>lo≤q) bZ w',fun i _=>((n.vals.length:Int)-i).toNat,⟨0,bX,_,rfl,fm _,wU,gw⟩,?_⟩
   rintro _ fg ⟨j,bM,cY,rfl,a8,tY,vo⟩
   have Su:cg (fun q=>q<bJ.heap.size) fg n K V D:=Fo.an vo fun q J h=>by omega
   refine ⟨fun ba=> ?_,fun ck=> ?_⟩
   · have ba:j<n.vals.length:=by have:=dG ba;omega
     obtain ⟨A,t,ax,ab,al,aR,_⟩:=b2.at Su.vals ba
     refine ⟨A,ax,ab,t,al,YG tY aR.1 (jM _ (fh ba)) (by show (n.vals.take j).length≤_;rw[ej];omega) fun w' c6 AD st AB _=> ?_⟩
     have dS:ao (fun q=>lo≤q) fg w':=AB.mono fun q _ J=>by
       rcases J with J|J
       · have:=tY.Aw;omega
       · exact (tY.bv q J).1
     rw[cz (n:=(j:Int)+1) (by omega) (by omega)]
     refine ⟨⟨j+1,c6,AD,by omega,by omega,?_,vo.trans dS⟩,?_⟩
     · rw[take_succ _ ba];exact st
     · show ((n.vals.length:Int)-((j:Int)+1)).toNat<((n.vals.length:Int)-(j:Int)).toNat
       omega
   have ck:j=n.vals.length:=by have:=eW ck;omega
   subst ck
   rw[qz] at tY
   obtain ⟨d0,d1,d2,d3⟩:=cl tY.v
   refine ⟨_,d0,aT,d1,bM,d2,aP,d3,ry n.leaf aT bM aP (Ko.an vo (by omega)) rfl (Q:=fun b K V D aw=>(fun v w'=>∃ (K V D:aa) (cC cY ct:Nat→Prop),v=fc n K V D∧j0 bJ.heap.size w' n K V D cC cY ct∧Ext bJ w') (.agg #[.bool b, .slice K.a K.len K.cap, .slice V.a V.len V.cap, .slice D.a D.len D.cap]) aw) fun cV oJ=>⟨aT,bM,aP,cC,cY,ct,rfl,?_,?_⟩⟩
   · exact (j0.an tY.mem oJ fun q J _ _ h=>by omega).low (by omega)
   · exact Ext.fb (Ext.gA h6 (wT.trans vo) fun k ae=>by omega) oJ (by omega)
 · refine cx (vs:=[.bool false, .slice none 0 0, .slice none 0 0, .slice none 0 0]) rfl fun cy Od h7 YL=>⟨h7,?_⟩
   refine (Kl (qN.kids.ext h7).1 (by omega)).use ?_
   rintro _ a7 ⟨aP,rfl,Ay,eR,yr⟩
   have CK:=eR.size
   have Kp:=Od.ext eR
   refine ⟨aP,rfl,eR, #[.bool n.leaf, .slice none 0 0, .slice none 0 0, .slice aP.a aP.len aP.cap],(fun w=>by kernel_rfl),?_⟩
   refine ⟨Kp.dC rfl ?_,rfl,eo Kp (us:=[.bool n.leaf, .slice none 0 0, .slice none 0 0, .slice aP.a aP.len aP.cap]) rfl rfl fun bZ Az pI Sq=> ?_⟩
   · intro v ak
     simp only[fZ,mT,mU] at ak
     rcases ak with rfl|rfl|rfl|rfl<;>trivial
   obtain ⟨aK,fj⟩:∃aK,aK=aw.drew.heap.size:=⟨_,rfl⟩
   rw[←fj] at Az pI⊢
   obtain ⟨ct,AA⟩:∃ct:Nat→Prop,ct=fun q=>cy.heap.size≤q∧q<a7.heap.size:=⟨_,rfl⟩
   have Sr:eL ct a7 aP n.kids:=by subst AA;exact ⟨Ay,fun k ae=>⟨⟨yr k ae,Ay.lt k ae⟩,Ay.lt k ae⟩⟩
   have wT:ao (fun q=>lo≤q) aw.drew bZ:=(ao.eT (h7.trans eR)).trans (pI.mono fun k _ ae=>by omega)
   have Ss:pH lo bZ aK ⟨n.leaf,[],[],n.kids⟩ bX bX aP (fun _=>False) (fun _=>False) ct:=⟨Az,b6.none _ _,b6.none _ _,eL.an Sr pI (fun q J e=>by subst AA;have J:=J.1;omega),fun q h=>h.elim,fun q h=>h.elim,fun q J=>(by subst AA;obtain ⟨U,ad⟩:=J;exact ⟨by omega,by omega,by omega⟩),by omega⟩
   clear AA
   obtain ⟨cJ,aV,bA,bd⟩:=cl (vn.an wT (by omega))
   have Fo:cg (fun q=>q<bJ.heap.size) bZ n K V D:=qN.an wT fun q J h=>by omega
   have Ko:=yG.an wT (by omega)
   refine ⟨K,aV,fun i w'=>∃ (j:Nat) (aT:aa) (cC:Nat→Prop),i=j∧j≤n.keys.length∧pH lo w' aK ⟨n.leaf,n.keys.take j,[],n.kids⟩ aT bX aP cC (fun _=>False) ct∧ao (fun q=>lo≤q) bZ w',fun i _=>((n.keys.length:Int)-i).toNat,⟨0,bX,_,rfl,fm _,Ss,ao.refl _ _⟩,?_⟩
   rintro _ cZ ⟨j,aT,cC,rfl,a8,wU,gw⟩
   have St:cg (fun q=>q<bJ.heap.size) cZ n K V D:=Fo.an gw fun q J h=>by omega
   refine ⟨fun ba=> ?_,fun ck=> ?_⟩
   · have ba:j<n.keys.length:=by have:=dG ba;omega
     obtain ⟨A,t,ax,ab,al,aR,_⟩:=b2.at St.keys ba
     refine ⟨A,ax,ab,t,al,Sm wU aR.1 (fv _ (fh ba)) (by show (n.keys.take j).length≤_;rw[ej];omega) fun w' c_ s4 st AB _=> ?_⟩
     have dS:ao (fun q=>lo≤q) cZ w':=AB.mono fun q _ J=>by
       rcases J with J|J
       · have:=wU.Aw;omega
       · exact (wU.bW q J).1
     rw[cz (n:=(j:Int)+1) (by omega) (by omega)]
     refine ⟨⟨j+1,c_,s4,by omega,by omega,?_,gw.trans dS⟩,?_⟩
     · rw[take_succ _ ba];exact st
     · show ((n.keys.length:Int)-((j:Int)+1)).toNat<((n.keys.length:Int)-(j:Int)).toNat
       omega
   have ck:j=n.keys.length:=by have:=eW ck;omega
   subst ck
   rw[qz] at wU
   obtain ⟨cJ,aV,bA,bd⟩:=cl ((vn.an wT (by omega)).an gw (by omega))
   refine ⟨V,bA,fun i w'=>∃ (j:Nat) (bM:aa) (cY:Nat→Prop),i=j∧j≤n.vals.length∧pH lo w' aK ⟨n.leaf,n.keys,n.vals.take j,n.kids⟩ aT bM aP cC cY ct∧ao (fun q=>lo≤q) bZ w',fun i _=>((n.vals.length:Int)-i).toNat,⟨0,bX,_,rfl,fm _,wU,gw⟩,?_⟩
   rintro _ fg ⟨j,bM,cY,rfl,a8,tY,vo⟩
   have Su:cg (fun q=>q<bJ.heap.size) fg n K V D:=Fo.an vo fun q J h=>by omega
   refine ⟨fun ba=> ?_,fun ck=> ?_⟩
   · have ba:j<n.vals.length:=by have:=dG ba;omega
     obtain ⟨A,t,ax,ab,al,aR,_⟩:=b2.at Su.vals ba
     refine ⟨A,ax,ab,t,al,YG tY aR.1 (jM _ (fh ba)) (by show (n.vals.take j).length≤_;rw[ej];omega) fun w' c6 AD st AB _=> ?_⟩
     have dS:ao (fun q=>lo≤q) fg w':=AB.mono fun q _ J=>by
       rcases J with J|J
       · have:=tY.Aw;omega
       · exact (tY.bv q J).1
     rw[cz (n:=(j:Int)+1) (by omega) (by omega)]
     refine ⟨⟨j+1,c6,AD,by omega,by omega,?_,vo.trans dS⟩,?_⟩
     · rw[take_succ _ ba];exact st
     · show ((n.vals.length:Int)-((j:Int)+1)).toNat<((n.vals.length:Int)-(j:Int)).toNat
       omega
   have ck:j=n.vals.length:=by have:=eW ck;omega
   subst ck
   rw[qz] at tY
   obtain ⟨d0,d1,d2,d3⟩:=cl tY.v
   refine ⟨_,d0,aT,d1,bM,d2,aP,d3,ry n.leaf aT bM aP (Ko.an vo (by omega)) rfl (Q:=fun b K V D aw=>(fun v w'=>∃ (K V D:aa) (cC cY ct:Nat→Prop),v=fc n K V D∧j0 bJ.heap.size w' n K V D cC cY ct∧Ext bJ w') (.agg #[.bool b, .slice K.a K.len K.cap, .slice V.a V.len V.cap, .slice D.a D.len D.cap]) aw) fun cV oJ=>⟨aT,bM,aP,cC,cY,ct,rfl,?_,?_⟩⟩
   · exact (j0.an tY.mem oJ fun q J _ _ h=>by omega).low (by omega)
   · exact Ext.fb (Ext.gA h6 (wT.trans vo) fun k ae=>by omega) oJ (by omega)
end
section
theorem b6.mk' {B:Nat→Prop} {w:World} {s:aa} {ts:List aa} {ls:List Key} (az:ts.length=ls.length) (bE:b3 1 ah.cn w s (ts.map pB)) (hi:In B w s) (bO:∀p∈ts.zip ls,bL B w p.1 p.2∧∀k,aQ p.1 k→¬aQ s k):b6 B w s ls:=by
 refine ⟨ts,az,bE,hi,fun i U ad=> ?_⟩
 have:=bO (ts[i],ls[i]) (by
   rw[List.mem_iff_getElem]
   exact ⟨i,by rw[Cc];omega,by rw[Nf]⟩)
 exact this
theorem b6.out {B:Nat→Prop} {w:World} {s:aa} {ls:List Key} (h:b6 B w s ls):∃ts:List aa,ts.length=ls.length∧b3 1 ah.cn w s (ts.map pB)∧In B w s∧∀p∈ts.zip ls,bL B w p.1 p.2∧∀k,aQ p.1 k→¬aQ s k:=by
 obtain ⟨ts,U,ad,au,aH⟩:=h
 refine ⟨ts,U,ad,au,fun p aW=> ?_⟩
 obtain ⟨i,hi,rfl⟩:=List.mem_iff_getElem.1 aW
 rw[Cc] at hi
 rw[Nf]
 exact aH i (by omega) (by omega)
theorem YM {α β:Type} (a:List α) (b:List β) (i:Nat):(a.take i).zip (b.take i)=(a.zip b).take i:=by
 rw[List.zip_eq_zipWith,List.zip_eq_zipWith,List.take_zipWith]
theorem YN {α β:Type} (a:List α) (b:List β) (i:Nat):(a.drop i).zip (b.drop i)=(a.zip b).drop i:=by
 rw[List.zip_eq_zipWith,List.zip_eq_zipWith,List.drop_zipWith]
theorem YO {B:Nat→Prop} {w:World} {s t:aa} {ls:List Key} {l:Key} {i:Nat} (bE:b6 B w s ls) (aR:bL B w t l) (hd:∀k,aQ t k→¬aQ s k) (aC:ls.length≤100000) (hi:i≤ls.length):
   aO Tryz.prog F.yB #[.slice s.a s.len s.cap, .int .i64 (i:Int), .slice (some ⟨w.heap.size,0,none⟩) 1 1] (w.alloc (.cells #[.slice t.a t.len t.cap] ah.cn))
     (fun u w'=>∃ar:aa,u= .slice ar.a ar.len ar.cap∧b6 (Grow B w w') w' ar (ls.take i++ [l]++ls.drop i)∧ao (aQ s) w w'):=by
 obtain ⟨ts,U,ad,au,aH⟩:=b6.out bE
 have gv:s.len=ls.length:=by have:=ad.1;rw[mj] at this;omega
 have af:=iP w (.cells #[.slice t.a t.len t.cap] ah.cn)
 have jh:=cr.new w #[.slice t.a t.len t.cap] ah.cn
 refine (aji (v:=⟨some ⟨w.heap.size,0,none⟩,1,1⟩) (xs:=[pB t]) (i:=i) (ad.ext af) (Src.new (T:=ah.cn) w [pB t] 1 rfl) rfl rfl jh (fun h=>by have:=(au _ h).2;omega) (fun v ak=>by rw[lR.1 ak];trivial) (NV ts) (by omega) (by omega)).mono ?_
 rintro _ w' ⟨ar,rfl,aB,aF,aJ,aM⟩
 rw[mi] at aB
 have al:ao (aQ s) w w':=(ao.eT af).trans aJ
 have dH:=al.size
 have sW:(w.alloc (.cells #[.slice t.a t.len t.cap] ah.cn)).heap.size=w.heap.size+1:=J2 _ _
 have mo:∀k,aQ ar k→aQ s k∨w.heap.size≤k:=fun k ae=>(aM k ae).imp id fun h=>by omega
 have lz:∀ (x:aa),In B w x→(∀k,aQ x k→¬aQ s k)→∀k,aQ x k→¬aQ ar k:=fun x af cB k ae dW=>by
   rcases mo k dW with h|h
   · exact cB k ae h
   · have:=(af k ae).2;omega
 have hF:∀ (x:aa) (y:Key),bL B w x y→(∀k,aQ x k→¬aQ s k)→bL (Grow B w w') w' x y∧∀k,aQ x k→¬aQ ar k:=fun x y YP cB=>⟨bL.bz (bL.qL YP al cB) fun k _ h=> .inl h,lz x YP.2.2 cB⟩
 refine ⟨ar,rfl,b6.mk' (ts:=ts.take i++ [t]++ts.drop i) ?_ ?_ ?_ ?_,al⟩
 · simp only[dO,ej,fF,rm];omega
 · simpa[EN,GZ] using aB
 · intro k ae
   refine ⟨?_,aB.lt k ae⟩
   rcases mo k ae with h|h
   · exact .inl (au k h).1
   · exact .inr ⟨h,aB.lt k ae⟩
 · intro p aW
   rw[List.zip_append (by simp only[dO,ej,rm];omega),List.zip_append (by simp only[ej];omega),YM,YN] at aW
   rcases fa.1 aW with aW|aW
   · rcases fa.1 aW with aW|aW
     · obtain ⟨a,b⟩:=aH p (kL aW)
       exact hF _ _ a b
     · simp only[List.zip_cons_cons,List.zip_nil_left,lR] at aW
       subst aW
       exact hF _ _ aR hd
   · obtain ⟨a,b⟩:=aH p (kt aW)
     exact hF _ _ a b
theorem ajM:(Tryz.prog.info? ah.cn).bind (·.zero)=some (.slice none 0 0):=by kernel_rfl
theorem YQ {B:Nat→Prop} {w:World} {s:aa} {ls:List Key} {i:Nat} (bE:b6 B w s ls) (aC:ls.length≤100000) (hi:i<ls.length):
   aO Tryz.prog F.yD #[.slice s.a s.len s.cap, .int .i64 (i:Int), .int .i64 ((i+1:Nat):Int)] w
     (fun u w'=>∃ar:aa,u= .slice ar.a ar.len ar.cap∧b6 B w' ar (ls.take i++ls.drop (i+1))∧ao (aQ s) w w'):=by
 obtain ⟨ts,U,ad,au,aH⟩:=b6.out bE
 have gv:s.len=ls.length:=by have:=ad.1;rw[mj] at this;omega
 refine (ajr (i:=i) ad (NV ts) (fun z bO u hu=>by
   rw[ajM] at bO
   cases bO
   simp[Value.cells] at hu
   subst hu;trivial) (by omega) (by omega)).mono ?_
 rintro _ w' ⟨ar,rfl,aB,aF,aJ,aM⟩
 rw[mi,mi] at aB
 have dH:=aM.size
 have mo:∀k,aQ ar k→aQ s k:=fun k ⟨A,ax,ae⟩=>⟨A,by rw[←aJ];exact ax,ae⟩
 refine ⟨ar,rfl,b6.mk' (ts:=ts.take i++ts.drop (i+1)) ?_ ?_ ?_ ?_,aM⟩
 · simp only[dO,ej,fF];omega
 · simpa[EN,GZ] using aB
 · exact fun k ae=>⟨(au k (mo k ae)).1,aB.lt k ae⟩
 · intro p aW
   rw[List.zip_append (by simp only[ej];omega),YM,YN] at aW
   have hm:p∈ts.zip ls:=by
     rcases fa.1 aW with aW|aW
     · exact kL aW
     · exact kt aW
   obtain ⟨a,b⟩:=aH p hm
   exact ⟨bL.qL a aM b,fun k ae dW=>b k ae (mo k dW)⟩
theorem ajN {B:Nat→Prop} {w:World} {s t:aa} {ls:List Key} {l:Key} {i:Nat} (bE:b6 B w s ls) (aR:bL B w t l) (hd:∀k,aQ t k→¬aQ s k) (hi:i<ls.length):
   ∃A:Addr,s.a=some A∧((0:Int)≤(i:Int)∧(i:Int)<((s.len:Nat):Int))∧(∃u:Value,w.cell? (A.add (Int.toNat (i:Int)*1))=some u)∧w.frozen? (A.add (Int.toNat (i:Int)*1))=false∧
     b6 B (w.setCell (A.add (Int.toNat (i:Int)*1)) (pB t)) s (ls.set i l)∧ao (aQ s) w (w.setCell (A.add (Int.toNat (i:Int)*1)) (pB t)):=by
 obtain ⟨ts,U,ad,au,aH⟩:=bE
 obtain ⟨A,ax,ab,al,aG,fj,yH⟩:=ad.at (i:=i) (v:=pB (ts[i]'(by omega))) (by simp[U,hi])
 have u_:ao (aQ s) w (w.setCell (A.add (Int.toNat (i:Int)*1)) (pB t)):=ao.set (.refl _ _) (fun _=>fj) _
 refine ⟨A,ax,ab,⟨_,al⟩,aG,⟨ts.set i t,by simp[U],?_,In.an au u_,fun j aY b9=> ?_⟩,u_⟩
 · have:=yH (pB t)
   rwa[←List.map_set] at this
 · rw[jv] at aY b9
   rw[List.getElem_set,List.getElem_set]
   by_cases e:i=j
   · rw[if_pos e,if_pos e]
     exact ⟨bL.qL aR u_ hd,hd⟩
   · rw[if_neg e,if_neg e]
     obtain ⟨a,b⟩:=aH j aY b9
     exact ⟨bL.qL a u_ b,b⟩
def o6 (n:aL) (k v:Key):aL:=
 if o5 n.keys k then {n with vals:=n.vals.set (eu n.keys k) v}
 else {n with keys:=n.keys.take (eu n.keys k)++ [k]++n.keys.drop (eu n.keys k),vals:=n.vals.take (eu n.keys k)++ [v]++n.vals.drop (eu n.keys k)}
def yI (n:aL) (k:Key):aL:={n with keys:=n.keys.take (eu n.keys k)++n.keys.drop (eu n.keys k+1),vals:=n.vals.take (eu n.keys k)++n.vals.drop (eu n.keys k+1)}
theorem oe.iS {n:aL} (h:oe n):(∀k∈n.keys,k.length≤100000)∧(∀v∈n.vals,v.length≤100000):=⟨fun k ae=>by have:=(h.ok k ae).2;omega,fun v ak=>by have:=h.vals v ak;omega⟩
def Fp (n:aL) (w:World) (v:Value) (w':World):Prop:=∃K V D:aa,v= .tuple #[fc n K V D, .bool true]∧cg (fun q=>w.heap.size≤q) w' n K V D∧Ext w w'
theorem yJ {B:Nat→Prop} {w:World} {n:aL} {K V D aI eU:aa} {key val:Key} (h:cg B w n K V D) (aj:oe n) (aC:n.keys.length≤10000) (ae:Src 1 w aI (bo key)) (ak:Src 1 w eU (bo val)) (jf:eJ key) (p8:val.length≤24):
   aO Tryz.prog F.yJ #[fc n K V D, .slice aI.a aI.len aI.cap, .slice eU.a eU.len eU.cap] w (Fp (o6 n key val) w):=by
 have jM:=aj.len
 have lU:n.kids.length=0:=by rw[aj.kids];rfl
 have auZ:=len8 ak
 have fv:key.length≤24:=jf.2
 refine W.ajO n.leaf K V D aI eU w _ ?_
 (delta W.yJ dx bV ai HA aA aq bd rC Kq jy dL dK a6 st e_ Kr;dsimp only)
 refine cx (vs:=[.bool n.leaf, .slice K.a K.len K.cap, .slice V.a V.len V.cap, .slice D.a D.len D.cap]) rfl fun ag gg bG kO=> ?_
 refine cx (vs:=[.bool false, .slice none 0 0, .slice none 0 0, .slice none 0 0]) rfl fun aw fS cB mB=> ?_
 have pF:=bG.trans cB
 obtain ⟨cJ,aV,bA,bd⟩:=cl (gg.ext cB)
 refine ⟨n.leaf,cJ,eN (fun b w'=>b=false∧Ext aw w') (fun q J=>⟨fun ab=> ?_,fun ab=>⟨_,cJ,K,aV,V,bA,D,bd,(nJ (h.ext pF) (by omega) (by omega) (by omega)).use ?_⟩⟩) ?_⟩
 · rw[aj.leaf] at ab;cases ab
 · rintro _ aS ⟨b,rfl,gu,eS⟩
   have:=gu.2 (.inl aj)
   subst this
   exact ⟨true,rfl,J _ _ ⟨rfl,eS⟩⟩
 rintro _ aS ⟨rfl,eS⟩
 have h6:=pF.trans eS
 refine eN (fun b w'=>b=false∧aS=w') (fun q J=>⟨fun h=>(by cases h),fun _=>(vd (ae.ext h6)).use ?_⟩) ?_
 · rintro _ _ ⟨rfl,rfl⟩
   exact ⟨_,rfl,J _ _ ⟨by simp[jf],rfl⟩⟩
 rintro _ _ ⟨rfl,rfl⟩
 obtain ⟨cJ,aV,bA,bd⟩:=cl (gg.ext (cB.trans eS))
 refine ⟨fun ab=> ?_,fun _=>⟨_,cJ,K,aV,V,bA,D,bd,(fK (h.ext h6) (by omega) (by omega) (by omega) aj.iS.1 aj.iS.2).use ?_⟩⟩
 · have ab:decide ((((eU.len:Nat):Int):Int)>24)=true:=ab
   have:=dG ab;omega
 rintro _ bp ⟨aT,bM,aP,cC,cY,ct,rfl,wV,fz⟩
 have tQ:=h6.trans fz
 have Fh:=tQ.size
 have au0:=h6.size
 have au1:=eS.size
 have au2:=fz.size
 refine ⟨n.leaf,aT,bM,aP,rfl,cx (vs:=[.bool false, .slice none 0 0, .slice none 0 0, .slice none 0 0]) rfl fun bB yq ji N1=>⟨yq.dC rfl ?_,rfl,eo yq (us:=[.bool n.leaf, .slice aT.a aT.len aT.cap, .slice bM.a bM.len bM.cap, .slice aP.a aP.len aP.cap]) rfl rfl fun bf u7 qK Oe=> ?_⟩⟩
 · intro v ak
   simp only[fZ,mT,mU] at ak
   rcases ak with rfl|rfl|rfl|rfl<;>trivial
 obtain ⟨aK,fj⟩:∃aK,aK=bp.heap.size:=⟨_,rfl⟩
 rw[←fj] at u7 qK⊢
 obtain ⟨lo,lT⟩:∃lo,lo=aS.heap.size:=⟨_,rfl⟩
 rw[←lT] at wV
 have nI:Ext w bf:=Ext.fb (tQ.trans ji) qK (by omega)
 have wW:Var bf w.heap.size [.bool n.leaf, .slice K.a K.len K.cap, .slice V.a V.len V.cap, .slice D.a D.len D.cap] ah.cO:=(((gg.ext (cB.trans eS)).ext fz).ext ji).an qK (by omega)
 have YR:Var bf ag.heap.size [.bool false, .slice none 0 0, .slice none 0 0, .slice none 0 0] ah.cO:=(((fS.ext eS).ext fz).ext ji).an qK (by omega)
 have lB:j0 lo bf n aT bM aP cC cY ct:=(wV.ext ji).an qK fun q _ _ J e=>by
   subst e
   rcases J with J|J|J
   · have:=(wV.bW _ J).2.1;omega
   · have:=(wV.bv _ J).2.1;omega
   · have:=(wV.a6 _ J).2;omega
 obtain ⟨cJ,aV,bA,bd⟩:=cl wW
 have hle:=Hi n.keys key
 refine ⟨_,cJ,K,aV,V,bA,D,bd,(rB (h.ext nI) (ae.ext nI) aj.kg (by omega)).use ?_⟩
 rintro _ a7 ⟨rfl,eR⟩
 have sh:=nI.trans eR
 have Of:=eR.size
 refine ⟨_,_,rfl,fun cS=> ?_,fun cS=> ?_⟩
 ·
   have bD:=dT a7
   have lX:=eR.trans bD
   have ba:eu n.keys key<n.keys.length:=by
     have:=dG cS
     exact (qy.1 this).1
   obtain ⟨d0,d1,d2,d3⟩:=cl (u7.ext lX)
   refine bN ⟨fun _=>False,id,bM,d2,(vb (B:=fun q=>a7.heap.size≤q) (ak.ext (sh.trans bD)) (by omega) (fun q J=>J)).use ?_⟩
   rintro _ bS ⟨t,rfl,aR,f_,X5⟩
   have CL:=lX.trans f_
   have Sv:=lB.ext CL
   have Fk:=CL.size
   have ajP:b6 (Grow cY a7 bS) bS bM n.vals:=b6.bz Sv.vals fun k _ h=> .inl h
   have wX:∀k,aQ bM k→cY k:=fun k ae=>by obtain ⟨ts,_,_,au,_⟩:=lB.vals;exact (au k ae).1
   obtain ⟨A,ax,ab,kR,YS,yH,u_⟩:=ajN (i:=eu n.keys key) ajP (bL.bz aR fun k ae h=> .inr ⟨h,ae⟩) (fun k jX dW=>by
     have:=(aR.2.2 k jX).1
     have:=(lB.bv k (wX k dW)).2.1
     omega) (by omega)
   refine ⟨t,rfl,f_,A,ax,ab,kR,YS,bN ?_⟩
   obtain ⟨bY,HB⟩:∃bY,bY=bS.setCell (A.add (Int.toNat (eu n.keys key:Int)*1)) (pB t):=⟨_,rfl⟩
   rw[←HB] at yH u_
   have ajQ:bS.setCell (A.add (Int.toNat (eu n.keys key:Int)*1)) (.slice t.a t.len t.cap)=bY:=HB.symm
   rw[ajQ]
   have Ks:ao (fun q=>lo≤q∧q<bf.heap.size∧cY q) bS bY:=u_.mono fun k _ ae=>⟨(lB.bv k (wX k ae)).1,(lB.bv k (wX k ae)).2.1,wX k ae⟩
   have oH:=(u7.ext CL).an Ks (fun e=>by
     have U:=(wV.bv _ e.2.2).2.1;omega)
   obtain ⟨gY,a_,bw,ek⟩:=cl oH
   have ajR:cg (fun q=>lo≤q) bY (o6 n key val) aT bM aP:=by
     unfold o6
     rw[if_pos cS]
     refine ⟨b2.bz (b2.an (b6.qM Sv.keys) Ks fun q J e=>(lB.bW q J).2.2.1 e.2.2) fun q _ J=>(lB.bW q J).1,b2.bz (b6.qM yH) fun q _ J=> ?_,en.bz (en.an (eL.Ht Sv.kids) Ks fun q J e=>(lB.bv q e.2.2).2.2 J) fun q _ J=>(lB.a6 q J).1⟩
     rcases J with J|J
     · exact (lB.bv q J).1
     · omega
   have Ke:(o6 n key val).leaf=n.leaf:=by unfold o6;rw[if_pos cS]
   refine ⟨_,gY,aT,a_,bM,bw,aP,ek,ry n.leaf aT bM aP ((YR.ext CL).an Ks (fun e=>by have:=e.1;omega)) rfl (Q:=fun b K V D aw=>Fp (o6 n key val) w (.tuple #[.agg #[.bool b, .slice K.a K.len K.cap, .slice V.a V.len V.cap, .slice D.a D.len D.cap], .bool true]) aw) fun bR wY=>⟨aT,bM,aP,by unfold fc;rw[Ke],?_,?_⟩⟩
   · exact (ajR.an wY fun q J e=>by omega).bz fun q _ J=>by omega
   · exact Ext.fb (Ext.gA (nI.trans CL) Ks fun k ae=>by omega) wY (by omega)
 ·
   have bD:=dT a7
   have lX:=eR.trans bD
   have l0:pH lo a7.drew aK n aT bM aP cC cY ct:=by
     have sm:=lB.ext lX
     refine ⟨u7.ext lX,sm.keys,sm.vals,sm.kids,fun q J=> ?_,fun q J=> ?_,fun q J=> ?_,by omega⟩
     · have U:=sm.bW q J;have:=(wV.bW q J).2.1;exact ⟨U.1,U.2.1,by omega,U.2.2⟩
     · have U:=sm.bv q J;have:=(wV.bv q J).2.1;exact ⟨U.1,U.2.1,by omega,U.2.2⟩
     · have U:=sm.a6 q J;have:=(wV.a6 q J).2;exact ⟨U.1,U.2,by omega⟩
   obtain ⟨d0,d1,d2,d3⟩:=cl l0.v
   refine bN ⟨fun _=>False,id,aT,d1,(vb (B:=fun q=>a7.heap.size≤q) (ae.ext (sh.trans bD)) (by omega) (fun q J=>J)).use ?_⟩
   rintro _ bS ⟨t,rfl,aR,f_,X5⟩
   have Fk:a7.heap.size≤bS.heap.size:=(bD.trans f_).size
   have kV:∀k,aQ aT k→cC k:=fun k ae=>by obtain ⟨ts,_,_,au,_⟩:=lB.keys;exact (au k ae).1
   have wX:∀k,aQ bM k→cY k:=fun k ae=>by obtain ⟨ts,_,_,au,_⟩:=lB.vals;exact (au k ae).1
   have ou:=l0.ext f_
   refine ⟨t,rfl,f_,bN ⟨iP _ _,(YO (B:=Grow cC a7 bS) (i:=eu n.keys key) (b6.bz ou.keys fun k _ h=> .inl h) (bL.bz aR fun k ae h=> .inr ⟨h,ae⟩) (fun k jX dW=>by
     have:=(aR.2.2 k jX).1
     have:=(lB.bW k (kV k dW)).2.1
     omega) (by omega) hle).use ?_⟩⟩
   rintro _ bY ⟨S,rfl,o3,hD⟩
   have HC:=hD.size
   have Kt:ao (fun q=>lo≤q∧cC q) bS bY:=hD.mono fun k _ ae=>⟨(lB.bW k (kV k ae)).1,kV k ae⟩
   have oH:=ou.v.an Kt fun e=>(ou.bW _ e.2).2.2.1 rfl
   obtain ⟨s1,s2⟩:=jk oH (i:=1) (by simp)
   refine ⟨S,rfl,?_⟩
   rw[aX,aX]
   refine ⟨s1,s2,bN (bN ?_)⟩
   obtain ⟨bR,Sw⟩:∃bR,bR=(bY.setCell ⟨aK,0+1,none⟩ (.slice S.a S.len S.cap)).drew:=⟨_,rfl⟩
   rw[←Sw]
   have wY:ao (fun q=>q=aK) bY bR:=by rw[Sw];exact ao.drew (il _ _ _ _)
   have YT:Var bR aK [.bool n.leaf, .slice S.a S.len S.cap, .slice bM.a bM.len bM.cap, .slice aP.a aP.len aP.cap] ah.cO:=by rw[Sw];exact (jj oH _).drew
   have Og:=wY.size
   have au3:aK<a7.heap.size:=by have:=u7.lt;omega
   have ajS:b6 (fun q=>cC q∨(a7.heap.size≤q∧q<bY.heap.size)) bR S (n.keys.take (eu n.keys key)++ [key]++n.keys.drop (eu n.keys key)):=by
     refine b6.an (b6.bz o3 fun k _ ae=> ?_) wY fun k ae e=> ?_
     · rcases ae with (ae|ae)|ae
       · exact .inl ae
       · exact .inr ⟨ae.1,by omega⟩
       · exact .inr ⟨by omega,ae.2⟩
     · subst e
       rcases ae with ae|ae
       · exact (ou.bW _ ae).2.2.1 rfl
       · omega
   have ajT:b6 cY bR bM n.vals:=b6.an (b6.an ou.vals Kt fun q J e=>(ou.bW q e.2).2.2.2.1 J) wY fun q J e=>(ou.bv q J).2.2.1 e
   have ajU:eL ct bR aP n.kids:=eL.an (eL.an ou.kids Kt fun q J e=>(ou.bW q e.2).2.2.2.2 J) wY fun q J e=>(ou.a6 q J).2.2 e
   have wZ:Ext w bR:=Ext.gA (Ext.gA ((sh.trans bD).trans f_) Kt fun k ae=>by omega) wY fun k ae=>by omega
   obtain ⟨f0,f1,f2,f3⟩:=cl YT
   rw[aX] at f2
   refine ⟨fun _=>False,id,bM,f2,(vb (B:=fun q=>bR.heap.size≤q) (ak.ext wZ) (by omega) (fun q J=>J)).use ?_⟩
   rintro _ cf ⟨t2,rfl,nK,nj,aij⟩
   have ajV:=nj.size
   refine ⟨t2,rfl,nj,bN ⟨iP _ _,(YO (B:=Grow cY bR cf) (i:=eu n.keys key) (b6.bz (b6.ext ajT nj) fun k _ h=> .inl h) (bL.bz nK fun k ae h=> .inr ⟨h,ae⟩) (fun k jX dW=>by
     have:=(nK.2.2 k jX).1
     have:=(lB.bv k (wX k dW)).2.1
     omega) (by omega) (by omega)).use ?_⟩⟩
   rintro _ cy ⟨iF,rfl,Aq,yK⟩
   have ajW:=yK.size
   have Ku:ao (fun q=>lo≤q∧cY q) cf cy:=yK.mono fun k _ ae=>⟨(lB.bv k (wX k ae)).1,wX k ae⟩
   have YU:=(YT.ext nj).an Ku fun e=>(ou.bv _ e.2).2.2.1 rfl
   obtain ⟨s1,s2⟩:=jk YU (i:=2) (by simp)
   refine ⟨iF,rfl,?_⟩
   rw[aX,aX]
   refine ⟨s1,s2,bN ?_⟩
   obtain ⟨bZ,yL⟩:∃bZ,bZ=cy.setCell ⟨aK,0+2,none⟩ (.slice iF.a iF.len iF.cap):=⟨_,rfl⟩
   rw[←yL]
   have pI:ao (fun q=>q=aK) cy bZ:=by rw[yL];exact il _ _ _ _
   have Az:Var bZ aK [.bool n.leaf, .slice S.a S.len S.cap, .slice iF.a iF.len iF.cap, .slice aP.a aP.len aP.cap] ah.cO:=by rw[yL];exact jj YU _
   have Kv:=pI.size
   obtain ⟨Kw,aB,aF,aJ⟩:=cl Az
   rw[aX] at aB aF aJ
   have Fo:cg (fun q=>lo≤q) bZ (o6 n key val) S iF aP:=by
     unfold o6
     rw[if_neg (by rw[cS];simp)]
     refine ⟨?_,?_,?_⟩
     · refine b2.bz (b6.qM (b6.an (b6.an (b6.ext ajS nj) Ku fun q J e=> ?_) pI fun q J e=> ?_)) fun q _ J=> ?_
       · rcases J with J|J
         · exact (ou.bW q J).2.2.2.1 e.2
         · have:=(lB.bv q e.2).2.1;omega
       · subst e
         rcases J with J|J
         · exact (ou.bW _ J).2.2.1 rfl
         · omega
       · rcases J with J|J
         · exact (ou.bW q J).1
         · omega
     · refine b2.bz (b6.qM (b6.an Aq pI fun q J e=> ?_)) fun q _ J=> ?_
       · subst e
         rcases J with (J|J)|J
         · exact (ou.bv _ J).2.2.1 rfl
         · omega
         · omega
       · rcases J with (J|J)|J
         · exact (ou.bv q J).1
         · omega
         · omega
     · exact en.bz (eL.Ht (eL.an (eL.an (eL.ext ajU nj) Ku fun q J e=>(ou.bv q e.2).2.2.2 J) pI fun q J e=>(ou.a6 q J).2.2 e)) fun q _ J=>(ou.a6 q J).1
   have ajX:(o6 n key val).leaf=n.leaf:=by unfold o6;rw[if_neg (by rw[cS];simp)]
   have vp:Ext w bZ:=Ext.gA (Ext.gA (wZ.trans nj) Ku fun k ae=>by omega) pI fun k ae=>by omega
   have Ko:Var bZ ag.heap.size [.bool false, .slice none 0 0, .slice none 0 0, .slice none 0 0] ah.cO:=by
     have U:=YR.ext (lX.trans f_)
     have ad:=(U.an Kt (fun e=>by have:=e.1;omega)).an wY (by omega)
     exact ((ad.ext nj).an Ku (fun e=>by have:=e.1;omega)).an pI (by omega)
   rw[aX,aX]
   refine ⟨_,Kw,S,aB,iF,aF,aP,aJ,?_⟩
   have:=ry n.leaf S iF aP Ko rfl (Q:=fun b K V D aw=>Fp (o6 n key val) w (.tuple #[.agg #[.bool b, .slice K.a K.len K.cap, .slice V.a V.len V.cap, .slice D.a D.len D.cap], .bool true]) aw) fun cZ gw=>⟨S,iF,aP,by unfold fc;rw[ajX],(Fo.an gw fun q J e=>by omega).bz fun q _ J=>by omega,Ext.fb vp gw (by omega)⟩
   simpa only[aX] using this
end
section
def HD (n:aL) (key:Key) (w:World) (v:Value) (w':World):Prop:=
 if o5 n.keys key then Fp (yI n key) w v w' else v= .tuple #[fc o4 bX bX bX, .bool false]∧Ext w w'
theorem yM {B:Nat→Prop} {w:World} {n:aL} {K V D aI:aa} {key:Key} (h:cg B w n K V D) (aj:oe n) (aC:n.keys.length≤10000) (ae:Src 1 w aI (bo key)):
   aO Tryz.prog F.yM #[fc n K V D, .slice aI.a aI.len aI.cap] w (HD n key w):=by
 have jM:=aj.len
 have lU:n.kids.length=0:=by rw[aj.kids];rfl
 refine W.ajY n.leaf K V D aI w _ ?_
 (delta W.yM dx bV ai aq dL HA aA bd rC Kq jy dK aD st e_ Kr;dsimp only)
 refine cx (vs:=[.bool n.leaf, .slice K.a K.len K.cap, .slice V.a V.len V.cap, .slice D.a D.len D.cap]) rfl fun ag gg bG kO=> ?_
 refine cx (vs:=[.bool false, .slice none 0 0, .slice none 0 0, .slice none 0 0]) rfl fun aw fS cB mB=> ?_
 have pF:=bG.trans cB
 obtain ⟨cJ,aV,bA,bd⟩:=cl (gg.ext cB)
 refine ⟨_,cJ,K,aV,V,bA,D,bd,(rB (h.ext pF) (ae.ext pF) aj.kg (by omega)).use ?_⟩
 rintro _ aS ⟨rfl,eS⟩
 have h6:=pF.trans eS
 obtain ⟨cJ,aV,bA,bd⟩:=cl (gg.ext (cB.trans eS))
 refine ⟨_,_,rfl,n.leaf,cJ,eN (fun b w'=>b=false∧Ext aS w') (fun q J=>⟨fun ab=> ?_,fun ab=>⟨_,cJ,K,aV,V,bA,D,bd,(nJ (h.ext h6) (by omega) (by omega) (by omega)).use ?_⟩⟩) ?_⟩
 · rw[aj.leaf] at ab;cases ab
 · rintro _ bp ⟨b,rfl,gu,fz⟩
   have:=gu.2 (.inl aj)
   subst this
   exact ⟨true,rfl,J _ _ ⟨rfl,fz⟩⟩
 rintro _ bp ⟨rfl,fz⟩
 have tQ:=h6.trans fz
 have Kx:=fz.size
 have CM:=eS.size
 have YV:=fS.ext (eS.trans fz)
 refine ⟨fun ab=> ?_,fun ab=> ?_⟩
 · have ab:o5 n.keys key=false:=by simpa using ab
   refine ry false bX bX bX YV rfl (Q:=fun b K V D aw=>HD n key w (.tuple #[.agg #[.bool b, .slice K.a K.len K.cap, .slice V.a V.len V.cap, .slice D.a D.len D.cap], .bool false]) aw) fun bB lW=> ?_
   unfold HD
   rw[if_neg (by rw[ab];simp)]
   exact ⟨rfl,Ext.fb tQ lW (by omega)⟩
 have cS:o5 n.keys key=true:=by simpa using ab
 have ba:eu n.keys key<n.keys.length:=(qy.1 (dG cS)).1
 obtain ⟨cJ,aV,bA,bd⟩:=cl (gg.ext (cB.trans (eS.trans fz)))
 refine ⟨_,cJ,K,aV,V,bA,D,bd,(fK (h.ext tQ) (by omega) (by omega) (by omega) aj.iS.1 aj.iS.2).use ?_⟩
 rintro _ bB ⟨aT,bM,aP,cC,cY,ct,rfl,vq,ji⟩
 have qJ:=tQ.trans ji
 have Oh:=ji.size
 refine ⟨n.leaf,aT,bM,aP,rfl,cx (vs:=[.bool false, .slice none 0 0, .slice none 0 0, .slice none 0 0]) rfl fun bf u7 ky Oe=>⟨u7.dC rfl ?_,rfl,eo u7 (us:=[.bool n.leaf, .slice aT.a aT.len aT.cap, .slice bM.a bM.len bM.cap, .slice aP.a aP.len aP.cap]) rfl rfl fun a7 Hr qP YW=> ?_⟩⟩
 · intro v ak
   simp only[fZ,mT,mU] at ak
   rcases ak with rfl|rfl|rfl|rfl<;>trivial
 obtain ⟨aK,fj⟩:∃aK,aK=bB.heap.size:=⟨_,rfl⟩
 rw[←fj] at Hr qP⊢
 obtain ⟨lo,lT⟩:∃lo,lo=bp.heap.size:=⟨_,rfl⟩
 rw[←lT] at vq
 have sh:Ext w a7:=Ext.fb (qJ.trans ky) qP (by omega)
 have Sx:Var a7 ag.heap.size [.bool false, .slice none 0 0, .slice none 0 0, .slice none 0 0] ah.cO:=((YV.ext ji).ext ky).an qP (by omega)
 have l0:pH lo a7 aK n aT bM aP cC cY ct:=by
   have sm:j0 lo a7 n aT bM aP cC cY ct:=(vq.ext ky).an qP fun q _ _ J e=>by
     subst e
     rcases J with J|J|J
     · have:=(vq.bW _ J).2.1;omega
     · have:=(vq.bv _ J).2.1;omega
     · have:=(vq.a6 _ J).2;omega
   refine ⟨Hr,sm.keys,sm.vals,sm.kids,fun q J=> ?_,fun q J=> ?_,fun q J=> ?_,by omega⟩
   · have U:=sm.bW q J;have:=(vq.bW q J).2.1;exact ⟨U.1,U.2.1,by omega,U.2.2⟩
   · have U:=sm.bv q J;have:=(vq.bv q J).2.1;exact ⟨U.1,U.2.1,by omega,U.2.2⟩
   · have U:=sm.a6 q J;have:=(vq.a6 q J).2;exact ⟨U.1,U.2,by omega⟩
 have kV:∀k,aQ aT k→cC k:=fun k ae=>by obtain ⟨ts,_,_,au,_⟩:=l0.keys;exact (au k ae).1
 have wX:∀k,aQ bM k→cY k:=fun k ae=>by obtain ⟨ts,_,_,au,_⟩:=l0.vals;exact (au k ae).1
 obtain ⟨d0,d1,d2,d3⟩:=cl l0.v
 have au4:=l0.v.lt
 rw[cz (n:=((eu n.keys key:Nat):Int)+1) (by omega) (by omega)]
 refine ⟨aT,d1,(YQ l0.keys (by omega) ba).use ?_⟩
 rintro _ bS ⟨S,rfl,o3,CF⟩
 have Ky:ao (fun q=>lo≤q∧cC q) a7 bS:=CF.mono fun k _ ae=>⟨(l0.bW k (kV k ae)).1,kV k ae⟩
 have s0:=l0.v.an Ky fun e=>(l0.bW _ e.2).2.2.1 rfl
 obtain ⟨s1,s2⟩:=jk s0 (i:=1) (by simp)
 refine ⟨S,rfl,?_⟩
 rw[aX,aX]
 refine ⟨s1,s2,bN ?_⟩
 obtain ⟨bY,HB⟩:∃bY,bY=bS.setCell ⟨aK,0+1,none⟩ (.slice S.a S.len S.cap):=⟨_,rfl⟩
 rw[←HB]
 have hD:ao (fun q=>q=aK) bS bY:=by rw[HB];exact il _ _ _ _
 have YX:Var bY aK [.bool n.leaf, .slice S.a S.len S.cap, .slice bM.a bM.len bM.cap, .slice aP.a aP.len aP.cap] ah.cO:=by rw[HB];exact jj s0 _
 have ajZ:b6 cC bY S (n.keys.take (eu n.keys key)++n.keys.drop (eu n.keys key+1)):=b6.an o3 hD fun q J e=>(l0.bW q J).2.2.1 e
 have aj0:b6 cY bY bM n.vals:=b6.an (b6.an l0.vals Ky fun q J e=>(l0.bW q e.2).2.2.2.1 J) hD fun q J e=>(l0.bv q J).2.2.1 e
 have aj1:eL ct bY aP n.kids:=eL.an (eL.an l0.kids Ky fun q J e=>(l0.bW q e.2).2.2.2.2 J) hD fun q J e=>(l0.a6 q J).2.2 e
 obtain ⟨f0,f1,f2,f3⟩:=cl YX
 rw[aX] at f2
 refine ⟨bM,f2,(YQ aj0 (by omega) (by omega)).use ?_⟩
 rintro _ bR ⟨iF,rfl,Aq,wY⟩
 have Kz:ao (fun q=>lo≤q∧cY q) bY bR:=wY.mono fun k _ ae=>⟨(l0.bv k (wX k ae)).1,wX k ae⟩
 have KA:=YX.an Kz fun e=>(l0.bv _ e.2).2.2.1 rfl
 obtain ⟨s1,s2⟩:=jk KA (i:=2) (by simp)
 refine ⟨iF,rfl,?_⟩
 rw[aX,aX]
 refine ⟨s1,s2,bN ?_⟩
 obtain ⟨cf,KB⟩:∃cf,cf=bR.setCell ⟨aK,0+2,none⟩ (.slice iF.a iF.len iF.cap):=⟨_,rfl⟩
 rw[←KB]
 have Fq:ao (fun q=>q=aK) bR cf:=by rw[KB];exact il _ _ _ _
 have aj2:Var cf aK [.bool n.leaf, .slice S.a S.len S.cap, .slice iF.a iF.len iF.cap, .slice aP.a aP.len aP.cap] ah.cO:=by rw[KB];exact jj KA _
 obtain ⟨Kw,aB,aF,aJ⟩:=cl aj2
 have iT:cg (fun q=>lo≤q) cf (yI n key) S iF aP:=by
   refine ⟨?_,?_,?_⟩
   · exact b2.bz (b6.qM (b6.an (b6.an ajZ Kz fun q J e=>(l0.bW q J).2.2.2.1 e.2) Fq fun q J e=>(l0.bW q J).2.2.1 e)) fun q _ J=>(l0.bW q J).1
   · exact b2.bz (b6.qM (b6.an Aq Fq fun q J e=>(l0.bv q J).2.2.1 e)) fun q _ J=>(l0.bv q J).1
   · exact en.bz (eL.Ht (eL.an (eL.an aj1 Kz fun q J e=>(l0.bv q e.2).2.2.2 J) Fq fun q J e=>(l0.a6 q J).2.2 e)) fun q _ J=>(l0.a6 q J).1
 have vr:Ext w cf:=Ext.gA (Ext.gA (Ext.gA (Ext.gA sh Ky fun k ae=>by omega) hD fun k ae=>by omega) Kz fun k ae=>by omega) Fq fun k ae=>by omega
 have aj3:Var cf ag.heap.size [.bool false, .slice none 0 0, .slice none 0 0, .slice none 0 0] ah.cO:=
   (((Sx.an Ky (fun e=>by have:=e.1;omega)).an hD (by omega)).an Kz (fun e=>by have:=e.1;omega)).an Fq (by omega)
 refine ⟨_,Kw,S,aB,iF,aF,aP,aJ,ry n.leaf S iF aP aj3 rfl (Q:=fun b K V D aw=>HD n key w (.tuple #[.agg #[.bool b, .slice K.a K.len K.cap, .slice V.a V.len V.cap, .slice D.a D.len D.cap], .bool true]) aw) fun cy yK=> ?_⟩
 unfold HD
 rw[if_pos cS]
 exact ⟨S,iF,aP,rfl,(iT.an yK fun q J e=>by omega).bz fun q _ J=>by omega,Ext.fb vr yK (by omega)⟩
theorem Sy {n:aL} (aj:d_ n) (m:Nat):((cellsOf n).take m).sum≤100*n.keys.length:=by
 have U:((cellsOf n).take m).sum≤(cellsOf n).sum:=by
   have:=Rx (cellsOf n) m;omega
 have ad:=RO aj n.keys.length (cR _)
 rw[g3 (by rw[Hp aj];exact cR _)] at ad
 have au:=R_ aj n.keys.length (cR _)
 omega
theorem s5 {B:Nat→Prop} {w:World} {n:aL} {K V D:aa} (h:cg B w n K V D) (aj:d_ n) (aC:n.keys.length≤10000) {most:Nat} (hm:most≤n.keys.length):
   aO Tryz.prog F.s5 #[fc n K V D, .int .i64 ((most:Nat):Int)] w (fun v w'=>v= .int .i64 ((mW (cellsOf n) most:Nat):Int)∧Ext w w'):=by
 refine W.aj4 n.leaf K V D ((most:Nat):Int) w _ ?_
 (delta W.s5 aq ai aA bV dK aD;dsimp only)
 refine cx (vs:=[.bool n.leaf, .slice K.a K.len K.cap, .slice V.a V.len V.cap, .slice D.a D.len D.cap]) rfl fun ag mC bG _=> ?_
 obtain ⟨cJ,aV,bA,bd⟩:=cl mC
 have CD:=b2.len h.keys
 have Cl:=Hp aj
 have kR:∀ (j:Nat) (a8:j<(cellsOf n).length),(cellsOf n)[j]=(om n j).length:=fun j a8=>by
   have U:=RN aj (i:=j) (by omega)
   rw[gH a8] at U
   exact Option.some.inj U
 refine ⟨K,aV,fun a i w'=>∃j:Nat,i=j∧j≤n.keys.length∧a=((((cellsOf n).take j).sum:Nat):Int)∧Ext ag w',fun _ i _=>((n.keys.length:Int)-i).toNat,⟨0,rfl,fm _,by simp, .refl _ _⟩,?_⟩
 rintro _ _ aw ⟨j,rfl,a8,rfl,cB⟩
 obtain ⟨d0,d1,d2,d3⟩:=cl (mC.ext cB)
 refine ⟨fun ba=> ?_,fun ck=> ?_⟩
 · have ba:j<n.keys.length:=by have:=dG ba;omega
   refine ⟨_,d0,K,d1,V,d2,D,d3,(s3 (h.ext (bG.trans cB)) aj ba (by omega)).use ?_⟩
   rintro _ aS ⟨s,rfl,bE,eS,_⟩
   have az:=Ae bE
   have ab:=Sy aj j
   have al:=NW aj ba
   have e:=Hd (l:=cellsOf n) (i:=j) (by omega)
   rw[kR j (by omega)] at e
   refine ⟨s,rfl,?_⟩
   rw[az,cz (n:=((((cellsOf n).take j).sum:Nat):Int)+(((om n j).length:Nat):Int)) (by omega) (by omega),cz (n:=(j:Int)+1) (by omega) (by omega)]
   refine ⟨⟨j+1,by omega,by omega,by omega,cB.trans eS⟩,?_⟩
   show ((n.keys.length:Int)-((j:Int)+1)).toNat<((n.keys.length:Int)-(j:Int)).toNat
   omega
 have ck:j=n.keys.length:=by have:=eW ck;omega
 subst ck
 rw[g3 (l:=cellsOf n) (by omega)]
 refine ⟨fun a i w'=>∃j:Nat,i=j∧j≤most∧a=((((cellsOf n).take j).sum:Nat):Int)∧Ext ag w'∧∀k,k<j→2*((cellsOf n).take (k+1)).sum<(cellsOf n).sum,fun _ i _=>((most:Int)-i).toNat,⟨0,rfl,fm _,by simp,cB,fun k ae=>by omega⟩,?_⟩
 rintro _ _ bp ⟨j,rfl,a8,rfl,fz,dc⟩
 obtain ⟨d0,d1,d2,d3⟩:=cl (mC.ext fz)
 have fw:=Sy aj (cellsOf n).length
 rw[qz] at fw
 refine ⟨fun ba=> ?_,fun ck=> ?_⟩
 · have ba:j<most:=by have:=dG ba;omega
   refine ⟨_,d0,K,d1,V,d2,D,d3,(s3 (h.ext (bG.trans fz)) aj (by omega) (by omega)).use ?_⟩
   rintro _ bB ⟨s,rfl,bE,ji,_⟩
   have az:=Ae bE
   have ab:=Sy aj j
   have al:=NW aj (i:=j) (by omega)
   have e:=Hd (l:=cellsOf n) (i:=j) (by omega)
   rw[kR j (by omega)] at e
   refine ⟨s,rfl,?_⟩
   rw[az,cz (n:=((((cellsOf n).take j).sum:Nat):Int)+(((om n j).length:Nat):Int)) (by omega) (by omega),cz (n:=2*(((((cellsOf n).take j).sum:Nat):Int)+(((om n j).length:Nat):Int))) (by omega) (by omega),cz (n:=(j:Int)+1) (by omega) (by omega)]
   refine ⟨fun hd=>⟨?_,bG.trans (fz.trans ji)⟩,fun hd=>⟨⟨j+1,by omega,by omega,by omega,fz.trans ji,fun k ae=> ?_⟩,?_⟩⟩
   · have hd:=dG hd
     have yN:(List.range most).find? (fun i=>decide ((cellsOf n).sum≤2*((cellsOf n).take (i+1)).sum))=some j:=by
       have:=lv ba (cR most)
       rw[List.find?_eq_some_iff_append]
       refine ⟨iB (by omega),List.range j,List.range' (j+1) (most-(j+1)),?_,fun a aU=> ?_⟩
       · have a_:=List.range'_append (s:=0) (m:=j) (n:=most-(j+1)+1) (step:=1)
         rw[Nl,Nl,←List.range'_succ]
         rw[Nat.one_mul,gy] at a_
         rw[a_]
         congr 1
         omega
       · have:=dc a (wq.1 aU)
         simp;omega
     unfold mW
     rw[yN];rfl
   · have hd:=eW hd
     rcases g8 k j with U|U
     · exact dc k U
     · have:k=j:=by omega
       subst this;omega
   · show ((most:Int)-((j:Int)+1)).toNat<((most:Int)-(j:Int)).toNat
     omega
 · have ck:j=most:=by have:=eW ck;omega
   subst ck
   refine ⟨?_,bG.trans fz⟩
   have yN:(List.range j).find? (fun i=>decide ((cellsOf n).sum≤2*((cellsOf n).take (i+1)).sum))=none:=by
     rw[r9]
     intro a aU
     have:=dc a (wq.1 aU)
     simp;omega
   unfold mW
   rw[yN]
end
section
theorem b2.sub {B:Nat→Prop} {w:World} {s:aa} {ls:List Key} {lo hi:Nat} (h:b2 B w s ls) (U:lo≤hi) (ad:hi≤ls.length):b2 B w ⟨bh s.a 1 lo s.cap,hi-lo,s.cap-lo⟩ ((ls.drop lo).take (hi-lo)):=by
 have az:=b2.len h
 obtain ⟨ts,aB,aF,aJ,aM,cU⟩:=h
 refine ⟨(ts.drop lo).take (hi-lo),by simp[aB],?_,by show hi-lo≤s.cap-lo;omega,fun k ae=> ?_,fun i au aH=> ?_⟩
 · have:=Src.sub aF aJ U (by omega)
   simpa[GZ,EN] using this
 · obtain ⟨A,ax,ab⟩:=NX ae
   exact aM k ⟨A,ax,ab⟩
 · simp only[G1,JK]
   rw[ej,fF] at au aH
   exact cU (lo+i) (by omega) (by omega)
theorem b2.le {B:Nat→Prop} {w:World} {s:aa} {ls:List Key} (h:b2 B w s ls):s.len≤s.cap:=by
 obtain ⟨ts,_,_,au,_⟩:=h
 exact au
theorem en.sub {B:Nat→Prop} {w:World} {s:aa} {ds:List Nat} {lo hi:Nat} (h:en B w s ds) (U:lo≤hi) (ad:hi≤ds.length):en B w ⟨bh s.a 1 lo s.cap,hi-lo,s.cap-lo⟩ ((ds.drop lo).take (hi-lo)):=by
 have az:=en.len h
 obtain ⟨aF,aJ,aM⟩:=h
 have au5:s.len≤s.cap:=aJ
 refine ⟨?_,by show hi-lo≤s.cap-lo;omega,fun k ae=> ?_⟩
 · have:=Src.sub aF aJ U (by omega)
   simpa[gX,GZ,EN] using this
 · obtain ⟨A,ax,ab⟩:=NX ae
   exact aM k ⟨A,ax,ab⟩
theorem lC (b:Bool) (K V D:aa):∀v∈([.bool b, .slice K.a K.len K.cap, .slice V.a V.len V.cap, .slice D.a D.len D.cap]:List Value),Plain v:=by
 intro v ak
 simp only[fZ,mT,mU] at ak
 rcases ak with rfl|rfl|rfl|rfl<;>trivial
theorem HE {lg:World} {bK aq:Nat} {Sz YY:List Value} {da cI:Bool} {dU eB eC c_ c6 dv:aa} (U:Var lg bK Sz ah.cO) (ad:Var lg aq YY ah.cO) (qQ:Sz.length=4) (qR:YY.length=4) (c5:bK≠aq) {W:Nat→Prop} (dk:∀q,q=bK→W q)
   {Q:Bool→aa→aa→aa→Bool→aa→aa→aa→World→Prop} (yA:∀jO,ao (fun q=>q=bK∨q=aq) lg jO→Q da dU eB eC cI c_ c6 dv jO):
   c2 lg ⟨bK,0,none⟩ [.bool da, .slice dU.a dU.len dU.cap, .slice eB.a eB.len eB.cap, .slice eC.a eC.len eC.cap]∧(4:Nat)=4∧ay (setCells lg ⟨bK,0,none⟩ 0 [.bool da, .slice dU.a dU.len dU.cap, .slice eB.a eB.len eB.cap, .slice eC.a eC.len eC.cap]) fun lh=>
     ao W lg lh∧c2 lh ⟨aq,0,none⟩ [.bool cI, .slice c_.a c_.len c_.cap, .slice c6.a c6.len c6.cap, .slice dv.a dv.len dv.cap]∧(4:Nat)=4∧ay (setCells lh ⟨aq,0,none⟩ 0 [.bool cI, .slice c_.a c_.len c_.cap, .slice c6.a c6.len c6.cap, .slice dv.a dv.len dv.cap]) fun jO=>
     ∃Oi:Bool,jO.cell? ⟨bK,0,none⟩=some (.bool Oi)∧∃qb:aa,jO.cell? (Addr.add ⟨bK,0,none⟩ 1)=some (.slice qb.a qb.len qb.cap)∧∃kA:aa,jO.cell? (Addr.add ⟨bK,0,none⟩ 2)=some (.slice kA.a kA.len kA.cap)∧∃pJ:aa,jO.cell? (Addr.add ⟨bK,0,none⟩ 3)=some (.slice pJ.a pJ.len pJ.cap)∧
     ∃qS:Bool,jO.cell? ⟨aq,0,none⟩=some (.bool qS)∧∃iY:aa,jO.cell? (Addr.add ⟨aq,0,none⟩ 1)=some (.slice iY.a iY.len iY.cap)∧∃g5:aa,jO.cell? (Addr.add ⟨aq,0,none⟩ 2)=some (.slice g5.a g5.len g5.cap)∧∃g6:aa,jO.cell? (Addr.add ⟨aq,0,none⟩ 3)=some (.slice g6.a g6.len g6.cap)∧Q Oi qb kA pJ qS iY g5 g6 jO:=by
 refine ⟨U.dC (by rw[qQ];rfl) (lC _ _ _ _),rfl,eo U (us:=[.bool da, .slice dU.a dU.len dU.cap, .slice eB.a eB.len eB.cap, .slice eC.a eC.len eC.cap]) (by rw[qQ];rfl) rfl fun lh mC iR _=> ?_⟩
 have Fs:=ad.an iR (fun e=>c5 e.symm)
 refine ⟨iR.mono fun q _ h=>dk q h,Fs.dC (by rw[qR];rfl) (lC _ _ _ _),rfl,eo Fs (us:=[.bool cI, .slice c_.a c_.len c_.cap, .slice c6.a c6.len c6.cap, .slice dv.a dv.len dv.cap]) (by rw[qR];rfl) rfl fun jO gR dS _=> ?_⟩
 obtain ⟨cJ,aV,bA,bd⟩:=cl (mC.an dS c5)
 obtain ⟨d0,d1,d2,d3⟩:=cl gR
 exact ⟨da,cJ,dU,aV,eB,bA,eC,bd,cI,d0,c_,d1,c6,d2,dv,d3,yA jO ((iR.mono fun q _ h=> .inl h).trans (dS.mono fun q _ h=> .inr h))⟩
def Ft (n:aL) (w:World) (v:Value) (w':World):Prop:=
 ∃ (dU eB eC c_ c6 dv t:aa),v= .tuple #[fc (n.left (dm n)) dU eB eC, .slice t.a t.len t.cap,fc (n.right (dm n)) c_ c6 dv, .bool true]∧
   cg (fun q=>w.heap.size≤q) w' (n.left (dm n)) dU eB eC∧cg (fun q=>w.heap.size≤q) w' (n.right (dm n)) c_ c6 dv∧bL (fun q=>w.heap.size≤q) w' t (n.keys.getD (dm n) [])∧Ext w w'
theorem yO {B:Nat→Prop} {w:World} {n:aL} {K V D:aa} (h:cg B w n K V D) (aj:d_ n) (aC:n.keys.length≤10000) (h4:1≤dm n)
   (ft:if n.leaf then dm n≤n.keys.length-1∧1≤n.keys.length-1 else dm n≤n.keys.length-2∧1≤n.keys.length-2):
   aO Tryz.prog F.yO #[fc n K V D] w (Ft n w):=by
 have jM:n.vals.length≤10000:=by
   rcases aj with aj|aj
   · rw[aj.len];omega
   · rw[aj.vals];simp
 have lU:n.kids.length≤10001:=by
   rcases aj with aj|aj
   · rw[aj.kids];simp
   · rw[aj.len];omega
 have fv:∀k∈n.keys,k.length≤100000:=fun k ae=>by have:=(aj.keys.ok k ae).2;omega
 have CN:∀k∈n.vals,k.length≤100000:=fun k ae=>by have:=aj.vals k ae;omega
 have CD:=b2.len h.keys
 obtain ⟨most,CO⟩:∃most,most=if n.leaf then n.keys.length-1 else n.keys.length-2:=⟨_,rfl⟩
 have iG:1≤most∧most≤n.keys.length∧dm n≤most:=by
   rw[CO]
   cases az:n.leaf<;>rw[az] at ft<;>simp at ft⊢<;>omega
 have vt:dm n<n.keys.length:=by
   cases az:n.leaf<;>rw[az] at ft<;>simp at ft<;>omega
 refine W.aj5 n.leaf K V D w _ ?_
 (delta W.yO dx aq ai bV aA aD bd jy aV a6 dK rD;dsimp only)
 refine cx (vs:=[.bool n.leaf, .slice K.a K.len K.cap, .slice V.a V.len V.cap, .slice D.a D.len D.cap]) rfl fun ag gg bG nH=> ?_
 refine cx (vs:=[.bool false, .slice none 0 0, .slice none 0 0, .slice none 0 0]) rfl fun aw lf cB u5=> ?_
 refine cx (vs:=[.bool false, .slice none 0 0, .slice none 0 0, .slice none 0 0]) rfl fun aS fS eS CM=> ?_
 have h6:=bG.trans (cB.trans eS)
 obtain ⟨cJ,aV,bA,bd⟩:=cl ((gg.ext cB).ext eS)
 refine ⟨K,aV,eN (fun m w'=>m=((most:Nat):Int)∧aS=w') (fun q J=>⟨n.leaf,cJ,fun ab=>J _ _ ⟨?_,rfl⟩,fun ab=>J _ _ ⟨?_,rfl⟩⟩) ?_⟩
 · have ab:n.leaf=false:=by simpa using ab
   rw[ab] at ft CO
   simp at ft CO
   rw[cz (n:=((K.len:Nat):Int)-1) (by omega) (by omega),cz (by omega) (by omega)]
   omega
 · have ab:n.leaf=true:=by simpa using ab
   rw[ab] at ft CO
   simp at ft CO
   rw[cz (by omega) (by omega)]
   omega
 rintro _ _ ⟨rfl,rfl⟩
 refine ⟨_,cJ,K,aV,V,bA,D,bd,(nJ (h.ext h6) (by omega) (by omega) (by omega)).use ?_⟩
 rintro _ bp ⟨b,rfl,ab,fz⟩
 have Sa:=ab.2 aj
 subst Sa
 have bD:=dT bp
 have qJ:=h6.trans (fz.trans bD)
 have Oj:=((gg.ext cB).ext eS).ext (fz.trans bD)
 have SA:=(lf.ext eS).ext (fz.trans bD)
 have SB:=fS.ext (fz.trans bD)
 have Oh:=(fz.trans bD).size
 obtain ⟨cJ,aV,bA,bd⟩:=cl Oj
 refine ⟨true,rfl,fun h=> ?_,fun _=>bN ⟨fun _=>False,id,_,cJ,K,aV,V,bA,D,bd,id,_,cJ,K,aV,V,bA,D,bd,⟨?_,?_⟩⟩⟩
 · simp only[Bool.not_true,G6] at h
   have:=dG h;omega
 · refine (fK (h.ext qJ) (by omega) (by omega) (by omega) fv CN).use ?_
   rintro _ bf ⟨aT,bM,aP,cC,cY,ct,rfl,lB,ky⟩
   refine ⟨n.leaf,aT,bM,aP,rfl,ky,⟨?_,?_⟩⟩
   · refine (s5 (h.ext (qJ.trans ky)) aj aC (most:=most) iG.2.1).use ?_
     rintro _ a7 ⟨rfl,eR⟩
     refine ⟨_,rfl,eR,cx (vs:=[.bool false, .slice none 0 0, .slice none 0 0, .slice none 0 0]) rfl fun bS s0 f_ Fk=>⟨f_,s0.dC rfl (lC _ _ _ _),rfl,eo s0 (us:=[.bool n.leaf, .slice aT.a aT.len aT.cap, .slice bM.a bM.len bM.cap, .slice aP.a aP.len aP.cap]) rfl rfl fun bY oH hD HC=> ?_⟩⟩
     have Of:=ky.size
     have CK:=eR.size
     obtain ⟨aK,fj⟩:∃aK,aK=a7.heap.size:=⟨_,rfl⟩
     rw[←fj] at oH hD⊢
     have s6:=ky.trans (eR.trans f_)
     have w2:j0 bp.heap.size bY n aT bM aP cC cY ct:=(lB.ext (eR.trans f_)).an hD fun q _ _ J e=>by
       subst e
       rcases J with J|J|J
       · have:=(lB.bW _ J).2.1;omega
       · have:=(lB.bv _ J).2.1;omega
       · have:=(lB.a6 _ J).2;omega
     have YZ:bp.drew.heap.size=bp.heap.size:=rfl
     have s7:Ext w bY:=Ext.fb (qJ.trans s6) hD (by omega)
     have CP:=(Oj.ext s6).an hD (by omega)
     have CQ:=(SA.ext s6).an hD (by omega)
     have CR:=(SB.ext s6).an hD (by omega)
     have KC:mW (cellsOf n) most=dm n:=by unfold dm;rw[CO]
     rw[KC]
     obtain ⟨i,hi⟩:∃i,i=dm n:=⟨_,rfl⟩
     rw[←hi] at vt iG h4
     rw[←hi]
     obtain ⟨gY,a_,bw,ek⟩:=cl CP
     obtain ⟨A,t,ax,gu,al,aR,_⟩:=b2.at (h.ext s7).keys vt
     refine ⟨K,a_,A,ax,gu,t,al,(vb (B:=fun q=>w.heap.size≤q) aR.1 (by have:=fv _ (fh vt);omega) (fun q J=>ju s7.size J)).use ?_⟩
     rintro _ bR ⟨aI,rfl,k1,kj,CS⟩
     have lX:=dT bR
     obtain ⟨gY,a_,bw,ek⟩:=cl (CP.ext kj)
     have kW:=kj.trans lX
     obtain ⟨f0,f1,f2,f3⟩:=cl (oH.ext kW)
     have iT:=w2.at.ext kW
     have Y0:=b2.len iT.keys
     have Ol:=b2.len iT.vals
     have Y1:=en.len iT.kids
     have Y2:=b2.le (b6.qM w2.keys)
     have Y3:=b2.le (b6.qM w2.vals)
     have Y4:aP.len≤aP.cap:=iT.kids.2.1
     have Y5:bY.heap.size≤bR.heap.size:=kj.size
     have vu:n.keys.getD i []=n.keys[i]:=ot vt
     refine ⟨aI,rfl,n.leaf,gY,fun az=>bN ⟨fun q=>q=ag.heap.size,fun e=> ?_,aT,f1,⟨by omega,by omega⟩,fun e=> ?_,bM,f2,⟨by omega,?_⟩, #[.bool true, .slice (bh aT.a 1 0 aT.cap) i aT.cap, .slice (bh bM.a 1 0 bM.cap) i bM.cap, .slice none 0 0],(fun w=>by kernel_rfl),fun e=> ?_,aT,f1,⟨by omega,by omega⟩,fun e=> ?_,bM,f2,⟨by omega,?_⟩, #[.bool true, .slice (bh aT.a 1 i aT.cap) (aT.len-i) (aT.cap-i), .slice (bh bM.a 1 i bM.cap) (bM.len-i) (bM.cap-i), .slice none 0 0],(fun w=>by kernel_rfl),?_⟩,fun az=> ?_⟩
     · rw[aX] at e;have e:aK=ag.heap.size:=e;omega
     · rw[aX] at e;have e:aK=ag.heap.size:=e;omega
     · have:=aj.wJ az;omega
     · rw[aX] at e;have e:aK=ag.heap.size:=e;omega
     · rw[aX] at e;have e:aK=ag.heap.size:=e;omega
     · have:=aj.wJ az;omega
     · have KD:=aj.wJ az
       have du:n.left i=⟨true,n.keys.take i,n.vals.take i,[]⟩:=by unfold aL.left;rw[az];rfl
       have c9:n.right i=⟨true,n.keys.drop i,n.vals.drop i,[]⟩:=by unfold aL.right;rw[az];rfl
       have w3:cg (fun q=>bp.heap.size≤q) bR.drew (n.left i) ⟨bh aT.a 1 0 aT.cap,i,aT.cap⟩ ⟨bh bM.a 1 0 bM.cap,i,bM.cap⟩ bX:=by
         rw[du]
         refine ⟨?_,?_,en.none _ _⟩
         · have:=b2.sub iT.keys (lo:=0) (hi:=i) (by omega) (by omega)
           simpa using this
         · have:=b2.sub iT.vals (lo:=0) (hi:=i) (by omega) (by omega)
           simpa using this
       have w4:cg (fun q=>bp.heap.size≤q) bR.drew (n.right i) ⟨bh aT.a 1 i aT.cap,aT.len-i,aT.cap-i⟩ ⟨bh bM.a 1 i bM.cap,bM.len-i,bM.cap-i⟩ bX:=by
         rw[c9]
         refine ⟨?_,?_,en.none _ _⟩
         · have:=b2.sub iT.keys (lo:=i) (hi:=aT.len) (by omega) (by omega)
           rwa[g3 (by rw[fF];omega)] at this
         · have:=b2.sub iT.vals (lo:=i) (hi:=bM.len) (by omega) (by omega)
           rwa[g3 (by rw[fF];omega)] at this
       have w5:=fK w3 (by rw[du];show (n.keys.take i).length≤_;rw[ej];omega) (by rw[du];show (n.vals.take i).length≤_;rw[ej];omega) (by rw[du];simp) (by rw[du];exact fun k ae=>fv k (kL ae)) (by rw[du];exact fun k ae=>CN k (kL ae))
       have w6:(.agg #[.bool true, .slice (bh aT.a 1 0 aT.cap) i aT.cap, .slice (bh bM.a 1 0 bM.cap) i bM.cap, .slice none 0 0]:Value)=fc (n.left i) ⟨bh aT.a 1 0 aT.cap,i,aT.cap⟩ ⟨bh bM.a 1 0 bM.cap,i,bM.cap⟩ bX:=by rw[du];rfl
       have w7:(.agg #[.bool true, .slice (bh aT.a 1 i aT.cap) (aT.len-i) (aT.cap-i), .slice (bh bM.a 1 i bM.cap) (bM.len-i) (bM.cap-i), .slice none 0 0]:Value)=fc (n.right i) ⟨bh aT.a 1 i aT.cap,aT.len-i,aT.cap-i⟩ ⟨bh bM.a 1 i bM.cap,bM.len-i,bM.cap-i⟩ bX:=by rw[c9];rfl
       rw[w6,w7]
       refine w5.use ?_
       rintro _ cy ⟨dU,eB,eC,AE,KE,KF,rfl,w8,h7⟩
       have w9:=fK (w4.ext h7) (by rw[c9];show (n.keys.drop i).length≤_;rw[fF];omega) (by rw[c9];show (n.vals.drop i).length≤_;rw[fF];omega) (by rw[c9];simp) (by rw[c9];exact fun k ae=>fv k (kt ae)) (by rw[c9];exact fun k ae=>CN k (kt ae))
       refine ⟨_,dU,eB,eC,rfl,ao.eT h7,w9.use ?_⟩
       rintro _ bZ ⟨c_,c6,dv,s4,AD,KG,rfl,w_,jP⟩
       have lD:=h7.trans jP
       have tZ:=h7.size
       have KH:=kW.size
       refine ⟨_,c_,c6,dv,rfl,ao.eT jP,HE (da:=(n.left i).leaf) (cI:=(n.right i).leaf) (dU:=dU) (eB:=eB) (eC:=eC) (c_:=c_) (c6:=c6) (dv:=dv) ((CQ.ext kW).ext lD) ((CR.ext kW).ext lD) rfl rfl (by omega) (fun q J=>J) (Q:=fun da dU eB eC cI c_ c6 dv w'=>Ft n w (.tuple #[.agg #[.bool da, .slice dU.a dU.len dU.cap, .slice eB.a eB.len eB.cap, .slice eC.a eC.len eC.cap], .slice aI.a aI.len aI.cap, .agg #[.bool cI, .slice c_.a c_.len c_.cap, .slice c6.a c6.len c6.cap, .slice dv.a dv.len dv.cap], .bool true]) w') fun cZ gw=> ?_⟩
       have xa:bR.drew.heap.size=bR.heap.size:=rfl
       refine ⟨dU,eB,eC,c_,c6,dv,aI,by rw[←hi];rfl,?_,?_,?_,?_⟩
       · rw[←hi];exact ((w8.at.ext jP).an gw fun q J e=>by omega).bz fun q _ J=>by omega
       · rw[←hi];exact (w_.at.an gw fun q J e=>by omega).bz fun q _ J=>by omega
       · rw[←hi,vu]
         have gf:∀q,aQ aI q→bY.heap.size≤q:=CS
         exact bL.qL (bL.ext (bL.ext k1 lX) lD) gw fun q J e=>by have:=gf q J;omega
       · exact Ext.gA (s7.trans (kW.trans lD)) gw fun q J=>by omega
     · have KD:=aj.Hv az
       have Y6:i≤n.keys.length-2∧1≤n.keys.length-2:=by rw[az,←hi] at ft;simpa using ft
       have KI:IntKind.wrap .i64 ((i:Int)+1)=((i+1:Nat):Int):=by rw[cz (by omega) (by omega)];rfl
       rw[KI]
       refine bN ⟨fun q=>q=ag.heap.size,fun e=> ?_,aT,f1,⟨by omega,by omega⟩,fun e=> ?_,aP,f3,⟨by omega,by omega⟩, #[.bool false, .slice (bh aT.a 1 0 aT.cap) i aT.cap, .slice none 0 0, .slice (bh aP.a 1 0 aP.cap) (i+1) aP.cap],(fun w=>by kernel_rfl),fun e=> ?_,aT,f1,⟨by omega,by omega⟩,fun e=> ?_,aP,f3,⟨by omega,by omega⟩, #[.bool false, .slice (bh aT.a 1 (i+1) aT.cap) (aT.len-(i+1)) (aT.cap-(i+1)), .slice none 0 0, .slice (bh aP.a 1 (i+1) aP.cap) (aP.len-(i+1)) (aP.cap-(i+1))],(fun w=>by kernel_rfl),?_⟩
       · rw[aX] at e;have e:aK=ag.heap.size:=e;omega
       · rw[aX] at e;have e:aK=ag.heap.size:=e;omega
       · rw[aX] at e;have e:aK=ag.heap.size:=e;omega
       · rw[aX] at e;have e:aK=ag.heap.size:=e;omega
       have du:n.left i=⟨false,n.keys.take i,[],n.kids.take (i+1)⟩:=by unfold aL.left;rw[az];rfl
       have c9:n.right i=⟨false,n.keys.drop (i+1),[],n.kids.drop (i+1)⟩:=by unfold aL.right;rw[az];rfl
       have w3:cg (fun q=>bp.heap.size≤q) bR.drew (n.left i) ⟨bh aT.a 1 0 aT.cap,i,aT.cap⟩ bX ⟨bh aP.a 1 0 aP.cap,i+1,aP.cap⟩:=by
         rw[du]
         refine ⟨?_,b2.none _ _,?_⟩
         · have:=b2.sub iT.keys (lo:=0) (hi:=i) (by omega) (by omega)
           simpa using this
         · have:=en.sub iT.kids (lo:=0) (hi:=i+1) (by omega) (by omega)
           simpa using this
       have w4:cg (fun q=>bp.heap.size≤q) bR.drew (n.right i) ⟨bh aT.a 1 (i+1) aT.cap,aT.len-(i+1),aT.cap-(i+1)⟩ bX ⟨bh aP.a 1 (i+1) aP.cap,aP.len-(i+1),aP.cap-(i+1)⟩:=by
         rw[c9]
         refine ⟨?_,b2.none _ _,?_⟩
         · have:=b2.sub iT.keys (lo:=i+1) (hi:=aT.len) (by omega) (by omega)
           rwa[g3 (by rw[fF];omega)] at this
         · have:=en.sub iT.kids (lo:=i+1) (hi:=aP.len) (by omega) (by omega)
           rwa[g3 (by rw[fF];omega)] at this
       have w5:=fK w3 (by rw[du];show (n.keys.take i).length≤_;rw[ej];omega) (by rw[du];simp) (by rw[du];show (n.kids.take (i+1)).length≤_;rw[ej];omega) (by rw[du];exact fun k ae=>fv k (kL ae)) (by rw[du];simp)
       have w6:(.agg #[.bool false, .slice (bh aT.a 1 0 aT.cap) i aT.cap, .slice none 0 0, .slice (bh aP.a 1 0 aP.cap) (i+1) aP.cap]:Value)=fc (n.left i) ⟨bh aT.a 1 0 aT.cap,i,aT.cap⟩ bX ⟨bh aP.a 1 0 aP.cap,i+1,aP.cap⟩:=by rw[du];rfl
       have w7:(.agg #[.bool false, .slice (bh aT.a 1 (i+1) aT.cap) (aT.len-(i+1)) (aT.cap-(i+1)), .slice none 0 0, .slice (bh aP.a 1 (i+1) aP.cap) (aP.len-(i+1)) (aP.cap-(i+1))]:Value)=fc (n.right i) ⟨bh aT.a 1 (i+1) aT.cap,aT.len-(i+1),aT.cap-(i+1)⟩ bX ⟨bh aP.a 1 (i+1) aP.cap,aP.len-(i+1),aP.cap-(i+1)⟩:=by rw[c9];rfl
       rw[w6,w7]
       refine w5.use ?_
       rintro _ cy ⟨dU,eB,eC,AE,KE,KF,rfl,w8,h7⟩
       have w9:=fK (w4.ext h7) (by rw[c9];show (n.keys.drop (i+1)).length≤_;rw[fF];omega) (by rw[c9];simp) (by rw[c9];show (n.kids.drop (i+1)).length≤_;rw[fF];omega) (by rw[c9];exact fun k ae=>fv k (kt ae)) (by rw[c9];simp)
       refine ⟨_,dU,eB,eC,rfl,ao.eT h7,w9.use ?_⟩
       rintro _ bZ ⟨c_,c6,dv,s4,AD,KG,rfl,w_,jP⟩
       have lD:=h7.trans jP
       have tZ:=h7.size
       have KH:=kW.size
       refine ⟨_,c_,c6,dv,rfl,ao.eT jP,HE (da:=(n.left i).leaf) (cI:=(n.right i).leaf) (dU:=dU) (eB:=eB) (eC:=eC) (c_:=c_) (c6:=c6) (dv:=dv) ((CQ.ext kW).ext lD) ((CR.ext kW).ext lD) rfl rfl (by omega) (fun q J=>J) (Q:=fun da dU eB eC cI c_ c6 dv w'=>Ft n w (.tuple #[.agg #[.bool da, .slice dU.a dU.len dU.cap, .slice eB.a eB.len eB.cap, .slice eC.a eC.len eC.cap], .slice aI.a aI.len aI.cap, .agg #[.bool cI, .slice c_.a c_.len c_.cap, .slice c6.a c6.len c6.cap, .slice dv.a dv.len dv.cap], .bool true]) w') fun cZ gw=> ?_⟩
       have xa:bR.drew.heap.size=bR.heap.size:=rfl
       refine ⟨dU,eB,eC,c_,c6,dv,aI,by rw[←hi];rfl,?_,?_,?_,?_⟩
       · rw[←hi];exact ((w8.at.ext jP).an gw fun q J e=>by omega).bz fun q _ J=>by omega
       · rw[←hi];exact (w_.at.an gw fun q J e=>by omega).bz fun q _ J=>by omega
       · rw[←hi,vu]
         have gf:∀q,aQ aI q→bY.heap.size≤q:=CS
         exact bL.qL (bL.ext (bL.ext k1 lX) lD) gw fun q J e=>by have:=gf q J;omega
       · exact Ext.gA (s7.trans (kW.trans lD)) gw fun q J=>by omega
   · refine cx (vs:=[.bool false, .slice none 0 0, .slice none 0 0, .slice none 0 0]) rfl fun a7 Hr eR au6=>⟨eR,?_⟩
     refine (s5 (h.ext (qJ.trans (ky.trans eR))) aj aC (most:=most) iG.2.1).use ?_
     rintro _ bS ⟨rfl,f_⟩
     have s0:=Hr.ext f_
     refine ⟨_,rfl,f_,s0.dC rfl (lC _ _ _ _),rfl,eo s0 (us:=[.bool n.leaf, .slice aT.a aT.len aT.cap, .slice bM.a bM.len bM.cap, .slice aP.a aP.len aP.cap]) rfl rfl fun bY oH hD HC=> ?_⟩
     have Of:=ky.size
     have Fk:=f_.size
     obtain ⟨aK,fj⟩:∃aK,aK=bf.heap.size:=⟨_,rfl⟩
     rw[←fj] at oH hD⊢
     have s6:=ky.trans (eR.trans f_)
     have w2:j0 bp.heap.size bY n aT bM aP cC cY ct:=(lB.ext (eR.trans f_)).an hD fun q _ _ J e=>by
       subst e
       rcases J with J|J|J
       · have:=(lB.bW _ J).2.1;omega
       · have:=(lB.bv _ J).2.1;omega
       · have:=(lB.a6 _ J).2;omega
     have YZ:bp.drew.heap.size=bp.heap.size:=rfl
     have s7:Ext w bY:=Ext.fb (qJ.trans s6) hD (by omega)
     have CP:=(Oj.ext s6).an hD (by omega)
     have CQ:=(SA.ext s6).an hD (by omega)
     have CR:=(SB.ext s6).an hD (by omega)
     have KC:mW (cellsOf n) most=dm n:=by unfold dm;rw[CO]
     rw[KC]
     obtain ⟨i,hi⟩:∃i,i=dm n:=⟨_,rfl⟩
     rw[←hi] at vt iG h4
     rw[←hi]
     obtain ⟨gY,a_,bw,ek⟩:=cl CP
     obtain ⟨A,t,ax,gu,al,aR,_⟩:=b2.at (h.ext s7).keys vt
     refine ⟨K,a_,A,ax,gu,t,al,(vb (B:=fun q=>w.heap.size≤q) aR.1 (by have:=fv _ (fh vt);omega) (fun q J=>ju s7.size J)).use ?_⟩
     rintro _ bR ⟨aI,rfl,k1,kj,CS⟩
     have lX:=dT bR
     obtain ⟨gY,a_,bw,ek⟩:=cl (CP.ext kj)
     have kW:=kj.trans lX
     obtain ⟨f0,f1,f2,f3⟩:=cl (oH.ext kW)
     have iT:=w2.at.ext kW
     have Y0:=b2.len iT.keys
     have Ol:=b2.len iT.vals
     have Y1:=en.len iT.kids
     have Y2:=b2.le (b6.qM w2.keys)
     have Y3:=b2.le (b6.qM w2.vals)
     have Y4:aP.len≤aP.cap:=iT.kids.2.1
     have Y5:bY.heap.size≤bR.heap.size:=kj.size
     have vu:n.keys.getD i []=n.keys[i]:=ot vt
     refine ⟨aI,rfl,n.leaf,gY,fun az=>bN ⟨fun q=>q=ag.heap.size,fun e=> ?_,aT,f1,⟨by omega,by omega⟩,fun e=> ?_,bM,f2,⟨by omega,?_⟩, #[.bool true, .slice (bh aT.a 1 0 aT.cap) i aT.cap, .slice (bh bM.a 1 0 bM.cap) i bM.cap, .slice none 0 0],(fun w=>by kernel_rfl),fun e=> ?_,aT,f1,⟨by omega,by omega⟩,fun e=> ?_,bM,f2,⟨by omega,?_⟩, #[.bool true, .slice (bh aT.a 1 i aT.cap) (aT.len-i) (aT.cap-i), .slice (bh bM.a 1 i bM.cap) (bM.len-i) (bM.cap-i), .slice none 0 0],(fun w=>by kernel_rfl),?_⟩,fun az=> ?_⟩
     · rw[aX] at e;have e:aK=ag.heap.size:=e;omega
     · rw[aX] at e;have e:aK=ag.heap.size:=e;omega
     · have:=aj.wJ az;omega
     · rw[aX] at e;have e:aK=ag.heap.size:=e;omega
     · rw[aX] at e;have e:aK=ag.heap.size:=e;omega
     · have:=aj.wJ az;omega
     · have KD:=aj.wJ az
       have du:n.left i=⟨true,n.keys.take i,n.vals.take i,[]⟩:=by unfold aL.left;rw[az];rfl
       have c9:n.right i=⟨true,n.keys.drop i,n.vals.drop i,[]⟩:=by unfold aL.right;rw[az];rfl
       have w3:cg (fun q=>bp.heap.size≤q) bR.drew (n.left i) ⟨bh aT.a 1 0 aT.cap,i,aT.cap⟩ ⟨bh bM.a 1 0 bM.cap,i,bM.cap⟩ bX:=by
         rw[du]
         refine ⟨?_,?_,en.none _ _⟩
         · have:=b2.sub iT.keys (lo:=0) (hi:=i) (by omega) (by omega)
           simpa using this
         · have:=b2.sub iT.vals (lo:=0) (hi:=i) (by omega) (by omega)
           simpa using this
       have w4:cg (fun q=>bp.heap.size≤q) bR.drew (n.right i) ⟨bh aT.a 1 i aT.cap,aT.len-i,aT.cap-i⟩ ⟨bh bM.a 1 i bM.cap,bM.len-i,bM.cap-i⟩ bX:=by
         rw[c9]
         refine ⟨?_,?_,en.none _ _⟩
         · have:=b2.sub iT.keys (lo:=i) (hi:=aT.len) (by omega) (by omega)
           rwa[g3 (by rw[fF];omega)] at this
         · have:=b2.sub iT.vals (lo:=i) (hi:=bM.len) (by omega) (by omega)
           rwa[g3 (by rw[fF];omega)] at this
       have w5:=fK w3 (by rw[du];show (n.keys.take i).length≤_;rw[ej];omega) (by rw[du];show (n.vals.take i).length≤_;rw[ej];omega) (by rw[du];simp) (by rw[du];exact fun k ae=>fv k (kL ae)) (by rw[du];exact fun k ae=>CN k (kL ae))
       have w6:(.agg #[.bool true, .slice (bh aT.a 1 0 aT.cap) i aT.cap, .slice (bh bM.a 1 0 bM.cap) i bM.cap, .slice none 0 0]:Value)=fc (n.left i) ⟨bh aT.a 1 0 aT.cap,i,aT.cap⟩ ⟨bh bM.a 1 0 bM.cap,i,bM.cap⟩ bX:=by rw[du];rfl
       have w7:(.agg #[.bool true, .slice (bh aT.a 1 i aT.cap) (aT.len-i) (aT.cap-i), .slice (bh bM.a 1 i bM.cap) (bM.len-i) (bM.cap-i), .slice none 0 0]:Value)=fc (n.right i) ⟨bh aT.a 1 i aT.cap,aT.len-i,aT.cap-i⟩ ⟨bh bM.a 1 i bM.cap,bM.len-i,bM.cap-i⟩ bX:=by rw[c9];rfl
       rw[w6,w7]
       refine w5.use ?_
       rintro _ cy ⟨dU,eB,eC,AE,KE,KF,rfl,w8,h7⟩
       have w9:=fK (w4.ext h7) (by rw[c9];show (n.keys.drop i).length≤_;rw[fF];omega) (by rw[c9];show (n.vals.drop i).length≤_;rw[fF];omega) (by rw[c9];simp) (by rw[c9];exact fun k ae=>fv k (kt ae)) (by rw[c9];exact fun k ae=>CN k (kt ae))
       refine ⟨_,dU,eB,eC,rfl,ao.eT h7,w9.use ?_⟩
       rintro _ bZ ⟨c_,c6,dv,s4,AD,KG,rfl,w_,jP⟩
       have lD:=h7.trans jP
       have tZ:=h7.size
       have KH:=kW.size
       refine ⟨_,c_,c6,dv,rfl,ao.eT jP,HE (da:=(n.left i).leaf) (cI:=(n.right i).leaf) (dU:=dU) (eB:=eB) (eC:=eC) (c_:=c_) (c6:=c6) (dv:=dv) ((CQ.ext kW).ext lD) ((CR.ext kW).ext lD) rfl rfl (by omega) (fun q J=>J) (Q:=fun da dU eB eC cI c_ c6 dv w'=>Ft n w (.tuple #[.agg #[.bool da, .slice dU.a dU.len dU.cap, .slice eB.a eB.len eB.cap, .slice eC.a eC.len eC.cap], .slice aI.a aI.len aI.cap, .agg #[.bool cI, .slice c_.a c_.len c_.cap, .slice c6.a c6.len c6.cap, .slice dv.a dv.len dv.cap], .bool true]) w') fun cZ gw=> ?_⟩
       have xa:bR.drew.heap.size=bR.heap.size:=rfl
       refine ⟨dU,eB,eC,c_,c6,dv,aI,by rw[←hi];rfl,?_,?_,?_,?_⟩
       · rw[←hi];exact ((w8.at.ext jP).an gw fun q J e=>by omega).bz fun q _ J=>by omega
       · rw[←hi];exact (w_.at.an gw fun q J e=>by omega).bz fun q _ J=>by omega
       · rw[←hi,vu]
         have gf:∀q,aQ aI q→bY.heap.size≤q:=CS
         exact bL.qL (bL.ext (bL.ext k1 lX) lD) gw fun q J e=>by have:=gf q J;omega
       · exact Ext.gA (s7.trans (kW.trans lD)) gw fun q J=>by omega
     · have KD:=aj.Hv az
       have Y6:i≤n.keys.length-2∧1≤n.keys.length-2:=by rw[az,←hi] at ft;simpa using ft
       have KI:IntKind.wrap .i64 ((i:Int)+1)=((i+1:Nat):Int):=by rw[cz (by omega) (by omega)];rfl
       rw[KI]
       refine bN ⟨fun q=>q=ag.heap.size,fun e=> ?_,aT,f1,⟨by omega,by omega⟩,fun e=> ?_,aP,f3,⟨by omega,by omega⟩, #[.bool false, .slice (bh aT.a 1 0 aT.cap) i aT.cap, .slice none 0 0, .slice (bh aP.a 1 0 aP.cap) (i+1) aP.cap],(fun w=>by kernel_rfl),fun e=> ?_,aT,f1,⟨by omega,by omega⟩,fun e=> ?_,aP,f3,⟨by omega,by omega⟩, #[.bool false, .slice (bh aT.a 1 (i+1) aT.cap) (aT.len-(i+1)) (aT.cap-(i+1)), .slice none 0 0, .slice (bh aP.a 1 (i+1) aP.cap) (aP.len-(i+1)) (aP.cap-(i+1))],(fun w=>by kernel_rfl),?_⟩
       · rw[aX] at e;have e:aK=ag.heap.size:=e;omega
       · rw[aX] at e;have e:aK=ag.heap.size:=e;omega
       · rw[aX] at e;have e:aK=ag.heap.size:=e;omega
       · rw[aX] at e;have e:aK=ag.heap.size:=e;omega
       have du:n.left i=⟨false,n.keys.take i,[],n.kids.take (i+1)⟩:=by unfold aL.left;rw[az];rfl
       have c9:n.right i=⟨false,n.keys.drop (i+1),[],n.kids.drop (i+1)⟩:=by unfold aL.right;rw[az];rfl
       have w3:cg (fun q=>bp.heap.size≤q) bR.drew (n.left i) ⟨bh aT.a 1 0 aT.cap,i,aT.cap⟩ bX ⟨bh aP.a 1 0 aP.cap,i+1,aP.cap⟩:=by
         rw[du]
         refine ⟨?_,b2.none _ _,?_⟩
         · have:=b2.sub iT.keys (lo:=0) (hi:=i) (by omega) (by omega)
           simpa using this
         · have:=en.sub iT.kids (lo:=0) (hi:=i+1) (by omega) (by omega)
           simpa using this
       have w4:cg (fun q=>bp.heap.size≤q) bR.drew (n.right i) ⟨bh aT.a 1 (i+1) aT.cap,aT.len-(i+1),aT.cap-(i+1)⟩ bX ⟨bh aP.a 1 (i+1) aP.cap,aP.len-(i+1),aP.cap-(i+1)⟩:=by
         rw[c9]
         refine ⟨?_,b2.none _ _,?_⟩
         · have:=b2.sub iT.keys (lo:=i+1) (hi:=aT.len) (by omega) (by omega)
           rwa[g3 (by rw[fF];omega)] at this
         · have:=en.sub iT.kids (lo:=i+1) (hi:=aP.len) (by omega) (by omega)
           rwa[g3 (by rw[fF];omega)] at this
       have w5:=fK w3 (by rw[du];show (n.keys.take i).length≤_;rw[ej];omega) (by rw[du];simp) (by rw[du];show (n.kids.take (i+1)).length≤_;rw[ej];omega) (by rw[du];exact fun k ae=>fv k (kL ae)) (by rw[du];simp)
       have w6:(.agg #[.bool false, .slice (bh aT.a 1 0 aT.cap) i aT.cap, .slice none 0 0, .slice (bh aP.a 1 0 aP.cap) (i+1) aP.cap]:Value)=fc (n.left i) ⟨bh aT.a 1 0 aT.cap,i,aT.cap⟩ bX ⟨bh aP.a 1 0 aP.cap,i+1,aP.cap⟩:=by rw[du];rfl
       have w7:(.agg #[.bool false, .slice (bh aT.a 1 (i+1) aT.cap) (aT.len-(i+1)) (aT.cap-(i+1)), .slice none 0 0, .slice (bh aP.a 1 (i+1) aP.cap) (aP.len-(i+1)) (aP.cap-(i+1))]:Value)=fc (n.right i) ⟨bh aT.a 1 (i+1) aT.cap,aT.len-(i+1),aT.cap-(i+1)⟩ bX ⟨bh aP.a 1 (i+1) aP.cap,aP.len-(i+1),aP.cap-(i+1)⟩:=by rw[c9];rfl
       rw[w6,w7]
       refine w5.use ?_
       rintro _ cy ⟨dU,eB,eC,AE,KE,KF,rfl,w8,h7⟩
       have w9:=fK (w4.ext h7) (by rw[c9];show (n.keys.drop (i+1)).length≤_;rw[fF];omega) (by rw[c9];simp) (by rw[c9];show (n.kids.drop (i+1)).length≤_;rw[fF];omega) (by rw[c9];exact fun k ae=>fv k (kt ae)) (by rw[c9];simp)
       refine ⟨_,dU,eB,eC,rfl,ao.eT h7,w9.use ?_⟩
       rintro _ bZ ⟨c_,c6,dv,s4,AD,KG,rfl,w_,jP⟩
       have lD:=h7.trans jP
       have tZ:=h7.size
       have KH:=kW.size
       refine ⟨_,c_,c6,dv,rfl,ao.eT jP,HE (da:=(n.left i).leaf) (cI:=(n.right i).leaf) (dU:=dU) (eB:=eB) (eC:=eC) (c_:=c_) (c6:=c6) (dv:=dv) ((CQ.ext kW).ext lD) ((CR.ext kW).ext lD) rfl rfl (by omega) (fun q J=>J) (Q:=fun da dU eB eC cI c_ c6 dv w'=>Ft n w (.tuple #[.agg #[.bool da, .slice dU.a dU.len dU.cap, .slice eB.a eB.len eB.cap, .slice eC.a eC.len eC.cap], .slice aI.a aI.len aI.cap, .agg #[.bool cI, .slice c_.a c_.len c_.cap, .slice c6.a c6.len c6.cap, .slice dv.a dv.len dv.cap], .bool true]) w') fun cZ gw=> ?_⟩
       have xa:bR.drew.heap.size=bR.heap.size:=rfl
       refine ⟨dU,eB,eC,c_,c6,dv,aI,by rw[←hi];rfl,?_,?_,?_,?_⟩
       · rw[←hi];exact ((w8.at.ext jP).an gw fun q J e=>by omega).bz fun q _ J=>by omega
       · rw[←hi];exact (w_.at.an gw fun q J e=>by omega).bz fun q _ J=>by omega
       · rw[←hi,vu]
         have gf:∀q,aQ aI q→bY.heap.size≤q:=CS
         exact bL.qL (bL.ext (bL.ext k1 lX) lD) gw fun q J e=>by have:=gf q J;omega
       · exact Ext.gA (s7.trans (kW.trans lD)) gw fun q J=>by omega
 · refine cx (vs:=[.bool false, .slice none 0 0, .slice none 0 0, .slice none 0 0]) rfl fun bf u7 ky au7=>⟨ky,?_⟩
   refine (fK (h.ext (qJ.trans ky)) (by omega) (by omega) (by omega) fv CN).use ?_
   rintro _ a7 ⟨aT,bM,aP,cC,cY,ct,rfl,sm,eR⟩
   refine ⟨n.leaf,aT,bM,aP,rfl,eR,(s5 (h.ext (qJ.trans (ky.trans eR))) aj aC (most:=most) iG.2.1).use ?_⟩
   rintro _ bS ⟨rfl,f_⟩
   have s0:=u7.ext (eR.trans f_)
   refine ⟨_,rfl,f_,s0.dC rfl (lC _ _ _ _),rfl,eo s0 (us:=[.bool n.leaf, .slice aT.a aT.len aT.cap, .slice bM.a bM.len bM.cap, .slice aP.a aP.len aP.cap]) rfl rfl fun bY oH hD HC=> ?_⟩
   have CK:=eR.size
   have Fk:=f_.size
   have YZ:bp.drew.heap.size=bp.heap.size:=rfl
   obtain ⟨aK,fj⟩:∃aK,aK=bp.drew.heap.size:=⟨_,rfl⟩
   rw[←fj] at oH hD⊢
   have s6:=ky.trans (eR.trans f_)
   have w2:j0 bp.heap.size bY n aT bM aP cC cY ct:=((sm.ext f_).an hD fun q U _ _ e=>by omega).low (by omega)
   have s7:Ext w bY:=Ext.fb (qJ.trans s6) hD (by omega)
   have CP:=(Oj.ext s6).an hD (by omega)
   have CQ:=(SA.ext s6).an hD (by omega)
   have CR:=(SB.ext s6).an hD (by omega)
   have KC:mW (cellsOf n) most=dm n:=by unfold dm;rw[CO]
   rw[KC]
   obtain ⟨i,hi⟩:∃i,i=dm n:=⟨_,rfl⟩
   rw[←hi] at vt iG h4
   rw[←hi]
   obtain ⟨gY,a_,bw,ek⟩:=cl CP
   obtain ⟨A,t,ax,gu,al,aR,_⟩:=b2.at (h.ext s7).keys vt
   refine ⟨K,a_,A,ax,gu,t,al,(vb (B:=fun q=>w.heap.size≤q) aR.1 (by have:=fv _ (fh vt);omega) (fun q J=>ju s7.size J)).use ?_⟩
   rintro _ bR ⟨aI,rfl,k1,kj,CS⟩
   have lX:=dT bR
   obtain ⟨gY,a_,bw,ek⟩:=cl (CP.ext kj)
   have kW:=kj.trans lX
   obtain ⟨f0,f1,f2,f3⟩:=cl (oH.ext kW)
   have iT:=w2.at.ext kW
   have Y0:=b2.len iT.keys
   have Ol:=b2.len iT.vals
   have Y1:=en.len iT.kids
   have Y2:=b2.le (b6.qM w2.keys)
   have Y3:=b2.le (b6.qM w2.vals)
   have Y4:aP.len≤aP.cap:=iT.kids.2.1
   have Y5:bY.heap.size≤bR.heap.size:=kj.size
   have vu:n.keys.getD i []=n.keys[i]:=ot vt
   refine ⟨aI,rfl,n.leaf,gY,fun az=>bN ⟨fun q=>q=ag.heap.size,fun e=> ?_,aT,f1,⟨by omega,by omega⟩,fun e=> ?_,bM,f2,⟨by omega,?_⟩, #[.bool true, .slice (bh aT.a 1 0 aT.cap) i aT.cap, .slice (bh bM.a 1 0 bM.cap) i bM.cap, .slice none 0 0],(fun w=>by kernel_rfl),fun e=> ?_,aT,f1,⟨by omega,by omega⟩,fun e=> ?_,bM,f2,⟨by omega,?_⟩, #[.bool true, .slice (bh aT.a 1 i aT.cap) (aT.len-i) (aT.cap-i), .slice (bh bM.a 1 i bM.cap) (bM.len-i) (bM.cap-i), .slice none 0 0],(fun w=>by kernel_rfl),?_⟩,fun az=> ?_⟩
   · rw[aX] at e;have e:aK=ag.heap.size:=e;omega
   · rw[aX] at e;have e:aK=ag.heap.size:=e;omega
   · have:=aj.wJ az;omega
   · rw[aX] at e;have e:aK=ag.heap.size:=e;omega
   · rw[aX] at e;have e:aK=ag.heap.size:=e;omega
   · have:=aj.wJ az;omega
   · have KD:=aj.wJ az
     have du:n.left i=⟨true,n.keys.take i,n.vals.take i,[]⟩:=by unfold aL.left;rw[az];rfl
     have c9:n.right i=⟨true,n.keys.drop i,n.vals.drop i,[]⟩:=by unfold aL.right;rw[az];rfl
     have w3:cg (fun q=>bp.heap.size≤q) bR.drew (n.left i) ⟨bh aT.a 1 0 aT.cap,i,aT.cap⟩ ⟨bh bM.a 1 0 bM.cap,i,bM.cap⟩ bX:=by
       rw[du]
       refine ⟨?_,?_,en.none _ _⟩
       · have:=b2.sub iT.keys (lo:=0) (hi:=i) (by omega) (by omega)
         simpa using this
       · have:=b2.sub iT.vals (lo:=0) (hi:=i) (by omega) (by omega)
         simpa using this
     have w4:cg (fun q=>bp.heap.size≤q) bR.drew (n.right i) ⟨bh aT.a 1 i aT.cap,aT.len-i,aT.cap-i⟩ ⟨bh bM.a 1 i bM.cap,bM.len-i,bM.cap-i⟩ bX:=by
       rw[c9]
       refine ⟨?_,?_,en.none _ _⟩
       · have:=b2.sub iT.keys (lo:=i) (hi:=aT.len) (by omega) (by omega)
         rwa[g3 (by rw[fF];omega)] at this
       · have:=b2.sub iT.vals (lo:=i) (hi:=bM.len) (by omega) (by omega)
         rwa[g3 (by rw[fF];omega)] at this
     have w5:=fK w3 (by rw[du];show (n.keys.take i).length≤_;rw[ej];omega) (by rw[du];show (n.vals.take i).length≤_;rw[ej];omega) (by rw[du];simp) (by rw[du];exact fun k ae=>fv k (kL ae)) (by rw[du];exact fun k ae=>CN k (kL ae))
     have w6:(.agg #[.bool true, .slice (bh aT.a 1 0 aT.cap) i aT.cap, .slice (bh bM.a 1 0 bM.cap) i bM.cap, .slice none 0 0]:Value)=fc (n.left i) ⟨bh aT.a 1 0 aT.cap,i,aT.cap⟩ ⟨bh bM.a 1 0 bM.cap,i,bM.cap⟩ bX:=by rw[du];rfl
     have w7:(.agg #[.bool true, .slice (bh aT.a 1 i aT.cap) (aT.len-i) (aT.cap-i), .slice (bh bM.a 1 i bM.cap) (bM.len-i) (bM.cap-i), .slice none 0 0]:Value)=fc (n.right i) ⟨bh aT.a 1 i aT.cap,aT.len-i,aT.cap-i⟩ ⟨bh bM.a 1 i bM.cap,bM.len-i,bM.cap-i⟩ bX:=by rw[c9];rfl
     rw[w6,w7]
     refine w5.use ?_
     rintro _ cy ⟨dU,eB,eC,AE,KE,KF,rfl,w8,h7⟩
     have w9:=fK (w4.ext h7) (by rw[c9];show (n.keys.drop i).length≤_;rw[fF];omega) (by rw[c9];show (n.vals.drop i).length≤_;rw[fF];omega) (by rw[c9];simp) (by rw[c9];exact fun k ae=>fv k (kt ae)) (by rw[c9];exact fun k ae=>CN k (kt ae))
     refine ⟨_,dU,eB,eC,rfl,ao.eT h7,w9.use ?_⟩
     rintro _ bZ ⟨c_,c6,dv,s4,AD,KG,rfl,w_,jP⟩
     have lD:=h7.trans jP
     have tZ:=h7.size
     have KH:=kW.size
     refine ⟨_,c_,c6,dv,rfl,ao.eT jP,HE (da:=(n.left i).leaf) (cI:=(n.right i).leaf) (dU:=dU) (eB:=eB) (eC:=eC) (c_:=c_) (c6:=c6) (dv:=dv) ((CQ.ext kW).ext lD) ((CR.ext kW).ext lD) rfl rfl (by omega) (fun q J=>J) (Q:=fun da dU eB eC cI c_ c6 dv w'=>Ft n w (.tuple #[.agg #[.bool da, .slice dU.a dU.len dU.cap, .slice eB.a eB.len eB.cap, .slice eC.a eC.len eC.cap], .slice aI.a aI.len aI.cap, .agg #[.bool cI, .slice c_.a c_.len c_.cap, .slice c6.a c6.len c6.cap, .slice dv.a dv.len dv.cap], .bool true]) w') fun cZ gw=> ?_⟩
     have xa:bR.drew.heap.size=bR.heap.size:=rfl
     refine ⟨dU,eB,eC,c_,c6,dv,aI,by rw[←hi];rfl,?_,?_,?_,?_⟩
     · rw[←hi];exact ((w8.at.ext jP).an gw fun q J e=>by omega).bz fun q _ J=>by omega
     · rw[←hi];exact (w_.at.an gw fun q J e=>by omega).bz fun q _ J=>by omega
     · rw[←hi,vu]
       have gf:∀q,aQ aI q→bY.heap.size≤q:=CS
       exact bL.qL (bL.ext (bL.ext k1 lX) lD) gw fun q J e=>by have:=gf q J;omega
     · exact Ext.gA (s7.trans (kW.trans lD)) gw fun q J=>by omega
   · have KD:=aj.Hv az
     have Y6:i≤n.keys.length-2∧1≤n.keys.length-2:=by rw[az,←hi] at ft;simpa using ft
     have KI:IntKind.wrap .i64 ((i:Int)+1)=((i+1:Nat):Int):=by rw[cz (by omega) (by omega)];rfl
     rw[KI]
     refine bN ⟨fun q=>q=ag.heap.size,fun e=> ?_,aT,f1,⟨by omega,by omega⟩,fun e=> ?_,aP,f3,⟨by omega,by omega⟩, #[.bool false, .slice (bh aT.a 1 0 aT.cap) i aT.cap, .slice none 0 0, .slice (bh aP.a 1 0 aP.cap) (i+1) aP.cap],(fun w=>by kernel_rfl),fun e=> ?_,aT,f1,⟨by omega,by omega⟩,fun e=> ?_,aP,f3,⟨by omega,by omega⟩, #[.bool false, .slice (bh aT.a 1 (i+1) aT.cap) (aT.len-(i+1)) (aT.cap-(i+1)), .slice none 0 0, .slice (bh aP.a 1 (i+1) aP.cap) (aP.len-(i+1)) (aP.cap-(i+1))],(fun w=>by kernel_rfl),?_⟩
     · rw[aX] at e;have e:aK=ag.heap.size:=e;omega
     · rw[aX] at e;have e:aK=ag.heap.size:=e;omega
     · rw[aX] at e;have e:aK=ag.heap.size:=e;omega
     · rw[aX] at e;have e:aK=ag.heap.size:=e;omega
     have du:n.left i=⟨false,n.keys.take i,[],n.kids.take (i+1)⟩:=by unfold aL.left;rw[az];rfl
     have c9:n.right i=⟨false,n.keys.drop (i+1),[],n.kids.drop (i+1)⟩:=by unfold aL.right;rw[az];rfl
     have w3:cg (fun q=>bp.heap.size≤q) bR.drew (n.left i) ⟨bh aT.a 1 0 aT.cap,i,aT.cap⟩ bX ⟨bh aP.a 1 0 aP.cap,i+1,aP.cap⟩:=by
       rw[du]
       refine ⟨?_,b2.none _ _,?_⟩
       · have:=b2.sub iT.keys (lo:=0) (hi:=i) (by omega) (by omega)
         simpa using this
       · have:=en.sub iT.kids (lo:=0) (hi:=i+1) (by omega) (by omega)
         simpa using this
     have w4:cg (fun q=>bp.heap.size≤q) bR.drew (n.right i) ⟨bh aT.a 1 (i+1) aT.cap,aT.len-(i+1),aT.cap-(i+1)⟩ bX ⟨bh aP.a 1 (i+1) aP.cap,aP.len-(i+1),aP.cap-(i+1)⟩:=by
       rw[c9]
       refine ⟨?_,b2.none _ _,?_⟩
       · have:=b2.sub iT.keys (lo:=i+1) (hi:=aT.len) (by omega) (by omega)
         rwa[g3 (by rw[fF];omega)] at this
       · have:=en.sub iT.kids (lo:=i+1) (hi:=aP.len) (by omega) (by omega)
         rwa[g3 (by rw[fF];omega)] at this
     have w5:=fK w3 (by rw[du];show (n.keys.take i).length≤_;rw[ej];omega) (by rw[du];simp) (by rw[du];show (n.kids.take (i+1)).length≤_;rw[ej];omega) (by rw[du];exact fun k ae=>fv k (kL ae)) (by rw[du];simp)
     have w6:(.agg #[.bool false, .slice (bh aT.a 1 0 aT.cap) i aT.cap, .slice none 0 0, .slice (bh aP.a 1 0 aP.cap) (i+1) aP.cap]:Value)=fc (n.left i) ⟨bh aT.a 1 0 aT.cap,i,aT.cap⟩ bX ⟨bh aP.a 1 0 aP.cap,i+1,aP.cap⟩:=by rw[du];rfl
     have w7:(.agg #[.bool false, .slice (bh aT.a 1 (i+1) aT.cap) (aT.len-(i+1)) (aT.cap-(i+1)), .slice none 0 0, .slice (bh aP.a 1 (i+1) aP.cap) (aP.len-(i+1)) (aP.cap-(i+1))]:Value)=fc (n.right i) ⟨bh aT.a 1 (i+1) aT.cap,aT.len-(i+1),aT.cap-(i+1)⟩ bX ⟨bh aP.a 1 (i+1) aP.cap,aP.len-(i+1),aP.cap-(i+1)⟩:=by rw[c9];rfl
     rw[w6,w7]
     refine w5.use ?_
     rintro _ cy ⟨dU,eB,eC,AE,KE,KF,rfl,w8,h7⟩
     have w9:=fK (w4.ext h7) (by rw[c9];show (n.keys.drop (i+1)).length≤_;rw[fF];omega) (by rw[c9];simp) (by rw[c9];show (n.kids.drop (i+1)).length≤_;rw[fF];omega) (by rw[c9];exact fun k ae=>fv k (kt ae)) (by rw[c9];simp)
     refine ⟨_,dU,eB,eC,rfl,ao.eT h7,w9.use ?_⟩
     rintro _ bZ ⟨c_,c6,dv,s4,AD,KG,rfl,w_,jP⟩
     have lD:=h7.trans jP
     have tZ:=h7.size
     have KH:=kW.size
     refine ⟨_,c_,c6,dv,rfl,ao.eT jP,HE (da:=(n.left i).leaf) (cI:=(n.right i).leaf) (dU:=dU) (eB:=eB) (eC:=eC) (c_:=c_) (c6:=c6) (dv:=dv) ((CQ.ext kW).ext lD) ((CR.ext kW).ext lD) rfl rfl (by omega) (fun q J=>J) (Q:=fun da dU eB eC cI c_ c6 dv w'=>Ft n w (.tuple #[.agg #[.bool da, .slice dU.a dU.len dU.cap, .slice eB.a eB.len eB.cap, .slice eC.a eC.len eC.cap], .slice aI.a aI.len aI.cap, .agg #[.bool cI, .slice c_.a c_.len c_.cap, .slice c6.a c6.len c6.cap, .slice dv.a dv.len dv.cap], .bool true]) w') fun cZ gw=> ?_⟩
     have xa:bR.drew.heap.size=bR.heap.size:=rfl
     refine ⟨dU,eB,eC,c_,c6,dv,aI,by rw[←hi];rfl,?_,?_,?_,?_⟩
     · rw[←hi];exact ((w8.at.ext jP).an gw fun q J e=>by omega).bz fun q _ J=>by omega
     · rw[←hi];exact (w_.at.an gw fun q J e=>by omega).bz fun q _ J=>by omega
     · rw[←hi,vu]
       have gf:∀q,aQ aI q→bY.heap.size≤q:=CS
       exact bL.qL (bL.ext (bL.ext k1 lX) lD) gw fun q J e=>by have:=gf q J;omega
     · exact Ext.gA (s7.trans (kW.trans lD)) gw fun q J=>by omega
end
section
theorem SC {B C:Nat→Prop} {w:World} {s x:aa} {ls xs:List Key} (bE:b6 B w s ls) (af:b2 C w x xs) (hd:∀q,C q→¬aQ s q) (aC:ls.length≤100000) (hm:xs.length≤100000):
   ∃ (ar:aa) (w':World),Sem.run Tryz.prog (Builtin.append_ #[ah.cM,ah.cM] ah.cM #[.slice s.a s.len s.cap, .slice x.a x.len x.cap]) w= .ok (.slice ar.a ar.len ar.cap) w'∧b2 (fun q=>B q∨C q∨w.heap.size≤q) w' ar (ls++xs)∧ao (aQ s) w w':=by
 have aj6:=b2.len af
 obtain ⟨ts,U,ad,au,aH⟩:=bE
 obtain ⟨us,aB,aF,aJ,aM,cU⟩:=af
 have aj7:s.len=ls.length:=by have:=ad.1;rw[mj] at this;omega
 obtain ⟨ar,w',a_,bw,ek,kS,lV⟩:=Hu.append (ey:=ah.cM) aF ad (NV us) (by omega)
 refine ⟨ar,w',a_,⟨ts++us,by simp[U,aB],?_,bw.2.1,?_,fun i i1 i2=> ?_⟩,kS⟩
 · rw[oc];exact bw.src
 · intro k ae
   refine ⟨?_,bw.lt k ae⟩
   rcases lV k ae with h|h
   · exact .inl (au k h).1
   · exact .inr (.inr h)
 · rcases g8 i ts.length with h|h
   · have ft:i<ls.length:=by omega
     rw[zY h,zY ft]
     obtain ⟨a,b⟩:=aH i h ft
     exact bL.bz (bL.qL a kS b) fun k _ ae=> .inl ae
   · have a8:i-ts.length<us.length:=by rw[dO] at i1;omega
     have E6:i-ls.length<xs.length:=by omega
     rw[ER h,ER (by omega)]
     have e:i-ls.length=i-ts.length:=by omega
     have a:=cU (i-ts.length) a8 (by omega)
     simp only[e]
     exact bL.bz (bL.qL a kS fun k ae=>hd k (a.2.2 k ae).1) fun k _ ae=> .inr (.inl ae)
theorem Y7 {B C:Nat→Prop} {w:World} {s x:aa} {ds es:List Nat} (bE:eL B w s ds) (af:en C w x es) (aC:ds.length≤100000) (hm:es.length≤100000):
   ∃ (ar:aa) (w':World),Sem.run Tryz.prog (Builtin.append_ #[ah.ef,ah.ef] ah.ef #[.slice s.a s.len s.cap, .slice x.a x.len x.cap]) w= .ok (.slice ar.a ar.len ar.cap) w'∧en (fun q=>B q∨C q∨w.heap.size≤q) w' ar (ds++es)∧ao (aQ s) w w':=by
 have aj6:=en.len af
 obtain ⟨U,ad⟩:=bE
 have aj7:s.len=ds.length:=by have:=U.1;rw[yx] at this;omega
 obtain ⟨ar,w',a_,bw,ek,kS,lV⟩:=J6.append (ey:=ah.ef) af.1 U (R7 es) (by omega)
 refine ⟨ar,w',a_,⟨?_,bw.2.1,?_⟩,kS⟩
 · have:gX ds++gX es=gX (ds++es):=by simp[gX]
   rw[this] at bw;exact bw.src
 · intro k ae
   refine ⟨?_,bw.lt k ae⟩
   rcases lV k ae with h|h
   · exact .inl (ad k h).1
   · exact .inr (.inr h)
def Y8 (pa c3 aK qT:Nat) (key:aa) (yP:World) (Q:Value→World→Prop):Prop:=
 c0 (fun t_:World→Prop=>∃yQ:Bool,yP.cell? ⟨pa,0,none⟩=some (.bool yQ)∧((!yQ)=true→ay (yP.drew) fun o7=>∃Fu:Nat→Prop,¬Fu (Addr.add ⟨c3,0,none⟩ 1).block∧∃iU:aa,o7.cell? (Addr.add ⟨c3,0,none⟩ 1)=some (.slice iU.a iU.len iU.cap)∧Calls Tryz.prog F.mm #[.slice key.a key.len key.cap] o7 fun aj8 fL=>∃nn:aa,aj8= .returned (.slice nn.a nn.len nn.cap)∧ao Fu o7 fL∧ay (fL.alloc (.cells #[.slice nn.a nn.len nn.cap] ah.cn)) fun qU=>ao Fu fL qU∧∃hV:aa,∃oK:World,Sem.run Tryz.prog (Builtin.append_ #[ah.cM,ah.cM] ah.cM #[.slice iU.a iU.len iU.cap, .slice (some ⟨fL.heap.size,0,none⟩) 1 1]) qU= .ok (.slice hV.a hV.len hV.cap) oK∧(∃u:Value,oK.cell? (Addr.add ⟨c3,0,none⟩ 1)=some u)∧oK.frozen? (Addr.add ⟨c3,0,none⟩ 1)=false∧ay (oK.setCell (Addr.add ⟨c3,0,none⟩ 1) (.slice hV.a hV.len hV.cap)) fun ua=>t_ ua)∧((!yQ)=false→t_ yP)) (fun (pK:World)=>∃gl:aa,pK.cell? (Addr.add ⟨c3,0,none⟩ 1)=some (.slice gl.a gl.len gl.cap)∧∃gm:aa,pK.cell? (Addr.add ⟨aK,0,none⟩ 1)=some (.slice gm.a gm.len gm.cap)∧∃gT:aa,∃gZ:World,Sem.run Tryz.prog (Builtin.append_ #[ah.cM,ah.cM] ah.cM #[.slice gl.a gl.len gl.cap, .slice gm.a gm.len gm.cap]) pK= .ok (.slice gT.a gT.len gT.cap) gZ∧(∃u:Value,gZ.cell? (Addr.add ⟨c3,0,none⟩ 1)=some u)∧gZ.frozen? (Addr.add ⟨c3,0,none⟩ 1)=false∧ay (gZ.setCell (Addr.add ⟨c3,0,none⟩ 1) (.slice gT.a gT.len gT.cap)) fun nM=>∃jz:aa,nM.cell? (Addr.add ⟨c3,0,none⟩ 2)=some (.slice jz.a jz.len jz.cap)∧∃l1:aa,nM.cell? (Addr.add ⟨aK,0,none⟩ 2)=some (.slice l1.a l1.len l1.cap)∧∃qc:aa,∃vv:World,Sem.run Tryz.prog (Builtin.append_ #[ah.cM,ah.cM] ah.cM #[.slice jz.a jz.len jz.cap, .slice l1.a l1.len l1.cap]) nM= .ok (.slice qc.a qc.len qc.cap) vv∧(∃u:Value,vv.cell? (Addr.add ⟨c3,0,none⟩ 2)=some u)∧vv.frozen? (Addr.add ⟨c3,0,none⟩ 2)=false∧ay (vv.setCell (Addr.add ⟨c3,0,none⟩ 2) (.slice qc.a qc.len qc.cap)) fun sn=>∃kA:aa,sn.cell? (Addr.add ⟨c3,0,none⟩ 3)=some (.slice kA.a kA.len kA.cap)∧∃pJ:aa,sn.cell? (Addr.add ⟨aK,0,none⟩ 3)=some (.slice pJ.a pJ.len pJ.cap)∧∃np:aa,∃s8:World,Sem.run Tryz.prog (Builtin.append_ #[ah.ef,ah.ef] ah.ef #[.slice kA.a kA.len kA.cap, .slice pJ.a pJ.len pJ.cap]) sn= .ok (.slice np.a np.len np.cap) s8∧(∃u:Value,s8.cell? (Addr.add ⟨c3,0,none⟩ 3)=some u)∧s8.frozen? (Addr.add ⟨c3,0,none⟩ 3)=false∧ay (s8.setCell (Addr.add ⟨c3,0,none⟩ 3) (.slice np.a np.len np.cap)) fun xb=>∃Om:Bool,xb.cell? ⟨c3,0,none⟩=some (.bool Om)∧∃yR:aa,xb.cell? (Addr.add ⟨c3,0,none⟩ 1)=some (.slice yR.a yR.len yR.cap)∧∃iZ:aa,xb.cell? (Addr.add ⟨c3,0,none⟩ 2)=some (.slice iZ.a iZ.len iZ.cap)∧∃jA:aa,xb.cell? (Addr.add ⟨c3,0,none⟩ 3)=some (.slice jA.a jA.len jA.cap)∧Calls Tryz.prog F.nJ #[.agg #[.bool Om, .slice yR.a yR.len yR.cap, .slice iZ.a iZ.len iZ.cap, .slice jA.a jA.len jA.cap]] xb fun aj9 pL=>∃KJ:Bool,aj9= .returned (.bool KJ)∧((!KJ)=true→c2 pL ⟨qT,0,none⟩ [.bool false, .slice none 0 0, .slice none 0 0, .slice none 0 0]∧(4:Nat)=4∧ay (setCells pL ⟨qT,0,none⟩ 0 [.bool false, .slice none 0 0, .slice none 0 0, .slice none 0 0]) fun mq=>∃HF:Bool,mq.cell? ⟨qT,0,none⟩=some (.bool HF)∧∃qV:aa,mq.cell? (Addr.add ⟨qT,0,none⟩ 1)=some (.slice qV.a qV.len qV.cap)∧∃yS:aa,mq.cell? (Addr.add ⟨qT,0,none⟩ 2)=some (.slice yS.a yS.len yS.cap)∧∃jB:aa,mq.cell? (Addr.add ⟨qT,0,none⟩ 3)=some (.slice jB.a jB.len jB.cap)∧Q ( .tuple #[.agg #[.bool HF, .slice qV.a qV.len qV.cap, .slice yS.a yS.len yS.cap, .slice jB.a jB.len jB.cap], .bool false]) mq)∧((!KJ)=false→∃CT:Bool,pL.cell? ⟨c3,0,none⟩=some (.bool CT)∧∃gn:aa,pL.cell? (Addr.add ⟨c3,0,none⟩ 1)=some (.slice gn.a gn.len gn.cap)∧∃rE:aa,pL.cell? (Addr.add ⟨c3,0,none⟩ 2)=some (.slice rE.a rE.len rE.cap)∧∃k2:aa,pL.cell? (Addr.add ⟨c3,0,none⟩ 3)=some (.slice k2.a k2.len k2.cap)∧c2 pL ⟨qT,0,none⟩ [.bool CT, .slice gn.a gn.len gn.cap, .slice rE.a rE.len rE.cap, .slice k2.a k2.len k2.cap]∧(4:Nat)=4∧ay (setCells pL ⟨qT,0,none⟩ 0 [.bool CT, .slice gn.a gn.len gn.cap, .slice rE.a rE.len rE.cap, .slice k2.a k2.len k2.cap]) fun xc=>∃On:Bool,xc.cell? ⟨qT,0,none⟩=some (.bool On)∧∃yT:aa,xc.cell? (Addr.add ⟨qT,0,none⟩ 1)=some (.slice yT.a yT.len yT.cap)∧∃jC:aa,xc.cell? (Addr.add ⟨qT,0,none⟩ 2)=some (.slice jC.a jC.len jC.cap)∧∃jD:aa,xc.cell? (Addr.add ⟨qT,0,none⟩ 3)=some (.slice jD.a jD.len jD.cap)∧Q ( .tuple #[.agg #[.bool On, .slice yT.a yT.len yT.cap, .slice jC.a jC.len jC.cap, .slice jD.a jD.len jD.cap], .bool true]) xc))
theorem vw {lo pa c3 aK qT:Nat} {key eX eD eg dP dQ dR:aa} {w fe:World} {a b:aL} {s:Key} {cC cY ct C:Nat→Prop} {vx:List Value} (Oo:fe.cell? ⟨pa,0,none⟩=some (.bool a.leaf))
   (ax:Var fe c3 [.bool a.leaf, .slice eX.a eX.len eX.cap, .slice eD.a eD.len eD.cap, .slice eg.a eg.len eg.cap] ah.cO) (fu:Var fe aK [.bool b.leaf, .slice dP.a dP.len dP.cap, .slice dQ.a dQ.len dQ.cap, .slice dR.a dR.len dR.cap] ah.cO)
   (bT:j0 lo fe a eX eD eg cC cY ct) (iG:cg C fe b dP dQ dR) (lA:∀q,C q→lo≤q∧q<fe.heap.size∧q≠c3∧q≠aK∧¬cC q∧¬cY q∧¬ct q) (iv:∀q,cC q∨cY q∨ct q→q≠c3∧q≠aK) (pE:lo≤c3) (ik:lo≤aK) (nL:c3≠aK)
   (aN:Var fe qT vx ah.cO) (SD:vx.length=4) (Y9:qT<lo) (lT:w.heap.size≤qT) (ae:Src 1 fe key (bo s)) (gv:s.length≤1000) (ee:Ext w fe) (aj:d_ (hA a s b)) (az:a.leaf=b.leaf) (nN:d_ a) (dD:d_ b)
   (dt:a.keys.length≤10000) (db:b.keys.length≤10000):Y8 pa c3 aK qT key fe (Fp (hA a s b) w):=by
 unfold Y8
 have aj_:=ax.lt
 have wE:=fu.lt
 have KK:∀ {n:aL},d_ n→n.keys.length≤10000→n.vals.length≤10000∧n.kids.length≤10001:=fun {n} U ad=>by
   rcases U with U|U
   · rw[U.len,U.kids];exact ⟨ad,fm _⟩
   · rw[U.len,U.vals];exact ⟨fm _,by omega⟩
 obtain ⟨aka,EZ⟩:=KK nN dt
 obtain ⟨As,E0⟩:=KK dD db
 have j1:pH lo fe c3 a eX eD eg cC cY ct:=⟨ax,bT.keys,bT.vals,bT.kids,fun q J=>⟨(bT.bW q J).1,(bT.bW q J).2.1,(iv q (.inl J)).1,(bT.bW q J).2.2⟩,fun q J=>⟨(bT.bv q J).1,(bT.bv q J).2.1,(iv q (.inr (.inl J))).1,(bT.bv q J).2.2⟩,fun q J=>⟨(bT.a6 q J).1,(bT.a6 q J).2,(iv q (.inr (.inr J))).1⟩,pE⟩
 refine vh (fun w'=>∃ (K:aa) (Ar:Nat→Prop),pH lo w' c3 ⟨a.leaf,if a.leaf then a.keys else a.keys++ [s],a.vals,a.kids⟩ K eD eg Ar cY ct∧ao (fun q=>q=c3∨cC q) fe w'∧(∀q,Ar q→cC q∨fe.heap.size≤q)) (fun q J=>⟨_,Oo,fun ab=> ?_,fun ab=>J _ ⟨eX,cC,?_, .refl _ _,fun q h=> .inl h⟩⟩) ?_
 · have ab:a.leaf=false:=by simpa using ab
   refine Sm j1 ae (by omega) (by omega) fun w' aT Ar U ad au=>J _ ⟨aT,Ar,?_,ad,au⟩
   rw[if_neg (by rw[ab];simp)]
   exact U
 · have ab:a.leaf=true:=by simpa using ab
   rw[if_pos ab]
   exact j1
 rintro ag ⟨dU,AE,U,iR,Y_⟩
 have nH:=iR.size
 have nq:=fu.an iR (by
   rintro (h|h)
   · exact nL h.symm
   · exact (iv _ (.inl h)).2 rfl)
 have Za:=iG.an iR fun q J h=>by
   have:=lA q J
   rcases h with h|h
   · exact this.2.2.1 h
   · exact this.2.2.2.2.1 h
 have lf:=aN.an iR (by
   rintro (h|h)
   · omega
   · have:=(bT.bW _ h).1;omega)
 have akb:Ext w ag:=Ext.gA ee iR fun q J=>by
   rcases J with h|h
   · omega
   · have:=(bT.bW _ h).1;omega
 obtain ⟨KL,Oq⟩:∃l,l=(if a.leaf then a.keys else a.keys++ [s]):=⟨_,rfl⟩
 rw[←Oq] at U
 have au8:KL.length≤10001:=by
   rw[Oq]
   split
   · omega
   · rw[dO];simp;omega
 obtain ⟨cJ,aV,bA,bd⟩:=cl U.v
 obtain ⟨d0,d1,d2,d3⟩:=cl nq
 have Fv:∀q,aQ dU q→AE q:=fun k ae=>by obtain ⟨ts,_,_,au,_⟩:=U.keys;exact (au k ae).1
 have SE:∀q,aQ eD q→cY q:=fun k ae=>by obtain ⟨ts,_,_,au,_⟩:=U.vals;exact (au k ae).1
 have Zb:∀q,aQ eg q→ct q:=fun k ae=>(U.kids.2 k ae).1
 have Zc:∀q,C q→¬aQ dU q:=fun q J h=>by
   rcases Y_ q (Fv q h) with ad|ad
   · exact (lA q J).2.2.2.2.1 ad
   · have:=(lA q J).2.1;omega
 obtain ⟨o8,aw,a_,bw,ek⟩:=SC U.keys Za.keys Zc (by show KL.length≤_;omega) (by omega)
 have kU:=U.v.an ek fun h=>(U.bW _ (Fv _ h)).2.2.1 rfl
 obtain ⟨jE,lE⟩:=jk kU (i:=1) (by simp)
 refine ⟨dU,aV,dP,d1,o8,aw,a_,?_⟩
 rw[aX,aX]
 refine ⟨jE,lE,bN ?_⟩
 obtain ⟨aS,nh⟩:∃aS,aS=aw.setCell ⟨c3,0+1,none⟩ (.slice o8.a o8.len o8.cap):=⟨_,rfl⟩
 rw[←nh]
 have mF:ao (fun q=>q=c3) aw aS:=by rw[nh];exact il _ _ _ _
 have Zd:Var aS c3 [.bool a.leaf, .slice o8.a o8.len o8.cap, .slice eD.a eD.len eD.cap, .slice eg.a eg.len eg.cap] ah.cO:=by rw[nh];exact jj kU _
 have ng:ao (fun q=>q=c3∨aQ dU q) ag aS:=(ek.mono fun q _ h=> .inr h).trans (mF.mono fun q _ h=> .inl h)
 have HG:=nq.an ng (by
   rintro (h|h)
   · exact nL h.symm
   · rcases Y_ _ (Fv _ h) with ad|ad
     · exact (iv _ (.inl ad)).2 rfl
     · omega)
 have Ze:=Za.an ng fun q J h=>by
   rcases h with h|h
   · exact (lA q J).2.2.1 h
   · exact Zc q J h
 have akc:=b6.an U.vals ng fun q J h=>by
   rcases h with h|h
   · exact (U.bv q J).2.2.1 h
   · exact (U.bW q (Fv q h)).2.2.2.1 J
 have akd:=eL.an U.kids ng fun q J h=>by
   rcases h with h|h
   · exact (U.a6 q J).2.2 h
   · exact (U.bW q (Fv q h)).2.2.2.2 J
 have yG:=lf.an ng (by
   rintro (h|h)
   · omega
   · have:=(U.bW _ (Fv _ h)).1;omega)
 have h6:Ext w aS:=Ext.gA akb ng fun q J=>by
   rcases J with h|h
   · omega
   · have:=(U.bW _ (Fv _ h)).1;omega
 have HH:b2 (fun q=>(AE q∨C q∨ag.heap.size≤q)∧q≠c3) aS o8 (KL++b.keys):=by
   have SF:b2 (fun q=>(AE q∨C q∨ag.heap.size≤q)∧q≠c3) aw o8 (KL++b.keys):=b2.bz bw fun q _ J=>⟨J,by
     rcases J with h|h|h
     · exact (U.bW _ h).2.2.1
     · exact (lA _ h).2.2.1
     · omega⟩
   exact b2.an SF mF fun q J h=>J.2 h
 obtain ⟨cJ,aV,bA,bd⟩:=cl Zd
 obtain ⟨d0,d1,d2,d3⟩:=cl HG
 have CM:=ng.size
 obtain ⟨iF,bp,a_,bw,ek⟩:=SC akc Ze.vals (fun q J h=>(lA q J).2.2.2.2.2.1 (SE q h)) (by show a.vals.length≤_;omega) (by omega)
 have NS:=Zd.an ek fun h=>(U.bv _ (SE _ h)).2.2.1 rfl
 obtain ⟨jE,lE⟩:=jk NS (i:=2) (by simp)
 rw[aX] at bA d2
 refine ⟨eD,bA,dQ,d2,iF,bp,a_,?_⟩
 rw[aX,aX]
 refine ⟨jE,lE,bN ?_⟩
 obtain ⟨bB,HI⟩:∃bB,bB=bp.setCell ⟨c3,0+2,none⟩ (.slice iF.a iF.len iF.cap):=⟨_,rfl⟩
 rw[←HI]
 have oL:ao (fun q=>q=c3) bp bB:=by rw[HI];exact il _ _ _ _
 have iQ:Var bB c3 [.bool a.leaf, .slice o8.a o8.len o8.cap, .slice iF.a iF.len iF.cap, .slice eg.a eg.len eg.cap] ah.cO:=by rw[HI];exact jj NS _
 have Fw:ao (fun q=>q=c3∨cY q) aS bB:=(ek.mono fun q _ h=> .inr (SE q h)).trans (oL.mono fun q _ h=> .inl h)
 have NT:=HG.an Fw (by
   rintro (h|h)
   · exact nL h.symm
   · exact (iv _ (.inr (.inl h))).2 rfl)
 have ake:=Ze.an Fw fun q J h=>by
   rcases h with h|h
   · exact (lA q J).2.2.1 h
   · exact (lA q J).2.2.2.2.2.1 h
 have akf:=b2.an HH Fw fun q J h=>by
   rcases h with h|h
   · exact J.2 h
   · rcases J.1 with ad|ad|ad
     · exact (U.bW _ ad).2.2.2.1 h
     · exact (lA _ ad).2.2.2.2.2.1 h
     · have:=(U.bv _ h).2.1;omega
 have akg:=eL.an akd Fw fun q J h=>by
   rcases h with h|h
   · exact (U.a6 q J).2.2 h
   · exact (U.bv q h).2.2.2 J
 have akh:=yG.an Fw (by
   rintro (h|h)
   · omega
   · have:=(U.bv _ h).1;omega)
 have qJ:Ext w bB:=Ext.gA h6 Fw fun q J=>by
   rcases J with h|h
   · omega
   · have:=(U.bv _ h).1;omega
 have aki:b2 (fun q=>(cY q∨C q∨aS.heap.size≤q)∧q≠c3) bB iF (a.vals++b.vals):=by
   have SF:b2 (fun q=>(cY q∨C q∨aS.heap.size≤q)∧q≠c3) bp iF (a.vals++b.vals):=b2.bz bw fun q _ J=>⟨J,by
     rcases J with h|h|h
     · exact (U.bv _ h).2.2.1
     · exact (lA _ h).2.2.1
     · omega⟩
   exact b2.an SF oL fun q J h=>J.2 h
 obtain ⟨cJ,aV,bA,bd⟩:=cl iQ
 obtain ⟨d0,d1,d2,d3⟩:=cl NT
 have Oh:=Fw.size
 obtain ⟨vy,bf,a_,bw,ek⟩:=Y7 akg ake.kids (by show a.kids.length≤_;omega) (by omega)
 have NU:=iQ.an ek fun h=>(U.a6 _ (Zb _ h)).2.2 rfl
 obtain ⟨jE,lE⟩:=jk NU (i:=3) (by simp)
 rw[aX] at bd d3
 refine ⟨eg,bd,dR,d3,vy,bf,a_,?_⟩
 rw[aX,aX]
 refine ⟨jE,lE,bN ?_⟩
 obtain ⟨a7,Fx⟩:∃a7,a7=bf.setCell ⟨c3,0+3,none⟩ (.slice vy.a vy.len vy.cap):=⟨_,rfl⟩
 rw[←Fx]
 have ub:ao (fun q=>q=c3) bf a7:=by rw[Fx];exact il _ _ _ _
 have Zf:Var a7 c3 [.bool a.leaf, .slice o8.a o8.len o8.cap, .slice iF.a iF.len iF.cap, .slice vy.a vy.len vy.cap] ah.cO:=by rw[Fx];exact jj NU _
 have KM:ao (fun q=>q=c3∨ct q) bB a7:=(ek.mono fun q _ h=> .inr (Zb q h)).trans (ub.mono fun q _ h=> .inl h)
 have akj:=b2.an akf KM fun q J h=>by
   rcases h with h|h
   · exact J.2 h
   · rcases J.1 with ad|ad|ad
     · exact (U.bW _ ad).2.2.2.2 h
     · exact (lA _ ad).2.2.2.2.2.2 h
     · have:=(U.a6 _ h).2.1;omega
 have akk:=b2.an aki KM fun q J h=>by
   rcases h with h|h
   · exact J.2 h
   · rcases J.1 with ad|ad|ad
     · exact (U.bv _ ad).2.2.2 h
     · exact (lA _ ad).2.2.2.2.2.2 h
     · have:=(U.a6 _ h).2.1;omega
 have Sx:=akh.an KM (by
   rintro (h|h)
   · omega
   · have:=(U.a6 _ h).1;omega)
 have sh:Ext w a7:=Ext.gA qJ KM fun q J=>by
   rcases J with h|h
   · omega
   · have:=(U.a6 _ h).1;omega
 have CK:=KM.size
 have HJ:cg (fun q=>lo≤q) a7 (hA a s b) o8 iF vy:=by
   have uc:hA a s b=⟨a.leaf,KL++b.keys,a.vals++b.vals,a.kids++b.kids⟩:=by
     unfold hA
     cases di:a.leaf with
     |true=>
       have z8:a.kids=[]:=by
         rcases nN with h|h
         · exact h.kids
         · have:=h.inner;rw[di] at this;cases this
       have yj:b.kids=[]:=by
         rcases dD with h|h
         · exact h.kids
         · have:=h.inner;rw[←az,di] at this;cases this
       rw[Oq,di,z8,yj]
       simp
     |false=>
       have z8:a.vals=[]:=by
         rcases nN with h|h
         · have:=h.leaf;rw[di] at this;cases this
         · exact h.vals
       have yj:b.vals=[]:=by
         rcases dD with h|h
         · have:=h.leaf;rw[←az,di] at this;cases this
         · exact h.vals
       rw[Oq,di,z8,yj]
       simp
   rw[uc]
   refine ⟨b2.bz akj fun q _ J=> ?_,b2.bz akk fun q _ J=> ?_,en.bz (en.an (B:=fun q=>(ct q∨C q∨bB.heap.size≤q)∧q≠c3) (en.bz bw fun q _ J=>⟨J,?_⟩) ub fun q J h=>J.2 h) fun q _ J=> ?_⟩
   · rcases J.1 with h|h|h
     · exact (U.bW _ h).1
     · exact (lA _ h).1
     · omega
   · rcases J.1 with h|h|h
     · exact (U.bv _ h).1
     · exact (lA _ h).1
     · omega
   · rcases J with h|h|h
     · exact (U.a6 _ h).2.2
     · exact (lA _ h).2.2.1
     · omega
   · rcases J.1 with h|h|h
     · exact (U.a6 _ h).1
     · exact (lA _ h).1
     · omega
 obtain ⟨cJ,aV,bA,bd⟩:=cl Zf
 rw[aX] at aV bA bd
 have Hg:(hA a s b).keys.length≤20001:=by
   unfold hA
   split
   · show (a.keys++b.keys).length≤_;rw[dO];omega
   · show (a.keys++s::b.keys).length≤_;rw[dO,k8];omega
 have Cm:(hA a s b).vals.length≤20001:=by
   unfold hA
   split
   · show (a.vals++b.vals).length≤_;rw[dO];omega
   · simp
 have Av:(hA a s b).kids.length≤20002:=by
   unfold hA
   split
   · simp
   · show (a.kids++b.kids).length≤_;rw[dO];omega
 have o0:(hA a s b).leaf=a.leaf:=XM
 repeat rw[aX]
 refine ⟨_,cJ,o8,aV,iF,bA,vy,bd,?_⟩
 have wQ:=nJ HJ (by omega) (by omega) (by omega)
 unfold fc at wQ
 rw[o0] at wQ
 refine wQ.use ?_
 rintro _ bS ⟨N8,rfl,HK,f_⟩
 have:=HK.2 aj
 subst this
 obtain ⟨cJ,aV,bA,bd⟩:=cl (Zf.ext f_)
 rw[aX] at aV bA bd
 have CU:=ry a.leaf o8 iF vy (Sx.ext f_) SD (Q:=fun jx K V D aw=>Fp (hA a s b) w (.tuple #[.agg #[.bool jx, .slice K.a K.len K.cap, .slice V.a V.len V.cap, .slice D.a D.len D.cap], .bool true]) aw) fun bY hD=>⟨o8,iF,vy,by unfold fc;rw[o0],((HJ.ext f_).an hD fun q J e=>by omega).bz fun q _ J=>by omega,Ext.fb (sh.trans f_) hD lT⟩
 repeat rw[aX] at CU
 exact ⟨true,rfl,fun h=>(by cases h),fun _=>⟨_,cJ,o8,aV,iF,bA,vy,bd,CU⟩⟩
theorem qd {Ot Ou:Nat→Prop} {w:World} {a b:aL} {xd xe xf xg xh xi key:aa} {s:Key} (aU:cg Ot w a xd xe xf) (ab:cg Ou w b xg xh xi) (ae:Src 1 w key (bo s)) (vz:∀q,aQ key q→q<w.heap.size) (gv:s.length≤1000) (nN:d_ a) (dD:d_ b) (az:a.leaf=b.leaf) (aj:d_ (hA a s b))
   (dt:a.keys.length≤10000) (db:b.keys.length≤10000):
   aO Tryz.prog F.qd #[fc a xd xe xf, .slice key.a key.len key.cap,fc b xg xh xi] w (Fp (hA a s b) w):=by
 have KK:∀ {n:aL},d_ n→n.keys.length≤10000→n.vals.length≤10000∧n.kids.length≤10001:=fun {n} U ad=>by
   rcases U with U|U
   · rw[U.len,U.kids];exact ⟨ad,fm _⟩
   · rw[U.len,U.vals];exact ⟨fm _,by omega⟩
 obtain ⟨aka,EZ⟩:=KK nN dt
 obtain ⟨As,E0⟩:=KK dD db
 have KN:∀k∈a.keys,k.length≤100000:=fun k ae=>by have:=(nN.keys.ok k ae).2;omega
 have xj:∀k∈b.keys,k.length≤100000:=fun k ae=>by have:=(dD.keys.ok k ae).2;omega
 have KO:∀k∈a.vals,k.length≤100000:=fun k ae=>by have:=nN.vals k ae;omega
 have xk:∀k∈b.vals,k.length≤100000:=fun k ae=>by have:=dD.vals k ae;omega
 refine W.akl a.leaf xd xe xf key b.leaf xg xh xi w _ ?_
 (delta W.qd dx bV ai aq bd HA aA rC Kq jy cE dK Ov st Kr Fy;dsimp only)
 refine cx (vs:=[.bool a.leaf, .slice xd.a xd.len xd.cap, .slice xe.a xe.len xe.cap, .slice xf.a xf.len xf.cap]) rfl fun ag gg bG nH=> ?_
 refine cx (vs:=[.bool b.leaf, .slice xg.a xg.len xg.cap, .slice xh.a xh.len xh.cap, .slice xi.a xi.len xi.cap]) rfl fun aw hT cB u5=> ?_
 refine cx (vs:=[.bool false, .slice none 0 0, .slice none 0 0, .slice none 0 0]) rfl fun aS yG eS CM=> ?_
 have h6:=bG.trans (cB.trans eS)
 obtain ⟨cJ,aV,bA,bd⟩:=cl (gg.ext (cB.trans eS))
 refine ⟨_,cJ,xd,aV,xe,bA,xf,bd,(nJ (aU.ext h6) (by omega) (by omega) (by omega)).use ?_⟩
 rintro _ bp ⟨da,rfl,nq,fz⟩
 have:=nq.2 nN
 subst this
 have tQ:=h6.trans fz
 obtain ⟨d0,d1,d2,d3⟩:=cl (hT.ext (eS.trans fz))
 refine ⟨true,rfl,eN (fun b w'=>b=false∧Ext bp w') (fun q J=>⟨fun h=>(by cases h),fun _=>⟨_,d0,xg,d1,xh,d2,xi,d3,(nJ (ab.ext tQ) (by omega) (by omega) (by omega)).use ?_⟩⟩) ?_⟩
 · rintro _ bB ⟨cI,rfl,gu,ji⟩
   have:=gu.2 dD
   subst this
   exact ⟨true,rfl,J _ _ ⟨rfl,ji⟩⟩
 rintro _ bB ⟨rfl,ji⟩
 have qJ:=tQ.trans ji
 obtain ⟨cJ,aV,bA,bd⟩:=cl (gg.ext (cB.trans (eS.trans (fz.trans ji))))
 obtain ⟨d0,d1,d2,d3⟩:=cl (hT.ext (eS.trans (fz.trans ji)))
 refine eN (fun b w'=>b=false∧bB=w') (fun q J=>⟨fun h=>(by cases h),fun _=>⟨_,cJ,_,d0,J _ _ ⟨by rw[az];simp,rfl⟩⟩⟩) ?_
 rintro _ _ ⟨rfl,rfl⟩
 have bD:=dT bB
 have Zg:=qJ.trans bD
 obtain ⟨mG,Fz⟩:∃mG,mG=bB.drew:=⟨_,rfl⟩
 have ud:Var mG w.heap.size [.bool a.leaf, .slice xd.a xd.len xd.cap, .slice xe.a xe.len xe.cap, .slice xf.a xf.len xf.cap] ah.cO:=by rw[Fz];exact (gg.ext (cB.trans (eS.trans (fz.trans ji)))).ext bD
 have akm:Var mG ag.heap.size [.bool b.leaf, .slice xg.a xg.len xg.cap, .slice xh.a xh.len xh.cap, .slice xi.a xi.len xi.cap] ah.cO:=by rw[Fz];exact (hT.ext (eS.trans (fz.trans ji))).ext bD
 have vA:Var mG aw.heap.size [.bool false, .slice none 0 0, .slice none 0 0, .slice none 0 0] ah.cO:=by rw[Fz];exact (yG.ext (fz.trans ji)).ext bD
 have mu:Ext w mG:=by rw[Fz];exact Zg
 have au9:aS.heap.size≤mG.heap.size:=by rw[Fz];exact (fz.trans ji).size
 have KP:=aU.ext mu
 have pM:=ab.ext mu
 have k9:=ae.ext mu
 obtain ⟨lo,lT⟩:∃lo,lo=mG.heap.size:=⟨_,rfl⟩
 rw[←Fz]
 clear cJ aV bA bd d0 d1 d2 d3 Fz Zg bD
 obtain ⟨cJ,aV,bA,bd⟩:=cl ud
 obtain ⟨d0,d1,d2,d3⟩:=cl akm
 refine ⟨fun h=>(by cases h),fun _=>bN ⟨fun _=>False,id,_,cJ,xd,aV,xe,bA,xf,bd,id,_,d0,xg,d1,xh,d2,xi,d3,?_⟩⟩
 refine ⟨?_,?_,?_⟩
 · refine (fK KP (by omega) (by omega) (by omega) KN KO).use ?_
   rintro _ kk ⟨eX,eD,eg,l2,l3,l4,rfl,bT,aB⟩
   refine ⟨_,eX,eD,eg,rfl,aB,?_⟩
   have s1:=aB.size
   refine ⟨?_,?_,?_⟩
   · refine (fK (pM.ext aB) (by omega) (by omega) (by omega) xj xk).use ?_
     rintro _ jm ⟨dP,dQ,dR,yU,yV,yW,rfl,iG,aF⟩
     refine ⟨_,dP,dQ,dR,rfl,aF,?_⟩
     have s2:=aF.size
     refine ⟨?_,?_⟩
     · refine cx (vs:=[.bool false, .slice none 0 0, .slice none 0 0, .slice none 0 0]) rfl fun iH lZ aJ z3=>⟨aJ,?_⟩
       have b1:=aJ.size
       refine cx (vs:=[.bool false, .slice none 0 0, .slice none 0 0, .slice none 0 0]) rfl fun j2 rF aM z4=>⟨aM,?_⟩
       have cN:=aM.size
       have j3:=lZ.ext aM
       have nO:=rF
       refine ⟨j3.dC rfl (lC _ _ _ _),rfl,eo j3 (us:=[.bool a.leaf, .slice eX.a eX.len eX.cap, .slice eD.a eD.len eD.cap, .slice eg.a eg.len eg.cap]) rfl rfl fun xl iQ dL t5=> ?_⟩
       have j4:=nO.an dL (by omega)
       refine ⟨j4.dC rfl (lC _ _ _ _),rfl,eo j4 (us:=[.bool b.leaf, .slice dP.a dP.len dP.cap, .slice dQ.a dQ.len dQ.cap, .slice dR.a dR.len dR.cap]) rfl rfl fun fC jl fD t6=> ?_⟩
       obtain ⟨c3,iv⟩:∃c3,c3=jm.heap.size:=⟨_,rfl⟩
       obtain ⟨aK,fj⟩:∃aK,aK=iH.heap.size:=⟨_,rfl⟩
       rw[←iv] at iQ dL
       rw[←fj] at jl fD
       rw[←iv,←fj]
       have dI:ao (fun q=>q=c3∨q=aK) j2 fC:=(dL.mono fun q _ h=> .inl h).trans (fD.mono fun q _ h=> .inr h)
       have nP:j0 lo fC a eX eD eg l2 l3 l4:=(((bT.ext (aF.trans (aJ.trans (aM)))).an dI fun q _ _ J e=>by have rz:mG.heap.size≤q∧q<kk.heap.size:=(by rcases J with J|J|J;exact ⟨(bT.bW q J).1,(bT.bW q J).2.1⟩;exact ⟨(bT.bv q J).1,(bT.bv q J).2.1⟩;exact bT.a6 q J);omega).low (by omega))
       have nQ:cg (fun q=>kk.heap.size≤q∧q<jm.heap.size) fC b dP dQ dR:=((iG.at.bz fun q U ad=>⟨ad,U⟩).ext (aJ.trans (aM))).an dI fun q J e=>by omega
       have fE:∀q,l2 q∨l3 q∨l4 q→mG.heap.size≤q∧q<kk.heap.size:=fun q J=>by
         rcases J with J|J|J
         · exact ⟨(bT.bW q J).1,(bT.bW q J).2.1⟩
         · exact ⟨(bT.bv q J).1,(bT.bv q J).2.1⟩
         · exact bT.a6 q J
       exact vw (lo:=lo) (fe:=fC) (C:=fun q=>kk.heap.size≤q∧q<jm.heap.size) ((ud.ext (aB.trans (aF.trans (aJ.trans aM)))).an dI (by omega)).cell (iQ.an fD (by omega)) jl nP nQ (fun q J=>⟨by omega,by omega,by omega,by omega,fun h=>(by have:=fE q (.inl h);omega),fun h=>(by have:=fE q (.inr (.inl h));omega),fun h=>(by have:=fE q (.inr (.inr h));omega)⟩) (fun q J=>(by have:=fE q J;exact ⟨by omega,by omega⟩)) (by omega) (by omega) (by omega) ((vA.ext (aB.trans (aF.trans (aJ.trans aM)))).an dI (by omega)) rfl (by omega) (by omega) ((k9.ext (aB.trans (aF.trans (aJ.trans aM)))).an dI fun q J e=>(by have:=vz q J;have:=mu.size;omega)) gv (Ext.gA (mu.trans (aB.trans (aF.trans (aJ.trans aM)))) dI fun q J=>by omega) aj az nN dD dt db
     · refine cx (vs:=[.bool false, .slice none 0 0, .slice none 0 0, .slice none 0 0]) rfl fun iH lZ aJ z3=>⟨aJ,?_⟩
       have b1:=aJ.size
       refine cx (vs:=[.bool false, .slice none 0 0, .slice none 0 0, .slice none 0 0]) rfl fun j2 rF aM z4=>⟨aM,?_⟩
       have cN:=aM.size
       have j3:=rF
       have nO:=lZ.ext aM
       refine ⟨j3.dC rfl (lC _ _ _ _),rfl,eo j3 (us:=[.bool a.leaf, .slice eX.a eX.len eX.cap, .slice eD.a eD.len eD.cap, .slice eg.a eg.len eg.cap]) rfl rfl fun xl iQ dL t5=> ?_⟩
       have j4:=nO.an dL (by omega)
       refine ⟨j4.dC rfl (lC _ _ _ _),rfl,eo j4 (us:=[.bool b.leaf, .slice dP.a dP.len dP.cap, .slice dQ.a dQ.len dQ.cap, .slice dR.a dR.len dR.cap]) rfl rfl fun fC jl fD t6=> ?_⟩
       obtain ⟨c3,iv⟩:∃c3,c3=iH.heap.size:=⟨_,rfl⟩
       obtain ⟨aK,fj⟩:∃aK,aK=jm.heap.size:=⟨_,rfl⟩
       rw[←iv] at iQ dL
       rw[←fj] at jl fD
       rw[←iv,←fj]
       have dI:ao (fun q=>q=c3∨q=aK) j2 fC:=(dL.mono fun q _ h=> .inl h).trans (fD.mono fun q _ h=> .inr h)
       have nP:j0 lo fC a eX eD eg l2 l3 l4:=(((bT.ext (aF.trans (aJ.trans (aM)))).an dI fun q _ _ J e=>by have rz:mG.heap.size≤q∧q<kk.heap.size:=(by rcases J with J|J|J;exact ⟨(bT.bW q J).1,(bT.bW q J).2.1⟩;exact ⟨(bT.bv q J).1,(bT.bv q J).2.1⟩;exact bT.a6 q J);omega).low (by omega))
       have nQ:cg (fun q=>kk.heap.size≤q∧q<jm.heap.size) fC b dP dQ dR:=((iG.at.bz fun q U ad=>⟨ad,U⟩).ext (aJ.trans (aM))).an dI fun q J e=>by omega
       have fE:∀q,l2 q∨l3 q∨l4 q→mG.heap.size≤q∧q<kk.heap.size:=fun q J=>by
         rcases J with J|J|J
         · exact ⟨(bT.bW q J).1,(bT.bW q J).2.1⟩
         · exact ⟨(bT.bv q J).1,(bT.bv q J).2.1⟩
         · exact bT.a6 q J
       exact vw (lo:=lo) (fe:=fC) (C:=fun q=>kk.heap.size≤q∧q<jm.heap.size) ((ud.ext (aB.trans (aF.trans (aJ.trans aM)))).an dI (by omega)).cell (iQ.an fD (by omega)) jl nP nQ (fun q J=>⟨by omega,by omega,by omega,by omega,fun h=>(by have:=fE q (.inl h);omega),fun h=>(by have:=fE q (.inr (.inl h));omega),fun h=>(by have:=fE q (.inr (.inr h));omega)⟩) (fun q J=>(by have:=fE q J;exact ⟨by omega,by omega⟩)) (by omega) (by omega) (by omega) ((vA.ext (aB.trans (aF.trans (aJ.trans aM)))).an dI (by omega)) rfl (by omega) (by omega) ((k9.ext (aB.trans (aF.trans (aJ.trans aM)))).an dI fun q J e=>(by have:=vz q J;have:=mu.size;omega)) gv (Ext.gA (mu.trans (aB.trans (aF.trans (aJ.trans aM)))) dI fun q J=>by omega) aj az nN dD dt db
   · refine cx (vs:=[.bool false, .slice none 0 0, .slice none 0 0, .slice none 0 0]) rfl fun jm gR aF pD=>⟨aF,?_⟩
     have s2:=aF.size
     refine ⟨?_,?_⟩
     · refine (fK (pM.ext (aB.trans (aF))) (by omega) (by omega) (by omega) xj xk).use ?_
       rintro _ iH ⟨dP,dQ,dR,yU,yV,yW,rfl,iG,aJ⟩
       refine ⟨_,dP,dQ,dR,rfl,aJ,?_⟩
       have b1:=aJ.size
       refine cx (vs:=[.bool false, .slice none 0 0, .slice none 0 0, .slice none 0 0]) rfl fun j2 rF aM z4=>⟨aM,?_⟩
       have cN:=aM.size
       have j3:=gR.ext (aJ.trans (aM))
       have nO:=rF
       refine ⟨j3.dC rfl (lC _ _ _ _),rfl,eo j3 (us:=[.bool a.leaf, .slice eX.a eX.len eX.cap, .slice eD.a eD.len eD.cap, .slice eg.a eg.len eg.cap]) rfl rfl fun xl iQ dL t5=> ?_⟩
       have j4:=nO.an dL (by omega)
       refine ⟨j4.dC rfl (lC _ _ _ _),rfl,eo j4 (us:=[.bool b.leaf, .slice dP.a dP.len dP.cap, .slice dQ.a dQ.len dQ.cap, .slice dR.a dR.len dR.cap]) rfl rfl fun fC jl fD t6=> ?_⟩
       obtain ⟨c3,iv⟩:∃c3,c3=kk.heap.size:=⟨_,rfl⟩
       obtain ⟨aK,fj⟩:∃aK,aK=iH.heap.size:=⟨_,rfl⟩
       rw[←iv] at iQ dL
       rw[←fj] at jl fD
       rw[←iv,←fj]
       have dI:ao (fun q=>q=c3∨q=aK) j2 fC:=(dL.mono fun q _ h=> .inl h).trans (fD.mono fun q _ h=> .inr h)
       have nP:j0 lo fC a eX eD eg l2 l3 l4:=(((bT.ext (aF.trans (aJ.trans (aM)))).an dI fun q _ _ J e=>by have rz:mG.heap.size≤q∧q<kk.heap.size:=(by rcases J with J|J|J;exact ⟨(bT.bW q J).1,(bT.bW q J).2.1⟩;exact ⟨(bT.bv q J).1,(bT.bv q J).2.1⟩;exact bT.a6 q J);omega).low (by omega))
       have nQ:cg (fun q=>jm.heap.size≤q∧q<iH.heap.size) fC b dP dQ dR:=((iG.at.bz fun q U ad=>⟨ad,U⟩).ext aM).an dI fun q J e=>by omega
       have fE:∀q,l2 q∨l3 q∨l4 q→mG.heap.size≤q∧q<kk.heap.size:=fun q J=>by
         rcases J with J|J|J
         · exact ⟨(bT.bW q J).1,(bT.bW q J).2.1⟩
         · exact ⟨(bT.bv q J).1,(bT.bv q J).2.1⟩
         · exact bT.a6 q J
       exact vw (lo:=lo) (fe:=fC) (C:=fun q=>jm.heap.size≤q∧q<iH.heap.size) ((ud.ext (aB.trans (aF.trans (aJ.trans aM)))).an dI (by omega)).cell (iQ.an fD (by omega)) jl nP nQ (fun q J=>⟨by omega,by omega,by omega,by omega,fun h=>(by have:=fE q (.inl h);omega),fun h=>(by have:=fE q (.inr (.inl h));omega),fun h=>(by have:=fE q (.inr (.inr h));omega)⟩) (fun q J=>(by have:=fE q J;exact ⟨by omega,by omega⟩)) (by omega) (by omega) (by omega) ((vA.ext (aB.trans (aF.trans (aJ.trans aM)))).an dI (by omega)) rfl (by omega) (by omega) ((k9.ext (aB.trans (aF.trans (aJ.trans aM)))).an dI fun q J e=>(by have:=vz q J;have:=mu.size;omega)) gv (Ext.gA (mu.trans (aB.trans (aF.trans (aJ.trans aM)))) dI fun q J=>by omega) aj az nN dD dt db
     · refine cx (vs:=[.bool false, .slice none 0 0, .slice none 0 0, .slice none 0 0]) rfl fun iH lZ aJ z3=>⟨aJ,?_⟩
       have b1:=aJ.size
       refine (fK (pM.ext (aB.trans (aF.trans (aJ)))) (by omega) (by omega) (by omega) xj xk).use ?_
       rintro _ j2 ⟨dP,dQ,dR,yU,yV,yW,rfl,iG,aM⟩
       refine ⟨_,dP,dQ,dR,rfl,aM,?_⟩
       have cN:=aM.size
       have j3:=gR.ext (aJ.trans (aM))
       have nO:=lZ.ext aM
       refine ⟨j3.dC rfl (lC _ _ _ _),rfl,eo j3 (us:=[.bool a.leaf, .slice eX.a eX.len eX.cap, .slice eD.a eD.len eD.cap, .slice eg.a eg.len eg.cap]) rfl rfl fun xl iQ dL t5=> ?_⟩
       have j4:=nO.an dL (by omega)
       refine ⟨j4.dC rfl (lC _ _ _ _),rfl,eo j4 (us:=[.bool b.leaf, .slice dP.a dP.len dP.cap, .slice dQ.a dQ.len dQ.cap, .slice dR.a dR.len dR.cap]) rfl rfl fun fC jl fD t6=> ?_⟩
       obtain ⟨c3,iv⟩:∃c3,c3=kk.heap.size:=⟨_,rfl⟩
       obtain ⟨aK,fj⟩:∃aK,aK=jm.heap.size:=⟨_,rfl⟩
       rw[←iv] at iQ dL
       rw[←fj] at jl fD
       rw[←iv,←fj]
       have dI:ao (fun q=>q=c3∨q=aK) j2 fC:=(dL.mono fun q _ h=> .inl h).trans (fD.mono fun q _ h=> .inr h)
       have nP:j0 lo fC a eX eD eg l2 l3 l4:=(((bT.ext (aF.trans (aJ.trans (aM)))).an dI fun q _ _ J e=>by have rz:mG.heap.size≤q∧q<kk.heap.size:=(by rcases J with J|J|J;exact ⟨(bT.bW q J).1,(bT.bW q J).2.1⟩;exact ⟨(bT.bv q J).1,(bT.bv q J).2.1⟩;exact bT.a6 q J);omega).low (by omega))
       have nQ:cg (fun q=>iH.heap.size≤q∧q<j2.heap.size) fC b dP dQ dR:=(iG.at.bz fun q U ad=>⟨ad,U⟩).an dI fun q J e=>by omega
       have fE:∀q,l2 q∨l3 q∨l4 q→mG.heap.size≤q∧q<kk.heap.size:=fun q J=>by
         rcases J with J|J|J
         · exact ⟨(bT.bW q J).1,(bT.bW q J).2.1⟩
         · exact ⟨(bT.bv q J).1,(bT.bv q J).2.1⟩
         · exact bT.a6 q J
       exact vw (lo:=lo) (fe:=fC) (C:=fun q=>iH.heap.size≤q∧q<j2.heap.size) ((ud.ext (aB.trans (aF.trans (aJ.trans aM)))).an dI (by omega)).cell (iQ.an fD (by omega)) jl nP nQ (fun q J=>⟨by omega,by omega,by omega,by omega,fun h=>(by have:=fE q (.inl h);omega),fun h=>(by have:=fE q (.inr (.inl h));omega),fun h=>(by have:=fE q (.inr (.inr h));omega)⟩) (fun q J=>(by have:=fE q J;exact ⟨by omega,by omega⟩)) (by omega) (by omega) (by omega) ((vA.ext (aB.trans (aF.trans (aJ.trans aM)))).an dI (by omega)) rfl (by omega) (by omega) ((k9.ext (aB.trans (aF.trans (aJ.trans aM)))).an dI fun q J e=>(by have:=vz q J;have:=mu.size;omega)) gv (Ext.gA (mu.trans (aB.trans (aF.trans (aJ.trans aM)))) dI fun q J=>by omega) aj az nN dD dt db
   · refine cx (vs:=[.bool false, .slice none 0 0, .slice none 0 0, .slice none 0 0]) rfl fun jm gR aF pD=>⟨aF,?_⟩
     have s2:=aF.size
     refine ⟨?_,?_⟩
     · refine (fK (pM.ext (aB.trans (aF))) (by omega) (by omega) (by omega) xj xk).use ?_
       rintro _ iH ⟨dP,dQ,dR,yU,yV,yW,rfl,iG,aJ⟩
       refine ⟨_,dP,dQ,dR,rfl,aJ,?_⟩
       have b1:=aJ.size
       refine cx (vs:=[.bool false, .slice none 0 0, .slice none 0 0, .slice none 0 0]) rfl fun j2 rF aM z4=>⟨aM,?_⟩
       have cN:=aM.size
       have j3:=rF
       have nO:=gR.ext (aJ.trans (aM))
       refine ⟨j3.dC rfl (lC _ _ _ _),rfl,eo j3 (us:=[.bool a.leaf, .slice eX.a eX.len eX.cap, .slice eD.a eD.len eD.cap, .slice eg.a eg.len eg.cap]) rfl rfl fun xl iQ dL t5=> ?_⟩
       have j4:=nO.an dL (by omega)
       refine ⟨j4.dC rfl (lC _ _ _ _),rfl,eo j4 (us:=[.bool b.leaf, .slice dP.a dP.len dP.cap, .slice dQ.a dQ.len dQ.cap, .slice dR.a dR.len dR.cap]) rfl rfl fun fC jl fD t6=> ?_⟩
       obtain ⟨c3,iv⟩:∃c3,c3=iH.heap.size:=⟨_,rfl⟩
       obtain ⟨aK,fj⟩:∃aK,aK=kk.heap.size:=⟨_,rfl⟩
       rw[←iv] at iQ dL
       rw[←fj] at jl fD
       rw[←iv,←fj]
       have dI:ao (fun q=>q=c3∨q=aK) j2 fC:=(dL.mono fun q _ h=> .inl h).trans (fD.mono fun q _ h=> .inr h)
       have nP:j0 lo fC a eX eD eg l2 l3 l4:=(((bT.ext (aF.trans (aJ.trans (aM)))).an dI fun q _ _ J e=>by have rz:mG.heap.size≤q∧q<kk.heap.size:=(by rcases J with J|J|J;exact ⟨(bT.bW q J).1,(bT.bW q J).2.1⟩;exact ⟨(bT.bv q J).1,(bT.bv q J).2.1⟩;exact bT.a6 q J);omega).low (by omega))
       have nQ:cg (fun q=>jm.heap.size≤q∧q<iH.heap.size) fC b dP dQ dR:=((iG.at.bz fun q U ad=>⟨ad,U⟩).ext aM).an dI fun q J e=>by omega
       have fE:∀q,l2 q∨l3 q∨l4 q→mG.heap.size≤q∧q<kk.heap.size:=fun q J=>by
         rcases J with J|J|J
         · exact ⟨(bT.bW q J).1,(bT.bW q J).2.1⟩
         · exact ⟨(bT.bv q J).1,(bT.bv q J).2.1⟩
         · exact bT.a6 q J
       exact vw (lo:=lo) (fe:=fC) (C:=fun q=>jm.heap.size≤q∧q<iH.heap.size) ((ud.ext (aB.trans (aF.trans (aJ.trans aM)))).an dI (by omega)).cell (iQ.an fD (by omega)) jl nP nQ (fun q J=>⟨by omega,by omega,by omega,by omega,fun h=>(by have:=fE q (.inl h);omega),fun h=>(by have:=fE q (.inr (.inl h));omega),fun h=>(by have:=fE q (.inr (.inr h));omega)⟩) (fun q J=>(by have:=fE q J;exact ⟨by omega,by omega⟩)) (by omega) (by omega) (by omega) ((vA.ext (aB.trans (aF.trans (aJ.trans aM)))).an dI (by omega)) rfl (by omega) (by omega) ((k9.ext (aB.trans (aF.trans (aJ.trans aM)))).an dI fun q J e=>(by have:=vz q J;have:=mu.size;omega)) gv (Ext.gA (mu.trans (aB.trans (aF.trans (aJ.trans aM)))) dI fun q J=>by omega) aj az nN dD dt db
     · refine cx (vs:=[.bool false, .slice none 0 0, .slice none 0 0, .slice none 0 0]) rfl fun iH lZ aJ z3=>⟨aJ,?_⟩
       have b1:=aJ.size
       refine (fK (pM.ext (aB.trans (aF.trans (aJ)))) (by omega) (by omega) (by omega) xj xk).use ?_
       rintro _ j2 ⟨dP,dQ,dR,yU,yV,yW,rfl,iG,aM⟩
       refine ⟨_,dP,dQ,dR,rfl,aM,?_⟩
       have cN:=aM.size
       have j3:=lZ.ext aM
       have nO:=gR.ext (aJ.trans (aM))
       refine ⟨j3.dC rfl (lC _ _ _ _),rfl,eo j3 (us:=[.bool a.leaf, .slice eX.a eX.len eX.cap, .slice eD.a eD.len eD.cap, .slice eg.a eg.len eg.cap]) rfl rfl fun xl iQ dL t5=> ?_⟩
       have j4:=nO.an dL (by omega)
       refine ⟨j4.dC rfl (lC _ _ _ _),rfl,eo j4 (us:=[.bool b.leaf, .slice dP.a dP.len dP.cap, .slice dQ.a dQ.len dQ.cap, .slice dR.a dR.len dR.cap]) rfl rfl fun fC jl fD t6=> ?_⟩
       obtain ⟨c3,iv⟩:∃c3,c3=jm.heap.size:=⟨_,rfl⟩
       obtain ⟨aK,fj⟩:∃aK,aK=kk.heap.size:=⟨_,rfl⟩
       rw[←iv] at iQ dL
       rw[←fj] at jl fD
       rw[←iv,←fj]
       have dI:ao (fun q=>q=c3∨q=aK) j2 fC:=(dL.mono fun q _ h=> .inl h).trans (fD.mono fun q _ h=> .inr h)
       have nP:j0 lo fC a eX eD eg l2 l3 l4:=(((bT.ext (aF.trans (aJ.trans (aM)))).an dI fun q _ _ J e=>by have rz:mG.heap.size≤q∧q<kk.heap.size:=(by rcases J with J|J|J;exact ⟨(bT.bW q J).1,(bT.bW q J).2.1⟩;exact ⟨(bT.bv q J).1,(bT.bv q J).2.1⟩;exact bT.a6 q J);omega).low (by omega))
       have nQ:cg (fun q=>iH.heap.size≤q∧q<j2.heap.size) fC b dP dQ dR:=(iG.at.bz fun q U ad=>⟨ad,U⟩).an dI fun q J e=>by omega
       have fE:∀q,l2 q∨l3 q∨l4 q→mG.heap.size≤q∧q<kk.heap.size:=fun q J=>by
         rcases J with J|J|J
         · exact ⟨(bT.bW q J).1,(bT.bW q J).2.1⟩
         · exact ⟨(bT.bv q J).1,(bT.bv q J).2.1⟩
         · exact bT.a6 q J
       exact vw (lo:=lo) (fe:=fC) (C:=fun q=>iH.heap.size≤q∧q<j2.heap.size) ((ud.ext (aB.trans (aF.trans (aJ.trans aM)))).an dI (by omega)).cell (iQ.an fD (by omega)) jl nP nQ (fun q J=>⟨by omega,by omega,by omega,by omega,fun h=>(by have:=fE q (.inl h);omega),fun h=>(by have:=fE q (.inr (.inl h));omega),fun h=>(by have:=fE q (.inr (.inr h));omega)⟩) (fun q J=>(by have:=fE q J;exact ⟨by omega,by omega⟩)) (by omega) (by omega) (by omega) ((vA.ext (aB.trans (aF.trans (aJ.trans aM)))).an dI (by omega)) rfl (by omega) (by omega) ((k9.ext (aB.trans (aF.trans (aJ.trans aM)))).an dI fun q J e=>(by have:=vz q J;have:=mu.size;omega)) gv (Ext.gA (mu.trans (aB.trans (aF.trans (aJ.trans aM)))) dI fun q J=>by omega) aj az nN dD dt db
 · refine cx (vs:=[.bool false, .slice none 0 0, .slice none 0 0, .slice none 0 0]) rfl fun kk mC aB dx=>⟨aB,?_⟩
   have s1:=aB.size
   refine ⟨?_,?_⟩
   · refine (fK (KP.ext aB) (by omega) (by omega) (by omega) KN KO).use ?_
     rintro _ jm ⟨eX,eD,eg,l2,l3,l4,rfl,bT,aF⟩
     refine ⟨_,eX,eD,eg,rfl,aF,?_⟩
     have s2:=aF.size
     refine ⟨?_,?_⟩
     · refine (fK (pM.ext (aB.trans (aF))) (by omega) (by omega) (by omega) xj xk).use ?_
       rintro _ iH ⟨dP,dQ,dR,yU,yV,yW,rfl,iG,aJ⟩
       refine ⟨_,dP,dQ,dR,rfl,aJ,?_⟩
       have b1:=aJ.size
       refine cx (vs:=[.bool false, .slice none 0 0, .slice none 0 0, .slice none 0 0]) rfl fun j2 rF aM z4=>⟨aM,?_⟩
       have cN:=aM.size
       have j3:=mC.ext (aF.trans (aJ.trans (aM)))
       have nO:=rF
       refine ⟨j3.dC rfl (lC _ _ _ _),rfl,eo j3 (us:=[.bool a.leaf, .slice eX.a eX.len eX.cap, .slice eD.a eD.len eD.cap, .slice eg.a eg.len eg.cap]) rfl rfl fun xl iQ dL t5=> ?_⟩
       have j4:=nO.an dL (by omega)
       refine ⟨j4.dC rfl (lC _ _ _ _),rfl,eo j4 (us:=[.bool b.leaf, .slice dP.a dP.len dP.cap, .slice dQ.a dQ.len dQ.cap, .slice dR.a dR.len dR.cap]) rfl rfl fun fC jl fD t6=> ?_⟩
       obtain ⟨c3,iv⟩:∃c3,c3=mG.heap.size:=⟨_,rfl⟩
       obtain ⟨aK,fj⟩:∃aK,aK=iH.heap.size:=⟨_,rfl⟩
       rw[←iv] at iQ dL
       rw[←fj] at jl fD
       rw[←iv,←fj]
       have dI:ao (fun q=>q=c3∨q=aK) j2 fC:=(dL.mono fun q _ h=> .inl h).trans (fD.mono fun q _ h=> .inr h)
       have nP:j0 lo fC a eX eD eg l2 l3 l4:=(((bT.ext (aJ.trans (aM))).an dI fun q _ _ J e=>by have rz:kk.heap.size≤q∧q<jm.heap.size:=(by rcases J with J|J|J;exact ⟨(bT.bW q J).1,(bT.bW q J).2.1⟩;exact ⟨(bT.bv q J).1,(bT.bv q J).2.1⟩;exact bT.a6 q J);omega).low (by omega))
       have nQ:cg (fun q=>jm.heap.size≤q∧q<iH.heap.size) fC b dP dQ dR:=((iG.at.bz fun q U ad=>⟨ad,U⟩).ext aM).an dI fun q J e=>by omega
       have fE:∀q,l2 q∨l3 q∨l4 q→kk.heap.size≤q∧q<jm.heap.size:=fun q J=>by
         rcases J with J|J|J
         · exact ⟨(bT.bW q J).1,(bT.bW q J).2.1⟩
         · exact ⟨(bT.bv q J).1,(bT.bv q J).2.1⟩
         · exact bT.a6 q J
       exact vw (lo:=lo) (fe:=fC) (C:=fun q=>jm.heap.size≤q∧q<iH.heap.size) ((ud.ext (aB.trans (aF.trans (aJ.trans aM)))).an dI (by omega)).cell (iQ.an fD (by omega)) jl nP nQ (fun q J=>⟨by omega,by omega,by omega,by omega,fun h=>(by have:=fE q (.inl h);omega),fun h=>(by have:=fE q (.inr (.inl h));omega),fun h=>(by have:=fE q (.inr (.inr h));omega)⟩) (fun q J=>(by have:=fE q J;exact ⟨by omega,by omega⟩)) (by omega) (by omega) (by omega) ((vA.ext (aB.trans (aF.trans (aJ.trans aM)))).an dI (by omega)) rfl (by omega) (by omega) ((k9.ext (aB.trans (aF.trans (aJ.trans aM)))).an dI fun q J e=>(by have:=vz q J;have:=mu.size;omega)) gv (Ext.gA (mu.trans (aB.trans (aF.trans (aJ.trans aM)))) dI fun q J=>by omega) aj az nN dD dt db
     · refine cx (vs:=[.bool false, .slice none 0 0, .slice none 0 0, .slice none 0 0]) rfl fun iH lZ aJ z3=>⟨aJ,?_⟩
       have b1:=aJ.size
       refine (fK (pM.ext (aB.trans (aF.trans (aJ)))) (by omega) (by omega) (by omega) xj xk).use ?_
       rintro _ j2 ⟨dP,dQ,dR,yU,yV,yW,rfl,iG,aM⟩
       refine ⟨_,dP,dQ,dR,rfl,aM,?_⟩
       have cN:=aM.size
       have j3:=mC.ext (aF.trans (aJ.trans (aM)))
       have nO:=lZ.ext aM
       refine ⟨j3.dC rfl (lC _ _ _ _),rfl,eo j3 (us:=[.bool a.leaf, .slice eX.a eX.len eX.cap, .slice eD.a eD.len eD.cap, .slice eg.a eg.len eg.cap]) rfl rfl fun xl iQ dL t5=> ?_⟩
       have j4:=nO.an dL (by omega)
       refine ⟨j4.dC rfl (lC _ _ _ _),rfl,eo j4 (us:=[.bool b.leaf, .slice dP.a dP.len dP.cap, .slice dQ.a dQ.len dQ.cap, .slice dR.a dR.len dR.cap]) rfl rfl fun fC jl fD t6=> ?_⟩
       obtain ⟨c3,iv⟩:∃c3,c3=mG.heap.size:=⟨_,rfl⟩
       obtain ⟨aK,fj⟩:∃aK,aK=jm.heap.size:=⟨_,rfl⟩
       rw[←iv] at iQ dL
       rw[←fj] at jl fD
       rw[←iv,←fj]
       have dI:ao (fun q=>q=c3∨q=aK) j2 fC:=(dL.mono fun q _ h=> .inl h).trans (fD.mono fun q _ h=> .inr h)
       have nP:j0 lo fC a eX eD eg l2 l3 l4:=(((bT.ext (aJ.trans (aM))).an dI fun q _ _ J e=>by have rz:kk.heap.size≤q∧q<jm.heap.size:=(by rcases J with J|J|J;exact ⟨(bT.bW q J).1,(bT.bW q J).2.1⟩;exact ⟨(bT.bv q J).1,(bT.bv q J).2.1⟩;exact bT.a6 q J);omega).low (by omega))
       have nQ:cg (fun q=>iH.heap.size≤q∧q<j2.heap.size) fC b dP dQ dR:=(iG.at.bz fun q U ad=>⟨ad,U⟩).an dI fun q J e=>by omega
       have fE:∀q,l2 q∨l3 q∨l4 q→kk.heap.size≤q∧q<jm.heap.size:=fun q J=>by
         rcases J with J|J|J
         · exact ⟨(bT.bW q J).1,(bT.bW q J).2.1⟩
         · exact ⟨(bT.bv q J).1,(bT.bv q J).2.1⟩
         · exact bT.a6 q J
       exact vw (lo:=lo) (fe:=fC) (C:=fun q=>iH.heap.size≤q∧q<j2.heap.size) ((ud.ext (aB.trans (aF.trans (aJ.trans aM)))).an dI (by omega)).cell (iQ.an fD (by omega)) jl nP nQ (fun q J=>⟨by omega,by omega,by omega,by omega,fun h=>(by have:=fE q (.inl h);omega),fun h=>(by have:=fE q (.inr (.inl h));omega),fun h=>(by have:=fE q (.inr (.inr h));omega)⟩) (fun q J=>(by have:=fE q J;exact ⟨by omega,by omega⟩)) (by omega) (by omega) (by omega) ((vA.ext (aB.trans (aF.trans (aJ.trans aM)))).an dI (by omega)) rfl (by omega) (by omega) ((k9.ext (aB.trans (aF.trans (aJ.trans aM)))).an dI fun q J e=>(by have:=vz q J;have:=mu.size;omega)) gv (Ext.gA (mu.trans (aB.trans (aF.trans (aJ.trans aM)))) dI fun q J=>by omega) aj az nN dD dt db
   · refine cx (vs:=[.bool false, .slice none 0 0, .slice none 0 0, .slice none 0 0]) rfl fun jm gR aF pD=>⟨aF,?_⟩
     have s2:=aF.size
     refine (fK (KP.ext (aB.trans (aF))) (by omega) (by omega) (by omega) KN KO).use ?_
     rintro _ iH ⟨eX,eD,eg,l2,l3,l4,rfl,bT,aJ⟩
     refine ⟨_,eX,eD,eg,rfl,aJ,?_⟩
     have b1:=aJ.size
     refine (fK (pM.ext (aB.trans (aF.trans (aJ)))) (by omega) (by omega) (by omega) xj xk).use ?_
     rintro _ j2 ⟨dP,dQ,dR,yU,yV,yW,rfl,iG,aM⟩
     refine ⟨_,dP,dQ,dR,rfl,aM,?_⟩
     have cN:=aM.size
     have j3:=mC.ext (aF.trans (aJ.trans (aM)))
     have nO:=gR.ext (aJ.trans (aM))
     refine ⟨j3.dC rfl (lC _ _ _ _),rfl,eo j3 (us:=[.bool a.leaf, .slice eX.a eX.len eX.cap, .slice eD.a eD.len eD.cap, .slice eg.a eg.len eg.cap]) rfl rfl fun xl iQ dL t5=> ?_⟩
     have j4:=nO.an dL (by omega)
     refine ⟨j4.dC rfl (lC _ _ _ _),rfl,eo j4 (us:=[.bool b.leaf, .slice dP.a dP.len dP.cap, .slice dQ.a dQ.len dQ.cap, .slice dR.a dR.len dR.cap]) rfl rfl fun fC jl fD t6=> ?_⟩
     obtain ⟨c3,iv⟩:∃c3,c3=mG.heap.size:=⟨_,rfl⟩
     obtain ⟨aK,fj⟩:∃aK,aK=kk.heap.size:=⟨_,rfl⟩
     rw[←iv] at iQ dL
     rw[←fj] at jl fD
     rw[←iv,←fj]
     have dI:ao (fun q=>q=c3∨q=aK) j2 fC:=(dL.mono fun q _ h=> .inl h).trans (fD.mono fun q _ h=> .inr h)
     have nP:j0 lo fC a eX eD eg l2 l3 l4:=(((bT.ext aM).an dI fun q _ _ J e=>by have rz:jm.heap.size≤q∧q<iH.heap.size:=(by rcases J with J|J|J;exact ⟨(bT.bW q J).1,(bT.bW q J).2.1⟩;exact ⟨(bT.bv q J).1,(bT.bv q J).2.1⟩;exact bT.a6 q J);omega).low (by omega))
     have nQ:cg (fun q=>iH.heap.size≤q∧q<j2.heap.size) fC b dP dQ dR:=(iG.at.bz fun q U ad=>⟨ad,U⟩).an dI fun q J e=>by omega
     have fE:∀q,l2 q∨l3 q∨l4 q→jm.heap.size≤q∧q<iH.heap.size:=fun q J=>by
       rcases J with J|J|J
       · exact ⟨(bT.bW q J).1,(bT.bW q J).2.1⟩
       · exact ⟨(bT.bv q J).1,(bT.bv q J).2.1⟩
       · exact bT.a6 q J
     exact vw (lo:=lo) (fe:=fC) (C:=fun q=>iH.heap.size≤q∧q<j2.heap.size) ((ud.ext (aB.trans (aF.trans (aJ.trans aM)))).an dI (by omega)).cell (iQ.an fD (by omega)) jl nP nQ (fun q J=>⟨by omega,by omega,by omega,by omega,fun h=>(by have:=fE q (.inl h);omega),fun h=>(by have:=fE q (.inr (.inl h));omega),fun h=>(by have:=fE q (.inr (.inr h));omega)⟩) (fun q J=>(by have:=fE q J;exact ⟨by omega,by omega⟩)) (by omega) (by omega) (by omega) ((vA.ext (aB.trans (aF.trans (aJ.trans aM)))).an dI (by omega)) rfl (by omega) (by omega) ((k9.ext (aB.trans (aF.trans (aJ.trans aM)))).an dI fun q J e=>(by have:=vz q J;have:=mu.size;omega)) gv (Ext.gA (mu.trans (aB.trans (aF.trans (aJ.trans aM)))) dI fun q J=>by omega) aj az nN dD dt db
 · refine cx (vs:=[.bool false, .slice none 0 0, .slice none 0 0, .slice none 0 0]) rfl fun kk mC aB dx=>⟨aB,?_⟩
   have s1:=aB.size
   refine ⟨?_,?_⟩
   · refine (fK (KP.ext aB) (by omega) (by omega) (by omega) KN KO).use ?_
     rintro _ jm ⟨eX,eD,eg,l2,l3,l4,rfl,bT,aF⟩
     refine ⟨_,eX,eD,eg,rfl,aF,?_⟩
     have s2:=aF.size
     refine ⟨?_,?_⟩
     · refine (fK (pM.ext (aB.trans (aF))) (by omega) (by omega) (by omega) xj xk).use ?_
       rintro _ iH ⟨dP,dQ,dR,yU,yV,yW,rfl,iG,aJ⟩
       refine ⟨_,dP,dQ,dR,rfl,aJ,?_⟩
       have b1:=aJ.size
       refine cx (vs:=[.bool false, .slice none 0 0, .slice none 0 0, .slice none 0 0]) rfl fun j2 rF aM z4=>⟨aM,?_⟩
       have cN:=aM.size
       have j3:=rF
       have nO:=mC.ext (aF.trans (aJ.trans (aM)))
       refine ⟨j3.dC rfl (lC _ _ _ _),rfl,eo j3 (us:=[.bool a.leaf, .slice eX.a eX.len eX.cap, .slice eD.a eD.len eD.cap, .slice eg.a eg.len eg.cap]) rfl rfl fun xl iQ dL t5=> ?_⟩
       have j4:=nO.an dL (by omega)
       refine ⟨j4.dC rfl (lC _ _ _ _),rfl,eo j4 (us:=[.bool b.leaf, .slice dP.a dP.len dP.cap, .slice dQ.a dQ.len dQ.cap, .slice dR.a dR.len dR.cap]) rfl rfl fun fC jl fD t6=> ?_⟩
       obtain ⟨c3,iv⟩:∃c3,c3=iH.heap.size:=⟨_,rfl⟩
       obtain ⟨aK,fj⟩:∃aK,aK=mG.heap.size:=⟨_,rfl⟩
       rw[←iv] at iQ dL
       rw[←fj] at jl fD
       rw[←iv,←fj]
       have dI:ao (fun q=>q=c3∨q=aK) j2 fC:=(dL.mono fun q _ h=> .inl h).trans (fD.mono fun q _ h=> .inr h)
       have nP:j0 lo fC a eX eD eg l2 l3 l4:=(((bT.ext (aJ.trans (aM))).an dI fun q _ _ J e=>by have rz:kk.heap.size≤q∧q<jm.heap.size:=(by rcases J with J|J|J;exact ⟨(bT.bW q J).1,(bT.bW q J).2.1⟩;exact ⟨(bT.bv q J).1,(bT.bv q J).2.1⟩;exact bT.a6 q J);omega).low (by omega))
       have nQ:cg (fun q=>jm.heap.size≤q∧q<iH.heap.size) fC b dP dQ dR:=((iG.at.bz fun q U ad=>⟨ad,U⟩).ext aM).an dI fun q J e=>by omega
       have fE:∀q,l2 q∨l3 q∨l4 q→kk.heap.size≤q∧q<jm.heap.size:=fun q J=>by
         rcases J with J|J|J
         · exact ⟨(bT.bW q J).1,(bT.bW q J).2.1⟩
         · exact ⟨(bT.bv q J).1,(bT.bv q J).2.1⟩
         · exact bT.a6 q J
       exact vw (lo:=lo) (fe:=fC) (C:=fun q=>jm.heap.size≤q∧q<iH.heap.size) ((ud.ext (aB.trans (aF.trans (aJ.trans aM)))).an dI (by omega)).cell (iQ.an fD (by omega)) jl nP nQ (fun q J=>⟨by omega,by omega,by omega,by omega,fun h=>(by have:=fE q (.inl h);omega),fun h=>(by have:=fE q (.inr (.inl h));omega),fun h=>(by have:=fE q (.inr (.inr h));omega)⟩) (fun q J=>(by have:=fE q J;exact ⟨by omega,by omega⟩)) (by omega) (by omega) (by omega) ((vA.ext (aB.trans (aF.trans (aJ.trans aM)))).an dI (by omega)) rfl (by omega) (by omega) ((k9.ext (aB.trans (aF.trans (aJ.trans aM)))).an dI fun q J e=>(by have:=vz q J;have:=mu.size;omega)) gv (Ext.gA (mu.trans (aB.trans (aF.trans (aJ.trans aM)))) dI fun q J=>by omega) aj az nN dD dt db
     · refine cx (vs:=[.bool false, .slice none 0 0, .slice none 0 0, .slice none 0 0]) rfl fun iH lZ aJ z3=>⟨aJ,?_⟩
       have b1:=aJ.size
       refine (fK (pM.ext (aB.trans (aF.trans (aJ)))) (by omega) (by omega) (by omega) xj xk).use ?_
       rintro _ j2 ⟨dP,dQ,dR,yU,yV,yW,rfl,iG,aM⟩
       refine ⟨_,dP,dQ,dR,rfl,aM,?_⟩
       have cN:=aM.size
       have j3:=lZ.ext aM
       have nO:=mC.ext (aF.trans (aJ.trans (aM)))
       refine ⟨j3.dC rfl (lC _ _ _ _),rfl,eo j3 (us:=[.bool a.leaf, .slice eX.a eX.len eX.cap, .slice eD.a eD.len eD.cap, .slice eg.a eg.len eg.cap]) rfl rfl fun xl iQ dL t5=> ?_⟩
       have j4:=nO.an dL (by omega)
       refine ⟨j4.dC rfl (lC _ _ _ _),rfl,eo j4 (us:=[.bool b.leaf, .slice dP.a dP.len dP.cap, .slice dQ.a dQ.len dQ.cap, .slice dR.a dR.len dR.cap]) rfl rfl fun fC jl fD t6=> ?_⟩
       obtain ⟨c3,iv⟩:∃c3,c3=jm.heap.size:=⟨_,rfl⟩
       obtain ⟨aK,fj⟩:∃aK,aK=mG.heap.size:=⟨_,rfl⟩
       rw[←iv] at iQ dL
       rw[←fj] at jl fD
       rw[←iv,←fj]
       have dI:ao (fun q=>q=c3∨q=aK) j2 fC:=(dL.mono fun q _ h=> .inl h).trans (fD.mono fun q _ h=> .inr h)
       have nP:j0 lo fC a eX eD eg l2 l3 l4:=(((bT.ext (aJ.trans (aM))).an dI fun q _ _ J e=>by have rz:kk.heap.size≤q∧q<jm.heap.size:=(by rcases J with J|J|J;exact ⟨(bT.bW q J).1,(bT.bW q J).2.1⟩;exact ⟨(bT.bv q J).1,(bT.bv q J).2.1⟩;exact bT.a6 q J);omega).low (by omega))
       have nQ:cg (fun q=>iH.heap.size≤q∧q<j2.heap.size) fC b dP dQ dR:=(iG.at.bz fun q U ad=>⟨ad,U⟩).an dI fun q J e=>by omega
       have fE:∀q,l2 q∨l3 q∨l4 q→kk.heap.size≤q∧q<jm.heap.size:=fun q J=>by
         rcases J with J|J|J
         · exact ⟨(bT.bW q J).1,(bT.bW q J).2.1⟩
         · exact ⟨(bT.bv q J).1,(bT.bv q J).2.1⟩
         · exact bT.a6 q J
       exact vw (lo:=lo) (fe:=fC) (C:=fun q=>iH.heap.size≤q∧q<j2.heap.size) ((ud.ext (aB.trans (aF.trans (aJ.trans aM)))).an dI (by omega)).cell (iQ.an fD (by omega)) jl nP nQ (fun q J=>⟨by omega,by omega,by omega,by omega,fun h=>(by have:=fE q (.inl h);omega),fun h=>(by have:=fE q (.inr (.inl h));omega),fun h=>(by have:=fE q (.inr (.inr h));omega)⟩) (fun q J=>(by have:=fE q J;exact ⟨by omega,by omega⟩)) (by omega) (by omega) (by omega) ((vA.ext (aB.trans (aF.trans (aJ.trans aM)))).an dI (by omega)) rfl (by omega) (by omega) ((k9.ext (aB.trans (aF.trans (aJ.trans aM)))).an dI fun q J e=>(by have:=vz q J;have:=mu.size;omega)) gv (Ext.gA (mu.trans (aB.trans (aF.trans (aJ.trans aM)))) dI fun q J=>by omega) aj az nN dD dt db
   · refine cx (vs:=[.bool false, .slice none 0 0, .slice none 0 0, .slice none 0 0]) rfl fun jm gR aF pD=>⟨aF,?_⟩
     have s2:=aF.size
     refine (fK (KP.ext (aB.trans (aF))) (by omega) (by omega) (by omega) KN KO).use ?_
     rintro _ iH ⟨eX,eD,eg,l2,l3,l4,rfl,bT,aJ⟩
     refine ⟨_,eX,eD,eg,rfl,aJ,?_⟩
     have b1:=aJ.size
     refine (fK (pM.ext (aB.trans (aF.trans (aJ)))) (by omega) (by omega) (by omega) xj xk).use ?_
     rintro _ j2 ⟨dP,dQ,dR,yU,yV,yW,rfl,iG,aM⟩
     refine ⟨_,dP,dQ,dR,rfl,aM,?_⟩
     have cN:=aM.size
     have j3:=gR.ext (aJ.trans (aM))
     have nO:=mC.ext (aF.trans (aJ.trans (aM)))
     refine ⟨j3.dC rfl (lC _ _ _ _),rfl,eo j3 (us:=[.bool a.leaf, .slice eX.a eX.len eX.cap, .slice eD.a eD.len eD.cap, .slice eg.a eg.len eg.cap]) rfl rfl fun xl iQ dL t5=> ?_⟩
     have j4:=nO.an dL (by omega)
     refine ⟨j4.dC rfl (lC _ _ _ _),rfl,eo j4 (us:=[.bool b.leaf, .slice dP.a dP.len dP.cap, .slice dQ.a dQ.len dQ.cap, .slice dR.a dR.len dR.cap]) rfl rfl fun fC jl fD t6=> ?_⟩
     obtain ⟨c3,iv⟩:∃c3,c3=kk.heap.size:=⟨_,rfl⟩
     obtain ⟨aK,fj⟩:∃aK,aK=mG.heap.size:=⟨_,rfl⟩
     rw[←iv] at iQ dL
     rw[←fj] at jl fD
     rw[←iv,←fj]
     have dI:ao (fun q=>q=c3∨q=aK) j2 fC:=(dL.mono fun q _ h=> .inl h).trans (fD.mono fun q _ h=> .inr h)
     have nP:j0 lo fC a eX eD eg l2 l3 l4:=(((bT.ext aM).an dI fun q _ _ J e=>by have rz:jm.heap.size≤q∧q<iH.heap.size:=(by rcases J with J|J|J;exact ⟨(bT.bW q J).1,(bT.bW q J).2.1⟩;exact ⟨(bT.bv q J).1,(bT.bv q J).2.1⟩;exact bT.a6 q J);omega).low (by omega))
     have nQ:cg (fun q=>iH.heap.size≤q∧q<j2.heap.size) fC b dP dQ dR:=(iG.at.bz fun q U ad=>⟨ad,U⟩).an dI fun q J e=>by omega
     have fE:∀q,l2 q∨l3 q∨l4 q→jm.heap.size≤q∧q<iH.heap.size:=fun q J=>by
       rcases J with J|J|J
       · exact ⟨(bT.bW q J).1,(bT.bW q J).2.1⟩
       · exact ⟨(bT.bv q J).1,(bT.bv q J).2.1⟩
       · exact bT.a6 q J
     exact vw (lo:=lo) (fe:=fC) (C:=fun q=>iH.heap.size≤q∧q<j2.heap.size) ((ud.ext (aB.trans (aF.trans (aJ.trans aM)))).an dI (by omega)).cell (iQ.an fD (by omega)) jl nP nQ (fun q J=>⟨by omega,by omega,by omega,by omega,fun h=>(by have:=fE q (.inl h);omega),fun h=>(by have:=fE q (.inr (.inl h));omega),fun h=>(by have:=fE q (.inr (.inr h));omega)⟩) (fun q J=>(by have:=fE q J;exact ⟨by omega,by omega⟩)) (by omega) (by omega) (by omega) ((vA.ext (aB.trans (aF.trans (aJ.trans aM)))).an dI (by omega)) rfl (by omega) (by omega) ((k9.ext (aB.trans (aF.trans (aJ.trans aM)))).an dI fun q J e=>(by have:=vz q J;have:=mu.size;omega)) gv (Ext.gA (mu.trans (aB.trans (aF.trans (aJ.trans aM)))) dI fun q J=>by omega) aj az nN dD dt db
end
section
section
variable {α:Type} {c:α→List Value} {sz:Nat}
def cL (c:α→List Value) (l:List α):List Value:=(l.map c).flatten
theorem yX (l m:List α):cL c (l++m)=cL c l++cL c m:=by simp[cL]
theorem HL (x:α) (l:List α):cL c (x::l)=c x++cL c l:=rfl
theorem ov:∀ (l:List α),(∀x∈l,(c x).length=sz)→(cL c l).length=l.length*sz
 | [],_=>by simp[cL]
 |x::l,h=>by
   rw[HL,dO,h x (by simp),ov l fun y b8=>h y (by simp[b8]),k8,wv];omega
theorem akn {l:List α} {i:Nat} (h:i<l.length):l=l.take i++l[i]::l.drop (i+1):=by rw[←tJ h,p5]
theorem SG {l:List α} (al:∀x∈l,(c x).length=sz) {i:Nat} (h:i<l.length):(cL c l).take (i*sz)=cL c (l.take i)∧(cL c l).drop (i*sz)=c l[i]++cL c (l.drop (i+1)):=by
 have az:(cL c (l.take i)).length=i*sz:=by
   rw[ov _ fun x af=>al x (kL af),ej,r8 (by omega)]
 have e:cL c l=cL c (l.take i)++(c l[i]++cL c (l.drop (i+1))):=by
   conv=>lhs;rw[akn h]
   rw[yX,HL]
 rw[e]
 exact ⟨Ad az,drop_left' az⟩
theorem Zh {l:List α} (al:∀x∈l,(c x).length=sz) {i:Nat} (h:i<l.length):((cL c l).drop (i*sz)).take sz=c l[i]:=by
 rw[(SG al h).2]
 exact Ad (al _ (fh h))
theorem KQ {l:List α} (al:∀x∈l,(c x).length=sz) {i j:Nat} (h:i<l.length) (a8:j<sz):(cL c l)[i*sz+j]? =(c l[i])[j]? :=by
 rw[←Zh al h,List.getElem?_take_of_lt a8,Ng]
theorem ako {l:List α} (al:∀x∈l,(c x).length=sz) {i:Nat} (h:i<l.length) (x:α):(cL c l).take (i*sz)++c x++(cL c l).drop (i*sz+sz)=cL c (l.set i x):=by
 have U:=SG al h
 have ad:(cL c l).drop (i*sz+sz)=cL c (l.drop (i+1)):=by
   rw[←JH,U.2]
   exact drop_left' (al _ (fh h))
 rw[U.1,ad,List.set_eq_take_append_cons_drop,if_pos h,yX,HL,eI]
theorem akp {l:List α} (al:∀x∈l,(c x).length=sz) {i j:Nat} (h:i<l.length) (a8:j<sz) {x:α} {v:Value} (af:c x=(c l[i]).set j v):(cL c l).set (i*sz+j) v=cL c (l.set i x):=by
 have az:(c l[i]).length=sz:=al _ (fh h)
 have U:=SG al h
 have e:cL c l=cL c (l.take i)++(c l[i]++cL c (l.drop (i+1))):=by
   conv=>lhs;rw[←p5 (i*sz) (cL c l),U.1,U.2]
 have sd:(cL c (l.take i)).length=i*sz:=by
   rw[ov _ fun x af=>al x (kL af),ej,r8 (by omega)]
 rw[e,List.set_append_right _ _ (by omega),show i*sz+j-(cL c (l.take i)).length=j by omega,List.set_append_left _ _ (by omega),←af,List.set_eq_take_append_cons_drop,if_pos h,yX,HL]
end
section
variable {α:Type} [DecidableEq α] {P:Program} {w:World} {so HM T:TypeId} {enc:α→Value} {r:Nat} {M:List (α×Value)} {k:α} {v:Value}
theorem akq (bu:CV P so enc) (bj:P.underlying T=some (.map so HM)) (h:kB w r enc M) (hm:∀v,(k,v)∉M) (v:Value):
   ∃ag:World,(Instr.mapUpdate T (.map (some r)) (enc k) v).run P w= .ok () ag∧ao (fun q=>q=r) w ag∧ag.heap.size=w.heap.size∧kB ag r enc ((k,v)::M):=by
 have ba:=h.lt
 obtain ⟨L,k3,h,U,ad,au,aH⟩:=h
 have nL:=Zi U hm
 have aG:=bu.find L k w
 rw[SH nL] at aG
 refine ⟨xm w r (.map ((L.map (rG enc)).toArray.push ⟨enc k,v,k3⟩) (k3+1)),?_,Zj _ _ _,Zk _ _ _,L++ [(k,v,k3)],k3+1,?_,?_,?_,?_,?_⟩
 · simp only[Instr.mapUpdate,Sem.run_bind,gj bj,Result.andThen,Ow h,Sem.run_pure,bu.check,aG,Zl h]
 · rw[Zm ba]
   simp[rG]
 · rw[oc]
   have:([(k,v,k3)]:List (α×Value×Nat)).map FA=[(k,v)]:=rfl
   rw[this]
   exact (JI).trans (List.Perm.cons _ U)
 · rw[oc,JO]
   refine ⟨ad,by simp,fun a aU b ab=> ?_⟩
   obtain ⟨x,af,rfl⟩:=oa.1 aU
   simp only[tK,List.map_nil,lR] at ab
   subst ab
   exact nL x af
 · rw[oc,JO]
   refine ⟨au,by simp,fun a aU b ab=> ?_⟩
   obtain ⟨x,af,rfl⟩:=oa.1 aU
   simp only[tK,List.map_nil,lR] at ab
   subst ab
   have:=aH x af
   omega
 · intro x af
   rcases fa.1 af with af|af
   · have:=aH x af;omega
   · rw[lR.1 af];show k3<k3+1;omega
theorem akr (bu:CV P so enc) (bj:P.underlying T=some (.map so HM)) (h:kB w r enc ((k,v)::M)) (ue:Value):
   ∃ag:World,(Instr.mapUpdate T (.map (some r)) (enc k) ue).run P w= .ok () ag∧ao (fun q=>q=r) w ag∧ag.heap.size=w.heap.size∧kB ag r enc ((k,ue)::M):=by
 have ba:=h.lt
 obtain ⟨n,bU,cj,ff,k3,h,U,ad,au,aH,_⟩:=h.split
 have aG:=bu.find (bU++(k,v,ff)::cj) k w
 rw[SI (Zn ad),gy] at aG
 have bg:((bU++(k,v,ff)::cj).map (rG enc)).toArray[bU.length]? =some ⟨enc k,v,ff⟩:=by simp[rG]
 have aks:((bU++(k,v,ff)::cj).map (rG enc)).toArray.modify bU.length (fun e=>{e with key:=enc k,val:=ue})=((bU++(k,ue,ff)::cj).map (rG enc)).toArray:=by
   apply Array.toList_inj.1
   rw[Array.toList_modify,oc,tK]
   have:=Zo (fun e=>{e with key:=enc k,val:=ue}) (rG enc (k,v,ff)) (cj.map (rG enc)) (bU.map (rG enc))
   rw[mj] at this
   rw[this]
   simp[rG]
 refine ⟨xm w r (.map ((bU++(k,ue,ff)::cj).map (rG enc)).toArray k3),?_,Zj _ _ _,Zk _ _ _,bU++(k,ue,ff)::cj,k3,Zm ba _,?_,?_,?_,?_⟩
 · simp only[Instr.mapUpdate,Sem.run_bind,gj bj,Result.andThen,Ow h,Sem.run_pure,bu.check,aG,bg,yf,Option.getD_some,Instr.keyThatStays,bu.bits,if_true,Zl h,aks]
 · rw[oc,tK]
   rw[oc] at U
   exact Cd.trans (U.cons _)
 · simpa using ad
 · simpa using au
 · intro x af
   rcases fa.1 af with af|af
   · exact aH x (by simp[af])
   · rcases fZ.1 af with rfl|af
     · exact aH (k,v,ff) (by simp)
     · exact aH x (by simp[af])
end
abbrev lF:=List UInt8
structure pN where
 i:Nat
 s:aa
 rH:List lF
structure eG where
 d:Nat
 ik:Nat
 j5:Nat
 hG:List Int
 gp:List lF
 waits:List pN
 writes:Int
 cX:Nat
def pN.e (x:pN):Int×Value:=((x.i:Int), .slice x.s.a x.s.len x.s.cap)
def eG.c (D:eG):List Value:=D.hG.map (.int .i64)++ [.slice (some ⟨D.ik,0,none⟩) D.gp.length D.gp.length, .map (some D.j5), .int .i64 D.writes]
def eG.n (D:eG):Nat:=D.gp.length
abbrev encZ:Int→Value:=fun n=> .int .i64 n
theorem HN:CV Tryz.prog ah.int encZ:=CV.int (by kernel_rfl)
theorem HO:Tryz.prog.underlying ah.AF=some (.map ah.int ah.uf):=by kernel_rfl
theorem Zp:(Tryz.prog.info? ah.uf).bind (·.zero)=some (.slice none 0 0):=by kernel_rfl
theorem KR {P:Program} {T:TypeId} {z:Value} (h:(P.info? T).bind (·.zero)=some z):∃i,P.info? T=some i∧i.zero=some z:=by
 cases hi:P.info? T with
 |none=>rw[hi] at h;cases h
 |some i=>rw[hi] at h;exact ⟨i,rfl,h⟩
def nr (D:eG) (q:Nat):Prop:=q=D.d∨q=D.ik∨q=D.j5∨∃x∈D.waits,aQ x.s q
structure kl (w:World) (D:eG):Prop where
 v:Var w D.d D.c ah.Ox
 l:cr w D.ik (cL bo D.gp).toArray ah.oM
 m:kB w D.j5 encZ (D.waits.map pN.e)
 ws:∀x∈D.waits,b3 256 ah.oM w x.s (cL bo x.rH)
 wn:∀x∈D.waits,x.rH≠ []∧x.i<D.n∧x.rH.length≤D.cX
 CW:∀s∈D.gp,s.length=256
 HP:∀x∈D.waits,∀s∈x.rH,s.length=256
 dt:16≤D.n
 db:D.n≤1600
 f4:D.hG.length=4
 fr:∀x∈D.hG, -1≤x∧x≤9223372036854775807
 bc:D.d≠D.ik∧D.d≠D.j5∧D.ik≠D.j5
 cW:∀x∈D.waits,¬aQ x.s D.d∧¬aQ x.s D.ik∧¬aQ x.s D.j5
 a3:∀x∈D.waits,∀y∈D.waits,x.i≠y.i→∀q,aQ x.s q→¬aQ y.s q
section
variable {w w':World} {D:eG}
theorem kl.an {W:Nat→Prop} (h:kl w D) (al:ao W w w') (aC:∀q,nr D q→¬W q):kl w' D:=
 ⟨h.v.an al (aC _ (.inl rfl)),cr.an h.l al (aC _ (.inr (.inl rfl))),h.m.an al (aC _ (.inr (.inr (.inl rfl)))),fun x af=>(h.ws x af).an al fun q J=>aC q (.inr (.inr (.inr ⟨x,af,J⟩))),h.wn,h.CW,h.HP,h.dt,h.db,h.f4,h.fr,h.bc,h.cW,h.a3⟩
theorem kl.ext (h:kl w D) (al:Ext w w'):kl w' D:=h.an al fun _ _ h=>h
theorem kl.lt (h:kl w D) {q:Nat} (J:nr D q):q<w.heap.size:=by
 rcases J with rfl|rfl|rfl|⟨x,af,J⟩
 · exact h.v.lt
 · exact cr.lt h.l
 · exact h.m.lt
 · exact (h.ws x af).lt q J
theorem kl.akt (h:kl w D) {k:Nat} (ae:k<4):w.cell? ⟨D.d,k,none⟩=some (.int .i64 (D.hG.getD k 0)):=by
 rw[h.v.cell]
 unfold eG.c
 have:=h.f4
 rw[List.getElem?_append_left (by rw[mj];omega),JL,gH (by omega),ot (by omega)]
 rfl
theorem kl.gk (h:kl w D):w.cell? (Addr.add ⟨D.d,0,none⟩ 4)=some (.slice (some ⟨D.ik,0,none⟩) D.gp.length D.gp.length):=by
 rw[aX,h.v.cell]
 unfold eG.c
 have:=h.f4
 rw[wx (by rw[mj];omega),mj,this];rfl
theorem kl.dL (h:kl w D):w.cell? (Addr.add ⟨D.d,0,none⟩ 5)=some (.map (some D.j5)):=by
 rw[aX,h.v.cell]
 unfold eG.c
 have:=h.f4
 rw[wx (by rw[mj];omega),mj,this];rfl
theorem kl.SJ (h:kl w D):D.c.length=7:=by
 unfold eG.c
 have:=h.f4
 simp;omega
def eG.now (D:eG) (i:Nat):lF:=match D.waits.find? fun x=>x.i==i with
 |some x=>x.rH.getLastD []
 |none=>D.gp.getD i []
theorem aku {α:Type} {l:List α} {d:α} (h:l≠ []):l.getLastD d∈l:=by
 cases l with
 |nil=>exact absurd rfl h
 |cons a l=>
   rw[List.getLastD_cons]
   rw[←List.getLast_eq_getLastD]
   exact List.getLast_mem h
theorem kl.Oy (h:kl w D) {i:Nat} (hi:i<D.n):(D.now i).length=256:=by
 unfold eG.now
 cases aG:D.waits.find? fun x=>x.i==i with
 |some x=>
   have af:=EM aG
   exact h.HP x af _ (aku (h.wn x af).1)
 |none=>
   have fo:i<D.gp.length:=hi
   rw[show (match (none:Option pN) with|some x=>x.rH.getLastD []|none=>D.gp.getD i [])=D.gp.getD i [] from rfl,ot fo]
   exact h.CW _ (fh _)
theorem Zq (h:kl w D):aO Tryz.prog F.AG #[.pointer (some ⟨D.d,0,none⟩)] w (fun v w'=>v= .int .i64 (D.n:Nat)∧w=w'):=by
 refine W.akv (some ⟨D.d,0,none⟩) w _ ?_
 (delta W.AG aA aq;dsimp only)
 exact ⟨fun h=>(by cases h),fun _=>⟨_,rfl,⟨some ⟨D.ik,0,none⟩,D.gp.length,D.gp.length⟩,h.gk,rfl,rfl⟩⟩
theorem Zr (h:kl w D) (i:Int):aO Tryz.prog F.AH #[.pointer (some ⟨D.d,0,none⟩), .int .i64 i] w (fun v w'=>v= .bool (decide (0≤i∧i<D.n))∧w=w'):=by
 refine W.akw (some ⟨D.d,0,none⟩) i w _ ?_
 (delta W.AH aA aq;dsimp only)
 refine eN (fun b w'=>b=decide (0≤i∧i<D.n)∧w=w') (fun q J=>⟨fun ab=>⟨_,rfl,⟨some ⟨D.ik,0,none⟩,D.gp.length,D.gp.length⟩,h.gk,J _ _ ⟨?_,rfl⟩⟩,fun ab=>J _ _ ⟨?_,rfl⟩⟩) ?_
 · have ab:0≤i:=by simpa using ab
   rw[oX,fx,fx]
   exact ⟨fun h=>⟨ab,h⟩,fun h=>h.2⟩
 · have ab:¬0≤i:=by simpa using ab
   rw[sS (fun h=>ab h.1)]
 · rintro _ _ ⟨rfl,rfl⟩
   exact ⟨rfl,rfl⟩
end
def oN (f:Int):Bool×Int:=if f= -1 then (false, -1) else if f=0 then (true, -1) else (false,f-1)
theorem akx {f:Int} (h: -1≤f∧f≤9223372036854775807): -1≤(oN f).2∧(oN f).2≤9223372036854775807:=by
 unfold oN
 split
 · exact ⟨by decide,by decide⟩
 · split
   · exact ⟨by decide,by decide⟩
   · show -1≤f-1∧f-1≤_;omega
def eG.jF (D:eG) (k:Nat):eG:={D with hG:=D.hG.set k (oN (D.hG.getD k 0)).2}
def eG.s9 (D:eG) (k:Nat):Bool:=(oN (D.hG.getD k 0)).1
theorem Zs {w:World} {D:eG} (h:kl w D) {k:Nat} (ae:k<4):
   aO Tryz.prog F.AI #[.pointer (some ⟨D.d,0,none⟩), .int .i64 ((k:Nat):Int)] w (fun v w'=>v= .bool (D.s9 k)∧kl w' (D.jF k)∧ao (fun q=>q=D.d) w w'∧w'.heap.size=w.heap.size):=by
 have aG:=h.akt ae
 have aH:=h.f4
 have aN: -1≤D.hG.getD k 0∧D.hG.getD k 0≤9223372036854775807:=by rw[ot (by omega)];exact h.fr _ (fh _)
 have yH:∀ (ag:World),kl ag D→kl (ag.setCell ⟨D.d,k,none⟩ (.int .i64 (oN (D.hG.getD k 0)).2)) (D.jF k):=by
   intro ag U
   have al:=il ag D.d k (.int .i64 (oN (D.hG.getD k 0)).2)
   have ak:=jj U.v (i:=k) (.int .i64 (oN (D.hG.getD k 0)).2)
   have e:D.c.set k (.int .i64 (oN (D.hG.getD k 0)).2)=(D.jF k).c:=by
     unfold eG.c eG.jF
     rw[List.set_append_left _ _ (by rw[mj];omega),←List.map_set]
   rw[e] at ak
   refine ⟨ak,cr.an U.l al (fun e=>h.bc.1 e.symm),U.m.an al (fun e=>h.bc.2.1 e.symm),fun x af=>(U.ws x af).an al fun q J e=>(h.cW x af).1 (by subst e;exact J),h.wn,h.CW,h.HP,h.dt,h.db,by show (D.hG.set k _).length=4;rw[jv];exact aH,fun x af=> ?_,h.bc,h.cW,h.a3⟩
   rcases EU af with af|rfl
   · exact h.fr x af
   · exact akx aN
 have aU:Addr.add ⟨D.d,0,none⟩ (Int.toNat ((k:Nat):Int)*1)=⟨D.d,k,none⟩:=by rw[g9,mi,aX,gy]
 refine W.aky (some ⟨D.d,0,none⟩) ((k:Nat):Int) w _ ?_
 (delta W.AI bK aA st aD;dsimp only)
 refine ⟨_,rfl,⟨by omega,by show (k:Int)<4;omega⟩,D.hG.getD k 0,by rw[aU];exact aG,fun U=> ?_,fun U=>⟨fun ad=>⟨_,rfl,⟨by omega,by show (k:Int)<4;omega⟩,?_⟩,fun ad=>bN ⟨_,rfl,⟨by omega,by show (k:Int)<4;omega⟩,id,_,by rw[aU];exact aG,_,rfl,⟨by omega,by show (k:Int)<4;omega⟩,?_⟩⟩⟩
 · have U:D.hG.getD k 0= -1:=by simpa using U
   have a_:D.s9 k=false:=by unfold eG.s9 oN;rw[if_pos U]
   have bw:D.jF k=D:=by
     unfold eG.jF oN
     rw[if_pos U]
     have:D.hG.set k (-1)=D.hG:=by
       rw[←U,ot (by omega)]
       exact List.set_getElem_self _
     rw[this]
   rw[a_,bw]
   exact ⟨rfl,h, .refl _ _,rfl⟩
 · have U:D.hG.getD k 0≠ -1:=by simpa using U
   have ad:D.hG.getD k 0=0:=by simpa using ad
   have aj:=jk h.v (i:=k) (by rw[h.SJ];omega)
   have a_:D.s9 k=true:=by unfold eG.s9 oN;rw[if_neg U,if_pos ad]
   have bw:(oN (D.hG.getD k 0)).2= -1:=by unfold oN;rw[if_neg U,if_pos ad]
   have:=yH w h
   rw[bw] at this
   rw[aU,a_]
   exact ⟨aj.1,aj.2,bN ⟨rfl,this,il _ _ _ _,by simp[World.setCell]⟩⟩
 · have U:D.hG.getD k 0≠ -1:=by simpa using U
   have ad:D.hG.getD k 0≠0:=by simpa using ad
   have hd:=h.ext (dT w)
   have aj:=jk hd.v (i:=k) (by rw[h.SJ];omega)
   have a_:D.s9 k=false:=by unfold eG.s9 oN;rw[if_neg U,if_neg ad]
   have bw:(oN (D.hG.getD k 0)).2=D.hG.getD k 0-1:=by unfold oN;rw[if_neg U,if_neg ad]
   have:=yH w.drew hd
   rw[bw] at this
   rw[aU,a_,cz (by omega) (by omega)]
   exact ⟨aj.1,aj.2,bN ⟨rfl,this,(ao.eT (dT w)).trans (il _ _ _ _),by simp[World.setCell]⟩⟩
end
end Go.Proofs.YtplieiecebljmaaGreat
