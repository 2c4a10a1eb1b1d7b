/- Contracts of the functions that the statement reaches, and the plain laws over them; each theorem stands with its conditions. -/
import Derived.Test.YtplieiecebljmaaGreatBShad1
namespace Go.Proofs.YtplieiecebljmaaGreat
open Go b8
section
def rG:aO:=⟨false,[],[],[]⟩
def cg:ab:=⟨none,0,0⟩
def SB (leaf:Bool) (l:List UInt8) (w w':World) (v:Value):Prop:=
 (∃ (n:aO) (K V D:ab),v= .tuple #[fg n K V D, .int .i64 0]∧yl leaf l n∧ck (fun q=>w.heap.size≤q) w' n K V D)∨
 (v= .tuple #[fg rG cg cg cg, .int .i64 4]∧∀n,¬yl leaf l n)
theorem rH {w':World} {h:Nat} {vs:List Value} (b:Bool) (K V D:ab) (al:Var w' h vs ah.cR) (aB:vs.length=4) {Q:Bool→ab→ab→ab→World→Prop} (yA:∀aw,ao (fun q=>q=h) w' aw→Q b K V D aw):
   cT w' ⟨h,0,none⟩ [.bool b, .slice K.a K.len K.cap, .slice V.a V.len V.cap, .slice D.a D.len D.cap]∧(4:Nat)=4∧az (setCells w' ⟨h,0,none⟩ 0 [.bool b, .slice K.a K.len K.cap, .slice V.a V.len V.cap, .slice D.a D.len D.cap]) fun aw=>
     ∃eT:Bool,aw.cell? ⟨h,0,none⟩=some (.bool eT)∧∃cO:ab,aw.cell? (Addr.add ⟨h,0,none⟩ 1)=some (.slice cO.a cO.len cO.cap)∧∃bE:ab,aw.cell? (Addr.add ⟨h,0,none⟩ 2)=some (.slice bE.a bE.len bE.cap)∧
       ∃dj:ab,aw.cell? (Addr.add ⟨h,0,none⟩ 3)=some (.slice dj.a dj.len dj.cap)∧Q eT cO bE dj aw:=by
 refine ⟨al.du (by rw[aB];rfl) ?_,rfl,eg al (us:=[.bool b, .slice K.a K.len K.cap, .slice V.a V.len V.cap, .slice D.a D.len D.cap]) (by rw[aB];rfl) rfl fun aw hD ak _=> ?_⟩
 · intro v al
   simp only[gg,ml,mm] at al
   rcases al with rfl|rfl|rfl|rfl<;>trivial
 · obtain ⟨cK,bm,bj,bk⟩:=cu hD
   exact ⟨b,cK,K,bm,V,bj,D,bk,yA aw ak⟩
theorem wG {w:World} {s:ab} {l:List UInt8} (aj:Src 1 w s (a_ l)) (ak:s.len≤s.cap) (fG:∀k,aQ s k→k<w.heap.size) (aB:l.length≤100000) (leaf:Bool):
   aP Tryz.prog F.wG #[.bool leaf, .slice s.a s.len s.cap] w (fun v w'=>SB leaf l w w' v∧Ext w w'):=by
 refine W.ajB leaf s w _ ?_
 (delta W.wG dA ai bj aF SC ar st dZ aE bR gE bk Ka;dsimp only)
 refine cx (vs:=[.bool false, .slice none 0 0, .slice none 0 0, .slice none 0 0]) rfl fun ag nM bK k_=> ?_
 refine cx (vs:=[.slice s.a s.len s.cap, .bool true]) rfl fun aw fU cD mD=> ?_
 refine cx (vs:=[.bool false, .slice none 0 0, .slice none 0 0, .slice none 0 0]) rfl fun a8 ou eX CN=> ?_
 refine ⟨ou.du rfl (by
   intro v al
   simp only[gg,ml,mm] at al
   rcases al with rfl|rfl|rfl|rfl<;>trivial),rfl,eg ou (us:=[.bool leaf, .slice none 0 0, .slice none 0 0, .slice none 0 0]) rfl rfl fun bz J6 si Kb=> ?_⟩
 obtain ⟨lo,mE⟩:∃lo,lo=bz.heap.size:=⟨_,rfl⟩
 obtain ⟨r,aY⟩:∃r,r=ag.heap.size:=⟨_,rfl⟩
 obtain ⟨bJ,k0⟩:∃bJ,bJ=aw.heap.size:=⟨_,rfl⟩
 have tS:Ext w bz:=Ext.e_ (bK.trans (cD.trans eX)) si (by omega)
 have Od:sm bz ag.heap.size s (l,true):=by
   refine ⟨(fU.ext eX).an si (by omega),(aj.ext (bK.trans (cD.trans eX))).an si fun k ae e=> ?_,ak,fun k ae=> ?_⟩
   · have:=fG k ae;omega
   · have:=fG k ae;omega
 refine (Sy Od 1 (by decide) aB).use ?_
 rintro _ bO ⟨bE,rfl,ajC,lY,yt⟩
 have j6:(rdNum (l,true) 1).1<256:=Sz _ 1
 have Oe:=lY.size
 have YT:tW lo bO r bJ bE (⟨leaf,[],[],[]⟩,(rdNum (l,true) 1).2) cg cg cg (fun _=>False) (fun _=>False) (fun _=>False):=by
   refine ⟨by rw[k0];exact J6.an lY (by omega),by rw[aY];exact ajC,bZ.none _ _,bZ.none _ _,eJ.none _ _,fun q h=>h.elim,fun q h=>h.elim,fun q h=>h.elim,fun q J=> ?_,by omega,by omega,by omega,jb (Oa _ 1) aB⟩
   have:=fG q (yt q J)
   exact ⟨by omega,by omega⟩
 have YU:ao (Ff lo r bJ) bz bO:=lY.mono fun k _ ae=> .inl (by omega)
 rw[←aY,←k0]
 refine ⟨_,rfl,yB (fun w'=>∃ (au D:ab) (ct:Nat→Prop),tW lo w' r bJ au (Ah leaf (rdNum (l,true) 1).2) cg cg D (fun _=>False) (fun _=>False) ct∧ao (Ff lo r bJ) bz w'∧lo≤w'.heap.size) (fun q J=>⟨fun dt=> ?_,fun dt=>J _ ⟨bE,cg,fun _=>False,?_,YU,by omega⟩⟩) ?_⟩
 · have dt:leaf=false:=by simpa using dt
   subst dt
   refine YS YT (by omega) (by simp) fun w' aH au SA U ad aq=>J _ ⟨au,aH,SA,?_,YU.trans ad,aq⟩
   have:Ah false (rdNum (l,true) 1).2=(⟨false,[],[],[]++ [(rdNum (rdNum (l,true) 1).2 2).1]⟩,(rdNum (rdNum (l,true) 1).2 2).2):=by simp[Ah]
   rw[this];exact U
 · have dt:leaf=true:=by simpa using dt
   subst dt
   exact YT
 rintro bg ⟨dj,ajD,ajE,YV,qT,ajF⟩
 obtain ⟨pU,Fh⟩:∃pU,pU=Ah leaf (rdNum (l,true) 1).2:=⟨_,rfl⟩
 rw[←Fh] at YV
 have ajG:pU.1.leaf=leaf:=by rw[Fh];unfold Ah;cases leaf<;>rfl
 have avy:pU.1.keys.length=0∧pU.1.vals.length≤1∧pU.1.kids.length≤1:=by rw[Fh];unfold Ah;cases leaf<;>simp
 refine ⟨fun i w'=>∃ (j:Nat) (au K V D:ab) (cE cY ct:Nat→Prop),i=j∧j≤(rdNum (l,true) 1).1∧tW lo w' r bJ au (qj pU j) K V D cE cY ct∧ao (Ff lo r bJ) bz w'∧lo≤w'.heap.size,fun i _=>(((rdNum (l,true) 1).1:Int)-i).toNat,⟨0,dj,cg,cg,ajD,_,_,ajE,rfl,fi _,YV,qT,ajF⟩,?_⟩
 rintro _ aS ⟨j,jg,K,V,D,cE,cY,ct,rfl,aZ,wH,qV,ajH⟩
 obtain ⟨pM,oW,tT⟩:=YR pU j
 have Hs:=YQ pU j ajG
 refine ⟨fun a6=> ?_,fun cm=> ?_⟩
 · have a6:j<(rdNum (l,true) 1).1:=by have:=dL a6;omega
   rw[cL (n:=(j:Int)+1) (by omega) (by omega)]
   refine yB (fun w'=>∃ (au K V D:ab) (cE cY ct:Nat→Prop),tW lo w' r bJ au (qj pU (j+1)) K V D cE cY ct∧ao (Ff lo r bJ) bz w'∧lo≤w'.heap.size) (fun q J=> ?_) ?_
   · refine ajz wH ajH (by omega) fun cd Of fw Og Oh yC Oi=>⟨fun dt=> ?_,fun dt=> ?_⟩
     · refine ajA Oh Oi (by show (qj pU j).1.vals.length≤_;omega) fun bY ajI dn ajJ Kc hZ Ke=>J _ ⟨dn,Of,ajI,D,Og,ajJ,ct,?_,qV.trans (yC.trans hZ),Ke⟩
       rw[qj]
       unfold E7
       rw[Hs,dt,if_pos rfl]
       rw[Hs,dt] at Kc
       exact Kc
     · refine YS Oh Oi (by show (qj pU j).1.kids.length≤_;omega) fun bY ajK dn ajL Kc hZ Ke=>J _ ⟨dn,Of,V,ajK,Og,cY,ajL,?_,qV.trans (yC.trans hZ),Ke⟩
       rw[qj]
       unfold E7
       rw[Hs,dt,if_neg (by simp)]
       rw[Hs,dt] at Kc
       exact Kc
   · rintro cd ⟨fw,Of,ajM,ajN,Og,ajO,ajP,Oh,yC,Oi⟩
     refine ⟨⟨j+1,fw,Of,ajM,ajN,Og,ajO,ajP,by omega,by omega,Oh,yC,Oi⟩,?_⟩
     show (((rdNum (l,true) 1).1:Int)-((j:Int)+1)).toNat<(((rdNum (l,true) 1).1:Int)-(j:Int)).toNat
     omega
 · have cm:j=(rdNum (l,true) 1).1:=by have:=fb cm;omega
   have u4:qj pU j=qP leaf l:=by rw[cm,Fh];rfl
   rw[u4] at wH pM oW tT Hs
   obtain ⟨cK,bm,bj,bk⟩:=cu wH.v
   have jH:ck (fun q=>lo≤q) aS (qP leaf l).1 K V D:=⟨bU.bA (bZ.oq wH.keys) fun q _ J=>(wH.bW q J).1,bU.bA (bZ.oq wH.vals) fun q _ J=>(wH.bv q J).1,dG.bA (eJ.u7 wH.kids) fun q _ J=>(wH.bc q J).1⟩
   have sh:Ext w aS:=Ext.gv tS qV fun k ae=>by
     rcases ae with ae|ae|ae<;>omega
   refine ⟨_,cK,K,bm,V,bj,D,bk,(vd jH (by omega) (by omega) (by omega)).use ?_⟩
   rintro SD cd ⟨gw,gP⟩
   have CJ:=sh.trans gP
   have SE:=wH.v.ext gP
   have ajQ:=wH.rd.ext gP
   have CS:Var cd w.heap.size [.bool false, .slice none 0 0, .slice none 0 0, .slice none 0 0] ah.cR:=by
     refine (Var.an (w:=bz) ?_ qV ?_).ext gP
     · exact (((nM.ext cD).ext eX).an si (by omega))
     · rintro (ae|ae|ae)<;>omega
   have ajR:=jH.ext gP
   obtain ⟨d0,d1,d2,d3⟩:=cu SE
   have wI:∃ (CT:ab) (e:Int),SD=Value.tuple #[.slice CT.a CT.len CT.cap, .int .i64 e]∧(e=0→bX 1 ah.uint8 cd CT (a_ (sg (qP leaf l).1))∧ei (qP leaf l).1∧cr (qP leaf l).1≤232)∧(e≠0→ei (qP leaf l).1→232<cr (qP leaf l).1):=by
     rcases gw with ⟨CT,rfl,U,ad,aq,aK⟩|⟨e,rfl,U,ad⟩
     · exact ⟨CT,0,rfl,fun _=>⟨U,aq,aK⟩,fun h=>absurd rfl h⟩
     · exact ⟨cg,e,rfl,fun h=>absurd h U,fun _=>ad⟩
   obtain ⟨CT,e,rfl,ajS,YW⟩:=wI
   have ajT:Src 1 cd s (a_ l):=aj.ext CJ
   have YX:∀n,yl leaf l n→qP leaf l=(n,([],true)):=by
     rintro n ⟨U,ad,aq,aK⟩
     have:=Sd U aq
     rw[ad,aK] at this
     exact this
   refine ⟨CT,e,rfl,_,rfl,(qP leaf l).2.2,by rw[aX];exact ajQ.v.cell,ff (fun b w'=>cd=w'∧(b=true→∀n,¬yl leaf l n)∧(b=false→yl leaf l (qP leaf l).1)) (fun q J=>⟨fun U=>J _ _ ⟨rfl,fun _ n aD=> ?_,fun h=>(by cases h)⟩,fun U=> ?_⟩) ?_⟩
   · have hu:=YX n aD
     obtain ⟨ad,aq,aK,aW⟩:=aD
     rw[hu] at U YW
     have U:(e !=0)=true:=by simpa using U
     have rI:232<cr n:=YW (by simpa using U) ad
     omega
   · have Oj:(qP leaf l).2.2=true∧e=0:=by
       simp only[Ny,Bool.not_eq_false',bne_eq_false_iff_eq] at U
       exact U
     obtain ⟨ad,rfl⟩:=Oj
     obtain ⟨aq,aK,aW⟩:=ajS rfl
     refine (yx aq.src ajT).use ?_
     rintro _ _ ⟨rfl,rfl⟩
     refine ⟨_,rfl,J _ _ ⟨rfl,fun b7 n aD=> ?_,fun b7=> ?_⟩⟩
     · have hu:=YX n aD
       have b7:¬sg (qP leaf l).1=l:=by simpa using b7
       rw[hu] at b7
       exact b7 aD.2.2.2
     · have b7:sg (qP leaf l).1=l:=by simpa using b7
       exact ⟨aK,Hs,aW,b7⟩
   rintro b w' ⟨rfl,aC,aG⟩
   refine ⟨fun aa=> ?_,fun aa=>⟨_,d0,K,d1,V,d2,D,d3,?_⟩⟩
   · refine rH false cg cg cg CS rfl (Q:=fun b K V D aw=>(fun v w'=>SB leaf l w w' v∧Ext w w') (.tuple #[.agg #[.bool b, .slice K.a K.len K.cap, .slice V.a V.len V.cap, .slice D.a D.len D.cap], .int .i64 4]) aw) fun bY hZ=>⟨.inr ⟨rfl,aC aa⟩,Ext.e_ CJ hZ (cP _)⟩
   · refine rH (qP leaf l).1.leaf K V D CS rfl (Q:=fun b K V D aw=>(fun v w'=>SB leaf l w w' v∧Ext w w') (.tuple #[.agg #[.bool b, .slice K.a K.len K.cap, .slice V.a V.len V.cap, .slice D.a D.len D.cap], .int .i64 0]) aw) fun bY hZ=>⟨.inl ⟨(qP leaf l).1,K,V,D,rfl,aG aa,?_⟩,Ext.e_ CJ hZ (cP _)⟩
     exact (ajR.an hZ fun k ae e=>by omega).bA fun k _ ae=>by omega
end
section
theorem ajU {s v:ab} {vs xs:List Value} {i Aw:Nat} {CU:Array Value} {YY:TypeId} {w:World} (bG:bX 1 ah.cc w s vs) (al:Src 1 w v xs) (jG:v.len=1) (YZ:v.a=some ⟨Aw,0,none⟩) (Kf:cj w Aw CU YY) (dN:¬aQ s Aw)
   (yr:∀u∈xs,Plain u) (SF:∀u∈vs,Plain u) (hi:i≤s.len) (aD:s.len≤1000000):
   aP Tryz.prog F.yD #[.slice s.a s.len s.cap, .int .i64 (i:Int), .slice v.a v.len v.cap] w (fun u w'=>∃au:ab,u= .slice au.a au.len au.cap∧bX 1 ah.cc w' au (vs.take (i*1)++xs++vs.drop (i*1))∧au.len=s.len+1∧ao (aQ s) w w'∧(∀k,aQ au k→aQ s k∨w.heap.size≤k)):=by
 obtain ⟨U,i0,z0,ad,aq,aK,aW,b7,hV,ot⟩:=(Hp).out
 obtain ⟨d0,pK⟩:=tY _ aq
 refine W.ajV s i v w _ ?_
 (delta W.yD aF aE bm;dsimp only)
 have ajW:=bG.2.1
 have CV:=bG.2.2.1
 have ajX:maxLen=9223372036854775807:=rfl
 have tZ:xs.length=1:=by have:=al.len;rw[jG] at this;omega
 have Ht:=bG.1
 refine ⟨⟨by omega,by omega⟩,fun h=>by rw[jG] at h;simp at h,fun _=>⟨fun h=> ?_,fun h=> ?_⟩⟩
 · have gW:i=s.len:=by have:=eq_of_beq h;omega
   subst gW
   obtain ⟨au,w',aC,aG,aJ,aN,cX⟩:=(Hp).append (ew:=ah.cJ) al bG yr (by rw[jG];omega)
   refine ⟨au,w',aC,au,rfl,?_,by rw[aJ,jG],aN,cX⟩
   rwa[hU (by omega),List.drop_of_length_le (by omega),lP]
 have a6:i<s.len:=by
   have h:¬((i:Int)=(s.len:Int)):=fun e=>by rw[e] at h;simp at h
   omega
 rcases bG.2.2.2 with ⟨_,ak⟩|⟨b,c,aa,jf,fq,ku⟩
 · omega
 have CW:b≠Aw:=fun e=>dN ⟨_,aa,e⟩
 have ba:IntKind.wrap .i64 (((s.len:Nat):Int)+((v.len:Nat):Int))=((s.len+1:Nat):Int):=by rw[jG,cL (by omega) (by omega)];rfl
 have bp:IntKind.wrap .i64 ((i:Int)+((v.len:Nat):Int))=((i+1:Nat):Int):=by rw[jG,cL (by omega) (by omega)];rfl
 have dM:IntKind.wrap .i64 (((s.len+1:Nat):Int)-(i:Int))=((s.len+1-i:Nat):Int):=by rw[cL (by omega) (by omega)];omega
 have qg:c.toList.length=s.cap*1:=by simpa using fq
 have l1:∀k,k≤s.len→vs.take (k*1)=c.toList.take (k*1):=fun k ae=>by rw[←ku,JK,r7 (by omega)]
 have so:vs.drop (i*1)=(c.toList.drop (i*1)).take ((s.len-i)*1):=by rw[←ku,List.drop_take,show s.len*1-i*1=(s.len-i)*1 by omega]
 have Ol:∀u∈vs.drop (i*1),Plain u:=fun u hu=>SF u (kp hu)
 have ld:(vs.drop (i*1)).length=(s.len-i)*1:=by rw[fF,Ht];omega
 have Kg:∀ (Om o l m:Nat),l<m→bh (some (Addr.mk Om o none)) 1 l m=some ⟨Om,o+l*1,none⟩:=fun Om o l m avz=>N2 (by omega)
 simp only[ba,bp,dM,g_,G0,Y0]
 refine ⟨fun bl=> ?_,fun bl=> ?_⟩
 · have ql:s.cap<s.len+1:=by have:=dL bl;omega
   have mF:Src 1 w ⟨some ⟨b,0,none⟩,i,s.cap⟩ (vs.take (i*1)):=by
     have:=jf.CX (sz:=1) (o:=0) (n:=i) (cap:=s.cap) (by omega)
     rw[z8] at this
     rwa[l1 i (by omega)]
   obtain ⟨jQ,zs,rest,aC,aG,aJ,aN,cX⟩:=ajY (P:=Tryz.prog) (np:= #[ah.cJ,ah.int]) (ew:=ah.cJ) (ve:=ah.int) (k:= .i64) (s:=⟨some ⟨b,0,none⟩,i,s.cap⟩) (n:=s.len+1-i) rfl rfl U (by kernel_rfl) ad aq aK aW b7 (by rw[hV];exact ot) mF (by show s.cap<i+_;omega) (by rw[hV];show (2*(i+_)+1000)*_≤_;omega)
   have ajZ:i+(s.len+1-i)=s.len+1:=by omega
   simp only[ajZ] at aC aN cX
   obtain ⟨C,nR⟩:∃C,C=(vs.take (i*1)++zs++rest).toArray:=⟨_,rfl⟩
   rw[←nR] at cX
   obtain ⟨bz,Hm⟩:∃bz,bz=w.drew.alloc (.cells C ah.cc):=⟨_,rfl⟩
   rw[←Hm] at cX
   have Y1:cj bz w.heap.size C ah.cc:=by rw[Hm];exact cj.new w.drew _ _
   have fz:Ext w bz:=by rw[Hm];exact ao.alloc (ao.drew (.refl _ _)) _
   have nO:(vs.take (i*1)).length=i*1:=by rw[ee,Ht];omega
   have Y2:C.size=jQ*1:=by rw[nR];simp[nO,aJ,aN];omega
   have avA:C.toList.length=jQ*1:=by simpa using Y2
   have Kh:=On (P:=Tryz.prog) (Ag:=ah.cJ) (eu:=ah.cJ) (ty:=ah.int) (A:=⟨w.heap.size,0+i*1,none⟩) (dl:=s.len+1-i) (E4:=jQ-i) (n:=1) U pK b7 (x:=v) (by rw[jG];exact r7 (by omega)) (xs:=xs) (by have:=al.ext fz;have e:(⟨v.a,1,v.cap⟩:ab)=v:=(by rw[←jG]);rw[e];exact this) (by rw[gJ];exact Y1.du _ _ (by omega) yr)
   obtain ⟨bg,yE⟩:∃bg,bg=setCells bz ⟨w.heap.size,0+i*1,none⟩ 0 xs:=⟨_,rfl⟩
   rw[←yE] at Kh
   have jh:cj bg w.heap.size (nK C (i*1) xs) ah.cc:=by rw[yE,gJ];exact Y1.Ak xs
   have kt:Ext w bg:=by rw[yE];exact Ext.gv fz (ao.yk (.refl _ _) xs 0) (fun k ae=>by subst ae;exact cP _)
   have aj0:Ext bg bg.drew:=ao.drew (.refl _ _)
   have eW:=Ext.trans kt aj0
   have SG:=On (P:=Tryz.prog) (w:=bg.drew) (Ag:=ah.cJ) (eu:=ah.cJ) (ty:=ah.int) (A:=⟨w.heap.size,0+(i+1)*1,none⟩) (dl:=s.len+1-(i+1)) (E4:=jQ-(i+1)) (n:=s.len-i) U pK b7 (x:=⟨some ⟨b,0+i*1,none⟩,s.len-i,s.cap-i⟩) (r7 (by show s.len-i≤_;omega)) (xs:=vs.drop (i*1))
     (by have:=(jf.ext eW).CX (sz:=1) (o:=i*1) (n:=s.len-i) (cap:=s.cap-i) (by omega);rw[so,gJ];exact this) (by rw[gJ];exact cj.du (cj.drew jh) _ _ (by rw[rB];omega) Ol)
   have Oo:bh (some (Addr.mk w.heap.size 0 none)) 1 i jQ=some ⟨w.heap.size,0+i*1,none⟩:=Kg _ _ _ _ (by omega)
   have Oq:bh (some (Addr.mk w.heap.size 0 none)) 1 (i+1) jQ=some ⟨w.heap.size,0+(i+1)*1,none⟩:=Kg _ _ _ _ (by omega)
   have aj1:bh s.a 1 i s.cap=some ⟨b,0+i*1,none⟩:=by rw[aa];exact Kg _ _ _ _ (by omega)
   have Ot:Sem.run Tryz.prog (Builtin.append_ #[ah.cJ,ah.int] ah.cJ #[.slice s.a i s.cap, .int .i64 ((s.len+1-i:Nat):Int)]) w= .ok (.slice (some ⟨w.heap.size,0,none⟩) (s.len+1) jQ) bz:=by rw[aa];exact cX
   refine ⟨⟨by omega,by omega⟩,⟨some ⟨w.heap.size,0,none⟩,s.len+1,jQ⟩,bz,Ot,⟨by omega,by show (i:Int)≤((s.len+1:Nat):Int);omega⟩,_,bg,by rw[Oo];exact Kh,bN ⟨⟨by omega,by show ((i+1:Nat):Int)≤((s.len+1:Nat):Int);omega⟩,⟨by omega,by omega⟩,_,_,by rw[Oq,aj1];exact SG,⟨some ⟨w.heap.size,0,none⟩,s.len+1,jQ⟩,rfl,?_,rfl,?_,?_⟩⟩
   · refine bX.mk' ((cj.drew jh).Ak (o:=0+(i+1)*1) _) (by simp[nO,tZ,ld];omega) (by omega) (by omega) (by rw[rB,rB,Y2]) ?_
     rw[yo _ _ _ (by rw[rB];omega),yo _ _ _ (by omega)]
     have t1:C.toList.take (i*1)=vs.take (i*1):=by rw[nR,JN,eF];exact List.take_left' nO
     have t2:(C.toList.take (i*1)++xs++C.toList.drop (i*1+xs.length)).take (0+(i+1)*1)=vs.take (i*1)++xs:=by
       rw[t1,ET (by simp[nO,tZ];omega),hU (by simp[nO,tZ];omega)]
     rw[t2,ET (by simp[nO,tZ,ld];omega),hU (by simp[nO,tZ,ld];omega)]
   · exact ao.eN (Ext.gv eW (ao.yk (.refl _ _) _ 0) (fun k ae=>by subst ae;exact cP _))
   · rintro k ⟨A,ay,ae⟩
     cases ay
     exact .inr (Nat.le_of_eq ae)
 · have hle:s.len+1≤s.cap:=by have:=fb bl;omega
   have Oo:bh s.a 1 (i+1) s.cap=some ⟨b,0+(i+1)*1,none⟩:=by rw[aa];exact Kg _ _ _ _ (by omega)
   have Oq:bh s.a 1 i s.cap=some ⟨b,0+i*1,none⟩:=by rw[aa];exact Kg _ _ _ _ (by omega)
   have As:Sem.run Tryz.prog (callFunc F.Y3 #[.slice v.a v.len v.cap, .slice (some ⟨b,0+(i+1)*1,none⟩) (s.len+1-(i+1)) (s.cap-(i+1))]) w= .ok (.value (.bool false)) w:=by
     rw[YZ,run_callFunc_extern (e:=Extern.SlicesOverlaps.overlaps #[ah.cJ,ah.cJ] #[ah.bool]) Tryz.func160 (by kernel_rfl) (by kernel_rfl) (by kernel_rfl) (by kernel_rfl)]
     have:=Lib.run_overlaps_apart (P:=Tryz.prog) w ah.cJ ah.bool ah.cc U 1 (fun w=>by have:=qO (w:=w) pK;rwa[b7] at this) ⟨Aw,0,none⟩ ⟨b,0+(i+1)*1,none⟩ v.len v.cap (s.len+1-(i+1)) (s.cap-(i+1)) (fun e=>CW e.symm) YY ah.cc CU.size c.size
       (by have:=Kf;unfold cj at this;simp[World.shape?,this]) (by have:=jf;unfold cj at this;simp[World.shape?,this]) (by omega) (Kf.frozen _ rfl) (Kf.frozen _ rfl)
     rw[this];rfl
   have Kh:=On (P:=Tryz.prog) (w:=w.drew) (Ag:=ah.cJ) (eu:=ah.cJ) (ty:=ah.int) (A:=⟨b,0+(i+1)*1,none⟩) (dl:=s.len+1-(i+1)) (E4:=s.cap-(i+1)) (n:=s.len-i) U pK b7 (x:=⟨some ⟨b,0+i*1,none⟩,s.len+1-i,s.cap-i⟩) ((Nat.min_eq_right (by show _≤s.len+1-i;omega)).trans (by omega)) (xs:=vs.drop (i*1))
     (by have:=(cj.drew jf).CX (sz:=1) (o:=i*1) (n:=s.len-i) (cap:=s.cap-i) (by omega);rw[so,gJ];exact this) (by rw[gJ];exact cj.du (cj.drew jf) _ _ (by omega) Ol)
   obtain ⟨a8,nm⟩:∃a8,a8=setCells w.drew ⟨b,0+(i+1)*1,none⟩ 0 (vs.drop (i*1)):=⟨_,rfl⟩
   rw[←nm] at Kh
   have Ki:cj a8 b (nK c ((i+1)*1) (vs.drop (i*1))) ah.cc:=by rw[nm,gJ];exact (cj.drew jf).Ak _
   have kv:ao (aQ s) w a8:=by
     rw[nm]
     exact ao.mono (W:=fun q=>q=b) (ao.yk (ao.drew (.refl _ _)) _ 0) (fun k _ ae=>⟨_,aa,ae.symm⟩)
   have mG:Src 1 a8 v xs:=al.an kv (fun k ae dW=>by obtain ⟨A,ay,rfl⟩:=ae;rw[YZ] at ay;cases ay;exact dN dW)
   have SG:=On (P:=Tryz.prog) (w:=a8) (Ag:=ah.cJ) (eu:=ah.cJ) (ty:=ah.int) (A:=⟨b,0+i*1,none⟩) (dl:=s.len+1-i) (E4:=s.cap-i) (n:=1) U pK b7 (x:=v) (by rw[jG];exact r7 (by omega)) (xs:=xs) (by have e:(⟨v.a,1,v.cap⟩:ab)=v:=(by rw[←jG]);rw[e];exact mG) (by rw[gJ];exact Ki.du _ _ (by rw[rB];omega) yr)
   refine ⟨⟨by omega,by omega⟩,⟨by omega,by omega⟩,false,w,by rw[Oo];exact As,fun _=>bN ⟨⟨by omega,by omega⟩,⟨by omega,by omega⟩,_,a8,by rw[Oo,Oq];exact Kh,⟨by omega,by omega⟩,_,_,by rw[Oq];exact SG,⟨s.a,s.len+1,s.cap⟩,rfl,?_,rfl,?_,fun k ae=> .inl ae⟩,fun h=>by simp at h⟩
   · have wJ:bX 1 ah.cc (setCells a8 ⟨b,0+i*1,none⟩ 0 xs) ⟨some ⟨b,0,none⟩,s.len+1,s.cap⟩ (vs.take (i*1)++xs++vs.drop (i*1)):=by
       have nO:(vs.take (i*1)).length=i*1:=by rw[ee,Ht];omega
       refine bX.mk' (Ki.Ak (o:=0+i*1) _) (by simp[nO,tZ,ld];omega) (by omega) (by omega) (by rw[rB,rB,fq]) ?_
       rw[yo _ _ _ (by rw[rB];omega),yo _ _ _ (by omega)]
       have t1:(c.toList.take ((i+1)*1)++vs.drop (i*1)++c.toList.drop ((i+1)*1+(vs.drop (i*1)).length)).take (0+i*1)=vs.take (i*1):=by
         rw[gJ,ET (by simp[ld];omega),ET (by simp;omega),JK,l1 i (by omega),r7 (by omega)]
       have t2:(c.toList.take ((i+1)*1)++vs.drop (i*1)++c.toList.drop ((i+1)*1+(vs.drop (i*1)).length)).drop (0+i*1+xs.length)=vs.drop (i*1)++c.toList.drop ((i+1)*1+(vs.drop (i*1)).length):=by
         have aB:(c.toList.take ((i+1)*1)).length=0+i*1+xs.length:=by simp;omega
         rw[eF,←aB,List.drop_left]
       rw[t1,t2,←eF,ET (by simp[nO,tZ,ld];omega),hU (by simp[nO,tZ,ld];omega)]
     rw[←aa] at wJ
     exact wJ
   · exact kv.trans (ao.mono (W:=fun q=>q=b) (ao.yk (.refl _ _) _ 0) (fun k _ ae=>⟨_,aa,ae.symm⟩))
theorem aj2 {s:ab} {vs:List Value} {i:Nat} {w:World} (bG:bX 1 ah.cc w s vs) (SF:∀u∈vs,Plain u) (aj3:∀z,(Tryz.prog.info? ah.cc).bind (·.zero)=some z→∀u∈z.cells.toList,Plain u) (hi:i<s.len) (aD:s.len≤1000000):
   aP Tryz.prog F.yF #[.slice s.a s.len s.cap, .int .i64 (i:Int), .int .i64 ((i+1:Nat):Int)] w (fun u w'=>∃au:ab,u= .slice au.a au.len au.cap∧bX 1 ah.cc w' au (vs.take (i*1)++vs.drop ((i+1)*1))∧au.len=s.len-1∧au.a=s.a∧ao (aQ s) w w'):=by
 obtain ⟨U,i0,z0,ad,aq,aK,aW,b7,hV,ot⟩:=(Hp).out
 obtain ⟨d0,pK⟩:=tY _ aq
 refine W.aj4 s i ((i+1:Nat):Int) w _ ?_
 (delta W.yF aF iC;dsimp only)
 have ajW:=bG.2.1
 have CV:=bG.2.2.1
 have Ht:=bG.1
 rcases bG.2.2.2 with ⟨_,ak⟩|⟨b,c,aa,jf,fq,ku⟩
 · omega
 have qg:c.toList.length=s.cap*1:=by simpa using fq
 simp only[g_,G0,Y0]
 have so:vs.drop ((i+1)*1)=(c.toList.drop ((i+1)*1)).take ((s.len-(i+1))*1):=by rw[←ku,List.drop_take,show s.len*1-(i+1)*1=(s.len-(i+1))*1 by omega]
 have ld:(vs.drop ((i+1)*1)).length=(s.len-(i+1))*1:=by rw[fF,Ht];omega
 have l1:vs.take (i*1)=c.toList.take (i*1):=by rw[←ku,JK,r7 (by omega)]
 have nO:(vs.take (i*1)).length=i*1:=by rw[ee,Ht];omega
 have Ol:∀u∈vs.drop ((i+1)*1),Plain u:=fun u hu=>SF u (kp hu)
 have SH:cj w.drew b c ah.cc:=cj.drew jf
 have mF:Src 1 w.drew ⟨bh s.a 1 (i+1) s.cap,s.len-(i+1),s.cap-(i+1)⟩ (vs.drop ((i+1)*1)):=by
   by_cases he:i+1=s.cap
   · have gX:s.len-(i+1)=0:=by omega
     refine ⟨by rw[ld],fun _=>x_.1 (by rw[ld,gX,Nat.zero_mul]),fun a _=> ?_⟩
     have:vs.drop ((i+1)*1)=[]:=x_.1 (by rw[ld,gX,Nat.zero_mul])
     rw[this]
     show eH _ _ 0 ((s.len-(i+1))*1)=_
     rw[gX,Nat.zero_mul];rfl
   · rw[aa,N2 (by omega),so,gJ]
     exact SH.CX (by omega)
 have Kj:=SI (P:=Tryz.prog) (np:= #[ah.cJ,ah.cJ]) (ew:=ah.cJ) (s:=⟨s.a,i,s.cap⟩) rfl rfl U U pK b7 mF (by show i+(s.len-(i+1))≤s.cap;omega) (fun a aR=>by
   have aR:s.a=some a:=aR
   rw[aa] at aR;cases aR
   rw[aX,gJ]
   exact SH.du _ _ (by show i*1+_≤_;omega) Ol)
 have vf:i+(s.len-(i+1))=s.len-1:=by omega
 simp only[aa,aX,gJ,vf] at Kj
 obtain ⟨a8,nm⟩:∃a8,a8=setCells w.drew ⟨b,i*1,none⟩ 0 (vs.drop ((i+1)*1)):=⟨_,rfl⟩
 rw[←nm] at Kj
 have Ki:cj a8 b (nK c (i*1) (vs.drop ((i+1)*1))) ah.cc:=by rw[nm];exact SH.Ak _
 have kv:ao (aQ s) w a8:=by
   rw[nm]
   exact ao.mono (W:=fun q=>q=b) (ao.yk (ao.drew (.refl _ _)) _ 0) (fun k _ ae=>⟨_,aa,ae.symm⟩)
 obtain ⟨zs,Ax,aj5⟩:=aj6 (P:=Tryz.prog) (w:=a8) (T:=ah.cJ) (o:=ah.t) (n:=1) (c:=s.cap-(s.len-1)) (A:=⟨b,(s.len-1)*1,none⟩) U ad aK aW (by decide) (fun zs wK=>by
   refine Ki.du _ _ (by rw[wK,rB];simp[Builtin.zeroCells,aW];omega) fun u hu=> ?_
   rw[wK] at hu
   simp only[Builtin.zeroCells,Array.toList_map,lR] at hu
   obtain ⟨j,aZ,rfl⟩:=hu
   have aZ:j<1*z0.cells.size:=by simpa using aZ
   have aj7:j%z0.cells.size<z0.cells.size:=r8 _ (by omega)
   have bl:z0.cells[j%z0.cells.size]! =z0.cells[j%z0.cells.size]:=getElem!_pos z0.cells (j%z0.cells.size) aj7
   rw[bl]
   exact aj3 z0 (by rw[ad];exact aK) _ (by simp))
 have aj8:bh (some (Addr.mk b 0 none)) 1 (s.len-1) s.cap=some ⟨b,(s.len-1)*1,none⟩:=by rw[N2 (by omega),gJ]
 have aj9:s.len-(s.len-1)=1:=by omega
 refine ⟨⟨by omega,by omega⟩,⟨by omega,by omega⟩,⟨by omega,by omega⟩,fun h=> ?_,fun _=>bN ⟨⟨by omega,by omega⟩,⟨by omega,by omega⟩,⟨some ⟨b,0,none⟩,s.len-1,s.cap⟩,a8,by rw[aa];exact Kj,⟨by omega,by show ((s.len:Nat):Int)≤((s.cap:Nat):Int);omega⟩,⟨by omega,by show ((s.len-1:Nat):Int)≤((s.len:Nat):Int);omega⟩,_,_,by rw[aj9,aj8];exact aj5,⟨some ⟨b,0,none⟩,s.len-1,s.cap⟩,rfl,?_,rfl,aa.symm,?_⟩⟩
 · have:=eq_of_beq h;omega
 · refine bX.mk' (Ki.Ak _) (by simp[nO,ld];omega) (by omega) CV (by rw[rB,rB,fq]) ?_
   rw[yo _ _ _ (by rw[rB];omega),yo _ _ _ (by omega)]
   have t1:(c.toList.take (i*1)++vs.drop ((i+1)*1)++c.toList.drop (i*1+(vs.drop ((i+1)*1)).length)).take ((s.len-1)*1)=vs.take (i*1)++vs.drop ((i+1)*1):=by
     rw[←l1,ET (by simp[nO,ld];omega),hU (by simp[nO,ld];omega)]
   rw[t1,eF,ET (by simp[nO,ld];omega),hU (by simp[nO,ld];omega)]
 · exact kv.trans (ao.mono (W:=fun q=>q=b) (ao.yk (.refl _ _) _ 0) (fun k _ ae=>⟨_,aa,ae.symm⟩))
theorem Kk {w:World} {s:ab} {ds:List Nat} (h:Src 1 w s (kY ds)) (aB:ds.length≤1000000):
   aP Tryz.prog F.vg #[.slice s.a s.len s.cap] w (fun v w'=>∃au:ab,v= .slice au.a au.len au.cap∧bX 1 ah.int w' au (kY ds)∧Ext w w'∧oX w au):=by
 have gh:s.len=ds.length:=by have:=h.len;rw[E9] at this;omega
 refine W.aj_ s w _ ?_
 delta W.vg aF ai
 refine ⟨fun aR=> ?_,fun _=> ?_⟩
 · have aR:s.a=none:=by simpa using aR
   rw[h.nil aR]
   exact ⟨⟨none,0,0⟩,rfl,bX.none _ _ _, .refl _ _,fun k ae=>(rD k ae).elim⟩
 · obtain ⟨au,w',U,ad,aq,aK,aW,_⟩:=J4.clone (ew:=ah.eY) h (YE ds) (by omega)
   exact bN ⟨au,w',U,au,rfl,ad,aK,aW⟩
theorem aka {ks:List Key} {k:Key} {a:Nat} (aR:a≤ks.length) (U:∀ (j:Nat) (h:j<ks.length),j<a→cw ks[j] k) (ad:∀ (j:Nat) (h:j<ks.length),a≤j→¬cw ks[j] k):er ks k=a:=by
 unfold er
 rcases hJ a ks.length with h|h
 · exact (List.findIdx_eq h).2 ⟨ik (ad a h (cP _)),fun j aZ=>sN fun aq=>aq (U j (by omega) aZ)⟩
 · have:a=ks.length:=by omega
   subst this
   refine List.findIdx_eq_length_of_false fun x af=> ?_
   obtain ⟨j,aZ,rfl⟩:=lU af
   exact sN fun aq=>aq (U j aZ aZ)
def pq (ks:List Key) (k:Key):Bool:=decide (ks[er ks k]? =some k)
theorem akb {B C:Nat→Prop} {s t:ab} {ks:List Key} {key:Key} {w:World} (aj:bU B w s ks) (aU:Src 1 w t (a_ key)) (aY:ks.Pairwise cw) (aD:ks.length≤100000):
   aP Tryz.prog F.CY #[.slice s.a s.len s.cap, .slice t.a t.len t.cap, .func (.func F.o1) #[] #[]] w (fun v w'=>v= .tuple #[.int .i64 ((er ks key:Nat):Int), .bool (pq ks key)]∧w=w'):=by
 refine W.akc s t ⟨F.o1, #[], #[]⟩ w _ ?_
 (delta W.CY aF aE ar bc;dsimp only)
 have aB:=bU.len aj
 have u_:sk Tryz.prog F.o1:=⟨_,(Option.some_get (show (Tryz.prog.funcs[F.o1]?).isSome=true by kernel_rfl)).symm,by kernel_rfl,by kernel_rfl⟩
 have a6:=fun {i j:Nat} (hi:i<j) (aZ:j<ks.length)=>Cn.1 aY i j (by omega) aZ hi
 refine ⟨fun lo hi w'=>∃a b:Nat,lo=a∧hi=b∧a≤b∧b≤ks.length∧w=w'∧(∀ (j:Nat) (h:j<ks.length),j<a→cw ks[j] key)∧(∀ (j:Nat) (h:j<ks.length),b≤j→¬cw ks[j] key),fun lo hi _=>(hi-lo).toNat,
   ⟨0,ks.length,rfl,by rw[aB],fi _,cP _,rfl,fun j _ h=>by omega,fun j h ad=>by omega⟩,?_⟩
 rintro _ _ _ ⟨a,b,rfl,rfl,o2,aa,rfl,U,ad⟩
 have hm:=akd (a:=a) (b:=b) (by omega)
 refine ⟨fun h=> ?_,fun h=> ?_⟩
 · have ake:(a:Int)<(b:Int):=dL h
   rw[hm]
   obtain ⟨m,Ay⟩:∃m,m=(a+b)/2:=⟨_,rfl⟩
   rw[←Ay]
   have Ou:a≤m:=by omega
   have kI:m<b:=by omega
   obtain ⟨A,t2,ay,l2,fL,nQ,_⟩:=bU.at aj (i:=m) (by omega)
   refine ⟨by decide,A,ay,l2,t2,fL,u_,(o1 nQ.1 aU).use ?_⟩
   rintro _ _ ⟨rfl,rfl⟩
   have hw:IntKind.wrap .i64 ((m:Int)+1)=((m+1:Nat):Int):=by rw[cL (by omega) (by omega)];rfl
   refine ⟨_,rfl,fun ak=> ?_,fun ak=> ?_⟩
   · have ak:cw ks[m] key:=dL ak
     rw[hw]
     have Kl:((b:Int)-((m+1:Nat):Int)).toNat<((b:Int)-(a:Int)).toNat:=by omega
     refine ⟨⟨m+1,b,rfl,rfl,by omega,aa,rfl,fun j aZ akf=> ?_,ad⟩,Kl⟩
     rcases hJ j m with aq|aq
     · exact yg (a6 aq (by omega)) ak
     · have:j=m:=by omega
       subst this;exact ak
   · have ak:¬cw ks[m] key:=fb ak
     have Kl:((m:Int)-(a:Int)).toNat<((b:Int)-(a:Int)).toNat:=by omega
     refine ⟨⟨a,m,rfl,rfl,Ou,by omega,rfl,U,fun j aZ akf=> ?_⟩,Kl⟩
     rcases hJ m j with aq|aq
     · exact fun aK=>ak (yg (a6 aq aZ) aK)
     · have:j=m:=by omega
       subst this;exact ak
 · have cm:¬(a:Int)<(b:Int):=fb h
   have akg:b=a:=by omega
   subst akg
   have aV:er ks key=b:=aka aa U ad
   refine ff (fun c w'=>w=w'∧c=pq ks key) (fun q J=>⟨fun h=> ?_,fun h=> ?_⟩) ?_
   · have ake:(b:Int)<((s.len:Nat):Int):=dL h
     have wL:b<ks.length:=by omega
     obtain ⟨A,t2,ay,l2,fL,nQ,_⟩:=bU.at aj wL
     refine ⟨A,ay,l2,t2,fL,u_,(o1 nQ.1 aU).use ?_⟩
     rintro _ _ ⟨rfl,rfl⟩
     refine ⟨_,rfl,J _ _ ⟨rfl,?_⟩⟩
     unfold pq
     rw[aV,oT,fE,yb,gT wL,ahQ]
     exact ⟨fun h=>by rw[h],fun h=>Option.some.inj h⟩
   · have cm:¬(b:Int)<((s.len:Nat):Int):=fb h
     refine J _ _ ⟨rfl,?_⟩
     unfold pq
     rw[aV,G1 (by omega)]
     simp
   · rintro _ _ ⟨rfl,rfl⟩
     exact ⟨by rw[aV],rfl⟩
theorem rJ {B:Nat→Prop} {w:World} {n:aO} {K V D t:ab} {key:Key} (h:ck B w n K V D) (aU:Src 1 w t (a_ key)) (aY:n.keys.Pairwise cw) (aD:n.keys.length≤100000):
   aP Tryz.prog F.rJ #[fg n K V D, .slice t.a t.len t.cap] w (fun v w'=>v= .tuple #[.int .i64 ((er n.keys key:Nat):Int), .bool (pq n.keys key)]∧Ext w w'):=by
 refine W.akh n.leaf K V D t w _ ?_
 (delta W.rJ ar ai dQ;dsimp only)
 refine cx (vs:=[.bool n.leaf, .slice K.a K.len K.cap, .slice V.a V.len V.cap, .slice D.a D.len D.cap]) rfl fun ag al bK _=> ?_
 obtain ⟨cK,bm,bj,bk⟩:=cu al
 refine ⟨K,bm,(akb (B:=B) (C:=B) (h.keys.ext bK) (aU.ext bK) aY aD).use ?_⟩
 rintro _ _ ⟨rfl,rfl⟩
 exact ⟨_,_,rfl,rfl,bK⟩
theorem yG {B:Nat→Prop} {w:World} {n:aO} {K V D t:ab} {key:Key} (h:ck B w n K V D) (aU:Src 1 w t (a_ key)) (aY:n.keys.Pairwise cw) (aD:n.keys.length≤100000):
   aP Tryz.prog F.yG #[fg n K V D, .slice t.a t.len t.cap] w (fun v w'=>v= .tuple #[.int .i64 ((er n.keys key:Nat):Int), .bool (pq n.keys key)]∧Ext w w'):=by
 refine W.aki n.leaf K V D t w _ ?_
 (delta W.yG bR ai ar dQ;dsimp only)
 refine cx (vs:=[.bool n.leaf, .slice K.a K.len K.cap, .slice V.a V.len V.cap, .slice D.a D.len D.cap]) rfl fun ag al bK _=> ?_
 obtain ⟨cK,bm,bj,bk⟩:=cu al
 refine ⟨_,cK,K,bm,V,bj,D,bk,(rJ (h.ext bK) (aU.ext bK) aY aD).use ?_⟩
 rintro _ _ ⟨rfl,cD⟩
 exact ⟨_,_,rfl,rfl,bK.trans cD⟩
theorem akj {ks:List Key} (aY:ks.Pairwise cw) (k:Key):fT ks k=if pq ks k then er ks k+1 else er ks k:=by
 have hle:=He ks k
 have key:∀a,a≤ks.length→(∀ (j:Nat) (h:j<ks.length),j<a→¬cw k ks[j])→(∀h:a<ks.length,cw k ks[a])→fT ks k=a:=by
   intro a aR U ad
   unfold fT
   rcases hJ a ks.length with h|h
   · exact (List.findIdx_eq h).2 ⟨ik (ad h),fun j aZ=>sN (U j (by omega) aZ)⟩
   · have:a=ks.length:=by omega
     subst this
     refine List.findIdx_eq_length_of_false fun x af=> ?_
     obtain ⟨j,aZ,rfl⟩:=lU af
     exact sN (U j aZ aZ)
 split
 · rename_i c4
   have c4:ks[er ks k]? =some k:=dL c4
   obtain ⟨a6,he⟩:=qJ.1 c4
   refine key _ a6 (fun j aZ h=> ?_) fun h=> ?_
   · rcases hJ j (er ks k) with aq|aq
     · exact Ab (E1 aq aZ)
     · have:j=er ks k:=by omega
       subst this
       rw[he];exact Cu _
   · have:=Cn.1 aY _ _ a6 h (Nat.lt_succ_self _)
     rwa[he] at this
 · rename_i c4
   have c4:¬ks[er ks k]? =some k:=fun h=>c4 (ik h)
   refine key _ hle (fun j aZ h=>Ab (E1 h aZ)) fun h=> ?_
   rcases EV.1 (Hf aY (cP _) h) with aq|aq
   · exact aq
   · exact absurd ((gT h).trans (congrArg some aq.symm)) c4
theorem vh {B:Nat→Prop} {w:World} {n:aO} {K V D t:ab} {key:Key} (h:ck B w n K V D) (aU:Src 1 w t (a_ key)) (aY:n.keys.Pairwise cw) (aD:n.keys.length≤100000):
   aP Tryz.prog F.vh #[fg n K V D, .slice t.a t.len t.cap] w (fun v w'=>v= .int .i64 ((fT n.keys key:Nat):Int)∧Ext w w'):=by
 refine W.akk n.leaf K V D t w _ ?_
 (delta W.vh bR ai ar dQ aF aE;dsimp only)
 refine cx (vs:=[.bool n.leaf, .slice K.a K.len K.cap, .slice V.a V.len V.cap, .slice D.a D.len D.cap]) rfl fun ag al bK _=> ?_
 obtain ⟨cK,bm,bj,bk⟩:=cu al
 have hle:=He n.keys key
 refine ⟨_,cK,K,bm,V,bj,D,bk,(rJ (h.ext bK) (aU.ext bK) aY aD).use ?_⟩
 rintro _ aw ⟨rfl,cD⟩
 rw[akj aY]
 refine ⟨_,_,rfl,ff (fun c w'=>aw=w'∧c=((if pq n.keys key then er n.keys key+1 else er n.keys key:Nat):Int)) (fun q J=>⟨fun h=>J _ _ ⟨rfl,?_⟩,fun h=>J _ _ ⟨rfl,?_⟩⟩) ?_⟩
 · rw[if_pos h,cL (by omega) (by omega)];rfl
 · rw[if_neg (by simp[h])]
 · rintro _ _ ⟨rfl,rfl⟩
   exact ⟨rfl,bK.trans cD⟩
end
section
structure pV (lo:Nat) (w:World) (aL:Nat) (n:aO) (K V D:ab) (cE cY ct:Nat→Prop):Prop where
 v:Var w aL [.bool n.leaf, .slice K.a K.len K.cap, .slice V.a V.len V.cap, .slice D.a D.len D.cap] ah.cR
 keys:bZ cE w K n.keys
 vals:bZ cY w V n.vals
 kids:eJ ct w D n.kids
 bW:∀q,cE q→lo≤q∧q<w.heap.size∧q≠aL∧¬cY q∧¬ct q
 bv:∀q,cY q→lo≤q∧q<w.heap.size∧q≠aL∧¬ct q
 bc:∀q,ct q→lo≤q∧q<w.heap.size∧q≠aL
 Az:lo≤aL
structure jR (lo:Nat) (w:World) (n:aO) (K V D:ab) (cE cY ct:Nat→Prop):Prop where
 keys:bZ cE w K n.keys
 vals:bZ cY w V n.vals
 kids:eJ ct w D n.kids
 bW:∀q,cE q→lo≤q∧q<w.heap.size∧¬cY q∧¬ct q
 bv:∀q,cY q→lo≤q∧q<w.heap.size∧¬ct q
 bc:∀q,ct q→lo≤q∧q<w.heap.size
section
variable {lo:Nat} {w w':World} {aL:Nat} {n:aO} {K V D:ab} {cE cY ct:Nat→Prop}
theorem pV.mem (h:pV lo w aL n K V D cE cY ct):jR lo w n K V D cE cY ct:=⟨h.keys,h.vals,h.kids,fun q J=>⟨(h.bW q J).1,(h.bW q J).2.1,(h.bW q J).2.2.2⟩,fun q J=>⟨(h.bv q J).1,(h.bv q J).2.1,(h.bv q J).2.2.2⟩,fun q J=>⟨(h.bc q J).1,(h.bc q J).2.1⟩⟩
theorem jR.an {W:Nat→Prop} (h:jR lo w n K V D cE cY ct) (ak:ao W w w') (dY:∀q,lo≤q→q<w.heap.size→cE q∨cY q∨ct q→¬W q):jR lo w' n K V D cE cY ct:=by
 have aj:=ak.size
 refine ⟨bZ.an h.keys ak fun q J=>dY q (h.bW q J).1 (h.bW q J).2.1 (.inl J),bZ.an h.vals ak fun q J=>dY q (h.bv q J).1 (h.bv q J).2.1 (.inr (.inl J)),eJ.an h.kids ak fun q J=>dY q (h.bc q J).1 (h.bc q J).2 (.inr (.inr J)),fun q J=> ?_,fun q J=> ?_,fun q J=> ?_⟩
 · have:=h.bW q J;exact ⟨this.1,by omega,this.2.2⟩
 · have:=h.bv q J;exact ⟨this.1,by omega,this.2.2⟩
 · have:=h.bc q J;exact ⟨this.1,by omega⟩
theorem jR.ext (h:jR lo w n K V D cE cY ct) (ak:Ext w w'):jR lo w' n K V D cE cY ct:=h.an ak fun _ _ _ _ h=>h
theorem pV.ext (h:pV lo w aL n K V D cE cY ct) (af:Ext w w'):pV lo w' aL n K V D cE cY ct:=
 ⟨h.v.ext af,bZ.ext h.keys af,bZ.ext h.vals af,eJ.ext h.kids af,fun q J=>⟨(h.bW q J).1,ly (h.bW q J).2.1 af.size,(h.bW q J).2.2⟩,fun q J=>⟨(h.bv q J).1,ly (h.bv q J).2.1 af.size,(h.bv q J).2.2⟩,fun q J=>⟨(h.bc q J).1,ly (h.bc q J).2.1 af.size,(h.bc q J).2.2⟩,h.Az⟩
theorem jR.at (h:jR lo w n K V D cE cY ct):ck (fun q=>lo≤q) w n K V D:=
 ⟨bU.bA (bZ.oq h.keys) fun q _ J=>(h.bW q J).1,bU.bA (bZ.oq h.vals) fun q _ J=>(h.bv q J).1,dG.bA (eJ.u7 h.kids) fun q _ J=>(h.bc q J).1⟩
theorem jR.low {hA:Nat} (h:jR lo w n K V D cE cY ct) (aB:hA≤lo):jR hA w n K V D cE cY ct:=
 ⟨h.keys,h.vals,h.kids,fun q J=>⟨jb aB (h.bW q J).1,(h.bW q J).2⟩,fun q J=>⟨jb aB (h.bv q J).1,(h.bv q J).2⟩,fun q J=>⟨jb aB (h.bc q J).1,(h.bc q J).2⟩⟩
end
theorem SJ {lo:Nat} {w:World} {aL:Nat} {n:aO} {K V D t:ab} {l:Key} {cE cY ct:Nat→Prop} (h:pV lo w aL n K V D cE cY ct) (aU:Src 1 w t (a_ l)) (aB:l.length≤100000) (aD:n.keys.length≤100000) {R:World→Prop}
   (c5:∀ (w':World) (aT:ab) (Av:Nat→Prop),pV lo w' aL {n with keys:=n.keys++ [l]} aT V D Av cY ct→ao (fun q=>q=aL∨cE q) w w'→(∀q,Av q→cE q∨w.heap.size≤q)→R w'):
   az w.drew fun dR=>∃wM:Nat→Prop,¬wM (Addr.add ⟨aL,0,none⟩ 1).block∧∃ec:ab,dR.cell? (Addr.add ⟨aL,0,none⟩ 1)=some (.slice ec.a ec.len ec.cap)∧
     Calls Tryz.prog F.mo #[.slice t.a t.len t.cap] dR fun Km cI=>∃fH:ab,Km= .returned (.slice fH.a fH.len fH.cap)∧ao wM dR cI∧
     az (cI.alloc (.cells #[.slice fH.a fH.len fH.cap] ah.cc)) fun mY=>ao wM cI mY∧∃e9:ab,∃fk:World,Sem.run Tryz.prog (Builtin.append_ #[ah.cJ,ah.cJ] ah.cJ #[.slice ec.a ec.len ec.cap, .slice (some ⟨cI.heap.size,0,none⟩) 1 1]) mY= .ok (.slice e9.a e9.len e9.cap) fk∧
     (∃u:Value,fk.cell? (Addr.add ⟨aL,0,none⟩ 1)=some u)∧fk.frozen? (Addr.add ⟨aL,0,none⟩ 1)=false∧az (fk.setCell (Addr.add ⟨aL,0,none⟩ 1) (.slice e9.a e9.len e9.cap)) fun fN=>R fN:=by
 have fl:=h.Az
 have Fi:=h.v.lt
 have bB:=ej w
 obtain ⟨cK,bm,bj,bk⟩:=cu (h.v.ext bB)
 refine bN ⟨fun _=>False,id,K,bm,(u9 (B:=fun q=>w.heap.size≤q) (aU.ext bB) (by omega) (fun q J=>J)).use ?_⟩
 rintro _ cI ⟨Fj,rfl,AA,af,aA⟩
 have dO:=bB.trans af
 have bF:w.drew.heap.size=w.heap.size:=rfl
 have dE:=dO.size
 have bq:=bZ.ext h.keys dO
 have t_:=bZ.ext h.vals dO
 have vi:=eJ.ext h.kids dO
 refine ⟨Fj,rfl,af,Ob (B:=Grow cE w.drew cI) (h.v.ext dO) (o:=1) (by simp) (bZ.bA bq fun k _ h=> .inl h) ?_ (bH.bA AA fun k ae h=> .inr ⟨h,ae⟩) ?_ aD fun w' gQ aC aG aJ=> ?_⟩
 · rintro (U|U)
   · exact (h.bW aL U).2.2.1 rfl
   · omega
 · intro k jd Fg
   obtain ⟨ts,_,_,aq,_⟩:=h.keys
   have:=(aq k Fg).2
   have:=(AA.2.2 k jd).1
   omega
 have eR:∀q,Grow (Grow cE w.drew cI) cI w' q→cE q∨(w.heap.size≤q∧q<w'.heap.size):=by
   rintro q ((U|U)|U)
   · exact .inl U
   · exact .inr ⟨U.1,ly U.2 aJ.size⟩
   · exact .inr ⟨jb dE U.1,U.2⟩
 have bl:=aJ.size
 have kL:∀q,aQ K q→cE q:=fun q J=>by
   obtain ⟨ts,_,_,aq,_⟩:=h.keys
   exact (aq q J).1
 refine c5 w' gQ (fun q=>cE q∨(w.heap.size≤q∧q<w'.heap.size)) ⟨by simpa using aC,bZ.bA aG fun k _ ae=>eR k ae,bZ.an t_ aJ ?_,eJ.an vi aJ ?_,?_,fun q J=> ?_,fun q J=> ?_,h.Az⟩ ?_ ?_
 · rintro q J (U|U)
   · exact (h.bv q J).2.2.1 U
   · exact (h.bW q (kL q U)).2.2.2.1 J
 · rintro q J (U|U)
   · exact (h.bc q J).2.2 U
   · exact (h.bW q (kL q U)).2.2.2.2 J
 · rintro q (U|U)
   · have:=h.bW q U;exact ⟨this.1,by omega,this.2.2⟩
   · exact ⟨by omega,U.2,by omega,fun ad=>by have:=h.bv q ad;omega,fun ad=>by have:=h.bc q ad;omega⟩
 · have:=h.bv q J;exact ⟨this.1,by omega,this.2.2⟩
 · have:=h.bc q J;exact ⟨this.1,by omega,this.2.2⟩
 · refine (ao.eN dO).trans (aJ.mono fun k _ ae=> ?_)
   rcases ae with ae|ae
   · exact .inl ae
   · exact .inr (kL k ae)
 · rintro q (U|U)
   · exact .inl U
   · exact .inr U.1
theorem Y4 {lo:Nat} {w:World} {aL:Nat} {n:aO} {K V D t:ab} {l:Key} {cE cY ct:Nat→Prop} (h:pV lo w aL n K V D cE cY ct) (aU:Src 1 w t (a_ l)) (aB:l.length≤100000) (aD:n.vals.length≤100000) {R:World→Prop}
   (c5:∀ (w':World) (bP:ab) (Oc:Nat→Prop),pV lo w' aL {n with vals:=n.vals++ [l]} K bP D cE Oc ct→ao (fun q=>q=aL∨cY q) w w'→(∀q,Oc q→cY q∨w.heap.size≤q)→R w'):
   az w.drew fun dR=>∃wM:Nat→Prop,¬wM (Addr.add ⟨aL,0,none⟩ 2).block∧∃ec:ab,dR.cell? (Addr.add ⟨aL,0,none⟩ 2)=some (.slice ec.a ec.len ec.cap)∧
     Calls Tryz.prog F.mo #[.slice t.a t.len t.cap] dR fun Km cI=>∃fH:ab,Km= .returned (.slice fH.a fH.len fH.cap)∧ao wM dR cI∧
     az (cI.alloc (.cells #[.slice fH.a fH.len fH.cap] ah.cc)) fun mY=>ao wM cI mY∧∃e9:ab,∃fk:World,Sem.run Tryz.prog (Builtin.append_ #[ah.cJ,ah.cJ] ah.cJ #[.slice ec.a ec.len ec.cap, .slice (some ⟨cI.heap.size,0,none⟩) 1 1]) mY= .ok (.slice e9.a e9.len e9.cap) fk∧
     (∃u:Value,fk.cell? (Addr.add ⟨aL,0,none⟩ 2)=some u)∧fk.frozen? (Addr.add ⟨aL,0,none⟩ 2)=false∧az (fk.setCell (Addr.add ⟨aL,0,none⟩ 2) (.slice e9.a e9.len e9.cap)) fun fN=>R fN:=by
 have fl:=h.Az
 have Fi:=h.v.lt
 have bB:=ej w
 obtain ⟨cK,bm,bj,bk⟩:=cu (h.v.ext bB)
 refine bN ⟨fun _=>False,id,V,bj,(u9 (B:=fun q=>w.heap.size≤q) (aU.ext bB) (by omega) (fun q J=>J)).use ?_⟩
 rintro _ cI ⟨Fj,rfl,AA,af,aA⟩
 have dO:=bB.trans af
 have bF:w.drew.heap.size=w.heap.size:=rfl
 have dE:=dO.size
 have bq:=bZ.ext h.keys dO
 have t_:=bZ.ext h.vals dO
 have vi:=eJ.ext h.kids dO
 refine ⟨Fj,rfl,af,Ob (B:=Grow cY w.drew cI) (h.v.ext dO) (o:=2) (by simp) (bZ.bA t_ fun k _ h=> .inl h) ?_ (bH.bA AA fun k ae h=> .inr ⟨h,ae⟩) ?_ aD fun w' gQ aC aG aJ=> ?_⟩
 · rintro (U|U)
   · exact (h.bv aL U).2.2.1 rfl
   · omega
 · intro k jd Fg
   obtain ⟨ts,_,_,aq,_⟩:=h.vals
   have:=(aq k Fg).2
   have:=(AA.2.2 k jd).1
   omega
 have eR:∀q,Grow (Grow cY w.drew cI) cI w' q→cY q∨(w.heap.size≤q∧q<w'.heap.size):=by
   rintro q ((U|U)|U)
   · exact .inl U
   · exact .inr ⟨U.1,ly U.2 aJ.size⟩
   · exact .inr ⟨jb dE U.1,U.2⟩
 have bl:=aJ.size
 have kL:∀q,aQ V q→cY q:=fun q J=>by
   obtain ⟨ts,_,_,aq,_⟩:=h.vals
   exact (aq q J).1
 refine c5 w' gQ (fun q=>cY q∨(w.heap.size≤q∧q<w'.heap.size)) ⟨by simpa using aC,bZ.an bq aJ ?_,bZ.bA aG fun k _ ae=>eR k ae,eJ.an vi aJ ?_,fun q J=> ?_,?_,fun q J=> ?_,h.Az⟩ ?_ ?_
 · rintro q J (U|U)
   · exact (h.bW q J).2.2.1 U
   · exact (h.bW q J).2.2.2.1 (kL q U)
 · rintro q J (U|U)
   · exact (h.bc q J).2.2 U
   · exact (h.bv q (kL q U)).2.2.2 J
 · have:=h.bW q J
   refine ⟨this.1,by omega,this.2.2.1,?_,this.2.2.2.2⟩
   rintro (U|U)
   · exact this.2.2.2.1 U
   · omega
 · rintro q (U|U)
   · have:=h.bv q U;exact ⟨this.1,by omega,this.2.2⟩
   · exact ⟨by omega,U.2,by omega,fun ad=>by have:=h.bc q ad;omega⟩
 · have:=h.bc q J;exact ⟨this.1,by omega,this.2.2⟩
 · refine (ao.eN dO).trans (aJ.mono fun k _ ae=> ?_)
   rcases ae with ae|ae
   · exact .inl ae
   · exact .inr (kL k ae)
 · rintro q (U|U)
   · exact .inl U
   · exact .inr U.1
theorem fO {B:Nat→Prop} {bI:World} {n:aO} {K V D:ab} (h:ck B bI n K V D) (Y5:n.keys.length≤100000) (Hu:n.vals.length≤100000) (avB:n.kids.length≤100000) (fy:∀k∈n.keys,k.length≤100000) (jG:∀v∈n.vals,v.length≤100000):
   aP Tryz.prog F.fO #[fg n K V D] bI (fun v w'=>∃ (K V D:ab) (cE cY ct:Nat→Prop),v=fg n K V D∧jR bI.heap.size w' n K V D cE cY ct∧Ext bI w'):=by
 refine W.akl n.leaf K V D bI _ ?_
 (delta W.fO dA ai bR ar dZ rK SK aF Y6 bc st aE Y7 Y8 Ov;dsimp only)
 have Hv:ck (fun q=>q<bI.heap.size) bI n K V D:=h.bA fun q J _=>J
 have CQ:=bU.len h.keys
 have en:=bU.len h.vals
 refine cx (vs:=[.bool n.leaf, .slice K.a K.len K.cap, .slice V.a V.len V.cap, .slice D.a D.len D.cap]) rfl fun ag gx bK k_=> ?_
 refine cx (vs:=[.bool false, .slice none 0 0, .slice none 0 0, .slice none 0 0]) rfl fun aw fU cD mD=>bN ?_
 have bB:=ej aw
 have bF:aw.drew.heap.size=aw.heap.size:=rfl
 have vj:=(gx.ext cD).ext bB
 have yH:=fU.ext bB
 have hY:=bK.trans (cD.trans bB)
 obtain ⟨gX,ba,bp,dM⟩:=cu vj
 have ou:=Hv.ext hY
 obtain ⟨lo,mE⟩:∃lo,lo=aw.heap.size:=⟨_,rfl⟩
 refine ⟨fun _=>False,id,_,gX,id,D,dM,⟨?_,?_⟩⟩
 · refine (Kk ou.kids.1 (by omega)).use ?_
   rintro _ aS ⟨aH,rfl,qW,eW,yu⟩
   have CZ:=eW.size
   refine ⟨aH,rfl,eW, #[.bool n.leaf, .slice none 0 0, .slice none 0 0, .slice aH.a aH.len aH.cap],(fun w=>by kernel_rfl),?_⟩
   refine cx (vs:=[.bool false, .slice none 0 0, .slice none 0 0, .slice none 0 0]) rfl fun cy Ow h4 Y9=> ?_
   refine ⟨h4,Ow.du rfl ?_,rfl,eg Ow (us:=[.bool n.leaf, .slice none 0 0, .slice none 0 0, .slice aH.a aH.len aH.cap]) rfl rfl fun b4 AB pW SL=> ?_⟩
   · intro v al
     simp only[gg,ml,mm] at al
     rcases al with rfl|rfl|rfl|rfl<;>trivial
   obtain ⟨aL,fl⟩:∃aL,aL=aS.heap.size:=⟨_,rfl⟩
   rw[←fl] at AB pW⊢
   obtain ⟨ct,AD⟩:∃ct:Nat→Prop,ct=fun q=>aw.heap.size≤q∧q<aS.heap.size:=⟨_,rfl⟩
   have SM:eJ ct aS aH n.kids:=by subst AD;exact ⟨qW,fun k ae=>⟨⟨yu k ae,qW.lt k ae⟩,qW.lt k ae⟩⟩
   have wN:ao (fun q=>lo≤q) aw.drew b4:=(ao.eN (eW.trans h4)).trans (pW.mono fun k _ ae=>by omega)
   have SN:pV lo b4 aL ⟨n.leaf,[],[],n.kids⟩ cg cg aH (fun _=>False) (fun _=>False) ct:=⟨AB,bZ.none _ _,bZ.none _ _,eJ.an (eJ.ext SM h4) pW (fun q J e=>by subst AD;have J:=J.2;omega),fun q h=>h.elim,fun q h=>h.elim,fun q J=>(by subst AD;obtain ⟨U,ad⟩:=J;exact ⟨by omega,by omega,by omega⟩),by omega⟩
   clear AD
   obtain ⟨cK,bm,bj,bk⟩:=cu (vj.an wN (by omega))
   have Fk:ck (fun q=>q<bI.heap.size) b4 n K V D:=ou.an wN fun q J h=>by omega
   have Kn:=yH.an wN (by omega)
   refine ⟨K,bm,fun i w'=>∃ (j:Nat) (aT:ab) (cE:Nat→Prop),i=j∧j≤n.keys.length∧pV lo w' aL ⟨n.leaf,n.keys.take j,[],n.kids⟩ aT cg aH cE (fun _=>False) ct∧ao (fun q=>lo≤q) b4 w',fun i _=>((n.keys.length:Int)-i).toNat,⟨0,cg,_,rfl,fi _,SN,ao.refl _ _⟩,?_⟩
   rintro _ dB ⟨j,aT,cE,rfl,aZ,wO,gy⟩
   have SO:ck (fun q=>q<bI.heap.size) dB n K V D:=Fk.an gy fun q J h=>by omega
   refine ⟨fun a6=> ?_,fun cm=> ?_⟩
   · have a6:j<n.keys.length:=by have:=dL a6;omega
     obtain ⟨A,t,ay,aa,ak,aU,_⟩:=bU.at SO.keys a6
     refine ⟨A,ay,aa,t,ak,SJ wO aU.1 (fy _ (e3 a6)) (by show (n.keys.take j).length≤_;rw[ee];omega) fun w' c6 sZ st AE _=> ?_⟩
     have dh:ao (fun q=>lo≤q) dB w':=AE.mono fun q _ J=>by
       rcases J with J|J
       · have:=wO.Az;omega
       · exact (wO.bW q J).1
     rw[cL (n:=(j:Int)+1) (by omega) (by omega)]
     refine ⟨⟨j+1,c6,sZ,by omega,by omega,?_,gy.trans dh⟩,?_⟩
     · rw[take_succ _ a6];exact st
     · show ((n.keys.length:Int)-((j:Int)+1)).toNat<((n.keys.length:Int)-(j:Int)).toNat
       omega
   have cm:j=n.keys.length:=by have:=fb cm;omega
   subst cm
   rw[r9] at wO
   obtain ⟨cK,bm,bj,bk⟩:=cu ((vj.an wN (by omega)).an gy (by omega))
   refine ⟨V,bj,fun i w'=>∃ (j:Nat) (bP:ab) (cY:Nat→Prop),i=j∧j≤n.vals.length∧pV lo w' aL ⟨n.leaf,n.keys,n.vals.take j,n.kids⟩ aT bP aH cE cY ct∧ao (fun q=>lo≤q) b4 w',fun i _=>((n.vals.length:Int)-i).toNat,⟨0,cg,_,rfl,fi _,wO,gy⟩,?_⟩
   rintro _ ep ⟨j,bP,cY,rfl,aZ,ua,AF⟩
   have SP:ck (fun q=>q<bI.heap.size) ep n K V D:=Fk.an AF fun q J h=>by omega
   refine ⟨fun a6=> ?_,fun cm=> ?_⟩
   · have a6:j<n.vals.length:=by have:=dL a6;omega
     obtain ⟨A,t,ay,aa,ak,aU,_⟩:=bU.at SP.vals a6
     refine ⟨A,ay,aa,t,ak,Y4 ua aU.1 (jG _ (e3 a6)) (by show (n.vals.take j).length≤_;rw[ee];omega) fun w' c_ AG st AE _=> ?_⟩
     have dh:ao (fun q=>lo≤q) ep w':=AE.mono fun q _ J=>by
       rcases J with J|J
       · have:=ua.Az;omega
       · exact (ua.bv q J).1
     rw[cL (n:=(j:Int)+1) (by omega) (by omega)]
     refine ⟨⟨j+1,c_,AG,by omega,by omega,?_,AF.trans dh⟩,?_⟩
     · rw[take_succ _ a6];exact st
     · show ((n.vals.length:Int)-((j:Int)+1)).toNat<((n.vals.length:Int)-(j:Int)).toNat
       omega
   have cm:j=n.vals.length:=by have:=fb cm;omega
   subst cm
   rw[r9] at ua
   obtain ⟨d0,d1,d2,d3⟩:=cu ua.v
   refine ⟨_,d0,aT,d1,bP,d2,aH,d3,rH n.leaf aT bP aH (Kn.an AF (by omega)) rfl (Q:=fun b K V D aw=>(fun v w'=>∃ (K V D:ab) (cE cY ct:Nat→Prop),v=fg n K V D∧jR bI.heap.size w' n K V D cE cY ct∧Ext bI w') (.agg #[.bool b, .slice K.a K.len K.cap, .slice V.a V.len V.cap, .slice D.a D.len D.cap]) aw) fun cZ qX=>⟨aT,bP,aH,cE,cY,ct,rfl,?_,?_⟩⟩
   · exact (jR.an ua.mem qX fun q J _ _ h=>by omega).low (by omega)
   · exact Ext.e_ (Ext.gv hY (wN.trans AF) fun k ae=>by omega) qX (by omega)
 · refine cx (vs:=[.bool false, .slice none 0 0, .slice none 0 0, .slice none 0 0]) rfl fun cy Ow h4 Y9=>⟨h4,?_⟩
   refine (Kk (ou.kids.ext h4).1 (by omega)).use ?_
   rintro _ aS ⟨aH,rfl,qW,eW,yu⟩
   have CZ:=eW.size
   have Ko:=Ow.ext eW
   refine ⟨aH,rfl,eW, #[.bool n.leaf, .slice none 0 0, .slice none 0 0, .slice aH.a aH.len aH.cap],(fun w=>by kernel_rfl),?_⟩
   refine ⟨Ko.du rfl ?_,rfl,eg Ko (us:=[.bool n.leaf, .slice none 0 0, .slice none 0 0, .slice aH.a aH.len aH.cap]) rfl rfl fun b4 AB pW SL=> ?_⟩
   · intro v al
     simp only[gg,ml,mm] at al
     rcases al with rfl|rfl|rfl|rfl<;>trivial
   obtain ⟨aL,fl⟩:∃aL,aL=aw.drew.heap.size:=⟨_,rfl⟩
   rw[←fl] at AB pW⊢
   obtain ⟨ct,AD⟩:∃ct:Nat→Prop,ct=fun q=>cy.heap.size≤q∧q<aS.heap.size:=⟨_,rfl⟩
   have SM:eJ ct aS aH n.kids:=by subst AD;exact ⟨qW,fun k ae=>⟨⟨yu k ae,qW.lt k ae⟩,qW.lt k ae⟩⟩
   have wN:ao (fun q=>lo≤q) aw.drew b4:=(ao.eN (h4.trans eW)).trans (pW.mono fun k _ ae=>by omega)
   have SN:pV lo b4 aL ⟨n.leaf,[],[],n.kids⟩ cg cg aH (fun _=>False) (fun _=>False) ct:=⟨AB,bZ.none _ _,bZ.none _ _,eJ.an SM pW (fun q J e=>by subst AD;have J:=J.1;omega),fun q h=>h.elim,fun q h=>h.elim,fun q J=>(by subst AD;obtain ⟨U,ad⟩:=J;exact ⟨by omega,by omega,by omega⟩),by omega⟩
   clear AD
   obtain ⟨cK,bm,bj,bk⟩:=cu (vj.an wN (by omega))
   have Fk:ck (fun q=>q<bI.heap.size) b4 n K V D:=ou.an wN fun q J h=>by omega
   have Kn:=yH.an wN (by omega)
   refine ⟨K,bm,fun i w'=>∃ (j:Nat) (aT:ab) (cE:Nat→Prop),i=j∧j≤n.keys.length∧pV lo w' aL ⟨n.leaf,n.keys.take j,[],n.kids⟩ aT cg aH cE (fun _=>False) ct∧ao (fun q=>lo≤q) b4 w',fun i _=>((n.keys.length:Int)-i).toNat,⟨0,cg,_,rfl,fi _,SN,ao.refl _ _⟩,?_⟩
   rintro _ dB ⟨j,aT,cE,rfl,aZ,wO,gy⟩
   have SO:ck (fun q=>q<bI.heap.size) dB n K V D:=Fk.an gy fun q J h=>by omega
   refine ⟨fun a6=> ?_,fun cm=> ?_⟩
   · have a6:j<n.keys.length:=by have:=dL a6;omega
     obtain ⟨A,t,ay,aa,ak,aU,_⟩:=bU.at SO.keys a6
     refine ⟨A,ay,aa,t,ak,SJ wO aU.1 (fy _ (e3 a6)) (by show (n.keys.take j).length≤_;rw[ee];omega) fun w' c6 sZ st AE _=> ?_⟩
     have dh:ao (fun q=>lo≤q) dB w':=AE.mono fun q _ J=>by
       rcases J with J|J
       · have:=wO.Az;omega
       · exact (wO.bW q J).1
     rw[cL (n:=(j:Int)+1) (by omega) (by omega)]
     refine ⟨⟨j+1,c6,sZ,by omega,by omega,?_,gy.trans dh⟩,?_⟩
     · rw[take_succ _ a6];exact st
     · show ((n.keys.length:Int)-((j:Int)+1)).toNat<((n.keys.length:Int)-(j:Int)).toNat
       omega
   have cm:j=n.keys.length:=by have:=fb cm;omega
   subst cm
   rw[r9] at wO
   obtain ⟨cK,bm,bj,bk⟩:=cu ((vj.an wN (by omega)).an gy (by omega))
   refine ⟨V,bj,fun i w'=>∃ (j:Nat) (bP:ab) (cY:Nat→Prop),i=j∧j≤n.vals.length∧pV lo w' aL ⟨n.leaf,n.keys,n.vals.take j,n.kids⟩ aT bP aH cE cY ct∧ao (fun q=>lo≤q) b4 w',fun i _=>((n.vals.length:Int)-i).toNat,⟨0,cg,_,rfl,fi _,wO,gy⟩,?_⟩
   rintro _ ep ⟨j,bP,cY,rfl,aZ,ua,AF⟩
   have SP:ck (fun q=>q<bI.heap.size) ep n K V D:=Fk.an AF fun q J h=>by omega
   refine ⟨fun a6=> ?_,fun cm=> ?_⟩
   · have a6:j<n.vals.length:=by have:=dL a6;omega
     obtain ⟨A,t,ay,aa,ak,aU,_⟩:=bU.at SP.vals a6
     refine ⟨A,ay,aa,t,ak,Y4 ua aU.1 (jG _ (e3 a6)) (by show (n.vals.take j).length≤_;rw[ee];omega) fun w' c_ AG st AE _=> ?_⟩
     have dh:ao (fun q=>lo≤q) ep w':=AE.mono fun q _ J=>by
       rcases J with J|J
       · have:=ua.Az;omega
       · exact (ua.bv q J).1
     rw[cL (n:=(j:Int)+1) (by omega) (by omega)]
     refine ⟨⟨j+1,c_,AG,by omega,by omega,?_,AF.trans dh⟩,?_⟩
     · rw[take_succ _ a6];exact st
     · show ((n.vals.length:Int)-((j:Int)+1)).toNat<((n.vals.length:Int)-(j:Int)).toNat
       omega
   have cm:j=n.vals.length:=by have:=fb cm;omega
   subst cm
   rw[r9] at ua
   obtain ⟨d0,d1,d2,d3⟩:=cu ua.v
   refine ⟨_,d0,aT,d1,bP,d2,aH,d3,rH n.leaf aT bP aH (Kn.an AF (by omega)) rfl (Q:=fun b K V D aw=>(fun v w'=>∃ (K V D:ab) (cE cY ct:Nat→Prop),v=fg n K V D∧jR bI.heap.size w' n K V D cE cY ct∧Ext bI w') (.agg #[.bool b, .slice K.a K.len K.cap, .slice V.a V.len V.cap, .slice D.a D.len D.cap]) aw) fun cZ qX=>⟨aT,bP,aH,cE,cY,ct,rfl,?_,?_⟩⟩
   · exact (jR.an ua.mem qX fun q J _ _ h=>by omega).low (by omega)
   · exact Ext.e_ (Ext.gv hY (wN.trans AF) fun k ae=>by omega) qX (by omega)
end
section
theorem bZ.mk' {B:Nat→Prop} {w:World} {s:ab} {ts:List ab} {ls:List Key} (aB:ts.length=ls.length) (bG:bX 1 ah.cc w s (ts.map pP)) (hi:In B w s) (bF:∀p∈ts.zip ls,bH B w p.1 p.2∧∀k,aQ p.1 k→¬aQ s k):bZ B w s ls:=by
 refine ⟨ts,aB,bG,hi,fun i U ad=> ?_⟩
 have:=bF (ts[i],ls[i]) (by
   rw[List.mem_iff_getElem]
   exact ⟨i,by rw[EO];omega,by rw[Nv]⟩)
 exact this
theorem bZ.out {B:Nat→Prop} {w:World} {s:ab} {ls:List Key} (h:bZ B w s ls):∃ts:List ab,ts.length=ls.length∧bX 1 ah.cc w s (ts.map pP)∧In B w s∧∀p∈ts.zip ls,bH B w p.1 p.2∧∀k,aQ p.1 k→¬aQ s k:=by
 obtain ⟨ts,U,ad,aq,aK⟩:=h
 refine ⟨ts,U,ad,aq,fun p aV=> ?_⟩
 obtain ⟨i,hi,rfl⟩:=List.mem_iff_getElem.1 aV
 rw[EO] at hi
 rw[Nv]
 exact aK i (by omega) (by omega)
theorem Y_ {α β:Type} (a:List α) (b:List β) (i:Nat):(a.take i).zip (b.take i)=(a.zip b).take i:=by
 rw[List.zip_eq_zipWith,List.zip_eq_zipWith,List.take_zipWith]
theorem Za {α β:Type} (a:List α) (b:List β) (i:Nat):(a.drop i).zip (b.drop i)=(a.zip b).drop i:=by
 rw[List.zip_eq_zipWith,List.zip_eq_zipWith,List.drop_zipWith]
theorem Zb {B:Nat→Prop} {w:World} {s t:ab} {ls:List Key} {l:Key} {i:Nat} (bG:bZ B w s ls) (aU:bH B w t l) (hd:∀k,aQ t k→¬aQ s k) (aD:ls.length≤100000) (hi:i≤ls.length):
   aP Tryz.prog F.yD #[.slice s.a s.len s.cap, .int .i64 (i:Int), .slice (some ⟨w.heap.size,0,none⟩) 1 1] (w.alloc (.cells #[.slice t.a t.len t.cap] ah.cc))
     (fun u w'=>∃au:ab,u= .slice au.a au.len au.cap∧bZ (Grow B w w') w' au (ls.take i++ [l]++ls.drop i)∧ao (aQ s) w w'):=by
 obtain ⟨ts,U,ad,aq,aK⟩:=bZ.out bG
 have gh:s.len=ls.length:=by have:=ad.1;rw[kF] at this;omega
 have af:=iM w (.cells #[.slice t.a t.len t.cap] ah.cc)
 have jf:=cj.new w #[.slice t.a t.len t.cap] ah.cc
 refine (ajU (v:=⟨some ⟨w.heap.size,0,none⟩,1,1⟩) (xs:=[pP t]) (i:=i) (ad.ext af) (Src.new (T:=ah.cc) w [pP t] 1 rfl) rfl rfl jf (fun h=>by have:=(aq _ h).2;omega) (fun v al=>by rw[lT.1 al];trivial) (N8 ts) (by omega) (by omega)).mono ?_
 rintro _ w' ⟨au,rfl,aC,aG,aJ,aN⟩
 rw[lQ] at aC
 have ak:ao (aQ s) w w':=(ao.eN af).trans aJ
 have dE:=ak.size
 have sS:(w.alloc (.cells #[.slice t.a t.len t.cap] ah.cc)).heap.size=w.heap.size+1:=J0 _ _
 have lh:∀k,aQ au k→aQ s k∨w.heap.size≤k:=fun k ae=>(aN k ae).imp id fun h=>by omega
 have lz:∀ (x:ab),In B w x→(∀k,aQ x k→¬aQ s k)→∀k,aQ x k→¬aQ au k:=fun x af cD k ae dW=>by
   rcases lh k dW with h|h
   · exact cD k ae h
   · have:=(af k ae).2;omega
 have ke:∀ (x:ab) (y:Key),bH B w x y→(∀k,aQ x k→¬aQ s k)→bH (Grow B w w') w' x y∧∀k,aQ x k→¬aQ au k:=fun x y Hw cD=>⟨bH.bA (bH.rF Hw ak cD) fun k _ h=> .inl h,lz x Hw.2.2 cD⟩
 refine ⟨au,rfl,bZ.mk' (ts:=ts.take i++ [t]++ts.drop i) ?_ ?_ ?_ ?_,ak⟩
 · simp only[eC,ee,fF,ru];omega
 · simpa[EP,GU] using aC
 · intro k ae
   refine ⟨?_,aC.lt k ae⟩
   rcases lh k ae with h|h
   · exact .inl (aq k h).1
   · exact .inr ⟨h,aC.lt k ae⟩
 · intro p aV
   rw[List.zip_append (by simp only[eC,ee,ru];omega),List.zip_append (by simp only[ee];omega),Y_,Za] at aV
   rcases fa.1 aV with aV|aV
   · rcases fa.1 aV with aV|aV
     · obtain ⟨a,b⟩:=aK p (kE aV)
       exact ke _ _ a b
     · simp only[List.zip_cons_cons,List.zip_nil_left,lT] at aV
       subst aV
       exact ke _ _ aU hd
   · obtain ⟨a,b⟩:=aK p (kp aV)
     exact ke _ _ a b
theorem akm:(Tryz.prog.info? ah.cc).bind (·.zero)=some (.slice none 0 0):=by kernel_rfl
theorem Zc {B:Nat→Prop} {w:World} {s:ab} {ls:List Key} {i:Nat} (bG:bZ B w s ls) (aD:ls.length≤100000) (hi:i<ls.length):
   aP Tryz.prog F.yF #[.slice s.a s.len s.cap, .int .i64 (i:Int), .int .i64 ((i+1:Nat):Int)] w
     (fun u w'=>∃au:ab,u= .slice au.a au.len au.cap∧bZ B w' au (ls.take i++ls.drop (i+1))∧ao (aQ s) w w'):=by
 obtain ⟨ts,U,ad,aq,aK⟩:=bZ.out bG
 have gh:s.len=ls.length:=by have:=ad.1;rw[kF] at this;omega
 refine (aj2 (i:=i) ad (N8 ts) (fun z bF u hu=>by
   rw[akm] at bF
   cases bF
   simp[Value.cells] at hu
   subst hu;trivial) (by omega) (by omega)).mono ?_
 rintro _ w' ⟨au,rfl,aC,aG,aJ,aN⟩
 rw[lQ,lQ] at aC
 have dE:=aN.size
 have lh:∀k,aQ au k→aQ s k:=fun k ⟨A,ay,ae⟩=>⟨A,by rw[←aJ];exact ay,ae⟩
 refine ⟨au,rfl,bZ.mk' (ts:=ts.take i++ts.drop (i+1)) ?_ ?_ ?_ ?_,aN⟩
 · simp only[eC,ee,fF];omega
 · simpa[EP,GU] using aC
 · exact fun k ae=>⟨(aq k (lh k ae)).1,aC.lt k ae⟩
 · intro p aV
   rw[List.zip_append (by simp only[ee];omega),Y_,Za] at aV
   have hm:p∈ts.zip ls:=by
     rcases fa.1 aV with aV|aV
     · exact kE aV
     · exact kp aV
   obtain ⟨a,b⟩:=aK p hm
   exact ⟨bH.rF a aN b,fun k ae dW=>b k ae (lh k dW)⟩
theorem akn {B:Nat→Prop} {w:World} {s t:ab} {ls:List Key} {l:Key} {i:Nat} (bG:bZ B w s ls) (aU:bH B w t l) (hd:∀k,aQ t k→¬aQ s k) (hi:i<ls.length):
   ∃A:Addr,s.a=some A∧((0:Int)≤(i:Int)∧(i:Int)<((s.len:Nat):Int))∧(∃u:Value,w.cell? (A.add (Int.toNat (i:Int)*1))=some u)∧w.frozen? (A.add (Int.toNat (i:Int)*1))=false∧
     bZ B (w.setCell (A.add (Int.toNat (i:Int)*1)) (pP t)) s (ls.set i l)∧ao (aQ s) w (w.setCell (A.add (Int.toNat (i:Int)*1)) (pP t)):=by
 obtain ⟨ts,U,ad,aq,aK⟩:=bG
 obtain ⟨A,ay,aa,ak,aA,fl,yI⟩:=ad.at (i:=i) (v:=pP (ts[i]'(by omega))) (by simp[U,hi])
 have oZ:ao (aQ s) w (w.setCell (A.add (Int.toNat (i:Int)*1)) (pP t)):=ao.set (.refl _ _) (fun _=>fl) _
 refine ⟨A,ay,aa,⟨_,ak⟩,aA,⟨ts.set i t,by simp[U],?_,In.an aq oZ,fun j aW b7=> ?_⟩,oZ⟩
 · have:=yI (pP t)
   rwa[←List.map_set] at this
 · rw[hK] at aW b7
   rw[Nz,Nz]
   by_cases e:i=j
   · rw[if_pos e,if_pos e]
     exact ⟨bH.rF aU oZ hd,hd⟩
   · rw[if_neg e,if_neg e]
     obtain ⟨a,b⟩:=aK j aW b7
     exact ⟨bH.rF a oZ b,b⟩
def pr (n:aO) (k v:Key):aO:=
 if pq n.keys k then {n with vals:=n.vals.set (er n.keys k) v}
 else {n with keys:=n.keys.take (er n.keys k)++ [k]++n.keys.drop (er n.keys k),vals:=n.vals.take (er n.keys k)++ [v]++n.vals.drop (er n.keys k)}
def yJ (n:aO) (k:Key):aO:={n with keys:=n.keys.take (er n.keys k)++n.keys.drop (er n.keys k+1),vals:=n.vals.take (er n.keys k)++n.vals.drop (er n.keys k+1)}
theorem oU.jS {n:aO} (h:oU n):(∀k∈n.keys,k.length≤100000)∧(∀v∈n.vals,v.length≤100000):=⟨fun k ae=>by have:=(h.ok k ae).2;omega,fun v al=>by have:=h.vals v al;omega⟩
def Fl (n:aO) (w:World) (v:Value) (w':World):Prop:=∃K V D:ab,v= .tuple #[fg n K V D, .bool true]∧ck (fun q=>w.heap.size≤q) w' n K V D∧Ext w w'
theorem yK {B:Nat→Prop} {w:World} {n:aO} {K V D aI eS:ab} {key val:Key} (h:ck B w n K V D) (aj:oU n) (aD:n.keys.length≤10000) (ae:Src 1 w aI (a_ key)) (al:Src 1 w eS (a_ val)) (jc:eG key) (qh:val.length≤24):
   aP Tryz.prog F.yK #[fg n K V D, .slice aI.a aI.len aI.cap, .slice eS.a eS.len eS.cap] w (Fl (pr n key val) w):=by
 have jG:=aj.len
 have ld:n.kids.length=0:=by rw[aj.kids];rfl
 have avC:=len8 al
 have fy:key.length≤24:=jc.2
 refine W.ako n.leaf K V D aI eS w _ ?_
 (delta W.yK dA bR ai Hx aF ar bk sq Kp nq dQ dZ bc st dp Kq;dsimp only)
 refine cx (vs:=[.bool n.leaf, .slice K.a K.len K.cap, .slice V.a V.len V.cap, .slice D.a D.len D.cap]) rfl fun ag gx bK k_=> ?_
 refine cx (vs:=[.bool false, .slice none 0 0, .slice none 0 0, .slice none 0 0]) rfl fun aw fU cD mD=> ?_
 have pT:=bK.trans cD
 obtain ⟨cK,bm,bj,bk⟩:=cu (gx.ext cD)
 refine ⟨n.leaf,cK,ff (fun b w'=>b=false∧Ext aw w') (fun q J=>⟨fun aa=> ?_,fun aa=>⟨_,cK,K,bm,V,bj,D,bk,(nP (h.ext pT) (by omega) (by omega) (by omega)).use ?_⟩⟩) ?_⟩
 · rw[aj.leaf] at aa;cases aa
 · rintro _ a8 ⟨b,rfl,gO,eX⟩
   have:=gO.2 (.inl aj)
   subst this
   exact ⟨true,rfl,J _ _ ⟨rfl,eX⟩⟩
 rintro _ a8 ⟨rfl,eX⟩
 have hY:=pT.trans eX
 refine ff (fun b w'=>b=false∧a8=w') (fun q J=>⟨fun h=>(by cases h),fun _=>(va (ae.ext hY)).use ?_⟩) ?_
 · rintro _ _ ⟨rfl,rfl⟩
   exact ⟨_,rfl,J _ _ ⟨by simp[jc],rfl⟩⟩
 rintro _ _ ⟨rfl,rfl⟩
 obtain ⟨cK,bm,bj,bk⟩:=cu (gx.ext (cD.trans eX))
 refine ⟨fun aa=> ?_,fun _=>⟨_,cK,K,bm,V,bj,D,bk,(fO (h.ext hY) (by omega) (by omega) (by omega) aj.jS.1 aj.jS.2).use ?_⟩⟩
 · have aa:decide ((((eS.len:Nat):Int):Int)>24)=true:=aa
   have:=dL aa;omega
 rintro _ bz ⟨aT,bP,aH,cE,cY,ct,rfl,wP,fz⟩
 have tS:=hY.trans fz
 have Kb:=tS.size
 have avD:=hY.size
 have avE:=eX.size
 have avF:=fz.size
 refine ⟨n.leaf,aT,bP,aH,rfl,cx (vs:=[.bool false, .slice none 0 0, .slice none 0 0, .slice none 0 0]) rfl fun bO yt kK Oe=>⟨yt.du rfl ?_,rfl,eg yt (us:=[.bool n.leaf, .slice aT.a aT.len aT.cap, .slice bP.a bP.len bP.cap, .slice aH.a aH.len aH.cap]) rfl rfl fun bg u5 qT Ox=> ?_⟩⟩
 · intro v al
   simp only[gg,ml,mm] at al
   rcases al with rfl|rfl|rfl|rfl<;>trivial
 obtain ⟨aL,fl⟩:∃aL,aL=bz.heap.size:=⟨_,rfl⟩
 rw[←fl] at u5 qT⊢
 obtain ⟨lo,mE⟩:∃lo,lo=a8.heap.size:=⟨_,rfl⟩
 rw[←mE] at wP
 have nN:Ext w bg:=Ext.e_ (tS.trans kK) qT (by omega)
 have wQ:Var bg w.heap.size [.bool n.leaf, .slice K.a K.len K.cap, .slice V.a V.len V.cap, .slice D.a D.len D.cap] ah.cR:=(((gx.ext (cD.trans eX)).ext fz).ext kK).an qT (by omega)
 have Zd:Var bg ag.heap.size [.bool false, .slice none 0 0, .slice none 0 0, .slice none 0 0] ah.cR:=(((fU.ext eX).ext fz).ext kK).an qT (by omega)
 have lB:jR lo bg n aT bP aH cE cY ct:=(wP.ext kK).an qT fun q _ _ J e=>by
   subst e
   rcases J with J|J|J
   · have:=(wP.bW _ J).2.1;omega
   · have:=(wP.bv _ J).2.1;omega
   · have:=(wP.bc _ J).2;omega
 obtain ⟨cK,bm,bj,bk⟩:=cu wQ
 have hle:=He n.keys key
 refine ⟨_,cK,K,bm,V,bj,D,bk,(rJ (h.ext nN) (ae.ext nN) aj.j5 (by omega)).use ?_⟩
 rintro _ aS ⟨rfl,eW⟩
 have sh:=nN.trans eW
 have Oy:=eW.size
 refine ⟨_,_,rfl,fun c4=> ?_,fun c4=> ?_⟩
 ·
   have bB:=ej aS
   have lZ:=eW.trans bB
   have a6:er n.keys key<n.keys.length:=by
     have:=dL c4
     exact (qJ.1 this).1
   obtain ⟨d0,d1,d2,d3⟩:=cu (u5.ext lZ)
   refine bN ⟨fun _=>False,id,bP,d2,(u9 (B:=fun q=>aS.heap.size≤q) (al.ext (sh.trans bB)) (by omega) (fun q J=>J)).use ?_⟩
   rintro _ cd ⟨t,rfl,aU,gP,Yr⟩
   have C0:=lZ.trans gP
   have SQ:=lB.ext C0
   have CS:=C0.size
   have akp:bZ (Grow cY aS cd) cd bP n.vals:=bZ.bA SQ.vals fun k _ h=> .inl h
   have wR:∀k,aQ bP k→cY k:=fun k ae=>by obtain ⟨ts,_,_,aq,_⟩:=lB.vals;exact (aq k ae).1
   obtain ⟨A,ay,aa,jF,Kr,yI,oZ⟩:=akn (i:=er n.keys key) akp (bH.bA aU fun k ae h=> .inr ⟨h,ae⟩) (fun k jd dW=>by
     have:=(aU.2.2 k jd).1
     have:=(lB.bv k (wR k dW)).2.1
     omega) (by omega)
   refine ⟨t,rfl,gP,A,ay,aa,jF,Kr,bN ?_⟩
   obtain ⟨bY,Hy⟩:∃bY,bY=cd.setCell (A.add (Int.toNat (er n.keys key:Int)*1)) (pP t):=⟨_,rfl⟩
   rw[←Hy] at yI oZ
   have akq:cd.setCell (A.add (Int.toNat (er n.keys key:Int)*1)) (.slice t.a t.len t.cap)=bY:=Hy.symm
   rw[akq]
   have Ks:ao (fun q=>lo≤q∧q<bg.heap.size∧cY q) cd bY:=oZ.mono fun k _ ae=>⟨(lB.bv k (wR k ae)).1,(lB.bv k (wR k ae)).2.1,wR k ae⟩
   have oY:=(u5.ext C0).an Ks (fun e=>by
     have U:=(wP.bv _ e.2.2).2.1;omega)
   obtain ⟨gX,ba,bp,dM⟩:=cu oY
   have akr:ck (fun q=>lo≤q) bY (pr n key val) aT bP aH:=by
     unfold pr
     rw[if_pos c4]
     refine ⟨bU.bA (bU.an (bZ.oq SQ.keys) Ks fun q J e=>(lB.bW q J).2.2.1 e.2.2) fun q _ J=>(lB.bW q J).1,bU.bA (bZ.oq yI) fun q _ J=> ?_,dG.bA (dG.an (eJ.u7 SQ.kids) Ks fun q J e=>(lB.bv q e.2.2).2.2 J) fun q _ J=>(lB.bc q J).1⟩
     rcases J with J|J
     · exact (lB.bv q J).1
     · omega
   have Ke:(pr n key val).leaf=n.leaf:=by unfold pr;rw[if_pos c4]
   refine ⟨_,gX,aT,ba,bP,bp,aH,dM,rH n.leaf aT bP aH ((Zd.ext C0).an Ks (fun e=>by have:=e.1;omega)) rfl (Q:=fun b K V D aw=>Fl (pr n key val) w (.tuple #[.agg #[.bool b, .slice K.a K.len K.cap, .slice V.a V.len V.cap, .slice D.a D.len D.cap], .bool true]) aw) fun b3 wS=>⟨aT,bP,aH,by unfold fg;rw[Ke],?_,?_⟩⟩
   · exact (akr.an wS fun q J e=>by omega).bA fun q _ J=>by omega
   · exact Ext.e_ (Ext.gv (nN.trans C0) Ks fun k ae=>by omega) wS (by omega)
 ·
   have bB:=ej aS
   have lZ:=eW.trans bB
   have l3:pV lo aS.drew aL n aT bP aH cE cY ct:=by
     have sr:=lB.ext lZ
     refine ⟨u5.ext lZ,sr.keys,sr.vals,sr.kids,fun q J=> ?_,fun q J=> ?_,fun q J=> ?_,by omega⟩
     · have U:=sr.bW q J;have:=(wP.bW q J).2.1;exact ⟨U.1,U.2.1,by omega,U.2.2⟩
     · have U:=sr.bv q J;have:=(wP.bv q J).2.1;exact ⟨U.1,U.2.1,by omega,U.2.2⟩
     · have U:=sr.bc q J;have:=(wP.bc q J).2;exact ⟨U.1,U.2,by omega⟩
   obtain ⟨d0,d1,d2,d3⟩:=cu l3.v
   refine bN ⟨fun _=>False,id,aT,d1,(u9 (B:=fun q=>aS.heap.size≤q) (ae.ext (sh.trans bB)) (by omega) (fun q J=>J)).use ?_⟩
   rintro _ cd ⟨t,rfl,aU,gP,Yr⟩
   have CS:aS.heap.size≤cd.heap.size:=(bB.trans gP).size
   have kL:∀k,aQ aT k→cE k:=fun k ae=>by obtain ⟨ts,_,_,aq,_⟩:=lB.keys;exact (aq k ae).1
   have wR:∀k,aQ bP k→cY k:=fun k ae=>by obtain ⟨ts,_,_,aq,_⟩:=lB.vals;exact (aq k ae).1
   have ov:=l3.ext gP
   refine ⟨t,rfl,gP,bN ⟨iM _ _,(Zb (B:=Grow cE aS cd) (i:=er n.keys key) (bZ.bA ov.keys fun k _ h=> .inl h) (bH.bA aU fun k ae h=> .inr ⟨h,ae⟩) (fun k jd dW=>by
     have:=(aU.2.2 k jd).1
     have:=(lB.bW k (kL k dW)).2.1
     omega) (by omega) hle).use ?_⟩⟩
   rintro _ bY ⟨S,rfl,po,hZ⟩
   have Hz:=hZ.size
   have Kt:ao (fun q=>lo≤q∧cE q) cd bY:=hZ.mono fun k _ ae=>⟨(lB.bW k (kL k ae)).1,kL k ae⟩
   have oY:=ov.v.an Kt fun e=>(ov.bW _ e.2).2.2.1 rfl
   obtain ⟨s1,s2⟩:=kc oY (i:=1) (by simp)
   refine ⟨S,rfl,?_⟩
   rw[aX,aX]
   refine ⟨s1,s2,bN (bN ?_)⟩
   obtain ⟨b3,SR⟩:∃b3,b3=(bY.setCell ⟨aL,0+1,none⟩ (.slice S.a S.len S.cap)).drew:=⟨_,rfl⟩
   rw[←SR]
   have wS:ao (fun q=>q=aL) bY b3:=by rw[SR];exact ao.drew (iV _ _ _ _)
   have Ze:Var b3 aL [.bool n.leaf, .slice S.a S.len S.cap, .slice bP.a bP.len bP.cap, .slice aH.a aH.len aH.cap] ah.cR:=by rw[SR];exact (j_ oY _).drew
   have Oz:=wS.size
   have avG:aL<aS.heap.size:=by have:=u5.lt;omega
   have aks:bZ (fun q=>cE q∨(aS.heap.size≤q∧q<bY.heap.size)) b3 S (n.keys.take (er n.keys key)++ [key]++n.keys.drop (er n.keys key)):=by
     refine bZ.an (bZ.bA po fun k _ ae=> ?_) wS fun k ae e=> ?_
     · rcases ae with (ae|ae)|ae
       · exact .inl ae
       · exact .inr ⟨ae.1,by omega⟩
       · exact .inr ⟨by omega,ae.2⟩
     · subst e
       rcases ae with ae|ae
       · exact (ov.bW _ ae).2.2.1 rfl
       · omega
   have akt:bZ cY b3 bP n.vals:=bZ.an (bZ.an ov.vals Kt fun q J e=>(ov.bW q e.2).2.2.2.1 J) wS fun q J e=>(ov.bv q J).2.2.1 e
   have aku:eJ ct b3 aH n.kids:=eJ.an (eJ.an ov.kids Kt fun q J e=>(ov.bW q e.2).2.2.2.2 J) wS fun q J e=>(ov.bc q J).2.2 e
   have wT:Ext w b3:=Ext.gv (Ext.gv ((sh.trans bB).trans gP) Kt fun k ae=>by omega) wS fun k ae=>by omega
   obtain ⟨f0,f1,f2,f3⟩:=cu Ze
   rw[aX] at f2
   refine ⟨fun _=>False,id,bP,f2,(u9 (B:=fun q=>b3.heap.size≤q) (al.ext wT) (by omega) (fun q J=>J)).use ?_⟩
   rintro _ cf ⟨t2,rfl,nQ,qS,aiW⟩
   have akv:=qS.size
   refine ⟨t2,rfl,qS,bN ⟨iM _ _,(Zb (B:=Grow cY b3 cf) (i:=er n.keys key) (bZ.bA (bZ.ext akt qS) fun k _ h=> .inl h) (bH.bA nQ fun k ae h=> .inr ⟨h,ae⟩) (fun k jd dW=>by
     have:=(nQ.2.2 k jd).1
     have:=(lB.bv k (wR k dW)).2.1
     omega) (by omega) (by omega)).use ?_⟩⟩
   rintro _ cy ⟨iD,rfl,Au,ub⟩
   have Zf:=ub.size
   have Ku:ao (fun q=>lo≤q∧cY q) cf cy:=ub.mono fun k _ ae=>⟨(lB.bv k (wR k ae)).1,wR k ae⟩
   have Zg:=(Ze.ext qS).an Ku fun e=>(ov.bv _ e.2).2.2.1 rfl
   obtain ⟨s1,s2⟩:=kc Zg (i:=2) (by simp)
   refine ⟨iD,rfl,?_⟩
   rw[aX,aX]
   refine ⟨s1,s2,bN ?_⟩
   obtain ⟨b4,yL⟩:∃b4,b4=cy.setCell ⟨aL,0+2,none⟩ (.slice iD.a iD.len iD.cap):=⟨_,rfl⟩
   rw[←yL]
   have pW:ao (fun q=>q=aL) cy b4:=by rw[yL];exact iV _ _ _ _
   have AB:Var b4 aL [.bool n.leaf, .slice S.a S.len S.cap, .slice iD.a iD.len iD.cap, .slice aH.a aH.len aH.cap] ah.cR:=by rw[yL];exact j_ Zg _
   have Kv:=pW.size
   obtain ⟨Kw,aC,aG,aJ⟩:=cu AB
   rw[aX] at aC aG aJ
   have Fk:ck (fun q=>lo≤q) b4 (pr n key val) S iD aH:=by
     unfold pr
     rw[if_neg (by rw[c4];simp)]
     refine ⟨?_,?_,?_⟩
     · refine bU.bA (bZ.oq (bZ.an (bZ.an (bZ.ext aks qS) Ku fun q J e=> ?_) pW fun q J e=> ?_)) fun q _ J=> ?_
       · rcases J with J|J
         · exact (ov.bW q J).2.2.2.1 e.2
         · have:=(lB.bv q e.2).2.1;omega
       · subst e
         rcases J with J|J
         · exact (ov.bW _ J).2.2.1 rfl
         · omega
       · rcases J with J|J
         · exact (ov.bW q J).1
         · omega
     · refine bU.bA (bZ.oq (bZ.an Au pW fun q J e=> ?_)) fun q _ J=> ?_
       · subst e
         rcases J with (J|J)|J
         · exact (ov.bv _ J).2.2.1 rfl
         · omega
         · omega
       · rcases J with (J|J)|J
         · exact (ov.bv q J).1
         · omega
         · omega
     · exact dG.bA (eJ.u7 (eJ.an (eJ.an (eJ.ext aku qS) Ku fun q J e=>(ov.bv q e.2).2.2.2 J) pW fun q J e=>(ov.bc q J).2.2 e)) fun q _ J=>(ov.bc q J).1
   have akw:(pr n key val).leaf=n.leaf:=by unfold pr;rw[if_neg (by rw[c4];simp)]
   have vk:Ext w b4:=Ext.gv (Ext.gv (wT.trans qS) Ku fun k ae=>by omega) pW fun k ae=>by omega
   have Kn:Var b4 ag.heap.size [.bool false, .slice none 0 0, .slice none 0 0, .slice none 0 0] ah.cR:=by
     have U:=Zd.ext (lZ.trans gP)
     have ad:=(U.an Kt (fun e=>by have:=e.1;omega)).an wS (by omega)
     exact ((ad.ext qS).an Ku (fun e=>by have:=e.1;omega)).an pW (by omega)
   rw[aX,aX]
   refine ⟨_,Kw,S,aC,iD,aG,aH,aJ,?_⟩
   have:=rH n.leaf S iD aH Kn rfl (Q:=fun b K V D aw=>Fl (pr n key val) w (.tuple #[.agg #[.bool b, .slice K.a K.len K.cap, .slice V.a V.len V.cap, .slice D.a D.len D.cap], .bool true]) aw) fun dB gy=>⟨S,iD,aH,by unfold fg;rw[akw],(Fk.an gy fun q J e=>by omega).bA fun q _ J=>by omega,Ext.e_ vk gy (by omega)⟩
   simpa only[aX] using this
end
section
def HA (n:aO) (key:Key) (w:World) (v:Value) (w':World):Prop:=
 if pq n.keys key then Fl (yJ n key) w v w' else v= .tuple #[fg rG cg cg cg, .bool false]∧Ext w w'
theorem yM {B:Nat→Prop} {w:World} {n:aO} {K V D aI:ab} {key:Key} (h:ck B w n K V D) (aj:oU n) (aD:n.keys.length≤10000) (ae:Src 1 w aI (a_ key)):
   aP Tryz.prog F.yM #[fg n K V D, .slice aI.a aI.len aI.cap] w (HA n key w):=by
 have jG:=aj.len
 have ld:n.kids.length=0:=by rw[aj.kids];rfl
 refine W.akx n.leaf K V D aI w _ ?_
 (delta W.yM dA bR ai ar dQ Hx aF bk sq Kp nq dZ aE st dp Kq;dsimp only)
 refine cx (vs:=[.bool n.leaf, .slice K.a K.len K.cap, .slice V.a V.len V.cap, .slice D.a D.len D.cap]) rfl fun ag gx bK k_=> ?_
 refine cx (vs:=[.bool false, .slice none 0 0, .slice none 0 0, .slice none 0 0]) rfl fun aw fU cD mD=> ?_
 have pT:=bK.trans cD
 obtain ⟨cK,bm,bj,bk⟩:=cu (gx.ext cD)
 refine ⟨_,cK,K,bm,V,bj,D,bk,(rJ (h.ext pT) (ae.ext pT) aj.j5 (by omega)).use ?_⟩
 rintro _ a8 ⟨rfl,eX⟩
 have hY:=pT.trans eX
 obtain ⟨cK,bm,bj,bk⟩:=cu (gx.ext (cD.trans eX))
 refine ⟨_,_,rfl,n.leaf,cK,ff (fun b w'=>b=false∧Ext a8 w') (fun q J=>⟨fun aa=> ?_,fun aa=>⟨_,cK,K,bm,V,bj,D,bk,(nP (h.ext hY) (by omega) (by omega) (by omega)).use ?_⟩⟩) ?_⟩
 · rw[aj.leaf] at aa;cases aa
 · rintro _ bz ⟨b,rfl,gO,fz⟩
   have:=gO.2 (.inl aj)
   subst this
   exact ⟨true,rfl,J _ _ ⟨rfl,fz⟩⟩
 rintro _ bz ⟨rfl,fz⟩
 have tS:=hY.trans fz
 have HB:=fz.size
 have Fm:=eX.size
 have Zh:=fU.ext (eX.trans fz)
 refine ⟨fun aa=> ?_,fun aa=> ?_⟩
 · have aa:pq n.keys key=false:=by simpa using aa
   refine rH false cg cg cg Zh rfl (Q:=fun b K V D aw=>HA n key w (.tuple #[.agg #[.bool b, .slice K.a K.len K.cap, .slice V.a V.len V.cap, .slice D.a D.len D.cap], .bool false]) aw) fun bO lY=> ?_
   unfold HA
   rw[if_neg (by rw[aa];simp)]
   exact ⟨rfl,Ext.e_ tS lY (by omega)⟩
 have c4:pq n.keys key=true:=by simpa using aa
 have a6:er n.keys key<n.keys.length:=(qJ.1 (dL c4)).1
 obtain ⟨cK,bm,bj,bk⟩:=cu (gx.ext (cD.trans (eX.trans fz)))
 refine ⟨_,cK,K,bm,V,bj,D,bk,(fO (h.ext tS) (by omega) (by omega) (by omega) aj.jS.1 aj.jS.2).use ?_⟩
 rintro _ bO ⟨aT,bP,aH,cE,cY,ct,rfl,vl,kK⟩
 have qR:=tS.trans kK
 have OA:=kK.size
 refine ⟨n.leaf,aT,bP,aH,rfl,cx (vs:=[.bool false, .slice none 0 0, .slice none 0 0, .slice none 0 0]) rfl fun bg u5 kt Ox=>⟨u5.du rfl ?_,rfl,eg u5 (us:=[.bool n.leaf, .slice aT.a aT.len aT.cap, .slice bP.a bP.len bP.cap, .slice aH.a aH.len aH.cap]) rfl rfl fun aS Hn qV HC=> ?_⟩⟩
 · intro v al
   simp only[gg,ml,mm] at al
   rcases al with rfl|rfl|rfl|rfl<;>trivial
 obtain ⟨aL,fl⟩:∃aL,aL=bO.heap.size:=⟨_,rfl⟩
 rw[←fl] at Hn qV⊢
 obtain ⟨lo,mE⟩:∃lo,lo=bz.heap.size:=⟨_,rfl⟩
 rw[←mE] at vl
 have sh:Ext w aS:=Ext.e_ (qR.trans kt) qV (by omega)
 have SS:Var aS ag.heap.size [.bool false, .slice none 0 0, .slice none 0 0, .slice none 0 0] ah.cR:=((Zh.ext kK).ext kt).an qV (by omega)
 have l3:pV lo aS aL n aT bP aH cE cY ct:=by
   have sr:jR lo aS n aT bP aH cE cY ct:=(vl.ext kt).an qV fun q _ _ J e=>by
     subst e
     rcases J with J|J|J
     · have:=(vl.bW _ J).2.1;omega
     · have:=(vl.bv _ J).2.1;omega
     · have:=(vl.bc _ J).2;omega
   refine ⟨Hn,sr.keys,sr.vals,sr.kids,fun q J=> ?_,fun q J=> ?_,fun q J=> ?_,by omega⟩
   · have U:=sr.bW q J;have:=(vl.bW q J).2.1;exact ⟨U.1,U.2.1,by omega,U.2.2⟩
   · have U:=sr.bv q J;have:=(vl.bv q J).2.1;exact ⟨U.1,U.2.1,by omega,U.2.2⟩
   · have U:=sr.bc q J;have:=(vl.bc q J).2;exact ⟨U.1,U.2,by omega⟩
 have kL:∀k,aQ aT k→cE k:=fun k ae=>by obtain ⟨ts,_,_,aq,_⟩:=l3.keys;exact (aq k ae).1
 have wR:∀k,aQ bP k→cY k:=fun k ae=>by obtain ⟨ts,_,_,aq,_⟩:=l3.vals;exact (aq k ae).1
 obtain ⟨d0,d1,d2,d3⟩:=cu l3.v
 have avH:=l3.v.lt
 rw[cL (n:=((er n.keys key:Nat):Int)+1) (by omega) (by omega)]
 refine ⟨aT,d1,(Zc l3.keys (by omega) a6).use ?_⟩
 rintro _ cd ⟨S,rfl,po,yC⟩
 have Kx:ao (fun q=>lo≤q∧cE q) aS cd:=yC.mono fun k _ ae=>⟨(l3.bW k (kL k ae)).1,kL k ae⟩
 have sX:=l3.v.an Kx fun e=>(l3.bW _ e.2).2.2.1 rfl
 obtain ⟨s1,s2⟩:=kc sX (i:=1) (by simp)
 refine ⟨S,rfl,?_⟩
 rw[aX,aX]
 refine ⟨s1,s2,bN ?_⟩
 obtain ⟨bY,Hy⟩:∃bY,bY=cd.setCell ⟨aL,0+1,none⟩ (.slice S.a S.len S.cap):=⟨_,rfl⟩
 rw[←Hy]
 have hZ:ao (fun q=>q=aL) cd bY:=by rw[Hy];exact iV _ _ _ _
 have Zi:Var bY aL [.bool n.leaf, .slice S.a S.len S.cap, .slice bP.a bP.len bP.cap, .slice aH.a aH.len aH.cap] ah.cR:=by rw[Hy];exact j_ sX _
 have aky:bZ cE bY S (n.keys.take (er n.keys key)++n.keys.drop (er n.keys key+1)):=bZ.an po hZ fun q J e=>(l3.bW q J).2.2.1 e
 have akz:bZ cY bY bP n.vals:=bZ.an (bZ.an l3.vals Kx fun q J e=>(l3.bW q e.2).2.2.2.1 J) hZ fun q J e=>(l3.bv q J).2.2.1 e
 have akA:eJ ct bY aH n.kids:=eJ.an (eJ.an l3.kids Kx fun q J e=>(l3.bW q e.2).2.2.2.2 J) hZ fun q J e=>(l3.bc q J).2.2 e
 obtain ⟨f0,f1,f2,f3⟩:=cu Zi
 rw[aX] at f2
 refine ⟨bP,f2,(Zc akz (by omega) (by omega)).use ?_⟩
 rintro _ b3 ⟨iD,rfl,Au,wS⟩
 have Ky:ao (fun q=>lo≤q∧cY q) bY b3:=wS.mono fun k _ ae=>⟨(l3.bv k (wR k ae)).1,wR k ae⟩
 have Kz:=Zi.an Ky fun e=>(l3.bv _ e.2).2.2.1 rfl
 obtain ⟨s1,s2⟩:=kc Kz (i:=2) (by simp)
 refine ⟨iD,rfl,?_⟩
 rw[aX,aX]
 refine ⟨s1,s2,bN ?_⟩
 obtain ⟨cf,KA⟩:∃cf,cf=b3.setCell ⟨aL,0+2,none⟩ (.slice iD.a iD.len iD.cap):=⟨_,rfl⟩
 rw[←KA]
 have yN:ao (fun q=>q=aL) b3 cf:=by rw[KA];exact iV _ _ _ _
 have akB:Var cf aL [.bool n.leaf, .slice S.a S.len S.cap, .slice iD.a iD.len iD.cap, .slice aH.a aH.len aH.cap] ah.cR:=by rw[KA];exact j_ Kz _
 obtain ⟨Kw,aC,aG,aJ⟩:=cu akB
 have iP:ck (fun q=>lo≤q) cf (yJ n key) S iD aH:=by
   refine ⟨?_,?_,?_⟩
   · exact bU.bA (bZ.oq (bZ.an (bZ.an aky Ky fun q J e=>(l3.bW q J).2.2.2.1 e.2) yN fun q J e=>(l3.bW q J).2.2.1 e)) fun q _ J=>(l3.bW q J).1
   · exact bU.bA (bZ.oq (bZ.an Au yN fun q J e=>(l3.bv q J).2.2.1 e)) fun q _ J=>(l3.bv q J).1
   · exact dG.bA (eJ.u7 (eJ.an (eJ.an akA Ky fun q J e=>(l3.bv q e.2).2.2.2 J) yN fun q J e=>(l3.bc q J).2.2 e)) fun q _ J=>(l3.bc q J).1
 have vm:Ext w cf:=Ext.gv (Ext.gv (Ext.gv (Ext.gv sh Kx fun k ae=>by omega) hZ fun k ae=>by omega) Ky fun k ae=>by omega) yN fun k ae=>by omega
 have akC:Var cf ag.heap.size [.bool false, .slice none 0 0, .slice none 0 0, .slice none 0 0] ah.cR:=
   (((SS.an Kx (fun e=>by have:=e.1;omega)).an hZ (by omega)).an Ky (fun e=>by have:=e.1;omega)).an yN (by omega)
 refine ⟨_,Kw,S,aC,iD,aG,aH,aJ,rH n.leaf S iD aH akC rfl (Q:=fun b K V D aw=>HA n key w (.tuple #[.agg #[.bool b, .slice K.a K.len K.cap, .slice V.a V.len V.cap, .slice D.a D.len D.cap], .bool true]) aw) fun cy ub=> ?_⟩
 unfold HA
 rw[if_pos c4]
 exact ⟨S,iD,aH,rfl,(iP.an ub fun q J e=>by omega).bA fun q _ J=>by omega,Ext.e_ vm ub (by omega)⟩
theorem SU {n:aO} (aj:ei n) (m:Nat):((cellsOf n).take m).sum≤100*n.keys.length:=by
 have U:((cellsOf n).take m).sum≤(cellsOf n).sum:=by
   have:=RT (cellsOf n) m;omega
 have ad:=R_ aj n.keys.length (cP _)
 rw[hU (by rw[Hl aj];exact cP _)] at ad
 have aq:=Sw aj n.keys.length (cP _)
 omega
theorem s0 {B:Nat→Prop} {w:World} {n:aO} {K V D:ab} (h:ck B w n K V D) (aj:ei n) (aD:n.keys.length≤10000) {most:Nat} (hm:most≤n.keys.length):
   aP Tryz.prog F.s0 #[fg n K V D, .int .i64 ((most:Nat):Int)] w (fun v w'=>v= .int .i64 ((mW (cellsOf n) most:Nat):Int)∧Ext w w'):=by
 refine W.akD n.leaf K V D ((most:Nat):Int) w _ ?_
 (delta W.s0 ar ai aF bR dZ aE;dsimp only)
 refine cx (vs:=[.bool n.leaf, .slice K.a K.len K.cap, .slice V.a V.len V.cap, .slice D.a D.len D.cap]) rfl fun ag kZ bK _=> ?_
 obtain ⟨cK,bm,bj,bk⟩:=cu kZ
 have CQ:=bU.len h.keys
 have qg:=Hl aj
 have jF:∀ (j:Nat) (aZ:j<(cellsOf n).length),(cellsOf n)[j]=(oo n j).length:=fun j aZ=>by
   have U:=R9 aj (i:=j) (by omega)
   rw[gT aZ] at U
   exact Option.some.inj U
 refine ⟨K,bm,fun a i w'=>∃j:Nat,i=j∧j≤n.keys.length∧a=((((cellsOf n).take j).sum:Nat):Int)∧Ext ag w',fun _ i _=>((n.keys.length:Int)-i).toNat,⟨0,rfl,fi _,by simp, .refl _ _⟩,?_⟩
 rintro _ _ aw ⟨j,rfl,aZ,rfl,cD⟩
 obtain ⟨d0,d1,d2,d3⟩:=cu (kZ.ext cD)
 refine ⟨fun a6=> ?_,fun cm=> ?_⟩
 · have a6:j<n.keys.length:=by have:=dL a6;omega
   refine ⟨_,d0,K,d1,V,d2,D,d3,(sY (h.ext (bK.trans cD)) aj a6 (by omega)).use ?_⟩
   rintro _ a8 ⟨s,rfl,bG,eX,_⟩
   have aB:=Aj bG
   have aa:=SU aj j
   have ak:=N9 aj a6
   have e:=G9 (l:=cellsOf n) (i:=j) (by omega)
   rw[jF j (by omega)] at e
   refine ⟨s,rfl,?_⟩
   rw[aB,cL (n:=((((cellsOf n).take j).sum:Nat):Int)+(((oo n j).length:Nat):Int)) (by omega) (by omega),cL (n:=(j:Int)+1) (by omega) (by omega)]
   refine ⟨⟨j+1,by omega,by omega,by omega,cD.trans eX⟩,?_⟩
   show ((n.keys.length:Int)-((j:Int)+1)).toNat<((n.keys.length:Int)-(j:Int)).toNat
   omega
 have cm:j=n.keys.length:=by have:=fb cm;omega
 subst cm
 rw[hU (l:=cellsOf n) (by omega)]
 refine ⟨fun a i w'=>∃j:Nat,i=j∧j≤most∧a=((((cellsOf n).take j).sum:Nat):Int)∧Ext ag w'∧∀k,k<j→2*((cellsOf n).take (k+1)).sum<(cellsOf n).sum,fun _ i _=>((most:Int)-i).toNat,⟨0,rfl,fi _,by simp,cD,fun k ae=>by omega⟩,?_⟩
 rintro _ _ bz ⟨j,rfl,aZ,rfl,fz,c8⟩
 obtain ⟨d0,d1,d2,d3⟩:=cu (kZ.ext fz)
 have gj:=SU aj (cellsOf n).length
 rw[r9] at gj
 refine ⟨fun a6=> ?_,fun cm=> ?_⟩
 · have a6:j<most:=by have:=dL a6;omega
   refine ⟨_,d0,K,d1,V,d2,D,d3,(sY (h.ext (bK.trans fz)) aj (by omega) (by omega)).use ?_⟩
   rintro _ bO ⟨s,rfl,bG,kK,_⟩
   have aB:=Aj bG
   have aa:=SU aj j
   have ak:=N9 aj (i:=j) (by omega)
   have e:=G9 (l:=cellsOf n) (i:=j) (by omega)
   rw[jF j (by omega)] at e
   refine ⟨s,rfl,?_⟩
   rw[aB,cL (n:=((((cellsOf n).take j).sum:Nat):Int)+(((oo n j).length:Nat):Int)) (by omega) (by omega),cL (n:=2*(((((cellsOf n).take j).sum:Nat):Int)+(((oo n j).length:Nat):Int))) (by omega) (by omega),cL (n:=(j:Int)+1) (by omega) (by omega)]
   refine ⟨fun hd=>⟨?_,bK.trans (fz.trans kK)⟩,fun hd=>⟨⟨j+1,by omega,by omega,by omega,fz.trans kK,fun k ae=> ?_⟩,?_⟩⟩
   · have hd:=dL hd
     have yO:(List.range most).find? (fun i=>decide ((cellsOf n).sum≤2*((cellsOf n).take (i+1)).sum))=some j:=by
       have:=ly a6 (cP most)
       rw[List.find?_eq_some_iff_append]
       refine ⟨ik (by omega),List.range j,List.range' (j+1) (most-(j+1)),?_,fun a aR=> ?_⟩
       · have ba:=List.range'_append (s:=0) (m:=j) (n:=most-(j+1)+1) (step:=1)
         rw[NA,NA,←List.range'_succ]
         rw[Nat.one_mul,gJ] at ba
         rw[ba]
         congr 1
         omega
       · have:=c8 a (wi.1 aR)
         simp;omega
     unfold mW
     rw[yO];rfl
   · have hd:=fb hd
     rcases hJ k j with U|U
     · exact c8 k U
     · have:k=j:=by omega
       subst this;omega
   · show ((most:Int)-((j:Int)+1)).toNat<((most:Int)-(j:Int)).toNat
     omega
 · have cm:j=most:=by have:=fb cm;omega
   subst cm
   refine ⟨?_,bK.trans fz⟩
   have yO:(List.range j).find? (fun i=>decide ((cellsOf n).sum≤2*((cellsOf n).take (i+1)).sum))=none:=by
     rw[rv]
     intro a aR
     have:=c8 a (wi.1 aR)
     simp;omega
   unfold mW
   rw[yO]
end
section
theorem bU.sub {B:Nat→Prop} {w:World} {s:ab} {ls:List Key} {lo hi:Nat} (h:bU B w s ls) (U:lo≤hi) (ad:hi≤ls.length):bU B w ⟨bh s.a 1 lo s.cap,hi-lo,s.cap-lo⟩ ((ls.drop lo).take (hi-lo)):=by
 have aB:=bU.len h
 obtain ⟨ts,aC,aG,aJ,aN,cX⟩:=h
 refine ⟨(ts.drop lo).take (hi-lo),by simp[aC],?_,by show hi-lo≤s.cap-lo;omega,fun k ae=> ?_,fun i aq aK=> ?_⟩
 · have:=Src.sub aG aJ U (by omega)
   simpa[GU,EP] using this
 · obtain ⟨A,ay,aa⟩:=N_ ae
   exact aN k ⟨A,ay,aa⟩
 · simp only[GW,JL]
   rw[ee,fF] at aq aK
   exact cX (lo+i) (by omega) (by omega)
theorem bU.le {B:Nat→Prop} {w:World} {s:ab} {ls:List Key} (h:bU B w s ls):s.len≤s.cap:=by
 obtain ⟨ts,_,_,aq,_⟩:=h
 exact aq
theorem dG.sub {B:Nat→Prop} {w:World} {s:ab} {ds:List Nat} {lo hi:Nat} (h:dG B w s ds) (U:lo≤hi) (ad:hi≤ds.length):dG B w ⟨bh s.a 1 lo s.cap,hi-lo,s.cap-lo⟩ ((ds.drop lo).take (hi-lo)):=by
 have aB:=dG.len h
 obtain ⟨aG,aJ,aN⟩:=h
 have avI:s.len≤s.cap:=aJ
 refine ⟨?_,by show hi-lo≤s.cap-lo;omega,fun k ae=> ?_⟩
 · have:=Src.sub aG aJ U (by omega)
   simpa[kY,GU,EP] using this
 · obtain ⟨A,ay,aa⟩:=N_ ae
   exact aN k ⟨A,ay,aa⟩
theorem lC (b:Bool) (K V D:ab):∀v∈([.bool b, .slice K.a K.len K.cap, .slice V.a V.len V.cap, .slice D.a D.len D.cap]:List Value),Plain v:=by
 intro v al
 simp only[gg,ml,mm] at al
 rcases al with rfl|rfl|rfl|rfl<;>trivial
theorem HD {nr:World} {ar bD:Nat} {SV Zj:List Value} {c3 cG:Bool} {dX ey b9 c6 c_ da:ab} (U:Var nr ar SV ah.cR) (ad:Var nr bD Zj ah.cR) (qY:SV.length=4) (qZ:Zj.length=4) (dN:ar≠bD) {W:Nat→Prop} (dY:∀q,q=ar→W q)
   {Q:Bool→ab→ab→ab→Bool→ab→ab→ab→World→Prop} (yA:∀jI,ao (fun q=>q=ar∨q=bD) nr jI→Q c3 dX ey b9 cG c6 c_ da jI):
   cT nr ⟨ar,0,none⟩ [.bool c3, .slice dX.a dX.len dX.cap, .slice ey.a ey.len ey.cap, .slice b9.a b9.len b9.cap]∧(4:Nat)=4∧az (setCells nr ⟨ar,0,none⟩ 0 [.bool c3, .slice dX.a dX.len dX.cap, .slice ey.a ey.len ey.cap, .slice b9.a b9.len b9.cap]) fun lj=>
     ao W nr lj∧cT lj ⟨bD,0,none⟩ [.bool cG, .slice c6.a c6.len c6.cap, .slice c_.a c_.len c_.cap, .slice da.a da.len da.cap]∧(4:Nat)=4∧az (setCells lj ⟨bD,0,none⟩ 0 [.bool cG, .slice c6.a c6.len c6.cap, .slice c_.a c_.len c_.cap, .slice da.a da.len da.cap]) fun jI=>
     ∃OB:Bool,jI.cell? ⟨ar,0,none⟩=some (.bool OB)∧∃qm:ab,jI.cell? (Addr.add ⟨ar,0,none⟩ 1)=some (.slice qm.a qm.len qm.cap)∧∃kx:ab,jI.cell? (Addr.add ⟨ar,0,none⟩ 2)=some (.slice kx.a kx.len kx.cap)∧∃pX:ab,jI.cell? (Addr.add ⟨ar,0,none⟩ 3)=some (.slice pX.a pX.len pX.cap)∧
     ∃q0:Bool,jI.cell? ⟨bD,0,none⟩=some (.bool q0)∧∃iW:ab,jI.cell? (Addr.add ⟨bD,0,none⟩ 1)=some (.slice iW.a iW.len iW.cap)∧∃g5:ab,jI.cell? (Addr.add ⟨bD,0,none⟩ 2)=some (.slice g5.a g5.len g5.cap)∧∃g6:ab,jI.cell? (Addr.add ⟨bD,0,none⟩ 3)=some (.slice g6.a g6.len g6.cap)∧Q OB qm kx pX q0 iW g5 g6 jI:=by
 refine ⟨U.du (by rw[qY];rfl) (lC _ _ _ _),rfl,eg U (us:=[.bool c3, .slice dX.a dX.len dX.cap, .slice ey.a ey.len ey.cap, .slice b9.a b9.len b9.cap]) (by rw[qY];rfl) rfl fun lj kZ gF _=> ?_⟩
 have Fo:=ad.an gF (fun e=>dN e.symm)
 refine ⟨gF.mono fun q _ h=>dY q h,Fo.du (by rw[qZ];rfl) (lC _ _ _ _),rfl,eg Fo (us:=[.bool cG, .slice c6.a c6.len c6.cap, .slice c_.a c_.len c_.cap, .slice da.a da.len da.cap]) (by rw[qZ];rfl) rfl fun jI hD dh _=> ?_⟩
 obtain ⟨cK,bm,bj,bk⟩:=cu (kZ.an dh dN)
 obtain ⟨d0,d1,d2,d3⟩:=cu hD
 exact ⟨c3,cK,dX,bm,ey,bj,b9,bk,cG,d0,c6,d1,c_,d2,da,d3,yA jI ((gF.mono fun q _ h=> .inl h).trans (dh.mono fun q _ h=> .inr h))⟩
def Fp (n:aO) (w:World) (v:Value) (w':World):Prop:=
 ∃ (dX ey b9 c6 c_ da t:ab),v= .tuple #[fg (n.left (dm n)) dX ey b9, .slice t.a t.len t.cap,fg (n.right (dm n)) c6 c_ da, .bool true]∧
   ck (fun q=>w.heap.size≤q) w' (n.left (dm n)) dX ey b9∧ck (fun q=>w.heap.size≤q) w' (n.right (dm n)) c6 c_ da∧bH (fun q=>w.heap.size≤q) w' t (n.keys.getD (dm n) [])∧Ext w w'
theorem yP {B:Nat→Prop} {w:World} {n:aO} {K V D:ab} (h:ck B w n K V D) (aj:ei n) (aD:n.keys.length≤10000) (g4:1≤dm n)
   (gW:if n.leaf then dm n≤n.keys.length-1∧1≤n.keys.length-1 else dm n≤n.keys.length-2∧1≤n.keys.length-2):
   aP Tryz.prog F.yP #[fg n K V D] w (Fp n w):=by
 have jG:n.vals.length≤10000:=by
   rcases aj with aj|aj
   · rw[aj.len];omega
   · rw[aj.vals];simp
 have ld:n.kids.length≤10001:=by
   rcases aj with aj|aj
   · rw[aj.kids];simp
   · rw[aj.len];omega
 have fy:∀k∈n.keys,k.length≤100000:=fun k ae=>by have:=(aj.keys.ok k ae).2;omega
 have C1:∀k∈n.vals,k.length≤100000:=fun k ae=>by have:=aj.vals k ae;omega
 have CQ:=bU.len h.keys
 obtain ⟨most,C2⟩:∃most,most=if n.leaf then n.keys.length-1 else n.keys.length-2:=⟨_,rfl⟩
 have iE:1≤most∧most≤n.keys.length∧dm n≤most:=by
   rw[C2]
   cases aB:n.leaf<;>rw[aB] at gW<;>simp at gW⊢<;>omega
 have vn:dm n<n.keys.length:=by
   cases aB:n.leaf<;>rw[aB] at gW<;>simp at gW<;>omega
 refine W.akE n.leaf K V D w _ ?_
 (delta W.yP dA ar ai bR aF aE bk nq bj bc dZ yQ;dsimp only)
 refine cx (vs:=[.bool n.leaf, .slice K.a K.len K.cap, .slice V.a V.len V.cap, .slice D.a D.len D.cap]) rfl fun ag gx bK nM=> ?_
 refine cx (vs:=[.bool false, .slice none 0 0, .slice none 0 0, .slice none 0 0]) rfl fun aw lg cD tR=> ?_
 refine cx (vs:=[.bool false, .slice none 0 0, .slice none 0 0, .slice none 0 0]) rfl fun a8 fU eX Fm=> ?_
 have hY:=bK.trans (cD.trans eX)
 obtain ⟨cK,bm,bj,bk⟩:=cu ((gx.ext cD).ext eX)
 refine ⟨K,bm,ff (fun m w'=>m=((most:Nat):Int)∧a8=w') (fun q J=>⟨n.leaf,cK,fun aa=>J _ _ ⟨?_,rfl⟩,fun aa=>J _ _ ⟨?_,rfl⟩⟩) ?_⟩
 · have aa:n.leaf=false:=by simpa using aa
   rw[aa] at gW C2
   simp at gW C2
   rw[cL (n:=((K.len:Nat):Int)-1) (by omega) (by omega),cL (by omega) (by omega)]
   omega
 · have aa:n.leaf=true:=by simpa using aa
   rw[aa] at gW C2
   simp at gW C2
   rw[cL (by omega) (by omega)]
   omega
 rintro _ _ ⟨rfl,rfl⟩
 refine ⟨_,cK,K,bm,V,bj,D,bk,(nP (h.ext hY) (by omega) (by omega) (by omega)).use ?_⟩
 rintro _ bz ⟨b,rfl,aa,fz⟩
 have Sx:=aa.2 aj
 subst Sx
 have bB:=ej bz
 have qR:=hY.trans (fz.trans bB)
 have OC:=((gx.ext cD).ext eX).ext (fz.trans bB)
 have SW:=(lg.ext eX).ext (fz.trans bB)
 have SX:=fU.ext (fz.trans bB)
 have OA:=(fz.trans bB).size
 obtain ⟨cK,bm,bj,bk⟩:=cu OC
 refine ⟨true,rfl,fun h=> ?_,fun _=>bN ⟨fun _=>False,id,_,cK,K,bm,V,bj,D,bk,id,_,cK,K,bm,V,bj,D,bk,⟨?_,?_⟩⟩⟩
 · simp only[Bool.not_true,G2] at h
   have:=dL h;omega
 · refine (fO (h.ext qR) (by omega) (by omega) (by omega) fy C1).use ?_
   rintro _ bg ⟨aT,bP,aH,cE,cY,ct,rfl,lB,kt⟩
   refine ⟨n.leaf,aT,bP,aH,rfl,kt,⟨?_,?_⟩⟩
   · refine (s0 (h.ext (qR.trans kt)) aj aD (most:=most) iE.2.1).use ?_
     rintro _ aS ⟨rfl,eW⟩
     refine ⟨_,rfl,eW,cx (vs:=[.bool false, .slice none 0 0, .slice none 0 0, .slice none 0 0]) rfl fun cd sX gP CS=>⟨gP,sX.du rfl (lC _ _ _ _),rfl,eg sX (us:=[.bool n.leaf, .slice aT.a aT.len aT.cap, .slice bP.a bP.len bP.cap, .slice aH.a aH.len aH.cap]) rfl rfl fun bY oY hZ Hz=> ?_⟩⟩
     have Oy:=kt.size
     have CZ:=eW.size
     obtain ⟨aL,fl⟩:∃aL,aL=aS.heap.size:=⟨_,rfl⟩
     rw[←fl] at oY hZ⊢
     have s3:=kt.trans (eW.trans gP)
     have wU:jR bz.heap.size bY n aT bP aH cE cY ct:=(lB.ext (eW.trans gP)).an hZ fun q _ _ J e=>by
       subst e
       rcases J with J|J|J
       · have:=(lB.bW _ J).2.1;omega
       · have:=(lB.bv _ J).2.1;omega
       · have:=(lB.bc _ J).2;omega
     have Zk:bz.drew.heap.size=bz.heap.size:=rfl
     have s4:Ext w bY:=Ext.e_ (qR.trans s3) hZ (by omega)
     have C3:=(OC.ext s3).an hZ (by omega)
     have C4:=(SW.ext s3).an hZ (by omega)
     have C5:=(SX.ext s3).an hZ (by omega)
     have KB:mW (cellsOf n) most=dm n:=by unfold dm;rw[C2]
     rw[KB]
     obtain ⟨i,hi⟩:∃i,i=dm n:=⟨_,rfl⟩
     rw[←hi] at vn iE g4
     rw[←hi]
     obtain ⟨gX,ba,bp,dM⟩:=cu C3
     obtain ⟨A,t,ay,gO,ak,aU,_⟩:=bU.at (h.ext s4).keys vn
     refine ⟨K,ba,A,ay,gO,t,ak,(u9 (B:=fun q=>w.heap.size≤q) aU.1 (by have:=fy _ (e3 vn);omega) (fun q J=>jb s4.size J)).use ?_⟩
     rintro _ b3 ⟨aI,rfl,l1,j9,C6⟩
     have lZ:=ej b3
     obtain ⟨gX,ba,bp,dM⟩:=cu (C3.ext j9)
     have kM:=j9.trans lZ
     obtain ⟨f0,f1,f2,f3⟩:=cu (oY.ext kM)
     have iP:=wU.at.ext kM
     have Zl:=bU.len iP.keys
     have HE:=bU.len iP.vals
     have Zm:=dG.len iP.kids
     have Zn:=bU.le (bZ.oq wU.keys)
     have Zo:=bU.le (bZ.oq wU.vals)
     have Zp:aH.len≤aH.cap:=iP.kids.2.1
     have Zq:bY.heap.size≤b3.heap.size:=j9.size
     have vo:n.keys.getD i []=n.keys[i]:=mX vn
     refine ⟨aI,rfl,n.leaf,gX,fun aB=>bN ⟨fun q=>q=ag.heap.size,fun e=> ?_,aT,f1,⟨by omega,by omega⟩,fun e=> ?_,bP,f2,⟨by omega,?_⟩, #[.bool true, .slice (bh aT.a 1 0 aT.cap) i aT.cap, .slice (bh bP.a 1 0 bP.cap) i bP.cap, .slice none 0 0],(fun w=>by kernel_rfl),fun e=> ?_,aT,f1,⟨by omega,by omega⟩,fun e=> ?_,bP,f2,⟨by omega,?_⟩, #[.bool true, .slice (bh aT.a 1 i aT.cap) (aT.len-i) (aT.cap-i), .slice (bh bP.a 1 i bP.cap) (bP.len-i) (bP.cap-i), .slice none 0 0],(fun w=>by kernel_rfl),?_⟩,fun aB=> ?_⟩
     · rw[aX] at e;have e:aL=ag.heap.size:=e;omega
     · rw[aX] at e;have e:aL=ag.heap.size:=e;omega
     · have:=aj.wC aB;omega
     · rw[aX] at e;have e:aL=ag.heap.size:=e;omega
     · rw[aX] at e;have e:aL=ag.heap.size:=e;omega
     · have:=aj.wC aB;omega
     · have KC:=aj.wC aB
       have dy:n.left i=⟨true,n.keys.take i,n.vals.take i,[]⟩:=by unfold aO.left;rw[aB];rfl
       have c5:n.right i=⟨true,n.keys.drop i,n.vals.drop i,[]⟩:=by unfold aO.right;rw[aB];rfl
       have wV:ck (fun q=>bz.heap.size≤q) b3.drew (n.left i) ⟨bh aT.a 1 0 aT.cap,i,aT.cap⟩ ⟨bh bP.a 1 0 bP.cap,i,bP.cap⟩ cg:=by
         rw[dy]
         refine ⟨?_,?_,dG.none _ _⟩
         · have:=bU.sub iP.keys (lo:=0) (hi:=i) (by omega) (by omega)
           simpa using this
         · have:=bU.sub iP.vals (lo:=0) (hi:=i) (by omega) (by omega)
           simpa using this
       have wW:ck (fun q=>bz.heap.size≤q) b3.drew (n.right i) ⟨bh aT.a 1 i aT.cap,aT.len-i,aT.cap-i⟩ ⟨bh bP.a 1 i bP.cap,bP.len-i,bP.cap-i⟩ cg:=by
         rw[c5]
         refine ⟨?_,?_,dG.none _ _⟩
         · have:=bU.sub iP.keys (lo:=i) (hi:=aT.len) (by omega) (by omega)
           rwa[hU (by rw[fF];omega)] at this
         · have:=bU.sub iP.vals (lo:=i) (hi:=bP.len) (by omega) (by omega)
           rwa[hU (by rw[fF];omega)] at this
       have wX:=fO wV (by rw[dy];show (n.keys.take i).length≤_;rw[ee];omega) (by rw[dy];show (n.vals.take i).length≤_;rw[ee];omega) (by rw[dy];simp) (by rw[dy];exact fun k ae=>fy k (kE ae)) (by rw[dy];exact fun k ae=>C1 k (kE ae))
       have wY:(.agg #[.bool true, .slice (bh aT.a 1 0 aT.cap) i aT.cap, .slice (bh bP.a 1 0 bP.cap) i bP.cap, .slice none 0 0]:Value)=fg (n.left i) ⟨bh aT.a 1 0 aT.cap,i,aT.cap⟩ ⟨bh bP.a 1 0 bP.cap,i,bP.cap⟩ cg:=by rw[dy];rfl
       have wZ:(.agg #[.bool true, .slice (bh aT.a 1 i aT.cap) (aT.len-i) (aT.cap-i), .slice (bh bP.a 1 i bP.cap) (bP.len-i) (bP.cap-i), .slice none 0 0]:Value)=fg (n.right i) ⟨bh aT.a 1 i aT.cap,aT.len-i,aT.cap-i⟩ ⟨bh bP.a 1 i bP.cap,bP.len-i,bP.cap-i⟩ cg:=by rw[c5];rfl
       rw[wY,wZ]
       refine wX.use ?_
       rintro _ cy ⟨dX,ey,b9,AH,KD,KE,rfl,w2,h4⟩
       have w3:=fO (wW.ext h4) (by rw[c5];show (n.keys.drop i).length≤_;rw[fF];omega) (by rw[c5];show (n.vals.drop i).length≤_;rw[fF];omega) (by rw[c5];simp) (by rw[c5];exact fun k ae=>fy k (kp ae)) (by rw[c5];exact fun k ae=>C1 k (kp ae))
       refine ⟨_,dX,ey,b9,rfl,ao.eN h4,w3.use ?_⟩
       rintro _ b4 ⟨c6,c_,da,sZ,AG,KF,rfl,w4,jJ⟩
       have lD:=h4.trans jJ
       have uc:=h4.size
       have KG:=kM.size
       refine ⟨_,c6,c_,da,rfl,ao.eN jJ,HD (c3:=(n.left i).leaf) (cG:=(n.right i).leaf) (dX:=dX) (ey:=ey) (b9:=b9) (c6:=c6) (c_:=c_) (da:=da) ((C4.ext kM).ext lD) ((C5.ext kM).ext lD) rfl rfl (by omega) (fun q J=>J) (Q:=fun c3 dX ey b9 cG c6 c_ da w'=>Fp n w (.tuple #[.agg #[.bool c3, .slice dX.a dX.len dX.cap, .slice ey.a ey.len ey.cap, .slice b9.a b9.len b9.cap], .slice aI.a aI.len aI.cap, .agg #[.bool cG, .slice c6.a c6.len c6.cap, .slice c_.a c_.len c_.cap, .slice da.a da.len da.cap], .bool true]) w') fun dB gy=> ?_⟩
       have w5:b3.drew.heap.size=b3.heap.size:=rfl
       refine ⟨dX,ey,b9,c6,c_,da,aI,by rw[←hi];rfl,?_,?_,?_,?_⟩
       · rw[←hi];exact ((w2.at.ext jJ).an gy fun q J e=>by omega).bA fun q _ J=>by omega
       · rw[←hi];exact (w4.at.an gy fun q J e=>by omega).bA fun q _ J=>by omega
       · rw[←hi,vo]
         have eR:∀q,aQ aI q→bY.heap.size≤q:=C6
         exact bH.rF (bH.ext (bH.ext l1 lZ) lD) gy fun q J e=>by have:=eR q J;omega
       · exact Ext.gv (s4.trans (kM.trans lD)) gy fun q J=>by omega
     · have KC:=aj.Hq aB
       have Zr:i≤n.keys.length-2∧1≤n.keys.length-2:=by rw[aB,←hi] at gW;simpa using gW
       have KH:IntKind.wrap .i64 ((i:Int)+1)=((i+1:Nat):Int):=by rw[cL (by omega) (by omega)];rfl
       rw[KH]
       refine bN ⟨fun q=>q=ag.heap.size,fun e=> ?_,aT,f1,⟨by omega,by omega⟩,fun e=> ?_,aH,f3,⟨by omega,by omega⟩, #[.bool false, .slice (bh aT.a 1 0 aT.cap) i aT.cap, .slice none 0 0, .slice (bh aH.a 1 0 aH.cap) (i+1) aH.cap],(fun w=>by kernel_rfl),fun e=> ?_,aT,f1,⟨by omega,by omega⟩,fun e=> ?_,aH,f3,⟨by omega,by omega⟩, #[.bool false, .slice (bh aT.a 1 (i+1) aT.cap) (aT.len-(i+1)) (aT.cap-(i+1)), .slice none 0 0, .slice (bh aH.a 1 (i+1) aH.cap) (aH.len-(i+1)) (aH.cap-(i+1))],(fun w=>by kernel_rfl),?_⟩
       · rw[aX] at e;have e:aL=ag.heap.size:=e;omega
       · rw[aX] at e;have e:aL=ag.heap.size:=e;omega
       · rw[aX] at e;have e:aL=ag.heap.size:=e;omega
       · rw[aX] at e;have e:aL=ag.heap.size:=e;omega
       have dy:n.left i=⟨false,n.keys.take i,[],n.kids.take (i+1)⟩:=by unfold aO.left;rw[aB];rfl
       have c5:n.right i=⟨false,n.keys.drop (i+1),[],n.kids.drop (i+1)⟩:=by unfold aO.right;rw[aB];rfl
       have wV:ck (fun q=>bz.heap.size≤q) b3.drew (n.left i) ⟨bh aT.a 1 0 aT.cap,i,aT.cap⟩ cg ⟨bh aH.a 1 0 aH.cap,i+1,aH.cap⟩:=by
         rw[dy]
         refine ⟨?_,bU.none _ _,?_⟩
         · have:=bU.sub iP.keys (lo:=0) (hi:=i) (by omega) (by omega)
           simpa using this
         · have:=dG.sub iP.kids (lo:=0) (hi:=i+1) (by omega) (by omega)
           simpa using this
       have wW:ck (fun q=>bz.heap.size≤q) b3.drew (n.right i) ⟨bh aT.a 1 (i+1) aT.cap,aT.len-(i+1),aT.cap-(i+1)⟩ cg ⟨bh aH.a 1 (i+1) aH.cap,aH.len-(i+1),aH.cap-(i+1)⟩:=by
         rw[c5]
         refine ⟨?_,bU.none _ _,?_⟩
         · have:=bU.sub iP.keys (lo:=i+1) (hi:=aT.len) (by omega) (by omega)
           rwa[hU (by rw[fF];omega)] at this
         · have:=dG.sub iP.kids (lo:=i+1) (hi:=aH.len) (by omega) (by omega)
           rwa[hU (by rw[fF];omega)] at this
       have wX:=fO wV (by rw[dy];show (n.keys.take i).length≤_;rw[ee];omega) (by rw[dy];simp) (by rw[dy];show (n.kids.take (i+1)).length≤_;rw[ee];omega) (by rw[dy];exact fun k ae=>fy k (kE ae)) (by rw[dy];simp)
       have wY:(.agg #[.bool false, .slice (bh aT.a 1 0 aT.cap) i aT.cap, .slice none 0 0, .slice (bh aH.a 1 0 aH.cap) (i+1) aH.cap]:Value)=fg (n.left i) ⟨bh aT.a 1 0 aT.cap,i,aT.cap⟩ cg ⟨bh aH.a 1 0 aH.cap,i+1,aH.cap⟩:=by rw[dy];rfl
       have wZ:(.agg #[.bool false, .slice (bh aT.a 1 (i+1) aT.cap) (aT.len-(i+1)) (aT.cap-(i+1)), .slice none 0 0, .slice (bh aH.a 1 (i+1) aH.cap) (aH.len-(i+1)) (aH.cap-(i+1))]:Value)=fg (n.right i) ⟨bh aT.a 1 (i+1) aT.cap,aT.len-(i+1),aT.cap-(i+1)⟩ cg ⟨bh aH.a 1 (i+1) aH.cap,aH.len-(i+1),aH.cap-(i+1)⟩:=by rw[c5];rfl
       rw[wY,wZ]
       refine wX.use ?_
       rintro _ cy ⟨dX,ey,b9,AH,KD,KE,rfl,w2,h4⟩
       have w3:=fO (wW.ext h4) (by rw[c5];show (n.keys.drop (i+1)).length≤_;rw[fF];omega) (by rw[c5];simp) (by rw[c5];show (n.kids.drop (i+1)).length≤_;rw[fF];omega) (by rw[c5];exact fun k ae=>fy k (kp ae)) (by rw[c5];simp)
       refine ⟨_,dX,ey,b9,rfl,ao.eN h4,w3.use ?_⟩
       rintro _ b4 ⟨c6,c_,da,sZ,AG,KF,rfl,w4,jJ⟩
       have lD:=h4.trans jJ
       have uc:=h4.size
       have KG:=kM.size
       refine ⟨_,c6,c_,da,rfl,ao.eN jJ,HD (c3:=(n.left i).leaf) (cG:=(n.right i).leaf) (dX:=dX) (ey:=ey) (b9:=b9) (c6:=c6) (c_:=c_) (da:=da) ((C4.ext kM).ext lD) ((C5.ext kM).ext lD) rfl rfl (by omega) (fun q J=>J) (Q:=fun c3 dX ey b9 cG c6 c_ da w'=>Fp n w (.tuple #[.agg #[.bool c3, .slice dX.a dX.len dX.cap, .slice ey.a ey.len ey.cap, .slice b9.a b9.len b9.cap], .slice aI.a aI.len aI.cap, .agg #[.bool cG, .slice c6.a c6.len c6.cap, .slice c_.a c_.len c_.cap, .slice da.a da.len da.cap], .bool true]) w') fun dB gy=> ?_⟩
       have w5:b3.drew.heap.size=b3.heap.size:=rfl
       refine ⟨dX,ey,b9,c6,c_,da,aI,by rw[←hi];rfl,?_,?_,?_,?_⟩
       · rw[←hi];exact ((w2.at.ext jJ).an gy fun q J e=>by omega).bA fun q _ J=>by omega
       · rw[←hi];exact (w4.at.an gy fun q J e=>by omega).bA fun q _ J=>by omega
       · rw[←hi,vo]
         have eR:∀q,aQ aI q→bY.heap.size≤q:=C6
         exact bH.rF (bH.ext (bH.ext l1 lZ) lD) gy fun q J e=>by have:=eR q J;omega
       · exact Ext.gv (s4.trans (kM.trans lD)) gy fun q J=>by omega
   · refine cx (vs:=[.bool false, .slice none 0 0, .slice none 0 0, .slice none 0 0]) rfl fun aS Hn eW avJ=>⟨eW,?_⟩
     refine (s0 (h.ext (qR.trans (kt.trans eW))) aj aD (most:=most) iE.2.1).use ?_
     rintro _ cd ⟨rfl,gP⟩
     have sX:=Hn.ext gP
     refine ⟨_,rfl,gP,sX.du rfl (lC _ _ _ _),rfl,eg sX (us:=[.bool n.leaf, .slice aT.a aT.len aT.cap, .slice bP.a bP.len bP.cap, .slice aH.a aH.len aH.cap]) rfl rfl fun bY oY hZ Hz=> ?_⟩
     have Oy:=kt.size
     have CS:=gP.size
     obtain ⟨aL,fl⟩:∃aL,aL=bg.heap.size:=⟨_,rfl⟩
     rw[←fl] at oY hZ⊢
     have s3:=kt.trans (eW.trans gP)
     have wU:jR bz.heap.size bY n aT bP aH cE cY ct:=(lB.ext (eW.trans gP)).an hZ fun q _ _ J e=>by
       subst e
       rcases J with J|J|J
       · have:=(lB.bW _ J).2.1;omega
       · have:=(lB.bv _ J).2.1;omega
       · have:=(lB.bc _ J).2;omega
     have Zk:bz.drew.heap.size=bz.heap.size:=rfl
     have s4:Ext w bY:=Ext.e_ (qR.trans s3) hZ (by omega)
     have C3:=(OC.ext s3).an hZ (by omega)
     have C4:=(SW.ext s3).an hZ (by omega)
     have C5:=(SX.ext s3).an hZ (by omega)
     have KB:mW (cellsOf n) most=dm n:=by unfold dm;rw[C2]
     rw[KB]
     obtain ⟨i,hi⟩:∃i,i=dm n:=⟨_,rfl⟩
     rw[←hi] at vn iE g4
     rw[←hi]
     obtain ⟨gX,ba,bp,dM⟩:=cu C3
     obtain ⟨A,t,ay,gO,ak,aU,_⟩:=bU.at (h.ext s4).keys vn
     refine ⟨K,ba,A,ay,gO,t,ak,(u9 (B:=fun q=>w.heap.size≤q) aU.1 (by have:=fy _ (e3 vn);omega) (fun q J=>jb s4.size J)).use ?_⟩
     rintro _ b3 ⟨aI,rfl,l1,j9,C6⟩
     have lZ:=ej b3
     obtain ⟨gX,ba,bp,dM⟩:=cu (C3.ext j9)
     have kM:=j9.trans lZ
     obtain ⟨f0,f1,f2,f3⟩:=cu (oY.ext kM)
     have iP:=wU.at.ext kM
     have Zl:=bU.len iP.keys
     have HE:=bU.len iP.vals
     have Zm:=dG.len iP.kids
     have Zn:=bU.le (bZ.oq wU.keys)
     have Zo:=bU.le (bZ.oq wU.vals)
     have Zp:aH.len≤aH.cap:=iP.kids.2.1
     have Zq:bY.heap.size≤b3.heap.size:=j9.size
     have vo:n.keys.getD i []=n.keys[i]:=mX vn
     refine ⟨aI,rfl,n.leaf,gX,fun aB=>bN ⟨fun q=>q=ag.heap.size,fun e=> ?_,aT,f1,⟨by omega,by omega⟩,fun e=> ?_,bP,f2,⟨by omega,?_⟩, #[.bool true, .slice (bh aT.a 1 0 aT.cap) i aT.cap, .slice (bh bP.a 1 0 bP.cap) i bP.cap, .slice none 0 0],(fun w=>by kernel_rfl),fun e=> ?_,aT,f1,⟨by omega,by omega⟩,fun e=> ?_,bP,f2,⟨by omega,?_⟩, #[.bool true, .slice (bh aT.a 1 i aT.cap) (aT.len-i) (aT.cap-i), .slice (bh bP.a 1 i bP.cap) (bP.len-i) (bP.cap-i), .slice none 0 0],(fun w=>by kernel_rfl),?_⟩,fun aB=> ?_⟩
     · rw[aX] at e;have e:aL=ag.heap.size:=e;omega
     · rw[aX] at e;have e:aL=ag.heap.size:=e;omega
     · have:=aj.wC aB;omega
     · rw[aX] at e;have e:aL=ag.heap.size:=e;omega
     · rw[aX] at e;have e:aL=ag.heap.size:=e;omega
     · have:=aj.wC aB;omega
     · have KC:=aj.wC aB
       have dy:n.left i=⟨true,n.keys.take i,n.vals.take i,[]⟩:=by unfold aO.left;rw[aB];rfl
       have c5:n.right i=⟨true,n.keys.drop i,n.vals.drop i,[]⟩:=by unfold aO.right;rw[aB];rfl
       have wV:ck (fun q=>bz.heap.size≤q) b3.drew (n.left i) ⟨bh aT.a 1 0 aT.cap,i,aT.cap⟩ ⟨bh bP.a 1 0 bP.cap,i,bP.cap⟩ cg:=by
         rw[dy]
         refine ⟨?_,?_,dG.none _ _⟩
         · have:=bU.sub iP.keys (lo:=0) (hi:=i) (by omega) (by omega)
           simpa using this
         · have:=bU.sub iP.vals (lo:=0) (hi:=i) (by omega) (by omega)
           simpa using this
       have wW:ck (fun q=>bz.heap.size≤q) b3.drew (n.right i) ⟨bh aT.a 1 i aT.cap,aT.len-i,aT.cap-i⟩ ⟨bh bP.a 1 i bP.cap,bP.len-i,bP.cap-i⟩ cg:=by
         rw[c5]
         refine ⟨?_,?_,dG.none _ _⟩
         · have:=bU.sub iP.keys (lo:=i) (hi:=aT.len) (by omega) (by omega)
           rwa[hU (by rw[fF];omega)] at this
         · have:=bU.sub iP.vals (lo:=i) (hi:=bP.len) (by omega) (by omega)
           rwa[hU (by rw[fF];omega)] at this
       have wX:=fO wV (by rw[dy];show (n.keys.take i).length≤_;rw[ee];omega) (by rw[dy];show (n.vals.take i).length≤_;rw[ee];omega) (by rw[dy];simp) (by rw[dy];exact fun k ae=>fy k (kE ae)) (by rw[dy];exact fun k ae=>C1 k (kE ae))
       have wY:(.agg #[.bool true, .slice (bh aT.a 1 0 aT.cap) i aT.cap, .slice (bh bP.a 1 0 bP.cap) i bP.cap, .slice none 0 0]:Value)=fg (n.left i) ⟨bh aT.a 1 0 aT.cap,i,aT.cap⟩ ⟨bh bP.a 1 0 bP.cap,i,bP.cap⟩ cg:=by rw[dy];rfl
       have wZ:(.agg #[.bool true, .slice (bh aT.a 1 i aT.cap) (aT.len-i) (aT.cap-i), .slice (bh bP.a 1 i bP.cap) (bP.len-i) (bP.cap-i), .slice none 0 0]:Value)=fg (n.right i) ⟨bh aT.a 1 i aT.cap,aT.len-i,aT.cap-i⟩ ⟨bh bP.a 1 i bP.cap,bP.len-i,bP.cap-i⟩ cg:=by rw[c5];rfl
       rw[wY,wZ]
       refine wX.use ?_
       rintro _ cy ⟨dX,ey,b9,AH,KD,KE,rfl,w2,h4⟩
       have w3:=fO (wW.ext h4) (by rw[c5];show (n.keys.drop i).length≤_;rw[fF];omega) (by rw[c5];show (n.vals.drop i).length≤_;rw[fF];omega) (by rw[c5];simp) (by rw[c5];exact fun k ae=>fy k (kp ae)) (by rw[c5];exact fun k ae=>C1 k (kp ae))
       refine ⟨_,dX,ey,b9,rfl,ao.eN h4,w3.use ?_⟩
       rintro _ b4 ⟨c6,c_,da,sZ,AG,KF,rfl,w4,jJ⟩
       have lD:=h4.trans jJ
       have uc:=h4.size
       have KG:=kM.size
       refine ⟨_,c6,c_,da,rfl,ao.eN jJ,HD (c3:=(n.left i).leaf) (cG:=(n.right i).leaf) (dX:=dX) (ey:=ey) (b9:=b9) (c6:=c6) (c_:=c_) (da:=da) ((C4.ext kM).ext lD) ((C5.ext kM).ext lD) rfl rfl (by omega) (fun q J=>J) (Q:=fun c3 dX ey b9 cG c6 c_ da w'=>Fp n w (.tuple #[.agg #[.bool c3, .slice dX.a dX.len dX.cap, .slice ey.a ey.len ey.cap, .slice b9.a b9.len b9.cap], .slice aI.a aI.len aI.cap, .agg #[.bool cG, .slice c6.a c6.len c6.cap, .slice c_.a c_.len c_.cap, .slice da.a da.len da.cap], .bool true]) w') fun dB gy=> ?_⟩
       have w5:b3.drew.heap.size=b3.heap.size:=rfl
       refine ⟨dX,ey,b9,c6,c_,da,aI,by rw[←hi];rfl,?_,?_,?_,?_⟩
       · rw[←hi];exact ((w2.at.ext jJ).an gy fun q J e=>by omega).bA fun q _ J=>by omega
       · rw[←hi];exact (w4.at.an gy fun q J e=>by omega).bA fun q _ J=>by omega
       · rw[←hi,vo]
         have eR:∀q,aQ aI q→bY.heap.size≤q:=C6
         exact bH.rF (bH.ext (bH.ext l1 lZ) lD) gy fun q J e=>by have:=eR q J;omega
       · exact Ext.gv (s4.trans (kM.trans lD)) gy fun q J=>by omega
     · have KC:=aj.Hq aB
       have Zr:i≤n.keys.length-2∧1≤n.keys.length-2:=by rw[aB,←hi] at gW;simpa using gW
       have KH:IntKind.wrap .i64 ((i:Int)+1)=((i+1:Nat):Int):=by rw[cL (by omega) (by omega)];rfl
       rw[KH]
       refine bN ⟨fun q=>q=ag.heap.size,fun e=> ?_,aT,f1,⟨by omega,by omega⟩,fun e=> ?_,aH,f3,⟨by omega,by omega⟩, #[.bool false, .slice (bh aT.a 1 0 aT.cap) i aT.cap, .slice none 0 0, .slice (bh aH.a 1 0 aH.cap) (i+1) aH.cap],(fun w=>by kernel_rfl),fun e=> ?_,aT,f1,⟨by omega,by omega⟩,fun e=> ?_,aH,f3,⟨by omega,by omega⟩, #[.bool false, .slice (bh aT.a 1 (i+1) aT.cap) (aT.len-(i+1)) (aT.cap-(i+1)), .slice none 0 0, .slice (bh aH.a 1 (i+1) aH.cap) (aH.len-(i+1)) (aH.cap-(i+1))],(fun w=>by kernel_rfl),?_⟩
       · rw[aX] at e;have e:aL=ag.heap.size:=e;omega
       · rw[aX] at e;have e:aL=ag.heap.size:=e;omega
       · rw[aX] at e;have e:aL=ag.heap.size:=e;omega
       · rw[aX] at e;have e:aL=ag.heap.size:=e;omega
       have dy:n.left i=⟨false,n.keys.take i,[],n.kids.take (i+1)⟩:=by unfold aO.left;rw[aB];rfl
       have c5:n.right i=⟨false,n.keys.drop (i+1),[],n.kids.drop (i+1)⟩:=by unfold aO.right;rw[aB];rfl
       have wV:ck (fun q=>bz.heap.size≤q) b3.drew (n.left i) ⟨bh aT.a 1 0 aT.cap,i,aT.cap⟩ cg ⟨bh aH.a 1 0 aH.cap,i+1,aH.cap⟩:=by
         rw[dy]
         refine ⟨?_,bU.none _ _,?_⟩
         · have:=bU.sub iP.keys (lo:=0) (hi:=i) (by omega) (by omega)
           simpa using this
         · have:=dG.sub iP.kids (lo:=0) (hi:=i+1) (by omega) (by omega)
           simpa using this
       have wW:ck (fun q=>bz.heap.size≤q) b3.drew (n.right i) ⟨bh aT.a 1 (i+1) aT.cap,aT.len-(i+1),aT.cap-(i+1)⟩ cg ⟨bh aH.a 1 (i+1) aH.cap,aH.len-(i+1),aH.cap-(i+1)⟩:=by
         rw[c5]
         refine ⟨?_,bU.none _ _,?_⟩
         · have:=bU.sub iP.keys (lo:=i+1) (hi:=aT.len) (by omega) (by omega)
           rwa[hU (by rw[fF];omega)] at this
         · have:=dG.sub iP.kids (lo:=i+1) (hi:=aH.len) (by omega) (by omega)
           rwa[hU (by rw[fF];omega)] at this
       have wX:=fO wV (by rw[dy];show (n.keys.take i).length≤_;rw[ee];omega) (by rw[dy];simp) (by rw[dy];show (n.kids.take (i+1)).length≤_;rw[ee];omega) (by rw[dy];exact fun k ae=>fy k (kE ae)) (by rw[dy];simp)
       have wY:(.agg #[.bool false, .slice (bh aT.a 1 0 aT.cap) i aT.cap, .slice none 0 0, .slice (bh aH.a 1 0 aH.cap) (i+1) aH.cap]:Value)=fg (n.left i) ⟨bh aT.a 1 0 aT.cap,i,aT.cap⟩ cg ⟨bh aH.a 1 0 aH.cap,i+1,aH.cap⟩:=by rw[dy];rfl
       have wZ:(.agg #[.bool false, .slice (bh aT.a 1 (i+1) aT.cap) (aT.len-(i+1)) (aT.cap-(i+1)), .slice none 0 0, .slice (bh aH.a 1 (i+1) aH.cap) (aH.len-(i+1)) (aH.cap-(i+1))]:Value)=fg (n.right i) ⟨bh aT.a 1 (i+1) aT.cap,aT.len-(i+1),aT.cap-(i+1)⟩ cg ⟨bh aH.a 1 (i+1) aH.cap,aH.len-(i+1),aH.cap-(i+1)⟩:=by rw[c5];rfl
       rw[wY,wZ]
       refine wX.use ?_
       rintro _ cy ⟨dX,ey,b9,AH,KD,KE,rfl,w2,h4⟩
       have w3:=fO (wW.ext h4) (by rw[c5];show (n.keys.drop (i+1)).length≤_;rw[fF];omega) (by rw[c5];simp) (by rw[c5];show (n.kids.drop (i+1)).length≤_;rw[fF];omega) (by rw[c5];exact fun k ae=>fy k (kp ae)) (by rw[c5];simp)
       refine ⟨_,dX,ey,b9,rfl,ao.eN h4,w3.use ?_⟩
       rintro _ b4 ⟨c6,c_,da,sZ,AG,KF,rfl,w4,jJ⟩
       have lD:=h4.trans jJ
       have uc:=h4.size
       have KG:=kM.size
       refine ⟨_,c6,c_,da,rfl,ao.eN jJ,HD (c3:=(n.left i).leaf) (cG:=(n.right i).leaf) (dX:=dX) (ey:=ey) (b9:=b9) (c6:=c6) (c_:=c_) (da:=da) ((C4.ext kM).ext lD) ((C5.ext kM).ext lD) rfl rfl (by omega) (fun q J=>J) (Q:=fun c3 dX ey b9 cG c6 c_ da w'=>Fp n w (.tuple #[.agg #[.bool c3, .slice dX.a dX.len dX.cap, .slice ey.a ey.len ey.cap, .slice b9.a b9.len b9.cap], .slice aI.a aI.len aI.cap, .agg #[.bool cG, .slice c6.a c6.len c6.cap, .slice c_.a c_.len c_.cap, .slice da.a da.len da.cap], .bool true]) w') fun dB gy=> ?_⟩
       have w5:b3.drew.heap.size=b3.heap.size:=rfl
       refine ⟨dX,ey,b9,c6,c_,da,aI,by rw[←hi];rfl,?_,?_,?_,?_⟩
       · rw[←hi];exact ((w2.at.ext jJ).an gy fun q J e=>by omega).bA fun q _ J=>by omega
       · rw[←hi];exact (w4.at.an gy fun q J e=>by omega).bA fun q _ J=>by omega
       · rw[←hi,vo]
         have eR:∀q,aQ aI q→bY.heap.size≤q:=C6
         exact bH.rF (bH.ext (bH.ext l1 lZ) lD) gy fun q J e=>by have:=eR q J;omega
       · exact Ext.gv (s4.trans (kM.trans lD)) gy fun q J=>by omega
 · refine cx (vs:=[.bool false, .slice none 0 0, .slice none 0 0, .slice none 0 0]) rfl fun bg u5 kt avK=>⟨kt,?_⟩
   refine (fO (h.ext (qR.trans kt)) (by omega) (by omega) (by omega) fy C1).use ?_
   rintro _ aS ⟨aT,bP,aH,cE,cY,ct,rfl,sr,eW⟩
   refine ⟨n.leaf,aT,bP,aH,rfl,eW,(s0 (h.ext (qR.trans (kt.trans eW))) aj aD (most:=most) iE.2.1).use ?_⟩
   rintro _ cd ⟨rfl,gP⟩
   have sX:=u5.ext (eW.trans gP)
   refine ⟨_,rfl,gP,sX.du rfl (lC _ _ _ _),rfl,eg sX (us:=[.bool n.leaf, .slice aT.a aT.len aT.cap, .slice bP.a bP.len bP.cap, .slice aH.a aH.len aH.cap]) rfl rfl fun bY oY hZ Hz=> ?_⟩
   have CZ:=eW.size
   have CS:=gP.size
   have Zk:bz.drew.heap.size=bz.heap.size:=rfl
   obtain ⟨aL,fl⟩:∃aL,aL=bz.drew.heap.size:=⟨_,rfl⟩
   rw[←fl] at oY hZ⊢
   have s3:=kt.trans (eW.trans gP)
   have wU:jR bz.heap.size bY n aT bP aH cE cY ct:=((sr.ext gP).an hZ fun q U _ _ e=>by omega).low (by omega)
   have s4:Ext w bY:=Ext.e_ (qR.trans s3) hZ (by omega)
   have C3:=(OC.ext s3).an hZ (by omega)
   have C4:=(SW.ext s3).an hZ (by omega)
   have C5:=(SX.ext s3).an hZ (by omega)
   have KB:mW (cellsOf n) most=dm n:=by unfold dm;rw[C2]
   rw[KB]
   obtain ⟨i,hi⟩:∃i,i=dm n:=⟨_,rfl⟩
   rw[←hi] at vn iE g4
   rw[←hi]
   obtain ⟨gX,ba,bp,dM⟩:=cu C3
   obtain ⟨A,t,ay,gO,ak,aU,_⟩:=bU.at (h.ext s4).keys vn
   refine ⟨K,ba,A,ay,gO,t,ak,(u9 (B:=fun q=>w.heap.size≤q) aU.1 (by have:=fy _ (e3 vn);omega) (fun q J=>jb s4.size J)).use ?_⟩
   rintro _ b3 ⟨aI,rfl,l1,j9,C6⟩
   have lZ:=ej b3
   obtain ⟨gX,ba,bp,dM⟩:=cu (C3.ext j9)
   have kM:=j9.trans lZ
   obtain ⟨f0,f1,f2,f3⟩:=cu (oY.ext kM)
   have iP:=wU.at.ext kM
   have Zl:=bU.len iP.keys
   have HE:=bU.len iP.vals
   have Zm:=dG.len iP.kids
   have Zn:=bU.le (bZ.oq wU.keys)
   have Zo:=bU.le (bZ.oq wU.vals)
   have Zp:aH.len≤aH.cap:=iP.kids.2.1
   have Zq:bY.heap.size≤b3.heap.size:=j9.size
   have vo:n.keys.getD i []=n.keys[i]:=mX vn
   refine ⟨aI,rfl,n.leaf,gX,fun aB=>bN ⟨fun q=>q=ag.heap.size,fun e=> ?_,aT,f1,⟨by omega,by omega⟩,fun e=> ?_,bP,f2,⟨by omega,?_⟩, #[.bool true, .slice (bh aT.a 1 0 aT.cap) i aT.cap, .slice (bh bP.a 1 0 bP.cap) i bP.cap, .slice none 0 0],(fun w=>by kernel_rfl),fun e=> ?_,aT,f1,⟨by omega,by omega⟩,fun e=> ?_,bP,f2,⟨by omega,?_⟩, #[.bool true, .slice (bh aT.a 1 i aT.cap) (aT.len-i) (aT.cap-i), .slice (bh bP.a 1 i bP.cap) (bP.len-i) (bP.cap-i), .slice none 0 0],(fun w=>by kernel_rfl),?_⟩,fun aB=> ?_⟩
   · rw[aX] at e;have e:aL=ag.heap.size:=e;omega
   · rw[aX] at e;have e:aL=ag.heap.size:=e;omega
   · have:=aj.wC aB;omega
   · rw[aX] at e;have e:aL=ag.heap.size:=e;omega
   · rw[aX] at e;have e:aL=ag.heap.size:=e;omega
   · have:=aj.wC aB;omega
   · have KC:=aj.wC aB
     have dy:n.left i=⟨true,n.keys.take i,n.vals.take i,[]⟩:=by unfold aO.left;rw[aB];rfl
     have c5:n.right i=⟨true,n.keys.drop i,n.vals.drop i,[]⟩:=by unfold aO.right;rw[aB];rfl
     have wV:ck (fun q=>bz.heap.size≤q) b3.drew (n.left i) ⟨bh aT.a 1 0 aT.cap,i,aT.cap⟩ ⟨bh bP.a 1 0 bP.cap,i,bP.cap⟩ cg:=by
       rw[dy]
       refine ⟨?_,?_,dG.none _ _⟩
       · have:=bU.sub iP.keys (lo:=0) (hi:=i) (by omega) (by omega)
         simpa using this
       · have:=bU.sub iP.vals (lo:=0) (hi:=i) (by omega) (by omega)
         simpa using this
     have wW:ck (fun q=>bz.heap.size≤q) b3.drew (n.right i) ⟨bh aT.a 1 i aT.cap,aT.len-i,aT.cap-i⟩ ⟨bh bP.a 1 i bP.cap,bP.len-i,bP.cap-i⟩ cg:=by
       rw[c5]
       refine ⟨?_,?_,dG.none _ _⟩
       · have:=bU.sub iP.keys (lo:=i) (hi:=aT.len) (by omega) (by omega)
         rwa[hU (by rw[fF];omega)] at this
       · have:=bU.sub iP.vals (lo:=i) (hi:=bP.len) (by omega) (by omega)
         rwa[hU (by rw[fF];omega)] at this
     have wX:=fO wV (by rw[dy];show (n.keys.take i).length≤_;rw[ee];omega) (by rw[dy];show (n.vals.take i).length≤_;rw[ee];omega) (by rw[dy];simp) (by rw[dy];exact fun k ae=>fy k (kE ae)) (by rw[dy];exact fun k ae=>C1 k (kE ae))
     have wY:(.agg #[.bool true, .slice (bh aT.a 1 0 aT.cap) i aT.cap, .slice (bh bP.a 1 0 bP.cap) i bP.cap, .slice none 0 0]:Value)=fg (n.left i) ⟨bh aT.a 1 0 aT.cap,i,aT.cap⟩ ⟨bh bP.a 1 0 bP.cap,i,bP.cap⟩ cg:=by rw[dy];rfl
     have wZ:(.agg #[.bool true, .slice (bh aT.a 1 i aT.cap) (aT.len-i) (aT.cap-i), .slice (bh bP.a 1 i bP.cap) (bP.len-i) (bP.cap-i), .slice none 0 0]:Value)=fg (n.right i) ⟨bh aT.a 1 i aT.cap,aT.len-i,aT.cap-i⟩ ⟨bh bP.a 1 i bP.cap,bP.len-i,bP.cap-i⟩ cg:=by rw[c5];rfl
     rw[wY,wZ]
     refine wX.use ?_
     rintro _ cy ⟨dX,ey,b9,AH,KD,KE,rfl,w2,h4⟩
     have w3:=fO (wW.ext h4) (by rw[c5];show (n.keys.drop i).length≤_;rw[fF];omega) (by rw[c5];show (n.vals.drop i).length≤_;rw[fF];omega) (by rw[c5];simp) (by rw[c5];exact fun k ae=>fy k (kp ae)) (by rw[c5];exact fun k ae=>C1 k (kp ae))
     refine ⟨_,dX,ey,b9,rfl,ao.eN h4,w3.use ?_⟩
     rintro _ b4 ⟨c6,c_,da,sZ,AG,KF,rfl,w4,jJ⟩
     have lD:=h4.trans jJ
     have uc:=h4.size
     have KG:=kM.size
     refine ⟨_,c6,c_,da,rfl,ao.eN jJ,HD (c3:=(n.left i).leaf) (cG:=(n.right i).leaf) (dX:=dX) (ey:=ey) (b9:=b9) (c6:=c6) (c_:=c_) (da:=da) ((C4.ext kM).ext lD) ((C5.ext kM).ext lD) rfl rfl (by omega) (fun q J=>J) (Q:=fun c3 dX ey b9 cG c6 c_ da w'=>Fp n w (.tuple #[.agg #[.bool c3, .slice dX.a dX.len dX.cap, .slice ey.a ey.len ey.cap, .slice b9.a b9.len b9.cap], .slice aI.a aI.len aI.cap, .agg #[.bool cG, .slice c6.a c6.len c6.cap, .slice c_.a c_.len c_.cap, .slice da.a da.len da.cap], .bool true]) w') fun dB gy=> ?_⟩
     have w5:b3.drew.heap.size=b3.heap.size:=rfl
     refine ⟨dX,ey,b9,c6,c_,da,aI,by rw[←hi];rfl,?_,?_,?_,?_⟩
     · rw[←hi];exact ((w2.at.ext jJ).an gy fun q J e=>by omega).bA fun q _ J=>by omega
     · rw[←hi];exact (w4.at.an gy fun q J e=>by omega).bA fun q _ J=>by omega
     · rw[←hi,vo]
       have eR:∀q,aQ aI q→bY.heap.size≤q:=C6
       exact bH.rF (bH.ext (bH.ext l1 lZ) lD) gy fun q J e=>by have:=eR q J;omega
     · exact Ext.gv (s4.trans (kM.trans lD)) gy fun q J=>by omega
   · have KC:=aj.Hq aB
     have Zr:i≤n.keys.length-2∧1≤n.keys.length-2:=by rw[aB,←hi] at gW;simpa using gW
     have KH:IntKind.wrap .i64 ((i:Int)+1)=((i+1:Nat):Int):=by rw[cL (by omega) (by omega)];rfl
     rw[KH]
     refine bN ⟨fun q=>q=ag.heap.size,fun e=> ?_,aT,f1,⟨by omega,by omega⟩,fun e=> ?_,aH,f3,⟨by omega,by omega⟩, #[.bool false, .slice (bh aT.a 1 0 aT.cap) i aT.cap, .slice none 0 0, .slice (bh aH.a 1 0 aH.cap) (i+1) aH.cap],(fun w=>by kernel_rfl),fun e=> ?_,aT,f1,⟨by omega,by omega⟩,fun e=> ?_,aH,f3,⟨by omega,by omega⟩, #[.bool false, .slice (bh aT.a 1 (i+1) aT.cap) (aT.len-(i+1)) (aT.cap-(i+1)), .slice none 0 0, .slice (bh aH.a 1 (i+1) aH.cap) (aH.len-(i+1)) (aH.cap-(i+1))],(fun w=>by kernel_rfl),?_⟩
     · rw[aX] at e;have e:aL=ag.heap.size:=e;omega
     · rw[aX] at e;have e:aL=ag.heap.size:=e;omega
     · rw[aX] at e;have e:aL=ag.heap.size:=e;omega
     · rw[aX] at e;have e:aL=ag.heap.size:=e;omega
     have dy:n.left i=⟨false,n.keys.take i,[],n.kids.take (i+1)⟩:=by unfold aO.left;rw[aB];rfl
     have c5:n.right i=⟨false,n.keys.drop (i+1),[],n.kids.drop (i+1)⟩:=by unfold aO.right;rw[aB];rfl
     have wV:ck (fun q=>bz.heap.size≤q) b3.drew (n.left i) ⟨bh aT.a 1 0 aT.cap,i,aT.cap⟩ cg ⟨bh aH.a 1 0 aH.cap,i+1,aH.cap⟩:=by
       rw[dy]
       refine ⟨?_,bU.none _ _,?_⟩
       · have:=bU.sub iP.keys (lo:=0) (hi:=i) (by omega) (by omega)
         simpa using this
       · have:=dG.sub iP.kids (lo:=0) (hi:=i+1) (by omega) (by omega)
         simpa using this
     have wW:ck (fun q=>bz.heap.size≤q) b3.drew (n.right i) ⟨bh aT.a 1 (i+1) aT.cap,aT.len-(i+1),aT.cap-(i+1)⟩ cg ⟨bh aH.a 1 (i+1) aH.cap,aH.len-(i+1),aH.cap-(i+1)⟩:=by
       rw[c5]
       refine ⟨?_,bU.none _ _,?_⟩
       · have:=bU.sub iP.keys (lo:=i+1) (hi:=aT.len) (by omega) (by omega)
         rwa[hU (by rw[fF];omega)] at this
       · have:=dG.sub iP.kids (lo:=i+1) (hi:=aH.len) (by omega) (by omega)
         rwa[hU (by rw[fF];omega)] at this
     have wX:=fO wV (by rw[dy];show (n.keys.take i).length≤_;rw[ee];omega) (by rw[dy];simp) (by rw[dy];show (n.kids.take (i+1)).length≤_;rw[ee];omega) (by rw[dy];exact fun k ae=>fy k (kE ae)) (by rw[dy];simp)
     have wY:(.agg #[.bool false, .slice (bh aT.a 1 0 aT.cap) i aT.cap, .slice none 0 0, .slice (bh aH.a 1 0 aH.cap) (i+1) aH.cap]:Value)=fg (n.left i) ⟨bh aT.a 1 0 aT.cap,i,aT.cap⟩ cg ⟨bh aH.a 1 0 aH.cap,i+1,aH.cap⟩:=by rw[dy];rfl
     have wZ:(.agg #[.bool false, .slice (bh aT.a 1 (i+1) aT.cap) (aT.len-(i+1)) (aT.cap-(i+1)), .slice none 0 0, .slice (bh aH.a 1 (i+1) aH.cap) (aH.len-(i+1)) (aH.cap-(i+1))]:Value)=fg (n.right i) ⟨bh aT.a 1 (i+1) aT.cap,aT.len-(i+1),aT.cap-(i+1)⟩ cg ⟨bh aH.a 1 (i+1) aH.cap,aH.len-(i+1),aH.cap-(i+1)⟩:=by rw[c5];rfl
     rw[wY,wZ]
     refine wX.use ?_
     rintro _ cy ⟨dX,ey,b9,AH,KD,KE,rfl,w2,h4⟩
     have w3:=fO (wW.ext h4) (by rw[c5];show (n.keys.drop (i+1)).length≤_;rw[fF];omega) (by rw[c5];simp) (by rw[c5];show (n.kids.drop (i+1)).length≤_;rw[fF];omega) (by rw[c5];exact fun k ae=>fy k (kp ae)) (by rw[c5];simp)
     refine ⟨_,dX,ey,b9,rfl,ao.eN h4,w3.use ?_⟩
     rintro _ b4 ⟨c6,c_,da,sZ,AG,KF,rfl,w4,jJ⟩
     have lD:=h4.trans jJ
     have uc:=h4.size
     have KG:=kM.size
     refine ⟨_,c6,c_,da,rfl,ao.eN jJ,HD (c3:=(n.left i).leaf) (cG:=(n.right i).leaf) (dX:=dX) (ey:=ey) (b9:=b9) (c6:=c6) (c_:=c_) (da:=da) ((C4.ext kM).ext lD) ((C5.ext kM).ext lD) rfl rfl (by omega) (fun q J=>J) (Q:=fun c3 dX ey b9 cG c6 c_ da w'=>Fp n w (.tuple #[.agg #[.bool c3, .slice dX.a dX.len dX.cap, .slice ey.a ey.len ey.cap, .slice b9.a b9.len b9.cap], .slice aI.a aI.len aI.cap, .agg #[.bool cG, .slice c6.a c6.len c6.cap, .slice c_.a c_.len c_.cap, .slice da.a da.len da.cap], .bool true]) w') fun dB gy=> ?_⟩
     have w5:b3.drew.heap.size=b3.heap.size:=rfl
     refine ⟨dX,ey,b9,c6,c_,da,aI,by rw[←hi];rfl,?_,?_,?_,?_⟩
     · rw[←hi];exact ((w2.at.ext jJ).an gy fun q J e=>by omega).bA fun q _ J=>by omega
     · rw[←hi];exact (w4.at.an gy fun q J e=>by omega).bA fun q _ J=>by omega
     · rw[←hi,vo]
       have eR:∀q,aQ aI q→bY.heap.size≤q:=C6
       exact bH.rF (bH.ext (bH.ext l1 lZ) lD) gy fun q J e=>by have:=eR q J;omega
     · exact Ext.gv (s4.trans (kM.trans lD)) gy fun q J=>by omega
end
section
theorem SY {B C:Nat→Prop} {w:World} {s x:ab} {ls xs:List Key} (bG:bZ B w s ls) (af:bU C w x xs) (hd:∀q,C q→¬aQ s q) (aD:ls.length≤100000) (hm:xs.length≤100000):
   ∃ (au:ab) (w':World),Sem.run Tryz.prog (Builtin.append_ #[ah.cJ,ah.cJ] ah.cJ #[.slice s.a s.len s.cap, .slice x.a x.len x.cap]) w= .ok (.slice au.a au.len au.cap) w'∧bU (fun q=>B q∨C q∨w.heap.size≤q) w' au (ls++xs)∧ao (aQ s) w w':=by
 have akF:=bU.len af
 obtain ⟨ts,U,ad,aq,aK⟩:=bG
 obtain ⟨us,aC,aG,aJ,aN,cX⟩:=af
 have akG:s.len=ls.length:=by have:=ad.1;rw[kF] at this;omega
 obtain ⟨au,w',ba,bp,dM,j8,lX⟩:=Hp.append (ew:=ah.cJ) aG ad (N8 us) (by omega)
 refine ⟨au,w',ba,⟨ts++us,by simp[U,aC],?_,bp.2.1,?_,fun i i1 i2=> ?_⟩,j8⟩
 · rw[mV];exact bp.src
 · intro k ae
   refine ⟨?_,bp.lt k ae⟩
   rcases lX k ae with h|h
   · exact .inl (aq k h).1
   · exact .inr (.inr h)
 · rcases hJ i ts.length with h|h
   · have gW:i<ls.length:=by omega
     rw[z_ h,z_ gW]
     obtain ⟨a,b⟩:=aK i h gW
     exact bH.bA (bH.rF a j8 b) fun k _ ae=> .inl ae
   · have aZ:i-ts.length<us.length:=by rw[eC] at i1;omega
     have E5:i-ls.length<xs.length:=by omega
     rw[ES h,ES (by omega)]
     have e:i-ls.length=i-ts.length:=by omega
     have a:=cX (i-ts.length) aZ (by omega)
     simp only[e]
     exact bH.bA (bH.rF a j8 fun k ae=>hd k (a.2.2 k ae).1) fun k _ ae=> .inr (.inl ae)
theorem Zs {B C:Nat→Prop} {w:World} {s x:ab} {ds es:List Nat} (bG:eJ B w s ds) (af:dG C w x es) (aD:ds.length≤100000) (hm:es.length≤100000):
   ∃ (au:ab) (w':World),Sem.run Tryz.prog (Builtin.append_ #[ah.eY,ah.eY] ah.eY #[.slice s.a s.len s.cap, .slice x.a x.len x.cap]) w= .ok (.slice au.a au.len au.cap) w'∧dG (fun q=>B q∨C q∨w.heap.size≤q) w' au (ds++es)∧ao (aQ s) w w':=by
 have akF:=dG.len af
 obtain ⟨U,ad⟩:=bG
 have akG:s.len=ds.length:=by have:=U.1;rw[E9] at this;omega
 obtain ⟨au,w',ba,bp,dM,j8,lX⟩:=J4.append (ew:=ah.eY) af.1 U (YE es) (by omega)
 refine ⟨au,w',ba,⟨?_,bp.2.1,?_⟩,j8⟩
 · have:kY ds++kY es=kY (ds++es):=by simp[kY]
   rw[this] at bp;exact bp.src
 · intro k ae
   refine ⟨?_,bp.lt k ae⟩
   rcases lX k ae with h|h
   · exact .inl (ad k h).1
   · exact .inr (.inr h)
def Zt (pa c0 aL q1:Nat) (key:ab) (yR:World) (Q:Value→World→Prop):Prop:=
 de (fun yS:World→Prop=>∃yT:Bool,yR.cell? ⟨pa,0,none⟩=some (.bool yT)∧((!yT)=true→az (yR.drew) fun q2=>∃Fq:Nat→Prop,¬Fq (Addr.add ⟨c0,0,none⟩ 1).block∧∃jK:ab,q2.cell? (Addr.add ⟨c0,0,none⟩ 1)=some (.slice jK.a jK.len jK.cap)∧Calls Tryz.prog F.mo #[.slice key.a key.len key.cap] q2 fun akH gz=>∃ow:ab,akH= .returned (.slice ow.a ow.len ow.cap)∧ao Fq q2 gz∧az (gz.alloc (.cells #[.slice ow.a ow.len ow.cap] ah.cc)) fun s5=>ao Fq gz s5∧∃hM:ab,∃o3:World,Sem.run Tryz.prog (Builtin.append_ #[ah.cJ,ah.cJ] ah.cJ #[.slice jK.a jK.len jK.cap, .slice (some ⟨gz.heap.size,0,none⟩) 1 1]) s5= .ok (.slice hM.a hM.len hM.cap) o3∧(∃u:Value,o3.cell? (Addr.add ⟨c0,0,none⟩ 1)=some u)∧o3.frozen? (Addr.add ⟨c0,0,none⟩ 1)=false∧az (o3.setCell (Addr.add ⟨c0,0,none⟩ 1) (.slice hM.a hM.len hM.cap)) fun nt=>yS nt)∧((!yT)=false→yS yR)) (fun (s6:World)=>∃gn:ab,s6.cell? (Addr.add ⟨c0,0,none⟩ 1)=some (.slice gn.a gn.len gn.cap)∧∃fI:ab,s6.cell? (Addr.add ⟨aL,0,none⟩ 1)=some (.slice fI.a fI.len fI.cap)∧∃gp:ab,∃gY:World,Sem.run Tryz.prog (Builtin.append_ #[ah.cJ,ah.cJ] ah.cJ #[.slice gn.a gn.len gn.cap, .slice fI.a fI.len fI.cap]) s6= .ok (.slice gp.a gp.len gp.cap) gY∧(∃u:Value,gY.cell? (Addr.add ⟨c0,0,none⟩ 1)=some u)∧gY.frozen? (Addr.add ⟨c0,0,none⟩ 1)=false∧az (gY.setCell (Addr.add ⟨c0,0,none⟩ 1) (.slice gp.a gp.len gp.cap)) fun lE=>∃jq:ab,lE.cell? (Addr.add ⟨c0,0,none⟩ 2)=some (.slice jq.a jq.len jq.cap)∧∃l4:ab,lE.cell? (Addr.add ⟨aL,0,none⟩ 2)=some (.slice l4.a l4.len l4.cap)∧∃mZ:ab,∃vp:World,Sem.run Tryz.prog (Builtin.append_ #[ah.cJ,ah.cJ] ah.cJ #[.slice jq.a jq.len jq.cap, .slice l4.a l4.len l4.cap]) lE= .ok (.slice mZ.a mZ.len mZ.cap) vp∧(∃u:Value,vp.cell? (Addr.add ⟨c0,0,none⟩ 2)=some u)∧vp.frozen? (Addr.add ⟨c0,0,none⟩ 2)=false∧az (vp.setCell (Addr.add ⟨c0,0,none⟩ 2) (.slice mZ.a mZ.len mZ.cap)) fun ss=>∃kx:ab,ss.cell? (Addr.add ⟨c0,0,none⟩ 3)=some (.slice kx.a kx.len kx.cap)∧∃pX:ab,ss.cell? (Addr.add ⟨aL,0,none⟩ 3)=some (.slice pX.a pX.len pX.cap)∧∃nu:ab,∃s7:World,Sem.run Tryz.prog (Builtin.append_ #[ah.eY,ah.eY] ah.eY #[.slice kx.a kx.len kx.cap, .slice pX.a pX.len pX.cap]) ss= .ok (.slice nu.a nu.len nu.cap) s7∧(∃u:Value,s7.cell? (Addr.add ⟨c0,0,none⟩ 3)=some u)∧s7.frozen? (Addr.add ⟨c0,0,none⟩ 3)=false∧az (s7.setCell (Addr.add ⟨c0,0,none⟩ 3) (.slice nu.a nu.len nu.cap)) fun w6=>∃OD:Bool,w6.cell? ⟨c0,0,none⟩=some (.bool OD)∧∃yU:ab,w6.cell? (Addr.add ⟨c0,0,none⟩ 1)=some (.slice yU.a yU.len yU.cap)∧∃iX:ab,w6.cell? (Addr.add ⟨c0,0,none⟩ 2)=some (.slice iX.a iX.len iX.cap)∧∃jr:ab,w6.cell? (Addr.add ⟨c0,0,none⟩ 3)=some (.slice jr.a jr.len jr.cap)∧Calls Tryz.prog F.nP #[.agg #[.bool OD, .slice yU.a yU.len yU.cap, .slice iX.a iX.len iX.cap, .slice jr.a jr.len jr.cap]] w6 fun akI pY=>∃Fs:Bool,akI= .returned (.bool Fs)∧((!Fs)=true→cT pY ⟨q1,0,none⟩ [.bool false, .slice none 0 0, .slice none 0 0, .slice none 0 0]∧(4:Nat)=4∧az (setCells pY ⟨q1,0,none⟩ 0 [.bool false, .slice none 0 0, .slice none 0 0, .slice none 0 0]) fun k1=>∃HF:Bool,k1.cell? ⟨q1,0,none⟩=some (.bool HF)∧∃q3:ab,k1.cell? (Addr.add ⟨q1,0,none⟩ 1)=some (.slice q3.a q3.len q3.cap)∧∃yV:ab,k1.cell? (Addr.add ⟨q1,0,none⟩ 2)=some (.slice yV.a yV.len yV.cap)∧∃js:ab,k1.cell? (Addr.add ⟨q1,0,none⟩ 3)=some (.slice js.a js.len js.cap)∧Q ( .tuple #[.agg #[.bool HF, .slice q3.a q3.len q3.cap, .slice yV.a yV.len yV.cap, .slice js.a js.len js.cap], .bool false]) k1)∧((!Fs)=false→∃C7:Bool,pY.cell? ⟨c0,0,none⟩=some (.bool C7)∧∃gq:ab,pY.cell? (Addr.add ⟨c0,0,none⟩ 1)=some (.slice gq.a gq.len gq.cap)∧∃rL:ab,pY.cell? (Addr.add ⟨c0,0,none⟩ 2)=some (.slice rL.a rL.len rL.cap)∧∃k2:ab,pY.cell? (Addr.add ⟨c0,0,none⟩ 3)=some (.slice k2.a k2.len k2.cap)∧cT pY ⟨q1,0,none⟩ [.bool C7, .slice gq.a gq.len gq.cap, .slice rL.a rL.len rL.cap, .slice k2.a k2.len k2.cap]∧(4:Nat)=4∧az (setCells pY ⟨q1,0,none⟩ 0 [.bool C7, .slice gq.a gq.len gq.cap, .slice rL.a rL.len rL.cap, .slice k2.a k2.len k2.cap]) fun o4=>∃OE:Bool,o4.cell? ⟨q1,0,none⟩=some (.bool OE)∧∃yW:ab,o4.cell? (Addr.add ⟨q1,0,none⟩ 1)=some (.slice yW.a yW.len yW.cap)∧∃jt:ab,o4.cell? (Addr.add ⟨q1,0,none⟩ 2)=some (.slice jt.a jt.len jt.cap)∧∃ju:ab,o4.cell? (Addr.add ⟨q1,0,none⟩ 3)=some (.slice ju.a ju.len ju.cap)∧Q ( .tuple #[.agg #[.bool OE, .slice yW.a yW.len yW.cap, .slice jt.a jt.len jt.cap, .slice ju.a ju.len ju.cap], .bool true]) o4))
theorem vq {lo pa c0 aL q1:Nat} {key eU ez ef dS dT dU:ab} {w fx:World} {a b:aO} {s:Key} {cE cY ct C:Nat→Prop} {vr:List Value} (OF:fx.cell? ⟨pa,0,none⟩=some (.bool a.leaf))
   (ay:Var fx c0 [.bool a.leaf, .slice eU.a eU.len eU.cap, .slice ez.a ez.len ez.cap, .slice ef.a ef.len ef.cap] ah.cR) (fc:Var fx aL [.bool b.leaf, .slice dS.a dS.len dS.cap, .slice dT.a dT.len dT.cap, .slice dU.a dU.len dU.cap] ah.cR)
   (bV:jR lo fx a eU ez ef cE cY ct) (iE:ck C fx b dS dT dU) (nR:∀q,C q→lo≤q∧q<fx.heap.size∧q≠c0∧q≠aL∧¬cE q∧¬cY q∧¬ct q) (il:∀q,cE q∨cY q∨ct q→q≠c0∧q≠aL) (pS:lo≤c0) (fj:lo≤aL) (o2:c0≠aL)
   (aY:Var fx q1 vr ah.cR) (KI:vr.length=4) (Zu:q1<lo) (mE:w.heap.size≤q1) (ae:Src 1 fx key (a_ s)) (gh:s.length≤1000) (dO:Ext w fx) (aj:ei (hC a s b)) (aB:a.leaf=b.leaf) (nS:ei a) (dV:ei b)
   (dc:a.keys.length≤10000) (c7:b.keys.length≤10000):Zt pa c0 aL q1 key fx (Fl (hC a s b) w):=by
 unfold Zt
 have akJ:=ay.lt
 have yp:=fc.lt
 have KJ:∀ {n:aO},ei n→n.keys.length≤10000→n.vals.length≤10000∧n.kids.length≤10001:=fun {n} U ad=>by
   rcases U with U|U
   · rw[U.len,U.kids];exact ⟨ad,fi _⟩
   · rw[U.len,U.vals];exact ⟨fi _,by omega⟩
 obtain ⟨akK,EY⟩:=KJ nS dc
 obtain ⟨Aw,EZ⟩:=KJ dV c7
 have lk:pV lo fx c0 a eU ez ef cE cY ct:=⟨ay,bV.keys,bV.vals,bV.kids,fun q J=>⟨(bV.bW q J).1,(bV.bW q J).2.1,(il q (.inl J)).1,(bV.bW q J).2.2⟩,fun q J=>⟨(bV.bv q J).1,(bV.bv q J).2.1,(il q (.inr (.inl J))).1,(bV.bv q J).2.2⟩,fun q J=>⟨(bV.bc q J).1,(bV.bc q J).2,(il q (.inr (.inr J))).1⟩,pS⟩
 refine yB (fun w'=>∃ (K:ab) (Av:Nat→Prop),pV lo w' c0 ⟨a.leaf,if a.leaf then a.keys else a.keys++ [s],a.vals,a.kids⟩ K ez ef Av cY ct∧ao (fun q=>q=c0∨cE q) fx w'∧(∀q,Av q→cE q∨fx.heap.size≤q)) (fun q J=>⟨_,OF,fun aa=> ?_,fun aa=>J _ ⟨eU,cE,?_, .refl _ _,fun q h=> .inl h⟩⟩) ?_
 · have aa:a.leaf=false:=by simpa using aa
   refine SJ lk ae (by omega) (by omega) fun w' aT Av U ad aq=>J _ ⟨aT,Av,?_,ad,aq⟩
   rw[if_neg (by rw[aa];simp)]
   exact U
 · have aa:a.leaf=true:=by simpa using aa
   rw[if_pos aa]
   exact lk
 rintro ag ⟨dX,AH,U,gF,Zv⟩
 have nM:=gF.size
 have ox:=fc.an gF (by
   rintro (h|h)
   · exact o2 h.symm
   · exact (il _ (.inl h)).2 rfl)
 have Zw:=iE.an gF fun q J h=>by
   have:=nR q J
   rcases h with h|h
   · exact this.2.2.1 h
   · exact this.2.2.2.2.1 h
 have lg:=aY.an gF (by
   rintro (h|h)
   · omega
   · have:=(bV.bW _ h).1;omega)
 have akL:Ext w ag:=Ext.gv dO gF fun q J=>by
   rcases J with h|h
   · omega
   · have:=(bV.bW _ h).1;omega
 obtain ⟨KK,OG⟩:∃l,l=(if a.leaf then a.keys else a.keys++ [s]):=⟨_,rfl⟩
 rw[←OG] at U
 have avL:KK.length≤10001:=by
   rw[OG]
   split
   · omega
   · rw[eC];simp;omega
 obtain ⟨cK,bm,bj,bk⟩:=cu U.v
 obtain ⟨d0,d1,d2,d3⟩:=cu ox
 have Ft:∀q,aQ dX q→AH q:=fun k ae=>by obtain ⟨ts,_,_,aq,_⟩:=U.keys;exact (aq k ae).1
 have SZ:∀q,aQ ez q→cY q:=fun k ae=>by obtain ⟨ts,_,_,aq,_⟩:=U.vals;exact (aq k ae).1
 have Zx:∀q,aQ ef q→ct q:=fun k ae=>(U.kids.2 k ae).1
 have Zy:∀q,C q→¬aQ dX q:=fun q J h=>by
   rcases Zv q (Ft q h) with ad|ad
   · exact (nR q J).2.2.2.2.1 ad
   · have:=(nR q J).2.1;omega
 obtain ⟨pt,aw,ba,bp,dM⟩:=SY U.keys Zw.keys Zy (by show KK.length≤_;omega) (by omega)
 have lA:=U.v.an dM fun h=>(U.bW _ (Ft _ h)).2.2.1 rfl
 obtain ⟨jv,lF⟩:=kc lA (i:=1) (by simp)
 refine ⟨dX,bm,dS,d1,pt,aw,ba,?_⟩
 rw[aX,aX]
 refine ⟨jv,lF,bN ?_⟩
 obtain ⟨a8,nm⟩:∃a8,a8=aw.setCell ⟨c0,0+1,none⟩ (.slice pt.a pt.len pt.cap):=⟨_,rfl⟩
 rw[←nm]
 have kN:ao (fun q=>q=c0) aw a8:=by rw[nm];exact iV _ _ _ _
 have Zz:Var a8 c0 [.bool a.leaf, .slice pt.a pt.len pt.cap, .slice ez.a ez.len ez.cap, .slice ef.a ef.len ef.cap] ah.cR:=by rw[nm];exact j_ lA _
 have oy:ao (fun q=>q=c0∨aQ dX q) ag a8:=(dM.mono fun q _ h=> .inr h).trans (kN.mono fun q _ h=> .inl h)
 have HG:=ox.an oy (by
   rintro (h|h)
   · exact o2 h.symm
   · rcases Zv _ (Ft _ h) with ad|ad
     · exact (il _ (.inl ad)).2 rfl
     · omega)
 have ZA:=Zw.an oy fun q J h=>by
   rcases h with h|h
   · exact (nR q J).2.2.1 h
   · exact Zy q J h
 have akM:=bZ.an U.vals oy fun q J h=>by
   rcases h with h|h
   · exact (U.bv q J).2.2.1 h
   · exact (U.bW q (Ft q h)).2.2.2.1 J
 have akN:=eJ.an U.kids oy fun q J h=>by
   rcases h with h|h
   · exact (U.bc q J).2.2 h
   · exact (U.bW q (Ft q h)).2.2.2.2 J
 have yH:=lg.an oy (by
   rintro (h|h)
   · omega
   · have:=(U.bW _ (Ft _ h)).1;omega)
 have hY:Ext w a8:=Ext.gv akL oy fun q J=>by
   rcases J with h|h
   · omega
   · have:=(U.bW _ (Ft _ h)).1;omega
 have HH:bU (fun q=>(AH q∨C q∨ag.heap.size≤q)∧q≠c0) a8 pt (KK++b.keys):=by
   have S0:bU (fun q=>(AH q∨C q∨ag.heap.size≤q)∧q≠c0) aw pt (KK++b.keys):=bU.bA bp fun q _ J=>⟨J,by
     rcases J with h|h|h
     · exact (U.bW _ h).2.2.1
     · exact (nR _ h).2.2.1
     · omega⟩
   exact bU.an S0 kN fun q J h=>J.2 h
 obtain ⟨cK,bm,bj,bk⟩:=cu Zz
 obtain ⟨d0,d1,d2,d3⟩:=cu HG
 have Fm:=oy.size
 obtain ⟨iD,bz,ba,bp,dM⟩:=SY akM ZA.vals (fun q J h=>(nR q J).2.2.2.2.2.1 (SZ q h)) (by show a.vals.length≤_;omega) (by omega)
 have N5:=Zz.an dM fun h=>(U.bv _ (SZ _ h)).2.2.1 rfl
 obtain ⟨jv,lF⟩:=kc N5 (i:=2) (by simp)
 rw[aX] at bj d2
 refine ⟨ez,bj,dT,d2,iD,bz,ba,?_⟩
 rw[aX,aX]
 refine ⟨jv,lF,bN ?_⟩
 obtain ⟨bO,S1⟩:∃bO,bO=bz.setCell ⟨c0,0+2,none⟩ (.slice iD.a iD.len iD.cap):=⟨_,rfl⟩
 rw[←S1]
 have oz:ao (fun q=>q=c0) bz bO:=by rw[S1];exact iV _ _ _ _
 have iN:Var bO c0 [.bool a.leaf, .slice pt.a pt.len pt.cap, .slice iD.a iD.len iD.cap, .slice ef.a ef.len ef.cap] ah.cR:=by rw[S1];exact j_ N5 _
 have Fu:ao (fun q=>q=c0∨cY q) a8 bO:=(dM.mono fun q _ h=> .inr (SZ q h)).trans (oz.mono fun q _ h=> .inl h)
 have N6:=HG.an Fu (by
   rintro (h|h)
   · exact o2 h.symm
   · exact (il _ (.inr (.inl h))).2 rfl)
 have akO:=ZA.an Fu fun q J h=>by
   rcases h with h|h
   · exact (nR q J).2.2.1 h
   · exact (nR q J).2.2.2.2.2.1 h
 have akP:=bU.an HH Fu fun q J h=>by
   rcases h with h|h
   · exact J.2 h
   · rcases J.1 with ad|ad|ad
     · exact (U.bW _ ad).2.2.2.1 h
     · exact (nR _ ad).2.2.2.2.2.1 h
     · have:=(U.bv _ h).2.1;omega
 have akQ:=eJ.an akN Fu fun q J h=>by
   rcases h with h|h
   · exact (U.bc q J).2.2 h
   · exact (U.bv q h).2.2.2 J
 have akR:=yH.an Fu (by
   rintro (h|h)
   · omega
   · have:=(U.bv _ h).1;omega)
 have qR:Ext w bO:=Ext.gv hY Fu fun q J=>by
   rcases J with h|h
   · omega
   · have:=(U.bv _ h).1;omega
 have akS:bU (fun q=>(cY q∨C q∨a8.heap.size≤q)∧q≠c0) bO iD (a.vals++b.vals):=by
   have S0:bU (fun q=>(cY q∨C q∨a8.heap.size≤q)∧q≠c0) bz iD (a.vals++b.vals):=bU.bA bp fun q _ J=>⟨J,by
     rcases J with h|h|h
     · exact (U.bv _ h).2.2.1
     · exact (nR _ h).2.2.1
     · omega⟩
   exact bU.an S0 oz fun q J h=>J.2 h
 obtain ⟨cK,bm,bj,bk⟩:=cu iN
 obtain ⟨d0,d1,d2,d3⟩:=cu N6
 have OA:=Fu.size
 obtain ⟨vt,bg,ba,bp,dM⟩:=Zs akQ akO.kids (by show a.kids.length≤_;omega) (by omega)
 have N7:=iN.an dM fun h=>(U.bc _ (Zx _ h)).2.2 rfl
 obtain ⟨jv,lF⟩:=kc N7 (i:=3) (by simp)
 rw[aX] at bk d3
 refine ⟨ef,bk,dU,d3,vt,bg,ba,?_⟩
 rw[aX,aX]
 refine ⟨jv,lF,bN ?_⟩
 obtain ⟨aS,Fv⟩:∃aS,aS=bg.setCell ⟨c0,0+3,none⟩ (.slice vt.a vt.len vt.cap):=⟨_,rfl⟩
 rw[←Fv]
 have ud:ao (fun q=>q=c0) bg aS:=by rw[Fv];exact iV _ _ _ _
 have ZB:Var aS c0 [.bool a.leaf, .slice pt.a pt.len pt.cap, .slice iD.a iD.len iD.cap, .slice vt.a vt.len vt.cap] ah.cR:=by rw[Fv];exact j_ N7 _
 have KL:ao (fun q=>q=c0∨ct q) bO aS:=(dM.mono fun q _ h=> .inr (Zx q h)).trans (ud.mono fun q _ h=> .inl h)
 have akT:=bU.an akP KL fun q J h=>by
   rcases h with h|h
   · exact J.2 h
   · rcases J.1 with ad|ad|ad
     · exact (U.bW _ ad).2.2.2.2 h
     · exact (nR _ ad).2.2.2.2.2.2 h
     · have:=(U.bc _ h).2.1;omega
 have akU:=bU.an akS KL fun q J h=>by
   rcases h with h|h
   · exact J.2 h
   · rcases J.1 with ad|ad|ad
     · exact (U.bv _ ad).2.2.2 h
     · exact (nR _ ad).2.2.2.2.2.2 h
     · have:=(U.bc _ h).2.1;omega
 have SS:=akR.an KL (by
   rintro (h|h)
   · omega
   · have:=(U.bc _ h).1;omega)
 have sh:Ext w aS:=Ext.gv qR KL fun q J=>by
   rcases J with h|h
   · omega
   · have:=(U.bc _ h).1;omega
 have CZ:=KL.size
 have HI:ck (fun q=>lo≤q) aS (hC a s b) pt iD vt:=by
   have ue:hC a s b=⟨a.leaf,KK++b.keys,a.vals++b.vals,a.kids++b.kids⟩:=by
     unfold hC
     cases dt:a.leaf with
     |true=>
       have Ad:a.kids=[]:=by
         rcases nS with h|h
         · exact h.kids
         · have:=h.inner;rw[dt] at this;cases this
       have yj:b.kids=[]:=by
         rcases dV with h|h
         · exact h.kids
         · have:=h.inner;rw[←aB,dt] at this;cases this
       rw[OG,dt,Ad,yj]
       simp
     |false=>
       have Ad:a.vals=[]:=by
         rcases nS with h|h
         · have:=h.leaf;rw[dt] at this;cases this
         · exact h.vals
       have yj:b.vals=[]:=by
         rcases dV with h|h
         · have:=h.leaf;rw[←aB,dt] at this;cases this
         · exact h.vals
       rw[OG,dt,Ad,yj]
       simp
   rw[ue]
   refine ⟨bU.bA akT fun q _ J=> ?_,bU.bA akU fun q _ J=> ?_,dG.bA (dG.an (B:=fun q=>(ct q∨C q∨bO.heap.size≤q)∧q≠c0) (dG.bA bp fun q _ J=>⟨J,?_⟩) ud fun q J h=>J.2 h) fun q _ J=> ?_⟩
   · rcases J.1 with h|h|h
     · exact (U.bW _ h).1
     · exact (nR _ h).1
     · omega
   · rcases J.1 with h|h|h
     · exact (U.bv _ h).1
     · exact (nR _ h).1
     · omega
   · rcases J with h|h|h
     · exact (U.bc _ h).2.2
     · exact (nR _ h).2.2.1
     · omega
   · rcases J.1 with h|h|h
     · exact (U.bc _ h).1
     · exact (nR _ h).1
     · omega
 obtain ⟨cK,bm,bj,bk⟩:=cu ZB
 rw[aX] at bm bj bk
 have Hc:(hC a s b).keys.length≤20001:=by
   unfold hC
   split
   · show (a.keys++b.keys).length≤_;rw[eC];omega
   · show (a.keys++s::b.keys).length≤_;rw[eC,oS];omega
 have Cx:(hC a s b).vals.length≤20001:=by
   unfold hC
   split
   · show (a.vals++b.vals).length≤_;rw[eC];omega
   · simp
 have Ay:(hC a s b).kids.length≤20002:=by
   unfold hC
   split
   · simp
   · show (a.kids++b.kids).length≤_;rw[eC];omega
 have oh:(hC a s b).leaf=a.leaf:=X9
 repeat rw[aX]
 refine ⟨_,cK,pt,bm,iD,bj,vt,bk,?_⟩
 have wJ:=nP HI (by omega) (by omega) (by omega)
 unfold fg at wJ
 rw[oh] at wJ
 refine wJ.use ?_
 rintro _ cd ⟨Om,rfl,HJ,gP⟩
 have:=HJ.2 aj
 subst this
 obtain ⟨cK,bm,bj,bk⟩:=cu (ZB.ext gP)
 rw[aX] at bm bj bk
 have C8:=rH a.leaf pt iD vt (SS.ext gP) KI (Q:=fun jn K V D aw=>Fl (hC a s b) w (.tuple #[.agg #[.bool jn, .slice K.a K.len K.cap, .slice V.a V.len V.cap, .slice D.a D.len D.cap], .bool true]) aw) fun bY hZ=>⟨pt,iD,vt,by unfold fg;rw[oh],((HI.ext gP).an hZ fun q J e=>by omega).bA fun q _ J=>by omega,Ext.e_ (sh.trans gP) hZ mE⟩
 repeat rw[aX] at C8
 exact ⟨true,rfl,fun h=>(by cases h),fun _=>⟨_,cK,pt,bm,iD,bj,vt,bk,C8⟩⟩
theorem qn {OH OI:Nat→Prop} {w:World} {a b:aO} {w7 w8 w9 w_ xa xb key:ab} {s:Key} (aR:ck OH w a w7 w8 w9) (aa:ck OI w b w_ xa xb) (ae:Src 1 w key (a_ s)) (vu:∀q,aQ key q→q<w.heap.size) (gh:s.length≤1000) (nS:ei a) (dV:ei b) (aB:a.leaf=b.leaf) (aj:ei (hC a s b))
   (dc:a.keys.length≤10000) (c7:b.keys.length≤10000):
   aP Tryz.prog F.qn #[fg a w7 w8 w9, .slice key.a key.len key.cap,fg b w_ xa xb] w (Fl (hC a s b) w):=by
 have KJ:∀ {n:aO},ei n→n.keys.length≤10000→n.vals.length≤10000∧n.kids.length≤10001:=fun {n} U ad=>by
   rcases U with U|U
   · rw[U.len,U.kids];exact ⟨ad,fi _⟩
   · rw[U.len,U.vals];exact ⟨fi _,by omega⟩
 obtain ⟨akK,EY⟩:=KJ nS dc
 obtain ⟨Aw,EZ⟩:=KJ dV c7
 have KM:∀k∈a.keys,k.length≤100000:=fun k ae=>by have:=(nS.keys.ok k ae).2;omega
 have xc:∀k∈b.keys,k.length≤100000:=fun k ae=>by have:=(dV.keys.ok k ae).2;omega
 have KN:∀k∈a.vals,k.length≤100000:=fun k ae=>by have:=nS.vals k ae;omega
 have xd:∀k∈b.vals,k.length≤100000:=fun k ae=>by have:=dV.vals k ae;omega
 refine W.akV a.leaf w7 w8 w9 key b.leaf w_ xa xb w _ ?_
 (delta W.qn dA bR ai ar bk Hx aF sq Kp nq c2 dZ OJ st Kq Fw;dsimp only)
 refine cx (vs:=[.bool a.leaf, .slice w7.a w7.len w7.cap, .slice w8.a w8.len w8.cap, .slice w9.a w9.len w9.cap]) rfl fun ag gx bK nM=> ?_
 refine cx (vs:=[.bool b.leaf, .slice w_.a w_.len w_.cap, .slice xa.a xa.len xa.cap, .slice xb.a xb.len xb.cap]) rfl fun aw hL cD tR=> ?_
 refine cx (vs:=[.bool false, .slice none 0 0, .slice none 0 0, .slice none 0 0]) rfl fun a8 yH eX Fm=> ?_
 have hY:=bK.trans (cD.trans eX)
 obtain ⟨cK,bm,bj,bk⟩:=cu (gx.ext (cD.trans eX))
 refine ⟨_,cK,w7,bm,w8,bj,w9,bk,(nP (aR.ext hY) (by omega) (by omega) (by omega)).use ?_⟩
 rintro _ bz ⟨c3,rfl,ox,fz⟩
 have:=ox.2 nS
 subst this
 have tS:=hY.trans fz
 obtain ⟨d0,d1,d2,d3⟩:=cu (hL.ext (eX.trans fz))
 refine ⟨true,rfl,ff (fun b w'=>b=false∧Ext bz w') (fun q J=>⟨fun h=>(by cases h),fun _=>⟨_,d0,w_,d1,xa,d2,xb,d3,(nP (aa.ext tS) (by omega) (by omega) (by omega)).use ?_⟩⟩) ?_⟩
 · rintro _ bO ⟨cG,rfl,gO,kK⟩
   have:=gO.2 dV
   subst this
   exact ⟨true,rfl,J _ _ ⟨rfl,kK⟩⟩
 rintro _ bO ⟨rfl,kK⟩
 have qR:=tS.trans kK
 obtain ⟨cK,bm,bj,bk⟩:=cu (gx.ext (cD.trans (eX.trans (fz.trans kK))))
 obtain ⟨d0,d1,d2,d3⟩:=cu (hL.ext (eX.trans (fz.trans kK)))
 refine ff (fun b w'=>b=false∧bO=w') (fun q J=>⟨fun h=>(by cases h),fun _=>⟨_,cK,_,d0,J _ _ ⟨by rw[aB];simp,rfl⟩⟩⟩) ?_
 rintro _ _ ⟨rfl,rfl⟩
 have bB:=ej bO
 have ZC:=qR.trans bB
 obtain ⟨mH,Fx⟩:∃mH,mH=bO.drew:=⟨_,rfl⟩
 have uf:Var mH w.heap.size [.bool a.leaf, .slice w7.a w7.len w7.cap, .slice w8.a w8.len w8.cap, .slice w9.a w9.len w9.cap] ah.cR:=by rw[Fx];exact (gx.ext (cD.trans (eX.trans (fz.trans kK)))).ext bB
 have akW:Var mH ag.heap.size [.bool b.leaf, .slice w_.a w_.len w_.cap, .slice xa.a xa.len xa.cap, .slice xb.a xb.len xb.cap] ah.cR:=by rw[Fx];exact (hL.ext (eX.trans (fz.trans kK))).ext bB
 have vv:Var mH aw.heap.size [.bool false, .slice none 0 0, .slice none 0 0, .slice none 0 0] ah.cR:=by rw[Fx];exact (yH.ext (fz.trans kK)).ext bB
 have mu:Ext w mH:=by rw[Fx];exact ZC
 have avM:a8.heap.size≤mH.heap.size:=by rw[Fx];exact (fz.trans kK).size
 have KO:=aR.ext mu
 have q4:=aa.ext mu
 have kq:=ae.ext mu
 obtain ⟨lo,mE⟩:∃lo,lo=mH.heap.size:=⟨_,rfl⟩
 rw[←Fx]
 clear cK bm bj bk d0 d1 d2 d3 Fx ZC bB
 obtain ⟨cK,bm,bj,bk⟩:=cu uf
 obtain ⟨d0,d1,d2,d3⟩:=cu akW
 refine ⟨fun h=>(by cases h),fun _=>bN ⟨fun _=>False,id,_,cK,w7,bm,w8,bj,w9,bk,id,_,d0,w_,d1,xa,d2,xb,d3,?_⟩⟩
 refine ⟨?_,?_,?_⟩
 · refine (fO KO (by omega) (by omega) (by omega) KM KN).use ?_
   rintro _ kf ⟨eU,ez,ef,l5,l6,l7,rfl,bV,aC⟩
   refine ⟨_,eU,ez,ef,rfl,aC,?_⟩
   have s1:=aC.size
   refine ⟨?_,?_,?_⟩
   · refine (fO (q4.ext aC) (by omega) (by omega) (by omega) xc xd).use ?_
     rintro _ ji ⟨dS,dT,dU,yX,yY,yZ,rfl,iE,aG⟩
     refine ⟨_,dS,dT,dU,rfl,aG,?_⟩
     have s2:=aG.size
     refine ⟨?_,?_⟩
     · refine cx (vs:=[.bool false, .slice none 0 0, .slice none 0 0, .slice none 0 0]) rfl fun iF mG aJ z3=>⟨aJ,?_⟩
       have bS:=aJ.size
       refine cx (vs:=[.bool false, .slice none 0 0, .slice none 0 0, .slice none 0 0]) rfl fun jT rM aN z4=>⟨aN,?_⟩
       have cO:=aN.size
       have jU:=mG.ext aN
       have nT:=rM
       refine ⟨jU.du rfl (lC _ _ _ _),rfl,eg jU (us:=[.bool a.leaf, .slice eU.a eU.len eU.cap, .slice ez.a ez.len ez.cap, .slice ef.a ef.len ef.cap]) rfl rfl fun xe iN dQ t5=> ?_⟩
       have jV:=nT.an dQ (by omega)
       refine ⟨jV.du rfl (lC _ _ _ _),rfl,eg jV (us:=[.bool b.leaf, .slice dS.a dS.len dS.cap, .slice dT.a dT.len dT.cap, .slice dU.a dU.len dU.cap]) rfl rfl fun fB jh fC t6=> ?_⟩
       obtain ⟨c0,il⟩:∃c0,c0=ji.heap.size:=⟨_,rfl⟩
       obtain ⟨aL,fl⟩:∃aL,aL=iF.heap.size:=⟨_,rfl⟩
       rw[←il] at iN dQ
       rw[←fl] at jh fC
       rw[←il,←fl]
       have dH:ao (fun q=>q=c0∨q=aL) jT fB:=(dQ.mono fun q _ h=> .inl h).trans (fC.mono fun q _ h=> .inr h)
       have nU:jR lo fB a eU ez ef l5 l6 l7:=(((bV.ext (aG.trans (aJ.trans (aN)))).an dH fun q _ _ J e=>by have rI:mH.heap.size≤q∧q<kf.heap.size:=(by rcases J with J|J|J;exact ⟨(bV.bW q J).1,(bV.bW q J).2.1⟩;exact ⟨(bV.bv q J).1,(bV.bv q J).2.1⟩;exact bV.bc q J);omega).low (by omega))
       have nV:ck (fun q=>kf.heap.size≤q∧q<ji.heap.size) fB b dS dT dU:=((iE.at.bA fun q U ad=>⟨ad,U⟩).ext (aJ.trans (aN))).an dH fun q J e=>by omega
       have fD:∀q,l5 q∨l6 q∨l7 q→mH.heap.size≤q∧q<kf.heap.size:=fun q J=>by
         rcases J with J|J|J
         · exact ⟨(bV.bW q J).1,(bV.bW q J).2.1⟩
         · exact ⟨(bV.bv q J).1,(bV.bv q J).2.1⟩
         · exact bV.bc q J
       exact vq (lo:=lo) (fx:=fB) (C:=fun q=>kf.heap.size≤q∧q<ji.heap.size) ((uf.ext (aC.trans (aG.trans (aJ.trans aN)))).an dH (by omega)).cell (iN.an fC (by omega)) jh nU nV (fun q J=>⟨by omega,by omega,by omega,by omega,fun h=>(by have:=fD q (.inl h);omega),fun h=>(by have:=fD q (.inr (.inl h));omega),fun h=>(by have:=fD q (.inr (.inr h));omega)⟩) (fun q J=>(by have:=fD q J;exact ⟨by omega,by omega⟩)) (by omega) (by omega) (by omega) ((vv.ext (aC.trans (aG.trans (aJ.trans aN)))).an dH (by omega)) rfl (by omega) (by omega) ((kq.ext (aC.trans (aG.trans (aJ.trans aN)))).an dH fun q J e=>(by have:=vu q J;have:=mu.size;omega)) gh (Ext.gv (mu.trans (aC.trans (aG.trans (aJ.trans aN)))) dH fun q J=>by omega) aj aB nS dV dc c7
     · refine cx (vs:=[.bool false, .slice none 0 0, .slice none 0 0, .slice none 0 0]) rfl fun iF mG aJ z3=>⟨aJ,?_⟩
       have bS:=aJ.size
       refine cx (vs:=[.bool false, .slice none 0 0, .slice none 0 0, .slice none 0 0]) rfl fun jT rM aN z4=>⟨aN,?_⟩
       have cO:=aN.size
       have jU:=rM
       have nT:=mG.ext aN
       refine ⟨jU.du rfl (lC _ _ _ _),rfl,eg jU (us:=[.bool a.leaf, .slice eU.a eU.len eU.cap, .slice ez.a ez.len ez.cap, .slice ef.a ef.len ef.cap]) rfl rfl fun xe iN dQ t5=> ?_⟩
       have jV:=nT.an dQ (by omega)
       refine ⟨jV.du rfl (lC _ _ _ _),rfl,eg jV (us:=[.bool b.leaf, .slice dS.a dS.len dS.cap, .slice dT.a dT.len dT.cap, .slice dU.a dU.len dU.cap]) rfl rfl fun fB jh fC t6=> ?_⟩
       obtain ⟨c0,il⟩:∃c0,c0=iF.heap.size:=⟨_,rfl⟩
       obtain ⟨aL,fl⟩:∃aL,aL=ji.heap.size:=⟨_,rfl⟩
       rw[←il] at iN dQ
       rw[←fl] at jh fC
       rw[←il,←fl]
       have dH:ao (fun q=>q=c0∨q=aL) jT fB:=(dQ.mono fun q _ h=> .inl h).trans (fC.mono fun q _ h=> .inr h)
       have nU:jR lo fB a eU ez ef l5 l6 l7:=(((bV.ext (aG.trans (aJ.trans (aN)))).an dH fun q _ _ J e=>by have rI:mH.heap.size≤q∧q<kf.heap.size:=(by rcases J with J|J|J;exact ⟨(bV.bW q J).1,(bV.bW q J).2.1⟩;exact ⟨(bV.bv q J).1,(bV.bv q J).2.1⟩;exact bV.bc q J);omega).low (by omega))
       have nV:ck (fun q=>kf.heap.size≤q∧q<ji.heap.size) fB b dS dT dU:=((iE.at.bA fun q U ad=>⟨ad,U⟩).ext (aJ.trans (aN))).an dH fun q J e=>by omega
       have fD:∀q,l5 q∨l6 q∨l7 q→mH.heap.size≤q∧q<kf.heap.size:=fun q J=>by
         rcases J with J|J|J
         · exact ⟨(bV.bW q J).1,(bV.bW q J).2.1⟩
         · exact ⟨(bV.bv q J).1,(bV.bv q J).2.1⟩
         · exact bV.bc q J
       exact vq (lo:=lo) (fx:=fB) (C:=fun q=>kf.heap.size≤q∧q<ji.heap.size) ((uf.ext (aC.trans (aG.trans (aJ.trans aN)))).an dH (by omega)).cell (iN.an fC (by omega)) jh nU nV (fun q J=>⟨by omega,by omega,by omega,by omega,fun h=>(by have:=fD q (.inl h);omega),fun h=>(by have:=fD q (.inr (.inl h));omega),fun h=>(by have:=fD q (.inr (.inr h));omega)⟩) (fun q J=>(by have:=fD q J;exact ⟨by omega,by omega⟩)) (by omega) (by omega) (by omega) ((vv.ext (aC.trans (aG.trans (aJ.trans aN)))).an dH (by omega)) rfl (by omega) (by omega) ((kq.ext (aC.trans (aG.trans (aJ.trans aN)))).an dH fun q J e=>(by have:=vu q J;have:=mu.size;omega)) gh (Ext.gv (mu.trans (aC.trans (aG.trans (aJ.trans aN)))) dH fun q J=>by omega) aj aB nS dV dc c7
   · refine cx (vs:=[.bool false, .slice none 0 0, .slice none 0 0, .slice none 0 0]) rfl fun ji hD aG pR=>⟨aG,?_⟩
     have s2:=aG.size
     refine ⟨?_,?_⟩
     · refine (fO (q4.ext (aC.trans (aG))) (by omega) (by omega) (by omega) xc xd).use ?_
       rintro _ iF ⟨dS,dT,dU,yX,yY,yZ,rfl,iE,aJ⟩
       refine ⟨_,dS,dT,dU,rfl,aJ,?_⟩
       have bS:=aJ.size
       refine cx (vs:=[.bool false, .slice none 0 0, .slice none 0 0, .slice none 0 0]) rfl fun jT rM aN z4=>⟨aN,?_⟩
       have cO:=aN.size
       have jU:=hD.ext (aJ.trans (aN))
       have nT:=rM
       refine ⟨jU.du rfl (lC _ _ _ _),rfl,eg jU (us:=[.bool a.leaf, .slice eU.a eU.len eU.cap, .slice ez.a ez.len ez.cap, .slice ef.a ef.len ef.cap]) rfl rfl fun xe iN dQ t5=> ?_⟩
       have jV:=nT.an dQ (by omega)
       refine ⟨jV.du rfl (lC _ _ _ _),rfl,eg jV (us:=[.bool b.leaf, .slice dS.a dS.len dS.cap, .slice dT.a dT.len dT.cap, .slice dU.a dU.len dU.cap]) rfl rfl fun fB jh fC t6=> ?_⟩
       obtain ⟨c0,il⟩:∃c0,c0=kf.heap.size:=⟨_,rfl⟩
       obtain ⟨aL,fl⟩:∃aL,aL=iF.heap.size:=⟨_,rfl⟩
       rw[←il] at iN dQ
       rw[←fl] at jh fC
       rw[←il,←fl]
       have dH:ao (fun q=>q=c0∨q=aL) jT fB:=(dQ.mono fun q _ h=> .inl h).trans (fC.mono fun q _ h=> .inr h)
       have nU:jR lo fB a eU ez ef l5 l6 l7:=(((bV.ext (aG.trans (aJ.trans (aN)))).an dH fun q _ _ J e=>by have rI:mH.heap.size≤q∧q<kf.heap.size:=(by rcases J with J|J|J;exact ⟨(bV.bW q J).1,(bV.bW q J).2.1⟩;exact ⟨(bV.bv q J).1,(bV.bv q J).2.1⟩;exact bV.bc q J);omega).low (by omega))
       have nV:ck (fun q=>ji.heap.size≤q∧q<iF.heap.size) fB b dS dT dU:=((iE.at.bA fun q U ad=>⟨ad,U⟩).ext aN).an dH fun q J e=>by omega
       have fD:∀q,l5 q∨l6 q∨l7 q→mH.heap.size≤q∧q<kf.heap.size:=fun q J=>by
         rcases J with J|J|J
         · exact ⟨(bV.bW q J).1,(bV.bW q J).2.1⟩
         · exact ⟨(bV.bv q J).1,(bV.bv q J).2.1⟩
         · exact bV.bc q J
       exact vq (lo:=lo) (fx:=fB) (C:=fun q=>ji.heap.size≤q∧q<iF.heap.size) ((uf.ext (aC.trans (aG.trans (aJ.trans aN)))).an dH (by omega)).cell (iN.an fC (by omega)) jh nU nV (fun q J=>⟨by omega,by omega,by omega,by omega,fun h=>(by have:=fD q (.inl h);omega),fun h=>(by have:=fD q (.inr (.inl h));omega),fun h=>(by have:=fD q (.inr (.inr h));omega)⟩) (fun q J=>(by have:=fD q J;exact ⟨by omega,by omega⟩)) (by omega) (by omega) (by omega) ((vv.ext (aC.trans (aG.trans (aJ.trans aN)))).an dH (by omega)) rfl (by omega) (by omega) ((kq.ext (aC.trans (aG.trans (aJ.trans aN)))).an dH fun q J e=>(by have:=vu q J;have:=mu.size;omega)) gh (Ext.gv (mu.trans (aC.trans (aG.trans (aJ.trans aN)))) dH fun q J=>by omega) aj aB nS dV dc c7
     · refine cx (vs:=[.bool false, .slice none 0 0, .slice none 0 0, .slice none 0 0]) rfl fun iF mG aJ z3=>⟨aJ,?_⟩
       have bS:=aJ.size
       refine (fO (q4.ext (aC.trans (aG.trans (aJ)))) (by omega) (by omega) (by omega) xc xd).use ?_
       rintro _ jT ⟨dS,dT,dU,yX,yY,yZ,rfl,iE,aN⟩
       refine ⟨_,dS,dT,dU,rfl,aN,?_⟩
       have cO:=aN.size
       have jU:=hD.ext (aJ.trans (aN))
       have nT:=mG.ext aN
       refine ⟨jU.du rfl (lC _ _ _ _),rfl,eg jU (us:=[.bool a.leaf, .slice eU.a eU.len eU.cap, .slice ez.a ez.len ez.cap, .slice ef.a ef.len ef.cap]) rfl rfl fun xe iN dQ t5=> ?_⟩
       have jV:=nT.an dQ (by omega)
       refine ⟨jV.du rfl (lC _ _ _ _),rfl,eg jV (us:=[.bool b.leaf, .slice dS.a dS.len dS.cap, .slice dT.a dT.len dT.cap, .slice dU.a dU.len dU.cap]) rfl rfl fun fB jh fC t6=> ?_⟩
       obtain ⟨c0,il⟩:∃c0,c0=kf.heap.size:=⟨_,rfl⟩
       obtain ⟨aL,fl⟩:∃aL,aL=ji.heap.size:=⟨_,rfl⟩
       rw[←il] at iN dQ
       rw[←fl] at jh fC
       rw[←il,←fl]
       have dH:ao (fun q=>q=c0∨q=aL) jT fB:=(dQ.mono fun q _ h=> .inl h).trans (fC.mono fun q _ h=> .inr h)
       have nU:jR lo fB a eU ez ef l5 l6 l7:=(((bV.ext (aG.trans (aJ.trans (aN)))).an dH fun q _ _ J e=>by have rI:mH.heap.size≤q∧q<kf.heap.size:=(by rcases J with J|J|J;exact ⟨(bV.bW q J).1,(bV.bW q J).2.1⟩;exact ⟨(bV.bv q J).1,(bV.bv q J).2.1⟩;exact bV.bc q J);omega).low (by omega))
       have nV:ck (fun q=>iF.heap.size≤q∧q<jT.heap.size) fB b dS dT dU:=(iE.at.bA fun q U ad=>⟨ad,U⟩).an dH fun q J e=>by omega
       have fD:∀q,l5 q∨l6 q∨l7 q→mH.heap.size≤q∧q<kf.heap.size:=fun q J=>by
         rcases J with J|J|J
         · exact ⟨(bV.bW q J).1,(bV.bW q J).2.1⟩
         · exact ⟨(bV.bv q J).1,(bV.bv q J).2.1⟩
         · exact bV.bc q J
       exact vq (lo:=lo) (fx:=fB) (C:=fun q=>iF.heap.size≤q∧q<jT.heap.size) ((uf.ext (aC.trans (aG.trans (aJ.trans aN)))).an dH (by omega)).cell (iN.an fC (by omega)) jh nU nV (fun q J=>⟨by omega,by omega,by omega,by omega,fun h=>(by have:=fD q (.inl h);omega),fun h=>(by have:=fD q (.inr (.inl h));omega),fun h=>(by have:=fD q (.inr (.inr h));omega)⟩) (fun q J=>(by have:=fD q J;exact ⟨by omega,by omega⟩)) (by omega) (by omega) (by omega) ((vv.ext (aC.trans (aG.trans (aJ.trans aN)))).an dH (by omega)) rfl (by omega) (by omega) ((kq.ext (aC.trans (aG.trans (aJ.trans aN)))).an dH fun q J e=>(by have:=vu q J;have:=mu.size;omega)) gh (Ext.gv (mu.trans (aC.trans (aG.trans (aJ.trans aN)))) dH fun q J=>by omega) aj aB nS dV dc c7
   · refine cx (vs:=[.bool false, .slice none 0 0, .slice none 0 0, .slice none 0 0]) rfl fun ji hD aG pR=>⟨aG,?_⟩
     have s2:=aG.size
     refine ⟨?_,?_⟩
     · refine (fO (q4.ext (aC.trans (aG))) (by omega) (by omega) (by omega) xc xd).use ?_
       rintro _ iF ⟨dS,dT,dU,yX,yY,yZ,rfl,iE,aJ⟩
       refine ⟨_,dS,dT,dU,rfl,aJ,?_⟩
       have bS:=aJ.size
       refine cx (vs:=[.bool false, .slice none 0 0, .slice none 0 0, .slice none 0 0]) rfl fun jT rM aN z4=>⟨aN,?_⟩
       have cO:=aN.size
       have jU:=rM
       have nT:=hD.ext (aJ.trans (aN))
       refine ⟨jU.du rfl (lC _ _ _ _),rfl,eg jU (us:=[.bool a.leaf, .slice eU.a eU.len eU.cap, .slice ez.a ez.len ez.cap, .slice ef.a ef.len ef.cap]) rfl rfl fun xe iN dQ t5=> ?_⟩
       have jV:=nT.an dQ (by omega)
       refine ⟨jV.du rfl (lC _ _ _ _),rfl,eg jV (us:=[.bool b.leaf, .slice dS.a dS.len dS.cap, .slice dT.a dT.len dT.cap, .slice dU.a dU.len dU.cap]) rfl rfl fun fB jh fC t6=> ?_⟩
       obtain ⟨c0,il⟩:∃c0,c0=iF.heap.size:=⟨_,rfl⟩
       obtain ⟨aL,fl⟩:∃aL,aL=kf.heap.size:=⟨_,rfl⟩
       rw[←il] at iN dQ
       rw[←fl] at jh fC
       rw[←il,←fl]
       have dH:ao (fun q=>q=c0∨q=aL) jT fB:=(dQ.mono fun q _ h=> .inl h).trans (fC.mono fun q _ h=> .inr h)
       have nU:jR lo fB a eU ez ef l5 l6 l7:=(((bV.ext (aG.trans (aJ.trans (aN)))).an dH fun q _ _ J e=>by have rI:mH.heap.size≤q∧q<kf.heap.size:=(by rcases J with J|J|J;exact ⟨(bV.bW q J).1,(bV.bW q J).2.1⟩;exact ⟨(bV.bv q J).1,(bV.bv q J).2.1⟩;exact bV.bc q J);omega).low (by omega))
       have nV:ck (fun q=>ji.heap.size≤q∧q<iF.heap.size) fB b dS dT dU:=((iE.at.bA fun q U ad=>⟨ad,U⟩).ext aN).an dH fun q J e=>by omega
       have fD:∀q,l5 q∨l6 q∨l7 q→mH.heap.size≤q∧q<kf.heap.size:=fun q J=>by
         rcases J with J|J|J
         · exact ⟨(bV.bW q J).1,(bV.bW q J).2.1⟩
         · exact ⟨(bV.bv q J).1,(bV.bv q J).2.1⟩
         · exact bV.bc q J
       exact vq (lo:=lo) (fx:=fB) (C:=fun q=>ji.heap.size≤q∧q<iF.heap.size) ((uf.ext (aC.trans (aG.trans (aJ.trans aN)))).an dH (by omega)).cell (iN.an fC (by omega)) jh nU nV (fun q J=>⟨by omega,by omega,by omega,by omega,fun h=>(by have:=fD q (.inl h);omega),fun h=>(by have:=fD q (.inr (.inl h));omega),fun h=>(by have:=fD q (.inr (.inr h));omega)⟩) (fun q J=>(by have:=fD q J;exact ⟨by omega,by omega⟩)) (by omega) (by omega) (by omega) ((vv.ext (aC.trans (aG.trans (aJ.trans aN)))).an dH (by omega)) rfl (by omega) (by omega) ((kq.ext (aC.trans (aG.trans (aJ.trans aN)))).an dH fun q J e=>(by have:=vu q J;have:=mu.size;omega)) gh (Ext.gv (mu.trans (aC.trans (aG.trans (aJ.trans aN)))) dH fun q J=>by omega) aj aB nS dV dc c7
     · refine cx (vs:=[.bool false, .slice none 0 0, .slice none 0 0, .slice none 0 0]) rfl fun iF mG aJ z3=>⟨aJ,?_⟩
       have bS:=aJ.size
       refine (fO (q4.ext (aC.trans (aG.trans (aJ)))) (by omega) (by omega) (by omega) xc xd).use ?_
       rintro _ jT ⟨dS,dT,dU,yX,yY,yZ,rfl,iE,aN⟩
       refine ⟨_,dS,dT,dU,rfl,aN,?_⟩
       have cO:=aN.size
       have jU:=mG.ext aN
       have nT:=hD.ext (aJ.trans (aN))
       refine ⟨jU.du rfl (lC _ _ _ _),rfl,eg jU (us:=[.bool a.leaf, .slice eU.a eU.len eU.cap, .slice ez.a ez.len ez.cap, .slice ef.a ef.len ef.cap]) rfl rfl fun xe iN dQ t5=> ?_⟩
       have jV:=nT.an dQ (by omega)
       refine ⟨jV.du rfl (lC _ _ _ _),rfl,eg jV (us:=[.bool b.leaf, .slice dS.a dS.len dS.cap, .slice dT.a dT.len dT.cap, .slice dU.a dU.len dU.cap]) rfl rfl fun fB jh fC t6=> ?_⟩
       obtain ⟨c0,il⟩:∃c0,c0=ji.heap.size:=⟨_,rfl⟩
       obtain ⟨aL,fl⟩:∃aL,aL=kf.heap.size:=⟨_,rfl⟩
       rw[←il] at iN dQ
       rw[←fl] at jh fC
       rw[←il,←fl]
       have dH:ao (fun q=>q=c0∨q=aL) jT fB:=(dQ.mono fun q _ h=> .inl h).trans (fC.mono fun q _ h=> .inr h)
       have nU:jR lo fB a eU ez ef l5 l6 l7:=(((bV.ext (aG.trans (aJ.trans (aN)))).an dH fun q _ _ J e=>by have rI:mH.heap.size≤q∧q<kf.heap.size:=(by rcases J with J|J|J;exact ⟨(bV.bW q J).1,(bV.bW q J).2.1⟩;exact ⟨(bV.bv q J).1,(bV.bv q J).2.1⟩;exact bV.bc q J);omega).low (by omega))
       have nV:ck (fun q=>iF.heap.size≤q∧q<jT.heap.size) fB b dS dT dU:=(iE.at.bA fun q U ad=>⟨ad,U⟩).an dH fun q J e=>by omega
       have fD:∀q,l5 q∨l6 q∨l7 q→mH.heap.size≤q∧q<kf.heap.size:=fun q J=>by
         rcases J with J|J|J
         · exact ⟨(bV.bW q J).1,(bV.bW q J).2.1⟩
         · exact ⟨(bV.bv q J).1,(bV.bv q J).2.1⟩
         · exact bV.bc q J
       exact vq (lo:=lo) (fx:=fB) (C:=fun q=>iF.heap.size≤q∧q<jT.heap.size) ((uf.ext (aC.trans (aG.trans (aJ.trans aN)))).an dH (by omega)).cell (iN.an fC (by omega)) jh nU nV (fun q J=>⟨by omega,by omega,by omega,by omega,fun h=>(by have:=fD q (.inl h);omega),fun h=>(by have:=fD q (.inr (.inl h));omega),fun h=>(by have:=fD q (.inr (.inr h));omega)⟩) (fun q J=>(by have:=fD q J;exact ⟨by omega,by omega⟩)) (by omega) (by omega) (by omega) ((vv.ext (aC.trans (aG.trans (aJ.trans aN)))).an dH (by omega)) rfl (by omega) (by omega) ((kq.ext (aC.trans (aG.trans (aJ.trans aN)))).an dH fun q J e=>(by have:=vu q J;have:=mu.size;omega)) gh (Ext.gv (mu.trans (aC.trans (aG.trans (aJ.trans aN)))) dH fun q J=>by omega) aj aB nS dV dc c7
 · refine cx (vs:=[.bool false, .slice none 0 0, .slice none 0 0, .slice none 0 0]) rfl fun kf kZ aC dA=>⟨aC,?_⟩
   have s1:=aC.size
   refine ⟨?_,?_⟩
   · refine (fO (KO.ext aC) (by omega) (by omega) (by omega) KM KN).use ?_
     rintro _ ji ⟨eU,ez,ef,l5,l6,l7,rfl,bV,aG⟩
     refine ⟨_,eU,ez,ef,rfl,aG,?_⟩
     have s2:=aG.size
     refine ⟨?_,?_⟩
     · refine (fO (q4.ext (aC.trans (aG))) (by omega) (by omega) (by omega) xc xd).use ?_
       rintro _ iF ⟨dS,dT,dU,yX,yY,yZ,rfl,iE,aJ⟩
       refine ⟨_,dS,dT,dU,rfl,aJ,?_⟩
       have bS:=aJ.size
       refine cx (vs:=[.bool false, .slice none 0 0, .slice none 0 0, .slice none 0 0]) rfl fun jT rM aN z4=>⟨aN,?_⟩
       have cO:=aN.size
       have jU:=kZ.ext (aG.trans (aJ.trans (aN)))
       have nT:=rM
       refine ⟨jU.du rfl (lC _ _ _ _),rfl,eg jU (us:=[.bool a.leaf, .slice eU.a eU.len eU.cap, .slice ez.a ez.len ez.cap, .slice ef.a ef.len ef.cap]) rfl rfl fun xe iN dQ t5=> ?_⟩
       have jV:=nT.an dQ (by omega)
       refine ⟨jV.du rfl (lC _ _ _ _),rfl,eg jV (us:=[.bool b.leaf, .slice dS.a dS.len dS.cap, .slice dT.a dT.len dT.cap, .slice dU.a dU.len dU.cap]) rfl rfl fun fB jh fC t6=> ?_⟩
       obtain ⟨c0,il⟩:∃c0,c0=mH.heap.size:=⟨_,rfl⟩
       obtain ⟨aL,fl⟩:∃aL,aL=iF.heap.size:=⟨_,rfl⟩
       rw[←il] at iN dQ
       rw[←fl] at jh fC
       rw[←il,←fl]
       have dH:ao (fun q=>q=c0∨q=aL) jT fB:=(dQ.mono fun q _ h=> .inl h).trans (fC.mono fun q _ h=> .inr h)
       have nU:jR lo fB a eU ez ef l5 l6 l7:=(((bV.ext (aJ.trans (aN))).an dH fun q _ _ J e=>by have rI:kf.heap.size≤q∧q<ji.heap.size:=(by rcases J with J|J|J;exact ⟨(bV.bW q J).1,(bV.bW q J).2.1⟩;exact ⟨(bV.bv q J).1,(bV.bv q J).2.1⟩;exact bV.bc q J);omega).low (by omega))
       have nV:ck (fun q=>ji.heap.size≤q∧q<iF.heap.size) fB b dS dT dU:=((iE.at.bA fun q U ad=>⟨ad,U⟩).ext aN).an dH fun q J e=>by omega
       have fD:∀q,l5 q∨l6 q∨l7 q→kf.heap.size≤q∧q<ji.heap.size:=fun q J=>by
         rcases J with J|J|J
         · exact ⟨(bV.bW q J).1,(bV.bW q J).2.1⟩
         · exact ⟨(bV.bv q J).1,(bV.bv q J).2.1⟩
         · exact bV.bc q J
       exact vq (lo:=lo) (fx:=fB) (C:=fun q=>ji.heap.size≤q∧q<iF.heap.size) ((uf.ext (aC.trans (aG.trans (aJ.trans aN)))).an dH (by omega)).cell (iN.an fC (by omega)) jh nU nV (fun q J=>⟨by omega,by omega,by omega,by omega,fun h=>(by have:=fD q (.inl h);omega),fun h=>(by have:=fD q (.inr (.inl h));omega),fun h=>(by have:=fD q (.inr (.inr h));omega)⟩) (fun q J=>(by have:=fD q J;exact ⟨by omega,by omega⟩)) (by omega) (by omega) (by omega) ((vv.ext (aC.trans (aG.trans (aJ.trans aN)))).an dH (by omega)) rfl (by omega) (by omega) ((kq.ext (aC.trans (aG.trans (aJ.trans aN)))).an dH fun q J e=>(by have:=vu q J;have:=mu.size;omega)) gh (Ext.gv (mu.trans (aC.trans (aG.trans (aJ.trans aN)))) dH fun q J=>by omega) aj aB nS dV dc c7
     · refine cx (vs:=[.bool false, .slice none 0 0, .slice none 0 0, .slice none 0 0]) rfl fun iF mG aJ z3=>⟨aJ,?_⟩
       have bS:=aJ.size
       refine (fO (q4.ext (aC.trans (aG.trans (aJ)))) (by omega) (by omega) (by omega) xc xd).use ?_
       rintro _ jT ⟨dS,dT,dU,yX,yY,yZ,rfl,iE,aN⟩
       refine ⟨_,dS,dT,dU,rfl,aN,?_⟩
       have cO:=aN.size
       have jU:=kZ.ext (aG.trans (aJ.trans (aN)))
       have nT:=mG.ext aN
       refine ⟨jU.du rfl (lC _ _ _ _),rfl,eg jU (us:=[.bool a.leaf, .slice eU.a eU.len eU.cap, .slice ez.a ez.len ez.cap, .slice ef.a ef.len ef.cap]) rfl rfl fun xe iN dQ t5=> ?_⟩
       have jV:=nT.an dQ (by omega)
       refine ⟨jV.du rfl (lC _ _ _ _),rfl,eg jV (us:=[.bool b.leaf, .slice dS.a dS.len dS.cap, .slice dT.a dT.len dT.cap, .slice dU.a dU.len dU.cap]) rfl rfl fun fB jh fC t6=> ?_⟩
       obtain ⟨c0,il⟩:∃c0,c0=mH.heap.size:=⟨_,rfl⟩
       obtain ⟨aL,fl⟩:∃aL,aL=ji.heap.size:=⟨_,rfl⟩
       rw[←il] at iN dQ
       rw[←fl] at jh fC
       rw[←il,←fl]
       have dH:ao (fun q=>q=c0∨q=aL) jT fB:=(dQ.mono fun q _ h=> .inl h).trans (fC.mono fun q _ h=> .inr h)
       have nU:jR lo fB a eU ez ef l5 l6 l7:=(((bV.ext (aJ.trans (aN))).an dH fun q _ _ J e=>by have rI:kf.heap.size≤q∧q<ji.heap.size:=(by rcases J with J|J|J;exact ⟨(bV.bW q J).1,(bV.bW q J).2.1⟩;exact ⟨(bV.bv q J).1,(bV.bv q J).2.1⟩;exact bV.bc q J);omega).low (by omega))
       have nV:ck (fun q=>iF.heap.size≤q∧q<jT.heap.size) fB b dS dT dU:=(iE.at.bA fun q U ad=>⟨ad,U⟩).an dH fun q J e=>by omega
       have fD:∀q,l5 q∨l6 q∨l7 q→kf.heap.size≤q∧q<ji.heap.size:=fun q J=>by
         rcases J with J|J|J
         · exact ⟨(bV.bW q J).1,(bV.bW q J).2.1⟩
         · exact ⟨(bV.bv q J).1,(bV.bv q J).2.1⟩
         · exact bV.bc q J
       exact vq (lo:=lo) (fx:=fB) (C:=fun q=>iF.heap.size≤q∧q<jT.heap.size) ((uf.ext (aC.trans (aG.trans (aJ.trans aN)))).an dH (by omega)).cell (iN.an fC (by omega)) jh nU nV (fun q J=>⟨by omega,by omega,by omega,by omega,fun h=>(by have:=fD q (.inl h);omega),fun h=>(by have:=fD q (.inr (.inl h));omega),fun h=>(by have:=fD q (.inr (.inr h));omega)⟩) (fun q J=>(by have:=fD q J;exact ⟨by omega,by omega⟩)) (by omega) (by omega) (by omega) ((vv.ext (aC.trans (aG.trans (aJ.trans aN)))).an dH (by omega)) rfl (by omega) (by omega) ((kq.ext (aC.trans (aG.trans (aJ.trans aN)))).an dH fun q J e=>(by have:=vu q J;have:=mu.size;omega)) gh (Ext.gv (mu.trans (aC.trans (aG.trans (aJ.trans aN)))) dH fun q J=>by omega) aj aB nS dV dc c7
   · refine cx (vs:=[.bool false, .slice none 0 0, .slice none 0 0, .slice none 0 0]) rfl fun ji hD aG pR=>⟨aG,?_⟩
     have s2:=aG.size
     refine (fO (KO.ext (aC.trans (aG))) (by omega) (by omega) (by omega) KM KN).use ?_
     rintro _ iF ⟨eU,ez,ef,l5,l6,l7,rfl,bV,aJ⟩
     refine ⟨_,eU,ez,ef,rfl,aJ,?_⟩
     have bS:=aJ.size
     refine (fO (q4.ext (aC.trans (aG.trans (aJ)))) (by omega) (by omega) (by omega) xc xd).use ?_
     rintro _ jT ⟨dS,dT,dU,yX,yY,yZ,rfl,iE,aN⟩
     refine ⟨_,dS,dT,dU,rfl,aN,?_⟩
     have cO:=aN.size
     have jU:=kZ.ext (aG.trans (aJ.trans (aN)))
     have nT:=hD.ext (aJ.trans (aN))
     refine ⟨jU.du rfl (lC _ _ _ _),rfl,eg jU (us:=[.bool a.leaf, .slice eU.a eU.len eU.cap, .slice ez.a ez.len ez.cap, .slice ef.a ef.len ef.cap]) rfl rfl fun xe iN dQ t5=> ?_⟩
     have jV:=nT.an dQ (by omega)
     refine ⟨jV.du rfl (lC _ _ _ _),rfl,eg jV (us:=[.bool b.leaf, .slice dS.a dS.len dS.cap, .slice dT.a dT.len dT.cap, .slice dU.a dU.len dU.cap]) rfl rfl fun fB jh fC t6=> ?_⟩
     obtain ⟨c0,il⟩:∃c0,c0=mH.heap.size:=⟨_,rfl⟩
     obtain ⟨aL,fl⟩:∃aL,aL=kf.heap.size:=⟨_,rfl⟩
     rw[←il] at iN dQ
     rw[←fl] at jh fC
     rw[←il,←fl]
     have dH:ao (fun q=>q=c0∨q=aL) jT fB:=(dQ.mono fun q _ h=> .inl h).trans (fC.mono fun q _ h=> .inr h)
     have nU:jR lo fB a eU ez ef l5 l6 l7:=(((bV.ext aN).an dH fun q _ _ J e=>by have rI:ji.heap.size≤q∧q<iF.heap.size:=(by rcases J with J|J|J;exact ⟨(bV.bW q J).1,(bV.bW q J).2.1⟩;exact ⟨(bV.bv q J).1,(bV.bv q J).2.1⟩;exact bV.bc q J);omega).low (by omega))
     have nV:ck (fun q=>iF.heap.size≤q∧q<jT.heap.size) fB b dS dT dU:=(iE.at.bA fun q U ad=>⟨ad,U⟩).an dH fun q J e=>by omega
     have fD:∀q,l5 q∨l6 q∨l7 q→ji.heap.size≤q∧q<iF.heap.size:=fun q J=>by
       rcases J with J|J|J
       · exact ⟨(bV.bW q J).1,(bV.bW q J).2.1⟩
       · exact ⟨(bV.bv q J).1,(bV.bv q J).2.1⟩
       · exact bV.bc q J
     exact vq (lo:=lo) (fx:=fB) (C:=fun q=>iF.heap.size≤q∧q<jT.heap.size) ((uf.ext (aC.trans (aG.trans (aJ.trans aN)))).an dH (by omega)).cell (iN.an fC (by omega)) jh nU nV (fun q J=>⟨by omega,by omega,by omega,by omega,fun h=>(by have:=fD q (.inl h);omega),fun h=>(by have:=fD q (.inr (.inl h));omega),fun h=>(by have:=fD q (.inr (.inr h));omega)⟩) (fun q J=>(by have:=fD q J;exact ⟨by omega,by omega⟩)) (by omega) (by omega) (by omega) ((vv.ext (aC.trans (aG.trans (aJ.trans aN)))).an dH (by omega)) rfl (by omega) (by omega) ((kq.ext (aC.trans (aG.trans (aJ.trans aN)))).an dH fun q J e=>(by have:=vu q J;have:=mu.size;omega)) gh (Ext.gv (mu.trans (aC.trans (aG.trans (aJ.trans aN)))) dH fun q J=>by omega) aj aB nS dV dc c7
 · refine cx (vs:=[.bool false, .slice none 0 0, .slice none 0 0, .slice none 0 0]) rfl fun kf kZ aC dA=>⟨aC,?_⟩
   have s1:=aC.size
   refine ⟨?_,?_⟩
   · refine (fO (KO.ext aC) (by omega) (by omega) (by omega) KM KN).use ?_
     rintro _ ji ⟨eU,ez,ef,l5,l6,l7,rfl,bV,aG⟩
     refine ⟨_,eU,ez,ef,rfl,aG,?_⟩
     have s2:=aG.size
     refine ⟨?_,?_⟩
     · refine (fO (q4.ext (aC.trans (aG))) (by omega) (by omega) (by omega) xc xd).use ?_
       rintro _ iF ⟨dS,dT,dU,yX,yY,yZ,rfl,iE,aJ⟩
       refine ⟨_,dS,dT,dU,rfl,aJ,?_⟩
       have bS:=aJ.size
       refine cx (vs:=[.bool false, .slice none 0 0, .slice none 0 0, .slice none 0 0]) rfl fun jT rM aN z4=>⟨aN,?_⟩
       have cO:=aN.size
       have jU:=rM
       have nT:=kZ.ext (aG.trans (aJ.trans (aN)))
       refine ⟨jU.du rfl (lC _ _ _ _),rfl,eg jU (us:=[.bool a.leaf, .slice eU.a eU.len eU.cap, .slice ez.a ez.len ez.cap, .slice ef.a ef.len ef.cap]) rfl rfl fun xe iN dQ t5=> ?_⟩
       have jV:=nT.an dQ (by omega)
       refine ⟨jV.du rfl (lC _ _ _ _),rfl,eg jV (us:=[.bool b.leaf, .slice dS.a dS.len dS.cap, .slice dT.a dT.len dT.cap, .slice dU.a dU.len dU.cap]) rfl rfl fun fB jh fC t6=> ?_⟩
       obtain ⟨c0,il⟩:∃c0,c0=iF.heap.size:=⟨_,rfl⟩
       obtain ⟨aL,fl⟩:∃aL,aL=mH.heap.size:=⟨_,rfl⟩
       rw[←il] at iN dQ
       rw[←fl] at jh fC
       rw[←il,←fl]
       have dH:ao (fun q=>q=c0∨q=aL) jT fB:=(dQ.mono fun q _ h=> .inl h).trans (fC.mono fun q _ h=> .inr h)
       have nU:jR lo fB a eU ez ef l5 l6 l7:=(((bV.ext (aJ.trans (aN))).an dH fun q _ _ J e=>by have rI:kf.heap.size≤q∧q<ji.heap.size:=(by rcases J with J|J|J;exact ⟨(bV.bW q J).1,(bV.bW q J).2.1⟩;exact ⟨(bV.bv q J).1,(bV.bv q J).2.1⟩;exact bV.bc q J);omega).low (by omega))
       have nV:ck (fun q=>ji.heap.size≤q∧q<iF.heap.size) fB b dS dT dU:=((iE.at.bA fun q U ad=>⟨ad,U⟩).ext aN).an dH fun q J e=>by omega
       have fD:∀q,l5 q∨l6 q∨l7 q→kf.heap.size≤q∧q<ji.heap.size:=fun q J=>by
         rcases J with J|J|J
         · exact ⟨(bV.bW q J).1,(bV.bW q J).2.1⟩
         · exact ⟨(bV.bv q J).1,(bV.bv q J).2.1⟩
         · exact bV.bc q J
       exact vq (lo:=lo) (fx:=fB) (C:=fun q=>ji.heap.size≤q∧q<iF.heap.size) ((uf.ext (aC.trans (aG.trans (aJ.trans aN)))).an dH (by omega)).cell (iN.an fC (by omega)) jh nU nV (fun q J=>⟨by omega,by omega,by omega,by omega,fun h=>(by have:=fD q (.inl h);omega),fun h=>(by have:=fD q (.inr (.inl h));omega),fun h=>(by have:=fD q (.inr (.inr h));omega)⟩) (fun q J=>(by have:=fD q J;exact ⟨by omega,by omega⟩)) (by omega) (by omega) (by omega) ((vv.ext (aC.trans (aG.trans (aJ.trans aN)))).an dH (by omega)) rfl (by omega) (by omega) ((kq.ext (aC.trans (aG.trans (aJ.trans aN)))).an dH fun q J e=>(by have:=vu q J;have:=mu.size;omega)) gh (Ext.gv (mu.trans (aC.trans (aG.trans (aJ.trans aN)))) dH fun q J=>by omega) aj aB nS dV dc c7
     · refine cx (vs:=[.bool false, .slice none 0 0, .slice none 0 0, .slice none 0 0]) rfl fun iF mG aJ z3=>⟨aJ,?_⟩
       have bS:=aJ.size
       refine (fO (q4.ext (aC.trans (aG.trans (aJ)))) (by omega) (by omega) (by omega) xc xd).use ?_
       rintro _ jT ⟨dS,dT,dU,yX,yY,yZ,rfl,iE,aN⟩
       refine ⟨_,dS,dT,dU,rfl,aN,?_⟩
       have cO:=aN.size
       have jU:=mG.ext aN
       have nT:=kZ.ext (aG.trans (aJ.trans (aN)))
       refine ⟨jU.du rfl (lC _ _ _ _),rfl,eg jU (us:=[.bool a.leaf, .slice eU.a eU.len eU.cap, .slice ez.a ez.len ez.cap, .slice ef.a ef.len ef.cap]) rfl rfl fun xe iN dQ t5=> ?_⟩
       have jV:=nT.an dQ (by omega)
       refine ⟨jV.du rfl (lC _ _ _ _),rfl,eg jV (us:=[.bool b.leaf, .slice dS.a dS.len dS.cap, .slice dT.a dT.len dT.cap, .slice dU.a dU.len dU.cap]) rfl rfl fun fB jh fC t6=> ?_⟩
       obtain ⟨c0,il⟩:∃c0,c0=ji.heap.size:=⟨_,rfl⟩
       obtain ⟨aL,fl⟩:∃aL,aL=mH.heap.size:=⟨_,rfl⟩
       rw[←il] at iN dQ
       rw[←fl] at jh fC
       rw[←il,←fl]
       have dH:ao (fun q=>q=c0∨q=aL) jT fB:=(dQ.mono fun q _ h=> .inl h).trans (fC.mono fun q _ h=> .inr h)
       have nU:jR lo fB a eU ez ef l5 l6 l7:=(((bV.ext (aJ.trans (aN))).an dH fun q _ _ J e=>by have rI:kf.heap.size≤q∧q<ji.heap.size:=(by rcases J with J|J|J;exact ⟨(bV.bW q J).1,(bV.bW q J).2.1⟩;exact ⟨(bV.bv q J).1,(bV.bv q J).2.1⟩;exact bV.bc q J);omega).low (by omega))
       have nV:ck (fun q=>iF.heap.size≤q∧q<jT.heap.size) fB b dS dT dU:=(iE.at.bA fun q U ad=>⟨ad,U⟩).an dH fun q J e=>by omega
       have fD:∀q,l5 q∨l6 q∨l7 q→kf.heap.size≤q∧q<ji.heap.size:=fun q J=>by
         rcases J with J|J|J
         · exact ⟨(bV.bW q J).1,(bV.bW q J).2.1⟩
         · exact ⟨(bV.bv q J).1,(bV.bv q J).2.1⟩
         · exact bV.bc q J
       exact vq (lo:=lo) (fx:=fB) (C:=fun q=>iF.heap.size≤q∧q<jT.heap.size) ((uf.ext (aC.trans (aG.trans (aJ.trans aN)))).an dH (by omega)).cell (iN.an fC (by omega)) jh nU nV (fun q J=>⟨by omega,by omega,by omega,by omega,fun h=>(by have:=fD q (.inl h);omega),fun h=>(by have:=fD q (.inr (.inl h));omega),fun h=>(by have:=fD q (.inr (.inr h));omega)⟩) (fun q J=>(by have:=fD q J;exact ⟨by omega,by omega⟩)) (by omega) (by omega) (by omega) ((vv.ext (aC.trans (aG.trans (aJ.trans aN)))).an dH (by omega)) rfl (by omega) (by omega) ((kq.ext (aC.trans (aG.trans (aJ.trans aN)))).an dH fun q J e=>(by have:=vu q J;have:=mu.size;omega)) gh (Ext.gv (mu.trans (aC.trans (aG.trans (aJ.trans aN)))) dH fun q J=>by omega) aj aB nS dV dc c7
   · refine cx (vs:=[.bool false, .slice none 0 0, .slice none 0 0, .slice none 0 0]) rfl fun ji hD aG pR=>⟨aG,?_⟩
     have s2:=aG.size
     refine (fO (KO.ext (aC.trans (aG))) (by omega) (by omega) (by omega) KM KN).use ?_
     rintro _ iF ⟨eU,ez,ef,l5,l6,l7,rfl,bV,aJ⟩
     refine ⟨_,eU,ez,ef,rfl,aJ,?_⟩
     have bS:=aJ.size
     refine (fO (q4.ext (aC.trans (aG.trans (aJ)))) (by omega) (by omega) (by omega) xc xd).use ?_
     rintro _ jT ⟨dS,dT,dU,yX,yY,yZ,rfl,iE,aN⟩
     refine ⟨_,dS,dT,dU,rfl,aN,?_⟩
     have cO:=aN.size
     have jU:=hD.ext (aJ.trans (aN))
     have nT:=kZ.ext (aG.trans (aJ.trans (aN)))
     refine ⟨jU.du rfl (lC _ _ _ _),rfl,eg jU (us:=[.bool a.leaf, .slice eU.a eU.len eU.cap, .slice ez.a ez.len ez.cap, .slice ef.a ef.len ef.cap]) rfl rfl fun xe iN dQ t5=> ?_⟩
     have jV:=nT.an dQ (by omega)
     refine ⟨jV.du rfl (lC _ _ _ _),rfl,eg jV (us:=[.bool b.leaf, .slice dS.a dS.len dS.cap, .slice dT.a dT.len dT.cap, .slice dU.a dU.len dU.cap]) rfl rfl fun fB jh fC t6=> ?_⟩
     obtain ⟨c0,il⟩:∃c0,c0=kf.heap.size:=⟨_,rfl⟩
     obtain ⟨aL,fl⟩:∃aL,aL=mH.heap.size:=⟨_,rfl⟩
     rw[←il] at iN dQ
     rw[←fl] at jh fC
     rw[←il,←fl]
     have dH:ao (fun q=>q=c0∨q=aL) jT fB:=(dQ.mono fun q _ h=> .inl h).trans (fC.mono fun q _ h=> .inr h)
     have nU:jR lo fB a eU ez ef l5 l6 l7:=(((bV.ext aN).an dH fun q _ _ J e=>by have rI:ji.heap.size≤q∧q<iF.heap.size:=(by rcases J with J|J|J;exact ⟨(bV.bW q J).1,(bV.bW q J).2.1⟩;exact ⟨(bV.bv q J).1,(bV.bv q J).2.1⟩;exact bV.bc q J);omega).low (by omega))
     have nV:ck (fun q=>iF.heap.size≤q∧q<jT.heap.size) fB b dS dT dU:=(iE.at.bA fun q U ad=>⟨ad,U⟩).an dH fun q J e=>by omega
     have fD:∀q,l5 q∨l6 q∨l7 q→ji.heap.size≤q∧q<iF.heap.size:=fun q J=>by
       rcases J with J|J|J
       · exact ⟨(bV.bW q J).1,(bV.bW q J).2.1⟩
       · exact ⟨(bV.bv q J).1,(bV.bv q J).2.1⟩
       · exact bV.bc q J
     exact vq (lo:=lo) (fx:=fB) (C:=fun q=>iF.heap.size≤q∧q<jT.heap.size) ((uf.ext (aC.trans (aG.trans (aJ.trans aN)))).an dH (by omega)).cell (iN.an fC (by omega)) jh nU nV (fun q J=>⟨by omega,by omega,by omega,by omega,fun h=>(by have:=fD q (.inl h);omega),fun h=>(by have:=fD q (.inr (.inl h));omega),fun h=>(by have:=fD q (.inr (.inr h));omega)⟩) (fun q J=>(by have:=fD q J;exact ⟨by omega,by omega⟩)) (by omega) (by omega) (by omega) ((vv.ext (aC.trans (aG.trans (aJ.trans aN)))).an dH (by omega)) rfl (by omega) (by omega) ((kq.ext (aC.trans (aG.trans (aJ.trans aN)))).an dH fun q J e=>(by have:=vu q J;have:=mu.size;omega)) gh (Ext.gv (mu.trans (aC.trans (aG.trans (aJ.trans aN)))) dH fun q J=>by omega) aj aB nS dV dc c7
end
section
section
variable {α:Type} {c:α→List Value} {sz:Nat}
def cz (c:α→List Value) (l:List α):List Value:=(l.map c).flatten
theorem y0 (l m:List α):cz c (l++m)=cz c l++cz c m:=by simp[cz]
theorem HK (x:α) (l:List α):cz c (x::l)=c x++cz c l:=rfl
theorem nW:∀ (l:List α),(∀x∈l,(c x).length=sz)→(cz c l).length=l.length*sz
 | [],_=>by simp[cz]
 |x::l,h=>by
   rw[HK,eC,h x (by simp),nW l fun y b2=>h y (by simp[b2]),oS,wk];omega
theorem akX {l:List α} {i:Nat} (h:i<l.length):l=l.take i++l[i]::l.drop (i+1):=by rw[←tK h,qI]
theorem S2 {l:List α} (ak:∀x∈l,(c x).length=sz) {i:Nat} (h:i<l.length):(cz c l).take (i*sz)=cz c (l.take i)∧(cz c l).drop (i*sz)=c l[i]++cz c (l.drop (i+1)):=by
 have aB:(cz c (l.take i)).length=i*sz:=by
   rw[nW _ fun x af=>ak x (kE af),ee,r7 (by omega)]
 have e:cz c l=cz c (l.take i)++(c l[i]++cz c (l.drop (i+1))):=by
   conv=>lhs;rw[akX h]
   rw[y0,HK]
 rw[e]
 exact ⟨Ai aB,drop_left' aB⟩
theorem ZD {l:List α} (ak:∀x∈l,(c x).length=sz) {i:Nat} (h:i<l.length):((cz c l).drop (i*sz)).take sz=c l[i]:=by
 rw[(S2 ak h).2]
 exact Ai (ak _ (e3 h))
theorem KP {l:List α} (ak:∀x∈l,(c x).length=sz) {i j:Nat} (h:i<l.length) (aZ:j<sz):(cz c l)[i*sz+j]? =(c l[i])[j]? :=by
 rw[←ZD ak h,List.getElem?_take_of_lt aZ,Nw]
theorem ZE {l:List α} (ak:∀x∈l,(c x).length=sz) {i:Nat} (h:i<l.length) (x:α):(cz c l).take (i*sz)++c x++(cz c l).drop (i*sz+sz)=cz c (l.set i x):=by
 have U:=S2 ak h
 have ad:(cz c l).drop (i*sz+sz)=cz c (l.drop (i+1)):=by
   rw[←JI,U.2]
   exact drop_left' (ak _ (e3 h))
 rw[U.1,ad,List.set_eq_take_append_cons_drop,if_pos h,y0,HK,eF]
theorem akY {l:List α} (ak:∀x∈l,(c x).length=sz) {i j:Nat} (h:i<l.length) (aZ:j<sz) {x:α} {v:Value} (af:c x=(c l[i]).set j v):(cz c l).set (i*sz+j) v=cz c (l.set i x):=by
 have aB:(c l[i]).length=sz:=ak _ (e3 h)
 have U:=S2 ak h
 have e:cz c l=cz c (l.take i)++(c l[i]++cz c (l.drop (i+1))):=by
   conv=>lhs;rw[←qI (i*sz) (cz c l),U.1,U.2]
 have rA:(cz c (l.take i)).length=i*sz:=by
   rw[nW _ fun x af=>ak x (kE af),ee,r7 (by omega)]
 rw[e,List.set_append_right _ _ (by omega),show i*sz+j-(cz c (l.take i)).length=j by omega,List.set_append_left _ _ (by omega),←af,List.set_eq_take_append_cons_drop,if_pos h,y0,HK]
end
section
variable {α:Type} [DecidableEq α] {P:Program} {w:World} {pZ y1 T:TypeId} {enc:α→Value} {r:Nat} {M:List (α×Value)} {k:α} {v:Value}
theorem akZ (bq:C9 P pZ enc) (bn:P.underlying T=some (.map pZ y1)) (h:jj w r enc M) (hm:∀v,(k,v)∉M) (v:Value):
   ∃ag:World,(Instr.mapUpdate T (.map (some r)) (enc k) v).run P w= .ok () ag∧ao (fun q=>q=r) w ag∧ag.heap.size=w.heap.size∧jj ag r enc ((k,v)::M):=by
 have a6:=h.lt
 obtain ⟨L,eZ,h,U,ad,aq,aK⟩:=h
 have o2:=ZF U hm
 have aA:=bq.find L k w
 rw[S3 o2] at aA
 refine ⟨q5 w r (.map ((L.map (iG enc)).toArray.push ⟨enc k,v,eZ⟩) (eZ+1)),?_,KQ _ _ _,OK _ _ _,L++ [(k,v,eZ)],eZ+1,?_,?_,?_,?_,?_⟩
 · simp only[Instr.mapUpdate,Sem.run_bind,fV bn,Result.andThen,AI h,Sem.run_pure,bq.check,aA,S4 h]
 · rw[OL a6]
   simp[iG]
 · rw[mV]
   have:([(k,v,eZ)]:List (α×Value×Nat)).map AJ=[(k,v)]:=rfl
   rw[this]
   exact (JJ).trans (List.Perm.cons _ U)
 · rw[mV,List.nodup_append]
   refine ⟨ad,by simp,fun a aR b aa=> ?_⟩
   obtain ⟨x,af,rfl⟩:=lR.1 aR
   simp only[sM,List.map_nil,lT] at aa
   subst aa
   exact o2 x af
 · rw[mV,List.nodup_append]
   refine ⟨aq,by simp,fun a aR b aa=> ?_⟩
   obtain ⟨x,af,rfl⟩:=lR.1 aR
   simp only[sM,List.map_nil,lT] at aa
   subst aa
   have:=aK x af
   omega
 · intro x af
   rcases fa.1 af with af|af
   · have:=aK x af;omega
   · rw[lT.1 af];show eZ<eZ+1;omega
theorem ak0 (bq:C9 P pZ enc) (bn:P.underlying T=some (.map pZ y1)) (h:jj w r enc ((k,v)::M)) (ug:Value):
   ∃ag:World,(Instr.mapUpdate T (.map (some r)) (enc k) ug).run P w= .ok () ag∧ao (fun q=>q=r) w ag∧ag.heap.size=w.heap.size∧jj ag r enc ((k,ug)::M):=by
 have a6:=h.lt
 obtain ⟨n,b1,cn,fe,eZ,h,U,ad,aq,aK,_⟩:=h.split
 have aA:=bq.find (b1++(k,v,fe)::cn) k w
 rw[S5 (ZG ad),gJ] at aA
 have bl:((b1++(k,v,fe)::cn).map (iG enc)).toArray[b1.length]? =some ⟨enc k,v,fe⟩:=by simp[iG]
 have ak1:((b1++(k,v,fe)::cn).map (iG enc)).toArray.modify b1.length (fun e=>{e with key:=enc k,val:=ug})=((b1++(k,ug,fe)::cn).map (iG enc)).toArray:=by
   apply Array.toList_inj.1
   rw[Array.toList_modify,mV,sM]
   have:=ZH (fun e=>{e with key:=enc k,val:=ug}) (iG enc (k,v,fe)) (cn.map (iG enc)) (b1.map (iG enc))
   rw[kF] at this
   rw[this]
   simp[iG]
 refine ⟨q5 w r (.map ((b1++(k,ug,fe)::cn).map (iG enc)).toArray eZ),?_,KQ _ _ _,OK _ _ _,b1++(k,ug,fe)::cn,eZ,OL a6 _,?_,?_,?_,?_⟩
 · simp only[Instr.mapUpdate,Sem.run_bind,fV bn,Result.andThen,AI h,Sem.run_pure,bq.check,aA,bl,yc,Option.getD_some,Instr.keyThatStays,bq.bits,if_true,S4 h,ak1]
 · rw[mV,sM]
   rw[mV] at U
   exact Cm.trans (U.cons _)
 · simpa using ad
 · simpa using aq
 · intro x af
   rcases fa.1 af with af|af
   · exact aK x (by simp[af])
   · rcases gg.1 af with rfl|af
     · exact aK (k,v,fe) (by simp)
     · exact aK x (by simp[af])
end
abbrev kO:=List UInt8
structure p0 where
 i:Nat
 s:ab
 rN:List kO
structure cM where
 d:Nat
 fj:Nat
 ib:Nat
 e4:List Int
 e5:List kO
 waits:List p0
 writes:Int
 cl:Nat
def p0.e (x:p0):Int×Value:=((x.i:Int), .slice x.s.a x.s.len x.s.cap)
def cM.c (D:cM):List Value:=D.e4.map (.int .i64)++ [.slice (some ⟨D.fj,0,none⟩) D.e5.length D.e5.length, .map (some D.ib), .int .i64 D.writes]
def cM.n (D:cM):Nat:=D.e5.length
abbrev encZ:Int→Value:=fun n=> .int .i64 n
theorem HL:C9 Tryz.prog ah.int encZ:=C9.int (by kernel_rfl)
theorem C_:Tryz.prog.underlying ah.xf=some (.map ah.int ah.uh):=by kernel_rfl
theorem ZI:(Tryz.prog.info? ah.uh).bind (·.zero)=some (.slice none 0 0):=by kernel_rfl
theorem KR {P:Program} {T:TypeId} {z:Value} (h:(P.info? T).bind (·.zero)=some z):∃i,P.info? T=some i∧i.zero=some z:=by
 cases hi:P.info? T with
 |none=>rw[hi] at h;cases h
 |some i=>rw[hi] at h;exact ⟨i,rfl,h⟩
def gG (D:cM) (q:Nat):Prop:=q=D.d∨q=D.fj∨q=D.ib∨∃x∈D.waits,aQ x.s q
structure h9 (w:World) (D:cM):Prop where
 v:Var w D.d D.c ah.OM
 l:cj w D.fj (cz a_ D.e5).toArray ah.oA
 m:jj w D.ib encZ (D.waits.map p0.e)
 ws:∀x∈D.waits,bX 256 ah.oA w x.s (cz a_ x.rN)
 wn:∀x∈D.waits,x.rN≠ []∧x.i<D.n∧x.rN.length≤D.cl
 AK:∀s∈D.e5,s.length=256
 Fy:∀x∈D.waits,∀s∈x.rN,s.length=256
 dc:16≤D.n
 c7:D.n≤1600
 f4:D.e4.length=4
 fr:∀x∈D.e4, -1≤x∧x≤9223372036854775807
 a7:D.d≠D.fj∧D.d≠D.ib∧D.fj≠D.ib
 cQ:∀x∈D.waits,¬aQ x.s D.d∧¬aQ x.s D.fj∧¬aQ x.s D.ib
 a3:∀x∈D.waits,∀y∈D.waits,x.i≠y.i→∀q,aQ x.s q→¬aQ y.s q
section
variable {w w':World} {D:cM}
theorem h9.an {W:Nat→Prop} (h:h9 w D) (ak:ao W w w') (aD:∀q,gG D q→¬W q):h9 w' D:=
 ⟨h.v.an ak (aD _ (.inl rfl)),cj.an h.l ak (aD _ (.inr (.inl rfl))),h.m.an ak (aD _ (.inr (.inr (.inl rfl)))),fun x af=>(h.ws x af).an ak fun q J=>aD q (.inr (.inr (.inr ⟨x,af,J⟩))),h.wn,h.AK,h.Fy,h.dc,h.c7,h.f4,h.fr,h.a7,h.cQ,h.a3⟩
theorem h9.ext (h:h9 w D) (ak:Ext w w'):h9 w' D:=h.an ak fun _ _ h=>h
theorem h9.lt (h:h9 w D) {q:Nat} (J:gG D q):q<w.heap.size:=by
 rcases J with rfl|rfl|rfl|⟨x,af,J⟩
 · exact h.v.lt
 · exact cj.lt h.l
 · exact h.m.lt
 · exact (h.ws x af).lt q J
theorem h9.ak2 (h:h9 w D) {k:Nat} (ae:k<4):w.cell? ⟨D.d,k,none⟩=some (.int .i64 (D.e4.getD k 0)):=by
 rw[h.v.cell]
 unfold cM.c
 have:=h.f4
 rw[List.getElem?_append_left (by rw[kF];omega),GY,gT (by omega),mX (by omega)]
 rfl
theorem h9.gE (h:h9 w D):w.cell? (Addr.add ⟨D.d,0,none⟩ 4)=some (.slice (some ⟨D.fj,0,none⟩) D.e5.length D.e5.length):=by
 rw[aX,h.v.cell]
 unfold cM.c
 have:=h.f4
 rw[wm (by rw[kF];omega),kF,this];rfl
theorem h9.dQ (h:h9 w D):w.cell? (Addr.add ⟨D.d,0,none⟩ 5)=some (.map (some D.ib)):=by
 rw[aX,h.v.cell]
 unfold cM.c
 have:=h.f4
 rw[wm (by rw[kF];omega),kF,this];rfl
theorem h9.S6 (h:h9 w D):D.c.length=7:=by
 unfold cM.c
 have:=h.f4
 simp;omega
def cM.now (D:cM) (i:Nat):kO:=match D.waits.find? fun x=>x.i==i with
 |some x=>x.rN.getLastD []
 |none=>D.e5.getD i []
theorem ak3 {α:Type} {l:List α} {d:α} (h:l≠ []):l.getLastD d∈l:=by
 cases l with
 |nil=>exact absurd rfl h
 |cons a l=>
   rw[List.getLastD_cons]
   rw[←List.getLast_eq_getLastD]
   exact List.getLast_mem h
theorem h9.KS (h:h9 w D) {i:Nat} (hi:i<D.n):(D.now i).length=256:=by
 unfold cM.now
 cases aA:D.waits.find? fun x=>x.i==i with
 |some x=>
   have af:=x9 aA
   exact h.Fy x af _ (ak3 (h.wn x af).1)
 |none=>
   have eV:i<D.e5.length:=hi
   rw[show (match (none:Option p0) with|some x=>x.rN.getLastD []|none=>D.e5.getD i [])=D.e5.getD i [] from rfl,mX eV]
   exact h.AK _ (e3 _)
theorem ZJ (h:h9 w D):aP Tryz.prog F.AL #[.pointer (some ⟨D.d,0,none⟩)] w (fun v w'=>v= .int .i64 (D.n:Nat)∧w=w'):=by
 refine W.ak4 (some ⟨D.d,0,none⟩) w _ ?_
 (delta W.AL aF ar;dsimp only)
 exact ⟨fun h=>(by cases h),fun _=>⟨_,rfl,⟨some ⟨D.fj,0,none⟩,D.e5.length,D.e5.length⟩,h.gE,rfl,rfl⟩⟩
theorem ZK (h:h9 w D) (i:Int):aP Tryz.prog F.AM #[.pointer (some ⟨D.d,0,none⟩), .int .i64 i] w (fun v w'=>v= .bool (decide (0≤i∧i<D.n))∧w=w'):=by
 refine W.ak5 (some ⟨D.d,0,none⟩) i w _ ?_
 (delta W.AM aF ar;dsimp only)
 refine ff (fun b w'=>b=decide (0≤i∧i<D.n)∧w=w') (fun q J=>⟨fun aa=>⟨_,rfl,⟨some ⟨D.fj,0,none⟩,D.e5.length,D.e5.length⟩,h.gE,J _ _ ⟨?_,rfl⟩⟩,fun aa=>J _ _ ⟨?_,rfl⟩⟩) ?_
 · have aa:0≤i:=by simpa using aa
   rw[oT,fE,fE]
   exact ⟨fun h=>⟨aa,h⟩,fun h=>h.2⟩
 · have aa:¬0≤i:=by simpa using aa
   rw[sN (fun h=>aa h.1)]
 · rintro _ _ ⟨rfl,rfl⟩
   exact ⟨rfl,rfl⟩
end
def oB (f:Int):Bool×Int:=if f= -1 then (false, -1) else if f=0 then (true, -1) else (false,f-1)
theorem ak6 {f:Int} (h: -1≤f∧f≤9223372036854775807): -1≤(oB f).2∧(oB f).2≤9223372036854775807:=by
 unfold oB
 split
 · exact ⟨by decide,by decide⟩
 · split
   · exact ⟨by decide,by decide⟩
   · show -1≤f-1∧f-1≤_;omega
def cM.fJ (D:cM) (k:Nat):cM:={D with e4:=D.e4.set k (oB (D.e4.getD k 0)).2}
def cM.p1 (D:cM) (k:Nat):Bool:=(oB (D.e4.getD k 0)).1
theorem S7 {w:World} {D:cM} (h:h9 w D) {k:Nat} (ae:k<4):
   aP Tryz.prog F.y2 #[.pointer (some ⟨D.d,0,none⟩), .int .i64 ((k:Nat):Int)] w (fun v w'=>v= .bool (D.p1 k)∧h9 w' (D.fJ k)∧ao (fun q=>q=D.d) w w'∧w'.heap.size=w.heap.size):=by
 have aA:=h.ak2 ae
 have aK:=h.f4
 have aY: -1≤D.e4.getD k 0∧D.e4.getD k 0≤9223372036854775807:=by rw[mX (by omega)];exact h.fr _ (e3 _)
 have yI:∀ (ag:World),h9 ag D→h9 (ag.setCell ⟨D.d,k,none⟩ (.int .i64 (oB (D.e4.getD k 0)).2)) (D.fJ k):=by
   intro ag U
   have ak:=iV ag D.d k (.int .i64 (oB (D.e4.getD k 0)).2)
   have al:=j_ U.v (i:=k) (.int .i64 (oB (D.e4.getD k 0)).2)
   have e:D.c.set k (.int .i64 (oB (D.e4.getD k 0)).2)=(D.fJ k).c:=by
     unfold cM.c cM.fJ
     rw[List.set_append_left _ _ (by rw[kF];omega),←List.map_set]
   rw[e] at al
   refine ⟨al,cj.an U.l ak (fun e=>h.a7.1 e.symm),U.m.an ak (fun e=>h.a7.2.1 e.symm),fun x af=>(U.ws x af).an ak fun q J e=>(h.cQ x af).1 (by subst e;exact J),h.wn,h.AK,h.Fy,h.dc,h.c7,by show (D.e4.set k _).length=4;rw[hK];exact aK,fun x af=> ?_,h.a7,h.cQ,h.a3⟩
   rcases Cp af with af|rfl
   · exact h.fr x af
   · exact ak6 aY
 have aR:Addr.add ⟨D.d,0,none⟩ (Int.toNat ((k:Nat):Int)*1)=⟨D.d,k,none⟩:=by rw[g_,lQ,aX,gJ]
 refine W.ak7 (some ⟨D.d,0,none⟩) ((k:Nat):Int) w _ ?_
 (delta W.y2 bD aF st aE;dsimp only)
 refine ⟨_,rfl,⟨by omega,by show (k:Int)<4;omega⟩,D.e4.getD k 0,by rw[aR];exact aA,fun U=> ?_,fun U=>⟨fun ad=>⟨_,rfl,⟨by omega,by show (k:Int)<4;omega⟩,?_⟩,fun ad=>bN ⟨_,rfl,⟨by omega,by show (k:Int)<4;omega⟩,id,_,by rw[aR];exact aA,_,rfl,⟨by omega,by show (k:Int)<4;omega⟩,?_⟩⟩⟩
 · have U:D.e4.getD k 0= -1:=by simpa using U
   have ba:D.p1 k=false:=by unfold cM.p1 oB;rw[if_pos U]
   have bp:D.fJ k=D:=by
     unfold cM.fJ oB
     rw[if_pos U]
     have:D.e4.set k (-1)=D.e4:=by
       rw[←U,mX (by omega)]
       exact List.set_getElem_self _
     rw[this]
   rw[ba,bp]
   exact ⟨rfl,h, .refl _ _,rfl⟩
 · have U:D.e4.getD k 0≠ -1:=by simpa using U
   have ad:D.e4.getD k 0=0:=by simpa using ad
   have aj:=kc h.v (i:=k) (by rw[h.S6];omega)
   have ba:D.p1 k=true:=by unfold cM.p1 oB;rw[if_neg U,if_pos ad]
   have bp:(oB (D.e4.getD k 0)).2= -1:=by unfold oB;rw[if_neg U,if_pos ad]
   have:=yI w h
   rw[bp] at this
   rw[aR,ba]
   exact ⟨aj.1,aj.2,bN ⟨rfl,this,iV _ _ _ _,by simp[World.setCell]⟩⟩
 · have U:D.e4.getD k 0≠ -1:=by simpa using U
   have ad:D.e4.getD k 0≠0:=by simpa using ad
   have hd:=h.ext (ej w)
   have aj:=kc hd.v (i:=k) (by rw[h.S6];omega)
   have ba:D.p1 k=false:=by unfold cM.p1 oB;rw[if_neg U,if_neg ad]
   have bp:(oB (D.e4.getD k 0)).2=D.e4.getD k 0-1:=by unfold oB;rw[if_neg U,if_neg ad]
   have:=yI w.drew hd
   rw[bp] at this
   rw[aR,ba,cL (by omega) (by omega)]
   exact ⟨aj.1,aj.2,bN ⟨rfl,this,(ao.eN (ej w)).trans (iV _ _ _ _),by simp[World.setCell]⟩⟩
end
end Go.Proofs.YtplieiecebljmaaGreat
