/- Contracts of the functions that the statement reaches, and the plain laws over them; each theorem stands with its conditions. -/
import Derived.Test.YtmhhgpogjpbglaaGreatBFLooks3
namespace Go.Proofs.YtmhhgpogjpbglaaGreat
open Go bD
section
theorem cq.cl {B:Nat→Prop} {w:World} {s:ah} {ls:List Key} (h:cq B w s ls) {i:Nat} (hi:i<ls.length):∃ (A:Addr) (t:ah),s.a=some A∧((0:Int)≤(i:Int)∧(i:Int)<((s.len:Nat):Int))∧(w.cell? (A.add (Int.toNat (i:Int)*1))=some (.slice t.a t.len t.cap))∧Src 1 w t (aF ls[i])∧t.len≤t.cap:=by
 obtain ⟨A,t,U,ag,aA,aK,_⟩:=h.at hi
 exact ⟨A,t,U,ag,aA,aK.1,aK.2.1⟩
theorem adw {no:Int} {l:List UInt8} {v:Value} (h:match gR no l with
      | .ok (u,_,g)=>v= .tuple #[.agg u.c.toArray, .int .u64 (g:Nat), .int .i64 0]
      | .error e=>v= .tuple #[.agg c4.c.toArray, .int .u64 0, .int .i64 e]):
    ∃ (u:dM) (g:Nat) (e:Int),v= .tuple #[.agg u.c.toArray, .int .u64 (g:Nat), .int .i64 e]∧∀n k:Nat,no=(k:Int)→gn n k l=if l.all (fun c=>c==0) then (c4,0,0) else if e=0∧u.root<n∧u.map<n then (u,g,2) else (c4,0,1):=by
  cases aE:gR no l with
  |error e=>
    rw[aE] at h
    refine ⟨c4,0,e,h,fun n k aa=> ?_⟩
    subst aa
    unfold gn
    rw[aE,if_neg (c:=e=0∧_) fun h=>Oi aE h.1]
  |ok x=>
    obtain ⟨u,m,g⟩:=x
    rw[aE] at h
    refine ⟨u,g,0,h,fun n k aa=> ?_⟩
    subst aa
    unfold gn
    rw[aE]
    split
    · rfl
    · by_cases U:n≤u.root∨n≤u.map
      · rw[if_neg (c:=(0:Int)=0∧_) (by omega)]
        show (if n≤u.root∨n≤u.map then _ else _)=_
        rw[if_pos U]
      · rw[if_pos (c:=(0:Int)=0∧_) (by omega)]
        show (if n≤u.root∨n≤u.map then _ else _)=_
        rw[if_neg U]
theorem JF {no:Int} {l:List UInt8} {w J:World} {v:Value} (h:sr (dC no l) w J v):∃ (eI mw:Int) (t:ah) (e:Int) (b:List UInt8),v= .tuple #[G0 eI mw t, .int .i64 e]∧Src 1 J t (aF b)∧t.len≤t.cap∧b.length≤232∧(∀q,aH t q→w.heap.size≤q)∧((e=0∧∃p,dC no l= .ok p∧eI=p.kind∧b=p.body)∨(e≠0∧∀p,dC no l≠ .ok p)):=by
 cases aE:dC no l with
 |error e=>
   rw[aE] at h
   exact ⟨0,0,iG,e,[],h,⟨rfl,fun _=>rfl,fun a aI=>by cases aI⟩,b6 _,ei _,fun q ⟨A,an,_⟩=>(by cases an), .inr ⟨yg aE,fun p h=>by cases h⟩⟩
 |ok p=>
   rw[aE] at h
   obtain ⟨t,rfl,bt,aL⟩:=h
   exact ⟨_,_,t,0,p.body,rfl,bt.src,bt.2.1,Eo aE,aL, .inl ⟨rfl,p,rfl,rfl,rfl⟩⟩
theorem adx {no:Int} {l:List UInt8} {p:lz} (h:dC no l= .ok p):1≤p.kind∧p.kind≤4:=by
 unfold dC at h
 repeat' split at h
 all_goals first|(cases h;done)|skip
 all_goals (cases h;simp only[not_or,Decidable.not_not] at*;omega)
theorem rP {B:Nat→Prop} {w:World} {bh:ah} {al:List c2} (ar:cq B w bh al) (aC:∀l∈al,l.length=256) (aD:16≤al.length∧al.length≤1600):
   aM Tryz.prog F.rP #[.slice bh.a bh.len bh.cap] w (fun v J=>∃r,v= .agg r.c.toArray∧oL al r∧Ext w J):=by
 have cM:=ar.len
 refine W.ady bh w _ ?_
 (delta W.rP iy cu fe ab au aQ aG lD cx st az bJ av y0 lH z4 QR z5 sW ef;dsimp only)
 refine cT (vs:=ik.c) rfl fun af cZ bg gN=>⟨(cB al 0).1.c.toArray,by kernel_rfl,cT (vs:=ik.c) rfl fun bd mU dK vS=>cT (vs:=c4.c) rfl fun bf oC gd WV=> ?_⟩
 refine ⟨(mU.ext gd).gZ rfl (b8.plain _),rfl,jw (mU.ext gd) (us:=(cB al 0).1.c) rfl rfl fun aO sG j2 He=>j8 (oC.aB j2 (by omega)) rfl c4 fun bC q1 mN Qc=> ?_⟩
 obtain ⟨dT,wx⟩:∃dT,dT=w.heap.size:=⟨_,rfl⟩
 obtain ⟨bY,lI⟩:∃bY,bY=af.heap.size:=⟨_,rfl⟩
 obtain ⟨bI,pC⟩:∃bI,bI=bd.heap.size:=⟨_,rfl⟩
 have Aj:=(bg.trans dK).trans gd
 have ot:Ext w bC:=Ext.c8 (Ext.c8 Aj j2 (by omega)) mN (by omega)
 have adz:iZ w bC dT bY bI (cB al 0).1 (cB al 0).2 bh al:=by
   rw[wx,lI,pC]
   obtain ⟨eF,aZ,a7,bm,ca,c6⟩:=ar
   exact ⟨(cq.cS (C:=fun q=>q<w.heap.size) ⟨eF,aZ,a7,bm,ca,c6⟩ fun k aa _=>aa).ext ot,(((cZ.ext dK).ext gd).aB j2 (by omega)).aB mN (by omega),sG.aB mN (by omega),q1,ot,by omega⟩
 rw[←wx,←lI,←pC]
 refine ⟨fun n J=>∃k:Nat,n=(k:Int)∧k≤2∧iZ w J dT bY bI (cB al k).1 (cB al k).2 bh al,fun n _=>((2:Int)-n).toNat,⟨0,rfl,by omega,adz⟩,?_⟩
 rintro _ bL ⟨k,rfl,aa,e1⟩
 refine ⟨fun aR=> ?_,fun bF=> ?_⟩
 · have cA:k<2:=by have:=cf aR;omega
   have jm:k<al.length:=by omega
   have fin:∀J,iZ w J dT bY bI (cB al (k+1)).1 (cB al (k+1)).2 bh al→(∃en:Nat,IntKind.wrap .i64 (((k:Nat):Int)+1)=(en:Int)∧en≤2∧iZ w J dT bY bI (cB al en).1 (cB al en).2 bh al)∧((2:Int)-IntKind.wrap .i64 (((k:Nat):Int)+1)).toNat<((2:Int)-((k:Nat):Int)).toNat:=fun J h=>by
     rw[iD (by omega)]
     exact ⟨⟨k+1,rfl,by omega,h⟩,by omega⟩
   obtain ⟨A,t,an,aj,ak,bt,vO⟩:=e1.s.cl jm
   have Dv:=aC _ (dP jm)
   refine ⟨⟨A,an,aj,t,ak,(rJ bt vO (by omega) (k:Nat) (by omega)).use ?_⟩⟩
   rintro v b9 ⟨ao,yY⟩
   obtain ⟨u,g,e,rfl,nK⟩:=adw ao
   have nK:=nK al.length k rfl
   rw[←dw (d:=[]) jm] at nK
   refine ⟨_,_,_,_,_,_,_,e,rfl,cT (vs:=c4.c) rfl fun eT Qi E3 ajV=>j8 Qi rfl u fun cO wV wF E5=> ?_⟩
   obtain ⟨q_,Iw⟩:∃q_,q_=b9.heap.size:=⟨_,rfl⟩
   rw[←Iw] at wV wF⊢
   have Bn:Ext bL cO:=yY.trans (Ext.c8 E3 wF (by omega))
   have JG:=e1.ext Bn
   obtain ⟨s3,Jg,iU,jA,mn,A_,_⟩:=JG.s.cl jm
   refine ⟨s3,iU,jA,Jg,mn,(rL A_ (by omega)).use ?_⟩
   rintro _ _ ⟨rfl,rfl⟩
   rw[←dw (d:=[]) jm]
   refine ⟨_,rfl,fun he=>fin _ ?_,fun he=> ?_⟩
   · rw[if_pos he] at nK
     rw[adt cA nK]
     exact JG
   rw[if_neg (by rw[he];simp)] at nK
   have x9:=e1.lo
   have mV:=e1.rO.lt
   have acM:=yY.size
   have aN:Addr.add ⟨bY,0,none⟩ (Int.toNat ((k:Nat):Int)*1)=⟨bY,k,none⟩:=by rw[a_,er,gJ,fX]
   have a6:Addr.add (Addr.add ⟨bY,0,none⟩ 2) (Int.toNat ((k:Nat):Int)*1)=⟨bY,2+k,none⟩:=by rw[add_add,a_,er,gJ,fX]
   have dk:Addr.add (Addr.add ⟨bY,0,none⟩ 2) (Int.toNat 0*1)=Addr.add ⟨bY,0,none⟩ 2:=add_add _ _ _
   obtain ⟨e9,e_,dZ,fL⟩:=JG.put (a':=(cB al k).1.fl k 1) (v:= .int .i64 1) aN (by omega) (Is _ cA _)
   refine ⟨⟨by omega,by omega⟩,e9,e_,bj (mq (decide (((u.root:Nat):Int)<((bh.len:Nat):Int))) (fun _ q ae=>⟨_,(wV.aB fL (by omega)).cell,ae _ (.refl _ _)⟩) fun oQ Bj=>mq (decide (((u.map:Nat):Int)<((bh.len:Nat):Int))) (fun _ q ae=>⟨_,by rw[a_];exact ((wV.aB fL (by omega)).ext Bj).cell,ae _ (.refl _ _)⟩) fun eY yv=> ?_)⟩
   have QS:=dZ.ext (Bj.trans yv)
   have adA:=((wV.aB fL (by omega)).ext (Bj.trans yv))
   have adB:(((((e:Int)==0)&&decide (((u.root:Nat):Int)<((bh.len:Nat):Int)))&&decide (((u.map:Nat):Int)<((bh.len:Nat):Int))))=decide (e=0∧u.root<al.length∧u.map<al.length):=by
     rw[fx]
     simp only[fy,l3,cR]
     omega
   rw[adB]
   refine ⟨fun aW=> ?_,fun aW=>fin _ ?_⟩
   rotate_left
   · rw[if_neg (cm aW)] at nK
     rw[adu cA nK]
     exact QS
   rw[if_pos (cf aW)] at nK
   have yM:=adv nK
   obtain ⟨Bb,JH,_⟩:=EB al k
   obtain ⟨ri,ox,uI,rj⟩:=QS.put (a':=(cB al k).1.fl k 2) (v:= .int .i64 2) aN (by omega) (by rw[←Is _ cA,ads])
   refine ⟨⟨by omega,by omega⟩,ri,ox,bj ⟨⟨by omega,by omega⟩,?_⟩⟩
   obtain ⟨az,b1,aG,bJ⟩:=uI.put (a':=((cB al k).1.fl k 2).g8 k g) (v:= .int .u64 (g:Nat)) a6 (by omega) (Ph _ cA _)
   obtain ⟨bM,x4⟩:∃bM,bM=((cB al k).1.fl k 2).g8 k (g:Nat):=⟨_,rfl⟩
   have Pp:bM.dE=(cB al k).1.dE:=by rw[x4];exact (yz _ _ _ _).1
   rw[←x4] at aG yM
   rw[←Pp] at yM Bb JH
   refine ⟨az,b1,bj ⟨_,aG.cell 4,iW (decide (((g:Nat):Int)>bM.pI)) (fun _ q ae=>⟨⟨by omega,by omega⟩,_,by rw[dk];exact aG.cell 2,ae _ (.refl _ _)⟩) fun nH QT=> ?_⟩⟩
   have E6:=aG.ext QT
   have Iq:(decide (bM.dE<0)||decide (((g:Nat):Int)>bM.pI))=decide (bM.dE<0∨bM.wK bM.dE<g):=by
     rw[fx]
     simp only[hP,cR]
     by_cases bP:bM.dE<0
     · simp[bP]
     · have:bM.dE=0:=by omega
       rw[this]
       show _↔_∨bM.pI<_
       omega
   rw[Iq]
   refine ⟨fun aE=> ?_,fun aE=>fin _ ?_⟩
   · have bN:=c_ nH
     have adC:=E6.ext bN
     obtain ⟨t1,t2,t3,t4⟩:=adC.put (a':={bM with dE:=k}) (v:= .int .i64 ((k:Nat):Int)) (A:=Addr.add ⟨bY,0,none⟩ 4) (by rw[a_]) (by omega) rfl
     refine bj ⟨fun q=>q=bY,by show¬q_=bY;omega,ji ((((adA.aB rj (by omega)).aB bJ (by omega)).ext QT).ext bN) ⟨t1,t2,bj ⟨t4,j8 t3.rO rfl u fun k4 IB EG abf=>fin _ ?_⟩⟩⟩
     rw[yM,if_pos (cf aE)]
     exact t3.adr EG IB
   · rw[yM,if_neg (cm aE)]
     exact E6
 have cA:k=2:=by have:=cm bF;omega
 subst cA
 obtain ⟨Bb,JH,QU⟩:=EB al 2
 have k9:=EC al 2
 obtain ⟨a0,JI⟩:∃a0,a0=(cB al 2).1:=⟨_,rfl⟩
 obtain ⟨u,hu⟩:∃u,u=(cB al 2).2:=⟨_,rfl⟩
 have iI:lO al=(a0,u):=by rw[JI,hu];rfl
 rw[←JI] at e1 Bb JH QU k9
 rw[←hu] at e1 k9
 refine ⟨_,e1.cell 4,fun adD=>e1.JD (.inl ⟨by rw[iI];exact cf adD,by rw[iI]⟩),fun qC=> ?_⟩
 have QV:0≤a0.dE:=by have:=cm qC;omega
 have k9:=k9 QV
 have ajW:=e1.rO.lt
 obtain ⟨gi,Fb⟩:∃gi,gi=bL.alloc (.cells #[] ad.int):=⟨_,rfl⟩
 have uZ:Ext bL gi:=by rw[Fb];exact de _ _
 have ajX:gi.heap.size=bL.heap.size+1:=by rw[Fb];exact k0 _ _
 have adE:aY 1 ad.int gi ⟨some ⟨bL.heap.size,0,none⟩,0,0⟩ []:=by rw[Fb];exact aY.new bL [] 0 rfl (by decide)
 obtain ⟨g7,Fc⟩:∃g7,g7=gi.alloc (.cells #[] ad.int):=⟨_,rfl⟩
 have QW:Ext gi g7:=by rw[Fc];exact de _ _
 have ajY:g7.heap.size=gi.heap.size+1:=by rw[Fc];exact k0 _ _
 have adF:aY 1 ad.int g7 ⟨some ⟨gi.heap.size,0,none⟩,0,0⟩ []:=by rw[Fc];exact aY.new gi [] 0 rfl (by decide)
 rw[←Fb]
 refine bj ?_
 rw[←Fc]
 obtain ⟨aZ,a7⟩:=dd.make (P:=Tryz.prog) (enc:=encZ) ad.iE g7
 obtain ⟨lf,JJ⟩:∃lf,lf=g7.alloc (.map #[] 0):=⟨_,rfl⟩
 have JK:Ext g7 lf:=by rw[JJ];exact de _ _
 have ajZ:lf.heap.size=g7.heap.size+1:=by rw[JJ];exact k0 _ _
 rw[←JJ] at aZ a7
 obtain ⟨dv,dB⟩:=dd.make (P:=Tryz.prog) (enc:=encZ) ad.iE lf
 obtain ⟨fK,JL⟩:∃fK,fK=lf.alloc (.map #[] 0):=⟨_,rfl⟩
 have nO:Ext lf fK:=by rw[JL];exact de _ _
 have aj0:fK.heap.size=lf.heap.size+1:=by rw[JL];exact k0 _ _
 rw[←JL] at dv dB
 have adG:=((uZ.trans QW).trans JK).trans nO
 obtain ⟨fa,adH⟩:∃fa,fa=g7.heap.size:=⟨_,rfl⟩
 obtain ⟨fb,Dw⟩:∃fb,fb=lf.heap.size:=⟨_,rfl⟩
 rw[←adH] at aZ a7
 rw[←Dw] at dv dB
 refine bj ⟨some fa,lf,aZ,some fb,fK,dv,?_⟩
 have JM:=e1.ext adG
 have base:∀ (J:World) (s1 s2:ah) (eo:List (Int×Int)),Ext fK J→aY 1 ad.int J s1 ((eo.map Prod.fst).map encZ)→aY 1 ad.int J s2 ((eo.map Prod.snd).map encZ)→(∀q,aH s1 q→bL.heap.size≤q∧q≠fa∧q≠fb∧¬aH s2 q)→(∀q,aH s2 q→bL.heap.size≤q∧q≠fa∧q≠fb)→hL w J dT bY bI fa fb a0 u bh al [] [] s1 s2 eo:=fun J s1 s2 eo ai U ag aA aK=>
   ⟨JM.ext ai,(a7.ext nO).ext ai,dB.ext ai,U,ag,⟨by omega,by omega,by omega⟩,fun q ae=>by have:=aA q ae;exact ⟨by omega,this.2.1,this.2.2.1,this.2.2.2⟩,fun q ae=>by have:=aK q ae;exact ⟨by omega,this.2.1,this.2.2⟩,List.nodup_nil,fun x ai=>(by cases ai),List.nodup_nil,fun x ai=>(by cases ai)⟩
 have tf:∀ {b k m q:Nat},aH ⟨some ⟨b,0,none⟩,k,m⟩ q→q=b:=fun ⟨A,an,e⟩=>by cases an;exact e.symm
 obtain ⟨oY,Bv⟩:∃oY:List (Int×Int),oY=if 0<u.bX then [(((u.root:Nat):Int),((u.bX:Nat):Int))] else []:=⟨_,rfl⟩
 refine adI (fun s1 s2 J=>hL w J dT bY bI fa fb a0 u bh al [] [] s1 s2 oY) (fun q ae=>⟨_,by rw[a_];exact JM.rO.cell,fun fI=> ?_,fun fI=> ?_⟩) ?_
 · have IC:=cf fI
   have l9:oY=[(((u.root:Nat):Int),((u.bX:Nat):Int))]:=by rw[Bv,if_pos (by omega)]
   have bN:=c_ fK
   have sK:=JM.rO.ext bN
   obtain ⟨gX,adJ⟩:∃gX,gX=fK.drew:=⟨_,rfl⟩
   rw[←adJ] at bN sK⊢
   have aj1:=bN.size
   have p3:∀ (J:World) (o:Obj),aq (fun _:Nat=>False) J (J.alloc o):=fun J o=>de J o
   have JN:=fun (J:World) (o:Obj)=>k0 J o
   refine bj ⟨fun _=>False,id,_,sK.cell,id,_,by rw[a_];exact sK.cell,bj ⟨p3 _ _,bj ⟨p3 _ _,ae _ _ _ (base _ _ _ oY (bN.trans ((p3 _ _).trans (p3 _ _))) (by rw[l9];exact (aY.new gX [.int .i64 ((u.root:Nat):Int)] 1 rfl (by decide)).ext (p3 _ _)) (by rw[l9];exact aY.new _ [.int .i64 ((u.bX:Nat):Int)] 1 rfl (by decide)) (fun q ae=> ?_) fun q ae=> ?_)⟩⟩,bj ⟨p3 _ _,bj ⟨p3 _ _,ae _ _ _ (base _ _ _ oY (bN.trans ((p3 _ _).trans (p3 _ _))) (by rw[l9];exact aY.new _ [.int .i64 ((u.root:Nat):Int)] 1 rfl (by decide)) (by rw[l9];exact (aY.new gX [.int .i64 ((u.bX:Nat):Int)] 1 rfl (by decide)).ext (p3 _ _)) (fun q ae=> ?_) fun q ae=> ?_)⟩⟩⟩
   · have U:=tf ae
     have ag:=JN gX (.cells #[.int .i64 ((u.root:Nat):Int)] ad.int)
     exact ⟨by omega,by omega,by omega,fun h=>by have:=tf h;omega⟩
   · have U:=tf ae
     have ag:=JN gX (.cells #[.int .i64 ((u.root:Nat):Int)] ad.int)
     exact ⟨by omega,by omega,by omega⟩
   · have U:=tf ae
     have ag:=JN gX (.cells #[.int .i64 ((u.bX:Nat):Int)] ad.int)
     exact ⟨by omega,by omega,by omega,fun h=>by have:=tf h;omega⟩
   · have U:=tf ae
     exact ⟨by omega,by omega,by omega⟩
 · have IC:=cm fI
   have l9:oY=[]:=by rw[Bv,if_neg (by omega)]
   refine ae _ _ _ (base fK _ _ oY (.refl _ _) (by rw[l9];exact ((adE.ext QW).ext JK).ext nO) (by rw[l9];exact (adF.ext JK).ext nO) (fun q ae=> ?_) fun q ae=> ?_)
   · have:=tf ae
     exact ⟨by omega,by omega,by omega,fun h=>by have:=tf h;omega⟩
   · have:=tf ae
     exact ⟨by omega,by omega,by omega⟩
 rintro tg lW Fe adK
 refine ⟨fun s1 s2 n J=>∃ (i:Nat) (eo:List (Int×Int)) (a:b8) (seen ba:List Nat),n=(i:Int)∧i≤eo.length∧hL w J dT bY bI fa fb a u bh al seen ba s1 s2 eo∧eo.length+300*(al.length-seen.length)≤1000000∧∀r s g,kK al (eo.drop i) a seen ba r s g→kK al oY a0 [] [] r s g,
   fun s1 _ n J=>(((s1.len:Nat):Int)-n).toNat+300*(al.length-nR fb J),⟨0,oY,a0,[],[],rfl,ei _,adK,?_,fun _ _ _ h=>h⟩,?_⟩
 · have:oY.length≤1:=by rw[Bv];split<;>simp
   rw[nq];omega
 rintro ko jo _ m5 ⟨i,eo,a,seen,ba,rfl,hi,ae,hlen,yy⟩
 have sX:ko.len=eo.length:=by have:=ae.t1.1;rw[ep,ep] at this;omega
 have s6:jo.len=eo.length:=by have:=ae.t2.1;rw[ep,ep] at this;omega
 have MR:=dd.nR ae.ms
 rw[ep] at MR
 refine ⟨fun aR=> ?_,fun bF=> ?_⟩
 · have dQ:i<eo.length:=by have:=cf aR;omega
   obtain ⟨no,level,ai⟩:∃no level,eo[i]=(no,level):=⟨_,_,rfl⟩
   have adL:eo.drop i=(no,level)::eo.drop (i+1):=by rw[r9 dQ,ai]
   have y1:=ae.ext (c_ m5)
   have QX:=c_ m5
   obtain ⟨jj,QY⟩:∃jj,jj=m5.drew:=⟨_,rfl⟩
   rw[←QY] at y1 QX
   obtain ⟨HV,gp,hV,mb⟩:=y1.t1.src.at (i:=i) (v:= .int .i64 no) (by simp[dQ,ai])
   obtain ⟨iP,gb,e7,ek⟩:=y1.t2.src.at (i:=i) (v:= .int .i64 level) (by simp[dQ,ai])
   have fin:∀u5 y2 p4,(∃ (a':b8) (kg kh kids:List Nat),kI al no level a seen ba a' kg kh kids∧hL w p4 dT bY bI fa fb a' u bh al kg kh u5 y2 (eo++kids.map fun k=>(((k:Nat):Int),IntKind.wrap .i64 (level-1))))→
       (∃ (hW:Nat) (eo:List (Int×Int)) (a:b8) (seen ba:List Nat),IntKind.wrap .i64 (((i:Nat):Int)+1)=(hW:Int)∧hW≤eo.length∧hL w p4 dT bY bI fa fb a u bh al seen ba u5 y2 eo∧eo.length+300*(al.length-seen.length)≤1000000∧∀r s g,kK al (eo.drop hW) a seen ba r s g→kK al oY a0 [] [] r s g)∧
       (((u5.len:Nat):Int)-IntKind.wrap .i64 (((i:Nat):Int)+1)).toNat+300*(al.length-nR fb p4)<(((ko.len:Nat):Int)-((i:Nat):Int)).toNat+300*(al.length-nR fb m5):=fun u5 y2 p4 ⟨a',kg,kh,kids,aU,gq⟩=>by
     have wo:=aU.len ae.k_.2.2.1 ae.k_.2.2.2
     have aj2:u5.len=eo.length+kids.length:=by have:=gq.t1.1;rw[ep,ep,c9,ep] at this;omega
     have adM:=dd.nR gq.ms
     rw[ep] at adM
     rw[iD (by omega)]
     refine ⟨⟨i+1,_,a',kg,kh,rfl,by rw[c9];omega,gq,by rw[c9,ep];omega,fun r s g h=>yy r s g ?_⟩,by omega⟩
     rw[adL]
     refine .step aU ?_
     rwa[List.drop_append_of_le_length (by omega)] at h
   refine ⟨?_⟩
   rw[←QY]
   refine bj ⟨HV,gp,hV,id,no,mb,iP,gb,e7,id,level,ek,iW (decide (no.toNat∈seen)) (fun h k aa=> ?_) fun Ff JO=>⟨fun h=> ?_,fun h=> ?_⟩⟩
   · simp only[jX,fY] at h
     have:=QP y1.ms no.toNat
     rw[show ((no.toNat:Nat):Int)=no by omega] at this
     exact ⟨_,jj,this,aa _ (.refl _ _)⟩
   · simp only[hP,cR] at h
     have JP:=y1.ext JO
     obtain ⟨e9,e_,dZ,fL⟩:=JP.r.put (a':={a with bad:=inc a.bad}) (v:= .int .i64 (inc a.bad)) (A:=Addr.add ⟨bY,0,none⟩ 9) (by rw[a_]) (by omega) rfl
     refine ⟨_,JP.r.cell 9,e9,e_,bj (fin _ _ _ ⟨_,_,_,[], .wE fun k aa h7=> ?_,by rw[vy,r_];exact JP.yZ dZ fL⟩)⟩
     subst aa
     rw[er] at h
     rcases h with (h|h)|h
     · omega
     · omega
     · exact h
   simp only[jX,fY] at h
   obtain ⟨k,rfl⟩:∃k:Nat,no=(k:Int):=⟨no.toNat,by omega⟩
   rw[er] at h
   have h7:k<al.length:=by omega
   obtain ⟨gW,iy,QZ,aj3⟩:=(y1.ext JO).H2 h.2 h7
   obtain ⟨A,t,an,aj,ak,bt,vO⟩:=QZ.r.s.cl h7
   have Dv:=aC _ (dP h7)
   refine ⟨gW,iy,A,an,aj,t,ak,(lS bt vO (by omega) (k:Nat) (by omega)).use ?_⟩
   rintro v nY ⟨ao,Q0⟩
   obtain ⟨eI,mw,t2,e,aQ,rfl,jg,JQ,rf,JR,u6⟩:=JF ao
   have aj4:=Q0.size
   refine ⟨eI,mw,t2,e,rfl,cT (vs:=[.int .i64 0, .int .u64 0, .slice none 0 0]) rfl fun rQ adN adO aj5=>sZ eI mw t2 adN rfl fun rR JS adP aj6=>⟨t2,by rw[a_];exact JS.cell,?_⟩⟩
   have JT:Ext nY rR:=Ext.c8 adO adP (b6 _)
   obtain ⟨j_,wc⟩:∃j_,j_=nY.heap.size:=⟨_,rfl⟩
   rw[←wc] at JS⊢
   refine (rG (jg.ext JT) JQ (by omega) (level==1)).use ?_
   rintro v rS ⟨adQ,JU⟩
   obtain ⟨eW,K,V,D,Bw,rfl,ib,fH⟩:∃ (eW:cr) (K V D:ah) (Bw:Bool),v= .tuple #[nx eW K V D, .bool Bw]∧h_ (fun q=>rR.heap.size≤q) rS eW K V D∧((Bw=true∧iN (level==1) aQ eW)∨(Bw=false∧∀n,¬iN (level==1) aQ n)):=by
     rcases adQ with ⟨eW,K,V,D,rfl,U,ag⟩|⟨rfl,U⟩
     · exact ⟨eW,K,V,D,true,rfl,ag, .inl ⟨rfl,U⟩⟩
     · exact ⟨Hb,gf,gf,gf,false,rfl,⟨cq.none _ _,cq.none _ _,dX.none _ _⟩, .inr ⟨rfl,U⟩⟩
   refine ⟨_,K,V,D,Bw,rfl,cT (vs:=[.bool false, .slice none 0 0, .slice none 0 0, .slice none 0 0]) rfl fun w8 Q1 adR aj7=>⟨Q1.gZ rfl (fun v ao=> ?_),rfl,jw Q1 (us:=ow eW K V D) rfl rfl fun w9 JV adS aj8=> ?_⟩⟩
   · simp only[fc,jc,jd] at ao
     rcases ao with rfl|rfl|rfl|rfl<;>trivial
   have Fg:Ext rS w9:=Ext.c8 adR adS (b6 _)
   obtain ⟨bq,fh⟩:∃bq,bq=rS.heap.size:=⟨_,rfl⟩
   rw[←fh] at JV⊢
   have Q2:Ext gW w9:=((Q0.trans JT).trans JU).trans Fg
   have ta:=(JS.ext JU).ext Fg
   refine iW (!((eI==1)==(level==1))) (fun _ q gq=>⟨_,ta.cell,gq _ (.refl _ _)⟩) fun Fh Q3=>iW (decide (eI>2)) (fun _ q gq=>⟨_,(ta.ext Q3).cell,gq _ (.refl _ _)⟩) fun Fi adT=> ?_
   have Q4:=Q3.trans adT
   have Fj:=QZ.ext (Q2.trans Q4)
   have oH:al.getD k []=al[k]:=dw h7
   refine ⟨fun k3=> ?_,fun sN=> ?_⟩
   · obtain ⟨e9,e_,dZ,fL⟩:=Fj.r.put (a':={a with bad:=inc a.bad}) (v:= .int .i64 (inc a.bad)) (A:=Addr.add ⟨bY,0,none⟩ 9) (by rw[a_]) (by omega) rfl
     refine ⟨_,Fj.r.cell 9,e9,e_,bj (fin _ _ _ ⟨_,_,_,[], .bad k rfl h7 h.2 fun p n aU aD kj=> ?_,by rw[vy,r_];exact Fj.yZ dZ fL⟩)⟩
     rw[oH] at aU
     rcases u6 with ⟨he,Ii,uL,Q5,JW⟩|⟨_,he⟩
     · rw[aU] at uL
       cases uL
       rcases fH with ⟨gE,_⟩|⟨_,fH⟩
       · have aN:((eI==1)==(level==1))=true:=by
           rw[Q5,kj]
           unfold oJ
           cases level==1<;>rfl
         have a6:¬eI>2:=by
           rw[Q5,kj]
           unfold oJ
           split<;>decide
         rw[he,gE,aN,sd a6] at k3
         cases k3
       · exact fH n (JW▸aD)
     · exact he p aU
   · simp only[jX,bne_eq_false_iff_eq,vz,fY] at sN
     obtain ⟨⟨⟨he,gE⟩,si⟩,cA⟩:=sN
     obtain ⟨p,aU,kj,JW⟩:∃p,dC ((k:Nat):Int) al[k]= .ok p∧eI=p.kind∧aQ=p.body:=by
       rcases u6 with ⟨_,h⟩|⟨h,_⟩
       · exact h
       · exact absurd he h
     have adU:iN (level==1) p.body eW:=by
       rcases fH with ⟨_,h⟩|⟨h,_⟩
       · exact JW▸h
       · rw[gE] at h;cases h
     have rT:p.kind=oJ level:=by
       have:=adx aU
       unfold oJ
       cases y3:level==1 with
       |true=>
         rw[y3] at si
         have:eI=1:=by simpa using si
         show p.kind=1
         omega
       |false=>
         rw[y3] at si
         have:¬eI=1:=by simpa using si
         show p.kind=2
         omega
     obtain ⟨a',kf⟩:∃a':b8,a'={a with gh:=inc a.gh,keys:=if level==1 then IntKind.wrap .i64 (a.keys+(eW.keys.length:Nat)) else a.keys}:=⟨_,rfl⟩
     have JX:kI al ((k:Nat):Int) level a seen ba a' (k::seen) (ba++ [k]) eW.kids:=by
       rw[kf]
       exact .ok k p eW rfl h7 h.2 (by rw[oH];exact aU) adU rT
     have wo:=JX.len ae.k_.2.2.1 ae.k_.2.2.2
     obtain ⟨p5,fe,JY,adV⟩:=Fj.ok (List.mem_cons_self ..) fun aW=>h.2 (ae.k_.2.1 k aW)
     obtain ⟨e9,e_,dZ,fL⟩:=JY.r.put (a':={a with gh:=inc a.gh}) (v:= .int .i64 (inc a.gh)) (A:=Addr.add ⟨bY,0,none⟩ 5) (by rw[a_]) (by omega) rfl
     have Q6:=JY.yZ dZ fL
     refine ⟨p5,fe,_,JY.r.cell 5,e9,e_,bj ?_⟩
     obtain ⟨th,Q7⟩:∃th,th=p5.setCell (Addr.add ⟨bY,0,none⟩ 5) (.int .i64 (inc a.gh)):=⟨_,rfl⟩
     rw[show p5.setCell (Addr.add ⟨bY,0,none⟩ 5) (.int .i64 (IntKind.wrap .i64 (a.gh+1)))=th from Q7.symm]
     rw[←Q7] at Q6 fL
     obtain ⟨lo,x9⟩:∃lo,lo=rR.heap.size:=⟨_,rfl⟩
     obtain ⟨dQ,aj9⟩:∃dQ,dQ=th.heap.size:=⟨_,rfl⟩
     have JZ:aq (fun q=>q=fa∨q=bY) w9 th:=(((Q4.mono fun _ _ h=>h.elim).trans (adV.mono fun q _ e=> .inl e)).trans (fL.mono fun q _ e=> .inr e))
     have aj_:=QX.size
     have aka:=JO.size
     have akb:=Q2.size
     have akc:=JT.size
     have akd:=JU.size
     have ake:=Fg.size
     have akf:=JZ.size
     have H3:fa<m5.heap.size:=ae.u4.lt
     have Ep:bY<m5.heap.size:=ae.r.tb.lt
     have akg:=JV.lt
     have akh:m5.heap.size≤lo:=by omega
     have adW:Var th bq (ow eW K V D) ad.ia:=JV.aB JZ (by omega)
     have iH:dX (fun q=>lo≤q∧q<dQ) th D eW.kids:=(dX.cS (C:=fun q=>lo≤q∧q<dQ) ib.kids fun q EU jf=>⟨by omega,by omega⟩).ext Fg|>.aB JZ fun q EU e=>by omega
     have w2:=ib.keys.len
     refine ⟨fun s1 s2 n J=>∃j:Nat,n=(j:Int)∧j≤eW.kids.length∧hL w J dT bY bI fa fb {a with gh:=inc a.gh} u bh al (k::seen) (ba++ [k]) s1 s2 (eo++(eW.kids.take j).map fun k=>(((k:Nat):Int),IntKind.wrap .i64 (level-1)))∧Var J bq (ow eW K V D) ad.ia∧dX (fun q=>lo≤q∧q<dQ) J D eW.kids∧(∀q,aH s1 q∨aH s2 q→q<lo∨dQ≤q)∧dQ≤J.heap.size,
       fun _ _ n _=>((eW.kids.length:Int)-n).toNat,⟨0,rfl,ei _,by rw[List.take_zero,vy,r_];exact Q6,adW,iH,fun q gq=> ?_,by omega⟩,?_⟩
     · rcases gq with gq|gq
       · have:=ae.t1.lt q gq;omega
       · have:=ae.t2.lt q gq;omega
     rintro u7 u9 _ m6 ⟨j,rfl,bu,y4,Q8,J0,Fk,aki⟩
     obtain ⟨_,d1,_,d3⟩:=lT Q8
     have Qe:=J0.len
     refine ⟨D,d3,fun aR=> ?_,fun bF=> ?_⟩
     · have kD:j<eW.kids.length:=by have:=cf aR;omega
       obtain ⟨adX,adY,sH,nU⟩:=J0.at kD
       obtain ⟨t1,Bx,az,adZ,By,b1,aG,bJ,ef,ad0⟩:=y4.push ((eW.kids[j]:Nat):Int) (IntKind.wrap .i64 (level-1)) (by rw[c9,ep,iv];rw[jW] at wo;omega)
       have akj:=bJ.size
       refine ⟨D,d3,adX,adY,sH,_,nU,bj ⟨t1,Bx,az,bj ⟨adZ,By,b1,?_⟩⟩⟩
       rw[iD (by rw[jW] at wo;omega)]
       refine ⟨⟨j+1,rfl,by omega,?_,Q8.aB bJ fun e=>by have:=Fk _ e;omega,dX.aB J0 bJ fun q EU e=>by have:=Fk _ e;omega,fun q gq=> ?_,by omega⟩,by show ((eW.kids.length:Int)-((j+1:Nat):Int)).toNat<((eW.kids.length:Int)-((j:Nat):Int)).toNat;omega⟩
       · rw[kS kD,hT,←gC]
         exact aG
       · rcases gq with gq|gq
         · rcases ef q gq with e|e
           · exact Fk q (.inl e)
           · exact .inr (by omega)
         · rcases ad0 q gq with e|e
           · exact Fk q (.inr e)
           · exact .inr (by omega)
     · have uP:j=eW.kids.length:=by have:=cm bF;omega
       subst uP
       rw[lp] at y4
       refine ⟨fun y3=> ?_,fun y3=>fin _ _ _ ⟨a',_,_,eW.kids,JX,?_⟩⟩
       · have aN:a'={a with gh:=inc a.gh,keys:=IntKind.wrap .i64 (a.keys+((K.len:Nat):Int))}:=by rw[kf,if_pos y3,w2]
         obtain ⟨ri,ox,uI,rj⟩:=y4.r.put (a':=a') (v:= .int .i64 (IntKind.wrap .i64 (a.keys+((K.len:Nat):Int)))) (A:=Addr.add ⟨bY,0,none⟩ 6) (by rw[a_]) (by omega) (by rw[aN];rfl)
         exact ⟨_,y4.r.cell 6,K,d1,ri,ox,bj (fin _ _ _ ⟨a',_,_,eW.kids,JX,y4.yZ uI rj⟩)⟩
       · have aN:a'={a with gh:=inc a.gh}:=by rw[kf,if_neg (by rw[y3];simp)]
         rw[aN];exact y4
 · have nS:i=eo.length:=by have:=cm bF;omega
   rw[nS,List.drop_length] at yy
   have hw:=yy a seen ba (.done a seen ba)
   have pX:oL al (mi al ba u.map a):=by
     refine .inr ⟨by rw[iI];exact QV,a,seen,ba,?_,by rw[iI]⟩
     rw[iI]
     by_cases fI:0<u.bX
     · rw[Bv,if_pos fI] at hw
       exact .inl ⟨fI,hw⟩
     · rw[Bv,if_neg fI] at hw
       cases hw
       exact .inr ⟨by show u.bX=0;omega,rfl,rfl⟩
   have bN:=c_ m5
   have Fl:=ae.ext bN
   obtain ⟨i_,ad1⟩:∃i_,i_=m5.drew:=⟨_,rfl⟩
   refine bj ?_
   rw[←ad1] at Fl⊢
   obtain ⟨A,t,an,aj,ak,bt,vO⟩:=Fl.r.s.cl k9
   have Dv:=aC _ (dP k9)
   have Q9:i_.cell? (Addr.add ⟨bI,0,none⟩ 2)=some (.int .i64 ((u.map:Nat):Int)):=by rw[a_];exact Fl.r.rO.cell
   refine ⟨fun _=>False,id,_,Q9,id,_,Q9,A,an,aj,id,t,ak,?_⟩
   have p3:∀ (J:World) (o:Obj),aq (fun _:Nat=>False) J (J.alloc o):=fun J o=>de J o
   refine (fun (tail:∀ (j_:Nat) (e:Int) (nZ:World),(∃ (eI mw:Int) (t2:ah) (aQ:List UInt8),Var nZ j_ [.int .i64 eI, .int .u64 mw, .slice t2.a t2.len t2.cap] ad.jD∧Ext i_ nZ∧Src 1 nZ t2 (aF aQ)∧((e=0∧∃p,dC ((u.map:Nat):Int) al[u.map]= .ok p∧eI=p.kind∧aQ=p.body)∨(e≠0∧∀p,dC ((u.map:Nat):Int) al[u.map]≠ .ok p)))→_)=>
     ⟨(lS bt vO (by omega) (u.map:Nat) (by omega)).use fun v rU ao=>by
       obtain ⟨ao,Q_⟩:=ao
       obtain ⟨eI,mw,t2,e,aQ,rfl,jg,JQ,rf,JR,u6⟩:=JF ao
       refine ⟨eI,mw,t2,e,rfl,Q_,cT (vs:=[.int .i64 0, .int .u64 0, .slice none 0 0]) rfl fun Fm ad2 Ra akk=>⟨Ra,sZ eI mw t2 ad2 rfl fun nZ Rb ad3 akl=> ?_⟩⟩
       have Fo:Ext rU nZ:=Ext.c8 Ra ad3 (b6 _)
       obtain ⟨j_,wc⟩:∃j_,j_=rU.heap.size:=⟨_,rfl⟩
       rw[←wc] at Rb⊢
       exact tail j_ e nZ ⟨eI,mw,t2,aQ,Rb,Q_.trans Fo,jg.ext Fo,u6⟩,
     cT (vs:=[.int .i64 0, .int .u64 0, .slice none 0 0]) rfl fun Fp ad4 J1 ad5=>⟨J1,(lS (bt.ext J1) vO (by omega) (u.map:Nat) (by omega)).use fun v Fq ao=>by
       obtain ⟨ao,J2⟩:=ao
       obtain ⟨eI,mw,t2,e,aQ,rfl,jg,JQ,rf,JR,u6⟩:=JF ao
       refine ⟨eI,mw,t2,e,rfl,J2,sZ eI mw t2 (ad4.ext J2) rfl fun Bz Rc Re akm=> ?_⟩
       have akn:=ad5
       have aV:=jg.aB Re fun q ae e=>by have:=JR q ae;omega
       have ad6:Ext i_ Bz:=Ext.c8 (J1.trans J2) Re (b6 _)
       obtain ⟨j_,wc⟩:∃j_,j_=i_.heap.size:=⟨_,rfl⟩
       rw[←wc] at Rc⊢
       exact tail j_ e Bz ⟨eI,mw,t2,aQ,Rc,ad6,aV,u6⟩⟩⟩) ?_
   rintro j_ e nZ ⟨eI,mw,t2,aQ,ta,Fo,jg,u6⟩
   have Rf:=Fl.ext Fo
   have ad7:mi al ba u.map a=if e=0∧eI=4∧kE (fE aQ) al.length then
       {a with fv:=(dD (fun i=>lK u.map ba i&& !bitsOf (fE aQ) i) al.length:Nat),lost:=(dD (fun i=>bitsOf (fE aQ) i&& !lK u.map ba i) al.length:Nat)} else {a with bad:=inc a.bad}:=by
     unfold mi
     rw[dw k9]
     rcases u6 with ⟨he,p,aU,kj,aj⟩|⟨he,aU⟩
     · rw[aU,kj,aj]
       show (if p.kind=4∧kE (fE p.body) al.length then _ else _)=_
       by_cases aW:p.kind=4∧kE (fE p.body) al.length
       · rw[if_pos aW,if_pos ⟨he,by rw[aW.1];rfl,aW.2⟩]
         have:=QL (lK u.map ba) (bitsOf (fE p.body)) al.length
         rw[QK,JE,JE]
         congr 1
         omega
       · rw[if_neg aW,if_neg fun h=>aW ⟨by have:=h.2.1;omega,h.2.2⟩]
     · rw[if_neg fun h=>he h.1]
       cases ai:dC ((u.map:Nat):Int) al[u.map] with
       |error _=>rfl
       |ok p=>exact absurd ai (aU p)
   rw[ad7] at pX
   refine ⟨t2,by rw[a_];exact ta.cell,?_⟩
   rw[cM]
   refine (Zq (ns:=fE aQ) (by rw[←OR];exact jg) (OS aQ) al.length aD.2).use ?_
   rintro v BA ⟨Rg,qY⟩
   have ad8:=Rf.ext Rg
   obtain ⟨p6,rfl,Rh⟩:∃p6:Option Addr,v= .pointer p6∧((p6=none∧¬kE (fE aQ) al.length)∨(kE (fE aQ) al.length∧∃b s1 s2,p6=some ⟨b,0,none⟩∧fi BA b al.length (bitsOf (fE aQ)) (bitsOf (fE aQ)) s1 s2∧∀k,kc b s1 s2 k→nZ.heap.size≤k)):=by
     rcases qY with ⟨U,rfl⟩|⟨U,b,s1,s2,rfl,ag,aA⟩
     · exact ⟨_,rfl, .inl ⟨rfl,U⟩⟩
     · exact ⟨_,rfl, .inr ⟨U,b,s1,s2,rfl,ag,aA⟩⟩
   refine ⟨p6,rfl,iW (decide (eI≠4)) (fun _ k aa=>⟨eI,(ta.ext Rg).cell,?_⟩) fun BB Ri=> ?_⟩
   · rw[show (eI !=4)=decide (eI≠4) by rw[fx,bne_iff_ne,cR]]
     exact aa _ (.refl _ _)
   have J3:=ad8.ext Ri
   have I3:(((e !=0)||decide (eI≠4))||Option.isNone p6)= !decide (e=0∧eI=4∧kE (fE aQ) al.length):=by
     rw[fx]
     rcases Rh with ⟨rfl,h⟩|⟨h,_,_,_,rfl,_⟩
     · simp[h]
     · simp only[Option.isNone_some,Bool.or_false,hP,bne_iff_ne,ne_eq,cR,lq,fY,h,and_true]
       omega
   rw[I3]
   refine ⟨fun k3=> ?_,fun sN=> ?_⟩
   · have k3:¬(e=0∧eI=4∧kE (fE aQ) al.length):=cm (by rwa[lq] at k3)
     rw[if_neg k3] at pX
     obtain ⟨e9,e_,dZ,fL⟩:=J3.r.put (a':={a with bad:=inc a.bad}) (v:= .int .i64 (inc a.bad)) (A:=Addr.add ⟨bY,0,none⟩ 9) (by rw[a_]) (by omega) rfl
     exact ⟨_,J3.r.cell 9,e9,e_,bj (dZ.JD pX)⟩
   have sN:e=0∧eI=4∧kE (fE aQ) al.length:=cf (by rwa[vz] at sN)
   rw[if_pos sN] at pX
   obtain ⟨b,t1,t2,rfl,ad9,Rj⟩:∃b s1 s2,p6=some ⟨b,0,none⟩∧fi BB b al.length (bitsOf (fE aQ)) (bitsOf (fE aQ)) s1 s2∧∀k,kc b s1 s2 k→nZ.heap.size≤k:=by
     rcases Rh with ⟨_,h⟩|⟨_,b,s1,s2,U,ag,aA⟩
     · exact absurd sN.2.2 h
     · exact ⟨b,s1,s2,U,ag.ext Ri,aA⟩
   have lI:bY<nZ.heap.size:=Rf.r.tb.lt
   have Rk:a.lost=0∧a.fv=0:=⟨(hw.lost).trans (by rw[JI];exact QM al 2),hw.fv.trans QU⟩
   obtain ⟨iO,pA⟩:∃iO:Nat→Nat→b8,iO=fun x y=>{a with lost:=(x:Nat),fv:=(y:Nat)}:=⟨_,rfl⟩
   refine ⟨fun n J=>∃k:Nat,n=(k:Int)∧k≤al.length∧hL w J dT bY bI fa fb (iO (dD (fun i=>bitsOf (fE aQ) i&& !lK u.map ba i) k) (dD (fun i=>lK u.map ba i&& !bitsOf (fE aQ) i) k)) u bh al seen ba ko jo eo∧fi J b al.length (bitsOf (fE aQ)) (bitsOf (fE aQ)) t1 t2,fun n _=>((al.length:Int)-n).toNat,⟨0,rfl,ei _,?_,ad9⟩,?_⟩
   · have fO:∀a:b8,a.lost=0→a.fv=0→({a with lost:=((0:Nat):Int),fv:=((0:Nat):Int)}:b8)=a:=fun a U ag=>by
       cases a
       simp only at U ag
       subst U ag
       rfl
     have:iO 0 0=a:=by rw[pA];exact fO a Rk.1 Rk.2
     show hL _ _ _ _ _ _ _ (iO 0 0) _ _ _ _ _ _ _ _
     rw[this]
     exact J3
   rintro _ p7 ⟨k,rfl,aa,y5,Rl⟩
   refine ⟨fun aR=> ?_,fun bF=> ?_⟩
   · have hG:k<al.length:=by have:=cf aR;omega
     obtain ⟨f,aL⟩:∃f,f=bitsOf (fE aQ):=⟨_,rfl⟩
     obtain ⟨g,aW⟩:∃g,g=lK u.map ba:=⟨_,rfl⟩
     rw[←aL,←aW] at y5
     rw[←aL] at Rl
     have ad_:g k=((decide (((k:Nat):Int)<2)||(((k:Nat):Int)==((u.map:Nat):Int)))||decide (k∈ba)):=by
       rw[aW,fx]
       unfold lK
       simp only[hP,cR,l3]
       constructor
       · rintro ((h|h)|h)
         · exact .inl (.inr (by omega))
         · exact .inr h
         · exact .inl (.inl (by omega))
       · rintro ((h|h)|h)
         · exact .inr (by omega)
         · exact .inl (.inl (by omega))
         · exact .inl (.inr h)
     refine ⟨iW (((k:Nat):Int)==((u.map:Nat):Int)) (fun _ q gq=>⟨_,by rw[a_];exact y5.r.rO.cell,gq _ (.refl _ _)⟩) fun Fs J4=>iW (decide (k∈ba)) (fun _ q gq=>⟨_,Fs,QP (y5.ext J4).u4 k,gq _ (.refl _ _)⟩) fun y6 Rm=> ?_⟩
     rw[←ad_]
     have Ft:=(y5.ext J4).ext Rm
     have BC:=(Rl.ext J4).ext Rm
     have ako:=BC.OI
     have bit:∀J,fi J b al.length f f t1 t2→∃A:Addr,t1.a=some A∧((0:Int)≤(k:Int)∧(k:Int)<((t1.len:Nat):Int))∧J.cell? (A.add (Int.toNat ((k:Nat):Int)*1))=some (.bool (f k)):=fun J h=>by
       obtain ⟨A,U,ag,aA⟩:=h.now.src.at (AP f hG)
       exact ⟨A,U,ag,aA⟩
     refine ya (fun J=>hL w J dT bY bI fa fb (iO (dD (fun i=>f i&& !g i) (k+1)) (dD (fun i=>g i&& !f i) k)) u bh al seen ba ko jo eo∧fi J b al.length f f t1 t2) (fun q gq=> ?_) ?_
     · obtain ⟨A,U,ag,aA⟩:=bit _ BC
       refine ⟨_,rfl,t1,BC.ft,A,U,ag,_,aA,fun aj=> ?_,fun aj=>gq _ ⟨?_,BC⟩⟩
       · have g4:(iO (dD (fun i=>f i&& !g i) k) (dD (fun i=>g i&& !f i) k)).lost=((dD (fun i=>f i&& !g i) k:Nat):Int):=by rw[pA]
         have hle:=HQ (fun i=>f i&& !g i) k
         have aN:dD (fun i=>f i&& !g i) (k+1)=dD (fun i=>f i&& !g i) k+1:=by
           show _+(f k&& !g k).toNat=_
           rw[aj];rfl
         obtain ⟨e9,e_,dZ,fL⟩:=Ft.r.put (a':=iO (dD (fun i=>f i&& !g i) (k+1)) (dD (fun i=>g i&& !f i) k)) (v:= .int .i64 ((dD (fun i=>f i&& !g i) (k+1):Nat):Int)) (A:=Addr.add ⟨bY,0,none⟩ 7) (by rw[a_]) (by omega) (by rw[pA];rfl)
         refine ⟨_,Ft.r.cell 7,e9,e_,bj ?_⟩
         have a8:IntKind.wrap .i64 ((iO (dD (fun i=>f i&& !g i) k) (dD (fun i=>g i&& !f i) k)).lost+1)=((dD (fun i=>f i&& !g i) (k+1):Nat):Int):=by
           rw[g4,iD (by omega),aN]
         rw[a8]
         exact gq _ ⟨Ft.yZ dZ fL,BC.aB fL fun q ae e=>by have:=Rj q ae;omega⟩
       · have aN:dD (fun i=>f i&& !g i) (k+1)=dD (fun i=>f i&& !g i) k:=by
           show _+(f k&& !g k).toNat=_
           rw[aj];rfl
         rw[aN];exact Ft
     rintro BD ⟨aea,J5⟩
     refine mq (!f k) (fun _ q gq=> ?_) fun u_ Rn=> ?_
     · obtain ⟨A,U,ag,aA⟩:=bit _ J5
       exact ⟨_,rfl,t1,J5.ft,A,U,ag,_,aA,gq _ (.refl _ _)⟩
     have Fu:=aea.ext Rn
     have Ro:=J5.ext Rn
     have fin:∀J,hL w J dT bY bI fa fb (iO (dD (fun i=>f i&& !g i) (k+1)) (dD (fun i=>g i&& !f i) (k+1))) u bh al seen ba ko jo eo→fi J b al.length f f t1 t2→(∃en:Nat,IntKind.wrap .i64 (((k:Nat):Int)+1)=(en:Int)∧en≤al.length∧hL w J dT bY bI fa fb (iO (dD (fun i=>bitsOf (fE aQ) i&& !lK u.map ba i) en) (dD (fun i=>lK u.map ba i&& !bitsOf (fE aQ) i) en)) u bh al seen ba ko jo eo∧fi J b al.length (bitsOf (fE aQ)) (bitsOf (fE aQ)) t1 t2)∧((al.length:Int)-IntKind.wrap .i64 (((k:Nat):Int)+1)).toNat<((al.length:Int)-((k:Nat):Int)).toNat:=fun J U ag=>by
       rw[iD (by omega),←aL,←aW]
       exact ⟨⟨k+1,rfl,by omega,U,ag⟩,by omega⟩
     refine ⟨fun aj=> ?_,fun aj=>fin _ ?_ Ro⟩
     · have g4:(iO (dD (fun i=>f i&& !g i) (k+1)) (dD (fun i=>g i&& !f i) k)).fv=((dD (fun i=>g i&& !f i) k:Nat):Int):=by rw[pA]
       have hle:=HQ (fun i=>g i&& !f i) k
       have aN:dD (fun i=>g i&& !f i) (k+1)=dD (fun i=>g i&& !f i) k+1:=by
         show _+(g k&& !f k).toNat=_
         rw[aj];rfl
       obtain ⟨e9,e_,dZ,fL⟩:=Fu.r.put (a':=iO (dD (fun i=>f i&& !g i) (k+1)) (dD (fun i=>g i&& !f i) (k+1))) (v:= .int .i64 ((dD (fun i=>g i&& !f i) (k+1):Nat):Int)) (A:=Addr.add ⟨bY,0,none⟩ 8) (by rw[a_]) (by omega) (by rw[pA];rfl)
       refine ⟨_,Fu.r.cell 8,e9,e_,bj ?_⟩
       have a8:IntKind.wrap .i64 ((iO (dD (fun i=>f i&& !g i) (k+1)) (dD (fun i=>g i&& !f i) k)).fv+1)=((dD (fun i=>g i&& !f i) (k+1):Nat):Int):=by
         rw[g4,iD (by omega),aN]
       rw[a8]
       exact fin _ (Fu.yZ dZ fL) (Ro.aB fL fun q ae e=>by have:=Rj q ae;omega)
     · have aN:dD (fun i=>g i&& !f i) (k+1)=dD (fun i=>g i&& !f i) k:=by
         show _+(g k&& !f k).toNat=_
         rw[aj];rfl
       rw[aN];exact Fu
   · have Et:k=al.length:=by have:=cm bF;omega
     subst Et
     rw[pA] at y5
     exact y5.r.JD pX
end
section
section
variable {cD w J:World}
structure m7 where
 cl:Int
 no:Int
 kind:Int
 gen:Int
 s:ah
 body:List UInt8
def m7.c (a:m7):List Value:=[.int .i64 a.cl, .int .i64 a.no, .int .i64 a.kind, .int .u64 a.gen, .slice a.s.a a.s.len a.s.cap]
structure J6 (w:World) (a:m7):Prop where
 b:Src 1 w a.s (aF a.body)
 c:a.s.len≤a.s.cap
 n: -9223372036854775808≤a.no∧a.no≤9223372036854775807
 g:0≤a.gen∧a.gen≤18446744073709551615
structure ti (w:World) (l:ah) (A:List m7):Prop where
 s:Src 5 w l (c1 m7.c A)
 ok:∀a∈A,J6 w a
theorem Fv (A:List m7):∀x∈A,(m7.c x).length=5:=fun _ _=>rfl
theorem ti.ext {l:ah} {A:List m7} (h:ti w l A) (ai:Ext w J):ti J l A:=⟨h.s.ext ai,fun a aI=>⟨(h.ok a aI).b.ext ai,(h.ok a aI).c,(h.ok a aI).n,(h.ok a aI).g⟩⟩
theorem ti.at {l:ah} {A:List m7} (h:ti w l A) {i:Nat} (hi:i<A.length):l.len=A.length∧∃a:Addr,l.a=some a∧∀j v,(m7.c A[i])[j]? =some v→w.cell? ((a.add (Int.toNat (i:Int)*5)).add j)=some v:=by
 have aC:=h.s.len
 rw[me _ (Fv A)] at aC
 refine ⟨by omega,?_⟩
 cases aI:l.a with
 |none=>
   have:=congrArg List.length (h.s.nil aI)
   rw[me _ (Fv A),nq] at this;omega
 |some a=>
   have aJ:=h.s.rd a aI
   refine ⟨a,rfl,fun j v ao=> ?_⟩
   have bu:j<5:=(xM.1 ao).1
   have cg:=x0 aJ (j:=i*5+j) (v:=v) (by rw[Hh (Fv A) hi bu];exact ao)
   rw[fX] at cg
   rw[add_add,er]
   exact cg
set_option maxRecDepth 100000 in
theorem aeb {fuel:Nat} {vs:List Value} (h:iK Tryz.prog w fuel ad.BE vs):∃a:m7,vs=a.c∧J6 w a:=by
 have hu:Tryz.prog.underlying ad.BE=some (.struct (fieldsOf Tryz.prog ad.BE)):=by kernel_rfl
 have aU:Tryz.prog.underlying ad.jD=some (.struct (fieldsOf Tryz.prog ad.jD)):=by kernel_rfl
 have hlen:vs.length=5:=by
   have:=(Rp h hu).1
   rwa[show Tryz.prog.cellsOf ad.BE=5 by kernel_rfl] at this
 obtain ⟨_,f0⟩:=y7 h hu 0 (t:=ad.int) (o:=0) (n:=1) (by kernel_rfl) (by kernel_rfl)
 obtain ⟨_,f1⟩:=y7 h hu 1 (t:=ad.int) (o:=1) (n:=1) (by kernel_rfl) (by kernel_rfl)
 obtain ⟨_,f2⟩:=y7 h hu 2 (t:=ad.jD) (o:=2) (n:=3) (by kernel_rfl) (by kernel_rfl)
 obtain ⟨_,Rq⟩:=y7 f2 aU 0 (t:=ad.int) (o:=0) (n:=1) (by kernel_rfl) (by kernel_rfl)
 obtain ⟨_,dv⟩:=y7 f2 aU 1 (t:=ad.uint64) (o:=1) (n:=1) (by kernel_rfl) (by kernel_rfl)
 obtain ⟨_,dB⟩:=y7 f2 aU 2 (t:=ad.bE) (o:=2) (n:=1) (by kernel_rfl) (by kernel_rfl)
 obtain ⟨ld,fO,_⟩:=AX f0 (k:= .i64) (by kernel_rfl)
 obtain ⟨dF,aN,az⟩:=AX f1 (k:= .i64) (by kernel_rfl)
 obtain ⟨cY,a6,_⟩:=AX Rq (k:= .i64) (by kernel_rfl)
 obtain ⟨aX,dk,aG⟩:=AX dv (k:= .u64) (by kernel_rfl)
 obtain ⟨d4,kZ,ca⟩:=Rr dB (e:=ad.uint8) (by kernel_rfl)
 obtain ⟨oz,aec⟩:=ZT ca
 refine ⟨⟨ld,dF,cY,aX,d4,oz⟩,?_,aec,ca.le,aed az.1 az.2,?_⟩
 · match vs,hlen with
   | [a,b,c,d,e],_=>
     simp at fO aN a6 dk kZ
     rw[fO,aN,a6,dk,kZ];rfl
 · simpa[IntKind.min,IntKind.max,IntKind.signed,IntKind.bits] using aG
set_option maxRecDepth 100000 in
theorem ti.of {v:Value} (h:tj Tryz.prog w ad.aee v):∃ (l:ah) (A:List m7),v= .slice l.a l.len l.cap∧ti w l A:=by
 obtain ⟨t,rfl,bt⟩:=wz.of h (e:=ad.BE) (by kernel_rfl)
 obtain ⟨A,U,_,ag⟩:=bt.src (c:=m7.c) (sz:=5) (by kernel_rfl) (fun a=>J6 w a) fun fuel vs jF=>aeb jF
 exact ⟨t,A,rfl,U,ag⟩
theorem rV {D:bx} {d n k:Nat} (h:p2 cD w D d n k) (aD:n≤200) (aa:k≤1000000):
   aM Tryz.prog F.rV #[.pointer (some ⟨d,0,none⟩)] w (fun v J=>∃s:ah,v= .slice s.a s.len s.cap∧cq (fun q=>w.heap.size≤q) J s (lP D)∧aq (fun q=>q=d) w J):=by
 have qQ:∀q,dL D q→q<w.heap.size:=fun q=>h.at_.lt
 obtain ⟨U,rfl,rfl,aK,bH,cg,gO,gP⟩:=h
 refine W.aef _ w _ ?_
 (delta W.rV ab bS au gg av;dsimp only)
 have aE:=qQ _ (.inl rfl)
 have bg:Ext w (w.alloc (.cells #[] ad.bE)):=de _ _
 have qw:aY 1 ad.bE (w.alloc (.cells #[] ad.bE)) ⟨some ⟨w.heap.size,0,none⟩,0,0⟩ []:=aY.new w [] 0 rfl (by decide)
 refine bj ⟨fun s j J=>∃ (i:Nat) (dg:bx),j=(i:Int)∧i≤D.n∧dz J dg∧dg.d=D.d∧dg.n=D.n∧dg.fg=D.fg∧dg.b5.getD 1 0= -1∧(∀q,dL dg q→dL D q)∧(∀q,dg.now q=D.now q)∧cU (fun q=>w.heap.size≤q) J s ((List.range i).map D.now)∧aq (fun q=>q=D.d) w J,fun _ j _=>((D.n:Int)-j).toNat,⟨0,D,rfl,ei _,U.ext bg,rfl,rfl,rfl,bH,fun _ h=>h,fun _=>rfl,⟨[],rfl,qw,fun q ae=>⟨Nat.le_of_eq (jH.1 ae),qw.lt q ae⟩,fun i hi=>(by cases hi)⟩,bg.mono fun _ _ h=>h.elim⟩,?_⟩
 rintro s _ bC ⟨i,dg,rfl,hi,J7,aN,a6,dk,kZ,nt,Rs,vK,mN⟩
 have hlen:=Az J7
 rw[aN] at hlen
 refine hlen.use ?_
 rintro _ _ ⟨rfl,rfl⟩
 have akp:=mN.size
 refine ⟨_,rfl,fun aR=> ?_,fun bF=> ?_⟩
 · simp only[fy,cR] at aR
   have dQ:i<D.n:=by omega
   have mS:=NW J7 (i:=i) (by omega) (by omega)
   rw[aN] at mS
   have lQ:dg.gF 1=false:=by unfold bx.gF hF;rw[kZ];rfl
   refine mS.use ?_
   rintro v bL ⟨aeg,E7,⟨aj,_⟩|⟨_,nW,rfl,bt⟩⟩
   · rw[lQ] at aj;cases aj
   have acK:=E7.size
   have Rt:aq (fun q=>q=D.d) bC bL:=by rw[←aN];exact E7
   have aeh:=vK.aB Rt fun q ae e=>by omega
   have g3:∀q,aH s q→w.heap.size≤q∧q<bC.heap.size:=vK.qF.choose_spec.2.2.2.1
   rw[Rs] at bt
   obtain ⟨fw,cd,aZ,a7,bm,ca⟩:=G3 aeh (eV.cS (C:=fun q=>w.heap.size≤q) bt fun q _ ae=>by omega) (fun q ae jf=>by have:=(bt.2.2 q ae).1;have:=(g3 q jf).2;omega) (by rw[ep,xT];have:=U.cY;omega) (fun q ae=>by omega)
   have:=U.cY
   rw[iD (by omega)]
   refine ⟨nW,0,rfl,bj ⟨fw,cd,aZ,⟨i+1,dg.eP 1,rfl,by omega,aeg.aB bm fun q ae aS=> ?_,aN,a6,dk,?_,fun q ae=>nt q ae,fun q=>(OO dg 1 q).trans (Rs q),by rw[List.range_succ,hT];exact a7,?_⟩,by show ((D.n:Int)-((i+1:Nat):Int)).toNat<((D.n:Int)-((i:Nat):Int)).toNat;omega⟩⟩
   · have:=(g3 q aS).1
     have:=qQ q (nt q ae)
     omega
   · show (dg.b5.set 1 (hF (dg.b5.getD 1 0)).2).getD 1 0= -1
     rw[kZ,dw (by rw[ju,J7.f4];omega),sf];rfl
   · exact eh (mN.trans Rt) bm fun q ae aS=>by have:=(g3 q aS).1;omega
 · simp only[Bool.and_eq_false_iff,fY] at bF
   have nS:i=D.n:=by omega
   subst nS
   exact ⟨s,rfl,vK.qF,mN⟩
theorem aei {w:World} {n:Nat} {l:ah} {A:List m7} (aD:n<256) (an:ti w l A):
   aM Tryz.prog F.w_ #[.int .u8 (n:Nat), .slice l.a l.len l.cap] w (fun v J=>v= .bool true∧Ext w J):=by
 refine W.aej _ l w _ ?_
 (delta W.w_ kB av au aQ az bJ aG Ru gg bS pU iy ab cp qZ cx;dsimp only)
 have l9:Int.tmod (n:Int) 30=((n%30:Nat):Int):=by rw[tJ (by omega)];omega
 have nL:IntKind.wrap .i64 (16+IntKind.wrap .i64 (Int.tmod (n:Int) 30))=((16+n%30:Nat):Int):=by
   rw[l9,b3 (n:=((n%30:Nat):Int)) (by omega) (by omega),b3 (by omega) (by omega)];omega
 rw[nL]
 have Z6:l.len=A.length:=by have:=an.s.len;rw[me _ (Fv A)] at this;omega
 refine ⟨by decide,(oF (n:=16+n%30) (by omega) (by omega) w).use ?_⟩
 rintro _ af ⟨d,aP,dY,rfl,aE,bg,uS⟩
 have fC:p2 w af (oE (16+n%30) d aP dY) d (16+n%30) 0:=⟨aE,rfl,by show (List.replicate (16+n%30) iR).length=_;rw[tH],b6 _,rfl,rfl,uS,bg⟩
 refine ⟨_,0,rfl,fun h=>(by cases h),fun _=>⟨fun j J=>∃ (i:Nat) (D:bx),j=(i:Int)∧i≤60∧p2 w J D d (16+n%30) i,fun j _=>((60:Int)-j).toNat,⟨0,_,rfl,by omega,fC⟩,?_⟩⟩
 rintro _ bR ⟨i,D,rfl,hi,iH⟩
 refine ⟨fun aR=> ?_,fun bF=> ?_⟩
 · simp only[fy,cR] at aR
   have dQ:i<A.length:=by omega
   have j1:=iH.x.trans (c_ bR)
   have J8:=iH.ext (c_ bR)
   obtain ⟨bL,Rv⟩:∃bL,bL=bR.drew:=⟨_,rfl⟩
   rw[←Rv] at j1 J8
   obtain ⟨_,a,aI,ak⟩:=(an.ext j1).at dQ
   have gE:=(an.ext j1).ok _ (dP dQ)
   have aj:(0:Int)≤(i:Int)∧(i:Int)<((l.len:Nat):Int):=⟨by omega,by omega⟩
   have fin:∀J dg,p2 w J dg d (16+n%30) (i+1)→(∃ (hW:Nat) (D:bx),IntKind.wrap .i64 (((i:Nat):Int)+1)=(hW:Int)∧hW≤60∧p2 w J D d (16+n%30) hW)∧((60:Int)-IntKind.wrap .i64 (((i:Nat):Int)+1)).toNat<((60:Int)-((i:Nat):Int)).toNat:=fun J dg h=>by
     rw[iD (by omega)]
     exact ⟨⟨i+1,dg,rfl,by omega,h⟩,by omega⟩
   refine ⟨?_⟩
   rw[←Rv]
   refine bj ⟨fun _=>False,a,aI,aj,id,_,ak 1 _ rfl,a,aI,aj,id,_,ak 2 _ rfl,_,by rw[add_add];exact ak 3 _ rfl,_,by rw[add_add];exact ak 4 _ rfl,(rM gE.b gE.c A[i].kind A[i].gen).use ?_⟩
   rintro _ cj ⟨mx,rfl,U,ag,aA⟩
   refine ⟨_,_,mx,rfl,aA,(rN U (by rw[iv];omega) gE.n gE.g).use ?_⟩
   rintro _ hK ⟨ij,e,rfl,aK,bH,cg⟩
   have rW:=(J8.ext aA).ext cg
   refine ⟨ij,e,rfl,cg,fun he=> ?_,fun he=>fin hK D ⟨rW.at_,rW.d,rW.n,by have:=rW.fg;omega,rW.f1,rW.f2,rW.new,rW.x⟩⟩
   obtain ⟨x,ai,aek⟩:=aK (eq_of_beq he)
   obtain ⟨_,a',kf,mn⟩:=(an.ext rW.x).at dQ
   have nN:=mn 0 _ rfl
   rw[add_zero'] at nN
   refine ⟨a',kf,aj,_,nN,(adq rW (by omega) aek.src ai (fun q ae jf=> ?_) A[i].cl).use ?_⟩
   · have:=bH q ae
     have:=J8.at_.lt jf
     have:=aA.size
     omega
   · rintro _ cz ⟨e,dg,rfl,J9⟩
     exact ⟨e,rfl,fin cz dg J9⟩
 · have EE:¬D.lit D.n:=fun h=>h.1 iH.f1
   have pX:=mX iH.at_ (by have:=iH.fg;omega)
   rw[iH.d] at pX
   refine pX.use ?_
   rintro _ cV ⟨ael,⟨h,_⟩|⟨_,aem,r,aJ,rfl⟩⟩
   · exact absurd h EE
   have J_:p2 w cV (D.rd D.n) d (16+n%30) i:=⟨aem,iH.d,iH.n,iH.fg,by
     show (D.b5.set 1 (if D.b5.getD 1 0= -1 then -1 else D.b5.getD 1 0-D.n)).getD 1 0= -1
     rw[if_pos iH.f1,dw (by rw[ju,iH.at_.f4];omega),sf],by
     show (D.b5.set 1 _).getD 2 0= -1
     rw[iw,List.getElem?_set_ne (by omega),←iw];exact iH.f2,iH.new,Ext.c8 iH.x ael (iH.new d (by rw[←iH.d];exact .inl rfl))⟩
   refine ⟨_,0,rfl,I4 fun eS aen pV=> ?_⟩
   have bN:=c_ eS
   have BF:=(J_.ext pV).ext bN
   have Rw:=aen.ext bN
   obtain ⟨eY,aeo⟩:∃eY,eY=eS.drew:=⟨_,rfl⟩
   rw[←aeo] at BF Rw⊢
   have akq:d<cV.heap.size:=J_.at_.lt (by rw[←J_.d];exact .inl rfl)
   refine bj ⟨fun q=>q=d,by show¬cV.heap.size=d;omega,r.c,Rw.rd rfl,(rV BF (by omega) (by omega)).use ?_⟩
   rintro _ eX ⟨oZ,rfl,bt,Rx⟩
   have aep:lP (D.rd D.n)=lP D:=rfl
   rw[aep] at bt
   refine ⟨oZ,rfl,Rx,(rP bt (fun x ai=> ?_) (by rw[EV,iH.n];omega)).use ?_⟩
   · obtain ⟨j,bu,rfl⟩:=gl.1 ai
     exact iH.at_.Ay (qp.1 bu)
   rintro _ gz ⟨b1,rfl,g2,yx⟩
   have Ka:=aJ.uniq g2
   subst Ka
   refine ⟨_,rfl,yx.mono fun _ _ h=>h.elim,_,ab9 r r,mq true (fun _ k aa=>(ace gz).use fun v mv ao=>by obtain ⟨rfl,Fa⟩:=ao;exact ⟨_,rfl,aa _ Fa⟩) fun iT aeq=> ?_⟩
   refine ⟨by rw[gu rfl];rfl,?_⟩
   exact ((Ext.c8 BF.x Rx (BF.new d (by rw[←BF.d];exact .inl rfl))).trans yx).trans aeq
end
end
end Go.Proofs.YtmhhgpogjpbglaaGreat
