/- Contracts of the functions that the statement reaches, and the plain laws over them; each theorem stands with its conditions. -/
import Derived.Test.YtplieiecebljmaaGreatBMany1
namespace Go.Proofs.YtplieiecebljmaaGreat
open Go b6
section
def oa:aL:=⟨false,[],[],[]⟩
def bP:ad:=⟨none,0,0⟩
def PX (leaf:Bool) (l:List UInt8) (w w':World) (v:Value):Prop:=
 (∃ (n:aL) (K V D:ad),v= .tuple #[eC n K V D, .int .i64 0]∧wT leaf l n∧b4 (fun q=>w.heap.size≤q) w' n K V D)∨
 (v= .tuple #[eC oa bP bP bP, .int .i64 4]∧∀n,¬wT leaf l n)
theorem qm {w':World} {h:Nat} {vs:List Value} (b:Bool) (K V D:ad) (ak:Var w' h vs ai.cD) (aA:vs.length=4) {Q:Bool→ad→ad→ad→World→Prop} (w8:∀aw,aq (fun q=>q=h) w' aw→Q b K V D aw):
   cN w' ⟨h,0,none⟩ [.bool b, .slice K.a K.len K.cap, .slice V.a V.len V.cap, .slice D.a D.len D.cap]∧(4:Nat)=4∧az (setCells w' ⟨h,0,none⟩ 0 [.bool b, .slice K.a K.len K.cap, .slice V.a V.len V.cap, .slice D.a D.len D.cap]) fun aw=>
     ∃ek:Bool,aw.cell? ⟨h,0,none⟩=some (.bool ek)∧∃cC:ad,aw.cell? (Addr.add ⟨h,0,none⟩ 1)=some (.slice cC.a cC.len cC.cap)∧∃b7:ad,aw.cell? (Addr.add ⟨h,0,none⟩ 2)=some (.slice b7.a b7.len b7.cap)∧
       ∃c3:ad,aw.cell? (Addr.add ⟨h,0,none⟩ 3)=some (.slice c3.a c3.len c3.cap)∧Q ek cC b7 c3 aw:=by
 refine ⟨ak.de (by rw[aA];rfl) ?_,rfl,dW ak (us:=[.bool b, .slice K.a K.len K.cap, .slice V.a V.len V.cap, .slice D.a D.len D.cap]) (by rw[aA];rfl) rfl fun aw f_ al _=> ?_⟩
 · intro v ak
   simp only[fP,mL,mM] at ak
   rcases ak with rfl|rfl|rfl|rfl<;>trivial
 · obtain ⟨cy,aS,bA,aZ⟩:=b9 f_
   exact ⟨b,cy,K,aS,V,bA,D,aZ,w8 aw al⟩
theorem vf {w:World} {s:ad} {l:List UInt8} (aj:Src 1 w s (bm l)) (al:s.len≤s.cap) (eQ:∀k,aP s k→k<w.heap.size) (aA:l.length≤100000) (leaf:Bool):
   aR Tryz.prog F.vf #[.bool leaf, .slice s.a s.len s.cap] w (fun v w'=>PX leaf l w w' v∧Ext w w'):=by
 refine W.afZ leaf s w _ ?_
 (delta W.vf c8 ah aS aE PY ar st en ay bJ fK aZ Ik;dsimp only)
 refine cq (vs:=[.bool false, .slice none 0 0, .slice none 0 0, .slice none 0 0]) rfl fun ag n4 bH km=> ?_
 refine cq (vs:=[.slice s.a s.len s.cap, .bool true]) rfl fun aw fz cB me=> ?_
 refine cq (vs:=[.bool false, .slice none 0 0, .slice none 0 0, .slice none 0 0]) rfl fun bc pN eZ rF=> ?_
 refine ⟨pN.de rfl (by
   intro v ak
   simp only[fP,mL,mM] at ak
   rcases ak with rfl|rfl|rfl|rfl<;>trivial),rfl,dW pN (us:=[.bool leaf, .slice none 0 0, .slice none 0 0, .slice none 0 0]) rfl rfl fun bz PR w4 Il=> ?_⟩
 obtain ⟨lo,oz⟩:∃lo,lo=bz.heap.size:=⟨_,rfl⟩
 obtain ⟨r,aQ⟩:∃r,r=ag.heap.size:=⟨_,rfl⟩
 obtain ⟨bB,kC⟩:∃bB,bB=aw.heap.size:=⟨_,rfl⟩
 have sB:Ext w bz:=Ext.eX (bH.trans (cB.trans eZ)) w4 (by omega)
 have L8:qX bz ag.heap.size s (l,true):=by
   refine ⟨(fz.ext eZ).an w4 (by omega),(aj.ext (bH.trans (cB.trans eZ))).an w4 fun k ae e=> ?_,al,fun k ae=> ?_⟩
   · have:=eQ k ae;omega
   · have:=eQ k ae;omega
 refine (PU L8 1 (by decide) aA).use ?_
 rintro _ bT ⟨b7,rfl,af0,kU,wY⟩
 have jl:(rdNum (l,true) 1).1<256:=PV _ 1
 have PZ:=kU.size
 have V9:sD lo bT r bB b7 (⟨leaf,[],[],[]⟩,(rdNum (l,true) 1).2) bP bP bP (fun _=>False) (fun _=>False) (fun _=>False):=by
   refine ⟨by rw[kC];exact PR.an kU (by omega),by rw[aQ];exact af0,bV.none _ _,bV.none _ _,dY.none _ _,fun q h=>h.elim,fun q h=>h.elim,fun q h=>h.elim,fun q J=> ?_,by omega,by omega,by omega,j5 (L5 _ 1) aA⟩
   have:=eQ q (wY q J)
   exact ⟨by omega,by omega⟩
 have V_:aq (Dz lo r bB) bz bT:=kU.mono fun k _ ae=> .inl (by omega)
 rw[←aQ,←kC]
 refine ⟨_,rfl,w9 (fun w'=>∃ (au D:ad) (cf:Nat→Prop),sD lo w' r bB au (yz leaf (rdNum (l,true) 1).2) bP bP D (fun _=>False) (fun _=>False) cf∧aq (Dz lo r bB) bz w'∧lo≤w'.heap.size) (fun q J=>⟨fun c0=> ?_,fun c0=>J _ ⟨b7,bP,fun _=>False,?_,V_,by omega⟩⟩) ?_⟩
 · have c0:leaf=false:=by simpa using c0
   subst c0
   refine V8 V9 (by omega) (by simp) fun w' aM au PW U ab ao=>J _ ⟨au,aM,PW,?_,V_.trans ab,ao⟩
   have:yz false (rdNum (l,true) 1).2=(⟨false,[],[],[]++ [(rdNum (rdNum (l,true) 1).2 2).1]⟩,(rdNum (rdNum (l,true) 1).2 2).2):=by simp[yz]
   rw[this];exact U
 · have c0:leaf=true:=by simpa using c0
   subst c0
   exact V9
 rintro bd ⟨c3,af1,af2,Wa,pK,af3⟩
 obtain ⟨oK,DB⟩:∃oK,oK=yz leaf (rdNum (l,true) 1).2:=⟨_,rfl⟩
 rw[←DB] at Wa
 have af4:oK.1.leaf=leaf:=by rw[DB];unfold yz;cases leaf<;>rfl
 have arE:oK.1.keys.length=0∧oK.1.vals.length≤1∧oK.1.kids.length≤1:=by rw[DB];unfold yz;cases leaf<;>simp
 refine ⟨fun i w'=>∃ (j:Nat) (au K V D:ad) (cr cI cf:Nat→Prop),i=j∧j≤(rdNum (l,true) 1).1∧sD lo w' r bB au (o9 oK j) K V D cr cI cf∧aq (Dz lo r bB) bz w'∧lo≤w'.heap.size,fun i _=>(((rdNum (l,true) 1).1:Int)-i).toNat,⟨0,c3,bP,bP,af1,_,_,af2,rfl,fy _,Wa,pK,af3⟩,?_⟩
 rintro _ bt ⟨j,gY,K,V,D,cr,cI,cf,rfl,aU,vg,pP,af5⟩
 obtain ⟨pF,pG,u7⟩:=V7 oK j
 have FM:=V6 oK j af4
 refine ⟨fun a_=> ?_,fun cn=> ?_⟩
 · have a_:j<(rdNum (l,true) 1).1:=by have:=di a_;omega
   rw[ct (n:=(j:Int)+1) (by omega) (by omega)]
   refine w9 (fun w'=>∃ (au K V D:ad) (cr cI cf:Nat→Prop),sD lo w' r bB au (o9 oK (j+1)) K V D cr cI cf∧aq (Dz lo r bB) bz w'∧lo≤w'.heap.size) (fun q J=> ?_) ?_
   · refine afX vg af5 (by omega) fun bC L9 dQ L_ Ma A2 Mb=>⟨fun c0=> ?_,fun c0=> ?_⟩
     · refine afY Ma Mb (by show (o9 oK j).1.vals.length≤_;omega) fun bY af6 eK af7 Im gw Io=>J _ ⟨eK,L9,af6,D,L_,af7,cf,?_,pP.trans (A2.trans gw),Io⟩
       rw[o9]
       unfold Dq
       rw[FM,c0,if_pos rfl]
       rw[FM,c0] at Im
       exact Im
     · refine V8 Ma Mb (by show (o9 oK j).1.kids.length≤_;omega) fun bY af8 eK af9 Im gw Io=>J _ ⟨eK,L9,V,af8,L_,cI,af9,?_,pP.trans (A2.trans gw),Io⟩
       rw[o9]
       unfold Dq
       rw[FM,c0,if_neg (by simp)]
       rw[FM,c0] at Im
       exact Im
   · rintro bC ⟨dQ,L9,af_,aga,L_,agb,agc,Ma,A2,Mb⟩
     refine ⟨⟨j+1,dQ,L9,af_,aga,L_,agb,agc,by omega,by omega,Ma,A2,Mb⟩,?_⟩
     show (((rdNum (l,true) 1).1:Int)-((j:Int)+1)).toNat<(((rdNum (l,true) 1).1:Int)-(j:Int)).toNat
     omega
 · have cn:j=(rdNum (l,true) 1).1:=by have:=eB cn;omega
   have yD:o9 oK j=pH leaf l:=by rw[cn,DB];rfl
   rw[yD] at vg pF pG u7 FM
   obtain ⟨cy,aS,bA,aZ⟩:=b9 vg.v
   have gC:b4 (fun q=>lo≤q) bt (pH leaf l).1 K V D:=⟨bO.bx (bV.pM vg.keys) fun q _ J=>(vg.bK q J).1,bO.bx (bV.pM vg.vals) fun q _ J=>(vg.bv q J).1,dJ.bx (dY.FI vg.kids) fun q _ J=>(vg.aX q J).1⟩
   have tN:Ext w bt:=Ext.gf sB pP fun k ae=>by
     rcases ae with ae|ae|ae<;>omega
   refine ⟨_,cy,K,aS,V,bA,D,aZ,(tV gC (by omega) (by omega) (by omega)).use ?_⟩
   rintro P0 bC ⟨iO,fF⟩
   have AW:=tN.trans fF
   have P1:=vg.v.ext fF
   have agd:=vg.rd.ext fF
   have DC:Var bC w.heap.size [.bool false, .slice none 0 0, .slice none 0 0, .slice none 0 0] ai.cD:=by
     refine (Var.an (w:=bz) ?_ pP ?_).ext fF
     · exact (((n4.ext cB).ext eZ).an w4 (by omega))
     · rintro (ae|ae|ae)<;>omega
   have age:=gC.ext fF
   obtain ⟨d0,d1,d2,d3⟩:=b9 P1
   have vh:∃ (A3:ad) (e:Int),P0=Value.tuple #[.slice A3.a A3.len A3.cap, .int .i64 e]∧(e=0→bU 1 ai.uint8 bC A3 (bm (qU (pH leaf l).1))∧dC (pH leaf l).1∧cd (pH leaf l).1≤232)∧(e≠0→dC (pH leaf l).1→232<cd (pH leaf l).1):=by
     rcases iO with ⟨A3,rfl,U,ab,ao,aG⟩|⟨e,rfl,U,ab⟩
     · exact ⟨A3,0,rfl,fun _=>⟨U,ao,aG⟩,fun h=>absurd rfl h⟩
     · exact ⟨bP,e,rfl,fun h=>absurd h U,fun _=>ab⟩
   obtain ⟨A3,e,rfl,agf,Wb⟩:=vh
   have agh:Src 1 bC s (bm l):=aj.ext AW
   have Wc:∀n,wT leaf l n→pH leaf l=(n,([],true)):=by
     rintro n ⟨U,ab,ao,aG⟩
     have:=PB U ao
     rw[ab,aG] at this
     exact this
   refine ⟨A3,e,rfl,_,rfl,(pH leaf l).2.2,by rw[bn];exact agd.v.cell,eI (fun b w'=>bC=w'∧(b=true→∀n,¬wT leaf l n)∧(b=false→wT leaf l (pH leaf l).1)) (fun q J=>⟨fun U=>J _ _ ⟨rfl,fun _ n aD=> ?_,fun h=>(by cases h)⟩,fun U=> ?_⟩) ?_⟩
   · have hu:=Wc n aD
     obtain ⟨ab,ao,aG,aV⟩:=aD
     rw[hu] at U Wb
     have U:(e !=0)=true:=by simpa using U
     have qn:232<cd n:=Wb (by simpa using U) ab
     omega
   · have agi:(pH leaf l).2.2=true∧e=0:=by
       simp only[Ll,Bool.not_eq_false',bne_eq_false_iff_eq] at U
       exact U
     obtain ⟨ab,rfl⟩:=agi
     obtain ⟨ao,aG,aV⟩:=agf rfl
     refine (w5 ao.src agh).use ?_
     rintro _ _ ⟨rfl,rfl⟩
     refine ⟨_,rfl,J _ _ ⟨rfl,fun b_ n aD=> ?_,fun b_=> ?_⟩⟩
     · have hu:=Wc n aD
       have b_:¬qU (pH leaf l).1=l:=by simpa using b_
       rw[hu] at b_
       exact b_ aD.2.2.2
     · have b_:qU (pH leaf l).1=l:=by simpa using b_
       exact ⟨aG,FM,aV,b_⟩
   rintro b w' ⟨rfl,aC,aF⟩
   refine ⟨fun aa=> ?_,fun aa=>⟨_,d0,K,d1,V,d2,D,d3,?_⟩⟩
   · refine qm false bP bP bP DC rfl (Q:=fun b K V D aw=>(fun v w'=>PX leaf l w w' v∧Ext w w') (.tuple #[.agg #[.bool b, .slice K.a K.len K.cap, .slice V.a V.len V.cap, .slice D.a D.len D.cap], .int .i64 4]) aw) fun bY gw=>⟨.inr ⟨rfl,aC aa⟩,Ext.eX AW gw (cU _)⟩
   · refine qm (pH leaf l).1.leaf K V D DC rfl (Q:=fun b K V D aw=>(fun v w'=>PX leaf l w w' v∧Ext w w') (.tuple #[.agg #[.bool b, .slice K.a K.len K.cap, .slice V.a V.len V.cap, .slice D.a D.len D.cap], .int .i64 0]) aw) fun bY gw=>⟨.inl ⟨(pH leaf l).1,K,V,D,rfl,aF aa,?_⟩,Ext.eX AW gw (cU _)⟩
     exact (age.an gw fun k ae e=>by omega).bx fun k _ ae=>by omega
end
section
theorem agj {s v:ad} {vs xs:List Value} {i yP:Nat} {Ip:Array Value} {Wd:TypeId} {w:World} (bR:bU 1 ai.cG w s vs) (ak:Src 1 w v xs) (j7:v.len=1) (We:v.a=some ⟨yP,0,none⟩) (Iq:ck w yP Ip Wd) (dI:¬aP s yP)
   (wX:∀u∈xs,Plain u) (P2:∀u∈vs,Plain u) (hi:i≤s.len) (aD:s.len≤1000000):
   aR Tryz.prog F.w_ #[.slice s.a s.len s.cap, .int .i64 (i:Int), .slice v.a v.len v.cap] w (fun u w'=>∃au:ad,u= .slice au.a au.len au.cap∧bU 1 ai.cG w' au (vs.take (i*1)++xs++vs.drop (i*1))∧au.len=s.len+1∧aq (aP s) w w'∧(∀k,aP au k→aP s k∨w.heap.size≤k)):=by
 obtain ⟨U,i0,z0,ab,ao,aG,aV,b_,hY,ng⟩:=(FJ).out
 obtain ⟨d0,qg⟩:=sF _ ao
 refine W.agk s i v w _ ?_
 (delta W.w_ aE ay bA;dsimp only)
 have agl:=bR.2.1
 have Mc:=bR.2.2.1
 have agm:maxLen=9223372036854775807:=rfl
 have vi:xs.length=1:=by have:=ak.len;rw[j7] at this;omega
 have FN:=bR.1
 refine ⟨⟨by omega,by omega⟩,fun h=>by rw[j7] at h;simp at h,fun _=>⟨fun h=> ?_,fun h=> ?_⟩⟩
 · have e2:i=s.len:=by have:=eq_of_beq h;omega
   subst e2
   obtain ⟨au,w',aC,aF,aH,aN,cV⟩:=(FJ).append (gX:=ai.cz) ak bR wX (by rw[j7];omega)
   refine ⟨au,w',aC,au,rfl,?_,by rw[aH,j7],aN,cV⟩
   rwa[gV (by omega),List.drop_of_length_le (by omega),lM]
 have a_:i<s.len:=by
   have h:¬((i:Int)=(s.len:Int)):=fun e=>by rw[e] at h;simp at h
   omega
 rcases bR.2.2.2 with ⟨_,al⟩|⟨b,c,aa,il,eY,j8⟩
 · omega
 have A4:b≠yP:=fun e=>dI ⟨_,aa,e⟩
 have aW:IntKind.wrap .i64 (((s.len:Nat):Int)+((v.len:Nat):Int))=((s.len+1:Nat):Int):=by rw[j7,ct (by omega) (by omega)];rfl
 have bq:IntKind.wrap .i64 ((i:Int)+((v.len:Nat):Int))=((i+1:Nat):Int):=by rw[j7,ct (by omega) (by omega)];rfl
 have ec:IntKind.wrap .i64 (((s.len+1:Nat):Int)-(i:Int))=((s.len+1-i:Nat):Int):=by rw[ct (by omega) (by omega)];omega
 have AL:c.toList.length=s.cap*1:=by simpa using eY
 have kD:∀k,k≤s.len→vs.take (k*1)=c.toList.take (k*1):=fun k ae=>by rw[←j8,HO,sr (by omega)]
 have sG:vs.drop (i*1)=(c.toList.drop (i*1)).take ((s.len-i)*1):=by rw[←j8,List.drop_take,show s.len*1-i*1=(s.len-i)*1 by omega]
 have Md:∀u∈vs.drop (i*1),Plain u:=fun u hu=>P2 u (jC hu)
 have kz:(vs.drop (i*1)).length=(s.len-i)*1:=by rw[fx,FN];omega
 have Ir:∀ (Me o l m:Nat),l<m→bf (some (Addr.mk Me o none)) 1 l m=some ⟨Me,o+l*1,none⟩:=fun Me o l m arF=>LW (by omega)
 simp only[aW,bq,ec,g6,Fj,Wf]
 refine ⟨fun bg=> ?_,fun bg=> ?_⟩
 · have xa:s.cap<s.len+1:=by have:=di bg;omega
   have lR:Src 1 w ⟨some ⟨b,0,none⟩,i,s.cap⟩ (vs.take (i*1)):=by
     have:=il.Is (sz:=1) (o:=0) (n:=i) (cap:=s.cap) (by omega)
     rw[C7] at this
     rwa[kD i (by omega)]
   obtain ⟨iZ,zs,rest,aC,aF,aH,aN,cV⟩:=agn (P:=Tryz.prog) (mB:= #[ai.cz,ai.int]) (gX:=ai.cz) (tW:=ai.int) (k:= .i64) (s:=⟨some ⟨b,0,none⟩,i,s.cap⟩) (n:=s.len+1-i) rfl rfl U (by kernel_rfl) ab ao aG aV b_ (by rw[hY];exact ng) lR (by show s.cap<i+_;omega) (by rw[hY];show (2*(i+_)+1000)*_≤_;omega)
   have ago:i+(s.len+1-i)=s.len+1:=by omega
   simp only[ago] at aC aN cV
   obtain ⟨C,kE⟩:∃C,C=(vs.take (i*1)++zs++rest).toArray:=⟨_,rfl⟩
   rw[←kE] at cV
   obtain ⟨bz,FF⟩:∃bz,bz=w.drew.alloc (.cells C ai.cG):=⟨_,rfl⟩
   rw[←FF] at cV
   have Wg:ck bz w.heap.size C ai.cG:=by rw[FF];exact ck.new w.drew _ _
   have fu:Ext w bz:=by rw[FF];exact aq.alloc (aq.drew (.refl _ _)) _
   have mO:(vs.take (i*1)).length=i*1:=by rw[eA,FN];omega
   have Wh:C.size=iZ*1:=by rw[kE];simp[mO,aH,aN];omega
   have arG:C.toList.length=iZ*1:=by simpa using Wh
   have It:=Mf (P:=Tryz.prog) (yy:=ai.cz) (hM:=ai.cz) (ty:=ai.int) (A:=⟨w.heap.size,0+i*1,none⟩) (dl:=s.len+1-i) (Dm:=iZ-i) (n:=1) U qg b_ (x:=v) (by rw[j7];exact sr (by omega)) (xs:=xs) (by have:=ak.ext fu;have e:(⟨v.a,1,v.cap⟩:ad)=v:=(by rw[←j7]);rw[e];exact this) (by rw[gd];exact Wg.de _ _ (by omega) wX)
   obtain ⟨bd,DD⟩:∃bd,bd=setCells bz ⟨w.heap.size,0+i*1,none⟩ 0 xs:=⟨_,rfl⟩
   rw[←DD] at It
   have iu:ck bd w.heap.size (nD C (i*1) xs) ai.cG:=by rw[DD,gd];exact Wg.AT xs
   have jG:Ext w bd:=by rw[DD];exact Ext.gf fu (aq.yx (.refl _ _) xs 0) (fun k ae=>by subst ae;exact cU _)
   have agp:Ext bd bd.drew:=aq.drew (.refl _ _)
   have fe:=Ext.trans jG agp
   have P3:=Mf (P:=Tryz.prog) (w:=bd.drew) (yy:=ai.cz) (hM:=ai.cz) (ty:=ai.int) (A:=⟨w.heap.size,0+(i+1)*1,none⟩) (dl:=s.len+1-(i+1)) (Dm:=iZ-(i+1)) (n:=s.len-i) U qg b_ (x:=⟨some ⟨b,0+i*1,none⟩,s.len-i,s.cap-i⟩) (sr (by show s.len-i≤_;omega)) (xs:=vs.drop (i*1))
     (by have:=(il.ext fe).Is (sz:=1) (o:=i*1) (n:=s.len-i) (cap:=s.cap-i) (by omega);rw[sG,gd];exact this) (by rw[gd];exact ck.de (ck.drew iu) _ _ (by rw[qi];omega) Md)
   have Mg:bf (some (Addr.mk w.heap.size 0 none)) 1 i iZ=some ⟨w.heap.size,0+i*1,none⟩:=Ir _ _ _ _ (by omega)
   have Mh:bf (some (Addr.mk w.heap.size 0 none)) 1 (i+1) iZ=some ⟨w.heap.size,0+(i+1)*1,none⟩:=Ir _ _ _ _ (by omega)
   have agq:bf s.a 1 i s.cap=some ⟨b,0+i*1,none⟩:=by rw[aa];exact Ir _ _ _ _ (by omega)
   have agr:Sem.run Tryz.prog (Builtin.append_ #[ai.cz,ai.int] ai.cz #[.slice s.a i s.cap, .int .i64 ((s.len+1-i:Nat):Int)]) w= .ok (.slice (some ⟨w.heap.size,0,none⟩) (s.len+1) iZ) bz:=by rw[aa];exact cV
   refine ⟨⟨by omega,by omega⟩,⟨some ⟨w.heap.size,0,none⟩,s.len+1,iZ⟩,bz,agr,⟨by omega,by show (i:Int)≤((s.len+1:Nat):Int);omega⟩,_,bd,by rw[Mg];exact It,bW ⟨⟨by omega,by show ((i+1:Nat):Int)≤((s.len+1:Nat):Int);omega⟩,⟨by omega,by omega⟩,_,_,by rw[Mh,agq];exact P3,⟨some ⟨w.heap.size,0,none⟩,s.len+1,iZ⟩,rfl,?_,rfl,?_,?_⟩⟩
   · refine bU.mk' ((ck.drew iu).AT (o:=0+(i+1)*1) _) (by simp[mO,vi,kz];omega) (by omega) (by omega) (by rw[qi,qi,Wh]) ?_
     rw[yC _ _ _ (by rw[qi];omega),yC _ _ _ (by omega)]
     have t1:C.toList.take (i*1)=vs.take (i*1):=by rw[kE,HS,d_];exact List.take_left' mO
     have t2:(C.toList.take (i*1)++xs++C.toList.drop (i*1+xs.length)).take (0+(i+1)*1)=vs.take (i*1)++xs:=by
       rw[t1,Fk (by simp[mO,vi];omega),gV (by simp[mO,vi];omega)]
     rw[t2,Fk (by simp[mO,vi,kz];omega),gV (by simp[mO,vi,kz];omega)]
   · exact aq.e0 (Ext.gf fe (aq.yx (.refl _ _) _ 0) (fun k ae=>by subst ae;exact cU _))
   · rintro k ⟨A,ax,ae⟩
     cases ax
     exact .inr (Nat.le_of_eq ae)
 · have hle:s.len+1≤s.cap:=by have:=eB bg;omega
   have Mg:bf s.a 1 (i+1) s.cap=some ⟨b,0+(i+1)*1,none⟩:=by rw[aa];exact Ir _ _ _ _ (by omega)
   have Mh:bf s.a 1 i s.cap=some ⟨b,0+i*1,none⟩:=by rw[aa];exact Ir _ _ _ _ (by omega)
   have yM:Sem.run Tryz.prog (callFunc F.Wi #[.slice v.a v.len v.cap, .slice (some ⟨b,0+(i+1)*1,none⟩) (s.len+1-(i+1)) (s.cap-(i+1))]) w= .ok (.value (.bool false)) w:=by
     rw[We,run_callFunc_extern (e:=Extern.SlicesOverlaps.overlaps #[ai.cz,ai.cz] #[ai.bool]) Tryz.func160 (by kernel_rfl) (by kernel_rfl) (by kernel_rfl) (by kernel_rfl)]
     have:=Lib.run_overlaps_apart (P:=Tryz.prog) w ai.cz ai.bool ai.cG U 1 (fun w=>by have:=pD (w:=w) qg;rwa[b_] at this) ⟨yP,0,none⟩ ⟨b,0+(i+1)*1,none⟩ v.len v.cap (s.len+1-(i+1)) (s.cap-(i+1)) (fun e=>A4 e.symm) Wd ai.cG Ip.size c.size
       (by have:=Iq;unfold ck at this;simp[World.shape?,this]) (by have:=il;unfold ck at this;simp[World.shape?,this]) (by omega) (Iq.frozen _ rfl) (Iq.frozen _ rfl)
     rw[this];rfl
   have It:=Mf (P:=Tryz.prog) (w:=w.drew) (yy:=ai.cz) (hM:=ai.cz) (ty:=ai.int) (A:=⟨b,0+(i+1)*1,none⟩) (dl:=s.len+1-(i+1)) (Dm:=s.cap-(i+1)) (n:=s.len-i) U qg b_ (x:=⟨some ⟨b,0+i*1,none⟩,s.len+1-i,s.cap-i⟩) ((Nat.min_eq_right (by show _≤s.len+1-i;omega)).trans (by omega)) (xs:=vs.drop (i*1))
     (by have:=(ck.drew il).Is (sz:=1) (o:=i*1) (n:=s.len-i) (cap:=s.cap-i) (by omega);rw[sG,gd];exact this) (by rw[gd];exact ck.de (ck.drew il) _ _ (by omega) Md)
   obtain ⟨bc,nF⟩:∃bc,bc=setCells w.drew ⟨b,0+(i+1)*1,none⟩ 0 (vs.drop (i*1)):=⟨_,rfl⟩
   rw[←nF] at It
   have Iu:ck bc b (nD c ((i+1)*1) (vs.drop (i*1))) ai.cG:=by rw[nF,gd];exact (ck.drew il).AT _
   have jo:aq (aP s) w bc:=by
     rw[nF]
     exact aq.mono (W:=fun q=>q=b) (aq.yx (aq.drew (.refl _ _)) _ 0) (fun k _ ae=>⟨_,aa,ae.symm⟩)
   have mj:Src 1 bc v xs:=ak.an jo (fun k ae dj=>by obtain ⟨A,ax,rfl⟩:=ae;rw[We] at ax;cases ax;exact dI dj)
   have P3:=Mf (P:=Tryz.prog) (w:=bc) (yy:=ai.cz) (hM:=ai.cz) (ty:=ai.int) (A:=⟨b,0+i*1,none⟩) (dl:=s.len+1-i) (Dm:=s.cap-i) (n:=1) U qg b_ (x:=v) (by rw[j7];exact sr (by omega)) (xs:=xs) (by have e:(⟨v.a,1,v.cap⟩:ad)=v:=(by rw[←j7]);rw[e];exact mj) (by rw[gd];exact Iu.de _ _ (by rw[qi];omega) wX)
   refine ⟨⟨by omega,by omega⟩,⟨by omega,by omega⟩,false,w,by rw[Mg];exact yM,fun _=>bW ⟨⟨by omega,by omega⟩,⟨by omega,by omega⟩,_,bc,by rw[Mg,Mh];exact It,⟨by omega,by omega⟩,_,_,by rw[Mh];exact P3,⟨s.a,s.len+1,s.cap⟩,rfl,?_,rfl,?_,fun k ae=> .inl ae⟩,fun h=>by simp at h⟩
   · have vj:bU 1 ai.cG (setCells bc ⟨b,0+i*1,none⟩ 0 xs) ⟨some ⟨b,0,none⟩,s.len+1,s.cap⟩ (vs.take (i*1)++xs++vs.drop (i*1)):=by
       have mO:(vs.take (i*1)).length=i*1:=by rw[eA,FN];omega
       refine bU.mk' (Iu.AT (o:=0+i*1) _) (by simp[mO,vi,kz];omega) (by omega) (by omega) (by rw[qi,qi,eY]) ?_
       rw[yC _ _ _ (by rw[qi];omega),yC _ _ _ (by omega)]
       have t1:(c.toList.take ((i+1)*1)++vs.drop (i*1)++c.toList.drop ((i+1)*1+(vs.drop (i*1)).length)).take (0+i*1)=vs.take (i*1):=by
         rw[gd,Fk (by simp[kz];omega),Fk (by simp;omega),HO,kD i (by omega),sr (by omega)]
       have t2:(c.toList.take ((i+1)*1)++vs.drop (i*1)++c.toList.drop ((i+1)*1+(vs.drop (i*1)).length)).drop (0+i*1+xs.length)=vs.drop (i*1)++c.toList.drop ((i+1)*1+(vs.drop (i*1)).length):=by
         have aA:(c.toList.take ((i+1)*1)).length=0+i*1+xs.length:=by simp;omega
         rw[d_,←aA,List.drop_left]
       rw[t1,t2,←d_,Fk (by simp[mO,vi,kz];omega),gV (by simp[mO,vi,kz];omega)]
     rw[←aa] at vj
     exact vj
   · exact jo.trans (aq.mono (W:=fun q=>q=b) (aq.yx (.refl _ _) _ 0) (fun k _ ae=>⟨_,aa,ae.symm⟩))
theorem ags {s:ad} {vs:List Value} {i:Nat} {w:World} (bR:bU 1 ai.cG w s vs) (P2:∀u∈vs,Plain u) (agt:∀z,(Tryz.prog.info? ai.cG).bind (·.zero)=some z→∀u∈z.cells.toList,Plain u) (hi:i<s.len) (aD:s.len≤1000000):
   aR Tryz.prog F.xb #[.slice s.a s.len s.cap, .int .i64 (i:Int), .int .i64 ((i+1:Nat):Int)] w (fun u w'=>∃au:ad,u= .slice au.a au.len au.cap∧bU 1 ai.cG w' au (vs.take (i*1)++vs.drop ((i+1)*1))∧au.len=s.len-1∧au.a=s.a∧aq (aP s) w w'):=by
 obtain ⟨U,i0,z0,ab,ao,aG,aV,b_,hY,ng⟩:=(FJ).out
 obtain ⟨d0,qg⟩:=sF _ ao
 refine W.agu s i ((i+1:Nat):Int) w _ ?_
 (delta W.xb aE g8;dsimp only)
 have agl:=bR.2.1
 have Mc:=bR.2.2.1
 have FN:=bR.1
 rcases bR.2.2.2 with ⟨_,al⟩|⟨b,c,aa,il,eY,j8⟩
 · omega
 have AL:c.toList.length=s.cap*1:=by simpa using eY
 simp only[g6,Fj,Wf]
 have sG:vs.drop ((i+1)*1)=(c.toList.drop ((i+1)*1)).take ((s.len-(i+1))*1):=by rw[←j8,List.drop_take,show s.len*1-(i+1)*1=(s.len-(i+1))*1 by omega]
 have kz:(vs.drop ((i+1)*1)).length=(s.len-(i+1))*1:=by rw[fx,FN];omega
 have kD:vs.take (i*1)=c.toList.take (i*1):=by rw[←j8,HO,sr (by omega)]
 have mO:(vs.take (i*1)).length=i*1:=by rw[eA,FN];omega
 have Md:∀u∈vs.drop ((i+1)*1),Plain u:=fun u hu=>P2 u (jC hu)
 have P4:ck w.drew b c ai.cG:=ck.drew il
 have lR:Src 1 w.drew ⟨bf s.a 1 (i+1) s.cap,s.len-(i+1),s.cap-(i+1)⟩ (vs.drop ((i+1)*1)):=by
   by_cases he:i+1=s.cap
   · have gB:s.len-(i+1)=0:=by omega
     refine ⟨by rw[kz],fun _=>yn.1 (by rw[kz,gB,Nat.zero_mul]),fun a _=> ?_⟩
     have:vs.drop ((i+1)*1)=[]:=yn.1 (by rw[kz,gB,Nat.zero_mul])
     rw[this]
     show eE _ _ 0 ((s.len-(i+1))*1)=_
     rw[gB,Nat.zero_mul];rfl
   · rw[aa,LW (by omega),sG,gd]
     exact P4.Is (by omega)
 have Iv:=P5 (P:=Tryz.prog) (mB:= #[ai.cz,ai.cz]) (gX:=ai.cz) (s:=⟨s.a,i,s.cap⟩) rfl rfl U U qg b_ lR (by show i+(s.len-(i+1))≤s.cap;omega) (fun a aT=>by
   have aT:s.a=some a:=aT
   rw[aa] at aT;cases aT
   rw[bn,gd]
   exact P4.de _ _ (by show i*1+_≤_;omega) Md)
 have xc:i+(s.len-(i+1))=s.len-1:=by omega
 simp only[aa,bn,gd,xc] at Iv
 obtain ⟨bc,nF⟩:∃bc,bc=setCells w.drew ⟨b,i*1,none⟩ 0 (vs.drop ((i+1)*1)):=⟨_,rfl⟩
 rw[←nF] at Iv
 have Iu:ck bc b (nD c (i*1) (vs.drop ((i+1)*1))) ai.cG:=by rw[nF];exact P4.AT _
 have jo:aq (aP s) w bc:=by
   rw[nF]
   exact aq.mono (W:=fun q=>q=b) (aq.yx (aq.drew (.refl _ _)) _ 0) (fun k _ ae=>⟨_,aa,ae.symm⟩)
 obtain ⟨zs,A5,agv⟩:=agw (P:=Tryz.prog) (w:=bc) (T:=ai.cz) (o:=ai.t) (n:=1) (c:=s.cap-(s.len-1)) (A:=⟨b,(s.len-1)*1,none⟩) U ab aG aV (by decide) (fun zs vk=>by
   refine Iu.de _ _ (by rw[vk,qi];simp[Builtin.zeroCells,aV];omega) fun u hu=> ?_
   rw[vk] at hu
   simp only[Builtin.zeroCells,Array.toList_map,nA] at hu
   obtain ⟨j,aU,rfl⟩:=hu
   have aU:j<1*z0.cells.size:=by simpa using aU
   have agx:j%z0.cells.size<z0.cells.size:=qe _ (by omega)
   have bg:z0.cells[j%z0.cells.size]! =z0.cells[j%z0.cells.size]:=getElem!_pos z0.cells (j%z0.cells.size) agx
   rw[bg]
   exact agt z0 (by rw[ab];exact aG) _ (by simp))
 have agy:bf (some (Addr.mk b 0 none)) 1 (s.len-1) s.cap=some ⟨b,(s.len-1)*1,none⟩:=by rw[LW (by omega),gd]
 have agz:s.len-(s.len-1)=1:=by omega
 refine ⟨⟨by omega,by omega⟩,⟨by omega,by omega⟩,⟨by omega,by omega⟩,fun h=> ?_,fun _=>bW ⟨⟨by omega,by omega⟩,⟨by omega,by omega⟩,⟨some ⟨b,0,none⟩,s.len-1,s.cap⟩,bc,by rw[aa];exact Iv,⟨by omega,by show ((s.len:Nat):Int)≤((s.cap:Nat):Int);omega⟩,⟨by omega,by show ((s.len-1:Nat):Int)≤((s.len:Nat):Int);omega⟩,_,_,by rw[agz,agy];exact agv,⟨some ⟨b,0,none⟩,s.len-1,s.cap⟩,rfl,?_,rfl,aa.symm,?_⟩⟩
 · have:=eq_of_beq h;omega
 · refine bU.mk' (Iu.AT _) (by simp[mO,kz];omega) (by omega) Mc (by rw[qi,qi,eY]) ?_
   rw[yC _ _ _ (by rw[qi];omega),yC _ _ _ (by omega)]
   have t1:(c.toList.take (i*1)++vs.drop ((i+1)*1)++c.toList.drop (i*1+(vs.drop ((i+1)*1)).length)).take ((s.len-1)*1)=vs.take (i*1)++vs.drop ((i+1)*1):=by
     rw[←kD,Fk (by simp[mO,kz];omega),gV (by simp[mO,kz];omega)]
   rw[t1,d_,Fk (by simp[mO,kz];omega),gV (by simp[mO,kz];omega)]
 · exact jo.trans (aq.mono (W:=fun q=>q=b) (aq.yx (.refl _ _) _ 0) (fun k _ ae=>⟨_,aa,ae.symm⟩))
theorem Iw {w:World} {s:ad} {ds:List Nat} (h:Src 1 w s (gg ds)) (aA:ds.length≤1000000):
   aR Tryz.prog F.tX #[.slice s.a s.len s.cap] w (fun v w'=>∃au:ad,v= .slice au.a au.len au.cap∧bU 1 ai.int w' au (gg ds)∧Ext w w'∧nE w au):=by
 have fR:s.len=ds.length:=by have:=h.len;rw[yI] at this;omega
 refine W.agA s w _ ?_
 delta W.tX aE ah
 refine ⟨fun aT=> ?_,fun _=> ?_⟩
 · have aT:s.a=none:=by simpa using aT
   rw[h.nil aT]
   exact ⟨⟨none,0,0⟩,rfl,bU.none _ _ _, .refl _ _,fun k ae=>(pE k ae).elim⟩
 · obtain ⟨au,w',U,ab,ao,aG,aV,_⟩:=Ic.clone (gX:=ai.dD) h (PO ds) (by omega)
   exact bW ⟨au,w',U,au,rfl,ab,aG,aV⟩
theorem agB {ks:List Key} {k:Key} {a:Nat} (aT:a≤ks.length) (U:∀ (j:Nat) (h:j<ks.length),j<a→cw ks[j] k) (ab:∀ (j:Nat) (h:j<ks.length),a≤j→¬cw ks[j] k):dP ks k=a:=by
 unfold dP
 rcases g2 a ks.length with h|h
 · exact (List.findIdx_eq h).2 ⟨jB (ab a h (cU _)),fun j aU=>tC fun ao=>ao (U j (by omega) aU)⟩
 · have:a=ks.length:=by omega
   subst this
   refine List.findIdx_eq_length_of_false fun x af=> ?_
   obtain ⟨j,aU,rfl⟩:=lO af
   exact tC fun ao=>ao (U j aU aU)
def ob (ks:List Key) (k:Key):Bool:=decide (ks[dP ks k]? =some k)
theorem agC {B C:Nat→Prop} {s t:ad} {ks:List Key} {key:Key} {w:World} (aj:bO B w s ks) (ba:Src 1 w t (bm key)) (aQ:ks.Pairwise cw) (aD:ks.length≤100000):
   aR Tryz.prog F.A6 #[.slice s.a s.len s.cap, .slice t.a t.len t.cap, .func (.func F.mi) #[] #[]] w (fun v w'=>v= .tuple #[.int .i64 ((dP ks key:Nat):Int), .bool (ob ks key)]∧w=w'):=by
 refine W.agD s t ⟨F.mi, #[], #[]⟩ w _ ?_
 (delta W.A6 aE ay ar aX;dsimp only)
 have aA:=bO.len aj
 have tR:sC Tryz.prog F.mi:=⟨_,(Option.some_get (show (Tryz.prog.funcs[F.mi]?).isSome=true by kernel_rfl)).symm,by kernel_rfl,by kernel_rfl⟩
 have a_:=fun {i j:Nat} (hi:i<j) (aU:j<ks.length)=>ym.1 aQ i j (by omega) aU hi
 refine ⟨fun lo hi w'=>∃a b:Nat,lo=a∧hi=b∧a≤b∧b≤ks.length∧w=w'∧(∀ (j:Nat) (h:j<ks.length),j<a→cw ks[j] key)∧(∀ (j:Nat) (h:j<ks.length),b≤j→¬cw ks[j] key),fun lo hi _=>(hi-lo).toNat,
   ⟨0,ks.length,rfl,by rw[aA],fy _,cU _,rfl,fun j _ h=>by omega,fun j h ab=>by omega⟩,?_⟩
 rintro _ _ _ ⟨a,b,rfl,rfl,oL,aa,rfl,U,ab⟩
 have hm:=agE (a:=a) (b:=b) (by omega)
 refine ⟨fun h=> ?_,fun h=> ?_⟩
 · have agF:(a:Int)<(b:Int):=di h
   rw[hm]
   obtain ⟨m,yQ⟩:∃m,m=(a+b)/2:=⟨_,rfl⟩
   rw[←yQ]
   have Ix:a≤m:=by omega
   have jD:m<b:=by omega
   obtain ⟨A,t2,ax,lS,dN,mQ,_⟩:=bO.at aj (i:=m) (by omega)
   refine ⟨by decide,A,ax,lS,t2,dN,tR,(mi mQ.1 ba).use ?_⟩
   rintro _ _ ⟨rfl,rfl⟩
   have hw:IntKind.wrap .i64 ((m:Int)+1)=((m+1:Nat):Int):=by rw[ct (by omega) (by omega)];rfl
   refine ⟨_,rfl,fun al=> ?_,fun al=> ?_⟩
   · have al:cw ks[m] key:=di al
     rw[hw]
     have Iy:((b:Int)-((m+1:Nat):Int)).toNat<((b:Int)-(a:Int)).toNat:=by omega
     refine ⟨⟨m+1,b,rfl,rfl,by omega,aa,rfl,fun j aU agG=> ?_,ab⟩,Iy⟩
     rcases g2 j m with ao|ao
     · exact yr (a_ ao (by omega)) al
     · have:j=m:=by omega
       subst this;exact al
   · have al:¬cw ks[m] key:=eB al
     have Iy:((m:Int)-(a:Int)).toNat<((b:Int)-(a:Int)).toNat:=by omega
     refine ⟨⟨a,m,rfl,rfl,Ix,by omega,rfl,U,fun j aU agG=> ?_⟩,Iy⟩
     rcases g2 m j with ao|ao
     · exact fun aG=>al (yr (a_ ao aU) aG)
     · have:j=m:=by omega
       subst this;exact al
 · have cn:¬(a:Int)<(b:Int):=eB h
   have agH:b=a:=by omega
   subst agH
   have a6:dP ks key=b:=agB aa U ab
   refine eI (fun c w'=>w=w'∧c=ob ks key) (fun q J=>⟨fun h=> ?_,fun h=> ?_⟩) ?_
   · have agF:(b:Int)<((s.len:Nat):Int):=di h
     have vl:b<ks.length:=by omega
     obtain ⟨A,t2,ax,lS,dN,mQ,_⟩:=bO.at aj vl
     refine ⟨A,ax,lS,t2,dN,tR,(mi mQ.1 ba).use ?_⟩
     rintro _ _ ⟨rfl,rfl⟩
     refine ⟨_,rfl,J _ _ ⟨rfl,?_⟩⟩
     unfold ob
     rw[a6,o6,fY,yq,gq vl,ad_]
     exact ⟨fun h=>by rw[h],fun h=>Option.some.inj h⟩
   · have cn:¬(b:Int)<((s.len:Nat):Int):=eB h
     refine J _ _ ⟨rfl,?_⟩
     unfold ob
     rw[a6,List.getElem?_eq_none (by omega)]
     simp
   · rintro _ _ ⟨rfl,rfl⟩
     exact ⟨by rw[a6],rfl⟩
theorem qo {B:Nat→Prop} {w:World} {n:aL} {K V D t:ad} {key:Key} (h:b4 B w n K V D) (ba:Src 1 w t (bm key)) (aQ:n.keys.Pairwise cw) (aD:n.keys.length≤100000):
   aR Tryz.prog F.qo #[eC n K V D, .slice t.a t.len t.cap] w (fun v w'=>v= .tuple #[.int .i64 ((dP n.keys key:Nat):Int), .bool (ob n.keys key)]∧Ext w w'):=by
 refine W.agI n.leaf K V D t w _ ?_
 (delta W.qo ar ah dK;dsimp only)
 refine cq (vs:=[.bool n.leaf, .slice K.a K.len K.cap, .slice V.a V.len V.cap, .slice D.a D.len D.cap]) rfl fun ag ak bH _=> ?_
 obtain ⟨cy,aS,bA,aZ⟩:=b9 ak
 refine ⟨K,aS,(agC (B:=B) (C:=B) (h.keys.ext bH) (ba.ext bH) aQ aD).use ?_⟩
 rintro _ _ ⟨rfl,rfl⟩
 exact ⟨_,_,rfl,rfl,bH⟩
theorem xd {B:Nat→Prop} {w:World} {n:aL} {K V D t:ad} {key:Key} (h:b4 B w n K V D) (ba:Src 1 w t (bm key)) (aQ:n.keys.Pairwise cw) (aD:n.keys.length≤100000):
   aR Tryz.prog F.xd #[eC n K V D, .slice t.a t.len t.cap] w (fun v w'=>v= .tuple #[.int .i64 ((dP n.keys key:Nat):Int), .bool (ob n.keys key)]∧Ext w w'):=by
 refine W.agJ n.leaf K V D t w _ ?_
 (delta W.xd bJ ah ar dK;dsimp only)
 refine cq (vs:=[.bool n.leaf, .slice K.a K.len K.cap, .slice V.a V.len V.cap, .slice D.a D.len D.cap]) rfl fun ag ak bH _=> ?_
 obtain ⟨cy,aS,bA,aZ⟩:=b9 ak
 refine ⟨_,cy,K,aS,V,bA,D,aZ,(qo (h.ext bH) (ba.ext bH) aQ aD).use ?_⟩
 rintro _ _ ⟨rfl,cB⟩
 exact ⟨_,_,rfl,rfl,bH.trans cB⟩
theorem agK {ks:List Key} (aQ:ks.Pairwise cw) (k:Key):fi ks k=if ob ks k then dP ks k+1 else dP ks k:=by
 have hle:=Fx ks k
 have key:∀a,a≤ks.length→(∀ (j:Nat) (h:j<ks.length),j<a→¬cw k ks[j])→(∀h:a<ks.length,cw k ks[a])→fi ks k=a:=by
   intro a aT U ab
   unfold fi
   rcases g2 a ks.length with h|h
   · exact (List.findIdx_eq h).2 ⟨jB (ab h),fun j aU=>tC (U j (by omega) aU)⟩
   · have:a=ks.length:=by omega
     subst this
     refine List.findIdx_eq_length_of_false fun x af=> ?_
     obtain ⟨j,aU,rfl⟩:=lO af
     exact tC (U j aU aU)
 split
 · rename_i cK
   have cK:ks[dP ks k]? =some k:=di cK
   obtain ⟨a_,he⟩:=rq.1 cK
   refine key _ a_ (fun j aU h=> ?_) fun h=> ?_
   · rcases g2 j (dP ks k) with ao|ao
     · exact yu (Dj ao aU)
     · have:j=dP ks k:=by omega
       subst this
       rw[he];exact yt _
   · have:=ym.1 aQ _ _ a_ h (Nat.lt_succ_self _)
     rwa[he] at this
 · rename_i cK
   have cK:¬ks[dP ks k]? =some k:=fun h=>cK (jB h)
   refine key _ hle (fun j aU h=>yu (Dj h aU)) fun h=> ?_
   rcases Dd.1 (Fy aQ (cU _) h) with ao|ao
   · exact ao
   · exact absurd ((gq h).trans (congrArg some ao.symm)) cK
theorem tY {B:Nat→Prop} {w:World} {n:aL} {K V D t:ad} {key:Key} (h:b4 B w n K V D) (ba:Src 1 w t (bm key)) (aQ:n.keys.Pairwise cw) (aD:n.keys.length≤100000):
   aR Tryz.prog F.tY #[eC n K V D, .slice t.a t.len t.cap] w (fun v w'=>v= .int .i64 ((fi n.keys key:Nat):Int)∧Ext w w'):=by
 refine W.agL n.leaf K V D t w _ ?_
 (delta W.tY bJ ah ar dK aE ay;dsimp only)
 refine cq (vs:=[.bool n.leaf, .slice K.a K.len K.cap, .slice V.a V.len V.cap, .slice D.a D.len D.cap]) rfl fun ag ak bH _=> ?_
 obtain ⟨cy,aS,bA,aZ⟩:=b9 ak
 have hle:=Fx n.keys key
 refine ⟨_,cy,K,aS,V,bA,D,aZ,(qo (h.ext bH) (ba.ext bH) aQ aD).use ?_⟩
 rintro _ aw ⟨rfl,cB⟩
 rw[agK aQ]
 refine ⟨_,_,rfl,eI (fun c w'=>aw=w'∧c=((if ob n.keys key then dP n.keys key+1 else dP n.keys key:Nat):Int)) (fun q J=>⟨fun h=>J _ _ ⟨rfl,?_⟩,fun h=>J _ _ ⟨rfl,?_⟩⟩) ?_⟩
 · rw[if_pos h,ct (by omega) (by omega)];rfl
 · rw[if_neg (by simp[h])]
 · rintro _ _ ⟨rfl,rfl⟩
   exact ⟨rfl,bH.trans cB⟩
end
section
structure oM (lo:Nat) (w:World) (aJ:Nat) (n:aL) (K V D:ad) (cr cI cf:Nat→Prop):Prop where
 v:Var w aJ [.bool n.leaf, .slice K.a K.len K.cap, .slice V.a V.len V.cap, .slice D.a D.len D.cap] ai.cD
 keys:bV cr w K n.keys
 vals:bV cI w V n.vals
 kids:dY cf w D n.kids
 bK:∀q,cr q→lo≤q∧q<w.heap.size∧q≠aJ∧¬cI q∧¬cf q
 bv:∀q,cI q→lo≤q∧q<w.heap.size∧q≠aJ∧¬cf q
 aX:∀q,cf q→lo≤q∧q<w.heap.size∧q≠aJ
 yR:lo≤aJ
structure i_ (lo:Nat) (w:World) (n:aL) (K V D:ad) (cr cI cf:Nat→Prop):Prop where
 keys:bV cr w K n.keys
 vals:bV cI w V n.vals
 kids:dY cf w D n.kids
 bK:∀q,cr q→lo≤q∧q<w.heap.size∧¬cI q∧¬cf q
 bv:∀q,cI q→lo≤q∧q<w.heap.size∧¬cf q
 aX:∀q,cf q→lo≤q∧q<w.heap.size
section
variable {lo:Nat} {w w':World} {aJ:Nat} {n:aL} {K V D:ad} {cr cI cf:Nat→Prop}
theorem oM.mem (h:oM lo w aJ n K V D cr cI cf):i_ lo w n K V D cr cI cf:=⟨h.keys,h.vals,h.kids,fun q J=>⟨(h.bK q J).1,(h.bK q J).2.1,(h.bK q J).2.2.2⟩,fun q J=>⟨(h.bv q J).1,(h.bv q J).2.1,(h.bv q J).2.2.2⟩,fun q J=>⟨(h.aX q J).1,(h.aX q J).2.1⟩⟩
theorem i_.an {W:Nat→Prop} (h:i_ lo w n K V D cr cI cf) (al:aq W w w') (c9:∀q,lo≤q→q<w.heap.size→cr q∨cI q∨cf q→¬W q):i_ lo w' n K V D cr cI cf:=by
 have aj:=al.size
 refine ⟨bV.an h.keys al fun q J=>c9 q (h.bK q J).1 (h.bK q J).2.1 (.inl J),bV.an h.vals al fun q J=>c9 q (h.bv q J).1 (h.bv q J).2.1 (.inr (.inl J)),dY.an h.kids al fun q J=>c9 q (h.aX q J).1 (h.aX q J).2 (.inr (.inr J)),fun q J=> ?_,fun q J=> ?_,fun q J=> ?_⟩
 · have:=h.bK q J;exact ⟨this.1,by omega,this.2.2⟩
 · have:=h.bv q J;exact ⟨this.1,by omega,this.2.2⟩
 · have:=h.aX q J;exact ⟨this.1,by omega⟩
theorem i_.ext (h:i_ lo w n K V D cr cI cf) (al:Ext w w'):i_ lo w' n K V D cr cI cf:=h.an al fun _ _ _ _ h=>h
theorem oM.ext (h:oM lo w aJ n K V D cr cI cf) (af:Ext w w'):oM lo w' aJ n K V D cr cI cf:=
 ⟨h.v.ext af,bV.ext h.keys af,bV.ext h.vals af,dY.ext h.kids af,fun q J=>⟨(h.bK q J).1,lP (h.bK q J).2.1 af.size,(h.bK q J).2.2⟩,fun q J=>⟨(h.bv q J).1,lP (h.bv q J).2.1 af.size,(h.bv q J).2.2⟩,fun q J=>⟨(h.aX q J).1,lP (h.aX q J).2.1 af.size,(h.aX q J).2.2⟩,h.yR⟩
theorem i_.at (h:i_ lo w n K V D cr cI cf):b4 (fun q=>lo≤q) w n K V D:=
 ⟨bO.bx (bV.pM h.keys) fun q _ J=>(h.bK q J).1,bO.bx (bV.pM h.vals) fun q _ J=>(h.bv q J).1,dJ.bx (dY.FI h.kids) fun q _ J=>(h.aX q J).1⟩
theorem i_.low {gr:Nat} (h:i_ lo w n K V D cr cI cf) (aA:gr≤lo):i_ gr w n K V D cr cI cf:=
 ⟨h.keys,h.vals,h.kids,fun q J=>⟨j5 aA (h.bK q J).1,(h.bK q J).2⟩,fun q J=>⟨j5 aA (h.bv q J).1,(h.bv q J).2⟩,fun q J=>⟨j5 aA (h.aX q J).1,(h.aX q J).2⟩⟩
end
theorem P6 {lo:Nat} {w:World} {aJ:Nat} {n:aL} {K V D t:ad} {l:Key} {cr cI cf:Nat→Prop} (h:oM lo w aJ n K V D cr cI cf) (ba:Src 1 w t (bm l)) (aA:l.length≤100000) (aD:n.keys.length≤100000) {R:World→Prop}
   (cR:∀ (w':World) (aO:ad) (yO:Nat→Prop),oM lo w' aJ {n with keys:=n.keys++ [l]} aO V D yO cI cf→aq (fun q=>q=aJ∨cr q) w w'→(∀q,yO q→cr q∨w.heap.size≤q)→R w'):
   az w.drew fun dX=>∃vm:Nat→Prop,¬vm (Addr.add ⟨aJ,0,none⟩ 1).block∧∃ff:ad,dX.cell? (Addr.add ⟨aJ,0,none⟩ 1)=some (.slice ff.a ff.len ff.cap)∧
     Calls Tryz.prog F.lu #[.slice t.a t.len t.cap] dX fun P7 dm=>∃gx:ad,P7= .returned (.slice gx.a gx.len gx.cap)∧aq vm dX dm∧
     az (dm.alloc (.cells #[.slice gx.a gx.len gx.cap] ai.cG)) fun kr=>aq vm dm kr∧∃e4:ad,∃fG:World,Sem.run Tryz.prog (Builtin.append_ #[ai.cz,ai.cz] ai.cz #[.slice ff.a ff.len ff.cap, .slice (some ⟨dm.heap.size,0,none⟩) 1 1]) kr= .ok (.slice e4.a e4.len e4.cap) fG∧
     (∃u:Value,fG.cell? (Addr.add ⟨aJ,0,none⟩ 1)=some u)∧fG.frozen? (Addr.add ⟨aJ,0,none⟩ 1)=false∧az (fG.setCell (Addr.add ⟨aJ,0,none⟩ 1) (.slice e4.a e4.len e4.cap)) fun gD=>R gD:=by
 have eL:=h.yR
 have DE:=h.v.lt
 have bS:=eR w
 obtain ⟨cy,aS,bA,aZ⟩:=b9 (h.v.ext bS)
 refine bW ⟨fun _=>False,id,K,aS,(tQ (B:=fun q=>w.heap.size≤q) (ba.ext bS) (by omega) (fun q J=>J)).use ?_⟩
 rintro _ dm ⟨DF,rfl,yS,af,aI⟩
 have eo:=bS.trans af
 have bD:w.drew.heap.size=w.heap.size:=rfl
 have dr:=eo.size
 have bp:=bV.ext h.keys eo
 have sH:=bV.ext h.vals eo
 have yT:=dY.ext h.kids eo
 refine ⟨DF,rfl,af,L6 (B:=Grow cr w.drew dm) (h.v.ext eo) (o:=1) (by simp) (bV.bx bp fun k _ h=> .inl h) ?_ (bX.bx yS fun k ae h=> .inr ⟨h,ae⟩) ?_ aD fun w' gb aC aF aH=> ?_⟩
 · rintro (U|U)
   · exact (h.bK aJ U).2.2.1 rfl
   · omega
 · intro k iY DA
   obtain ⟨ts,_,_,ao,_⟩:=h.keys
   have:=(ao k DA).2
   have:=(yS.2.2 k iY).1
   omega
 have g_:∀q,Grow (Grow cr w.drew dm) dm w' q→cr q∨(w.heap.size≤q∧q<w'.heap.size):=by
   rintro q ((U|U)|U)
   · exact .inl U
   · exact .inr ⟨U.1,lP U.2 aH.size⟩
   · exact .inr ⟨j5 dr U.1,U.2⟩
 have bg:=aH.size
 have jY:∀q,aP K q→cr q:=fun q J=>by
   obtain ⟨ts,_,_,ao,_⟩:=h.keys
   exact (ao q J).1
 refine cR w' gb (fun q=>cr q∨(w.heap.size≤q∧q<w'.heap.size)) ⟨by simpa using aC,bV.bx aF fun k _ ae=>g_ k ae,bV.an sH aH ?_,dY.an yT aH ?_,?_,fun q J=> ?_,fun q J=> ?_,h.yR⟩ ?_ ?_
 · rintro q J (U|U)
   · exact (h.bv q J).2.2.1 U
   · exact (h.bK q (jY q U)).2.2.2.1 J
 · rintro q J (U|U)
   · exact (h.aX q J).2.2 U
   · exact (h.bK q (jY q U)).2.2.2.2 J
 · rintro q (U|U)
   · have:=h.bK q U;exact ⟨this.1,by omega,this.2.2⟩
   · exact ⟨by omega,U.2,by omega,fun ab=>by have:=h.bv q ab;omega,fun ab=>by have:=h.aX q ab;omega⟩
 · have:=h.bv q J;exact ⟨this.1,by omega,this.2.2⟩
 · have:=h.aX q J;exact ⟨this.1,by omega,this.2.2⟩
 · refine (aq.e0 eo).trans (aH.mono fun k _ ae=> ?_)
   rcases ae with ae|ae
   · exact .inl ae
   · exact .inr (jY k ae)
 · rintro q (U|U)
   · exact .inl U
   · exact .inr U.1
theorem Wj {lo:Nat} {w:World} {aJ:Nat} {n:aL} {K V D t:ad} {l:Key} {cr cI cf:Nat→Prop} (h:oM lo w aJ n K V D cr cI cf) (ba:Src 1 w t (bm l)) (aA:l.length≤100000) (aD:n.vals.length≤100000) {R:World→Prop}
   (cR:∀ (w':World) (bE:ad) (L7:Nat→Prop),oM lo w' aJ {n with vals:=n.vals++ [l]} K bE D cr L7 cf→aq (fun q=>q=aJ∨cI q) w w'→(∀q,L7 q→cI q∨w.heap.size≤q)→R w'):
   az w.drew fun dX=>∃vm:Nat→Prop,¬vm (Addr.add ⟨aJ,0,none⟩ 2).block∧∃ff:ad,dX.cell? (Addr.add ⟨aJ,0,none⟩ 2)=some (.slice ff.a ff.len ff.cap)∧
     Calls Tryz.prog F.lu #[.slice t.a t.len t.cap] dX fun P7 dm=>∃gx:ad,P7= .returned (.slice gx.a gx.len gx.cap)∧aq vm dX dm∧
     az (dm.alloc (.cells #[.slice gx.a gx.len gx.cap] ai.cG)) fun kr=>aq vm dm kr∧∃e4:ad,∃fG:World,Sem.run Tryz.prog (Builtin.append_ #[ai.cz,ai.cz] ai.cz #[.slice ff.a ff.len ff.cap, .slice (some ⟨dm.heap.size,0,none⟩) 1 1]) kr= .ok (.slice e4.a e4.len e4.cap) fG∧
     (∃u:Value,fG.cell? (Addr.add ⟨aJ,0,none⟩ 2)=some u)∧fG.frozen? (Addr.add ⟨aJ,0,none⟩ 2)=false∧az (fG.setCell (Addr.add ⟨aJ,0,none⟩ 2) (.slice e4.a e4.len e4.cap)) fun gD=>R gD:=by
 have eL:=h.yR
 have DE:=h.v.lt
 have bS:=eR w
 obtain ⟨cy,aS,bA,aZ⟩:=b9 (h.v.ext bS)
 refine bW ⟨fun _=>False,id,V,bA,(tQ (B:=fun q=>w.heap.size≤q) (ba.ext bS) (by omega) (fun q J=>J)).use ?_⟩
 rintro _ dm ⟨DF,rfl,yS,af,aI⟩
 have eo:=bS.trans af
 have bD:w.drew.heap.size=w.heap.size:=rfl
 have dr:=eo.size
 have bp:=bV.ext h.keys eo
 have sH:=bV.ext h.vals eo
 have yT:=dY.ext h.kids eo
 refine ⟨DF,rfl,af,L6 (B:=Grow cI w.drew dm) (h.v.ext eo) (o:=2) (by simp) (bV.bx sH fun k _ h=> .inl h) ?_ (bX.bx yS fun k ae h=> .inr ⟨h,ae⟩) ?_ aD fun w' gb aC aF aH=> ?_⟩
 · rintro (U|U)
   · exact (h.bv aJ U).2.2.1 rfl
   · omega
 · intro k iY DA
   obtain ⟨ts,_,_,ao,_⟩:=h.vals
   have:=(ao k DA).2
   have:=(yS.2.2 k iY).1
   omega
 have g_:∀q,Grow (Grow cI w.drew dm) dm w' q→cI q∨(w.heap.size≤q∧q<w'.heap.size):=by
   rintro q ((U|U)|U)
   · exact .inl U
   · exact .inr ⟨U.1,lP U.2 aH.size⟩
   · exact .inr ⟨j5 dr U.1,U.2⟩
 have bg:=aH.size
 have jY:∀q,aP V q→cI q:=fun q J=>by
   obtain ⟨ts,_,_,ao,_⟩:=h.vals
   exact (ao q J).1
 refine cR w' gb (fun q=>cI q∨(w.heap.size≤q∧q<w'.heap.size)) ⟨by simpa using aC,bV.an bp aH ?_,bV.bx aF fun k _ ae=>g_ k ae,dY.an yT aH ?_,fun q J=> ?_,?_,fun q J=> ?_,h.yR⟩ ?_ ?_
 · rintro q J (U|U)
   · exact (h.bK q J).2.2.1 U
   · exact (h.bK q J).2.2.2.1 (jY q U)
 · rintro q J (U|U)
   · exact (h.aX q J).2.2 U
   · exact (h.bv q (jY q U)).2.2.2 J
 · have:=h.bK q J
   refine ⟨this.1,by omega,this.2.2.1,?_,this.2.2.2.2⟩
   rintro (U|U)
   · exact this.2.2.2.1 U
   · omega
 · rintro q (U|U)
   · have:=h.bv q U;exact ⟨this.1,by omega,this.2.2⟩
   · exact ⟨by omega,U.2,by omega,fun ab=>by have:=h.aX q ab;omega⟩
 · have:=h.aX q J;exact ⟨this.1,by omega,this.2.2⟩
 · refine (aq.e0 eo).trans (aH.mono fun k _ ae=> ?_)
   rcases ae with ae|ae
   · exact .inl ae
   · exact .inr (jY k ae)
 · rintro q (U|U)
   · exact .inl U
   · exact .inr U.1
theorem fg {B:Nat→Prop} {dd:World} {n:aL} {K V D:ad} (h:b4 B dd n K V D) (arH:n.keys.length≤100000) (arI:n.vals.length≤100000) (arJ:n.kids.length≤100000) (fI:∀k∈n.keys,k.length≤100000) (j7:∀v∈n.vals,v.length≤100000):
   aR Tryz.prog F.fg #[eC n K V D] dd (fun v w'=>∃ (K V D:ad) (cr cI cf:Nat→Prop),v=eC n K V D∧i_ dd.heap.size w' n K V D cr cI cf∧Ext dd w'):=by
 refine W.agM n.leaf K V D dd _ ?_
 (delta W.fg c8 ah bJ ar en iE P8 aE Wk aX st ay Wl DG Mi;dsimp only)
 have P9:b4 (fun q=>q<dd.heap.size) dd n K V D:=h.bx fun q J _=>J
 have A0:=bO.len h.keys
 have afK:=bO.len h.vals
 refine cq (vs:=[.bool n.leaf, .slice K.a K.len K.cap, .slice V.a V.len V.cap, .slice D.a D.len D.cap]) rfl fun ag fH bH km=> ?_
 refine cq (vs:=[.bool false, .slice none 0 0, .slice none 0 0, .slice none 0 0]) rfl fun aw fz cB me=>bW ?_
 have bS:=eR aw
 have bD:aw.drew.heap.size=aw.heap.size:=rfl
 have vn:=(fH.ext cB).ext bS
 have A7:=fz.ext bS
 have g9:=bH.trans (cB.trans bS)
 obtain ⟨gB,aW,bq,ec⟩:=b9 vn
 have pN:=P9.ext g9
 obtain ⟨lo,oz⟩:∃lo,lo=aw.heap.size:=⟨_,rfl⟩
 refine ⟨fun _=>False,id,_,gB,id,D,ec,⟨?_,?_⟩⟩
 · refine (Iw pN.kids.1 (by omega)).use ?_
   rintro _ bt ⟨aM,rfl,yU,fe,wZ⟩
   have FO:=fe.size
   refine ⟨aM,rfl,fe, #[.bool n.leaf, .slice none 0 0, .slice none 0 0, .slice aM.a aM.len aM.cap],(fun w=>by kernel_rfl),?_⟩
   refine cq (vs:=[.bool false, .slice none 0 0, .slice none 0 0, .slice none 0 0]) rfl fun cL yV g0 agN=> ?_
   refine ⟨g0,yV.de rfl ?_,rfl,dW yV (us:=[.bool n.leaf, .slice none 0 0, .slice none 0 0, .slice aM.a aM.len aM.cap]) rfl rfl fun cm yW rH P_=> ?_⟩
   · intro v ak
     simp only[fP,mL,mM] at ak
     rcases ak with rfl|rfl|rfl|rfl<;>trivial
   obtain ⟨aJ,eL⟩:∃aJ,aJ=bt.heap.size:=⟨_,rfl⟩
   rw[←eL] at yW rH⊢
   obtain ⟨cf,yX⟩:∃cf:Nat→Prop,cf=fun q=>aw.heap.size≤q∧q<bt.heap.size:=⟨_,rfl⟩
   have Qa:dY cf bt aM n.kids:=by subst yX;exact ⟨yU,fun k ae=>⟨⟨wZ k ae,yU.lt k ae⟩,yU.lt k ae⟩⟩
   have vo:aq (fun q=>lo≤q) aw.drew cm:=(aq.e0 (fe.trans g0)).trans (rH.mono fun k _ ae=>by omega)
   have Qb:oM lo cm aJ ⟨n.leaf,[],[],n.kids⟩ bP bP aM (fun _=>False) (fun _=>False) cf:=⟨yW,bV.none _ _,bV.none _ _,dY.an (dY.ext Qa g0) rH (fun q J e=>by subst yX;have J:=J.2;omega),fun q h=>h.elim,fun q h=>h.elim,fun q J=>(by subst yX;obtain ⟨U,ab⟩:=J;exact ⟨by omega,by omega,by omega⟩),by omega⟩
   clear yX
   obtain ⟨cy,aS,bA,aZ⟩:=b9 (vn.an vo (by omega))
   have DH:b4 (fun q=>q<dd.heap.size) cm n K V D:=pN.an vo fun q J h=>by omega
   have Iz:=A7.an vo (by omega)
   refine ⟨K,aS,fun i w'=>∃ (j:Nat) (aO:ad) (cr:Nat→Prop),i=j∧j≤n.keys.length∧oM lo w' aJ ⟨n.leaf,n.keys.take j,[],n.kids⟩ aO bP aM cr (fun _=>False) cf∧aq (fun q=>lo≤q) cm w',fun i _=>((n.keys.length:Int)-i).toNat,⟨0,bP,_,rfl,fy _,Qb,aq.refl _ _⟩,?_⟩
   rintro _ dE ⟨j,aO,cr,rfl,aU,vp,gk⟩
   have Qc:b4 (fun q=>q<dd.heap.size) dE n K V D:=DH.an gk fun q J h=>by omega
   refine ⟨fun a_=> ?_,fun cn=> ?_⟩
   · have a_:j<n.keys.length:=by have:=di a_;omega
     obtain ⟨A,t,ax,aa,al,ba,_⟩:=bO.at Qc.keys a_
     refine ⟨A,ax,aa,t,al,P6 vp ba.1 (fI _ (eN a_)) (by show (n.keys.take j).length≤_;rw[eA];omega) fun w' cP rI st DI _=> ?_⟩
     have dB:aq (fun q=>lo≤q) dE w':=DI.mono fun q _ J=>by
       rcases J with J|J
       · have:=vp.yR;omega
       · exact (vp.bK q J).1
     rw[ct (n:=(j:Int)+1) (by omega) (by omega)]
     refine ⟨⟨j+1,cP,rI,by omega,by omega,?_,gk.trans dB⟩,?_⟩
     · rw[take_succ _ a_];exact st
     · show ((n.keys.length:Int)-((j:Int)+1)).toNat<((n.keys.length:Int)-(j:Int)).toNat
       omega
   have cn:j=n.keys.length:=by have:=eB cn;omega
   subst cn
   rw[rv] at vp
   obtain ⟨cy,aS,bA,aZ⟩:=b9 ((vn.an vo (by omega)).an gk (by omega))
   refine ⟨V,bA,fun i w'=>∃ (j:Nat) (bE:ad) (cI:Nat→Prop),i=j∧j≤n.vals.length∧oM lo w' aJ ⟨n.leaf,n.keys,n.vals.take j,n.kids⟩ aO bE aM cr cI cf∧aq (fun q=>lo≤q) cm w',fun i _=>((n.vals.length:Int)-i).toNat,⟨0,bP,_,rfl,fy _,vp,gk⟩,?_⟩
   rintro _ gR ⟨j,bE,cI,rfl,aU,sI,yY⟩
   have Qd:b4 (fun q=>q<dd.heap.size) gR n K V D:=DH.an yY fun q J h=>by omega
   refine ⟨fun a_=> ?_,fun cn=> ?_⟩
   · have a_:j<n.vals.length:=by have:=di a_;omega
     obtain ⟨A,t,ax,aa,al,ba,_⟩:=bO.at Qd.vals a_
     refine ⟨A,ax,aa,t,al,Wj sI ba.1 (j7 _ (eN a_)) (by show (n.vals.take j).length≤_;rw[eA];omega) fun w' cW yZ st DI _=> ?_⟩
     have dB:aq (fun q=>lo≤q) gR w':=DI.mono fun q _ J=>by
       rcases J with J|J
       · have:=sI.yR;omega
       · exact (sI.bv q J).1
     rw[ct (n:=(j:Int)+1) (by omega) (by omega)]
     refine ⟨⟨j+1,cW,yZ,by omega,by omega,?_,yY.trans dB⟩,?_⟩
     · rw[take_succ _ a_];exact st
     · show ((n.vals.length:Int)-((j:Int)+1)).toNat<((n.vals.length:Int)-(j:Int)).toNat
       omega
   have cn:j=n.vals.length:=by have:=eB cn;omega
   subst cn
   rw[rv] at sI
   obtain ⟨d0,d1,d2,d3⟩:=b9 sI.v
   refine ⟨_,d0,aO,d1,bE,d2,aM,d3,qm n.leaf aO bE aM (Iz.an yY (by omega)) rfl (Q:=fun b K V D aw=>(fun v w'=>∃ (K V D:ad) (cr cI cf:Nat→Prop),v=eC n K V D∧i_ dd.heap.size w' n K V D cr cI cf∧Ext dd w') (.agg #[.bool b, .slice K.a K.len K.cap, .slice V.a V.len V.cap, .slice D.a D.len D.cap]) aw) fun cX nJ=>⟨aO,bE,aM,cr,cI,cf,rfl,?_,?_⟩⟩
   · exact (i_.an sI.mem nJ fun q J _ _ h=>by omega).low (by omega)
   · exact Ext.eX (Ext.gf g9 (vo.trans yY) fun k ae=>by omega) nJ (by omega)
 · refine cq (vs:=[.bool false, .slice none 0 0, .slice none 0 0, .slice none 0 0]) rfl fun cL yV g0 agN=>⟨g0,?_⟩
   refine (Iw (pN.kids.ext g0).1 (by omega)).use ?_
   rintro _ bt ⟨aM,rfl,yU,fe,wZ⟩
   have FO:=fe.size
   have IA:=yV.ext fe
   refine ⟨aM,rfl,fe, #[.bool n.leaf, .slice none 0 0, .slice none 0 0, .slice aM.a aM.len aM.cap],(fun w=>by kernel_rfl),?_⟩
   refine ⟨IA.de rfl ?_,rfl,dW IA (us:=[.bool n.leaf, .slice none 0 0, .slice none 0 0, .slice aM.a aM.len aM.cap]) rfl rfl fun cm yW rH P_=> ?_⟩
   · intro v ak
     simp only[fP,mL,mM] at ak
     rcases ak with rfl|rfl|rfl|rfl<;>trivial
   obtain ⟨aJ,eL⟩:∃aJ,aJ=aw.drew.heap.size:=⟨_,rfl⟩
   rw[←eL] at yW rH⊢
   obtain ⟨cf,yX⟩:∃cf:Nat→Prop,cf=fun q=>cL.heap.size≤q∧q<bt.heap.size:=⟨_,rfl⟩
   have Qa:dY cf bt aM n.kids:=by subst yX;exact ⟨yU,fun k ae=>⟨⟨wZ k ae,yU.lt k ae⟩,yU.lt k ae⟩⟩
   have vo:aq (fun q=>lo≤q) aw.drew cm:=(aq.e0 (g0.trans fe)).trans (rH.mono fun k _ ae=>by omega)
   have Qb:oM lo cm aJ ⟨n.leaf,[],[],n.kids⟩ bP bP aM (fun _=>False) (fun _=>False) cf:=⟨yW,bV.none _ _,bV.none _ _,dY.an Qa rH (fun q J e=>by subst yX;have J:=J.1;omega),fun q h=>h.elim,fun q h=>h.elim,fun q J=>(by subst yX;obtain ⟨U,ab⟩:=J;exact ⟨by omega,by omega,by omega⟩),by omega⟩
   clear yX
   obtain ⟨cy,aS,bA,aZ⟩:=b9 (vn.an vo (by omega))
   have DH:b4 (fun q=>q<dd.heap.size) cm n K V D:=pN.an vo fun q J h=>by omega
   have Iz:=A7.an vo (by omega)
   refine ⟨K,aS,fun i w'=>∃ (j:Nat) (aO:ad) (cr:Nat→Prop),i=j∧j≤n.keys.length∧oM lo w' aJ ⟨n.leaf,n.keys.take j,[],n.kids⟩ aO bP aM cr (fun _=>False) cf∧aq (fun q=>lo≤q) cm w',fun i _=>((n.keys.length:Int)-i).toNat,⟨0,bP,_,rfl,fy _,Qb,aq.refl _ _⟩,?_⟩
   rintro _ dE ⟨j,aO,cr,rfl,aU,vp,gk⟩
   have Qc:b4 (fun q=>q<dd.heap.size) dE n K V D:=DH.an gk fun q J h=>by omega
   refine ⟨fun a_=> ?_,fun cn=> ?_⟩
   · have a_:j<n.keys.length:=by have:=di a_;omega
     obtain ⟨A,t,ax,aa,al,ba,_⟩:=bO.at Qc.keys a_
     refine ⟨A,ax,aa,t,al,P6 vp ba.1 (fI _ (eN a_)) (by show (n.keys.take j).length≤_;rw[eA];omega) fun w' cP rI st DI _=> ?_⟩
     have dB:aq (fun q=>lo≤q) dE w':=DI.mono fun q _ J=>by
       rcases J with J|J
       · have:=vp.yR;omega
       · exact (vp.bK q J).1
     rw[ct (n:=(j:Int)+1) (by omega) (by omega)]
     refine ⟨⟨j+1,cP,rI,by omega,by omega,?_,gk.trans dB⟩,?_⟩
     · rw[take_succ _ a_];exact st
     · show ((n.keys.length:Int)-((j:Int)+1)).toNat<((n.keys.length:Int)-(j:Int)).toNat
       omega
   have cn:j=n.keys.length:=by have:=eB cn;omega
   subst cn
   rw[rv] at vp
   obtain ⟨cy,aS,bA,aZ⟩:=b9 ((vn.an vo (by omega)).an gk (by omega))
   refine ⟨V,bA,fun i w'=>∃ (j:Nat) (bE:ad) (cI:Nat→Prop),i=j∧j≤n.vals.length∧oM lo w' aJ ⟨n.leaf,n.keys,n.vals.take j,n.kids⟩ aO bE aM cr cI cf∧aq (fun q=>lo≤q) cm w',fun i _=>((n.vals.length:Int)-i).toNat,⟨0,bP,_,rfl,fy _,vp,gk⟩,?_⟩
   rintro _ gR ⟨j,bE,cI,rfl,aU,sI,yY⟩
   have Qd:b4 (fun q=>q<dd.heap.size) gR n K V D:=DH.an yY fun q J h=>by omega
   refine ⟨fun a_=> ?_,fun cn=> ?_⟩
   · have a_:j<n.vals.length:=by have:=di a_;omega
     obtain ⟨A,t,ax,aa,al,ba,_⟩:=bO.at Qd.vals a_
     refine ⟨A,ax,aa,t,al,Wj sI ba.1 (j7 _ (eN a_)) (by show (n.vals.take j).length≤_;rw[eA];omega) fun w' cW yZ st DI _=> ?_⟩
     have dB:aq (fun q=>lo≤q) gR w':=DI.mono fun q _ J=>by
       rcases J with J|J
       · have:=sI.yR;omega
       · exact (sI.bv q J).1
     rw[ct (n:=(j:Int)+1) (by omega) (by omega)]
     refine ⟨⟨j+1,cW,yZ,by omega,by omega,?_,yY.trans dB⟩,?_⟩
     · rw[take_succ _ a_];exact st
     · show ((n.vals.length:Int)-((j:Int)+1)).toNat<((n.vals.length:Int)-(j:Int)).toNat
       omega
   have cn:j=n.vals.length:=by have:=eB cn;omega
   subst cn
   rw[rv] at sI
   obtain ⟨d0,d1,d2,d3⟩:=b9 sI.v
   refine ⟨_,d0,aO,d1,bE,d2,aM,d3,qm n.leaf aO bE aM (Iz.an yY (by omega)) rfl (Q:=fun b K V D aw=>(fun v w'=>∃ (K V D:ad) (cr cI cf:Nat→Prop),v=eC n K V D∧i_ dd.heap.size w' n K V D cr cI cf∧Ext dd w') (.agg #[.bool b, .slice K.a K.len K.cap, .slice V.a V.len V.cap, .slice D.a D.len D.cap]) aw) fun cX nJ=>⟨aO,bE,aM,cr,cI,cf,rfl,?_,?_⟩⟩
   · exact (i_.an sI.mem nJ fun q J _ _ h=>by omega).low (by omega)
   · exact Ext.eX (Ext.gf g9 (vo.trans yY) fun k ae=>by omega) nJ (by omega)
end
section
theorem bV.mk' {B:Nat→Prop} {w:World} {s:ad} {ts:List ad} {ls:List Key} (aA:ts.length=ls.length) (bR:bU 1 ai.cG w s (ts.map oE)) (hi:In B w s) (bD:∀p∈ts.zip ls,bX B w p.1 p.2∧∀k,aP p.1 k→¬aP s k):bV B w s ls:=by
 refine ⟨ts,aA,bR,hi,fun i U ab=> ?_⟩
 have:=bD (ts[i],ls[i]) (by
   rw[List.mem_iff_getElem]
   exact ⟨i,by rw[AD];omega,by rw[Li]⟩)
 exact this
theorem bV.out {B:Nat→Prop} {w:World} {s:ad} {ls:List Key} (h:bV B w s ls):∃ts:List ad,ts.length=ls.length∧bU 1 ai.cG w s (ts.map oE)∧In B w s∧∀p∈ts.zip ls,bX B w p.1 p.2∧∀k,aP p.1 k→¬aP s k:=by
 obtain ⟨ts,U,ab,ao,aG⟩:=h
 refine ⟨ts,U,ab,ao,fun p a6=> ?_⟩
 obtain ⟨i,hi,rfl⟩:=List.mem_iff_getElem.1 a6
 rw[AD] at hi
 rw[Li]
 exact aG i (by omega) (by omega)
theorem Wm {α β:Type} (a:List α) (b:List β) (i:Nat):(a.take i).zip (b.take i)=(a.zip b).take i:=by
 rw[List.zip_eq_zipWith,List.zip_eq_zipWith,List.take_zipWith]
theorem Wn {α β:Type} (a:List α) (b:List β) (i:Nat):(a.drop i).zip (b.drop i)=(a.zip b).drop i:=by
 rw[List.zip_eq_zipWith,List.zip_eq_zipWith,List.drop_zipWith]
theorem Wo {B:Nat→Prop} {w:World} {s t:ad} {ls:List Key} {l:Key} {i:Nat} (bR:bV B w s ls) (ba:bX B w t l) (hd:∀k,aP t k→¬aP s k) (aD:ls.length≤100000) (hi:i≤ls.length):
   aR Tryz.prog F.w_ #[.slice s.a s.len s.cap, .int .i64 (i:Int), .slice (some ⟨w.heap.size,0,none⟩) 1 1] (w.alloc (.cells #[.slice t.a t.len t.cap] ai.cG))
     (fun u w'=>∃au:ad,u= .slice au.a au.len au.cap∧bV (Grow B w w') w' au (ls.take i++ [l]++ls.drop i)∧aq (aP s) w w'):=by
 obtain ⟨ts,U,ab,ao,aG⟩:=bV.out bR
 have fR:s.len=ls.length:=by have:=ab.1;rw[kR] at this;omega
 have af:=im w (.cells #[.slice t.a t.len t.cap] ai.cG)
 have il:=ck.new w #[.slice t.a t.len t.cap] ai.cG
 refine (agj (v:=⟨some ⟨w.heap.size,0,none⟩,1,1⟩) (xs:=[oE t]) (i:=i) (ab.ext af) (Src.new (T:=ai.cG) w [oE t] 1 rfl) rfl rfl il (fun h=>by have:=(ao _ h).2;omega) (fun v ak=>by rw[lN.1 ak];trivial) (L2 ts) (by omega) (by omega)).mono ?_
 rintro _ w' ⟨au,rfl,aC,aF,aH,aN⟩
 rw[lp] at aC
 have al:aq (aP s) w w':=(aq.e0 af).trans aH
 have dr:=al.size
 have FD:(w.alloc (.cells #[.slice t.a t.len t.cap] ai.cG)).heap.size=w.heap.size+1:=Dt _ _
 have lz:∀k,aP au k→aP s k∨w.heap.size≤k:=fun k ae=>(aN k ae).imp id fun h=>by omega
 have mA:∀ (x:ad),In B w x→(∀k,aP x k→¬aP s k)→∀k,aP x k→¬aP au k:=fun x af cB k ae dj=>by
   rcases lz k dj with h|h
   · exact cB k ae h
   · have:=(af k ae).2;omega
 have kX:∀ (x:ad) (y:Key),bX B w x y→(∀k,aP x k→¬aP s k)→bX (Grow B w w') w' x y∧∀k,aP x k→¬aP au k:=fun x y Wp cB=>⟨bX.bx (bX.pL Wp al cB) fun k _ h=> .inl h,mA x Wp.2.2 cB⟩
 refine ⟨au,rfl,bV.mk' (ts:=ts.take i++ [t]++ts.drop i) ?_ ?_ ?_ ?_,al⟩
 · simp only[dA,eA,fx,qP];omega
 · simpa[C4,Ff] using aC
 · intro k ae
   refine ⟨?_,aC.lt k ae⟩
   rcases lz k ae with h|h
   · exact .inl (ao k h).1
   · exact .inr ⟨h,aC.lt k ae⟩
 · intro p a6
   rw[List.zip_append (by simp only[dA,eA,qP];omega),List.zip_append (by simp only[eA];omega),Wm,Wn] at a6
   rcases eH.1 a6 with a6|a6
   · rcases eH.1 a6 with a6|a6
     · obtain ⟨a,b⟩:=aG p (jR a6)
       exact kX _ _ a b
     · simp only[List.zip_cons_cons,List.zip_nil_left,lN] at a6
       subst a6
       exact kX _ _ ba hd
   · obtain ⟨a,b⟩:=aG p (jC a6)
     exact kX _ _ a b
theorem agO:(Tryz.prog.info? ai.cG).bind (·.zero)=some (.slice none 0 0):=by kernel_rfl
theorem Wq {B:Nat→Prop} {w:World} {s:ad} {ls:List Key} {i:Nat} (bR:bV B w s ls) (aD:ls.length≤100000) (hi:i<ls.length):
   aR Tryz.prog F.xb #[.slice s.a s.len s.cap, .int .i64 (i:Int), .int .i64 ((i+1:Nat):Int)] w
     (fun u w'=>∃au:ad,u= .slice au.a au.len au.cap∧bV B w' au (ls.take i++ls.drop (i+1))∧aq (aP s) w w'):=by
 obtain ⟨ts,U,ab,ao,aG⟩:=bV.out bR
 have fR:s.len=ls.length:=by have:=ab.1;rw[kR] at this;omega
 refine (ags (i:=i) ab (L2 ts) (fun z bD u hu=>by
   rw[agO] at bD
   cases bD
   simp[Value.cells] at hu
   subst hu;trivial) (by omega) (by omega)).mono ?_
 rintro _ w' ⟨au,rfl,aC,aF,aH,aN⟩
 rw[lp,lp] at aC
 have dr:=aN.size
 have lz:∀k,aP au k→aP s k:=fun k ⟨A,ax,ae⟩=>⟨A,by rw[←aH];exact ax,ae⟩
 refine ⟨au,rfl,bV.mk' (ts:=ts.take i++ts.drop (i+1)) ?_ ?_ ?_ ?_,aN⟩
 · simp only[dA,eA,fx];omega
 · simpa[C4,Ff] using aC
 · exact fun k ae=>⟨(ao k (lz k ae)).1,aC.lt k ae⟩
 · intro p a6
   rw[List.zip_append (by simp only[eA];omega),Wm,Wn] at a6
   have hm:p∈ts.zip ls:=by
     rcases eH.1 a6 with a6|a6
     · exact jR a6
     · exact jC a6
   obtain ⟨a,b⟩:=aG p hm
   exact ⟨bX.pL a aN b,fun k ae dj=>b k ae (lz k dj)⟩
theorem agP {B:Nat→Prop} {w:World} {s t:ad} {ls:List Key} {l:Key} {i:Nat} (bR:bV B w s ls) (ba:bX B w t l) (hd:∀k,aP t k→¬aP s k) (hi:i<ls.length):
   ∃A:Addr,s.a=some A∧((0:Int)≤(i:Int)∧(i:Int)<((s.len:Nat):Int))∧(∃u:Value,w.cell? (A.add (Int.toNat (i:Int)*1))=some u)∧w.frozen? (A.add (Int.toNat (i:Int)*1))=false∧
     bV B (w.setCell (A.add (Int.toNat (i:Int)*1)) (oE t)) s (ls.set i l)∧aq (aP s) w (w.setCell (A.add (Int.toNat (i:Int)*1)) (oE t)):=by
 obtain ⟨ts,U,ab,ao,aG⟩:=bR
 obtain ⟨A,ax,aa,al,aI,eL,xe⟩:=ab.at (i:=i) (v:=oE (ts[i]'(by omega))) (by simp[U,hi])
 have tP:aq (aP s) w (w.setCell (A.add (Int.toNat (i:Int)*1)) (oE t)):=aq.set (.refl _ _) (fun _=>eL) _
 refine ⟨A,ax,aa,⟨_,al⟩,aI,⟨ts.set i t,by simp[U],?_,In.an ao tP,fun j aV b_=> ?_⟩,tP⟩
 · have:=xe (oE t)
   rwa[←List.map_set] at this
 · rw[iB] at aV b_
   rw[List.getElem_set,List.getElem_set]
   by_cases e:i=j
   · rw[if_pos e,if_pos e]
     exact ⟨bX.pL ba tP hd,hd⟩
   · rw[if_neg e,if_neg e]
     obtain ⟨a,b⟩:=aG j aV b_
     exact ⟨bX.pL a tP b,b⟩
def oc (n:aL) (k v:Key):aL:=
 if ob n.keys k then {n with vals:=n.vals.set (dP n.keys k) v}
 else {n with keys:=n.keys.take (dP n.keys k)++ [k]++n.keys.drop (dP n.keys k),vals:=n.vals.take (dP n.keys k)++ [v]++n.vals.drop (dP n.keys k)}
def xf (n:aL) (k:Key):aL:={n with keys:=n.keys.take (dP n.keys k)++n.keys.drop (dP n.keys k+1),vals:=n.vals.take (dP n.keys k)++n.vals.drop (dP n.keys k+1)}
theorem m_.ni {n:aL} (h:m_ n):(∀k∈n.keys,k.length≤100000)∧(∀v∈n.vals,v.length≤100000):=⟨fun k ae=>by have:=(h.ok k ae).2;omega,fun v ak=>by have:=h.vals v ak;omega⟩
def DJ (n:aL) (w:World) (v:Value) (w':World):Prop:=∃K V D:ad,v= .tuple #[eC n K V D, .bool true]∧b4 (fun q=>w.heap.size≤q) w' n K V D∧Ext w w'
theorem xg {B:Nat→Prop} {w:World} {n:aL} {K V D aK hT:ad} {key val:Key} (h:b4 B w n K V D) (aj:m_ n) (aD:n.keys.length≤10000) (ae:Src 1 w aK (bm key)) (ak:Src 1 w hT (bm val)) (ij:eV key) (qT:val.length≤24):
   aR Tryz.prog F.xg #[eC n K V D, .slice aK.a aK.len aK.cap, .slice hT.a hT.len hT.cap] w (DJ (oc n key val) w):=by
 have j7:=aj.len
 have kz:n.kids.length=0:=by rw[aj.kids];rfl
 have arK:=len8 ak
 have fI:key.length≤24:=ij.2
 refine W.agQ n.leaf K V D aK hT w _ ?_
 (delta W.xg c8 bJ ah FP aE ar aZ pb IB iE dK en aX st ey IC;dsimp only)
 refine cq (vs:=[.bool n.leaf, .slice K.a K.len K.cap, .slice V.a V.len V.cap, .slice D.a D.len D.cap]) rfl fun ag fH bH km=> ?_
 refine cq (vs:=[.bool false, .slice none 0 0, .slice none 0 0, .slice none 0 0]) rfl fun aw fz cB me=> ?_
 have oJ:=bH.trans cB
 obtain ⟨cy,aS,bA,aZ⟩:=b9 (fH.ext cB)
 refine ⟨n.leaf,cy,eI (fun b w'=>b=false∧Ext aw w') (fun q J=>⟨fun aa=> ?_,fun aa=>⟨_,cy,K,aS,V,bA,D,aZ,(mP (h.ext oJ) (by omega) (by omega) (by omega)).use ?_⟩⟩) ?_⟩
 · rw[aj.leaf] at aa;cases aa
 · rintro _ bc ⟨b,rfl,gM,eZ⟩
   have:=gM.2 (.inl aj)
   subst this
   exact ⟨true,rfl,J _ _ ⟨rfl,eZ⟩⟩
 rintro _ bc ⟨rfl,eZ⟩
 have g9:=oJ.trans eZ
 refine eI (fun b w'=>b=false∧bc=w') (fun q J=>⟨fun h=>(by cases h),fun _=>(tS (ae.ext g9)).use ?_⟩) ?_
 · rintro _ _ ⟨rfl,rfl⟩
   exact ⟨_,rfl,J _ _ ⟨by simp[ij],rfl⟩⟩
 rintro _ _ ⟨rfl,rfl⟩
 obtain ⟨cy,aS,bA,aZ⟩:=b9 (fH.ext (cB.trans eZ))
 refine ⟨fun aa=> ?_,fun _=>⟨_,cy,K,aS,V,bA,D,aZ,(fg (h.ext g9) (by omega) (by omega) (by omega) aj.ni.1 aj.ni.2).use ?_⟩⟩
 · have aa:decide ((((hT.len:Nat):Int):Int)>24)=true:=aa
   have:=di aa;omega
 rintro _ bz ⟨aO,bE,aM,cr,cI,cf,rfl,vq,fu⟩
 have sB:=g9.trans fu
 have Il:=sB.size
 have arL:=g9.size
 have arM:=eZ.size
 have arN:=fu.size
 refine ⟨n.leaf,aO,bE,aM,rfl,cq (vs:=[.bool false, .slice none 0 0, .slice none 0 0, .slice none 0 0]) rfl fun bT wY kp PZ=>⟨wY.de rfl ?_,rfl,dW wY (us:=[.bool n.leaf, .slice aO.a aO.len aO.cap, .slice bE.a bE.len bE.cap, .slice aM.a aM.len aM.cap]) rfl rfl fun bd tM pK Mj=> ?_⟩⟩
 · intro v ak
   simp only[fP,mL,mM] at ak
   rcases ak with rfl|rfl|rfl|rfl<;>trivial
 obtain ⟨aJ,eL⟩:∃aJ,aJ=bz.heap.size:=⟨_,rfl⟩
 rw[←eL] at tM pK⊢
 obtain ⟨lo,oz⟩:∃lo,lo=bc.heap.size:=⟨_,rfl⟩
 rw[←oz] at vq
 have oG:Ext w bd:=Ext.eX (sB.trans kp) pK (by omega)
 have vr:Var bd w.heap.size [.bool n.leaf, .slice K.a K.len K.cap, .slice V.a V.len V.cap, .slice D.a D.len D.cap] ai.cD:=(((fH.ext (cB.trans eZ)).ext fu).ext kp).an pK (by omega)
 have Wr:Var bd ag.heap.size [.bool false, .slice none 0 0, .slice none 0 0, .slice none 0 0] ai.cD:=(((fz.ext eZ).ext fu).ext kp).an pK (by omega)
 have kF:i_ lo bd n aO bE aM cr cI cf:=(vq.ext kp).an pK fun q _ _ J e=>by
   subst e
   rcases J with J|J|J
   · have:=(vq.bK _ J).2.1;omega
   · have:=(vq.bv _ J).2.1;omega
   · have:=(vq.aX _ J).2;omega
 obtain ⟨cy,aS,bA,aZ⟩:=b9 vr
 have hle:=Fx n.keys key
 refine ⟨_,cy,K,aS,V,bA,D,aZ,(qo (h.ext oG) (ae.ext oG) aj.jk (by omega)).use ?_⟩
 rintro _ bt ⟨rfl,fe⟩
 have tN:=oG.trans fe
 have Mk:=fe.size
 refine ⟨_,_,rfl,fun cK=> ?_,fun cK=> ?_⟩
 ·
   have bS:=eR bt
   have kV:=fe.trans bS
   have a_:dP n.keys key<n.keys.length:=by
     have:=di cK
     exact (rq.1 this).1
   obtain ⟨d0,d1,d2,d3⟩:=b9 (tM.ext kV)
   refine bW ⟨fun _=>False,id,bE,d2,(tQ (B:=fun q=>bt.heap.size≤q) (ak.ext (tN.trans bS)) (by omega) (fun q J=>J)).use ?_⟩
   rintro _ bC ⟨t,rfl,ba,fF,VH⟩
   have A8:=kV.trans fF
   have Qe:=kF.ext A8
   have DC:=A8.size
   have agR:bV (Grow cI bt bC) bC bE n.vals:=bV.bx Qe.vals fun k _ h=> .inl h
   have vt:∀k,aP bE k→cI k:=fun k ae=>by obtain ⟨ts,_,_,ao,_⟩:=kF.vals;exact (ao k ae).1
   obtain ⟨A,ax,aa,kA,Ws,xe,tP⟩:=agP (i:=dP n.keys key) agR (bX.bx ba fun k ae h=> .inr ⟨h,ae⟩) (fun k iY dj=>by
     have:=(ba.2.2 k iY).1
     have:=(kF.bv k (vt k dj)).2.1
     omega) (by omega)
   refine ⟨t,rfl,fF,A,ax,aa,kA,Ws,bW ?_⟩
   obtain ⟨bY,FQ⟩:∃bY,bY=bC.setCell (A.add (Int.toNat (dP n.keys key:Int)*1)) (oE t):=⟨_,rfl⟩
   rw[←FQ] at xe tP
   have agS:bC.setCell (A.add (Int.toNat (dP n.keys key:Int)*1)) (.slice t.a t.len t.cap)=bY:=FQ.symm
   rw[agS]
   have ID:aq (fun q=>lo≤q∧q<bd.heap.size∧cI q) bC bY:=tP.mono fun k _ ae=>⟨(kF.bv k (vt k ae)).1,(kF.bv k (vt k ae)).2.1,vt k ae⟩
   have nG:=(tM.ext A8).an ID (fun e=>by
     have U:=(vq.bv _ e.2.2).2.1;omega)
   obtain ⟨gB,aW,bq,ec⟩:=b9 nG
   have agT:b4 (fun q=>lo≤q) bY (oc n key val) aO bE aM:=by
     unfold oc
     rw[if_pos cK]
     refine ⟨bO.bx (bO.an (bV.pM Qe.keys) ID fun q J e=>(kF.bK q J).2.2.1 e.2.2) fun q _ J=>(kF.bK q J).1,bO.bx (bV.pM xe) fun q _ J=> ?_,dJ.bx (dJ.an (dY.FI Qe.kids) ID fun q J e=>(kF.bv q e.2.2).2.2 J) fun q _ J=>(kF.aX q J).1⟩
     rcases J with J|J
     · exact (kF.bv q J).1
     · omega
   have Io:(oc n key val).leaf=n.leaf:=by unfold oc;rw[if_pos cK]
   refine ⟨_,gB,aO,aW,bE,bq,aM,ec,qm n.leaf aO bE aM ((Wr.ext A8).an ID (fun e=>by have:=e.1;omega)) rfl (Q:=fun b K V D aw=>DJ (oc n key val) w (.tuple #[.agg #[.bool b, .slice K.a K.len K.cap, .slice V.a V.len V.cap, .slice D.a D.len D.cap], .bool true]) aw) fun cj vu=>⟨aO,bE,aM,by unfold eC;rw[Io],?_,?_⟩⟩
   · exact (agT.an vu fun q J e=>by omega).bx fun q _ J=>by omega
   · exact Ext.eX (Ext.gf (oG.trans A8) ID fun k ae=>by omega) vu (by omega)
 ·
   have bS:=eR bt
   have kV:=fe.trans bS
   have kY:oM lo bt.drew aJ n aO bE aM cr cI cf:=by
     have qZ:=kF.ext kV
     refine ⟨tM.ext kV,qZ.keys,qZ.vals,qZ.kids,fun q J=> ?_,fun q J=> ?_,fun q J=> ?_,by omega⟩
     · have U:=qZ.bK q J;have:=(vq.bK q J).2.1;exact ⟨U.1,U.2.1,by omega,U.2.2⟩
     · have U:=qZ.bv q J;have:=(vq.bv q J).2.1;exact ⟨U.1,U.2.1,by omega,U.2.2⟩
     · have U:=qZ.aX q J;have:=(vq.aX q J).2;exact ⟨U.1,U.2,by omega⟩
   obtain ⟨d0,d1,d2,d3⟩:=b9 kY.v
   refine bW ⟨fun _=>False,id,aO,d1,(tQ (B:=fun q=>bt.heap.size≤q) (ae.ext (tN.trans bS)) (by omega) (fun q J=>J)).use ?_⟩
   rintro _ bC ⟨t,rfl,ba,fF,VH⟩
   have DC:bt.heap.size≤bC.heap.size:=(bS.trans fF).size
   have jY:∀k,aP aO k→cr k:=fun k ae=>by obtain ⟨ts,_,_,ao,_⟩:=kF.keys;exact (ao k ae).1
   have vt:∀k,aP bE k→cI k:=fun k ae=>by obtain ⟨ts,_,_,ao,_⟩:=kF.vals;exact (ao k ae).1
   have oN:=kY.ext fF
   refine ⟨t,rfl,fF,bW ⟨im _ _,(Wo (B:=Grow cr bt bC) (i:=dP n.keys key) (bV.bx oN.keys fun k _ h=> .inl h) (bX.bx ba fun k ae h=> .inr ⟨h,ae⟩) (fun k iY dj=>by
     have:=(ba.2.2 k iY).1
     have:=(kF.bK k (jY k dj)).2.1
     omega) (by omega) hle).use ?_⟩⟩
   rintro _ bY ⟨S,rfl,n_,gw⟩
   have FR:=gw.size
   have IE:aq (fun q=>lo≤q∧cr q) bC bY:=gw.mono fun k _ ae=>⟨(kF.bK k (jY k ae)).1,jY k ae⟩
   have nG:=oN.v.an IE fun e=>(oN.bK _ e.2).2.2.1 rfl
   obtain ⟨s1,s2⟩:=jI nG (i:=1) (by simp)
   refine ⟨S,rfl,?_⟩
   rw[bn,bn]
   refine ⟨s1,s2,bW (bW ?_)⟩
   obtain ⟨cj,Qf⟩:∃cj,cj=(bY.setCell ⟨aJ,0+1,none⟩ (.slice S.a S.len S.cap)).drew:=⟨_,rfl⟩
   rw[←Qf]
   have vu:aq (fun q=>q=aJ) bY cj:=by rw[Qf];exact aq.drew (iq _ _ _ _)
   have Wt:Var cj aJ [.bool n.leaf, .slice S.a S.len S.cap, .slice bE.a bE.len bE.cap, .slice aM.a aM.len aM.cap] ai.cD:=by rw[Qf];exact (jH nG _).drew
   have Wu:=vu.size
   have arO:aJ<bt.heap.size:=by have:=tM.lt;omega
   have agU:bV (fun q=>cr q∨(bt.heap.size≤q∧q<bY.heap.size)) cj S (n.keys.take (dP n.keys key)++ [key]++n.keys.drop (dP n.keys key)):=by
     refine bV.an (bV.bx n_ fun k _ ae=> ?_) vu fun k ae e=> ?_
     · rcases ae with (ae|ae)|ae
       · exact .inl ae
       · exact .inr ⟨ae.1,by omega⟩
       · exact .inr ⟨by omega,ae.2⟩
     · subst e
       rcases ae with ae|ae
       · exact (oN.bK _ ae).2.2.1 rfl
       · omega
   have agV:bV cI cj bE n.vals:=bV.an (bV.an oN.vals IE fun q J e=>(oN.bK q e.2).2.2.2.1 J) vu fun q J e=>(oN.bv q J).2.2.1 e
   have agW:dY cf cj aM n.kids:=dY.an (dY.an oN.kids IE fun q J e=>(oN.bK q e.2).2.2.2.2 J) vu fun q J e=>(oN.aX q J).2.2 e
   have Wv:Ext w cj:=Ext.gf (Ext.gf ((tN.trans bS).trans fF) IE fun k ae=>by omega) vu fun k ae=>by omega
   obtain ⟨f0,f1,f2,f3⟩:=b9 Wt
   rw[bn] at f2
   refine ⟨fun _=>False,id,bE,f2,(tQ (B:=fun q=>cj.heap.size≤q) (ak.ext Wv) (by omega) (fun q J=>J)).use ?_⟩
   rintro _ bZ ⟨t2,rfl,mQ,mh,afi⟩
   have agX:=mh.size
   refine ⟨t2,rfl,mh,bW ⟨im _ _,(Wo (B:=Grow cI cj bZ) (i:=dP n.keys key) (bV.bx (bV.ext agV mh) fun k _ h=> .inl h) (bX.bx mQ fun k ae h=> .inr ⟨h,ae⟩) (fun k iY dj=>by
     have:=(mQ.2.2 k iY).1
     have:=(kF.bv k (vt k dj)).2.1
     omega) (by omega) (by omega)).use ?_⟩⟩
   rintro _ cL ⟨hA,rfl,yN,A9⟩
   have Ww:=A9.size
   have IF:aq (fun q=>lo≤q∧cI q) bZ cL:=A9.mono fun k _ ae=>⟨(kF.bv k (vt k ae)).1,vt k ae⟩
   have Wx:=(Wt.ext mh).an IF fun e=>(oN.bv _ e.2).2.2.1 rfl
   obtain ⟨s1,s2⟩:=jI Wx (i:=2) (by simp)
   refine ⟨hA,rfl,?_⟩
   rw[bn,bn]
   refine ⟨s1,s2,bW ?_⟩
   obtain ⟨cm,Qg⟩:∃cm,cm=cL.setCell ⟨aJ,0+2,none⟩ (.slice hA.a hA.len hA.cap):=⟨_,rfl⟩
   rw[←Qg]
   have rH:aq (fun q=>q=aJ) cL cm:=by rw[Qg];exact iq _ _ _ _
   have yW:Var cm aJ [.bool n.leaf, .slice S.a S.len S.cap, .slice hA.a hA.len hA.cap, .slice aM.a aM.len aM.cap] ai.cD:=by rw[Qg];exact jH Wx _
   have IG:=rH.size
   obtain ⟨IH,aC,aF,aH⟩:=b9 yW
   rw[bn] at aC aF aH
   have DH:b4 (fun q=>lo≤q) cm (oc n key val) S hA aM:=by
     unfold oc
     rw[if_neg (by rw[cK];simp)]
     refine ⟨?_,?_,?_⟩
     · refine bO.bx (bV.pM (bV.an (bV.an (bV.ext agU mh) IF fun q J e=> ?_) rH fun q J e=> ?_)) fun q _ J=> ?_
       · rcases J with J|J
         · exact (oN.bK q J).2.2.2.1 e.2
         · have:=(kF.bv q e.2).2.1;omega
       · subst e
         rcases J with J|J
         · exact (oN.bK _ J).2.2.1 rfl
         · omega
       · rcases J with J|J
         · exact (oN.bK q J).1
         · omega
     · refine bO.bx (bV.pM (bV.an yN rH fun q J e=> ?_)) fun q _ J=> ?_
       · subst e
         rcases J with (J|J)|J
         · exact (oN.bv _ J).2.2.1 rfl
         · omega
         · omega
       · rcases J with (J|J)|J
         · exact (oN.bv q J).1
         · omega
         · omega
     · exact dJ.bx (dY.FI (dY.an (dY.an (dY.ext agW mh) IF fun q J e=>(oN.bv q e.2).2.2.2 J) rH fun q J e=>(oN.aX q J).2.2 e)) fun q _ J=>(oN.aX q J).1
   have agY:(oc n key val).leaf=n.leaf:=by unfold oc;rw[if_neg (by rw[cK];simp)]
   have A_:Ext w cm:=Ext.gf (Ext.gf (Wv.trans mh) IF fun k ae=>by omega) rH fun k ae=>by omega
   have Iz:Var cm ag.heap.size [.bool false, .slice none 0 0, .slice none 0 0, .slice none 0 0] ai.cD:=by
     have U:=Wr.ext (kV.trans fF)
     have ab:=(U.an IE (fun e=>by have:=e.1;omega)).an vu (by omega)
     exact ((ab.ext mh).an IF (fun e=>by have:=e.1;omega)).an rH (by omega)
   rw[bn,bn]
   refine ⟨_,IH,S,aC,hA,aF,aM,aH,?_⟩
   have:=qm n.leaf S hA aM Iz rfl (Q:=fun b K V D aw=>DJ (oc n key val) w (.tuple #[.agg #[.bool b, .slice K.a K.len K.cap, .slice V.a V.len V.cap, .slice D.a D.len D.cap], .bool true]) aw) fun dE gk=>⟨S,hA,aM,by unfold eC;rw[agY],(DH.an gk fun q J e=>by omega).bx fun q _ J=>by omega,Ext.eX A_ gk (by omega)⟩
   simpa only[bn] using this
end
section
def FT (n:aL) (key:Key) (w:World) (v:Value) (w':World):Prop:=
 if ob n.keys key then DJ (xf n key) w v w' else v= .tuple #[eC oa bP bP bP, .bool false]∧Ext w w'
theorem xh {B:Nat→Prop} {w:World} {n:aL} {K V D aK:ad} {key:Key} (h:b4 B w n K V D) (aj:m_ n) (aD:n.keys.length≤10000) (ae:Src 1 w aK (bm key)):
   aR Tryz.prog F.xh #[eC n K V D, .slice aK.a aK.len aK.cap] w (FT n key w):=by
 have j7:=aj.len
 have kz:n.kids.length=0:=by rw[aj.kids];rfl
 refine W.agZ n.leaf K V D aK w _ ?_
 (delta W.xh c8 bJ ah ar dK FP aE aZ pb IB iE en ay st ey IC;dsimp only)
 refine cq (vs:=[.bool n.leaf, .slice K.a K.len K.cap, .slice V.a V.len V.cap, .slice D.a D.len D.cap]) rfl fun ag fH bH km=> ?_
 refine cq (vs:=[.bool false, .slice none 0 0, .slice none 0 0, .slice none 0 0]) rfl fun aw fz cB me=> ?_
 have oJ:=bH.trans cB
 obtain ⟨cy,aS,bA,aZ⟩:=b9 (fH.ext cB)
 refine ⟨_,cy,K,aS,V,bA,D,aZ,(qo (h.ext oJ) (ae.ext oJ) aj.jk (by omega)).use ?_⟩
 rintro _ bc ⟨rfl,eZ⟩
 have g9:=oJ.trans eZ
 obtain ⟨cy,aS,bA,aZ⟩:=b9 (fH.ext (cB.trans eZ))
 refine ⟨_,_,rfl,n.leaf,cy,eI (fun b w'=>b=false∧Ext bc w') (fun q J=>⟨fun aa=> ?_,fun aa=>⟨_,cy,K,aS,V,bA,D,aZ,(mP (h.ext g9) (by omega) (by omega) (by omega)).use ?_⟩⟩) ?_⟩
 · rw[aj.leaf] at aa;cases aa
 · rintro _ bz ⟨b,rfl,gM,fu⟩
   have:=gM.2 (.inl aj)
   subst this
   exact ⟨true,rfl,J _ _ ⟨rfl,fu⟩⟩
 rintro _ bz ⟨rfl,fu⟩
 have sB:=g9.trans fu
 have II:=fu.size
 have FU:=eZ.size
 have Wy:=fz.ext (eZ.trans fu)
 refine ⟨fun aa=> ?_,fun aa=> ?_⟩
 · have aa:ob n.keys key=false:=by simpa using aa
   refine qm false bP bP bP Wy rfl (Q:=fun b K V D aw=>FT n key w (.tuple #[.agg #[.bool b, .slice K.a K.len K.cap, .slice V.a V.len V.cap, .slice D.a D.len D.cap], .bool false]) aw) fun bT kU=> ?_
   unfold FT
   rw[if_neg (by rw[aa];simp)]
   exact ⟨rfl,Ext.eX sB kU (by omega)⟩
 have cK:ob n.keys key=true:=by simpa using aa
 have a_:dP n.keys key<n.keys.length:=(rq.1 (di cK)).1
 obtain ⟨cy,aS,bA,aZ⟩:=b9 (fH.ext (cB.trans (eZ.trans fu)))
 refine ⟨_,cy,K,aS,V,bA,D,aZ,(fg (h.ext sB) (by omega) (by omega) (by omega) aj.ni.1 aj.ni.2).use ?_⟩
 rintro _ bT ⟨aO,bE,aM,cr,cI,cf,rfl,tZ,kp⟩
 have pJ:=sB.trans kp
 have Ml:=kp.size
 refine ⟨n.leaf,aO,bE,aM,rfl,cq (vs:=[.bool false, .slice none 0 0, .slice none 0 0, .slice none 0 0]) rfl fun bd tM jG Mj=>⟨tM.de rfl ?_,rfl,dW tM (us:=[.bool n.leaf, .slice aO.a aO.len aO.cap, .slice bE.a bE.len bE.cap, .slice aM.a aM.len aM.cap]) rfl rfl fun bt FG pP Mm=> ?_⟩⟩
 · intro v ak
   simp only[fP,mL,mM] at ak
   rcases ak with rfl|rfl|rfl|rfl<;>trivial
 obtain ⟨aJ,eL⟩:∃aJ,aJ=bT.heap.size:=⟨_,rfl⟩
 rw[←eL] at FG pP⊢
 obtain ⟨lo,oz⟩:∃lo,lo=bz.heap.size:=⟨_,rfl⟩
 rw[←oz] at tZ
 have tN:Ext w bt:=Ext.eX (pJ.trans jG) pP (by omega)
 have Qh:Var bt ag.heap.size [.bool false, .slice none 0 0, .slice none 0 0, .slice none 0 0] ai.cD:=((Wy.ext kp).ext jG).an pP (by omega)
 have kY:oM lo bt aJ n aO bE aM cr cI cf:=by
   have qZ:i_ lo bt n aO bE aM cr cI cf:=(tZ.ext jG).an pP fun q _ _ J e=>by
     subst e
     rcases J with J|J|J
     · have:=(tZ.bK _ J).2.1;omega
     · have:=(tZ.bv _ J).2.1;omega
     · have:=(tZ.aX _ J).2;omega
   refine ⟨FG,qZ.keys,qZ.vals,qZ.kids,fun q J=> ?_,fun q J=> ?_,fun q J=> ?_,by omega⟩
   · have U:=qZ.bK q J;have:=(tZ.bK q J).2.1;exact ⟨U.1,U.2.1,by omega,U.2.2⟩
   · have U:=qZ.bv q J;have:=(tZ.bv q J).2.1;exact ⟨U.1,U.2.1,by omega,U.2.2⟩
   · have U:=qZ.aX q J;have:=(tZ.aX q J).2;exact ⟨U.1,U.2,by omega⟩
 have jY:∀k,aP aO k→cr k:=fun k ae=>by obtain ⟨ts,_,_,ao,_⟩:=kY.keys;exact (ao k ae).1
 have vt:∀k,aP bE k→cI k:=fun k ae=>by obtain ⟨ts,_,_,ao,_⟩:=kY.vals;exact (ao k ae).1
 obtain ⟨d0,d1,d2,d3⟩:=b9 kY.v
 have arP:=kY.v.lt
 rw[ct (n:=((dP n.keys key:Nat):Int)+1) (by omega) (by omega)]
 refine ⟨aO,d1,(Wq kY.keys (by omega) a_).use ?_⟩
 rintro _ bC ⟨S,rfl,n_,A2⟩
 have IJ:aq (fun q=>lo≤q∧cr q) bt bC:=A2.mono fun k _ ae=>⟨(kY.bK k (jY k ae)).1,jY k ae⟩
 have rE:=kY.v.an IJ fun e=>(kY.bK _ e.2).2.2.1 rfl
 obtain ⟨s1,s2⟩:=jI rE (i:=1) (by simp)
 refine ⟨S,rfl,?_⟩
 rw[bn,bn]
 refine ⟨s1,s2,bW ?_⟩
 obtain ⟨bY,FQ⟩:∃bY,bY=bC.setCell ⟨aJ,0+1,none⟩ (.slice S.a S.len S.cap):=⟨_,rfl⟩
 rw[←FQ]
 have gw:aq (fun q=>q=aJ) bC bY:=by rw[FQ];exact iq _ _ _ _
 have Wz:Var bY aJ [.bool n.leaf, .slice S.a S.len S.cap, .slice bE.a bE.len bE.cap, .slice aM.a aM.len aM.cap] ai.cD:=by rw[FQ];exact jH rE _
 have ag0:bV cr bY S (n.keys.take (dP n.keys key)++n.keys.drop (dP n.keys key+1)):=bV.an n_ gw fun q J e=>(kY.bK q J).2.2.1 e
 have ag1:bV cI bY bE n.vals:=bV.an (bV.an kY.vals IJ fun q J e=>(kY.bK q e.2).2.2.2.1 J) gw fun q J e=>(kY.bv q J).2.2.1 e
 have ag2:dY cf bY aM n.kids:=dY.an (dY.an kY.kids IJ fun q J e=>(kY.bK q e.2).2.2.2.2 J) gw fun q J e=>(kY.aX q J).2.2 e
 obtain ⟨f0,f1,f2,f3⟩:=b9 Wz
 rw[bn] at f2
 refine ⟨bE,f2,(Wq ag1 (by omega) (by omega)).use ?_⟩
 rintro _ cj ⟨hA,rfl,yN,vu⟩
 have IK:aq (fun q=>lo≤q∧cI q) bY cj:=vu.mono fun k _ ae=>⟨(kY.bv k (vt k ae)).1,vt k ae⟩
 have IL:=Wz.an IK fun e=>(kY.bv _ e.2).2.2.1 rfl
 obtain ⟨s1,s2⟩:=jI IL (i:=2) (by simp)
 refine ⟨hA,rfl,?_⟩
 rw[bn,bn]
 refine ⟨s1,s2,bW ?_⟩
 obtain ⟨bZ,DK⟩:∃bZ,bZ=cj.setCell ⟨aJ,0+2,none⟩ (.slice hA.a hA.len hA.cap):=⟨_,rfl⟩
 rw[←DK]
 have DL:aq (fun q=>q=aJ) cj bZ:=by rw[DK];exact iq _ _ _ _
 have ag3:Var bZ aJ [.bool n.leaf, .slice S.a S.len S.cap, .slice hA.a hA.len hA.cap, .slice aM.a aM.len aM.cap] ai.cD:=by rw[DK];exact jH IL _
 obtain ⟨IH,aC,aF,aH⟩:=b9 ag3
 have hU:b4 (fun q=>lo≤q) bZ (xf n key) S hA aM:=by
   refine ⟨?_,?_,?_⟩
   · exact bO.bx (bV.pM (bV.an (bV.an ag0 IK fun q J e=>(kY.bK q J).2.2.2.1 e.2) DL fun q J e=>(kY.bK q J).2.2.1 e)) fun q _ J=>(kY.bK q J).1
   · exact bO.bx (bV.pM (bV.an yN DL fun q J e=>(kY.bv q J).2.2.1 e)) fun q _ J=>(kY.bv q J).1
   · exact dJ.bx (dY.FI (dY.an (dY.an ag2 IK fun q J e=>(kY.bv q e.2).2.2.2 J) DL fun q J e=>(kY.aX q J).2.2 e)) fun q _ J=>(kY.aX q J).1
 have t_:Ext w bZ:=Ext.gf (Ext.gf (Ext.gf (Ext.gf tN IJ fun k ae=>by omega) gw fun k ae=>by omega) IK fun k ae=>by omega) DL fun k ae=>by omega
 have ag4:Var bZ ag.heap.size [.bool false, .slice none 0 0, .slice none 0 0, .slice none 0 0] ai.cD:=
   (((Qh.an IJ (fun e=>by have:=e.1;omega)).an gw (by omega)).an IK (fun e=>by have:=e.1;omega)).an DL (by omega)
 refine ⟨_,IH,S,aC,hA,aF,aM,aH,qm n.leaf S hA aM ag4 rfl (Q:=fun b K V D aw=>FT n key w (.tuple #[.agg #[.bool b, .slice K.a K.len K.cap, .slice V.a V.len V.cap, .slice D.a D.len D.cap], .bool true]) aw) fun cL A9=> ?_⟩
 unfold FT
 rw[if_pos cK]
 exact ⟨S,hA,aM,rfl,(hU.an A9 fun q J e=>by omega).bx fun q _ J=>by omega,Ext.eX t_ A9 (by omega)⟩
theorem Qi {n:aL} (aj:dC n) (m:Nat):((cellsOf n).take m).sum≤100*n.keys.length:=by
 have U:((cellsOf n).take m).sum≤(cellsOf n).sum:=by
   have:=Pf (cellsOf n) m;omega
 have ab:=Px aj n.keys.length (cU _)
 rw[gV (by rw[FE aj];exact cU _)] at ab
 have ao:=PS aj n.keys.length (cU _)
 omega
theorem rJ {B:Nat→Prop} {w:World} {n:aL} {K V D:ad} (h:b4 B w n K V D) (aj:dC n) (aD:n.keys.length≤10000) {most:Nat} (hm:most≤n.keys.length):
   aR Tryz.prog F.rJ #[eC n K V D, .int .i64 ((most:Nat):Int)] w (fun v w'=>v= .int .i64 ((mf (cellsOf n) most:Nat):Int)∧Ext w w'):=by
 refine W.ag5 n.leaf K V D ((most:Nat):Int) w _ ?_
 (delta W.rJ ar ah aE bJ en ay;dsimp only)
 refine cq (vs:=[.bool n.leaf, .slice K.a K.len K.cap, .slice V.a V.len V.cap, .slice D.a D.len D.cap]) rfl fun ag lQ bH _=> ?_
 obtain ⟨cy,aS,bA,aZ⟩:=b9 lQ
 have A0:=bO.len h.keys
 have AL:=FE aj
 have kA:∀ (j:Nat) (aU:j<(cellsOf n).length),(cellsOf n)[j]=(nf n j).length:=fun j aU=>by
   have U:=Pw aj (i:=j) (by omega)
   rw[gq aU] at U
   exact Option.some.inj U
 refine ⟨K,aS,fun a i w'=>∃j:Nat,i=j∧j≤n.keys.length∧a=((((cellsOf n).take j).sum:Nat):Int)∧Ext ag w',fun _ i _=>((n.keys.length:Int)-i).toNat,⟨0,rfl,fy _,by simp, .refl _ _⟩,?_⟩
 rintro _ _ aw ⟨j,rfl,aU,rfl,cB⟩
 obtain ⟨d0,d1,d2,d3⟩:=b9 (lQ.ext cB)
 refine ⟨fun a_=> ?_,fun cn=> ?_⟩
 · have a_:j<n.keys.length:=by have:=di a_;omega
   refine ⟨_,d0,K,d1,V,d2,D,d3,(rG (h.ext (bH.trans cB)) aj a_ (by omega)).use ?_⟩
   rintro _ bc ⟨s,rfl,bR,eZ,_⟩
   have aA:=yB bR
   have aa:=Qi aj j
   have al:=L3 aj a_
   have e:=Fs (l:=cellsOf n) (i:=j) (by omega)
   rw[kA j (by omega)] at e
   refine ⟨s,rfl,?_⟩
   rw[aA,ct (n:=((((cellsOf n).take j).sum:Nat):Int)+(((nf n j).length:Nat):Int)) (by omega) (by omega),ct (n:=(j:Int)+1) (by omega) (by omega)]
   refine ⟨⟨j+1,by omega,by omega,by omega,cB.trans eZ⟩,?_⟩
   show ((n.keys.length:Int)-((j:Int)+1)).toNat<((n.keys.length:Int)-(j:Int)).toNat
   omega
 have cn:j=n.keys.length:=by have:=eB cn;omega
 subst cn
 rw[gV (l:=cellsOf n) (by omega)]
 refine ⟨fun a i w'=>∃j:Nat,i=j∧j≤most∧a=((((cellsOf n).take j).sum:Nat):Int)∧Ext ag w'∧∀k,k<j→2*((cellsOf n).take (k+1)).sum<(cellsOf n).sum,fun _ i _=>((most:Int)-i).toNat,⟨0,rfl,fy _,by simp,cB,fun k ae=>by omega⟩,?_⟩
 rintro _ _ bz ⟨j,rfl,aU,rfl,fu,dx⟩
 obtain ⟨d0,d1,d2,d3⟩:=b9 (lQ.ext fu)
 have eT:=Qi aj (cellsOf n).length
 rw[rv] at eT
 refine ⟨fun a_=> ?_,fun cn=> ?_⟩
 · have a_:j<most:=by have:=di a_;omega
   refine ⟨_,d0,K,d1,V,d2,D,d3,(rG (h.ext (bH.trans fu)) aj (by omega) (by omega)).use ?_⟩
   rintro _ bT ⟨s,rfl,bR,kp,_⟩
   have aA:=yB bR
   have aa:=Qi aj j
   have al:=L3 aj (i:=j) (by omega)
   have e:=Fs (l:=cellsOf n) (i:=j) (by omega)
   rw[kA j (by omega)] at e
   refine ⟨s,rfl,?_⟩
   rw[aA,ct (n:=((((cellsOf n).take j).sum:Nat):Int)+(((nf n j).length:Nat):Int)) (by omega) (by omega),ct (n:=2*(((((cellsOf n).take j).sum:Nat):Int)+(((nf n j).length:Nat):Int))) (by omega) (by omega),ct (n:=(j:Int)+1) (by omega) (by omega)]
   refine ⟨fun hd=>⟨?_,bH.trans (fu.trans kp)⟩,fun hd=>⟨⟨j+1,by omega,by omega,by omega,fu.trans kp,fun k ae=> ?_⟩,?_⟩⟩
   · have hd:=di hd
     have xi:(List.range most).find? (fun i=>decide ((cellsOf n).sum≤2*((cellsOf n).take (i+1)).sum))=some j:=by
       have:=lP a_ (cU most)
       rw[List.find?_eq_some_iff_append]
       refine ⟨jB (by omega),List.range j,List.range' (j+1) (most-(j+1)),?_,fun a aT=> ?_⟩
       · have aW:=List.range'_append (s:=0) (m:=j) (n:=most-(j+1)+1) (step:=1)
         rw[Lm,Lm,←List.range'_succ]
         rw[Nat.one_mul,gd] at aW
         rw[aW]
         congr 1
         omega
       · have:=dx a (tA.1 aT)
         simp;omega
     unfold mf
     rw[xi];rfl
   · have hd:=eB hd
     rcases g2 k j with U|U
     · exact dx k U
     · have:k=j:=by omega
       subst this;omega
   · show ((most:Int)-((j:Int)+1)).toNat<((most:Int)-(j:Int)).toNat
     omega
 · have cn:j=most:=by have:=eB cn;omega
   subst cn
   refine ⟨?_,bH.trans fu⟩
   have xi:(List.range j).find? (fun i=>decide ((cellsOf n).sum≤2*((cellsOf n).take (i+1)).sum))=none:=by
     rw[tz]
     intro a aT
     have:=dx a (tA.1 aT)
     simp;omega
   unfold mf
   rw[xi]
end
section
theorem bO.sub {B:Nat→Prop} {w:World} {s:ad} {ls:List Key} {lo hi:Nat} (h:bO B w s ls) (U:lo≤hi) (ab:hi≤ls.length):bO B w ⟨bf s.a 1 lo s.cap,hi-lo,s.cap-lo⟩ ((ls.drop lo).take (hi-lo)):=by
 have aA:=bO.len h
 obtain ⟨ts,aC,aF,aH,aN,cV⟩:=h
 refine ⟨(ts.drop lo).take (hi-lo),by simp[aC],?_,by show hi-lo≤s.cap-lo;omega,fun k ae=> ?_,fun i ao aG=> ?_⟩
 · have:=Src.sub aF aH U (by omega)
   simpa[Ff,C4] using this
 · obtain ⟨A,ax,aa⟩:=L4 ae
   exact aN k ⟨A,ax,aa⟩
 · simp only[HN,Lh]
   rw[eA,fx] at ao aG
   exact cV (lo+i) (by omega) (by omega)
theorem bO.le {B:Nat→Prop} {w:World} {s:ad} {ls:List Key} (h:bO B w s ls):s.len≤s.cap:=by
 obtain ⟨ts,_,_,ao,_⟩:=h
 exact ao
theorem dJ.sub {B:Nat→Prop} {w:World} {s:ad} {ds:List Nat} {lo hi:Nat} (h:dJ B w s ds) (U:lo≤hi) (ab:hi≤ds.length):dJ B w ⟨bf s.a 1 lo s.cap,hi-lo,s.cap-lo⟩ ((ds.drop lo).take (hi-lo)):=by
 have aA:=dJ.len h
 obtain ⟨aF,aH,aN⟩:=h
 have arQ:s.len≤s.cap:=aH
 refine ⟨?_,by show hi-lo≤s.cap-lo;omega,fun k ae=> ?_⟩
 · have:=Src.sub aF aH U (by omega)
   simpa[gg,Ff,C4] using this
 · obtain ⟨A,ax,aa⟩:=L4 ae
   exact aN k ⟨A,ax,aa⟩
theorem kG (b:Bool) (K V D:ad):∀v∈([.bool b, .slice K.a K.len K.cap, .slice V.a V.len V.cap, .slice D.a D.len D.cap]:List Value),Plain v:=by
 intro v ak
 simp only[fP,mL,mM] at ak
 rcases ak with rfl|rfl|rfl|rfl<;>trivial
theorem FV {ml:World} {bL ar:Nat} {Qj Qk:List Value} {c5 cA:Bool} {dy dR dS cP cW c6:ad} (U:Var ml bL Qj ai.cD) (ab:Var ml ar Qk ai.cD) (xj:Qj.length=4) (rK:Qk.length=4) (dI:bL≠ar) {W:Nat→Prop} (c9:∀q,q=bL→W q)
   {Q:Bool→ad→ad→ad→Bool→ad→ad→ad→World→Prop} (w8:∀kZ,aq (fun q=>q=bL∨q=ar) ml kZ→Q c5 dy dR dS cA cP cW c6 kZ):
   cN ml ⟨bL,0,none⟩ [.bool c5, .slice dy.a dy.len dy.cap, .slice dR.a dR.len dR.cap, .slice dS.a dS.len dS.cap]∧(4:Nat)=4∧az (setCells ml ⟨bL,0,none⟩ 0 [.bool c5, .slice dy.a dy.len dy.cap, .slice dR.a dR.len dR.cap, .slice dS.a dS.len dS.cap]) fun k0=>
     aq W ml k0∧cN k0 ⟨ar,0,none⟩ [.bool cA, .slice cP.a cP.len cP.cap, .slice cW.a cW.len cW.cap, .slice c6.a c6.len c6.cap]∧(4:Nat)=4∧az (setCells k0 ⟨ar,0,none⟩ 0 [.bool cA, .slice cP.a cP.len cP.cap, .slice cW.a cW.len cW.cap, .slice c6.a c6.len c6.cap]) fun kZ=>
     ∃FW:Bool,kZ.cell? ⟨bL,0,none⟩=some (.bool FW)∧∃pc:ad,kZ.cell? (Addr.add ⟨bL,0,none⟩ 1)=some (.slice pc.a pc.len pc.cap)∧∃lT:ad,kZ.cell? (Addr.add ⟨bL,0,none⟩ 2)=some (.slice lT.a lT.len lT.cap)∧∃oO:ad,kZ.cell? (Addr.add ⟨bL,0,none⟩ 3)=some (.slice oO.a oO.len oO.cap)∧
     ∃pQ:Bool,kZ.cell? ⟨ar,0,none⟩=some (.bool pQ)∧∃hZ:ad,kZ.cell? (Addr.add ⟨ar,0,none⟩ 1)=some (.slice hZ.a hZ.len hZ.cap)∧∃h4:ad,kZ.cell? (Addr.add ⟨ar,0,none⟩ 2)=some (.slice h4.a h4.len h4.cap)∧∃h5:ad,kZ.cell? (Addr.add ⟨ar,0,none⟩ 3)=some (.slice h5.a h5.len h5.cap)∧Q FW pc lT oO pQ hZ h4 h5 kZ:=by
 refine ⟨U.de (by rw[xj];rfl) (kG _ _ _ _),rfl,dW U (us:=[.bool c5, .slice dy.a dy.len dy.cap, .slice dR.a dR.len dR.cap, .slice dS.a dS.len dS.cap]) (by rw[xj];rfl) rfl fun k0 lQ ir _=> ?_⟩
 have DM:=ab.an ir (fun e=>dI e.symm)
 refine ⟨ir.mono fun q _ h=>c9 q h,DM.de (by rw[rK];rfl) (kG _ _ _ _),rfl,dW DM (us:=[.bool cA, .slice cP.a cP.len cP.cap, .slice cW.a cW.len cW.cap, .slice c6.a c6.len c6.cap]) (by rw[rK];rfl) rfl fun kZ f_ dB _=> ?_⟩
 obtain ⟨cy,aS,bA,aZ⟩:=b9 (lQ.an dB dI)
 obtain ⟨d0,d1,d2,d3⟩:=b9 f_
 exact ⟨c5,cy,dy,aS,dR,bA,dS,aZ,cA,d0,cP,d1,cW,d2,c6,d3,w8 kZ ((ir.mono fun q _ h=> .inl h).trans (dB.mono fun q _ h=> .inr h))⟩
def DN (n:aL) (w:World) (v:Value) (w':World):Prop:=
 ∃ (dy dR dS cP cW c6 t:ad),v= .tuple #[eC (n.left (c2 n)) dy dR dS, .slice t.a t.len t.cap,eC (n.right (c2 n)) cP cW c6, .bool true]∧
   b4 (fun q=>w.heap.size≤q) w' (n.left (c2 n)) dy dR dS∧b4 (fun q=>w.heap.size≤q) w' (n.right (c2 n)) cP cW c6∧bX (fun q=>w.heap.size≤q) w' t (n.keys.getD (c2 n) [])∧Ext w w'
theorem xk {B:Nat→Prop} {w:World} {n:aL} {K V D:ad} (h:b4 B w n K V D) (aj:dC n) (aD:n.keys.length≤10000) (gL:1≤c2 n)
   (e2:if n.leaf then c2 n≤n.keys.length-1∧1≤n.keys.length-1 else c2 n≤n.keys.length-2∧1≤n.keys.length-2):
   aR Tryz.prog F.xk #[eC n K V D] w (DN n w):=by
 have j7:n.vals.length≤10000:=by
   rcases aj with aj|aj
   · rw[aj.len];omega
   · rw[aj.vals];simp
 have kz:n.kids.length≤10001:=by
   rcases aj with aj|aj
   · rw[aj.kids];simp
   · rw[aj.len];omega
 have fI:∀k∈n.keys,k.length≤100000:=fun k ae=>by have:=(aj.keys.ok k ae).2;omega
 have Ba:∀k∈n.vals,k.length≤100000:=fun k ae=>by have:=aj.vals k ae;omega
 have A0:=bO.len h.keys
 obtain ⟨most,Bb⟩:∃most,most=if n.leaf then n.keys.length-1 else n.keys.length-2:=⟨_,rfl⟩
 have j9:1≤most∧most≤n.keys.length∧c2 n≤most:=by
   rw[Bb]
   cases aA:n.leaf<;>rw[aA] at e2<;>simp at e2⊢<;>omega
 have ua:c2 n<n.keys.length:=by
   cases aA:n.leaf<;>rw[aA] at e2<;>simp at e2<;>omega
 refine W.ag6 n.leaf K V D w _ ?_
 (delta W.xk c8 ar ah bJ aE ay aZ iE aS aX en pR;dsimp only)
 refine cq (vs:=[.bool n.leaf, .slice K.a K.len K.cap, .slice V.a V.len V.cap, .slice D.a D.len D.cap]) rfl fun ag fH bH n4=> ?_
 refine cq (vs:=[.bool false, .slice none 0 0, .slice none 0 0, .slice none 0 0]) rfl fun aw kq cB u6=> ?_
 refine cq (vs:=[.bool false, .slice none 0 0, .slice none 0 0, .slice none 0 0]) rfl fun bc fz eZ FU=> ?_
 have g9:=bH.trans (cB.trans eZ)
 obtain ⟨cy,aS,bA,aZ⟩:=b9 ((fH.ext cB).ext eZ)
 refine ⟨K,aS,eI (fun m w'=>m=((most:Nat):Int)∧bc=w') (fun q J=>⟨n.leaf,cy,fun aa=>J _ _ ⟨?_,rfl⟩,fun aa=>J _ _ ⟨?_,rfl⟩⟩) ?_⟩
 · have aa:n.leaf=false:=by simpa using aa
   rw[aa] at e2 Bb
   simp at e2 Bb
   rw[ct (n:=((K.len:Nat):Int)-1) (by omega) (by omega),ct (by omega) (by omega)]
   omega
 · have aa:n.leaf=true:=by simpa using aa
   rw[aa] at e2 Bb
   simp at e2 Bb
   rw[ct (by omega) (by omega)]
   omega
 rintro _ _ ⟨rfl,rfl⟩
 refine ⟨_,cy,K,aS,V,bA,D,aZ,(mP (h.ext g9) (by omega) (by omega) (by omega)).use ?_⟩
 rintro _ bz ⟨b,rfl,aa,fu⟩
 have PT:=aa.2 aj
 subst PT
 have bS:=eR bz
 have pJ:=g9.trans (fu.trans bS)
 have DO:=((fH.ext cB).ext eZ).ext (fu.trans bS)
 have Ql:=(kq.ext eZ).ext (fu.trans bS)
 have Qm:=fz.ext (fu.trans bS)
 have Ml:=(fu.trans bS).size
 obtain ⟨cy,aS,bA,aZ⟩:=b9 DO
 refine ⟨true,rfl,fun h=> ?_,fun _=>bW ⟨fun _=>False,id,_,cy,K,aS,V,bA,D,aZ,id,_,cy,K,aS,V,bA,D,aZ,⟨?_,?_⟩⟩⟩
 · simp only[Bool.not_true,HT] at h
   have:=di h;omega
 · refine (fg (h.ext pJ) (by omega) (by omega) (by omega) fI Ba).use ?_
   rintro _ bd ⟨aO,bE,aM,cr,cI,cf,rfl,kF,jG⟩
   refine ⟨n.leaf,aO,bE,aM,rfl,jG,⟨?_,?_⟩⟩
   · refine (rJ (h.ext (pJ.trans jG)) aj aD (most:=most) j9.2.1).use ?_
     rintro _ bt ⟨rfl,fe⟩
     refine ⟨_,rfl,fe,cq (vs:=[.bool false, .slice none 0 0, .slice none 0 0, .slice none 0 0]) rfl fun bC rE fF DC=>⟨fF,rE.de rfl (kG _ _ _ _),rfl,dW rE (us:=[.bool n.leaf, .slice aO.a aO.len aO.cap, .slice bE.a bE.len bE.cap, .slice aM.a aM.len aM.cap]) rfl rfl fun bY nG gw FR=> ?_⟩⟩
     have Mk:=jG.size
     have FO:=fe.size
     obtain ⟨aJ,eL⟩:∃aJ,aJ=bt.heap.size:=⟨_,rfl⟩
     rw[←eL] at nG gw⊢
     have rL:=jG.trans (fe.trans fF)
     have vv:i_ bz.heap.size bY n aO bE aM cr cI cf:=(kF.ext (fe.trans fF)).an gw fun q _ _ J e=>by
       subst e
       rcases J with J|J|J
       · have:=(kF.bK _ J).2.1;omega
       · have:=(kF.bv _ J).2.1;omega
       · have:=(kF.aX _ J).2;omega
     have WA:bz.drew.heap.size=bz.heap.size:=rfl
     have rM:Ext w bY:=Ext.eX (pJ.trans rL) gw (by omega)
     have Bc:=(DO.ext rL).an gw (by omega)
     have Bd:=(Ql.ext rL).an gw (by omega)
     have Be:=(Qm.ext rL).an gw (by omega)
     have IM:mf (cellsOf n) most=c2 n:=by unfold c2;rw[Bb]
     rw[IM]
     obtain ⟨i,hi⟩:∃i,i=c2 n:=⟨_,rfl⟩
     rw[←hi] at ua j9 gL
     rw[←hi]
     obtain ⟨gB,aW,bq,ec⟩:=b9 Bc
     obtain ⟨A,t,ax,gM,al,ba,_⟩:=bO.at (h.ext rM).keys ua
     refine ⟨K,aW,A,ax,gM,t,al,(tQ (B:=fun q=>w.heap.size≤q) ba.1 (by have:=fI _ (eN ua);omega) (fun q J=>j5 rM.size J)).use ?_⟩
     rintro _ cj ⟨aK,rfl,kD,mz,Bf⟩
     have kV:=eR cj
     obtain ⟨gB,aW,bq,ec⟩:=b9 (Bc.ext mz)
     have jZ:=mz.trans kV
     obtain ⟨f0,f1,f2,f3⟩:=b9 (nG.ext jZ)
     have hU:=vv.at.ext jZ
     have WB:=bO.len hU.keys
     have WC:=bO.len hU.vals
     have WD:=dJ.len hU.kids
     have WE:=bO.le (bV.pM vv.keys)
     have WG:=bO.le (bV.pM vv.vals)
     have WH:aM.len≤aM.cap:=hU.kids.2.1
     have WI:bY.heap.size≤cj.heap.size:=mz.size
     have ub:n.keys.getD i []=n.keys[i]:=nh ua
     refine ⟨aK,rfl,n.leaf,gB,fun aA=>bW ⟨fun q=>q=ag.heap.size,fun e=> ?_,aO,f1,⟨by omega,by omega⟩,fun e=> ?_,bE,f2,⟨by omega,?_⟩, #[.bool true, .slice (bf aO.a 1 0 aO.cap) i aO.cap, .slice (bf bE.a 1 0 bE.cap) i bE.cap, .slice none 0 0],(fun w=>by kernel_rfl),fun e=> ?_,aO,f1,⟨by omega,by omega⟩,fun e=> ?_,bE,f2,⟨by omega,?_⟩, #[.bool true, .slice (bf aO.a 1 i aO.cap) (aO.len-i) (aO.cap-i), .slice (bf bE.a 1 i bE.cap) (bE.len-i) (bE.cap-i), .slice none 0 0],(fun w=>by kernel_rfl),?_⟩,fun aA=> ?_⟩
     · rw[bn] at e;have e:aJ=ag.heap.size:=e;omega
     · rw[bn] at e;have e:aJ=ag.heap.size:=e;omega
     · have:=aj.va aA;omega
     · rw[bn] at e;have e:aJ=ag.heap.size:=e;omega
     · rw[bn] at e;have e:aJ=ag.heap.size:=e;omega
     · have:=aj.va aA;omega
     · have IN:=aj.va aA
       have dq:n.left i=⟨true,n.keys.take i,n.vals.take i,[]⟩:=by unfold aL.left;rw[aA];rfl
       have cR:n.right i=⟨true,n.keys.drop i,n.vals.drop i,[]⟩:=by unfold aL.right;rw[aA];rfl
       have vw:b4 (fun q=>bz.heap.size≤q) cj.drew (n.left i) ⟨bf aO.a 1 0 aO.cap,i,aO.cap⟩ ⟨bf bE.a 1 0 bE.cap,i,bE.cap⟩ bP:=by
         rw[dq]
         refine ⟨?_,?_,dJ.none _ _⟩
         · have:=bO.sub hU.keys (lo:=0) (hi:=i) (by omega) (by omega)
           simpa using this
         · have:=bO.sub hU.vals (lo:=0) (hi:=i) (by omega) (by omega)
           simpa using this
       have vx:b4 (fun q=>bz.heap.size≤q) cj.drew (n.right i) ⟨bf aO.a 1 i aO.cap,aO.len-i,aO.cap-i⟩ ⟨bf bE.a 1 i bE.cap,bE.len-i,bE.cap-i⟩ bP:=by
         rw[cR]
         refine ⟨?_,?_,dJ.none _ _⟩
         · have:=bO.sub hU.keys (lo:=i) (hi:=aO.len) (by omega) (by omega)
           rwa[gV (by rw[fx];omega)] at this
         · have:=bO.sub hU.vals (lo:=i) (hi:=bE.len) (by omega) (by omega)
           rwa[gV (by rw[fx];omega)] at this
       have vy:=fg vw (by rw[dq];show (n.keys.take i).length≤_;rw[eA];omega) (by rw[dq];show (n.vals.take i).length≤_;rw[eA];omega) (by rw[dq];simp) (by rw[dq];exact fun k ae=>fI k (jR ae)) (by rw[dq];exact fun k ae=>Ba k (jR ae))
       have vz:(.agg #[.bool true, .slice (bf aO.a 1 0 aO.cap) i aO.cap, .slice (bf bE.a 1 0 bE.cap) i bE.cap, .slice none 0 0]:Value)=eC (n.left i) ⟨bf aO.a 1 0 aO.cap,i,aO.cap⟩ ⟨bf bE.a 1 0 bE.cap,i,bE.cap⟩ bP:=by rw[dq];rfl
       have vA:(.agg #[.bool true, .slice (bf aO.a 1 i aO.cap) (aO.len-i) (aO.cap-i), .slice (bf bE.a 1 i bE.cap) (bE.len-i) (bE.cap-i), .slice none 0 0]:Value)=eC (n.right i) ⟨bf aO.a 1 i aO.cap,aO.len-i,aO.cap-i⟩ ⟨bf bE.a 1 i bE.cap,bE.len-i,bE.cap-i⟩ bP:=by rw[cR];rfl
       rw[vz,vA]
       refine vy.use ?_
       rintro _ cL ⟨dy,dR,dS,y0,IP,IQ,rfl,vB,g0⟩
       have vC:=fg (vx.ext g0) (by rw[cR];show (n.keys.drop i).length≤_;rw[fx];omega) (by rw[cR];show (n.vals.drop i).length≤_;rw[fx];omega) (by rw[cR];simp) (by rw[cR];exact fun k ae=>fI k (jC ae)) (by rw[cR];exact fun k ae=>Ba k (jC ae))
       refine ⟨_,dy,dR,dS,rfl,aq.e0 g0,vC.use ?_⟩
       rintro _ cm ⟨cP,cW,c6,rI,yZ,IS,rfl,vD,iP⟩
       have kH:=g0.trans iP
       have sJ:=g0.size
       have IT:=jZ.size
       refine ⟨_,cP,cW,c6,rfl,aq.e0 iP,FV (c5:=(n.left i).leaf) (cA:=(n.right i).leaf) (dy:=dy) (dR:=dR) (dS:=dS) (cP:=cP) (cW:=cW) (c6:=c6) ((Bd.ext jZ).ext kH) ((Be.ext jZ).ext kH) rfl rfl (by omega) (fun q J=>J) (Q:=fun c5 dy dR dS cA cP cW c6 w'=>DN n w (.tuple #[.agg #[.bool c5, .slice dy.a dy.len dy.cap, .slice dR.a dR.len dR.cap, .slice dS.a dS.len dS.cap], .slice aK.a aK.len aK.cap, .agg #[.bool cA, .slice cP.a cP.len cP.cap, .slice cW.a cW.len cW.cap, .slice c6.a c6.len c6.cap], .bool true]) w') fun dE gk=> ?_⟩
       have vE:cj.drew.heap.size=cj.heap.size:=rfl
       refine ⟨dy,dR,dS,cP,cW,c6,aK,by rw[←hi];rfl,?_,?_,?_,?_⟩
       · rw[←hi];exact ((vB.at.ext iP).an gk fun q J e=>by omega).bx fun q _ J=>by omega
       · rw[←hi];exact (vD.at.an gk fun q J e=>by omega).bx fun q _ J=>by omega
       · rw[←hi,ub]
         have g_:∀q,aP aK q→bY.heap.size≤q:=Bf
         exact bX.pL (bX.ext (bX.ext kD kV) kH) gk fun q J e=>by have:=g_ q J;omega
       · exact Ext.gf (rM.trans (jZ.trans kH)) gk fun q J=>by omega
     · have IN:=aj.FK aA
       have WJ:i≤n.keys.length-2∧1≤n.keys.length-2:=by rw[aA,←hi] at e2;simpa using e2
       have IU:IntKind.wrap .i64 ((i:Int)+1)=((i+1:Nat):Int):=by rw[ct (by omega) (by omega)];rfl
       rw[IU]
       refine bW ⟨fun q=>q=ag.heap.size,fun e=> ?_,aO,f1,⟨by omega,by omega⟩,fun e=> ?_,aM,f3,⟨by omega,by omega⟩, #[.bool false, .slice (bf aO.a 1 0 aO.cap) i aO.cap, .slice none 0 0, .slice (bf aM.a 1 0 aM.cap) (i+1) aM.cap],(fun w=>by kernel_rfl),fun e=> ?_,aO,f1,⟨by omega,by omega⟩,fun e=> ?_,aM,f3,⟨by omega,by omega⟩, #[.bool false, .slice (bf aO.a 1 (i+1) aO.cap) (aO.len-(i+1)) (aO.cap-(i+1)), .slice none 0 0, .slice (bf aM.a 1 (i+1) aM.cap) (aM.len-(i+1)) (aM.cap-(i+1))],(fun w=>by kernel_rfl),?_⟩
       · rw[bn] at e;have e:aJ=ag.heap.size:=e;omega
       · rw[bn] at e;have e:aJ=ag.heap.size:=e;omega
       · rw[bn] at e;have e:aJ=ag.heap.size:=e;omega
       · rw[bn] at e;have e:aJ=ag.heap.size:=e;omega
       have dq:n.left i=⟨false,n.keys.take i,[],n.kids.take (i+1)⟩:=by unfold aL.left;rw[aA];rfl
       have cR:n.right i=⟨false,n.keys.drop (i+1),[],n.kids.drop (i+1)⟩:=by unfold aL.right;rw[aA];rfl
       have vw:b4 (fun q=>bz.heap.size≤q) cj.drew (n.left i) ⟨bf aO.a 1 0 aO.cap,i,aO.cap⟩ bP ⟨bf aM.a 1 0 aM.cap,i+1,aM.cap⟩:=by
         rw[dq]
         refine ⟨?_,bO.none _ _,?_⟩
         · have:=bO.sub hU.keys (lo:=0) (hi:=i) (by omega) (by omega)
           simpa using this
         · have:=dJ.sub hU.kids (lo:=0) (hi:=i+1) (by omega) (by omega)
           simpa using this
       have vx:b4 (fun q=>bz.heap.size≤q) cj.drew (n.right i) ⟨bf aO.a 1 (i+1) aO.cap,aO.len-(i+1),aO.cap-(i+1)⟩ bP ⟨bf aM.a 1 (i+1) aM.cap,aM.len-(i+1),aM.cap-(i+1)⟩:=by
         rw[cR]
         refine ⟨?_,bO.none _ _,?_⟩
         · have:=bO.sub hU.keys (lo:=i+1) (hi:=aO.len) (by omega) (by omega)
           rwa[gV (by rw[fx];omega)] at this
         · have:=dJ.sub hU.kids (lo:=i+1) (hi:=aM.len) (by omega) (by omega)
           rwa[gV (by rw[fx];omega)] at this
       have vy:=fg vw (by rw[dq];show (n.keys.take i).length≤_;rw[eA];omega) (by rw[dq];simp) (by rw[dq];show (n.kids.take (i+1)).length≤_;rw[eA];omega) (by rw[dq];exact fun k ae=>fI k (jR ae)) (by rw[dq];simp)
       have vz:(.agg #[.bool false, .slice (bf aO.a 1 0 aO.cap) i aO.cap, .slice none 0 0, .slice (bf aM.a 1 0 aM.cap) (i+1) aM.cap]:Value)=eC (n.left i) ⟨bf aO.a 1 0 aO.cap,i,aO.cap⟩ bP ⟨bf aM.a 1 0 aM.cap,i+1,aM.cap⟩:=by rw[dq];rfl
       have vA:(.agg #[.bool false, .slice (bf aO.a 1 (i+1) aO.cap) (aO.len-(i+1)) (aO.cap-(i+1)), .slice none 0 0, .slice (bf aM.a 1 (i+1) aM.cap) (aM.len-(i+1)) (aM.cap-(i+1))]:Value)=eC (n.right i) ⟨bf aO.a 1 (i+1) aO.cap,aO.len-(i+1),aO.cap-(i+1)⟩ bP ⟨bf aM.a 1 (i+1) aM.cap,aM.len-(i+1),aM.cap-(i+1)⟩:=by rw[cR];rfl
       rw[vz,vA]
       refine vy.use ?_
       rintro _ cL ⟨dy,dR,dS,y0,IP,IQ,rfl,vB,g0⟩
       have vC:=fg (vx.ext g0) (by rw[cR];show (n.keys.drop (i+1)).length≤_;rw[fx];omega) (by rw[cR];simp) (by rw[cR];show (n.kids.drop (i+1)).length≤_;rw[fx];omega) (by rw[cR];exact fun k ae=>fI k (jC ae)) (by rw[cR];simp)
       refine ⟨_,dy,dR,dS,rfl,aq.e0 g0,vC.use ?_⟩
       rintro _ cm ⟨cP,cW,c6,rI,yZ,IS,rfl,vD,iP⟩
       have kH:=g0.trans iP
       have sJ:=g0.size
       have IT:=jZ.size
       refine ⟨_,cP,cW,c6,rfl,aq.e0 iP,FV (c5:=(n.left i).leaf) (cA:=(n.right i).leaf) (dy:=dy) (dR:=dR) (dS:=dS) (cP:=cP) (cW:=cW) (c6:=c6) ((Bd.ext jZ).ext kH) ((Be.ext jZ).ext kH) rfl rfl (by omega) (fun q J=>J) (Q:=fun c5 dy dR dS cA cP cW c6 w'=>DN n w (.tuple #[.agg #[.bool c5, .slice dy.a dy.len dy.cap, .slice dR.a dR.len dR.cap, .slice dS.a dS.len dS.cap], .slice aK.a aK.len aK.cap, .agg #[.bool cA, .slice cP.a cP.len cP.cap, .slice cW.a cW.len cW.cap, .slice c6.a c6.len c6.cap], .bool true]) w') fun dE gk=> ?_⟩
       have vE:cj.drew.heap.size=cj.heap.size:=rfl
       refine ⟨dy,dR,dS,cP,cW,c6,aK,by rw[←hi];rfl,?_,?_,?_,?_⟩
       · rw[←hi];exact ((vB.at.ext iP).an gk fun q J e=>by omega).bx fun q _ J=>by omega
       · rw[←hi];exact (vD.at.an gk fun q J e=>by omega).bx fun q _ J=>by omega
       · rw[←hi,ub]
         have g_:∀q,aP aK q→bY.heap.size≤q:=Bf
         exact bX.pL (bX.ext (bX.ext kD kV) kH) gk fun q J e=>by have:=g_ q J;omega
       · exact Ext.gf (rM.trans (jZ.trans kH)) gk fun q J=>by omega
   · refine cq (vs:=[.bool false, .slice none 0 0, .slice none 0 0, .slice none 0 0]) rfl fun bt FG fe arR=>⟨fe,?_⟩
     refine (rJ (h.ext (pJ.trans (jG.trans fe))) aj aD (most:=most) j9.2.1).use ?_
     rintro _ bC ⟨rfl,fF⟩
     have rE:=FG.ext fF
     refine ⟨_,rfl,fF,rE.de rfl (kG _ _ _ _),rfl,dW rE (us:=[.bool n.leaf, .slice aO.a aO.len aO.cap, .slice bE.a bE.len bE.cap, .slice aM.a aM.len aM.cap]) rfl rfl fun bY nG gw FR=> ?_⟩
     have Mk:=jG.size
     have DC:=fF.size
     obtain ⟨aJ,eL⟩:∃aJ,aJ=bd.heap.size:=⟨_,rfl⟩
     rw[←eL] at nG gw⊢
     have rL:=jG.trans (fe.trans fF)
     have vv:i_ bz.heap.size bY n aO bE aM cr cI cf:=(kF.ext (fe.trans fF)).an gw fun q _ _ J e=>by
       subst e
       rcases J with J|J|J
       · have:=(kF.bK _ J).2.1;omega
       · have:=(kF.bv _ J).2.1;omega
       · have:=(kF.aX _ J).2;omega
     have WA:bz.drew.heap.size=bz.heap.size:=rfl
     have rM:Ext w bY:=Ext.eX (pJ.trans rL) gw (by omega)
     have Bc:=(DO.ext rL).an gw (by omega)
     have Bd:=(Ql.ext rL).an gw (by omega)
     have Be:=(Qm.ext rL).an gw (by omega)
     have IM:mf (cellsOf n) most=c2 n:=by unfold c2;rw[Bb]
     rw[IM]
     obtain ⟨i,hi⟩:∃i,i=c2 n:=⟨_,rfl⟩
     rw[←hi] at ua j9 gL
     rw[←hi]
     obtain ⟨gB,aW,bq,ec⟩:=b9 Bc
     obtain ⟨A,t,ax,gM,al,ba,_⟩:=bO.at (h.ext rM).keys ua
     refine ⟨K,aW,A,ax,gM,t,al,(tQ (B:=fun q=>w.heap.size≤q) ba.1 (by have:=fI _ (eN ua);omega) (fun q J=>j5 rM.size J)).use ?_⟩
     rintro _ cj ⟨aK,rfl,kD,mz,Bf⟩
     have kV:=eR cj
     obtain ⟨gB,aW,bq,ec⟩:=b9 (Bc.ext mz)
     have jZ:=mz.trans kV
     obtain ⟨f0,f1,f2,f3⟩:=b9 (nG.ext jZ)
     have hU:=vv.at.ext jZ
     have WB:=bO.len hU.keys
     have WC:=bO.len hU.vals
     have WD:=dJ.len hU.kids
     have WE:=bO.le (bV.pM vv.keys)
     have WG:=bO.le (bV.pM vv.vals)
     have WH:aM.len≤aM.cap:=hU.kids.2.1
     have WI:bY.heap.size≤cj.heap.size:=mz.size
     have ub:n.keys.getD i []=n.keys[i]:=nh ua
     refine ⟨aK,rfl,n.leaf,gB,fun aA=>bW ⟨fun q=>q=ag.heap.size,fun e=> ?_,aO,f1,⟨by omega,by omega⟩,fun e=> ?_,bE,f2,⟨by omega,?_⟩, #[.bool true, .slice (bf aO.a 1 0 aO.cap) i aO.cap, .slice (bf bE.a 1 0 bE.cap) i bE.cap, .slice none 0 0],(fun w=>by kernel_rfl),fun e=> ?_,aO,f1,⟨by omega,by omega⟩,fun e=> ?_,bE,f2,⟨by omega,?_⟩, #[.bool true, .slice (bf aO.a 1 i aO.cap) (aO.len-i) (aO.cap-i), .slice (bf bE.a 1 i bE.cap) (bE.len-i) (bE.cap-i), .slice none 0 0],(fun w=>by kernel_rfl),?_⟩,fun aA=> ?_⟩
     · rw[bn] at e;have e:aJ=ag.heap.size:=e;omega
     · rw[bn] at e;have e:aJ=ag.heap.size:=e;omega
     · have:=aj.va aA;omega
     · rw[bn] at e;have e:aJ=ag.heap.size:=e;omega
     · rw[bn] at e;have e:aJ=ag.heap.size:=e;omega
     · have:=aj.va aA;omega
     · have IN:=aj.va aA
       have dq:n.left i=⟨true,n.keys.take i,n.vals.take i,[]⟩:=by unfold aL.left;rw[aA];rfl
       have cR:n.right i=⟨true,n.keys.drop i,n.vals.drop i,[]⟩:=by unfold aL.right;rw[aA];rfl
       have vw:b4 (fun q=>bz.heap.size≤q) cj.drew (n.left i) ⟨bf aO.a 1 0 aO.cap,i,aO.cap⟩ ⟨bf bE.a 1 0 bE.cap,i,bE.cap⟩ bP:=by
         rw[dq]
         refine ⟨?_,?_,dJ.none _ _⟩
         · have:=bO.sub hU.keys (lo:=0) (hi:=i) (by omega) (by omega)
           simpa using this
         · have:=bO.sub hU.vals (lo:=0) (hi:=i) (by omega) (by omega)
           simpa using this
       have vx:b4 (fun q=>bz.heap.size≤q) cj.drew (n.right i) ⟨bf aO.a 1 i aO.cap,aO.len-i,aO.cap-i⟩ ⟨bf bE.a 1 i bE.cap,bE.len-i,bE.cap-i⟩ bP:=by
         rw[cR]
         refine ⟨?_,?_,dJ.none _ _⟩
         · have:=bO.sub hU.keys (lo:=i) (hi:=aO.len) (by omega) (by omega)
           rwa[gV (by rw[fx];omega)] at this
         · have:=bO.sub hU.vals (lo:=i) (hi:=bE.len) (by omega) (by omega)
           rwa[gV (by rw[fx];omega)] at this
       have vy:=fg vw (by rw[dq];show (n.keys.take i).length≤_;rw[eA];omega) (by rw[dq];show (n.vals.take i).length≤_;rw[eA];omega) (by rw[dq];simp) (by rw[dq];exact fun k ae=>fI k (jR ae)) (by rw[dq];exact fun k ae=>Ba k (jR ae))
       have vz:(.agg #[.bool true, .slice (bf aO.a 1 0 aO.cap) i aO.cap, .slice (bf bE.a 1 0 bE.cap) i bE.cap, .slice none 0 0]:Value)=eC (n.left i) ⟨bf aO.a 1 0 aO.cap,i,aO.cap⟩ ⟨bf bE.a 1 0 bE.cap,i,bE.cap⟩ bP:=by rw[dq];rfl
       have vA:(.agg #[.bool true, .slice (bf aO.a 1 i aO.cap) (aO.len-i) (aO.cap-i), .slice (bf bE.a 1 i bE.cap) (bE.len-i) (bE.cap-i), .slice none 0 0]:Value)=eC (n.right i) ⟨bf aO.a 1 i aO.cap,aO.len-i,aO.cap-i⟩ ⟨bf bE.a 1 i bE.cap,bE.len-i,bE.cap-i⟩ bP:=by rw[cR];rfl
       rw[vz,vA]
       refine vy.use ?_
       rintro _ cL ⟨dy,dR,dS,y0,IP,IQ,rfl,vB,g0⟩
       have vC:=fg (vx.ext g0) (by rw[cR];show (n.keys.drop i).length≤_;rw[fx];omega) (by rw[cR];show (n.vals.drop i).length≤_;rw[fx];omega) (by rw[cR];simp) (by rw[cR];exact fun k ae=>fI k (jC ae)) (by rw[cR];exact fun k ae=>Ba k (jC ae))
       refine ⟨_,dy,dR,dS,rfl,aq.e0 g0,vC.use ?_⟩
       rintro _ cm ⟨cP,cW,c6,rI,yZ,IS,rfl,vD,iP⟩
       have kH:=g0.trans iP
       have sJ:=g0.size
       have IT:=jZ.size
       refine ⟨_,cP,cW,c6,rfl,aq.e0 iP,FV (c5:=(n.left i).leaf) (cA:=(n.right i).leaf) (dy:=dy) (dR:=dR) (dS:=dS) (cP:=cP) (cW:=cW) (c6:=c6) ((Bd.ext jZ).ext kH) ((Be.ext jZ).ext kH) rfl rfl (by omega) (fun q J=>J) (Q:=fun c5 dy dR dS cA cP cW c6 w'=>DN n w (.tuple #[.agg #[.bool c5, .slice dy.a dy.len dy.cap, .slice dR.a dR.len dR.cap, .slice dS.a dS.len dS.cap], .slice aK.a aK.len aK.cap, .agg #[.bool cA, .slice cP.a cP.len cP.cap, .slice cW.a cW.len cW.cap, .slice c6.a c6.len c6.cap], .bool true]) w') fun dE gk=> ?_⟩
       have vE:cj.drew.heap.size=cj.heap.size:=rfl
       refine ⟨dy,dR,dS,cP,cW,c6,aK,by rw[←hi];rfl,?_,?_,?_,?_⟩
       · rw[←hi];exact ((vB.at.ext iP).an gk fun q J e=>by omega).bx fun q _ J=>by omega
       · rw[←hi];exact (vD.at.an gk fun q J e=>by omega).bx fun q _ J=>by omega
       · rw[←hi,ub]
         have g_:∀q,aP aK q→bY.heap.size≤q:=Bf
         exact bX.pL (bX.ext (bX.ext kD kV) kH) gk fun q J e=>by have:=g_ q J;omega
       · exact Ext.gf (rM.trans (jZ.trans kH)) gk fun q J=>by omega
     · have IN:=aj.FK aA
       have WJ:i≤n.keys.length-2∧1≤n.keys.length-2:=by rw[aA,←hi] at e2;simpa using e2
       have IU:IntKind.wrap .i64 ((i:Int)+1)=((i+1:Nat):Int):=by rw[ct (by omega) (by omega)];rfl
       rw[IU]
       refine bW ⟨fun q=>q=ag.heap.size,fun e=> ?_,aO,f1,⟨by omega,by omega⟩,fun e=> ?_,aM,f3,⟨by omega,by omega⟩, #[.bool false, .slice (bf aO.a 1 0 aO.cap) i aO.cap, .slice none 0 0, .slice (bf aM.a 1 0 aM.cap) (i+1) aM.cap],(fun w=>by kernel_rfl),fun e=> ?_,aO,f1,⟨by omega,by omega⟩,fun e=> ?_,aM,f3,⟨by omega,by omega⟩, #[.bool false, .slice (bf aO.a 1 (i+1) aO.cap) (aO.len-(i+1)) (aO.cap-(i+1)), .slice none 0 0, .slice (bf aM.a 1 (i+1) aM.cap) (aM.len-(i+1)) (aM.cap-(i+1))],(fun w=>by kernel_rfl),?_⟩
       · rw[bn] at e;have e:aJ=ag.heap.size:=e;omega
       · rw[bn] at e;have e:aJ=ag.heap.size:=e;omega
       · rw[bn] at e;have e:aJ=ag.heap.size:=e;omega
       · rw[bn] at e;have e:aJ=ag.heap.size:=e;omega
       have dq:n.left i=⟨false,n.keys.take i,[],n.kids.take (i+1)⟩:=by unfold aL.left;rw[aA];rfl
       have cR:n.right i=⟨false,n.keys.drop (i+1),[],n.kids.drop (i+1)⟩:=by unfold aL.right;rw[aA];rfl
       have vw:b4 (fun q=>bz.heap.size≤q) cj.drew (n.left i) ⟨bf aO.a 1 0 aO.cap,i,aO.cap⟩ bP ⟨bf aM.a 1 0 aM.cap,i+1,aM.cap⟩:=by
         rw[dq]
         refine ⟨?_,bO.none _ _,?_⟩
         · have:=bO.sub hU.keys (lo:=0) (hi:=i) (by omega) (by omega)
           simpa using this
         · have:=dJ.sub hU.kids (lo:=0) (hi:=i+1) (by omega) (by omega)
           simpa using this
       have vx:b4 (fun q=>bz.heap.size≤q) cj.drew (n.right i) ⟨bf aO.a 1 (i+1) aO.cap,aO.len-(i+1),aO.cap-(i+1)⟩ bP ⟨bf aM.a 1 (i+1) aM.cap,aM.len-(i+1),aM.cap-(i+1)⟩:=by
         rw[cR]
         refine ⟨?_,bO.none _ _,?_⟩
         · have:=bO.sub hU.keys (lo:=i+1) (hi:=aO.len) (by omega) (by omega)
           rwa[gV (by rw[fx];omega)] at this
         · have:=dJ.sub hU.kids (lo:=i+1) (hi:=aM.len) (by omega) (by omega)
           rwa[gV (by rw[fx];omega)] at this
       have vy:=fg vw (by rw[dq];show (n.keys.take i).length≤_;rw[eA];omega) (by rw[dq];simp) (by rw[dq];show (n.kids.take (i+1)).length≤_;rw[eA];omega) (by rw[dq];exact fun k ae=>fI k (jR ae)) (by rw[dq];simp)
       have vz:(.agg #[.bool false, .slice (bf aO.a 1 0 aO.cap) i aO.cap, .slice none 0 0, .slice (bf aM.a 1 0 aM.cap) (i+1) aM.cap]:Value)=eC (n.left i) ⟨bf aO.a 1 0 aO.cap,i,aO.cap⟩ bP ⟨bf aM.a 1 0 aM.cap,i+1,aM.cap⟩:=by rw[dq];rfl
       have vA:(.agg #[.bool false, .slice (bf aO.a 1 (i+1) aO.cap) (aO.len-(i+1)) (aO.cap-(i+1)), .slice none 0 0, .slice (bf aM.a 1 (i+1) aM.cap) (aM.len-(i+1)) (aM.cap-(i+1))]:Value)=eC (n.right i) ⟨bf aO.a 1 (i+1) aO.cap,aO.len-(i+1),aO.cap-(i+1)⟩ bP ⟨bf aM.a 1 (i+1) aM.cap,aM.len-(i+1),aM.cap-(i+1)⟩:=by rw[cR];rfl
       rw[vz,vA]
       refine vy.use ?_
       rintro _ cL ⟨dy,dR,dS,y0,IP,IQ,rfl,vB,g0⟩
       have vC:=fg (vx.ext g0) (by rw[cR];show (n.keys.drop (i+1)).length≤_;rw[fx];omega) (by rw[cR];simp) (by rw[cR];show (n.kids.drop (i+1)).length≤_;rw[fx];omega) (by rw[cR];exact fun k ae=>fI k (jC ae)) (by rw[cR];simp)
       refine ⟨_,dy,dR,dS,rfl,aq.e0 g0,vC.use ?_⟩
       rintro _ cm ⟨cP,cW,c6,rI,yZ,IS,rfl,vD,iP⟩
       have kH:=g0.trans iP
       have sJ:=g0.size
       have IT:=jZ.size
       refine ⟨_,cP,cW,c6,rfl,aq.e0 iP,FV (c5:=(n.left i).leaf) (cA:=(n.right i).leaf) (dy:=dy) (dR:=dR) (dS:=dS) (cP:=cP) (cW:=cW) (c6:=c6) ((Bd.ext jZ).ext kH) ((Be.ext jZ).ext kH) rfl rfl (by omega) (fun q J=>J) (Q:=fun c5 dy dR dS cA cP cW c6 w'=>DN n w (.tuple #[.agg #[.bool c5, .slice dy.a dy.len dy.cap, .slice dR.a dR.len dR.cap, .slice dS.a dS.len dS.cap], .slice aK.a aK.len aK.cap, .agg #[.bool cA, .slice cP.a cP.len cP.cap, .slice cW.a cW.len cW.cap, .slice c6.a c6.len c6.cap], .bool true]) w') fun dE gk=> ?_⟩
       have vE:cj.drew.heap.size=cj.heap.size:=rfl
       refine ⟨dy,dR,dS,cP,cW,c6,aK,by rw[←hi];rfl,?_,?_,?_,?_⟩
       · rw[←hi];exact ((vB.at.ext iP).an gk fun q J e=>by omega).bx fun q _ J=>by omega
       · rw[←hi];exact (vD.at.an gk fun q J e=>by omega).bx fun q _ J=>by omega
       · rw[←hi,ub]
         have g_:∀q,aP aK q→bY.heap.size≤q:=Bf
         exact bX.pL (bX.ext (bX.ext kD kV) kH) gk fun q J e=>by have:=g_ q J;omega
       · exact Ext.gf (rM.trans (jZ.trans kH)) gk fun q J=>by omega
 · refine cq (vs:=[.bool false, .slice none 0 0, .slice none 0 0, .slice none 0 0]) rfl fun bd tM jG arS=>⟨jG,?_⟩
   refine (fg (h.ext (pJ.trans jG)) (by omega) (by omega) (by omega) fI Ba).use ?_
   rintro _ bt ⟨aO,bE,aM,cr,cI,cf,rfl,qZ,fe⟩
   refine ⟨n.leaf,aO,bE,aM,rfl,fe,(rJ (h.ext (pJ.trans (jG.trans fe))) aj aD (most:=most) j9.2.1).use ?_⟩
   rintro _ bC ⟨rfl,fF⟩
   have rE:=tM.ext (fe.trans fF)
   refine ⟨_,rfl,fF,rE.de rfl (kG _ _ _ _),rfl,dW rE (us:=[.bool n.leaf, .slice aO.a aO.len aO.cap, .slice bE.a bE.len bE.cap, .slice aM.a aM.len aM.cap]) rfl rfl fun bY nG gw FR=> ?_⟩
   have FO:=fe.size
   have DC:=fF.size
   have WA:bz.drew.heap.size=bz.heap.size:=rfl
   obtain ⟨aJ,eL⟩:∃aJ,aJ=bz.drew.heap.size:=⟨_,rfl⟩
   rw[←eL] at nG gw⊢
   have rL:=jG.trans (fe.trans fF)
   have vv:i_ bz.heap.size bY n aO bE aM cr cI cf:=((qZ.ext fF).an gw fun q U _ _ e=>by omega).low (by omega)
   have rM:Ext w bY:=Ext.eX (pJ.trans rL) gw (by omega)
   have Bc:=(DO.ext rL).an gw (by omega)
   have Bd:=(Ql.ext rL).an gw (by omega)
   have Be:=(Qm.ext rL).an gw (by omega)
   have IM:mf (cellsOf n) most=c2 n:=by unfold c2;rw[Bb]
   rw[IM]
   obtain ⟨i,hi⟩:∃i,i=c2 n:=⟨_,rfl⟩
   rw[←hi] at ua j9 gL
   rw[←hi]
   obtain ⟨gB,aW,bq,ec⟩:=b9 Bc
   obtain ⟨A,t,ax,gM,al,ba,_⟩:=bO.at (h.ext rM).keys ua
   refine ⟨K,aW,A,ax,gM,t,al,(tQ (B:=fun q=>w.heap.size≤q) ba.1 (by have:=fI _ (eN ua);omega) (fun q J=>j5 rM.size J)).use ?_⟩
   rintro _ cj ⟨aK,rfl,kD,mz,Bf⟩
   have kV:=eR cj
   obtain ⟨gB,aW,bq,ec⟩:=b9 (Bc.ext mz)
   have jZ:=mz.trans kV
   obtain ⟨f0,f1,f2,f3⟩:=b9 (nG.ext jZ)
   have hU:=vv.at.ext jZ
   have WB:=bO.len hU.keys
   have WC:=bO.len hU.vals
   have WD:=dJ.len hU.kids
   have WE:=bO.le (bV.pM vv.keys)
   have WG:=bO.le (bV.pM vv.vals)
   have WH:aM.len≤aM.cap:=hU.kids.2.1
   have WI:bY.heap.size≤cj.heap.size:=mz.size
   have ub:n.keys.getD i []=n.keys[i]:=nh ua
   refine ⟨aK,rfl,n.leaf,gB,fun aA=>bW ⟨fun q=>q=ag.heap.size,fun e=> ?_,aO,f1,⟨by omega,by omega⟩,fun e=> ?_,bE,f2,⟨by omega,?_⟩, #[.bool true, .slice (bf aO.a 1 0 aO.cap) i aO.cap, .slice (bf bE.a 1 0 bE.cap) i bE.cap, .slice none 0 0],(fun w=>by kernel_rfl),fun e=> ?_,aO,f1,⟨by omega,by omega⟩,fun e=> ?_,bE,f2,⟨by omega,?_⟩, #[.bool true, .slice (bf aO.a 1 i aO.cap) (aO.len-i) (aO.cap-i), .slice (bf bE.a 1 i bE.cap) (bE.len-i) (bE.cap-i), .slice none 0 0],(fun w=>by kernel_rfl),?_⟩,fun aA=> ?_⟩
   · rw[bn] at e;have e:aJ=ag.heap.size:=e;omega
   · rw[bn] at e;have e:aJ=ag.heap.size:=e;omega
   · have:=aj.va aA;omega
   · rw[bn] at e;have e:aJ=ag.heap.size:=e;omega
   · rw[bn] at e;have e:aJ=ag.heap.size:=e;omega
   · have:=aj.va aA;omega
   · have IN:=aj.va aA
     have dq:n.left i=⟨true,n.keys.take i,n.vals.take i,[]⟩:=by unfold aL.left;rw[aA];rfl
     have cR:n.right i=⟨true,n.keys.drop i,n.vals.drop i,[]⟩:=by unfold aL.right;rw[aA];rfl
     have vw:b4 (fun q=>bz.heap.size≤q) cj.drew (n.left i) ⟨bf aO.a 1 0 aO.cap,i,aO.cap⟩ ⟨bf bE.a 1 0 bE.cap,i,bE.cap⟩ bP:=by
       rw[dq]
       refine ⟨?_,?_,dJ.none _ _⟩
       · have:=bO.sub hU.keys (lo:=0) (hi:=i) (by omega) (by omega)
         simpa using this
       · have:=bO.sub hU.vals (lo:=0) (hi:=i) (by omega) (by omega)
         simpa using this
     have vx:b4 (fun q=>bz.heap.size≤q) cj.drew (n.right i) ⟨bf aO.a 1 i aO.cap,aO.len-i,aO.cap-i⟩ ⟨bf bE.a 1 i bE.cap,bE.len-i,bE.cap-i⟩ bP:=by
       rw[cR]
       refine ⟨?_,?_,dJ.none _ _⟩
       · have:=bO.sub hU.keys (lo:=i) (hi:=aO.len) (by omega) (by omega)
         rwa[gV (by rw[fx];omega)] at this
       · have:=bO.sub hU.vals (lo:=i) (hi:=bE.len) (by omega) (by omega)
         rwa[gV (by rw[fx];omega)] at this
     have vy:=fg vw (by rw[dq];show (n.keys.take i).length≤_;rw[eA];omega) (by rw[dq];show (n.vals.take i).length≤_;rw[eA];omega) (by rw[dq];simp) (by rw[dq];exact fun k ae=>fI k (jR ae)) (by rw[dq];exact fun k ae=>Ba k (jR ae))
     have vz:(.agg #[.bool true, .slice (bf aO.a 1 0 aO.cap) i aO.cap, .slice (bf bE.a 1 0 bE.cap) i bE.cap, .slice none 0 0]:Value)=eC (n.left i) ⟨bf aO.a 1 0 aO.cap,i,aO.cap⟩ ⟨bf bE.a 1 0 bE.cap,i,bE.cap⟩ bP:=by rw[dq];rfl
     have vA:(.agg #[.bool true, .slice (bf aO.a 1 i aO.cap) (aO.len-i) (aO.cap-i), .slice (bf bE.a 1 i bE.cap) (bE.len-i) (bE.cap-i), .slice none 0 0]:Value)=eC (n.right i) ⟨bf aO.a 1 i aO.cap,aO.len-i,aO.cap-i⟩ ⟨bf bE.a 1 i bE.cap,bE.len-i,bE.cap-i⟩ bP:=by rw[cR];rfl
     rw[vz,vA]
     refine vy.use ?_
     rintro _ cL ⟨dy,dR,dS,y0,IP,IQ,rfl,vB,g0⟩
     have vC:=fg (vx.ext g0) (by rw[cR];show (n.keys.drop i).length≤_;rw[fx];omega) (by rw[cR];show (n.vals.drop i).length≤_;rw[fx];omega) (by rw[cR];simp) (by rw[cR];exact fun k ae=>fI k (jC ae)) (by rw[cR];exact fun k ae=>Ba k (jC ae))
     refine ⟨_,dy,dR,dS,rfl,aq.e0 g0,vC.use ?_⟩
     rintro _ cm ⟨cP,cW,c6,rI,yZ,IS,rfl,vD,iP⟩
     have kH:=g0.trans iP
     have sJ:=g0.size
     have IT:=jZ.size
     refine ⟨_,cP,cW,c6,rfl,aq.e0 iP,FV (c5:=(n.left i).leaf) (cA:=(n.right i).leaf) (dy:=dy) (dR:=dR) (dS:=dS) (cP:=cP) (cW:=cW) (c6:=c6) ((Bd.ext jZ).ext kH) ((Be.ext jZ).ext kH) rfl rfl (by omega) (fun q J=>J) (Q:=fun c5 dy dR dS cA cP cW c6 w'=>DN n w (.tuple #[.agg #[.bool c5, .slice dy.a dy.len dy.cap, .slice dR.a dR.len dR.cap, .slice dS.a dS.len dS.cap], .slice aK.a aK.len aK.cap, .agg #[.bool cA, .slice cP.a cP.len cP.cap, .slice cW.a cW.len cW.cap, .slice c6.a c6.len c6.cap], .bool true]) w') fun dE gk=> ?_⟩
     have vE:cj.drew.heap.size=cj.heap.size:=rfl
     refine ⟨dy,dR,dS,cP,cW,c6,aK,by rw[←hi];rfl,?_,?_,?_,?_⟩
     · rw[←hi];exact ((vB.at.ext iP).an gk fun q J e=>by omega).bx fun q _ J=>by omega
     · rw[←hi];exact (vD.at.an gk fun q J e=>by omega).bx fun q _ J=>by omega
     · rw[←hi,ub]
       have g_:∀q,aP aK q→bY.heap.size≤q:=Bf
       exact bX.pL (bX.ext (bX.ext kD kV) kH) gk fun q J e=>by have:=g_ q J;omega
     · exact Ext.gf (rM.trans (jZ.trans kH)) gk fun q J=>by omega
   · have IN:=aj.FK aA
     have WJ:i≤n.keys.length-2∧1≤n.keys.length-2:=by rw[aA,←hi] at e2;simpa using e2
     have IU:IntKind.wrap .i64 ((i:Int)+1)=((i+1:Nat):Int):=by rw[ct (by omega) (by omega)];rfl
     rw[IU]
     refine bW ⟨fun q=>q=ag.heap.size,fun e=> ?_,aO,f1,⟨by omega,by omega⟩,fun e=> ?_,aM,f3,⟨by omega,by omega⟩, #[.bool false, .slice (bf aO.a 1 0 aO.cap) i aO.cap, .slice none 0 0, .slice (bf aM.a 1 0 aM.cap) (i+1) aM.cap],(fun w=>by kernel_rfl),fun e=> ?_,aO,f1,⟨by omega,by omega⟩,fun e=> ?_,aM,f3,⟨by omega,by omega⟩, #[.bool false, .slice (bf aO.a 1 (i+1) aO.cap) (aO.len-(i+1)) (aO.cap-(i+1)), .slice none 0 0, .slice (bf aM.a 1 (i+1) aM.cap) (aM.len-(i+1)) (aM.cap-(i+1))],(fun w=>by kernel_rfl),?_⟩
     · rw[bn] at e;have e:aJ=ag.heap.size:=e;omega
     · rw[bn] at e;have e:aJ=ag.heap.size:=e;omega
     · rw[bn] at e;have e:aJ=ag.heap.size:=e;omega
     · rw[bn] at e;have e:aJ=ag.heap.size:=e;omega
     have dq:n.left i=⟨false,n.keys.take i,[],n.kids.take (i+1)⟩:=by unfold aL.left;rw[aA];rfl
     have cR:n.right i=⟨false,n.keys.drop (i+1),[],n.kids.drop (i+1)⟩:=by unfold aL.right;rw[aA];rfl
     have vw:b4 (fun q=>bz.heap.size≤q) cj.drew (n.left i) ⟨bf aO.a 1 0 aO.cap,i,aO.cap⟩ bP ⟨bf aM.a 1 0 aM.cap,i+1,aM.cap⟩:=by
       rw[dq]
       refine ⟨?_,bO.none _ _,?_⟩
       · have:=bO.sub hU.keys (lo:=0) (hi:=i) (by omega) (by omega)
         simpa using this
       · have:=dJ.sub hU.kids (lo:=0) (hi:=i+1) (by omega) (by omega)
         simpa using this
     have vx:b4 (fun q=>bz.heap.size≤q) cj.drew (n.right i) ⟨bf aO.a 1 (i+1) aO.cap,aO.len-(i+1),aO.cap-(i+1)⟩ bP ⟨bf aM.a 1 (i+1) aM.cap,aM.len-(i+1),aM.cap-(i+1)⟩:=by
       rw[cR]
       refine ⟨?_,bO.none _ _,?_⟩
       · have:=bO.sub hU.keys (lo:=i+1) (hi:=aO.len) (by omega) (by omega)
         rwa[gV (by rw[fx];omega)] at this
       · have:=dJ.sub hU.kids (lo:=i+1) (hi:=aM.len) (by omega) (by omega)
         rwa[gV (by rw[fx];omega)] at this
     have vy:=fg vw (by rw[dq];show (n.keys.take i).length≤_;rw[eA];omega) (by rw[dq];simp) (by rw[dq];show (n.kids.take (i+1)).length≤_;rw[eA];omega) (by rw[dq];exact fun k ae=>fI k (jR ae)) (by rw[dq];simp)
     have vz:(.agg #[.bool false, .slice (bf aO.a 1 0 aO.cap) i aO.cap, .slice none 0 0, .slice (bf aM.a 1 0 aM.cap) (i+1) aM.cap]:Value)=eC (n.left i) ⟨bf aO.a 1 0 aO.cap,i,aO.cap⟩ bP ⟨bf aM.a 1 0 aM.cap,i+1,aM.cap⟩:=by rw[dq];rfl
     have vA:(.agg #[.bool false, .slice (bf aO.a 1 (i+1) aO.cap) (aO.len-(i+1)) (aO.cap-(i+1)), .slice none 0 0, .slice (bf aM.a 1 (i+1) aM.cap) (aM.len-(i+1)) (aM.cap-(i+1))]:Value)=eC (n.right i) ⟨bf aO.a 1 (i+1) aO.cap,aO.len-(i+1),aO.cap-(i+1)⟩ bP ⟨bf aM.a 1 (i+1) aM.cap,aM.len-(i+1),aM.cap-(i+1)⟩:=by rw[cR];rfl
     rw[vz,vA]
     refine vy.use ?_
     rintro _ cL ⟨dy,dR,dS,y0,IP,IQ,rfl,vB,g0⟩
     have vC:=fg (vx.ext g0) (by rw[cR];show (n.keys.drop (i+1)).length≤_;rw[fx];omega) (by rw[cR];simp) (by rw[cR];show (n.kids.drop (i+1)).length≤_;rw[fx];omega) (by rw[cR];exact fun k ae=>fI k (jC ae)) (by rw[cR];simp)
     refine ⟨_,dy,dR,dS,rfl,aq.e0 g0,vC.use ?_⟩
     rintro _ cm ⟨cP,cW,c6,rI,yZ,IS,rfl,vD,iP⟩
     have kH:=g0.trans iP
     have sJ:=g0.size
     have IT:=jZ.size
     refine ⟨_,cP,cW,c6,rfl,aq.e0 iP,FV (c5:=(n.left i).leaf) (cA:=(n.right i).leaf) (dy:=dy) (dR:=dR) (dS:=dS) (cP:=cP) (cW:=cW) (c6:=c6) ((Bd.ext jZ).ext kH) ((Be.ext jZ).ext kH) rfl rfl (by omega) (fun q J=>J) (Q:=fun c5 dy dR dS cA cP cW c6 w'=>DN n w (.tuple #[.agg #[.bool c5, .slice dy.a dy.len dy.cap, .slice dR.a dR.len dR.cap, .slice dS.a dS.len dS.cap], .slice aK.a aK.len aK.cap, .agg #[.bool cA, .slice cP.a cP.len cP.cap, .slice cW.a cW.len cW.cap, .slice c6.a c6.len c6.cap], .bool true]) w') fun dE gk=> ?_⟩
     have vE:cj.drew.heap.size=cj.heap.size:=rfl
     refine ⟨dy,dR,dS,cP,cW,c6,aK,by rw[←hi];rfl,?_,?_,?_,?_⟩
     · rw[←hi];exact ((vB.at.ext iP).an gk fun q J e=>by omega).bx fun q _ J=>by omega
     · rw[←hi];exact (vD.at.an gk fun q J e=>by omega).bx fun q _ J=>by omega
     · rw[←hi,ub]
       have g_:∀q,aP aK q→bY.heap.size≤q:=Bf
       exact bX.pL (bX.ext (bX.ext kD kV) kH) gk fun q J e=>by have:=g_ q J;omega
     · exact Ext.gf (rM.trans (jZ.trans kH)) gk fun q J=>by omega
end
section
theorem Qn {B C:Nat→Prop} {w:World} {s x:ad} {ls xs:List Key} (bR:bV B w s ls) (af:bO C w x xs) (hd:∀q,C q→¬aP s q) (aD:ls.length≤100000) (hm:xs.length≤100000):
   ∃ (au:ad) (w':World),Sem.run Tryz.prog (Builtin.append_ #[ai.cz,ai.cz] ai.cz #[.slice s.a s.len s.cap, .slice x.a x.len x.cap]) w= .ok (.slice au.a au.len au.cap) w'∧bO (fun q=>B q∨C q∨w.heap.size≤q) w' au (ls++xs)∧aq (aP s) w w':=by
 have ag7:=bO.len af
 obtain ⟨ts,U,ab,ao,aG⟩:=bR
 obtain ⟨us,aC,aF,aH,aN,cV⟩:=af
 have ag8:s.len=ls.length:=by have:=ab.1;rw[kR] at this;omega
 obtain ⟨au,w',aW,bq,ec,jW,kT⟩:=FJ.append (gX:=ai.cz) aF ab (L2 us) (by omega)
 refine ⟨au,w',aW,⟨ts++us,by simp[U,aC],?_,bq.2.1,?_,fun i i1 i2=> ?_⟩,jW⟩
 · rw[m9];exact bq.src
 · intro k ae
   refine ⟨?_,bq.lt k ae⟩
   rcases kT k ae with h|h
   · exact .inl (ao k h).1
   · exact .inr (.inr h)
 · rcases g2 i ts.length with h|h
   · have e2:i<ls.length:=by omega
     rw[C9 h,C9 e2]
     obtain ⟨a,b⟩:=aG i h e2
     exact bX.bx (bX.pL a jW b) fun k _ ae=> .inl ae
   · have aU:i-ts.length<us.length:=by rw[dA] at i1;omega
     have Dn:i-ls.length<xs.length:=by omega
     rw[HQ h,HQ (by omega)]
     have e:i-ls.length=i-ts.length:=by omega
     have a:=cV (i-ts.length) aU (by omega)
     simp only[e]
     exact bX.bx (bX.pL a jW fun k ae=>hd k (a.2.2 k ae).1) fun k _ ae=> .inr (.inl ae)
theorem WK {B C:Nat→Prop} {w:World} {s x:ad} {ds es:List Nat} (bR:dY B w s ds) (af:dJ C w x es) (aD:ds.length≤100000) (hm:es.length≤100000):
   ∃ (au:ad) (w':World),Sem.run Tryz.prog (Builtin.append_ #[ai.dD,ai.dD] ai.dD #[.slice s.a s.len s.cap, .slice x.a x.len x.cap]) w= .ok (.slice au.a au.len au.cap) w'∧dJ (fun q=>B q∨C q∨w.heap.size≤q) w' au (ds++es)∧aq (aP s) w w':=by
 have ag7:=dJ.len af
 obtain ⟨U,ab⟩:=bR
 have ag8:s.len=ds.length:=by have:=U.1;rw[yI] at this;omega
 obtain ⟨au,w',aW,bq,ec,jW,kT⟩:=Ic.append (gX:=ai.dD) af.1 U (PO es) (by omega)
 refine ⟨au,w',aW,⟨?_,bq.2.1,?_⟩,jW⟩
 · have:gg ds++gg es=gg (ds++es):=by simp[gg]
   rw[this] at bq;exact bq.src
 · intro k ae
   refine ⟨?_,bq.lt k ae⟩
   rcases kT k ae with h|h
   · exact .inl (ab k h).1
   · exact .inr (.inr h)
def WL (pa cM aJ pS:Nat) (key:ad) (xl:World) (Q:Value→World→Prop):Prop:=
 c7 (fun sK:World→Prop=>∃xm:Bool,xl.cell? ⟨pa,0,none⟩=some (.bool xm)∧((!xm)=true→az (xl.drew) fun pT=>∃DP:Nat→Prop,¬DP (Addr.add ⟨cM,0,none⟩ 1).block∧∃hV:ad,pT.cell? (Addr.add ⟨cM,0,none⟩ 1)=some (.slice hV.a hV.len hV.cap)∧Calls Tryz.prog F.lu #[.slice key.a key.len key.cap] pT fun ag9 gl=>∃od:ad,ag9= .returned (.slice od.a od.len od.cap)∧aq DP pT gl∧az (gl.alloc (.cells #[.slice od.a od.len od.cap] ai.cG)) fun pd=>aq DP gl pd∧∃h6:ad,∃qp:World,Sem.run Tryz.prog (Builtin.append_ #[ai.cz,ai.cz] ai.cz #[.slice hV.a hV.len hV.cap, .slice (some ⟨gl.heap.size,0,none⟩) 1 1]) pd= .ok (.slice h6.a h6.len h6.cap) qp∧(∃u:Value,qp.cell? (Addr.add ⟨cM,0,none⟩ 1)=some u)∧qp.frozen? (Addr.add ⟨cM,0,none⟩ 1)=false∧az (qp.setCell (Addr.add ⟨cM,0,none⟩ 1) (.slice h6.a h6.len h6.cap)) fun FX=>sK FX)∧((!xm)=false→sK xl)) (fun (vF:World)=>∃gy:ad,vF.cell? (Addr.add ⟨cM,0,none⟩ 1)=some (.slice gy.a gy.len gy.cap)∧∃gz:ad,vF.cell? (Addr.add ⟨aJ,0,none⟩ 1)=some (.slice gz.a gz.len gz.cap)∧∃h7:ad,∃g3:World,Sem.run Tryz.prog (Builtin.append_ #[ai.cz,ai.cz] ai.cz #[.slice gy.a gy.len gy.cap, .slice gz.a gz.len gz.cap]) vF= .ok (.slice h7.a h7.len h7.cap) g3∧(∃u:Value,g3.cell? (Addr.add ⟨cM,0,none⟩ 1)=some u)∧g3.frozen? (Addr.add ⟨cM,0,none⟩ 1)=false∧az (g3.setCell (Addr.add ⟨cM,0,none⟩ 1) (.slice h7.a h7.len h7.cap)) fun lA=>∃j0:ad,lA.cell? (Addr.add ⟨cM,0,none⟩ 2)=some (.slice j0.a j0.len j0.cap)∧∃nK:ad,lA.cell? (Addr.add ⟨aJ,0,none⟩ 2)=some (.slice nK.a nK.len nK.cap)∧∃sL:ad,∃y1:World,Sem.run Tryz.prog (Builtin.append_ #[ai.cz,ai.cz] ai.cz #[.slice j0.a j0.len j0.cap, .slice nK.a nK.len nK.cap]) lA= .ok (.slice sL.a sL.len sL.cap) y1∧(∃u:Value,y1.cell? (Addr.add ⟨cM,0,none⟩ 2)=some u)∧y1.frozen? (Addr.add ⟨cM,0,none⟩ 2)=false∧az (y1.setCell (Addr.add ⟨cM,0,none⟩ 2) (.slice sL.a sL.len sL.cap)) fun xn=>∃lT:ad,xn.cell? (Addr.add ⟨cM,0,none⟩ 3)=some (.slice lT.a lT.len lT.cap)∧∃oO:ad,xn.cell? (Addr.add ⟨aJ,0,none⟩ 3)=some (.slice oO.a oO.len oO.cap)∧∃pU:ad,∃y2:World,Sem.run Tryz.prog (Builtin.append_ #[ai.dD,ai.dD] ai.dD #[.slice lT.a lT.len lT.cap, .slice oO.a oO.len oO.cap]) xn= .ok (.slice pU.a pU.len pU.cap) y2∧(∃u:Value,y2.cell? (Addr.add ⟨cM,0,none⟩ 3)=some u)∧y2.frozen? (Addr.add ⟨cM,0,none⟩ 3)=false∧az (y2.setCell (Addr.add ⟨cM,0,none⟩ 3) (.slice pU.a pU.len pU.cap)) fun vG=>∃Mn:Bool,vG.cell? ⟨cM,0,none⟩=some (.bool Mn)∧∃xo:ad,vG.cell? (Addr.add ⟨cM,0,none⟩ 1)=some (.slice xo.a xo.len xo.cap)∧∃j1:ad,vG.cell? (Addr.add ⟨cM,0,none⟩ 2)=some (.slice j1.a j1.len j1.cap)∧∃iF:ad,vG.cell? (Addr.add ⟨cM,0,none⟩ 3)=some (.slice iF.a iF.len iF.cap)∧Calls Tryz.prog F.mP #[.agg #[.bool Mn, .slice xo.a xo.len xo.cap, .slice j1.a j1.len j1.cap, .slice iF.a iF.len iF.cap]] vG fun ag_ oP=>∃IV:Bool,ag_= .returned (.bool IV)∧((!IV)=true→cN oP ⟨pS,0,none⟩ [.bool false, .slice none 0 0, .slice none 0 0, .slice none 0 0]∧(4:Nat)=4∧az (setCells oP ⟨pS,0,none⟩ 0 [.bool false, .slice none 0 0, .slice none 0 0, .slice none 0 0]) fun lB=>∃FY:Bool,lB.cell? ⟨pS,0,none⟩=some (.bool FY)∧∃xp:ad,lB.cell? (Addr.add ⟨pS,0,none⟩ 1)=some (.slice xp.a xp.len xp.cap)∧∃xq:ad,lB.cell? (Addr.add ⟨pS,0,none⟩ 2)=some (.slice xq.a xq.len xq.cap)∧∃iG:ad,lB.cell? (Addr.add ⟨pS,0,none⟩ 3)=some (.slice iG.a iG.len iG.cap)∧Q ( .tuple #[.agg #[.bool FY, .slice xp.a xp.len xp.cap, .slice xq.a xq.len xq.cap, .slice iG.a iG.len iG.cap], .bool false]) lB)∧((!IV)=false→∃Bg:Bool,oP.cell? ⟨cM,0,none⟩=some (.bool Bg)∧∃g1:ad,oP.cell? (Addr.add ⟨cM,0,none⟩ 1)=some (.slice g1.a g1.len g1.cap)∧∃qq:ad,oP.cell? (Addr.add ⟨cM,0,none⟩ 2)=some (.slice qq.a qq.len qq.cap)∧∃j_:ad,oP.cell? (Addr.add ⟨cM,0,none⟩ 3)=some (.slice j_.a j_.len j_.cap)∧cN oP ⟨pS,0,none⟩ [.bool Bg, .slice g1.a g1.len g1.cap, .slice qq.a qq.len qq.cap, .slice j_.a j_.len j_.cap]∧(4:Nat)=4∧az (setCells oP ⟨pS,0,none⟩ 0 [.bool Bg, .slice g1.a g1.len g1.cap, .slice qq.a qq.len qq.cap, .slice j_.a j_.len j_.cap]) fun vH=>∃Mo:Bool,vH.cell? ⟨pS,0,none⟩=some (.bool Mo)∧∃xr:ad,vH.cell? (Addr.add ⟨pS,0,none⟩ 1)=some (.slice xr.a xr.len xr.cap)∧∃iH:ad,vH.cell? (Addr.add ⟨pS,0,none⟩ 2)=some (.slice iH.a iH.len iH.cap)∧∃iI:ad,vH.cell? (Addr.add ⟨pS,0,none⟩ 3)=some (.slice iI.a iI.len iI.cap)∧Q ( .tuple #[.agg #[.bool Mo, .slice xr.a xr.len xr.cap, .slice iH.a iH.len iH.cap, .slice iI.a iI.len iI.cap], .bool true]) vH))
theorem uc {lo pa cM aJ pS:Nat} {key ep dT dF dt du dv:ad} {w e1:World} {a b:aL} {s:Key} {cr cI cf C:Nat→Prop} {ud:List Value} (Mp:e1.cell? ⟨pa,0,none⟩=some (.bool a.leaf))
   (ax:Var e1 cM [.bool a.leaf, .slice ep.a ep.len ep.cap, .slice dT.a dT.len dT.cap, .slice dF.a dF.len dF.cap] ai.cD) (gK:Var e1 aJ [.bool b.leaf, .slice dt.a dt.len dt.cap, .slice du.a du.len du.cap, .slice dv.a dv.len dv.cap] ai.cD)
   (bI:i_ lo e1 a ep dT dF cr cI cf) (j9:b4 C e1 b dt du dv) (kE:∀q,C q→lo≤q∧q<e1.heap.size∧q≠cM∧q≠aJ∧¬cr q∧¬cI q∧¬cf q) (g4:∀q,cr q∨cI q∨cf q→q≠cM∧q≠aJ) (oI:lo≤cM) (gZ:lo≤aJ) (oL:cM≠aJ)
   (aQ:Var e1 pS ud ai.cD) (Qo:ud.length=4) (WM:pS<lo) (oz:w.heap.size≤pS) (ae:Src 1 e1 key (bm s)) (fR:s.length≤1000) (eo:Ext w e1) (aj:dC (gu a s b)) (aA:a.leaf=b.leaf) (mR:dC a) (ez:dC b)
   (c_:a.keys.length≤10000) (cZ:b.keys.length≤10000):WL pa cM aJ pS key e1 (DJ (gu a s b) w):=by
 unfold WL
 have aha:=ax.lt
 have u5:=gK.lt
 have IW:∀ {n:aL},dC n→n.keys.length≤10000→n.vals.length≤10000∧n.kids.length≤10001:=fun {n} U ab=>by
   rcases U with U|U
   · rw[U.len,U.kids];exact ⟨ab,fy _⟩
   · rw[U.len,U.vals];exact ⟨fy _,by omega⟩
 obtain ⟨ahb,Df⟩:=IW mR c_
 obtain ⟨yP,Dg⟩:=IW ez cZ
 have ja:oM lo e1 cM a ep dT dF cr cI cf:=⟨ax,bI.keys,bI.vals,bI.kids,fun q J=>⟨(bI.bK q J).1,(bI.bK q J).2.1,(g4 q (.inl J)).1,(bI.bK q J).2.2⟩,fun q J=>⟨(bI.bv q J).1,(bI.bv q J).2.1,(g4 q (.inr (.inl J))).1,(bI.bv q J).2.2⟩,fun q J=>⟨(bI.aX q J).1,(bI.aX q J).2,(g4 q (.inr (.inr J))).1⟩,oI⟩
 refine w9 (fun w'=>∃ (K:ad) (yO:Nat→Prop),oM lo w' cM ⟨a.leaf,if a.leaf then a.keys else a.keys++ [s],a.vals,a.kids⟩ K dT dF yO cI cf∧aq (fun q=>q=cM∨cr q) e1 w'∧(∀q,yO q→cr q∨e1.heap.size≤q)) (fun q J=>⟨_,Mp,fun aa=> ?_,fun aa=>J _ ⟨ep,cr,?_, .refl _ _,fun q h=> .inl h⟩⟩) ?_
 · have aa:a.leaf=false:=by simpa using aa
   refine P6 ja ae (by omega) (by omega) fun w' aO yO U ab ao=>J _ ⟨aO,yO,?_,ab,ao⟩
   rw[if_neg (by rw[aa];simp)]
   exact U
 · have aa:a.leaf=true:=by simpa using aa
   rw[if_pos aa]
   exact ja
 rintro ag ⟨dy,y0,U,ir,WN⟩
 have n4:=ir.size
 have nj:=gK.an ir (by
   rintro (h|h)
   · exact oL h.symm
   · exact (g4 _ (.inl h)).2 rfl)
 have WO:=j9.an ir fun q J h=>by
   have:=kE q J
   rcases h with h|h
   · exact this.2.2.1 h
   · exact this.2.2.2.2.1 h
 have kq:=aQ.an ir (by
   rintro (h|h)
   · omega
   · have:=(bI.bK _ h).1;omega)
 have ahc:Ext w ag:=Ext.gf eo ir fun q J=>by
   rcases J with h|h
   · omega
   · have:=(bI.bK _ h).1;omega
 obtain ⟨IX,Mq⟩:∃l,l=(if a.leaf then a.keys else a.keys++ [s]):=⟨_,rfl⟩
 rw[←Mq] at U
 have arT:IX.length≤10001:=by
   rw[Mq]
   split
   · omega
   · rw[dA];simp;omega
 obtain ⟨cy,aS,bA,aZ⟩:=b9 U.v
 obtain ⟨d0,d1,d2,d3⟩:=b9 nj
 have DQ:∀q,aP dy q→y0 q:=fun k ae=>by obtain ⟨ts,_,_,ao,_⟩:=U.keys;exact (ao k ae).1
 have Qp:∀q,aP dT q→cI q:=fun k ae=>by obtain ⟨ts,_,_,ao,_⟩:=U.vals;exact (ao k ae).1
 have WQ:∀q,aP dF q→cf q:=fun k ae=>(U.kids.2 k ae).1
 have WR:∀q,C q→¬aP dy q:=fun q J h=>by
   rcases WN q (DQ q h) with ab|ab
   · exact (kE q J).2.2.2.2.1 ab
   · have:=(kE q J).2.1;omega
 obtain ⟨oe,aw,aW,bq,ec⟩:=Qn U.keys WO.keys WR (by show IX.length≤_;omega) (by omega)
 have kB:=U.v.an ec fun h=>(U.bK _ (DQ _ h)).2.2.1 rfl
 obtain ⟨h8,kc⟩:=jI kB (i:=1) (by simp)
 refine ⟨dy,aS,dt,d1,oe,aw,aW,?_⟩
 rw[bn,bn]
 refine ⟨h8,kc,bW ?_⟩
 obtain ⟨bc,nF⟩:∃bc,bc=aw.setCell ⟨cM,0+1,none⟩ (.slice oe.a oe.len oe.cap):=⟨_,rfl⟩
 rw[←nF]
 have pe:aq (fun q=>q=cM) aw bc:=by rw[nF];exact iq _ _ _ _
 have WS:Var bc cM [.bool a.leaf, .slice oe.a oe.len oe.cap, .slice dT.a dT.len dT.cap, .slice dF.a dF.len dF.cap] ai.cD:=by rw[nF];exact jH kB _
 have mx:aq (fun q=>q=cM∨aP dy q) ag bc:=(ec.mono fun q _ h=> .inr h).trans (pe.mono fun q _ h=> .inl h)
 have FZ:=nj.an mx (by
   rintro (h|h)
   · exact oL h.symm
   · rcases WN _ (DQ _ h) with ab|ab
     · exact (g4 _ (.inl ab)).2 rfl
     · omega)
 have WT:=WO.an mx fun q J h=>by
   rcases h with h|h
   · exact (kE q J).2.2.1 h
   · exact WR q J h
 have ahd:=bV.an U.vals mx fun q J h=>by
   rcases h with h|h
   · exact (U.bv q J).2.2.1 h
   · exact (U.bK q (DQ q h)).2.2.2.1 J
 have ahe:=dY.an U.kids mx fun q J h=>by
   rcases h with h|h
   · exact (U.aX q J).2.2 h
   · exact (U.bK q (DQ q h)).2.2.2.2 J
 have A7:=kq.an mx (by
   rintro (h|h)
   · omega
   · have:=(U.bK _ (DQ _ h)).1;omega)
 have g9:Ext w bc:=Ext.gf ahc mx fun q J=>by
   rcases J with h|h
   · omega
   · have:=(U.bK _ (DQ _ h)).1;omega
 have F0:bO (fun q=>(y0 q∨C q∨ag.heap.size≤q)∧q≠cM) bc oe (IX++b.keys):=by
   have Qq:bO (fun q=>(y0 q∨C q∨ag.heap.size≤q)∧q≠cM) aw oe (IX++b.keys):=bO.bx bq fun q _ J=>⟨J,by
     rcases J with h|h|h
     · exact (U.bK _ h).2.2.1
     · exact (kE _ h).2.2.1
     · omega⟩
   exact bO.an Qq pe fun q J h=>J.2 h
 obtain ⟨cy,aS,bA,aZ⟩:=b9 WS
 obtain ⟨d0,d1,d2,d3⟩:=b9 FZ
 have FU:=mx.size
 obtain ⟨hA,bz,aW,bq,ec⟩:=Qn ahd WT.vals (fun q J h=>(kE q J).2.2.2.2.2.1 (Qp q h)) (by show a.vals.length≤_;omega) (by omega)
 have LZ:=WS.an ec fun h=>(U.bv _ (Qp _ h)).2.2.1 rfl
 obtain ⟨h8,kc⟩:=jI LZ (i:=2) (by simp)
 rw[bn] at bA d2
 refine ⟨dT,bA,du,d2,hA,bz,aW,?_⟩
 rw[bn,bn]
 refine ⟨h8,kc,bW ?_⟩
 obtain ⟨bT,Qr⟩:∃bT,bT=bz.setCell ⟨cM,0+2,none⟩ (.slice hA.a hA.len hA.cap):=⟨_,rfl⟩
 rw[←Qr]
 have qs:aq (fun q=>q=cM) bz bT:=by rw[Qr];exact iq _ _ _ _
 have hN:Var bT cM [.bool a.leaf, .slice oe.a oe.len oe.cap, .slice hA.a hA.len hA.cap, .slice dF.a dF.len dF.cap] ai.cD:=by rw[Qr];exact jH LZ _
 have DR:aq (fun q=>q=cM∨cI q) bc bT:=(ec.mono fun q _ h=> .inr (Qp q h)).trans (qs.mono fun q _ h=> .inl h)
 have L0:=FZ.an DR (by
   rintro (h|h)
   · exact oL h.symm
   · exact (g4 _ (.inr (.inl h))).2 rfl)
 have ahf:=WT.an DR fun q J h=>by
   rcases h with h|h
   · exact (kE q J).2.2.1 h
   · exact (kE q J).2.2.2.2.2.1 h
 have ahg:=bO.an F0 DR fun q J h=>by
   rcases h with h|h
   · exact J.2 h
   · rcases J.1 with ab|ab|ab
     · exact (U.bK _ ab).2.2.2.1 h
     · exact (kE _ ab).2.2.2.2.2.1 h
     · have:=(U.bv _ h).2.1;omega
 have ahh:=dY.an ahe DR fun q J h=>by
   rcases h with h|h
   · exact (U.aX q J).2.2 h
   · exact (U.bv q h).2.2.2 J
 have ahi:=A7.an DR (by
   rintro (h|h)
   · omega
   · have:=(U.bv _ h).1;omega)
 have pJ:Ext w bT:=Ext.gf g9 DR fun q J=>by
   rcases J with h|h
   · omega
   · have:=(U.bv _ h).1;omega
 have ahj:bO (fun q=>(cI q∨C q∨bc.heap.size≤q)∧q≠cM) bT hA (a.vals++b.vals):=by
   have Qq:bO (fun q=>(cI q∨C q∨bc.heap.size≤q)∧q≠cM) bz hA (a.vals++b.vals):=bO.bx bq fun q _ J=>⟨J,by
     rcases J with h|h|h
     · exact (U.bv _ h).2.2.1
     · exact (kE _ h).2.2.1
     · omega⟩
   exact bO.an Qq qs fun q J h=>J.2 h
 obtain ⟨cy,aS,bA,aZ⟩:=b9 hN
 obtain ⟨d0,d1,d2,d3⟩:=b9 L0
 have Ml:=DR.size
 obtain ⟨ue,bd,aW,bq,ec⟩:=WK ahh ahf.kids (by show a.kids.length≤_;omega) (by omega)
 have L1:=hN.an ec fun h=>(U.aX _ (WQ _ h)).2.2 rfl
 obtain ⟨h8,kc⟩:=jI L1 (i:=3) (by simp)
 rw[bn] at aZ d3
 refine ⟨dF,aZ,dv,d3,ue,bd,aW,?_⟩
 rw[bn,bn]
 refine ⟨h8,kc,bW ?_⟩
 obtain ⟨bt,DS⟩:∃bt,bt=bd.setCell ⟨cM,0+3,none⟩ (.slice ue.a ue.len ue.cap):=⟨_,rfl⟩
 rw[←DS]
 have xt:aq (fun q=>q=cM) bd bt:=by rw[DS];exact iq _ _ _ _
 have WU:Var bt cM [.bool a.leaf, .slice oe.a oe.len oe.cap, .slice hA.a hA.len hA.cap, .slice ue.a ue.len ue.cap] ai.cD:=by rw[DS];exact jH L1 _
 have IY:aq (fun q=>q=cM∨cf q) bT bt:=(ec.mono fun q _ h=> .inr (WQ q h)).trans (xt.mono fun q _ h=> .inl h)
 have ahk:=bO.an ahg IY fun q J h=>by
   rcases h with h|h
   · exact J.2 h
   · rcases J.1 with ab|ab|ab
     · exact (U.bK _ ab).2.2.2.2 h
     · exact (kE _ ab).2.2.2.2.2.2 h
     · have:=(U.aX _ h).2.1;omega
 have ahl:=bO.an ahj IY fun q J h=>by
   rcases h with h|h
   · exact J.2 h
   · rcases J.1 with ab|ab|ab
     · exact (U.bv _ ab).2.2.2 h
     · exact (kE _ ab).2.2.2.2.2.2 h
     · have:=(U.aX _ h).2.1;omega
 have Qh:=ahi.an IY (by
   rintro (h|h)
   · omega
   · have:=(U.aX _ h).1;omega)
 have tN:Ext w bt:=Ext.gf pJ IY fun q J=>by
   rcases J with h|h
   · omega
   · have:=(U.aX _ h).1;omega
 have FO:=IY.size
 have F1:b4 (fun q=>lo≤q) bt (gu a s b) oe hA ue:=by
   have uf:gu a s b=⟨a.leaf,IX++b.keys,a.vals++b.vals,a.kids++b.kids⟩:=by
     unfold gu
     cases c0:a.leaf with
     |true=>
       have yv:a.kids=[]:=by
         rcases mR with h|h
         · exact h.kids
         · have:=h.inner;rw[c0] at this;cases this
       have wS:b.kids=[]:=by
         rcases ez with h|h
         · exact h.kids
         · have:=h.inner;rw[←aA,c0] at this;cases this
       rw[Mq,c0,yv,wS]
       simp
     |false=>
       have yv:a.vals=[]:=by
         rcases mR with h|h
         · have:=h.leaf;rw[c0] at this;cases this
         · exact h.vals
       have wS:b.vals=[]:=by
         rcases ez with h|h
         · have:=h.leaf;rw[←aA,c0] at this;cases this
         · exact h.vals
       rw[Mq,c0,yv,wS]
       simp
   rw[uf]
   refine ⟨bO.bx ahk fun q _ J=> ?_,bO.bx ahl fun q _ J=> ?_,dJ.bx (dJ.an (B:=fun q=>(cf q∨C q∨bT.heap.size≤q)∧q≠cM) (dJ.bx bq fun q _ J=>⟨J,?_⟩) xt fun q J h=>J.2 h) fun q _ J=> ?_⟩
   · rcases J.1 with h|h|h
     · exact (U.bK _ h).1
     · exact (kE _ h).1
     · omega
   · rcases J.1 with h|h|h
     · exact (U.bv _ h).1
     · exact (kE _ h).1
     · omega
   · rcases J with h|h|h
     · exact (U.aX _ h).2.2
     · exact (kE _ h).2.2.1
     · omega
   · rcases J.1 with h|h|h
     · exact (U.aX _ h).1
     · exact (kE _ h).1
     · omega
 obtain ⟨cy,aS,bA,aZ⟩:=b9 WU
 rw[bn] at aS bA aZ
 have Fv:(gu a s b).keys.length≤20001:=by
   unfold gu
   split
   · show (a.keys++b.keys).length≤_;rw[dA];omega
   · show (a.keys++s::b.keys).length≤_;rw[dA,iV];omega
 have AM:(gu a s b).vals.length≤20001:=by
   unfold gu
   split
   · show (a.vals++b.vals).length≤_;rw[dA];omega
   · simp
 have yQ:(gu a s b).kids.length≤20002:=by
   unfold gu
   split
   · simp
   · show (a.kids++b.kids).length≤_;rw[dA];omega
 have n1:(gu a s b).leaf=a.leaf:=Vo
 repeat rw[bn]
 refine ⟨_,cy,oe,aS,hA,bA,ue,aZ,?_⟩
 have vj:=mP F1 (by omega) (by omega) (by omega)
 unfold eC at vj
 rw[n1] at vj
 refine vj.use ?_
 rintro _ bC ⟨Me,rfl,F2,fF⟩
 have:=F2.2 aj
 subst this
 obtain ⟨cy,aS,bA,aZ⟩:=b9 (WU.ext fF)
 rw[bn] at aS bA aZ
 have Bh:=qm a.leaf oe hA ue (Qh.ext fF) Qo (Q:=fun iD K V D aw=>DJ (gu a s b) w (.tuple #[.agg #[.bool iD, .slice K.a K.len K.cap, .slice V.a V.len V.cap, .slice D.a D.len D.cap], .bool true]) aw) fun bY gw=>⟨oe,hA,ue,by unfold eC;rw[n1],((F1.ext fF).an gw fun q J e=>by omega).bx fun q _ J=>by omega,Ext.eX (tN.trans fF) gw oz⟩
 repeat rw[bn] at Bh
 exact ⟨true,rfl,fun h=>(by cases h),fun _=>⟨_,cy,oe,aS,hA,bA,ue,aZ,Bh⟩⟩
theorem pg {Mr Ms:Nat→Prop} {w:World} {a b:aL} {vI vJ vK vL vM vN key:ad} {s:Key} (aT:b4 Mr w a vI vJ vK) (aa:b4 Ms w b vL vM vN) (ae:Src 1 w key (bm s)) (ug:∀q,aP key q→q<w.heap.size) (fR:s.length≤1000) (mR:dC a) (ez:dC b) (aA:a.leaf=b.leaf) (aj:dC (gu a s b))
   (c_:a.keys.length≤10000) (cZ:b.keys.length≤10000):
   aR Tryz.prog F.pg #[eC a vI vJ vK, .slice key.a key.len key.cap,eC b vL vM vN] w (DJ (gu a s b) w):=by
 have IW:∀ {n:aL},dC n→n.keys.length≤10000→n.vals.length≤10000∧n.kids.length≤10001:=fun {n} U ab=>by
   rcases U with U|U
   · rw[U.len,U.kids];exact ⟨ab,fy _⟩
   · rw[U.len,U.vals];exact ⟨fy _,by omega⟩
 obtain ⟨ahb,Df⟩:=IW mR c_
 obtain ⟨yP,Dg⟩:=IW ez cZ
 have IZ:∀k∈a.keys,k.length≤100000:=fun k ae=>by have:=(mR.keys.ok k ae).2;omega
 have vO:∀k∈b.keys,k.length≤100000:=fun k ae=>by have:=(ez.keys.ok k ae).2;omega
 have I0:∀k∈a.vals,k.length≤100000:=fun k ae=>by have:=mR.vals k ae;omega
 have vP:∀k∈b.vals,k.length≤100000:=fun k ae=>by have:=ez.vals k ae;omega
 refine W.ahm a.leaf vI vJ vK key b.leaf vL vM vN w _ ?_
 (delta W.pg c8 bJ ah ar aZ FP aE pb IB iE cx en Mt st IC DT;dsimp only)
 refine cq (vs:=[.bool a.leaf, .slice vI.a vI.len vI.cap, .slice vJ.a vJ.len vJ.cap, .slice vK.a vK.len vK.cap]) rfl fun ag fH bH n4=> ?_
 refine cq (vs:=[.bool b.leaf, .slice vL.a vL.len vL.cap, .slice vM.a vM.len vM.cap, .slice vN.a vN.len vN.cap]) rfl fun aw jn cB u6=> ?_
 refine cq (vs:=[.bool false, .slice none 0 0, .slice none 0 0, .slice none 0 0]) rfl fun bc A7 eZ FU=> ?_
 have g9:=bH.trans (cB.trans eZ)
 obtain ⟨cy,aS,bA,aZ⟩:=b9 (fH.ext (cB.trans eZ))
 refine ⟨_,cy,vI,aS,vJ,bA,vK,aZ,(mP (aT.ext g9) (by omega) (by omega) (by omega)).use ?_⟩
 rintro _ bz ⟨c5,rfl,nj,fu⟩
 have:=nj.2 mR
 subst this
 have sB:=g9.trans fu
 obtain ⟨d0,d1,d2,d3⟩:=b9 (jn.ext (eZ.trans fu))
 refine ⟨true,rfl,eI (fun b w'=>b=false∧Ext bz w') (fun q J=>⟨fun h=>(by cases h),fun _=>⟨_,d0,vL,d1,vM,d2,vN,d3,(mP (aa.ext sB) (by omega) (by omega) (by omega)).use ?_⟩⟩) ?_⟩
 · rintro _ bT ⟨cA,rfl,gM,kp⟩
   have:=gM.2 ez
   subst this
   exact ⟨true,rfl,J _ _ ⟨rfl,kp⟩⟩
 rintro _ bT ⟨rfl,kp⟩
 have pJ:=sB.trans kp
 obtain ⟨cy,aS,bA,aZ⟩:=b9 (fH.ext (cB.trans (eZ.trans (fu.trans kp))))
 obtain ⟨d0,d1,d2,d3⟩:=b9 (jn.ext (eZ.trans (fu.trans kp)))
 refine eI (fun b w'=>b=false∧bT=w') (fun q J=>⟨fun h=>(by cases h),fun _=>⟨_,cy,_,d0,J _ _ ⟨by rw[aA];simp,rfl⟩⟩⟩) ?_
 rintro _ _ ⟨rfl,rfl⟩
 have bS:=eR bT
 have WV:=pJ.trans bS
 obtain ⟨lU,DU⟩:∃lU,lU=bT.drew:=⟨_,rfl⟩
 have sM:Var lU w.heap.size [.bool a.leaf, .slice vI.a vI.len vI.cap, .slice vJ.a vJ.len vJ.cap, .slice vK.a vK.len vK.cap] ai.cD:=by rw[DU];exact (fH.ext (cB.trans (eZ.trans (fu.trans kp)))).ext bS
 have ahn:Var lU ag.heap.size [.bool b.leaf, .slice vL.a vL.len vL.cap, .slice vM.a vM.len vM.cap, .slice vN.a vN.len vN.cap] ai.cD:=by rw[DU];exact (jn.ext (eZ.trans (fu.trans kp))).ext bS
 have uh:Var lU aw.heap.size [.bool false, .slice none 0 0, .slice none 0 0, .slice none 0 0] ai.cD:=by rw[DU];exact (A7.ext (fu.trans kp)).ext bS
 have lC:Ext w lU:=by rw[DU];exact WV
 have arU:bc.heap.size≤lU.heap.size:=by rw[DU];exact (fu.trans kp).size
 have I1:=aT.ext lC
 have oQ:=aa.ext lC
 have kn:=ae.ext lC
 obtain ⟨lo,oz⟩:∃lo,lo=lU.heap.size:=⟨_,rfl⟩
 rw[←DU]
 clear cy aS bA aZ d0 d1 d2 d3 DU WV bS
 obtain ⟨cy,aS,bA,aZ⟩:=b9 sM
 obtain ⟨d0,d1,d2,d3⟩:=b9 ahn
 refine ⟨fun h=>(by cases h),fun _=>bW ⟨fun _=>False,id,_,cy,vI,aS,vJ,bA,vK,aZ,id,_,d0,vL,d1,vM,d2,vN,d3,?_⟩⟩
 refine ⟨?_,?_,?_⟩
 · refine (fg I1 (by omega) (by omega) (by omega) IZ I0).use ?_
   rintro _ j2 ⟨ep,dT,dF,k1,k2,k3,rfl,bI,aC⟩
   refine ⟨_,ep,dT,dF,rfl,aC,?_⟩
   have s1:=aC.size
   refine ⟨?_,?_,?_⟩
   · refine (fg (oQ.ext aC) (by omega) (by omega) (by omega) vO vP).use ?_
     rintro _ iQ ⟨dt,du,dv,xu,xv,xw,rfl,j9,aF⟩
     refine ⟨_,dt,du,dv,rfl,aF,?_⟩
     have s2:=aF.size
     refine ⟨?_,?_⟩
     · refine cq (vs:=[.bool false, .slice none 0 0, .slice none 0 0, .slice none 0 0]) rfl fun hC mj aH z3=>⟨aH,?_⟩
       have bN:=aH.size
       refine cq (vs:=[.bool false, .slice none 0 0, .slice none 0 0, .slice none 0 0]) rfl fun jb qt aN z4=>⟨aN,?_⟩
       have cC:=aN.size
       have jc:=mj.ext aN
       have mS:=qt
       refine ⟨jc.de rfl (kG _ _ _ _),rfl,dW jc (us:=[.bool a.leaf, .slice ep.a ep.len ep.cap, .slice dT.a dT.len dT.cap, .slice dF.a dF.len dF.cap]) rfl rfl fun vQ hN dK t5=> ?_⟩
       have jd:=mS.an dK (by omega)
       refine ⟨jd.de rfl (kG _ _ _ _),rfl,dW jd (us:=[.bool b.leaf, .slice dt.a dt.len dt.cap, .slice du.a du.len du.cap, .slice dv.a dv.len dv.cap]) rfl rfl fun e5 iu e6 t6=> ?_⟩
       obtain ⟨cM,g4⟩:∃cM,cM=iQ.heap.size:=⟨_,rfl⟩
       obtain ⟨aJ,eL⟩:∃aJ,aJ=hC.heap.size:=⟨_,rfl⟩
       rw[←g4] at hN dK
       rw[←eL] at iu e6
       rw[←g4,←eL]
       have df:aq (fun q=>q=cM∨q=aJ) jb e5:=(dK.mono fun q _ h=> .inl h).trans (e6.mono fun q _ h=> .inr h)
       have mT:i_ lo e5 a ep dT dF k1 k2 k3:=(((bI.ext (aF.trans (aH.trans (aN)))).an df fun q _ _ J e=>by have qn:lU.heap.size≤q∧q<j2.heap.size:=(by rcases J with J|J|J;exact ⟨(bI.bK q J).1,(bI.bK q J).2.1⟩;exact ⟨(bI.bv q J).1,(bI.bv q J).2.1⟩;exact bI.aX q J);omega).low (by omega))
       have mU:b4 (fun q=>j2.heap.size≤q∧q<iQ.heap.size) e5 b dt du dv:=((j9.at.bx fun q U ab=>⟨ab,U⟩).ext (aH.trans (aN))).an df fun q J e=>by omega
       have e7:∀q,k1 q∨k2 q∨k3 q→lU.heap.size≤q∧q<j2.heap.size:=fun q J=>by
         rcases J with J|J|J
         · exact ⟨(bI.bK q J).1,(bI.bK q J).2.1⟩
         · exact ⟨(bI.bv q J).1,(bI.bv q J).2.1⟩
         · exact bI.aX q J
       exact uc (lo:=lo) (e1:=e5) (C:=fun q=>j2.heap.size≤q∧q<iQ.heap.size) ((sM.ext (aC.trans (aF.trans (aH.trans aN)))).an df (by omega)).cell (hN.an e6 (by omega)) iu mT mU (fun q J=>⟨by omega,by omega,by omega,by omega,fun h=>(by have:=e7 q (.inl h);omega),fun h=>(by have:=e7 q (.inr (.inl h));omega),fun h=>(by have:=e7 q (.inr (.inr h));omega)⟩) (fun q J=>(by have:=e7 q J;exact ⟨by omega,by omega⟩)) (by omega) (by omega) (by omega) ((uh.ext (aC.trans (aF.trans (aH.trans aN)))).an df (by omega)) rfl (by omega) (by omega) ((kn.ext (aC.trans (aF.trans (aH.trans aN)))).an df fun q J e=>(by have:=ug q J;have:=lC.size;omega)) fR (Ext.gf (lC.trans (aC.trans (aF.trans (aH.trans aN)))) df fun q J=>by omega) aj aA mR ez c_ cZ
     · refine cq (vs:=[.bool false, .slice none 0 0, .slice none 0 0, .slice none 0 0]) rfl fun hC mj aH z3=>⟨aH,?_⟩
       have bN:=aH.size
       refine cq (vs:=[.bool false, .slice none 0 0, .slice none 0 0, .slice none 0 0]) rfl fun jb qt aN z4=>⟨aN,?_⟩
       have cC:=aN.size
       have jc:=qt
       have mS:=mj.ext aN
       refine ⟨jc.de rfl (kG _ _ _ _),rfl,dW jc (us:=[.bool a.leaf, .slice ep.a ep.len ep.cap, .slice dT.a dT.len dT.cap, .slice dF.a dF.len dF.cap]) rfl rfl fun vQ hN dK t5=> ?_⟩
       have jd:=mS.an dK (by omega)
       refine ⟨jd.de rfl (kG _ _ _ _),rfl,dW jd (us:=[.bool b.leaf, .slice dt.a dt.len dt.cap, .slice du.a du.len du.cap, .slice dv.a dv.len dv.cap]) rfl rfl fun e5 iu e6 t6=> ?_⟩
       obtain ⟨cM,g4⟩:∃cM,cM=hC.heap.size:=⟨_,rfl⟩
       obtain ⟨aJ,eL⟩:∃aJ,aJ=iQ.heap.size:=⟨_,rfl⟩
       rw[←g4] at hN dK
       rw[←eL] at iu e6
       rw[←g4,←eL]
       have df:aq (fun q=>q=cM∨q=aJ) jb e5:=(dK.mono fun q _ h=> .inl h).trans (e6.mono fun q _ h=> .inr h)
       have mT:i_ lo e5 a ep dT dF k1 k2 k3:=(((bI.ext (aF.trans (aH.trans (aN)))).an df fun q _ _ J e=>by have qn:lU.heap.size≤q∧q<j2.heap.size:=(by rcases J with J|J|J;exact ⟨(bI.bK q J).1,(bI.bK q J).2.1⟩;exact ⟨(bI.bv q J).1,(bI.bv q J).2.1⟩;exact bI.aX q J);omega).low (by omega))
       have mU:b4 (fun q=>j2.heap.size≤q∧q<iQ.heap.size) e5 b dt du dv:=((j9.at.bx fun q U ab=>⟨ab,U⟩).ext (aH.trans (aN))).an df fun q J e=>by omega
       have e7:∀q,k1 q∨k2 q∨k3 q→lU.heap.size≤q∧q<j2.heap.size:=fun q J=>by
         rcases J with J|J|J
         · exact ⟨(bI.bK q J).1,(bI.bK q J).2.1⟩
         · exact ⟨(bI.bv q J).1,(bI.bv q J).2.1⟩
         · exact bI.aX q J
       exact uc (lo:=lo) (e1:=e5) (C:=fun q=>j2.heap.size≤q∧q<iQ.heap.size) ((sM.ext (aC.trans (aF.trans (aH.trans aN)))).an df (by omega)).cell (hN.an e6 (by omega)) iu mT mU (fun q J=>⟨by omega,by omega,by omega,by omega,fun h=>(by have:=e7 q (.inl h);omega),fun h=>(by have:=e7 q (.inr (.inl h));omega),fun h=>(by have:=e7 q (.inr (.inr h));omega)⟩) (fun q J=>(by have:=e7 q J;exact ⟨by omega,by omega⟩)) (by omega) (by omega) (by omega) ((uh.ext (aC.trans (aF.trans (aH.trans aN)))).an df (by omega)) rfl (by omega) (by omega) ((kn.ext (aC.trans (aF.trans (aH.trans aN)))).an df fun q J e=>(by have:=ug q J;have:=lC.size;omega)) fR (Ext.gf (lC.trans (aC.trans (aF.trans (aH.trans aN)))) df fun q J=>by omega) aj aA mR ez c_ cZ
   · refine cq (vs:=[.bool false, .slice none 0 0, .slice none 0 0, .slice none 0 0]) rfl fun iQ f_ aF oH=>⟨aF,?_⟩
     have s2:=aF.size
     refine ⟨?_,?_⟩
     · refine (fg (oQ.ext (aC.trans (aF))) (by omega) (by omega) (by omega) vO vP).use ?_
       rintro _ hC ⟨dt,du,dv,xu,xv,xw,rfl,j9,aH⟩
       refine ⟨_,dt,du,dv,rfl,aH,?_⟩
       have bN:=aH.size
       refine cq (vs:=[.bool false, .slice none 0 0, .slice none 0 0, .slice none 0 0]) rfl fun jb qt aN z4=>⟨aN,?_⟩
       have cC:=aN.size
       have jc:=f_.ext (aH.trans (aN))
       have mS:=qt
       refine ⟨jc.de rfl (kG _ _ _ _),rfl,dW jc (us:=[.bool a.leaf, .slice ep.a ep.len ep.cap, .slice dT.a dT.len dT.cap, .slice dF.a dF.len dF.cap]) rfl rfl fun vQ hN dK t5=> ?_⟩
       have jd:=mS.an dK (by omega)
       refine ⟨jd.de rfl (kG _ _ _ _),rfl,dW jd (us:=[.bool b.leaf, .slice dt.a dt.len dt.cap, .slice du.a du.len du.cap, .slice dv.a dv.len dv.cap]) rfl rfl fun e5 iu e6 t6=> ?_⟩
       obtain ⟨cM,g4⟩:∃cM,cM=j2.heap.size:=⟨_,rfl⟩
       obtain ⟨aJ,eL⟩:∃aJ,aJ=hC.heap.size:=⟨_,rfl⟩
       rw[←g4] at hN dK
       rw[←eL] at iu e6
       rw[←g4,←eL]
       have df:aq (fun q=>q=cM∨q=aJ) jb e5:=(dK.mono fun q _ h=> .inl h).trans (e6.mono fun q _ h=> .inr h)
       have mT:i_ lo e5 a ep dT dF k1 k2 k3:=(((bI.ext (aF.trans (aH.trans (aN)))).an df fun q _ _ J e=>by have qn:lU.heap.size≤q∧q<j2.heap.size:=(by rcases J with J|J|J;exact ⟨(bI.bK q J).1,(bI.bK q J).2.1⟩;exact ⟨(bI.bv q J).1,(bI.bv q J).2.1⟩;exact bI.aX q J);omega).low (by omega))
       have mU:b4 (fun q=>iQ.heap.size≤q∧q<hC.heap.size) e5 b dt du dv:=((j9.at.bx fun q U ab=>⟨ab,U⟩).ext aN).an df fun q J e=>by omega
       have e7:∀q,k1 q∨k2 q∨k3 q→lU.heap.size≤q∧q<j2.heap.size:=fun q J=>by
         rcases J with J|J|J
         · exact ⟨(bI.bK q J).1,(bI.bK q J).2.1⟩
         · exact ⟨(bI.bv q J).1,(bI.bv q J).2.1⟩
         · exact bI.aX q J
       exact uc (lo:=lo) (e1:=e5) (C:=fun q=>iQ.heap.size≤q∧q<hC.heap.size) ((sM.ext (aC.trans (aF.trans (aH.trans aN)))).an df (by omega)).cell (hN.an e6 (by omega)) iu mT mU (fun q J=>⟨by omega,by omega,by omega,by omega,fun h=>(by have:=e7 q (.inl h);omega),fun h=>(by have:=e7 q (.inr (.inl h));omega),fun h=>(by have:=e7 q (.inr (.inr h));omega)⟩) (fun q J=>(by have:=e7 q J;exact ⟨by omega,by omega⟩)) (by omega) (by omega) (by omega) ((uh.ext (aC.trans (aF.trans (aH.trans aN)))).an df (by omega)) rfl (by omega) (by omega) ((kn.ext (aC.trans (aF.trans (aH.trans aN)))).an df fun q J e=>(by have:=ug q J;have:=lC.size;omega)) fR (Ext.gf (lC.trans (aC.trans (aF.trans (aH.trans aN)))) df fun q J=>by omega) aj aA mR ez c_ cZ
     · refine cq (vs:=[.bool false, .slice none 0 0, .slice none 0 0, .slice none 0 0]) rfl fun hC mj aH z3=>⟨aH,?_⟩
       have bN:=aH.size
       refine (fg (oQ.ext (aC.trans (aF.trans (aH)))) (by omega) (by omega) (by omega) vO vP).use ?_
       rintro _ jb ⟨dt,du,dv,xu,xv,xw,rfl,j9,aN⟩
       refine ⟨_,dt,du,dv,rfl,aN,?_⟩
       have cC:=aN.size
       have jc:=f_.ext (aH.trans (aN))
       have mS:=mj.ext aN
       refine ⟨jc.de rfl (kG _ _ _ _),rfl,dW jc (us:=[.bool a.leaf, .slice ep.a ep.len ep.cap, .slice dT.a dT.len dT.cap, .slice dF.a dF.len dF.cap]) rfl rfl fun vQ hN dK t5=> ?_⟩
       have jd:=mS.an dK (by omega)
       refine ⟨jd.de rfl (kG _ _ _ _),rfl,dW jd (us:=[.bool b.leaf, .slice dt.a dt.len dt.cap, .slice du.a du.len du.cap, .slice dv.a dv.len dv.cap]) rfl rfl fun e5 iu e6 t6=> ?_⟩
       obtain ⟨cM,g4⟩:∃cM,cM=j2.heap.size:=⟨_,rfl⟩
       obtain ⟨aJ,eL⟩:∃aJ,aJ=iQ.heap.size:=⟨_,rfl⟩
       rw[←g4] at hN dK
       rw[←eL] at iu e6
       rw[←g4,←eL]
       have df:aq (fun q=>q=cM∨q=aJ) jb e5:=(dK.mono fun q _ h=> .inl h).trans (e6.mono fun q _ h=> .inr h)
       have mT:i_ lo e5 a ep dT dF k1 k2 k3:=(((bI.ext (aF.trans (aH.trans (aN)))).an df fun q _ _ J e=>by have qn:lU.heap.size≤q∧q<j2.heap.size:=(by rcases J with J|J|J;exact ⟨(bI.bK q J).1,(bI.bK q J).2.1⟩;exact ⟨(bI.bv q J).1,(bI.bv q J).2.1⟩;exact bI.aX q J);omega).low (by omega))
       have mU:b4 (fun q=>hC.heap.size≤q∧q<jb.heap.size) e5 b dt du dv:=(j9.at.bx fun q U ab=>⟨ab,U⟩).an df fun q J e=>by omega
       have e7:∀q,k1 q∨k2 q∨k3 q→lU.heap.size≤q∧q<j2.heap.size:=fun q J=>by
         rcases J with J|J|J
         · exact ⟨(bI.bK q J).1,(bI.bK q J).2.1⟩
         · exact ⟨(bI.bv q J).1,(bI.bv q J).2.1⟩
         · exact bI.aX q J
       exact uc (lo:=lo) (e1:=e5) (C:=fun q=>hC.heap.size≤q∧q<jb.heap.size) ((sM.ext (aC.trans (aF.trans (aH.trans aN)))).an df (by omega)).cell (hN.an e6 (by omega)) iu mT mU (fun q J=>⟨by omega,by omega,by omega,by omega,fun h=>(by have:=e7 q (.inl h);omega),fun h=>(by have:=e7 q (.inr (.inl h));omega),fun h=>(by have:=e7 q (.inr (.inr h));omega)⟩) (fun q J=>(by have:=e7 q J;exact ⟨by omega,by omega⟩)) (by omega) (by omega) (by omega) ((uh.ext (aC.trans (aF.trans (aH.trans aN)))).an df (by omega)) rfl (by omega) (by omega) ((kn.ext (aC.trans (aF.trans (aH.trans aN)))).an df fun q J e=>(by have:=ug q J;have:=lC.size;omega)) fR (Ext.gf (lC.trans (aC.trans (aF.trans (aH.trans aN)))) df fun q J=>by omega) aj aA mR ez c_ cZ
   · refine cq (vs:=[.bool false, .slice none 0 0, .slice none 0 0, .slice none 0 0]) rfl fun iQ f_ aF oH=>⟨aF,?_⟩
     have s2:=aF.size
     refine ⟨?_,?_⟩
     · refine (fg (oQ.ext (aC.trans (aF))) (by omega) (by omega) (by omega) vO vP).use ?_
       rintro _ hC ⟨dt,du,dv,xu,xv,xw,rfl,j9,aH⟩
       refine ⟨_,dt,du,dv,rfl,aH,?_⟩
       have bN:=aH.size
       refine cq (vs:=[.bool false, .slice none 0 0, .slice none 0 0, .slice none 0 0]) rfl fun jb qt aN z4=>⟨aN,?_⟩
       have cC:=aN.size
       have jc:=qt
       have mS:=f_.ext (aH.trans (aN))
       refine ⟨jc.de rfl (kG _ _ _ _),rfl,dW jc (us:=[.bool a.leaf, .slice ep.a ep.len ep.cap, .slice dT.a dT.len dT.cap, .slice dF.a dF.len dF.cap]) rfl rfl fun vQ hN dK t5=> ?_⟩
       have jd:=mS.an dK (by omega)
       refine ⟨jd.de rfl (kG _ _ _ _),rfl,dW jd (us:=[.bool b.leaf, .slice dt.a dt.len dt.cap, .slice du.a du.len du.cap, .slice dv.a dv.len dv.cap]) rfl rfl fun e5 iu e6 t6=> ?_⟩
       obtain ⟨cM,g4⟩:∃cM,cM=hC.heap.size:=⟨_,rfl⟩
       obtain ⟨aJ,eL⟩:∃aJ,aJ=j2.heap.size:=⟨_,rfl⟩
       rw[←g4] at hN dK
       rw[←eL] at iu e6
       rw[←g4,←eL]
       have df:aq (fun q=>q=cM∨q=aJ) jb e5:=(dK.mono fun q _ h=> .inl h).trans (e6.mono fun q _ h=> .inr h)
       have mT:i_ lo e5 a ep dT dF k1 k2 k3:=(((bI.ext (aF.trans (aH.trans (aN)))).an df fun q _ _ J e=>by have qn:lU.heap.size≤q∧q<j2.heap.size:=(by rcases J with J|J|J;exact ⟨(bI.bK q J).1,(bI.bK q J).2.1⟩;exact ⟨(bI.bv q J).1,(bI.bv q J).2.1⟩;exact bI.aX q J);omega).low (by omega))
       have mU:b4 (fun q=>iQ.heap.size≤q∧q<hC.heap.size) e5 b dt du dv:=((j9.at.bx fun q U ab=>⟨ab,U⟩).ext aN).an df fun q J e=>by omega
       have e7:∀q,k1 q∨k2 q∨k3 q→lU.heap.size≤q∧q<j2.heap.size:=fun q J=>by
         rcases J with J|J|J
         · exact ⟨(bI.bK q J).1,(bI.bK q J).2.1⟩
         · exact ⟨(bI.bv q J).1,(bI.bv q J).2.1⟩
         · exact bI.aX q J
       exact uc (lo:=lo) (e1:=e5) (C:=fun q=>iQ.heap.size≤q∧q<hC.heap.size) ((sM.ext (aC.trans (aF.trans (aH.trans aN)))).an df (by omega)).cell (hN.an e6 (by omega)) iu mT mU (fun q J=>⟨by omega,by omega,by omega,by omega,fun h=>(by have:=e7 q (.inl h);omega),fun h=>(by have:=e7 q (.inr (.inl h));omega),fun h=>(by have:=e7 q (.inr (.inr h));omega)⟩) (fun q J=>(by have:=e7 q J;exact ⟨by omega,by omega⟩)) (by omega) (by omega) (by omega) ((uh.ext (aC.trans (aF.trans (aH.trans aN)))).an df (by omega)) rfl (by omega) (by omega) ((kn.ext (aC.trans (aF.trans (aH.trans aN)))).an df fun q J e=>(by have:=ug q J;have:=lC.size;omega)) fR (Ext.gf (lC.trans (aC.trans (aF.trans (aH.trans aN)))) df fun q J=>by omega) aj aA mR ez c_ cZ
     · refine cq (vs:=[.bool false, .slice none 0 0, .slice none 0 0, .slice none 0 0]) rfl fun hC mj aH z3=>⟨aH,?_⟩
       have bN:=aH.size
       refine (fg (oQ.ext (aC.trans (aF.trans (aH)))) (by omega) (by omega) (by omega) vO vP).use ?_
       rintro _ jb ⟨dt,du,dv,xu,xv,xw,rfl,j9,aN⟩
       refine ⟨_,dt,du,dv,rfl,aN,?_⟩
       have cC:=aN.size
       have jc:=mj.ext aN
       have mS:=f_.ext (aH.trans (aN))
       refine ⟨jc.de rfl (kG _ _ _ _),rfl,dW jc (us:=[.bool a.leaf, .slice ep.a ep.len ep.cap, .slice dT.a dT.len dT.cap, .slice dF.a dF.len dF.cap]) rfl rfl fun vQ hN dK t5=> ?_⟩
       have jd:=mS.an dK (by omega)
       refine ⟨jd.de rfl (kG _ _ _ _),rfl,dW jd (us:=[.bool b.leaf, .slice dt.a dt.len dt.cap, .slice du.a du.len du.cap, .slice dv.a dv.len dv.cap]) rfl rfl fun e5 iu e6 t6=> ?_⟩
       obtain ⟨cM,g4⟩:∃cM,cM=iQ.heap.size:=⟨_,rfl⟩
       obtain ⟨aJ,eL⟩:∃aJ,aJ=j2.heap.size:=⟨_,rfl⟩
       rw[←g4] at hN dK
       rw[←eL] at iu e6
       rw[←g4,←eL]
       have df:aq (fun q=>q=cM∨q=aJ) jb e5:=(dK.mono fun q _ h=> .inl h).trans (e6.mono fun q _ h=> .inr h)
       have mT:i_ lo e5 a ep dT dF k1 k2 k3:=(((bI.ext (aF.trans (aH.trans (aN)))).an df fun q _ _ J e=>by have qn:lU.heap.size≤q∧q<j2.heap.size:=(by rcases J with J|J|J;exact ⟨(bI.bK q J).1,(bI.bK q J).2.1⟩;exact ⟨(bI.bv q J).1,(bI.bv q J).2.1⟩;exact bI.aX q J);omega).low (by omega))
       have mU:b4 (fun q=>hC.heap.size≤q∧q<jb.heap.size) e5 b dt du dv:=(j9.at.bx fun q U ab=>⟨ab,U⟩).an df fun q J e=>by omega
       have e7:∀q,k1 q∨k2 q∨k3 q→lU.heap.size≤q∧q<j2.heap.size:=fun q J=>by
         rcases J with J|J|J
         · exact ⟨(bI.bK q J).1,(bI.bK q J).2.1⟩
         · exact ⟨(bI.bv q J).1,(bI.bv q J).2.1⟩
         · exact bI.aX q J
       exact uc (lo:=lo) (e1:=e5) (C:=fun q=>hC.heap.size≤q∧q<jb.heap.size) ((sM.ext (aC.trans (aF.trans (aH.trans aN)))).an df (by omega)).cell (hN.an e6 (by omega)) iu mT mU (fun q J=>⟨by omega,by omega,by omega,by omega,fun h=>(by have:=e7 q (.inl h);omega),fun h=>(by have:=e7 q (.inr (.inl h));omega),fun h=>(by have:=e7 q (.inr (.inr h));omega)⟩) (fun q J=>(by have:=e7 q J;exact ⟨by omega,by omega⟩)) (by omega) (by omega) (by omega) ((uh.ext (aC.trans (aF.trans (aH.trans aN)))).an df (by omega)) rfl (by omega) (by omega) ((kn.ext (aC.trans (aF.trans (aH.trans aN)))).an df fun q J e=>(by have:=ug q J;have:=lC.size;omega)) fR (Ext.gf (lC.trans (aC.trans (aF.trans (aH.trans aN)))) df fun q J=>by omega) aj aA mR ez c_ cZ
 · refine cq (vs:=[.bool false, .slice none 0 0, .slice none 0 0, .slice none 0 0]) rfl fun j2 lQ aC c8=>⟨aC,?_⟩
   have s1:=aC.size
   refine ⟨?_,?_⟩
   · refine (fg (I1.ext aC) (by omega) (by omega) (by omega) IZ I0).use ?_
     rintro _ iQ ⟨ep,dT,dF,k1,k2,k3,rfl,bI,aF⟩
     refine ⟨_,ep,dT,dF,rfl,aF,?_⟩
     have s2:=aF.size
     refine ⟨?_,?_⟩
     · refine (fg (oQ.ext (aC.trans (aF))) (by omega) (by omega) (by omega) vO vP).use ?_
       rintro _ hC ⟨dt,du,dv,xu,xv,xw,rfl,j9,aH⟩
       refine ⟨_,dt,du,dv,rfl,aH,?_⟩
       have bN:=aH.size
       refine cq (vs:=[.bool false, .slice none 0 0, .slice none 0 0, .slice none 0 0]) rfl fun jb qt aN z4=>⟨aN,?_⟩
       have cC:=aN.size
       have jc:=lQ.ext (aF.trans (aH.trans (aN)))
       have mS:=qt
       refine ⟨jc.de rfl (kG _ _ _ _),rfl,dW jc (us:=[.bool a.leaf, .slice ep.a ep.len ep.cap, .slice dT.a dT.len dT.cap, .slice dF.a dF.len dF.cap]) rfl rfl fun vQ hN dK t5=> ?_⟩
       have jd:=mS.an dK (by omega)
       refine ⟨jd.de rfl (kG _ _ _ _),rfl,dW jd (us:=[.bool b.leaf, .slice dt.a dt.len dt.cap, .slice du.a du.len du.cap, .slice dv.a dv.len dv.cap]) rfl rfl fun e5 iu e6 t6=> ?_⟩
       obtain ⟨cM,g4⟩:∃cM,cM=lU.heap.size:=⟨_,rfl⟩
       obtain ⟨aJ,eL⟩:∃aJ,aJ=hC.heap.size:=⟨_,rfl⟩
       rw[←g4] at hN dK
       rw[←eL] at iu e6
       rw[←g4,←eL]
       have df:aq (fun q=>q=cM∨q=aJ) jb e5:=(dK.mono fun q _ h=> .inl h).trans (e6.mono fun q _ h=> .inr h)
       have mT:i_ lo e5 a ep dT dF k1 k2 k3:=(((bI.ext (aH.trans (aN))).an df fun q _ _ J e=>by have qn:j2.heap.size≤q∧q<iQ.heap.size:=(by rcases J with J|J|J;exact ⟨(bI.bK q J).1,(bI.bK q J).2.1⟩;exact ⟨(bI.bv q J).1,(bI.bv q J).2.1⟩;exact bI.aX q J);omega).low (by omega))
       have mU:b4 (fun q=>iQ.heap.size≤q∧q<hC.heap.size) e5 b dt du dv:=((j9.at.bx fun q U ab=>⟨ab,U⟩).ext aN).an df fun q J e=>by omega
       have e7:∀q,k1 q∨k2 q∨k3 q→j2.heap.size≤q∧q<iQ.heap.size:=fun q J=>by
         rcases J with J|J|J
         · exact ⟨(bI.bK q J).1,(bI.bK q J).2.1⟩
         · exact ⟨(bI.bv q J).1,(bI.bv q J).2.1⟩
         · exact bI.aX q J
       exact uc (lo:=lo) (e1:=e5) (C:=fun q=>iQ.heap.size≤q∧q<hC.heap.size) ((sM.ext (aC.trans (aF.trans (aH.trans aN)))).an df (by omega)).cell (hN.an e6 (by omega)) iu mT mU (fun q J=>⟨by omega,by omega,by omega,by omega,fun h=>(by have:=e7 q (.inl h);omega),fun h=>(by have:=e7 q (.inr (.inl h));omega),fun h=>(by have:=e7 q (.inr (.inr h));omega)⟩) (fun q J=>(by have:=e7 q J;exact ⟨by omega,by omega⟩)) (by omega) (by omega) (by omega) ((uh.ext (aC.trans (aF.trans (aH.trans aN)))).an df (by omega)) rfl (by omega) (by omega) ((kn.ext (aC.trans (aF.trans (aH.trans aN)))).an df fun q J e=>(by have:=ug q J;have:=lC.size;omega)) fR (Ext.gf (lC.trans (aC.trans (aF.trans (aH.trans aN)))) df fun q J=>by omega) aj aA mR ez c_ cZ
     · refine cq (vs:=[.bool false, .slice none 0 0, .slice none 0 0, .slice none 0 0]) rfl fun hC mj aH z3=>⟨aH,?_⟩
       have bN:=aH.size
       refine (fg (oQ.ext (aC.trans (aF.trans (aH)))) (by omega) (by omega) (by omega) vO vP).use ?_
       rintro _ jb ⟨dt,du,dv,xu,xv,xw,rfl,j9,aN⟩
       refine ⟨_,dt,du,dv,rfl,aN,?_⟩
       have cC:=aN.size
       have jc:=lQ.ext (aF.trans (aH.trans (aN)))
       have mS:=mj.ext aN
       refine ⟨jc.de rfl (kG _ _ _ _),rfl,dW jc (us:=[.bool a.leaf, .slice ep.a ep.len ep.cap, .slice dT.a dT.len dT.cap, .slice dF.a dF.len dF.cap]) rfl rfl fun vQ hN dK t5=> ?_⟩
       have jd:=mS.an dK (by omega)
       refine ⟨jd.de rfl (kG _ _ _ _),rfl,dW jd (us:=[.bool b.leaf, .slice dt.a dt.len dt.cap, .slice du.a du.len du.cap, .slice dv.a dv.len dv.cap]) rfl rfl fun e5 iu e6 t6=> ?_⟩
       obtain ⟨cM,g4⟩:∃cM,cM=lU.heap.size:=⟨_,rfl⟩
       obtain ⟨aJ,eL⟩:∃aJ,aJ=iQ.heap.size:=⟨_,rfl⟩
       rw[←g4] at hN dK
       rw[←eL] at iu e6
       rw[←g4,←eL]
       have df:aq (fun q=>q=cM∨q=aJ) jb e5:=(dK.mono fun q _ h=> .inl h).trans (e6.mono fun q _ h=> .inr h)
       have mT:i_ lo e5 a ep dT dF k1 k2 k3:=(((bI.ext (aH.trans (aN))).an df fun q _ _ J e=>by have qn:j2.heap.size≤q∧q<iQ.heap.size:=(by rcases J with J|J|J;exact ⟨(bI.bK q J).1,(bI.bK q J).2.1⟩;exact ⟨(bI.bv q J).1,(bI.bv q J).2.1⟩;exact bI.aX q J);omega).low (by omega))
       have mU:b4 (fun q=>hC.heap.size≤q∧q<jb.heap.size) e5 b dt du dv:=(j9.at.bx fun q U ab=>⟨ab,U⟩).an df fun q J e=>by omega
       have e7:∀q,k1 q∨k2 q∨k3 q→j2.heap.size≤q∧q<iQ.heap.size:=fun q J=>by
         rcases J with J|J|J
         · exact ⟨(bI.bK q J).1,(bI.bK q J).2.1⟩
         · exact ⟨(bI.bv q J).1,(bI.bv q J).2.1⟩
         · exact bI.aX q J
       exact uc (lo:=lo) (e1:=e5) (C:=fun q=>hC.heap.size≤q∧q<jb.heap.size) ((sM.ext (aC.trans (aF.trans (aH.trans aN)))).an df (by omega)).cell (hN.an e6 (by omega)) iu mT mU (fun q J=>⟨by omega,by omega,by omega,by omega,fun h=>(by have:=e7 q (.inl h);omega),fun h=>(by have:=e7 q (.inr (.inl h));omega),fun h=>(by have:=e7 q (.inr (.inr h));omega)⟩) (fun q J=>(by have:=e7 q J;exact ⟨by omega,by omega⟩)) (by omega) (by omega) (by omega) ((uh.ext (aC.trans (aF.trans (aH.trans aN)))).an df (by omega)) rfl (by omega) (by omega) ((kn.ext (aC.trans (aF.trans (aH.trans aN)))).an df fun q J e=>(by have:=ug q J;have:=lC.size;omega)) fR (Ext.gf (lC.trans (aC.trans (aF.trans (aH.trans aN)))) df fun q J=>by omega) aj aA mR ez c_ cZ
   · refine cq (vs:=[.bool false, .slice none 0 0, .slice none 0 0, .slice none 0 0]) rfl fun iQ f_ aF oH=>⟨aF,?_⟩
     have s2:=aF.size
     refine (fg (I1.ext (aC.trans (aF))) (by omega) (by omega) (by omega) IZ I0).use ?_
     rintro _ hC ⟨ep,dT,dF,k1,k2,k3,rfl,bI,aH⟩
     refine ⟨_,ep,dT,dF,rfl,aH,?_⟩
     have bN:=aH.size
     refine (fg (oQ.ext (aC.trans (aF.trans (aH)))) (by omega) (by omega) (by omega) vO vP).use ?_
     rintro _ jb ⟨dt,du,dv,xu,xv,xw,rfl,j9,aN⟩
     refine ⟨_,dt,du,dv,rfl,aN,?_⟩
     have cC:=aN.size
     have jc:=lQ.ext (aF.trans (aH.trans (aN)))
     have mS:=f_.ext (aH.trans (aN))
     refine ⟨jc.de rfl (kG _ _ _ _),rfl,dW jc (us:=[.bool a.leaf, .slice ep.a ep.len ep.cap, .slice dT.a dT.len dT.cap, .slice dF.a dF.len dF.cap]) rfl rfl fun vQ hN dK t5=> ?_⟩
     have jd:=mS.an dK (by omega)
     refine ⟨jd.de rfl (kG _ _ _ _),rfl,dW jd (us:=[.bool b.leaf, .slice dt.a dt.len dt.cap, .slice du.a du.len du.cap, .slice dv.a dv.len dv.cap]) rfl rfl fun e5 iu e6 t6=> ?_⟩
     obtain ⟨cM,g4⟩:∃cM,cM=lU.heap.size:=⟨_,rfl⟩
     obtain ⟨aJ,eL⟩:∃aJ,aJ=j2.heap.size:=⟨_,rfl⟩
     rw[←g4] at hN dK
     rw[←eL] at iu e6
     rw[←g4,←eL]
     have df:aq (fun q=>q=cM∨q=aJ) jb e5:=(dK.mono fun q _ h=> .inl h).trans (e6.mono fun q _ h=> .inr h)
     have mT:i_ lo e5 a ep dT dF k1 k2 k3:=(((bI.ext aN).an df fun q _ _ J e=>by have qn:iQ.heap.size≤q∧q<hC.heap.size:=(by rcases J with J|J|J;exact ⟨(bI.bK q J).1,(bI.bK q J).2.1⟩;exact ⟨(bI.bv q J).1,(bI.bv q J).2.1⟩;exact bI.aX q J);omega).low (by omega))
     have mU:b4 (fun q=>hC.heap.size≤q∧q<jb.heap.size) e5 b dt du dv:=(j9.at.bx fun q U ab=>⟨ab,U⟩).an df fun q J e=>by omega
     have e7:∀q,k1 q∨k2 q∨k3 q→iQ.heap.size≤q∧q<hC.heap.size:=fun q J=>by
       rcases J with J|J|J
       · exact ⟨(bI.bK q J).1,(bI.bK q J).2.1⟩
       · exact ⟨(bI.bv q J).1,(bI.bv q J).2.1⟩
       · exact bI.aX q J
     exact uc (lo:=lo) (e1:=e5) (C:=fun q=>hC.heap.size≤q∧q<jb.heap.size) ((sM.ext (aC.trans (aF.trans (aH.trans aN)))).an df (by omega)).cell (hN.an e6 (by omega)) iu mT mU (fun q J=>⟨by omega,by omega,by omega,by omega,fun h=>(by have:=e7 q (.inl h);omega),fun h=>(by have:=e7 q (.inr (.inl h));omega),fun h=>(by have:=e7 q (.inr (.inr h));omega)⟩) (fun q J=>(by have:=e7 q J;exact ⟨by omega,by omega⟩)) (by omega) (by omega) (by omega) ((uh.ext (aC.trans (aF.trans (aH.trans aN)))).an df (by omega)) rfl (by omega) (by omega) ((kn.ext (aC.trans (aF.trans (aH.trans aN)))).an df fun q J e=>(by have:=ug q J;have:=lC.size;omega)) fR (Ext.gf (lC.trans (aC.trans (aF.trans (aH.trans aN)))) df fun q J=>by omega) aj aA mR ez c_ cZ
 · refine cq (vs:=[.bool false, .slice none 0 0, .slice none 0 0, .slice none 0 0]) rfl fun j2 lQ aC c8=>⟨aC,?_⟩
   have s1:=aC.size
   refine ⟨?_,?_⟩
   · refine (fg (I1.ext aC) (by omega) (by omega) (by omega) IZ I0).use ?_
     rintro _ iQ ⟨ep,dT,dF,k1,k2,k3,rfl,bI,aF⟩
     refine ⟨_,ep,dT,dF,rfl,aF,?_⟩
     have s2:=aF.size
     refine ⟨?_,?_⟩
     · refine (fg (oQ.ext (aC.trans (aF))) (by omega) (by omega) (by omega) vO vP).use ?_
       rintro _ hC ⟨dt,du,dv,xu,xv,xw,rfl,j9,aH⟩
       refine ⟨_,dt,du,dv,rfl,aH,?_⟩
       have bN:=aH.size
       refine cq (vs:=[.bool false, .slice none 0 0, .slice none 0 0, .slice none 0 0]) rfl fun jb qt aN z4=>⟨aN,?_⟩
       have cC:=aN.size
       have jc:=qt
       have mS:=lQ.ext (aF.trans (aH.trans (aN)))
       refine ⟨jc.de rfl (kG _ _ _ _),rfl,dW jc (us:=[.bool a.leaf, .slice ep.a ep.len ep.cap, .slice dT.a dT.len dT.cap, .slice dF.a dF.len dF.cap]) rfl rfl fun vQ hN dK t5=> ?_⟩
       have jd:=mS.an dK (by omega)
       refine ⟨jd.de rfl (kG _ _ _ _),rfl,dW jd (us:=[.bool b.leaf, .slice dt.a dt.len dt.cap, .slice du.a du.len du.cap, .slice dv.a dv.len dv.cap]) rfl rfl fun e5 iu e6 t6=> ?_⟩
       obtain ⟨cM,g4⟩:∃cM,cM=hC.heap.size:=⟨_,rfl⟩
       obtain ⟨aJ,eL⟩:∃aJ,aJ=lU.heap.size:=⟨_,rfl⟩
       rw[←g4] at hN dK
       rw[←eL] at iu e6
       rw[←g4,←eL]
       have df:aq (fun q=>q=cM∨q=aJ) jb e5:=(dK.mono fun q _ h=> .inl h).trans (e6.mono fun q _ h=> .inr h)
       have mT:i_ lo e5 a ep dT dF k1 k2 k3:=(((bI.ext (aH.trans (aN))).an df fun q _ _ J e=>by have qn:j2.heap.size≤q∧q<iQ.heap.size:=(by rcases J with J|J|J;exact ⟨(bI.bK q J).1,(bI.bK q J).2.1⟩;exact ⟨(bI.bv q J).1,(bI.bv q J).2.1⟩;exact bI.aX q J);omega).low (by omega))
       have mU:b4 (fun q=>iQ.heap.size≤q∧q<hC.heap.size) e5 b dt du dv:=((j9.at.bx fun q U ab=>⟨ab,U⟩).ext aN).an df fun q J e=>by omega
       have e7:∀q,k1 q∨k2 q∨k3 q→j2.heap.size≤q∧q<iQ.heap.size:=fun q J=>by
         rcases J with J|J|J
         · exact ⟨(bI.bK q J).1,(bI.bK q J).2.1⟩
         · exact ⟨(bI.bv q J).1,(bI.bv q J).2.1⟩
         · exact bI.aX q J
       exact uc (lo:=lo) (e1:=e5) (C:=fun q=>iQ.heap.size≤q∧q<hC.heap.size) ((sM.ext (aC.trans (aF.trans (aH.trans aN)))).an df (by omega)).cell (hN.an e6 (by omega)) iu mT mU (fun q J=>⟨by omega,by omega,by omega,by omega,fun h=>(by have:=e7 q (.inl h);omega),fun h=>(by have:=e7 q (.inr (.inl h));omega),fun h=>(by have:=e7 q (.inr (.inr h));omega)⟩) (fun q J=>(by have:=e7 q J;exact ⟨by omega,by omega⟩)) (by omega) (by omega) (by omega) ((uh.ext (aC.trans (aF.trans (aH.trans aN)))).an df (by omega)) rfl (by omega) (by omega) ((kn.ext (aC.trans (aF.trans (aH.trans aN)))).an df fun q J e=>(by have:=ug q J;have:=lC.size;omega)) fR (Ext.gf (lC.trans (aC.trans (aF.trans (aH.trans aN)))) df fun q J=>by omega) aj aA mR ez c_ cZ
     · refine cq (vs:=[.bool false, .slice none 0 0, .slice none 0 0, .slice none 0 0]) rfl fun hC mj aH z3=>⟨aH,?_⟩
       have bN:=aH.size
       refine (fg (oQ.ext (aC.trans (aF.trans (aH)))) (by omega) (by omega) (by omega) vO vP).use ?_
       rintro _ jb ⟨dt,du,dv,xu,xv,xw,rfl,j9,aN⟩
       refine ⟨_,dt,du,dv,rfl,aN,?_⟩
       have cC:=aN.size
       have jc:=mj.ext aN
       have mS:=lQ.ext (aF.trans (aH.trans (aN)))
       refine ⟨jc.de rfl (kG _ _ _ _),rfl,dW jc (us:=[.bool a.leaf, .slice ep.a ep.len ep.cap, .slice dT.a dT.len dT.cap, .slice dF.a dF.len dF.cap]) rfl rfl fun vQ hN dK t5=> ?_⟩
       have jd:=mS.an dK (by omega)
       refine ⟨jd.de rfl (kG _ _ _ _),rfl,dW jd (us:=[.bool b.leaf, .slice dt.a dt.len dt.cap, .slice du.a du.len du.cap, .slice dv.a dv.len dv.cap]) rfl rfl fun e5 iu e6 t6=> ?_⟩
       obtain ⟨cM,g4⟩:∃cM,cM=iQ.heap.size:=⟨_,rfl⟩
       obtain ⟨aJ,eL⟩:∃aJ,aJ=lU.heap.size:=⟨_,rfl⟩
       rw[←g4] at hN dK
       rw[←eL] at iu e6
       rw[←g4,←eL]
       have df:aq (fun q=>q=cM∨q=aJ) jb e5:=(dK.mono fun q _ h=> .inl h).trans (e6.mono fun q _ h=> .inr h)
       have mT:i_ lo e5 a ep dT dF k1 k2 k3:=(((bI.ext (aH.trans (aN))).an df fun q _ _ J e=>by have qn:j2.heap.size≤q∧q<iQ.heap.size:=(by rcases J with J|J|J;exact ⟨(bI.bK q J).1,(bI.bK q J).2.1⟩;exact ⟨(bI.bv q J).1,(bI.bv q J).2.1⟩;exact bI.aX q J);omega).low (by omega))
       have mU:b4 (fun q=>hC.heap.size≤q∧q<jb.heap.size) e5 b dt du dv:=(j9.at.bx fun q U ab=>⟨ab,U⟩).an df fun q J e=>by omega
       have e7:∀q,k1 q∨k2 q∨k3 q→j2.heap.size≤q∧q<iQ.heap.size:=fun q J=>by
         rcases J with J|J|J
         · exact ⟨(bI.bK q J).1,(bI.bK q J).2.1⟩
         · exact ⟨(bI.bv q J).1,(bI.bv q J).2.1⟩
         · exact bI.aX q J
       exact uc (lo:=lo) (e1:=e5) (C:=fun q=>hC.heap.size≤q∧q<jb.heap.size) ((sM.ext (aC.trans (aF.trans (aH.trans aN)))).an df (by omega)).cell (hN.an e6 (by omega)) iu mT mU (fun q J=>⟨by omega,by omega,by omega,by omega,fun h=>(by have:=e7 q (.inl h);omega),fun h=>(by have:=e7 q (.inr (.inl h));omega),fun h=>(by have:=e7 q (.inr (.inr h));omega)⟩) (fun q J=>(by have:=e7 q J;exact ⟨by omega,by omega⟩)) (by omega) (by omega) (by omega) ((uh.ext (aC.trans (aF.trans (aH.trans aN)))).an df (by omega)) rfl (by omega) (by omega) ((kn.ext (aC.trans (aF.trans (aH.trans aN)))).an df fun q J e=>(by have:=ug q J;have:=lC.size;omega)) fR (Ext.gf (lC.trans (aC.trans (aF.trans (aH.trans aN)))) df fun q J=>by omega) aj aA mR ez c_ cZ
   · refine cq (vs:=[.bool false, .slice none 0 0, .slice none 0 0, .slice none 0 0]) rfl fun iQ f_ aF oH=>⟨aF,?_⟩
     have s2:=aF.size
     refine (fg (I1.ext (aC.trans (aF))) (by omega) (by omega) (by omega) IZ I0).use ?_
     rintro _ hC ⟨ep,dT,dF,k1,k2,k3,rfl,bI,aH⟩
     refine ⟨_,ep,dT,dF,rfl,aH,?_⟩
     have bN:=aH.size
     refine (fg (oQ.ext (aC.trans (aF.trans (aH)))) (by omega) (by omega) (by omega) vO vP).use ?_
     rintro _ jb ⟨dt,du,dv,xu,xv,xw,rfl,j9,aN⟩
     refine ⟨_,dt,du,dv,rfl,aN,?_⟩
     have cC:=aN.size
     have jc:=f_.ext (aH.trans (aN))
     have mS:=lQ.ext (aF.trans (aH.trans (aN)))
     refine ⟨jc.de rfl (kG _ _ _ _),rfl,dW jc (us:=[.bool a.leaf, .slice ep.a ep.len ep.cap, .slice dT.a dT.len dT.cap, .slice dF.a dF.len dF.cap]) rfl rfl fun vQ hN dK t5=> ?_⟩
     have jd:=mS.an dK (by omega)
     refine ⟨jd.de rfl (kG _ _ _ _),rfl,dW jd (us:=[.bool b.leaf, .slice dt.a dt.len dt.cap, .slice du.a du.len du.cap, .slice dv.a dv.len dv.cap]) rfl rfl fun e5 iu e6 t6=> ?_⟩
     obtain ⟨cM,g4⟩:∃cM,cM=j2.heap.size:=⟨_,rfl⟩
     obtain ⟨aJ,eL⟩:∃aJ,aJ=lU.heap.size:=⟨_,rfl⟩
     rw[←g4] at hN dK
     rw[←eL] at iu e6
     rw[←g4,←eL]
     have df:aq (fun q=>q=cM∨q=aJ) jb e5:=(dK.mono fun q _ h=> .inl h).trans (e6.mono fun q _ h=> .inr h)
     have mT:i_ lo e5 a ep dT dF k1 k2 k3:=(((bI.ext aN).an df fun q _ _ J e=>by have qn:iQ.heap.size≤q∧q<hC.heap.size:=(by rcases J with J|J|J;exact ⟨(bI.bK q J).1,(bI.bK q J).2.1⟩;exact ⟨(bI.bv q J).1,(bI.bv q J).2.1⟩;exact bI.aX q J);omega).low (by omega))
     have mU:b4 (fun q=>hC.heap.size≤q∧q<jb.heap.size) e5 b dt du dv:=(j9.at.bx fun q U ab=>⟨ab,U⟩).an df fun q J e=>by omega
     have e7:∀q,k1 q∨k2 q∨k3 q→iQ.heap.size≤q∧q<hC.heap.size:=fun q J=>by
       rcases J with J|J|J
       · exact ⟨(bI.bK q J).1,(bI.bK q J).2.1⟩
       · exact ⟨(bI.bv q J).1,(bI.bv q J).2.1⟩
       · exact bI.aX q J
     exact uc (lo:=lo) (e1:=e5) (C:=fun q=>hC.heap.size≤q∧q<jb.heap.size) ((sM.ext (aC.trans (aF.trans (aH.trans aN)))).an df (by omega)).cell (hN.an e6 (by omega)) iu mT mU (fun q J=>⟨by omega,by omega,by omega,by omega,fun h=>(by have:=e7 q (.inl h);omega),fun h=>(by have:=e7 q (.inr (.inl h));omega),fun h=>(by have:=e7 q (.inr (.inr h));omega)⟩) (fun q J=>(by have:=e7 q J;exact ⟨by omega,by omega⟩)) (by omega) (by omega) (by omega) ((uh.ext (aC.trans (aF.trans (aH.trans aN)))).an df (by omega)) rfl (by omega) (by omega) ((kn.ext (aC.trans (aF.trans (aH.trans aN)))).an df fun q J e=>(by have:=ug q J;have:=lC.size;omega)) fR (Ext.gf (lC.trans (aC.trans (aF.trans (aH.trans aN)))) df fun q J=>by omega) aj aA mR ez c_ cZ
end
section
section
variable {α:Type} {c:α→List Value} {sz:Nat}
def dn (c:α→List Value) (l:List α):List Value:=(l.map c).flatten
theorem F3 (l m:List α):dn c (l++m)=dn c l++dn c m:=by simp[dn]
theorem I2 (x:α) (l:List α):dn c (x::l)=c x++dn c l:=rfl
theorem oR:∀ (l:List α),(∀x∈l,(c x).length=sz)→(dn c l).length=l.length*sz
 | [],_=>by simp[dn]
 |x::l,h=>by
   rw[I2,dA,h x (by simp),oR l fun y b1=>h y (by simp[b1]),iV,wP];omega
theorem aho {l:List α} {i:Nat} (h:i<l.length):l=l.take i++l[i]::l.drop (i+1):=by rw[←yl h,qd]
theorem Qs {l:List α} (al:∀x∈l,(c x).length=sz) {i:Nat} (h:i<l.length):(dn c l).take (i*sz)=dn c (l.take i)∧(dn c l).drop (i*sz)=c l[i]++dn c (l.drop (i+1)):=by
 have aA:(dn c (l.take i)).length=i*sz:=by
   rw[oR _ fun x af=>al x (jR af),eA,sr (by omega)]
 have e:dn c l=dn c (l.take i)++(c l[i]++dn c (l.drop (i+1))):=by
   conv=>lhs;rw[aho h]
   rw[F3,I2]
 rw[e]
 exact ⟨yA aA,drop_left' aA⟩
theorem WW {l:List α} (al:∀x∈l,(c x).length=sz) {i:Nat} (h:i<l.length):((dn c l).drop (i*sz)).take sz=c l[i]:=by
 rw[(Qs al h).2]
 exact yA (al _ (eN h))
theorem Mu {l:List α} (al:∀x∈l,(c x).length=sz) {i j:Nat} (h:i<l.length) (aU:j<sz):(dn c l)[i*sz+j]? =(c l[i])[j]? :=by
 rw[←WW al h,List.getElem?_take_of_lt aU,List.getElem?_drop]
theorem ahp {l:List α} (al:∀x∈l,(c x).length=sz) {i:Nat} (h:i<l.length) (x:α):(dn c l).take (i*sz)++c x++(dn c l).drop (i*sz+sz)=dn c (l.set i x):=by
 have U:=Qs al h
 have ab:(dn c l).drop (i*sz+sz)=dn c (l.drop (i+1)):=by
   rw[←List.drop_drop,U.2]
   exact drop_left' (al _ (eN h))
 rw[U.1,ab,List.set_eq_take_append_cons_drop,if_pos h,F3,I2,d_]
theorem ahq {l:List α} (al:∀x∈l,(c x).length=sz) {i j:Nat} (h:i<l.length) (aU:j<sz) {x:α} {v:Value} (af:c x=(c l[i]).set j v):(dn c l).set (i*sz+j) v=dn c (l.set i x):=by
 have aA:(c l[i]).length=sz:=al _ (eN h)
 have U:=Qs al h
 have e:dn c l=dn c (l.take i)++(c l[i]++dn c (l.drop (i+1))):=by
   conv=>lhs;rw[←qd (i*sz) (dn c l),U.1,U.2]
 have qR:(dn c (l.take i)).length=i*sz:=by
   rw[oR _ fun x af=>al x (jR af),eA,sr (by omega)]
 rw[e,List.set_append_right _ _ (by omega),show i*sz+j-(dn c (l.take i)).length=j by omega,List.set_append_left _ _ (by omega),←af,List.set_eq_take_append_cons_drop,if_pos h,F3,I2]
end
section
variable {α:Type} [DecidableEq α] {P:Program} {w:World} {q0 F4 T:TypeId} {enc:α→Value} {r:Nat} {M:List (α×Value)} {k:α} {v:Value}
theorem ahr (bp:Bi P q0 enc) (bh:P.underlying T=some (.map q0 F4)) (h:jJ w r enc M) (hm:∀v,(k,v)∉M) (v:Value):
   ∃ag:World,(Instr.mapUpdate T (.map (some r)) (enc k) v).run P w= .ok () ag∧aq (fun q=>q=r) w ag∧ag.heap.size=w.heap.size∧jJ ag r enc ((k,v)::M):=by
 have a_:=h.lt
 obtain ⟨L,ke,h,U,ab,ao,aG⟩:=h
 have oL:=WX U hm
 have aI:=bp.find L k w
 rw[Qt oL] at aI
 refine ⟨vR w r (.map ((L.map (qu enc)).toArray.push ⟨enc k,v,ke⟩) (ke+1)),?_,WY _ _ _,WZ _ _ _,L++ [(k,v,ke)],ke+1,?_,?_,?_,?_,?_⟩
 · simp only[Instr.mapUpdate,Sem.run_bind,fA bh,Result.andThen,Mv h,Sem.run_pure,bp.check,aI,W0 h]
 · rw[W1 a_]
   simp[qu]
 · rw[m9]
   have:([(k,v,ke)]:List (α×Value×Nat)).map DV=[(k,v)]:=rfl
   rw[this]
   exact (HM).trans (List.Perm.cons _ U)
 · rw[m9,HU]
   refine ⟨ab,by simp,fun a aT b aa=> ?_⟩
   obtain ⟨x,af,rfl⟩:=nA.1 aT
   simp only[tB,List.map_nil,lN] at aa
   subst aa
   exact oL x af
 · rw[m9,HU]
   refine ⟨ao,by simp,fun a aT b aa=> ?_⟩
   obtain ⟨x,af,rfl⟩:=nA.1 aT
   simp only[tB,List.map_nil,lN] at aa
   subst aa
   have:=aG x af
   omega
 · intro x af
   rcases eH.1 af with af|af
   · have:=aG x af;omega
   · rw[lN.1 af];show ke<ke+1;omega
theorem ahs (bp:Bi P q0 enc) (bh:P.underlying T=some (.map q0 F4)) (h:jJ w r enc ((k,v)::M)) (sN:Value):
   ∃ag:World,(Instr.mapUpdate T (.map (some r)) (enc k) sN).run P w= .ok () ag∧aq (fun q=>q=r) w ag∧ag.heap.size=w.heap.size∧jJ ag r enc ((k,sN)::M):=by
 have a_:=h.lt
 obtain ⟨n,bM,b8,eD,ke,h,U,ab,ao,aG,_⟩:=h.split
 have aI:=bp.find (bM++(k,v,eD)::b8) k w
 rw[Qu (W2 ab),gd] at aI
 have bg:((bM++(k,v,eD)::b8).map (qu enc)).toArray[bM.length]? =some ⟨enc k,v,eD⟩:=by simp[qu]
 have aht:((bM++(k,v,eD)::b8).map (qu enc)).toArray.modify bM.length (fun e=>{e with key:=enc k,val:=sN})=((bM++(k,sN,eD)::b8).map (qu enc)).toArray:=by
   apply Array.toList_inj.1
   rw[Array.toList_modify,m9,tB]
   have:=W3 (fun e=>{e with key:=enc k,val:=sN}) (qu enc (k,v,eD)) (b8.map (qu enc)) (bM.map (qu enc))
   rw[kR] at this
   rw[this]
   simp[qu]
 refine ⟨vR w r (.map ((bM++(k,sN,eD)::b8).map (qu enc)).toArray ke),?_,WY _ _ _,WZ _ _ _,bM++(k,sN,eD)::b8,ke,W1 a_ _,?_,?_,?_,?_⟩
 · simp only[Instr.mapUpdate,Sem.run_bind,fA bh,Result.andThen,Mv h,Sem.run_pure,bp.check,aI,bg,C_,Option.getD_some,Instr.keyThatStays,bp.bits,if_true,W0 h,aht]
 · rw[m9,tB]
   rw[m9] at U
   exact AE.trans (U.cons _)
 · simpa using ab
 · simpa using ao
 · intro x af
   rcases eH.1 af with af|af
   · exact aG x (by simp[af])
   · rcases fP.1 af with rfl|af
     · exact aG (k,v,eD) (by simp)
     · exact aG x (by simp[af])
end
abbrev mV:=List UInt8
structure oS where
 i:Nat
 s:ad
 qv:List mV
structure dG where
 d:Nat
 gZ:Nat
 je:Nat
 gh:List Int
 gE:List mV
 waits:List oS
 writes:Int
 cS:Nat
def oS.e (x:oS):Int×Value:=((x.i:Int), .slice x.s.a x.s.len x.s.cap)
def dG.c (D:dG):List Value:=D.gh.map (.int .i64)++ [.slice (some ⟨D.gZ,0,none⟩) D.gE.length D.gE.length, .map (some D.je), .int .i64 D.writes]
def dG.n (D:dG):Nat:=D.gE.length
abbrev encZ:Int→Value:=fun n=> .int .i64 n
theorem F5:Bi Tryz.prog ai.int encZ:=Bi.int (by kernel_rfl)
theorem F6:Tryz.prog.underlying ai.y3=some (.map ai.int ai.sO):=by kernel_rfl
theorem W4:(Tryz.prog.info? ai.sO).bind (·.zero)=some (.slice none 0 0):=by kernel_rfl
theorem I3 {P:Program} {T:TypeId} {z:Value} (h:(P.info? T).bind (·.zero)=some z):∃i,P.info? T=some i∧i.zero=some z:=by
 cases hi:P.info? T with
 |none=>rw[hi] at h;cases h
 |some i=>rw[hi] at h;exact ⟨i,rfl,h⟩
def mC (D:dG) (q:Nat):Prop:=q=D.d∨q=D.gZ∨q=D.je∨∃x∈D.waits,aP x.s q
structure jq (w:World) (D:dG):Prop where
 v:Var w D.d D.c ai.Mw
 l:ck w D.gZ (dn bm D.gE).toArray ai.nL
 m:jJ w D.je encZ (D.waits.map oS.e)
 ws:∀x∈D.waits,bU 256 ai.nL w x.s (dn bm x.qv)
 wn:∀x∈D.waits,x.qv≠ []∧x.i<D.n∧x.qv.length≤D.cS
 sP:∀s∈D.gE,s.length=256
 F7:∀x∈D.waits,∀s∈x.qv,s.length=256
 c_:16≤D.n
 cZ:D.n≤1600
 f4:D.gh.length=4
 fr:∀x∈D.gh, -1≤x∧x≤9223372036854775807
 a8:D.d≠D.gZ∧D.d≠D.je∧D.gZ≠D.je
 cQ:∀x∈D.waits,¬aP x.s D.d∧¬aP x.s D.gZ∧¬aP x.s D.je
 a3:∀x∈D.waits,∀y∈D.waits,x.i≠y.i→∀q,aP x.s q→¬aP y.s q
section
variable {w w':World} {D:dG}
theorem jq.an {W:Nat→Prop} (h:jq w D) (al:aq W w w') (aD:∀q,mC D q→¬W q):jq w' D:=
 ⟨h.v.an al (aD _ (.inl rfl)),ck.an h.l al (aD _ (.inr (.inl rfl))),h.m.an al (aD _ (.inr (.inr (.inl rfl)))),fun x af=>(h.ws x af).an al fun q J=>aD q (.inr (.inr (.inr ⟨x,af,J⟩))),h.wn,h.sP,h.F7,h.c_,h.cZ,h.f4,h.fr,h.a8,h.cQ,h.a3⟩
theorem jq.ext (h:jq w D) (al:Ext w w'):jq w' D:=h.an al fun _ _ h=>h
theorem jq.lt (h:jq w D) {q:Nat} (J:mC D q):q<w.heap.size:=by
 rcases J with rfl|rfl|rfl|⟨x,af,J⟩
 · exact h.v.lt
 · exact ck.lt h.l
 · exact h.m.lt
 · exact (h.ws x af).lt q J
theorem jq.ahu (h:jq w D) {k:Nat} (ae:k<4):w.cell? ⟨D.d,k,none⟩=some (.int .i64 (D.gh.getD k 0)):=by
 rw[h.v.cell]
 unfold dG.c
 have:=h.f4
 rw[List.getElem?_append_left (by rw[kR];omega),HP,gq (by omega),nh (by omega)]
 rfl
theorem jq.fK (h:jq w D):w.cell? (Addr.add ⟨D.d,0,none⟩ 4)=some (.slice (some ⟨D.gZ,0,none⟩) D.gE.length D.gE.length):=by
 rw[bn,h.v.cell]
 unfold dG.c
 have:=h.f4
 rw[uX (by rw[kR];omega),kR,this];rfl
theorem jq.dK (h:jq w D):w.cell? (Addr.add ⟨D.d,0,none⟩ 5)=some (.map (some D.je)):=by
 rw[bn,h.v.cell]
 unfold dG.c
 have:=h.f4
 rw[uX (by rw[kR];omega),kR,this];rfl
theorem jq.Qv (h:jq w D):D.c.length=7:=by
 unfold dG.c
 have:=h.f4
 simp;omega
def dG.now (D:dG) (i:Nat):mV:=match D.waits.find? fun x=>x.i==i with
 |some x=>x.qv.getLastD []
 |none=>D.gE.getD i []
theorem ahv {α:Type} {l:List α} {d:α} (h:l≠ []):l.getLastD d∈l:=by
 cases l with
 |nil=>exact absurd rfl h
 |cons a l=>
   rw[List.getLastD_cons]
   rw[←List.getLast_eq_getLastD]
   exact List.getLast_mem h
theorem jq.Mx (h:jq w D) {i:Nat} (hi:i<D.n):(D.now i).length=256:=by
 unfold dG.now
 cases aI:D.waits.find? fun x=>x.i==i with
 |some x=>
   have af:=C3 aI
   exact h.F7 x af _ (ahv (h.wn x af).1)
 |none=>
   have eP:i<D.gE.length:=hi
   rw[show (match (none:Option oS) with|some x=>x.qv.getLastD []|none=>D.gE.getD i [])=D.gE.getD i [] from rfl,nh eP]
   exact h.sP _ (eN _)
theorem W5 (h:jq w D):aR Tryz.prog F.y4 #[.pointer (some ⟨D.d,0,none⟩)] w (fun v w'=>v= .int .i64 (D.n:Nat)∧w=w'):=by
 refine W.ahw (some ⟨D.d,0,none⟩) w _ ?_
 (delta W.y4 aE ar;dsimp only)
 exact ⟨fun h=>(by cases h),fun _=>⟨_,rfl,⟨some ⟨D.gZ,0,none⟩,D.gE.length,D.gE.length⟩,h.fK,rfl,rfl⟩⟩
theorem W6 (h:jq w D) (i:Int):aR Tryz.prog F.y5 #[.pointer (some ⟨D.d,0,none⟩), .int .i64 i] w (fun v w'=>v= .bool (decide (0≤i∧i<D.n))∧w=w'):=by
 refine W.ahx (some ⟨D.d,0,none⟩) i w _ ?_
 (delta W.y5 aE ar;dsimp only)
 refine eI (fun b w'=>b=decide (0≤i∧i<D.n)∧w=w') (fun q J=>⟨fun aa=>⟨_,rfl,⟨some ⟨D.gZ,0,none⟩,D.gE.length,D.gE.length⟩,h.fK,J _ _ ⟨?_,rfl⟩⟩,fun aa=>J _ _ ⟨?_,rfl⟩⟩) ?_
 · have aa:0≤i:=by simpa using aa
   rw[o6,fY,fY]
   exact ⟨fun h=>⟨aa,h⟩,fun h=>h.2⟩
 · have aa:¬0≤i:=by simpa using aa
   rw[tC (fun h=>aa h.1)]
 · rintro _ _ ⟨rfl,rfl⟩
   exact ⟨rfl,rfl⟩
end
def nM (f:Int):Bool×Int:=if f= -1 then (false, -1) else if f=0 then (true, -1) else (false,f-1)
theorem ahy {f:Int} (h: -1≤f∧f≤9223372036854775807): -1≤(nM f).2∧(nM f).2≤9223372036854775807:=by
 unfold nM
 split
 · exact ⟨by decide,by decide⟩
 · split
   · exact ⟨by decide,by decide⟩
   · show -1≤f-1∧f-1≤_;omega
def dG.h9 (D:dG) (k:Nat):dG:={D with gh:=D.gh.set k (nM (D.gh.getD k 0)).2}
def dG.rN (D:dG) (k:Nat):Bool:=(nM (D.gh.getD k 0)).1
theorem W7 {w:World} {D:dG} (h:jq w D) {k:Nat} (ae:k<4):
   aR Tryz.prog F.y6 #[.pointer (some ⟨D.d,0,none⟩), .int .i64 ((k:Nat):Int)] w (fun v w'=>v= .bool (D.rN k)∧jq w' (D.h9 k)∧aq (fun q=>q=D.d) w w'∧w'.heap.size=w.heap.size):=by
 have aI:=h.ahu ae
 have aG:=h.f4
 have aQ: -1≤D.gh.getD k 0∧D.gh.getD k 0≤9223372036854775807:=by rw[nh (by omega)];exact h.fr _ (eN _)
 have xe:∀ (ag:World),jq ag D→jq (ag.setCell ⟨D.d,k,none⟩ (.int .i64 (nM (D.gh.getD k 0)).2)) (D.h9 k):=by
   intro ag U
   have al:=iq ag D.d k (.int .i64 (nM (D.gh.getD k 0)).2)
   have ak:=jH U.v (i:=k) (.int .i64 (nM (D.gh.getD k 0)).2)
   have e:D.c.set k (.int .i64 (nM (D.gh.getD k 0)).2)=(D.h9 k).c:=by
     unfold dG.c dG.h9
     rw[List.set_append_left _ _ (by rw[kR];omega),←List.map_set]
   rw[e] at ak
   refine ⟨ak,ck.an U.l al (fun e=>h.a8.1 e.symm),U.m.an al (fun e=>h.a8.2.1 e.symm),fun x af=>(U.ws x af).an al fun q J e=>(h.cQ x af).1 (by subst e;exact J),h.wn,h.sP,h.F7,h.c_,h.cZ,by show (D.gh.set k _).length=4;rw[iB];exact aG,fun x af=> ?_,h.a8,h.cQ,h.a3⟩
   rcases Da af with af|rfl
   · exact h.fr x af
   · exact ahy aQ
 have aT:Addr.add ⟨D.d,0,none⟩ (Int.toNat ((k:Nat):Int)*1)=⟨D.d,k,none⟩:=by rw[g6,lp,bn,gd]
 refine W.ahz (some ⟨D.d,0,none⟩) ((k:Nat):Int) w _ ?_
 (delta W.y6 bL aE st ay;dsimp only)
 refine ⟨_,rfl,⟨by omega,by show (k:Int)<4;omega⟩,D.gh.getD k 0,by rw[aT];exact aI,fun U=> ?_,fun U=>⟨fun ab=>⟨_,rfl,⟨by omega,by show (k:Int)<4;omega⟩,?_⟩,fun ab=>bW ⟨_,rfl,⟨by omega,by show (k:Int)<4;omega⟩,id,_,by rw[aT];exact aI,_,rfl,⟨by omega,by show (k:Int)<4;omega⟩,?_⟩⟩⟩
 · have U:D.gh.getD k 0= -1:=by simpa using U
   have aW:D.rN k=false:=by unfold dG.rN nM;rw[if_pos U]
   have bq:D.h9 k=D:=by
     unfold dG.h9 nM
     rw[if_pos U]
     have:D.gh.set k (-1)=D.gh:=by
       rw[←U,nh (by omega)]
       exact List.set_getElem_self _
     rw[this]
   rw[aW,bq]
   exact ⟨rfl,h, .refl _ _,rfl⟩
 · have U:D.gh.getD k 0≠ -1:=by simpa using U
   have ab:D.gh.getD k 0=0:=by simpa using ab
   have aj:=jI h.v (i:=k) (by rw[h.Qv];omega)
   have aW:D.rN k=true:=by unfold dG.rN nM;rw[if_neg U,if_pos ab]
   have bq:(nM (D.gh.getD k 0)).2= -1:=by unfold nM;rw[if_neg U,if_pos ab]
   have:=xe w h
   rw[bq] at this
   rw[aT,aW]
   exact ⟨aj.1,aj.2,bW ⟨rfl,this,iq _ _ _ _,by simp[World.setCell]⟩⟩
 · have U:D.gh.getD k 0≠ -1:=by simpa using U
   have ab:D.gh.getD k 0≠0:=by simpa using ab
   have hd:=h.ext (eR w)
   have aj:=jI hd.v (i:=k) (by rw[h.Qv];omega)
   have aW:D.rN k=false:=by unfold dG.rN nM;rw[if_neg U,if_neg ab]
   have bq:(nM (D.gh.getD k 0)).2=D.gh.getD k 0-1:=by unfold nM;rw[if_neg U,if_neg ab]
   have:=xe w.drew hd
   rw[bq] at this
   rw[aT,aW,ct (by omega) (by omega)]
   exact ⟨aj.1,aj.2,bW ⟨rfl,this,(aq.e0 (eR w)).trans (iq _ _ _ _),by simp[World.setCell]⟩⟩
end
end Go.Proofs.YtplieiecebljmaaGreat
