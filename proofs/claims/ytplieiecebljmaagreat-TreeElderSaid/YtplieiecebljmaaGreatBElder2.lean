/- Contracts of the functions that the statement reaches, and the plain laws over them; each theorem stands with its conditions. -/
import Derived.Test.YtplieiecebljmaaGreatBElder1
namespace Go.Proofs.YtplieiecebljmaaGreat
open Go b7
section
def rp:aL:=⟨false,[],[],[]⟩
def bX:aa:=⟨none,0,0⟩
def RB (leaf:Bool) (l:List UInt8) (w w':World) (v:Value):Prop:=
 (∃ (n:aL) (K V D:aa),v= .tuple #[e5 n K V D, .int .i64 0]∧x6 leaf l n∧b8 (fun q=>w.heap.size≤q) w' n K V D)∨
 (v= .tuple #[e5 rp bX bX bX, .int .i64 4]∧∀n,¬x6 leaf l n)
theorem rq {w':World} {h:Nat} {vs:List Value} (b:Bool) (K V D:aa) (ak:Var w' h vs ah.cF) (az:vs.length=4) {Q:Bool→aa→aa→aa→World→Prop} (yl:∀aw,ao (fun q=>q=h) w' aw→Q b K V D aw):
   cM w' ⟨h,0,none⟩ [.bool b, .slice K.a K.len K.cap, .slice V.a V.len V.cap, .slice D.a D.len D.cap]∧(4:Nat)=4∧ay (setCells w' ⟨h,0,none⟩ 0 [.bool b, .slice K.a K.len K.cap, .slice V.a V.len V.cap, .slice D.a D.len D.cap]) fun aw=>
     ∃eJ:Bool,aw.cell? ⟨h,0,none⟩=some (.bool eJ)∧∃cB:aa,aw.cell? (Addr.add ⟨h,0,none⟩ 1)=some (.slice cB.a cB.len cB.cap)∧∃bL:aa,aw.cell? (Addr.add ⟨h,0,none⟩ 2)=some (.slice bL.a bL.len bL.cap)∧
       ∃c8:aa,aw.cell? (Addr.add ⟨h,0,none⟩ 3)=some (.slice c8.a c8.len c8.cap)∧Q eJ cB bL c8 aw:=by
 refine ⟨ak.dr (by rw[az];rfl) ?_,rfl,ec ak (us:=[.bool b, .slice K.a K.len K.cap, .slice V.a V.len V.cap, .slice D.a D.len D.cap]) (by rw[az];rfl) rfl fun aw g1 al _=> ?_⟩
 · intro v ak
   simp only[gp,mm,mn] at ak
   rcases ak with rfl|rfl|rfl|rfl<;>trivial
 · obtain ⟨cA,bd,bc,a_⟩:=cj g1
   exact ⟨b,cA,K,bd,V,bc,D,a_,yl aw al⟩
theorem wv {w:World} {s:aa} {l:List UInt8} (aj:Src 1 w s (bg l)) (al:s.len≤s.cap) (fy:∀k,aR s k→k<w.heap.size) (az:l.length≤100000) (leaf:Bool):
   aQ Tryz.prog F.wv #[.bool leaf, .slice s.a s.len s.cap] w (fun v w'=>RB leaf l w w' v∧Ext w w'):=by
 refine W.aic leaf s w _ ?_
 (delta W.wv dt ai bc aE RC aq st dL aC bP gu a_ Jz;dsimp only)
 refine cp (vs:=[.bool false, .slice none 0 0, .slice none 0 0, .slice none 0 0]) rfl fun ag nf bz kM=> ?_
 refine cp (vs:=[.slice s.a s.len s.cap, .bool true]) rfl fun aw fK cv mo=> ?_
 refine cp (vs:=[.bool false, .slice none 0 0, .slice none 0 0, .slice none 0 0]) rfl fun aZ qG eO Cd=> ?_
 refine ⟨qG.dr rfl (by
   intro v ak
   simp only[gp,mm,mn] at ak
   rcases ak with rfl|rfl|rfl|rfl<;>trivial),rfl,ec qG (us:=[.bool leaf, .slice none 0 0, .slice none 0 0, .slice none 0 0]) rfl rfl fun br Rv yg JA=> ?_⟩
 obtain ⟨lo,mq⟩:∃lo,lo=br.heap.size:=⟨_,rfl⟩
 obtain ⟨r,aU⟩:∃r,r=ag.heap.size:=⟨_,rfl⟩
 obtain ⟨bC,kO⟩:∃bC,bC=aw.heap.size:=⟨_,rfl⟩
 have tK:Ext w br:=Ext.e3 (bz.trans (cv.trans eO)) yg (by omega)
 have Nq:sd br ag.heap.size s (l,true):=by
   refine ⟨(fK.ext eO).an yg (by omega),(aj.ext (bz.trans (cv.trans eO))).an yg fun k ae e=> ?_,al,fun k ae=> ?_⟩
   · have:=fy k ae;omega
   · have:=fy k ae;omega
 refine (Ry Nq 1 (by decide) az).use ?_
 rintro _ bF ⟨bL,rfl,RD,lF,yb⟩
 have j1:(rdNum (l,true) 1).1<256:=Rz _ 1
 have Nr:=lF.size
 have XQ:tN lo bF r bC bL (⟨leaf,[],[],[]⟩,(rdNum (l,true) 1).2) bX bX bX (fun _=>False) (fun _=>False) (fun _=>False):=by
   refine ⟨by rw[kO];exact Rv.an lF (by omega),by rw[aU];exact RD,bW.none _ _,bW.none _ _,eB.none _ _,fun q h=>h.elim,fun q h=>h.elim,fun q h=>h.elim,fun q J=> ?_,by omega,by omega,by omega,iT (Nn _ 1) az⟩
   have:=fy q (yb q J)
   exact ⟨by omega,by omega⟩
 have XR:ao (EF lo r bC) br bF:=lF.mono fun k _ ae=> .inl (by omega)
 rw[←aU,←kO]
 refine ⟨_,rfl,ym (fun w'=>∃ (au D:aa) (cg:Nat→Prop),tN lo w' r bC au (zT leaf (rdNum (l,true) 1).2) bX bX D (fun _=>False) (fun _=>False) cg∧ao (EF lo r bC) br w'∧lo≤w'.heap.size) (fun q J=>⟨fun df=> ?_,fun df=>J _ ⟨bL,bX,fun _=>False,?_,XR,by omega⟩⟩) ?_⟩
 · have df:leaf=false:=by simpa using df
   subst df
   refine XP XQ (by omega) (by simp) fun w' aM au RA U ad ar=>J _ ⟨au,aM,RA,?_,XR.trans ad,ar⟩
   have:zT false (rdNum (l,true) 1).2=(⟨false,[],[],[]++ [(rdNum (rdNum (l,true) 1).2 2).1]⟩,(rdNum (rdNum (l,true) 1).2 2).2):=by simp[zT]
   rw[this];exact U
 · have df:leaf=true:=by simpa using df
   subst df
   exact XQ
 rintro a4 ⟨c8,aid,aie,XS,qE,aif⟩
 obtain ⟨pG,EH⟩:∃pG,pG=zT leaf (rdNum (l,true) 1).2:=⟨_,rfl⟩
 rw[←EH] at XS
 have aig:pG.1.leaf=leaf:=by rw[EH];unfold zT;cases leaf<;>rfl
 have atv:pG.1.keys.length=0∧pG.1.vals.length≤1∧pG.1.kids.length≤1:=by rw[EH];unfold zT;cases leaf<;>simp
 refine ⟨fun i w'=>∃ (j:Nat) (au K V D:aa) (cw cN cg:Nat→Prop),i=j∧j≤(rdNum (l,true) 1).1∧tN lo w' r bC au (p8 pG j) K V D cw cN cg∧ao (EF lo r bC) br w'∧lo≤w'.heap.size,fun i _=>(((rdNum (l,true) 1).1:Int)-i).toNat,⟨0,c8,bX,bX,aid,_,_,aie,rfl,fx _,XS,qE,aif⟩,?_⟩
 rintro _ a5 ⟨j,iY,K,V,D,cw,cN,cg,rfl,a6,wx,qI,aih⟩
 obtain ⟨qz,py,wh⟩:=XO pG j
 have GX:=XN pG j aig
 refine ⟨fun a9=> ?_,fun cm=> ?_⟩
 · have a9:j<(rdNum (l,true) 1).1:=by have:=dU a9;omega
   rw[cE (n:=(j:Int)+1) (by omega) (by omega)]
   refine ym (fun w'=>∃ (au K V D:aa) (cw cN cg:Nat→Prop),tN lo w' r bC au (p8 pG (j+1)) K V D cw cN cg∧ao (EF lo r bC) br w'∧lo≤w'.heap.size) (fun q J=> ?_) ?_
   · refine aia wx aih (by omega) fun b9 Ns fk Nt Nu Ci Nv=>⟨fun df=> ?_,fun df=> ?_⟩
     · refine aib Nu Nv (by show (p8 pG j).1.vals.length≤_;omega) fun bR aii db aij JB hM JC=>J _ ⟨db,Ns,aii,D,Nt,aij,cg,?_,qI.trans (Ci.trans hM),JC⟩
       rw[p8]
       unfold Ey
       rw[GX,df,if_pos rfl]
       rw[GX,df] at JB
       exact JB
     · refine XP Nu Nv (by show (p8 pG j).1.kids.length≤_;omega) fun bR aik db ail JB hM JC=>J _ ⟨db,Ns,V,aik,Nt,cN,ail,?_,qI.trans (Ci.trans hM),JC⟩
       rw[p8]
       unfold Ey
       rw[GX,df,if_neg (by simp)]
       rw[GX,df] at JB
       exact JB
   · rintro b9 ⟨fk,Ns,aim,ain,Nt,aio,aip,Nu,Ci,Nv⟩
     refine ⟨⟨j+1,fk,Ns,aim,ain,Nt,aio,aip,by omega,by omega,Nu,Ci,Nv⟩,?_⟩
     show (((rdNum (l,true) 1).1:Int)-((j:Int)+1)).toNat<(((rdNum (l,true) 1).1:Int)-(j:Int)).toNat
     omega
 · have cm:j=(rdNum (l,true) 1).1:=by have:=ff cm;omega
   have zX:p8 pG j=qA leaf l:=by rw[cm,EH];rfl
   rw[zX] at wx qz py wh GX
   obtain ⟨cA,bd,bc,a_⟩:=cj wx.v
   have jy:b8 (fun q=>lo≤q) a5 (qA leaf l).1 K V D:=⟨bU.bw (bW.qF wx.keys) fun q _ J=>(wx.bO q J).1,bU.bw (bW.qF wx.vals) fun q _ J=>(wx.bv q J).1,eF.bw (eB.GS wx.kids) fun q _ J=>(wx.a8 q J).1⟩
   have r9:Ext w a5:=Ext.gr tK qI fun k ae=>by
     rcases ae with ae|ae|ae<;>omega
   refine ⟨_,cA,K,bd,V,bc,D,a_,(u3 jy (by omega) (by omega) (by omega)).use ?_⟩
   rintro RE b9 ⟨fD,g3⟩
   have B_:=r9.trans g3
   have RF:=wx.v.ext g3
   have aiq:=wx.rd.ext g3
   have EI:Var b9 w.heap.size [.bool false, .slice none 0 0, .slice none 0 0, .slice none 0 0] ah.cF:=by
     refine (Var.an (w:=br) ?_ qI ?_).ext g3
     · exact (((nf.ext cv).ext eO).an yg (by omega))
     · rintro (ae|ae|ae)<;>omega
   have air:=jy.ext g3
   obtain ⟨d0,d1,d2,d3⟩:=cj RF
   have sR:∃ (Cj:aa) (e:Int),RE=Value.tuple #[.slice Cj.a Cj.len Cj.cap, .int .i64 e]∧(e=0→b6 1 ah.uint8 b9 Cj (bg (r8 (qA leaf l).1))∧dX (qA leaf l).1∧cf (qA leaf l).1≤232)∧(e≠0→dX (qA leaf l).1→232<cf (qA leaf l).1):=by
     rcases fD with ⟨Cj,rfl,U,ad,ar,aI⟩|⟨e,rfl,U,ad⟩
     · exact ⟨Cj,0,rfl,fun _=>⟨U,ar,aI⟩,fun h=>absurd rfl h⟩
     · exact ⟨bX,e,rfl,fun h=>absurd h U,fun _=>ad⟩
   obtain ⟨Cj,e,rfl,ais,XT⟩:=sR
   have ait:Src 1 b9 s (bg l):=aj.ext B_
   have XU:∀n,x6 leaf l n→qA leaf l=(n,([],true)):=by
     rintro n ⟨U,ad,ar,aI⟩
     have:=Rf U ar
     rw[ad,aI] at this
     exact this
   refine ⟨Cj,e,rfl,_,rfl,(qA leaf l).2.2,by rw[aV];exact aiq.v.cell,e4 (fun b w'=>b9=w'∧(b=true→∀n,¬x6 leaf l n)∧(b=false→x6 leaf l (qA leaf l).1)) (fun q J=>⟨fun U=>J _ _ ⟨rfl,fun _ n aD=> ?_,fun h=>(by cases h)⟩,fun U=> ?_⟩) ?_⟩
   · have hu:=XU n aD
     obtain ⟨ad,ar,aI,aW⟩:=aD
     rw[hu] at U XT
     have U:(e !=0)=true:=by simpa using U
     have ru:232<cf n:=XT (by simpa using U) ad
     omega
   · have aiu:(qA leaf l).2.2=true∧e=0:=by
       simp only[MM,Bool.not_eq_false',bne_eq_false_iff_eq] at U
       exact U
     obtain ⟨ad,rfl⟩:=aiu
     obtain ⟨ar,aI,aW⟩:=ais rfl
     refine (yh ar.src ait).use ?_
     rintro _ _ ⟨rfl,rfl⟩
     refine ⟨_,rfl,J _ _ ⟨rfl,fun b5 n aD=> ?_,fun b5=> ?_⟩⟩
     · have hu:=XU n aD
       have b5:¬r8 (qA leaf l).1=l:=by simpa using b5
       rw[hu] at b5
       exact b5 aD.2.2.2
     · have b5:r8 (qA leaf l).1=l:=by simpa using b5
       exact ⟨aI,GX,aW,b5⟩
   rintro b w' ⟨rfl,aA,aF⟩
   refine ⟨fun ab=> ?_,fun ab=>⟨_,d0,K,d1,V,d2,D,d3,?_⟩⟩
   · refine rq false bX bX bX EI rfl (Q:=fun b K V D aw=>(fun v w'=>RB leaf l w w' v∧Ext w w') (.tuple #[.agg #[.bool b, .slice K.a K.len K.cap, .slice V.a V.len V.cap, .slice D.a D.len D.cap], .int .i64 4]) aw) fun bR hM=>⟨.inr ⟨rfl,aA ab⟩,Ext.e3 B_ hM (cP _)⟩
   · refine rq (qA leaf l).1.leaf K V D EI rfl (Q:=fun b K V D aw=>(fun v w'=>RB leaf l w w' v∧Ext w w') (.tuple #[.agg #[.bool b, .slice K.a K.len K.cap, .slice V.a V.len V.cap, .slice D.a D.len D.cap], .int .i64 0]) aw) fun bR hM=>⟨.inl ⟨(qA leaf l).1,K,V,D,rfl,aF ab,?_⟩,Ext.e3 B_ hM (cP _)⟩
     exact (air.an hM fun k ae e=>by omega).bw fun k _ ae=>by omega
end
section
theorem aiv {s v:aa} {vs xs:List Value} {i z9:Nat} {Ck:Array Value} {XV:TypeId} {w:World} (bJ:b6 1 ah.cd w s vs) (ak:Src 1 w v xs) (jx:v.len=1) (XW:v.a=some ⟨z9,0,none⟩) (JD:cn w z9 Ck XV) (en:¬aR s z9)
   (ya:∀u∈xs,Plain u) (RG:∀u∈vs,Plain u) (hi:i≤s.len) (aD:s.len≤1000000):
   aQ Tryz.prog F.yn #[.slice s.a s.len s.cap, .int .i64 (i:Int), .slice v.a v.len v.cap] w (fun u w'=>∃au:aa,u= .slice au.a au.len au.cap∧b6 1 ah.cd w' au (vs.take (i*1)++xs++vs.drop (i*1))∧au.len=s.len+1∧ao (aR s) w w'∧(∀k,aR au k→aR s k∨w.heap.size≤k)):=by
 obtain ⟨U,i0,wy,ad,ar,aI,aW,b5,im,n9⟩:=(GU).out
 obtain ⟨d0,pw⟩:=tP _ ar
 refine W.aiw s i v w _ ?_
 (delta W.yn aE aC bd;dsimp only)
 have aix:=bJ.2.1
 have Nw:=bJ.2.2.1
 have aiy:maxLen=9223372036854775807:=rfl
 have yo:xs.length=1:=by have:=ak.len;rw[jx] at this;omega
 have GY:=bJ.1
 refine ⟨⟨by omega,by omega⟩,fun h=>by rw[jx] at h;simp at h,fun _=>⟨fun h=> ?_,fun h=> ?_⟩⟩
 · have gZ:i=s.len:=by have:=eq_of_beq h;omega
   subst gZ
   obtain ⟨au,w',aA,aF,aJ,aO,cS⟩:=(GU).append (ez:=ah.cC) ak bJ ya (by rw[jx];omega)
   refine ⟨au,w',aA,au,rfl,?_,by rw[aJ,jx],aO,cS⟩
   rwa[gX (by omega),List.drop_of_length_le (by omega),l2]
 have a9:i<s.len:=by
   have h:¬((i:Int)=(s.len:Int)):=fun e=>by rw[e] at h;simp at h
   omega
 rcases bJ.2.2.2 with ⟨_,al⟩|⟨b,c,ab,iW,fj,kp⟩
 · omega
 have Cl:b≠z9:=fun e=>en ⟨_,ab,e⟩
 have aY:IntKind.wrap .i64 (((s.len:Nat):Int)+((v.len:Nat):Int))=((s.len+1:Nat):Int):=by rw[jx,cE (by omega) (by omega)];rfl
 have bm:IntKind.wrap .i64 ((i:Int)+((v.len:Nat):Int))=((i+1:Nat):Int):=by rw[jx,cE (by omega) (by omega)];rfl
 have dM:IntKind.wrap .i64 (((s.len+1:Nat):Int)-(i:Int))=((s.len+1-i:Nat):Int):=by rw[cE (by omega) (by omega)];omega
 have BW:c.toList.length=s.cap*1:=by simpa using fj
 have mS:∀k,k≤s.len→vs.take (k*1)=c.toList.take (k*1):=fun k ae=>by rw[←kp,Ja,r0 (by omega)]
 have tQ:vs.drop (i*1)=(c.toList.drop (i*1)).take ((s.len-i)*1):=by rw[←kp,List.drop_take,show s.len*1-i*1=(s.len-i)*1 by omega]
 have Nx:∀u∈vs.drop (i*1),Plain u:=fun u hu=>RG u (kk hu)
 have lD:(vs.drop (i*1)).length=(s.len-i)*1:=by rw[fw,GY];omega
 have JE:∀ (Ny o l m:Nat),l<m→a3 (some (Addr.mk Ny o none)) 1 l m=some ⟨Ny,o+l*1,none⟩:=fun Ny o l m atw=>Nc (by omega)
 simp only[aY,bm,dM,hF,Gr,XX]
 refine ⟨fun a7=> ?_,fun a7=> ?_⟩
 · have p_:s.cap<s.len+1:=by have:=dU a7;omega
   have mw:Src 1 w ⟨some ⟨b,0,none⟩,i,s.cap⟩ (vs.take (i*1)):=by
     have:=iW.JF (sz:=1) (o:=0) (n:=i) (cap:=s.cap) (by omega)
     rw[zG] at this
     rwa[mS i (by omega)]
   obtain ⟨jL,u5,rest,aA,aF,aJ,aO,cS⟩:=aiz (P:=Tryz.prog) (nh:= #[ah.cC,ah.int]) (ez:=ah.cC) (u6:=ah.int) (k:= .i64) (s:=⟨some ⟨b,0,none⟩,i,s.cap⟩) (n:=s.len+1-i) rfl rfl U (by kernel_rfl) ad ar aI aW b5 (by rw[im];exact n9) mw (by show s.cap<i+_;omega) (by rw[im];show (2*(i+_)+1000)*_≤_;omega)
   have aiA:i+(s.len+1-i)=s.len+1:=by omega
   simp only[aiA] at aA aO cS
   obtain ⟨C,nI⟩:∃C,C=(vs.take (i*1)++u5++rest).toArray:=⟨_,rfl⟩
   rw[←nI] at cS
   obtain ⟨br,GO⟩:∃br,br=w.drew.alloc (.cells C ah.cd):=⟨_,rfl⟩
   rw[←GO] at cS
   have XY:cn br w.heap.size C ah.cd:=by rw[GO];exact cn.new w.drew _ _
   have fo:Ext w br:=by rw[GO];exact ao.alloc (ao.drew (.refl _ _)) _
   have nF:(vs.take (i*1)).length=i*1:=by rw[dV,GY];omega
   have XZ:C.size=jL*1:=by rw[nI];simp[nF,aJ,aO];omega
   have atx:C.toList.length=jL*1:=by simpa using XZ
   have JG:=Nz (P:=Tryz.prog) (zS:=ah.cC) (ed:=ah.cC) (ty:=ah.int) (A:=⟨w.heap.size,0+i*1,none⟩) (dl:=s.len+1-i) (Ev:=jL-i) (n:=1) U pw b5 (x:=v) (by rw[jx];exact r0 (by omega)) (xs:=xs) (by have:=ak.ext fo;have e:(⟨v.a,1,v.cap⟩:aa)=v:=(by rw[←jx]);rw[e];exact this) (by rw[gR];exact XY.dr _ _ (by omega) ya)
   obtain ⟨a4,yp⟩:∃a4,a4=setCells br ⟨w.heap.size,0+i*1,none⟩ 0 xs:=⟨_,rfl⟩
   rw[←yp] at JG
   have i_:cn a4 w.heap.size (oE C (i*1) xs) ah.cd:=by rw[yp,gR];exact XY.B6 xs
   have ko:Ext w a4:=by rw[yp];exact Ext.gr fo (ao.zR (.refl _ _) xs 0) (fun k ae=>by subst ae;exact cP _)
   have aiB:Ext a4 a4.drew:=ao.drew (.refl _ _)
   have eN:=Ext.trans ko aiB
   have RH:=Nz (P:=Tryz.prog) (w:=a4.drew) (zS:=ah.cC) (ed:=ah.cC) (ty:=ah.int) (A:=⟨w.heap.size,0+(i+1)*1,none⟩) (dl:=s.len+1-(i+1)) (Ev:=jL-(i+1)) (n:=s.len-i) U pw b5 (x:=⟨some ⟨b,0+i*1,none⟩,s.len-i,s.cap-i⟩) (r0 (by show s.len-i≤_;omega)) (xs:=vs.drop (i*1))
     (by have:=(iW.ext eN).JF (sz:=1) (o:=i*1) (n:=s.len-i) (cap:=s.cap-i) (by omega);rw[tQ,gR];exact this) (by rw[gR];exact cn.dr (cn.drew i_) _ _ (by rw[rk];omega) Nx)
   have NA:a3 (some (Addr.mk w.heap.size 0 none)) 1 i jL=some ⟨w.heap.size,0+i*1,none⟩:=JE _ _ _ _ (by omega)
   have NB:a3 (some (Addr.mk w.heap.size 0 none)) 1 (i+1) jL=some ⟨w.heap.size,0+(i+1)*1,none⟩:=JE _ _ _ _ (by omega)
   have aiC:a3 s.a 1 i s.cap=some ⟨b,0+i*1,none⟩:=by rw[ab];exact JE _ _ _ _ (by omega)
   have aiD:Sem.run Tryz.prog (Builtin.append_ #[ah.cC,ah.int] ah.cC #[.slice s.a i s.cap, .int .i64 ((s.len+1-i:Nat):Int)]) w= .ok (.slice (some ⟨w.heap.size,0,none⟩) (s.len+1) jL) br:=by rw[ab];exact cS
   refine ⟨⟨by omega,by omega⟩,⟨some ⟨w.heap.size,0,none⟩,s.len+1,jL⟩,br,aiD,⟨by omega,by show (i:Int)≤((s.len+1:Nat):Int);omega⟩,_,a4,by rw[NA];exact JG,bM ⟨⟨by omega,by show ((i+1:Nat):Int)≤((s.len+1:Nat):Int);omega⟩,⟨by omega,by omega⟩,_,_,by rw[NB,aiC];exact RH,⟨some ⟨w.heap.size,0,none⟩,s.len+1,jL⟩,rfl,?_,rfl,?_,?_⟩⟩
   · refine b6.mk' ((cn.drew i_).B6 (o:=0+(i+1)*1) _) (by simp[nF,yo,lD];omega) (by omega) (by omega) (by rw[rk,rk,XZ]) ?_
     rw[zW _ _ _ (by rw[rk];omega),zW _ _ _ (by omega)]
     have t1:C.toList.take (i*1)=vs.take (i*1):=by rw[nI,Jd,er];exact List.take_left' nF
     have t2:(C.toList.take (i*1)++xs++C.toList.drop (i*1+xs.length)).take (0+(i+1)*1)=vs.take (i*1)++xs:=by
       rw[t1,Ei (by simp[nF,yo];omega),gX (by simp[nF,yo];omega)]
     rw[t2,Ei (by simp[nF,yo,lD];omega),gX (by simp[nF,yo,lD];omega)]
   · exact ao.eK (Ext.gr eN (ao.zR (.refl _ _) _ 0) (fun k ae=>by subst ae;exact cP _))
   · rintro k ⟨A,ax,ae⟩
     cases ax
     exact .inr (Nat.le_of_eq ae)
 · have hle:s.len+1≤s.cap:=by have:=ff a7;omega
   have NA:a3 s.a 1 (i+1) s.cap=some ⟨b,0+(i+1)*1,none⟩:=by rw[ab];exact JE _ _ _ _ (by omega)
   have NB:a3 s.a 1 i s.cap=some ⟨b,0+i*1,none⟩:=by rw[ab];exact JE _ _ _ _ (by omega)
   have z6:Sem.run Tryz.prog (callFunc F.X0 #[.slice v.a v.len v.cap, .slice (some ⟨b,0+(i+1)*1,none⟩) (s.len+1-(i+1)) (s.cap-(i+1))]) w= .ok (.value (.bool false)) w:=by
     rw[XW,run_callFunc_extern (e:=Extern.SlicesOverlaps.overlaps #[ah.cC,ah.cC] #[ah.bool]) Tryz.func160 (by kernel_rfl) (by kernel_rfl) (by kernel_rfl) (by kernel_rfl)]
     have:=Lib.run_overlaps_apart (P:=Tryz.prog) w ah.cC ah.bool ah.cd U 1 (fun w=>by have:=qy (w:=w) pw;rwa[b5] at this) ⟨z9,0,none⟩ ⟨b,0+(i+1)*1,none⟩ v.len v.cap (s.len+1-(i+1)) (s.cap-(i+1)) (fun e=>Cl e.symm) XV ah.cd Ck.size c.size
       (by have:=JD;unfold cn at this;simp[World.shape?,this]) (by have:=iW;unfold cn at this;simp[World.shape?,this]) (by omega) (JD.frozen _ rfl) (JD.frozen _ rfl)
     rw[this];rfl
   have JG:=Nz (P:=Tryz.prog) (w:=w.drew) (zS:=ah.cC) (ed:=ah.cC) (ty:=ah.int) (A:=⟨b,0+(i+1)*1,none⟩) (dl:=s.len+1-(i+1)) (Ev:=s.cap-(i+1)) (n:=s.len-i) U pw b5 (x:=⟨some ⟨b,0+i*1,none⟩,s.len+1-i,s.cap-i⟩) ((Nat.min_eq_right (by show _≤s.len+1-i;omega)).trans (by omega)) (xs:=vs.drop (i*1))
     (by have:=(cn.drew iW).JF (sz:=1) (o:=i*1) (n:=s.len-i) (cap:=s.cap-i) (by omega);rw[tQ,gR];exact this) (by rw[gR];exact cn.dr (cn.drew iW) _ _ (by omega) Nx)
   obtain ⟨aZ,ng⟩:∃aZ,aZ=setCells w.drew ⟨b,0+(i+1)*1,none⟩ 0 (vs.drop (i*1)):=⟨_,rfl⟩
   rw[←ng] at JG
   have JH:cn aZ b (oE c ((i+1)*1) (vs.drop (i*1))) ah.cd:=by rw[ng,gR];exact (cn.drew iW).B6 _
   have kP:ao (aR s) w aZ:=by
     rw[ng]
     exact ao.mono (W:=fun q=>q=b) (ao.zR (ao.drew (.refl _ _)) _ 0) (fun k _ ae=>⟨_,ab,ae.symm⟩)
   have mx:Src 1 aZ v xs:=ak.an kP (fun k ae dW=>by obtain ⟨A,ax,rfl⟩:=ae;rw[XW] at ax;cases ax;exact en dW)
   have RH:=Nz (P:=Tryz.prog) (w:=aZ) (zS:=ah.cC) (ed:=ah.cC) (ty:=ah.int) (A:=⟨b,0+i*1,none⟩) (dl:=s.len+1-i) (Ev:=s.cap-i) (n:=1) U pw b5 (x:=v) (by rw[jx];exact r0 (by omega)) (xs:=xs) (by have e:(⟨v.a,1,v.cap⟩:aa)=v:=(by rw[←jx]);rw[e];exact mx) (by rw[gR];exact JH.dr _ _ (by rw[rk];omega) ya)
   refine ⟨⟨by omega,by omega⟩,⟨by omega,by omega⟩,false,w,by rw[NA];exact z6,fun _=>bM ⟨⟨by omega,by omega⟩,⟨by omega,by omega⟩,_,aZ,by rw[NA,NB];exact JG,⟨by omega,by omega⟩,_,_,by rw[NB];exact RH,⟨s.a,s.len+1,s.cap⟩,rfl,?_,rfl,?_,fun k ae=> .inl ae⟩,fun h=>by simp at h⟩
   · have wz:b6 1 ah.cd (setCells aZ ⟨b,0+i*1,none⟩ 0 xs) ⟨some ⟨b,0,none⟩,s.len+1,s.cap⟩ (vs.take (i*1)++xs++vs.drop (i*1)):=by
       have nF:(vs.take (i*1)).length=i*1:=by rw[dV,GY];omega
       refine b6.mk' (JH.B6 (o:=0+i*1) _) (by simp[nF,yo,lD];omega) (by omega) (by omega) (by rw[rk,rk,fj]) ?_
       rw[zW _ _ _ (by rw[rk];omega),zW _ _ _ (by omega)]
       have t1:(c.toList.take ((i+1)*1)++vs.drop (i*1)++c.toList.drop ((i+1)*1+(vs.drop (i*1)).length)).take (0+i*1)=vs.take (i*1):=by
         rw[gR,Ei (by simp[lD];omega),Ei (by simp;omega),Ja,mS i (by omega),r0 (by omega)]
       have t2:(c.toList.take ((i+1)*1)++vs.drop (i*1)++c.toList.drop ((i+1)*1+(vs.drop (i*1)).length)).drop (0+i*1+xs.length)=vs.drop (i*1)++c.toList.drop ((i+1)*1+(vs.drop (i*1)).length):=by
         have az:(c.toList.take ((i+1)*1)).length=0+i*1+xs.length:=by simp;omega
         rw[er,←az,List.drop_left]
       rw[t1,t2,←er,Ei (by simp[nF,yo,lD];omega),gX (by simp[nF,yo,lD];omega)]
     rw[←ab] at wz
     exact wz
   · exact kP.trans (ao.mono (W:=fun q=>q=b) (ao.zR (.refl _ _) _ 0) (fun k _ ae=>⟨_,ab,ae.symm⟩))
theorem aiE {s:aa} {vs:List Value} {i:Nat} {w:World} (bJ:b6 1 ah.cd w s vs) (RG:∀u∈vs,Plain u) (aiF:∀z,(Tryz.prog.info? ah.cd).bind (·.zero)=some z→∀u∈z.cells.toList,Plain u) (hi:i<s.len) (aD:s.len≤1000000):
   aQ Tryz.prog F.yq #[.slice s.a s.len s.cap, .int .i64 (i:Int), .int .i64 ((i+1:Nat):Int)] w (fun u w'=>∃au:aa,u= .slice au.a au.len au.cap∧b6 1 ah.cd w' au (vs.take (i*1)++vs.drop ((i+1)*1))∧au.len=s.len-1∧au.a=s.a∧ao (aR s) w w'):=by
 obtain ⟨U,i0,wy,ad,ar,aI,aW,b5,im,n9⟩:=(GU).out
 obtain ⟨d0,pw⟩:=tP _ ar
 refine W.aiG s i ((i+1:Nat):Int) w _ ?_
 (delta W.yq aE iq;dsimp only)
 have aix:=bJ.2.1
 have Nw:=bJ.2.2.1
 have GY:=bJ.1
 rcases bJ.2.2.2 with ⟨_,al⟩|⟨b,c,ab,iW,fj,kp⟩
 · omega
 have BW:c.toList.length=s.cap*1:=by simpa using fj
 simp only[hF,Gr,XX]
 have tQ:vs.drop ((i+1)*1)=(c.toList.drop ((i+1)*1)).take ((s.len-(i+1))*1):=by rw[←kp,List.drop_take,show s.len*1-(i+1)*1=(s.len-(i+1))*1 by omega]
 have lD:(vs.drop ((i+1)*1)).length=(s.len-(i+1))*1:=by rw[fw,GY];omega
 have mS:vs.take (i*1)=c.toList.take (i*1):=by rw[←kp,Ja,r0 (by omega)]
 have nF:(vs.take (i*1)).length=i*1:=by rw[dV,GY];omega
 have Nx:∀u∈vs.drop ((i+1)*1),Plain u:=fun u hu=>RG u (kk hu)
 have RI:cn w.drew b c ah.cd:=cn.drew iW
 have mw:Src 1 w.drew ⟨a3 s.a 1 (i+1) s.cap,s.len-(i+1),s.cap-(i+1)⟩ (vs.drop ((i+1)*1)):=by
   by_cases he:i+1=s.cap
   · have gK:s.len-(i+1)=0:=by omega
     refine ⟨by rw[lD],fun _=>zF.1 (by rw[lD,gK,Nat.zero_mul]),fun a _=> ?_⟩
     have:vs.drop ((i+1)*1)=[]:=zF.1 (by rw[lD,gK,Nat.zero_mul])
     rw[this]
     show ey _ _ 0 ((s.len-(i+1))*1)=_
     rw[gK,Nat.zero_mul];rfl
   · rw[ab,Nc (by omega),tQ,gR]
     exact RI.JF (by omega)
 have JI:=RJ (P:=Tryz.prog) (nh:= #[ah.cC,ah.cC]) (ez:=ah.cC) (s:=⟨s.a,i,s.cap⟩) rfl rfl U U pw b5 mw (by show i+(s.len-(i+1))≤s.cap;omega) (fun a aS=>by
   have aS:s.a=some a:=aS
   rw[ab] at aS;cases aS
   rw[aV,gR]
   exact RI.dr _ _ (by show i*1+_≤_;omega) Nx)
 have yr:i+(s.len-(i+1))=s.len-1:=by omega
 simp only[ab,aV,gR,yr] at JI
 obtain ⟨aZ,ng⟩:∃aZ,aZ=setCells w.drew ⟨b,i*1,none⟩ 0 (vs.drop ((i+1)*1)):=⟨_,rfl⟩
 rw[←ng] at JI
 have JH:cn aZ b (oE c (i*1) (vs.drop ((i+1)*1))) ah.cd:=by rw[ng];exact RI.B6 _
 have kP:ao (aR s) w aZ:=by
   rw[ng]
   exact ao.mono (W:=fun q=>q=b) (ao.zR (ao.drew (.refl _ _)) _ 0) (fun k _ ae=>⟨_,ab,ae.symm⟩)
 obtain ⟨u5,Cm,aiH⟩:=aiI (P:=Tryz.prog) (w:=aZ) (T:=ah.cC) (o:=ah.t) (n:=1) (c:=s.cap-(s.len-1)) (A:=⟨b,(s.len-1)*1,none⟩) U ad aI aW (by decide) (fun u5 wA=>by
   refine JH.dr _ _ (by rw[wA,rk];simp[Builtin.zeroCells,aW];omega) fun u hu=> ?_
   rw[wA] at hu
   simp only[Builtin.zeroCells,Array.toList_map,p4] at hu
   obtain ⟨j,a6,rfl⟩:=hu
   have a6:j<1*wy.cells.size:=by simpa using a6
   have aiJ:j%wy.cells.size<wy.cells.size:=sI _ (by omega)
   have a7:wy.cells[j%wy.cells.size]! =wy.cells[j%wy.cells.size]:=getElem!_pos wy.cells (j%wy.cells.size) aiJ
   rw[a7]
   exact aiF wy (by rw[ad];exact aI) _ (by simp))
 have aiK:a3 (some (Addr.mk b 0 none)) 1 (s.len-1) s.cap=some ⟨b,(s.len-1)*1,none⟩:=by rw[Nc (by omega),gR]
 have aiL:s.len-(s.len-1)=1:=by omega
 refine ⟨⟨by omega,by omega⟩,⟨by omega,by omega⟩,⟨by omega,by omega⟩,fun h=> ?_,fun _=>bM ⟨⟨by omega,by omega⟩,⟨by omega,by omega⟩,⟨some ⟨b,0,none⟩,s.len-1,s.cap⟩,aZ,by rw[ab];exact JI,⟨by omega,by show ((s.len:Nat):Int)≤((s.cap:Nat):Int);omega⟩,⟨by omega,by show ((s.len-1:Nat):Int)≤((s.len:Nat):Int);omega⟩,_,_,by rw[aiL,aiK];exact aiH,⟨some ⟨b,0,none⟩,s.len-1,s.cap⟩,rfl,?_,rfl,ab.symm,?_⟩⟩
 · have:=eq_of_beq h;omega
 · refine b6.mk' (JH.B6 _) (by simp[nF,lD];omega) (by omega) Nw (by rw[rk,rk,fj]) ?_
   rw[zW _ _ _ (by rw[rk];omega),zW _ _ _ (by omega)]
   have t1:(c.toList.take (i*1)++vs.drop ((i+1)*1)++c.toList.drop (i*1+(vs.drop ((i+1)*1)).length)).take ((s.len-1)*1)=vs.take (i*1)++vs.drop ((i+1)*1):=by
     rw[←mS,Ei (by simp[nF,lD];omega),gX (by simp[nF,lD];omega)]
   rw[t1,er,Ei (by simp[nF,lD];omega),gX (by simp[nF,lD];omega)]
 · exact kP.trans (ao.mono (W:=fun q=>q=b) (ao.zR (.refl _ _) _ 0) (fun k _ ae=>⟨_,ab,ae.symm⟩))
theorem JJ {w:World} {s:aa} {ds:List Nat} (h:Src 1 w s (l6 ds)) (az:ds.length≤1000000):
   aQ Tryz.prog F.u7 #[.slice s.a s.len s.cap] w (fun v w'=>∃au:aa,v= .slice au.a au.len au.cap∧b6 1 ah.int w' au (l6 ds)∧Ext w w'∧oF w au):=by
 have gA:s.len=ds.length:=by have:=h.len;rw[GR] at this;omega
 refine W.aiM s w _ ?_
 delta W.u7 aE ai
 refine ⟨fun aS=> ?_,fun _=> ?_⟩
 · have aS:s.a=none:=by simpa using aS
   rw[h.nil aS]
   exact ⟨⟨none,0,0⟩,rfl,b6.none _ _ _, .refl _ _,fun k ae=>(r7 k ae).elim⟩
 · obtain ⟨au,w',U,ad,ar,aI,aW,_⟩:=Nj.clone (ez:=ah.fb) h (XA ds) (by omega)
   exact bM ⟨au,w',U,au,rfl,ad,aI,aW⟩
theorem aiN {ks:List Key} {k:Key} {a:Nat} (aS:a≤ks.length) (U:∀ (j:Nat) (h:j<ks.length),j<a→ck ks[j] k) (ad:∀ (j:Nat) (h:j<ks.length),a≤j→¬ck ks[j] k):d_ ks k=a:=by
 unfold d_
 rcases hE a ks.length with h|h
 · exact (List.findIdx_eq h).2 ⟨il (ad a h (cP _)),fun j a6=>sH fun ar=>ar (U j (by omega) a6)⟩
 · have:a=ks.length:=by omega
   subst this
   refine List.findIdx_eq_length_of_false fun x af=> ?_
   obtain ⟨j,a6,rfl⟩:=na af
   exact sH fun ar=>ar (U j a6 a6)
def o6 (ks:List Key) (k:Key):Bool:=decide (ks[d_ ks k]? =some k)
theorem aiO {B C:Nat→Prop} {s t:aa} {ks:List Key} {key:Key} {w:World} (aj:bU B w s ks) (aN:Src 1 w t (bg key)) (aU:ks.Pairwise ck) (aD:ks.length≤100000):
   aQ Tryz.prog F.Cn #[.slice s.a s.len s.cap, .slice t.a t.len t.cap, .func (.func F.oI) #[] #[]] w (fun v w'=>v= .tuple #[.int .i64 ((d_ ks key:Nat):Int), .bool (o6 ks key)]∧w=w'):=by
 refine W.aiP s t ⟨F.oI, #[], #[]⟩ w _ ?_
 (delta W.Cn aE aC aq a8;dsimp only)
 have az:=bU.len aj
 have yi:tL Tryz.prog F.oI:=⟨_,(Option.some_get (show (Tryz.prog.funcs[F.oI]?).isSome=true by kernel_rfl)).symm,by kernel_rfl,by kernel_rfl⟩
 have a9:=fun {i j:Nat} (hi:i<j) (a6:j<ks.length)=>Gn.1 aU i j (by omega) a6 hi
 refine ⟨fun lo hi w'=>∃a b:Nat,lo=a∧hi=b∧a≤b∧b≤ks.length∧w=w'∧(∀ (j:Nat) (h:j<ks.length),j<a→ck ks[j] key)∧(∀ (j:Nat) (h:j<ks.length),b≤j→¬ck ks[j] key),fun lo hi _=>(hi-lo).toNat,
   ⟨0,ks.length,rfl,by rw[az],fx _,cP _,rfl,fun j _ h=>by omega,fun j h ad=>by omega⟩,?_⟩
 rintro _ _ _ ⟨a,b,rfl,rfl,pH,ab,rfl,U,ad⟩
 have hm:=aiQ (a:=a) (b:=b) (by omega)
 refine ⟨fun h=> ?_,fun h=> ?_⟩
 · have aiR:(a:Int)<(b:Int):=dU h
   rw[hm]
   obtain ⟨m,z_⟩:∃m,m=(a+b)/2:=⟨_,rfl⟩
   rw[←z_]
   have NC:a≤m:=by omega
   have kD:m<b:=by omega
   obtain ⟨A,t2,ax,ni,dm,nH,_⟩:=bU.at aj (i:=m) (by omega)
   refine ⟨by decide,A,ax,ni,t2,dm,yi,(oI nH.1 aN).use ?_⟩
   rintro _ _ ⟨rfl,rfl⟩
   have hw:IntKind.wrap .i64 ((m:Int)+1)=((m+1:Nat):Int):=by rw[cE (by omega) (by omega)];rfl
   refine ⟨_,rfl,fun al=> ?_,fun al=> ?_⟩
   · have al:ck ks[m] key:=dU al
     rw[hw]
     have JK:((b:Int)-((m+1:Nat):Int)).toNat<((b:Int)-(a:Int)).toNat:=by omega
     refine ⟨⟨m+1,b,rfl,rfl,by omega,ab,rfl,fun j a6 aiS=> ?_,ad⟩,JK⟩
     rcases hE j m with ar|ar
     · exact x1 (a9 ar (by omega)) al
     · have:j=m:=by omega
       subst this;exact al
   · have al:¬ck ks[m] key:=ff al
     have JK:((m:Int)-(a:Int)).toNat<((b:Int)-(a:Int)).toNat:=by omega
     refine ⟨⟨a,m,rfl,rfl,NC,by omega,rfl,U,fun j a6 aiS=> ?_⟩,JK⟩
     rcases hE m j with ar|ar
     · exact fun aI=>al (x1 (a9 ar a6) aI)
     · have:j=m:=by omega
       subst this;exact al
 · have cm:¬(a:Int)<(b:Int):=ff h
   have aiT:b=a:=by omega
   subst aiT
   have aT:d_ ks key=b:=aiN ab U ad
   refine e4 (fun c w'=>w=w'∧c=o6 ks key) (fun q J=>⟨fun h=> ?_,fun h=> ?_⟩) ?_
   · have aiR:(b:Int)<((s.len:Nat):Int):=dU h
     have wB:b<ks.length:=by omega
     obtain ⟨A,t2,ax,ni,dm,nH,_⟩:=bU.at aj wB
     refine ⟨A,ax,ni,t2,dm,yi,(oI nH.1 aN).use ?_⟩
     rintro _ _ ⟨rfl,rfl⟩
     refine ⟨_,rfl,J _ _ ⟨rfl,?_⟩⟩
     unfold o6
     rw[aT,o1,fI,zJ,g8 wB,agq]
     exact ⟨fun h=>by rw[h],fun h=>Option.some.inj h⟩
   · have cm:¬(b:Int)<((s.len:Nat):Int):=ff h
     refine J _ _ ⟨rfl,?_⟩
     unfold o6
     rw[aT,List.getElem?_eq_none (by omega)]
     simp
   · rintro _ _ ⟨rfl,rfl⟩
     exact ⟨by rw[aT],rfl⟩
theorem rv {B:Nat→Prop} {w:World} {n:aL} {K V D t:aa} {key:Key} (h:b8 B w n K V D) (aN:Src 1 w t (bg key)) (aU:n.keys.Pairwise ck) (aD:n.keys.length≤100000):
   aQ Tryz.prog F.rv #[e5 n K V D, .slice t.a t.len t.cap] w (fun v w'=>v= .tuple #[.int .i64 ((d_ n.keys key:Nat):Int), .bool (o6 n.keys key)]∧Ext w w'):=by
 refine W.aiU n.leaf K V D t w _ ?_
 (delta W.rv aq ai dO;dsimp only)
 refine cp (vs:=[.bool n.leaf, .slice K.a K.len K.cap, .slice V.a V.len V.cap, .slice D.a D.len D.cap]) rfl fun ag ak bz _=> ?_
 obtain ⟨cA,bd,bc,a_⟩:=cj ak
 refine ⟨K,bd,(aiO (B:=B) (C:=B) (h.keys.ext bz) (aN.ext bz) aU aD).use ?_⟩
 rintro _ _ ⟨rfl,rfl⟩
 exact ⟨_,_,rfl,rfl,bz⟩
theorem yt {B:Nat→Prop} {w:World} {n:aL} {K V D t:aa} {key:Key} (h:b8 B w n K V D) (aN:Src 1 w t (bg key)) (aU:n.keys.Pairwise ck) (aD:n.keys.length≤100000):
   aQ Tryz.prog F.yt #[e5 n K V D, .slice t.a t.len t.cap] w (fun v w'=>v= .tuple #[.int .i64 ((d_ n.keys key:Nat):Int), .bool (o6 n.keys key)]∧Ext w w'):=by
 refine W.aiV n.leaf K V D t w _ ?_
 (delta W.yt bP ai aq dO;dsimp only)
 refine cp (vs:=[.bool n.leaf, .slice K.a K.len K.cap, .slice V.a V.len V.cap, .slice D.a D.len D.cap]) rfl fun ag ak bz _=> ?_
 obtain ⟨cA,bd,bc,a_⟩:=cj ak
 refine ⟨_,cA,K,bd,V,bc,D,a_,(rv (h.ext bz) (aN.ext bz) aU aD).use ?_⟩
 rintro _ _ ⟨rfl,cv⟩
 exact ⟨_,_,rfl,rfl,bz.trans cv⟩
theorem aiW {ks:List Key} (aU:ks.Pairwise ck) (k:Key):fJ ks k=if o6 ks k then d_ ks k+1 else d_ ks k:=by
 have hle:=GG ks k
 have key:∀a,a≤ks.length→(∀ (j:Nat) (h:j<ks.length),j<a→¬ck k ks[j])→(∀h:a<ks.length,ck k ks[a])→fJ ks k=a:=by
   intro a aS U ad
   unfold fJ
   rcases hE a ks.length with h|h
   · exact (List.findIdx_eq h).2 ⟨il (ad h),fun j a6=>sH (U j (by omega) a6)⟩
   · have:a=ks.length:=by omega
     subst this
     refine List.findIdx_eq_length_of_false fun x af=> ?_
     obtain ⟨j,a6,rfl⟩:=na af
     exact sH (U j a6 a6)
 split
 · rename_i dq
   have dq:ks[d_ ks k]? =some k:=dU dq
   obtain ⟨a9,he⟩:=qs.1 dq
   refine key _ a9 (fun j a6 h=> ?_) fun h=> ?_
   · rcases hE j (d_ ks k) with ar|ar
     · exact zN (Es ar a6)
     · have:j=d_ ks k:=by omega
       subst this
       rw[he];exact zM _
   · have:=Gn.1 aU _ _ a9 h (Nat.lt_succ_self _)
     rwa[he] at this
 · rename_i dq
   have dq:¬ks[d_ ks k]? =some k:=fun h=>dq (il h)
   refine key _ hle (fun j a6 h=>zN (Es h a6)) fun h=> ?_
   rcases El.1 (GH aU (cP _) h) with ar|ar
   · exact ar
   · exact absurd ((g8 h).trans (congrArg some ar.symm)) dq
theorem u9 {B:Nat→Prop} {w:World} {n:aL} {K V D t:aa} {key:Key} (h:b8 B w n K V D) (aN:Src 1 w t (bg key)) (aU:n.keys.Pairwise ck) (aD:n.keys.length≤100000):
   aQ Tryz.prog F.u9 #[e5 n K V D, .slice t.a t.len t.cap] w (fun v w'=>v= .int .i64 ((fJ n.keys key:Nat):Int)∧Ext w w'):=by
 refine W.aiX n.leaf K V D t w _ ?_
 (delta W.u9 bP ai aq dO aE aC;dsimp only)
 refine cp (vs:=[.bool n.leaf, .slice K.a K.len K.cap, .slice V.a V.len V.cap, .slice D.a D.len D.cap]) rfl fun ag ak bz _=> ?_
 obtain ⟨cA,bd,bc,a_⟩:=cj ak
 have hle:=GG n.keys key
 refine ⟨_,cA,K,bd,V,bc,D,a_,(rv (h.ext bz) (aN.ext bz) aU aD).use ?_⟩
 rintro _ aw ⟨rfl,cv⟩
 rw[aiW aU]
 refine ⟨_,_,rfl,e4 (fun c w'=>aw=w'∧c=((if o6 n.keys key then d_ n.keys key+1 else d_ n.keys key:Nat):Int)) (fun q J=>⟨fun h=>J _ _ ⟨rfl,?_⟩,fun h=>J _ _ ⟨rfl,?_⟩⟩) ?_⟩
 · rw[if_pos h,cE (by omega) (by omega)];rfl
 · rw[if_neg (by simp[h])]
 · rintro _ _ ⟨rfl,rfl⟩
   exact ⟨rfl,bz.trans cv⟩
end
section
structure pI (lo:Nat) (w:World) (aK:Nat) (n:aL) (K V D:aa) (cw cN cg:Nat→Prop):Prop where
 v:Var w aK [.bool n.leaf, .slice K.a K.len K.cap, .slice V.a V.len V.cap, .slice D.a D.len D.cap] ah.cF
 keys:bW cw w K n.keys
 vals:bW cN w V n.vals
 kids:eB cg w D n.kids
 bO:∀q,cw q→lo≤q∧q<w.heap.size∧q≠aK∧¬cN q∧¬cg q
 bv:∀q,cN q→lo≤q∧q<w.heap.size∧q≠aK∧¬cg q
 a8:∀q,cg q→lo≤q∧q<w.heap.size∧q≠aK
 Aa:lo≤aK
structure jM (lo:Nat) (w:World) (n:aL) (K V D:aa) (cw cN cg:Nat→Prop):Prop where
 keys:bW cw w K n.keys
 vals:bW cN w V n.vals
 kids:eB cg w D n.kids
 bO:∀q,cw q→lo≤q∧q<w.heap.size∧¬cN q∧¬cg q
 bv:∀q,cN q→lo≤q∧q<w.heap.size∧¬cg q
 a8:∀q,cg q→lo≤q∧q<w.heap.size
section
variable {lo:Nat} {w w':World} {aK:Nat} {n:aL} {K V D:aa} {cw cN cg:Nat→Prop}
theorem pI.mem (h:pI lo w aK n K V D cw cN cg):jM lo w n K V D cw cN cg:=⟨h.keys,h.vals,h.kids,fun q J=>⟨(h.bO q J).1,(h.bO q J).2.1,(h.bO q J).2.2.2⟩,fun q J=>⟨(h.bv q J).1,(h.bv q J).2.1,(h.bv q J).2.2.2⟩,fun q J=>⟨(h.a8 q J).1,(h.a8 q J).2.1⟩⟩
theorem jM.an {W:Nat→Prop} (h:jM lo w n K V D cw cN cg) (al:ao W w w') (dK:∀q,lo≤q→q<w.heap.size→cw q∨cN q∨cg q→¬W q):jM lo w' n K V D cw cN cg:=by
 have aj:=al.size
 refine ⟨bW.an h.keys al fun q J=>dK q (h.bO q J).1 (h.bO q J).2.1 (.inl J),bW.an h.vals al fun q J=>dK q (h.bv q J).1 (h.bv q J).2.1 (.inr (.inl J)),eB.an h.kids al fun q J=>dK q (h.a8 q J).1 (h.a8 q J).2 (.inr (.inr J)),fun q J=> ?_,fun q J=> ?_,fun q J=> ?_⟩
 · have:=h.bO q J;exact ⟨this.1,by omega,this.2.2⟩
 · have:=h.bv q J;exact ⟨this.1,by omega,this.2.2⟩
 · have:=h.a8 q J;exact ⟨this.1,by omega⟩
theorem jM.ext (h:jM lo w n K V D cw cN cg) (al:Ext w w'):jM lo w' n K V D cw cN cg:=h.an al fun _ _ _ _ h=>h
theorem pI.ext (h:pI lo w aK n K V D cw cN cg) (af:Ext w w'):pI lo w' aK n K V D cw cN cg:=
 ⟨h.v.ext af,bW.ext h.keys af,bW.ext h.vals af,eB.ext h.kids af,fun q J=>⟨(h.bO q J).1,lg (h.bO q J).2.1 af.size,(h.bO q J).2.2⟩,fun q J=>⟨(h.bv q J).1,lg (h.bv q J).2.1 af.size,(h.bv q J).2.2⟩,fun q J=>⟨(h.a8 q J).1,lg (h.a8 q J).2.1 af.size,(h.a8 q J).2.2⟩,h.Aa⟩
theorem jM.at (h:jM lo w n K V D cw cN cg):b8 (fun q=>lo≤q) w n K V D:=
 ⟨bU.bw (bW.qF h.keys) fun q _ J=>(h.bO q J).1,bU.bw (bW.qF h.vals) fun q _ J=>(h.bv q J).1,eF.bw (eB.GS h.kids) fun q _ J=>(h.a8 q J).1⟩
theorem jM.low {gY:Nat} (h:jM lo w n K V D cw cN cg) (az:gY≤lo):jM gY w n K V D cw cN cg:=
 ⟨h.keys,h.vals,h.kids,fun q J=>⟨iT az (h.bO q J).1,(h.bO q J).2⟩,fun q J=>⟨iT az (h.bv q J).1,(h.bv q J).2⟩,fun q J=>⟨iT az (h.a8 q J).1,(h.a8 q J).2⟩⟩
end
theorem RK {lo:Nat} {w:World} {aK:Nat} {n:aL} {K V D t:aa} {l:Key} {cw cN cg:Nat→Prop} (h:pI lo w aK n K V D cw cN cg) (aN:Src 1 w t (bg l)) (az:l.length≤100000) (aD:n.keys.length≤100000) {R:World→Prop}
   (cU:∀ (w':World) (aP:aa) (z8:Nat→Prop),pI lo w' aK {n with keys:=n.keys++ [l]} aP V D z8 cN cg→ao (fun q=>q=aK∨cw q) w w'→(∀q,z8 q→cw q∨w.heap.size≤q)→R w'):
   ay w.drew fun dF=>∃wC:Nat→Prop,¬wC (Addr.add ⟨aK,0,none⟩ 1).block∧∃ee:aa,dF.cell? (Addr.add ⟨aK,0,none⟩ 1)=some (.slice ee.a ee.len ee.cap)∧
     Calls Tryz.prog F.l4 #[.slice t.a t.len t.cap] dF fun RL cK=>∃fz:aa,RL= .returned (.slice fz.a fz.len fz.cap)∧ao wC dF cK∧
     ay (cK.alloc (.cells #[.slice fz.a fz.len fz.cap] ah.cd)) fun mT=>ao wC cK mT∧∃eX:aa,∃e7:World,Sem.run Tryz.prog (Builtin.append_ #[ah.cC,ah.cC] ah.cC #[.slice ee.a ee.len ee.cap, .slice (some ⟨cK.heap.size,0,none⟩) 1 1]) mT= .ok (.slice eX.a eX.len eX.cap) e7∧
     (∃u:Value,e7.cell? (Addr.add ⟨aK,0,none⟩ 1)=some u)∧e7.frozen? (Addr.add ⟨aK,0,none⟩ 1)=false∧ay (e7.setCell (Addr.add ⟨aK,0,none⟩ 1) (.slice eX.a eX.len eX.cap)) fun gj=>R gj:=by
 have e8:=h.Aa
 have EJ:=h.v.lt
 have bx:=eE w
 obtain ⟨cA,bd,bc,a_⟩:=cj (h.v.ext bx)
 refine bM ⟨fun _=>False,id,K,bd,(uX (B:=fun q=>w.heap.size≤q) (aN.ext bx) (by omega) (fun q J=>J)).use ?_⟩
 rintro _ cK ⟨EK,rfl,Ab,af,aG⟩
 have dC:=bx.trans af
 have bI:w.drew.heap.size=w.heap.size:=rfl
 have dB:=dC.size
 have bk:=bW.ext h.keys dC
 have tR:=bW.ext h.vals dC
 have u_:=eB.ext h.kids dC
 refine ⟨EK,rfl,af,No (B:=mv cw w.drew cK) (h.v.ext dC) (o:=1) (by simp) (bW.bw bk fun k _ h=> .inl h) ?_ (bD.bw Ab fun k ae h=> .inr ⟨h,ae⟩) ?_ aD fun w' gB aA aF aJ=> ?_⟩
 · rintro (U|U)
   · exact (h.bO aK U).2.2.1 rfl
   · omega
 · intro k jK EG
   obtain ⟨ts,_,_,ar,_⟩:=h.keys
   have:=(ar k EG).2
   have:=(Ab.2.2 k jK).1
   omega
 have gC:∀q,mv (mv cw w.drew cK) cK w' q→cw q∨(w.heap.size≤q∧q<w'.heap.size):=by
   rintro q ((U|U)|U)
   · exact .inl U
   · exact .inr ⟨U.1,lg U.2 aJ.size⟩
   · exact .inr ⟨iT dB U.1,U.2⟩
 have a7:=aJ.size
 have kH:∀q,aR K q→cw q:=fun q J=>by
   obtain ⟨ts,_,_,ar,_⟩:=h.keys
   exact (ar q J).1
 refine cU w' gB (fun q=>cw q∨(w.heap.size≤q∧q<w'.heap.size)) ⟨by simpa using aA,bW.bw aF fun k _ ae=>gC k ae,bW.an tR aJ ?_,eB.an u_ aJ ?_,?_,fun q J=> ?_,fun q J=> ?_,h.Aa⟩ ?_ ?_
 · rintro q J (U|U)
   · exact (h.bv q J).2.2.1 U
   · exact (h.bO q (kH q U)).2.2.2.1 J
 · rintro q J (U|U)
   · exact (h.a8 q J).2.2 U
   · exact (h.bO q (kH q U)).2.2.2.2 J
 · rintro q (U|U)
   · have:=h.bO q U;exact ⟨this.1,by omega,this.2.2⟩
   · exact ⟨by omega,U.2,by omega,fun ad=>by have:=h.bv q ad;omega,fun ad=>by have:=h.a8 q ad;omega⟩
 · have:=h.bv q J;exact ⟨this.1,by omega,this.2.2⟩
 · have:=h.a8 q J;exact ⟨this.1,by omega,this.2.2⟩
 · refine (ao.eK dC).trans (aJ.mono fun k _ ae=> ?_)
   rcases ae with ae|ae
   · exact .inl ae
   · exact .inr (kH k ae)
 · rintro q (U|U)
   · exact .inl U
   · exact .inr U.1
theorem X1 {lo:Nat} {w:World} {aK:Nat} {n:aL} {K V D t:aa} {l:Key} {cw cN cg:Nat→Prop} (h:pI lo w aK n K V D cw cN cg) (aN:Src 1 w t (bg l)) (az:l.length≤100000) (aD:n.vals.length≤100000) {R:World→Prop}
   (cU:∀ (w':World) (bG:aa) (Np:Nat→Prop),pI lo w' aK {n with vals:=n.vals++ [l]} K bG D cw Np cg→ao (fun q=>q=aK∨cN q) w w'→(∀q,Np q→cN q∨w.heap.size≤q)→R w'):
   ay w.drew fun dF=>∃wC:Nat→Prop,¬wC (Addr.add ⟨aK,0,none⟩ 2).block∧∃ee:aa,dF.cell? (Addr.add ⟨aK,0,none⟩ 2)=some (.slice ee.a ee.len ee.cap)∧
     Calls Tryz.prog F.l4 #[.slice t.a t.len t.cap] dF fun RL cK=>∃fz:aa,RL= .returned (.slice fz.a fz.len fz.cap)∧ao wC dF cK∧
     ay (cK.alloc (.cells #[.slice fz.a fz.len fz.cap] ah.cd)) fun mT=>ao wC cK mT∧∃eX:aa,∃e7:World,Sem.run Tryz.prog (Builtin.append_ #[ah.cC,ah.cC] ah.cC #[.slice ee.a ee.len ee.cap, .slice (some ⟨cK.heap.size,0,none⟩) 1 1]) mT= .ok (.slice eX.a eX.len eX.cap) e7∧
     (∃u:Value,e7.cell? (Addr.add ⟨aK,0,none⟩ 2)=some u)∧e7.frozen? (Addr.add ⟨aK,0,none⟩ 2)=false∧ay (e7.setCell (Addr.add ⟨aK,0,none⟩ 2) (.slice eX.a eX.len eX.cap)) fun gj=>R gj:=by
 have e8:=h.Aa
 have EJ:=h.v.lt
 have bx:=eE w
 obtain ⟨cA,bd,bc,a_⟩:=cj (h.v.ext bx)
 refine bM ⟨fun _=>False,id,V,bc,(uX (B:=fun q=>w.heap.size≤q) (aN.ext bx) (by omega) (fun q J=>J)).use ?_⟩
 rintro _ cK ⟨EK,rfl,Ab,af,aG⟩
 have dC:=bx.trans af
 have bI:w.drew.heap.size=w.heap.size:=rfl
 have dB:=dC.size
 have bk:=bW.ext h.keys dC
 have tR:=bW.ext h.vals dC
 have u_:=eB.ext h.kids dC
 refine ⟨EK,rfl,af,No (B:=mv cN w.drew cK) (h.v.ext dC) (o:=2) (by simp) (bW.bw tR fun k _ h=> .inl h) ?_ (bD.bw Ab fun k ae h=> .inr ⟨h,ae⟩) ?_ aD fun w' gB aA aF aJ=> ?_⟩
 · rintro (U|U)
   · exact (h.bv aK U).2.2.1 rfl
   · omega
 · intro k jK EG
   obtain ⟨ts,_,_,ar,_⟩:=h.vals
   have:=(ar k EG).2
   have:=(Ab.2.2 k jK).1
   omega
 have gC:∀q,mv (mv cN w.drew cK) cK w' q→cN q∨(w.heap.size≤q∧q<w'.heap.size):=by
   rintro q ((U|U)|U)
   · exact .inl U
   · exact .inr ⟨U.1,lg U.2 aJ.size⟩
   · exact .inr ⟨iT dB U.1,U.2⟩
 have a7:=aJ.size
 have kH:∀q,aR V q→cN q:=fun q J=>by
   obtain ⟨ts,_,_,ar,_⟩:=h.vals
   exact (ar q J).1
 refine cU w' gB (fun q=>cN q∨(w.heap.size≤q∧q<w'.heap.size)) ⟨by simpa using aA,bW.an bk aJ ?_,bW.bw aF fun k _ ae=>gC k ae,eB.an u_ aJ ?_,fun q J=> ?_,?_,fun q J=> ?_,h.Aa⟩ ?_ ?_
 · rintro q J (U|U)
   · exact (h.bO q J).2.2.1 U
   · exact (h.bO q J).2.2.2.1 (kH q U)
 · rintro q J (U|U)
   · exact (h.a8 q J).2.2 U
   · exact (h.bv q (kH q U)).2.2.2 J
 · have:=h.bO q J
   refine ⟨this.1,by omega,this.2.2.1,?_,this.2.2.2.2⟩
   rintro (U|U)
   · exact this.2.2.2.1 U
   · omega
 · rintro q (U|U)
   · have:=h.bv q U;exact ⟨this.1,by omega,this.2.2⟩
   · exact ⟨by omega,U.2,by omega,fun ad=>by have:=h.a8 q ad;omega⟩
 · have:=h.a8 q J;exact ⟨this.1,by omega,this.2.2⟩
 · refine (ao.eK dC).trans (aJ.mono fun k _ ae=> ?_)
   rcases ae with ae|ae
   · exact .inl ae
   · exact .inr (kH k ae)
 · rintro q (U|U)
   · exact .inl U
   · exact .inr U.1
theorem fE {B:Nat→Prop} {bB:World} {n:aL} {K V D:aa} (h:b8 B bB n K V D) (X2:n.keys.length≤100000) (X3:n.vals.length≤100000) (aty:n.kids.length≤100000) (fm:∀k∈n.keys,k.length≤100000) (jx:∀v∈n.vals,v.length≤100000):
   aQ Tryz.prog F.fE #[e5 n K V D] bB (fun v w'=>∃ (K V D:aa) (cw cN cg:Nat→Prop),v=e5 n K V D∧jM bB.heap.size w' n K V D cw cN cg∧Ext bB w'):=by
 refine W.aiY n.leaf K V D bB _ ?_
 (delta W.fE dt ai bP aq dL ji RM aE X4 a8 st aC X5 X6 ND;dsimp only)
 have RN:b8 (fun q=>q<bB.heap.size) bB n K V D:=h.bw fun q J _=>J
 have Cg:=bU.len h.keys
 have dD:=bU.len h.vals
 refine cp (vs:=[.bool n.leaf, .slice K.a K.len K.cap, .slice V.a V.len V.cap, .slice D.a D.len D.cap]) rfl fun ag gd bz kM=> ?_
 refine cp (vs:=[.bool false, .slice none 0 0, .slice none 0 0, .slice none 0 0]) rfl fun aw fK cv mo=>bM ?_
 have bx:=eE aw
 have bI:aw.drew.heap.size=aw.heap.size:=rfl
 have va:=(gd.ext cv).ext bx
 have yu:=fK.ext bx
 have hL:=bz.trans (cv.trans bx)
 obtain ⟨gK,aY,bm,dM⟩:=cj va
 have qG:=RN.ext hL
 obtain ⟨lo,mq⟩:∃lo,lo=aw.heap.size:=⟨_,rfl⟩
 refine ⟨fun _=>False,id,_,gK,id,D,dM,⟨?_,?_⟩⟩
 · refine (JJ qG.kids.1 (by omega)).use ?_
   rintro _ a5 ⟨aM,rfl,Ac,eN,yc⟩
   have Co:=eN.size
   refine ⟨aM,rfl,eN, #[.bool n.leaf, .slice none 0 0, .slice none 0 0, .slice aM.a aM.len aM.cap],(fun w=>by kernel_rfl),?_⟩
   refine cp (vs:=[.bool false, .slice none 0 0, .slice none 0 0, .slice none 0 0]) rfl fun cG NF hN X7=> ?_
   refine ⟨hN,NF.dr rfl ?_,rfl,ec NF (us:=[.bool n.leaf, .slice none 0 0, .slice none 0 0, .slice aM.a aM.len aM.cap]) rfl rfl fun bY Ad pJ RO=> ?_⟩
   · intro v ak
     simp only[gp,mm,mn] at ak
     rcases ak with rfl|rfl|rfl|rfl<;>trivial
   obtain ⟨aK,e8⟩:∃aK,aK=a5.heap.size:=⟨_,rfl⟩
   rw[←e8] at Ad pJ⊢
   obtain ⟨cg,Ae⟩:∃cg:Nat→Prop,cg=fun q=>aw.heap.size≤q∧q<a5.heap.size:=⟨_,rfl⟩
   have RP:eB cg a5 aM n.kids:=by subst Ae;exact ⟨Ac,fun k ae=>⟨⟨yc k ae,Ac.lt k ae⟩,Ac.lt k ae⟩⟩
   have wD:ao (fun q=>lo≤q) aw.drew bY:=(ao.eK (eN.trans hN)).trans (pJ.mono fun k _ ae=>by omega)
   have RQ:pI lo bY aK ⟨n.leaf,[],[],n.kids⟩ bX bX aM (fun _=>False) (fun _=>False) cg:=⟨Ad,bW.none _ _,bW.none _ _,eB.an (eB.ext RP hN) pJ (fun q J e=>by subst Ae;have J:=J.2;omega),fun q h=>h.elim,fun q h=>h.elim,fun q J=>(by subst Ae;obtain ⟨U,ad⟩:=J;exact ⟨by omega,by omega,by omega⟩),by omega⟩
   clear Ae
   obtain ⟨cA,bd,bc,a_⟩:=cj (va.an wD (by omega))
   have EL:b8 (fun q=>q<bB.heap.size) bY n K V D:=qG.an wD fun q J h=>by omega
   have JL:=yu.an wD (by omega)
   refine ⟨K,bd,fun i w'=>∃ (j:Nat) (aP:aa) (cw:Nat→Prop),i=j∧j≤n.keys.length∧pI lo w' aK ⟨n.leaf,n.keys.take j,[],n.kids⟩ aP bX aM cw (fun _=>False) cg∧ao (fun q=>lo≤q) bY w',fun i _=>((n.keys.length:Int)-i).toNat,⟨0,bX,_,rfl,fx _,RQ,ao.refl _ _⟩,?_⟩
   rintro _ dy ⟨j,aP,cw,rfl,a6,wE,gf⟩
   have RR:b8 (fun q=>q<bB.heap.size) dy n K V D:=EL.an gf fun q J h=>by omega
   refine ⟨fun a9=> ?_,fun cm=> ?_⟩
   · have a9:j<n.keys.length:=by have:=dU a9;omega
     obtain ⟨A,t,ax,ab,al,aN,_⟩:=bU.at RR.keys a9
     refine ⟨A,ax,ab,t,al,RK wE aN.1 (fm _ (fv a9)) (by show (n.keys.take j).length≤_;rw[dV];omega) fun w' cV sS st Af _=> ?_⟩
     have dS:ao (fun q=>lo≤q) dy w':=Af.mono fun q _ J=>by
       rcases J with J|J
       · have:=wE.Aa;omega
       · exact (wE.bO q J).1
     rw[cE (n:=(j:Int)+1) (by omega) (by omega)]
     refine ⟨⟨j+1,cV,sS,by omega,by omega,?_,gf.trans dS⟩,?_⟩
     · rw[take_succ _ a9];exact st
     · show ((n.keys.length:Int)-((j:Int)+1)).toNat<((n.keys.length:Int)-(j:Int)).toNat
       omega
   have cm:j=n.keys.length:=by have:=ff cm;omega
   subst cm
   rw[tD] at wE
   obtain ⟨cA,bd,bc,a_⟩:=cj ((va.an wD (by omega)).an gf (by omega))
   refine ⟨V,bc,fun i w'=>∃ (j:Nat) (bG:aa) (cN:Nat→Prop),i=j∧j≤n.vals.length∧pI lo w' aK ⟨n.leaf,n.keys,n.vals.take j,n.kids⟩ aP bG aM cw cN cg∧ao (fun q=>lo≤q) bY w',fun i _=>((n.vals.length:Int)-i).toNat,⟨0,bX,_,rfl,fx _,wE,gf⟩,?_⟩
   rintro _ dY ⟨j,bG,cN,rfl,a6,tS,Ag⟩
   have RS:b8 (fun q=>q<bB.heap.size) dY n K V D:=EL.an Ag fun q J h=>by omega
   refine ⟨fun a9=> ?_,fun cm=> ?_⟩
   · have a9:j<n.vals.length:=by have:=dU a9;omega
     obtain ⟨A,t,ax,ab,al,aN,_⟩:=bU.at RS.vals a9
     refine ⟨A,ax,ab,t,al,X1 tS aN.1 (jx _ (fv a9)) (by show (n.vals.take j).length≤_;rw[dV];omega) fun w' c2 Ah st Af _=> ?_⟩
     have dS:ao (fun q=>lo≤q) dY w':=Af.mono fun q _ J=>by
       rcases J with J|J
       · have:=tS.Aa;omega
       · exact (tS.bv q J).1
     rw[cE (n:=(j:Int)+1) (by omega) (by omega)]
     refine ⟨⟨j+1,c2,Ah,by omega,by omega,?_,Ag.trans dS⟩,?_⟩
     · rw[take_succ _ a9];exact st
     · show ((n.vals.length:Int)-((j:Int)+1)).toNat<((n.vals.length:Int)-(j:Int)).toNat
       omega
   have cm:j=n.vals.length:=by have:=ff cm;omega
   subst cm
   rw[tD] at tS
   obtain ⟨d0,d1,d2,d3⟩:=cj tS.v
   refine ⟨_,d0,aP,d1,bG,d2,aM,d3,rq n.leaf aP bG aM (JL.an Ag (by omega)) rfl (Q:=fun b K V D aw=>(fun v w'=>∃ (K V D:aa) (cw cN cg:Nat→Prop),v=e5 n K V D∧jM bB.heap.size w' n K V D cw cN cg∧Ext bB w') (.agg #[.bool b, .slice K.a K.len K.cap, .slice V.a V.len V.cap, .slice D.a D.len D.cap]) aw) fun c0 qJ=>⟨aP,bG,aM,cw,cN,cg,rfl,?_,?_⟩⟩
   · exact (jM.an tS.mem qJ fun q J _ _ h=>by omega).low (by omega)
   · exact Ext.e3 (Ext.gr hL (wD.trans Ag) fun k ae=>by omega) qJ (by omega)
 · refine cp (vs:=[.bool false, .slice none 0 0, .slice none 0 0, .slice none 0 0]) rfl fun cG NF hN X7=>⟨hN,?_⟩
   refine (JJ (qG.kids.ext hN).1 (by omega)).use ?_
   rintro _ a5 ⟨aM,rfl,Ac,eN,yc⟩
   have Co:=eN.size
   have JM:=NF.ext eN
   refine ⟨aM,rfl,eN, #[.bool n.leaf, .slice none 0 0, .slice none 0 0, .slice aM.a aM.len aM.cap],(fun w=>by kernel_rfl),?_⟩
   refine ⟨JM.dr rfl ?_,rfl,ec JM (us:=[.bool n.leaf, .slice none 0 0, .slice none 0 0, .slice aM.a aM.len aM.cap]) rfl rfl fun bY Ad pJ RO=> ?_⟩
   · intro v ak
     simp only[gp,mm,mn] at ak
     rcases ak with rfl|rfl|rfl|rfl<;>trivial
   obtain ⟨aK,e8⟩:∃aK,aK=aw.drew.heap.size:=⟨_,rfl⟩
   rw[←e8] at Ad pJ⊢
   obtain ⟨cg,Ae⟩:∃cg:Nat→Prop,cg=fun q=>cG.heap.size≤q∧q<a5.heap.size:=⟨_,rfl⟩
   have RP:eB cg a5 aM n.kids:=by subst Ae;exact ⟨Ac,fun k ae=>⟨⟨yc k ae,Ac.lt k ae⟩,Ac.lt k ae⟩⟩
   have wD:ao (fun q=>lo≤q) aw.drew bY:=(ao.eK (hN.trans eN)).trans (pJ.mono fun k _ ae=>by omega)
   have RQ:pI lo bY aK ⟨n.leaf,[],[],n.kids⟩ bX bX aM (fun _=>False) (fun _=>False) cg:=⟨Ad,bW.none _ _,bW.none _ _,eB.an RP pJ (fun q J e=>by subst Ae;have J:=J.1;omega),fun q h=>h.elim,fun q h=>h.elim,fun q J=>(by subst Ae;obtain ⟨U,ad⟩:=J;exact ⟨by omega,by omega,by omega⟩),by omega⟩
   clear Ae
   obtain ⟨cA,bd,bc,a_⟩:=cj (va.an wD (by omega))
   have EL:b8 (fun q=>q<bB.heap.size) bY n K V D:=qG.an wD fun q J h=>by omega
   have JL:=yu.an wD (by omega)
   refine ⟨K,bd,fun i w'=>∃ (j:Nat) (aP:aa) (cw:Nat→Prop),i=j∧j≤n.keys.length∧pI lo w' aK ⟨n.leaf,n.keys.take j,[],n.kids⟩ aP bX aM cw (fun _=>False) cg∧ao (fun q=>lo≤q) bY w',fun i _=>((n.keys.length:Int)-i).toNat,⟨0,bX,_,rfl,fx _,RQ,ao.refl _ _⟩,?_⟩
   rintro _ dy ⟨j,aP,cw,rfl,a6,wE,gf⟩
   have RR:b8 (fun q=>q<bB.heap.size) dy n K V D:=EL.an gf fun q J h=>by omega
   refine ⟨fun a9=> ?_,fun cm=> ?_⟩
   · have a9:j<n.keys.length:=by have:=dU a9;omega
     obtain ⟨A,t,ax,ab,al,aN,_⟩:=bU.at RR.keys a9
     refine ⟨A,ax,ab,t,al,RK wE aN.1 (fm _ (fv a9)) (by show (n.keys.take j).length≤_;rw[dV];omega) fun w' cV sS st Af _=> ?_⟩
     have dS:ao (fun q=>lo≤q) dy w':=Af.mono fun q _ J=>by
       rcases J with J|J
       · have:=wE.Aa;omega
       · exact (wE.bO q J).1
     rw[cE (n:=(j:Int)+1) (by omega) (by omega)]
     refine ⟨⟨j+1,cV,sS,by omega,by omega,?_,gf.trans dS⟩,?_⟩
     · rw[take_succ _ a9];exact st
     · show ((n.keys.length:Int)-((j:Int)+1)).toNat<((n.keys.length:Int)-(j:Int)).toNat
       omega
   have cm:j=n.keys.length:=by have:=ff cm;omega
   subst cm
   rw[tD] at wE
   obtain ⟨cA,bd,bc,a_⟩:=cj ((va.an wD (by omega)).an gf (by omega))
   refine ⟨V,bc,fun i w'=>∃ (j:Nat) (bG:aa) (cN:Nat→Prop),i=j∧j≤n.vals.length∧pI lo w' aK ⟨n.leaf,n.keys,n.vals.take j,n.kids⟩ aP bG aM cw cN cg∧ao (fun q=>lo≤q) bY w',fun i _=>((n.vals.length:Int)-i).toNat,⟨0,bX,_,rfl,fx _,wE,gf⟩,?_⟩
   rintro _ dY ⟨j,bG,cN,rfl,a6,tS,Ag⟩
   have RS:b8 (fun q=>q<bB.heap.size) dY n K V D:=EL.an Ag fun q J h=>by omega
   refine ⟨fun a9=> ?_,fun cm=> ?_⟩
   · have a9:j<n.vals.length:=by have:=dU a9;omega
     obtain ⟨A,t,ax,ab,al,aN,_⟩:=bU.at RS.vals a9
     refine ⟨A,ax,ab,t,al,X1 tS aN.1 (jx _ (fv a9)) (by show (n.vals.take j).length≤_;rw[dV];omega) fun w' c2 Ah st Af _=> ?_⟩
     have dS:ao (fun q=>lo≤q) dY w':=Af.mono fun q _ J=>by
       rcases J with J|J
       · have:=tS.Aa;omega
       · exact (tS.bv q J).1
     rw[cE (n:=(j:Int)+1) (by omega) (by omega)]
     refine ⟨⟨j+1,c2,Ah,by omega,by omega,?_,Ag.trans dS⟩,?_⟩
     · rw[take_succ _ a9];exact st
     · show ((n.vals.length:Int)-((j:Int)+1)).toNat<((n.vals.length:Int)-(j:Int)).toNat
       omega
   have cm:j=n.vals.length:=by have:=ff cm;omega
   subst cm
   rw[tD] at tS
   obtain ⟨d0,d1,d2,d3⟩:=cj tS.v
   refine ⟨_,d0,aP,d1,bG,d2,aM,d3,rq n.leaf aP bG aM (JL.an Ag (by omega)) rfl (Q:=fun b K V D aw=>(fun v w'=>∃ (K V D:aa) (cw cN cg:Nat→Prop),v=e5 n K V D∧jM bB.heap.size w' n K V D cw cN cg∧Ext bB w') (.agg #[.bool b, .slice K.a K.len K.cap, .slice V.a V.len V.cap, .slice D.a D.len D.cap]) aw) fun c0 qJ=>⟨aP,bG,aM,cw,cN,cg,rfl,?_,?_⟩⟩
   · exact (jM.an tS.mem qJ fun q J _ _ h=>by omega).low (by omega)
   · exact Ext.e3 (Ext.gr hL (wD.trans Ag) fun k ae=>by omega) qJ (by omega)
end
section
theorem bW.mk' {B:Nat→Prop} {w:World} {s:aa} {ts:List aa} {ls:List Key} (az:ts.length=ls.length) (bJ:b6 1 ah.cd w s (ts.map pB)) (hi:In B w s) (bI:∀p∈ts.zip ls,bD B w p.1 p.2∧∀k,aR p.1 k→¬aR s k):bW B w s ls:=by
 refine ⟨ts,az,bJ,hi,fun i U ad=> ?_⟩
 have:=bI (ts[i],ls[i]) (by
   rw[List.mem_iff_getElem]
   exact ⟨i,by rw[Ec];omega,by rw[MJ]⟩)
 exact this
theorem bW.out {B:Nat→Prop} {w:World} {s:aa} {ls:List Key} (h:bW B w s ls):∃ts:List aa,ts.length=ls.length∧b6 1 ah.cd w s (ts.map pB)∧In B w s∧∀p∈ts.zip ls,bD B w p.1 p.2∧∀k,aR p.1 k→¬aR s k:=by
 obtain ⟨ts,U,ad,ar,aI⟩:=h
 refine ⟨ts,U,ad,ar,fun p aT=> ?_⟩
 obtain ⟨i,hi,rfl⟩:=List.mem_iff_getElem.1 aT
 rw[Ec] at hi
 rw[MJ]
 exact aI i (by omega) (by omega)
theorem X8 {α β:Type} (a:List α) (b:List β) (i:Nat):(a.take i).zip (b.take i)=(a.zip b).take i:=by
 rw[List.zip_eq_zipWith,List.zip_eq_zipWith,List.take_zipWith]
theorem X9 {α β:Type} (a:List α) (b:List β) (i:Nat):(a.drop i).zip (b.drop i)=(a.zip b).drop i:=by
 rw[List.zip_eq_zipWith,List.zip_eq_zipWith,List.drop_zipWith]
theorem X_ {B:Nat→Prop} {w:World} {s t:aa} {ls:List Key} {l:Key} {i:Nat} (bJ:bW B w s ls) (aN:bD B w t l) (hd:∀k,aR t k→¬aR s k) (aD:ls.length≤100000) (hi:i≤ls.length):
   aQ Tryz.prog F.yn #[.slice s.a s.len s.cap, .int .i64 (i:Int), .slice (some ⟨w.heap.size,0,none⟩) 1 1] (w.alloc (.cells #[.slice t.a t.len t.cap] ah.cd))
     (fun u w'=>∃au:aa,u= .slice au.a au.len au.cap∧bW (mv B w w') w' au (ls.take i++ [l]++ls.drop i)∧ao (aR s) w w'):=by
 obtain ⟨ts,U,ad,ar,aI⟩:=bW.out bJ
 have gA:s.len=ls.length:=by have:=ad.1;rw[mN] at this;omega
 have af:=iX w (.cells #[.slice t.a t.len t.cap] ah.cd)
 have iW:=cn.new w #[.slice t.a t.len t.cap] ah.cd
 refine (aiv (v:=⟨some ⟨w.heap.size,0,none⟩,1,1⟩) (xs:=[pB t]) (i:=i) (ad.ext af) (Src.new (T:=ah.cd) w [pB t] 1 rfl) rfl rfl iW (fun h=>by have:=(ar _ h).2;omega) (fun v ak=>by rw[nC.1 ak];trivial) (Nk ts) (by omega) (by omega)).mono ?_
 rintro _ w' ⟨au,rfl,aA,aF,aJ,aO⟩
 rw[ml] at aA
 have al:ao (aR s) w w':=(ao.eK af).trans aJ
 have dB:=al.size
 have sL:(w.alloc (.cells #[.slice t.a t.len t.cap] ah.cd)).heap.size=w.heap.size+1:=Jr _ _
 have l7:∀k,aR au k→aR s k∨w.heap.size≤k:=fun k ae=>(aO k ae).imp id fun h=>by omega
 have mu:∀ (x:aa),In B w x→(∀k,aR x k→¬aR s k)→∀k,aR x k→¬aR au k:=fun x af cv k ae dW=>by
   rcases l7 k dW with h|h
   · exact cv k ae h
   · have:=(af k ae).2;omega
 have h8:∀ (x:aa) (y:Key),bD B w x y→(∀k,aR x k→¬aR s k)→bD (mv B w w') w' x y∧∀k,aR x k→¬aR au k:=fun x y Ya cv=>⟨bD.bw (bD.rn Ya al cv) fun k _ h=> .inl h,mu x Ya.2.2 cv⟩
 refine ⟨au,rfl,bW.mk' (ts:=ts.take i++ [t]++ts.drop i) ?_ ?_ ?_ ?_,al⟩
 · simp only[eu,dV,fw,rh];omega
 · simpa[Ee,Gk] using aA
 · intro k ae
   refine ⟨?_,aA.lt k ae⟩
   rcases l7 k ae with h|h
   · exact .inl (ar k h).1
   · exact .inr ⟨h,aA.lt k ae⟩
 · intro p aT
   rw[List.zip_append (by simp only[eu,dV,rh];omega),List.zip_append (by simp only[dV];omega),X8,X9] at aT
   rcases fe.1 aT with aT|aT
   · rcases fe.1 aT with aT|aT
     · obtain ⟨a,b⟩:=aI p (kA aT)
       exact h8 _ _ a b
     · simp only[List.zip_cons_cons,List.zip_nil_left,nC] at aT
       subst aT
       exact h8 _ _ aN hd
   · obtain ⟨a,b⟩:=aI p (kk aT)
     exact h8 _ _ a b
theorem aiZ:(Tryz.prog.info? ah.cd).bind (·.zero)=some (.slice none 0 0):=by kernel_rfl
theorem Yb {B:Nat→Prop} {w:World} {s:aa} {ls:List Key} {i:Nat} (bJ:bW B w s ls) (aD:ls.length≤100000) (hi:i<ls.length):
   aQ Tryz.prog F.yq #[.slice s.a s.len s.cap, .int .i64 (i:Int), .int .i64 ((i+1:Nat):Int)] w
     (fun u w'=>∃au:aa,u= .slice au.a au.len au.cap∧bW B w' au (ls.take i++ls.drop (i+1))∧ao (aR s) w w'):=by
 obtain ⟨ts,U,ad,ar,aI⟩:=bW.out bJ
 have gA:s.len=ls.length:=by have:=ad.1;rw[mN] at this;omega
 refine (aiE (i:=i) ad (Nk ts) (fun z bI u hu=>by
   rw[aiZ] at bI
   cases bI
   simp[Value.cells] at hu
   subst hu;trivial) (by omega) (by omega)).mono ?_
 rintro _ w' ⟨au,rfl,aA,aF,aJ,aO⟩
 rw[ml,ml] at aA
 have dB:=aO.size
 have l7:∀k,aR au k→aR s k:=fun k ⟨A,ax,ae⟩=>⟨A,by rw[←aJ];exact ax,ae⟩
 refine ⟨au,rfl,bW.mk' (ts:=ts.take i++ts.drop (i+1)) ?_ ?_ ?_ ?_,aO⟩
 · simp only[eu,dV,fw];omega
 · simpa[Ee,Gk] using aA
 · exact fun k ae=>⟨(ar k (l7 k ae)).1,aA.lt k ae⟩
 · intro p aT
   rw[List.zip_append (by simp only[dV];omega),X8,X9] at aT
   have hm:p∈ts.zip ls:=by
     rcases fe.1 aT with aT|aT
     · exact kA aT
     · exact kk aT
   obtain ⟨a,b⟩:=aI p hm
   exact ⟨bD.rn a aO b,fun k ae dW=>b k ae (l7 k dW)⟩
theorem ai0 {B:Nat→Prop} {w:World} {s t:aa} {ls:List Key} {l:Key} {i:Nat} (bJ:bW B w s ls) (aN:bD B w t l) (hd:∀k,aR t k→¬aR s k) (hi:i<ls.length):
   ∃A:Addr,s.a=some A∧((0:Int)≤(i:Int)∧(i:Int)<((s.len:Nat):Int))∧(∃u:Value,w.cell? (A.add (Int.toNat (i:Int)*1))=some u)∧w.frozen? (A.add (Int.toNat (i:Int)*1))=false∧
     bW B (w.setCell (A.add (Int.toNat (i:Int)*1)) (pB t)) s (ls.set i l)∧ao (aR s) w (w.setCell (A.add (Int.toNat (i:Int)*1)) (pB t)):=by
 obtain ⟨ts,U,ad,ar,aI⟩:=bJ
 obtain ⟨A,ax,ab,al,aG,e8,yv⟩:=ad.at (i:=i) (v:=pB (ts[i]'(by omega))) (by simp[U,hi])
 have uW:ao (aR s) w (w.setCell (A.add (Int.toNat (i:Int)*1)) (pB t)):=ao.set (.refl _ _) (fun _=>e8) _
 refine ⟨A,ax,ab,⟨_,al⟩,aG,⟨ts.set i t,by simp[U],?_,In.an ar uW,fun j aW b5=> ?_⟩,uW⟩
 · have:=yv (pB t)
   rwa[←List.map_set] at this
 · rw[je] at aW b5
   rw[List.getElem_set,List.getElem_set]
   by_cases e:i=j
   · rw[if_pos e,if_pos e]
     exact ⟨bD.rn aN uW hd,hd⟩
   · rw[if_neg e,if_neg e]
     obtain ⟨a,b⟩:=aI j aW b5
     exact ⟨bD.rn a uW b,b⟩
def o7 (n:aL) (k v:Key):aL:=
 if o6 n.keys k then {n with vals:=n.vals.set (d_ n.keys k) v}
 else {n with keys:=n.keys.take (d_ n.keys k)++ [k]++n.keys.drop (d_ n.keys k),vals:=n.vals.take (d_ n.keys k)++ [v]++n.vals.drop (d_ n.keys k)}
def yw (n:aL) (k:Key):aL:={n with keys:=n.keys.take (d_ n.keys k)++n.keys.drop (d_ n.keys k+1),vals:=n.vals.take (d_ n.keys k)++n.vals.drop (d_ n.keys k+1)}
theorem oC.iM {n:aL} (h:oC n):(∀k∈n.keys,k.length≤100000)∧(∀v∈n.vals,v.length≤100000):=⟨fun k ae=>by have:=(h.ok k ae).2;omega,fun v ak=>by have:=h.vals v ak;omega⟩
def EM (n:aL) (w:World) (v:Value) (w':World):Prop:=∃K V D:aa,v= .tuple #[e5 n K V D, .bool true]∧b8 (fun q=>w.heap.size≤q) w' n K V D∧Ext w w'
theorem yx {B:Nat→Prop} {w:World} {n:aL} {K V D aH eI:aa} {key val:Key} (h:b8 B w n K V D) (aj:oC n) (aD:n.keys.length≤10000) (ae:Src 1 w aH (bg key)) (ak:Src 1 w eI (bg val)) (iU:ew key) (p7:val.length≤24):
   aQ Tryz.prog F.yx #[e5 n K V D, .slice aH.a aH.len aH.cap, .slice eI.a eI.len eI.cap] w (EM (o7 n key val) w):=by
 have jx:=aj.len
 have lD:n.kids.length=0:=by rw[aj.kids];rfl
 have atz:=kN ak
 have fm:key.length≤24:=iU.2
 refine W.ai1 n.leaf K V D aH eI w _ ?_
 (delta W.yx dt bP ai GZ aE aq a_ G0 JN ji dO dL a8 st fg JO;dsimp only)
 refine cp (vs:=[.bool n.leaf, .slice K.a K.len K.cap, .slice V.a V.len V.cap, .slice D.a D.len D.cap]) rfl fun ag gd bz kM=> ?_
 refine cp (vs:=[.bool false, .slice none 0 0, .slice none 0 0, .slice none 0 0]) rfl fun aw fK cv mo=> ?_
 have pF:=bz.trans cv
 obtain ⟨cA,bd,bc,a_⟩:=cj (gd.ext cv)
 refine ⟨n.leaf,cA,e4 (fun b w'=>b=false∧Ext aw w') (fun q J=>⟨fun ab=> ?_,fun ab=>⟨_,cA,K,bd,V,bc,D,a_,(nG (h.ext pF) (by omega) (by omega) (by omega)).use ?_⟩⟩) ?_⟩
 · rw[aj.leaf] at ab;cases ab
 · rintro _ aZ ⟨b,rfl,g2,eO⟩
   have:=g2.2 (.inl aj)
   subst this
   exact ⟨true,rfl,J _ _ ⟨rfl,eO⟩⟩
 rintro _ aZ ⟨rfl,eO⟩
 have hL:=pF.trans eO
 refine e4 (fun b w'=>b=false∧aZ=w') (fun q J=>⟨fun h=>(by cases h),fun _=>(uY (ae.ext hL)).use ?_⟩) ?_
 · rintro _ _ ⟨rfl,rfl⟩
   exact ⟨_,rfl,J _ _ ⟨by simp[iU],rfl⟩⟩
 rintro _ _ ⟨rfl,rfl⟩
 obtain ⟨cA,bd,bc,a_⟩:=cj (gd.ext (cv.trans eO))
 refine ⟨fun ab=> ?_,fun _=>⟨_,cA,K,bd,V,bc,D,a_,(fE (h.ext hL) (by omega) (by omega) (by omega) aj.iM.1 aj.iM.2).use ?_⟩⟩
 · have ab:decide ((((eI.len:Nat):Int):Int)>24)=true:=ab
   have:=dU ab;omega
 rintro _ br ⟨aP,bG,aM,cw,cN,cg,rfl,wF,fo⟩
 have tK:=hL.trans fo
 have JA:=tK.size
 have atA:=hL.size
 have atB:=eO.size
 have atC:=fo.size
 refine ⟨n.leaf,aP,bG,aM,rfl,cp (vs:=[.bool false, .slice none 0 0, .slice none 0 0, .slice none 0 0]) rfl fun bF yb kG Nr=>⟨yb.dr rfl ?_,rfl,ec yb (us:=[.bool n.leaf, .slice aP.a aP.len aP.cap, .slice bG.a bG.len bG.cap, .slice aM.a aM.len aM.cap]) rfl rfl fun a4 uU qE NG=> ?_⟩⟩
 · intro v ak
   simp only[gp,mm,mn] at ak
   rcases ak with rfl|rfl|rfl|rfl<;>trivial
 obtain ⟨aK,e8⟩:∃aK,aK=br.heap.size:=⟨_,rfl⟩
 rw[←e8] at uU qE⊢
 obtain ⟨lo,mq⟩:∃lo,lo=aZ.heap.size:=⟨_,rfl⟩
 rw[←mq] at wF
 have nE:Ext w a4:=Ext.e3 (tK.trans kG) qE (by omega)
 have wG:Var a4 w.heap.size [.bool n.leaf, .slice K.a K.len K.cap, .slice V.a V.len V.cap, .slice D.a D.len D.cap] ah.cF:=(((gd.ext (cv.trans eO)).ext fo).ext kG).an qE (by omega)
 have Yc:Var a4 ag.heap.size [.bool false, .slice none 0 0, .slice none 0 0, .slice none 0 0] ah.cF:=(((fK.ext eO).ext fo).ext kG).an qE (by omega)
 have lk:jM lo a4 n aP bG aM cw cN cg:=(wF.ext kG).an qE fun q _ _ J e=>by
   subst e
   rcases J with J|J|J
   · have:=(wF.bO _ J).2.1;omega
   · have:=(wF.bv _ J).2.1;omega
   · have:=(wF.a8 _ J).2;omega
 obtain ⟨cA,bd,bc,a_⟩:=cj wG
 have hle:=GG n.keys key
 refine ⟨_,cA,K,bd,V,bc,D,a_,(rv (h.ext nE) (ae.ext nE) aj.j0 (by omega)).use ?_⟩
 rintro _ a5 ⟨rfl,eN⟩
 have r9:=nE.trans eN
 have NH:=eN.size
 refine ⟨_,_,rfl,fun dq=> ?_,fun dq=> ?_⟩
 ·
   have bx:=eE a5
   have lG:=eN.trans bx
   have a9:d_ n.keys key<n.keys.length:=by
     have:=dU dq
     exact (qs.1 this).1
   obtain ⟨d0,d1,d2,d3⟩:=cj (uU.ext lG)
   refine bM ⟨fun _=>False,id,bG,d2,(uX (B:=fun q=>a5.heap.size≤q) (ak.ext (r9.trans bx)) (by omega) (fun q J=>J)).use ?_⟩
   rintro _ b9 ⟨t,rfl,aN,g3,Xo⟩
   have Cp:=lG.trans g3
   have RT:=lk.ext Cp
   have EI:=Cp.size
   have ai2:bW (mv cN a5 b9) b9 bG n.vals:=bW.bw RT.vals fun k _ h=> .inl h
   have wH:∀k,aR bG k→cN k:=fun k ae=>by obtain ⟨ts,_,_,ar,_⟩:=lk.vals;exact (ar k ae).1
   obtain ⟨A,ax,ab,k1,Yd,yv,uW⟩:=ai0 (i:=d_ n.keys key) ai2 (bD.bw aN fun k ae h=> .inr ⟨h,ae⟩) (fun k jK dW=>by
     have:=(aN.2.2 k jK).1
     have:=(lk.bv k (wH k dW)).2.1
     omega) (by omega)
   refine ⟨t,rfl,g3,A,ax,ab,k1,Yd,bM ?_⟩
   obtain ⟨bR,G1⟩:∃bR,bR=b9.setCell (A.add (Int.toNat (d_ n.keys key:Int)*1)) (pB t):=⟨_,rfl⟩
   rw[←G1] at yv uW
   have ai3:b9.setCell (A.add (Int.toNat (d_ n.keys key:Int)*1)) (.slice t.a t.len t.cap)=bR:=G1.symm
   rw[ai3]
   have JP:ao (fun q=>lo≤q∧q<a4.heap.size∧cN q) b9 bR:=uW.mono fun k _ ae=>⟨(lk.bv k (wH k ae)).1,(lk.bv k (wH k ae)).2.1,wH k ae⟩
   have oG:=(uU.ext Cp).an JP (fun e=>by
     have U:=(wF.bv _ e.2.2).2.1;omega)
   obtain ⟨gK,aY,bm,dM⟩:=cj oG
   have ai4:b8 (fun q=>lo≤q) bR (o7 n key val) aP bG aM:=by
     unfold o7
     rw[if_pos dq]
     refine ⟨bU.bw (bU.an (bW.qF RT.keys) JP fun q J e=>(lk.bO q J).2.2.1 e.2.2) fun q _ J=>(lk.bO q J).1,bU.bw (bW.qF yv) fun q _ J=> ?_,eF.bw (eF.an (eB.GS RT.kids) JP fun q J e=>(lk.bv q e.2.2).2.2 J) fun q _ J=>(lk.a8 q J).1⟩
     rcases J with J|J
     · exact (lk.bv q J).1
     · omega
   have JC:(o7 n key val).leaf=n.leaf:=by unfold o7;rw[if_pos dq]
   refine ⟨_,gK,aP,aY,bG,bm,aM,dM,rq n.leaf aP bG aM ((Yc.ext Cp).an JP (fun e=>by have:=e.1;omega)) rfl (Q:=fun b K V D aw=>EM (o7 n key val) w (.tuple #[.agg #[.bool b, .slice K.a K.len K.cap, .slice V.a V.len V.cap, .slice D.a D.len D.cap], .bool true]) aw) fun bV wI=>⟨aP,bG,aM,by unfold e5;rw[JC],?_,?_⟩⟩
   · exact (ai4.an wI fun q J e=>by omega).bw fun q _ J=>by omega
   · exact Ext.e3 (Ext.gr (nE.trans Cp) JP fun k ae=>by omega) wI (by omega)
 ·
   have bx:=eE a5
   have lG:=eN.trans bx
   have lI:pI lo a5.drew aK n aP bG aM cw cN cg:=by
     have sf:=lk.ext lG
     refine ⟨uU.ext lG,sf.keys,sf.vals,sf.kids,fun q J=> ?_,fun q J=> ?_,fun q J=> ?_,by omega⟩
     · have U:=sf.bO q J;have:=(wF.bO q J).2.1;exact ⟨U.1,U.2.1,by omega,U.2.2⟩
     · have U:=sf.bv q J;have:=(wF.bv q J).2.1;exact ⟨U.1,U.2.1,by omega,U.2.2⟩
     · have U:=sf.a8 q J;have:=(wF.a8 q J).2;exact ⟨U.1,U.2,by omega⟩
   obtain ⟨d0,d1,d2,d3⟩:=cj lI.v
   refine bM ⟨fun _=>False,id,aP,d1,(uX (B:=fun q=>a5.heap.size≤q) (ae.ext (r9.trans bx)) (by omega) (fun q J=>J)).use ?_⟩
   rintro _ b9 ⟨t,rfl,aN,g3,Xo⟩
   have EI:a5.heap.size≤b9.heap.size:=(bx.trans g3).size
   have kH:∀k,aR aP k→cw k:=fun k ae=>by obtain ⟨ts,_,_,ar,_⟩:=lk.keys;exact (ar k ae).1
   have wH:∀k,aR bG k→cN k:=fun k ae=>by obtain ⟨ts,_,_,ar,_⟩:=lk.vals;exact (ar k ae).1
   have oa:=lI.ext g3
   refine ⟨t,rfl,g3,bM ⟨iX _ _,(X_ (B:=mv cw a5 b9) (i:=d_ n.keys key) (bW.bw oa.keys fun k _ h=> .inl h) (bD.bw aN fun k ae h=> .inr ⟨h,ae⟩) (fun k jK dW=>by
     have:=(aN.2.2 k jK).1
     have:=(lk.bO k (kH k dW)).2.1
     omega) (by omega) hle).use ?_⟩⟩
   rintro _ bR ⟨S,rfl,o4,hM⟩
   have G2:=hM.size
   have JQ:ao (fun q=>lo≤q∧cw q) b9 bR:=hM.mono fun k _ ae=>⟨(lk.bO k (kH k ae)).1,kH k ae⟩
   have oG:=oa.v.an JQ fun e=>(oa.bO _ e.2).2.2.1 rfl
   obtain ⟨s1,s2⟩:=j5 oG (i:=1) (by simp)
   refine ⟨S,rfl,?_⟩
   rw[aV,aV]
   refine ⟨s1,s2,bM (bM ?_)⟩
   obtain ⟨bV,RU⟩:∃bV,bV=(bR.setCell ⟨aK,0+1,none⟩ (.slice S.a S.len S.cap)).drew:=⟨_,rfl⟩
   rw[←RU]
   have wI:ao (fun q=>q=aK) bR bV:=by rw[RU];exact ao.drew (iL _ _ _ _)
   have Ye:Var bV aK [.bool n.leaf, .slice S.a S.len S.cap, .slice bG.a bG.len bG.cap, .slice aM.a aM.len aM.cap] ah.cF:=by rw[RU];exact (j4 oG _).drew
   have NI:=wI.size
   have atD:aK<a5.heap.size:=by have:=uU.lt;omega
   have ai5:bW (fun q=>cw q∨(a5.heap.size≤q∧q<bR.heap.size)) bV S (n.keys.take (d_ n.keys key)++ [key]++n.keys.drop (d_ n.keys key)):=by
     refine bW.an (bW.bw o4 fun k _ ae=> ?_) wI fun k ae e=> ?_
     · rcases ae with (ae|ae)|ae
       · exact .inl ae
       · exact .inr ⟨ae.1,by omega⟩
       · exact .inr ⟨by omega,ae.2⟩
     · subst e
       rcases ae with ae|ae
       · exact (oa.bO _ ae).2.2.1 rfl
       · omega
   have ai6:bW cN bV bG n.vals:=bW.an (bW.an oa.vals JQ fun q J e=>(oa.bO q e.2).2.2.2.1 J) wI fun q J e=>(oa.bv q J).2.2.1 e
   have ai7:eB cg bV aM n.kids:=eB.an (eB.an oa.kids JQ fun q J e=>(oa.bO q e.2).2.2.2.2 J) wI fun q J e=>(oa.a8 q J).2.2 e
   have wJ:Ext w bV:=Ext.gr (Ext.gr ((r9.trans bx).trans g3) JQ fun k ae=>by omega) wI fun k ae=>by omega
   obtain ⟨f0,f1,f2,f3⟩:=cj Ye
   rw[aV] at f2
   refine ⟨fun _=>False,id,bG,f2,(uX (B:=fun q=>bV.heap.size≤q) (ak.ext wJ) (by omega) (fun q J=>J)).use ?_⟩
   rintro _ cq ⟨t2,rfl,nH,qD,ahx⟩
   have atE:=qD.size
   refine ⟨t2,rfl,qD,bM ⟨iX _ _,(X_ (B:=mv cN bV cq) (i:=d_ n.keys key) (bW.bw (bW.ext ai6 qD) fun k _ h=> .inl h) (bD.bw nH fun k ae h=> .inr ⟨h,ae⟩) (fun k jK dW=>by
     have:=(nH.2.2 k jK).1
     have:=(lk.bv k (wH k dW)).2.1
     omega) (by omega) (by omega)).use ?_⟩⟩
   rintro _ cG ⟨ir,rfl,z7,yy⟩
   have ai8:=yy.size
   have JR:ao (fun q=>lo≤q∧cN q) cq cG:=yy.mono fun k _ ae=>⟨(lk.bv k (wH k ae)).1,wH k ae⟩
   have Yf:=(Ye.ext qD).an JR fun e=>(oa.bv _ e.2).2.2.1 rfl
   obtain ⟨s1,s2⟩:=j5 Yf (i:=2) (by simp)
   refine ⟨ir,rfl,?_⟩
   rw[aV,aV]
   refine ⟨s1,s2,bM ?_⟩
   obtain ⟨bY,yz⟩:∃bY,bY=cG.setCell ⟨aK,0+2,none⟩ (.slice ir.a ir.len ir.cap):=⟨_,rfl⟩
   rw[←yz]
   have pJ:ao (fun q=>q=aK) cG bY:=by rw[yz];exact iL _ _ _ _
   have Ad:Var bY aK [.bool n.leaf, .slice S.a S.len S.cap, .slice ir.a ir.len ir.cap, .slice aM.a aM.len aM.cap] ah.cF:=by rw[yz];exact j4 Yf _
   have JS:=pJ.size
   obtain ⟨JT,aA,aF,aJ⟩:=cj Ad
   rw[aV] at aA aF aJ
   have EL:b8 (fun q=>lo≤q) bY (o7 n key val) S ir aM:=by
     unfold o7
     rw[if_neg (by rw[dq];simp)]
     refine ⟨?_,?_,?_⟩
     · refine bU.bw (bW.qF (bW.an (bW.an (bW.ext ai5 qD) JR fun q J e=> ?_) pJ fun q J e=> ?_)) fun q _ J=> ?_
       · rcases J with J|J
         · exact (oa.bO q J).2.2.2.1 e.2
         · have:=(lk.bv q e.2).2.1;omega
       · subst e
         rcases J with J|J
         · exact (oa.bO _ J).2.2.1 rfl
         · omega
       · rcases J with J|J
         · exact (oa.bO q J).1
         · omega
     · refine bU.bw (bW.qF (bW.an z7 pJ fun q J e=> ?_)) fun q _ J=> ?_
       · subst e
         rcases J with (J|J)|J
         · exact (oa.bv _ J).2.2.1 rfl
         · omega
         · omega
       · rcases J with (J|J)|J
         · exact (oa.bv q J).1
         · omega
         · omega
     · exact eF.bw (eB.GS (eB.an (eB.an (eB.ext ai7 qD) JR fun q J e=>(oa.bv q e.2).2.2.2 J) pJ fun q J e=>(oa.a8 q J).2.2 e)) fun q _ J=>(oa.a8 q J).1
   have ai9:(o7 n key val).leaf=n.leaf:=by unfold o7;rw[if_neg (by rw[dq];simp)]
   have vb:Ext w bY:=Ext.gr (Ext.gr (wJ.trans qD) JR fun k ae=>by omega) pJ fun k ae=>by omega
   have JL:Var bY ag.heap.size [.bool false, .slice none 0 0, .slice none 0 0, .slice none 0 0] ah.cF:=by
     have U:=Yc.ext (lG.trans g3)
     have ad:=(U.an JQ (fun e=>by have:=e.1;omega)).an wI (by omega)
     exact ((ad.ext qD).an JR (fun e=>by have:=e.1;omega)).an pJ (by omega)
   rw[aV,aV]
   refine ⟨_,JT,S,aA,ir,aF,aM,aJ,?_⟩
   have:=rq n.leaf S ir aM JL rfl (Q:=fun b K V D aw=>EM (o7 n key val) w (.tuple #[.agg #[.bool b, .slice K.a K.len K.cap, .slice V.a V.len V.cap, .slice D.a D.len D.cap], .bool true]) aw) fun dy gf=>⟨S,ir,aM,by unfold e5;rw[ai9],(EL.an gf fun q J e=>by omega).bw fun q _ J=>by omega,Ext.e3 vb gf (by omega)⟩
   simpa only[aV] using this
end
section
def G3 (n:aL) (key:Key) (w:World) (v:Value) (w':World):Prop:=
 if o6 n.keys key then EM (yw n key) w v w' else v= .tuple #[e5 rp bX bX bX, .bool false]∧Ext w w'
theorem yA {B:Nat→Prop} {w:World} {n:aL} {K V D aH:aa} {key:Key} (h:b8 B w n K V D) (aj:oC n) (aD:n.keys.length≤10000) (ae:Src 1 w aH (bg key)):
   aQ Tryz.prog F.yA #[e5 n K V D, .slice aH.a aH.len aH.cap] w (G3 n key w):=by
 have jx:=aj.len
 have lD:n.kids.length=0:=by rw[aj.kids];rfl
 refine W.ai_ n.leaf K V D aH w _ ?_
 (delta W.yA dt bP ai aq dO GZ aE a_ G0 JN ji dL aC st fg JO;dsimp only)
 refine cp (vs:=[.bool n.leaf, .slice K.a K.len K.cap, .slice V.a V.len V.cap, .slice D.a D.len D.cap]) rfl fun ag gd bz kM=> ?_
 refine cp (vs:=[.bool false, .slice none 0 0, .slice none 0 0, .slice none 0 0]) rfl fun aw fK cv mo=> ?_
 have pF:=bz.trans cv
 obtain ⟨cA,bd,bc,a_⟩:=cj (gd.ext cv)
 refine ⟨_,cA,K,bd,V,bc,D,a_,(rv (h.ext pF) (ae.ext pF) aj.j0 (by omega)).use ?_⟩
 rintro _ aZ ⟨rfl,eO⟩
 have hL:=pF.trans eO
 obtain ⟨cA,bd,bc,a_⟩:=cj (gd.ext (cv.trans eO))
 refine ⟨_,_,rfl,n.leaf,cA,e4 (fun b w'=>b=false∧Ext aZ w') (fun q J=>⟨fun ab=> ?_,fun ab=>⟨_,cA,K,bd,V,bc,D,a_,(nG (h.ext hL) (by omega) (by omega) (by omega)).use ?_⟩⟩) ?_⟩
 · rw[aj.leaf] at ab;cases ab
 · rintro _ br ⟨b,rfl,g2,fo⟩
   have:=g2.2 (.inl aj)
   subst this
   exact ⟨true,rfl,J _ _ ⟨rfl,fo⟩⟩
 rintro _ br ⟨rfl,fo⟩
 have tK:=hL.trans fo
 have JU:=fo.size
 have EN:=eO.size
 have Yg:=fK.ext (eO.trans fo)
 refine ⟨fun ab=> ?_,fun ab=> ?_⟩
 · have ab:o6 n.keys key=false:=by simpa using ab
   refine rq false bX bX bX Yg rfl (Q:=fun b K V D aw=>G3 n key w (.tuple #[.agg #[.bool b, .slice K.a K.len K.cap, .slice V.a V.len V.cap, .slice D.a D.len D.cap], .bool false]) aw) fun bF lF=> ?_
   unfold G3
   rw[if_neg (by rw[ab];simp)]
   exact ⟨rfl,Ext.e3 tK lF (by omega)⟩
 have dq:o6 n.keys key=true:=by simpa using ab
 have a9:d_ n.keys key<n.keys.length:=(qs.1 (dU dq)).1
 obtain ⟨cA,bd,bc,a_⟩:=cj (gd.ext (cv.trans (eO.trans fo)))
 refine ⟨_,cA,K,bd,V,bc,D,a_,(fE (h.ext tK) (by omega) (by omega) (by omega) aj.iM.1 aj.iM.2).use ?_⟩
 rintro _ bF ⟨aP,bG,aM,cw,cN,cg,rfl,vc,kG⟩
 have qC:=tK.trans kG
 have NJ:=kG.size
 refine ⟨n.leaf,aP,bG,aM,rfl,cp (vs:=[.bool false, .slice none 0 0, .slice none 0 0, .slice none 0 0]) rfl fun a4 uU ko NG=>⟨uU.dr rfl ?_,rfl,ec uU (us:=[.bool n.leaf, .slice aP.a aP.len aP.cap, .slice bG.a bG.len bG.cap, .slice aM.a aM.len aM.cap]) rfl rfl fun a5 GP qI Yh=> ?_⟩⟩
 · intro v ak
   simp only[gp,mm,mn] at ak
   rcases ak with rfl|rfl|rfl|rfl<;>trivial
 obtain ⟨aK,e8⟩:∃aK,aK=bF.heap.size:=⟨_,rfl⟩
 rw[←e8] at GP qI⊢
 obtain ⟨lo,mq⟩:∃lo,lo=br.heap.size:=⟨_,rfl⟩
 rw[←mq] at vc
 have r9:Ext w a5:=Ext.e3 (qC.trans ko) qI (by omega)
 have RV:Var a5 ag.heap.size [.bool false, .slice none 0 0, .slice none 0 0, .slice none 0 0] ah.cF:=((Yg.ext kG).ext ko).an qI (by omega)
 have lI:pI lo a5 aK n aP bG aM cw cN cg:=by
   have sf:jM lo a5 n aP bG aM cw cN cg:=(vc.ext ko).an qI fun q _ _ J e=>by
     subst e
     rcases J with J|J|J
     · have:=(vc.bO _ J).2.1;omega
     · have:=(vc.bv _ J).2.1;omega
     · have:=(vc.a8 _ J).2;omega
   refine ⟨GP,sf.keys,sf.vals,sf.kids,fun q J=> ?_,fun q J=> ?_,fun q J=> ?_,by omega⟩
   · have U:=sf.bO q J;have:=(vc.bO q J).2.1;exact ⟨U.1,U.2.1,by omega,U.2.2⟩
   · have U:=sf.bv q J;have:=(vc.bv q J).2.1;exact ⟨U.1,U.2.1,by omega,U.2.2⟩
   · have U:=sf.a8 q J;have:=(vc.a8 q J).2;exact ⟨U.1,U.2,by omega⟩
 have kH:∀k,aR aP k→cw k:=fun k ae=>by obtain ⟨ts,_,_,ar,_⟩:=lI.keys;exact (ar k ae).1
 have wH:∀k,aR bG k→cN k:=fun k ae=>by obtain ⟨ts,_,_,ar,_⟩:=lI.vals;exact (ar k ae).1
 obtain ⟨d0,d1,d2,d3⟩:=cj lI.v
 have atF:=lI.v.lt
 rw[cE (n:=((d_ n.keys key:Nat):Int)+1) (by omega) (by omega)]
 refine ⟨aP,d1,(Yb lI.keys (by omega) a9).use ?_⟩
 rintro _ b9 ⟨S,rfl,o4,Ci⟩
 have JV:ao (fun q=>lo≤q∧cw q) a5 b9:=Ci.mono fun k _ ae=>⟨(lI.bO k (kH k ae)).1,kH k ae⟩
 have sP:=lI.v.an JV fun e=>(lI.bO _ e.2).2.2.1 rfl
 obtain ⟨s1,s2⟩:=j5 sP (i:=1) (by simp)
 refine ⟨S,rfl,?_⟩
 rw[aV,aV]
 refine ⟨s1,s2,bM ?_⟩
 obtain ⟨bR,G1⟩:∃bR,bR=b9.setCell ⟨aK,0+1,none⟩ (.slice S.a S.len S.cap):=⟨_,rfl⟩
 rw[←G1]
 have hM:ao (fun q=>q=aK) b9 bR:=by rw[G1];exact iL _ _ _ _
 have Yi:Var bR aK [.bool n.leaf, .slice S.a S.len S.cap, .slice bG.a bG.len bG.cap, .slice aM.a aM.len aM.cap] ah.cF:=by rw[G1];exact j4 sP _
 have aja:bW cw bR S (n.keys.take (d_ n.keys key)++n.keys.drop (d_ n.keys key+1)):=bW.an o4 hM fun q J e=>(lI.bO q J).2.2.1 e
 have ajb:bW cN bR bG n.vals:=bW.an (bW.an lI.vals JV fun q J e=>(lI.bO q e.2).2.2.2.1 J) hM fun q J e=>(lI.bv q J).2.2.1 e
 have ajc:eB cg bR aM n.kids:=eB.an (eB.an lI.kids JV fun q J e=>(lI.bO q e.2).2.2.2.2 J) hM fun q J e=>(lI.a8 q J).2.2 e
 obtain ⟨f0,f1,f2,f3⟩:=cj Yi
 rw[aV] at f2
 refine ⟨bG,f2,(Yb ajb (by omega) (by omega)).use ?_⟩
 rintro _ bV ⟨ir,rfl,z7,wI⟩
 have JW:ao (fun q=>lo≤q∧cN q) bR bV:=wI.mono fun k _ ae=>⟨(lI.bv k (wH k ae)).1,wH k ae⟩
 have JX:=Yi.an JW fun e=>(lI.bv _ e.2).2.2.1 rfl
 obtain ⟨s1,s2⟩:=j5 JX (i:=2) (by simp)
 refine ⟨ir,rfl,?_⟩
 rw[aV,aV]
 refine ⟨s1,s2,bM ?_⟩
 obtain ⟨cq,JY⟩:∃cq,cq=bV.setCell ⟨aK,0+2,none⟩ (.slice ir.a ir.len ir.cap):=⟨_,rfl⟩
 rw[←JY]
 have JZ:ao (fun q=>q=aK) bV cq:=by rw[JY];exact iL _ _ _ _
 have ajd:Var cq aK [.bool n.leaf, .slice S.a S.len S.cap, .slice ir.a ir.len ir.cap, .slice aM.a aM.len aM.cap] ah.cF:=by rw[JY];exact j4 JX _
 obtain ⟨JT,aA,aF,aJ⟩:=cj ajd
 have iE:b8 (fun q=>lo≤q) cq (yw n key) S ir aM:=by
   refine ⟨?_,?_,?_⟩
   · exact bU.bw (bW.qF (bW.an (bW.an aja JW fun q J e=>(lI.bO q J).2.2.2.1 e.2) JZ fun q J e=>(lI.bO q J).2.2.1 e)) fun q _ J=>(lI.bO q J).1
   · exact bU.bw (bW.qF (bW.an z7 JZ fun q J e=>(lI.bv q J).2.2.1 e)) fun q _ J=>(lI.bv q J).1
   · exact eF.bw (eB.GS (eB.an (eB.an ajc JW fun q J e=>(lI.bv q e.2).2.2.2 J) JZ fun q J e=>(lI.a8 q J).2.2 e)) fun q _ J=>(lI.a8 q J).1
 have vd:Ext w cq:=Ext.gr (Ext.gr (Ext.gr (Ext.gr r9 JV fun k ae=>by omega) hM fun k ae=>by omega) JW fun k ae=>by omega) JZ fun k ae=>by omega
 have aje:Var cq ag.heap.size [.bool false, .slice none 0 0, .slice none 0 0, .slice none 0 0] ah.cF:=
   (((RV.an JV (fun e=>by have:=e.1;omega)).an hM (by omega)).an JW (fun e=>by have:=e.1;omega)).an JZ (by omega)
 refine ⟨_,JT,S,aA,ir,aF,aM,aJ,rq n.leaf S ir aM aje rfl (Q:=fun b K V D aw=>G3 n key w (.tuple #[.agg #[.bool b, .slice K.a K.len K.cap, .slice V.a V.len V.cap, .slice D.a D.len D.cap], .bool true]) aw) fun cG yy=> ?_⟩
 unfold G3
 rw[if_pos dq]
 exact ⟨S,ir,aM,rfl,(iE.an yy fun q J e=>by omega).bw fun q _ J=>by omega,Ext.e3 vd yy (by omega)⟩
theorem RW {n:aL} (aj:dX n) (m:Nat):((cellsOf n).take m).sum≤100*n.keys.length:=by
 have U:((cellsOf n).take m).sum≤(cellsOf n).sum:=by
   have:=QV (cellsOf n) m;omega
 have ad:=Rb aj n.keys.length (cP _)
 rw[gX (by rw[GN aj];exact cP _)] at ad
 have ar:=Rw aj n.keys.length (cP _)
 omega
theorem sT {B:Nat→Prop} {w:World} {n:aL} {K V D:aa} (h:b8 B w n K V D) (aj:dX n) (aD:n.keys.length≤10000) {most:Nat} (hm:most≤n.keys.length):
   aQ Tryz.prog F.sT #[e5 n K V D, .int .i64 ((most:Nat):Int)] w (fun v w'=>v= .int .i64 ((mP (cellsOf n) most:Nat):Int)∧Ext w w'):=by
 refine W.ajf n.leaf K V D ((most:Nat):Int) w _ ?_
 (delta W.sT aq ai aE bP dL aC;dsimp only)
 refine cp (vs:=[.bool n.leaf, .slice K.a K.len K.cap, .slice V.a V.len V.cap, .slice D.a D.len D.cap]) rfl fun ag lj bz _=> ?_
 obtain ⟨cA,bd,bc,a_⟩:=cj lj
 have Cg:=bU.len h.keys
 have BW:=GN aj
 have k1:∀ (j:Nat) (a6:j<(cellsOf n).length),(cellsOf n)[j]=(n8 n j).length:=fun j a6=>by
   have U:=Ra aj (i:=j) (by omega)
   rw[g8 a6] at U
   exact Option.some.inj U
 refine ⟨K,bd,fun a i w'=>∃j:Nat,i=j∧j≤n.keys.length∧a=((((cellsOf n).take j).sum:Nat):Int)∧Ext ag w',fun _ i _=>((n.keys.length:Int)-i).toNat,⟨0,rfl,fx _,by simp, .refl _ _⟩,?_⟩
 rintro _ _ aw ⟨j,rfl,a6,rfl,cv⟩
 obtain ⟨d0,d1,d2,d3⟩:=cj (lj.ext cv)
 refine ⟨fun a9=> ?_,fun cm=> ?_⟩
 · have a9:j<n.keys.length:=by have:=dU a9;omega
   refine ⟨_,d0,K,d1,V,d2,D,d3,(sQ (h.ext (bz.trans cv)) aj a9 (by omega)).use ?_⟩
   rintro _ aZ ⟨s,rfl,bJ,eO,_⟩
   have az:=zV bJ
   have ab:=RW aj j
   have al:=Nl aj a9
   have e:=Gz (l:=cellsOf n) (i:=j) (by omega)
   rw[k1 j (by omega)] at e
   refine ⟨s,rfl,?_⟩
   rw[az,cE (n:=((((cellsOf n).take j).sum:Nat):Int)+(((n8 n j).length:Nat):Int)) (by omega) (by omega),cE (n:=(j:Int)+1) (by omega) (by omega)]
   refine ⟨⟨j+1,by omega,by omega,by omega,cv.trans eO⟩,?_⟩
   show ((n.keys.length:Int)-((j:Int)+1)).toNat<((n.keys.length:Int)-(j:Int)).toNat
   omega
 have cm:j=n.keys.length:=by have:=ff cm;omega
 subst cm
 rw[gX (l:=cellsOf n) (by omega)]
 refine ⟨fun a i w'=>∃j:Nat,i=j∧j≤most∧a=((((cellsOf n).take j).sum:Nat):Int)∧Ext ag w'∧∀k,k<j→2*((cellsOf n).take (k+1)).sum<(cellsOf n).sum,fun _ i _=>((most:Int)-i).toNat,⟨0,rfl,fx _,by simp,cv,fun k ae=>by omega⟩,?_⟩
 rintro _ _ br ⟨j,rfl,a6,rfl,fo,dg⟩
 obtain ⟨d0,d1,d2,d3⟩:=cj (lj.ext fo)
 have gJ:=RW aj (cellsOf n).length
 rw[tD] at gJ
 refine ⟨fun a9=> ?_,fun cm=> ?_⟩
 · have a9:j<most:=by have:=dU a9;omega
   refine ⟨_,d0,K,d1,V,d2,D,d3,(sQ (h.ext (bz.trans fo)) aj (by omega) (by omega)).use ?_⟩
   rintro _ bF ⟨s,rfl,bJ,kG,_⟩
   have az:=zV bJ
   have ab:=RW aj j
   have al:=Nl aj (i:=j) (by omega)
   have e:=Gz (l:=cellsOf n) (i:=j) (by omega)
   rw[k1 j (by omega)] at e
   refine ⟨s,rfl,?_⟩
   rw[az,cE (n:=((((cellsOf n).take j).sum:Nat):Int)+(((n8 n j).length:Nat):Int)) (by omega) (by omega),cE (n:=2*(((((cellsOf n).take j).sum:Nat):Int)+(((n8 n j).length:Nat):Int))) (by omega) (by omega),cE (n:=(j:Int)+1) (by omega) (by omega)]
   refine ⟨fun hd=>⟨?_,bz.trans (fo.trans kG)⟩,fun hd=>⟨⟨j+1,by omega,by omega,by omega,fo.trans kG,fun k ae=> ?_⟩,?_⟩⟩
   · have hd:=dU hd
     have yB:(List.range most).find? (fun i=>decide ((cellsOf n).sum≤2*((cellsOf n).take (i+1)).sum))=some j:=by
       have:=lg a9 (cP most)
       rw[List.find?_eq_some_iff_append]
       refine ⟨il (by omega),List.range j,List.range' (j+1) (most-(j+1)),?_,fun a aS=> ?_⟩
       · have aY:=List.range'_append (s:=0) (m:=j) (n:=most-(j+1)+1) (step:=1)
         rw[MN,MN,←List.range'_succ]
         rw[Nat.one_mul,gR] at aY
         rw[aY]
         congr 1
         omega
       · have:=dg a (v7.1 aS)
         simp;omega
     unfold mP
     rw[yB];rfl
   · have hd:=ff hd
     rcases hE k j with U|U
     · exact dg k U
     · have:k=j:=by omega
       subst this;omega
   · show ((most:Int)-((j:Int)+1)).toNat<((most:Int)-(j:Int)).toNat
     omega
 · have cm:j=most:=by have:=ff cm;omega
   subst cm
   refine ⟨?_,bz.trans fo⟩
   have yB:(List.range j).find? (fun i=>decide ((cellsOf n).sum≤2*((cellsOf n).take (i+1)).sum))=none:=by
     rw[r2]
     intro a aS
     have:=dg a (v7.1 aS)
     simp;omega
   unfold mP
   rw[yB]
end
section
theorem bU.sub {B:Nat→Prop} {w:World} {s:aa} {ls:List Key} {lo hi:Nat} (h:bU B w s ls) (U:lo≤hi) (ad:hi≤ls.length):bU B w ⟨a3 s.a 1 lo s.cap,hi-lo,s.cap-lo⟩ ((ls.drop lo).take (hi-lo)):=by
 have az:=bU.len h
 obtain ⟨ts,aA,aF,aJ,aO,cS⟩:=h
 refine ⟨(ts.drop lo).take (hi-lo),by simp[aA],?_,by show hi-lo≤s.cap-lo;omega,fun k ae=> ?_,fun i ar aI=> ?_⟩
 · have:=Src.sub aF aJ U (by omega)
   simpa[Gk,Ee] using this
 · obtain ⟨A,ax,ab⟩:=Nm ae
   exact aO k ⟨A,ax,ab⟩
 · simp only[Gm,Jb]
   rw[dV,fw] at ar aI
   exact cS (lo+i) (by omega) (by omega)
theorem bU.le {B:Nat→Prop} {w:World} {s:aa} {ls:List Key} (h:bU B w s ls):s.len≤s.cap:=by
 obtain ⟨ts,_,_,ar,_⟩:=h
 exact ar
theorem eF.sub {B:Nat→Prop} {w:World} {s:aa} {ds:List Nat} {lo hi:Nat} (h:eF B w s ds) (U:lo≤hi) (ad:hi≤ds.length):eF B w ⟨a3 s.a 1 lo s.cap,hi-lo,s.cap-lo⟩ ((ds.drop lo).take (hi-lo)):=by
 have az:=eF.len h
 obtain ⟨aF,aJ,aO⟩:=h
 have atG:s.len≤s.cap:=aJ
 refine ⟨?_,by show hi-lo≤s.cap-lo;omega,fun k ae=> ?_⟩
 · have:=Src.sub aF aJ U (by omega)
   simpa[l6,Gk,Ee] using this
 · obtain ⟨A,ax,ab⟩:=Nm ae
   exact aO k ⟨A,ax,ab⟩
theorem ln (b:Bool) (K V D:aa):∀v∈([.bool b, .slice K.a K.len K.cap, .slice V.a V.len V.cap, .slice D.a D.len D.cap]:List Value),Plain v:=by
 intro v ak
 simp only[gp,mm,mn] at ak
 rcases ak with rfl|rfl|rfl|rfl<;>trivial
theorem G4 {nj:World} {aq bA:Nat} {RX Yj:List Value} {cX cy:Bool} {dJ ef eg cV c2 dh:aa} (U:Var nj aq RX ah.cF) (ad:Var nj bA Yj ah.cF) (qK:RX.length=4) (qL:Yj.length=4) (en:aq≠bA) {W:Nat→Prop} (dK:∀q,q=aq→W q)
   {Q:Bool→aa→aa→aa→Bool→aa→aa→aa→World→Prop} (yl:∀jz,ao (fun q=>q=aq∨q=bA) nj jz→Q cX dJ ef eg cy cV c2 dh jz):
   cM nj ⟨aq,0,none⟩ [.bool cX, .slice dJ.a dJ.len dJ.cap, .slice ef.a ef.len ef.cap, .slice eg.a eg.len eg.cap]∧(4:Nat)=4∧ay (setCells nj ⟨aq,0,none⟩ 0 [.bool cX, .slice dJ.a dJ.len dJ.cap, .slice ef.a ef.len ef.cap, .slice eg.a eg.len eg.cap]) fun j6=>
     ao W nj j6∧cM j6 ⟨bA,0,none⟩ [.bool cy, .slice cV.a cV.len cV.cap, .slice c2.a c2.len c2.cap, .slice dh.a dh.len dh.cap]∧(4:Nat)=4∧ay (setCells j6 ⟨bA,0,none⟩ 0 [.bool cy, .slice cV.a cV.len cV.cap, .slice c2.a c2.len c2.cap, .slice dh.a dh.len dh.cap]) fun jz=>
     ∃NK:Bool,jz.cell? ⟨aq,0,none⟩=some (.bool NK)∧∃qa:aa,jz.cell? (Addr.add ⟨aq,0,none⟩ 1)=some (.slice qa.a qa.len qa.cap)∧∃kq:aa,jz.cell? (Addr.add ⟨aq,0,none⟩ 2)=some (.slice kq.a kq.len kq.cap)∧∃pK:aa,jz.cell? (Addr.add ⟨aq,0,none⟩ 3)=some (.slice pK.a pK.len pK.cap)∧
     ∃qM:Bool,jz.cell? ⟨bA,0,none⟩=some (.bool qM)∧∃iN:aa,jz.cell? (Addr.add ⟨bA,0,none⟩ 1)=some (.slice iN.a iN.len iN.cap)∧∃gT:aa,jz.cell? (Addr.add ⟨bA,0,none⟩ 2)=some (.slice gT.a gT.len gT.cap)∧∃gU:aa,jz.cell? (Addr.add ⟨bA,0,none⟩ 3)=some (.slice gU.a gU.len gU.cap)∧Q NK qa kq pK qM iN gT gU jz:=by
 refine ⟨U.dr (by rw[qK];rfl) (ln _ _ _ _),rfl,ec U (us:=[.bool cX, .slice dJ.a dJ.len dJ.cap, .slice ef.a ef.len ef.cap, .slice eg.a eg.len eg.cap]) (by rw[qK];rfl) rfl fun j6 lj iZ _=> ?_⟩
 have EO:=ad.an iZ (fun e=>en e.symm)
 refine ⟨iZ.mono fun q _ h=>dK q h,EO.dr (by rw[qL];rfl) (ln _ _ _ _),rfl,ec EO (us:=[.bool cy, .slice cV.a cV.len cV.cap, .slice c2.a c2.len c2.cap, .slice dh.a dh.len dh.cap]) (by rw[qL];rfl) rfl fun jz g1 dS _=> ?_⟩
 obtain ⟨cA,bd,bc,a_⟩:=cj (lj.an dS en)
 obtain ⟨d0,d1,d2,d3⟩:=cj g1
 exact ⟨cX,cA,dJ,bd,ef,bc,eg,a_,cy,d0,cV,d1,c2,d2,dh,d3,yl jz ((iZ.mono fun q _ h=> .inl h).trans (dS.mono fun q _ h=> .inr h))⟩
def EP (n:aL) (w:World) (v:Value) (w':World):Prop:=
 ∃ (dJ ef eg cV c2 dh t:aa),v= .tuple #[e5 (n.left (da n)) dJ ef eg, .slice t.a t.len t.cap,e5 (n.right (da n)) cV c2 dh, .bool true]∧
   b8 (fun q=>w.heap.size≤q) w' (n.left (da n)) dJ ef eg∧b8 (fun q=>w.heap.size≤q) w' (n.right (da n)) cV c2 dh∧bD (fun q=>w.heap.size≤q) w' t (n.keys.getD (da n) [])∧Ext w w'
theorem yC {B:Nat→Prop} {w:World} {n:aL} {K V D:aa} (h:b8 B w n K V D) (aj:dX n) (aD:n.keys.length≤10000) (hG:1≤da n)
   (gZ:if n.leaf then da n≤n.keys.length-1∧1≤n.keys.length-1 else da n≤n.keys.length-2∧1≤n.keys.length-2):
   aQ Tryz.prog F.yC #[e5 n K V D] w (EP n w):=by
 have jx:n.vals.length≤10000:=by
   rcases aj with aj|aj
   · rw[aj.len];omega
   · rw[aj.vals];simp
 have lD:n.kids.length≤10001:=by
   rcases aj with aj|aj
   · rw[aj.kids];simp
   · rw[aj.len];omega
 have fm:∀k∈n.keys,k.length≤100000:=fun k ae=>by have:=(aj.keys.ok k ae).2;omega
 have Cq:∀k∈n.vals,k.length≤100000:=fun k ae=>by have:=aj.vals k ae;omega
 have Cg:=bU.len h.keys
 obtain ⟨most,Cr⟩:∃most,most=if n.leaf then n.keys.length-1 else n.keys.length-2:=⟨_,rfl⟩
 have iu:1≤most∧most≤n.keys.length∧da n≤most:=by
   rw[Cr]
   cases az:n.leaf<;>rw[az] at gZ<;>simp at gZ⊢<;>omega
 have ve:da n<n.keys.length:=by
   cases az:n.leaf<;>rw[az] at gZ<;>simp at gZ<;>omega
 refine W.ajg n.leaf K V D w _ ?_
 (delta W.yC dt aq ai bP aE aC a_ ji bc a8 dL Cs;dsimp only)
 refine cp (vs:=[.bool n.leaf, .slice K.a K.len K.cap, .slice V.a V.len V.cap, .slice D.a D.len D.cap]) rfl fun ag gd bz nf=> ?_
 refine cp (vs:=[.bool false, .slice none 0 0, .slice none 0 0, .slice none 0 0]) rfl fun aw k3 cv uT=> ?_
 refine cp (vs:=[.bool false, .slice none 0 0, .slice none 0 0, .slice none 0 0]) rfl fun aZ fK eO EN=> ?_
 have hL:=bz.trans (cv.trans eO)
 obtain ⟨cA,bd,bc,a_⟩:=cj ((gd.ext cv).ext eO)
 refine ⟨K,bd,e4 (fun m w'=>m=((most:Nat):Int)∧aZ=w') (fun q J=>⟨n.leaf,cA,fun ab=>J _ _ ⟨?_,rfl⟩,fun ab=>J _ _ ⟨?_,rfl⟩⟩) ?_⟩
 · have ab:n.leaf=false:=by simpa using ab
   rw[ab] at gZ Cr
   simp at gZ Cr
   rw[cE (n:=((K.len:Nat):Int)-1) (by omega) (by omega),cE (by omega) (by omega)]
   omega
 · have ab:n.leaf=true:=by simpa using ab
   rw[ab] at gZ Cr
   simp at gZ Cr
   rw[cE (by omega) (by omega)]
   omega
 rintro _ _ ⟨rfl,rfl⟩
 refine ⟨_,cA,K,bd,V,bc,D,a_,(nG (h.ext hL) (by omega) (by omega) (by omega)).use ?_⟩
 rintro _ br ⟨b,rfl,ab,fo⟩
 have Rx:=ab.2 aj
 subst Rx
 have bx:=eE br
 have qC:=hL.trans (fo.trans bx)
 have G5:=((gd.ext cv).ext eO).ext (fo.trans bx)
 have RY:=(k3.ext eO).ext (fo.trans bx)
 have RZ:=fK.ext (fo.trans bx)
 have NJ:=(fo.trans bx).size
 obtain ⟨cA,bd,bc,a_⟩:=cj G5
 refine ⟨true,rfl,fun h=> ?_,fun _=>bM ⟨fun _=>False,id,_,cA,K,bd,V,bc,D,a_,id,_,cA,K,bd,V,bc,D,a_,⟨?_,?_⟩⟩⟩
 · simp only[Bool.not_true,Gs] at h
   have:=dU h;omega
 · refine (fE (h.ext qC) (by omega) (by omega) (by omega) fm Cq).use ?_
   rintro _ a4 ⟨aP,bG,aM,cw,cN,cg,rfl,lk,ko⟩
   refine ⟨n.leaf,aP,bG,aM,rfl,ko,⟨?_,?_⟩⟩
   · refine (sT (h.ext (qC.trans ko)) aj aD (most:=most) iu.2.1).use ?_
     rintro _ a5 ⟨rfl,eN⟩
     refine ⟨_,rfl,eN,cp (vs:=[.bool false, .slice none 0 0, .slice none 0 0, .slice none 0 0]) rfl fun b9 sP g3 EI=>⟨g3,sP.dr rfl (ln _ _ _ _),rfl,ec sP (us:=[.bool n.leaf, .slice aP.a aP.len aP.cap, .slice bG.a bG.len bG.cap, .slice aM.a aM.len aM.cap]) rfl rfl fun bR oG hM G2=> ?_⟩⟩
     have NH:=ko.size
     have Co:=eN.size
     obtain ⟨aK,e8⟩:∃aK,aK=a5.heap.size:=⟨_,rfl⟩
     rw[←e8] at oG hM⊢
     have sU:=ko.trans (eN.trans g3)
     have wK:jM br.heap.size bR n aP bG aM cw cN cg:=(lk.ext (eN.trans g3)).an hM fun q _ _ J e=>by
       subst e
       rcases J with J|J|J
       · have:=(lk.bO _ J).2.1;omega
       · have:=(lk.bv _ J).2.1;omega
       · have:=(lk.a8 _ J).2;omega
     have Yk:br.drew.heap.size=br.heap.size:=rfl
     have sV:Ext w bR:=Ext.e3 (qC.trans sU) hM (by omega)
     have Ct:=(G5.ext sU).an hM (by omega)
     have Cu:=(RY.ext sU).an hM (by omega)
     have Cv:=(RZ.ext sU).an hM (by omega)
     have J0:mP (cellsOf n) most=da n:=by unfold da;rw[Cr]
     rw[J0]
     obtain ⟨i,hi⟩:∃i,i=da n:=⟨_,rfl⟩
     rw[←hi] at ve iu hG
     rw[←hi]
     obtain ⟨gK,aY,bm,dM⟩:=cj Ct
     obtain ⟨A,t,ax,g2,al,aN,_⟩:=bU.at (h.ext sV).keys ve
     refine ⟨K,aY,A,ax,g2,t,al,(uX (B:=fun q=>w.heap.size≤q) aN.1 (by have:=fm _ (fv ve);omega) (fun q J=>iT sV.size J)).use ?_⟩
     rintro _ bV ⟨aH,rfl,mS,j3,Cw⟩
     have lG:=eE bV
     obtain ⟨gK,aY,bm,dM⟩:=cj (Ct.ext j3)
     have kI:=j3.trans lG
     obtain ⟨f0,f1,f2,f3⟩:=cj (oG.ext kI)
     have iE:=wK.at.ext kI
     have Yl:=bU.len iE.keys
     have G6:=bU.len iE.vals
     have Ym:=eF.len iE.kids
     have Yn:=bU.le (bW.qF wK.keys)
     have Yo:=bU.le (bW.qF wK.vals)
     have Yp:aM.len≤aM.cap:=iE.kids.2.1
     have Yq:bR.heap.size≤bV.heap.size:=j3.size
     have vf:n.keys.getD i []=n.keys[i]:=n_ ve
     refine ⟨aH,rfl,n.leaf,gK,fun az=>bM ⟨fun q=>q=ag.heap.size,fun e=> ?_,aP,f1,⟨by omega,by omega⟩,fun e=> ?_,bG,f2,⟨by omega,?_⟩, #[.bool true, .slice (a3 aP.a 1 0 aP.cap) i aP.cap, .slice (a3 bG.a 1 0 bG.cap) i bG.cap, .slice none 0 0],(fun w=>by kernel_rfl),fun e=> ?_,aP,f1,⟨by omega,by omega⟩,fun e=> ?_,bG,f2,⟨by omega,?_⟩, #[.bool true, .slice (a3 aP.a 1 i aP.cap) (aP.len-i) (aP.cap-i), .slice (a3 bG.a 1 i bG.cap) (bG.len-i) (bG.cap-i), .slice none 0 0],(fun w=>by kernel_rfl),?_⟩,fun az=> ?_⟩
     · rw[aV] at e;have e:aK=ag.heap.size:=e;omega
     · rw[aV] at e;have e:aK=ag.heap.size:=e;omega
     · have:=aj.wm az;omega
     · rw[aV] at e;have e:aK=ag.heap.size:=e;omega
     · rw[aV] at e;have e:aK=ag.heap.size:=e;omega
     · have:=aj.wm az;omega
     · have J1:=aj.wm az
       have dn:n.left i=⟨true,n.keys.take i,n.vals.take i,[]⟩:=by unfold aL.left;rw[az];rfl
       have cU:n.right i=⟨true,n.keys.drop i,n.vals.drop i,[]⟩:=by unfold aL.right;rw[az];rfl
       have wL:b8 (fun q=>br.heap.size≤q) bV.drew (n.left i) ⟨a3 aP.a 1 0 aP.cap,i,aP.cap⟩ ⟨a3 bG.a 1 0 bG.cap,i,bG.cap⟩ bX:=by
         rw[dn]
         refine ⟨?_,?_,eF.none _ _⟩
         · have:=bU.sub iE.keys (lo:=0) (hi:=i) (by omega) (by omega)
           simpa using this
         · have:=bU.sub iE.vals (lo:=0) (hi:=i) (by omega) (by omega)
           simpa using this
       have wM:b8 (fun q=>br.heap.size≤q) bV.drew (n.right i) ⟨a3 aP.a 1 i aP.cap,aP.len-i,aP.cap-i⟩ ⟨a3 bG.a 1 i bG.cap,bG.len-i,bG.cap-i⟩ bX:=by
         rw[cU]
         refine ⟨?_,?_,eF.none _ _⟩
         · have:=bU.sub iE.keys (lo:=i) (hi:=aP.len) (by omega) (by omega)
           rwa[gX (by rw[fw];omega)] at this
         · have:=bU.sub iE.vals (lo:=i) (hi:=bG.len) (by omega) (by omega)
           rwa[gX (by rw[fw];omega)] at this
       have wN:=fE wL (by rw[dn];show (n.keys.take i).length≤_;rw[dV];omega) (by rw[dn];show (n.vals.take i).length≤_;rw[dV];omega) (by rw[dn];simp) (by rw[dn];exact fun k ae=>fm k (kA ae)) (by rw[dn];exact fun k ae=>Cq k (kA ae))
       have wO:(.agg #[.bool true, .slice (a3 aP.a 1 0 aP.cap) i aP.cap, .slice (a3 bG.a 1 0 bG.cap) i bG.cap, .slice none 0 0]:Value)=e5 (n.left i) ⟨a3 aP.a 1 0 aP.cap,i,aP.cap⟩ ⟨a3 bG.a 1 0 bG.cap,i,bG.cap⟩ bX:=by rw[dn];rfl
       have wP:(.agg #[.bool true, .slice (a3 aP.a 1 i aP.cap) (aP.len-i) (aP.cap-i), .slice (a3 bG.a 1 i bG.cap) (bG.len-i) (bG.cap-i), .slice none 0 0]:Value)=e5 (n.right i) ⟨a3 aP.a 1 i aP.cap,aP.len-i,aP.cap-i⟩ ⟨a3 bG.a 1 i bG.cap,bG.len-i,bG.cap-i⟩ bX:=by rw[cU];rfl
       rw[wO,wP]
       refine wN.use ?_
       rintro _ cG ⟨dJ,ef,eg,Ai,J2,J3,rfl,wQ,hN⟩
       have wR:=fE (wM.ext hN) (by rw[cU];show (n.keys.drop i).length≤_;rw[fw];omega) (by rw[cU];show (n.vals.drop i).length≤_;rw[fw];omega) (by rw[cU];simp) (by rw[cU];exact fun k ae=>fm k (kk ae)) (by rw[cU];exact fun k ae=>Cq k (kk ae))
       refine ⟨_,dJ,ef,eg,rfl,ao.eK hN,wR.use ?_⟩
       rintro _ bY ⟨cV,c2,dh,sS,Ah,J4,rfl,wS,jA⟩
       have lp:=hN.trans jA
       have tT:=hN.size
       have J5:=kI.size
       refine ⟨_,cV,c2,dh,rfl,ao.eK jA,G4 (cX:=(n.left i).leaf) (cy:=(n.right i).leaf) (dJ:=dJ) (ef:=ef) (eg:=eg) (cV:=cV) (c2:=c2) (dh:=dh) ((Cu.ext kI).ext lp) ((Cv.ext kI).ext lp) rfl rfl (by omega) (fun q J=>J) (Q:=fun cX dJ ef eg cy cV c2 dh w'=>EP n w (.tuple #[.agg #[.bool cX, .slice dJ.a dJ.len dJ.cap, .slice ef.a ef.len ef.cap, .slice eg.a eg.len eg.cap], .slice aH.a aH.len aH.cap, .agg #[.bool cy, .slice cV.a cV.len cV.cap, .slice c2.a c2.len c2.cap, .slice dh.a dh.len dh.cap], .bool true]) w') fun dy gf=> ?_⟩
       have wT:bV.drew.heap.size=bV.heap.size:=rfl
       refine ⟨dJ,ef,eg,cV,c2,dh,aH,by rw[←hi];rfl,?_,?_,?_,?_⟩
       · rw[←hi];exact ((wQ.at.ext jA).an gf fun q J e=>by omega).bw fun q _ J=>by omega
       · rw[←hi];exact (wS.at.an gf fun q J e=>by omega).bw fun q _ J=>by omega
       · rw[←hi,vf]
         have gC:∀q,aR aH q→bR.heap.size≤q:=Cw
         exact bD.rn (bD.ext (bD.ext mS lG) lp) gf fun q J e=>by have:=gC q J;omega
       · exact Ext.gr (sV.trans (kI.trans lp)) gf fun q J=>by omega
     · have J1:=aj.GV az
       have Yr:i≤n.keys.length-2∧1≤n.keys.length-2:=by rw[az,←hi] at gZ;simpa using gZ
       have J6:IntKind.wrap .i64 ((i:Int)+1)=((i+1:Nat):Int):=by rw[cE (by omega) (by omega)];rfl
       rw[J6]
       refine bM ⟨fun q=>q=ag.heap.size,fun e=> ?_,aP,f1,⟨by omega,by omega⟩,fun e=> ?_,aM,f3,⟨by omega,by omega⟩, #[.bool false, .slice (a3 aP.a 1 0 aP.cap) i aP.cap, .slice none 0 0, .slice (a3 aM.a 1 0 aM.cap) (i+1) aM.cap],(fun w=>by kernel_rfl),fun e=> ?_,aP,f1,⟨by omega,by omega⟩,fun e=> ?_,aM,f3,⟨by omega,by omega⟩, #[.bool false, .slice (a3 aP.a 1 (i+1) aP.cap) (aP.len-(i+1)) (aP.cap-(i+1)), .slice none 0 0, .slice (a3 aM.a 1 (i+1) aM.cap) (aM.len-(i+1)) (aM.cap-(i+1))],(fun w=>by kernel_rfl),?_⟩
       · rw[aV] at e;have e:aK=ag.heap.size:=e;omega
       · rw[aV] at e;have e:aK=ag.heap.size:=e;omega
       · rw[aV] at e;have e:aK=ag.heap.size:=e;omega
       · rw[aV] at e;have e:aK=ag.heap.size:=e;omega
       have dn:n.left i=⟨false,n.keys.take i,[],n.kids.take (i+1)⟩:=by unfold aL.left;rw[az];rfl
       have cU:n.right i=⟨false,n.keys.drop (i+1),[],n.kids.drop (i+1)⟩:=by unfold aL.right;rw[az];rfl
       have wL:b8 (fun q=>br.heap.size≤q) bV.drew (n.left i) ⟨a3 aP.a 1 0 aP.cap,i,aP.cap⟩ bX ⟨a3 aM.a 1 0 aM.cap,i+1,aM.cap⟩:=by
         rw[dn]
         refine ⟨?_,bU.none _ _,?_⟩
         · have:=bU.sub iE.keys (lo:=0) (hi:=i) (by omega) (by omega)
           simpa using this
         · have:=eF.sub iE.kids (lo:=0) (hi:=i+1) (by omega) (by omega)
           simpa using this
       have wM:b8 (fun q=>br.heap.size≤q) bV.drew (n.right i) ⟨a3 aP.a 1 (i+1) aP.cap,aP.len-(i+1),aP.cap-(i+1)⟩ bX ⟨a3 aM.a 1 (i+1) aM.cap,aM.len-(i+1),aM.cap-(i+1)⟩:=by
         rw[cU]
         refine ⟨?_,bU.none _ _,?_⟩
         · have:=bU.sub iE.keys (lo:=i+1) (hi:=aP.len) (by omega) (by omega)
           rwa[gX (by rw[fw];omega)] at this
         · have:=eF.sub iE.kids (lo:=i+1) (hi:=aM.len) (by omega) (by omega)
           rwa[gX (by rw[fw];omega)] at this
       have wN:=fE wL (by rw[dn];show (n.keys.take i).length≤_;rw[dV];omega) (by rw[dn];simp) (by rw[dn];show (n.kids.take (i+1)).length≤_;rw[dV];omega) (by rw[dn];exact fun k ae=>fm k (kA ae)) (by rw[dn];simp)
       have wO:(.agg #[.bool false, .slice (a3 aP.a 1 0 aP.cap) i aP.cap, .slice none 0 0, .slice (a3 aM.a 1 0 aM.cap) (i+1) aM.cap]:Value)=e5 (n.left i) ⟨a3 aP.a 1 0 aP.cap,i,aP.cap⟩ bX ⟨a3 aM.a 1 0 aM.cap,i+1,aM.cap⟩:=by rw[dn];rfl
       have wP:(.agg #[.bool false, .slice (a3 aP.a 1 (i+1) aP.cap) (aP.len-(i+1)) (aP.cap-(i+1)), .slice none 0 0, .slice (a3 aM.a 1 (i+1) aM.cap) (aM.len-(i+1)) (aM.cap-(i+1))]:Value)=e5 (n.right i) ⟨a3 aP.a 1 (i+1) aP.cap,aP.len-(i+1),aP.cap-(i+1)⟩ bX ⟨a3 aM.a 1 (i+1) aM.cap,aM.len-(i+1),aM.cap-(i+1)⟩:=by rw[cU];rfl
       rw[wO,wP]
       refine wN.use ?_
       rintro _ cG ⟨dJ,ef,eg,Ai,J2,J3,rfl,wQ,hN⟩
       have wR:=fE (wM.ext hN) (by rw[cU];show (n.keys.drop (i+1)).length≤_;rw[fw];omega) (by rw[cU];simp) (by rw[cU];show (n.kids.drop (i+1)).length≤_;rw[fw];omega) (by rw[cU];exact fun k ae=>fm k (kk ae)) (by rw[cU];simp)
       refine ⟨_,dJ,ef,eg,rfl,ao.eK hN,wR.use ?_⟩
       rintro _ bY ⟨cV,c2,dh,sS,Ah,J4,rfl,wS,jA⟩
       have lp:=hN.trans jA
       have tT:=hN.size
       have J5:=kI.size
       refine ⟨_,cV,c2,dh,rfl,ao.eK jA,G4 (cX:=(n.left i).leaf) (cy:=(n.right i).leaf) (dJ:=dJ) (ef:=ef) (eg:=eg) (cV:=cV) (c2:=c2) (dh:=dh) ((Cu.ext kI).ext lp) ((Cv.ext kI).ext lp) rfl rfl (by omega) (fun q J=>J) (Q:=fun cX dJ ef eg cy cV c2 dh w'=>EP n w (.tuple #[.agg #[.bool cX, .slice dJ.a dJ.len dJ.cap, .slice ef.a ef.len ef.cap, .slice eg.a eg.len eg.cap], .slice aH.a aH.len aH.cap, .agg #[.bool cy, .slice cV.a cV.len cV.cap, .slice c2.a c2.len c2.cap, .slice dh.a dh.len dh.cap], .bool true]) w') fun dy gf=> ?_⟩
       have wT:bV.drew.heap.size=bV.heap.size:=rfl
       refine ⟨dJ,ef,eg,cV,c2,dh,aH,by rw[←hi];rfl,?_,?_,?_,?_⟩
       · rw[←hi];exact ((wQ.at.ext jA).an gf fun q J e=>by omega).bw fun q _ J=>by omega
       · rw[←hi];exact (wS.at.an gf fun q J e=>by omega).bw fun q _ J=>by omega
       · rw[←hi,vf]
         have gC:∀q,aR aH q→bR.heap.size≤q:=Cw
         exact bD.rn (bD.ext (bD.ext mS lG) lp) gf fun q J e=>by have:=gC q J;omega
       · exact Ext.gr (sV.trans (kI.trans lp)) gf fun q J=>by omega
   · refine cp (vs:=[.bool false, .slice none 0 0, .slice none 0 0, .slice none 0 0]) rfl fun a5 GP eN atH=>⟨eN,?_⟩
     refine (sT (h.ext (qC.trans (ko.trans eN))) aj aD (most:=most) iu.2.1).use ?_
     rintro _ b9 ⟨rfl,g3⟩
     have sP:=GP.ext g3
     refine ⟨_,rfl,g3,sP.dr rfl (ln _ _ _ _),rfl,ec sP (us:=[.bool n.leaf, .slice aP.a aP.len aP.cap, .slice bG.a bG.len bG.cap, .slice aM.a aM.len aM.cap]) rfl rfl fun bR oG hM G2=> ?_⟩
     have NH:=ko.size
     have EI:=g3.size
     obtain ⟨aK,e8⟩:∃aK,aK=a4.heap.size:=⟨_,rfl⟩
     rw[←e8] at oG hM⊢
     have sU:=ko.trans (eN.trans g3)
     have wK:jM br.heap.size bR n aP bG aM cw cN cg:=(lk.ext (eN.trans g3)).an hM fun q _ _ J e=>by
       subst e
       rcases J with J|J|J
       · have:=(lk.bO _ J).2.1;omega
       · have:=(lk.bv _ J).2.1;omega
       · have:=(lk.a8 _ J).2;omega
     have Yk:br.drew.heap.size=br.heap.size:=rfl
     have sV:Ext w bR:=Ext.e3 (qC.trans sU) hM (by omega)
     have Ct:=(G5.ext sU).an hM (by omega)
     have Cu:=(RY.ext sU).an hM (by omega)
     have Cv:=(RZ.ext sU).an hM (by omega)
     have J0:mP (cellsOf n) most=da n:=by unfold da;rw[Cr]
     rw[J0]
     obtain ⟨i,hi⟩:∃i,i=da n:=⟨_,rfl⟩
     rw[←hi] at ve iu hG
     rw[←hi]
     obtain ⟨gK,aY,bm,dM⟩:=cj Ct
     obtain ⟨A,t,ax,g2,al,aN,_⟩:=bU.at (h.ext sV).keys ve
     refine ⟨K,aY,A,ax,g2,t,al,(uX (B:=fun q=>w.heap.size≤q) aN.1 (by have:=fm _ (fv ve);omega) (fun q J=>iT sV.size J)).use ?_⟩
     rintro _ bV ⟨aH,rfl,mS,j3,Cw⟩
     have lG:=eE bV
     obtain ⟨gK,aY,bm,dM⟩:=cj (Ct.ext j3)
     have kI:=j3.trans lG
     obtain ⟨f0,f1,f2,f3⟩:=cj (oG.ext kI)
     have iE:=wK.at.ext kI
     have Yl:=bU.len iE.keys
     have G6:=bU.len iE.vals
     have Ym:=eF.len iE.kids
     have Yn:=bU.le (bW.qF wK.keys)
     have Yo:=bU.le (bW.qF wK.vals)
     have Yp:aM.len≤aM.cap:=iE.kids.2.1
     have Yq:bR.heap.size≤bV.heap.size:=j3.size
     have vf:n.keys.getD i []=n.keys[i]:=n_ ve
     refine ⟨aH,rfl,n.leaf,gK,fun az=>bM ⟨fun q=>q=ag.heap.size,fun e=> ?_,aP,f1,⟨by omega,by omega⟩,fun e=> ?_,bG,f2,⟨by omega,?_⟩, #[.bool true, .slice (a3 aP.a 1 0 aP.cap) i aP.cap, .slice (a3 bG.a 1 0 bG.cap) i bG.cap, .slice none 0 0],(fun w=>by kernel_rfl),fun e=> ?_,aP,f1,⟨by omega,by omega⟩,fun e=> ?_,bG,f2,⟨by omega,?_⟩, #[.bool true, .slice (a3 aP.a 1 i aP.cap) (aP.len-i) (aP.cap-i), .slice (a3 bG.a 1 i bG.cap) (bG.len-i) (bG.cap-i), .slice none 0 0],(fun w=>by kernel_rfl),?_⟩,fun az=> ?_⟩
     · rw[aV] at e;have e:aK=ag.heap.size:=e;omega
     · rw[aV] at e;have e:aK=ag.heap.size:=e;omega
     · have:=aj.wm az;omega
     · rw[aV] at e;have e:aK=ag.heap.size:=e;omega
     · rw[aV] at e;have e:aK=ag.heap.size:=e;omega
     · have:=aj.wm az;omega
     · have J1:=aj.wm az
       have dn:n.left i=⟨true,n.keys.take i,n.vals.take i,[]⟩:=by unfold aL.left;rw[az];rfl
       have cU:n.right i=⟨true,n.keys.drop i,n.vals.drop i,[]⟩:=by unfold aL.right;rw[az];rfl
       have wL:b8 (fun q=>br.heap.size≤q) bV.drew (n.left i) ⟨a3 aP.a 1 0 aP.cap,i,aP.cap⟩ ⟨a3 bG.a 1 0 bG.cap,i,bG.cap⟩ bX:=by
         rw[dn]
         refine ⟨?_,?_,eF.none _ _⟩
         · have:=bU.sub iE.keys (lo:=0) (hi:=i) (by omega) (by omega)
           simpa using this
         · have:=bU.sub iE.vals (lo:=0) (hi:=i) (by omega) (by omega)
           simpa using this
       have wM:b8 (fun q=>br.heap.size≤q) bV.drew (n.right i) ⟨a3 aP.a 1 i aP.cap,aP.len-i,aP.cap-i⟩ ⟨a3 bG.a 1 i bG.cap,bG.len-i,bG.cap-i⟩ bX:=by
         rw[cU]
         refine ⟨?_,?_,eF.none _ _⟩
         · have:=bU.sub iE.keys (lo:=i) (hi:=aP.len) (by omega) (by omega)
           rwa[gX (by rw[fw];omega)] at this
         · have:=bU.sub iE.vals (lo:=i) (hi:=bG.len) (by omega) (by omega)
           rwa[gX (by rw[fw];omega)] at this
       have wN:=fE wL (by rw[dn];show (n.keys.take i).length≤_;rw[dV];omega) (by rw[dn];show (n.vals.take i).length≤_;rw[dV];omega) (by rw[dn];simp) (by rw[dn];exact fun k ae=>fm k (kA ae)) (by rw[dn];exact fun k ae=>Cq k (kA ae))
       have wO:(.agg #[.bool true, .slice (a3 aP.a 1 0 aP.cap) i aP.cap, .slice (a3 bG.a 1 0 bG.cap) i bG.cap, .slice none 0 0]:Value)=e5 (n.left i) ⟨a3 aP.a 1 0 aP.cap,i,aP.cap⟩ ⟨a3 bG.a 1 0 bG.cap,i,bG.cap⟩ bX:=by rw[dn];rfl
       have wP:(.agg #[.bool true, .slice (a3 aP.a 1 i aP.cap) (aP.len-i) (aP.cap-i), .slice (a3 bG.a 1 i bG.cap) (bG.len-i) (bG.cap-i), .slice none 0 0]:Value)=e5 (n.right i) ⟨a3 aP.a 1 i aP.cap,aP.len-i,aP.cap-i⟩ ⟨a3 bG.a 1 i bG.cap,bG.len-i,bG.cap-i⟩ bX:=by rw[cU];rfl
       rw[wO,wP]
       refine wN.use ?_
       rintro _ cG ⟨dJ,ef,eg,Ai,J2,J3,rfl,wQ,hN⟩
       have wR:=fE (wM.ext hN) (by rw[cU];show (n.keys.drop i).length≤_;rw[fw];omega) (by rw[cU];show (n.vals.drop i).length≤_;rw[fw];omega) (by rw[cU];simp) (by rw[cU];exact fun k ae=>fm k (kk ae)) (by rw[cU];exact fun k ae=>Cq k (kk ae))
       refine ⟨_,dJ,ef,eg,rfl,ao.eK hN,wR.use ?_⟩
       rintro _ bY ⟨cV,c2,dh,sS,Ah,J4,rfl,wS,jA⟩
       have lp:=hN.trans jA
       have tT:=hN.size
       have J5:=kI.size
       refine ⟨_,cV,c2,dh,rfl,ao.eK jA,G4 (cX:=(n.left i).leaf) (cy:=(n.right i).leaf) (dJ:=dJ) (ef:=ef) (eg:=eg) (cV:=cV) (c2:=c2) (dh:=dh) ((Cu.ext kI).ext lp) ((Cv.ext kI).ext lp) rfl rfl (by omega) (fun q J=>J) (Q:=fun cX dJ ef eg cy cV c2 dh w'=>EP n w (.tuple #[.agg #[.bool cX, .slice dJ.a dJ.len dJ.cap, .slice ef.a ef.len ef.cap, .slice eg.a eg.len eg.cap], .slice aH.a aH.len aH.cap, .agg #[.bool cy, .slice cV.a cV.len cV.cap, .slice c2.a c2.len c2.cap, .slice dh.a dh.len dh.cap], .bool true]) w') fun dy gf=> ?_⟩
       have wT:bV.drew.heap.size=bV.heap.size:=rfl
       refine ⟨dJ,ef,eg,cV,c2,dh,aH,by rw[←hi];rfl,?_,?_,?_,?_⟩
       · rw[←hi];exact ((wQ.at.ext jA).an gf fun q J e=>by omega).bw fun q _ J=>by omega
       · rw[←hi];exact (wS.at.an gf fun q J e=>by omega).bw fun q _ J=>by omega
       · rw[←hi,vf]
         have gC:∀q,aR aH q→bR.heap.size≤q:=Cw
         exact bD.rn (bD.ext (bD.ext mS lG) lp) gf fun q J e=>by have:=gC q J;omega
       · exact Ext.gr (sV.trans (kI.trans lp)) gf fun q J=>by omega
     · have J1:=aj.GV az
       have Yr:i≤n.keys.length-2∧1≤n.keys.length-2:=by rw[az,←hi] at gZ;simpa using gZ
       have J6:IntKind.wrap .i64 ((i:Int)+1)=((i+1:Nat):Int):=by rw[cE (by omega) (by omega)];rfl
       rw[J6]
       refine bM ⟨fun q=>q=ag.heap.size,fun e=> ?_,aP,f1,⟨by omega,by omega⟩,fun e=> ?_,aM,f3,⟨by omega,by omega⟩, #[.bool false, .slice (a3 aP.a 1 0 aP.cap) i aP.cap, .slice none 0 0, .slice (a3 aM.a 1 0 aM.cap) (i+1) aM.cap],(fun w=>by kernel_rfl),fun e=> ?_,aP,f1,⟨by omega,by omega⟩,fun e=> ?_,aM,f3,⟨by omega,by omega⟩, #[.bool false, .slice (a3 aP.a 1 (i+1) aP.cap) (aP.len-(i+1)) (aP.cap-(i+1)), .slice none 0 0, .slice (a3 aM.a 1 (i+1) aM.cap) (aM.len-(i+1)) (aM.cap-(i+1))],(fun w=>by kernel_rfl),?_⟩
       · rw[aV] at e;have e:aK=ag.heap.size:=e;omega
       · rw[aV] at e;have e:aK=ag.heap.size:=e;omega
       · rw[aV] at e;have e:aK=ag.heap.size:=e;omega
       · rw[aV] at e;have e:aK=ag.heap.size:=e;omega
       have dn:n.left i=⟨false,n.keys.take i,[],n.kids.take (i+1)⟩:=by unfold aL.left;rw[az];rfl
       have cU:n.right i=⟨false,n.keys.drop (i+1),[],n.kids.drop (i+1)⟩:=by unfold aL.right;rw[az];rfl
       have wL:b8 (fun q=>br.heap.size≤q) bV.drew (n.left i) ⟨a3 aP.a 1 0 aP.cap,i,aP.cap⟩ bX ⟨a3 aM.a 1 0 aM.cap,i+1,aM.cap⟩:=by
         rw[dn]
         refine ⟨?_,bU.none _ _,?_⟩
         · have:=bU.sub iE.keys (lo:=0) (hi:=i) (by omega) (by omega)
           simpa using this
         · have:=eF.sub iE.kids (lo:=0) (hi:=i+1) (by omega) (by omega)
           simpa using this
       have wM:b8 (fun q=>br.heap.size≤q) bV.drew (n.right i) ⟨a3 aP.a 1 (i+1) aP.cap,aP.len-(i+1),aP.cap-(i+1)⟩ bX ⟨a3 aM.a 1 (i+1) aM.cap,aM.len-(i+1),aM.cap-(i+1)⟩:=by
         rw[cU]
         refine ⟨?_,bU.none _ _,?_⟩
         · have:=bU.sub iE.keys (lo:=i+1) (hi:=aP.len) (by omega) (by omega)
           rwa[gX (by rw[fw];omega)] at this
         · have:=eF.sub iE.kids (lo:=i+1) (hi:=aM.len) (by omega) (by omega)
           rwa[gX (by rw[fw];omega)] at this
       have wN:=fE wL (by rw[dn];show (n.keys.take i).length≤_;rw[dV];omega) (by rw[dn];simp) (by rw[dn];show (n.kids.take (i+1)).length≤_;rw[dV];omega) (by rw[dn];exact fun k ae=>fm k (kA ae)) (by rw[dn];simp)
       have wO:(.agg #[.bool false, .slice (a3 aP.a 1 0 aP.cap) i aP.cap, .slice none 0 0, .slice (a3 aM.a 1 0 aM.cap) (i+1) aM.cap]:Value)=e5 (n.left i) ⟨a3 aP.a 1 0 aP.cap,i,aP.cap⟩ bX ⟨a3 aM.a 1 0 aM.cap,i+1,aM.cap⟩:=by rw[dn];rfl
       have wP:(.agg #[.bool false, .slice (a3 aP.a 1 (i+1) aP.cap) (aP.len-(i+1)) (aP.cap-(i+1)), .slice none 0 0, .slice (a3 aM.a 1 (i+1) aM.cap) (aM.len-(i+1)) (aM.cap-(i+1))]:Value)=e5 (n.right i) ⟨a3 aP.a 1 (i+1) aP.cap,aP.len-(i+1),aP.cap-(i+1)⟩ bX ⟨a3 aM.a 1 (i+1) aM.cap,aM.len-(i+1),aM.cap-(i+1)⟩:=by rw[cU];rfl
       rw[wO,wP]
       refine wN.use ?_
       rintro _ cG ⟨dJ,ef,eg,Ai,J2,J3,rfl,wQ,hN⟩
       have wR:=fE (wM.ext hN) (by rw[cU];show (n.keys.drop (i+1)).length≤_;rw[fw];omega) (by rw[cU];simp) (by rw[cU];show (n.kids.drop (i+1)).length≤_;rw[fw];omega) (by rw[cU];exact fun k ae=>fm k (kk ae)) (by rw[cU];simp)
       refine ⟨_,dJ,ef,eg,rfl,ao.eK hN,wR.use ?_⟩
       rintro _ bY ⟨cV,c2,dh,sS,Ah,J4,rfl,wS,jA⟩
       have lp:=hN.trans jA
       have tT:=hN.size
       have J5:=kI.size
       refine ⟨_,cV,c2,dh,rfl,ao.eK jA,G4 (cX:=(n.left i).leaf) (cy:=(n.right i).leaf) (dJ:=dJ) (ef:=ef) (eg:=eg) (cV:=cV) (c2:=c2) (dh:=dh) ((Cu.ext kI).ext lp) ((Cv.ext kI).ext lp) rfl rfl (by omega) (fun q J=>J) (Q:=fun cX dJ ef eg cy cV c2 dh w'=>EP n w (.tuple #[.agg #[.bool cX, .slice dJ.a dJ.len dJ.cap, .slice ef.a ef.len ef.cap, .slice eg.a eg.len eg.cap], .slice aH.a aH.len aH.cap, .agg #[.bool cy, .slice cV.a cV.len cV.cap, .slice c2.a c2.len c2.cap, .slice dh.a dh.len dh.cap], .bool true]) w') fun dy gf=> ?_⟩
       have wT:bV.drew.heap.size=bV.heap.size:=rfl
       refine ⟨dJ,ef,eg,cV,c2,dh,aH,by rw[←hi];rfl,?_,?_,?_,?_⟩
       · rw[←hi];exact ((wQ.at.ext jA).an gf fun q J e=>by omega).bw fun q _ J=>by omega
       · rw[←hi];exact (wS.at.an gf fun q J e=>by omega).bw fun q _ J=>by omega
       · rw[←hi,vf]
         have gC:∀q,aR aH q→bR.heap.size≤q:=Cw
         exact bD.rn (bD.ext (bD.ext mS lG) lp) gf fun q J e=>by have:=gC q J;omega
       · exact Ext.gr (sV.trans (kI.trans lp)) gf fun q J=>by omega
 · refine cp (vs:=[.bool false, .slice none 0 0, .slice none 0 0, .slice none 0 0]) rfl fun a4 uU ko atI=>⟨ko,?_⟩
   refine (fE (h.ext (qC.trans ko)) (by omega) (by omega) (by omega) fm Cq).use ?_
   rintro _ a5 ⟨aP,bG,aM,cw,cN,cg,rfl,sf,eN⟩
   refine ⟨n.leaf,aP,bG,aM,rfl,eN,(sT (h.ext (qC.trans (ko.trans eN))) aj aD (most:=most) iu.2.1).use ?_⟩
   rintro _ b9 ⟨rfl,g3⟩
   have sP:=uU.ext (eN.trans g3)
   refine ⟨_,rfl,g3,sP.dr rfl (ln _ _ _ _),rfl,ec sP (us:=[.bool n.leaf, .slice aP.a aP.len aP.cap, .slice bG.a bG.len bG.cap, .slice aM.a aM.len aM.cap]) rfl rfl fun bR oG hM G2=> ?_⟩
   have Co:=eN.size
   have EI:=g3.size
   have Yk:br.drew.heap.size=br.heap.size:=rfl
   obtain ⟨aK,e8⟩:∃aK,aK=br.drew.heap.size:=⟨_,rfl⟩
   rw[←e8] at oG hM⊢
   have sU:=ko.trans (eN.trans g3)
   have wK:jM br.heap.size bR n aP bG aM cw cN cg:=((sf.ext g3).an hM fun q U _ _ e=>by omega).low (by omega)
   have sV:Ext w bR:=Ext.e3 (qC.trans sU) hM (by omega)
   have Ct:=(G5.ext sU).an hM (by omega)
   have Cu:=(RY.ext sU).an hM (by omega)
   have Cv:=(RZ.ext sU).an hM (by omega)
   have J0:mP (cellsOf n) most=da n:=by unfold da;rw[Cr]
   rw[J0]
   obtain ⟨i,hi⟩:∃i,i=da n:=⟨_,rfl⟩
   rw[←hi] at ve iu hG
   rw[←hi]
   obtain ⟨gK,aY,bm,dM⟩:=cj Ct
   obtain ⟨A,t,ax,g2,al,aN,_⟩:=bU.at (h.ext sV).keys ve
   refine ⟨K,aY,A,ax,g2,t,al,(uX (B:=fun q=>w.heap.size≤q) aN.1 (by have:=fm _ (fv ve);omega) (fun q J=>iT sV.size J)).use ?_⟩
   rintro _ bV ⟨aH,rfl,mS,j3,Cw⟩
   have lG:=eE bV
   obtain ⟨gK,aY,bm,dM⟩:=cj (Ct.ext j3)
   have kI:=j3.trans lG
   obtain ⟨f0,f1,f2,f3⟩:=cj (oG.ext kI)
   have iE:=wK.at.ext kI
   have Yl:=bU.len iE.keys
   have G6:=bU.len iE.vals
   have Ym:=eF.len iE.kids
   have Yn:=bU.le (bW.qF wK.keys)
   have Yo:=bU.le (bW.qF wK.vals)
   have Yp:aM.len≤aM.cap:=iE.kids.2.1
   have Yq:bR.heap.size≤bV.heap.size:=j3.size
   have vf:n.keys.getD i []=n.keys[i]:=n_ ve
   refine ⟨aH,rfl,n.leaf,gK,fun az=>bM ⟨fun q=>q=ag.heap.size,fun e=> ?_,aP,f1,⟨by omega,by omega⟩,fun e=> ?_,bG,f2,⟨by omega,?_⟩, #[.bool true, .slice (a3 aP.a 1 0 aP.cap) i aP.cap, .slice (a3 bG.a 1 0 bG.cap) i bG.cap, .slice none 0 0],(fun w=>by kernel_rfl),fun e=> ?_,aP,f1,⟨by omega,by omega⟩,fun e=> ?_,bG,f2,⟨by omega,?_⟩, #[.bool true, .slice (a3 aP.a 1 i aP.cap) (aP.len-i) (aP.cap-i), .slice (a3 bG.a 1 i bG.cap) (bG.len-i) (bG.cap-i), .slice none 0 0],(fun w=>by kernel_rfl),?_⟩,fun az=> ?_⟩
   · rw[aV] at e;have e:aK=ag.heap.size:=e;omega
   · rw[aV] at e;have e:aK=ag.heap.size:=e;omega
   · have:=aj.wm az;omega
   · rw[aV] at e;have e:aK=ag.heap.size:=e;omega
   · rw[aV] at e;have e:aK=ag.heap.size:=e;omega
   · have:=aj.wm az;omega
   · have J1:=aj.wm az
     have dn:n.left i=⟨true,n.keys.take i,n.vals.take i,[]⟩:=by unfold aL.left;rw[az];rfl
     have cU:n.right i=⟨true,n.keys.drop i,n.vals.drop i,[]⟩:=by unfold aL.right;rw[az];rfl
     have wL:b8 (fun q=>br.heap.size≤q) bV.drew (n.left i) ⟨a3 aP.a 1 0 aP.cap,i,aP.cap⟩ ⟨a3 bG.a 1 0 bG.cap,i,bG.cap⟩ bX:=by
       rw[dn]
       refine ⟨?_,?_,eF.none _ _⟩
       · have:=bU.sub iE.keys (lo:=0) (hi:=i) (by omega) (by omega)
         simpa using this
       · have:=bU.sub iE.vals (lo:=0) (hi:=i) (by omega) (by omega)
         simpa using this
     have wM:b8 (fun q=>br.heap.size≤q) bV.drew (n.right i) ⟨a3 aP.a 1 i aP.cap,aP.len-i,aP.cap-i⟩ ⟨a3 bG.a 1 i bG.cap,bG.len-i,bG.cap-i⟩ bX:=by
       rw[cU]
       refine ⟨?_,?_,eF.none _ _⟩
       · have:=bU.sub iE.keys (lo:=i) (hi:=aP.len) (by omega) (by omega)
         rwa[gX (by rw[fw];omega)] at this
       · have:=bU.sub iE.vals (lo:=i) (hi:=bG.len) (by omega) (by omega)
         rwa[gX (by rw[fw];omega)] at this
     have wN:=fE wL (by rw[dn];show (n.keys.take i).length≤_;rw[dV];omega) (by rw[dn];show (n.vals.take i).length≤_;rw[dV];omega) (by rw[dn];simp) (by rw[dn];exact fun k ae=>fm k (kA ae)) (by rw[dn];exact fun k ae=>Cq k (kA ae))
     have wO:(.agg #[.bool true, .slice (a3 aP.a 1 0 aP.cap) i aP.cap, .slice (a3 bG.a 1 0 bG.cap) i bG.cap, .slice none 0 0]:Value)=e5 (n.left i) ⟨a3 aP.a 1 0 aP.cap,i,aP.cap⟩ ⟨a3 bG.a 1 0 bG.cap,i,bG.cap⟩ bX:=by rw[dn];rfl
     have wP:(.agg #[.bool true, .slice (a3 aP.a 1 i aP.cap) (aP.len-i) (aP.cap-i), .slice (a3 bG.a 1 i bG.cap) (bG.len-i) (bG.cap-i), .slice none 0 0]:Value)=e5 (n.right i) ⟨a3 aP.a 1 i aP.cap,aP.len-i,aP.cap-i⟩ ⟨a3 bG.a 1 i bG.cap,bG.len-i,bG.cap-i⟩ bX:=by rw[cU];rfl
     rw[wO,wP]
     refine wN.use ?_
     rintro _ cG ⟨dJ,ef,eg,Ai,J2,J3,rfl,wQ,hN⟩
     have wR:=fE (wM.ext hN) (by rw[cU];show (n.keys.drop i).length≤_;rw[fw];omega) (by rw[cU];show (n.vals.drop i).length≤_;rw[fw];omega) (by rw[cU];simp) (by rw[cU];exact fun k ae=>fm k (kk ae)) (by rw[cU];exact fun k ae=>Cq k (kk ae))
     refine ⟨_,dJ,ef,eg,rfl,ao.eK hN,wR.use ?_⟩
     rintro _ bY ⟨cV,c2,dh,sS,Ah,J4,rfl,wS,jA⟩
     have lp:=hN.trans jA
     have tT:=hN.size
     have J5:=kI.size
     refine ⟨_,cV,c2,dh,rfl,ao.eK jA,G4 (cX:=(n.left i).leaf) (cy:=(n.right i).leaf) (dJ:=dJ) (ef:=ef) (eg:=eg) (cV:=cV) (c2:=c2) (dh:=dh) ((Cu.ext kI).ext lp) ((Cv.ext kI).ext lp) rfl rfl (by omega) (fun q J=>J) (Q:=fun cX dJ ef eg cy cV c2 dh w'=>EP n w (.tuple #[.agg #[.bool cX, .slice dJ.a dJ.len dJ.cap, .slice ef.a ef.len ef.cap, .slice eg.a eg.len eg.cap], .slice aH.a aH.len aH.cap, .agg #[.bool cy, .slice cV.a cV.len cV.cap, .slice c2.a c2.len c2.cap, .slice dh.a dh.len dh.cap], .bool true]) w') fun dy gf=> ?_⟩
     have wT:bV.drew.heap.size=bV.heap.size:=rfl
     refine ⟨dJ,ef,eg,cV,c2,dh,aH,by rw[←hi];rfl,?_,?_,?_,?_⟩
     · rw[←hi];exact ((wQ.at.ext jA).an gf fun q J e=>by omega).bw fun q _ J=>by omega
     · rw[←hi];exact (wS.at.an gf fun q J e=>by omega).bw fun q _ J=>by omega
     · rw[←hi,vf]
       have gC:∀q,aR aH q→bR.heap.size≤q:=Cw
       exact bD.rn (bD.ext (bD.ext mS lG) lp) gf fun q J e=>by have:=gC q J;omega
     · exact Ext.gr (sV.trans (kI.trans lp)) gf fun q J=>by omega
   · have J1:=aj.GV az
     have Yr:i≤n.keys.length-2∧1≤n.keys.length-2:=by rw[az,←hi] at gZ;simpa using gZ
     have J6:IntKind.wrap .i64 ((i:Int)+1)=((i+1:Nat):Int):=by rw[cE (by omega) (by omega)];rfl
     rw[J6]
     refine bM ⟨fun q=>q=ag.heap.size,fun e=> ?_,aP,f1,⟨by omega,by omega⟩,fun e=> ?_,aM,f3,⟨by omega,by omega⟩, #[.bool false, .slice (a3 aP.a 1 0 aP.cap) i aP.cap, .slice none 0 0, .slice (a3 aM.a 1 0 aM.cap) (i+1) aM.cap],(fun w=>by kernel_rfl),fun e=> ?_,aP,f1,⟨by omega,by omega⟩,fun e=> ?_,aM,f3,⟨by omega,by omega⟩, #[.bool false, .slice (a3 aP.a 1 (i+1) aP.cap) (aP.len-(i+1)) (aP.cap-(i+1)), .slice none 0 0, .slice (a3 aM.a 1 (i+1) aM.cap) (aM.len-(i+1)) (aM.cap-(i+1))],(fun w=>by kernel_rfl),?_⟩
     · rw[aV] at e;have e:aK=ag.heap.size:=e;omega
     · rw[aV] at e;have e:aK=ag.heap.size:=e;omega
     · rw[aV] at e;have e:aK=ag.heap.size:=e;omega
     · rw[aV] at e;have e:aK=ag.heap.size:=e;omega
     have dn:n.left i=⟨false,n.keys.take i,[],n.kids.take (i+1)⟩:=by unfold aL.left;rw[az];rfl
     have cU:n.right i=⟨false,n.keys.drop (i+1),[],n.kids.drop (i+1)⟩:=by unfold aL.right;rw[az];rfl
     have wL:b8 (fun q=>br.heap.size≤q) bV.drew (n.left i) ⟨a3 aP.a 1 0 aP.cap,i,aP.cap⟩ bX ⟨a3 aM.a 1 0 aM.cap,i+1,aM.cap⟩:=by
       rw[dn]
       refine ⟨?_,bU.none _ _,?_⟩
       · have:=bU.sub iE.keys (lo:=0) (hi:=i) (by omega) (by omega)
         simpa using this
       · have:=eF.sub iE.kids (lo:=0) (hi:=i+1) (by omega) (by omega)
         simpa using this
     have wM:b8 (fun q=>br.heap.size≤q) bV.drew (n.right i) ⟨a3 aP.a 1 (i+1) aP.cap,aP.len-(i+1),aP.cap-(i+1)⟩ bX ⟨a3 aM.a 1 (i+1) aM.cap,aM.len-(i+1),aM.cap-(i+1)⟩:=by
       rw[cU]
       refine ⟨?_,bU.none _ _,?_⟩
       · have:=bU.sub iE.keys (lo:=i+1) (hi:=aP.len) (by omega) (by omega)
         rwa[gX (by rw[fw];omega)] at this
       · have:=eF.sub iE.kids (lo:=i+1) (hi:=aM.len) (by omega) (by omega)
         rwa[gX (by rw[fw];omega)] at this
     have wN:=fE wL (by rw[dn];show (n.keys.take i).length≤_;rw[dV];omega) (by rw[dn];simp) (by rw[dn];show (n.kids.take (i+1)).length≤_;rw[dV];omega) (by rw[dn];exact fun k ae=>fm k (kA ae)) (by rw[dn];simp)
     have wO:(.agg #[.bool false, .slice (a3 aP.a 1 0 aP.cap) i aP.cap, .slice none 0 0, .slice (a3 aM.a 1 0 aM.cap) (i+1) aM.cap]:Value)=e5 (n.left i) ⟨a3 aP.a 1 0 aP.cap,i,aP.cap⟩ bX ⟨a3 aM.a 1 0 aM.cap,i+1,aM.cap⟩:=by rw[dn];rfl
     have wP:(.agg #[.bool false, .slice (a3 aP.a 1 (i+1) aP.cap) (aP.len-(i+1)) (aP.cap-(i+1)), .slice none 0 0, .slice (a3 aM.a 1 (i+1) aM.cap) (aM.len-(i+1)) (aM.cap-(i+1))]:Value)=e5 (n.right i) ⟨a3 aP.a 1 (i+1) aP.cap,aP.len-(i+1),aP.cap-(i+1)⟩ bX ⟨a3 aM.a 1 (i+1) aM.cap,aM.len-(i+1),aM.cap-(i+1)⟩:=by rw[cU];rfl
     rw[wO,wP]
     refine wN.use ?_
     rintro _ cG ⟨dJ,ef,eg,Ai,J2,J3,rfl,wQ,hN⟩
     have wR:=fE (wM.ext hN) (by rw[cU];show (n.keys.drop (i+1)).length≤_;rw[fw];omega) (by rw[cU];simp) (by rw[cU];show (n.kids.drop (i+1)).length≤_;rw[fw];omega) (by rw[cU];exact fun k ae=>fm k (kk ae)) (by rw[cU];simp)
     refine ⟨_,dJ,ef,eg,rfl,ao.eK hN,wR.use ?_⟩
     rintro _ bY ⟨cV,c2,dh,sS,Ah,J4,rfl,wS,jA⟩
     have lp:=hN.trans jA
     have tT:=hN.size
     have J5:=kI.size
     refine ⟨_,cV,c2,dh,rfl,ao.eK jA,G4 (cX:=(n.left i).leaf) (cy:=(n.right i).leaf) (dJ:=dJ) (ef:=ef) (eg:=eg) (cV:=cV) (c2:=c2) (dh:=dh) ((Cu.ext kI).ext lp) ((Cv.ext kI).ext lp) rfl rfl (by omega) (fun q J=>J) (Q:=fun cX dJ ef eg cy cV c2 dh w'=>EP n w (.tuple #[.agg #[.bool cX, .slice dJ.a dJ.len dJ.cap, .slice ef.a ef.len ef.cap, .slice eg.a eg.len eg.cap], .slice aH.a aH.len aH.cap, .agg #[.bool cy, .slice cV.a cV.len cV.cap, .slice c2.a c2.len c2.cap, .slice dh.a dh.len dh.cap], .bool true]) w') fun dy gf=> ?_⟩
     have wT:bV.drew.heap.size=bV.heap.size:=rfl
     refine ⟨dJ,ef,eg,cV,c2,dh,aH,by rw[←hi];rfl,?_,?_,?_,?_⟩
     · rw[←hi];exact ((wQ.at.ext jA).an gf fun q J e=>by omega).bw fun q _ J=>by omega
     · rw[←hi];exact (wS.at.an gf fun q J e=>by omega).bw fun q _ J=>by omega
     · rw[←hi,vf]
       have gC:∀q,aR aH q→bR.heap.size≤q:=Cw
       exact bD.rn (bD.ext (bD.ext mS lG) lp) gf fun q J e=>by have:=gC q J;omega
     · exact Ext.gr (sV.trans (kI.trans lp)) gf fun q J=>by omega
end
section
theorem R0 {B C:Nat→Prop} {w:World} {s x:aa} {ls xs:List Key} (bJ:bW B w s ls) (af:bU C w x xs) (hd:∀q,C q→¬aR s q) (aD:ls.length≤100000) (hm:xs.length≤100000):
   ∃ (au:aa) (w':World),Sem.run Tryz.prog (Builtin.append_ #[ah.cC,ah.cC] ah.cC #[.slice s.a s.len s.cap, .slice x.a x.len x.cap]) w= .ok (.slice au.a au.len au.cap) w'∧bU (fun q=>B q∨C q∨w.heap.size≤q) w' au (ls++xs)∧ao (aR s) w w':=by
 have ajh:=bU.len af
 obtain ⟨ts,U,ad,ar,aI⟩:=bJ
 obtain ⟨us,aA,aF,aJ,aO,cS⟩:=af
 have aji:s.len=ls.length:=by have:=ad.1;rw[mN] at this;omega
 obtain ⟨au,w',aY,bm,dM,kE,lE⟩:=GU.append (ez:=ah.cC) aF ad (Nk us) (by omega)
 refine ⟨au,w',aY,⟨ts++us,by simp[U,aA],?_,bm.2.1,?_,fun i i1 i2=> ?_⟩,kE⟩
 · rw[n3];exact bm.src
 · intro k ae
   refine ⟨?_,bm.lt k ae⟩
   rcases lE k ae with h|h
   · exact .inl (ar k h).1
   · exact .inr (.inr h)
 · rcases hE i ts.length with h|h
   · have gZ:i<ls.length:=by omega
     rw[zI h,zI gZ]
     obtain ⟨a,b⟩:=aI i h gZ
     exact bD.bw (bD.rn a kE b) fun k _ ae=> .inl ae
   · have a6:i-ts.length<us.length:=by rw[eu] at i1;omega
     have Ew:i-ls.length<xs.length:=by omega
     rw[Eg h,Eg (by omega)]
     have e:i-ls.length=i-ts.length:=by omega
     have a:=cS (i-ts.length) a6 (by omega)
     simp only[e]
     exact bD.bw (bD.rn a kE fun k ae=>hd k (a.2.2 k ae).1) fun k _ ae=> .inr (.inl ae)
theorem Ys {B C:Nat→Prop} {w:World} {s x:aa} {ds es:List Nat} (bJ:eB B w s ds) (af:eF C w x es) (aD:ds.length≤100000) (hm:es.length≤100000):
   ∃ (au:aa) (w':World),Sem.run Tryz.prog (Builtin.append_ #[ah.fb,ah.fb] ah.fb #[.slice s.a s.len s.cap, .slice x.a x.len x.cap]) w= .ok (.slice au.a au.len au.cap) w'∧eF (fun q=>B q∨C q∨w.heap.size≤q) w' au (ds++es)∧ao (aR s) w w':=by
 have ajh:=eF.len af
 obtain ⟨U,ad⟩:=bJ
 have aji:s.len=ds.length:=by have:=U.1;rw[GR] at this;omega
 obtain ⟨au,w',aY,bm,dM,kE,lE⟩:=Nj.append (ez:=ah.fb) af.1 U (XA es) (by omega)
 refine ⟨au,w',aY,⟨?_,bm.2.1,?_⟩,kE⟩
 · have:l6 ds++l6 es=l6 (ds++es):=by simp[l6]
   rw[this] at bm;exact bm.src
 · intro k ae
   refine ⟨?_,bm.lt k ae⟩
   rcases lE k ae with h|h
   · exact .inl (ad k h).1
   · exact .inr (.inr h)
def Yt (pa cR aK qN:Nat) (key:aa) (yD:World) (Q:Value→World→Prop):Prop:=
 c5 (fun yE:World→Prop=>∃yF:Bool,yD.cell? ⟨pa,0,none⟩=some (.bool yF)∧((!yF)=true→ay (yD.drew) fun qO=>∃ER:Nat→Prop,¬ER (Addr.add ⟨cR,0,none⟩ 1).block∧∃jB:aa,qO.cell? (Addr.add ⟨cR,0,none⟩ 1)=some (.slice jB.a jB.len jB.cap)∧Calls Tryz.prog F.l4 #[.slice key.a key.len key.cap] qO fun ajj gv=>∃ob:aa,ajj= .returned (.slice ob.a ob.len ob.cap)∧ao ER qO gv∧ay (gv.alloc (.cells #[.slice ob.a ob.len ob.cap] ah.cd)) fun qb=>ao ER gv qb∧∃g_:aa,∃oJ:World,Sem.run Tryz.prog (Builtin.append_ #[ah.cC,ah.cC] ah.cC #[.slice jB.a jB.len jB.cap, .slice (some ⟨gv.heap.size,0,none⟩) 1 1]) qb= .ok (.slice g_.a g_.len g_.cap) oJ∧(∃u:Value,oJ.cell? (Addr.add ⟨cR,0,none⟩ 1)=some u)∧oJ.frozen? (Addr.add ⟨cR,0,none⟩ 1)=false∧ay (oJ.setCell (Addr.add ⟨cR,0,none⟩ 1) (.slice g_.a g_.len g_.cap)) fun tU=>yE tU)∧((!yF)=false→yE yD)) (fun (sW:World)=>∃fY:aa,sW.cell? (Addr.add ⟨cR,0,none⟩ 1)=some (.slice fY.a fY.len fY.cap)∧∃fZ:aa,sW.cell? (Addr.add ⟨aK,0,none⟩ 1)=some (.slice fZ.a fZ.len fZ.cap)∧∃gD:aa,∃gL:World,Sem.run Tryz.prog (Builtin.append_ #[ah.cC,ah.cC] ah.cC #[.slice fY.a fY.len fY.cap, .slice fZ.a fZ.len fZ.cap]) sW= .ok (.slice gD.a gD.len gD.cap) gL∧(∃u:Value,gL.cell? (Addr.add ⟨cR,0,none⟩ 1)=some u)∧gL.frozen? (Addr.add ⟨cR,0,none⟩ 1)=false∧ay (gL.setCell (Addr.add ⟨cR,0,none⟩ 1) (.slice gD.a gD.len gD.cap)) fun nJ=>∃jj:aa,nJ.cell? (Addr.add ⟨cR,0,none⟩ 2)=some (.slice jj.a jj.len jj.cap)∧∃lJ:aa,nJ.cell? (Addr.add ⟨aK,0,none⟩ 2)=some (.slice lJ.a lJ.len lJ.cap)∧∃qc:aa,∃vg:World,Sem.run Tryz.prog (Builtin.append_ #[ah.cC,ah.cC] ah.cC #[.slice jj.a jj.len jj.cap, .slice lJ.a lJ.len lJ.cap]) nJ= .ok (.slice qc.a qc.len qc.cap) vg∧(∃u:Value,vg.cell? (Addr.add ⟨cR,0,none⟩ 2)=some u)∧vg.frozen? (Addr.add ⟨cR,0,none⟩ 2)=false∧ay (vg.setCell (Addr.add ⟨cR,0,none⟩ 2) (.slice qc.a qc.len qc.cap)) fun sg=>∃kq:aa,sg.cell? (Addr.add ⟨cR,0,none⟩ 3)=some (.slice kq.a kq.len kq.cap)∧∃pK:aa,sg.cell? (Addr.add ⟨aK,0,none⟩ 3)=some (.slice pK.a pK.len pK.cap)∧∃lK:aa,∃sX:World,Sem.run Tryz.prog (Builtin.append_ #[ah.fb,ah.fb] ah.fb #[.slice kq.a kq.len kq.cap, .slice pK.a pK.len pK.cap]) sg= .ok (.slice lK.a lK.len lK.cap) sX∧(∃u:Value,sX.cell? (Addr.add ⟨cR,0,none⟩ 3)=some u)∧sX.frozen? (Addr.add ⟨cR,0,none⟩ 3)=false∧ay (sX.setCell (Addr.add ⟨cR,0,none⟩ 3) (.slice lK.a lK.len lK.cap)) fun wU=>∃NL:Bool,wU.cell? ⟨cR,0,none⟩=some (.bool NL)∧∃yG:aa,wU.cell? (Addr.add ⟨cR,0,none⟩ 1)=some (.slice yG.a yG.len yG.cap)∧∃iO:aa,wU.cell? (Addr.add ⟨cR,0,none⟩ 2)=some (.slice iO.a iO.len iO.cap)∧∃iv:aa,wU.cell? (Addr.add ⟨cR,0,none⟩ 3)=some (.slice iv.a iv.len iv.cap)∧Calls Tryz.prog F.nG #[.agg #[.bool NL, .slice yG.a yG.len yG.cap, .slice iO.a iO.len iO.cap, .slice iv.a iv.len iv.cap]] wU fun ajk pL=>∃J7:Bool,ajk= .returned (.bool J7)∧((!J7)=true→cM pL ⟨qN,0,none⟩ [.bool false, .slice none 0 0, .slice none 0 0, .slice none 0 0]∧(4:Nat)=4∧ay (setCells pL ⟨qN,0,none⟩ 0 [.bool false, .slice none 0 0, .slice none 0 0, .slice none 0 0]) fun l8=>∃Cx:Bool,l8.cell? ⟨qN,0,none⟩=some (.bool Cx)∧∃qP:aa,l8.cell? (Addr.add ⟨qN,0,none⟩ 1)=some (.slice qP.a qP.len qP.cap)∧∃yH:aa,l8.cell? (Addr.add ⟨qN,0,none⟩ 2)=some (.slice yH.a yH.len yH.cap)∧∃jk:aa,l8.cell? (Addr.add ⟨qN,0,none⟩ 3)=some (.slice jk.a jk.len jk.cap)∧Q ( .tuple #[.agg #[.bool Cx, .slice qP.a qP.len qP.cap, .slice yH.a yH.len yH.cap, .slice jk.a jk.len jk.cap], .bool false]) l8)∧((!J7)=false→∃Cy:Bool,pL.cell? ⟨cR,0,none⟩=some (.bool Cy)∧∃fA:aa,pL.cell? (Addr.add ⟨cR,0,none⟩ 1)=some (.slice fA.a fA.len fA.cap)∧∃ry:aa,pL.cell? (Addr.add ⟨cR,0,none⟩ 2)=some (.slice ry.a ry.len ry.cap)∧∃kQ:aa,pL.cell? (Addr.add ⟨cR,0,none⟩ 3)=some (.slice kQ.a kQ.len kQ.cap)∧cM pL ⟨qN,0,none⟩ [.bool Cy, .slice fA.a fA.len fA.cap, .slice ry.a ry.len ry.cap, .slice kQ.a kQ.len kQ.cap]∧(4:Nat)=4∧ay (setCells pL ⟨qN,0,none⟩ 0 [.bool Cy, .slice fA.a fA.len fA.cap, .slice ry.a ry.len ry.cap, .slice kQ.a kQ.len kQ.cap]) fun wV=>∃G7:Bool,wV.cell? ⟨qN,0,none⟩=some (.bool G7)∧∃yI:aa,wV.cell? (Addr.add ⟨qN,0,none⟩ 1)=some (.slice yI.a yI.len yI.cap)∧∃jl:aa,wV.cell? (Addr.add ⟨qN,0,none⟩ 2)=some (.slice jl.a jl.len jl.cap)∧∃jm:aa,wV.cell? (Addr.add ⟨qN,0,none⟩ 3)=some (.slice jm.a jm.len jm.cap)∧Q ( .tuple #[.agg #[.bool G7, .slice yI.a yI.len yI.cap, .slice jl.a jl.len jl.cap, .slice jm.a jm.len jm.cap], .bool true]) wV))
theorem vh {lo pa cR aK qN:Nat} {key eL ei dT dG dH dI:aa} {w eY:World} {a b:aL} {s:Key} {cw cN cg C:Nat→Prop} {vi:List Value} (NM:eY.cell? ⟨pa,0,none⟩=some (.bool a.leaf))
   (ax:Var eY cR [.bool a.leaf, .slice eL.a eL.len eL.cap, .slice ei.a ei.len ei.cap, .slice dT.a dT.len dT.cap] ah.cF) (e1:Var eY aK [.bool b.leaf, .slice dG.a dG.len dG.cap, .slice dH.a dH.len dH.cap, .slice dI.a dI.len dI.cap] ah.cF)
   (bN:jM lo eY a eL ei dT cw cN cg) (iu:b8 C eY b dG dH dI) (nI:∀q,C q→lo≤q∧q<eY.heap.size∧q≠cR∧q≠aK∧¬cw q∧¬cN q∧¬cg q) (ie:∀q,cw q∨cN q∨cg q→q≠cR∧q≠aK) (pE:lo≤cR) (h7:lo≤aK) (pH:cR≠aK)
   (aU:Var eY qN vi ah.cF) (R1:vi.length=4) (Yu:qN<lo) (mq:w.heap.size≤qN) (ae:Src 1 eY key (bg s)) (gA:s.length≤1000) (dC:Ext w eY) (aj:dX (g0 a s b)) (az:a.leaf=b.leaf) (nK:dX a) (dc:dX b)
   (di:a.keys.length≤10000) (c_:b.keys.length≤10000):Yt pa cR aK qN key eY (EM (g0 a s b) w):=by
 unfold Yt
 have ajl:=ax.lt
 have x9:=e1.lt
 have J8:∀ {n:aL},dX n→n.keys.length≤10000→n.vals.length≤10000∧n.kids.length≤10001:=fun {n} U ad=>by
   rcases U with U|U
   · rw[U.len,U.kids];exact ⟨ad,fx _⟩
   · rw[U.len,U.vals];exact ⟨fx _,by omega⟩
 obtain ⟨ajm,Eo⟩:=J8 nK di
 obtain ⟨z9,Ep⟩:=J8 dc c_
 have mU:pI lo eY cR a eL ei dT cw cN cg:=⟨ax,bN.keys,bN.vals,bN.kids,fun q J=>⟨(bN.bO q J).1,(bN.bO q J).2.1,(ie q (.inl J)).1,(bN.bO q J).2.2⟩,fun q J=>⟨(bN.bv q J).1,(bN.bv q J).2.1,(ie q (.inr (.inl J))).1,(bN.bv q J).2.2⟩,fun q J=>⟨(bN.a8 q J).1,(bN.a8 q J).2,(ie q (.inr (.inr J))).1⟩,pE⟩
 refine ym (fun w'=>∃ (K:aa) (z8:Nat→Prop),pI lo w' cR ⟨a.leaf,if a.leaf then a.keys else a.keys++ [s],a.vals,a.kids⟩ K ei dT z8 cN cg∧ao (fun q=>q=cR∨cw q) eY w'∧(∀q,z8 q→cw q∨eY.heap.size≤q)) (fun q J=>⟨_,NM,fun ab=> ?_,fun ab=>J _ ⟨eL,cw,?_, .refl _ _,fun q h=> .inl h⟩⟩) ?_
 · have ab:a.leaf=false:=by simpa using ab
   refine RK mU ae (by omega) (by omega) fun w' aP z8 U ad ar=>J _ ⟨aP,z8,?_,ad,ar⟩
   rw[if_neg (by rw[ab];simp)]
   exact U
 · have ab:a.leaf=true:=by simpa using ab
   rw[if_pos ab]
   exact mU
 rintro ag ⟨dJ,Ai,U,iZ,Yv⟩
 have nf:=iZ.size
 have oc:=e1.an iZ (by
   rintro (h|h)
   · exact pH h.symm
   · exact (ie _ (.inl h)).2 rfl)
 have Yw:=iu.an iZ fun q J h=>by
   have:=nI q J
   rcases h with h|h
   · exact this.2.2.1 h
   · exact this.2.2.2.2.1 h
 have k3:=aU.an iZ (by
   rintro (h|h)
   · omega
   · have:=(bN.bO _ h).1;omega)
 have ajn:Ext w ag:=Ext.gr dC iZ fun q J=>by
   rcases J with h|h
   · omega
   · have:=(bN.bO _ h).1;omega
 obtain ⟨J9,NN⟩:∃l,l=(if a.leaf then a.keys else a.keys++ [s]):=⟨_,rfl⟩
 rw[←NN] at U
 have atJ:J9.length≤10001:=by
   rw[NN]
   split
   · omega
   · rw[eu];simp;omega
 obtain ⟨cA,bd,bc,a_⟩:=cj U.v
 obtain ⟨d0,d1,d2,d3⟩:=cj oc
 have ES:∀q,aR dJ q→Ai q:=fun k ae=>by obtain ⟨ts,_,_,ar,_⟩:=U.keys;exact (ar k ae).1
 have R2:∀q,aR ei q→cN q:=fun k ae=>by obtain ⟨ts,_,_,ar,_⟩:=U.vals;exact (ar k ae).1
 have Yx:∀q,aR dT q→cg q:=fun k ae=>(U.kids.2 k ae).1
 have Yy:∀q,C q→¬aR dJ q:=fun q J h=>by
   rcases Yv q (ES q h) with ad|ad
   · exact (nI q J).2.2.2.2.1 ad
   · have:=(nI q J).2.1;omega
 obtain ⟨o8,aw,aY,bm,dM⟩:=R0 U.keys Yw.keys Yy (by show J9.length≤_;omega) (by omega)
 have lh:=U.v.an dM fun h=>(U.bO _ (ES _ h)).2.2.1 rfl
 obtain ⟨jn,lq⟩:=j5 lh (i:=1) (by simp)
 refine ⟨dJ,bd,dG,d1,o8,aw,aY,?_⟩
 rw[aV,aV]
 refine ⟨jn,lq,bM ?_⟩
 obtain ⟨aZ,ng⟩:∃aZ,aZ=aw.setCell ⟨cR,0+1,none⟩ (.slice o8.a o8.len o8.cap):=⟨_,rfl⟩
 rw[←ng]
 have nk:ao (fun q=>q=cR) aw aZ:=by rw[ng];exact iL _ _ _ _
 have Yz:Var aZ cR [.bool a.leaf, .slice o8.a o8.len o8.cap, .slice ei.a ei.len ei.cap, .slice dT.a dT.len dT.cap] ah.cF:=by rw[ng];exact j4 lh _
 have nd:ao (fun q=>q=cR∨aR dJ q) ag aZ:=(dM.mono fun q _ h=> .inr h).trans (nk.mono fun q _ h=> .inl h)
 have G8:=oc.an nd (by
   rintro (h|h)
   · exact pH h.symm
   · rcases Yv _ (ES _ h) with ad|ad
     · exact (ie _ (.inl ad)).2 rfl
     · omega)
 have YA:=Yw.an nd fun q J h=>by
   rcases h with h|h
   · exact (nI q J).2.2.1 h
   · exact Yy q J h
 have ajo:=bW.an U.vals nd fun q J h=>by
   rcases h with h|h
   · exact (U.bv q J).2.2.1 h
   · exact (U.bO q (ES q h)).2.2.2.1 J
 have ajp:=eB.an U.kids nd fun q J h=>by
   rcases h with h|h
   · exact (U.a8 q J).2.2 h
   · exact (U.bO q (ES q h)).2.2.2.2 J
 have yu:=k3.an nd (by
   rintro (h|h)
   · omega
   · have:=(U.bO _ (ES _ h)).1;omega)
 have hL:Ext w aZ:=Ext.gr ajn nd fun q J=>by
   rcases J with h|h
   · omega
   · have:=(U.bO _ (ES _ h)).1;omega
 have G9:bU (fun q=>(Ai q∨C q∨ag.heap.size≤q)∧q≠cR) aZ o8 (J9++b.keys):=by
   have R3:bU (fun q=>(Ai q∨C q∨ag.heap.size≤q)∧q≠cR) aw o8 (J9++b.keys):=bU.bw bm fun q _ J=>⟨J,by
     rcases J with h|h|h
     · exact (U.bO _ h).2.2.1
     · exact (nI _ h).2.2.1
     · omega⟩
   exact bU.an R3 nk fun q J h=>J.2 h
 obtain ⟨cA,bd,bc,a_⟩:=cj Yz
 obtain ⟨d0,d1,d2,d3⟩:=cj G8
 have EN:=nd.size
 obtain ⟨ir,br,aY,bm,dM⟩:=R0 ajo YA.vals (fun q J h=>(nI q J).2.2.2.2.2.1 (R2 q h)) (by show a.vals.length≤_;omega) (by omega)
 have Ng:=Yz.an dM fun h=>(U.bv _ (R2 _ h)).2.2.1 rfl
 obtain ⟨jn,lq⟩:=j5 Ng (i:=2) (by simp)
 rw[aV] at bc d2
 refine ⟨ei,bc,dH,d2,ir,br,aY,?_⟩
 rw[aV,aV]
 refine ⟨jn,lq,bM ?_⟩
 obtain ⟨bF,R4⟩:∃bF,bF=br.setCell ⟨cR,0+2,none⟩ (.slice ir.a ir.len ir.cap):=⟨_,rfl⟩
 rw[←R4]
 have oK:ao (fun q=>q=cR) br bF:=by rw[R4];exact iL _ _ _ _
 have iC:Var bF cR [.bool a.leaf, .slice o8.a o8.len o8.cap, .slice ir.a ir.len ir.cap, .slice dT.a dT.len dT.cap] ah.cF:=by rw[R4];exact j4 Ng _
 have ET:ao (fun q=>q=cR∨cN q) aZ bF:=(dM.mono fun q _ h=> .inr (R2 q h)).trans (oK.mono fun q _ h=> .inl h)
 have Nh:=G8.an ET (by
   rintro (h|h)
   · exact pH h.symm
   · exact (ie _ (.inr (.inl h))).2 rfl)
 have ajq:=YA.an ET fun q J h=>by
   rcases h with h|h
   · exact (nI q J).2.2.1 h
   · exact (nI q J).2.2.2.2.2.1 h
 have ajr:=bU.an G9 ET fun q J h=>by
   rcases h with h|h
   · exact J.2 h
   · rcases J.1 with ad|ad|ad
     · exact (U.bO _ ad).2.2.2.1 h
     · exact (nI _ ad).2.2.2.2.2.1 h
     · have:=(U.bv _ h).2.1;omega
 have ajs:=eB.an ajp ET fun q J h=>by
   rcases h with h|h
   · exact (U.a8 q J).2.2 h
   · exact (U.bv q h).2.2.2 J
 have ajt:=yu.an ET (by
   rintro (h|h)
   · omega
   · have:=(U.bv _ h).1;omega)
 have qC:Ext w bF:=Ext.gr hL ET fun q J=>by
   rcases J with h|h
   · omega
   · have:=(U.bv _ h).1;omega
 have aju:bU (fun q=>(cN q∨C q∨aZ.heap.size≤q)∧q≠cR) bF ir (a.vals++b.vals):=by
   have R3:bU (fun q=>(cN q∨C q∨aZ.heap.size≤q)∧q≠cR) br ir (a.vals++b.vals):=bU.bw bm fun q _ J=>⟨J,by
     rcases J with h|h|h
     · exact (U.bv _ h).2.2.1
     · exact (nI _ h).2.2.1
     · omega⟩
   exact bU.an R3 oK fun q J h=>J.2 h
 obtain ⟨cA,bd,bc,a_⟩:=cj iC
 obtain ⟨d0,d1,d2,d3⟩:=cj Nh
 have NJ:=ET.size
 obtain ⟨vj,a4,aY,bm,dM⟩:=Ys ajs ajq.kids (by show a.kids.length≤_;omega) (by omega)
 have Ni:=iC.an dM fun h=>(U.a8 _ (Yx _ h)).2.2 rfl
 obtain ⟨jn,lq⟩:=j5 Ni (i:=3) (by simp)
 rw[aV] at a_ d3
 refine ⟨dT,a_,dI,d3,vj,a4,aY,?_⟩
 rw[aV,aV]
 refine ⟨jn,lq,bM ?_⟩
 obtain ⟨a5,EU⟩:∃a5,a5=a4.setCell ⟨cR,0+3,none⟩ (.slice vj.a vj.len vj.cap):=⟨_,rfl⟩
 rw[←EU]
 have tV:ao (fun q=>q=cR) a4 a5:=by rw[EU];exact iL _ _ _ _
 have YB:Var a5 cR [.bool a.leaf, .slice o8.a o8.len o8.cap, .slice ir.a ir.len ir.cap, .slice vj.a vj.len vj.cap] ah.cF:=by rw[EU];exact j4 Ni _
 have J_:ao (fun q=>q=cR∨cg q) bF a5:=(dM.mono fun q _ h=> .inr (Yx q h)).trans (tV.mono fun q _ h=> .inl h)
 have ajv:=bU.an ajr J_ fun q J h=>by
   rcases h with h|h
   · exact J.2 h
   · rcases J.1 with ad|ad|ad
     · exact (U.bO _ ad).2.2.2.2 h
     · exact (nI _ ad).2.2.2.2.2.2 h
     · have:=(U.a8 _ h).2.1;omega
 have ajw:=bU.an aju J_ fun q J h=>by
   rcases h with h|h
   · exact J.2 h
   · rcases J.1 with ad|ad|ad
     · exact (U.bv _ ad).2.2.2 h
     · exact (nI _ ad).2.2.2.2.2.2 h
     · have:=(U.a8 _ h).2.1;omega
 have RV:=ajt.an J_ (by
   rintro (h|h)
   · omega
   · have:=(U.a8 _ h).1;omega)
 have r9:Ext w a5:=Ext.gr qC J_ fun q J=>by
   rcases J with h|h
   · omega
   · have:=(U.a8 _ h).1;omega
 have Co:=J_.size
 have G_:b8 (fun q=>lo≤q) a5 (g0 a s b) o8 ir vj:=by
   have rz:g0 a s b=⟨a.leaf,J9++b.keys,a.vals++b.vals,a.kids++b.kids⟩:=by
     unfold g0
     cases df:a.leaf with
     |true=>
       have zO:a.kids=[]:=by
         rcases nK with h|h
         · exact h.kids
         · have:=h.inner;rw[df] at this;cases this
       have x4:b.kids=[]:=by
         rcases dc with h|h
         · exact h.kids
         · have:=h.inner;rw[←az,df] at this;cases this
       rw[NN,df,zO,x4]
       simp
     |false=>
       have zO:a.vals=[]:=by
         rcases nK with h|h
         · have:=h.leaf;rw[df] at this;cases this
         · exact h.vals
       have x4:b.vals=[]:=by
         rcases dc with h|h
         · have:=h.leaf;rw[←az,df] at this;cases this
         · exact h.vals
       rw[NN,df,zO,x4]
       simp
   rw[rz]
   refine ⟨bU.bw ajv fun q _ J=> ?_,bU.bw ajw fun q _ J=> ?_,eF.bw (eF.an (B:=fun q=>(cg q∨C q∨bF.heap.size≤q)∧q≠cR) (eF.bw bm fun q _ J=>⟨J,?_⟩) tV fun q J h=>J.2 h) fun q _ J=> ?_⟩
   · rcases J.1 with h|h|h
     · exact (U.bO _ h).1
     · exact (nI _ h).1
     · omega
   · rcases J.1 with h|h|h
     · exact (U.bv _ h).1
     · exact (nI _ h).1
     · omega
   · rcases J with h|h|h
     · exact (U.a8 _ h).2.2
     · exact (nI _ h).2.2.1
     · omega
   · rcases J.1 with h|h|h
     · exact (U.a8 _ h).1
     · exact (nI _ h).1
     · omega
 obtain ⟨cA,bd,bc,a_⟩:=cj YB
 rw[aV] at bd bc a_
 have GD:(g0 a s b).keys.length≤20001:=by
   unfold g0
   split
   · show (a.keys++b.keys).length≤_;rw[eu];omega
   · show (a.keys++s::b.keys).length≤_;rw[eu,oB];omega
 have BY:(g0 a s b).vals.length≤20001:=by
   unfold g0
   split
   · show (a.vals++b.vals).length≤_;rw[eu];omega
   · simp
 have z_:(g0 a s b).kids.length≤20002:=by
   unfold g0
   split
   · simp
   · show (a.kids++b.kids).length≤_;rw[eu];omega
 have n6:(g0 a s b).leaf=a.leaf:=W5
 repeat rw[aV]
 refine ⟨_,cA,o8,bd,ir,bc,vj,a_,?_⟩
 have wz:=nG G_ (by omega) (by omega) (by omega)
 unfold e5 at wz
 rw[n6] at wz
 refine wz.use ?_
 rintro _ b9 ⟨Ny,rfl,Ha,g3⟩
 have:=Ha.2 aj
 subst this
 obtain ⟨cA,bd,bc,a_⟩:=cj (YB.ext g3)
 rw[aV] at bd bc a_
 have Cz:=rq a.leaf o8 ir vj (RV.ext g3) R1 (Q:=fun jh K V D aw=>EM (g0 a s b) w (.tuple #[.agg #[.bool jh, .slice K.a K.len K.cap, .slice V.a V.len V.cap, .slice D.a D.len D.cap], .bool true]) aw) fun bR hM=>⟨o8,ir,vj,by unfold e5;rw[n6],((G_.ext g3).an hM fun q J e=>by omega).bw fun q _ J=>by omega,Ext.e3 (r9.trans g3) hM mq⟩
 repeat rw[aV] at Cz
 exact ⟨true,rfl,fun h=>(by cases h),fun _=>⟨_,cA,o8,bd,ir,bc,vj,a_,Cz⟩⟩
theorem qd {NO NP:Nat→Prop} {w:World} {a b:aL} {wW wX wY wZ w0 w1 key:aa} {s:Key} (aS:b8 NO w a wW wX wY) (ab:b8 NP w b wZ w0 w1) (ae:Src 1 w key (bg s)) (vk:∀q,aR key q→q<w.heap.size) (gA:s.length≤1000) (nK:dX a) (dc:dX b) (az:a.leaf=b.leaf) (aj:dX (g0 a s b))
   (di:a.keys.length≤10000) (c_:b.keys.length≤10000):
   aQ Tryz.prog F.qd #[e5 a wW wX wY, .slice key.a key.len key.cap,e5 b wZ w0 w1] w (EM (g0 a s b) w):=by
 have J8:∀ {n:aL},dX n→n.keys.length≤10000→n.vals.length≤10000∧n.kids.length≤10001:=fun {n} U ad=>by
   rcases U with U|U
   · rw[U.len,U.kids];exact ⟨ad,fx _⟩
   · rw[U.len,U.vals];exact ⟨fx _,by omega⟩
 obtain ⟨ajm,Eo⟩:=J8 nK di
 obtain ⟨z9,Ep⟩:=J8 dc c_
 have Ka:∀k∈a.keys,k.length≤100000:=fun k ae=>by have:=(nK.keys.ok k ae).2;omega
 have w2:∀k∈b.keys,k.length≤100000:=fun k ae=>by have:=(dc.keys.ok k ae).2;omega
 have Kb:∀k∈a.vals,k.length≤100000:=fun k ae=>by have:=nK.vals k ae;omega
 have w3:∀k∈b.vals,k.length≤100000:=fun k ae=>by have:=dc.vals k ae;omega
 refine W.ajx a.leaf wW wX wY key b.leaf wZ w0 w1 w _ ?_
 (delta W.qd dt bP ai aq a_ GZ aE G0 JN ji cT dL NQ st JO EV;dsimp only)
 refine cp (vs:=[.bool a.leaf, .slice wW.a wW.len wW.cap, .slice wX.a wX.len wX.cap, .slice wY.a wY.len wY.cap]) rfl fun ag gd bz nf=> ?_
 refine cp (vs:=[.bool b.leaf, .slice wZ.a wZ.len wZ.cap, .slice w0.a w0.len w0.cap, .slice w1.a w1.len w1.cap]) rfl fun aw g9 cv uT=> ?_
 refine cp (vs:=[.bool false, .slice none 0 0, .slice none 0 0, .slice none 0 0]) rfl fun aZ yu eO EN=> ?_
 have hL:=bz.trans (cv.trans eO)
 obtain ⟨cA,bd,bc,a_⟩:=cj (gd.ext (cv.trans eO))
 refine ⟨_,cA,wW,bd,wX,bc,wY,a_,(nG (aS.ext hL) (by omega) (by omega) (by omega)).use ?_⟩
 rintro _ br ⟨cX,rfl,oc,fo⟩
 have:=oc.2 nK
 subst this
 have tK:=hL.trans fo
 obtain ⟨d0,d1,d2,d3⟩:=cj (g9.ext (eO.trans fo))
 refine ⟨true,rfl,e4 (fun b w'=>b=false∧Ext br w') (fun q J=>⟨fun h=>(by cases h),fun _=>⟨_,d0,wZ,d1,w0,d2,w1,d3,(nG (ab.ext tK) (by omega) (by omega) (by omega)).use ?_⟩⟩) ?_⟩
 · rintro _ bF ⟨cy,rfl,g2,kG⟩
   have:=g2.2 dc
   subst this
   exact ⟨true,rfl,J _ _ ⟨rfl,kG⟩⟩
 rintro _ bF ⟨rfl,kG⟩
 have qC:=tK.trans kG
 obtain ⟨cA,bd,bc,a_⟩:=cj (gd.ext (cv.trans (eO.trans (fo.trans kG))))
 obtain ⟨d0,d1,d2,d3⟩:=cj (g9.ext (eO.trans (fo.trans kG)))
 refine e4 (fun b w'=>b=false∧bF=w') (fun q J=>⟨fun h=>(by cases h),fun _=>⟨_,cA,_,d0,J _ _ ⟨by rw[az];simp,rfl⟩⟩⟩) ?_
 rintro _ _ ⟨rfl,rfl⟩
 have bx:=eE bF
 have YC:=qC.trans bx
 obtain ⟨my,EW⟩:∃my,my=bF.drew:=⟨_,rfl⟩
 have tW:Var my w.heap.size [.bool a.leaf, .slice wW.a wW.len wW.cap, .slice wX.a wX.len wX.cap, .slice wY.a wY.len wY.cap] ah.cF:=by rw[EW];exact (gd.ext (cv.trans (eO.trans (fo.trans kG)))).ext bx
 have ajy:Var my ag.heap.size [.bool b.leaf, .slice wZ.a wZ.len wZ.cap, .slice w0.a w0.len w0.cap, .slice w1.a w1.len w1.cap] ah.cF:=by rw[EW];exact (g9.ext (eO.trans (fo.trans kG))).ext bx
 have vl:Var my aw.heap.size [.bool false, .slice none 0 0, .slice none 0 0, .slice none 0 0] ah.cF:=by rw[EW];exact (yu.ext (fo.trans kG)).ext bx
 have l9:Ext w my:=by rw[EW];exact YC
 have atK:aZ.heap.size≤my.heap.size:=by rw[EW];exact (fo.trans kG).size
 have Kc:=aS.ext l9
 have qQ:=ab.ext l9
 have kZ:=ae.ext l9
 obtain ⟨lo,mq⟩:∃lo,lo=my.heap.size:=⟨_,rfl⟩
 rw[←EW]
 clear cA bd bc a_ d0 d1 d2 d3 EW YC bx
 obtain ⟨cA,bd,bc,a_⟩:=cj tW
 obtain ⟨d0,d1,d2,d3⟩:=cj ajy
 refine ⟨fun h=>(by cases h),fun _=>bM ⟨fun _=>False,id,_,cA,wW,bd,wX,bc,wY,a_,id,_,d0,wZ,d1,w0,d2,w1,d3,?_⟩⟩
 refine ⟨?_,?_,?_⟩
 · refine (fE Kc (by omega) (by omega) (by omega) Ka Kb).use ?_
   rintro _ j7 ⟨eL,ei,dT,lL,lM,lN,rfl,bN,aA⟩
   refine ⟨_,eL,ei,dT,rfl,aA,?_⟩
   have s1:=aA.size
   refine ⟨?_,?_,?_⟩
   · refine (fE (qQ.ext aA) (by omega) (by omega) (by omega) w2 w3).use ?_
     rintro _ ja ⟨dG,dH,dI,yJ,yK,yL,rfl,iu,aF⟩
     refine ⟨_,dG,dH,dI,rfl,aF,?_⟩
     have s2:=aF.size
     refine ⟨?_,?_⟩
     · refine cp (vs:=[.bool false, .slice none 0 0, .slice none 0 0, .slice none 0 0]) rfl fun iw mx aJ yf=>⟨aJ,?_⟩
       have bQ:=aJ.size
       refine cp (vs:=[.bool false, .slice none 0 0, .slice none 0 0, .slice none 0 0]) rfl fun jN rA aO CA=>⟨aO,?_⟩
       have cB:=aO.size
       have jO:=mx.ext aO
       have nL:=rA
       refine ⟨jO.dr rfl (ln _ _ _ _),rfl,ec jO (us:=[.bool a.leaf, .slice eL.a eL.len eL.cap, .slice ei.a ei.len ei.cap, .slice dT.a dT.len dT.cap]) rfl rfl fun w4 iC dO t5=> ?_⟩
       have jP:=nL.an dO (by omega)
       refine ⟨jP.dr rfl (ln _ _ _ _),rfl,ec jP (us:=[.bool b.leaf, .slice dG.a dG.len dG.cap, .slice dH.a dH.len dH.cap, .slice dI.a dI.len dI.cap]) rfl rfl fun fq i_ ft t6=> ?_⟩
       obtain ⟨cR,ie⟩:∃cR,cR=ja.heap.size:=⟨_,rfl⟩
       obtain ⟨aK,e8⟩:∃aK,aK=iw.heap.size:=⟨_,rfl⟩
       rw[←ie] at iC dO
       rw[←e8] at i_ ft
       rw[←ie,←e8]
       have dz:ao (fun q=>q=cR∨q=aK) jN fq:=(dO.mono fun q _ h=> .inl h).trans (ft.mono fun q _ h=> .inr h)
       have nM:jM lo fq a eL ei dT lL lM lN:=(((bN.ext (aF.trans (aJ.trans (aO)))).an dz fun q _ _ J e=>by have ru:my.heap.size≤q∧q<j7.heap.size:=(by rcases J with J|J|J;exact ⟨(bN.bO q J).1,(bN.bO q J).2.1⟩;exact ⟨(bN.bv q J).1,(bN.bv q J).2.1⟩;exact bN.a8 q J);omega).low (by omega))
       have nN:b8 (fun q=>j7.heap.size≤q∧q<ja.heap.size) fq b dG dH dI:=((iu.at.bw fun q U ad=>⟨ad,U⟩).ext (aJ.trans (aO))).an dz fun q J e=>by omega
       have fu:∀q,lL q∨lM q∨lN q→my.heap.size≤q∧q<j7.heap.size:=fun q J=>by
         rcases J with J|J|J
         · exact ⟨(bN.bO q J).1,(bN.bO q J).2.1⟩
         · exact ⟨(bN.bv q J).1,(bN.bv q J).2.1⟩
         · exact bN.a8 q J
       exact vh (lo:=lo) (eY:=fq) (C:=fun q=>j7.heap.size≤q∧q<ja.heap.size) ((tW.ext (aA.trans (aF.trans (aJ.trans aO)))).an dz (by omega)).cell (iC.an ft (by omega)) i_ nM nN (fun q J=>⟨by omega,by omega,by omega,by omega,fun h=>(by have:=fu q (.inl h);omega),fun h=>(by have:=fu q (.inr (.inl h));omega),fun h=>(by have:=fu q (.inr (.inr h));omega)⟩) (fun q J=>(by have:=fu q J;exact ⟨by omega,by omega⟩)) (by omega) (by omega) (by omega) ((vl.ext (aA.trans (aF.trans (aJ.trans aO)))).an dz (by omega)) rfl (by omega) (by omega) ((kZ.ext (aA.trans (aF.trans (aJ.trans aO)))).an dz fun q J e=>(by have:=vk q J;have:=l9.size;omega)) gA (Ext.gr (l9.trans (aA.trans (aF.trans (aJ.trans aO)))) dz fun q J=>by omega) aj az nK dc di c_
     · refine cp (vs:=[.bool false, .slice none 0 0, .slice none 0 0, .slice none 0 0]) rfl fun iw mx aJ yf=>⟨aJ,?_⟩
       have bQ:=aJ.size
       refine cp (vs:=[.bool false, .slice none 0 0, .slice none 0 0, .slice none 0 0]) rfl fun jN rA aO CA=>⟨aO,?_⟩
       have cB:=aO.size
       have jO:=rA
       have nL:=mx.ext aO
       refine ⟨jO.dr rfl (ln _ _ _ _),rfl,ec jO (us:=[.bool a.leaf, .slice eL.a eL.len eL.cap, .slice ei.a ei.len ei.cap, .slice dT.a dT.len dT.cap]) rfl rfl fun w4 iC dO t5=> ?_⟩
       have jP:=nL.an dO (by omega)
       refine ⟨jP.dr rfl (ln _ _ _ _),rfl,ec jP (us:=[.bool b.leaf, .slice dG.a dG.len dG.cap, .slice dH.a dH.len dH.cap, .slice dI.a dI.len dI.cap]) rfl rfl fun fq i_ ft t6=> ?_⟩
       obtain ⟨cR,ie⟩:∃cR,cR=iw.heap.size:=⟨_,rfl⟩
       obtain ⟨aK,e8⟩:∃aK,aK=ja.heap.size:=⟨_,rfl⟩
       rw[←ie] at iC dO
       rw[←e8] at i_ ft
       rw[←ie,←e8]
       have dz:ao (fun q=>q=cR∨q=aK) jN fq:=(dO.mono fun q _ h=> .inl h).trans (ft.mono fun q _ h=> .inr h)
       have nM:jM lo fq a eL ei dT lL lM lN:=(((bN.ext (aF.trans (aJ.trans (aO)))).an dz fun q _ _ J e=>by have ru:my.heap.size≤q∧q<j7.heap.size:=(by rcases J with J|J|J;exact ⟨(bN.bO q J).1,(bN.bO q J).2.1⟩;exact ⟨(bN.bv q J).1,(bN.bv q J).2.1⟩;exact bN.a8 q J);omega).low (by omega))
       have nN:b8 (fun q=>j7.heap.size≤q∧q<ja.heap.size) fq b dG dH dI:=((iu.at.bw fun q U ad=>⟨ad,U⟩).ext (aJ.trans (aO))).an dz fun q J e=>by omega
       have fu:∀q,lL q∨lM q∨lN q→my.heap.size≤q∧q<j7.heap.size:=fun q J=>by
         rcases J with J|J|J
         · exact ⟨(bN.bO q J).1,(bN.bO q J).2.1⟩
         · exact ⟨(bN.bv q J).1,(bN.bv q J).2.1⟩
         · exact bN.a8 q J
       exact vh (lo:=lo) (eY:=fq) (C:=fun q=>j7.heap.size≤q∧q<ja.heap.size) ((tW.ext (aA.trans (aF.trans (aJ.trans aO)))).an dz (by omega)).cell (iC.an ft (by omega)) i_ nM nN (fun q J=>⟨by omega,by omega,by omega,by omega,fun h=>(by have:=fu q (.inl h);omega),fun h=>(by have:=fu q (.inr (.inl h));omega),fun h=>(by have:=fu q (.inr (.inr h));omega)⟩) (fun q J=>(by have:=fu q J;exact ⟨by omega,by omega⟩)) (by omega) (by omega) (by omega) ((vl.ext (aA.trans (aF.trans (aJ.trans aO)))).an dz (by omega)) rfl (by omega) (by omega) ((kZ.ext (aA.trans (aF.trans (aJ.trans aO)))).an dz fun q J e=>(by have:=vk q J;have:=l9.size;omega)) gA (Ext.gr (l9.trans (aA.trans (aF.trans (aJ.trans aO)))) dz fun q J=>by omega) aj az nK dc di c_
   · refine cp (vs:=[.bool false, .slice none 0 0, .slice none 0 0, .slice none 0 0]) rfl fun ja g1 aF pD=>⟨aF,?_⟩
     have s2:=aF.size
     refine ⟨?_,?_⟩
     · refine (fE (qQ.ext (aA.trans (aF))) (by omega) (by omega) (by omega) w2 w3).use ?_
       rintro _ iw ⟨dG,dH,dI,yJ,yK,yL,rfl,iu,aJ⟩
       refine ⟨_,dG,dH,dI,rfl,aJ,?_⟩
       have bQ:=aJ.size
       refine cp (vs:=[.bool false, .slice none 0 0, .slice none 0 0, .slice none 0 0]) rfl fun jN rA aO CA=>⟨aO,?_⟩
       have cB:=aO.size
       have jO:=g1.ext (aJ.trans (aO))
       have nL:=rA
       refine ⟨jO.dr rfl (ln _ _ _ _),rfl,ec jO (us:=[.bool a.leaf, .slice eL.a eL.len eL.cap, .slice ei.a ei.len ei.cap, .slice dT.a dT.len dT.cap]) rfl rfl fun w4 iC dO t5=> ?_⟩
       have jP:=nL.an dO (by omega)
       refine ⟨jP.dr rfl (ln _ _ _ _),rfl,ec jP (us:=[.bool b.leaf, .slice dG.a dG.len dG.cap, .slice dH.a dH.len dH.cap, .slice dI.a dI.len dI.cap]) rfl rfl fun fq i_ ft t6=> ?_⟩
       obtain ⟨cR,ie⟩:∃cR,cR=j7.heap.size:=⟨_,rfl⟩
       obtain ⟨aK,e8⟩:∃aK,aK=iw.heap.size:=⟨_,rfl⟩
       rw[←ie] at iC dO
       rw[←e8] at i_ ft
       rw[←ie,←e8]
       have dz:ao (fun q=>q=cR∨q=aK) jN fq:=(dO.mono fun q _ h=> .inl h).trans (ft.mono fun q _ h=> .inr h)
       have nM:jM lo fq a eL ei dT lL lM lN:=(((bN.ext (aF.trans (aJ.trans (aO)))).an dz fun q _ _ J e=>by have ru:my.heap.size≤q∧q<j7.heap.size:=(by rcases J with J|J|J;exact ⟨(bN.bO q J).1,(bN.bO q J).2.1⟩;exact ⟨(bN.bv q J).1,(bN.bv q J).2.1⟩;exact bN.a8 q J);omega).low (by omega))
       have nN:b8 (fun q=>ja.heap.size≤q∧q<iw.heap.size) fq b dG dH dI:=((iu.at.bw fun q U ad=>⟨ad,U⟩).ext aO).an dz fun q J e=>by omega
       have fu:∀q,lL q∨lM q∨lN q→my.heap.size≤q∧q<j7.heap.size:=fun q J=>by
         rcases J with J|J|J
         · exact ⟨(bN.bO q J).1,(bN.bO q J).2.1⟩
         · exact ⟨(bN.bv q J).1,(bN.bv q J).2.1⟩
         · exact bN.a8 q J
       exact vh (lo:=lo) (eY:=fq) (C:=fun q=>ja.heap.size≤q∧q<iw.heap.size) ((tW.ext (aA.trans (aF.trans (aJ.trans aO)))).an dz (by omega)).cell (iC.an ft (by omega)) i_ nM nN (fun q J=>⟨by omega,by omega,by omega,by omega,fun h=>(by have:=fu q (.inl h);omega),fun h=>(by have:=fu q (.inr (.inl h));omega),fun h=>(by have:=fu q (.inr (.inr h));omega)⟩) (fun q J=>(by have:=fu q J;exact ⟨by omega,by omega⟩)) (by omega) (by omega) (by omega) ((vl.ext (aA.trans (aF.trans (aJ.trans aO)))).an dz (by omega)) rfl (by omega) (by omega) ((kZ.ext (aA.trans (aF.trans (aJ.trans aO)))).an dz fun q J e=>(by have:=vk q J;have:=l9.size;omega)) gA (Ext.gr (l9.trans (aA.trans (aF.trans (aJ.trans aO)))) dz fun q J=>by omega) aj az nK dc di c_
     · refine cp (vs:=[.bool false, .slice none 0 0, .slice none 0 0, .slice none 0 0]) rfl fun iw mx aJ yf=>⟨aJ,?_⟩
       have bQ:=aJ.size
       refine (fE (qQ.ext (aA.trans (aF.trans (aJ)))) (by omega) (by omega) (by omega) w2 w3).use ?_
       rintro _ jN ⟨dG,dH,dI,yJ,yK,yL,rfl,iu,aO⟩
       refine ⟨_,dG,dH,dI,rfl,aO,?_⟩
       have cB:=aO.size
       have jO:=g1.ext (aJ.trans (aO))
       have nL:=mx.ext aO
       refine ⟨jO.dr rfl (ln _ _ _ _),rfl,ec jO (us:=[.bool a.leaf, .slice eL.a eL.len eL.cap, .slice ei.a ei.len ei.cap, .slice dT.a dT.len dT.cap]) rfl rfl fun w4 iC dO t5=> ?_⟩
       have jP:=nL.an dO (by omega)
       refine ⟨jP.dr rfl (ln _ _ _ _),rfl,ec jP (us:=[.bool b.leaf, .slice dG.a dG.len dG.cap, .slice dH.a dH.len dH.cap, .slice dI.a dI.len dI.cap]) rfl rfl fun fq i_ ft t6=> ?_⟩
       obtain ⟨cR,ie⟩:∃cR,cR=j7.heap.size:=⟨_,rfl⟩
       obtain ⟨aK,e8⟩:∃aK,aK=ja.heap.size:=⟨_,rfl⟩
       rw[←ie] at iC dO
       rw[←e8] at i_ ft
       rw[←ie,←e8]
       have dz:ao (fun q=>q=cR∨q=aK) jN fq:=(dO.mono fun q _ h=> .inl h).trans (ft.mono fun q _ h=> .inr h)
       have nM:jM lo fq a eL ei dT lL lM lN:=(((bN.ext (aF.trans (aJ.trans (aO)))).an dz fun q _ _ J e=>by have ru:my.heap.size≤q∧q<j7.heap.size:=(by rcases J with J|J|J;exact ⟨(bN.bO q J).1,(bN.bO q J).2.1⟩;exact ⟨(bN.bv q J).1,(bN.bv q J).2.1⟩;exact bN.a8 q J);omega).low (by omega))
       have nN:b8 (fun q=>iw.heap.size≤q∧q<jN.heap.size) fq b dG dH dI:=(iu.at.bw fun q U ad=>⟨ad,U⟩).an dz fun q J e=>by omega
       have fu:∀q,lL q∨lM q∨lN q→my.heap.size≤q∧q<j7.heap.size:=fun q J=>by
         rcases J with J|J|J
         · exact ⟨(bN.bO q J).1,(bN.bO q J).2.1⟩
         · exact ⟨(bN.bv q J).1,(bN.bv q J).2.1⟩
         · exact bN.a8 q J
       exact vh (lo:=lo) (eY:=fq) (C:=fun q=>iw.heap.size≤q∧q<jN.heap.size) ((tW.ext (aA.trans (aF.trans (aJ.trans aO)))).an dz (by omega)).cell (iC.an ft (by omega)) i_ nM nN (fun q J=>⟨by omega,by omega,by omega,by omega,fun h=>(by have:=fu q (.inl h);omega),fun h=>(by have:=fu q (.inr (.inl h));omega),fun h=>(by have:=fu q (.inr (.inr h));omega)⟩) (fun q J=>(by have:=fu q J;exact ⟨by omega,by omega⟩)) (by omega) (by omega) (by omega) ((vl.ext (aA.trans (aF.trans (aJ.trans aO)))).an dz (by omega)) rfl (by omega) (by omega) ((kZ.ext (aA.trans (aF.trans (aJ.trans aO)))).an dz fun q J e=>(by have:=vk q J;have:=l9.size;omega)) gA (Ext.gr (l9.trans (aA.trans (aF.trans (aJ.trans aO)))) dz fun q J=>by omega) aj az nK dc di c_
   · refine cp (vs:=[.bool false, .slice none 0 0, .slice none 0 0, .slice none 0 0]) rfl fun ja g1 aF pD=>⟨aF,?_⟩
     have s2:=aF.size
     refine ⟨?_,?_⟩
     · refine (fE (qQ.ext (aA.trans (aF))) (by omega) (by omega) (by omega) w2 w3).use ?_
       rintro _ iw ⟨dG,dH,dI,yJ,yK,yL,rfl,iu,aJ⟩
       refine ⟨_,dG,dH,dI,rfl,aJ,?_⟩
       have bQ:=aJ.size
       refine cp (vs:=[.bool false, .slice none 0 0, .slice none 0 0, .slice none 0 0]) rfl fun jN rA aO CA=>⟨aO,?_⟩
       have cB:=aO.size
       have jO:=rA
       have nL:=g1.ext (aJ.trans (aO))
       refine ⟨jO.dr rfl (ln _ _ _ _),rfl,ec jO (us:=[.bool a.leaf, .slice eL.a eL.len eL.cap, .slice ei.a ei.len ei.cap, .slice dT.a dT.len dT.cap]) rfl rfl fun w4 iC dO t5=> ?_⟩
       have jP:=nL.an dO (by omega)
       refine ⟨jP.dr rfl (ln _ _ _ _),rfl,ec jP (us:=[.bool b.leaf, .slice dG.a dG.len dG.cap, .slice dH.a dH.len dH.cap, .slice dI.a dI.len dI.cap]) rfl rfl fun fq i_ ft t6=> ?_⟩
       obtain ⟨cR,ie⟩:∃cR,cR=iw.heap.size:=⟨_,rfl⟩
       obtain ⟨aK,e8⟩:∃aK,aK=j7.heap.size:=⟨_,rfl⟩
       rw[←ie] at iC dO
       rw[←e8] at i_ ft
       rw[←ie,←e8]
       have dz:ao (fun q=>q=cR∨q=aK) jN fq:=(dO.mono fun q _ h=> .inl h).trans (ft.mono fun q _ h=> .inr h)
       have nM:jM lo fq a eL ei dT lL lM lN:=(((bN.ext (aF.trans (aJ.trans (aO)))).an dz fun q _ _ J e=>by have ru:my.heap.size≤q∧q<j7.heap.size:=(by rcases J with J|J|J;exact ⟨(bN.bO q J).1,(bN.bO q J).2.1⟩;exact ⟨(bN.bv q J).1,(bN.bv q J).2.1⟩;exact bN.a8 q J);omega).low (by omega))
       have nN:b8 (fun q=>ja.heap.size≤q∧q<iw.heap.size) fq b dG dH dI:=((iu.at.bw fun q U ad=>⟨ad,U⟩).ext aO).an dz fun q J e=>by omega
       have fu:∀q,lL q∨lM q∨lN q→my.heap.size≤q∧q<j7.heap.size:=fun q J=>by
         rcases J with J|J|J
         · exact ⟨(bN.bO q J).1,(bN.bO q J).2.1⟩
         · exact ⟨(bN.bv q J).1,(bN.bv q J).2.1⟩
         · exact bN.a8 q J
       exact vh (lo:=lo) (eY:=fq) (C:=fun q=>ja.heap.size≤q∧q<iw.heap.size) ((tW.ext (aA.trans (aF.trans (aJ.trans aO)))).an dz (by omega)).cell (iC.an ft (by omega)) i_ nM nN (fun q J=>⟨by omega,by omega,by omega,by omega,fun h=>(by have:=fu q (.inl h);omega),fun h=>(by have:=fu q (.inr (.inl h));omega),fun h=>(by have:=fu q (.inr (.inr h));omega)⟩) (fun q J=>(by have:=fu q J;exact ⟨by omega,by omega⟩)) (by omega) (by omega) (by omega) ((vl.ext (aA.trans (aF.trans (aJ.trans aO)))).an dz (by omega)) rfl (by omega) (by omega) ((kZ.ext (aA.trans (aF.trans (aJ.trans aO)))).an dz fun q J e=>(by have:=vk q J;have:=l9.size;omega)) gA (Ext.gr (l9.trans (aA.trans (aF.trans (aJ.trans aO)))) dz fun q J=>by omega) aj az nK dc di c_
     · refine cp (vs:=[.bool false, .slice none 0 0, .slice none 0 0, .slice none 0 0]) rfl fun iw mx aJ yf=>⟨aJ,?_⟩
       have bQ:=aJ.size
       refine (fE (qQ.ext (aA.trans (aF.trans (aJ)))) (by omega) (by omega) (by omega) w2 w3).use ?_
       rintro _ jN ⟨dG,dH,dI,yJ,yK,yL,rfl,iu,aO⟩
       refine ⟨_,dG,dH,dI,rfl,aO,?_⟩
       have cB:=aO.size
       have jO:=mx.ext aO
       have nL:=g1.ext (aJ.trans (aO))
       refine ⟨jO.dr rfl (ln _ _ _ _),rfl,ec jO (us:=[.bool a.leaf, .slice eL.a eL.len eL.cap, .slice ei.a ei.len ei.cap, .slice dT.a dT.len dT.cap]) rfl rfl fun w4 iC dO t5=> ?_⟩
       have jP:=nL.an dO (by omega)
       refine ⟨jP.dr rfl (ln _ _ _ _),rfl,ec jP (us:=[.bool b.leaf, .slice dG.a dG.len dG.cap, .slice dH.a dH.len dH.cap, .slice dI.a dI.len dI.cap]) rfl rfl fun fq i_ ft t6=> ?_⟩
       obtain ⟨cR,ie⟩:∃cR,cR=ja.heap.size:=⟨_,rfl⟩
       obtain ⟨aK,e8⟩:∃aK,aK=j7.heap.size:=⟨_,rfl⟩
       rw[←ie] at iC dO
       rw[←e8] at i_ ft
       rw[←ie,←e8]
       have dz:ao (fun q=>q=cR∨q=aK) jN fq:=(dO.mono fun q _ h=> .inl h).trans (ft.mono fun q _ h=> .inr h)
       have nM:jM lo fq a eL ei dT lL lM lN:=(((bN.ext (aF.trans (aJ.trans (aO)))).an dz fun q _ _ J e=>by have ru:my.heap.size≤q∧q<j7.heap.size:=(by rcases J with J|J|J;exact ⟨(bN.bO q J).1,(bN.bO q J).2.1⟩;exact ⟨(bN.bv q J).1,(bN.bv q J).2.1⟩;exact bN.a8 q J);omega).low (by omega))
       have nN:b8 (fun q=>iw.heap.size≤q∧q<jN.heap.size) fq b dG dH dI:=(iu.at.bw fun q U ad=>⟨ad,U⟩).an dz fun q J e=>by omega
       have fu:∀q,lL q∨lM q∨lN q→my.heap.size≤q∧q<j7.heap.size:=fun q J=>by
         rcases J with J|J|J
         · exact ⟨(bN.bO q J).1,(bN.bO q J).2.1⟩
         · exact ⟨(bN.bv q J).1,(bN.bv q J).2.1⟩
         · exact bN.a8 q J
       exact vh (lo:=lo) (eY:=fq) (C:=fun q=>iw.heap.size≤q∧q<jN.heap.size) ((tW.ext (aA.trans (aF.trans (aJ.trans aO)))).an dz (by omega)).cell (iC.an ft (by omega)) i_ nM nN (fun q J=>⟨by omega,by omega,by omega,by omega,fun h=>(by have:=fu q (.inl h);omega),fun h=>(by have:=fu q (.inr (.inl h));omega),fun h=>(by have:=fu q (.inr (.inr h));omega)⟩) (fun q J=>(by have:=fu q J;exact ⟨by omega,by omega⟩)) (by omega) (by omega) (by omega) ((vl.ext (aA.trans (aF.trans (aJ.trans aO)))).an dz (by omega)) rfl (by omega) (by omega) ((kZ.ext (aA.trans (aF.trans (aJ.trans aO)))).an dz fun q J e=>(by have:=vk q J;have:=l9.size;omega)) gA (Ext.gr (l9.trans (aA.trans (aF.trans (aJ.trans aO)))) dz fun q J=>by omega) aj az nK dc di c_
 · refine cp (vs:=[.bool false, .slice none 0 0, .slice none 0 0, .slice none 0 0]) rfl fun j7 lj aA dt=>⟨aA,?_⟩
   have s1:=aA.size
   refine ⟨?_,?_⟩
   · refine (fE (Kc.ext aA) (by omega) (by omega) (by omega) Ka Kb).use ?_
     rintro _ ja ⟨eL,ei,dT,lL,lM,lN,rfl,bN,aF⟩
     refine ⟨_,eL,ei,dT,rfl,aF,?_⟩
     have s2:=aF.size
     refine ⟨?_,?_⟩
     · refine (fE (qQ.ext (aA.trans (aF))) (by omega) (by omega) (by omega) w2 w3).use ?_
       rintro _ iw ⟨dG,dH,dI,yJ,yK,yL,rfl,iu,aJ⟩
       refine ⟨_,dG,dH,dI,rfl,aJ,?_⟩
       have bQ:=aJ.size
       refine cp (vs:=[.bool false, .slice none 0 0, .slice none 0 0, .slice none 0 0]) rfl fun jN rA aO CA=>⟨aO,?_⟩
       have cB:=aO.size
       have jO:=lj.ext (aF.trans (aJ.trans (aO)))
       have nL:=rA
       refine ⟨jO.dr rfl (ln _ _ _ _),rfl,ec jO (us:=[.bool a.leaf, .slice eL.a eL.len eL.cap, .slice ei.a ei.len ei.cap, .slice dT.a dT.len dT.cap]) rfl rfl fun w4 iC dO t5=> ?_⟩
       have jP:=nL.an dO (by omega)
       refine ⟨jP.dr rfl (ln _ _ _ _),rfl,ec jP (us:=[.bool b.leaf, .slice dG.a dG.len dG.cap, .slice dH.a dH.len dH.cap, .slice dI.a dI.len dI.cap]) rfl rfl fun fq i_ ft t6=> ?_⟩
       obtain ⟨cR,ie⟩:∃cR,cR=my.heap.size:=⟨_,rfl⟩
       obtain ⟨aK,e8⟩:∃aK,aK=iw.heap.size:=⟨_,rfl⟩
       rw[←ie] at iC dO
       rw[←e8] at i_ ft
       rw[←ie,←e8]
       have dz:ao (fun q=>q=cR∨q=aK) jN fq:=(dO.mono fun q _ h=> .inl h).trans (ft.mono fun q _ h=> .inr h)
       have nM:jM lo fq a eL ei dT lL lM lN:=(((bN.ext (aJ.trans (aO))).an dz fun q _ _ J e=>by have ru:j7.heap.size≤q∧q<ja.heap.size:=(by rcases J with J|J|J;exact ⟨(bN.bO q J).1,(bN.bO q J).2.1⟩;exact ⟨(bN.bv q J).1,(bN.bv q J).2.1⟩;exact bN.a8 q J);omega).low (by omega))
       have nN:b8 (fun q=>ja.heap.size≤q∧q<iw.heap.size) fq b dG dH dI:=((iu.at.bw fun q U ad=>⟨ad,U⟩).ext aO).an dz fun q J e=>by omega
       have fu:∀q,lL q∨lM q∨lN q→j7.heap.size≤q∧q<ja.heap.size:=fun q J=>by
         rcases J with J|J|J
         · exact ⟨(bN.bO q J).1,(bN.bO q J).2.1⟩
         · exact ⟨(bN.bv q J).1,(bN.bv q J).2.1⟩
         · exact bN.a8 q J
       exact vh (lo:=lo) (eY:=fq) (C:=fun q=>ja.heap.size≤q∧q<iw.heap.size) ((tW.ext (aA.trans (aF.trans (aJ.trans aO)))).an dz (by omega)).cell (iC.an ft (by omega)) i_ nM nN (fun q J=>⟨by omega,by omega,by omega,by omega,fun h=>(by have:=fu q (.inl h);omega),fun h=>(by have:=fu q (.inr (.inl h));omega),fun h=>(by have:=fu q (.inr (.inr h));omega)⟩) (fun q J=>(by have:=fu q J;exact ⟨by omega,by omega⟩)) (by omega) (by omega) (by omega) ((vl.ext (aA.trans (aF.trans (aJ.trans aO)))).an dz (by omega)) rfl (by omega) (by omega) ((kZ.ext (aA.trans (aF.trans (aJ.trans aO)))).an dz fun q J e=>(by have:=vk q J;have:=l9.size;omega)) gA (Ext.gr (l9.trans (aA.trans (aF.trans (aJ.trans aO)))) dz fun q J=>by omega) aj az nK dc di c_
     · refine cp (vs:=[.bool false, .slice none 0 0, .slice none 0 0, .slice none 0 0]) rfl fun iw mx aJ yf=>⟨aJ,?_⟩
       have bQ:=aJ.size
       refine (fE (qQ.ext (aA.trans (aF.trans (aJ)))) (by omega) (by omega) (by omega) w2 w3).use ?_
       rintro _ jN ⟨dG,dH,dI,yJ,yK,yL,rfl,iu,aO⟩
       refine ⟨_,dG,dH,dI,rfl,aO,?_⟩
       have cB:=aO.size
       have jO:=lj.ext (aF.trans (aJ.trans (aO)))
       have nL:=mx.ext aO
       refine ⟨jO.dr rfl (ln _ _ _ _),rfl,ec jO (us:=[.bool a.leaf, .slice eL.a eL.len eL.cap, .slice ei.a ei.len ei.cap, .slice dT.a dT.len dT.cap]) rfl rfl fun w4 iC dO t5=> ?_⟩
       have jP:=nL.an dO (by omega)
       refine ⟨jP.dr rfl (ln _ _ _ _),rfl,ec jP (us:=[.bool b.leaf, .slice dG.a dG.len dG.cap, .slice dH.a dH.len dH.cap, .slice dI.a dI.len dI.cap]) rfl rfl fun fq i_ ft t6=> ?_⟩
       obtain ⟨cR,ie⟩:∃cR,cR=my.heap.size:=⟨_,rfl⟩
       obtain ⟨aK,e8⟩:∃aK,aK=ja.heap.size:=⟨_,rfl⟩
       rw[←ie] at iC dO
       rw[←e8] at i_ ft
       rw[←ie,←e8]
       have dz:ao (fun q=>q=cR∨q=aK) jN fq:=(dO.mono fun q _ h=> .inl h).trans (ft.mono fun q _ h=> .inr h)
       have nM:jM lo fq a eL ei dT lL lM lN:=(((bN.ext (aJ.trans (aO))).an dz fun q _ _ J e=>by have ru:j7.heap.size≤q∧q<ja.heap.size:=(by rcases J with J|J|J;exact ⟨(bN.bO q J).1,(bN.bO q J).2.1⟩;exact ⟨(bN.bv q J).1,(bN.bv q J).2.1⟩;exact bN.a8 q J);omega).low (by omega))
       have nN:b8 (fun q=>iw.heap.size≤q∧q<jN.heap.size) fq b dG dH dI:=(iu.at.bw fun q U ad=>⟨ad,U⟩).an dz fun q J e=>by omega
       have fu:∀q,lL q∨lM q∨lN q→j7.heap.size≤q∧q<ja.heap.size:=fun q J=>by
         rcases J with J|J|J
         · exact ⟨(bN.bO q J).1,(bN.bO q J).2.1⟩
         · exact ⟨(bN.bv q J).1,(bN.bv q J).2.1⟩
         · exact bN.a8 q J
       exact vh (lo:=lo) (eY:=fq) (C:=fun q=>iw.heap.size≤q∧q<jN.heap.size) ((tW.ext (aA.trans (aF.trans (aJ.trans aO)))).an dz (by omega)).cell (iC.an ft (by omega)) i_ nM nN (fun q J=>⟨by omega,by omega,by omega,by omega,fun h=>(by have:=fu q (.inl h);omega),fun h=>(by have:=fu q (.inr (.inl h));omega),fun h=>(by have:=fu q (.inr (.inr h));omega)⟩) (fun q J=>(by have:=fu q J;exact ⟨by omega,by omega⟩)) (by omega) (by omega) (by omega) ((vl.ext (aA.trans (aF.trans (aJ.trans aO)))).an dz (by omega)) rfl (by omega) (by omega) ((kZ.ext (aA.trans (aF.trans (aJ.trans aO)))).an dz fun q J e=>(by have:=vk q J;have:=l9.size;omega)) gA (Ext.gr (l9.trans (aA.trans (aF.trans (aJ.trans aO)))) dz fun q J=>by omega) aj az nK dc di c_
   · refine cp (vs:=[.bool false, .slice none 0 0, .slice none 0 0, .slice none 0 0]) rfl fun ja g1 aF pD=>⟨aF,?_⟩
     have s2:=aF.size
     refine (fE (Kc.ext (aA.trans (aF))) (by omega) (by omega) (by omega) Ka Kb).use ?_
     rintro _ iw ⟨eL,ei,dT,lL,lM,lN,rfl,bN,aJ⟩
     refine ⟨_,eL,ei,dT,rfl,aJ,?_⟩
     have bQ:=aJ.size
     refine (fE (qQ.ext (aA.trans (aF.trans (aJ)))) (by omega) (by omega) (by omega) w2 w3).use ?_
     rintro _ jN ⟨dG,dH,dI,yJ,yK,yL,rfl,iu,aO⟩
     refine ⟨_,dG,dH,dI,rfl,aO,?_⟩
     have cB:=aO.size
     have jO:=lj.ext (aF.trans (aJ.trans (aO)))
     have nL:=g1.ext (aJ.trans (aO))
     refine ⟨jO.dr rfl (ln _ _ _ _),rfl,ec jO (us:=[.bool a.leaf, .slice eL.a eL.len eL.cap, .slice ei.a ei.len ei.cap, .slice dT.a dT.len dT.cap]) rfl rfl fun w4 iC dO t5=> ?_⟩
     have jP:=nL.an dO (by omega)
     refine ⟨jP.dr rfl (ln _ _ _ _),rfl,ec jP (us:=[.bool b.leaf, .slice dG.a dG.len dG.cap, .slice dH.a dH.len dH.cap, .slice dI.a dI.len dI.cap]) rfl rfl fun fq i_ ft t6=> ?_⟩
     obtain ⟨cR,ie⟩:∃cR,cR=my.heap.size:=⟨_,rfl⟩
     obtain ⟨aK,e8⟩:∃aK,aK=j7.heap.size:=⟨_,rfl⟩
     rw[←ie] at iC dO
     rw[←e8] at i_ ft
     rw[←ie,←e8]
     have dz:ao (fun q=>q=cR∨q=aK) jN fq:=(dO.mono fun q _ h=> .inl h).trans (ft.mono fun q _ h=> .inr h)
     have nM:jM lo fq a eL ei dT lL lM lN:=(((bN.ext aO).an dz fun q _ _ J e=>by have ru:ja.heap.size≤q∧q<iw.heap.size:=(by rcases J with J|J|J;exact ⟨(bN.bO q J).1,(bN.bO q J).2.1⟩;exact ⟨(bN.bv q J).1,(bN.bv q J).2.1⟩;exact bN.a8 q J);omega).low (by omega))
     have nN:b8 (fun q=>iw.heap.size≤q∧q<jN.heap.size) fq b dG dH dI:=(iu.at.bw fun q U ad=>⟨ad,U⟩).an dz fun q J e=>by omega
     have fu:∀q,lL q∨lM q∨lN q→ja.heap.size≤q∧q<iw.heap.size:=fun q J=>by
       rcases J with J|J|J
       · exact ⟨(bN.bO q J).1,(bN.bO q J).2.1⟩
       · exact ⟨(bN.bv q J).1,(bN.bv q J).2.1⟩
       · exact bN.a8 q J
     exact vh (lo:=lo) (eY:=fq) (C:=fun q=>iw.heap.size≤q∧q<jN.heap.size) ((tW.ext (aA.trans (aF.trans (aJ.trans aO)))).an dz (by omega)).cell (iC.an ft (by omega)) i_ nM nN (fun q J=>⟨by omega,by omega,by omega,by omega,fun h=>(by have:=fu q (.inl h);omega),fun h=>(by have:=fu q (.inr (.inl h));omega),fun h=>(by have:=fu q (.inr (.inr h));omega)⟩) (fun q J=>(by have:=fu q J;exact ⟨by omega,by omega⟩)) (by omega) (by omega) (by omega) ((vl.ext (aA.trans (aF.trans (aJ.trans aO)))).an dz (by omega)) rfl (by omega) (by omega) ((kZ.ext (aA.trans (aF.trans (aJ.trans aO)))).an dz fun q J e=>(by have:=vk q J;have:=l9.size;omega)) gA (Ext.gr (l9.trans (aA.trans (aF.trans (aJ.trans aO)))) dz fun q J=>by omega) aj az nK dc di c_
 · refine cp (vs:=[.bool false, .slice none 0 0, .slice none 0 0, .slice none 0 0]) rfl fun j7 lj aA dt=>⟨aA,?_⟩
   have s1:=aA.size
   refine ⟨?_,?_⟩
   · refine (fE (Kc.ext aA) (by omega) (by omega) (by omega) Ka Kb).use ?_
     rintro _ ja ⟨eL,ei,dT,lL,lM,lN,rfl,bN,aF⟩
     refine ⟨_,eL,ei,dT,rfl,aF,?_⟩
     have s2:=aF.size
     refine ⟨?_,?_⟩
     · refine (fE (qQ.ext (aA.trans (aF))) (by omega) (by omega) (by omega) w2 w3).use ?_
       rintro _ iw ⟨dG,dH,dI,yJ,yK,yL,rfl,iu,aJ⟩
       refine ⟨_,dG,dH,dI,rfl,aJ,?_⟩
       have bQ:=aJ.size
       refine cp (vs:=[.bool false, .slice none 0 0, .slice none 0 0, .slice none 0 0]) rfl fun jN rA aO CA=>⟨aO,?_⟩
       have cB:=aO.size
       have jO:=rA
       have nL:=lj.ext (aF.trans (aJ.trans (aO)))
       refine ⟨jO.dr rfl (ln _ _ _ _),rfl,ec jO (us:=[.bool a.leaf, .slice eL.a eL.len eL.cap, .slice ei.a ei.len ei.cap, .slice dT.a dT.len dT.cap]) rfl rfl fun w4 iC dO t5=> ?_⟩
       have jP:=nL.an dO (by omega)
       refine ⟨jP.dr rfl (ln _ _ _ _),rfl,ec jP (us:=[.bool b.leaf, .slice dG.a dG.len dG.cap, .slice dH.a dH.len dH.cap, .slice dI.a dI.len dI.cap]) rfl rfl fun fq i_ ft t6=> ?_⟩
       obtain ⟨cR,ie⟩:∃cR,cR=iw.heap.size:=⟨_,rfl⟩
       obtain ⟨aK,e8⟩:∃aK,aK=my.heap.size:=⟨_,rfl⟩
       rw[←ie] at iC dO
       rw[←e8] at i_ ft
       rw[←ie,←e8]
       have dz:ao (fun q=>q=cR∨q=aK) jN fq:=(dO.mono fun q _ h=> .inl h).trans (ft.mono fun q _ h=> .inr h)
       have nM:jM lo fq a eL ei dT lL lM lN:=(((bN.ext (aJ.trans (aO))).an dz fun q _ _ J e=>by have ru:j7.heap.size≤q∧q<ja.heap.size:=(by rcases J with J|J|J;exact ⟨(bN.bO q J).1,(bN.bO q J).2.1⟩;exact ⟨(bN.bv q J).1,(bN.bv q J).2.1⟩;exact bN.a8 q J);omega).low (by omega))
       have nN:b8 (fun q=>ja.heap.size≤q∧q<iw.heap.size) fq b dG dH dI:=((iu.at.bw fun q U ad=>⟨ad,U⟩).ext aO).an dz fun q J e=>by omega
       have fu:∀q,lL q∨lM q∨lN q→j7.heap.size≤q∧q<ja.heap.size:=fun q J=>by
         rcases J with J|J|J
         · exact ⟨(bN.bO q J).1,(bN.bO q J).2.1⟩
         · exact ⟨(bN.bv q J).1,(bN.bv q J).2.1⟩
         · exact bN.a8 q J
       exact vh (lo:=lo) (eY:=fq) (C:=fun q=>ja.heap.size≤q∧q<iw.heap.size) ((tW.ext (aA.trans (aF.trans (aJ.trans aO)))).an dz (by omega)).cell (iC.an ft (by omega)) i_ nM nN (fun q J=>⟨by omega,by omega,by omega,by omega,fun h=>(by have:=fu q (.inl h);omega),fun h=>(by have:=fu q (.inr (.inl h));omega),fun h=>(by have:=fu q (.inr (.inr h));omega)⟩) (fun q J=>(by have:=fu q J;exact ⟨by omega,by omega⟩)) (by omega) (by omega) (by omega) ((vl.ext (aA.trans (aF.trans (aJ.trans aO)))).an dz (by omega)) rfl (by omega) (by omega) ((kZ.ext (aA.trans (aF.trans (aJ.trans aO)))).an dz fun q J e=>(by have:=vk q J;have:=l9.size;omega)) gA (Ext.gr (l9.trans (aA.trans (aF.trans (aJ.trans aO)))) dz fun q J=>by omega) aj az nK dc di c_
     · refine cp (vs:=[.bool false, .slice none 0 0, .slice none 0 0, .slice none 0 0]) rfl fun iw mx aJ yf=>⟨aJ,?_⟩
       have bQ:=aJ.size
       refine (fE (qQ.ext (aA.trans (aF.trans (aJ)))) (by omega) (by omega) (by omega) w2 w3).use ?_
       rintro _ jN ⟨dG,dH,dI,yJ,yK,yL,rfl,iu,aO⟩
       refine ⟨_,dG,dH,dI,rfl,aO,?_⟩
       have cB:=aO.size
       have jO:=mx.ext aO
       have nL:=lj.ext (aF.trans (aJ.trans (aO)))
       refine ⟨jO.dr rfl (ln _ _ _ _),rfl,ec jO (us:=[.bool a.leaf, .slice eL.a eL.len eL.cap, .slice ei.a ei.len ei.cap, .slice dT.a dT.len dT.cap]) rfl rfl fun w4 iC dO t5=> ?_⟩
       have jP:=nL.an dO (by omega)
       refine ⟨jP.dr rfl (ln _ _ _ _),rfl,ec jP (us:=[.bool b.leaf, .slice dG.a dG.len dG.cap, .slice dH.a dH.len dH.cap, .slice dI.a dI.len dI.cap]) rfl rfl fun fq i_ ft t6=> ?_⟩
       obtain ⟨cR,ie⟩:∃cR,cR=ja.heap.size:=⟨_,rfl⟩
       obtain ⟨aK,e8⟩:∃aK,aK=my.heap.size:=⟨_,rfl⟩
       rw[←ie] at iC dO
       rw[←e8] at i_ ft
       rw[←ie,←e8]
       have dz:ao (fun q=>q=cR∨q=aK) jN fq:=(dO.mono fun q _ h=> .inl h).trans (ft.mono fun q _ h=> .inr h)
       have nM:jM lo fq a eL ei dT lL lM lN:=(((bN.ext (aJ.trans (aO))).an dz fun q _ _ J e=>by have ru:j7.heap.size≤q∧q<ja.heap.size:=(by rcases J with J|J|J;exact ⟨(bN.bO q J).1,(bN.bO q J).2.1⟩;exact ⟨(bN.bv q J).1,(bN.bv q J).2.1⟩;exact bN.a8 q J);omega).low (by omega))
       have nN:b8 (fun q=>iw.heap.size≤q∧q<jN.heap.size) fq b dG dH dI:=(iu.at.bw fun q U ad=>⟨ad,U⟩).an dz fun q J e=>by omega
       have fu:∀q,lL q∨lM q∨lN q→j7.heap.size≤q∧q<ja.heap.size:=fun q J=>by
         rcases J with J|J|J
         · exact ⟨(bN.bO q J).1,(bN.bO q J).2.1⟩
         · exact ⟨(bN.bv q J).1,(bN.bv q J).2.1⟩
         · exact bN.a8 q J
       exact vh (lo:=lo) (eY:=fq) (C:=fun q=>iw.heap.size≤q∧q<jN.heap.size) ((tW.ext (aA.trans (aF.trans (aJ.trans aO)))).an dz (by omega)).cell (iC.an ft (by omega)) i_ nM nN (fun q J=>⟨by omega,by omega,by omega,by omega,fun h=>(by have:=fu q (.inl h);omega),fun h=>(by have:=fu q (.inr (.inl h));omega),fun h=>(by have:=fu q (.inr (.inr h));omega)⟩) (fun q J=>(by have:=fu q J;exact ⟨by omega,by omega⟩)) (by omega) (by omega) (by omega) ((vl.ext (aA.trans (aF.trans (aJ.trans aO)))).an dz (by omega)) rfl (by omega) (by omega) ((kZ.ext (aA.trans (aF.trans (aJ.trans aO)))).an dz fun q J e=>(by have:=vk q J;have:=l9.size;omega)) gA (Ext.gr (l9.trans (aA.trans (aF.trans (aJ.trans aO)))) dz fun q J=>by omega) aj az nK dc di c_
   · refine cp (vs:=[.bool false, .slice none 0 0, .slice none 0 0, .slice none 0 0]) rfl fun ja g1 aF pD=>⟨aF,?_⟩
     have s2:=aF.size
     refine (fE (Kc.ext (aA.trans (aF))) (by omega) (by omega) (by omega) Ka Kb).use ?_
     rintro _ iw ⟨eL,ei,dT,lL,lM,lN,rfl,bN,aJ⟩
     refine ⟨_,eL,ei,dT,rfl,aJ,?_⟩
     have bQ:=aJ.size
     refine (fE (qQ.ext (aA.trans (aF.trans (aJ)))) (by omega) (by omega) (by omega) w2 w3).use ?_
     rintro _ jN ⟨dG,dH,dI,yJ,yK,yL,rfl,iu,aO⟩
     refine ⟨_,dG,dH,dI,rfl,aO,?_⟩
     have cB:=aO.size
     have jO:=g1.ext (aJ.trans (aO))
     have nL:=lj.ext (aF.trans (aJ.trans (aO)))
     refine ⟨jO.dr rfl (ln _ _ _ _),rfl,ec jO (us:=[.bool a.leaf, .slice eL.a eL.len eL.cap, .slice ei.a ei.len ei.cap, .slice dT.a dT.len dT.cap]) rfl rfl fun w4 iC dO t5=> ?_⟩
     have jP:=nL.an dO (by omega)
     refine ⟨jP.dr rfl (ln _ _ _ _),rfl,ec jP (us:=[.bool b.leaf, .slice dG.a dG.len dG.cap, .slice dH.a dH.len dH.cap, .slice dI.a dI.len dI.cap]) rfl rfl fun fq i_ ft t6=> ?_⟩
     obtain ⟨cR,ie⟩:∃cR,cR=j7.heap.size:=⟨_,rfl⟩
     obtain ⟨aK,e8⟩:∃aK,aK=my.heap.size:=⟨_,rfl⟩
     rw[←ie] at iC dO
     rw[←e8] at i_ ft
     rw[←ie,←e8]
     have dz:ao (fun q=>q=cR∨q=aK) jN fq:=(dO.mono fun q _ h=> .inl h).trans (ft.mono fun q _ h=> .inr h)
     have nM:jM lo fq a eL ei dT lL lM lN:=(((bN.ext aO).an dz fun q _ _ J e=>by have ru:ja.heap.size≤q∧q<iw.heap.size:=(by rcases J with J|J|J;exact ⟨(bN.bO q J).1,(bN.bO q J).2.1⟩;exact ⟨(bN.bv q J).1,(bN.bv q J).2.1⟩;exact bN.a8 q J);omega).low (by omega))
     have nN:b8 (fun q=>iw.heap.size≤q∧q<jN.heap.size) fq b dG dH dI:=(iu.at.bw fun q U ad=>⟨ad,U⟩).an dz fun q J e=>by omega
     have fu:∀q,lL q∨lM q∨lN q→ja.heap.size≤q∧q<iw.heap.size:=fun q J=>by
       rcases J with J|J|J
       · exact ⟨(bN.bO q J).1,(bN.bO q J).2.1⟩
       · exact ⟨(bN.bv q J).1,(bN.bv q J).2.1⟩
       · exact bN.a8 q J
     exact vh (lo:=lo) (eY:=fq) (C:=fun q=>iw.heap.size≤q∧q<jN.heap.size) ((tW.ext (aA.trans (aF.trans (aJ.trans aO)))).an dz (by omega)).cell (iC.an ft (by omega)) i_ nM nN (fun q J=>⟨by omega,by omega,by omega,by omega,fun h=>(by have:=fu q (.inl h);omega),fun h=>(by have:=fu q (.inr (.inl h));omega),fun h=>(by have:=fu q (.inr (.inr h));omega)⟩) (fun q J=>(by have:=fu q J;exact ⟨by omega,by omega⟩)) (by omega) (by omega) (by omega) ((vl.ext (aA.trans (aF.trans (aJ.trans aO)))).an dz (by omega)) rfl (by omega) (by omega) ((kZ.ext (aA.trans (aF.trans (aJ.trans aO)))).an dz fun q J e=>(by have:=vk q J;have:=l9.size;omega)) gA (Ext.gr (l9.trans (aA.trans (aF.trans (aJ.trans aO)))) dz fun q J=>by omega) aj az nK dc di c_
end
section
section
variable {α:Type} {c:α→List Value} {sz:Nat}
def cz (c:α→List Value) (l:List α):List Value:=(l.map c).flatten
theorem yM (l m:List α):cz c (l++m)=cz c l++cz c m:=by simp[cz]
theorem Hb (x:α) (l:List α):cz c (x::l)=c x++cz c l:=rfl
theorem od:∀ (l:List α),(∀x∈l,(c x).length=sz)→(cz c l).length=l.length*sz
 | [],_=>by simp[cz]
 |x::l,h=>by
   rw[Hb,eu,h x (by simp),od l fun y b2=>h y (by simp[b2]),oB,v8];omega
theorem ajz {l:List α} {i:Nat} (h:i<l.length):l=l.take i++l[i]::l.drop (i+1):=by rw[←uJ h,qq]
theorem R5 {l:List α} (al:∀x∈l,(c x).length=sz) {i:Nat} (h:i<l.length):(cz c l).take (i*sz)=cz c (l.take i)∧(cz c l).drop (i*sz)=c l[i]++cz c (l.drop (i+1)):=by
 have az:(cz c (l.take i)).length=i*sz:=by
   rw[od _ fun x af=>al x (kA af),dV,r0 (by omega)]
 have e:cz c l=cz c (l.take i)++(c l[i]++cz c (l.drop (i+1))):=by
   conv=>lhs;rw[ajz h]
   rw[yM,Hb]
 rw[e]
 exact ⟨zU az,drop_left' az⟩
theorem YD {l:List α} (al:∀x∈l,(c x).length=sz) {i:Nat} (h:i<l.length):((cz c l).drop (i*sz)).take sz=c l[i]:=by
 rw[(R5 al h).2]
 exact zU (al _ (fv h))
theorem Kd {l:List α} (al:∀x∈l,(c x).length=sz) {i j:Nat} (h:i<l.length) (a6:j<sz):(cz c l)[i*sz+j]? =(c l[i])[j]? :=by
 rw[←YD al h,List.getElem?_take_of_lt a6,MK]
theorem ajA {l:List α} (al:∀x∈l,(c x).length=sz) {i:Nat} (h:i<l.length) (x:α):(cz c l).take (i*sz)++c x++(cz c l).drop (i*sz+sz)=cz c (l.set i x):=by
 have U:=R5 al h
 have ad:(cz c l).drop (i*sz+sz)=cz c (l.drop (i+1)):=by
   rw[←I9,U.2]
   exact drop_left' (al _ (fv h))
 rw[U.1,ad,List.set_eq_take_append_cons_drop,if_pos h,yM,Hb,er]
theorem ajB {l:List α} (al:∀x∈l,(c x).length=sz) {i j:Nat} (h:i<l.length) (a6:j<sz) {x:α} {v:Value} (af:c x=(c l[i]).set j v):(cz c l).set (i*sz+j) v=cz c (l.set i x):=by
 have az:(c l[i]).length=sz:=al _ (fv h)
 have U:=R5 al h
 have e:cz c l=cz c (l.take i)++(c l[i]++cz c (l.drop (i+1))):=by
   conv=>lhs;rw[←qq (i*sz) (cz c l),U.1,U.2]
 have r4:(cz c (l.take i)).length=i*sz:=by
   rw[od _ fun x af=>al x (kA af),dV,r0 (by omega)]
 rw[e,List.set_append_right _ _ (by omega),show i*sz+j-(cz c (l.take i)).length=j by omega,List.set_append_left _ _ (by omega),←af,List.set_eq_take_append_cons_drop,if_pos h,yM,Hb]
end
section
variable {α:Type} [DecidableEq α] {P:Program} {w:World} {sh Hc T:TypeId} {enc:α→Value} {r:Nat} {M:List (α×Value)} {k:α} {v:Value}
theorem ajC (bk:CB P sh enc) (bh:P.underlying T=some (.map sh Hc)) (h:kr w r enc M) (hm:∀v,(k,v)∉M) (v:Value):
   ∃ag:World,(Instr.mapUpdate T (.map (some r)) (enc k) v).run P w= .ok () ag∧ao (fun q=>q=r) w ag∧ag.heap.size=w.heap.size∧kr ag r enc ((k,v)::M):=by
 have a9:=h.lt
 obtain ⟨L,kR,h,U,ad,ar,aI⟩:=h
 have pH:=YE U hm
 have aG:=bk.find L k w
 rw[R6 pH] at aG
 refine ⟨w5 w r (.map ((L.map (rB enc)).toArray.push ⟨enc k,v,kR⟩) (kR+1)),?_,YF _ _ _,YG _ _ _,L++ [(k,v,kR)],kR+1,?_,?_,?_,?_,?_⟩
 · simp only[Instr.mapUpdate,Sem.run_bind,fX bh,Result.andThen,NR h,Sem.run_pure,bk.check,aG,YH h]
 · rw[YI a9]
   simp[rB]
 · rw[n3]
   have:([(k,v,kR)]:List (α×Value×Nat)).map EX=[(k,v)]:=rfl
   rw[this]
   exact (I_).trans (List.Perm.cons _ U)
 · rw[n3,List.nodup_append]
   refine ⟨ad,by simp,fun a aS b ab=> ?_⟩
   obtain ⟨x,af,rfl⟩:=p4.1 aS
   simp only[tC,List.map_nil,nC] at ab
   subst ab
   exact pH x af
 · rw[n3,List.nodup_append]
   refine ⟨ar,by simp,fun a aS b ab=> ?_⟩
   obtain ⟨x,af,rfl⟩:=p4.1 aS
   simp only[tC,List.map_nil,nC] at ab
   subst ab
   have:=aI x af
   omega
 · intro x af
   rcases fe.1 af with af|af
   · have:=aI x af;omega
   · rw[nC.1 af];show kR<kR+1;omega
theorem ajD (bk:CB P sh enc) (bh:P.underlying T=some (.map sh Hc)) (h:kr w r enc ((k,v)::M)) (tX:Value):
   ∃ag:World,(Instr.mapUpdate T (.map (some r)) (enc k) tX).run P w= .ok () ag∧ao (fun q=>q=r) w ag∧ag.heap.size=w.heap.size∧kr ag r enc ((k,tX)::M):=by
 have a9:=h.lt
 obtain ⟨n,bT,b_,e2,kR,h,U,ad,ar,aI,_⟩:=h.split
 have aG:=bk.find (bT++(k,v,e2)::b_) k w
 rw[R7 (YJ ad),gR] at aG
 have a7:((bT++(k,v,e2)::b_).map (rB enc)).toArray[bT.length]? =some ⟨enc k,v,e2⟩:=by simp[rB]
 have ajE:((bT++(k,v,e2)::b_).map (rB enc)).toArray.modify bT.length (fun e=>{e with key:=enc k,val:=tX})=((bT++(k,tX,e2)::b_).map (rB enc)).toArray:=by
   apply Array.toList_inj.1
   rw[Array.toList_modify,n3,tC]
   have:=YK (fun e=>{e with key:=enc k,val:=tX}) (rB enc (k,v,e2)) (b_.map (rB enc)) (bT.map (rB enc))
   rw[mN] at this
   rw[this]
   simp[rB]
 refine ⟨w5 w r (.map ((bT++(k,tX,e2)::b_).map (rB enc)).toArray kR),?_,YF _ _ _,YG _ _ _,bT++(k,tX,e2)::b_,kR,YI a9 _,?_,?_,?_,?_⟩
 · simp only[Instr.mapUpdate,Sem.run_bind,fX bh,Result.andThen,NR h,Sem.run_pure,bk.check,aG,a7,BP,Option.getD_some,Instr.keyThatStays,bk.bits,if_true,YH h,ajE]
 · rw[n3,tC]
   rw[n3] at U
   exact BO.trans (U.cons _)
 · simpa using ad
 · simpa using ar
 · intro x af
   rcases fe.1 af with af|af
   · exact aI x (by simp[af])
   · rcases gp.1 af with rfl|af
     · exact aI (k,v,e2) (by simp)
     · exact aI x (by simp[af])
end
abbrev mz:=List UInt8
structure pM where
 i:Nat
 s:aa
 rC:List mz
structure eo where
 d:Nat
 h7:Nat
 jQ:Nat
 g4:List Int
 f_:List mz
 waits:List pM
 writes:Int
 cI:Nat
def pM.e (x:pM):Int×Value:=((x.i:Int), .slice x.s.a x.s.len x.s.cap)
def eo.c (D:eo):List Value:=D.g4.map (.int .i64)++ [.slice (some ⟨D.h7,0,none⟩) D.f_.length D.f_.length, .map (some D.jQ), .int .i64 D.writes]
def eo.n (D:eo):Nat:=D.f_.length
abbrev EY:Int→Value:=fun n=> .int .i64 n
theorem Hd:CB Tryz.prog ah.int EY:=CB.int (by kernel_rfl)
theorem He:Tryz.prog.underlying ah.Aj=some (.map ah.int ah.tY):=by kernel_rfl
theorem YL:(Tryz.prog.info? ah.tY).bind (·.zero)=some (.slice none 0 0):=by kernel_rfl
theorem Ke {P:Program} {T:TypeId} {z:Value} (h:(P.info? T).bind (·.zero)=some z):∃i,P.info? T=some i∧i.zero=some z:=by
 cases hi:P.info? T with
 |none=>rw[hi] at h;cases h
 |some i=>rw[hi] at h;exact ⟨i,rfl,h⟩
def nm (D:eo) (q:Nat):Prop:=q=D.d∨q=D.h7∨q=D.jQ∨∃x∈D.waits,aR x.s q
structure j8 (w:World) (D:eo):Prop where
 v:Var w D.d D.c ah.NS
 l:cn w D.h7 (cz bg D.f_).toArray ah.oL
 m:kr w D.jQ EY (D.waits.map pM.e)
 ws:∀x∈D.waits,b6 256 ah.oL w x.s (cz bg x.rC)
 wn:∀x∈D.waits,x.rC≠ []∧x.i<D.n∧x.rC.length≤D.cI
 CC:∀s∈D.f_,s.length=256
 Hf:∀x∈D.waits,∀s∈x.rC,s.length=256
 di:16≤D.n
 c_:D.n≤1600
 f4:D.g4.length=4
 fr:∀x∈D.g4, -1≤x∧x≤9223372036854775807
 bj:D.d≠D.h7∧D.d≠D.jQ∧D.h7≠D.jQ
 cL:∀x∈D.waits,¬aR x.s D.d∧¬aR x.s D.h7∧¬aR x.s D.jQ
 e6:∀x∈D.waits,∀y∈D.waits,x.i≠y.i→∀q,aR x.s q→¬aR y.s q
section
variable {w w':World} {D:eo}
theorem j8.an {W:Nat→Prop} (h:j8 w D) (al:ao W w w') (aD:∀q,nm D q→¬W q):j8 w' D:=
 ⟨h.v.an al (aD _ (.inl rfl)),cn.an h.l al (aD _ (.inr (.inl rfl))),h.m.an al (aD _ (.inr (.inr (.inl rfl)))),fun x af=>(h.ws x af).an al fun q J=>aD q (.inr (.inr (.inr ⟨x,af,J⟩))),h.wn,h.CC,h.Hf,h.di,h.c_,h.f4,h.fr,h.bj,h.cL,h.e6⟩
theorem j8.ext (h:j8 w D) (al:Ext w w'):j8 w' D:=h.an al fun _ _ h=>h
theorem j8.lt (h:j8 w D) {q:Nat} (J:nm D q):q<w.heap.size:=by
 rcases J with rfl|rfl|rfl|⟨x,af,J⟩
 · exact h.v.lt
 · exact cn.lt h.l
 · exact h.m.lt
 · exact (h.ws x af).lt q J
theorem j8.ajF (h:j8 w D) {k:Nat} (ae:k<4):w.cell? ⟨D.d,k,none⟩=some (.int .i64 (D.g4.getD k 0)):=by
 rw[h.v.cell]
 unfold eo.c
 have:=h.f4
 rw[List.getElem?_append_left (by rw[mN];omega),List.getElem?_map,g8 (by omega),n_ (by omega)]
 rfl
theorem j8.gu (h:j8 w D):w.cell? (Addr.add ⟨D.d,0,none⟩ 4)=some (.slice (some ⟨D.h7,0,none⟩) D.f_.length D.f_.length):=by
 rw[aV,h.v.cell]
 unfold eo.c
 have:=h.f4
 rw[v9 (by rw[mN];omega),mN,this];rfl
theorem j8.dO (h:j8 w D):w.cell? (Addr.add ⟨D.d,0,none⟩ 5)=some (.map (some D.jQ)):=by
 rw[aV,h.v.cell]
 unfold eo.c
 have:=h.f4
 rw[v9 (by rw[mN];omega),mN,this];rfl
theorem j8.R8 (h:j8 w D):D.c.length=7:=by
 unfold eo.c
 have:=h.f4
 simp;omega
def eo.now (D:eo) (i:Nat):mz:=match D.waits.find? fun x=>x.i==i with
 |some x=>x.rC.getLastD []
 |none=>D.f_.getD i []
theorem ajG {α:Type} {l:List α} {d:α} (h:l≠ []):l.getLastD d∈l:=by
 cases l with
 |nil=>exact absurd rfl h
 |cons a l=>
   rw[List.getLastD_cons]
   rw[←List.getLast_eq_getLastD]
   exact List.getLast_mem h
theorem j8.NT (h:j8 w D) {i:Nat} (hi:i<D.n):(D.now i).length=256:=by
 unfold eo.now
 cases aG:D.waits.find? fun x=>x.i==i with
 |some x=>
   have af:=Ed aG
   exact h.Hf x af _ (ajG (h.wn x af).1)
 |none=>
   have fa:i<D.f_.length:=hi
   rw[show (match (none:Option pM) with|some x=>x.rC.getLastD []|none=>D.f_.getD i [])=D.f_.getD i [] from rfl,n_ fa]
   exact h.CC _ (fv _)
theorem YM (h:j8 w D):aQ Tryz.prog F.Ak #[.pointer (some ⟨D.d,0,none⟩)] w (fun v w'=>v= .int .i64 (D.n:Nat)∧w=w'):=by
 refine W.ajH (some ⟨D.d,0,none⟩) w _ ?_
 (delta W.Ak aE aq;dsimp only)
 exact ⟨fun h=>(by cases h),fun _=>⟨_,rfl,⟨some ⟨D.h7,0,none⟩,D.f_.length,D.f_.length⟩,h.gu,rfl,rfl⟩⟩
theorem YN (h:j8 w D) (i:Int):aQ Tryz.prog F.Al #[.pointer (some ⟨D.d,0,none⟩), .int .i64 i] w (fun v w'=>v= .bool (decide (0≤i∧i<D.n))∧w=w'):=by
 refine W.ajI (some ⟨D.d,0,none⟩) i w _ ?_
 (delta W.Al aE aq;dsimp only)
 refine e4 (fun b w'=>b=decide (0≤i∧i<D.n)∧w=w') (fun q J=>⟨fun ab=>⟨_,rfl,⟨some ⟨D.h7,0,none⟩,D.f_.length,D.f_.length⟩,h.gu,J _ _ ⟨?_,rfl⟩⟩,fun ab=>J _ _ ⟨?_,rfl⟩⟩) ?_
 · have ab:0≤i:=by simpa using ab
   rw[o1,fI,fI]
   exact ⟨fun h=>⟨ab,h⟩,fun h=>h.2⟩
 · have ab:¬0≤i:=by simpa using ab
   rw[sH (fun h=>ab h.1)]
 · rintro _ _ ⟨rfl,rfl⟩
   exact ⟨rfl,rfl⟩
end
def oM (f:Int):Bool×Int:=if f= -1 then (false, -1) else if f=0 then (true, -1) else (false,f-1)
theorem ajJ {f:Int} (h: -1≤f∧f≤9223372036854775807): -1≤(oM f).2∧(oM f).2≤9223372036854775807:=by
 unfold oM
 split
 · exact ⟨by decide,by decide⟩
 · split
   · exact ⟨by decide,by decide⟩
   · show -1≤f-1∧f-1≤_;omega
def eo.jo (D:eo) (k:Nat):eo:={D with g4:=D.g4.set k (oM (D.g4.getD k 0)).2}
def eo.sY (D:eo) (k:Nat):Bool:=(oM (D.g4.getD k 0)).1
theorem YO {w:World} {D:eo} (h:j8 w D) {k:Nat} (ae:k<4):
   aQ Tryz.prog F.Am #[.pointer (some ⟨D.d,0,none⟩), .int .i64 ((k:Nat):Int)] w (fun v w'=>v= .bool (D.sY k)∧j8 w' (D.jo k)∧ao (fun q=>q=D.d) w w'∧w'.heap.size=w.heap.size):=by
 have aG:=h.ajF ae
 have aI:=h.f4
 have aU: -1≤D.g4.getD k 0∧D.g4.getD k 0≤9223372036854775807:=by rw[n_ (by omega)];exact h.fr _ (fv _)
 have yv:∀ (ag:World),j8 ag D→j8 (ag.setCell ⟨D.d,k,none⟩ (.int .i64 (oM (D.g4.getD k 0)).2)) (D.jo k):=by
   intro ag U
   have al:=iL ag D.d k (.int .i64 (oM (D.g4.getD k 0)).2)
   have ak:=j4 U.v (i:=k) (.int .i64 (oM (D.g4.getD k 0)).2)
   have e:D.c.set k (.int .i64 (oM (D.g4.getD k 0)).2)=(D.jo k).c:=by
     unfold eo.c eo.jo
     rw[List.set_append_left _ _ (by rw[mN];omega),←List.map_set]
   rw[e] at ak
   refine ⟨ak,cn.an U.l al (fun e=>h.bj.1 e.symm),U.m.an al (fun e=>h.bj.2.1 e.symm),fun x af=>(U.ws x af).an al fun q J e=>(h.cL x af).1 (by subst e;exact J),h.wn,h.CC,h.Hf,h.di,h.c_,by show (D.g4.set k _).length=4;rw[je];exact aI,fun x af=> ?_,h.bj,h.cL,h.e6⟩
   rcases Ej af with af|rfl
   · exact h.fr x af
   · exact ajJ aU
 have aS:Addr.add ⟨D.d,0,none⟩ (Int.toNat ((k:Nat):Int)*1)=⟨D.d,k,none⟩:=by rw[hF,ml,aV,gR]
 refine W.ajK (some ⟨D.d,0,none⟩) ((k:Nat):Int) w _ ?_
 (delta W.Am bA aE st aC;dsimp only)
 refine ⟨_,rfl,⟨by omega,by show (k:Int)<4;omega⟩,D.g4.getD k 0,by rw[aS];exact aG,fun U=> ?_,fun U=>⟨fun ad=>⟨_,rfl,⟨by omega,by show (k:Int)<4;omega⟩,?_⟩,fun ad=>bM ⟨_,rfl,⟨by omega,by show (k:Int)<4;omega⟩,id,_,by rw[aS];exact aG,_,rfl,⟨by omega,by show (k:Int)<4;omega⟩,?_⟩⟩⟩
 · have U:D.g4.getD k 0= -1:=by simpa using U
   have aY:D.sY k=false:=by unfold eo.sY oM;rw[if_pos U]
   have bm:D.jo k=D:=by
     unfold eo.jo oM
     rw[if_pos U]
     have:D.g4.set k (-1)=D.g4:=by
       rw[←U,n_ (by omega)]
       exact List.set_getElem_self _
     rw[this]
   rw[aY,bm]
   exact ⟨rfl,h, .refl _ _,rfl⟩
 · have U:D.g4.getD k 0≠ -1:=by simpa using U
   have ad:D.g4.getD k 0=0:=by simpa using ad
   have aj:=j5 h.v (i:=k) (by rw[h.R8];omega)
   have aY:D.sY k=true:=by unfold eo.sY oM;rw[if_neg U,if_pos ad]
   have bm:(oM (D.g4.getD k 0)).2= -1:=by unfold oM;rw[if_neg U,if_pos ad]
   have:=yv w h
   rw[bm] at this
   rw[aS,aY]
   exact ⟨aj.1,aj.2,bM ⟨rfl,this,iL _ _ _ _,by simp[World.setCell]⟩⟩
 · have U:D.g4.getD k 0≠ -1:=by simpa using U
   have ad:D.g4.getD k 0≠0:=by simpa using ad
   have hd:=h.ext (eE w)
   have aj:=j5 hd.v (i:=k) (by rw[h.R8];omega)
   have aY:D.sY k=false:=by unfold eo.sY oM;rw[if_neg U,if_neg ad]
   have bm:(oM (D.g4.getD k 0)).2=D.g4.getD k 0-1:=by unfold oM;rw[if_neg U,if_neg ad]
   have:=yv w.drew hd
   rw[bm] at this
   rw[aS,aY,cE (by omega) (by omega)]
   exact ⟨aj.1,aj.2,bM ⟨rfl,this,(ao.eK (eE w)).trans (iL _ _ _ _),by simp[World.setCell]⟩⟩
end
end Go.Proofs.YtplieiecebljmaaGreat
