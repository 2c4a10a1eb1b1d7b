/- Contracts of the functions that the statement reaches, and the plain laws over them; each theorem stands with its conditions. -/
import Derived.OpenShut
import Derived.Shelf.SlIterI.Nil
import Derived.Shelf.SortM.Plain
import Derived.Shelf.SortM.SortNone
import Derived.Test.YtmhhgpogjpbglaaGreatProg
import Derived.Test.YtmhhgpogjpbglaaGreatRows
import Derived.Test.YtmhhgpogjpbglaaGreatBFLooks1
namespace Go.Proofs.YtmhhgpogjpbglaaGreat
open Go bD
section
theorem XN {w:World} {b:ah} {l:List UInt8} {eC a k:Nat} (ao:Var w eC [.slice b.a b.len b.cap, .int .i64 (a:Nat)] ad.DX) (ar:Src 1 w b (aF l)) (ak:b.len≤b.cap) (aa:1≤k∧k≤8) (aI:a+k≤l.length) (aC:l.length≤1000):
   aM Tryz.prog F.mg #[.pointer (some ⟨eC,0,none⟩), .int .i64 (k:Nat)] w (fun v J=>v= .int .u64 (b2 l a k:Nat)∧Var J eC [.slice b.a b.len b.cap, .int .i64 ((a+k:Nat):Int)] ad.DX∧aq (fun q=>q=eC) w J):=by
 refine W.XO _ (k:Nat) w _ ?_
 (delta W.mg aG az x7 st av;dsimp only)
 have bN:=c_ w
 have sK:=ao.ext bN
 refine bj ⟨fun _=>False,_,rfl,id,b,sK.cell,_,rfl,id,_,by rw[a_];exact sK.cell,(lv (ar.ext bN) ak aa aI (by omega)).use ?_⟩
 rintro _ _ ⟨rfl,rfl⟩
 obtain ⟨dv,dB⟩:=nz sK (i:=1) (by simp)
 refine ⟨_,true,rfl,_,rfl,_,by rw[a_];exact sK.cell,_,rfl,by rw[a_];exact dv,by rw[a_];exact dB,bj ⟨rfl,?_,?_⟩⟩
 · rw[a_]
   have U:=pr sK (i:=1) (.int .i64 (IntKind.wrap .i64 ((a:Nat)+(k:Nat))))
   have e:IntKind.wrap .i64 (((a:Nat):Int)+((k:Nat):Int))=((a+k:Nat):Int):=by rw[b3 (by omega) (by omega)];omega
   rw[e] at U⊢
   exact U
 · rw[a_]
   exact eh (bN.mono fun _ _ h=>h.elim) (mQ _ _ _ _) fun q _ e=>e
def N_:Except Int (dM×Nat×Nat)→Value
 | .ok (u,n,g)=> .tuple #[.agg u.c.toArray, .int .i64 (n:Nat), .int .u64 (g:Nat), .int .i64 0]
 | .error e=> .tuple #[.agg c4.c.toArray, .int .i64 0, .int .u64 0, .int .i64 e]
theorem yg {no:Int} {l:List UInt8} {e:Int} (h:dC no l= .error e):e≠0:=by
 unfold dC at h
 repeat' split at h
 all_goals first|(cases h;decide)|cases h
theorem q3 {s:ah} {l:List UInt8} {w:World} (ar:Src 1 w s (aF l)) (ak:s.len≤s.cap) (aC:l.length≤1000) (no:Int):
   aM Tryz.prog F.q3 #[.int .i64 no, .slice s.a s.len s.cap] w (fun v J=>v=N_ (gR no l)∧Ext w J):=by
 refine W.XP no s w _ ?_
 (delta W.q3 fe lH z4 ab au az bJ aG Hx dW st av;dsimp only)
 refine cT (vs:=c4.c) rfl fun af cZ bg gN=>(mM (ar.ext bg) ak aC no).use ?_
 rintro _ aw ⟨gm,bV⟩
 obtain ⟨bI,pC⟩:∃bI,bI=w.heap.size:=⟨_,rfl⟩
 rw[←pC] at cZ⊢
 have ee:=cZ.ext bV
 cases aU:dC no l with
 |error e=>
   rw[aU] at gm
   have b_:=yg aU
   have aE:gR no l= .error e:=by unfold gR;rw[aU]
   rw[aE]
   obtain rfl:_=_:=gm
   refine ⟨0,0,⟨none,0,0⟩,e,rfl,cT (vs:=[.int .i64 0, .int .u64 0, .slice none 0 0]) rfl fun bR nE h9 Hy=>⟨nE.gZ rfl (fun v ao=> ?_),rfl,jw nE (us:=[.int .i64 0, .int .u64 0, .slice none 0 0]) rfl rfl fun bK kC g4 DY=>⟨fun _=> ?_,fun h=> ?_⟩⟩⟩
   · simp only[fc,jc,jd] at ao
     rcases ao with rfl|rfl|rfl<;>trivial
   · have j9:Ext aw bK:=Ext.c8 h9 g4 (b6 _)
     have mV:=ee.ext j9
     refine ji (u:=c4) mV (j8 mV rfl c4 fun cd pD DZ Oa=>ji (u:=c4) pD ⟨rfl,?_⟩)
     exact Ext.c8 (Ext.trans (Ext.trans bg bV) j9) DZ (by omega)
   · simp at h;exact absurd h b_
 |ok p=>
   rw[aU] at gm
   obtain ⟨dp,rfl,lI,Hz⟩:=gm
   refine ⟨_,_,dp,0,rfl,cT (vs:=[.int .i64 0, .int .u64 0, .slice none 0 0]) rfl fun bR nE h9 Hy=>⟨nE.gZ rfl (fun v ao=> ?_),rfl,jw nE (us:=[.int .i64 (p.kind:Nat), .int .u64 (p.gen:Nat), .slice dp.a dp.len dp.cap]) rfl rfl fun bK kC g4 DY=>⟨fun h=>(by simp at h),fun _=>⟨_,kC.cell,?_⟩⟩⟩⟩
   · simp only[fc,jc,jd] at ao
     rcases ao with rfl|rfl|rfl<;>trivial
   have j9:Ext aw bK:=Ext.c8 h9 g4 (b6 _)
   have sq:=Ext.trans (Ext.trans bg bV) j9
   obtain ⟨j_,wc⟩:∃j_,j_=aw.heap.size:=⟨_,rfl⟩
   rw[←wc] at kC⊢
   have mV:=ee.ext j9
   have cM:dp.len=p.body.length:=by have:=lI.1;rw[eL] at this;omega
   have cc:=(Ext.trans bg bV).size
   have k3:p.kind≠3∨p.body.length≠33→gR no l= .error 4:=fun h=>by
     unfold gR;rw[aU];exact if_pos h
   refine dU (fun b J=>b=decide (p.kind≠3∨p.body.length≠33)∧bK=J) (fun q ae=>⟨fun h=>ae _ _ ⟨?_,rfl⟩,fun h=>⟨dp,by rw[a_];exact kC.cell,ae _ _ ⟨?_,rfl⟩⟩⟩) ?_
   · have:p.kind≠3:=fun e=>by rw[e] at h;simp at h
     rw[gu (.inl this)]
   · have aA:p.kind=3:=by
       have:((p.kind:Nat):Int)=3:=by simpa using h
       omega
     rw[cM,fx,cR]
     constructor
     · intro aK
       refine .inr fun e=> ?_
       rw[e] at aK;simp at aK
     · rintro (aK|aK)
       · exact absurd aA aK
       · rw[bne_iff_ne];omega
   rintro _ _ ⟨rfl,rfl⟩
   have Ob:∀ {cd:World} {vs:List Value},Var cd bI vs ad.fR→vs.length=6→Ext w cd→(gR no l= .error 4)→bW cd ⟨bI,0,none⟩ [.int .i64 0, .int .i64 0, .int .i64 0, .int .u64 0, .int .u64 0, .int .i64 0]∧(6:Nat)=6∧ay (setCells cd ⟨bI,0,none⟩ 0 [.int .i64 0, .int .i64 0, .int .i64 0, .int .u64 0, .int .u64 0, .int .i64 0]) fun jj=>
       ∃dF:Int,jj.cell? ⟨bI,0,none⟩=some (.int .i64 dF)∧∃cY:Int,jj.cell? (Addr.add ⟨bI,0,none⟩ 1)=some (.int .i64 cY)∧∃aX:Int,jj.cell? (Addr.add ⟨bI,0,none⟩ 2)=some (.int .i64 aX)∧
       ∃bl:Int,jj.cell? (Addr.add ⟨bI,0,none⟩ 3)=some (.int .u64 bl)∧∃n5:Int,jj.cell? (Addr.add ⟨bI,0,none⟩ 4)=some (.int .u64 n5)∧∃n6:Int,jj.cell? (Addr.add ⟨bI,0,none⟩ 5)=some (.int .i64 n6)∧
       (Value.tuple #[.agg #[.int .i64 dF, .int .i64 cY, .int .i64 aX, .int .u64 bl, .int .u64 n5, .int .i64 n6], .int .i64 0, .int .u64 0, .int .i64 4]=N_ (gR no l)∧Ext w jj):=by
     intro cd vs pD tY D1 aE
     rw[aE]
     exact j8 pD tY c4 fun jj XQ XR aip=>ji (u:=c4) XQ ⟨rfl,Ext.c8 D1 XR (by omega)⟩
   refine ⟨fun h=> ?_,fun h=> ?_⟩
   · exact ji (u:=c4) mV (Ob mV rfl sq (k3 (cf h)))
   have gE:=cm h
   have we:p.kind=3:=xO fun h=>gE (.inl h)
   have l7:p.body.length=33:=xO fun h=>gE (.inr h)
   have vR:=(lI.ext j9).src
   have wg:dp.len≤dp.cap:=lI.2.1
   have Oc:∀q,aH dp q→q<bK.heap.size:=(lI.ext j9).lt
   refine ⟨dp,by rw[a_];exact kC.cell,cT (vs:=[.slice dp.a dp.len dp.cap, .int .i64 ((0:Nat):Int)]) rfl fun eX Od D2 aiq=> ?_⟩
   obtain ⟨eC,XS⟩:∃eC,eC=bK.heap.size:=⟨_,rfl⟩
   rw[←XS] at Od Oc⊢
   have b_:eC≠bI:=by have:=mV.lt;omega
   have XT:eC≠j_:=by have:=kC.lt;omega
   have XU:=vR.ext D2
   have XV:=mV.ext D2
   have XW:=kC.ext D2
   have XX:=Ext.trans sq D2
   have XY:w.heap.size≤eC:=by have:=sq.size;omega
   obtain ⟨sL,yh⟩:∃sL:World→List Value→Nat→Prop,sL=fun J vs a=>Var J eC [.slice dp.a dp.len dp.cap, .int .i64 ((a:Nat):Int)] ad.DX∧Src 1 J dp (aF p.body)∧Var J bI vs ad.fR∧Var J j_ [.int .i64 (p.kind:Nat), .int .u64 (p.gen:Nat), .slice dp.a dp.len dp.cap] ad.jD∧Ext w J:=⟨_,rfl⟩
   have XZ:∀q,aH dp q→q≠bI:=fun q ae e=>by
     have:=Hz q ae
     have:=ee.lt
     have:=bg.size
     have:=cZ.lt
     omega
   have wh:∀ {J:World} {vs:List Value} {a k:Nat} {R:Ending→World→Prop},sL J vs a→1≤k∧k≤8→a+k≤33→(∀ic,sL ic vs (a+k)→R (.returned (.int .u64 (b2 p.body a k:Nat))) ic)→Calls Tryz.prog F.mg #[.pointer (some ⟨eC,0,none⟩), .int .i64 (k:Nat)] J R:=by
     intro J vs a k R e1 aa air j5
     rw[yh] at e1
     obtain ⟨dv,dB,iS,ie,lJ⟩:=e1
     refine (XN dv dB wg aa (by omega) (by omega)).use ?_
     rintro _ ic ⟨rfl,aZ,a7⟩
     refine j5 ic ?_
     rw[yh]
     exact ⟨aZ,dB.aB a7 fun q ae e=>by have:=Oc q ae;omega,iS.aB a7 (fun e=>b_ e.symm),ie.aB a7 (fun e=>XT e.symm),Ext.c8 lJ a7 XY⟩
   have vJ:∀ {J:World} {vs:List Value} {a:Nat} (j:Nat) (v:Value) {K:World→Prop},sL J vs a→j<vs.length→(∀ic,sL ic (vs.set j v) a→K ic)→(∃u:Value,J.cell? ⟨bI,j,none⟩=some u)∧J.frozen? ⟨bI,j,none⟩=false∧ay (J.setCell ⟨bI,j,none⟩ v) K:=by
     intro J vs a j v K e1 bu aT
     rw[yh] at e1
     obtain ⟨dv,dB,iS,ie,lJ⟩:=e1
     have ak:=mQ J bI j v
     refine ⟨(nz iS bu).1,(nz iS bu).2,bj (aT _ ?_)⟩
     rw[yh]
     exact ⟨dv.aB ak b_,dB.aB ak XZ,pr iS v,ie.aB ak (fun e=>by have:=mV.lt;have:=ee.lt;omega),Ext.c8 lJ ak (by omega)⟩
   have AE:∀ {J:World} {vs:List Value} {a:Nat} (j:Nat) (v:Value) {K:World→Prop},sL J vs a→j<vs.length→(∀ic,sL ic (vs.set j v) a→K ic)→(∃u:Value,J.cell? (Addr.add ⟨bI,0,none⟩ j)=some u)∧J.frozen? (Addr.add ⟨bI,0,none⟩ j)=false∧ay (J.setCell (Addr.add ⟨bI,0,none⟩ j) v) K:=by
     intro J vs a j v K e1 bu aT
     rw[a_,fX]
     exact vJ j v e1 bu aT
   have X0:sL eX c4.c 0:=by rw[yh];exact ⟨Od,XU,XV,XW,XX⟩
   have D3:∀a,a+4≤33→b2 p.body a 4<4294967296:=fun a aI=>sg 4 _ (by rw[iv,mH];omega)
   have X1:b2 p.body 4 1<256:=sg 1 _ (by rw[iv,mH];omega)
   have ais:∀a,a+8≤33→b2 p.body a 8<18446744073709551616:=fun a aI=>sg 8 _ (by rw[iv,mH];omega)
   have wr:∀ {x:Nat},x<4294967296→IntKind.wrap .i64 ((x:Nat):Int)=((x:Nat):Int):=fun ai=>b3 (by omega) (by omega)
   refine wh (k:=4) X0 (by decide) (by decide) fun fD t43=>⟨_,rfl,wh (k:=1) t43 (by decide) (by decide) fun nH t46=>⟨_,rfl,wh (k:=4) t46 (by decide) (by decide) fun uf t49=>⟨_,rfl,?_⟩⟩⟩
   rw[wr (D3 0 (by decide)),wr (x:=b2 p.body (0+4) 1) (by have:=X1;show b2 p.body 4 1<_;omega),wr (D3 (0+4+1) (by decide))]
   refine vJ 0 _ t49 (by simp[c4,dM.c]) fun yi t52=>AE 1 _ t52 (by simp[c4,dM.c]) fun D4 t53=>AE 2 _ t53 (by simp[c4,dM.c]) fun iT t54=> ?_
   refine (wh (k:=4) t54 (by decide) (by decide) fun eD t55=>⟨_,rfl,wh (k:=8) t55 (by decide) (by decide) fun D5 t58=>⟨_,rfl,wh (k:=8) t58 (by decide) (by decide) fun wi t61=>⟨_,rfl,wh (k:=4) t61 (by decide) (by decide) fun Oe t64=>⟨_,rfl,?_⟩⟩⟩⟩)
   rw[wr (D3 (0+4+1+4) (by decide)),wr (D3 (0+4+1+4+4+8+8) (by decide))]
   refine AE 3 _ t64 (by simp[c4,dM.c]) fun fK t67=>AE 4 _ t67 (by simp[c4,dM.c]) fun sM t68=>AE 5 _ t68 (by simp[c4,dM.c]) fun k4 t69=> ?_
   obtain ⟨u,hu⟩:∃u,u=sJ p.body:=⟨_,rfl⟩
   obtain ⟨n,aD⟩:∃n,n=b2 p.body 9 4:=⟨_,rfl⟩
   rw[yh] at t69
   obtain ⟨_,_,q4,X2,Of⟩:=t69
   have q4:Var k4 bI u.c ad.fR:=by rw[hu];exact q4
   have gm:gR no l=if mf u n then .ok (u,n,p.gen) else .error 4:=by
     unfold gR;rw[aU,hu,aD];exact if_neg gE
   rw[show b2 p.body (0+4+1+4) 4=n from aD.symm]
   refine ⟨(u.root:Nat),q4.cell,(u.bX:Nat),by rw[a_];exact q4.cell,dU (fun b J=>b=(!((((u.root:Nat):Int)==0)==(((u.bX:Nat):Int)==0))||decide (((u.bX:Nat):Int)>12))∧k4=J) (fun q ae=>⟨fun h=>ae _ _ ⟨by rw[h,Bool.true_or],rfl⟩,fun h=>⟨_,by rw[a_];exact q4.cell,ae _ _ ⟨by rw[h,qt],rfl⟩⟩⟩) ?_⟩
   rintro kz _ ⟨hV,rfl⟩
   refine dU (fun b J=>b=(kz||decide (((u.root:Nat):Int)≥(n:Nat)))∧k4=J) (fun q ae=>⟨fun h=>ae _ _ ⟨by rw[h,Bool.true_or],rfl⟩,fun h=>⟨_,q4.cell,ae _ _ ⟨by rw[h,qt],rfl⟩⟩⟩) ?_
   rintro h8 _ ⟨e7,rfl⟩
   refine dU (fun b J=>b=(h8||decide (((u.map:Nat):Int)≥(n:Nat)))∧k4=J) (fun q ae=>⟨fun h=>ae _ _ ⟨by rw[h,Bool.true_or],rfl⟩,fun h=>⟨_,by rw[a_];exact q4.cell,ae _ _ ⟨by rw[h,qt],rfl⟩⟩⟩) ?_
   rintro gw _ ⟨sH,rfl⟩
   refine dU (fun b J=>b=(gw||decide (((u.map:Nat):Int)<2))∧k4=J) (fun q ae=>⟨fun h=>ae _ _ ⟨by rw[h,Bool.true_or],rfl⟩,fun h=>⟨_,by rw[a_];exact q4.cell,ae _ _ ⟨by rw[h,qt],rfl⟩⟩⟩) ?_
   rintro e3 _ ⟨Ni,rfl⟩
   have sN:(e3||decide (((n:Nat):Int)>1600))= !decide (mf u n):=by
     have aN:(((u.root:Nat):Int)==0)=decide (u.root=0):=by rw[fx];simp
     have a6:(((u.bX:Nat):Int)==0)=decide (u.bX=0):=by rw[fx];simp
     rw[Ni,sH,e7,hV,aN,a6,fx]
     unfold mf
     by_cases U:u.root=0<;>by_cases ag:u.bX=0<;>simp[U,ag]<;>omega
   rw[sN]
   refine ⟨fun h=> ?_,fun h=> ?_⟩
   · have ug:¬mf u n:=fun aW=>by rw[gu aW] at h;cases h
     exact Ob q4 rfl Of (by rw[gm,if_neg ug])
   · have aW:mf u n:=xO fun aW=>by rw[sd aW] at h;cases h
     rw[gm,if_pos aW]
     have bN:=c_ k4
     have HA:=q4.ext bN
     have X3:=X2.ext bN
     have Og:bI≠j_:=by have:=mV.lt;have:=ee.lt;omega
     refine bj ⟨fun _=>False,id,ji HA ⟨id,_,by rw[a_];exact X3.cell,j8 HA rfl u fun ig Oh yj ait=>⟨?_,ji Oh ⟨rfl,Ext.c8 (Ext.trans Of bN) yj (by omega)⟩⟩⟩⟩
     refine ⟨yj.os,yj.tape,yj.output,yj.size,fun k aa _=> ?_⟩
     by_cases e:k=bI
     · rw[e];exact Oh.trans HA.symm
     · exact yj.block k aa e
theorem q5 {s:ah} {l:List UInt8} {w:World} (ar:Src 1 w s (aF l)) (ak:s.len≤s.cap) (aC:l.length≤1000) (no:Int):
   aM Tryz.prog F.q5 #[.int .i64 no, .slice s.a s.len s.cap] w (fun v J=>(match gR no l with
     | .ok (u,_,g)=>v= .tuple #[.agg u.c.toArray, .int .u64 (g:Nat), .int .i64 0]
     | .error e=>v= .tuple #[.agg c4.c.toArray, .int .u64 0, .int .i64 e])∧Ext w J):=by
 refine W.X4 no s w _ ?_
 (delta W.q5 fe yk ab az bJ;dsimp only)
 refine cT (vs:=c4.c) rfl fun af cZ bg gN=>(q3 (ar.ext bg) ak aC no).use ?_
 rintro _ aw ⟨rfl,bV⟩
 have fin:∀ (u:dM) (n g:Nat) (e:Int),∃bl n5 n6 n7 n8 n9 n10 n11 n12:Int,True:=fun _ _ _ _=>⟨0,0,0,0,0,0,0,0,0,trivial⟩
 cases aE:gR no l with
 |error e=>
   refine ⟨_,_,_,_,_,_,_,_,_,rfl,cT (vs:=c4.c) rfl fun fS HB uh X5=>j8 HB rfl c4 fun b9 AF wj X6=>ji (u:=c4) AF (j8 ((cZ.ext bV).ext (Ext.c8 uh wj (b6 _))) rfl c4 fun dR AG AH D6=>ji (u:=c4) AG ⟨rfl,?_⟩)⟩
   exact Ext.c8 (Ext.trans (Ext.trans bg bV) (Ext.c8 uh wj (b6 _))) AH (b6 _)
 |ok r=>
   obtain ⟨u,n,g⟩:=r
   refine ⟨_,_,_,_,_,_,_,_,_,rfl,cT (vs:=c4.c) rfl fun fS HB uh X5=>j8 HB rfl u fun b9 AF wj X6=>ji (u:=u) AF (j8 ((cZ.ext bV).ext (Ext.c8 uh wj (b6 _))) rfl u fun dR AG AH D6=>ji (u:=u) AG ⟨rfl,?_⟩)⟩
   exact Ext.c8 (Ext.trans (Ext.trans bg bV) (Ext.c8 uh wj (b6 _))) AH (b6 _)
end
section
theorem X7:tW Tryz.prog F.pE:=⟨_,(Option.some_get (show (Tryz.prog.funcs[F.pE]?).isSome=true by kernel_rfl)).symm,by kernel_rfl,by kernel_rfl⟩
theorem X8 {w:World} {s:ah} {l:List UInt8} (ar:Src 1 w s (aF l)) (aC:l.length≤1000):
   aM Tryz.prog F.ui #[.slice s.a s.len s.cap, .func (.func F.pE) #[] #[]] w (fun v J=>v= .bool (!(l.all fun c=>c==0))∧w=J):=by
 have cM:=len8 ar
 refine W.X9 s ⟨F.pE, #[], #[]⟩ w _ ?_
 (delta W.ui bS;dsimp only)
 refine Calls.mono (W.X_ s ⟨F.pE, #[], #[]⟩ w (fun v J=>(∃i:Int,v= .int .i64 i∧(decide (i≥0))= !(l.all fun c=>c==0))∧w=J) ?_) ?_
 · (delta W.wk au aQ b1 av;dsimp only)
   refine ⟨fun i J=>∃j:Nat,i=j∧j≤l.length∧w=J∧∀ (k:Nat) (aa:k<l.length),k<j→l[k]=0,fun i _=>((l.length:Int)-i).toNat,⟨0,rfl,ei _,rfl,fun k aa h=>by omega⟩,?_⟩
   rintro _ _ ⟨j,rfl,bu,rfl,ew⟩
   refine ⟨fun aR=> ?_,fun bF=> ?_⟩
   · have aR:j<l.length:=by have:=cf aR;omega
     obtain ⟨A,an,aj,ly⟩:=ar.at (tL aR)
     refine ⟨A,an,aj,_,ly,X7,?_⟩
     refine Calls.mono (W.Ya (((l[j]).toNat:Nat):Int) w (fun v J=>v= .bool ((((l[j]).toNat:Nat):Int) !=0)∧w=J) ⟨rfl,rfl⟩) ?_
     rintro _ _ ⟨_,rfl,rfl,rfl⟩
     refine ⟨_,rfl,fun b_=>⟨⟨j,rfl,?_⟩,rfl⟩,fun heq=> ?_⟩
     · have:(l.all fun c=>c==0)=false:=by
         rw[List.all_eq_false]
         refine ⟨l[j],dP _,fun h=> ?_⟩
         have h:=eq_of_beq h
         rw[h] at b_
         simp at b_
       rw[this]
       exact gu (by omega)
     · have bP:l[j]=0:=by
         have:(((l[j]).toNat:Nat):Int)=0:=by simpa using heq
         exact UInt8.toNat_inj.1 (by show (l[j]).toNat=0;omega)
       rw[b3 (n:=(j:Int)+1) (by omega) (by omega)]
       refine ⟨⟨j+1,by omega,by omega,rfl,fun k aa h=> ?_⟩,?_⟩
       · rcases gK k j with U|U
         · exact ew k aa U
         · have:k=j:=by omega
           subst this;exact bP
       · show ((l.length:Int)-((j:Int)+1)).toNat<((l.length:Int)-(j:Int)).toNat
         omega
   · have bF:j=l.length:=by have:=cm bF;omega
     subst bF
     refine ⟨⟨-1,rfl,?_⟩,rfl⟩
     have:(l.all fun c=>c==0)=true:=by
       rw[sa]
       intro c ak
       obtain ⟨k,aa,rfl⟩:=qq ak
       rw[ew k aa aa];rfl
     rw[this];rfl
 · rintro _ _ ⟨_,rfl,⟨i,rfl,hi⟩,rfl⟩
   exact ⟨i,rfl,by rw[hi],rfl⟩
def gn (n no:Nat) (b:c2):dM×Nat×Nat:=
 if b.all (fun c=>c==0) then (c4,0,0) else match gR no b with
   | .ok (u,_,g)=>if n≤u.root∨n≤u.map then (c4,0,1) else (u,g,2)
   | .error _=>(c4,0,1)
theorem Oi {no:Int} {l:List UInt8} {e:Int} (h:gR no l= .error e):e≠0:=by
 unfold gR at h
 split at h
 · rename_i dh he
   cases h
   exact yg he
 · split at h
   · cases h;decide
   · split at h
     · cases h
     · cases h;decide
theorem Yb {B:Nat→Prop} {w:World} {aP no:Nat} {vs:List Value} {bh:ah} {al:List c2} (ao:Var w aP vs ad.yl) (jF:vs[10]? =some (.slice bh.a bh.len bh.cap)) (ar:cq B w bh al) (aC:∀l∈al,l.length=256) (fH:no<al.length):
   aM Tryz.prog F.uj #[.pointer (some ⟨aP,0,none⟩), .int .i64 ((no:Nat):Int)] w (fun v J=>v= .tuple #[.agg (gn al.length no al[no]).1.c.toArray, .int .u64 ((gn al.length no al[no]).2.1:Nat), .int .i64 ((gn al.length no al[no]).2.2:Nat)]∧Ext w J):=by
 have l7:(al[no]).length=256:=aC _ (dP fH)
 refine W.Yc _ ((no:Nat):Int) w _ ?_
 (delta W.uj fe aG aQ cx au ab az bJ lD D7 D8;dsimp only)
 obtain ⟨bI,pC⟩:∃bI,bI=w.heap.size:=⟨_,rfl⟩
 refine cT (vs:=c4.c) rfl fun af cZ bg gN=> ?_
 rw[←pC] at cZ⊢
 have Yd:=cq.ext ar bg
 have tY:=ao.ext bg
 have gM:af.cell? (Addr.add ⟨aP,0,none⟩ 10)=some (.slice bh.a bh.len bh.cap):=by
   rw[a_,tY.cell]
   exact jF
 obtain ⟨A,t,an,aj,ak,bt,_⟩:=Yd.at fH
 refine ⟨_,rfl,bh,gM,A,an,aj,t,ak,(X8 bt.1 (by omega)).use ?_⟩
 rintro _ _ ⟨rfl,rfl⟩
 have aiu:=cq.len ar
 have fin:∀ {bC:World} {us:List Value} (u:dM) (n:Int) (k:Int),Ext w bC→Var bC bI us ad.fR→us.length=6→((gn al.length no al[no]).1=u∧(((gn al.length no al[no]).2.1:Nat):Int)=n∧(((gn al.length no al[no]).2.2:Nat):Int)=k)→
     bW bC ⟨bI,0,none⟩ [.int .i64 (u.root:Nat), .int .i64 (u.bX:Nat), .int .i64 (u.map:Nat), .int .u64 (u.clock:Nat), .int .u64 (u.iB:Nat), .int .i64 (u.keys:Nat)]∧(6:Nat)=6∧
       ay (setCells bC ⟨bI,0,none⟩ 0 [.int .i64 (u.root:Nat), .int .i64 (u.bX:Nat), .int .i64 (u.map:Nat), .int .u64 (u.clock:Nat), .int .u64 (u.iB:Nat), .int .i64 (u.keys:Nat)]) fun bK=>
       ∃dF:Int,bK.cell? ⟨bI,0,none⟩=some (.int .i64 dF)∧∃cY:Int,bK.cell? (Addr.add ⟨bI,0,none⟩ 1)=some (.int .i64 cY)∧∃aX:Int,bK.cell? (Addr.add ⟨bI,0,none⟩ 2)=some (.int .i64 aX)∧
       ∃bl:Int,bK.cell? (Addr.add ⟨bI,0,none⟩ 3)=some (.int .u64 bl)∧∃n5:Int,bK.cell? (Addr.add ⟨bI,0,none⟩ 4)=some (.int .u64 n5)∧∃n6:Int,bK.cell? (Addr.add ⟨bI,0,none⟩ 5)=some (.int .i64 n6)∧
       (Value.tuple #[.agg #[.int .i64 dF, .int .i64 cY, .int .i64 aX, .int .u64 bl, .int .u64 n5, .int .i64 n6], .int .u64 n, .int .i64 k]= .tuple #[.agg (gn al.length no al[no]).1.c.toArray, .int .u64 ((gn al.length no al[no]).2.1:Nat), .int .i64 ((gn al.length no al[no]).2.2:Nat)]∧Ext w bK):=by
   intro bC us u n k ai q1 HC aJ
   obtain ⟨az,b1,aG⟩:=aJ
   rw[az,b1,aG]
   exact j8 q1 HC u fun bK kC g4 DY=>ji kC ⟨rfl,Ext.c8 ai g4 (by omega)⟩
 refine ⟨_,rfl,fun cc=> ?_,fun cc=> ?_⟩
 · have bP:((al[no]).all fun c=>c==0)=true:=by revert cc;cases (al[no]).all fun c=>c==0<;>simp
   refine fin c4 0 0 bg cZ rfl ?_
   unfold gn
   rw[if_pos bP]
   exact ⟨rfl,rfl,rfl⟩
 have bP:¬((al[no]).all fun c=>c==0)=true:=by revert cc;cases (al[no]).all fun c=>c==0<;>simp
 refine (q5 bt.1 bt.2.1 (by omega) ((no:Nat):Int)).use ?_
 rintro v cd ⟨aE,D1⟩
 have ym:=bg.trans D1
 have pD:=cZ.ext D1
 cases gm:gR ((no:Nat):Int) al[no] with
 |error e=>
   rw[gm] at aE
   obtain rfl:v=_:=aE
   refine ⟨_,_,_,_,_,_,_,e,rfl,cT (vs:=c4.c) rfl fun dm AI nI Oj=>j8 AI rfl c4 fun c0 yn HD Ye=> ?_⟩
   have nJ:Ext cd c0:=Ext.c8 nI HD (b6 _)
   have bN:=c_ c0
   have b_:=Oi gm
   refine bj ⟨fun _=>⟨fun _=>fin c4 0 1 ((ym.trans nJ).trans bN) ((pD.ext nJ).ext bN) rfl ?_,fun h=>(by cases h)⟩,fun h=> ?_⟩
   · unfold gn
     rw[if_neg bP,gm]
     exact ⟨rfl,rfl,rfl⟩
   · simp at h;exact absurd h b_
 |ok r=>
   obtain ⟨u,m,g⟩:=r
   rw[gm] at aE
   obtain rfl:v=_:=aE
   refine ⟨_,_,_,_,_,_,_,0,rfl,cT (vs:=c4.c) rfl fun dm AI nI Oj=>j8 AI rfl u fun c0 yn HD Ye=> ?_⟩
   have nJ:Ext cd c0:=Ext.c8 nI HD (b6 _)
   have bN:=c_ c0
   have e5:=(ym.trans nJ).trans bN
   have mV:=yn.ext bN
   have HE:=(pD.ext nJ).ext bN
   have Ol:c0.drew.cell? (Addr.add ⟨aP,0,none⟩ 10)=some (.slice bh.a bh.len bh.cap):=by
     rw[a_,(ao.ext e5).cell]
     exact jF
   have nK:gn al.length no al[no]=if al.length≤u.root∨al.length≤u.map then (c4,0,1) else (u,g,2):=by
     unfold gn
     rw[if_neg bP,gm]
   have k3:al.length≤u.root∨al.length≤u.map→(gn al.length no al[no]).1=c4∧(((gn al.length no al[no]).2.1:Nat):Int)=0∧(((gn al.length no al[no]).2.2:Nat):Int)=1:=fun h=>by
     rw[nK,if_pos h];exact ⟨rfl,rfl,rfl⟩
   refine bj ⟨fun h=>(by cases h),fun _=>⟨id,_,mV.cell,_,rfl,id,bh,Ol,fun aJ=>⟨fun _=>fin c4 0 1 e5 HE rfl (k3 (.inl ?_)),fun h=>(by cases h)⟩,fun aJ=>⟨id,_,by rw[a_];exact mV.cell,_,rfl,id,bh,Ol,fun hm=>fin c4 0 1 e5 HE rfl (k3 (.inr ?_)),fun hm=> ?_⟩⟩⟩
   · have:=cf aJ;omega
   · have:=cf hm;omega
   · have U:=cm aJ
     have ag:=cm hm
     refine ji mV (fin u ((g:Nat):Int) 2 e5 HE rfl ?_)
     rw[nK,if_neg (by omega)]
     exact ⟨rfl,rfl,rfl⟩
end
section
theorem D9 {zs:List Int} (aJ:zs.Pairwise fun a b=>a≤b) {i j:Nat} (AJ:i≤j) (bu:j<zs.length):zs[i]≤zs[j]:=by
 rcases gK i j with h|h
 · exact zY.1 aJ i j (by omega) bu h
 · have:i=j:=by omega
   subst this;exact Int.le_refl _
theorem Om {zs:List Int} (aJ:zs.Pairwise fun a b=>a≤b) {k:Nat} (aa:k≤zs.length) (b_:∀ (j:Nat) (bu:j+1<zs.length),j+1<k→zs[j]≠zs[j+1]):(zs.take k).Pairwise fun a b=>a<b:=by
 refine zY.2 fun i j hi bu AJ=> ?_
 rw[iv] at hi bu
 rw[C0,C0]
 have U:=D9 aJ (i:=i) (j:=j-1) (by omega) (by omega)
 have ag:=D9 aJ (i:=j-1) (j:=j) (by omega) (by omega)
 have aA:=b_ (j-1) (by omega) (by omega)
 have e:j-1+1=j:=by omega
 simp only[e] at aA
 omega
theorem Yf {w:World} {s:ah} {zs:List Int} (h:aY 1 ad.int w s (zs.map encZ)) (aJ:zs.Pairwise fun a b=>a≤b) (aC:zs.length≤1000000):
   aM Tryz.prog F.uk #[.slice s.a s.len s.cap] w (fun v J=>∃ (ax:ah) (ys:List Int),v= .slice ax.a ax.len ax.cap∧aY 1 ad.int J ax (ys.map encZ)∧ys.Pairwise (fun a b=>a<b)∧(∀x,x∈ys↔x∈zs)∧aq (aH s) w J∧∀q,aH ax q↔aH s q):=by
 have cM:s.len=zs.length:=by have:=h.1;rw[ep] at this;omega
 refine W.Yg s w _ ?_
 (delta W.uk au aQ az av st;dsimp only)
 refine ⟨fun aR=> ?_,fun bF=> ?_⟩
 · have aR:=cf aR
   refine ⟨s,zs,rfl,h,?_,fun x=>Iff.rfl, .refl _ _,fun q=>Iff.rfl⟩
   match zs,cM with
   | [],_=>exact List.Pairwise.nil
   | [a],_=>exact List.pairwise_singleton _ _
   |a::b::l,cM=>simp at cM;omega
 have bF:=cm bF
 obtain ⟨b,ft,aj,_⟩:∃b c,s.a=some ⟨b,0,none⟩∧bQ w b c ad.int:=by
   rcases h.2.2.2 with ⟨_,ak⟩|⟨b,c,aj,eu,_⟩
   · have:=h.2.1;omega
   · exact ⟨b,c,aj,eu⟩
 have AK:=h.2.1
 refine ⟨fun n J=>∃k:Nat,n=(k:Int)∧1≤k∧k≤zs.length∧Ext w J∧∀ (j:Nat) (bu:j+1<zs.length),j+1<k→zs[j]≠zs[j+1],
   fun n _=>((zs.length:Int)-n).toNat,⟨1,rfl,b6 _,by omega, .refl _ _,fun j bu U=>by omega⟩,?_⟩
 rintro _ bf ⟨k,rfl,gD,h7,ai,b_⟩
 have D_:∀ {J:World} {cur:List Int},aY 1 ad.int J s (cur.map encZ)→∀ (j:Nat) (bu:j<cur.length),J.cell? ⟨b,j,none⟩=some (.int .i64 cur[j]):=fun {J cur} aS j bu=>by
   obtain ⟨Dh,c,jA,_,_,_,_,mL,_⟩:=aS.cell (i:=j) (v:=encZ cur[j]) (by rw[vw,gY bu];rfl)
   rw[aj] at jA;cases jA
   exact mL
 have AL:∀n:Nat,(Addr.mk b 0 none).add (Int.toNat ((n:Nat):Int)*1)=⟨b,n,none⟩:=fun n=>by rw[er,a_,fX,gJ]
 refine ⟨fun aR=> ?_,fun vI=> ?_⟩
 · have aa:k<zs.length:=by
     have:((k:Nat):Int)<((s.len:Nat):Int):=cf aR
     omega
   have bN:=c_ bf
   have bH:=(h.ext ai).ext bN
   have tN:IntKind.wrap .i64 (((k:Nat):Int)-1)=((k-1:Nat):Int):=by rw[b3 (by omega) (by omega)];omega
   rw[tN]
   refine bj ⟨_,aj,⟨by omega,by show ((k:Nat):Int)<((s.len:Nat):Int);omega⟩,id,zs[k],by rw[AL];exact D_ bH k aa,_,aj,⟨by omega,by show ((k-1:Nat):Int)<((s.len:Nat):Int);omega⟩,id,zs[k-1],by rw[AL];exact D_ bH (k-1) (by omega),fun heq=> ?_,fun HF=> ?_⟩
   rotate_left
   · have HF:zs[k]≠zs[k-1]:=by simpa using HF
     have nL:IntKind.wrap .i64 (((k:Nat):Int)+1)=((k+1:Nat):Int):=by rw[b3 (by omega) (by omega)];omega
     rw[nL]
     refine ⟨⟨k+1,rfl,by omega,by omega,Ext.trans ai bN,fun j bu HG=> ?_⟩,by show ((zs.length:Int)-((k+1:Nat):Int)).toNat<((zs.length:Int)-((k:Nat):Int)).toNat;omega⟩
     by_cases e:j+1=k
     · subst e
       intro cg
       exact HF (by rw[←cg];rfl)
     · exact b_ j bu (by omega)
   have heq:zs[k]=zs[k-1]:=by simpa using heq
   refine ⟨⟨by omega,by show ((k:Nat):Int)≤((s.len:Nat):Int);omega⟩,fun n12 n13 J=>∃ (m i:Nat) (cur:List Int),n12=(i:Int)∧n13=(m:Int)∧1≤m∧k+m≤zs.length∧i<k+m∧k≤i∧cur.length=zs.length∧aY 1 ad.int J s (cur.map encZ)∧aq (aH s) w J∧(cur.take i).Pairwise (fun a b=>a<b)∧(∀x,x∈cur.take i↔x∈zs.take (k+m))∧∀ (j:Nat) (U:j<cur.length) (ag:j<zs.length),i≤j→cur[j]=zs[j],
     fun _ n _=>((zs.length:Int)-n).toNat,⟨1,k,zs,rfl,rfl,b6 _,by omega,by omega,b6 _,rfl,bH,(Ext.trans ai bN).mono fun _ _ h=>h.elim,Om aJ h7 b_,fun x=> ?_,fun _ _ _ _=>rfl⟩,?_⟩
   · rw[kS aa,hD,gv]
     constructor
     · exact .inl
     · rintro (cg|cg)
       · exact cg
       · rw[cg,heq]
         exact List.mem_iff_getElem.2 ⟨k-1,by rw[iv];omega,by rw[C0]⟩
   rintro _ _ b9 ⟨m,i,cur,rfl,rfl,aiv,aiw,aix,k5,mL,aS,ak,aU,gG,Ea⟩
   have Yh:cN s.a 1 (Int.toNat ((k:Nat):Int)) s.cap=some ⟨b,k,none⟩:=by
     rw[aj,er,Dn (by omega),fX,gJ]
   have HH:∀n:Nat,(Addr.mk b k none).add (Int.toNat ((n:Nat):Int)*1)=⟨b,k+n,none⟩:=fun n=>by rw[er,a_,gJ]
   rw[Yh,er]
   refine ⟨fun HI=> ?_,fun HJ=> ?_⟩
   · have hm:k+m<zs.length:=by
       have:((m:Nat):Int)<((s.len-k:Nat):Int):=cf HI
       omega
     have em:IntKind.wrap .i64 (((m:Nat):Int)-1)=((m-1:Nat):Int):=by rw[b3 (by omega) (by omega)];omega
     have Yi:IntKind.wrap .i64 (((m:Nat):Int)+1)=((m+1:Nat):Int):=by rw[b3 (by omega) (by omega)];omega
     rw[em,Yi]
     have wm:=c_ b9
     have h5:=aS.ext wm
     have sO:zs[k+m-1]≤zs[k+m]:=D9 aJ (by omega) hm
     have aN:cur[k+m]=zs[k+m]:=Ea _ (by omega) hm (by omega)
     have a6:cur[k+m-1]=zs[k+m-1]:=Ea _ (by omega) (by omega) (by omega)
     have bS:b9.drew.cell? ⟨b,k+m,none⟩=some (.int .i64 zs[k+m]):=by rw[D_ h5 (k+m) (by omega),aN]
     have cu:b9.drew.cell? ⟨b,k+(m-1),none⟩=some (.int .i64 zs[k+m-1]):=by
       have:k+(m-1)=k+m-1:=by omega
       rw[this,D_ h5 (k+m-1) (by omega),a6]
     have aiy:(k+(m+1))=(k+m)+1:=by omega
     refine dU (fun n25 dm=>∃ (hW:Nat) (um:List Int),n25=(hW:Int)∧hW<k+m+1∧k≤hW∧um.length=zs.length∧aY 1 ad.int dm s (um.map encZ)∧aq (aH s) w dm∧(um.take hW).Pairwise (fun a b=>a<b)∧(∀x,x∈um.take hW↔x∈zs.take (k+m+1))∧∀ (j:Nat) (U:j<um.length) (ag:j<zs.length),hW≤j→um[j]=zs[j]) (fun q ae=>bj ⟨_,rfl,⟨by omega,by show ((m:Nat):Int)<((s.len-k:Nat):Int);omega⟩,id,zs[k+m],by rw[HH];exact bS,_,rfl,⟨by omega,by show ((m-1:Nat):Int)<((s.len-k:Nat):Int);omega⟩,id,zs[k+m-1],by rw[HH];exact cu,fun aE=> ?_,fun aE=> ?_⟩) ?_
     · have aE:zs[k+m]≠zs[k+m-1]:=by simpa using aE
       have Yj:IntKind.wrap .i64 (((i:Nat):Int)+1)=((i+1:Nat):Int):=by rw[b3 (by omega) (by omega)];omega
       have HK:i<s.len:=by omega
       obtain ⟨Dh,k6,jA,eu,eN,_,HL,Yk,_⟩:=h5.cell (i:=i) (v:=encZ (cur[i]'(by omega))) (by rw[vw,gY (by omega)];rfl)
       rw[aj] at jA;cases jA
       have AA:=h5.set (i:=i) aj (.int .i64 zs[k+m])
       have Yl:(cur.map encZ).set i (.int .i64 zs[k+m])=(cur.set i zs[k+m]).map encZ:=by rw[List.map_set]
       rw[Yl] at AA
       refine ⟨_,rfl,⟨by omega,by show ((m:Nat):Int)<((s.len-k:Nat):Int);omega⟩,zs[k+m],by rw[HH];exact bS,_,aj,⟨by omega,by show ((i:Nat):Int)<((s.len:Nat):Int);omega⟩,⟨_,by rw[AL];exact Yk⟩,by rw[AL];exact bQ.frozen eu _ rfl,?_⟩
       rw[AL,Yj]
       refine bj (ae _ _ ⟨i+1,cur.set i zs[k+m],rfl,by omega,by omega,by rw[ju];exact mL,AA,?_,?_,fun x=> ?_,fun j U ag AJ=> ?_⟩)
       · exact (eh ak (wm.mono fun _ _ h=>h.elim) fun q _ h=>h).trans ((mQ _ _ _ _).mono fun q _ e=>⟨_,aj,e.symm⟩)
       · rw[kS (by rw[ju];omega),List.take_set_of_le (b6 _),sf]
         refine List.pairwise_append.2 ⟨aU,List.pairwise_singleton _ _,fun y bA z cc=> ?_⟩
         rw[gv.1 cc]
         obtain ⟨a,aI,rfl⟩:=qq ((gG y).1 bA)
         rw[iv] at aI
         rw[C0]
         have:=D9 aJ (i:=a) (j:=k+m-1) (by omega) (by omega)
         omega
       · rw[kS (by rw[ju];omega),List.take_set_of_le (b6 _),sf,kS hm,hD,hD,gG]
       · rw[List.getElem_set_ne (by omega)]
         exact Ea j (by omega) ag (by omega)
     · have aE:zs[k+m]=zs[k+m-1]:=by simpa using aE
       refine ae _ _ ⟨i,cur,rfl,by omega,k5,mL,h5,eh ak (wm.mono fun _ _ h=>h.elim) fun q _ h=>h,aU,fun x=> ?_,Ea⟩
       rw[gG,kS hm,hD,gv]
       constructor
       · exact .inl
       · rintro (cg|cg)
         · exact cg
         · rw[cg,aE]
           exact List.mem_iff_getElem.2 ⟨k+m-1,by rw[iv];omega,by rw[C0]⟩
     · rintro _ dm ⟨hW,um,rfl,aZ,a7,bm,ca,c6,Ym,Yn,Yo⟩
       exact ⟨⟨m+1,hW,um,rfl,rfl,by omega,by omega,by omega,a7,bm,ca,c6,Ym,Yn,Yo⟩,by show ((zs.length:Int)-((m+1:Nat):Int)).toNat<((zs.length:Int)-((m:Nat):Int)).toNat;omega⟩
   · have hm:k+m=zs.length:=by
       have:¬((m:Nat):Int)<((s.len-k:Nat):Int):=cm HJ
       omega
     rw[hm,lp] at gG
     rw[er,Yp]
     obtain ⟨c,eu,eN,AM⟩:∃c,bQ b9 b c ad.int∧c.size=s.cap∧c.toList.take s.len=cur.map encZ:=by
       rcases aS.2.2.2 with ⟨_,AN⟩|⟨Dh,c,U,ag,aA,aK⟩
       · omega
       · rw[aj] at U;cases U
         exact ⟨c,ag,by rw[aA,gJ],by rw[gJ] at aK;exact aK⟩
     have Yq:=aS.2.2.1
     have bH:∀z:Value,z= .int .i64 0→z.cells.size=1:=fun z e=>by rw[e];rfl
     obtain ⟨On,v_,Yr⟩:=Ys (P:=Tryz.prog) (w:=b9) (T:=ad.da) (o:=ad.t) (n:=s.len-i) (c:=s.cap-i) (A:=⟨b,i,none⟩) (z:= .int .i64 0) (sz:=1) (by kernel_rfl) ((Option.some_get (show (Tryz.prog.info? ad.int).isSome=true by kernel_rfl)).symm) (by kernel_rfl) rfl (by omega) (fun On pF=>by
       refine bQ.gZ eu _ _ (by rw[pF];simp[Builtin.zeroCells,Value.cells];omega) fun u hu=> ?_
       rw[pF] at hu
       simp only[Builtin.zeroCells,Array.toList_map,gl] at hu
       obtain ⟨j,bu,rfl⟩:=hu
       have:∀n,n<1→(#[Value.int .i64 0]:Array Value)[n]! = .int .i64 0:=fun n aD=>by
         have:n=0:=by omega
         subst this;rfl
       have HM:j%1<1:=by omega
       have:=this (j%1) HM
       show Plain ((#[Value.int .i64 0]:Array Value)[j%1]!)
       rw[this];trivial)
     have Oo:cN s.a 1 (Int.toNat ((i:Nat):Int)) s.cap=some ⟨b,i,none⟩:=by rw[aj,er,Dn (by omega),fX,gJ]
     rw[er] at Oo
     refine ⟨⟨by omega,by show ((i:Nat):Int)≤((s.len:Nat):Int);omega⟩,_,_,by rw[Oo];exact Yr,⟨by omega,by show ((i:Nat):Int)≤((s.cap:Nat):Int);omega⟩,⟨s.a,i,s.cap⟩,cur.take i,rfl,?_,aU,gG,?_,fun q=>Iff.rfl⟩
     · rw[aj]
       refine aY.mk' (bQ.vJ eu On) (by simp;omega) (by omega) Yq (by rw[xX,eN,gJ]) ?_
       rw[Ah _ _ _ (by omega),gJ,gC,List.take_append_of_le_length (by simp;omega),List.take_take,Nat.min_self]
       rw[List.map_take,←AM,List.take_take,Nat.min_eq_left (by omega)]
     · exact ak.trans (aq.mono (W:=fun q=>q=b) (aq.Ab (.refl _ _) _ 0) (fun q _ ae=>⟨_,aj,ae.symm⟩))
 · exact ⟨s,zs,rfl,h.ext ai,by
     have aa:k=zs.length:=by
       have:¬((k:Nat):Int)<((s.len:Nat):Int):=cm vI
       omega
     have U:=Om aJ h7 b_
     rw[aa,lp] at U
     exact U,fun x=>Iff.rfl,ai.mono fun _ _ h=>h.elim,fun q=>Iff.rfl⟩
end
end Go.Proofs.YtmhhgpogjpbglaaGreat
namespace Go.Proofs.YtmhhgpogjpbglaaGreat
open Go Go.Proofs Go.Shelf
def Yt:Go.Shelf.Ren:=⟨fun|5=>104|8=>159|7=>158|19=>206|20=>207|10=>197|11=>198|12=>199|13=>200|14=>201|15=>202|16=>203|17=>204|18=>205|30=>231|31=>232|32=>233|33=>234|34=>235|35=>236|40=>246|n=>n,fun|23=>75|25=>3|3=>3|32=>85|22=>75|0=>0|44=>113|46=>30|4=>4|36=>270|35=>269|41=>154|5=>5|9=>9|53=>300|57=>303|63=>311|64=>176|n=>n,fun|n=>n⟩
theorem Oq:Go.Proofs.SlLaysM.n5 Tryz.prog Yt:={
 mixed:=by kernel_rfl
 f5:=⟨Tryz.f104.name,by decide,Tryz.func104.trans (congrArg some (by kernel_rfl))⟩
 f7:=⟨Tryz.f158.name,by decide,Tryz.func158.trans (congrArg some (by kernel_rfl))⟩
 f8:=Tryz.func159.trans (congrArg some (by kernel_rfl))
 f10:=⟨Tryz.f197.name,by decide,Tryz.func197.trans (congrArg some (by kernel_rfl))⟩
 f11:=⟨Tryz.f198.name,by decide,Tryz.func198.trans (congrArg some (by kernel_rfl))⟩
 f12:=⟨Tryz.f199.name,by decide,Tryz.func199.trans (congrArg some (by kernel_rfl))⟩
 f13:=⟨Tryz.f200.name,by decide,Tryz.func200.trans (congrArg some (by kernel_rfl))⟩
 f14:=⟨Tryz.f201.name,by decide,Tryz.func201.trans (congrArg some (by kernel_rfl))⟩
 f15:=⟨Tryz.f202.name,by decide,Tryz.func202.trans (congrArg some (by kernel_rfl))⟩
 f16:=⟨Tryz.f203.name,by decide,Tryz.func203.trans (congrArg some (by kernel_rfl))⟩
 f17:=⟨Tryz.f204.name,by decide,Tryz.func204.trans (congrArg some (by kernel_rfl))⟩
 f18:=⟨Tryz.f205.name,by decide,Tryz.func205.trans (congrArg some (by kernel_rfl))⟩
 f19:=Tryz.func206.trans (congrArg some (by kernel_rfl))
 f20:=Tryz.func207.trans (congrArg some (by kernel_rfl))
 f30:=⟨Tryz.f231.name,by decide,Tryz.func231.trans (congrArg some (by kernel_rfl))⟩
 f31:=Tryz.func232.trans (congrArg some (by kernel_rfl))
 f32:=Tryz.func233.trans (congrArg some (by kernel_rfl))
 f33:=⟨Tryz.f234.name,by decide,Tryz.func234.trans (congrArg some (by kernel_rfl))⟩
 f34:=⟨Tryz.f235.name,by decide,Tryz.func235.trans (congrArg some (by kernel_rfl))⟩
 f35:=⟨Tryz.f236.name,by decide,Tryz.func236.trans (congrArg some (by kernel_rfl))⟩
 f40:=⟨Tryz.f246.name,by decide,Tryz.func246.trans (congrArg some (by kernel_rfl))⟩
 t0:=Tryz.underlying0
 a0:=Tryz.isAgg0
 z0:=Tryz.sizeOf0
 v0:=Tryz.zeroValue0
 t3:=Tryz.underlying3
 a3:=Tryz.isAgg3
 z3:=Tryz.sizeOf3
 v3:=Tryz.zeroValue3
 t4:=Tryz.underlying4
 a4:=Tryz.isAgg4
 z4:=Tryz.sizeOf4
 v4:=Tryz.zeroValue4
 t5:=Tryz.underlying5
 a5:=Tryz.isAgg5
 z5:=Tryz.sizeOf5
 v5:=Tryz.zeroValue5
 t9:=Tryz.underlying9
 a9:=Tryz.isAgg9
 z9:=Tryz.sizeOf9
 v9:=Tryz.zeroValue9
 t22:=Tryz.underlying75
 a22:=Tryz.isAgg75
 z22:=Tryz.sizeOf75
 v22:=Tryz.zeroValue75
 t23:=Tryz.underlying75
 a23:=Tryz.isAgg75
 z23:=Tryz.sizeOf75
 v23:=Tryz.zeroValue75
 t25:=Tryz.underlying3
 a25:=Tryz.isAgg3
 z25:=Tryz.sizeOf3
 v25:=Tryz.zeroValue3
 t32:=Tryz.underlying85
 a32:=Tryz.isAgg85
 z32:=Tryz.sizeOf85
 v32:=Tryz.zeroValue85
 t35:=Tryz.underlying269
 a35:=Tryz.isAgg269
 z35:=Tryz.sizeOf269
 v35:=Tryz.zeroValue269
 t36:=Tryz.underlying270
 a36:=Tryz.isAgg270
 z36:=Tryz.sizeOf270
 v36:=Tryz.zeroValue270
 t41:=Tryz.underlying154
 a41:=Tryz.isAgg154
 z41:=Tryz.sizeOf154
 v41:=Tryz.zeroValue154
 t44:=Tryz.underlying113
 a44:=Tryz.isAgg113
 z44:=Tryz.sizeOf113
 v44:=Tryz.zeroValue113
 t46:=Tryz.underlying30
 a46:=Tryz.isAgg30
 z46:=Tryz.sizeOf30
 v46:=Tryz.zeroValue30
 t53:=Tryz.underlying300
 a53:=Tryz.isAgg300
 z53:=Tryz.sizeOf300
 v53:=Tryz.zeroValue300
 t57:=Tryz.underlying303
 a57:=Tryz.isAgg303
 z57:=Tryz.sizeOf303
 v57:=Tryz.zeroValue303
 t63:=Tryz.underlying311
 a63:=Tryz.isAgg311
 z63:=Tryz.sizeOf311
 v63:=Tryz.zeroValue311
 t64:=Tryz.underlying176
 a64:=Tryz.isAgg176
 z64:=Tryz.sizeOf176
 v64:=Tryz.zeroValue176}
end Go.Proofs.YtmhhgpogjpbglaaGreat
namespace Go.Proofs.YtmhhgpogjpbglaaGreat
open Go bD
section
theorem Yu {w:World} {b n:Nat} {c:Array Value} {T:TypeId} {os:Array Obj} {zs:List Int} (h:bQ w b c T) (cc:zs.length≤c.size):
   ∃oG:Array Value,bQ (Go.Sort.grow (Go.Sort.putRow (Value.int .i64) (Go.Sort.ahead w n) b 0 zs.toArray) os) b oG T∧oG.size=c.size∧oG.toList.take zs.length=zs.map encZ∧aq (fun q=>q=b) w (Go.Sort.grow (Go.Sort.putRow (Value.int .i64) (Go.Sort.ahead w n) b 0 zs.toArray) os):=by
 have aR:=h.lt
 have Ot:∀k,k<w.heap.size→(Go.Sort.grow (Go.Sort.putRow (Value.int .i64) (Go.Sort.ahead w n) b 0 zs.toArray) os).heap[k]? =(w.heap.modify b (Go.Sort.onCells (Go.Sort.putCells (Value.int .i64) 0 zs.toArray)))[k]? :=fun k aa=>by
   show ((w.heap.modify b _)++os)[k]? =_
   rw[Array.getElem?_append_left (by simpa using aa)]
 refine ⟨Go.Sort.putCells (Value.int .i64) 0 zs.toArray c,?_,by simp[Go.Sort.putCells],?_,rfl,rfl,rfl,?_,fun k aa b_=> ?_⟩
 · unfold bQ at h⊢
   rw[Ot b aR,C1,if_pos rfl,h]
   rfl
 · apply List.ext_getElem?
   intro i
   rw[List.getElem?_take]
   split
   · rename_i hi
     rw[Array.getElem?_toList,Go.Sort.putCells,Array.getElem?_mapIdx,Array.getElem?_eq_getElem (by omega),tG,if_pos ⟨ei _,by simpa using hi⟩,vw,gY hi]
     simp[hi]
   · rename_i hi
     rw[xS (by simpa using hi)]
 · show w.heap.size≤((w.heap.modify b _)++os).size
   simp
 · rw[Ot k aa,C1,if_neg (fun e=>b_ e.symm)]
theorem Yv {w:World} {s:ah} {zs:List Int} (h:aY 1 ad.int w s (zs.map encZ)) (aC:zs.length≤1000000):
   aM Tryz.prog F.Ou #[.slice s.a s.len s.cap] w (fun v J=>v= .tuple #[]∧aq (aH s) w J∧∃ys:List Int,aY 1 ad.int J s (ys.map encZ)∧ys.Perm zs∧ys.Pairwise fun a b=>a≤b):=by
 have cM:s.len=zs.length:=by have:=h.1;rw[ep] at this;omega
 rcases Nat.eq_zero_or_pos zs.length with bP|bP
 · have aE:zs=[]:=tE.1 bP
   have e:s.len=0:=by omega
   rw[e]
   refine Calls.mono (AnyM.slices_Sort_int_none Oq s.a s.cap w) ?_
   rintro _ _ ⟨rfl,rfl⟩
   exact ⟨_,rfl,rfl, .refl _ _,[],by rw[aE] at h;exact h,by rw[aE],List.Pairwise.nil⟩
 obtain ⟨U,ag,aA,aK⟩:=h
 rcases aK with ⟨_,bH⟩|⟨b,c,aI,aj,eN,HN⟩
 · omega
 have Yw:Go.Sort.Holds (Value.int .i64) w b 0 zs.toArray:=fun j bu=>by
   have kD:j<zs.length:=by simpa using bu
   refine ⟨?_,bQ.frozen aj _ rfl⟩
   rw[aj.cell,fX]
   have e:=congrArg (fun l=>l[j]?) HN
   simp only[List.getElem?_take,vw,gY kD,tG] at e
   rw[if_pos (by omega),Array.getElem?_toList] at e
   rw[e]
   simp[kD]
 have vT:=AnyM.slices_Sort_int Oq b 0 s.cap zs w Yw aj.lt (by omega)
 rw[aI]
 have e:s.len=zs.length:=by omega
 rw[e]
 refine Calls.mono vT ?_
 rintro _ J ⟨rfl,n,os,rfl⟩
 obtain ⟨oG,aZ,a7,bm,ca⟩:=Yu (n:=n) (os:=os) (zs:=zs.mergeSort fun x y=>decide (x≤y)) aj (by rw[List.length_mergeSort];omega)
 have sP:=List.mergeSort_perm zs fun x y=>decide (x≤y)
 have Ov:(zs.mergeSort fun x y=>decide (x≤y)).Pairwise fun a b=>decide (a≤b)=true:=List.pairwise_mergeSort (fun a b c U ag=>by simp only[cR] at*;omega) (fun a b=>by simp only[hP,cR];omega) zs
 generalize (zs.mergeSort fun x y=>decide (x≤y))=ys at aZ a7 bm ca sP Ov
 refine ⟨_,rfl,rfl,ca.mono fun q _ e=>⟨⟨b,0,none⟩,aI,e.symm⟩,ys,?_,sP,Ov.imp fun h=>cf h⟩
 have wo:=sP.length_eq
 have bH:=aY.mk' (sz:=1) (n:=s.len) (cap:=s.cap) aZ (vs:=ys.map encZ) (by rw[ep];omega) ag aA (by rw[a7];exact eN) (by rw[gJ,e,←wo];exact bm)
 rw[←aI] at bH
 exact bH
end
section
def pG (mh kz h8 gw e3 ka kb ih:Bool):Nat:=
 mh.toNat+2*kz.toNat+4*h8.toNat+8*gw.toNat+16*e3.toNat+32*ka.toNat+64*kb.toNat+128*ih.toNat
def byteOf (f:Nat→Bool) (i:Nat):Nat:=pG (f (8*i)) (f (8*i+1)) (f (8*i+2)) (f (8*i+3)) (f (8*i+4)) (f (8*i+5)) (f (8*i+6)) (f (8*i+7))
theorem Yx:∀mh kz h8 gw e3 ka kb ih:Bool,pG mh kz h8 gw e3 ka kb ih<256:=by decide+kernel
theorem Yy:∀mh kz h8 gw e3 ka kb ih:Bool,
   (pG mh kz h8 gw e3 ka kb ih).testBit 0=mh∧(pG mh kz h8 gw e3 ka kb ih).testBit 1=kz∧(pG mh kz h8 gw e3 ka kb ih).testBit 2=h8∧(pG mh kz h8 gw e3 ka kb ih).testBit 3=gw∧
   (pG mh kz h8 gw e3 ka kb ih).testBit 4=e3∧(pG mh kz h8 gw e3 ka kb ih).testBit 5=ka∧(pG mh kz h8 gw e3 ka kb ih).testBit 6=kb∧(pG mh kz h8 gw e3 ka kb ih).testBit 7=ih:=by decide+kernel
theorem AO (f:Nat→Bool) (i:Nat):byteOf f i<256:=Yx _ _ _ _ _ _ _ _
theorem HO (f:Nat→Bool) (i j:Nat) (bu:j<8):(byteOf f i).testBit j=f (8*i+j):=by
 obtain ⟨bP,U,ag,aA,aK,bH,cg,gO⟩:=Yy (f (8*i)) (f (8*i+1)) (f (8*i+2)) (f (8*i+3)) (f (8*i+4)) (f (8*i+5)) (f (8*i+6)) (f (8*i+7))
 have:j=0∨j=1∨j=2∨j=3∨j=4∨j=5∨j=6∨j=7:=by omega
 unfold byteOf
 rcases this with rfl|rfl|rfl|rfl|rfl|rfl|rfl|rfl<;>assumption
theorem Yz {x y:Nat} (ai:x<256) (bA:y<256) (h:∀j,j<8→x.testBit j=y.testBit j):x=y:=by
 apply Nat.eq_of_testBit_eq
 intro j
 by_cases bu:j<8
 · exact h j bu
 · have p:256≤2^j:=by
     have:=CU (n:=2) (by omega) (by omega:8≤j)
     simpa using this
   rw[Nat.testBit_lt_two_pow (by omega),Nat.testBit_lt_two_pow (by omega)]
theorem Ow (f:Nat→Bool) (i x:Nat) (ai:x<256) (h:∀j,j<8→x.testBit j=f (8*i+j)):x=byteOf f i:=
 Yz ai (AO f i) fun j bu=>by rw[h j bu,HO f i j bu]
def jk (f:Nat→Bool) (k:Nat) (b:Bool):Nat→Bool:=fun i=>if i=k then b else f i
theorem YA:∀x:Nat,x<256→∀j:Nat,j<8→(nu .u8 (Int.fdiv (x:Int) (2^(min (Int.toNat (j:Int)) 8))) 1==1)=x.testBit j:=by decide+kernel
theorem YB:∀x:Nat,x<256→∀j:Nat,j<8→x1 .u8 (x:Int) (IntKind.wrap .u8 (1*2^(min (Int.toNat (j:Int)) 8)))=((x|||2^j:Nat):Int):=by decide+kernel
theorem YC:∀x:Nat,x<256→∀y:Nat,y<256→x|||y<256:=fun _ ai _ bA=>Nat.or_lt_two_pow (n:=8) ai bA
theorem YD (k:Nat):8*(k/8)+k%8=k:=Nat.div_add_mod k 8
theorem YE (f:Nat→Bool) (k:Nat):byteOf f (k/8)|||2^(k%8)=byteOf (jk f k true) (k/8):=by
 refine Ow _ _ _ (YC _ (AO _ _) _ ?_) fun j bu=> ?_
 · have:k%8<8:=kT _ (by omega)
   have:=Nat.pow_lt_pow_right (a:=2) (by omega) this
   simpa using this
 · rw[vC,HO _ _ _ bu,z7,jk]
   by_cases h:8*(k/8)+j=k
   · rw[if_pos h]
     have:k%8=j:=by omega
     simp[this]
   · rw[if_neg h]
     have:¬k%8=j:=by omega
     simp[this]
theorem YF (f:Nat→Bool) (k i:Nat) (b:Bool) (h:i≠k/8):byteOf (jk f k b) i=byteOf f i:=by
 have e:∀j,j<8→jk f k b (8*i+j)=f (8*i+j):=fun j bu=>by
   unfold jk
   rw[if_neg]
   omega
 unfold byteOf
 rw[e 1 (by omega),e 2 (by omega),e 3 (by omega),e 4 (by omega),e 5 (by omega),e 6 (by omega),e 7 (by omega)]
 have:=e 0 (by omega)
 simp only[Nat.add_zero] at this
 rw[this]
def fT (f:Nat→Bool) (m:Nat):List Value:=(List.range m).map fun i=> .int .u8 (byteOf f i)
def jG (f:Nat→Bool) (m:Nat):List Value:=(List.range m).map fun i=> .bool (f i)
theorem HP (f:Nat→Bool) (m:Nat):(fT f m).length=m:=by simp[fT]
theorem Eb (f:Nat→Bool) (m:Nat):(jG f m).length=m:=by simp[jG]
theorem Ec (f:Nat→Bool) {m i:Nat} (h:i<m):(fT f m)[i]? =some (.int .u8 (byteOf f i)):=by simp[fT,h]
theorem AP (f:Nat→Bool) {m i:Nat} (h:i<m):(jG f m)[i]? =some (.bool (f i)):=by simp[jG,h]
theorem YG (f:Nat→Bool) (k m:Nat) (b:Bool):(fT f m).set (k/8) (.int .u8 (byteOf (jk f k b) (k/8)))=fT (jk f k b) m:=by
 apply List.ext_getElem?
 intro i
 rw[List.getElem?_set]
 by_cases hi:i<m
 · rw[Ec (jk f k b) hi]
   by_cases h:k/8=i
   · subst h
     simp[HP,hi]
   · rw[if_neg h,Ec _ hi,YF f k i b (by omega)]
 · have U:(fT (jk f k b) m)[i]? =none:=by simp[fT];omega
   have ag:(fT f m)[i]? =none:=by simp[fT];omega
   rw[U,ag]
   split
   · simp[HP];omega
   · rfl
theorem Ox (f:Nat→Bool) (k m:Nat) (b:Bool):(jG f m).set k (.bool b)=jG (jk f k b) m:=by
 apply List.ext_getElem?
 intro i
 rw[List.getElem?_set]
 by_cases hi:i<m
 · rw[AP (jk f k b) hi]
   by_cases h:k=i
   · subst h
     simp[Eb,hi,jk]
   · rw[if_neg h,AP _ hi]
     simp[jk,Ne.symm h]
 · have U:(jG (jk f k b) m)[i]? =none:=by simp[jG];omega
   have ag:(jG f m)[i]? =none:=by simp[jG];omega
   rw[U,ag]
   split
   · simp[Eb];omega
   · rfl
end
section
theorem Oy (k:Nat):Int.tdiv (k:Int) 8=((k/8:Nat):Int):=by
 rw[Int.tdiv_eq_ediv_of_nonneg (by omega)];omega
theorem AQ (k:Nat):Int.tmod (k:Int) 8=((k%8:Nat):Int):=by
 rw[tJ (by omega)];omega
theorem Ed {k:Nat} (h:k≤9223372036854775807):IntKind.wrap .i64 (Int.tdiv (k:Int) 8)=((k/8:Nat):Int):=by
 rw[Oy,b3 (by omega) (by omega)]
theorem YH {s:ah} {b:Nat} (h:s.a=some ⟨b,0,none⟩):aH s b:=⟨_,h,rfl⟩
theorem Oz {w:World} {s:ah} {f:Nat→Bool} {m k:Nat} (h:aY 1 ad.uint8 w s (fT f m)) (aa:k/8<m) (cA:k≤9223372036854775807):
   aM Tryz.prog F.sQ #[.slice s.a s.len s.cap, .int .i64 k] w (fun v J=>v= .bool (f k)∧w=J):=by
 refine W.YI s k w _ ?_
 (delta W.sQ aQ av b1;dsimp only)
 obtain ⟨b,c,aj,eu,eN,hi,HL,ak,_⟩:=h.cell (Ec f aa)
 refine ⟨by decide,_,aj,?_⟩
 rw[Ed cA,AQ]
 refine ⟨⟨by omega,by omega⟩,(byteOf f (k/8):Int),?_,by decide,by omega,?_,rfl⟩
 · rw[gJ,er,a_,fX];exact ak
 · rw[YA _ (AO _ _) _ (kT _ (by omega)),HO _ _ _ (kT _ (by omega)),YD]
theorem YJ {w:World} {s:ah} {f:Nat→Bool} {m k:Nat} (h:aY 1 ad.uint8 w s (fT f m)) (aa:k/8<m) (cA:k≤9223372036854775807):
   aM Tryz.prog F.uo #[.slice s.a s.len s.cap, .int .i64 k] w (fun v J=>v= .tuple #[]∧aY 1 ad.uint8 J s (fT (jk f k true) m)∧aq (aH s) w J):=by
 refine W.YK s k w _ ?_
 (delta W.uo ay aQ av b1 st;dsimp only)
 obtain ⟨b,c,aj,eu,eN,hi,HL,ak,_⟩:=h.cell (Ec f aa)
 have aI:(Addr.mk b 0 none).add (Int.toNat ((k/8:Nat):Int)*1)=⟨b,k/8,none⟩:=by rw[gJ,er,a_,fX]
 rw[Ed cA,AQ]
 refine ⟨by decide,_,aj,⟨by omega,by omega⟩,by simp,(byteOf f (k/8):Int),by rw[aI];exact ak,by decide,by omega,_,aj,⟨by omega,by omega⟩,⟨_,by rw[aI];exact ak⟩,by rw[aI];exact eu.drew.frozen _ rfl,rfl,?_,?_⟩
 · rw[aI,YB _ (AO _ _) _ (kT _ (by omega)),YE,←YG]
   have ga:aY 1 ad.uint8 w.drew s (fT f m):=h.aB (W:=fun _=>False) (aq.drew (.refl _ _)) (fun _ _ h=>h)
   exact ga.set aj _
 · rw[aI]
   exact aq.set (aq.drew (.refl _ _)) (fun _=>YH aj) _
structure jl (w:World) (b n:Nat) (f g:Nat→Bool) (s1 s2:ah):Prop where
 bT:bQ w b #[.int .i64 n, .slice s1.a s1.len s1.cap, .slice s2.a s2.len s2.cap] ad.pH
 now:aY 1 ad.uint8 w s1 (fT f ((n+7)/8))
 sure:aY 1 ad.uint8 w s2 (fT g ((n+7)/8))
 d1:∀k,aH s1 k→k≠b∧¬aH s2 k
 d2:∀k,aH s2 k→k≠b
 dF:1≤n
 cY:n≤1600
 YL:∀i,n≤i→f i=false
 YM:∀i,n≤i→g i=false
def kc (b:Nat) (s1 s2:ah) (k:Nat):Prop:=k=b∨aH s1 k∨aH s2 k
section
variable {w J:World} {b n:Nat} {f g:Nat→Bool} {s1 s2:ah}
theorem jl.aB {W:Nat→Prop} (h:jl w b n f g s1 s2) (ak:aq W w J) (aD:∀k,kc b s1 s2 k→¬W k):jl J b n f g s1 s2:=
 ⟨h.bT.aB ak (aD b (.inl rfl)),h.now.aB ak fun k aa=>aD k (.inr (.inl aa)),h.sure.aB ak fun k aa=>aD k (.inr (.inr aa)),h.d1,h.d2,h.dF,h.cY,h.YL,h.YM⟩
theorem jl.ext (h:jl w b n f g s1 s2) (ak:Ext w J):jl J b n f g s1 s2:=h.aB ak fun _ _ h=>h
theorem jl.lt (h:jl w b n f g s1 s2):∀k,kc b s1 s2 k→k<w.heap.size:=by
 rintro k (rfl|aa|aa)
 · exact h.bT.lt
 · exact h.now.lt k aa
 · exact h.sure.lt k aa
theorem jl.ft (h:jl w b n f g s1 s2):w.cell? ⟨b,0,none⟩=some (.int .i64 n):=by rw[h.bT.cell];rfl
theorem jl.bS (h:jl w b n f g s1 s2):w.cell? ((Addr.mk b 0 none).add 1)=some (.slice s1.a s1.len s1.cap):=by rw[a_,h.bT.cell];rfl
theorem YN (h:jl w b n f g s1 s2) (k:Int):
   aM Tryz.prog F.uq #[.pointer (some ⟨b,0,none⟩), .int .i64 k] w (fun v J=>v= .bool (decide (0≤k)&&decide (k<n))∧w=J):=by
 refine W.YO _ k w _ ?_
 (delta W.uq au az;dsimp only)
 refine ⟨?_⟩
 refine ⟨fun U=>⟨_,rfl,n,h.ft,?_,rfl⟩,fun U=>⟨?_,rfl⟩⟩
 · have:0≤k:=by simpa using U
   simp[this]
 · have:¬0≤k:=by simpa using U
   simp[this]
theorem YP (h:jl w b n f g s1 s2) (k:Int):
   aM Tryz.prog F.ur #[.pointer (some ⟨b,0,none⟩), .int .i64 k] w (fun v J=>v= .bool (decide (0≤k)&&decide (k<n)&&f k.toNat)∧w=J):=by
 have g1:=h.cY
 refine W.YQ _ k w _ ?_
 (delta W.ur cx au aG;dsimp only)
 refine (YN h k).use ?_
 rintro _ _ ⟨rfl,rfl⟩
 refine ⟨_,rfl,⟨fun U=> ?_,fun U=>⟨by rw[U];rfl,rfl⟩⟩⟩
 have aJ:0≤k∧k<n:=by simpa using U
 obtain ⟨m,rfl⟩:=GB aJ.1
 refine ⟨_,rfl,s1,h.bS,(Oz h.now (k:=m) (by omega) (by omega)).use ?_⟩
 rintro _ _ ⟨rfl,rfl⟩
 exact ⟨_,rfl,by rw[U,er];rfl,rfl⟩
end
end
section
theorem YR:jx Tryz.prog ad.AR ad.uint8 1 1:=⟨by kernel_rfl⟩
theorem sR:jx Tryz.prog ad.bE ad.uint8 1 1:=⟨by kernel_rfl⟩
theorem YS:jx Tryz.prog ad.da ad.int 1 8:=⟨by kernel_rfl⟩
theorem YT (n:Nat):jB Tryz.prog ad.uint8 n=(List.replicate n (.int .u8 0)).toArray:=M4 (by kernel_rfl) (by kernel_rfl) n
theorem OA (f:Nat→Bool) (m:Nat):∀v∈fT f m,Plain v:=by
 intro v ao
 obtain ⟨i,_,rfl⟩:=gl.1 ao
 trivial
theorem YU {w:World} {s:ah} {xs:List Value} (h:Src 1 w s xs) (aU:∀v∈xs,Plain v) (aD:s.len≤1000000):
   aM Tryz.prog F.uu #[.slice s.a s.len s.cap] w (fun v J=>∃ax:ah,v= .slice ax.a ax.len ax.cap∧aY 1 ad.uint8 J ax xs∧Ext w J∧∀k,aH ax k→w.heap.size≤k):=by
 refine W.YV s w _ ?_
 delta W.uu ay au ab
 refine ⟨fun aI=> ?_,fun _=> ?_⟩
 · have aI:s.a=none:=by simpa using aI
   rw[h.nil aI]
   exact ⟨⟨none,0,0⟩,rfl,aY.none _ _ _, .refl _ _,fun k aa=>(l5 k aa).elim⟩
 · obtain ⟨ax,J,U,ag,aA,aK,bH,_⟩:=YR.clone (dx:=ad.AR) h aU (by omega)
   exact ⟨ax,J,U,ax,rfl,ag,aK,bH⟩
theorem OB {w:World} {s:ah} {xs:List Value} (h:Src 1 w s xs) (aU:∀v∈xs,Plain v) (aD:s.len≤1000000):
   aM Tryz.prog F.l4 #[.slice s.a s.len s.cap] w (fun v J=>∃ax:ah,v= .slice ax.a ax.len ax.cap∧aY 1 ad.uint8 J ax xs∧Ext w J∧∀k,aH ax k→w.heap.size≤k):=by
 refine W.MS s w _ ?_
 delta W.l4 ay au ab
 refine ⟨fun aI=> ?_,fun _=> ?_⟩
 · have aI:s.a=none:=by simpa using aI
   rw[h.nil aI]
   exact ⟨⟨none,0,0⟩,rfl,aY.none _ _ _, .refl _ _,fun k aa=>(l5 k aa).elim⟩
 · obtain ⟨ax,J,U,ag,aA,aK,bH,_⟩:=sR.clone (dx:=ad.bE) h aU (by omega)
   exact ⟨ax,J,U,ax,rfl,ag,aK,bH⟩
section
variable {w J:World} {b n:Nat} {f g:Nat→Bool} {s1 s2:ah}
theorem OC {T:TypeId} {m:Nat} (h:aY 1 T w s1 (fT f m)):s1.len=m:=by
 have:=h.1
 rw[HP] at this
 omega
theorem OD {m:Nat} {u:Value} (aj:bQ w b #[.int .i64 n, .slice s1.a s1.len s1.cap,u] ad.pH) (U:aY 1 ad.uint8 w s1 (fT f m)) (aE:∀k,aH s1 k→k≠b) (hm:m≤1000000):
   aM Tryz.prog F.sS #[.pointer (some ⟨b,0,none⟩)] w (fun v J=>v= .tuple #[]∧∃nM:ah,bQ J b #[.int .i64 n, .slice s1.a s1.len s1.cap, .slice nM.a nM.len nM.cap] ad.pH∧
     aY 1 ad.uint8 J s1 (fT f m)∧aY 1 ad.uint8 J nM (fT f m)∧aq (fun k=>k=b) w J∧∀k,aH nM k→w.heap.size≤k):=by
 refine W.YW _ w _ ?_
 (delta W.sS ay au aG cp st;dsimp only)
 refine ⟨fun _=>⟨_,rfl,s1,by rw[a_,aj.cell];rfl,(YU U.src (OA f m) (by rw[OC U];exact hm)).use ?_⟩,fun h=>by simp at h⟩
 rintro _ aw ⟨nM,rfl,ag,ai,aL⟩
 have e7:=aj.ext ai
 have b_:∀k,aH nM k→k≠b:=fun k aa e=>by have:=aL k aa;have:=aj.lt;omega
 refine ⟨nM,rfl,_,rfl,⟨_,by rw[a_,e7.cell];rfl⟩,e7.frozen _ rfl,rfl,nM,?_,?_,?_,?_,aL⟩
 · rw[a_];exact e7.set 2 _
 · exact (U.ext ai).aB (W:=fun k=>k=b) (aq.set (.refl _ _) (fun _=>by rw[a_]) _) aE
 · exact ag.aB (W:=fun k=>k=b) (aq.set (.refl _ _) (fun _=>by rw[a_]) _) b_
 · exact (aq.hU ai).set (fun _=>by rw[a_]) _
def dD (t:Nat→Bool):Nat→Nat
 |0=>0
 |k+1=>dD t k+(t k).toNat
theorem HQ (t:Nat→Bool):∀k,dD t k≤k
 |0=>b6 _
 |k+1=>by have:=HQ t k;have:=Bool.toNat_le (t k);simp only[dD];omega
def gS (f:Nat→Bool):Nat→List Int
 |0=> []
 |k+1=>gS f k++(if f k then [(k:Int)] else [])
def wq (f:Nat→Bool) (k:Nat):List Value:=(gS f k).map (.int .i64)
theorem Ee (f:Nat→Bool):∀k,(gS f k).length≤k
 |0=>b6 _
 |k+1=>by have:=Ee f k;simp only[gS,c9];split<;>simp<;>omega
theorem YX (h:jl w b n f g s1 s2):
   aM Tryz.prog F.uv #[.pointer (some ⟨b,0,none⟩)] w (fun v J=>∃s:ah,v= .slice s.a s.len s.cap∧aY 1 ad.int J s (wq f n)∧Ext w J∧∀k,aH s k→w.heap.size≤k):=by
 have g1:=h.cY
 refine W.YY _ w _ ?_
 (delta W.uv ay au az aG cx ab av;dsimp only)
 refine ⟨fun U=>by simp at U,fun _=>⟨_,rfl,n,h.ft,fun s i J=>∃k:Nat,i=k∧k≤n∧Ext w J∧aY 1 ad.int J s (wq f k)∧∀k,aH s k→w.heap.size≤k,fun _ i _=>((n:Int)-i).toNat,
   ⟨0,rfl,by omega, .refl _ _,aY.none _ _ _,fun k aa=>(l5 k aa).elim⟩,?_⟩⟩
 rintro s _ af ⟨k,rfl,aa,ai,g6,fC⟩
 refine ⟨fun aR=> ?_,fun bF=> ?_⟩
 · have uw:k<n:=by simpa using aR
   have U:=h.ext ai
   refine dU (fun ax J=>Ext w J∧aY 1 ad.int J ax (wq f (k+1))∧∀k,aH ax k→w.heap.size≤k) (fun q ae=>⟨_,rfl,s1,U.bS,(Oz U.now (k:=k) (by omega) (by omega)).use ?_⟩) ?_
   · rintro _ _ ⟨rfl,rfl⟩
     refine ⟨_,rfl,fun aL=> ?_,fun aL=> ?_⟩
     · have hlen:s.len≤k:=by
         have:=g6.1
         have:=Ee f k
         simp[wq] at*
         omega
       obtain ⟨ax,J,U,ag,aA,aK,bH⟩:=YS.push (dx:=ad.da) (xs:=[.int .i64 k]) rfl g6 (by simp[Plain]) (by omega)
       refine ⟨ax,J,U,ae _ _ ⟨?_,?_,?_⟩⟩
       · exact ((aq.hU ai).trans aK).mono fun k aa aS=>by have:=fC k aS;omega
       · simpa[wq,gS,aL] using ag
       · intro j bu
         rcases bH j bu with bu|bu
         · exact fC j bu
         · have:=ai.size;omega
     · exact ae _ _ ⟨ai,by simpa[wq,gS,aL] using g6,fC⟩
   · rintro ax J ⟨vW,YZ,Y0⟩
     rw[b3 (by omega) (by omega)]
     exact ⟨⟨k+1,by omega,by omega,vW,YZ,Y0⟩,(show ((n:Int)-((k:Int)+1)).toNat<((n:Int)-(k:Int)).toNat by omega)⟩
 · have uw:k=n:=by
     have:¬(k:Int)<n:=by simpa using bF
     omega
   subst uw
   exact ⟨s,rfl,g6,ai,fC⟩
theorem Y1 (h:jl w b n f g s1 s2):
   aM Tryz.prog F.ux #[.pointer (some ⟨b,0,none⟩)] w (fun v J=>∃s:ah,v= .slice s.a s.len s.cap∧aY 1 ad.uint8 J s (fT f ((n+7)/8))∧Ext w J∧∀k,aH s k→w.heap.size≤k):=by
 have g1:=h.cY
 refine W.Y2 _ w _ ?_
 (delta W.ux au aG cp;dsimp only)
 refine ⟨fun U=>by simp at U,fun _=>⟨_,rfl,s1,h.bS,(OB h.now.src (OA f _) (by rw[OC h.now];omega)).use ?_⟩⟩
 rintro _ aw ⟨s,rfl,ag,ai,aL⟩
 exact ⟨s,rfl,s,rfl,ag,ai,aL⟩
end
theorem OE (w:World) (n:Int):aM Tryz.prog F.sT #[.int .i64 n] w (fun v J=>v= .bool (decide (1≤n∧n≤1600))∧w=J):=by
 refine W.Y3 n w _ ?_
 unfold W.sT
 refine ⟨?_,rfl⟩
 simp[Bool.decide_and]
theorem OF (w:World) (n:Nat) (aD:n≤1600):aM Tryz.prog F.sU #[.int .i64 n] w (fun v J=>v= .int .i64 (((n+7)/8:Nat):Int)∧w=J):=by
 refine W.Y4 n w _ ?_
 delta W.sU av
 refine ⟨by decide,?_,rfl⟩
 rw[b3 (n:=(n:Int)+8) (by omega) (by omega),b3 (n:=(n:Int)+8-1) (by omega) (by omega),show (n:Int)+8-1=((n+7:Nat):Int) by omega,Oy,b3 (by omega) (by omega)]
theorem Y5 (m:Nat):fT (fun i=>decide (i<0)) m=List.replicate m (.int .u8 0):=by
 apply List.ext_getElem
 · simp[fT]
 · intro i U ag
   simp[fT,byteOf,pG]
theorem Y6 (j:Nat):jk (fun i=>decide (i<j)) j true=fun i=>decide (i<j+1):=by
 funext i
 unfold jk
 split
 · rename_i h;simp[h]
 · rename_i h;simp;omega
theorem q6 (w:World) (n first:Int):
   aM Tryz.prog F.q6 #[.int .i64 n, .int .i64 first] w (fun v J=>(¬(1≤n∧n≤1600∧0≤first∧first≤n)∧v= .tuple #[.pointer none, .int .i64 1]∧w=J)∨
     (1≤n∧n≤1600∧0≤first∧first≤n∧∃b s1 s2,v= .tuple #[.pointer (some ⟨b,0,none⟩), .int .i64 0]∧jl J b n.toNat (fun i=>decide (i<first.toNat)) (fun i=>decide (i<first.toNat)) s1 s2∧Ext w J∧∀k,kc b s1 s2 k→w.heap.size≤k)):=by
 refine W.Y7 n first w _ ?_
 (delta W.q6 ay cx au bS oq ab aG cu av;dsimp only)
 refine (OE w n).use ?_
 rintro _ _ ⟨rfl,rfl⟩
 refine ⟨_,rfl,fun h=> .inl ⟨fun ak=> ?_,rfl,rfl⟩,fun h=> ?_⟩
 · simp at h;omega
 simp at h
 obtain ⟨⟨⟨mP,g1⟩,ph⟩,kX⟩:=h
 obtain ⟨n,rfl⟩:=GB (by omega:0≤n)
 obtain ⟨first,rfl⟩:=GB (by omega:0≤first)
 refine (OF w n (by omega)).use ?_
 rintro _ _ ⟨rfl,rfl⟩
 refine ⟨_,rfl,by omega,?_⟩
 simp only[er]
 rw[YT]
 obtain ⟨m,hm⟩:∃m,m=(n+7)/8:=⟨_,rfl⟩
 rw[←hm]
 have g6:=aY.new (sz:=1) (T:=ad.uint8) w (List.replicate m (.int .u8 0)) m (by simp) (by show m≤2^63-1;omega)
 rw[←Y5] at g6⊢
 have an:Ext w (w.alloc (.cells (fT (fun i=>decide (i<0)) m).toArray ad.uint8)):=aq.alloc (.refl _ _) _
 generalize sI:w.alloc (.cells (fT (fun i=>decide (i<0)) m).toArray ad.uint8)=af at*
 have eB:af.heap.size=w.heap.size+1:=by rw[←sI];simp
 have eu:=bQ.new af #[.int .i64 (n:Int), .slice (some ⟨w.heap.size,0,none⟩) m m, .slice none 0 0] ad.pH
 have ff:=aq.alloc an (.cells #[.int .i64 (n:Int), .slice (some ⟨w.heap.size,0,none⟩) m m, .slice none 0 0] ad.pH)
 have Y8:=g6.ext (aq.alloc (.refl _ af) (.cells #[.int .i64 (n:Int), .slice (some ⟨w.heap.size,0,none⟩) m m, .slice none 0 0] ad.pH))
 refine ⟨fun i J=>∃j:Nat,i=j∧j≤first∧Ext w J∧bQ J af.heap.size #[.int .i64 (n:Int), .slice (some ⟨w.heap.size,0,none⟩) m m, .slice none 0 0] ad.pH∧
   aY 1 ad.uint8 J ⟨some ⟨w.heap.size,0,none⟩,m,m⟩ (fT (fun i=>decide (i<j)) m),fun i _=>((first:Int)-i).toNat,⟨0,rfl,by omega,ff,eu,Y8⟩,?_⟩
 rintro _ aw ⟨j,rfl,bu,ai,e7,h5⟩
 refine ⟨fun aR=> ?_,fun bF=> ?_⟩
 · have xZ:j<first:=by simpa using aR
   refine ⟨_,rfl,⟨some ⟨w.heap.size,0,none⟩,m,m⟩,by rw[a_,e7.cell];rfl,(YJ h5 (k:=j) (by omega) (by omega)).use ?_⟩
   rintro _ bd ⟨rfl,j3,ak⟩
   rw[Y6] at j3
   rw[b3 (by omega) (by omega)]
   refine ⟨rfl,⟨j+1,by omega,by omega,?_,e7.aB ak ?_,j3⟩,(show ((first:Int)-((j:Int)+1)).toNat<((first:Int)-(j:Int)).toNat by omega)⟩
   · exact ((aq.hU ai).trans ak).mono fun k aa aS=>by rw[jH] at aS;simp at aS;omega
   · intro aS
     rw[jH] at aS
     simp at aS
     omega
 · have xZ:j=first:=by
     have:¬(j:Int)<first:=by simpa using bF
     omega
   subst xZ
   have OG:∀i,n≤i→decide (i<j)=false:=fun i hi=>by simp;omega
   refine (OD e7 h5 (fun k aa e=> ?_) (by omega)).use ?_
   · rw[jH] at aa
     simp at aa
     omega
   rintro _ bd ⟨rfl,nM,U,ag,aA,aK,bH⟩
   have vH:=e7.lt
   refine ⟨rfl, .inr ⟨by omega,by omega,by omega,by omega,af.heap.size,⟨some ⟨w.heap.size,0,none⟩,m,m⟩,nM,rfl,⟨U,?_,?_,fun k aa=>⟨fun e=> ?_,fun cA=> ?_⟩,fun k aa e=> ?_,by omega,by omega,OG,OG⟩,?_,?_⟩⟩
   · simp only[←hm];exact ag
   · simp only[←hm];exact aA
   · rw[jH] at aa
     simp at aa
     omega
   · rw[jH] at aa
     simp at aa
     have:=bH k cA
     omega
   · have:=bH k aa
     omega
   · exact ((aq.hU ai).trans aK).mono fun k aa e=>by omega
   · rintro k (rfl|aa|aa)
     · omega
     · rw[jH] at aa
       simp at aa
       omega
     · have:=bH k aa
       have:=ai.size
       omega
end
section
theorem Y9:jx Tryz.prog ad.iC ad.bool 1 1:=⟨by kernel_rfl⟩
theorem OH (f:Nat→Bool) (m:Nat):jG f (m+1)=jG f m++ [.bool (f m)]:=by simp[jG,List.range_succ]
structure fi (w:World) (b n:Nat) (f g:Nat→Bool) (s1 s2:ah):Prop where
 bT:bQ w b #[.slice s1.a s1.len s1.cap, .slice s2.a s2.len s2.cap] ad.HR
 now:aY 1 ad.bool w s1 (jG f n)
 sure:aY 1 ad.bool w s2 (jG g n)
 d1:∀k,aH s1 k→k≠b∧¬aH s2 k
 d2:∀k,aH s2 k→k≠b
section
variable {w J:World} {b n:Nat} {f g:Nat→Bool} {s1 s2:ah}
theorem fi.aB {W:Nat→Prop} (h:fi w b n f g s1 s2) (ak:aq W w J) (aD:∀k,kc b s1 s2 k→¬W k):fi J b n f g s1 s2:=
 ⟨h.bT.aB ak (aD b (.inl rfl)),h.now.aB ak fun k aa=>aD k (.inr (.inl aa)),h.sure.aB ak fun k aa=>aD k (.inr (.inr aa)),h.d1,h.d2⟩
theorem fi.ext (h:fi w b n f g s1 s2) (ak:Ext w J):fi J b n f g s1 s2:=h.aB ak fun _ _ h=>h
theorem fi.lt (h:fi w b n f g s1 s2):∀k,kc b s1 s2 k→k<w.heap.size:=by
 rintro k (rfl|aa|aa)
 · exact h.bT.lt
 · exact h.now.lt k aa
 · exact h.sure.lt k aa
theorem fi.ft (h:fi w b n f g s1 s2):w.cell? ⟨b,0,none⟩=some (.slice s1.a s1.len s1.cap):=by rw[h.bT.cell];rfl
theorem fi.bS (h:fi w b n f g s1 s2):w.cell? ((Addr.mk b 0 none).add 1)=some (.slice s2.a s2.len s2.cap):=by rw[a_,h.bT.cell];rfl
theorem fi.OI (h:fi w b n f g s1 s2):s1.len=n:=by have:=h.now.1;rw[Eb] at this;omega
theorem fi.Y_ (h:fi w b n f g s1 s2):s2.len=n:=by have:=h.sure.1;rw[Eb] at this;omega
theorem OJ {s x:ah} {vs:List Value} {c:Bool} (g6:aY 1 ad.bool w s vs) (gQ:Src 1 w x [.bool c]) (ar:s.len≤1000000):
   ∃ (ax:ah) (J:World),Sem.run Tryz.prog (Builtin.append_ #[ad.iC,ad.iC] ad.iC #[.slice s.a s.len s.cap, .slice x.a x.len x.cap]) w= .ok (.slice ax.a ax.len ax.cap) J∧
     aY 1 ad.bool J ax (vs++ [.bool c])∧aq (aH s) w J∧(∀k,aH ax k→aH s k∨w.heap.size≤k):=by
 have ai:=gQ.len
 simp at ai
 obtain ⟨ax,J,U,ag,_,aA,aK⟩:=Y9.append (dx:=ad.iC) gQ g6 (by simp[Plain]) (by omega)
 exact ⟨ax,J,U,ag,aA,aK⟩
def wu (s1 s2:ah) (k:Nat):Prop:=aH s1 k∨aH s2 k
def Grown (w J:World) (b n:Nat) (f g:Nat→Bool) (s1 s2 t1 t2:ah):Prop:=
 bQ J b #[.slice s1.a s1.len s1.cap, .slice s2.a s2.len s2.cap] ad.HR∧aY 1 ad.bool J t1 (jG f (n+1))∧aY 1 ad.bool J t2 (jG g (n+1))∧aq (wu s1 s2) w J∧
 (∀k,aH t1 k→k≠b∧¬aH t2 k)∧(∀k,aH t2 k→k≠b)∧(∀k,wu t1 t2 k→wu s1 s2 k∨w.heap.size≤k)
theorem grow (h:fi w b n f g s1 s2) (aD:n≤100000) {Ef:World} (an:Ext w Ef) {dI:ah} (bg:Src 1 Ef dI [.bool (f n)]):
   ∃ (t1:ah) (af:World),Sem.run Tryz.prog (Builtin.append_ #[ad.iC,ad.iC] ad.iC #[.slice s1.a s1.len s1.cap, .slice dI.a dI.len dI.cap]) Ef= .ok (.slice t1.a t1.len t1.cap) af∧
     aq (wu s1 s2) Ef af∧∀ {yo:World},Ext af yo→∀ {fj:ah},Src 1 yo fj [.bool (g n)]→
     ∃ (t2:ah) (aw:World),Sem.run Tryz.prog (Builtin.append_ #[ad.iC,ad.iC] ad.iC #[.slice s2.a s2.len s2.cap, .slice fj.a fj.len fj.cap]) yo= .ok (.slice t2.a t2.len t2.cap) aw∧
       aq (wu s1 s2) yo aw∧Grown w aw b n f g s1 s2 t1 t2:=by
 have iU:=h.ext an
 obtain ⟨t1,af,az,OK,bS,f1⟩:=OJ iU.now bg (by rw[h.OI];omega)
 refine ⟨t1,af,az,bS.mono fun k _ aa=> .inl aa,?_⟩
 intro yo ff fj bV
 have eB:=an.size
 have aiz:=ff.size
 have aiA:=bS.size
 have lB:aY 1 ad.bool yo s2 (jG g n):=(iU.sure.aB bS fun k aa U=>(h.d1 k U).2 aa).ext ff
 obtain ⟨t2,aw,b1,Za,cu,f2⟩:=OJ lB bV (by rw[h.Y_];omega)
 have Eg:∀k,aH t1 k→¬aH s2 k:=fun k aa ag=>by
   rcases f1 k aa with U|U
   · exact (h.d1 k U).2 ag
   · have:=h.sure.lt k ag;omega
 have Zb:∀k,aH t1 k→k<af.heap.size:=fun k aa=>OK.lt k aa
 refine ⟨t2,aw,b1,cu.mono fun k _ aa=> .inr aa,?_,?_,?_,?_,?_,?_,?_⟩
 · exact ((iU.bT.aB bS fun aa=>(h.d1 b aa).1 rfl).ext ff).aB cu fun aa=>h.d2 b aa rfl
 · rw[OH]
   exact (OK.ext ff).aB cu Eg
 · rw[OH];exact Za
 · refine (aq.hU an).trans ((bS.mono fun k _ aa=> .inl aa).trans ((aq.hU ff).trans (cu.mono fun k _ aa=> .inr aa)))
 · intro k aa
   refine ⟨fun e=> ?_,fun ag=> ?_⟩
   · rcases f1 k aa with U|U
     · exact (h.d1 k U).1 e
     · have:=h.bT.lt;omega
   · rcases f2 k ag with aA|aA
     · exact Eg k aa aA
     · have:=Zb k aa;omega
 · intro k aa e
   rcases f2 k aa with U|U
   · exact h.d2 k U e
   · have:=h.bT.lt;omega
 · rintro k (aa|aa)
   · rcases f1 k aa with U|U
     · exact .inl (.inl U)
     · exact .inr (by omega)
   · rcases f2 k aa with U|U
     · exact .inl (.inr U)
     · exact .inr (by omega)
theorem Grown.ft {t1 t2:ah} (h:Grown w J b n f g s1 s2 t1 t2):(∃u,J.cell? ⟨b,0,none⟩=some u)∧J.frozen? ⟨b,0,none⟩=false:=⟨⟨_,by rw[h.1.cell];rfl⟩,h.1.frozen _ rfl⟩
theorem Grown.bS {t1 t2:ah} (h:Grown w J b n f g s1 s2 t1 t2) (v:Value):(∃u,(J.setCell ⟨b,0,none⟩ v).cell? ((Addr.mk b 0 none).add 1)=some u)∧(J.setCell ⟨b,0,none⟩ v).frozen? ((Addr.mk b 0 none).add 1)=false:=by
 rw[a_]
 exact ⟨⟨_,by rw[(h.1.set 0 v).cell];rfl⟩,(h.1.set 0 v).frozen _ rfl⟩
theorem Grown.fin {t1 t2:ah} (h:Grown w J b n f g s1 s2 t1 t2):
   fi ((J.setCell ⟨b,0,none⟩ (.slice t1.a t1.len t1.cap)).setCell ((Addr.mk b 0 none).add 1) (.slice t2.a t2.len t2.cap)) b (n+1) f g t1 t2∧
   aq (kc b s1 s2) w ((J.setCell ⟨b,0,none⟩ (.slice t1.a t1.len t1.cap)).setCell ((Addr.mk b 0 none).add 1) (.slice t2.a t2.len t2.cap))∧
   ∀k,kc b t1 t2 k→kc b s1 s2 k∨w.heap.size≤k:=by
 obtain ⟨U,ag,aA,aK,bH,cg,gO⟩:=h
 rw[a_]
 have ak:aq (fun k=>k=b) J ((J.setCell ⟨b,0,none⟩ (.slice t1.a t1.len t1.cap)).setCell ⟨b,0+1,none⟩ (.slice t2.a t2.len t2.cap)):=
   aq.set (W:=fun k=>k=b) (aq.set (W:=fun k=>k=b) (.refl _ _) (fun _=>rfl) _) (fun _=>rfl) _
 refine ⟨⟨(U.set 0 _).set 1 _,ag.aB ak fun k aa=>(bH k aa).1,aA.aB ak cg,bH,cg⟩,?_,?_⟩
 · exact (aK.mono fun k _ aa=> .inr aa).trans (ak.mono fun k _ aa=> .inl aa)
 · rintro k (rfl|aa)
   · exact .inl (.inl rfl)
   · rcases gO k aa with h|h
     · exact .inl (.inr h)
     · exact .inr h
theorem Zc (w:World) (n first:Int) (aD:n≤100000):
   aM Tryz.prog F.uy #[.int .i64 n, .int .i64 first] w (fun v J=>∃b s1 s2,v= .pointer (some ⟨b,0,none⟩)∧fi J b n.toNat (fun i=>decide ((i:Int)<first)) (fun i=>decide ((i:Int)<first)) s1 s2∧Ext w J∧∀k,kc b s1 s2 k→w.heap.size≤k):=by
 refine W.Zd n first w _ ?_
 (delta W.uy ay au ab aG Eh st av;dsimp only)
 refine ⟨fun i J=>∃j:Nat,i=j∧j≤n.toNat∧Ext w J∧∃s1 s2,fi J w.heap.size j (fun i=>decide ((i:Int)<first)) (fun i=>decide ((i:Int)<first)) s1 s2∧∀k,kc w.heap.size s1 s2 k→w.heap.size≤k,
   fun i _=>(n-i).toNat,⟨0,rfl,by omega,aq.alloc (.refl _ _) _,⟨none,0,0⟩,⟨none,0,0⟩,⟨bQ.new w _ _,aY.none _ _ _,aY.none _ _ _,fun k aa=>(l5 k aa).elim,fun k aa=>(l5 k aa).elim⟩,?_⟩,?_⟩
 · rintro k (rfl|aa|aa)
   · exact b6 _
   · exact (l5 k aa).elim
   · exact (l5 k aa).elim
 rintro _ af ⟨j,rfl,bu,ai,s1,s2,h,fC⟩
 refine ⟨fun aR=> ?_,fun bF=> ?_⟩
 · have wv:(j:Int)<n:=by simpa using aR
   have aE:=h.ext (aq.drew (.refl _ af))
   have fh:¬wu s1 s2 w.heap.size:=by
     rintro (aa|aa)
     · exact (h.d1 _ aa).1 rfl
     · exact h.d2 _ aa rfl
   have HS:∀ {J:World} {t1 t2:ah},Grown af.drew J w.heap.size j (fun i=>decide ((i:Int)<first)) (fun i=>decide ((i:Int)<first)) s1 s2 t1 t2→
       (∃uz:Nat,IntKind.wrap .i64 ((j:Int)+1)=uz∧uz≤n.toNat∧Ext w ((J.setCell ⟨w.heap.size,0,none⟩ (.slice t1.a t1.len t1.cap)).setCell ((Addr.mk w.heap.size 0 none).add 1) (.slice t2.a t2.len t2.cap))∧
         ∃s1 s2,fi ((J.setCell ⟨w.heap.size,0,none⟩ (.slice t1.a t1.len t1.cap)).setCell ((Addr.mk w.heap.size 0 none).add 1) (.slice t2.a t2.len t2.cap)) w.heap.size uz (fun i=>decide ((i:Int)<first)) (fun i=>decide ((i:Int)<first)) s1 s2∧∀k,kc w.heap.size s1 s2 k→w.heap.size≤k)∧
         (n-IntKind.wrap .i64 ((j:Int)+1)).toNat<(n-(j:Int)).toNat:=by
     intro J t1 t2 aW
     obtain ⟨aZ,a7,bm⟩:=aW.fin
     rw[b3 (by omega) (by omega)]
     refine ⟨⟨j+1,by omega,by omega,?_,t1,t2,aZ,?_⟩,by omega⟩
     · exact ((aq.hU ai.drew).trans a7).mono fun k aa aS=>by have:=fC k aS;omega
     · intro k aa
       rcases bm k aa with U|U
       · exact fC k U
       · have:=ai.size
         simp only[Ze] at U
         omega
   have yp:∀aw:World,Src 1 (aw.alloc (.cells #[.bool (decide ((j:Int)<first))] ad.bool)) ⟨some ⟨aw.heap.size,0,none⟩,1,1⟩ [.bool (decide ((j:Int)<first))]:=fun aw=>Src.new (T:=ad.bool) aw [.bool (decide ((j:Int)<first))] 1 rfl
   have HT:j≤100000:=by omega
   refine ⟨wu s1 s2,_,rfl,fh,s1,aE.ft,_,rfl,fh,s2,aE.bS,⟨aq.alloc (.refl _ _) _,?_,?_⟩,aq.alloc (.refl _ _) _,aq.alloc (.refl _ _) _,?_⟩
   · obtain ⟨t1,aw,az,bS,dB⟩:=grow aE HT (aq.alloc (.refl _ _) _) (yp _)
     obtain ⟨t2,bd,b1,cu,aW⟩:=dB (aq.alloc (.refl _ aw) _) (yp _)
     exact ⟨t1,aw,az,bS,aq.alloc (.refl _ _) _,t2,bd,b1,cu,_,rfl,aW.ft.1,aW.ft.2,_,rfl,(aW.bS _).1,(aW.bS _).2,HS aW⟩
   · have an:Ext af.drew ((af.drew.alloc (.cells #[.bool (decide ((j:Int)<first))] ad.bool)).alloc (.cells #[.bool (decide ((j:Int)<first))] ad.bool)):=aq.alloc (aq.alloc (.refl _ _) _) _
     obtain ⟨t1,aw,az,bS,dB⟩:=grow aE HT an ((yp af.drew).alloc _)
     have bV:=(yp (af.drew.alloc (.cells #[.bool (decide ((j:Int)<first))] ad.bool))).aB bS (fun k aa ag=>by
       rw[jH] at aa
       have:=aE.lt k (.inr ag)
       simp at aa this
       omega)
     obtain ⟨t2,bd,b1,cu,aW⟩:=dB (.refl _ aw) bV
     exact ⟨aq.alloc (.refl _ _) _,t1,aw,az,bS,t2,bd,b1,cu,_,rfl,aW.ft.1,aW.ft.2,_,rfl,(aW.bS _).1,(aW.bS _).2,HS aW⟩
   · have an:Ext af.drew ((af.drew.alloc (.cells #[.bool (decide ((j:Int)<first))] ad.bool)).alloc (.cells #[.bool (decide ((j:Int)<first))] ad.bool)):=aq.alloc (aq.alloc (.refl _ _) _) _
     obtain ⟨t1,aw,az,bS,dB⟩:=grow aE HT an (yp (af.drew.alloc (.cells #[.bool (decide ((j:Int)<first))] ad.bool)))
     have bV:=((yp af.drew).alloc (.cells #[.bool (decide ((j:Int)<first))] ad.bool)).aB bS (fun k aa ag=>by
       rw[jH] at aa
       have:=aE.lt k (.inr ag)
       simp at aa this
       omega)
     obtain ⟨t2,bd,b1,cu,aW⟩:=dB (.refl _ aw) bV
     exact ⟨t1,aw,az,bS,t2,bd,b1,cu,_,rfl,aW.ft.1,aW.ft.2,_,rfl,(aW.bS _).1,(aW.bS _).2,HS aW⟩
 · have wv:(j:Int)=n.toNat:=by
     have:¬(j:Int)<n:=by simpa using bF
     omega
   have:j=n.toNat:=by omega
   subst this
   exact ⟨_,s1,s2,rfl,h,ai,fC⟩
end
end
section
section
variable {w J:World} {b n:Nat} {f g:Nat→Bool} {s1 s2:ah}
theorem fi.Zf (h:fi w b n f g s1 s2) {A:Addr} {k:Nat} (x:Bool) (aj:aH s1 A.block) (aS:aY 1 ad.bool (w.setCell A (.bool x)) s1 ((jG f n).set k (.bool x))):
   fi (w.setCell A (.bool x)) b n (jk f k x) g s1 s2∧aq (kc b s1 s2) w (w.setCell A (.bool x)):=by
 have ak:aq (aH s1) w (w.setCell A (.bool x)):=aq.set (.refl _ _) (fun _=>aj) _
 rw[Ox] at aS
 exact ⟨⟨h.bT.aB ak fun aa=>(h.d1 b aa).1 rfl,aS,h.sure.aB ak fun k aa U=>(h.d1 k U).2 aa,h.d1,h.d2⟩,ak.mono fun k _ aa=> .inr (.inl aa)⟩
theorem fi.Zg (h:fi w b n f g s1 s2) {A:Addr} {k:Nat} (x:Bool) (aj:aH s2 A.block) (aS:aY 1 ad.bool (w.setCell A (.bool x)) s2 ((jG g n).set k (.bool x))):
   fi (w.setCell A (.bool x)) b n f (jk g k x) s1 s2∧aq (kc b s1 s2) w (w.setCell A (.bool x)):=by
 have ak:aq (aH s2) w (w.setCell A (.bool x)):=aq.set (.refl _ _) (fun _=>aj) _
 rw[Ox] at aS
 exact ⟨⟨h.bT.aB ak fun aa=>h.d2 b aa rfl,h.now.aB ak fun k aa U=>(h.d1 k aa).2 U,aS,h.d1,h.d2⟩,ak.mono fun k _ aa=> .inr (.inr aa)⟩
end
end
section
def bitsOf (ns:List Int) (i:Nat):Bool:=((ns.getD (i/8) 0).toNat).testBit (i%8)
theorem AS (ns:List Int) (i:Nat) (h:8*ns.length≤i):bitsOf ns i=false:=by
 unfold bitsOf
 have:ns.length≤i/8:=by omega
 simp[List.getD,xS this]
theorem Zh (ns:List Int) (h:∀n∈ns,0≤n∧n≤255):ns.map (Value.int .u8)=fT (bitsOf ns) ns.length:=by
 apply List.ext_getElem
 · simp[fT]
 · intro i U ag
   have hi:i<ns.length:=by simpa using U
   simp only[fT,List.getElem_map,List.getElem_range]
   congr 1
   obtain ⟨pI,aZ⟩:=h ns[i] (dP hi)
   have:=Ow (bitsOf ns) i ns[i].toNat (by omega) (fun j bu=>by
     unfold bitsOf
     have aN:(8*i+j)/8=i:=by omega
     have a6:(8*i+j)%8=j:=by omega
     rw[aN,a6]
     simp[List.getD,hi])
   rw[←this]
   omega
theorem Zi:∀x:Nat,x<256→∀j:Nat,j<8→((Int.tmod (Int.fdiv (x:Int) (2^(min (Int.toNat (IntKind.wrap .u64 (j:Int))) 8))) 2)==1)=x.testBit j∧(0:Int)≤IntKind.wrap .u64 (j:Int):=by decide+kernel
theorem Zj:∀x:Nat,x<256→∀j:Nat,j<8→decide (Int.fdiv (x:Int) (2^(min (Int.toNat (j:Int)) 8))>0)=(List.range 8).any (fun k=>decide (j≤k)&&x.testBit k):=by decide+kernel
def below (f:Nat→Bool) (k:Nat) (i:Nat):Bool:=decide (i<k)&&f i
theorem Zk (f:Nat→Bool):below f 0=fun _=>false:=by funext i;simp[below]
theorem Zl {f:Nat→Bool} {k:Nat} (h:f k=true):jk (below f k) k true=below f (k+1):=by
 funext i
 unfold jk below
 by_cases hi:i=k
 · subst hi;simp[h]
 · rw[if_neg hi]
   have:(i<k+1)↔i<k:=by omega
   simp[this]
theorem Zm {f:Nat→Bool} {k:Nat} (h:f k=false):below f k=below f (k+1):=by
 funext i
 unfold below
 by_cases hi:i=k
 · subst hi;simp[h]
 · have:(i<k+1)↔i<k:=by omega
   simp[this]
theorem Zn {f:Nat→Bool} {n:Nat} (h:∀i,n≤i→f i=false):below f n=f:=by
 funext i
 unfold below
 by_cases hi:i<n
 · simp[hi]
 · simp[hi,h i (by omega)]
section
variable {w J:World} {b n:Nat} {f g:Nat→Bool} {s1 s2:ah}
theorem Zo (n:Nat) (h:n≤100000):IntKind.wrap .i64 (Int.tdiv (IntKind.wrap .i64 ((n:Int)+7)) 8)=(((n+7)/8:Nat):Int):=by
 rw[b3 (n:=(n:Int)+7) (by omega) (by omega),show (n:Int)+7=((n+7:Nat):Int) by omega,Ed (by omega)]
def kE (ns:List Int) (n:Nat):Prop:=ns.length=(n+7)/8∧∀i,n≤i→bitsOf ns i=false
theorem Zp (n:Nat):(fun i:Nat=>decide ((i:Int)<0))=fun _=>false:=by funext i;simp
theorem Zq {s:ah} {ns:List Int} (ar:Src 1 w s (ns.map (.int .u8))) (aJ:∀x∈ns,(0:Int)≤x∧x≤255) (n:Nat) (aD:n≤1600):
   aM Tryz.prog F.sV #[.slice s.a s.len s.cap, .int .i64 n] w (fun v J=>Ext w J∧((¬kE ns n∧v= .pointer none)∨
     (kE ns n∧∃b s1 s2,v= .pointer (some ⟨b,0,none⟩)∧fi J b n (bitsOf ns) (bitsOf ns) s1 s2∧∀k,kc b s1 s2 k→w.heap.size≤k))):=by
 have hlen:s.len=ns.length:=by have:=ar.len;simp at this;omega
 refine W.Zr s n w _ ?_
 (delta W.sV ay au av sW aQ b1 aG st;dsimp only)
 rw[Zo n (by omega),hlen]
 refine ⟨by decide,fun b_=> ?_,fun heq=> ?_⟩
 · have b_:¬ns.length=(n+7)/8:=by
     intro h;rw[h] at b_;simp at b_
   exact ⟨.refl _ _, .inl ⟨fun h=>b_ h.1,rfl⟩⟩
 have heq:ns.length=(n+7)/8:=by
   have:=heq
   simp only[bne_eq_false_iff_eq] at this
   omega
 refine (Zc w n 0 (by omega)).use ?_
 rintro _ af ⟨b,s1,s2,rfl,h,ai,fC⟩
 rw[er,Zp n] at h
 have hm:ns.length≤201:=by omega
 rw[b3 (n:=8*((ns.length:Nat):Int)) (by omega) (by omega)]
 refine ⟨_,rfl,fun i J=>∃k:Nat,i=k∧k≤8*ns.length∧Ext w J∧fi J b n (below (bitsOf ns) k) (below (bitsOf ns) k) s1 s2∧∀i,i<k→n≤i→bitsOf ns i=false,fun i _=>(8*(ns.length:Int)-i).toNat,
   ⟨0,rfl,by omega,ai,by rw[Zk];exact h,fun i hi=>by omega⟩,?_⟩
 rintro _ aw ⟨k,rfl,aa,bV,ag,ew⟩
 refine ⟨fun aR=> ?_,fun bF=> ?_⟩
 · have uw:k<8*ns.length:=by
     have:(k:Int)<8*(ns.length:Int):=by simpa using aR
     omega
   have Ei:k/8<ns.length:=by omega
   obtain ⟨x,qL⟩:∃x:Nat,ns[k/8]=(x:Int):=⟨ns[k/8].toNat,by have:=aJ _ (dP Ei);omega⟩
   have HU:x<256:=by have:=aJ _ (dP Ei);omega
   have Zs:bitsOf ns k=x.testBit (k%8):=by
     unfold bitsOf
     simp[List.getD,Ei,qL]
   obtain ⟨A,an,aj,ak⟩:=(ar.ext bV).at (i:=k/8) (v:= .int .u8 x) (by simp[Ei,qL])
   rw[hlen] at aj
   obtain ⟨HM,xZ⟩:=Zi x HU (k%8) (kT _ (by omega))
   refine ya (fun J=>Ext w J∧fi J b n (below (bitsOf ns) (k+1)) (below (bitsOf ns) (k+1)) s1 s2∧∀i,i<k+1→n≤i→bitsOf ns i=false) (fun q ae=>⟨by decide,?_⟩) ?_
   · rw[Ed (by omega),AQ]
     refine ⟨A,an,aj,x,ak,by decide,xZ,by decide,?_⟩
     rw[HM,←Zs]
     refine ⟨fun bt=>⟨fun bF=> ?_,fun aR=> ?_⟩,fun aL=>ae _ ⟨bV,?_,?_⟩⟩
     · have bF:n≤k:=by
         have:(k:Int)≥n:=by simpa using bF
         omega
       exact ⟨bV, .inl ⟨(fun aW=>by rw[aW.2 k bF] at bt;cases bt),rfl⟩⟩
     · have aR:k<n:=by
         have:¬(k:Int)≥n:=by simpa using aR
         omega
       have aA:=ag.ext (aq.drew (.refl _ aw))
       obtain ⟨HV,gp,hV,mb,ph,qw,Zt⟩:=aA.now.at (AP (below (bitsOf ns) k) aR)
       obtain ⟨aK,gg⟩:=aA.Zf true qw (Zt _)
       obtain ⟨iP,gb,e7,ek,kX,h5,Zu⟩:=aK.sure.at (AP (below (bitsOf ns) k) aR)
       obtain ⟨bH,lD⟩:=aK.Zg true h5 (Zu _)
       refine ⟨fun _=>False,_,rfl,by simp,s1,aA.ft,_,rfl,by simp,s2,aA.bS,HV,gp,hV,⟨_,mb⟩,ph,iP,gb,e7,⟨_,ek⟩,kX,ae _ ⟨?_,?_,?_⟩⟩
       · exact ((aq.hU bV.drew).trans (gg.trans lD)).mono fun k aa aS=>by have:=fC k aS;omega
       · rw[Zl bt] at bH;exact bH
       · intro i hi OL;omega
     · rw[←Zm aL];exact ag
     · intro i hi OL
       rcases gK i k with cg|cg
       · exact ew i cg OL
       · have:i=k:=by omega
         rw[this];exact aL
   · rintro J ⟨vW,ga,Ej⟩
     rw[b3 (by omega) (by omega)]
     exact ⟨⟨k+1,by omega,by omega,vW,ga,Ej⟩,(show (8*(ns.length:Int)-((k:Int)+1)).toNat<(8*(ns.length:Int)-(k:Int)).toNat by omega)⟩
 · have uw:k=8*ns.length:=by
     have:¬(k:Int)<8*(ns.length:Int):=by simpa using bF
     omega
   subst uw
   have aj:below (bitsOf ns) (8*ns.length)=bitsOf ns:=Zn (fun i hi=>AS ns i hi)
   rw[aj] at ag
   refine ⟨bV, .inr ⟨⟨heq,fun i hi=> ?_⟩,b,s1,s2,rfl,ag,fC⟩⟩
   rcases gK i (8*ns.length) with cg|cg
   · exact ew i cg hi
   · exact AS ns i cg
theorem Zv {ns:List Int} {n:Nat} (aC:ns.length=(n+7)/8) (aD:0<n%8) {x:Nat} (ai:x<256) (sO:ns[ns.length-1]? =some (x:Int)):
   decide (Int.fdiv (x:Int) (2^(min (Int.toNat ((n%8:Nat):Int)) 8))>0)=false↔∀i,n≤i→bitsOf ns i=false:=by
 rw[Zj x ai _ (kT _ (by omega))]
 have Zw:ns.length-1=n/8:=by omega
 rw[Zw] at sO
 rw[xP]
 constructor
 · intro h i hi
   rcases gK i (8*ns.length) with cg|cg
   · have e:i/8=n/8:=by omega
     unfold bitsOf
     rw[e]
     simp only[List.getD,sO,zZ,er]
     have:=h (i%8) (qp.2 (kT _ (by omega)))
     have gO:n%8≤i%8:=by omega
     simpa[gO] using this
   · exact AS ns i cg
 · intro h k aa
   have aa:=qp.1 aa
   by_cases gO:n%8≤k
   · have:=h (8*(n/8)+k) (by omega)
     unfold bitsOf at this
     have aN:(8*(n/8)+k)/8=n/8:=by omega
     have a6:(8*(n/8)+k)%8=k:=by omega
     rw[aN,a6] at this
     simp only[List.getD,sO,zZ,er] at this
     simp[this]
   · simp[gO]
theorem pJ {s:ah} {ns:List Int} (ar:Src 1 w s (ns.map (.int .u8))) (aJ:∀n∈ns,(0:Int)≤n∧n≤255) (aiB:ns.length≤1000000) (n:Int):
   aM Tryz.prog F.pJ #[.slice s.a s.len s.cap, .int .i64 n] w (fun v J=>Ext w J∧((¬(1≤n∧n≤1600)∧v= .tuple #[.pointer none, .int .i64 1])∨
     (1≤n∧n≤1600∧¬kE ns n.toNat∧v= .tuple #[.pointer none, .int .i64 4])∨
     (1≤n∧n≤1600∧kE ns n.toNat∧∃b s1 s2,v= .tuple #[.pointer (some ⟨b,0,none⟩), .int .i64 0]∧jl J b n.toNat (bitsOf ns) (bitsOf ns) s1 s2∧∀k,kc b s1 s2 k→w.heap.size≤k))):=by
 have hlen:s.len=ns.length:=by have:=ar.len;simp at this;omega
 refine W.Zx s n w _ ?_
 (delta W.pJ ay cx au bS av b1 cp cu ab;dsimp only)
 refine (OE w n).use ?_
 rintro _ _ ⟨rfl,rfl⟩
 refine ⟨_,rfl,fun h=>⟨.refl _ _, .inl ⟨by simp at h;omega,rfl⟩⟩,fun h=> ?_⟩
 have h:1≤n∧n≤1600:=by simpa using h
 obtain ⟨n,rfl⟩:=GB (by omega:0≤n)
 simp only[er]
 refine (OF w n (by omega)).use ?_
 rintro _ _ ⟨rfl,rfl⟩
 refine ⟨_,rfl,dU (fun c J=>(c=true↔¬kE ns n)∧w=J) (fun q ae=>⟨fun b_=>ae _ _ ⟨?_,rfl⟩,fun heq=>⟨by decide,?_⟩⟩) ?_⟩
 · have b_:¬ns.length=(n+7)/8:=by
     intro h;rw[hlen,h] at b_;simp at b_
   exact ⟨fun _ aW=>b_ aW.1,fun _=>rfl⟩
 · have heq:ns.length=(n+7)/8:=by
     simp only[bne_eq_false_iff_eq] at heq
     omega
   refine dU (fun c J=>(c=true↔¬kE ns n)∧w=J) (fun pK gq=>⟨fun gP=> ?_,fun gP=>gq _ _ ⟨?_,rfl⟩⟩) ?_
   · rw[AQ] at gP⊢
     have HW:0<n%8:=by
       have:((n%8:Nat):Int)>0:=by simpa using gP
       omega
     have sX:ns.length-1<ns.length:=by omega
     obtain ⟨x,qL⟩:∃x:Nat,ns[ns.length-1]=(x:Int):=⟨ns[ns.length-1].toNat,by have:=aJ _ (dP sX);omega⟩
     have HU:x<256:=by have:=aJ _ (dP sX);omega
     have sO:ns[ns.length-1]? =some (x:Int):=by rw[gY sX,qL]
     obtain ⟨A,an,aj,ak⟩:=ar.at (i:=ns.length-1) (v:= .int .u8 x) (by rw[vw,sO];rfl)
     rw[hlen,b3 (by omega) (by omega),show (((ns.length:Nat):Int)-1)=((ns.length-1:Nat):Int) by omega]
     rw[hlen] at aj
     refine ⟨A,an,aj,x,ak,by decide,by omega,gq _ _ ⟨?_,rfl⟩⟩
     have wx:=Zv heq HW HU sO
     constructor
     · intro bt aW
       have:=wx.2 aW.2
       rw[bt] at this;cases this
     · intro ug
       cases aE:decide (Int.fdiv (x:Int) (2^(min (Int.toNat ((n%8:Nat):Int)) 8))>0) with
       |true=>rfl
       |false=>exact (ug ⟨heq,wx.1 aE⟩).elim
   · rw[AQ] at gP
     have HW:n%8=0:=by
       have:¬((n%8:Nat):Int)>0:=by simpa using gP
       omega
     constructor
     · intro h;cases h
     · intro ug
       exact (ug ⟨heq,fun i hi=>AS ns i (by omega)⟩).elim
   · rintro c _ ⟨ak,rfl⟩
     exact ae _ _ ⟨ak,rfl⟩
 · rintro c _ ⟨ak,rfl⟩
   refine ⟨fun bt=>⟨.refl _ _, .inr (.inl ⟨h.1,h.2,ak.1 bt,trivial⟩)⟩,fun aL=> ?_⟩
   have aW:kE ns n:=by
     rcases Classical.em (kE ns n) with h|h
     · exact h
     · rw[ak.2 h] at aL;cases aL
   refine (OB ar (Zy _ _) (by omega)).use ?_
   rintro _ aw ⟨t,rfl,aS,ai,fC⟩
   rw[Zh ns aJ,aW.1] at aS
   have eu:=bQ.new aw #[.int .i64 (n:Int), .slice t.a t.len t.cap, .slice none 0 0] ad.pH
   have dK:Ext aw (aw.alloc (.cells #[.int .i64 (n:Int), .slice t.a t.len t.cap, .slice none 0 0] ad.pH)):=aq.alloc (.refl _ _) _
   have b_:∀k,aH t k→k≠aw.heap.size:=fun k aa e=>by have:=aS.lt k aa;omega
   refine ⟨t,rfl,(OD eu (aS.ext dK) b_ (by omega)).use ?_⟩
   rintro _ bf ⟨rfl,nM,U,ag,aA,aK,bH⟩
   have eB:=ai.size
   refine ⟨rfl,?_, .inr (.inr ⟨h.1,h.2,aW,aw.heap.size,t,nM,rfl,⟨U,ag,aA,fun k aa=>⟨b_ k aa,fun cA=> ?_⟩,fun k aa e=> ?_,by omega,by omega,aW.2,aW.2⟩,?_⟩)⟩
   · exact ((aq.hU (ai.trans dK)).trans aK).mono fun k aa e=>by omega
   · have:=bH k cA
     have:=aS.lt k aa
     simp at*
     omega
   · have:=bH k aa
     simp at this
     omega
   · rintro k (rfl|aa|aa)
     · omega
     · exact fC k aa
     · have:=bH k aa
       simp at this
       omega
end
end
section
structure Fr where
 full:Bool
 OM:Bool
 used:Bool
 no:Int
 pins:Int
 b:ah
 l:c2
def Fr.c (f:Fr):List Value:=[.bool f.full, .bool f.OM, .bool f.used, .int .i64 f.no, .int .i64 f.pins, .slice f.b.a f.b.len f.b.cap]
def iV:Fr:=⟨false,false,false,0,0,⟨none,0,0⟩,[]⟩
structure pL where
 c:Nat
 eC:Nat
 eQ:List Fr
 hand:Nat
 D:bx
def AT (C:pL) (q:Nat):Prop:=q=C.c∨q=C.eC∨dL C.D q
structure sY (w:World) (C:pL):Prop where
 v:Var w C.c [.pointer (some ⟨C.D.d,0,none⟩), .slice (some ⟨C.eC,0,none⟩) C.eQ.length C.eQ.length, .int .i64 C.hand] ad.ON
 f:bQ w C.eC (c1 Fr.c C.eQ).toArray ad.pM
 dev:dz w C.D
 dv:8≤C.eQ.length
 dB:C.eQ.length≤64
 aE:C.hand<C.eQ.length
 bp:C.c≠C.eC∧¬dL C.D C.c∧¬dL C.D C.eC
structure Zz (X:Nat→Prop) (w:World) (C:pL) (f:Fr) (no:Nat):Prop where
 num:f.no=no
 lt:no<C.D.n
 aiC:eV (fun q=>¬AT C q∧¬X q) w f.b f.l
 len:f.l.length=256
 clean:f.OM=false→f.l=C.D.now no
structure Ek (X:Nat→Prop) (w:World) (C:pL):Prop where
 pins:∀f∈C.eQ,f.pins=0
 ok:∀f∈C.eQ,f.full=true→∃no:Nat,Zz X w C f no
 un:∀ (i j:Nat) (hi:i<C.eQ.length) (bu:j<C.eQ.length),(C.eQ[i]).full=true→(C.eQ[j]).full=true→(C.eQ[i]).no=(C.eQ[j]).no→i=j
 HX:∀q,X q→q<w.heap.size∧¬AT C q
structure uA (X:Nat→Prop) (w:World) (C:pL):Prop where
 raw:sY w C
 inv:Ek X w C
section
variable {w J:World} {C:pL} {X:Nat→Prop}
theorem sY.lt (h:sY w C) {q:Nat} (ae:AT C q):q<w.heap.size:=by
 rcases ae with rfl|rfl|ae
 · exact h.v.lt
 · exact bQ.lt h.f
 · exact h.dev.lt ae
theorem sY.aB {W:Nat→Prop} (h:sY w C) (ak:aq W w J) (aD:∀q,AT C q→¬W q):sY J C:=
 ⟨h.v.aB ak (aD _ (.inl rfl)),bQ.aB h.f ak (aD _ (.inr (.inl rfl))),h.dev.aB ak fun q ae=>aD q (.inr (.inr ae)),h.dv,h.dB,h.aE,h.bp⟩
theorem Ek.aB {W:Nat→Prop} (h:Ek X w C) (ak:aq W w J) (aD:∀q,W q→AT C q∨X q):Ek X J C:=
 ⟨h.pins,fun f aL ZA=>by
   obtain ⟨no,aZ,a7,bm,ca,c6⟩:=h.ok f aL ZA
   exact ⟨no,aZ,a7,eV.aB bm ak fun q ae hw=>by
     rcases aD q hw with U|U
     · exact ae.1 U
     · exact ae.2 U,ca,c6⟩,h.un,fun q ae=>⟨qs (h.HX q ae).1 ak.size,(h.HX q ae).2⟩⟩
theorem uA.aB {W:Nat→Prop} (h:uA X w C) (ak:aq W w J) (aD:∀q,W q→X q):uA X J C:=
 ⟨h.raw.aB ak fun q ae hw=>(h.inv.HX q (aD q hw)).2 ae,h.inv.aB ak fun q hw=> .inr (aD q hw)⟩
theorem uA.ext (h:uA X w C) (ak:Ext w J):uA X J C:=h.aB ak fun _ h=>h.elim
theorem sY.cells (h:sY w C):w.cell? ⟨C.c,0,none⟩=some (.pointer (some ⟨C.D.d,0,none⟩))∧w.cell? (Addr.add ⟨C.c,0,none⟩ 1)=some (.slice (some ⟨C.eC,0,none⟩) C.eQ.length C.eQ.length)∧w.cell? (Addr.add ⟨C.c,0,none⟩ 2)=some (.int .i64 C.hand):=by
 rw[a_,a_]
 exact ⟨h.v.cell,h.v.cell,h.v.cell⟩
end
end
section
section
variable {w J:World} {C:pL} {X:Nat→Prop}
theorem OO (D:bx) (k i:Nat):(D.eP k).now i=D.now i:=rfl
end
end
section
section
variable {w J:World} {C:pL} {X:Nat→Prop}
end
theorem ZB (n:Nat):jB Tryz.prog ad.pM n=(c1 Fr.c (List.replicate n iV)).toArray:=by
 have cc:((Tryz.prog.info? ad.pM).bind (·.zero)).map (·.cells)=some iV.c.toArray:=by kernel_rfl
 have ak:Tryz.prog.cellsOf ad.pM=6:=by kernel_rfl
 unfold jB
 rw[ak]
 cases hi:(Tryz.prog.info? ad.pM).bind (·.zero) with
 |none=>rw[hi] at cc;cases cc
 |some z=>
   rw[hi] at cc
   simp only[tG,Option.some.injEq] at cc
   simp only[zZ,cc]
   apply Array.ext
   · simp[me (c:=Fr.c) (sz:=6) (List.replicate n iV) (fun x _=>rfl)]
   · intro i U ag
     have aD:n*6≠0:=by
       intro h
       simp[h] at U
     have g3:i<n*6:=by simpa using U
     simp only[aD,if_false,Array.getElem_map,Array.getElem_range,List.getElem_toArray]
     have eB:iV.c.toArray.size=6:=rfl
     have aR:i%6<6:=kT _ (by omega)
     have ae:i/6<(List.replicate n iV).length:=by rw[tH];omega
     have aW:=Hh (c:=Fr.c) (sz:=6) (l:=List.replicate n iV) (fun x _=>rfl) (i:=i/6) (j:=i%6) ae aR
     rw[show i/6*6+i%6=i by omega] at aW
     have yq:i<(c1 Fr.c (List.replicate n iV)).length:=by simpa using ag
     rw[gY yq] at aW
     have he:((List.replicate n iV)[i/6]).c=iV.c:=by simp
     rw[he,gY (show i%6<iV.c.length from aR)] at aW
     have aW:=Option.some.inj aW
     rw[aW,eB,getElem!_pos iV.c.toArray (i%6) (by rw[eB];exact aR)]
     simp
def AU (c eC k:Nat) (D:bx):pL:=⟨c,eC,List.replicate k iV,0,D⟩
theorem q7 {w:World} {D:bx} (h:dz w D) {k:Nat} (U:8≤k) (ag:k≤64):aM Tryz.prog F.q7 #[.pointer (some ⟨D.d,0,none⟩), .int .i64 ((k:Nat):Int)] w (fun v J=>∃c eC:Nat,v= .tuple #[.pointer (some ⟨c,0,none⟩), .int .i64 0]∧uA (fun _=>False) J (AU c eC k D)∧Ext w J∧w.heap.size≤c∧w.heap.size≤eC):=by
 refine W.ZC (some ⟨D.d,0,none⟩) ((k:Nat):Int) w _ ?_
 delta W.q7 au oq ab
 refine ⟨fun h=> ?_,fun _=>⟨⟨by omega,by omega,by omega,by omega⟩,?_⟩⟩
 · simp only[Option.isNone_some,qt,hP,cR] at h;omega
 rw[ZB,er]
 have hV:=bQ.new w (c1 Fr.c (List.replicate k iV)).toArray ad.pM
 have bg:=de w (.cells (c1 Fr.c (List.replicate k iV)).toArray ad.pM)
 have qA:=k0 w (.cells (c1 Fr.c (List.replicate k iV)).toArray ad.pM)
 obtain ⟨af,sI⟩:∃af,af=w.alloc (.cells (c1 Fr.c (List.replicate k iV)).toArray ad.pM):=⟨_,rfl⟩
 rw[←sI] at hV bg qA⊢
 refine bj (cT (vs:=[.pointer (some ⟨D.d,0,none⟩), .slice (some ⟨w.heap.size,0,none⟩) k k, .int .i64 0]) rfl fun aw ee bV pj=>⟨af.heap.size,w.heap.size,rfl,⟨⟨?_,bQ.ext hV bV,h.ext (bg.trans bV),?_,?_,?_,?_,?_,?_⟩,⟨fun f aL=> ?_,fun f aL lF=> ?_,fun i j hi bu U=> ?_,fun q ae=>ae.elim⟩⟩,bg.trans bV,by omega,b6 _⟩)
 · show Var _ _ [_, .slice _ (List.replicate k iV).length (List.replicate k iV).length,_] _
   rw[tH];exact ee
 · show 8≤(List.replicate k iV).length;simpa using U
 · show (List.replicate k iV).length≤64;simpa using ag
 · show 0<(List.replicate k iV).length;simp;omega
 · show af.heap.size≠w.heap.size;omega
 · intro e
   have:=h.lt e
   have:af.heap.size<w.heap.size:=this
   omega
 · intro e
   have:=h.lt e
   have:w.heap.size<w.heap.size:=this
   omega
 · rw[GA aL];rfl
 · rw[GA aL] at lF;cases lF
 · simp[AU,iV] at U
end
section
theorem sZ {J:World} {h:Nat} {vs:List Value} (n g:Int) (s:ah) (ao:Var J h vs ad.jD) (aC:vs.length=3) {K:World→Prop} (aT:∀aw,Var aw h [.int .i64 n, .int .u64 g, .slice s.a s.len s.cap] ad.jD→aq (fun q=>q=h) J aw→aw.heap.size=J.heap.size→K aw):
   bW J ⟨h,0,none⟩ [.int .i64 n, .int .u64 g, .slice s.a s.len s.cap]∧(3:Nat)=3∧ay (setCells J ⟨h,0,none⟩ 0 [.int .i64 n, .int .u64 g, .slice s.a s.len s.cap]) K:=by
 refine ⟨ao.gZ (by rw[aC];rfl) ?_,rfl,jw ao (us:=[.int .i64 n, .int .u64 g, .slice s.a s.len s.cap]) (by rw[aC];rfl) rfl aT⟩
 intro v ao
 simp only[fc,jc,jd] at ao
 rcases ao with rfl|rfl|rfl<;>trivial
end
section
theorem ZD {B:Nat→Prop} {w:World} {s:ah} {bG:List Nat} (h:dX B w s bG) (no:Nat) (aC:bG.length≤1000000):
   aM Tryz.prog F.uB #[.slice s.a s.len s.cap, .int .i64 (no:Nat)] w (fun v J=>∃n:Int,v= .int .i64 n∧(0≤n↔no∈bG)∧w=J):=by
 have cM:=h.len
 refine W.ZE s (no:Nat) w _ ?_
 (delta W.uB au aQ az av;dsimp only)
 refine ⟨fun n J=>∃i:Nat,n=(i:Int)∧i≤bG.length∧no∉bG.take i∧w=J,fun n _=>((bG.length:Int)-n).toNat,⟨0,rfl,ei _,by simp,rfl⟩,?_⟩
 rintro _ _ ⟨i,rfl,hi,fH,rfl⟩
 refine ⟨fun aR=> ?_,fun bF=> ?_⟩
 · have El:i<bG.length:=by
     have:((i:Nat):Int)<((s.len:Nat):Int):=cf aR
     omega
   obtain ⟨A,an,aj,ak⟩:=dX.at h El
   refine ⟨A,an,aj,_,ak,fun he=> ?_,fun b_=> ?_⟩
   · have he:no=bG[i]:=by
       have:((no:Nat):Int)=((bG[i]:Nat):Int):=by simpa using he
       omega
     exact ⟨_,rfl,⟨fun _=>by rw[he];exact dP _,fun _=>by omega⟩,rfl⟩
   · have b_:no≠bG[i]:=fun e=>by rw[e] at b_;simp at b_
     have wy:IntKind.wrap .i64 (((i:Nat):Int)+1)=((i+1:Nat):Int):=by rw[b3 (by omega) (by omega)];omega
     rw[wy]
     refine ⟨⟨i+1,rfl,by omega,?_,rfl⟩,by show ((bG.length:Int)-((i+1:Nat):Int)).toNat<((bG.length:Int)-((i:Nat):Int)).toNat;omega⟩
     rw[kS El]
     intro hm
     rcases hD.1 hm with hm|hm
     · exact fH hm
     · exact b_ (gv.1 hm)
 · have El:i=bG.length:=by
     have:¬((i:Nat):Int)<((s.len:Nat):Int):=cm bF
     omega
   rw[El,lp] at fH
   exact ⟨-1,rfl,⟨fun h=>by omega,fun h=>absurd h fH⟩,rfl⟩
theorem ZF {B:Nat→Prop} {w:World} {s:ah} {bG:List Nat} (h:dX B w s bG) (no:Nat) (aC:bG.length≤1000000):
   aM Tryz.prog F.uC #[.slice s.a s.len s.cap, .int .i64 (no:Nat)] w (fun v J=>v= .bool (decide (no∈bG))∧w=J):=by
 refine W.ZG s (no:Nat) w _ ?_
 (delta W.uC bS;dsimp only)
 refine (ZD h no aC).use ?_
 rintro _ _ ⟨n,rfl,aD,rfl⟩
 refine ⟨n,rfl,?_,rfl⟩
 congr 1
 exact decide_eq_decide.2 aD
section
variable {w J:World} {T uD:kF} {aiD k:Nat} {s:ah} {ct:List Nat}
end
end
section
theorem s0 {w:World} {s:ah} {l:List UInt8} (h:Src 1 w s (aF l)) {i:Nat} (hi:i<l.length):∃A:Addr,s.a=some A∧((0:Int)≤(i:Int)∧(i:Int)<((s.len:Nat):Int))∧w.cell? (A.add (Int.toNat (i:Int)*1))=some (.int .u8 ((l[i].toNat:Nat):Int)):=by
 obtain ⟨A,an,aj,ak⟩:=h.at (i:=i) (v:= .int .u8 ((l[i].toNat:Nat):Int)) (by simp[aF,hi])
 exact ⟨A,an,aj,ak⟩
theorem q8 {w:World} {s t:ah} {a b:Key} (ar:Src 1 w s (aF a)) (bt:Src 1 w t (aF b)) (aiE:a.length≤1000000) (Em:b.length≤1000000):
   aM Tryz.prog F.q8 #[.slice s.a s.len s.cap, .slice t.a t.len t.cap] w (fun v J=>∃n:Int,v= .int .i64 n∧(n<0↔h4 a b)∧Ext w J):=by
 have U:=len8 ar
 have ag:=len8 bt
 refine W.ZH s t w _ ?_
 (delta W.q8 au aQ b1 av;dsimp only)
 refine ⟨fun n J=>∃i:Nat,n=(i:Int)∧i≤a.length∧i≤b.length∧jv a b=jv (a.drop i) (b.drop i)∧Ext w J,fun n _=>((a.length:Int)-n).toNat,⟨0,rfl,ei _,ei _,rfl, .refl _ _⟩,?_⟩
 rintro _ bf ⟨i,rfl,aiF,HK,ak,ai⟩
 refine ⟨fun aR=> ?_,fun bF=> ?_⟩
 · rw[fy,cR,cR] at aR
   have aI:i<a.length:=by omega
   have aj:i<b.length:=by omega
   have bN:=Ext.trans ai (c_ bf)
   obtain ⟨A,an,hV,mb⟩:=s0 (ar.ext bN) aI
   obtain ⟨B,ff,e7,ek⟩:=s0 (bt.ext bN) aj
   rw[r9 aI,r9 aj] at ak
   have aiG:=vv a[i]
   have AV:=vv b[i]
   refine bj ⟨A,an,hV,id,_,mb,B,ff,e7,id,_,ek,fun b_=> ?_,fun heq=> ?_⟩
   · have b_:a[i].toNat≠b[i].toNat:=fun e=>by rw[e] at b_;simp at b_
     have wm:=Ext.trans bN (c_ _)
     obtain ⟨s3,iU,ZI,ZJ⟩:=s0 (ar.ext wm) aI
     obtain ⟨ZK,ZL,ZM,ZN⟩:=s0 (bt.ext wm) aj
     refine bj ⟨s3,iU,ZI,id,_,ZJ,ZK,ZL,ZM,id,_,ZN,_,rfl,?_,wm⟩
     rw[b3 (n:=((a[i].toNat:Nat):Int)) (by omega) (by omega),b3 (n:=((b[i].toNat:Nat):Int)) (by omega) (by omega),b3 (by omega) (by omega)]
     unfold h4
     rw[ak]
     unfold jv
     rcases gK a[i].toNat b[i].toNat with h|h
     · rw[if_pos h]
       exact ⟨fun _=>by decide,fun _=>by omega⟩
     · rw[if_neg (by omega),if_pos (by omega)]
       exact ⟨fun _=>by omega,fun h=>absurd h (by decide)⟩
   · have he:a[i]=b[i]:=by
       have:((a[i].toNat:Nat):Int)=((b[i].toNat:Nat):Int):=by simpa using heq
       exact UInt8.toNat_inj.1 (by omega)
     have wy:IntKind.wrap .i64 (((i:Nat):Int)+1)=((i+1:Nat):Int):=by rw[b3 (by omega) (by omega)];omega
     rw[wy]
     refine ⟨⟨i+1,rfl,by omega,by omega,?_,bN⟩,by show ((a.length:Int)-((i+1:Nat):Int)).toNat<((a.length:Int)-((i:Nat):Int)).toNat;omega⟩
     rw[ak]
     conv=>lhs;unfold jv
     rw[he,if_neg (by simp),if_neg (by simp)]
 · have aiH:a.length=i∨b.length=i:=by
     rw[Bool.and_eq_false_iff,fY,fY] at bF
     omega
   rw[b3 (by omega) (by omega)]
   refine ⟨_,rfl,?_,ai⟩
   unfold h4
   rw[ak]
   rcases gK i a.length with h|h
   · rw[r9 h,List.drop_eq_nil_of_le (show b.length≤i by omega)]
     exact ⟨fun bH=>by exfalso;omega,fun h=>absurd h (show¬((1:Int)<0) by decide)⟩
   · rw[List.drop_eq_nil_of_le (show a.length≤i by omega)]
     rcases gK i b.length with aA|aA
     · rw[r9 aA]
       exact ⟨fun _=>show ((-1:Int)<0) by decide,fun _=>by omega⟩
     · rw[List.drop_eq_nil_of_le (show b.length≤i by omega)]
       exact ⟨fun bH=>by exfalso;omega,fun h=>absurd h (show¬((0:Int)<0) by decide)⟩
end
section
def AW (n:Nat) (root bX:Int):Prop:=0≤bX∧bX≤12∧0≤root∧root<n∧(root=0↔bX=0)
theorem q9 {w:World} {C:pL} (ak:sY w C) (dp:Nat) (gen root bX:Int):
   aM Tryz.prog F.q9 #[.pointer (some ⟨C.c,0,none⟩), .pointer (some ⟨dp,0,none⟩), .int .u64 gen, .int .i64 root, .int .i64 bX] w (fun v J=>
     (AW C.D.n root bX∧v= .tuple #[.pointer (some ⟨w.heap.size,0,none⟩), .int .i64 0]∧Ext w J∧Var J w.heap.size [.pointer (some ⟨C.c,0,none⟩), .pointer (some ⟨dp,0,none⟩), .int .u64 gen, .int .i64 root, .int .i64 bX] ad.HY∧J.heap.size=w.heap.size+1)∨
     (¬AW C.D.n root bX∧v= .tuple #[.pointer none, .int .i64 1]∧w=J)):=by
 refine W.ZO (some ⟨C.c,0,none⟩) (some ⟨dp,0,none⟩) gen root bX w _ ?_
 (delta W.q9 au bS ab;dsimp only)
 refine dU (fun b J=>(b=false↔(0≤bX∧bX≤12∧0≤root∧root<C.D.n))∧w=J) (fun q ae=>⟨fun U=>ae _ _ ⟨?_,rfl⟩,fun U=>⟨_,rfl,_,ak.cells.1,(Az ak.dev).use ?_⟩⟩) ?_
 · simp only[Option.isNone_some,qt,hP,cR] at U
   exact ⟨fun h=>(by cases h),fun h=>by omega⟩
 · rintro _ _ ⟨rfl,rfl⟩
   simp only[Option.isNone_some,qt,jX,fY] at U
   refine ⟨_,rfl,ae _ _ ⟨?_,rfl⟩⟩
   rw[fY]
   omega
 rintro b _ ⟨aj,rfl⟩
 refine ⟨fun U=> .inr ⟨fun aW=> ?_,rfl,rfl⟩,fun U=> ?_⟩
 · have ag:=aj.2 ⟨aW.1,aW.2.1,aW.2.2.1,aW.2.2.2.1⟩
   rw[ag,qt] at U
   have aA:=aW.2.2.2.2
   by_cases aK:root=0
   · rw[aK,aA.1 aK] at U;simp at U
   · have bH:bX≠0:=fun e=>aK (aA.2 e)
     have aN:(root==0)=false:=by simpa using aK
     have a6:(bX==0)=false:=by simpa using bH
     rw[aN,a6] at U
     cases U
 · rw[jX] at U
   have ag:=aj.1 U.1
   have aA:root=0↔bX=0:=by
     have aK:=U.2
     by_cases bH:root=0<;>by_cases cg:bX=0<;>simp[bH,cg] at aK⊢
   refine cT (vs:=[.pointer (some ⟨C.c,0,none⟩), .pointer (some ⟨dp,0,none⟩), .int .u64 gen, .int .i64 root, .int .i64 bX]) rfl fun bK ao ai ar=> .inl ⟨⟨ag.1,ag.2.1,ag.2.2.1,ag.2.2.2,aA⟩,rfl,ai,ao,ar⟩
end
section
theorem ZP {w:World} {s:ah} {l:List UInt8} (ar:Src 1 w s (aF l)) (ak:s.len≤s.cap) (k7:Nat) (hm:k7≤100000):aM Tryz.prog F.uE #[.slice s.a s.len s.cap, .int .i64 (k7:Nat)] w (fun v J=>∃ax:ah,v= .slice ax.a ax.len ax.cap∧aY 1 ad.uint8 J ax (aF (l.take k7))∧Ext w J∧∀q,aH ax q→w.heap.size≤q):=by
 have hlen:=len8 ar
 refine W.ZQ s (k7:Nat) w _ ?_
 delta W.uE au ab
 refine dU (fun s2 J=>w=J∧Src 1 w s2 (aF (l.take k7))∧s2.len≤k7) (fun q ae=>⟨fun h=> ?_,fun h=> ?_⟩) ?_
 · have h:k7<l.length:=by have:=cf h;omega
   refine ⟨⟨by omega,by omega⟩,ae _ _ ⟨rfl,?_,by simp⟩⟩
   have:=om ar ak (lo:=0) (hi:=k7) (by omega) (by omega)
   simpa using this
 · have h:l.length≤k7:=by have:=cm h;omega
   rw[jV h] at ae
   exact ae _ _ ⟨rfl,ar,by omega⟩
 rintro s2 _ ⟨rfl,ag,aA⟩
 obtain ⟨en,dR,aZ,a7,bm,ca,c6,_⟩:=Ac.clone (dx:=ad.bE) ag (kW _) (by omega)
 exact bj ⟨en,dR,aZ,en,rfl,a7,ca,c6⟩
instance (n:Nat) (root bX:Int):Decidable (AW n root bX):=by unfold AW;infer_instance
end
section
theorem En (f:Nat→Bool):∀ (n:Nat) (x:Int),x∈gS f n↔∃k:Nat,x=(k:Int)∧k<n∧f k=true
 |0,x=>by simp[gS]
 |n+1,x=>by
   rw[gS,hD,En f n x]
   constructor
   · rintro (⟨k,U,ag,aA⟩|h)
     · exact ⟨k,U,by omega,aA⟩
     · split at h
       · exact ⟨n,gv.1 h,by omega,by assumption⟩
       · cases h
   · rintro ⟨k,U,ag,aA⟩
     rcases gK k n with aK|aK
     · exact .inl ⟨k,U,aK,aA⟩
     · have:k=n:=by omega
       subst this
       right
       rw[if_pos aA,U];simp
theorem HZ (f:Nat→Bool):∀n,(gS f n).Pairwise fun a b=>a<b
 |0=>List.Pairwise.nil
 |n+1=>by
   rw[gS]
   refine List.pairwise_append.2 ⟨HZ f n,by split<;>simp,fun a aI b aj=> ?_⟩
   obtain ⟨k,U,ag,_⟩:=(En f n a).1 aI
   split at aj
   · have:=gv.1 aj;omega
   · cases aj
section
variable {cD w J:World} {q_ ZR:Nat} {T uD:kF} {r h k:Nat} {gh:List Nat} {L ZS:List GC} {ms:ah}
theorem ZT {s:ah} (h:wz Tryz.prog w ad.uint8 s):∃l:List UInt8,Src 1 w s (aF l):=by
 obtain ⟨l,U,_,_⟩:=h.src (c:=fun c:UInt8=> [Value.int .u8 ((c.toNat:Nat):Int)]) (sz:=1) (by kernel_rfl) (fun _=>True) fun fuel us ZU=>by
   obtain ⟨n,rfl,ag,aA⟩:=AX ZU (k:= .u8) (by kernel_rfl)
   have aK:=OP ag aA
   refine ⟨UInt8.ofNat n.toNat,?_,trivial⟩
   simp only[UInt8.toNat_ofNat']
   congr 2
   omega
 have e:∀l:List UInt8,(l.map fun c:UInt8=> [Value.int .u8 ((c.toNat:Nat):Int)]).flatten=aF l:=fun l=>by
   unfold aF
   induction l with
   |nil=>rfl
   |cons a l cb=>rw[ln,List.flatten_cons,cb];rfl
 rw[e] at U
 exact ⟨l,U⟩
end
end
section
theorem iD {i:Nat} (h:i≤1000000):IntKind.wrap .i64 (((i:Nat):Int)+1)=((i+1:Nat):Int):=by rw[b3 (by omega) (by omega)];omega
section
variable {cD w J:World} {q_ ZR:Nat} {T uD:kF} {r h k c:Nat} {gh ZV:List Nat} {L ZS aiI:List GC} {V:Nat→c2} {ms l:ah}
end
end
section
theorem H0:∀ {a b:List Nat},a.Nodup→(∀x∈a,x∈b)→a.length≤b.length
 | [],_,_,_=>ei _
 |x::a,b,aD,ar=>by
   obtain ⟨U,ag⟩:=z6.1 aD
   have ai:=ar x (by simp)
   have:=H0 (a:=a) (b:=b.erase x) ag fun y bA=>(List.mem_erase_of_ne (fun e=>U (by rw[←e];exact bA))).2 (ar y (tK _ bA))
   rw[List.length_erase_of_mem ai] at this
   have:=List.length_pos_of_mem ai
   rw[jW];omega
end
section
structure b8 where
 wA:Int
 s1:Int
 pI:Int
 aZ:Int
 dE:Int
 gh:Int
 keys:Int
 lost:Int
 fv:Int
 bad:Int
 deriving DecidableEq
def b8.c (a:b8):List Value:=[.int .i64 a.wA, .int .i64 a.s1, .int .u64 a.pI, .int .u64 a.aZ, .int .i64 a.dE, .int .i64 a.gh, .int .i64 a.keys, .int .i64 a.lost, .int .i64 a.fv, .int .i64 a.bad]
def uF (a:b8) (bh:ah) (m:Nat) (gs:ah):List Value:=a.c++ [.slice bh.a bh.len bh.cap, .map (some m), .slice gs.a gs.len gs.cap]
def inc (n:Int):Int:=IntKind.wrap .i64 (n+1)
structure eR (w:World) (aP:Nat) (a:b8) (bh:ah) (m:Nat) (gs:ah) (al:List c2) (seen ba:List Nat):Prop where
 v:Var w aP (uF a bh m gs) ad.yl
 s:cq (fun q=>q≠aP∧q≠m∧¬aH gs q) w bh al
 mp:dd w m encZ (seen.map fun x=>(((x:Nat):Int),Value.bool true))
 g:aY 1 ad.int w gs (l_ ba)
 ne:m≠aP∧¬aH gs aP∧¬aH gs m
 len:∀l∈al,l.length=256
 n:16≤al.length∧al.length≤1600
 wB:ba.length≤1600
 kG:ba.Nodup∧(∀x∈ba,x∈seen)∧∀x∈seen,x<al.length
theorem ZW {ys:List Int} {f:Nat→Bool} {n:Nat} (U:ys.Pairwise fun a b=>a<b) (ag:∀x,x∈ys↔∃k:Nat,x=(k:Int)∧k<n∧f k=true):ys=gS f n:=by
 have aU:ys.Perm (gS f n):=by
   refine (List.perm_ext_iff_of_nodup ?_ ?_).2 fun x=> ?_
   · exact U.imp fun h=>by omega
   · exact (HZ f n).imp fun h=>by omega
   · rw[En,ag]
 exact aU.eq_of_pairwise (le:=fun a b=>a<b) (fun a b _ _ U ag=>by omega) U (HZ f n)
def lK (no:Nat) (ba:List Nat) (i:Nat):Bool:=decide (i=no)||decide (i∈ba)||decide (i<2)
def fE (b:List UInt8):List Int:=b.map fun c=>((c.toNat:Nat):Int)
instance aiJ (ns:List Int) (n:Nat):Decidable (kE ns n):=
 decidable_of_iff (ns.length=(n+7)/8∧∀i,i<8*ns.length→n≤i→bitsOf ns i=false) ⟨fun h=>⟨h.1,fun i hi=>by
   rcases gK i (8*ns.length) with U|U
   · exact h.2 i U hi
   · exact AS ns i U⟩,fun h=>⟨h.1,fun i _ hi=>h.2 i hi⟩⟩
def mi (al:List c2) (ba:List Nat) (no:Nat) (a:b8):b8:=
 match dC no (al.getD no []) with
 | .error _=>{a with bad:=inc a.bad}
 | .ok p=>if p.kind=4∧kE (fE p.body) al.length then
     {a with fv:=(((gS (lK no ba) al.length).filter fun i=> !(bitsOf (fE p.body) i.toNat)).length:Nat),
              lost:=(((gS (bitsOf (fE p.body)) al.length).length:Nat):Int)-((((gS (lK no ba) al.length).length:Nat):Int)-(((gS (lK no ba) al.length).filter fun i=> !(bitsOf (fE p.body) i.toNat)).length:Nat))}
   else {a with bad:=inc a.bad}
section
variable {w J:World} {aP m:Nat} {a:b8} {bh gs:ah} {al:List c2} {seen ba:List Nat}
theorem eR.cell (h:eR w aP a bh m gs al seen ba):w.cell? (Addr.add ⟨aP,0,none⟩ 10)=some (.slice bh.a bh.len bh.cap)∧w.cell? (Addr.add ⟨aP,0,none⟩ 11)=some (.map (some m))∧w.cell? (Addr.add ⟨aP,0,none⟩ 12)=some (.slice gs.a gs.len gs.cap)∧
   w.cell? (Addr.add ⟨aP,0,none⟩ 5)=some (.int .i64 a.gh)∧w.cell? (Addr.add ⟨aP,0,none⟩ 6)=some (.int .i64 a.keys)∧w.cell? (Addr.add ⟨aP,0,none⟩ 8)=some (.int .i64 a.fv)∧w.cell? (Addr.add ⟨aP,0,none⟩ 9)=some (.int .i64 a.bad):=by
 simp only[a_]
 exact ⟨h.v.cell,h.v.cell,h.v.cell,h.v.cell,h.v.cell,h.v.cell,h.v.cell⟩
theorem eR.lt (h:eR w aP a bh m gs al seen ba):aP<w.heap.size∧m<w.heap.size∧∀q,aH gs q→q<w.heap.size:=⟨h.v.lt,h.mp.lt,h.g.lt⟩
theorem eR.kH (h:eR w aP a bh m gs al seen ba) {W:Nat→Prop} (ak:aq W w J) (fQ:∀q,q<w.heap.size→¬W q):eR J aP a bh m gs al seen ba:=by
 have ai:Ext w J:=eh (aq.refl _ _) ak fun q ae hw=>fQ q ae hw
 exact ⟨h.v.ext ai,cq.ext h.s ai,h.mp.aB ai id,h.g.ext ai,h.ne,h.len,h.n,h.wB,h.kG⟩
theorem eR.put (h:eR w aP a bh m gs al seen ba) {j:Nat} {a':b8} {v:Value} (bu:j<10) (aI:a'.c=a.c.set j v):(∃u:Value,w.cell? (Addr.add ⟨aP,0,none⟩ j)=some u)∧w.frozen? (Addr.add ⟨aP,0,none⟩ j)=false∧
   eR (w.setCell (Addr.add ⟨aP,0,none⟩ j) v) aP a' bh m gs al seen ba∧aq (fun q=>q=aP) w (w.setCell (Addr.add ⟨aP,0,none⟩ j) v):=by
 rw[a_,fX]
 have aC:a.c.length=10:=rfl
 obtain ⟨dv,dB⟩:=nz h.v (i:=j) (by unfold uF;rw[c9,aC];simp;omega)
 have ak:=mQ w aP j v
 refine ⟨dv,dB,⟨?_,cq.aB h.s ak fun q ae e=>ae.1 e,h.mp.aB ak (fun e=>h.ne.1 e),h.g.aB ak fun q ae e=>h.ne.2.1 (by rw[←e];exact ae),h.ne,h.len,h.n,h.wB,h.kG⟩,ak⟩
 have U:=pr h.v (i:=j) v
 unfold uF at U⊢
 rw[List.set_append_left _ _ (by rw[aC];exact bu),←aI] at U
 exact U
theorem eR.H2 (h:eR w aP a bh m gs al seen ba) {k:Nat} (aa:k<al.length) (aD:k∉seen):
   ∃af:World,(Instr.mapUpdate ad.iE (.map (some m)) (.int .i64 ((k:Nat):Int)) (.bool true)).run Tryz.prog w= .ok () af∧eR af aP a bh m gs al (k::seen) ba∧aq (fun q=>q=m) w af:=by
 have aV:Tryz.prog.underlying ad.iE=some (.map ad.int ad.bool):=by kernel_rfl
 obtain ⟨af,U,ag,aA,aK⟩:=Hi oA aV h.mp (k:=((k:Nat):Int)) (fun v ao=>by
   obtain ⟨x,ai,e⟩:=gl.1 ao
   have:((x:Nat):Int)=((k:Nat):Int):=congrArg Prod.fst e
   have:x=k:=by omega
   exact aD (this▸ai)) (.bool true)
 exact ⟨af,U,⟨h.v.aB ag fun e=>h.ne.1 e.symm,cq.aB h.s ag fun q ae e=>ae.2.1 e,aK,h.g.aB ag fun q ae e=>h.ne.2.2 (by rw[←e];exact ae),h.ne,h.len,h.n,h.wB,h.kG.1,fun x ai=>tK _ (h.kG.2.1 x ai),fun x ai=>by
   rcases fc.1 ai with rfl|ai
   · exact aa
   · exact h.kG.2.2 x ai⟩,ag⟩
theorem eR.ZX (h:eR w aP a bh m gs al seen ba) (k:Nat):(Instr.lookup ad.iE (.map (some m)) (.int .i64 ((k:Nat):Int)) false).run Tryz.prog w= .ok (.bool (decide (k∈seen))) w:=by
 have aV:Tryz.prog.underlying ad.iE=some (.map ad.int ad.bool):=by kernel_rfl
 by_cases aa:k∈seen
 · have:=h.mp.DQ oA aV (k:=((k:Nat):Int)) (v:= .bool true) (gl.2 ⟨k,aa,rfl⟩) false
   rw[gu aa];exact this
 · obtain ⟨Hs,U,ag⟩:=Ax (P:=Tryz.prog) (T:=ad.bool) (z:= .bool false) (by kernel_rfl)
   have:=h.mp.DR oA aV (k:=((k:Nat):Int)) U ag (fun v ao=>by
     obtain ⟨x,ai,e⟩:=gl.1 ao
     have:((x:Nat):Int)=((k:Nat):Int):=congrArg Prod.fst e
     have:x=k:=by omega
     exact aa (this▸ai)) false
   rw[sd aa];exact this
theorem eR.ZY (h:eR w aP a bh m gs al seen ba) {k:Nat} (aa:k∈seen) (aD:k∉ba):
   ∃ (g':ah) (af:World),Sem.run Tryz.prog (Builtin.append_ #[ad.da,ad.da] ad.da #[.slice gs.a gs.len gs.cap, .slice (some ⟨w.heap.size,0,none⟩) 1 1]) (w.alloc (.cells #[.int .i64 ((k:Nat):Int)] ad.int))= .ok (.slice g'.a g'.len g'.cap) af∧
     (∃u:Value,af.cell? (Addr.add ⟨aP,0,none⟩ 12)=some u)∧af.frozen? (Addr.add ⟨aP,0,none⟩ 12)=false∧
     eR (af.setCell (Addr.add ⟨aP,0,none⟩ 12) (.slice g'.a g'.len g'.cap)) aP a bh m g' al seen (ba++ [k])∧aq (fun q=>q=aP∨aH gs q) w (af.setCell (Addr.add ⟨aP,0,none⟩ 12) (.slice g'.a g'.len g'.cap))∧∀q,aH g' q→aH gs q∨w.heap.size≤q:=by
 have H3:gs.len=ba.length:=by have:=h.g.1;rw[Dy] at this;omega
 have OQ:=h.wB
 have aR:=h.lt
 obtain ⟨g',af,aZ,a7,bm,ca,c6⟩:=Al.push (dx:=ad.da) (w:=w) (xs:=[.int .i64 ((k:Nat):Int)]) rfl h.g (fun v ao=>by rw[gv.1 ao];trivial) (by omega)
 have cZ:=h.v.aB ca h.ne.2.1
 rw[a_,fX]
 obtain ⟨dv,dB⟩:=nz cZ (i:=12) (by unfold uF b8.c;simp)
 have ak:=mQ af aP 12 (.slice g'.a g'.len g'.cap)
 have b_:¬aH g' aP∧¬aH g' m:=⟨fun ae=>by
   rcases c6 aP ae with U|U
   · exact h.ne.2.1 U
   · omega,fun ae=>by
   rcases c6 m ae with U|U
   · exact h.ne.2.2 U
   · omega⟩
 refine ⟨g',af,aZ,dv,dB,⟨?_,?_,?_,?_,⟨h.ne.1,b_⟩,h.len,h.n,?_,?_,fun x ai=> ?_,h.kG.2.2⟩,?_,c6⟩
 · have U:=pr cZ (i:=12) (.slice g'.a g'.len g'.cap)
   exact U
 · have U:cq (fun q=>q<w.heap.size∧q≠aP∧q≠m∧¬aH gs q) w bh al:=cq.cS h.s fun q ae aj=>⟨ae,aj⟩
   refine cq.cS (cq.aB (cq.aB U ca fun q ae aS=>ae.2.2.2 aS) ak fun q ae e=>ae.2.1 e) fun q _ aj=>⟨aj.2.1,aj.2.2.1,fun aS=> ?_⟩
   rcases c6 q aS with ag|ag
   · exact aj.2.2.2 ag
   · have:=aj.1;omega
 · exact (h.mp.aB ca h.ne.2.2).aB ak h.ne.1
 · have U:=a7.aB ak fun q ae e=>b_.1 (by rw[←e];exact ae)
   have e:l_ (ba++ [k])=l_ ba++ [.int .i64 ((k:Nat):Int)]:=by simp[l_]
   rw[e];exact U
 · have U:(ba++ [k]).Nodup:=by
     rw[CV]
     exact ⟨h.kG.1,by simp,fun x ai y bA e=>aD (by rw[gv.1 bA] at e;rw[←e];exact ai)⟩
   have ag:=H0 U (b:=List.range al.length) fun x ai=>by
     rw[qp]
     rcases hD.1 ai with ai|ai
     · exact h.kG.2.2 x (h.kG.2.1 x ai)
     · rw[gv.1 ai];exact h.kG.2.2 k aa
   rw[xT] at ag
   have:=h.n
   omega
 · rw[CV]
   exact ⟨h.kG.1,by simp,fun x ai y bA e=>aD (by rw[gv.1 bA] at e;rw[←e];exact ai)⟩
 · rcases hD.1 ai with ai|ai
   · exact h.kG.2.1 x ai
   · rw[gv.1 ai];exact aa
 · exact eh (ca.mono fun q _ h=> .inr h) ak fun q _ e=> .inl e
end
end
section
section
variable {w J:World} {aP m:Nat} {a:b8} {bh gs:ah} {al:List c2} {seen ba:List Nat}
theorem OR (b:List UInt8):aF b=(fE b).map (.int .u8):=by
 unfold aF fE
 rw[pe];rfl
theorem OS (b:List UInt8):∀n∈fE b,(0:Int)≤n∧n≤255:=by
 intro n aD
 obtain ⟨c,_,rfl⟩:=gl.1 aD
 have:=vv c
 omega
theorem ZZ (l:List Nat):l_ l=(l.map fun d=>((d:Nat):Int)).map encZ:=by
 unfold l_
 rw[pe];rfl
theorem Eo {no:Int} {l:List UInt8} {p:lz} (h:dC no l= .ok p):p.body.length≤232:=by
 unfold dC at h
 repeat' split at h
 all_goals first|cases h|skip
 rename_i U ag aA aK bH cg
 have gO:b2 l 6 2≤232:=by
   rcases gK 232 (b2 l 6 2) with gP|gP
   · exact absurd (.inr (.inl gP)) bH
   · exact gP
 show ((l.drop 24).take (b2 l 6 2)).length≤232
 rw[iv];omega
theorem OT (h:eR w aP a bh m gs al seen ba) {no:Nat} (fH:no<al.length) (aW:∀x∈ba,x<al.length) (hw:a.fv=0):
   aM Tryz.prog F.uG #[.pointer (some ⟨aP,0,none⟩), .int .i64 ((no:Nat):Int)] w (fun v J=>v= .tuple #[]∧eR J aP (mi al ba no a) bh m gs al seen ba∧aq (fun q=>q=aP) w J):=by
 have mP:=h.n
 have aR:=h.lt
 have OQ:=h.wB
 have l7:(al[no]).length=256:=h.len _ (dP fH)
 have oH:al.getD no []=al[no]:=dw fH
 refine W.Z0 _ ((no:Nat):Int) w _ ?_
 (delta W.uG aG aQ lH z4 ab kB au az st av cu cp cx;dsimp only)
 obtain ⟨gM,yk,H4,_⟩:=h.cell
 obtain ⟨A,t,an,aj,ak,bt,_⟩:=cq.at h.s fH
 refine ⟨_,rfl,bh,gM,A,an,aj,t,ak,(mM bt.1 bt.2.1 (by omega) ((no:Nat):Int)).use ?_⟩
 rintro v5 aO ⟨gm,fp⟩
 have uH:∀cO:World,Ext w cO→mi al ba no a={a with bad:=inc a.bad}→∃a26:Addr,(some ⟨aP,0,none⟩:Option Addr)=some a26∧∃n27:Int,cO.cell? (a26.add 9)=some (.int .i64 n27)∧
     ∃a28:Addr,(some ⟨aP,0,none⟩:Option Addr)=some a28∧(∃u:Value,cO.cell? (a28.add 9)=some u)∧cO.frozen? (a28.add 9)=false∧ay (cO.setCell (a28.add 9) (.int .i64 (IntKind.wrap .i64 (n27+1)))) fun cz=>
     (Value.tuple #[]= .tuple #[]∧eR cz aP (mi al ba no a) bh m gs al seen ba∧aq (fun q=>q=aP) w cz):=by
   intro cO ai e
   have AY:=h.kH ai fun _ _ h=>h
   obtain ⟨_,_,_,_,_,_,lH⟩:=AY.cell
   obtain ⟨e9,e_,dZ,fL⟩:=AY.put (j:=9) (a':={a with bad:=inc a.bad}) (v:= .int .i64 (inc a.bad)) (by decide) rfl
   refine ⟨_,rfl,a.bad,lH,_,rfl,e9,e_,bj ⟨rfl,?_,eh (ai.mono fun _ _ h=>h.elim) fL fun q _ e=>e⟩⟩
   rw[e];exact dZ
 have OU:∀ (k g:Int) (s:ah) (K:World→Prop),(∀bw,Var bw aO.heap.size [.int .i64 k, .int .u64 g, .slice s.a s.len s.cap] ad.jD→Ext aO bw→K bw)→ay (aO.alloc (.cells #[.int .i64 0, .int .u64 0, .slice none 0 0] ad.jD)) fun cJ=>
     bW cJ ⟨aO.heap.size,0,none⟩ [.int .i64 k, .int .u64 g, .slice s.a s.len s.cap]∧(3:Nat)=3∧ay (setCells cJ ⟨aO.heap.size,0,none⟩ 0 [.int .i64 k, .int .u64 g, .slice s.a s.len s.cap]) K:=by
   intro k g s K aT
   refine cT (vs:=[.int .i64 0, .int .u64 0, .slice none 0 0]) rfl fun cJ oI l8 H5=>⟨oI.gZ rfl (fun v ao=> ?_),rfl,jw oI (us:=[.int .i64 k, .int .u64 g, .slice s.a s.len s.cap]) rfl rfl fun bw ra re OV=>aT bw ra (Ext.c8 l8 re (b6 _))⟩
   simp only[fc,jc,jd] at ao
   rcases ao with rfl|rfl|rfl<;>trivial
 cases aU:dC ((no:Nat):Int) al[no] with
 |error e=>
   rw[aU] at gm
   have b_:=yg aU
   have AM:mi al ba no a={a with bad:=inc a.bad}:=by unfold mi;rw[oH,aU]
   obtain rfl:v5=_:=gm
   refine ⟨0,0,⟨none,0,0⟩,e,rfl,OU _ _ _ _ fun bw ra lL=>bj ⟨fun _=>False,id,⟨none,0,0⟩,?_,_,rfl,id,bh,?_,?_⟩⟩
   · rw[a_];exact (ra.ext (c_ bw)).cell
   · exact (h.kH (Ext.trans (Ext.trans fp lL) (c_ bw)) fun _ _ h=>h).cell.1
   have AZ:=Ext.trans (Ext.trans fp lL) (c_ bw)
   refine (pJ (s:=⟨none,0,0⟩) (ns:=[]) (aY.none 1 ad.uint8 bw.drew).src (fun n aD=>(by cases aD)) (by simp) ((bh.len:Nat):Int)).use ?_
   rintro OW cj ⟨ke,yr⟩
   have Z1:∃ (yt:Option Addr) (n21:Int),OW= .tuple #[.pointer yt, .int .i64 n21]:=by
     rcases yr with ⟨_,ao⟩|⟨_,_,_,ao⟩|⟨_,_,_,b,s1,s2,ao,_⟩
     · exact ⟨_,_,ao⟩
     · exact ⟨_,_,ao⟩
     · exact ⟨_,_,ao⟩
   obtain ⟨yt,n21,rfl⟩:=Z1
   refine ⟨yt,n21,rfl,ke,dU (fun b J=>b=true∧cj=J) (fun q ae=>⟨fun _=>ae _ _ ⟨rfl,rfl⟩,fun aL=> ?_⟩) ?_⟩
   · have:(e !=0)=true:=by simpa using b_
     rw[this] at aL;cases aL
   · rintro _ _ ⟨rfl,rfl⟩
     exact ⟨fun _=>uH cj (Ext.trans AZ ke) AM,fun h=>(by cases h)⟩
 |ok p=>
   rw[aU] at gm
   obtain ⟨dp,rfl,lI,Hz⟩:=gm
   have cM:bh.len=al.length:=cq.len h.s
   have rf:=Eo aU
   refine ⟨_,_,dp,0,rfl,OU _ _ _ _ fun bw ra lL=>bj ⟨fun _=>False,id,dp,?_,_,rfl,id,bh,?_,?_⟩⟩
   · rw[a_];exact (ra.ext (c_ bw)).cell
   · exact (h.kH (Ext.trans (Ext.trans fp lL) (c_ bw)) fun _ _ h=>h).cell.1
   have bN:=c_ bw
   have AZ:=Ext.trans (Ext.trans fp lL) bN
   have vR:=lI.src.ext (Ext.trans lL bN)
   rw[OR] at vR
   rw[cM]
   refine (pJ vR (OS _) (by unfold fE;rw[ep];omega) ((al.length:Nat):Int)).use ?_
   rintro OW cj ⟨ke,⟨k3,_⟩|⟨_,_,ug,rfl⟩|⟨_,_,OX,b,s1,s2,rfl,rh,H6⟩⟩
   · exact absurd ⟨by omega,by omega⟩ k3
   · rw[er] at ug
     refine ⟨none,4,rfl,ke,dU (fun b J=>b=true∧cj=J) (fun q ae=>⟨fun _=>ae _ _ ⟨rfl,rfl⟩,fun aL=>(by cases aL)⟩) ?_⟩
     rintro _ _ ⟨rfl,rfl⟩
     refine ⟨fun _=>uH cj (Ext.trans AZ ke) ?_,fun h=>(by cases h)⟩
     unfold mi
     rw[oH,aU]
     exact if_neg fun fI=>ug fI.2
   rw[er] at OX rh
   have wC:=Ext.trans AZ ke
   have yu:=(ra.ext bN).ext ke
   refine ⟨some ⟨b,0,none⟩,0,rfl,ke,dU (fun b J=>b=decide (p.kind≠4)∧cj=J) (fun q ae=>⟨fun aL=>(by cases aL),fun _=>⟨_,yu.cell,ae _ _ ⟨?_,rfl⟩⟩⟩) ?_⟩
   · rw[fx,bne_iff_ne,cR];omega
   rintro _ _ ⟨rfl,rfl⟩
   refine ⟨fun aa=>uH cj wC ?_,fun aa=> ?_⟩
   · have aa:=cf aa
     unfold mi
     rw[oH,aU]
     exact if_neg fun fI=>aa fI.1
   have OY:p.kind=4:=xO fun fI=>by rw[gu fI] at aa;cases aa
   obtain ⟨f,aL⟩:∃f,f=bitsOf (fE p.body):=⟨_,rfl⟩
   obtain ⟨own,g6⟩:∃own,own=gS (lK no ba) al.length:=⟨_,rfl⟩
   have AM:mi al ba no a={a with fv:=((own.filter fun i=> !(f i.toNat)).length:Nat),lost:=(((gS f al.length).length:Nat):Int)-(((own.length:Nat):Int)-((own.filter fun i=> !(f i.toNat)).length:Nat))}:=by
     unfold mi
     rw[oH,aU,g6,aL]
     exact if_pos ⟨OY,OX⟩
   rw[AM]
   rw[←aL] at rh
   have OZ:=h.kH wC fun _ _ h=>h
   have O0:=wC.size
   have j0:Ext cj (cj.alloc (.cells #[.int .i64 ((no:Nat):Int)] ad.int)):=de _ _
   have O1:=OZ.kH j0 fun _ _ h=>h
   have Z2:aY 1 ad.int (cj.alloc (.cells #[.int .i64 ((no:Nat):Int)] ad.int)) ⟨some ⟨cj.heap.size,0,none⟩,1,1⟩ [.int .i64 ((no:Nat):Int)]:=aY.new cj [.int .i64 ((no:Nat):Int)] 1 rfl (by decide)
   have H3:gs.len=ba.length:=by have:=h.g.1;rw[Dy] at this;omega
   obtain ⟨mj,ck,az,b1,aG,bJ,ef⟩:=Al.append (dx:=ad.da) O1.g.src Z2 (Wr ba) (by show (2*(1+gs.len)+1000)*8≤_;omega)
   have O2:∀q,aH (⟨some ⟨cj.heap.size,0,none⟩,1,1⟩:ah) q→cj.heap.size≤q:=fun q ae=>by
     obtain ⟨A,an,rfl⟩:=ae
     cases an;exact b6 _
   have k8:Ext cj ck:=Ext.ix j0 bJ O2
   refine bj ⟨_,rfl,gs,O1.cell.2.2.1,mj,ck,az,fun s n J=>∃k:Nat,n=(k:Int)∧k≤2∧aY 1 ad.int J s (((((no:Nat):Int)::ba.map fun d=>((d:Nat):Int))++([0,1]:List Int).take k).map encZ)∧Ext cj J∧∀q,aH s q→cj.heap.size≤q,
     fun _ n _=>((2:Int)-n).toNat,⟨0,rfl,by decide,?_,k8,fun q ae=> ?_⟩,?_⟩
   · rw[List.take_zero,r_,ln,←ZZ]
     exact b1
   · rcases ef q ae with U|U
     · exact O2 q U
     · have:=j0.size;omega
   rintro dN _ eY ⟨k,rfl,cA,H7,yv,A0⟩
   refine ⟨fun vH=> ?_,fun vI=> ?_⟩
   · have DD:k<2:=by
       have:((k:Nat):Int)<2:=cf vH
       omega
     have aiK:dN.len≤ba.length+3:=by
       have:=H7.1
       simp only[ep,c9,jW,iv,nq] at this
       omega
     obtain ⟨jI,eX,ri,ox,uI,rj,Z3⟩:=Al.push (dx:=ad.da) (w:=eY) (xs:=[encZ ((k:Nat):Int)]) rfl H7 (fun v ao=>by rw[gv.1 ao];trivial) (by omega)
     have nL:IntKind.wrap .i64 (((k:Nat):Int)+1)=((k+1:Nat):Int):=by rw[b3 (by omega) (by omega)];omega
     rw[nL]
     refine bj ⟨jI,eX,ri,⟨k+1,rfl,by omega,?_,Ext.ix yv rj A0,fun q ae=> ?_⟩,by show ((2:Int)-((k+1:Nat):Int)).toNat<((2:Int)-((k:Nat):Int)).toNat;omega⟩
     · have e:([0,1]:List Int).take (k+1)=([0,1]:List Int).take k++ [((k:Nat):Int)]:=by
         have Z4:k=0∨k=1:=by omega
         rcases Z4 with rfl|rfl<;>rfl
       rw[e,←gC,hT]
       exact ox
     · rcases Z3 q ae with U|U
       · exact A0 q U
       · have:=yv.size;omega
   have Z5:k=2:=by
     have:¬((k:Nat):Int)<2:=cm vI
     omega
   subst Z5
   have Z6:(((((no:Nat):Int)::ba.map fun d=>((d:Nat):Int))++([0,1]:List Int).take 2)).length≤2000:=by simp;omega
   refine (Yv H7 (by omega)).use ?_
   rintro _ fD ⟨rfl,yw,ys,Z7,sP,Z8⟩
   refine ⟨rfl,(Yf Z7 Z8 (by have:=sP.length_eq;omega)).use ?_⟩
   rintro _ gz ⟨ml,zs,rfl,H8,pF,gG,Z9,Z_⟩
   have yx:Ext cj gz:=Ext.ix (Ext.ix yv yw A0) Z9 A0
   have aaa:zs=own:=by
     rw[g6]
     refine ZW pF fun x=> ?_
     rw[gG,sP.mem_iff]
     unfold lK
     simp only[z8,fc,hD,gl,List.take,jc,jd,hP,cR]
     constructor
     · rintro (rfl|⟨d,aE,rfl⟩|rfl|rfl)
       · exact ⟨no,rfl,fH, .inl (.inl rfl)⟩
       · exact ⟨d,rfl,aW d aE, .inl (.inr aE)⟩
       · exact ⟨0,rfl,by omega, .inr (by omega)⟩
       · exact ⟨1,rfl,by omega, .inr (by omega)⟩
     · rintro ⟨d,rfl,aE,(rfl|eg)|eg⟩
       · exact .inl rfl
       · exact .inr (.inl ⟨d,eg,rfl⟩)
       · have jE:d=0∨d=1:=by omega
         rcases jE with rfl|rfl
         · exact .inr (.inr (.inl rfl))
         · exact .inr (.inr (.inr rfl))
   rw[aaa] at H8
   have Ep:own.length≤1600:=by rw[g6];have:=Ee (lK no ba) al.length;omega
   have aab:ml.len=own.length:=by have:=H8.1;rw[ep] at this;omega
   have aac:∀q,aH ml q→q≠aP:=fun q ae e=>by
     have:=A0 q ((Z_ q).1 ae)
     have:=aR.1;omega
   have aad:∀q,kc b s1 s2 q→q≠aP:=fun q ae e=>by
     have:=H6 q ae
     have:=AZ.size
     have:=aR.1;omega
   refine ⟨ml,rfl,fun n J=>∃ (k:Nat) (a':b8),n=(k:Int)∧k≤own.length∧a'={a with fv:=(((own.take k).filter fun i=> !(f i.toNat)).length:Nat)}∧eR J aP a' bh m gs al seen ba∧aY 1 ad.int J ml (own.map encZ)∧jl J b al.length f f s1 s2∧aq (fun q=>q=aP) cj J,
     fun n _=>((own.length:Int)-n).toNat,⟨0,a,rfl,ei _,?_,OZ.kH yx fun _ _ h=>h,H8,rh.ext yx,yx.mono fun _ _ h=>h.elim⟩,?_⟩
   · cases a
     have hw:_=_:=hw
     subst hw
     rfl
   rintro _ fU ⟨k,a',rfl,aa,kf,nN,H9,Er,Es⟩
   have aiL:=Es.size
   refine ⟨fun Nj=> ?_,fun aae=> ?_⟩
   · have iz:k<own.length:=by
       have:((k:Nat):Int)<((ml.len:Nat):Int):=cf Nj
       omega
     have nL:IntKind.wrap .i64 (((k:Nat):Int)+1)=((k+1:Nat):Int):=by rw[b3 (by omega) (by omega)];omega
     have aaf:own[k]∈gS (lK no ba) al.length:=by rw[←g6];exact dP iz
     obtain ⟨d,O3,eg,_⟩:=(En _ _ _).1 aaf
     obtain ⟨A,an,H_,Ia⟩:=H9.src.at (i:=k) (v:=encZ own[k]) (by rw[vw,gY iz];rfl)
     have lF:(own.take (k+1)).filter (fun i=> !(f i.toNat))=(own.take k).filter (fun i=> !(f i.toNat))++(if f d then [] else [own[k]]):=by
       rw[kS iz,List.filter_append,List.filter_cons,List.filter_nil]
       rw[O3,er]
       cases f d<;>rfl
     have aag:=List.length_filter_le (fun i:Int=> !(f i.toNat)) (own.take k)
     rw[iv] at aag
     refine ya (fun gi=>∃bM:b8,bM={a with fv:=(((own.take (k+1)).filter fun i=> !(f i.toNat)).length:Nat)}∧eR gi aP bM bh m gs al seen ba∧aY 1 ad.int gi ml (own.map encZ)∧jl gi b al.length f f s1 s2∧aq (fun q=>q=aP) cj gi) (fun q ae=>⟨A,an,H_,own[k],Ia,(YP Er own[k]).use ?_⟩) ?_
     · rintro _ _ ⟨rfl,rfl⟩
       have HN:(decide (0≤own[k])&&decide (own[k]<((al.length:Nat):Int))&&f (own[k]).toNat)=f d:=by
         rw[O3,er,gu (by omega),gu (by omega)];rfl
       rw[HN]
       refine ⟨f d,rfl,fun aD=> ?_,fun aD=> ?_⟩
       · have wD:f d=false:=by simpa using aD
         rw[wD] at lF
         obtain ⟨_,_,_,_,_,qZ,_⟩:=nN.cell
         have aah:IntKind.wrap .i64 (a'.fv+1)=(((own.take (k+1)).filter fun i=> !(f i.toNat)).length:Nat):=by
           rw[lF,kf]
           show IntKind.wrap .i64 ((((own.take k).filter fun i=> !(f i.toNat)).length:Nat)+1)=_
           rw[b3 (by omega) (by omega)]
           simp
         obtain ⟨e9,e_,dZ,fL⟩:=nN.put (j:=8) (a':={a' with fv:=IntKind.wrap .i64 (a'.fv+1)}) (v:= .int .i64 (IntKind.wrap .i64 (a'.fv+1))) (by decide) rfl
         refine ⟨_,rfl,a'.fv,qZ,_,rfl,e9,e_,bj (ae _ ⟨_,?_,dZ,H9.aB fL aac,Er.aB fL aad,eh Es fL fun q _ e=>e⟩)⟩
         rw[aah,kf]
       · have wD:f d=true:=by simpa using aD
         rw[wD] at lF
         refine ae _ ⟨a',?_,nN,H9,Er,Es⟩
         rw[kf,lF]
         simp
     · rintro gi ⟨bM,aZ,a7,bm,ca,c6⟩
       rw[nL]
       exact ⟨⟨k+1,bM,rfl,by omega,aZ,a7,bm,ca,c6⟩,by show ((own.length:Int)-((k+1:Nat):Int)).toNat<((own.length:Int)-((k:Nat):Int)).toNat;omega⟩
   · have Et:k=own.length:=by
       have:¬((k:Nat):Int)<((ml.len:Nat):Int):=cm aae
       omega
     rw[Et,lp] at kf
     have Ib:=c_ fU
     have O4:=nN.kH Ib fun _ _ h=>h
     obtain ⟨_,_,_,_,_,qZ,_⟩:=O4.cell
     refine bj ⟨fun _=>False,_,rfl,id,a'.fv,qZ,(YX (Er.ext Ib)).use ?_⟩
     rintro _ fK ⟨mm,rfl,aai,nO,_⟩
     have aaj:=O4.kH nO fun _ _ h=>h
     have HC:mm.len=(gS f al.length).length:=by
       have:=aai.1
       unfold wq at this
       rw[ep] at this;omega
     have aiM:=Ee f al.length
     have aiN:=List.length_filter_le (fun i:Int=> !(f i.toNat)) own
     have a8:IntKind.wrap .i64 (((mm.len:Nat):Int)-(IntKind.wrap .i64 (((ml.len:Nat):Int)-a'.fv)))=(((gS f al.length).length:Nat):Int)-(((own.length:Nat):Int)-((own.filter fun i=> !(f i.toNat)).length:Nat)):=by
       have aN:a'.fv=((own.filter fun i=> !(f i.toNat)).length:Nat):=by rw[kf]
       rw[aN,HC,aab,b3 (n:=((own.length:Nat):Int)-_) (by omega) (by omega),b3 (by omega) (by omega)]
     obtain ⟨e9,e_,dZ,fL⟩:=aaj.put (j:=7) (a':={a' with lost:=(((gS f al.length).length:Nat):Int)-(((own.length:Nat):Int)-((own.filter fun i=> !(f i.toNat)).length:Nat))}) (v:= .int .i64 ((((gS f al.length).length:Nat):Int)-(((own.length:Nat):Int)-((own.filter fun i=> !(f i.toNat)).length:Nat)))) (by decide) rfl
     refine ⟨mm,rfl,nO,_,rfl,e9,e_,?_⟩
     rw[a8]
     refine bj ⟨rfl,?_,?_⟩
     · rw[kf] at dZ
       exact dZ
     · refine eh (wC.mono fun _ _ h=>h.elim) (eh Es (eh ((Ext.trans Ib nO).mono fun _ _ h=>h.elim) fL fun q _ e=>e) fun q _ e=>e) fun q _ e=>e
end
end
section
def oJ (level:Int):Nat:=if level==1 then 1 else 2
inductive kI (al:List c2) (no level:Int) (a:b8) (seen ba:List Nat):b8→List Nat→List Nat→List Nat→Prop
 |wE:(∀k:Nat,no=(k:Int)→k<al.length→k∈seen)→kI al no level a seen ba {a with bad:=inc a.bad} seen ba []
 |bad (k:Nat):no=(k:Int)→k<al.length→k∉seen→(∀p n,dC no (al.getD k [])= .ok p→iN (level==1) p.body n→p.kind≠oJ level)→kI al no level a seen ba {a with bad:=inc a.bad} (k::seen) ba []
 |ok (k:Nat) (p:lz) (n:cr):no=(k:Int)→k<al.length→k∉seen→dC no (al.getD k [])= .ok p→iN (level==1) p.body n→p.kind=oJ level→
     kI al no level a seen ba {a with gh:=inc a.gh,keys:=if level==1 then IntKind.wrap .i64 (a.keys+(n.keys.length:Nat)) else a.keys} (k::seen) (ba++ [k]) n.kids
section
variable {w J:World} {aP m:Nat} {a:b8} {bh gs:ah} {al:List c2} {seen ba:List Nat}
theorem O5 {k g:Int} {s:ah} {K:World→Prop} (aT:∀bw,Var bw w.heap.size [.int .i64 k, .int .u64 g, .slice s.a s.len s.cap] ad.jD→Ext w bw→K bw):ay (w.alloc (.cells #[.int .i64 0, .int .u64 0, .slice none 0 0] ad.jD)) fun cJ=>
      bW cJ ⟨w.heap.size,0,none⟩ [.int .i64 k, .int .u64 g, .slice s.a s.len s.cap]∧(3:Nat)=3∧ay (setCells cJ ⟨w.heap.size,0,none⟩ 0 [.int .i64 k, .int .u64 g, .slice s.a s.len s.cap]) K:=by
  refine cT (vs:=[.int .i64 0, .int .u64 0, .slice none 0 0]) rfl fun cJ oI l8 H5=>⟨oI.gZ rfl (fun v ao=> ?_),rfl,jw oI (us:=[.int .i64 k, .int .u64 g, .slice s.a s.len s.cap]) rfl rfl fun bw ra re OV=>aT bw ra (Ext.c8 l8 re (b6 _))⟩
  simp only[fc,jc,jd] at ao
  rcases ao with rfl|rfl|rfl<;>trivial
theorem Ic {b:Bool} {k v d:ah} {K:World→Prop} (aT:∀bw,Var bw w.heap.size [.bool b, .slice k.a k.len k.cap, .slice v.a v.len v.cap, .slice d.a d.len d.cap] ad.ia→Ext w bw→K bw):ay (w.alloc (.cells #[.bool false, .slice none 0 0, .slice none 0 0, .slice none 0 0] ad.ia)) fun cJ=>
      bW cJ ⟨w.heap.size,0,none⟩ [.bool b, .slice k.a k.len k.cap, .slice v.a v.len v.cap, .slice d.a d.len d.cap]∧(4:Nat)=4∧ay (setCells cJ ⟨w.heap.size,0,none⟩ 0 [.bool b, .slice k.a k.len k.cap, .slice v.a v.len v.cap, .slice d.a d.len d.cap]) K:=by
  refine cT (vs:=[.bool false, .slice none 0 0, .slice none 0 0, .slice none 0 0]) rfl fun cJ oI l8 H5=>⟨oI.gZ rfl (fun v ao=> ?_),rfl,jw oI (us:=[.bool b, .slice k.a k.len k.cap, .slice v.a v.len v.cap, .slice d.a d.len d.cap]) rfl rfl fun bw ra re OV=>aT bw ra (Ext.c8 l8 re (b6 _))⟩
  simp only[fc,jc,jd] at ao
  rcases ao with rfl|rfl|rfl|rfl<;>trivial
structure Ie (w:World) (aP:Nat) (a:b8) (bh:ah) (m:Nat) (gs:ah) (al:List c2) (seen ba:List Nat) (no level:Int) (J:World) (s:ah) (a':b8) (lM:ah) (kg kh kids:List Nat):Prop where
 r:kI al no level a seen ba a' kg kh kids
 at_:eR J aP a' bh m lM al kg kh
 kids:dX (fun q=>w.heap.size≤q∧¬aH lM q) J s kids
 aB:aq (fun q=>q=aP∨q=m∨aH gs q) w J
 own:∀q,aH lM q→aH gs q∨w.heap.size≤q
theorem aak (h:eR w aP a bh m gs al seen ba) (no level:Int):
   aM Tryz.prog F.uJ #[.pointer (some ⟨aP,0,none⟩), .int .i64 no, .int .i64 level] w (fun v J=>∃s a' lM kg kh kids,v= .slice s.a s.len s.cap∧Ie w aP a bh m gs al seen ba no level J s a' lM kg kh kids):=by
 have mP:=h.n
 have aR:=h.lt
 have cM:bh.len=al.length:=cq.len h.s
 obtain ⟨gM,yk,_⟩:=h.cell
 have uH:∀ {cO:World} {Eu:List Nat},eR cO aP a bh m gs al Eu ba→aq (fun q=>q=aP∨q=m∨aH gs q) w cO→kI al no level a seen ba {a with bad:=inc a.bad} Eu ba []→∃a26:Addr,(some ⟨aP,0,none⟩:Option Addr)=some a26∧∃n27:Int,cO.cell? (a26.add 9)=some (.int .i64 n27)∧
     ∃a28:Addr,(some ⟨aP,0,none⟩:Option Addr)=some a28∧(∃u:Value,cO.cell? (a28.add 9)=some u)∧cO.frozen? (a28.add 9)=false∧ay (cO.setCell (a28.add 9) (.int .i64 (IntKind.wrap .i64 (n27+1)))) fun cz=>
     (∃s a' lM kg kh kids,Value.slice none 0 0= .slice s.a s.len s.cap∧Ie w aP a bh m gs al seen ba no level cz s a' lM kg kh kids):=by
   intro cO Eu AY wF aJ
   obtain ⟨_,_,_,_,_,_,lH⟩:=AY.cell
   obtain ⟨e9,e_,dZ,fL⟩:=AY.put (j:=9) (a':={a with bad:=inc a.bad}) (v:= .int .i64 (inc a.bad)) (by decide) rfl
   exact ⟨_,rfl,a.bad,lH,_,rfl,e9,e_,bj ⟨⟨none,0,0⟩,_,gs,Eu,ba,[],rfl,aJ,dZ,dX.none _ _,eh wF fL fun q _ e=> .inl e,fun q ae=> .inl ae⟩⟩
 refine W.aal _ no level w _ ?_
 (delta W.uJ au aG az st av aQ lH z4 ab H4 z5;dsimp only)
 refine dU (fun b J=>b= !(decide (0≤no)&&decide (no<(al.length:Nat)))∧w=J) (fun q ae=>⟨fun aL=>ae _ _ ⟨?_,rfl⟩,fun aL=>⟨_,rfl,bh,gM,ae _ _ ⟨?_,rfl⟩⟩⟩) ?_
 · have:=cf aL
   rw[sd (show¬0≤no by omega)];rfl
 · have:=cm aL
   rw[gu (show 0≤no by omega),mI,cM,fx,cR,lq,fY];omega
 rintro _ _ ⟨rfl,rfl⟩
 refine dU (fun b J=>b=(!(decide (0≤no)&&decide (no<(al.length:Nat)))||decide (no.toNat∈seen))∧w=J) (fun q ae=>⟨fun aL=>ae _ _ ⟨by rw[aL];rfl,rfl⟩,fun aL=>⟨_,rfl,some m,yk,decide (no.toNat∈seen),w,?_,ae _ _ ⟨by rw[aL];rfl,rfl⟩⟩⟩) ?_
 · have kX:decide (0≤no)=true∧decide (no<(al.length:Nat))=true:=by
     revert aL
     cases decide (0≤no)<;>cases decide (no<(al.length:Nat))<;>simp
   have bP:=cf kX.1
   have e:no=((no.toNat:Nat):Int):=by omega
   have:=h.ZX no.toNat
   rw[←e] at this
   exact this
 rintro _ _ ⟨rfl,rfl⟩
 refine ⟨fun aj=>uH h (.refl _ _) (.wE fun k aa aC=> ?_),fun aj=> ?_⟩
 · subst aa
   rw[er,gu (by omega),gu (by omega),Bool.and_self,Bool.not_true,qt] at aj
   exact cf aj
 obtain ⟨k,rfl,aa,jm⟩:∃k:Nat,no=(k:Int)∧k<al.length∧k∉seen:=by
   rw[jX,vz,fy,cR,cR,fY] at aj
   exact ⟨no.toNat,by omega,by omega,aj.2⟩
 obtain ⟨di,Og,A1,wG⟩:=h.H2 aa jm
 have Ig:aq (fun q=>q=aP∨q=m∨aH gs q) w di:=wG.mono fun q _ e=> .inr (.inl e)
 refine ⟨_,rfl,some m,yk,di,Og,dU (fun n J=>n=((oJ level:Nat):Int)∧di=J) (fun q ae=>⟨fun aC=>ae _ _ ⟨by unfold oJ;rw[aC];rfl,rfl⟩,fun aC=>ae _ _ ⟨by unfold oJ;rw[aC];rfl,rfl⟩⟩) ?_⟩
 rintro _ _ ⟨rfl,rfl⟩
 obtain ⟨A,t,an,H_,Ia,kJ,_⟩:=cq.at A1.s aa
 have l7:(al[k]).length=256:=h.len _ (dP aa)
 have oH:al.getD k []=al[k]:=dw aa
 refine ⟨_,rfl,bh,A1.cell.1,A,an,H_,t,Ia,(mM kJ.1 kJ.2.1 (by omega) ((k:Nat):Int)).use ?_⟩
 rintro v27 c0 ⟨gm,nJ⟩
 have Ih:(∀p n,dC ((k:Nat):Int) (al.getD k [])= .ok p→iN (level==1) p.body n→p.kind≠oJ level)→kI al ((k:Nat):Int) level a seen ba {a with bad:=inc a.bad} (k::seen) ba []:= .bad k rfl aa jm
 cases aU:dC ((k:Nat):Int) al[k] with
 |error e=>
   rw[aU] at gm
   have b_:=yg aU
   obtain rfl:v27=_:=gm
   refine ⟨0,0,⟨none,0,0⟩,e,rfl,O5 fun ck Ev k8=>⟨⟨none,0,0⟩,by rw[a_];exact Ev.cell,(px (s:=⟨none,0,0⟩) (l:=[]) (aY.none 1 ad.uint8 ck).src (b6 _) (fun q ae=>(l5 q ae).elim) (by decide) (level==1)).use ?_⟩⟩
   rintro v36 dS ⟨ib,lN⟩
   have ao:∃ (b:Bool) (K V D:ah) (mW:Int),v36= .tuple #[.agg #[.bool b, .slice K.a K.len K.cap, .slice V.a V.len V.cap, .slice D.a D.len D.cap], .int .i64 mW]:=by
     rcases ib with ⟨n,K,V,D,ao,_⟩|⟨ao,_⟩
     · exact ⟨_,K,V,D,_,ao⟩
     · exact ⟨_,_,_,_,_,ao⟩
   obtain ⟨b,K,V,D,mW,rfl⟩:=ao
   refine ⟨b,K,V,D,mW,rfl,Ic fun gr Ew nP=>dU (fun b J=>b=true∧gr=J) (fun q ae=>⟨fun _=>ae _ _ ⟨rfl,rfl⟩,fun aL=> ?_⟩) ?_⟩
   · have:(e !=0)=true:=by simpa using b_
     rw[this] at aL;cases aL
   rintro _ _ ⟨rfl,rfl⟩
   have e5:=Ext.trans (Ext.trans nJ k8) (Ext.trans lN nP)
   exact ⟨fun _=>uH (A1.kH e5 fun _ _ h=>h) (Ig.trans (e5.mono fun _ _ h=>h.elim)) (Ih fun p n U _=>by rw[oH,aU] at U;cases U),fun h=>(by cases h)⟩
 |ok p=>
   rw[aU] at gm
   obtain ⟨dp,rfl,lI,Hz⟩:=gm
   have rf:=Eo aU
   refine ⟨_,_,dp,0,rfl,O5 fun ck Ev k8=>⟨dp,by rw[a_];exact Ev.cell,(px (lI.src.ext k8) lI.2.1 (fun q ae=>qs (lI.lt q ae) k8.size) (by omega) (level==1)).use ?_⟩⟩
   rintro v36 dS ⟨⟨n,K,V,D,rfl,aam,aan⟩|⟨rfl,fH⟩,lN⟩
   rotate_left
   · refine ⟨_,_,_,_,4,rfl,Ic fun gr Ew nP=>dU (fun b J=>b=true∧gr=J) (fun q ae=>⟨fun _=>ae _ _ ⟨rfl,rfl⟩,fun aL=>(by cases aL)⟩) ?_⟩
     rintro _ _ ⟨rfl,rfl⟩
     have e5:=Ext.trans (Ext.trans nJ k8) (Ext.trans lN nP)
     exact ⟨fun _=>uH (A1.kH e5 fun _ _ h=>h) (Ig.trans (e5.mono fun _ _ h=>h.elim)) (Ih fun Ii n U ag=>by rw[oH,aU] at U;cases U;exact absurd ag (fH n)),fun h=>(by cases h)⟩
   refine ⟨n.leaf,K,V,D,0,rfl,Ic fun gr Ew nP=> ?_⟩
   have e5:=Ext.trans (Ext.trans nJ k8) (Ext.trans lN nP)
   have aao:=(Ev.ext lN).ext nP
   have Ij:=A1.kH e5 fun _ _ h=>h
   have Ik:aq (fun q=>q=aP∨q=m∨aH gs q) w gr:=Ig.trans (e5.mono fun _ _ h=>h.elim)
   refine dU (fun b J=>b=decide (p.kind≠oJ level)∧gr=J) (fun q ae=>⟨fun aL=>(by cases aL),fun _=>⟨_,aao.cell,ae _ _ ⟨?_,rfl⟩⟩⟩) ?_
   · rw[fx,bne_iff_ne,cR];omega
   rintro _ _ ⟨rfl,rfl⟩
   refine ⟨fun cA=>uH Ij Ik (Ih fun Ii eW U ag=>by rw[oH,aU] at U;cases U;exact cf cA),fun cA=> ?_⟩
   have aap:p.kind=oJ level:=xO fun fI=>by rw[gu fI] at cA;cases cA
   have aaq:k∉ba:=fun fI=>jm (h.kG.2.1 k fI)
   obtain ⟨g',fk,az,b1,aG,Il,Ex,g6⟩:=Ij.ZY (k:=k) (List.mem_cons_self ..) aaq
   refine ⟨_,rfl,gs,Ij.cell.2.2.1,bj ⟨g',fk,az,_,rfl,b1,aG,bj ?_⟩⟩
   generalize fk.setCell (Addr.add ⟨aP,0,none⟩ 12) (.slice g'.a g'.len g'.cap)=iF at Il Ex
   obtain ⟨_,_,_,lD,_⟩:=Il.cell
   obtain ⟨e9,e_,Im,Ey⟩:=Il.put (j:=5) (a':={a with gh:=inc a.gh}) (v:= .int .i64 (inc a.gh)) (by decide) rfl
   refine ⟨_,rfl,a.gh,lD,_,rfl,e9,e_,bj ?_⟩
   show br _ _
   have aar:iF.setCell (Addr.add ⟨aP,0,none⟩ 5) (.int .i64 (IntKind.wrap .i64 (a.gh+1)))=iF.setCell (Addr.add ⟨aP,0,none⟩ 5) (.int .i64 (inc a.gh)):=rfl
   rw[aar]
   generalize iF.setCell (Addr.add ⟨aP,0,none⟩ 5) (.int .i64 (inc a.gh))=g7 at Im Ey
   have Ez:w.heap.size≤dS.heap.size:=by have:=wG.size;have:=nJ.size;have:=k8.size;have:=lN.size;omega
   have aiO:=Ew.lt
   have fh:∀q,w.heap.size≤q→q≠aP∧¬aH gs q:=fun q ae=>⟨fun e=>by have:=aR.1;omega,fun aS=>by have:=aR.2.2 q aS;omega⟩
   have aas:=Ew.aB Ex fun e=>by
     rcases e with e|e
     · exact (fh _ Ez).1 e
     · exact (fh _ Ez).2 e
   have O6:=aas.aB Ey fun e=>(fh _ Ez).1 e
   have aat:∀q,ck.heap.size≤q→w.heap.size≤q:=fun q ae=>by have:=wG.size;have:=nJ.size;have:=k8.size;omega
   have O7:=h_.ext aan nP
   have aau:dX (fun q=>q<gr.heap.size∧w.heap.size≤q) gr D n.kids:=dX.cS O7.kids fun q ae aj=>⟨ae,aat q aj⟩
   have aav:=dX.aB (dX.aB aau Ex fun q ae e=>by
     rcases e with e|e
     · exact (fh q ae.2).1 e
     · exact (fh q ae.2).2 e) Ey fun q ae e=>(fh q ae.2).1 e
   have O8:∀q,aH g' q→aH gs q∨gr.heap.size≤q:=g6
   have h7:K.len=n.keys.length:=cq.len O7.keys
   have aiP:w.heap.size≤gr.heap.size:=Ik.size
   have fin:∀ {gT:World} {a':b8},eR gT aP a' bh m g' al (k::seen) (ba++ [k])→aq (fun q=>q=aP) g7 gT→a'={a with gh:=inc a.gh,keys:=if level==1 then IntKind.wrap .i64 (a.keys+(n.keys.length:Nat)) else a.keys}→
       ∃rk:ah,gT.cell? (Addr.add ⟨dS.heap.size,0,none⟩ 3)=some (.slice rk.a rk.len rk.cap)∧∃s a' lM kg kh kids,Value.slice rk.a rk.len rk.cap= .slice s.a s.len s.cap∧Ie w aP a bh m gs al seen ba ((k:Nat):Int) level gT s a' lM kg kh kids:=by
     intro gT a' Io A2 aI
     have aaw:=O6.aB A2 fun e=>(fh _ Ez).1 e
     have aax:=dX.aB aav A2 fun q ae e=>(fh q ae.2).1 e
     refine ⟨D,(j4 aaw).2.2.2,D,a',g',k::seen,ba++ [k],n.kids,rfl,?_,Io,dX.cS aax fun q _ aj=>⟨aj.2,fun aS=> ?_⟩,?_,fun q ae=>(O8 q ae).imp id fun h=>by omega⟩
     · rw[aI]
       exact .ok k p n rfl aa jm (by rw[oH];exact aU) aam aap
     · rcases O8 q aS with U|U
       · exact (fh q aj.2).2 U
       · have:=aj.1;omega
     · exact ((Ik.trans (Ex.mono fun q _ e=>e.elim .inl fun e=> .inr (.inr e))).trans (Ey.mono fun q _ e=> .inl e)).trans (A2.mono fun q _ e=> .inl e)
   refine ya (fun gT=>∃a':b8,eR gT aP a' bh m g' al (k::seen) (ba++ [k])∧aq (fun q=>q=aP) g7 gT∧a'={a with gh:=inc a.gh,keys:=if level==1 then IntKind.wrap .i64 (a.keys+(n.keys.length:Nat)) else a.keys}) (fun q ae=>⟨fun aC=> ?_,fun aC=>ae _ ⟨_,Im, .refl _ _,by rw[aC];rfl⟩⟩) ?_
   · have bN:=c_ g7
     have O9:=Im.kH bN fun _ _ h=>h
     obtain ⟨_,_,_,_,kB,_⟩:=O9.cell
     obtain ⟨e9,e_,aay,aaz⟩:=O9.put (j:=6) (a':={a with gh:=inc a.gh,keys:=IntKind.wrap .i64 (a.keys+(n.keys.length:Nat))}) (v:= .int .i64 (IntKind.wrap .i64 (a.keys+(n.keys.length:Nat)))) (by decide) rfl
     refine bj ⟨_,rfl,id,a.keys,kB,id,K,(j4 (O6.ext bN)).2.1,_,rfl,e9,e_,?_⟩
     rw[h7]
     exact bj (ae _ ⟨_,aay,eh (bN.mono fun _ _ h=>h.elim) aaz fun q _ e=>e,by rw[aC];rfl⟩)
   · rintro gT ⟨a',Io,A2,aI⟩
     exact fin Io A2 aI
end
end
section
def gH (sz:Nat) (T:TypeId) (w:World) (s:ah) (vs:List Value):Prop:=
 vs.length=s.len*sz∧s.len≤s.cap∧s.cap≤maxLen∧((s.a=none∧s.cap=0)∨∃b o c,s.a=some ⟨b,o,none⟩∧bQ w b c T∧o+s.cap*sz≤c.size∧(c.toList.drop o).take (s.len*sz)=vs)
section
variable {sz:Nat} {T:TypeId} {w J:World} {s:ah} {vs xs:List Value}
theorem aY.O_ (h:aY sz T w s vs):gH sz T w s vs:=by
 obtain ⟨U,ag,aA,aK⟩:=h
 refine ⟨U,ag,aA,aK.imp id ?_⟩
 rintro ⟨b,c,aj,ff,ak,ao⟩
 exact ⟨b,0,c,aj,ff,by omega,by rw[tF];exact ao⟩
theorem gH.src (h:gH sz T w s vs):Src sz w s vs:=by
 obtain ⟨U,ag,aA,aK⟩:=h
 rcases aK with ⟨aI,ak⟩|⟨b,o,c,aj,ff,ak,ao⟩
 · have:s.len=0:=by omega
   rw[this,xU] at U
   exact ⟨by rw[U,this,xU],fun _=>List.eq_nil_of_length_eq_zero U,fun a h=>by rw[aI] at h;cases h⟩
 · have hle:o+s.len*sz≤c.size:=by
     have:=xR sz ag
     omega
   have bH:=bQ.NV (sz:=sz) (o:=o) (n:=s.len) (cap:=s.cap) ff hle
   rw[ao,←aj] at bH
   exact bH
theorem gH.aB {W:Nat→Prop} (h:gH sz T w s vs) (ak:aq W w J) (aD:∀k,aH s k→¬W k):gH sz T J s vs:=by
 obtain ⟨U,ag,aA,aK⟩:=h
 refine ⟨U,ag,aA,?_⟩
 rcases aK with aK|⟨b,o,c,aj,eu,eN,ao⟩
 · exact .inl aK
 · exact .inr ⟨b,o,c,aj,eu.aB ak (aD b ⟨_,aj,rfl⟩),eN,ao⟩
theorem gH.ext (h:gH sz T w s vs) (ak:Ext w J):gH sz T J s vs:=gH.aB h ak fun _ _ h=>h
theorem gH.lt (h:gH sz T w s vs):∀k,aH s k→k<w.heap.size:=by
 rintro k ⟨A,an,rfl⟩
 obtain ⟨_,_,_,aK⟩:=h
 rcases aK with ⟨aD,_⟩|⟨b,o,c,aj,eu,_⟩
 · rw[aD] at an;cases an
 · rw[aj] at an;cases an;exact eu.lt
theorem gH.tail (h:gH sz T w s vs) (U:1≤s.len):gH sz T w ⟨cN s.a sz 1 s.cap,s.len-1,s.cap-1⟩ (vs.drop sz)∧∀q,aH ⟨cN s.a sz 1 s.cap,s.len-1,s.cap-1⟩ q→aH s q:=by
 obtain ⟨aZ,a7,bm,ca⟩:=h
 rcases ca with ⟨aI,ak⟩|⟨b,o,c,aj,ff,ak,ao⟩
 · omega
 have aN:s.len*sz=sz+(s.len-1)*sz:=by
   obtain ⟨n,aD⟩:∃n,s.len=n+1:=⟨s.len-1,by omega⟩
   rw[aD,Nat.add_sub_cancel,lr,vB,Nat.add_comm]
 have a6:s.cap*sz=sz+(s.cap-1)*sz:=by
   obtain ⟨n,aD⟩:∃n,s.cap=n+1:=⟨s.cap-1,by omega⟩
   rw[aD,Nat.add_sub_cancel,lr,vB,Nat.add_comm]
 have aC:(vs.drop sz).length=(s.len-1)*sz:=by rw[mH,aZ];omega
 by_cases AK:1=s.cap
 · have mb:cN s.a sz 1 s.cap=s.a:=by unfold cN;rw[if_pos AK.symm]
   rw[mb]
   refine ⟨⟨aC,by show s.len-1≤s.cap-1;omega,by show s.cap-1≤_;omega, .inr ⟨b,o,c,aj,ff,by show o+(s.cap-1)*sz≤_;omega,?_⟩⟩,fun q ae=>ae⟩
   have dk:s.len-1=0:=by omega
   show (c.toList.drop o).take ((s.len-1)*sz)=_
   rw[dk,xU,List.take_zero]
   rw[dk,xU] at aC
   exact (List.eq_nil_of_length_eq_zero aC).symm
 · have mb:cN s.a sz 1 s.cap=some ⟨b,o+sz,none⟩:=by rw[aj,Dn (fun e=>AK e.symm),vB]
   rw[mb]
   refine ⟨⟨aC,by show s.len-1≤s.cap-1;omega,by show s.cap-1≤_;omega, .inr ⟨b,o+sz,c,rfl,ff,by show o+sz+(s.cap-1)*sz≤_;omega,?_⟩⟩,fun q ae=> ?_⟩
   · show (c.toList.drop (o+sz)).take ((s.len-1)*sz)=_
     rw[←ao,aN,List.drop_take,vx]
     congr 1
     omega
   · obtain ⟨A,an,rfl⟩:=ae
     cases an
     exact ⟨_,aj,rfl⟩
theorem jx.aaA {P:Program} {eU e dx:TypeId} {bytes:Nat} (h:jx P eU e sz bytes) (ai:xs.length=sz) (g6:gH sz e w s vs) (aU:∀v∈xs,Plain v) (pN:(2*(s.len+1)+1000)*bytes≤281474976710656):
   ∃ (ax:ah) (J:World),Sem.run P (Builtin.append_ #[eU,eU] dx #[.slice s.a s.len s.cap, .slice (some ⟨w.heap.size,0,none⟩) 1 1]) (w.alloc (.cells xs.toArray e))= .ok (.slice ax.a ax.len ax.cap) J∧
     gH sz e J ax (vs++xs)∧ax.len=s.len+1∧aq (aH s) w J∧(∀k,aH ax k→aH s k∨w.heap.size≤k):=by
 have j0:Ext w (w.alloc (.cells xs.toArray e)):=aq.alloc (.refl _ _) _
 obtain ⟨U,i,z,ag,aA,aK,bH,cg,rfl,gP⟩:=h.out
 have gQ:=Src.new (T:=e) w xs 1 (by simpa using ai)
 have aS:=gH.ext g6 j0
 have hold:=gH.src aS
 have cc:=j0.size
 obtain ⟨aZ,a7,bm,ca⟩:=aS
 by_cases nQ:s.len+1≤s.cap
 · rcases ca with ⟨aD,ak⟩|⟨b,o,c,rl,eu,eN,ao⟩
   · omega
   have aN:(s.len+1)*sz=s.len*sz+sz:=by rw[lr,vB]
   have hle:o+s.len*sz+xs.length≤c.size:=by
     have:=xR sz nQ
     omega
   obtain ⟨d,aE⟩:=pO _ aA
   have jC:=Ip (jJ:= #[eU,eU]) (dx:=dx) rfl rfl U U aE cg gQ nQ (fun a aI=>by
     rw[rl] at aI;cases aI
     rw[a_]
     exact eu.gZ _ _ hle aU)
   simp only[rl,a_] at jC
   rw[←rl] at jC
   refine ⟨⟨s.a,s.len+1,s.cap⟩,_,jC,⟨by rw[c9,aZ,ai,aN],nQ,bm, .inr ⟨b,o,_,rl,bQ.vJ eu xs,by rw[xX];exact eN,?_⟩⟩,rfl,?_,fun k aa=> .inl aa⟩
   · rw[Ah _ _ _ hle,aN]
     have t1:(c.toList.take (o+s.len*sz)++xs++c.toList.drop (o+s.len*sz+xs.length)).drop o=vs++xs++c.toList.drop (o+s.len*sz+xs.length):=by
       rw[gC,List.drop_append_of_le_length (by simp;omega),List.drop_take,Nat.add_sub_cancel_left,ao,gC]
     rw[t1,List.take_append_of_le_length (by rw[c9,aZ,ai];omega),jV (by rw[c9,aZ,ai];omega)]
   · exact ((aq.hU j0).trans (aq.mono (W:=fun q=>q=b) (aq.Ab (.refl _ _) _ 0) fun q _ e=>⟨_,rl,e.symm⟩))
 · obtain ⟨ki,rest,mP,g1,aJ,jC⟩:=bD.run_append_grow (jJ:= #[eU,eU]) (dx:=dx) rfl rfl U U ag aA aK bH cg gP gQ hold (by show s.cap<s.len+1;omega) pN
   have aN:(s.len+1)*sz=s.len*sz+sz:=by rw[lr,vB]
   refine ⟨⟨some ⟨(w.alloc (.cells xs.toArray e)).heap.size,0,none⟩,s.len+1,ki⟩,_,jC,aY.O_ ?_,rfl,aq.alloc (aq.drew (aq.hU j0)) _,?_⟩
   · refine ⟨by rw[c9,aZ,ai,aN],mP,g1, .inr ⟨(w.alloc (.cells xs.toArray e)).heap.size,(vs++xs++rest).toArray,rfl,bQ.new (w.alloc (.cells xs.toArray e)).drew _ _,?_,?_⟩⟩
     · have aJ:rest.length=(ki-(s.len+1))*sz:=aJ
       have mP:s.len+1≤ki:=mP
       rw[CY,c9,c9,aZ,ai,aJ,←aN,←lr]
       congr 1
       show s.len+1+(ki-(s.len+1))=ki
       omega
     · have:(vs++xs).length=(s.len+1)*sz:=by rw[c9,aZ,ai,aN]
       show List.take ((s.len+1)*sz) (vs++xs++rest).toArray.toList=vs++xs
       rw[←this]
       exact List.take_left
   · rintro k ⟨A,an,aa⟩
     cases an
     right
     have aa:(w.alloc (.cells xs.toArray e)).heap.size=k:=aa
     omega
end
end
section
inductive kK (al:List c2):List (Int×Int)→b8→List Nat→List Nat→b8→List Nat→List Nat→Prop
 |done (a:b8) (seen ba:List Nat):kK al [] a seen ba a seen ba
 |step {no level:Int} {q:List (Int×Int)} {a bp bM:b8} {seen ba uK wH A3 A4 kids:List Nat}:kI al no level a seen ba bp uK wH kids→
     kK al (q++kids.map fun k=>(((k:Nat):Int),IntKind.wrap .i64 (level-1))) bp uK wH bM A3 A4→kK al ((no,level)::q) a seen ba bM A3 A4
theorem kI.uniq {al:List c2} {no level:Int} {a bp bM:b8} {seen ba s1 aZ dv s2 a7 dB:List Nat} (U:kI al no level a seen ba bp s1 aZ dv) (ag:kI al no level a seen ba bM s2 a7 dB):bp=bM∧s1=s2∧aZ=a7∧dv=dB:=by
 cases U with
 |wE aN=>cases ag with
   |wE=>exact ⟨rfl,rfl,rfl,rfl⟩
   |bad k aa aC aD=>exact absurd (aN k aa aC) aD
   |ok k p n aa aC aD=>exact absurd (aN k aa aC) aD
 |bad k aa aC aD aj=>cases ag with
   |wE aN=>exact absurd (aN k aa aC) aD
   |bad en hG=>
     have:k=en:=by omega
     subst this
     exact ⟨rfl,rfl,rfl,rfl⟩
   |ok en p n hG _ _ aU aE kj=>
     have:k=en:=by omega
     subst this
     exact absurd kj (aj p n aU aE)
 |ok k p n aa aC aD aU aE kj=>cases ag with
   |wE aN=>exact absurd (aN k aa aC) aD
   |bad en hG _ _ aj=>
     have:k=en:=by omega
     subst this
     exact absurd kj (aj p n aU aE)
   |ok en Ii eW hG _ _ uL aaB=>
     have:k=en:=by omega
     subst this
     rw[aU] at uL
     cases uL
     have:=aE.uniq aaB
     subst this
     exact ⟨rfl,rfl,rfl,rfl⟩
theorem kK.uniq {al:List c2}:∀ {q:List (Int×Int)} {a bp bM:b8} {seen ba s1 aZ s2 a7:List Nat},kK al q a seen ba bp s1 aZ→kK al q a seen ba bM s2 a7→bp=bM∧s1=s2∧aZ=a7:=by
 intro q a bp bM seen ba s1 aZ s2 a7 U
 induction U with
 |done=>intro ag;cases ag;exact ⟨rfl,rfl,rfl⟩
 |step aU _ cb=>
   intro ag
   cases ag with
   |step uL aaC=>
     obtain ⟨rfl,rfl,rfl,rfl⟩:=aU.uniq uL
     exact cb aaC
def pP (x:Int×Int):List Value:=[.int .i64 x.1, .int .i64 x.2]
theorem A5 (l:List (Int×Int)):∀x∈l,(pP x).length=2:=fun _ _=>rfl
def nR (m:Nat) (w:World):Nat:=match w.heap[m]? with
 |some (.map es _)=>es.size
 |_=>0
theorem dd.nR {α:Type} {w:World} {m:Nat} {enc:α→Value} {M:List (α×Value)} (h:dd w m enc M):nR m w=M.length:=by
 obtain ⟨L,cH,h,U,_⟩:=h
 unfold Go.Proofs.YtmhhgpogjpbglaaGreat.nR
 rw[h]
 have:=U.length_eq
 simpa using this
theorem Pa:∀ (l:List Key),l.length≤(l.map fun k=>3+k.length).sum
 | []=>b6 _
 |k::l=>by
   have:=Pa l
   rw[ln,List.sum_cons,jW];omega
theorem aaD {leaf:Bool} {b:List UInt8} {n:cr} (h:iN leaf b n):n.kids.length≤240:=by
 obtain ⟨U,_,ag,_⟩:=h
 rcases U with U|U
 · rw[U.kids];exact ei _
 · rw[U.len]
   have aA:=Pa n.keys
   unfold og cellsOf at ag
   rw[if_neg (by rw[U.inner];simp),if_neg (by rw[U.inner];simp)] at ag
   omega
theorem dd.aaE {w:World} {m:Nat} {seen:List Nat} (h:dd w m encZ (seen.map fun x=>(((x:Nat):Int),Value.bool true))):seen.Nodup:=by
 obtain ⟨L,cH,_,U,ag,_⟩:=h
 have aA:(L.map fun x=>x.1)=(L.map qW).map Prod.fst:=by rw[pe];rfl
 rw[aA] at ag
 have aK:=(U.map Prod.fst).nodup_iff.1 ag
 rw[pe] at aK
 exact (List.pairwise_map.1 aK).imp fun h e=>h (by rw[e])
theorem kI.len {al:List c2} {no level:Int} {a a':b8} {seen ba ax g' kids:List Nat} (h:kI al no level a seen ba a' ax g' kids) (aD:seen.Nodup) (aC:∀x∈seen,x<al.length):kids.length+300*(al.length-ax.length)≤300*(al.length-seen.length)∧kids.length≤240:=by
 have aR:∀k,k<al.length→k∉seen→seen.length<al.length:=fun k aa jm=>by
   have U:(k::seen).Nodup:=z6.2 ⟨jm,aD⟩
   have ag:=H0 U (b:=List.range al.length) fun x ai=>by
     rw[qp]
     rcases fc.1 ai with rfl|ai
     · exact aa
     · exact aC x ai
   rw[xT,jW] at ag
   omega
 cases h with
 |wE=>exact ⟨by rw[nq];omega,ei _⟩
 |bad k _ aa jm=>
   have:=aR k aa jm
   exact ⟨by rw[jW,nq];omega,ei _⟩
 |ok k p n _ aa jm aU aE=>
   have:=aR k aa jm
   have bH:=aaD aE
   exact ⟨by rw[jW];omega,bH⟩
theorem Pb {w:World} {s:ah} {x:Int×Int} {q:List (Int×Int)} (h:Src 2 w s (c1 pP (x::q))):∃a:Addr,s.a=some a∧((0:Int)≤0∧0<((s.len:Nat):Int))∧w.cell? (a.add (Int.toNat 0*2))=some (.int .i64 x.1)∧w.cell? ((a.add (Int.toNat 0*2)).add 1)=some (.int .i64 x.2)∧aH s a.block:=by
 have aC:=h.len
 rw[me _ (A5 _)] at aC
 have cM:s.len=(x::q).length:=by omega
 cases aI:s.a with
 |none=>
   have:=congrArg List.length (h.nil aI)
   rw[me _ (A5 _),nq,jW] at this;omega
 |some a=>
   have aJ:=h.rd a aI
   have aW:∀j v,(pP x)[j]? =some v→w.cell? (a.add (0*2+j))=some v:=fun j v ao=>by
     have bu:j<2:=(xM.1 ao).1
     have cg:=x0 aJ (j:=0*2+j) (v:=v) (by rw[Hh (A5 (x::q)) (i:=0) (by simp) bu];exact ao)
     rw[fX] at cg
     exact cg
   have fO:Int.toNat 0=0:=rfl
   rw[fO]
   rw[jW] at cM
   refine ⟨a,rfl,⟨by omega,by omega⟩,aW 0 _ rfl,?_,⟨a,aI,rfl⟩⟩
   rw[add_add]
   exact aW 1 _ rfl
theorem aaF:jx Tryz.prog ad.A6 ad.uM 2 16:=⟨by kernel_rfl⟩
def A7 (level:Int) (k:Nat):Int×Int:=(((k:Nat):Int),IntKind.wrap .i64 (level-1))
section
variable {w J:World} {aP m:Nat} {a:b8} {bh gs:ah} {al:List c2} {seen ba:List Nat}
theorem aaG (h:eR w aP a bh m gs al seen ba) (root bX:Int):
   aM Tryz.prog F.uN #[.pointer (some ⟨aP,0,none⟩), .int .i64 root, .int .i64 bX] w (fun v J=>v= .tuple #[]∧∃a' lM kg kh,kK al [(root,bX)] a seen ba a' kg kh∧eR J aP a' bh m lM al kg kh∧aq (fun q=>q=aP∨q=m∨aH gs q) w J):=by
 have aR:=h.lt
 refine W.aaH _ root bX w _ ?_
 (delta W.uN ab au aQ az cp av;dsimp only)
 obtain ⟨af,sI⟩:∃af,af=w.alloc (.cells #[.int .i64 root, .int .i64 bX] ad.uM):=⟨_,rfl⟩
 have bg:Ext w af:=by rw[sI];exact de _ _
 have qw:gH 2 ad.uM af ⟨some ⟨w.heap.size,0,none⟩,1,1⟩ (c1 pP [(root,bX)]):=by
   rw[sI]
   exact aY.O_ (aY.new w [.int .i64 root, .int .i64 bX] 1 rfl (by decide))
 rw[←sI]
 refine bj ⟨fun s J=>∃ (q:List (Int×Int)) (bp:b8) (wI:ah) (uK wH:List Nat),gH 2 ad.uM J s (c1 pP q)∧(∀k,aH s k→w.heap.size≤k∧¬aH wI k)∧eR J aP bp bh m wI al uK wH∧cq (fun k=>k<w.heap.size∧k≠aP∧k≠m∧¬aH wI k) J bh al∧(∀bM s2 a7,kK al q bp uK wH bM s2 a7→kK al [(root,bX)] a seen ba bM s2 a7)∧aq (fun q=>q=aP∨q=m∨aH gs q) w J∧(∀k,aH wI k→aH gs k∨w.heap.size≤k)∧q.length+300*(al.length-uK.length)≤1000000,
   fun s J=>s.len+300*(al.length-nR m J),⟨[(root,bX)],a,gs,seen,ba,qw,fun k aa=> ?_,h.kH bg fun _ _ h=>h,cq.ext (cq.cS h.s fun k aa aj=>⟨aa,aj⟩) bg,fun _ _ _ h=>h,bg.mono fun _ _ h=>h.elim,fun k aa=> .inl aa,?_⟩,?_⟩
 · obtain ⟨A,an,rfl⟩:=aa
   cases an
   exact ⟨b6 _,fun aS=>by have:=aR.2.2 _ aS;have:w.heap.size<w.heap.size:=this;omega⟩
 · have:=h.n
   simp only[jW,nq];omega
 rintro s aO ⟨q,bp,wI,uK,wH,aS,AB,nN,aaI,yy,ak,pQ,Dw⟩
 have cM:s.len=q.length:=by
   have:=aS.1
   rw[me _ (A5 _)] at this;omega
 refine ⟨fun vH=> ?_,fun bF=> ?_⟩
 · obtain ⟨x,pK,rfl⟩:∃x pK,q=x::pK:=by
     cases q with
     |nil=>
       have:=cf vH
       rw[nq] at cM
       omega
     |cons x pK=>exact ⟨x,pK,rfl⟩
   have bN:=c_ aO
   have oK:=gH.ext aS bN
   obtain ⟨A,an,aj,ft,bS,_⟩:=Pb (gH.src oK)
   refine bj ⟨fun _=>False,A,an,aj,id,x.1,ft,A,an,aj,id,x.2,bS,(aak (nN.kH bN fun _ _ h=>h) x.1 x.2).use ?_⟩
   rintro _ bw ⟨c3,bM,uO,A3,A4,kids,rfl,pR⟩
   have kj:=pR.kids
   have aaJ:=pR.at_
   have OQ:=pR.r.len (dd.aaE nN.mp) nN.kG.2.2
   have Xu:w.heap.size≤aO.drew.heap.size:=by have:=ak.size;have:=bN.size;omega
   have Pc:=pR.aB.size
   have Ep:∀k,aH s k→k<aO.drew.heap.size:=gH.lt oK
   have aaK:gH 2 ad.uM bw s (c1 pP (x::pK)):=gH.aB oK pR.aB fun k aa e=>by
     have U:=AB k aa
     rcases e with e|e|e
     · have:=aR.1;omega
     · have:=aR.2.1;omega
     · exact U.2 e
   have aaL:∀k,aH uO k→aH gs k∨w.heap.size≤k:=fun k aa=>by
     rcases pR.own k aa with U|U
     · exact pQ k U
     · exact .inr (by omega)
   have aaM:∀k,aH s k→w.heap.size≤k∧¬aH uO k:=fun k aa=>⟨(AB k aa).1,fun ag=>by
     rcases pR.own k ag with aA|aA
     · exact (AB k aa).2 aA
     · have:=Ep k aa;omega⟩
   have aaN:cq (fun k=>k<w.heap.size∧k≠aP∧k≠m∧¬aH uO k) bw bh al:=by
     refine cq.cS (cq.aB (cq.ext aaI bN) pR.aB fun k aa e=> ?_) fun k _ aa=>⟨aa.1,aa.2.1,aa.2.2.1,fun ag=> ?_⟩
     · rcases e with e|e|e
       · exact aa.2.1 e
       · exact aa.2.2.1 e
       · exact aa.2.2.2 e
     · rcases pR.own k ag with aA|aA
       · exact aa.2.2.2 aA
       · have:=aa.1;omega
   have re:aq (fun k=>k=aP∨k=m∨aH gs k) w bw:=eh ak (eh (bN.mono (V:=fun k=>k=aP∨k=m∨aH wI k) fun _ _ h=>h.elim) pR.aB fun k _ e=>e) fun k aa e=>by
     rcases e with e|e|e
     · exact .inl e
     · exact .inr (.inl e)
     · exact .inr (.inr ((pQ k e).resolve_right (by omega)))
   have h7:c3.len=kids.length:=dX.len kj
   have aaO:∀k,aH c3 k→aO.drew.heap.size≤k:=fun k aa=>(kj.2.2 k aa).1.1
   refine ⟨c3,rfl,fun cP n J=>∃j:Nat,n=(j:Int)∧j≤kids.length∧gH 2 ad.uM J cP (c1 pP (x::(pK++(kids.take j).map (A7 x.2))))∧(∀k,aH cP k→w.heap.size≤k∧¬aH uO k)∧eR J aP bM bh m uO al A3 A4∧cq (fun k=>k<w.heap.size∧k≠aP∧k≠m∧¬aH uO k) J bh al∧Src 1 J c3 (l_ kids)∧(∀k,aH c3 k→¬aH cP k∧k<J.heap.size)∧aq (fun k=>w.heap.size≤k) bw J,
     fun _ n _=>((kids.length:Int)-n).toNat,⟨0,rfl,ei _,by rw[List.take_zero,vy,r_];exact aaK,aaM,aaJ,aaN,kj.1,fun k aa=>⟨fun ag=>by have:=aaO k aa;have:=Ep k ag;omega,(kj.2.2 k aa).2⟩, .refl _ _⟩,?_⟩
   rintro cP _ di ⟨j,rfl,bu,A8,wJ,pS,Pd,Pe,EA,wG⟩
   have aiQ:cP.len=pK.length+1+j:=by
     have:=A8.1
     rw[me _ (A5 _),jW,c9,ep,iv] at this
     omega
   rw[jW] at Dw cM
   refine ⟨fun HI=> ?_,fun HJ=> ?_⟩
   · have kD:j<kids.length:=by
       have:((j:Nat):Int)<((c3.len:Nat):Int):=cf HI
       omega
     obtain ⟨aaP,aaQ,aaR,wj⟩:=Pe.at (i:=j) (v:= .int .i64 ((kids[j]:Nat):Int)) (by simp[l_,kD])
     obtain ⟨aaS,aaT,aaU,_,d1,_⟩:=Pb (gH.src A8)
     obtain ⟨ij,dm,az,b1,aG,bJ,ef⟩:=jx.aaA aaF (dx:=ad.A6) (w:=di) (xs:=pP (A7 x.2 kids[j])) rfl A8 (fun v ao=>by
       simp only[pP,fc,jc,jd] at ao
       rcases ao with rfl|rfl<;>trivial) (by omega)
     have nL:IntKind.wrap .i64 (((j:Nat):Int)+1)=((j+1:Nat):Int):=by rw[b3 (by omega) (by omega)];omega
     rw[nL]
     have Pf:∀k,aH cP k→k≠aP∧k≠m:=fun k aa=>⟨fun e=>by have:=(wJ k aa).1;have:=aR.1;omega,fun e=>by have:=(wJ k aa).1;have:=aR.2.1;omega⟩
     have Pg:cq (fun k=>k<w.heap.size∧k≠aP∧k≠m∧¬aH uO k) dm bh al:=cq.aB Pd bJ fun k aa e=>by have:=(wJ k e).1;have:=aa.1;omega
     refine ⟨aaP,aaQ,aaR,_,wj,aaS,aaT,aaU,x.2,d1,bj ⟨ij,dm,az,⟨j+1,rfl,by omega,?_,fun k aa=> ?_,⟨pS.v.aB bJ fun e=>(Pf aP e).1 rfl,cq.cS Pg fun k _ aa=>aa.2,pS.mp.aB bJ fun e=>(Pf m e).2 rfl,pS.g.aB bJ fun k aa e=>(wJ k e).2 aa,pS.ne,pS.len,pS.n,pS.wB,pS.kG⟩,Pg,Pe.aB bJ fun k aa e=>(EA k aa).1 e,fun k aa=>⟨fun ag=> ?_,by have:=(EA k aa).2;have:=bJ.size;omega⟩,wG.trans (bJ.mono fun k _ aa=>(wJ k aa).1)⟩,by show ((kids.length:Int)-((j+1:Nat):Int)).toNat<((kids.length:Int)-((j:Nat):Int)).toNat;omega⟩⟩
     · rw[kS kD,hT,←gC,←z8,DK]
       exact b1
     · rcases ef k aa with U|U
       · exact wJ k U
       · have:=wG.size
         exact ⟨by omega,fun ag=>by have:=pS.lt.2.2 k ag;omega⟩
     · rcases ef k ag with U|U
       · exact (EA k aa).1 U
       · have:=(EA k aa).2;omega
   · have uP:j=kids.length:=by
       have:¬((j:Nat):Int)<((c3.len:Nat):Int):=cm HJ
       omega
     subst uP
     rw[lp] at A8
     have aN:Int.toNat 1=1:=rfl
     rw[aN]
     obtain ⟨t1,t2⟩:=gH.tail A8 (by omega)
     have Iq:(c1 pP (x::(pK++kids.map (A7 x.2)))).drop 2=c1 pP (pK++kids.map (A7 x.2)):=rfl
     rw[Iq] at t1
     have AN:aq (fun k=>k=aP∨k=m∨aH gs k) w di:=eh re wG fun k aa e=>by omega
     refine ⟨⟨by omega,by show (1:Int)≤((cP.len:Nat):Int);omega⟩,⟨pK++kids.map (A7 x.2),bM,uO,A3,A4,t1,fun k aa=>wJ k (t2 k aa),pS,Pd,fun a3 cX bm tS=>yy a3 cX bm (.step pR.r tS),AN,aaL,?_⟩,?_⟩
     · rw[c9,ep];omega
     · have rm:=dd.nR nN.mp
       have pT:=dd.nR pS.mp
       rw[ep] at rm pT
       show (cP.len-1)+300*(al.length-nR m di)<s.len+300*(al.length-nR m aO)
       rw[rm,pT]
       omega
 · have ae:q=[]:=by
     have:=cm bF
     cases q with
     |nil=>rfl
     |cons x q=>rw[jW] at cM;omega
   subst ae
   exact ⟨rfl,bp,wI,uK,wH,yy _ _ _ (.done _ _ _),nN,ak⟩
end
end
section
def ik:b8:=⟨0,0,0,0,0,0,0,0,0,0⟩
def b8.fl (a:b8) (no:Nat) (s:Int):b8:=if no=0 then {a with wA:=s} else {a with s1:=s}
def b8.g8 (a:b8) (no:Nat) (g:Int):b8:=if no=0 then {a with pI:=g} else {a with aZ:=g}
def b8.wK (a:b8) (no:Int):Int:=if no=0 then a.pI else a.aZ
def kk (al:List c2) (no:Nat) (p:b8×dM):b8×dM:=
 let x:=gn al.length no (al.getD no [])
 let a:=(p.1.fl no x.2.2).g8 no x.2.1
 if x.2.2=2∧(a.dE<0∨a.wK a.dE<x.2.1) then ({a with dE:=no},x.1) else (a,p.2)
def cB (al:List c2):Nat→b8×dM
 |0=>({ik with dE:= -1},c4)
 |k+1=>kk al k (cB al k)
def lO (al:List c2):b8×dM:=cB al 2
def oL (al:List c2) (r:b8):Prop:=
 ((lO al).1.dE<0∧r=(lO al).1)∨
 (0≤(lO al).1.dE∧∃ (bp:b8) (seen ba:List Nat),((0<(lO al).2.bX∧kK al [((((lO al).2.root:Nat):Int),(((lO al).2.bX:Nat):Int))] (lO al).1 [] [] bp seen ba)∨((lO al).2.bX=0∧bp=(lO al).1∧ba=[]))∧
   r=mi al ba (lO al).2.map bp)
theorem oL.uniq {al:List c2} {r Ir:b8} (h:oL al r) (ga:oL al Ir):r=Ir:=by
 rcases h with ⟨U,rfl⟩|⟨U,bp,s1,aZ,ag,rfl⟩
 · rcases ga with ⟨_,rfl⟩|⟨aA,_⟩
   · rfl
   · omega
 · rcases ga with ⟨aA,_⟩|⟨_,bM,s2,a7,aK,rfl⟩
   · omega
   · rcases ag with ⟨bH,cg⟩|⟨bH,rfl,rfl⟩
     · rcases aK with ⟨_,gO⟩|⟨gP,_⟩
       · obtain ⟨rfl,rfl,rfl⟩:=cg.uniq gO
         rfl
       · omega
     · rcases aK with ⟨gP,_⟩|⟨_,rfl,rfl⟩
       · omega
       · rfl
theorem kI.fv {al:List c2} {no level:Int} {a a':b8} {seen ba ax g' kids:List Nat} (h:kI al no level a seen ba a' ax g' kids):a'.fv=a.fv:=by
 cases h<;>rfl
theorem kK.fv {al:List c2} {q:List (Int×Int)} {a a':b8} {seen ba ax g':List Nat} (h:kK al q a seen ba a' ax g'):a'.fv=a.fv:=by
 induction h with
 |done=>rfl
 |step aU _ cb=>exact cb.trans aU.fv
end
section
def bx.rd (D:bx) (i:Nat):bx:={D with b5:=D.b5.set 1 (if D.b5.getD 1 0= -1 then -1 else D.b5.getD 1 0-i)}
def bx.lit (D:bx) (n:Nat):Prop:=D.b5.getD 1 0≠ -1∧D.b5.getD 1 0<n
theorem aaV {D:bx} {i:Nat} (aK:D.b5.length=4) (aL: -1≤D.b5.getD 1 0) (hi:¬D.lit i):((D.rd i).gF 1=true↔D.lit (i+1))∧((D.rd i).gF 1=false→(D.rd i).eP 1=D.rd (i+1)):=by
 have e:(D.rd i).b5.getD 1 0=if D.b5.getD 1 0= -1 then -1 else D.b5.getD 1 0-i:=by
   show (D.b5.set 1 _).getD 1 0=_
   rw[dw (by rw[ju];omega),sf]
 unfold bx.lit at hi⊢
 unfold bx.gF bx.eP
 rw[e]
 unfold hF
 by_cases U:D.b5.getD 1 0= -1
 · rw[if_pos U,if_pos rfl]
   refine ⟨⟨fun h=>(by cases h),fun h=>absurd U h.1⟩,fun _=> ?_⟩
   unfold bx.rd
   rw[if_pos U,if_pos U]
   simp
 · rw[if_neg U]
   have ag:(i:Int)≤D.b5.getD 1 0:=xO fun aA=>hi ⟨U,by omega⟩
   rw[if_neg (by omega)]
   by_cases aA:D.b5.getD 1 0-i=0
   · rw[if_pos aA]
     exact ⟨⟨fun _=>⟨U,by omega⟩,fun _=>rfl⟩,fun h=>(by cases h)⟩
   · rw[if_neg aA]
     refine ⟨⟨fun h=>(by cases h),fun h=>by omega⟩,fun _=> ?_⟩
     unfold bx.rd
     rw[if_neg U,if_neg U]
     simp only[List.set_set]
     congr 2
     omega
end
section
abbrev iG:ah:=⟨none,0,0⟩
def lP (D:bx):List c2:=(List.range D.n).map D.now
theorem aaW {D:bx} (aK:D.b5.length=4):D.rd 0=D:=by
 have e:(if D.b5.getD 1 0= -1 then -1 else D.b5.getD 1 0-((0:Nat):Int))=D.b5.getD 1 0:=by split<;>omega
 unfold bx.rd
 rw[e,dw (by omega:1<D.b5.length),List.set_getElem_self]
theorem Is (a:b8) {k:Nat} (aa:k<2) (s:Int):(a.fl k s).c=a.c.set k (.int .i64 s):=by
 have:k=0∨k=1:=by omega
 rcases this with rfl|rfl<;>rfl
theorem Ph (a:b8) {k:Nat} (aa:k<2) (s:Int):(a.g8 k s).c=a.c.set (2+k) (.int .u64 s):=by
 have:k=0∨k=1:=by omega
 rcases this with rfl|rfl<;>rfl
theorem yz (a:b8) (k:Nat) (s g:Int):((a.fl k s).g8 k g).dE=a.dE∧((a.fl k s).g8 k g).fv=a.fv:=by
 unfold b8.fl b8.g8
 split<;>exact ⟨rfl,rfl⟩
theorem EB (al:List c2):∀k, -1≤(cB al k).1.dE∧(cB al k).1.dE<k∧(cB al k).1.fv=0
 |0=>⟨by show (-1:Int)≤ -1;omega,by show (-1:Int)<0;omega,rfl⟩
 |k+1=>by
   obtain ⟨U,ag,aA⟩:=EB al k
   show _∧(kk al k (cB al k)).1.dE<_∧_
   simp only[cB,kk]
   split
   · exact ⟨by show (-1:Int)≤(k:Int);omega,by show (k:Int)<((k+1:Nat):Int);omega,(yz _ _ _ _).2.trans aA⟩
   · simp only[yz]
     exact ⟨U,by omega,aA⟩
theorem aaX {n no:Nat} {b:c2} (h:(gn n no b).2.2=2):(gn n no b).1.map<n:=by
 revert h
 unfold gn
 split
 · intro h;cases h
 · split
   · split
     · intro h;cases h
     · rename_i U
       intro _
       exact Nat.not_le.1 fun ag=>U (.inr ag)
   · intro h;cases h
theorem EC (al:List c2):∀k,0≤(cB al k).1.dE→(cB al k).2.map<al.length
 |0,h=>absurd h (by show¬(0:Int)≤ -1;omega)
 |k+1,h=>by
   revert h
   simp only[cB,kk]
   split
   · rename_i U
     exact fun _=>aaX U.1
   · intro h
     exact EC al k (by rw[←(yz (cB al k).1 k _ _).1];exact h)
structure Pj (cD w:World) (D:bx) (aP m bY z:Nat) (bh:ah) (i:Nat):Prop where
 dev:dz w (D.rd i)
 lit:¬D.lit i
 s:cU (fun q=>z≤q) w bh ((List.range i).map D.now)
 v:Var w aP (uF ik bh m iG) ad.yl
 mp:dd w m encZ []
 bY:Var w bY ik.c ad.kL
 aB:aq (fun q=>q=D.d) cD w
structure It (cD w:World) (aP m bY bI z:Nat) (bh:ah) (al:List c2) (p:b8×dM):Prop where
 aaY:cq (fun q=>z≤q∧q<cD.heap.size) w bh al
 iO:eR w aP p.1 bh m iG al [] []
 bI:Var w bI p.2.c ad.fR
 bY:Var w bY ik.c ad.kL
 aB:aq (fun q=>q=aP∨q=m) cD w
theorem eR.aaZ {w J:World} {aP m:Nat} {a:b8} {bh gs:ah} {al:List c2} {seen ba:List Nat} (h:eR w aP a bh m gs al seen ba) {W:Nat→Prop} (ak:aq W w J) (U:¬W aP) (ag:¬W m) (aA:∀q,aH gs q→¬W q) {B:Nat→Prop} (ar:cq B w bh al) (aK:∀q,B q→¬W q∧q≠aP∧q≠m∧¬aH gs q):eR J aP a bh m gs al seen ba:=
 ⟨h.v.aB ak U,cq.cS (ar.aB ak fun q ae=>(aK q ae).1) fun q _ ae=>(aK q ae).2,h.mp.aB ak ag,h.g.aB ak aA,h.ne,h.len,h.n,h.wB,h.kG⟩
theorem b8.plain (a:b8):∀v∈a.c,Plain v:=fun v ao=>by
 simp only[b8.c,fc,jc,jd] at ao
 rcases ao with rfl|rfl|rfl|rfl|rfl|rfl|rfl|rfl|rfl|rfl<;>trivial
theorem mX {w:World} {D:bx} (h:dz w D) (qY:D.fg≤1000000000):aM Tryz.prog F.mX #[.pointer (some ⟨D.d,0,none⟩)] w (fun v J=>aq (fun q=>q=D.d) w J∧
   ((D.lit D.n∧v= .tuple #[.agg ik.c.toArray, .int .i64 3])∨(¬D.lit D.n∧dz J (D.rd D.n)∧∃r,oL (lP D) r∧v= .tuple #[.agg r.c.toArray, .int .i64 0]))):=by
 have qQ:∀q,dL D q→q<w.heap.size:=fun q=>h.lt
 have iH:D.d<w.heap.size:=qQ _ (.inl rfl)
 have ph: -1≤D.b5.getD 1 0:=by
   rw[dw (by rw[h.f4];omega:1<D.b5.length)]
   exact (h.sB _ (dP _)).1
 refine W.aa0 _ w _ ?_
 (delta W.mX iy au cu ab cp bS gg pU aG st av fe lD az ED bJ;dsimp only)
 refine cT (vs:=ik.c) rfl fun af cZ bg gN=>⟨fun h=>(by cases h),fun _=> ?_⟩
 obtain ⟨bY,lI⟩:∃bY,bY=w.heap.size:=⟨_,rfl⟩
 rw[←lI] at cZ⊢
 obtain ⟨aZ,a7⟩:=dd.make (P:=Tryz.prog) (enc:=encZ) ad.iE af
 obtain ⟨m,hm⟩:∃m,m=af.heap.size:=⟨_,rfl⟩
 have bV:=de af (.map #[] 0)
 have pj:=k0 af (.map #[] 0)
 obtain ⟨aw,su⟩:∃aw,aw=af.alloc (.map #[] 0):=⟨_,rfl⟩
 rw[←su,←hm] at aZ a7
 rw[←su] at bV pj
 refine ⟨some m,aw,aZ,(uF ik iG m iG).toArray,by kernel_rfl,cT (vs:=uF ik iG m iG) rfl fun bd mU dK vS=> ?_⟩
 obtain ⟨aP,Em⟩:∃aP,aP=aw.heap.size:=⟨_,rfl⟩
 rw[←Em] at mU⊢
 have iA:=(bg.trans bV).trans dK
 refine (Az (h.ext iA)).use ?_
 rintro _ _ ⟨rfl,rfl⟩
 have aa1:Pj w bd D aP m bY bd.heap.size iG 0:=⟨by rw[aaW h.f4];exact h.ext iA,fun aC=>by have:=aC.2;have:=aC.1;omega,cU.none _ _,mU,(a7.ext dK),(cZ.ext bV).ext dK,iA.mono fun _ _ h=>h.elim⟩
 refine ⟨_,rfl,fun n J=>∃ (i:Nat) (bh:ah),n=(i:Int)∧i≤D.n∧bd.heap.size≤J.heap.size∧Pj w J D aP m bY bd.heap.size bh i,fun n _=>((D.n:Int)-n).toNat,⟨0,iG,rfl,ei _,b6 _,aa1⟩,?_⟩
 rintro _ c7 ⟨i,bh,rfl,hi,aa2,aJ⟩
 have mP:=h.dF
 have g1:=h.cY
 refine ⟨fun aR=> ?_,fun bF=> ?_⟩
 · have dQ:i<D.n:=by have:=cf aR;omega
   obtain ⟨hV,e7⟩:=aaV (i:=i) h.f4 ph aJ.lit
   refine (NW aJ.dev (i:=i) dQ qY).use ?_
   rintro v cd ⟨Pk,DZ,yr⟩
   have aiR:=DZ.size
   have A9:aq (fun q=>q=D.d) c7 cd:=DZ
   have Pl:aq (fun q=>q=D.d) w cd:=aJ.aB.trans A9
   have Iu:Var cd bY ik.c ad.kL:=aJ.bY.aB A9 (by omega)
   rcases yr with ⟨lQ,rfl⟩|⟨lQ,hJ,rfl,bt⟩
   · have EE:=hV.1 lQ
     refine ⟨iG,3,rfl,fun _=>⟨ik.c.toArray,by kernel_rfl,Iu.gZ rfl (b8.plain _),rfl,jw Iu (us:=ik.c) rfl rfl fun dR AG AH D6=>⟨ik.c,AG.rd rfl,eh Pl AH fun q ae e=>by omega, .inl ⟨⟨EE.1,by have:=EE.2;omega⟩,rfl⟩⟩⟩,fun h=>(by cases h)⟩
   have Oa:=aJ.s.aB A9 fun k aa e=>by omega
   have pD:Var cd aP (uF ik bh m iG) ad.yl:=aJ.v.aB A9 (by omega)
   have A_:eV (fun q=>bd.heap.size≤q) cd hJ (D.now i):=eV.cS bt fun k _ aa=>by omega
   have eB:∀k,aH bh k→bd.heap.size≤k∧k<c7.heap.size:=aJ.s.qF.choose_spec.2.2.2.1
   obtain ⟨gU,c0,aN,a6,dk,kZ⟩:=G3 Oa A_ (fun k aa cA=>by
     have U:=(bt.2.2 k aa).1
     have:=(eB k cA).2
     omega) (by rw[ep,xT];omega) (fun k aa=>by omega)
   have aiS:=dk.size
   have yn:=pD.aB dk fun aS=>by have:=(eB aP aS).1;omega
   have eN:aq (fun q=>q=aP) c0 (c0.setCell ⟨aP,10,none⟩ (.slice gU.a gU.len gU.cap)):=aq.e2 (.refl _ _) _
   have ud:∀q,q<bd.heap.size→¬aH bh q:=fun q ae aS=>by have:=(eB q aS).1;omega
   refine ⟨hJ,0,rfl,fun h=>(by cases h),fun _=>⟨_,rfl,bh,by rw[a_];exact pD.cell,gU,c0,aN,_,rfl,⟨_,by rw[a_];exact yn.cell⟩,by rw[a_];exact yn.frozen _ rfl,?_⟩⟩
   rw[a_,iD (by omega)]
   refine bj ⟨⟨i+1,gU,rfl,by omega,kU (by omega:bd.heap.size≤c0.heap.size) eN.size,⟨?_,fun aC=> ?_,?_,yn.GH 10 _,?_,?_,?_⟩⟩,by show ((D.n:Int)-((i+1:Nat):Int)).toNat<((D.n:Int)-((i:Nat):Int)).toNat;omega⟩
   · rw[e7 lQ] at Pk
     exact (Pk.aB dk fun q ae aS=>by have:=(eB q aS).1;have:=qQ q ae;omega).aB eN fun q ae e=>by have:=qQ q ae;omega
   · rw[hV.2 aC] at lQ;cases lQ
   · rw[List.range_succ,hT]
     exact a6.aB eN fun k aa e=>by omega
   · exact ((aJ.mp.aB A9 (by omega)).aB dk (ud _ (by omega))).aB eN (by omega)
   · exact (Iu.aB dk (ud _ (by omega))).aB eN (by omega)
   · exact eh (eh Pl dk fun q ae aS=>by have:=(eB q aS).1;omega) eN fun q ae e=>by omega
 have nS:i=D.n:=by
   have:=cm bF
   omega
 subst nS
 obtain ⟨al,Ba⟩:∃al,al=lP D:=⟨_,rfl⟩
 have cM:al.length=D.n:=by rw[Ba,lP,ep,xT]
 have qC:∀q,¬aH iG q:=fun q ⟨a,aI,_⟩=>by cases aI
 have pA:eR c7 aP ik bh m iG al [] []:=⟨aJ.v,cq.cS (by rw[Ba];exact aJ.s.qF) fun k _ aa=>⟨by omega,by omega,qC k⟩,aJ.mp,(eO.none (fun _=>True) c7).1,⟨by omega,qC _,qC _⟩,fun l aC=> ?_,by omega,by show 0≤1600;omega,⟨List.nodup_nil,fun x ai=>(by cases ai),fun x ai=>(by cases ai)⟩⟩
 rotate_left
 · rw[Ba] at aC
   obtain ⟨j,bu,rfl⟩:=gl.1 aC
   exact h.Ay (qp.1 bu)
 have aa3:cq (fun q=>bd.heap.size≤q∧q<c7.heap.size) c7 bh al:=cq.cS (by rw[Ba];exact aJ.s.qF) fun k gD aa=>⟨aa,gD⟩
 obtain ⟨e9,e_,dZ,fL⟩:=pA.put (j:=4) (a':={ik with dE:= -1}) (v:= .int .i64 (-1)) (by omega) rfl
 refine ⟨_,rfl,e9,e_,?_⟩
 obtain ⟨df,aa4⟩:∃df,df=c7.setCell (Addr.add ⟨aP,0,none⟩ 4) (.int .i64 (-1)):=⟨_,rfl⟩
 rw[←aa4] at dZ fL⊢
 have aiT:=fL.size
 refine bj (cT (vs:=c4.c) rfl fun fm EF yA Pm=> ?_)
 obtain ⟨bI,pC⟩:∃bI,bI=df.heap.size:=⟨_,rfl⟩
 rw[←pC] at EF⊢
 have NZ:It c7 fm aP m bY bI bd.heap.size bh al (cB al 0):=⟨(aa3.aB fL fun q ae e=>by omega).ext yA,dZ.kH yA fun _ _ h=>h,EF,(aJ.bY.aB fL (by omega)).ext yA,eh (fL.mono fun q _ e=> .inl e) yA fun q _ h=>h.elim⟩
 refine ⟨fun n J=>∃k:Nat,n=(k:Int)∧k≤2∧fm.heap.size≤J.heap.size∧It c7 J aP m bY bI bd.heap.size bh al (cB al k),fun n _=>((2:Int)-n).toNat,⟨0,rfl,by omega,b6 _,NZ⟩,?_⟩
 rintro _ dS ⟨k,rfl,aa,aa5,wL⟩
 obtain ⟨a,aI⟩:∃a,a=(cB al k).1:=⟨_,rfl⟩
 obtain ⟨u,hu⟩:∃u,u=(cB al k).2:=⟨_,rfl⟩
 have uQ:eR dS aP a bh m iG al [] []:=by rw[aI];exact wL.iO
 have yB:Var dS bI u.c ad.fR:=by rw[hu];exact wL.bI
 have s4:bI≠aP∧bI≠m∧bY≠aP∧bY≠m∧bY≠bI:=⟨by omega,by omega,by omega,by omega,by omega⟩
 obtain ⟨Bb,wx,Iv⟩:=EB al k
 rw[←aI] at Bb wx Iv
 refine ⟨fun aR=> ?_,fun bF=> ?_⟩
 · have cA:k<2:=by have:=cf aR;omega
   refine ⟨(Yb uQ.v rfl uQ.s uQ.len (no:=k) (by omega)).use ?_⟩
   rintro _ eS ⟨rfl,pV⟩
   have jm:k<al.length:=by omega
   obtain ⟨x,ai⟩:∃x,x=gn al.length k al[k]:=⟨_,rfl⟩
   rw[←ai]
   have e1:cB al (k+1)=if x.2.2=2∧(((a.fl k x.2.2).g8 k x.2.1).dE<0∨((a.fl k x.2.2).g8 k x.2.1).wK ((a.fl k x.2.2).g8 k x.2.1).dE<x.2.1) then ({(a.fl k x.2.2).g8 k x.2.1 with dE:=k},x.1) else ((a.fl k x.2.2).g8 k x.2.1,u):=by
     show kk al k (cB al k)=_
     unfold kk
     rw[dw jm,←ai,←aI,←hu]
   have tN:Int.toNat ((k:Nat):Int)*1=k:=by rw[er,gJ]
   refine ⟨_,_,_,_,_,_,_,_,rfl,cT (vs:=c4.c) rfl fun il aa6 aa7 aiU=>j8 aa6 rfl x.1 fun uf Pn Po aiV=> ?_⟩
   obtain ⟨q_,Iw⟩:∃q_,q_=eS.heap.size:=⟨_,rfl⟩
   rw[←Iw] at Pn Po⊢
   have aa8:=pV.size
   have Ix:Ext dS uf.drew:=(pV.trans (Ext.c8 aa7 Po (by omega))).trans (c_ _)
   have aiW:=Ix.size
   have aa9:=uQ.kH Ix fun _ _ h=>h
   obtain ⟨ri,ox,uI,rj⟩:=aa9.put (j:=k) (a':=a.fl k x.2.2) (v:= .int .i64 x.2.2) (by omega) (Is a cA _)
   obtain ⟨iT,aa_⟩:∃iT,iT=uf.drew.setCell (Addr.add ⟨aP,0,none⟩ k) (.int .i64 x.2.2):=⟨_,rfl⟩
   rw[tN]
   refine bj ⟨fun _=>False,_,rfl,⟨by omega,by omega⟩,_,rfl,ri,ox,?_⟩
   rw[←aa_] at uI rj⊢
   obtain ⟨t1,t2,t3,t4⟩:=uI.put (j:=2+k) (a':=(a.fl k x.2.2).g8 k x.2.1) (v:= .int .u64 x.2.1) (by omega) (Ph _ cA _)
   obtain ⟨eD,aba⟩:∃eD,eD=iT.setCell (Addr.add ⟨aP,0,none⟩ (2+k)) (.int .u64 x.2.1):=⟨_,rfl⟩
   rw[add_add]
   refine bj ⟨⟨by omega,by omega⟩,t1,t2,?_⟩
   rw[←aba] at t3 t4⊢
   refine bj (bj ?_)
   have bN:=c_ eD
   have wM:=t3.kH bN fun _ _ h=>h
   have aiX:=rj.size
   have aiY:=t4.size
   have Bc:aq (fun q=>q=aP) dS eD.drew:=((((Ix.mono fun _ _ h=>h.elim).trans rj).trans t4)).trans (bN.mono fun _ _ h=>h.elim)
   obtain ⟨g9,Iy⟩:∃g9,g9=eD.drew:=⟨_,rfl⟩
   rw[←Iy] at wM Bc⊢
   have DT:uf.drew.heap.size≤g9.heap.size:=by
     have:=bN.size
     rw[←Iy] at this;omega
   obtain ⟨bM,x4⟩:∃bM,bM=(a.fl k x.2.2).g8 k x.2.1:=⟨_,rfl⟩
   have Pp:bM.dE=a.dE:=by rw[x4];exact (yz _ _ _ _).1
   rw[←x4] at wM e1
   have Iz:=yB.aB Bc s4.1
   have abb:Var g9 q_ x.1.c ad.fR:=by
     rw[Iy]
     exact (((Var.drew Pn).aB rj (by omega)).aB t4 (by omega)).drew
   have abc:=wL.bY.aB Bc s4.2.2.1
   have gg:g9.cell? (Addr.add ⟨aP,0,none⟩ 4)=some (.int .i64 bM.dE):=by rw[a_];exact wM.v.cell
   have Pq:=wL.aaY.aB Bc fun q ae e=>by omega
   have fin:∀J,aq (fun q=>q=aP∨q=bI) g9 J→∀p,p=cB al (k+1)→eR J aP p.1 bh m iG al [] []→Var J bI p.2.c ad.fR→
       (∃en:Nat,IntKind.wrap .i64 (((k:Nat):Int)+1)=(en:Int)∧en≤2∧fm.heap.size≤J.heap.size∧It c7 J aP m bY bI bd.heap.size bh al (cB al en))∧((2:Int)-IntKind.wrap .i64 (((k:Nat):Int)+1)).toNat<((2:Int)-((k:Nat):Int)).toNat:=fun J mn p aU aC ao=>by
     have cc:=mn.size
     rw[iD (by omega)]
     subst aU
     refine ⟨⟨k+1,rfl,by omega,by omega,Pq.aB mn fun q ae e=>by omega,aC,ao,abc.aB mn (by omega),?_⟩,by omega⟩
     exact eh (eh wL.aB Bc fun q _ e=> .inl e) mn fun q ae e=>by omega
   refine (fun (key:(x.2.2=2∧(bM.dE<0∨bM.wK bM.dE<x.2.1))→_)=>⟨fun ag=>⟨_,rfl,id,_,gg,fun aD=>⟨fun _=>key ⟨by have:=eq_of_beq ag;omega, .inl (cf aD)⟩,fun h=>(by cases h)⟩,fun aD=>⟨_,rfl,id,_,gg,_,rfl,?_,id,bM.wK bM.dE,?_,fun aW=>key ⟨by have:=eq_of_beq ag;omega, .inr (cf aW)⟩,fun aW=>fin g9 (.refl _ _) (bM,u) ?_ wM Iz⟩⟩,fun ag=>⟨fun h=>(by cases h),fun _=>fin g9 (.refl _ _) (bM,u) ?_ wM Iz⟩⟩) ?_
   rotate_left
   · have:=cm aD
     exact ⟨by omega,by omega⟩
   · have U:=cm aD
     have bP:bM.dE=0:=by omega
     rw[bP,add_add,a_]
     exact wM.v.cell
   · have U:=cm aW
     have aA:=cm aD
     rw[e1,if_neg]
     rintro ⟨_,aK|aK⟩<;>omega
   · rw[e1,if_neg]
     rintro ⟨aK,_⟩
     rw[aK] at ag;cases ag
   intro abd
   have IA:=c_ g9
   have abe:=wM.kH IA fun _ _ h=>h
   obtain ⟨az,b1,aG,bJ⟩:=abe.put (j:=4) (a':={bM with dE:=k}) (v:= .int .i64 ((k:Nat):Int)) (by omega) rfl
   refine bj ⟨fun q=>q=aP,by show¬q_=aP;omega,ji (Var.drew abb) ⟨_,rfl,az,b1,bj ⟨bJ,j8 ((Var.drew Iz).aB bJ s4.1) rfl x.1 fun k4 IB EG abf=>fin k4 ?_ ({bM with dE:=k},x.1) ?_ ?_ IB⟩⟩⟩
   · exact (((IA.mono fun _ _ h=>h.elim).trans (bJ.mono fun q _ e=> .inl e))).trans (EG.mono fun q _ e=> .inr e)
   · rw[e1,if_pos abd]
   · exact aG.aaZ EG (fun e=>s4.1 e.symm) (fun e=>s4.2.1 e.symm) (fun q ae=>absurd ae (qC q)) ((Pq.ext IA).aB bJ fun q ae e=>by omega) fun q ae=>⟨by omega,by omega,by omega,qC q⟩
 have cA:k=2:=by have:=cm bF;omega
 subst cA
 have iI:lO al=(a,u):=by rw[aI,hu];rfl
 have Pr:aq (fun q=>q=aP∨q=m) c7 dS:=wL.aB
 have fin:∀J (r:b8) (lM:ah) (seen ba:List Nat),aq (fun q=>q=aP∨q=m) dS J→eR J aP r bh m lM al seen ba→oL al r→
     ∃Bd:Addr,(some ⟨aP,0,none⟩:Option Addr)=some Bd∧∃s5:List Value,cn J Bd 0 10=some s5∧bW J ⟨bY,0,none⟩ (Array.toList s5.toArray)∧Array.size s5.toArray=10∧
       ay (setCells J ⟨bY,0,none⟩ 0 (Array.toList s5.toArray)) fun wN=>∃yC:List Value,cn wN ⟨bY,0,none⟩ 0 10=some yC∧
         (aq (fun q=>q=D.d) w wN∧((D.lit D.n∧Value.tuple #[.agg yC.toArray, .int .i64 0]= .tuple #[.agg ik.c.toArray, .int .i64 3])∨(¬D.lit D.n∧dz wN (D.rd D.n)∧∃r,oL (lP D) r∧Value.tuple #[.agg yC.toArray, .int .i64 0]= .tuple #[.agg r.c.toArray, .int .i64 0]))):=by
   intro J r lM seen ba ak aC abg
   have Ps:=wL.bY.aB ak (by omega)
   refine ⟨_,rfl,r.c,by rw[Var.GG aC.v (o:=0) (n:=10) (by show 0+10≤13;decide)];rfl,Ps.gZ rfl (b8.plain _),rfl,jw Ps (us:=r.c) rfl rfl fun wN abh Pt aiZ=>⟨r.c,abh.rd rfl,?_, .inr ⟨aJ.lit,?_,r,by rw[←Ba];exact abg,rfl⟩⟩⟩
   · exact eh (eh aJ.aB (Pr.trans ak) fun q ae e=>by omega) Pt fun q ae e=>by omega
   · exact (aJ.dev.aB (Pr.trans ak) fun q ae e=>by have:=qQ q ae;omega).aB Pt fun q ae e=>by have:=qQ q ae;omega
 have gg:dS.cell? (Addr.add ⟨aP,0,none⟩ 4)=some (.int .i64 a.dE):=by rw[a_];exact uQ.v.cell
 refine ⟨⟨_,rfl,a.dE,gg,fun aD=>⟨⟨_,by rw[a_];exact yB.cell,fun fI=> ?_,fun fI=> ?_⟩⟩,fun aD=>fin dS a iG [] [] (.refl _ _) uQ (.inl ?_)⟩⟩
 · have oM:=cf aD
   have k9:u.map<al.length:=by rw[hu];exact EC al 2 (by rw[←aI];exact oM)
   have IC:=cf fI
   refine ⟨_,yB.cell,_,by rw[a_];exact yB.cell,(aaG uQ (u.root:Nat) (u.bX:Nat)).use ?_⟩
   rintro _ ig ⟨rfl,a',lM,kg,kh,hw,aC,ak⟩
   have mn:aq (fun q=>q=aP∨q=m) dS ig:=ak.mono fun q _ e=>e.elim .inl fun e=>e.elim .inr fun e=>absurd e (qC q)
   have abi:=yB.aB mn (by omega)
   refine ⟨rfl,_,by rw[a_];exact abi.cell,(OT aC k9 (fun x ai=>aC.kG.2.2 x (aC.kG.2.1 x ai)) (hw.fv.trans Iv)).use ?_⟩
   rintro _ uR ⟨rfl,s6,ek⟩
   exact ⟨rfl,fin uR _ lM kg kh (mn.trans (ek.mono fun q _ e=> .inl e)) s6 (.inr ⟨by rw[iI];exact oM,a',kg,kh, .inl ⟨by rw[iI];show 0<u.bX;omega,by rw[iI];exact hw⟩,by rw[iI]⟩)⟩
 · have oM:=cf aD
   have k9:u.map<al.length:=by rw[hu];exact EC al 2 (by rw[←aI];exact oM)
   have IC:=cm fI
   refine ⟨_,by rw[a_];exact yB.cell,(OT uQ k9 (fun x ai=>by cases ai) Iv).use ?_⟩
   rintro _ uR ⟨rfl,s6,ek⟩
   exact ⟨rfl,fin uR _ iG [] [] (ek.mono fun q _ e=> .inl e) s6 (.inr ⟨by rw[iI];exact oM,a,[],[], .inr ⟨by rw[iI];show u.bX=0;omega,by rw[iI],rfl⟩,by rw[iI]⟩)⟩
 · have oM:=cm aD
   rw[iI]
   exact ⟨by show a.dE<0;omega,rfl⟩
end
section
section
variable {α:Type} {P:Program} {w J:World} {j6 qV T:TypeId} {enc:α→Value} {r m:Nat} {L:List (α×Value×Nat)} {seen:List Nat}
structure oN (w:World) (r m:Nat) (enc:α→Value) (L:List (α×Value×Nat)) (seen:List Nat):Prop where
 it:∃cH:Nat,w.heap[r]? =some (.mapIter (some m) cH seen.toArray cH)∧w.heap[m]? =some (.map (L.map (eG enc)).toArray cH)∧∀x∈L,x.2.2<cH
 k_:(L.map (·.2.2)).Nodup
def hX (L:List (α×Value×Nat)) (seen:List Nat):List (α×Value×Nat):=L.filter fun x=> !seen.contains x.2.2
theorem Pu (P:Program) {n:Nat} (aD:1≤n) (w:World):∃ (i:Nat) (J:World),i<n∧(choose (.mapNext n)).run P w= .ok i J∧(J=w∨J=w.drew):=by
 by_cases h:n≤1
 · refine ⟨0,w,by omega,?_, .inl rfl⟩
   show Sem.run P (.choose (.mapNext n) .pure) w=_
   have ae:(Question.mapNext n).forced=true:=by simp[Question.forced,h]
   simp only[Sem.run,ae,if_true]
 · refine ⟨(Question.mapNext n).cut (w.tape w.drawn (.mapNext n)),w.drew,kT _ (by omega),?_, .inr rfl⟩
   show Sem.run P (.choose (.mapNext n) .pure) w=_
   have ae:(Question.mapNext n).forced=false:=by simp[Question.forced,h]
   simp only[Sem.run,ae,jt,if_false]
   rfl
theorem ID {a:Option Nat} {b d:Nat} {c:Array Nat} (h:w.heap[r]? =some (.mapIter a b c d)):(getObj r).run P w= .ok (.mapIter a b c d) w:=by simp[getObj,Sem.run,h]
theorem abj {a:Option Nat} {b d:Nat} {c:Array Nat} (h:w.heap[r]? =some (.mapIter a b c d)) (Pv:Obj):(setObj r Pv).run P w= .ok () (k2 w r Pv):=by simp[setObj,Sem.run,h,k2]
theorem oN.begin {M:List (α×Value)} (h:dd w m enc M) {T:TypeId} {j6 qV:TypeId} (aV:P.underlying T=some (.map j6 qV)):∃ (L:List (α×Value×Nat)) (af:World),(L.map qW).Perm M∧(Instr.range T (.map (some m))).run P w= .ok (.pointer (some ⟨w.heap.size,0,none⟩)) af∧oN af w.heap.size m enc L []∧Ext w af∧af.heap.size=w.heap.size+1:=by
 have aR:=h.lt
 obtain ⟨L,cH,U,ag,aA,aK,bH⟩:=h
 refine ⟨L,w.alloc (.mapIter (some m) cH #[] cH),ag,?_,⟨⟨cH,?_,?_,bH⟩,aK⟩,aq.alloc (.refl _ _) _,by simp⟩
 · simp only[Instr.range,Sem.run_bind,db aV,Result.andThen,sA U,Sem.run_pure,newObj,Sem.run]
   rfl
 · show (w.heap.push _)[w.heap.size]? =_
   simp
 · show (w.heap.push _)[m]? =_
   rw[Array.getElem?_push_lt aR]
   exact (Array.getElem?_eq_getElem aR).symm.trans U
theorem oN.next (h:oN w r m enc L seen) (IE:r≠m) (T:TypeId):
   (hX L seen=[]∧∃af,(Instr.next (.pointer (some ⟨r,0,none⟩)) false T).run P w= .ok (.tuple #[.bool false]) af∧Ext w af∧af.heap=w.heap)∨
   (∃x∈hX L seen,∃af,(Instr.next (.pointer (some ⟨r,0,none⟩)) false T).run P w= .ok (.tuple #[.bool true,enc x.1,x.2.1]) af∧oN af r m enc L (seen++ [x.2.2])∧aq (fun q=>q=r) w af∧af.heap.size=w.heap.size∧(Instr.entry (.pointer (some ⟨r,0,none⟩))).run P af= .ok (.tuple #[enc x.1,x.2.1]) af):=by
 obtain ⟨⟨cH,U,ag,aA⟩,aK⟩:=h
 have ew:(!seen.toArray.isEmpty&& !((L.map (eG enc)).toArray).isEmpty&&((L.map (eG enc)).toArray).all fun e=>decide (e.born≥cH))=false:=by
   cases L with
   |nil=>simp
   |cons x L=>
     have:¬cH≤x.2.2:=by have:=aA x (by simp);omega
     simp[eG,this]
 have yD:((L.map (eG enc)).toArray.filter fun e=> !seen.toArray.contains e.born)=((hX L seen).map (eG enc)).toArray:=by
   rw[List.filter_toArray,List.filter_map]
   congr 1
   unfold hX
   congr 1
   apply List.filter_congr
   intro x _
   simp only[Function.comp,eG,List.contains_toArray]
 have aR:∀x∈hX L seen,x.2.2<cH:=fun x ai=>aA x (vA.1 ai).1
 have hold:(((hX L seen).map (eG enc)).toArray.filter fun e=>decide (e.born<cH))=((hX L seen).map (eG enc)).toArray:=by
   rw[List.filter_toArray,List.filter_eq_self.2]
   intro e he
   obtain ⟨x,ai,rfl⟩:=gl.1 he
   exact gu (aR x ai)
 have qG:(((hX L seen).map (eG enc)).toArray.filter fun e=>decide (e.born≥cH))= #[]:=by
   rw[List.filter_toArray,List.filter_eq_nil_iff.2]
   intro e he
   obtain ⟨x,ai,rfl⟩:=gl.1 he
   have:=aR x ai
   have bH:¬cH≤x.2.2:=by omega
   simp[eG,bH]
 cases aC:hX L seen with
 |nil=>
   rw[aC] at yD hold qG
   obtain ⟨i,af,hi,ak,hw⟩:=Pu P (n:=1) (b6 _) w
   have abk:i=0:=by omega
   subst abk
   refine .inl ⟨rfl,af,?_,?_,?_⟩
   · simp only[Instr.next,Sem.run_bind,ID U,Result.andThen,sA ag,ew,jt,if_false,yD,hold,qG]
     simp only[vy,Array.isEmpty,CY,nq,decide_true,if_true]
     have e:(#[none]++((#[]:Array MapEntry)++ #[]).map some:Array (Option MapEntry)).size=1:=by simp
     have a6:((#[none]++((#[]:Array MapEntry)++ #[]).map some:Array (Option MapEntry)))[0]? =some none:=by simp
     simp only[e,Sem.run_bind,ak,Result.andThen,a6,Sem.run_pure,Sem.run_pure]
   · rcases hw with rfl|rfl
     · exact .refl _ _
     · exact aq.drew (.refl _ _)
   · rcases hw with rfl|rfl<;>rfl
 |cons y l=>
   right
   rw[←aC]
   have Pw:1≤(hX L seen).length:=by rw[aC];simp
   obtain ⟨i,af,hi,ak,hw⟩:=Pu P (n:=(hX L seen).length) Pw w
   have EH:af.heap=w.heap:=by rcases hw with rfl|rfl<;>rfl
   obtain ⟨x,ai⟩:∃x,x=(hX L seen)[i]:=⟨_,rfl⟩
   have x5:x∈hX L seen:=by rw[ai];exact dP _
   have yE:x∈L:=(vA.1 x5).1
   have qU:af.heap[r]? =some (.mapIter (some m) cH seen.toArray cH):=by rw[EH];exact U
   have abl:r<af.heap.size:=(qu.1 qU).1
   have Be:(k2 af r (.mapIter (some m) cH (seen.toArray.push x.2.2) cH)).heap[r]? =some (.mapIter (some m) cH (seen++ [x.2.2]).toArray cH):=by
     rw[DN abl];simp
   have IF:(k2 af r (.mapIter (some m) cH (seen.toArray.push x.2.2) cH)).heap[m]? =some (.map (L.map (eG enc)).toArray cH):=by
     have hm:af.heap[m]? =some (.map (L.map (eG enc)).toArray cH):=by rw[EH];exact ag
     rw[(Aw af r _).block m (qu.1 hm).1 (fun e=>IE e.symm)]
     exact hm
   refine ⟨x,x5,k2 af r (.mapIter (some m) cH (seen.toArray.push x.2.2) cH),?_,⟨⟨cH,Be,IF,aA⟩,aK⟩,?_,?_,?_⟩
   · simp only[Instr.next,Sem.run_bind,ID U,Result.andThen,sA ag,ew,jt,if_false,yD,hold,qG]
     have b_:((hX L seen).map (eG enc)).toArray.isEmpty=false:=by rw[aC];rfl
     have e:((#[]:Array (Option MapEntry))++(((hX L seen).map (eG enc)).toArray++ #[]).map some).size=(hX L seen).length:=by simp
     have a6:((#[]:Array (Option MapEntry))++(((hX L seen).map (eG enc)).toArray++ #[]).map some)[i]? =some (some (eG enc x)):=by
       simp[hi,ai]
     simp only[b_,jt,if_false,e,Sem.run_bind,ak,Result.andThen,a6,abj qU,Sem.run_pure,eG]
   · have mb:aq (fun q=>q=r) w af:=by
       rcases hw with rfl|rfl
       · exact .refl _ _
       · exact aq.drew (.refl _ _)
     exact mb.trans (Aw _ _ _)
   · rw[DM,EH]
   · have aj:(seen++ [x.2.2]).toArray.back? =some x.2.2:=by simp
     have aL:((L.map (eG enc)).toArray.find? fun e=>e.born==x.2.2)=some (eG enc x):=by
       rw[List.find?_toArray,List.find?_map]
       have:L.find? ((fun e:MapEntry=>e.born==x.2.2)∘eG enc)=some x:=by
         clear aC Pw hi ak x5 ai Be IF yD hold qG aR ew ag aA
         induction L with
         |nil=>cases yE
         |cons z L cb=>
           rw[ln] at aK
           obtain ⟨dF,cY⟩:=z6.1 aK
           rw[List.find?_cons]
           rcases fc.1 yE with rfl|cc
           · simp[eG]
           · have DS:z.2.2≠x.2.2:=fun e=>dF (by rw[e];exact gl.2 ⟨x,cc,rfl⟩)
             have:((fun e:MapEntry=>e.born==x.2.2)∘eG enc) z=false:=by simp[eG,DS]
             rw[this]
             exact cb cY cc
       rw[this];rfl
     have mL:(cH !=cH)=false:=by simp
     simp only[Instr.entry,Sem.run_bind,ID Be,Result.andThen,aj,sA IF,mL,jt,if_false,aL,Sem.run_pure,eG]
theorem dd.clear {M:List (α×Value)} (h:dd w m enc M) {o:TypeId} (aV:P.underlying T=some (.map j6 qV)):∃af,(Builtin.clear_ #[T] o #[.map (some m)]).run P w= .ok (.tuple #[]) af∧dd af m enc ([]:List (α×Value))∧aq (fun q=>q=m) w af∧af.heap.size=w.heap.size:=by
 have aR:=h.lt
 obtain ⟨L,cH,U,ag,aA,aK,bH⟩:=h
 refine ⟨k2 w m (.map #[] cH),?_,⟨[],cH,DN aR _,by simp,by simp,by simp,by simp⟩,Aw _ _ _,DM _ _ _⟩
 unfold Builtin.clear_
 simp only[List.getElem?_toArray,xV,Sem.run_bind,db aV,Result.andThen,sA U,Hk U,Sem.run_pure]
end
end
end Go.Proofs.YtmhhgpogjpbglaaGreat
