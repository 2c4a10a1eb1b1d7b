/- Contracts of the functions that the statement reaches, and the plain laws over them; each theorem stands with its conditions. -/
import Derived.OpenShut
import Derived.Shelf.SlIterI.Nil
import Derived.Shelf.SortM.Plain
import Derived.Shelf.SortM.SortNone
import Derived.Test.YtmhhgpogjpbglaaGreatProg
import Derived.Test.YtmhhgpogjpbglaaGreatRows
import Derived.Test.YtmhhgpogjpbglaaGreatBFNone1
namespace Go.Proofs.YtmhhgpogjpbglaaGreat
open Go bl
section
theorem MX {w:World} {b:ak} {l:List UInt8} {c8 a k:Nat} (al:Var w c8 [.slice b.a b.len b.cap, .int .i64 (a:Nat)] aj.x3) (ao:Src 1 w b (aF l)) (ai:b.len≤b.cap) (aa:1≤k∧k≤8) (aH:a+k≤l.length) (aB:l.length≤1000):
   aN Tryz.prog F.jg #[.pointer (some ⟨c8,0,none⟩), .int .i64 (k:Nat)] w (fun v J=>v= .int .u64 (ca l a k:Nat)∧Var J c8 [.slice b.a b.len b.cap, .int .i64 ((a+k:Nat):Int)] aj.x3∧aq (fun q=>q=c8) w J):=by
 refine W.MY _ (k:Nat) w _ ?_
 (delta W.jg aW aE su st aK;dsimp only)
 have cg:=dz w
 have uQ:=al.ext cg
 refine bD ⟨fun _=>False,_,rfl,id,b,uQ.cell,_,rfl,id,_,by rw[ba];exact uQ.cell,(iz (ao.ext cg) ai aa aH (by omega)).use ?_⟩
 rintro _ _ ⟨rfl,rfl⟩
 obtain ⟨eN,gf⟩:=jE uQ (i:=1) (by simp)
 refine ⟨_,true,rfl,_,rfl,_,by rw[ba];exact uQ.cell,_,rfl,by rw[ba];exact eN,by rw[ba];exact gf,bD ⟨rfl,?_,?_⟩⟩
 · rw[ba]
   have U:=kE uQ (i:=1) (.int .i64 (IntKind.wrap .i64 ((a:Nat)+(k:Nat))))
   have e:IntKind.wrap .i64 (((a:Nat):Int)+((k:Nat):Int))=((a+k:Nat):Int):=by rw[b_ (by omega) (by omega)];omega
   rw[e] at U⊢
   exact U
 · rw[ba]
   exact dv (cg.mono fun _ _ h=>h.elim) (iE _ _ _ _) fun q _ e=>e
def Fq:Except Int (df×Nat×Nat)→Value
 | .ok (u,n,g)=> .tuple #[.agg u.c.toArray, .int .i64 (n:Nat), .int .u64 (g:Nat), .int .i64 0]
 | .error e=> .tuple #[.agg c7.c.toArray, .int .i64 0, .int .u64 0, .int .i64 e]
theorem x4 {no:Int} {l:List UInt8} {e:Int} (h:eX no l= .error e):e≠0:=by
 unfold eX at h
 repeat' split at h
 all_goals first|(cases h;decide)|cases h
theorem mI {s:ak} {l:List UInt8} {w:World} (ao:Src 1 w s (aF l)) (ai:s.len≤s.cap) (aB:l.length≤1000) (no:Int):
   aN Tryz.prog F.mI #[.int .i64 no, .slice s.a s.len s.cap] w (fun v J=>v=Fq (hK no l)∧Ext w J):=by
 refine W.MZ no s w _ ?_
 (delta W.mI fc mJ z4 ah aA aE bE aW AH hC st aK;dsimp only)
 refine cZ (vs:=c7.c) rfl fun ae c6 bg h6=>(jB (ao.ext bg) ai aB no).use ?_
 rintro _ av ⟨fP,bT⟩
 obtain ⟨cC,uR⟩:∃cC,cC=w.heap.size:=⟨_,rfl⟩
 rw[←uR] at c6⊢
 have eg:=c6.ext bT
 cases aU:eX no l with
 |error e=>
   rw[aU] at fP
   have bU:=x4 aU
   have ax:hK no l= .error e:=by unfold hK;rw[aU]
   rw[ax]
   obtain rfl:_=_:=fP
   refine ⟨0,0,⟨none,0,0⟩,e,rfl,cZ (vs:=[.int .i64 0, .int .u64 0, .slice none 0 0]) rfl fun bC nG gz M0=>⟨nG.fG rfl (fun v al=> ?_),rfl,iw nG (us:=[.int .i64 0, .int .u64 0, .slice none 0 0]) rfl rfl fun bF nP jG Fs=>⟨fun _=> ?_,fun h=> ?_⟩⟩⟩
   · simp only[dT,gK,gL] at al
     rcases al with rfl|rfl|rfl<;>trivial
   · have q2:Ext av bF:=Ext.dJ gz jG (b6 _)
     have ke:=eg.ext q2
     refine ib (u:=c7) ke (kd ke rfl c7 fun bH kf x5 Ft=>ib (u:=c7) kf ⟨rfl,?_⟩)
     exact Ext.dJ (Ext.trans (Ext.trans bg bT) q2) x5 (by omega)
   · simp at h;exact absurd h bU
 |ok p=>
   rw[aU] at fP
   obtain ⟨cr,rfl,kJ,AI⟩:=fP
   refine ⟨_,_,cr,0,rfl,cZ (vs:=[.int .i64 0, .int .u64 0, .slice none 0 0]) rfl fun bC nG gz M0=>⟨nG.fG rfl (fun v al=> ?_),rfl,iw nG (us:=[.int .i64 (p.kind:Nat), .int .u64 (p.gen:Nat), .slice cr.a cr.len cr.cap]) rfl rfl fun bF nP jG Fs=>⟨fun h=>(by simp at h),fun _=>⟨_,nP.cell,?_⟩⟩⟩⟩
   · simp only[dT,gK,gL] at al
     rcases al with rfl|rfl|rfl<;>trivial
   have q2:Ext av bF:=Ext.dJ gz jG (b6 _)
   have uC:=Ext.trans (Ext.trans bg bT) q2
   obtain ⟨uS,M1⟩:∃uS,uS=av.heap.size:=⟨_,rfl⟩
   rw[←M1] at nP⊢
   have ke:=eg.ext q2
   have cK:cr.len=p.body.length:=by have:=kJ.1;rw[dj] at this;omega
   have bI:=(Ext.trans bg bT).size
   have mK:p.kind≠3∨p.body.length≠33→hK no l= .error 4:=fun h=>by
     unfold hK;rw[aU];exact if_pos h
   refine c2 (fun b J=>b=decide (p.kind≠3∨p.body.length≠33)∧bF=J) (fun q ag=>⟨fun h=>ag _ _ ⟨?_,rfl⟩,fun h=>⟨cr,by rw[ba];exact nP.cell,ag _ _ ⟨?_,rfl⟩⟩⟩) ?_
   · have:p.kind≠3:=fun e=>by rw[e] at h;simp at h
     rw[eA (.inl this)]
   · have aw:p.kind=3:=by
       have:((p.kind:Nat):Int)=3:=by simpa using h
       omega
     rw[cK,fU,c1]
     constructor
     · intro aL
       refine .inr fun e=> ?_
       rw[e] at aL;simp at aL
     · rintro (aL|aL)
       · exact absurd aw aL
       · rw[bne_iff_ne];omega
   rintro _ _ ⟨rfl,rfl⟩
   have Fu:∀ {bH:World} {vs:List Value},Var bH cC vs aj.jf→vs.length=6→Ext w bH→(hK no l= .error 4)→cd bH ⟨cC,0,none⟩ [.int .i64 0, .int .i64 0, .int .i64 0, .int .u64 0, .int .u64 0, .int .i64 0]∧(6:Nat)=6∧aG (setCells bH ⟨cC,0,none⟩ 0 [.int .i64 0, .int .i64 0, .int .i64 0, .int .u64 0, .int .u64 0, .int .i64 0]) fun mL=>
       ∃dM:Int,mL.cell? ⟨cC,0,none⟩=some (.int .i64 dM)∧∃cH:Int,mL.cell? (Addr.add ⟨cC,0,none⟩ 1)=some (.int .i64 cH)∧∃aX:Int,mL.cell? (Addr.add ⟨cC,0,none⟩ 2)=some (.int .i64 aX)∧
       ∃cc:Int,mL.cell? (Addr.add ⟨cC,0,none⟩ 3)=some (.int .u64 cc)∧∃n5:Int,mL.cell? (Addr.add ⟨cC,0,none⟩ 4)=some (.int .u64 n5)∧∃n6:Int,mL.cell? (Addr.add ⟨cC,0,none⟩ 5)=some (.int .i64 n6)∧
       (Value.tuple #[.agg #[.int .i64 dM, .int .i64 cH, .int .i64 aX, .int .u64 cc, .int .u64 n5, .int .i64 n6], .int .i64 0, .int .u64 0, .int .i64 4]=Fq (hK no l)∧Ext w mL):=by
     intro bH vs kf o4 sH ax
     rw[ax]
     exact kd kf o4 c7 fun mL M3 M4 Ug=>ib (u:=c7) M3 ⟨rfl,Ext.dJ sH M4 (by omega)⟩
   refine ⟨fun h=> ?_,fun h=> ?_⟩
   · exact ib (u:=c7) ke (Fu ke rfl uC (mK (cG h)))
   have iZ:=cT h
   have x6:p.kind=3:=r6 fun h=>iZ (.inl h)
   have lh:p.body.length=33:=r6 fun h=>iZ (.inr h)
   have qJ:=(kJ.ext q2).src
   have M5:cr.len≤cr.cap:=kJ.2.1
   have Fv:∀q,aM cr q→q<bF.heap.size:=(kJ.ext q2).lt
   refine ⟨cr,by rw[ba];exact nP.cell,cZ (vs:=[.slice cr.a cr.len cr.cap, .int .i64 ((0:Nat):Int)]) rfl fun gX Fw x7 Uh=> ?_⟩
   obtain ⟨c8,M6⟩:∃c8,c8=bF.heap.size:=⟨_,rfl⟩
   rw[←M6] at Fw Fv⊢
   have bU:c8≠cC:=by have:=ke.lt;omega
   have M7:c8≠uS:=by have:=nP.lt;omega
   have M8:=qJ.ext x7
   have M9:=ke.ext x7
   have M_:=nP.ext x7
   have Na:=Ext.trans uC x7
   have Nb:w.heap.size≤c8:=by have:=uC.size;omega
   obtain ⟨nQ,sI⟩:∃nQ:World→List Value→Nat→Prop,nQ=fun J vs a=>Var J c8 [.slice cr.a cr.len cr.cap, .int .i64 ((a:Nat):Int)] aj.x3∧Src 1 J cr (aF p.body)∧Var J cC vs aj.jf∧Var J uS [.int .i64 (p.kind:Nat), .int .u64 (p.gen:Nat), .slice cr.a cr.len cr.cap] aj.nC∧Ext w J:=⟨_,rfl⟩
   have Nc:∀q,aM cr q→q≠cC:=fun q ag e=>by
     have:=AI q ag
     have:=eg.lt
     have:=bg.size
     have:=c6.lt
     omega
   have q3:∀ {J:World} {vs:List Value} {a k:Nat} {R:Ending→World→Prop},nQ J vs a→1≤k∧k≤8→a+k≤33→(∀fx,nQ fx vs (a+k)→R (.returned (.int .u64 (ca p.body a k:Nat))) fx)→Calls Tryz.prog F.jg #[.pointer (some ⟨c8,0,none⟩), .int .i64 (k:Nat)] J R:=by
     intro J vs a k R eW aa Ui lu
     rw[sI] at eW
     obtain ⟨eN,gf,kg,nR,kK⟩:=eW
     refine (MX eN gf M5 aa (by omega) (by omega)).use ?_
     rintro _ fx ⟨rfl,bp,bw⟩
     refine lu fx ?_
     rw[sI]
     exact ⟨bp,gf.az bw fun q ag e=>by have:=Fv q ag;omega,kg.az bw (fun e=>bU e.symm),nR.az bw (fun e=>M7 e.symm),Ext.dJ kK bw Nb⟩
   have qF:∀ {J:World} {vs:List Value} {a:Nat} (j:Nat) (v:Value) {K:World→Prop},nQ J vs a→j<vs.length→(∀fx,nQ fx (vs.set j v) a→K fx)→(∃u:Value,J.cell? ⟨cC,j,none⟩=some u)∧J.frozen? ⟨cC,j,none⟩=false∧aG (J.setCell ⟨cC,j,none⟩ v) K:=by
     intro J vs a j v K eW bb aJ
     rw[sI] at eW
     obtain ⟨eN,gf,kg,nR,kK⟩:=eW
     have ai:=iE J cC j v
     refine ⟨(jE kg bb).1,(jE kg bb).2,bD (aJ _ ?_)⟩
     rw[sI]
     exact ⟨eN.az ai bU,gf.az ai Nc,kE kg v,nR.az ai (fun e=>by have:=ke.lt;have:=eg.lt;omega),Ext.dJ kK ai (by omega)⟩
   have uT:∀ {J:World} {vs:List Value} {a:Nat} (j:Nat) (v:Value) {K:World→Prop},nQ J vs a→j<vs.length→(∀fx,nQ fx (vs.set j v) a→K fx)→(∃u:Value,J.cell? (Addr.add ⟨cC,0,none⟩ j)=some u)∧J.frozen? (Addr.add ⟨cC,0,none⟩ j)=false∧aG (J.setCell (Addr.add ⟨cC,0,none⟩ j) v) K:=by
     intro J vs a j v K eW bb aJ
     rw[ba,e6]
     exact qF j v eW bb aJ
   have Nd:nQ gX c7.c 0:=by rw[sI];exact ⟨Fw,M8,M9,M_,Na⟩
   have x8:∀a,a+4≤33→ca p.body a 4<4294967296:=fun a aH=>oN 4 _ (by rw[g8,nq];omega)
   have Nf:ca p.body 4 1<256:=oN 1 _ (by rw[g8,nq];omega)
   have Uj:∀a,a+8≤33→ca p.body a 8<18446744073709551616:=fun a aH=>oN 8 _ (by rw[g8,nq];omega)
   have wr:∀ {x:Nat},x<4294967296→IntKind.wrap .i64 ((x:Nat):Int)=((x:Nat):Int):=fun af=>b_ (by omega) (by omega)
   refine q3 (k:=4) Nd (by decide) (by decide) fun dF t43=>⟨_,rfl,q3 (k:=1) t43 (by decide) (by decide) fun uU t46=>⟨_,rfl,q3 (k:=4) t46 (by decide) (by decide) fun pn t49=>⟨_,rfl,?_⟩⟩⟩
   rw[wr (x8 0 (by decide)),wr (x:=ca p.body (0+4) 1) (by have:=Nf;show ca p.body 4 1<_;omega),wr (x8 (0+4+1) (by decide))]
   refine qF 0 _ t49 (by simp[c7,df.c]) fun sJ t52=>uT 1 _ t52 (by simp[c7,df.c]) fun Fx t53=>uT 2 _ t53 (by simp[c7,df.c]) fun iH t54=> ?_
   refine (q3 (k:=4) t54 (by decide) (by decide) fun e2 t55=>⟨_,rfl,q3 (k:=8) t55 (by decide) (by decide) fun x9 t58=>⟨_,rfl,q3 (k:=8) t58 (by decide) (by decide) fun x_ t61=>⟨_,rfl,q3 (k:=4) t61 (by decide) (by decide) fun Fy t64=>⟨_,rfl,?_⟩⟩⟩⟩)
   rw[wr (x8 (0+4+1+4) (by decide)),wr (x8 (0+4+1+4+4+8+8) (by decide))]
   refine uT 3 _ t64 (by simp[c7,df.c]) fun kL t67=>uT 4 _ t67 (by simp[c7,df.c]) fun sK t68=>uT 5 _ t68 (by simp[c7,df.c]) fun iI t69=> ?_
   obtain ⟨u,hu⟩:∃u,u=q1 p.body:=⟨_,rfl⟩
   obtain ⟨n,ay⟩:∃n,n=ca p.body 9 4:=⟨_,rfl⟩
   rw[sI] at t69
   obtain ⟨_,_,mM,Ng,Fz⟩:=t69
   have mM:Var iI cC u.c aj.jf:=by rw[hu];exact mM
   have fP:hK no l=if lE u n then .ok (u,n,p.gen) else .error 4:=by
     unfold hK;rw[aU,hu,ay];exact if_neg iZ
   rw[show ca p.body (0+4+1+4) 4=n from ay.symm]
   refine ⟨(u.root:Nat),mM.cell,(u.bG:Nat),by rw[ba];exact mM.cell,c2 (fun b J=>b=(!((((u.root:Nat):Int)==0)==(((u.bG:Nat):Int)==0))||decide (((u.bG:Nat):Int)>12))∧iI=J) (fun q ag=>⟨fun h=>ag _ _ ⟨by rw[h,Bool.true_or],rfl⟩,fun h=>⟨_,by rw[ba];exact mM.cell,ag _ _ ⟨by rw[h,k8],rfl⟩⟩⟩) ?_⟩
   rintro iD _ ⟨hG,rfl⟩
   refine c2 (fun b J=>b=(iD||decide (((u.root:Nat):Int)≥(n:Nat)))∧iI=J) (fun q ag=>⟨fun h=>ag _ _ ⟨by rw[h,Bool.true_or],rfl⟩,fun h=>⟨_,mM.cell,ag _ _ ⟨by rw[h,k8],rfl⟩⟩⟩) ?_
   rintro gC _ ⟨fL,rfl⟩
   refine c2 (fun b J=>b=(gC||decide (((u.map:Nat):Int)≥(n:Nat)))∧iI=J) (fun q ag=>⟨fun h=>ag _ _ ⟨by rw[h,Bool.true_or],rfl⟩,fun h=>⟨_,by rw[ba];exact mM.cell,ag _ _ ⟨by rw[h,k8],rfl⟩⟩⟩) ?_
   rintro eR _ ⟨q0,rfl⟩
   refine c2 (fun b J=>b=(eR||decide (((u.map:Nat):Int)<2))∧iI=J) (fun q ag=>⟨fun h=>ag _ _ ⟨by rw[h,Bool.true_or],rfl⟩,fun h=>⟨_,by rw[ba];exact mM.cell,ag _ _ ⟨by rw[h,k8],rfl⟩⟩⟩) ?_
   rintro eh _ ⟨En,rfl⟩
   have Nh:(eh||decide (((n:Nat):Int)>1600))= !decide (lE u n):=by
     have aT:(((u.root:Nat):Int)==0)=decide (u.root=0):=by rw[fU];simp
     have a8:(((u.bG:Nat):Int)==0)=decide (u.bG=0):=by rw[fU];simp
     rw[En,q0,fL,hG,aT,a8,fU]
     unfold lE
     by_cases U:u.root=0<;>by_cases ab:u.bG=0<;>simp[U,ab]<;>omega
   rw[Nh]
   refine ⟨fun h=> ?_,fun h=> ?_⟩
   · have po:¬lE u n:=fun bu=>by rw[eA bu] at h;cases h
     exact Fu mM rfl Fz (by rw[fP,if_neg po])
   · have bu:lE u n:=r6 fun bu=>by rw[qo bu] at h;cases h
     rw[fP,if_pos bu]
     have cg:=dz iI
     have AJ:=mM.ext cg
     have Ni:=Ng.ext cg
     have FA:cC≠uS:=by have:=ke.lt;have:=eg.lt;omega
     refine bD ⟨fun _=>False,id,ib AJ ⟨id,_,by rw[ba];exact Ni.cell,kd AJ rfl u fun kh FB sL Uk=>⟨?_,ib FB ⟨rfl,Ext.dJ (Ext.trans Fz cg) sL (by omega)⟩⟩⟩⟩
     refine ⟨sL.os,sL.tape,sL.output,sL.size,fun k aa _=> ?_⟩
     by_cases e:k=cC
     · rw[e];exact FB.trans AJ.symm
     · exact sL.block k aa e
theorem mN {s:ak} {l:List UInt8} {w:World} (ao:Src 1 w s (aF l)) (ai:s.len≤s.cap) (aB:l.length≤1000) (no:Int):
   aN Tryz.prog F.mN #[.int .i64 no, .slice s.a s.len s.cap] w (fun v J=>(match hK no l with
     | .ok (u,_,g)=>v= .tuple #[.agg u.c.toArray, .int .u64 (g:Nat), .int .i64 0]
     | .error e=>v= .tuple #[.agg c7.c.toArray, .int .u64 0, .int .i64 e])∧Ext w J):=by
 refine W.Nj no s w _ ?_
 (delta W.mN fc sM ah aE bE;dsimp only)
 refine cZ (vs:=c7.c) rfl fun ae c6 bg h6=>(mI (ao.ext bg) ai aB no).use ?_
 rintro _ av ⟨rfl,bT⟩
 have fin:∀ (u:df) (n g:Nat) (e:Int),∃cc n5 n6 n7 n8 n9 n10 n11 n12:Int,True:=fun _ _ _ _=>⟨0,0,0,0,0,0,0,0,0,trivial⟩
 cases ax:hK no l with
 |error e=>
   refine ⟨_,_,_,_,_,_,_,_,_,rfl,cZ (vs:=c7.c) rfl fun fQ AK pq Nk=>kd AK rfl c7 fun dg AL q4 Nl=>ib (u:=c7) AL (kd ((c6.ext bT).ext (Ext.dJ pq q4 (b6 _))) rfl c7 fun eu uV uW ya=>ib (u:=c7) uV ⟨rfl,?_⟩)⟩
   exact Ext.dJ (Ext.trans (Ext.trans bg bT) (Ext.dJ pq q4 (b6 _))) uW (b6 _)
 |ok r=>
   obtain ⟨u,n,g⟩:=r
   refine ⟨_,_,_,_,_,_,_,_,_,rfl,cZ (vs:=c7.c) rfl fun fQ AK pq Nk=>kd AK rfl u fun dg AL q4 Nl=>ib (u:=u) AL (kd ((c6.ext bT).ext (Ext.dJ pq q4 (b6 _))) rfl u fun eu uV uW ya=>ib (u:=u) uV ⟨rfl,?_⟩)⟩
   exact Ext.dJ (Ext.trans (Ext.trans bg bT) (Ext.dJ pq q4 (b6 _))) uW (b6 _)
end
section
theorem Nm:o1 Tryz.prog F.lG:=⟨_,(Option.some_get (show (Tryz.prog.funcs[F.lG]?).isSome=true by kernel_rfl)).symm,by kernel_rfl,by kernel_rfl⟩
theorem Nn {w:World} {s:ak} {l:List UInt8} (ao:Src 1 w s (aF l)) (aB:l.length≤1000):
   aN Tryz.prog F.pr #[.slice s.a s.len s.cap, .func (.func F.lG) #[] #[]] w (fun v J=>v= .bool (!(l.all fun c=>c==0))∧w=J):=by
 have cK:=len8 ao
 refine W.No s ⟨F.lG, #[], #[]⟩ w _ ?_
 (delta W.pr bN;dsimp only)
 refine Calls.mono (W.Np s ⟨F.lG, #[], #[]⟩ w (fun v J=>(∃i:Int,v= .int .i64 i∧(decide (i≥0))= !(l.all fun c=>c==0))∧w=J) ?_) ?_
 · (delta W.q5 aA bK cU aK;dsimp only)
   refine ⟨fun i J=>∃j:Nat,i=j∧j≤l.length∧w=J∧∀ (k:Nat) (aa:k<l.length),k<j→l[k]=0,fun i _=>((l.length:Int)-i).toNat,⟨0,rfl,ft _,rfl,fun k aa h=>by omega⟩,?_⟩
   rintro _ _ ⟨j,rfl,bb,rfl,dN⟩
   refine ⟨fun aS=> ?_,fun bS=> ?_⟩
   · have aS:j<l.length:=by have:=cG aS;omega
     obtain ⟨A,an,ad,k_⟩:=ao.at (qx aS)
     refine ⟨A,an,ad,_,k_,Nm,?_⟩
     refine Calls.mono (W.Nq (((l[j]).toNat:Nat):Int) w (fun v J=>v= .bool ((((l[j]).toNat:Nat):Int) !=0)∧w=J) ⟨rfl,rfl⟩) ?_
     rintro _ _ ⟨_,rfl,rfl,rfl⟩
     refine ⟨_,rfl,fun bU=>⟨⟨j,rfl,?_⟩,rfl⟩,fun heq=> ?_⟩
     · have:(l.all fun c=>c==0)=false:=by
         rw[List.all_eq_false]
         refine ⟨l[j],eV _,fun h=> ?_⟩
         have h:=eq_of_beq h
         rw[h] at bU
         simp at bU
       rw[this]
       exact eA (by omega)
     · have bA:l[j]=0:=by
         have:(((l[j]).toNat:Nat):Int)=0:=by simpa using heq
         exact UInt8.toNat_inj.1 (by show (l[j]).toNat=0;omega)
       rw[b_ (n:=(j:Int)+1) (by omega) (by omega)]
       refine ⟨⟨j+1,by omega,by omega,rfl,fun k aa h=> ?_⟩,?_⟩
       · rcases gd k j with U|U
         · exact dN k aa U
         · have:k=j:=by omega
           subst this;exact bA
       · show ((l.length:Int)-((j:Int)+1)).toNat<((l.length:Int)-(j:Int)).toNat
         omega
   · have bS:j=l.length:=by have:=cT bS;omega
     subst bS
     refine ⟨⟨-1,rfl,?_⟩,rfl⟩
     have:(l.all fun c=>c==0)=true:=by
       rw[uc]
       intro c ai
       obtain ⟨k,aa,rfl⟩:=oI ai
       rw[dN k aa aa];rfl
     rw[this];rfl
 · rintro _ _ ⟨_,rfl,⟨i,rfl,hi⟩,rfl⟩
   exact ⟨i,rfl,by rw[hi],rfl⟩
def fk (n no:Nat) (b:c3):df×Nat×Nat:=
 if b.all (fun c=>c==0) then (c7,0,0) else match hK no b with
   | .ok (u,_,g)=>if n≤u.root∨n≤u.map then (c7,0,1) else (u,g,2)
   | .error _=>(c7,0,1)
theorem Nr {no:Int} {l:List UInt8} {e:Int} (h:hK no l= .error e):e≠0:=by
 unfold hK at h
 split at h
 · rename_i cF he
   cases h
   exact x4 he
 · split at h
   · cases h;decide
   · split at h
     · cases h
     · cases h;decide
theorem Ns {B:Nat→Prop} {w:World} {aD no:Nat} {vs:List Value} {br:ak} {au:List c3} (al:Var w aD vs aj.sN) (hL:vs[10]? =some (.slice br.a br.len br.cap)) (ao:b2 B w br au) (aB:∀l∈au,l.length=256) (fH:no<au.length):
   aN Tryz.prog F.pt #[.pointer (some ⟨aD,0,none⟩), .int .i64 ((no:Nat):Int)] w (fun v J=>v= .tuple #[.agg (fk au.length no au[no]).1.c.toArray, .int .u64 ((fk au.length no au[no]).2.1:Nat), .int .i64 ((fk au.length no au[no]).2.2:Nat)]∧Ext w J):=by
 have lh:(au[no]).length=256:=aB _ (eV fH)
 refine W.Nt _ ((no:Nat):Int) w _ ?_
 (delta W.pt fc aW bK b1 aA ah aE bE kc yb yc;dsimp only)
 obtain ⟨cC,uR⟩:∃cC,cC=w.heap.size:=⟨_,rfl⟩
 refine cZ (vs:=c7.c) rfl fun ae c6 bg h6=> ?_
 rw[←uR] at c6⊢
 have Nu:=b2.ext ao bg
 have o4:=al.ext bg
 have gQ:ae.cell? (Addr.add ⟨aD,0,none⟩ 10)=some (.slice br.a br.len br.cap):=by
   rw[ba,o4.cell]
   exact hL
 obtain ⟨A,t,an,ad,ai,bx,_⟩:=Nu.at fH
 refine ⟨_,rfl,br,gQ,A,an,ad,t,ai,(Nn bx.1 (by omega)).use ?_⟩
 rintro _ _ ⟨rfl,rfl⟩
 have Ul:=b2.len ao
 have fin:∀ {bq:World} {us:List Value} (u:df) (n:Int) (k:Int),Ext w bq→Var bq cC us aj.jf→us.length=6→((fk au.length no au[no]).1=u∧(((fk au.length no au[no]).2.1:Nat):Int)=n∧(((fk au.length no au[no]).2.2:Nat):Int)=k)→
     cd bq ⟨cC,0,none⟩ [.int .i64 (u.root:Nat), .int .i64 (u.bG:Nat), .int .i64 (u.map:Nat), .int .u64 (u.clock:Nat), .int .u64 (u.fX:Nat), .int .i64 (u.keys:Nat)]∧(6:Nat)=6∧
       aG (setCells bq ⟨cC,0,none⟩ 0 [.int .i64 (u.root:Nat), .int .i64 (u.bG:Nat), .int .i64 (u.map:Nat), .int .u64 (u.clock:Nat), .int .u64 (u.fX:Nat), .int .i64 (u.keys:Nat)]) fun bF=>
       ∃dM:Int,bF.cell? ⟨cC,0,none⟩=some (.int .i64 dM)∧∃cH:Int,bF.cell? (Addr.add ⟨cC,0,none⟩ 1)=some (.int .i64 cH)∧∃aX:Int,bF.cell? (Addr.add ⟨cC,0,none⟩ 2)=some (.int .i64 aX)∧
       ∃cc:Int,bF.cell? (Addr.add ⟨cC,0,none⟩ 3)=some (.int .u64 cc)∧∃n5:Int,bF.cell? (Addr.add ⟨cC,0,none⟩ 4)=some (.int .u64 n5)∧∃n6:Int,bF.cell? (Addr.add ⟨cC,0,none⟩ 5)=some (.int .i64 n6)∧
       (Value.tuple #[.agg #[.int .i64 dM, .int .i64 cH, .int .i64 aX, .int .u64 cc, .int .u64 n5, .int .i64 n6], .int .u64 n, .int .i64 k]= .tuple #[.agg (fk au.length no au[no]).1.c.toArray, .int .u64 ((fk au.length no au[no]).2.1:Nat), .int .i64 ((fk au.length no au[no]).2.2:Nat)]∧Ext w bF):=by
   intro bq us u n k af pg AM aC
   obtain ⟨aE,cU,aW⟩:=aC
   rw[aE,cU,aW]
   exact kd pg AM u fun bF nP jG Fs=>ib nP ⟨rfl,Ext.dJ af jG (by omega)⟩
 refine ⟨_,rfl,fun bI=> ?_,fun bI=> ?_⟩
 · have bA:((au[no]).all fun c=>c==0)=true:=by revert bI;cases (au[no]).all fun c=>c==0<;>simp
   refine fin c7 0 0 bg c6 rfl ?_
   unfold fk
   rw[if_pos bA]
   exact ⟨rfl,rfl,rfl⟩
 have bA:¬((au[no]).all fun c=>c==0)=true:=by revert bI;cases (au[no]).all fun c=>c==0<;>simp
 refine (mN bx.1 bx.2.1 (by omega) ((no:Nat):Int)).use ?_
 rintro v bH ⟨ax,sH⟩
 have yd:=bg.trans sH
 have kf:=c6.ext sH
 cases fP:hK ((no:Nat):Int) au[no] with
 |error e=>
   rw[fP] at ax
   obtain rfl:v=_:=ax
   refine ⟨_,_,_,_,_,_,_,e,rfl,cZ (vs:=c7.c) rfl fun de uX q6 FC=>kd uX rfl c7 fun cM sO AN Nv=> ?_⟩
   have lH:Ext bH cM:=Ext.dJ q6 AN (b6 _)
   have cg:=dz cM
   have bU:=Nr fP
   refine bD ⟨fun _=>⟨fun _=>fin c7 0 1 ((yd.trans lH).trans cg) ((kf.ext lH).ext cg) rfl ?_,fun h=>(by cases h)⟩,fun h=> ?_⟩
   · unfold fk
     rw[if_neg bA,fP]
     exact ⟨rfl,rfl,rfl⟩
   · simp at h;exact absurd h bU
 |ok r=>
   obtain ⟨u,m,g⟩:=r
   rw[fP] at ax
   obtain rfl:v=_:=ax
   refine ⟨_,_,_,_,_,_,_,0,rfl,cZ (vs:=c7.c) rfl fun de uX q6 FC=>kd uX rfl u fun cM sO AN Nv=> ?_⟩
   have lH:Ext bH cM:=Ext.dJ q6 AN (b6 _)
   have cg:=dz cM
   have eo:=(yd.trans lH).trans cg
   have ke:=sO.ext cg
   have AO:=(kf.ext lH).ext cg
   have FD:cM.drew.cell? (Addr.add ⟨aD,0,none⟩ 10)=some (.slice br.a br.len br.cap):=by
     rw[ba,(al.ext eo).cell]
     exact hL
   have FE:fk au.length no au[no]=if au.length≤u.root∨au.length≤u.map then (c7,0,1) else (u,g,2):=by
     unfold fk
     rw[if_neg bA,fP]
   have mK:au.length≤u.root∨au.length≤u.map→(fk au.length no au[no]).1=c7∧(((fk au.length no au[no]).2.1:Nat):Int)=0∧(((fk au.length no au[no]).2.2:Nat):Int)=1:=fun h=>by
     rw[FE,if_pos h];exact ⟨rfl,rfl,rfl⟩
   refine bD ⟨fun h=>(by cases h),fun _=>⟨id,_,ke.cell,_,rfl,id,br,FD,fun aC=>⟨fun _=>fin c7 0 1 eo AO rfl (mK (.inl ?_)),fun h=>(by cases h)⟩,fun aC=>⟨id,_,by rw[ba];exact ke.cell,_,rfl,id,br,FD,fun hm=>fin c7 0 1 eo AO rfl (mK (.inr ?_)),fun hm=> ?_⟩⟩⟩
   · have:=cG aC;omega
   · have:=cG hm;omega
   · have U:=cT aC
     have ab:=cT hm
     refine ib ke (fin u ((g:Nat):Int) 2 eo AO rfl ?_)
     rw[FE,if_neg (by omega)]
     exact ⟨rfl,rfl,rfl⟩
end
section
theorem ye {zs:List Int} (aC:zs.Pairwise fun a b=>a≤b) {i j:Nat} (uY:i≤j) (bb:j<zs.length):zs[i]≤zs[j]:=by
 rcases gd i j with h|h
 · exact wV.1 aC i j (by omega) bb h
 · have:i=j:=by omega
   subst this;exact Int.le_refl _
theorem FF {zs:List Int} (aC:zs.Pairwise fun a b=>a≤b) {k:Nat} (aa:k≤zs.length) (bU:∀ (j:Nat) (bb:j+1<zs.length),j+1<k→zs[j]≠zs[j+1]):(zs.take k).Pairwise fun a b=>a<b:=by
 refine wV.2 fun i j hi bb uY=> ?_
 rw[g8] at hi bb
 rw[w3,w3]
 have U:=ye aC (i:=i) (j:=j-1) (by omega) (by omega)
 have ab:=ye aC (i:=j-1) (j:=j) (by omega) (by omega)
 have aw:=bU (j-1) (by omega) (by omega)
 have e:j-1+1=j:=by omega
 simp only[e] at aw
 omega
theorem Nw {w:World} {s:ak} {zs:List Int} (h:bd 1 aj.int w s (zs.map encZ)) (aC:zs.Pairwise fun a b=>a≤b) (aB:zs.length≤1000000):
   aN Tryz.prog F.pv #[.slice s.a s.len s.cap] w (fun v J=>∃ (ar:ak) (ys:List Int),v= .slice ar.a ar.len ar.cap∧bd 1 aj.int J ar (ys.map encZ)∧ys.Pairwise (fun a b=>a<b)∧(∀x,x∈ys↔x∈zs)∧aq (aM s) w J∧∀q,aM ar q↔aM s q):=by
 have cK:s.len=zs.length:=by have:=h.1;rw[eB] at this;omega
 refine W.Nx s w _ ?_
 (delta W.pv aA bK aE aK st;dsimp only)
 refine ⟨fun aS=> ?_,fun bS=> ?_⟩
 · have aS:=cG aS
   refine ⟨s,zs,rfl,h,?_,fun x=>Iff.rfl, .refl _ _,fun q=>Iff.rfl⟩
   match zs,cK with
   | [],_=>exact List.Pairwise.nil
   | [a],_=>exact List.pairwise_singleton _ _
   |a::b::l,cK=>simp at cK;omega
 have bS:=cT bS
 obtain ⟨b,gB,ad,_⟩:∃b c,s.a=some ⟨b,0,none⟩∧bo w b c aj.int:=by
   rcases h.2.2.2 with ⟨_,ai⟩|⟨b,c,ad,dm,_⟩
   · have:=h.2.1;omega
   · exact ⟨b,c,ad,dm⟩
 have uZ:=h.2.1
 refine ⟨fun n J=>∃k:Nat,n=(k:Int)∧1≤k∧k≤zs.length∧Ext w J∧∀ (j:Nat) (bb:j+1<zs.length),j+1<k→zs[j]≠zs[j+1],
   fun n _=>((zs.length:Int)-n).toNat,⟨1,rfl,b6 _,by omega, .refl _ _,fun j bb U=>by omega⟩,?_⟩
 rintro _ a_ ⟨k,rfl,fv,j4,af,bU⟩
 have yf:∀ {J:World} {cur:List Int},bd 1 aj.int J s (cur.map encZ)→∀ (j:Nat) (bb:j<cur.length),J.cell? ⟨b,j,none⟩=some (.int .i64 cur[j]):=fun {J cur} a6 j bb=>by
   obtain ⟨xm,c,iA,_,_,_,_,kA,_⟩:=a6.cell (i:=j) (v:=encZ cur[j]) (by rw[qn,e7 bb];rfl)
   rw[ad] at iA;cases iA
   exact kA
 have lD:∀n:Nat,(Addr.mk b 0 none).add (Int.toNat ((n:Nat):Int)*1)=⟨b,n,none⟩:=fun n=>by rw[eC,ba,e6,fb]
 refine ⟨fun aS=> ?_,fun qE=> ?_⟩
 · have aa:k<zs.length:=by
     have:((k:Nat):Int)<((s.len:Nat):Int):=cG aS
     omega
   have cg:=dz a_
   have bt:=(h.ext af).ext cg
   have oR:IntKind.wrap .i64 (((k:Nat):Int)-1)=((k-1:Nat):Int):=by rw[b_ (by omega) (by omega)];omega
   rw[oR]
   refine bD ⟨_,ad,⟨by omega,by show ((k:Nat):Int)<((s.len:Nat):Int);omega⟩,id,zs[k],by rw[lD];exact yf bt k aa,_,ad,⟨by omega,by show ((k-1:Nat):Int)<((s.len:Nat):Int);omega⟩,id,zs[k-1],by rw[lD];exact yf bt (k-1) (by omega),fun heq=> ?_,fun AP=> ?_⟩
   rotate_left
   · have AP:zs[k]≠zs[k-1]:=by simpa using AP
     have lI:IntKind.wrap .i64 (((k:Nat):Int)+1)=((k+1:Nat):Int):=by rw[b_ (by omega) (by omega)];omega
     rw[lI]
     refine ⟨⟨k+1,rfl,by omega,by omega,Ext.trans af cg,fun j bb AQ=> ?_⟩,by show ((zs.length:Int)-((k+1:Nat):Int)).toNat<((zs.length:Int)-((k:Nat):Int)).toNat;omega⟩
     by_cases e:j+1=k
     · subst e
       intro cj
       exact AP (by rw[←cj];rfl)
     · exact bU j bb (by omega)
   have heq:zs[k]=zs[k-1]:=by simpa using heq
   refine ⟨⟨by omega,by show ((k:Nat):Int)≤((s.len:Nat):Int);omega⟩,fun n12 n13 J=>∃ (m i:Nat) (cur:List Int),n12=(i:Int)∧n13=(m:Int)∧1≤m∧k+m≤zs.length∧i<k+m∧k≤i∧cur.length=zs.length∧bd 1 aj.int J s (cur.map encZ)∧aq (aM s) w J∧(cur.take i).Pairwise (fun a b=>a<b)∧(∀x,x∈cur.take i↔x∈zs.take (k+m))∧∀ (j:Nat) (U:j<cur.length) (ab:j<zs.length),i≤j→cur[j]=zs[j],
     fun _ n _=>((zs.length:Int)-n).toNat,⟨1,k,zs,rfl,rfl,b6 _,by omega,by omega,b6 _,rfl,bt,(Ext.trans af cg).mono fun _ _ h=>h.elim,FF aC j4 bU,fun x=> ?_,fun _ _ _ _=>rfl⟩,?_⟩
   · rw[mc aa,gv,fE]
     constructor
     · exact .inl
     · rintro (cj|cj)
       · exact cj
       · rw[cj,heq]
         exact List.mem_iff_getElem.2 ⟨k-1,by rw[g8];omega,by rw[w3]⟩
   rintro _ _ dg ⟨m,i,cur,rfl,rfl,Um,Un,Uo,ic,kA,a6,ai,aU,fj,yg⟩
   have Ny:b7 s.a 1 (Int.toNat ((k:Nat):Int)) s.cap=some ⟨b,k,none⟩:=by
     rw[ad,eC,xw (by omega),e6,fb]
   have AR:∀n:Nat,(Addr.mk b k none).add (Int.toNat ((n:Nat):Int)*1)=⟨b,k+n,none⟩:=fun n=>by rw[eC,ba,fb]
   rw[Ny,eC]
   refine ⟨fun AS=> ?_,fun AT=> ?_⟩
   · have hm:k+m<zs.length:=by
       have:((m:Nat):Int)<((s.len-k:Nat):Int):=cG AS
       omega
     have em:IntKind.wrap .i64 (((m:Nat):Int)-1)=((m-1:Nat):Int):=by rw[b_ (by omega) (by omega)];omega
     have Nz:IntKind.wrap .i64 (((m:Nat):Int)+1)=((m+1:Nat):Int):=by rw[b_ (by omega) (by omega)];omega
     rw[em,Nz]
     have AU:=dz dg
     have gw:=a6.ext AU
     have nS:zs[k+m-1]≤zs[k+m]:=ye aC (by omega) hm
     have aT:cur[k+m]=zs[k+m]:=yg _ (by omega) hm (by omega)
     have a8:cur[k+m-1]=zs[k+m-1]:=yg _ (by omega) (by omega) (by omega)
     have bN:dg.drew.cell? ⟨b,k+m,none⟩=some (.int .i64 zs[k+m]):=by rw[yf gw (k+m) (by omega),aT]
     have cL:dg.drew.cell? ⟨b,k+(m-1),none⟩=some (.int .i64 zs[k+m-1]):=by
       have:k+(m-1)=k+m-1:=by omega
       rw[this,yf gw (k+m-1) (by omega),a8]
     have Up:(k+(m+1))=(k+m)+1:=by omega
     refine c2 (fun n25 de=>∃ (pw:Nat) (px:List Int),n25=(pw:Int)∧pw<k+m+1∧k≤pw∧px.length=zs.length∧bd 1 aj.int de s (px.map encZ)∧aq (aM s) w de∧(px.take pw).Pairwise (fun a b=>a<b)∧(∀x,x∈px.take pw↔x∈zs.take (k+m+1))∧∀ (j:Nat) (U:j<px.length) (ab:j<zs.length),pw≤j→px[j]=zs[j]) (fun q ag=>bD ⟨_,rfl,⟨by omega,by show ((m:Nat):Int)<((s.len-k:Nat):Int);omega⟩,id,zs[k+m],by rw[AR];exact bN,_,rfl,⟨by omega,by show ((m-1:Nat):Int)<((s.len-k:Nat):Int);omega⟩,id,zs[k+m-1],by rw[AR];exact cL,fun ax=> ?_,fun ax=> ?_⟩) ?_
     · have ax:zs[k+m]≠zs[k+m-1]:=by simpa using ax
       have NA:IntKind.wrap .i64 (((i:Nat):Int)+1)=((i+1:Nat):Int):=by rw[b_ (by omega) (by omega)];omega
       have FG:i<s.len:=by omega
       obtain ⟨xm,Uq,iA,dm,dn,_,FH,NB,_⟩:=gw.cell (i:=i) (v:=encZ (cur[i]'(by omega))) (by rw[qn,e7 (by omega)];rfl)
       rw[ad] at iA;cases iA
       have uO:=gw.set (i:=i) ad (.int .i64 zs[k+m])
       have NC:(cur.map encZ).set i (.int .i64 zs[k+m])=(cur.set i zs[k+m]).map encZ:=by rw[List.map_set]
       rw[NC] at uO
       refine ⟨_,rfl,⟨by omega,by show ((m:Nat):Int)<((s.len-k:Nat):Int);omega⟩,zs[k+m],by rw[AR];exact bN,_,ad,⟨by omega,by show ((i:Nat):Int)<((s.len:Nat):Int);omega⟩,⟨_,by rw[lD];exact NB⟩,by rw[lD];exact bo.frozen dm _ rfl,?_⟩
       rw[lD,NA]
       refine bD (ag _ _ ⟨i+1,cur.set i zs[k+m],rfl,by omega,by omega,by rw[hZ];exact kA,uO,?_,?_,fun x=> ?_,fun j U ab uY=> ?_⟩)
       · exact (dv ai (AU.mono fun _ _ h=>h.elim) fun q _ h=>h).trans ((iE _ _ _ _).mono fun q _ e=>⟨_,ad,e.symm⟩)
       · rw[mc (by rw[hZ];omega),List.take_set_of_le (b6 _),r9]
         refine List.pairwise_append.2 ⟨aU,List.pairwise_singleton _ _,fun y aZ z bI=> ?_⟩
         rw[fE.1 bI]
         obtain ⟨a,aH,rfl⟩:=oI ((fj y).1 aZ)
         rw[g8] at aH
         rw[w3]
         have:=ye aC (i:=a) (j:=k+m-1) (by omega) (by omega)
         omega
       · rw[mc (by rw[hZ];omega),List.take_set_of_le (b6 _),r9,mc hm,gv,gv,fj]
       · rw[List.getElem_set_ne (by omega)]
         exact yg j (by omega) ab (by omega)
     · have ax:zs[k+m]=zs[k+m-1]:=by simpa using ax
       refine ag _ _ ⟨i,cur,rfl,by omega,ic,kA,gw,dv ai (AU.mono fun _ _ h=>h.elim) fun q _ h=>h,aU,fun x=> ?_,yg⟩
       rw[fj,mc hm,gv,fE]
       constructor
       · exact .inl
       · rintro (cj|cj)
         · exact cj
         · rw[cj,ax]
           exact List.mem_iff_getElem.2 ⟨k+m-1,by rw[g8];omega,by rw[w3]⟩
     · rintro _ de ⟨pw,px,rfl,bp,bw,bL,cx,dX,ND,NF,NG⟩
       exact ⟨⟨m+1,pw,px,rfl,rfl,by omega,by omega,by omega,bw,bL,cx,dX,ND,NF,NG⟩,by show ((zs.length:Int)-((m+1:Nat):Int)).toNat<((zs.length:Int)-((m:Nat):Int)).toNat;omega⟩
   · have hm:k+m=zs.length:=by
       have:¬((m:Nat):Int)<((s.len-k:Nat):Int):=cT AT
       omega
     rw[hm,oJ] at fj
     rw[eC,NH]
     obtain ⟨c,dm,dn,u0⟩:∃c,bo dg b c aj.int∧c.size=s.cap∧c.toList.take s.len=cur.map encZ:=by
       rcases a6.2.2.2 with ⟨_,FI⟩|⟨xm,c,U,ab,aw,aL⟩
       · omega
       · rw[ad] at U;cases U
         exact ⟨c,ab,by rw[aw,fb],by rw[fb] at aL;exact aL⟩
     have NI:=a6.2.2.1
     have bt:∀z:Value,z= .int .i64 0→z.cells.size=1:=fun z e=>by rw[e];rfl
     obtain ⟨FJ,qW,NJ⟩:=NK (P:=Tryz.prog) (w:=dg) (T:=aj.dD) (o:=aj.t) (n:=s.len-i) (c:=s.cap-i) (A:=⟨b,i,none⟩) (z:= .int .i64 0) (sz:=1) (by kernel_rfl) ((Option.some_get (show (Tryz.prog.info? aj.int).isSome=true by kernel_rfl)).symm) (by kernel_rfl) rfl (by omega) (fun FJ lJ=>by
       refine bo.fG dm _ _ (by rw[lJ];simp[Builtin.zeroCells,Value.cells];omega) fun u hu=> ?_
       rw[lJ] at hu
       simp only[Builtin.zeroCells,Array.toList_map,eK] at hu
       obtain ⟨j,bb,rfl⟩:=hu
       have:∀n,n<1→(#[Value.int .i64 0]:Array Value)[n]! = .int .i64 0:=fun n ay=>by
         have:n=0:=by omega
         subst this;rfl
       have NL:j%1<1:=by omega
       have:=this (j%1) NL
       show Plain ((#[Value.int .i64 0]:Array Value)[j%1]!)
       rw[this];trivial)
     have FK:b7 s.a 1 (Int.toNat ((i:Nat):Int)) s.cap=some ⟨b,i,none⟩:=by rw[ad,eC,xw (by omega),e6,fb]
     rw[eC] at FK
     refine ⟨⟨by omega,by show ((i:Nat):Int)≤((s.len:Nat):Int);omega⟩,_,_,by rw[FK];exact NJ,⟨by omega,by show ((i:Nat):Int)≤((s.cap:Nat):Int);omega⟩,⟨s.a,i,s.cap⟩,cur.take i,rfl,?_,aU,fj,?_,fun q=>Iff.rfl⟩
     · rw[ad]
       refine bd.mk' (bo.qF dm FJ) (by simp;omega) (by omega) NI (by rw[sf,dn,fb]) ?_
       rw[uz _ _ _ (by omega),fb,gI,List.take_append_of_le_length (by simp;omega),List.take_take,Nat.min_self]
       rw[List.map_take,←u0,List.take_take,Nat.min_eq_left (by omega)]
     · exact ai.trans (aq.mono (W:=fun q=>q=b) (aq.uq (.refl _ _) _ 0) (fun q _ ag=>⟨_,ad,ag.symm⟩))
 · exact ⟨s,zs,rfl,h.ext af,by
     have aa:k=zs.length:=by
       have:¬((k:Nat):Int)<((s.len:Nat):Int):=cT qE
       omega
     have U:=FF aC j4 bU
     rw[aa,oJ] at U
     exact U,fun x=>Iff.rfl,af.mono fun _ _ h=>h.elim,fun q=>Iff.rfl⟩
end
end Go.Proofs.YtmhhgpogjpbglaaGreat
namespace Go.Proofs.YtmhhgpogjpbglaaGreat
open Go Go.Proofs Go.Shelf
def NM:Go.Shelf.Ren:=⟨fun|5=>104|8=>159|7=>158|19=>206|20=>207|10=>197|11=>198|12=>199|13=>200|14=>201|15=>202|16=>203|17=>204|18=>205|30=>231|31=>232|32=>233|33=>234|34=>235|35=>236|40=>246|n=>n,fun|23=>75|25=>3|3=>3|32=>85|22=>75|0=>0|44=>113|46=>30|4=>4|36=>270|35=>269|41=>154|5=>5|9=>9|53=>300|57=>303|63=>311|64=>176|n=>n,fun|n=>n⟩
theorem FL:Go.Proofs.SlLaysM.n5 Tryz.prog NM:={
 mixed:=by kernel_rfl
 f5:=⟨Tryz.f104.name,by decide,Tryz.func104.trans (congrArg some (by kernel_rfl))⟩
 f7:=⟨Tryz.f158.name,by decide,Tryz.func158.trans (congrArg some (by kernel_rfl))⟩
 f8:=Tryz.func159.trans (congrArg some (by kernel_rfl))
 f10:=⟨Tryz.f197.name,by decide,Tryz.func197.trans (congrArg some (by kernel_rfl))⟩
 f11:=⟨Tryz.f198.name,by decide,Tryz.func198.trans (congrArg some (by kernel_rfl))⟩
 f12:=⟨Tryz.f199.name,by decide,Tryz.func199.trans (congrArg some (by kernel_rfl))⟩
 f13:=⟨Tryz.f200.name,by decide,Tryz.func200.trans (congrArg some (by kernel_rfl))⟩
 f14:=⟨Tryz.f201.name,by decide,Tryz.func201.trans (congrArg some (by kernel_rfl))⟩
 f15:=⟨Tryz.f202.name,by decide,Tryz.func202.trans (congrArg some (by kernel_rfl))⟩
 f16:=⟨Tryz.f203.name,by decide,Tryz.func203.trans (congrArg some (by kernel_rfl))⟩
 f17:=⟨Tryz.f204.name,by decide,Tryz.func204.trans (congrArg some (by kernel_rfl))⟩
 f18:=⟨Tryz.f205.name,by decide,Tryz.func205.trans (congrArg some (by kernel_rfl))⟩
 f19:=Tryz.func206.trans (congrArg some (by kernel_rfl))
 f20:=Tryz.func207.trans (congrArg some (by kernel_rfl))
 f30:=⟨Tryz.f231.name,by decide,Tryz.func231.trans (congrArg some (by kernel_rfl))⟩
 f31:=Tryz.func232.trans (congrArg some (by kernel_rfl))
 f32:=Tryz.func233.trans (congrArg some (by kernel_rfl))
 f33:=⟨Tryz.f234.name,by decide,Tryz.func234.trans (congrArg some (by kernel_rfl))⟩
 f34:=⟨Tryz.f235.name,by decide,Tryz.func235.trans (congrArg some (by kernel_rfl))⟩
 f35:=⟨Tryz.f236.name,by decide,Tryz.func236.trans (congrArg some (by kernel_rfl))⟩
 f40:=⟨Tryz.f246.name,by decide,Tryz.func246.trans (congrArg some (by kernel_rfl))⟩
 t0:=Tryz.underlying0
 a0:=Tryz.isAgg0
 z0:=Tryz.sizeOf0
 v0:=Tryz.zeroValue0
 t3:=Tryz.underlying3
 a3:=Tryz.isAgg3
 z3:=Tryz.sizeOf3
 v3:=Tryz.zeroValue3
 t4:=Tryz.underlying4
 a4:=Tryz.isAgg4
 z4:=Tryz.sizeOf4
 v4:=Tryz.zeroValue4
 t5:=Tryz.underlying5
 a5:=Tryz.isAgg5
 z5:=Tryz.sizeOf5
 v5:=Tryz.zeroValue5
 t9:=Tryz.underlying9
 a9:=Tryz.isAgg9
 z9:=Tryz.sizeOf9
 v9:=Tryz.zeroValue9
 t22:=Tryz.underlying75
 a22:=Tryz.isAgg75
 z22:=Tryz.sizeOf75
 v22:=Tryz.zeroValue75
 t23:=Tryz.underlying75
 a23:=Tryz.isAgg75
 z23:=Tryz.sizeOf75
 v23:=Tryz.zeroValue75
 t25:=Tryz.underlying3
 a25:=Tryz.isAgg3
 z25:=Tryz.sizeOf3
 v25:=Tryz.zeroValue3
 t32:=Tryz.underlying85
 a32:=Tryz.isAgg85
 z32:=Tryz.sizeOf85
 v32:=Tryz.zeroValue85
 t35:=Tryz.underlying269
 a35:=Tryz.isAgg269
 z35:=Tryz.sizeOf269
 v35:=Tryz.zeroValue269
 t36:=Tryz.underlying270
 a36:=Tryz.isAgg270
 z36:=Tryz.sizeOf270
 v36:=Tryz.zeroValue270
 t41:=Tryz.underlying154
 a41:=Tryz.isAgg154
 z41:=Tryz.sizeOf154
 v41:=Tryz.zeroValue154
 t44:=Tryz.underlying113
 a44:=Tryz.isAgg113
 z44:=Tryz.sizeOf113
 v44:=Tryz.zeroValue113
 t46:=Tryz.underlying30
 a46:=Tryz.isAgg30
 z46:=Tryz.sizeOf30
 v46:=Tryz.zeroValue30
 t53:=Tryz.underlying300
 a53:=Tryz.isAgg300
 z53:=Tryz.sizeOf300
 v53:=Tryz.zeroValue300
 t57:=Tryz.underlying303
 a57:=Tryz.isAgg303
 z57:=Tryz.sizeOf303
 v57:=Tryz.zeroValue303
 t63:=Tryz.underlying311
 a63:=Tryz.isAgg311
 z63:=Tryz.sizeOf311
 v63:=Tryz.zeroValue311
 t64:=Tryz.underlying176
 a64:=Tryz.isAgg176
 z64:=Tryz.sizeOf176
 v64:=Tryz.zeroValue176}
end Go.Proofs.YtmhhgpogjpbglaaGreat
namespace Go.Proofs.YtmhhgpogjpbglaaGreat
open Go bl
section
theorem NN {w:World} {b n:Nat} {c:Array Value} {T:TypeId} {os:Array Obj} {zs:List Int} (h:bo w b c T) (bI:zs.length≤c.size):
   ∃py:Array Value,bo (Go.Sort.grow (Go.Sort.putRow (Value.int .i64) (Go.Sort.ahead w n) b 0 zs.toArray) os) b py T∧py.size=c.size∧py.toList.take zs.length=zs.map encZ∧aq (fun q=>q=b) w (Go.Sort.grow (Go.Sort.putRow (Value.int .i64) (Go.Sort.ahead w n) b 0 zs.toArray) os):=by
 have aS:=h.lt
 have FM:∀k,k<w.heap.size→(Go.Sort.grow (Go.Sort.putRow (Value.int .i64) (Go.Sort.ahead w n) b 0 zs.toArray) os).heap[k]? =(w.heap.modify b (Go.Sort.onCells (Go.Sort.putCells (Value.int .i64) 0 zs.toArray)))[k]? :=fun k aa=>by
   show ((w.heap.modify b _)++os)[k]? =_
   rw[Array.getElem?_append_left (by simpa using aa)]
 refine ⟨Go.Sort.putCells (Value.int .i64) 0 zs.toArray c,?_,by simp[Go.Sort.putCells],?_,rfl,rfl,rfl,?_,fun k aa bU=> ?_⟩
 · unfold bo at h⊢
   rw[FM b aS,w4,if_pos rfl,h]
   rfl
 · apply List.ext_getElem?
   intro i
   rw[List.getElem?_take]
   split
   · rename_i hi
     rw[Array.getElem?_toList,Go.Sort.putCells,Array.getElem?_mapIdx,Array.getElem?_eq_getElem (by omega),qp,if_pos ⟨ft _,by simpa using hi⟩,qn,e7 hi]
     simp[hi]
   · rename_i hi
     rw[ug (by simpa using hi)]
 · show w.heap.size≤((w.heap.modify b _)++os).size
   simp
 · rw[FM k aa,w4,if_neg (fun e=>bU e.symm)]
theorem NO {w:World} {s:ak} {zs:List Int} (h:bd 1 aj.int w s (zs.map encZ)) (aB:zs.length≤1000000):
   aN Tryz.prog F.FN #[.slice s.a s.len s.cap] w (fun v J=>v= .tuple #[]∧aq (aM s) w J∧∃ys:List Int,bd 1 aj.int J s (ys.map encZ)∧ys.Perm zs∧ys.Pairwise fun a b=>a≤b):=by
 have cK:s.len=zs.length:=by have:=h.1;rw[eB] at this;omega
 rcases Nat.eq_zero_or_pos zs.length with bA|bA
 · have ax:zs=[]:=r4.1 bA
   have e:s.len=0:=by omega
   rw[e]
   refine Calls.mono (AnyM.slices_Sort_int_none FL s.a s.cap w) ?_
   rintro _ _ ⟨rfl,rfl⟩
   exact ⟨_,rfl,rfl, .refl _ _,[],by rw[ax] at h;exact h,by rw[ax],List.Pairwise.nil⟩
 obtain ⟨U,ab,aw,aL⟩:=h
 rcases aL with ⟨_,bt⟩|⟨b,c,aH,ad,dn,AV⟩
 · omega
 have NP:Go.Sort.Holds (Value.int .i64) w b 0 zs.toArray:=fun j bb=>by
   have nT:j<zs.length:=by simpa using bb
   refine ⟨?_,bo.frozen ad _ rfl⟩
   rw[ad.cell,e6]
   have e:=congrArg (fun l=>l[j]?) AV
   simp only[List.getElem?_take,qn,e7 nT,qp] at e
   rw[if_pos (by omega),Array.getElem?_toList] at e
   rw[e]
   simp[nT]
 have qK:=AnyM.slices_Sort_int FL b 0 s.cap zs w NP ad.lt (by omega)
 rw[aH]
 have e:s.len=zs.length:=by omega
 rw[e]
 refine Calls.mono qK ?_
 rintro _ J ⟨rfl,n,os,rfl⟩
 obtain ⟨py,bp,bw,bL,cx⟩:=NN (n:=n) (os:=os) (zs:=zs.mergeSort fun x y=>decide (x≤y)) ad (by rw[List.length_mergeSort];omega)
 have nU:=List.mergeSort_perm zs fun x y=>decide (x≤y)
 have FO:(zs.mergeSort fun x y=>decide (x≤y)).Pairwise fun a b=>decide (a≤b)=true:=List.pairwise_mergeSort (fun a b c U ab=>by simp only[c1] at*;omega) (fun a b=>by simp only[kv,c1];omega) zs
 generalize (zs.mergeSort fun x y=>decide (x≤y))=ys at bp bw bL cx nU FO
 refine ⟨_,rfl,rfl,cx.mono fun q _ e=>⟨⟨b,0,none⟩,aH,e.symm⟩,ys,?_,nU,FO.imp fun h=>cG h⟩
 have AW:=nU.length_eq
 have bt:=bd.mk' (sz:=1) (n:=s.len) (cap:=s.cap) bp (vs:=ys.map encZ) (by rw[eB];omega) ab aw (by rw[bw];exact dn) (by rw[fb,e,←AW];exact bL)
 rw[←aH] at bt
 exact bt
end
section
def lK (jh iD gC eR eh ji gY fy:Bool):Nat:=
 jh.toNat+2*iD.toNat+4*gC.toNat+8*eR.toNat+16*eh.toNat+32*ji.toNat+64*gY.toNat+128*fy.toNat
def byteOf (f:Nat→Bool) (i:Nat):Nat:=lK (f (8*i)) (f (8*i+1)) (f (8*i+2)) (f (8*i+3)) (f (8*i+4)) (f (8*i+5)) (f (8*i+6)) (f (8*i+7))
theorem NQ:∀jh iD gC eR eh ji gY fy:Bool,lK jh iD gC eR eh ji gY fy<256:=by decide+kernel
theorem NR:∀jh iD gC eR eh ji gY fy:Bool,
   (lK jh iD gC eR eh ji gY fy).testBit 0=jh∧(lK jh iD gC eR eh ji gY fy).testBit 1=iD∧(lK jh iD gC eR eh ji gY fy).testBit 2=gC∧(lK jh iD gC eR eh ji gY fy).testBit 3=eR∧
   (lK jh iD gC eR eh ji gY fy).testBit 4=eh∧(lK jh iD gC eR eh ji gY fy).testBit 5=ji∧(lK jh iD gC eR eh ji gY fy).testBit 6=gY∧(lK jh iD gC eR eh ji gY fy).testBit 7=fy:=by decide+kernel
theorem u3 (f:Nat→Bool) (i:Nat):byteOf f i<256:=NQ _ _ _ _ _ _ _ _
theorem AX (f:Nat→Bool) (i j:Nat) (bb:j<8):(byteOf f i).testBit j=f (8*i+j):=by
 obtain ⟨bA,U,ab,aw,aL,bt,cj,gT⟩:=NR (f (8*i)) (f (8*i+1)) (f (8*i+2)) (f (8*i+3)) (f (8*i+4)) (f (8*i+5)) (f (8*i+6)) (f (8*i+7))
 have:j=0∨j=1∨j=2∨j=3∨j=4∨j=5∨j=6∨j=7:=by omega
 unfold byteOf
 rcases this with rfl|rfl|rfl|rfl|rfl|rfl|rfl|rfl<;>assumption
theorem NS {x y:Nat} (af:x<256) (aZ:y<256) (h:∀j,j<8→x.testBit j=y.testBit j):x=y:=by
 apply Nat.eq_of_testBit_eq
 intro j
 by_cases bb:j<8
 · exact h j bb
 · have p:256≤2^j:=by
     have:=Nat.pow_le_pow_right (n:=2) (by omega) (by omega:8≤j)
     simpa using this
   rw[Nat.testBit_lt_two_pow (by omega),Nat.testBit_lt_two_pow (by omega)]
theorem FP (f:Nat→Bool) (i x:Nat) (af:x<256) (h:∀j,j<8→x.testBit j=f (8*i+j)):x=byteOf f i:=
 NS af (u3 f i) fun j bb=>by rw[h j bb,AX f i j bb]
def kM (f:Nat→Bool) (k:Nat) (b:Bool):Nat→Bool:=fun i=>if i=k then b else f i
theorem NT:∀x:Nat,x<256→∀j:Nat,j<8→(j5 .u8 (Int.fdiv (x:Int) (2^(min (Int.toNat (j:Int)) 8))) 1==1)=x.testBit j:=by decide+kernel
theorem NU:∀x:Nat,x<256→∀j:Nat,j<8→sh .u8 (x:Int) (IntKind.wrap .u8 (1*2^(min (Int.toNat (j:Int)) 8)))=((x|||2^j:Nat):Int):=by decide+kernel
theorem NV:∀x:Nat,x<256→∀y:Nat,y<256→x|||y<256:=fun _ af _ aZ=>Nat.or_lt_two_pow (n:=8) af aZ
theorem NW (k:Nat):8*(k/8)+k%8=k:=Nat.div_add_mod k 8
theorem NX (f:Nat→Bool) (k:Nat):byteOf f (k/8)|||2^(k%8)=byteOf (kM f k true) (k/8):=by
 refine FP _ _ _ (NV _ (u3 _ _) _ ?_) fun j bb=> ?_
 · have:k%8<8:=k6 _ (by omega)
   have:=Nat.pow_lt_pow_right (a:=2) (by omega) this
   simpa using this
 · rw[qv,AX _ _ _ bb,uh,kM]
   by_cases h:8*(k/8)+j=k
   · rw[if_pos h]
     have:k%8=j:=by omega
     simp[this]
   · rw[if_neg h]
     have:¬k%8=j:=by omega
     simp[this]
theorem NY (f:Nat→Bool) (k i:Nat) (b:Bool) (h:i≠k/8):byteOf (kM f k b) i=byteOf f i:=by
 have e:∀j,j<8→kM f k b (8*i+j)=f (8*i+j):=fun j bb=>by
   unfold kM
   rw[if_neg]
   omega
 unfold byteOf
 rw[e 1 (by omega),e 2 (by omega),e 3 (by omega),e 4 (by omega),e 5 (by omega),e 6 (by omega),e 7 (by omega)]
 have:=e 0 (by omega)
 simp only[Nat.add_zero] at this
 rw[this]
def ec (f:Nat→Bool) (m:Nat):List Value:=(List.range m).map fun i=> .int .u8 (byteOf f i)
theorem AY (f:Nat→Bool) (m:Nat):(ec f m).length=m:=by simp[ec]
theorem yh (f:Nat→Bool) {m i:Nat} (h:i<m):(ec f m)[i]? =some (.int .u8 (byteOf f i)):=by simp[ec,h]
theorem NZ (f:Nat→Bool) (k m:Nat) (b:Bool):(ec f m).set (k/8) (.int .u8 (byteOf (kM f k b) (k/8)))=ec (kM f k b) m:=by
 apply List.ext_getElem?
 intro i
 rw[List.getElem?_set]
 by_cases hi:i<m
 · rw[yh (kM f k b) hi]
   by_cases h:k/8=i
   · subst h
     simp[AY,hi]
   · rw[if_neg h,yh _ hi,NY f k i b (by omega)]
 · have U:(ec (kM f k b) m)[i]? =none:=by simp[ec];omega
   have ab:(ec f m)[i]? =none:=by simp[ec];omega
   rw[U,ab]
   split
   · simp[AY];omega
   · rfl
end
section
theorem FQ (k:Nat):Int.tdiv (k:Int) 8=((k/8:Nat):Int):=by
 rw[Int.tdiv_eq_ediv_of_nonneg (by omega)];omega
theorem yi (k:Nat):Int.tmod (k:Int) 8=((k%8:Nat):Int):=by
 rw[ui (by omega)];omega
theorem FR {k:Nat} (h:k≤9223372036854775807):IntKind.wrap .i64 (Int.tdiv (k:Int) 8)=((k/8:Nat):Int):=by
 rw[FQ,b_ (by omega) (by omega)]
theorem N0 {s:ak} {b:Nat} (h:s.a=some ⟨b,0,none⟩):aM s b:=⟨_,h,rfl⟩
theorem FT {w:World} {s:ak} {f:Nat→Bool} {m k:Nat} (h:bd 1 aj.uint8 w s (ec f m)) (aa:k/8<m) (cb:k≤9223372036854775807):
   aN Tryz.prog F.nV #[.slice s.a s.len s.cap, .int .i64 k] w (fun v J=>v= .bool (f k)∧w=J):=by
 refine W.N1 s k w _ ?_
 (delta W.nV bK aK cU;dsimp only)
 obtain ⟨b,c,ad,dm,dn,hi,FH,ai,_⟩:=h.cell (yh f aa)
 refine ⟨by decide,_,ad,?_⟩
 rw[FR cb,yi]
 refine ⟨⟨by omega,by omega⟩,(byteOf f (k/8):Int),?_,by decide,by omega,?_,rfl⟩
 · rw[fb,eC,ba,e6];exact ai
 · rw[NT _ (u3 _ _) _ (k6 _ (by omega)),AX _ _ _ (k6 _ (by omega)),NW]
theorem N2 {w:World} {s:ak} {f:Nat→Bool} {m k:Nat} (h:bd 1 aj.uint8 w s (ec f m)) (aa:k/8<m) (cb:k≤9223372036854775807):
   aN Tryz.prog F.pz #[.slice s.a s.len s.cap, .int .i64 k] w (fun v J=>v= .tuple #[]∧bd 1 aj.uint8 J s (ec (kM f k true) m)∧aq (aM s) w J):=by
 refine W.N3 s k w _ ?_
 (delta W.pz aG bK aK cU st;dsimp only)
 obtain ⟨b,c,ad,dm,dn,hi,FH,ai,_⟩:=h.cell (yh f aa)
 have aH:(Addr.mk b 0 none).add (Int.toNat ((k/8:Nat):Int)*1)=⟨b,k/8,none⟩:=by rw[fb,eC,ba,e6]
 rw[FR cb,yi]
 refine ⟨by decide,_,ad,⟨by omega,by omega⟩,by simp,(byteOf f (k/8):Int),by rw[aH];exact ai,by decide,by omega,_,ad,⟨by omega,by omega⟩,⟨_,by rw[aH];exact ai⟩,by rw[aH];exact dm.drew.frozen _ rfl,rfl,?_,?_⟩
 · rw[aH,NU _ (u3 _ _) _ (k6 _ (by omega)),NX,←NZ]
   have hD:bd 1 aj.uint8 w.drew s (ec f m):=h.az (W:=fun _=>False) (aq.drew (.refl _ _)) (fun _ _ h=>h)
   exact hD.set ad _
 · rw[aH]
   exact aq.set (aq.drew (.refl _ _)) (fun _=>N0 ad) _
structure gm (w:World) (b n:Nat) (f g:Nat→Bool) (s1 s2:ak):Prop where
 cn:bo w b #[.int .i64 n, .slice s1.a s1.len s1.cap, .slice s2.a s2.len s2.cap] aj.lL
 now:bd 1 aj.uint8 w s1 (ec f ((n+7)/8))
 sure:bd 1 aj.uint8 w s2 (ec g ((n+7)/8))
 d1:∀k,aM s1 k→k≠b∧¬aM s2 k
 d2:∀k,aM s2 k→k≠b
 dM:1≤n
 cH:n≤1600
 N4:∀i,n≤i→f i=false
 N5:∀i,n≤i→g i=false
def sP (b:Nat) (s1 s2:ak) (k:Nat):Prop:=k=b∨aM s1 k∨aM s2 k
section
variable {w J:World} {b n:Nat} {f g:Nat→Bool} {s1 s2:ak}
theorem gm.az {W:Nat→Prop} (h:gm w b n f g s1 s2) (ai:aq W w J) (ay:∀k,sP b s1 s2 k→¬W k):gm J b n f g s1 s2:=
 ⟨h.cn.az ai (ay b (.inl rfl)),h.now.az ai fun k aa=>ay k (.inr (.inl aa)),h.sure.az ai fun k aa=>ay k (.inr (.inr aa)),h.d1,h.d2,h.dM,h.cH,h.N4,h.N5⟩
theorem gm.ext (h:gm w b n f g s1 s2) (ai:Ext w J):gm J b n f g s1 s2:=h.az ai fun _ _ h=>h
theorem gm.lt (h:gm w b n f g s1 s2):∀k,sP b s1 s2 k→k<w.heap.size:=by
 rintro k (rfl|aa|aa)
 · exact h.cn.lt
 · exact h.now.lt k aa
 · exact h.sure.lt k aa
theorem gm.gB (h:gm w b n f g s1 s2):w.cell? ⟨b,0,none⟩=some (.int .i64 n):=by rw[h.cn.cell];rfl
theorem gm.bN (h:gm w b n f g s1 s2):w.cell? ((Addr.mk b 0 none).add 1)=some (.slice s1.a s1.len s1.cap):=by rw[ba,h.cn.cell];rfl
theorem N6 (h:gm w b n f g s1 s2) (k:Int):
   aN Tryz.prog F.pA #[.pointer (some ⟨b,0,none⟩), .int .i64 k] w (fun v J=>v= .bool (decide (0≤k)&&decide (k<n))∧w=J):=by
 refine W.N7 _ k w _ ?_
 (delta W.pA aA aE;dsimp only)
 refine ⟨?_⟩
 refine ⟨fun U=>⟨_,rfl,n,h.gB,?_,rfl⟩,fun U=>⟨?_,rfl⟩⟩
 · have:0≤k:=by simpa using U
   simp[this]
 · have:¬0≤k:=by simpa using U
   simp[this]
theorem N8 (h:gm w b n f g s1 s2) (k:Int):
   aN Tryz.prog F.pB #[.pointer (some ⟨b,0,none⟩), .int .i64 k] w (fun v J=>v= .bool (decide (0≤k)&&decide (k<n)&&f k.toNat)∧w=J):=by
 have gU:=h.cH
 refine W.N9 _ k w _ ?_
 (delta W.pB b1 aA aW;dsimp only)
 refine (N6 h k).use ?_
 rintro _ _ ⟨rfl,rfl⟩
 refine ⟨_,rfl,⟨fun U=> ?_,fun U=>⟨by rw[U];rfl,rfl⟩⟩⟩
 have aC:0≤k∧k<n:=by simpa using U
 obtain ⟨m,rfl⟩:=zD aC.1
 refine ⟨_,rfl,s1,h.bN,(FT h.now (k:=m) (by omega) (by omega)).use ?_⟩
 rintro _ _ ⟨rfl,rfl⟩
 exact ⟨_,rfl,by rw[U,eC];rfl,rfl⟩
end
end
section
theorem N_:gM Tryz.prog aj.u4 aj.uint8 1 1:=⟨by kernel_rfl⟩
theorem Oa:gM Tryz.prog aj.cf aj.uint8 1 1:=⟨by kernel_rfl⟩
theorem Ob:gM Tryz.prog aj.dD aj.int 1 8:=⟨by kernel_rfl⟩
theorem Oc (n:Nat):gy Tryz.prog aj.uint8 n=(List.replicate n (.int .u8 0)).toArray:=D8 (by kernel_rfl) (by kernel_rfl) n
theorem FU (f:Nat→Bool) (m:Nat):∀v∈ec f m,Plain v:=by
 intro v al
 obtain ⟨i,_,rfl⟩:=eK.1 al
 trivial
theorem Od {w:World} {s:ak} {xs:List Value} (h:Src 1 w s xs) (aU:∀v∈xs,Plain v) (ay:s.len≤1000000):
   aN Tryz.prog F.pC #[.slice s.a s.len s.cap] w (fun v J=>∃ar:ak,v= .slice ar.a ar.len ar.cap∧bd 1 aj.uint8 J ar xs∧Ext w J∧∀k,aM ar k→w.heap.size≤k):=by
 refine W.Oe s w _ ?_
 delta W.pC aG aA ah
 refine ⟨fun aH=> ?_,fun _=> ?_⟩
 · have aH:s.a=none:=by simpa using aH
   rw[h.nil aH]
   exact ⟨⟨none,0,0⟩,rfl,bd.none _ _ _, .refl _ _,fun k aa=>(ld k aa).elim⟩
 · obtain ⟨ar,J,U,ab,aw,aL,bt,_⟩:=N_.clone (db:=aj.u4) h aU (by omega)
   exact ⟨ar,J,U,ar,rfl,ab,aL,bt⟩
theorem FV {w:World} {s:ak} {xs:List Value} (h:Src 1 w s xs) (aU:∀v∈xs,Plain v) (ay:s.len≤1000000):
   aN Tryz.prog F.iU #[.slice s.a s.len s.cap] w (fun v J=>∃ar:ak,v= .slice ar.a ar.len ar.cap∧bd 1 aj.uint8 J ar xs∧Ext w J∧∀k,aM ar k→w.heap.size≤k):=by
 refine W.DU s w _ ?_
 delta W.iU aG aA ah
 refine ⟨fun aH=> ?_,fun _=> ?_⟩
 · have aH:s.a=none:=by simpa using aH
   rw[h.nil aH]
   exact ⟨⟨none,0,0⟩,rfl,bd.none _ _ _, .refl _ _,fun k aa=>(ld k aa).elim⟩
 · obtain ⟨ar,J,U,ab,aw,aL,bt,_⟩:=Oa.clone (db:=aj.cf) h aU (by omega)
   exact ⟨ar,J,U,ar,rfl,ab,aL,bt⟩
section
variable {w J:World} {b n:Nat} {f g:Nat→Bool} {s1 s2:ak}
theorem FW {T:TypeId} {m:Nat} (h:bd 1 T w s1 (ec f m)):s1.len=m:=by
 have:=h.1
 rw[AY] at this
 omega
theorem FX {m:Nat} {u:Value} (ad:bo w b #[.int .i64 n, .slice s1.a s1.len s1.cap,u] aj.lL) (U:bd 1 aj.uint8 w s1 (ec f m)) (ax:∀k,aM s1 k→k≠b) (hm:m≤1000000):
   aN Tryz.prog F.nW #[.pointer (some ⟨b,0,none⟩)] w (fun v J=>v= .tuple #[]∧∃ki:ak,bo J b #[.int .i64 n, .slice s1.a s1.len s1.cap, .slice ki.a ki.len ki.cap] aj.lL∧
     bd 1 aj.uint8 J s1 (ec f m)∧bd 1 aj.uint8 J ki (ec f m)∧aq (fun k=>k=b) w J∧∀k,aM ki k→w.heap.size≤k):=by
 refine W.Of _ w _ ?_
 (delta W.nW aG aA aW b8 st;dsimp only)
 refine ⟨fun _=>⟨_,rfl,s1,by rw[ba,ad.cell];rfl,(Od U.src (FU f m) (by rw[FW U];exact hm)).use ?_⟩,fun h=>by simp at h⟩
 rintro _ av ⟨ki,rfl,ab,af,aI⟩
 have fL:=ad.ext af
 have bU:∀k,aM ki k→k≠b:=fun k aa e=>by have:=aI k aa;have:=ad.lt;omega
 refine ⟨ki,rfl,_,rfl,⟨_,by rw[ba,fL.cell];rfl⟩,fL.frozen _ rfl,rfl,ki,?_,?_,?_,?_,aI⟩
 · rw[ba];exact fL.set 2 _
 · exact (U.ext af).az (W:=fun k=>k=b) (aq.set (.refl _ _) (fun _=>by rw[ba]) _) ax
 · exact ab.az (W:=fun k=>k=b) (aq.set (.refl _ _) (fun _=>by rw[ba]) _) bU
 · exact (aq.gi af).set (fun _=>by rw[ba]) _
def Og (t:Nat→Bool):Nat→Nat
 |0=>0
 |k+1=>Og t k+(t k).toNat
def fz (f:Nat→Bool):Nat→List Int
 |0=> []
 |k+1=>fz f k++(if f k then [(k:Int)] else [])
def q7 (f:Nat→Bool) (k:Nat):List Value:=(fz f k).map (.int .i64)
theorem yj (f:Nat→Bool):∀k,(fz f k).length≤k
 |0=>b6 _
 |k+1=>by have:=yj f k;simp only[fz,fF];split<;>simp<;>omega
theorem Oh (h:gm w b n f g s1 s2):
   aN Tryz.prog F.pD #[.pointer (some ⟨b,0,none⟩)] w (fun v J=>∃s:ak,v= .slice s.a s.len s.cap∧bd 1 aj.int J s (q7 f n)∧Ext w J∧∀k,aM s k→w.heap.size≤k):=by
 have gU:=h.cH
 refine W.Oi _ w _ ?_
 (delta W.pD aG aA aE aW b1 ah aK;dsimp only)
 refine ⟨fun U=>by simp at U,fun _=>⟨_,rfl,n,h.gB,fun s i J=>∃k:Nat,i=k∧k≤n∧Ext w J∧bd 1 aj.int J s (q7 f k)∧∀k,aM s k→w.heap.size≤k,fun _ i _=>((n:Int)-i).toNat,
   ⟨0,rfl,by omega, .refl _ _,bd.none _ _ _,fun k aa=>(ld k aa).elim⟩,?_⟩⟩
 rintro s _ ae ⟨k,rfl,aa,af,fl,e8⟩
 refine ⟨fun aS=> ?_,fun bS=> ?_⟩
 · have u5:k<n:=by simpa using aS
   have U:=h.ext af
   refine c2 (fun ar J=>Ext w J∧bd 1 aj.int J ar (q7 f (k+1))∧∀k,aM ar k→w.heap.size≤k) (fun q ag=>⟨_,rfl,s1,U.bN,(FT U.now (k:=k) (by omega) (by omega)).use ?_⟩) ?_
   · rintro _ _ ⟨rfl,rfl⟩
     refine ⟨_,rfl,fun aI=> ?_,fun aI=> ?_⟩
     · have hlen:s.len≤k:=by
         have:=fl.1
         have:=yj f k
         simp[q7] at*
         omega
       obtain ⟨ar,J,U,ab,aw,aL,bt⟩:=Ob.push (db:=aj.dD) (xs:=[.int .i64 k]) rfl fl (by simp[Plain]) (by omega)
       refine ⟨ar,J,U,ag _ _ ⟨?_,?_,?_⟩⟩
       · exact ((aq.gi af).trans aL).mono fun k aa a6=>by have:=e8 k a6;omega
       · simpa[q7,fz,aI] using ab
       · intro j bb
         rcases bt j bb with bb|bb
         · exact e8 j bb
         · have:=af.size;omega
     · exact ag _ _ ⟨af,by simpa[q7,fz,aI] using fl,e8⟩
   · rintro ar J ⟨uG,Oj,Ol⟩
     rw[b_ (by omega) (by omega)]
     exact ⟨⟨k+1,by omega,by omega,uG,Oj,Ol⟩,(show ((n:Int)-((k:Int)+1)).toNat<((n:Int)-(k:Int)).toNat by omega)⟩
 · have u5:k=n:=by
     have:¬(k:Int)<n:=by simpa using bS
     omega
   subst u5
   exact ⟨s,rfl,fl,af,e8⟩
theorem Om (h:gm w b n f g s1 s2):
   aN Tryz.prog F.pE #[.pointer (some ⟨b,0,none⟩)] w (fun v J=>∃s:ak,v= .slice s.a s.len s.cap∧bd 1 aj.uint8 J s (ec f ((n+7)/8))∧Ext w J∧∀k,aM s k→w.heap.size≤k):=by
 have gU:=h.cH
 refine W.On _ w _ ?_
 (delta W.pE aA aW b8;dsimp only)
 refine ⟨fun U=>by simp at U,fun _=>⟨_,rfl,s1,h.bN,(FV h.now.src (FU f _) (by rw[FW h.now];omega)).use ?_⟩⟩
 rintro _ av ⟨s,rfl,ab,af,aI⟩
 exact ⟨s,rfl,s,rfl,ab,af,aI⟩
end
theorem FY (w:World) (n:Int):aN Tryz.prog F.nX #[.int .i64 n] w (fun v J=>v= .bool (decide (1≤n∧n≤1600))∧w=J):=by
 refine W.Oo n w _ ?_
 unfold W.nX
 refine ⟨?_,rfl⟩
 simp[Bool.decide_and]
theorem FZ (w:World) (n:Nat) (ay:n≤1600):aN Tryz.prog F.nY #[.int .i64 n] w (fun v J=>v= .int .i64 (((n+7)/8:Nat):Int)∧w=J):=by
 refine W.Oq n w _ ?_
 delta W.nY aK
 refine ⟨by decide,?_,rfl⟩
 rw[b_ (n:=(n:Int)+8) (by omega) (by omega),b_ (n:=(n:Int)+8-1) (by omega) (by omega),show (n:Int)+8-1=((n+7:Nat):Int) by omega,FQ,b_ (by omega) (by omega)]
theorem Ot (m:Nat):ec (fun i=>decide (i<0)) m=List.replicate m (.int .u8 0):=by
 apply List.ext_getElem
 · simp[ec]
 · intro i U ab
   simp[ec,byteOf,lK]
theorem Ou (j:Nat):kM (fun i=>decide (i<j)) j true=fun i=>decide (i<j+1):=by
 funext i
 unfold kM
 split
 · rename_i h;simp[h]
 · rename_i h;simp;omega
theorem mO (w:World) (n first:Int):
   aN Tryz.prog F.mO #[.int .i64 n, .int .i64 first] w (fun v J=>(¬(1≤n∧n≤1600∧0≤first∧first≤n)∧v= .tuple #[.pointer none, .int .i64 1]∧w=J)∨
     (1≤n∧n≤1600∧0≤first∧first≤n∧∃b s1 s2,v= .tuple #[.pointer (some ⟨b,0,none⟩), .int .i64 0]∧gm J b n.toNat (fun i=>decide (i<first.toNat)) (fun i=>decide (i<first.toNat)) s1 s2∧Ext w J∧∀k,sP b s1 s2 k→w.heap.size≤k)):=by
 refine W.Ov n first w _ ?_
 (delta W.mO aG b1 aA bN kB ah aW cL aK;dsimp only)
 refine (FY w n).use ?_
 rintro _ _ ⟨rfl,rfl⟩
 refine ⟨_,rfl,fun h=> .inl ⟨fun ai=> ?_,rfl,rfl⟩,fun h=> ?_⟩
 · simp at h;omega
 simp at h
 obtain ⟨⟨⟨jD,gU⟩,nv⟩,iV⟩:=h
 obtain ⟨n,rfl⟩:=zD (by omega:0≤n)
 obtain ⟨first,rfl⟩:=zD (by omega:0≤first)
 refine (FZ w n (by omega)).use ?_
 rintro _ _ ⟨rfl,rfl⟩
 refine ⟨_,rfl,by omega,?_⟩
 simp only[eC]
 rw[Oc]
 obtain ⟨m,hm⟩:∃m,m=(n+7)/8:=⟨_,rfl⟩
 rw[←hm]
 have fl:=bd.new (sz:=1) (T:=aj.uint8) w (List.replicate m (.int .u8 0)) m (by simp) (by show m≤2^63-1;omega)
 rw[←Ot] at fl⊢
 have an:Ext w (w.alloc (.cells (ec (fun i=>decide (i<0)) m).toArray aj.uint8)):=aq.alloc (.refl _ _) _
 generalize nN:w.alloc (.cells (ec (fun i=>decide (i<0)) m).toArray aj.uint8)=ae at*
 have dt:ae.heap.size=w.heap.size+1:=by rw[←nN];simp
 have dm:=bo.new ae #[.int .i64 (n:Int), .slice (some ⟨w.heap.size,0,none⟩) m m, .slice none 0 0] aj.lL
 have fe:=aq.alloc an (.cells #[.int .i64 (n:Int), .slice (some ⟨w.heap.size,0,none⟩) m m, .slice none 0 0] aj.lL)
 have Ow:=fl.ext (aq.alloc (.refl _ ae) (.cells #[.int .i64 (n:Int), .slice (some ⟨w.heap.size,0,none⟩) m m, .slice none 0 0] aj.lL))
 refine ⟨fun i J=>∃j:Nat,i=j∧j≤first∧Ext w J∧bo J ae.heap.size #[.int .i64 (n:Int), .slice (some ⟨w.heap.size,0,none⟩) m m, .slice none 0 0] aj.lL∧
   bd 1 aj.uint8 J ⟨some ⟨w.heap.size,0,none⟩,m,m⟩ (ec (fun i=>decide (i<j)) m),fun i _=>((first:Int)-i).toNat,⟨0,rfl,by omega,fe,dm,Ow⟩,?_⟩
 rintro _ av ⟨j,rfl,bb,af,fL,gw⟩
 refine ⟨fun aS=> ?_,fun bS=> ?_⟩
 · have xb:j<first:=by simpa using aS
   refine ⟨_,rfl,⟨some ⟨w.heap.size,0,none⟩,m,m⟩,by rw[ba,fL.cell];rfl,(N2 gw (k:=j) (by omega) (by omega)).use ?_⟩
   rintro _ bM ⟨rfl,i_,ai⟩
   rw[Ou] at i_
   rw[b_ (by omega) (by omega)]
   refine ⟨rfl,⟨j+1,by omega,by omega,?_,fL.az ai ?_,i_⟩,(show ((first:Int)-((j:Int)+1)).toNat<((first:Int)-(j:Int)).toNat by omega)⟩
   · exact ((aq.gi af).trans ai).mono fun k aa a6=>by rw[sQ] at a6;simp at a6;omega
   · intro a6
     rw[sQ] at a6
     simp at a6
     omega
 · have xb:j=first:=by
     have:¬(j:Int)<first:=by simpa using bS
     omega
   subst xb
   have F0:∀i,n≤i→decide (i<j)=false:=fun i hi=>by simp;omega
   refine (FX fL gw (fun k aa e=> ?_) (by omega)).use ?_
   · rw[sQ] at aa
     simp at aa
     omega
   rintro _ bM ⟨rfl,ki,U,ab,aw,aL,bt⟩
   have qD:=fL.lt
   refine ⟨rfl, .inr ⟨by omega,by omega,by omega,by omega,ae.heap.size,⟨some ⟨w.heap.size,0,none⟩,m,m⟩,ki,rfl,⟨U,?_,?_,fun k aa=>⟨fun e=> ?_,fun cb=> ?_⟩,fun k aa e=> ?_,by omega,by omega,F0,F0⟩,?_,?_⟩⟩
   · simp only[←hm];exact ab
   · simp only[←hm];exact aw
   · rw[sQ] at aa
     simp at aa
     omega
   · rw[sQ] at aa
     simp at aa
     have:=bt k cb
     omega
   · have:=bt k aa
     omega
   · exact ((aq.gi af).trans aL).mono fun k aa e=>by omega
   · rintro k (rfl|aa|aa)
     · omega
     · rw[sQ] at aa
       simp at aa
       omega
     · have:=bt k aa
       have:=af.size
       omega
end
section
def bitsOf (ns:List Int) (i:Nat):Bool:=((ns.getD (i/8) 0).toNat).testBit (i%8)
theorem AZ (ns:List Int) (i:Nat) (h:8*ns.length≤i):bitsOf ns i=false:=by
 unfold bitsOf
 have:ns.length≤i/8:=by omega
 simp[List.getD,ug this]
theorem Ox (ns:List Int) (h:∀n∈ns,0≤n∧n≤255):ns.map (Value.int .u8)=ec (bitsOf ns) ns.length:=by
 apply List.ext_getElem
 · simp[ec]
 · intro i U ab
   have hi:i<ns.length:=by simpa using U
   simp only[ec,List.getElem_map,List.getElem_range]
   congr 1
   obtain ⟨sR,bp⟩:=h ns[i] (eV hi)
   have:=FP (bitsOf ns) i ns[i].toNat (by omega) (fun j bb=>by
     unfold bitsOf
     have aT:(8*i+j)/8=i:=by omega
     have a8:(8*i+j)%8=j:=by omega
     rw[aT,a8]
     simp[List.getD,hi])
   rw[←this]
   omega
theorem Oy:∀x:Nat,x<256→∀j:Nat,j<8→decide (Int.fdiv (x:Int) (2^(min (Int.toNat (j:Int)) 8))>0)=(List.range 8).any (fun k=>decide (j≤k)&&x.testBit k):=by decide+kernel
section
variable {w J:World} {b n:Nat} {f g:Nat→Bool} {s1 s2:ak}
def pF (ns:List Int) (n:Nat):Prop:=ns.length=(n+7)/8∧∀i,n≤i→bitsOf ns i=false
theorem Oz {ns:List Int} {n:Nat} (aB:ns.length=(n+7)/8) (ay:0<n%8) {x:Nat} (af:x<256) (nS:ns[ns.length-1]? =some (x:Int)):
   decide (Int.fdiv (x:Int) (2^(min (Int.toNat ((n%8:Nat):Int)) 8))>0)=false↔∀i,n≤i→bitsOf ns i=false:=by
 rw[Oy x af _ (k6 _ (by omega))]
 have OA:ns.length-1=n/8:=by omega
 rw[OA] at nS
 rw[r7]
 constructor
 · intro h i hi
   rcases gd i (8*ns.length) with cj|cj
   · have e:i/8=n/8:=by omega
     unfold bitsOf
     rw[e]
     simp only[List.getD,nS,ue,eC]
     have:=h (i%8) (oH.2 (k6 _ (by omega)))
     have gT:n%8≤i%8:=by omega
     simpa[gT] using this
   · exact AZ ns i cj
 · intro h k aa
   have aa:=oH.1 aa
   by_cases gT:n%8≤k
   · have:=h (8*(n/8)+k) (by omega)
     unfold bitsOf at this
     have aT:(8*(n/8)+k)/8=n/8:=by omega
     have a8:(8*(n/8)+k)%8=k:=by omega
     rw[aT,a8] at this
     simp only[List.getD,nS,ue,eC] at this
     simp[this]
   · simp[gT]
theorem lM {s:ak} {ns:List Int} (ao:Src 1 w s (ns.map (.int .u8))) (aC:∀n∈ns,(0:Int)≤n∧n≤255) (Ur:ns.length≤1000000) (n:Int):
   aN Tryz.prog F.lM #[.slice s.a s.len s.cap, .int .i64 n] w (fun v J=>Ext w J∧((¬(1≤n∧n≤1600)∧v= .tuple #[.pointer none, .int .i64 1])∨
     (1≤n∧n≤1600∧¬pF ns n.toNat∧v= .tuple #[.pointer none, .int .i64 4])∨
     (1≤n∧n≤1600∧pF ns n.toNat∧∃b s1 s2,v= .tuple #[.pointer (some ⟨b,0,none⟩), .int .i64 0]∧gm J b n.toNat (bitsOf ns) (bitsOf ns) s1 s2∧∀k,sP b s1 s2 k→w.heap.size≤k))):=by
 have hlen:s.len=ns.length:=by have:=ao.len;simp at this;omega
 refine W.OB s n w _ ?_
 (delta W.lM aG b1 aA bN aK cU b8 cL ah;dsimp only)
 refine (FY w n).use ?_
 rintro _ _ ⟨rfl,rfl⟩
 refine ⟨_,rfl,fun h=>⟨.refl _ _, .inl ⟨by simp at h;omega,rfl⟩⟩,fun h=> ?_⟩
 have h:1≤n∧n≤1600:=by simpa using h
 obtain ⟨n,rfl⟩:=zD (by omega:0≤n)
 simp only[eC]
 refine (FZ w n (by omega)).use ?_
 rintro _ _ ⟨rfl,rfl⟩
 refine ⟨_,rfl,c2 (fun c J=>(c=true↔¬pF ns n)∧w=J) (fun q ag=>⟨fun bU=>ag _ _ ⟨?_,rfl⟩,fun heq=>⟨by decide,?_⟩⟩) ?_⟩
 · have bU:¬ns.length=(n+7)/8:=by
     intro h;rw[hlen,h] at bU;simp at bU
   exact ⟨fun _ bu=>bU bu.1,fun _=>rfl⟩
 · have heq:ns.length=(n+7)/8:=by
     simp only[bne_eq_false_iff_eq] at heq
     omega
   refine c2 (fun c J=>(c=true↔¬pF ns n)∧w=J) (fun lN F1=>⟨fun h7=> ?_,fun h7=>F1 _ _ ⟨?_,rfl⟩⟩) ?_
   · rw[yi] at h7⊢
     have F2:0<n%8:=by
       have:((n%8:Nat):Int)>0:=by simpa using h7
       omega
     have u6:ns.length-1<ns.length:=by omega
     obtain ⟨x,qP⟩:∃x:Nat,ns[ns.length-1]=(x:Int):=⟨ns[ns.length-1].toNat,by have:=aC _ (eV u6);omega⟩
     have OC:x<256:=by have:=aC _ (eV u6);omega
     have nS:ns[ns.length-1]? =some (x:Int):=by rw[e7 u6,qP]
     obtain ⟨A,an,ad,ai⟩:=ao.at (i:=ns.length-1) (v:= .int .u8 x) (by rw[qn,nS];rfl)
     rw[hlen,b_ (by omega) (by omega),show (((ns.length:Nat):Int)-1)=((ns.length-1:Nat):Int) by omega]
     rw[hlen] at ad
     refine ⟨A,an,ad,x,ai,by decide,by omega,F1 _ _ ⟨?_,rfl⟩⟩
     have yk:=Oz heq F2 OC nS
     constructor
     · intro bx bu
       have:=yk.2 bu.2
       rw[bx] at this;cases this
     · intro po
       cases ax:decide (Int.fdiv (x:Int) (2^(min (Int.toNat ((n%8:Nat):Int)) 8))>0) with
       |true=>rfl
       |false=>exact (po ⟨heq,yk.1 ax⟩).elim
   · rw[yi] at h7
     have F2:n%8=0:=by
       have:¬((n%8:Nat):Int)>0:=by simpa using h7
       omega
     constructor
     · intro h;cases h
     · intro po
       exact (po ⟨heq,fun i hi=>AZ ns i (by omega)⟩).elim
   · rintro c _ ⟨ai,rfl⟩
     exact ag _ _ ⟨ai,rfl⟩
 · rintro c _ ⟨ai,rfl⟩
   refine ⟨fun bx=>⟨.refl _ _, .inr (.inl ⟨h.1,h.2,ai.1 bx,trivial⟩)⟩,fun aI=> ?_⟩
   have bu:pF ns n:=by
     rcases Classical.em (pF ns n) with h|h
     · exact h
     · rw[ai.2 h] at aI;cases aI
   refine (FV ao (OD _ _) (by omega)).use ?_
   rintro _ av ⟨t,rfl,a6,af,e8⟩
   rw[Ox ns aC,bu.1] at a6
   have dm:=bo.new av #[.int .i64 (n:Int), .slice t.a t.len t.cap, .slice none 0 0] aj.lL
   have dO:Ext av (av.alloc (.cells #[.int .i64 (n:Int), .slice t.a t.len t.cap, .slice none 0 0] aj.lL)):=aq.alloc (.refl _ _) _
   have bU:∀k,aM t k→k≠av.heap.size:=fun k aa e=>by have:=a6.lt k aa;omega
   refine ⟨t,rfl,(FX dm (a6.ext dO) bU (by omega)).use ?_⟩
   rintro _ a_ ⟨rfl,ki,U,ab,aw,aL,bt⟩
   have dt:=af.size
   refine ⟨rfl,?_, .inr (.inr ⟨h.1,h.2,bu,av.heap.size,t,ki,rfl,⟨U,ab,aw,fun k aa=>⟨bU k aa,fun cb=> ?_⟩,fun k aa e=> ?_,by omega,by omega,bu.2,bu.2⟩,?_⟩)⟩
   · exact ((aq.gi (af.trans dO)).trans aL).mono fun k aa e=>by omega
   · have:=bt k cb
     have:=a6.lt k aa
     simp at*
     omega
   · have:=bt k aa
     simp at this
     omega
   · rintro k (rfl|aa|aa)
     · omega
     · exact e8 k aa
     · have:=bt k aa
       simp at this
       omega
end
end
section
structure Fr where
 full:Bool
 F3:Bool
 used:Bool
 no:Int
 pins:Int
 b:ak
 l:c3
def Fr.c (f:Fr):List Value:=[.bool f.full, .bool f.F3, .bool f.used, .int .i64 f.no, .int .i64 f.pins, .slice f.b.a f.b.len f.b.cap]
def fY:Fr:=⟨false,false,false,0,0,⟨none,0,0⟩,[]⟩
structure lO where
 c:Nat
 c8:Nat
 dh:List Fr
 hand:Nat
 D:aY
def u7 (C:lO) (q:Nat):Prop:=q=C.c∨q=C.c8∨c0 C.D q
structure nZ (w:World) (C:lO):Prop where
 v:Var w C.c [.pointer (some ⟨C.D.d,0,none⟩), .slice (some ⟨C.c8,0,none⟩) C.dh.length C.dh.length, .int .i64 C.hand] aj.F4
 f:bo w C.c8 (b9 Fr.c C.dh).toArray aj.lP
 dev:cB w C.D
 eN:8≤C.dh.length
 gf:C.dh.length≤64
 ax:C.hand<C.dh.length
 a7:C.c≠C.c8∧¬c0 C.D C.c∧¬c0 C.D C.c8
structure OE (X:Nat→Prop) (w:World) (C:lO) (f:Fr) (no:Nat):Prop where
 num:f.no=no
 lt:no<C.D.n
 Us:ea (fun q=>¬u7 C q∧¬X q) w f.b f.l
 len:f.l.length=256
 clean:f.F3=false→f.l=C.D.now no
structure yl (X:Nat→Prop) (w:World) (C:lO):Prop where
 pins:∀f∈C.dh,f.pins=0
 ok:∀f∈C.dh,f.full=true→∃no:Nat,OE X w C f no
 un:∀ (i j:Nat) (hi:i<C.dh.length) (bb:j<C.dh.length),(C.dh[i]).full=true→(C.dh[j]).full=true→(C.dh[i]).no=(C.dh[j]).no→i=j
 A0:∀q,X q→q<w.heap.size∧¬u7 C q
structure pG (X:Nat→Prop) (w:World) (C:lO):Prop where
 raw:nZ w C
 inv:yl X w C
section
variable {w J:World} {C:lO} {X:Nat→Prop}
theorem nZ.lt (h:nZ w C) {q:Nat} (ag:u7 C q):q<w.heap.size:=by
 rcases ag with rfl|rfl|ag
 · exact h.v.lt
 · exact bo.lt h.f
 · exact h.dev.lt ag
theorem nZ.az {W:Nat→Prop} (h:nZ w C) (ai:aq W w J) (ay:∀q,u7 C q→¬W q):nZ J C:=
 ⟨h.v.az ai (ay _ (.inl rfl)),bo.az h.f ai (ay _ (.inr (.inl rfl))),h.dev.az ai fun q ag=>ay q (.inr (.inr ag)),h.eN,h.gf,h.ax,h.a7⟩
theorem yl.az {W:Nat→Prop} (h:yl X w C) (ai:aq W w J) (ay:∀q,W q→u7 C q∨X q):yl X J C:=
 ⟨h.pins,fun f aI OF=>by
   obtain ⟨no,bp,bw,bL,cx,dX⟩:=h.ok f aI OF
   exact ⟨no,bp,bw,ea.az bL ai fun q ag hw=>by
     rcases ay q hw with U|U
     · exact ag.1 U
     · exact ag.2 U,cx,dX⟩,h.un,fun q ag=>⟨mf (h.A0 q ag).1 ai.size,(h.A0 q ag).2⟩⟩
theorem pG.az {W:Nat→Prop} (h:pG X w C) (ai:aq W w J) (ay:∀q,W q→X q):pG X J C:=
 ⟨h.raw.az ai fun q ag hw=>(h.inv.A0 q (ay q hw)).2 ag,h.inv.az ai fun q hw=> .inr (ay q hw)⟩
theorem pG.ext (h:pG X w C) (ai:Ext w J):pG X J C:=h.az ai fun _ h=>h.elim
theorem nZ.cells (h:nZ w C):w.cell? ⟨C.c,0,none⟩=some (.pointer (some ⟨C.D.d,0,none⟩))∧w.cell? (Addr.add ⟨C.c,0,none⟩ 1)=some (.slice (some ⟨C.c8,0,none⟩) C.dh.length C.dh.length)∧w.cell? (Addr.add ⟨C.c,0,none⟩ 2)=some (.int .i64 C.hand):=by
 rw[ba,ba]
 exact ⟨h.v.cell,h.v.cell,h.v.cell⟩
end
end
section
section
variable {w J:World} {C:lO} {X:Nat→Prop}
theorem OG (D:aY) (k i:Nat):(D.du k).now i=D.now i:=rfl
end
end
section
section
variable {w J:World} {C:lO} {X:Nat→Prop}
end
theorem OH (n:Nat):gy Tryz.prog aj.lP n=(b9 Fr.c (List.replicate n fY)).toArray:=by
 have bI:((Tryz.prog.info? aj.lP).bind (·.zero)).map (·.cells)=some fY.c.toArray:=by kernel_rfl
 have ai:Tryz.prog.cellsOf aj.lP=6:=by kernel_rfl
 unfold gy
 rw[ai]
 cases hi:(Tryz.prog.info? aj.lP).bind (·.zero) with
 |none=>rw[hi] at bI;cases bI
 |some z=>
   rw[hi] at bI
   simp only[qp,Option.some.injEq] at bI
   simp only[ue,bI]
   apply Array.ext
   · simp[kF (c:=Fr.c) (sz:=6) (List.replicate n fY) (fun x _=>rfl)]
   · intro i U ab
     have ay:n*6≠0:=by
       intro h
       simp[h] at U
     have fN:i<n*6:=by simpa using U
     simp only[ay,if_false,Array.getElem_map,Array.getElem_range,List.getElem_toArray]
     have dt:fY.c.toArray.size=6:=rfl
     have aS:i%6<6:=k6 _ (by omega)
     have ag:i/6<(List.replicate n fY).length:=by rw[qs];omega
     have bu:=EZ (c:=Fr.c) (sz:=6) (l:=List.replicate n fY) (fun x _=>rfl) (i:=i/6) (j:=i%6) ag aS
     rw[show i/6*6+i%6=i by omega] at bu
     have ym:i<(b9 Fr.c (List.replicate n fY)).length:=by simpa using ab
     rw[e7 ym] at bu
     have he:((List.replicate n fY)[i/6]).c=fY.c:=by simp
     rw[he,e7 (show i%6<fY.c.length from aS)] at bu
     have bu:=Option.some.inj bu
     rw[bu,dt,getElem!_pos fY.c.toArray (i%6) (by rw[dt];exact aS)]
     simp
def u9 (c c8 k:Nat) (D:aY):lO:=⟨c,c8,List.replicate k fY,0,D⟩
theorem mP {w:World} {D:aY} (h:cB w D) {k:Nat} (U:8≤k) (ab:k≤64):aN Tryz.prog F.mP #[.pointer (some ⟨D.d,0,none⟩), .int .i64 ((k:Nat):Int)] w (fun v J=>∃c c8:Nat,v= .tuple #[.pointer (some ⟨c,0,none⟩), .int .i64 0]∧pG (fun _=>False) J (u9 c c8 k D)∧Ext w J∧w.heap.size≤c∧w.heap.size≤c8):=by
 refine W.OI (some ⟨D.d,0,none⟩) ((k:Nat):Int) w _ ?_
 delta W.mP aA kB ah
 refine ⟨fun h=> ?_,fun _=>⟨⟨by omega,by omega,by omega,by omega⟩,?_⟩⟩
 · simp only[Option.isNone_some,k8,kv,c1] at h;omega
 rw[OH,eC]
 have hG:=bo.new w (b9 Fr.c (List.replicate k fY)).toArray aj.lP
 have bg:=eE w (.cells (b9 Fr.c (List.replicate k fY)).toArray aj.lP)
 have so:=xn w (.cells (b9 Fr.c (List.replicate k fY)).toArray aj.lP)
 obtain ⟨ae,nN⟩:∃ae,ae=w.alloc (.cells (b9 Fr.c (List.replicate k fY)).toArray aj.lP):=⟨_,rfl⟩
 rw[←nN] at hG bg so⊢
 refine bD (cZ (vs:=[.pointer (some ⟨D.d,0,none⟩), .slice (some ⟨w.heap.size,0,none⟩) k k, .int .i64 0]) rfl fun av eg bT nz=>⟨ae.heap.size,w.heap.size,rfl,⟨⟨?_,bo.ext hG bT,h.ext (bg.trans bT),?_,?_,?_,?_,?_,?_⟩,⟨fun f aI=> ?_,fun f aI iG=> ?_,fun i j hi bb U=> ?_,fun q ag=>ag.elim⟩⟩,bg.trans bT,by omega,b6 _⟩)
 · show Var _ _ [_, .slice _ (List.replicate k fY).length (List.replicate k fY).length,_] _
   rw[qs];exact eg
 · show 8≤(List.replicate k fY).length;simpa using U
 · show (List.replicate k fY).length≤64;simpa using ab
 · show 0<(List.replicate k fY).length;simp;omega
 · show ae.heap.size≠w.heap.size;omega
 · intro e
   have:=h.lt e
   have:ae.heap.size<w.heap.size:=this
   omega
 · intro e
   have:=h.lt e
   have:w.heap.size<w.heap.size:=this
   omega
 · rw[zB aI];rfl
 · rw[zB aI] at iG;cases iG
 · simp[u9,fY] at U
end
section
theorem OJ {B:Nat→Prop} {w:World} {s:ak} {bc:List Nat} (h:dC B w s bc) (no:Nat) (aB:bc.length≤1000000):
   aN Tryz.prog F.pH #[.slice s.a s.len s.cap, .int .i64 (no:Nat)] w (fun v J=>∃n:Int,v= .int .i64 n∧(0≤n↔no∈bc)∧w=J):=by
 have cK:=h.len
 refine W.OK s (no:Nat) w _ ?_
 (delta W.pH aA bK aE aK;dsimp only)
 refine ⟨fun n J=>∃i:Nat,n=(i:Int)∧i≤bc.length∧no∉bc.take i∧w=J,fun n _=>((bc.length:Int)-n).toNat,⟨0,rfl,ft _,by simp,rfl⟩,?_⟩
 rintro _ _ ⟨i,rfl,hi,fH,rfl⟩
 refine ⟨fun aS=> ?_,fun bS=> ?_⟩
 · have yn:i<bc.length:=by
     have:((i:Nat):Int)<((s.len:Nat):Int):=cG aS
     omega
   obtain ⟨A,an,ad,ai⟩:=dC.at h yn
   refine ⟨A,an,ad,_,ai,fun he=> ?_,fun bU=> ?_⟩
   · have he:no=bc[i]:=by
       have:((no:Nat):Int)=((bc[i]:Nat):Int):=by simpa using he
       omega
     exact ⟨_,rfl,⟨fun _=>by rw[he];exact eV _,fun _=>by omega⟩,rfl⟩
   · have bU:no≠bc[i]:=fun e=>by rw[e] at bU;simp at bU
     have yo:IntKind.wrap .i64 (((i:Nat):Int)+1)=((i+1:Nat):Int):=by rw[b_ (by omega) (by omega)];omega
     rw[yo]
     refine ⟨⟨i+1,rfl,by omega,?_,rfl⟩,by show ((bc.length:Int)-((i+1:Nat):Int)).toNat<((bc.length:Int)-((i:Nat):Int)).toNat;omega⟩
     rw[mc yn]
     intro hm
     rcases gv.1 hm with hm|hm
     · exact fH hm
     · exact bU (fE.1 hm)
 · have yn:i=bc.length:=by
     have:¬((i:Nat):Int)<((s.len:Nat):Int):=cT bS
     omega
   rw[yn,oJ] at fH
   exact ⟨-1,rfl,⟨fun h=>by omega,fun h=>absurd h fH⟩,rfl⟩
theorem OL {B:Nat→Prop} {w:World} {s:ak} {bc:List Nat} (h:dC B w s bc) (no:Nat) (aB:bc.length≤1000000):
   aN Tryz.prog F.pI #[.slice s.a s.len s.cap, .int .i64 (no:Nat)] w (fun v J=>v= .bool (decide (no∈bc))∧w=J):=by
 refine W.OM s (no:Nat) w _ ?_
 (delta W.pI bN;dsimp only)
 refine (OJ h no aB).use ?_
 rintro _ _ ⟨n,rfl,ay,rfl⟩
 refine ⟨n,rfl,?_,rfl⟩
 congr 1
 exact decide_eq_decide.2 ay
section
variable {w J:World} {T F5:hM} {Ut k:Nat} {s:ak} {bJ:List Nat}
end
end
section
def A1 (n:Nat) (root bG:Int):Prop:=0≤bG∧bG≤12∧0≤root∧root<n∧(root=0↔bG=0)
theorem mQ {w:World} {C:lO} (ai:nZ w C) (cr:Nat) (gen root bG:Int):
   aN Tryz.prog F.mQ #[.pointer (some ⟨C.c,0,none⟩), .pointer (some ⟨cr,0,none⟩), .int .u64 gen, .int .i64 root, .int .i64 bG] w (fun v J=>
     (A1 C.D.n root bG∧v= .tuple #[.pointer (some ⟨w.heap.size,0,none⟩), .int .i64 0]∧Ext w J∧Var J w.heap.size [.pointer (some ⟨C.c,0,none⟩), .pointer (some ⟨cr,0,none⟩), .int .u64 gen, .int .i64 root, .int .i64 bG] aj.A2∧J.heap.size=w.heap.size+1)∨
     (¬A1 C.D.n root bG∧v= .tuple #[.pointer none, .int .i64 1]∧w=J)):=by
 refine W.ON (some ⟨C.c,0,none⟩) (some ⟨cr,0,none⟩) gen root bG w _ ?_
 (delta W.mQ aA bN ah;dsimp only)
 refine c2 (fun b J=>(b=false↔(0≤bG∧bG≤12∧0≤root∧root<C.D.n))∧w=J) (fun q ag=>⟨fun U=>ag _ _ ⟨?_,rfl⟩,fun U=>⟨_,rfl,_,ai.cells.1,(xT ai.dev).use ?_⟩⟩) ?_
 · simp only[Option.isNone_some,k8,kv,c1] at U
   exact ⟨fun h=>(by cases h),fun h=>by omega⟩
 · rintro _ _ ⟨rfl,rfl⟩
   simp only[Option.isNone_some,k8,ud,k7] at U
   refine ⟨_,rfl,ag _ _ ⟨?_,rfl⟩⟩
   rw[k7]
   omega
 rintro b _ ⟨ad,rfl⟩
 refine ⟨fun U=> .inr ⟨fun bu=> ?_,rfl,rfl⟩,fun U=> ?_⟩
 · have ab:=ad.2 ⟨bu.1,bu.2.1,bu.2.2.1,bu.2.2.2.1⟩
   rw[ab,k8] at U
   have aw:=bu.2.2.2.2
   by_cases aL:root=0
   · rw[aL,aw.1 aL] at U;simp at U
   · have bt:bG≠0:=fun e=>aL (aw.2 e)
     have aT:(root==0)=false:=by simpa using aL
     have a8:(bG==0)=false:=by simpa using bt
     rw[aT,a8] at U
     cases U
 · rw[ud] at U
   have ab:=ad.1 U.1
   have aw:root=0↔bG=0:=by
     have aL:=U.2
     by_cases bt:root=0<;>by_cases cj:bG=0<;>simp[bt,cj] at aL⊢
   refine cZ (vs:=[.pointer (some ⟨C.c,0,none⟩), .pointer (some ⟨cr,0,none⟩), .int .u64 gen, .int .i64 root, .int .i64 bG]) rfl fun bF al af ao=> .inl ⟨⟨ab.1,ab.2.1,ab.2.2.1,ab.2.2.2,aw⟩,rfl,af,al,ao⟩
end
section
theorem yp (f:Nat→Bool):∀ (n:Nat) (x:Int),x∈fz f n↔∃k:Nat,x=(k:Int)∧k<n∧f k=true
 |0,x=>by simp[fz]
 |n+1,x=>by
   rw[fz,gv,yp f n x]
   constructor
   · rintro (⟨k,U,ab,aw⟩|h)
     · exact ⟨k,U,by omega,aw⟩
     · split at h
       · exact ⟨n,fE.1 h,by omega,by assumption⟩
       · cases h
   · rintro ⟨k,U,ab,aw⟩
     rcases gd k n with aL|aL
     · exact .inl ⟨k,U,aL,aw⟩
     · have:k=n:=by omega
       subst this
       right
       rw[if_pos aw,U];simp
theorem A3 (f:Nat→Bool):∀n,(fz f n).Pairwise fun a b=>a<b
 |0=>List.Pairwise.nil
 |n+1=>by
   rw[fz]
   refine List.pairwise_append.2 ⟨A3 f n,by split<;>simp,fun a aH b ad=> ?_⟩
   obtain ⟨k,U,ab,_⟩:=(yp f n a).1 aH
   split at ad
   · have:=fE.1 ad;omega
   · cases ad
section
variable {en w J:World} {sS OO:Nat} {T F5:hM} {r h k:Nat} {gZ:List Nat} {L OP:List zE} {ms:ak}
end
end
section
theorem F6 {i:Nat} (h:i≤1000000):IntKind.wrap .i64 (((i:Nat):Int)+1)=((i+1:Nat):Int):=by rw[b_ (by omega) (by omega)];omega
section
variable {en w J:World} {sS OO:Nat} {T F5:hM} {r h k c:Nat} {gZ OQ:List Nat} {L OP Uu:List zE} {V:Nat→c3} {ms l:ak}
end
end
section
theorem A4:∀ {a b:List Nat},a.Nodup→(∀x∈a,x∈b)→a.length≤b.length
 | [],_,_,_=>ft _
 |x::a,b,ay,ao=>by
   obtain ⟨U,ab⟩:=List.nodup_cons.1 ay
   have af:=ao x (by simp)
   have:=A4 (a:=a) (b:=b.erase x) ab fun y aZ=>(List.mem_erase_of_ne (fun e=>U (by rw[←e];exact aZ))).2 (ao y (qw _ aZ))
   rw[List.length_erase_of_mem af] at this
   have:=List.length_pos_of_mem af
   rw[ir];omega
end
section
structure bY where
 q8:Int
 s1:Int
 sR:Int
 bp:Int
 dG:Int
 gZ:Int
 keys:Int
 lost:Int
 eS:Int
 bad:Int
 deriving DecidableEq
def bY.c (a:bY):List Value:=[.int .i64 a.q8, .int .i64 a.s1, .int .u64 a.sR, .int .u64 a.bp, .int .i64 a.dG, .int .i64 a.gZ, .int .i64 a.keys, .int .i64 a.lost, .int .i64 a.eS, .int .i64 a.bad]
def pJ (a:bY) (br:ak) (m:Nat) (gs:ak):List Value:=a.c++ [.slice br.a br.len br.cap, .map (some m), .slice gs.a gs.len gs.cap]
def inc (n:Int):Int:=IntKind.wrap .i64 (n+1)
structure di (w:World) (aD:Nat) (a:bY) (br:ak) (m:Nat) (gs:ak) (au:List c3) (seen bn:List Nat):Prop where
 v:Var w aD (pJ a br m gs) aj.sN
 s:b2 (fun q=>q≠aD∧q≠m∧¬aM gs q) w br au
 mp:cI w m encZ (seen.map fun x=>(((x:Nat):Int),Value.bool true))
 g:bd 1 aj.int w gs (ja bn)
 ne:m≠aD∧¬aM gs aD∧¬aM gs m
 len:∀l∈au,l.length=256
 n:16≤au.length∧au.length≤1600
 q9:bn.length≤1600
 hN:bn.Nodup∧(∀x∈bn,x∈seen)∧∀x∈seen,x<au.length
theorem OR {ys:List Int} {f:Nat→Bool} {n:Nat} (U:ys.Pairwise fun a b=>a<b) (ab:∀x,x∈ys↔∃k:Nat,x=(k:Int)∧k<n∧f k=true):ys=fz f n:=by
 have aU:ys.Perm (fz f n):=by
   refine (List.perm_ext_iff_of_nodup ?_ ?_).2 fun x=> ?_
   · exact U.imp fun h=>by omega
   · exact (A3 f n).imp fun h=>by omega
   · rw[yp,ab]
 exact aU.eq_of_pairwise (le:=fun a b=>a<b) (fun a b _ _ U ab=>by omega) U (A3 f n)
def q_ (no:Nat) (bn:List Nat) (i:Nat):Bool:=decide (i=no)||decide (i∈bn)||decide (i<2)
def mR (b:List UInt8):List Int:=b.map fun c=>((c.toNat:Nat):Int)
instance Uv (ns:List Int) (n:Nat):Decidable (pF ns n):=
 decidable_of_iff (ns.length=(n+7)/8∧∀i,i<8*ns.length→n≤i→bitsOf ns i=false) ⟨fun h=>⟨h.1,fun i hi=>by
   rcases gd i (8*ns.length) with U|U
   · exact h.2 i U hi
   · exact AZ ns i U⟩,fun h=>⟨h.1,fun i _ hi=>h.2 i hi⟩⟩
def kN (au:List c3) (bn:List Nat) (no:Nat) (a:bY):bY:=
 match eX no (au.getD no []) with
 | .error _=>{a with bad:=inc a.bad}
 | .ok p=>if p.kind=4∧pF (mR p.body) au.length then
     {a with eS:=(((fz (q_ no bn) au.length).filter fun i=> !(bitsOf (mR p.body) i.toNat)).length:Nat),
              lost:=(((fz (bitsOf (mR p.body)) au.length).length:Nat):Int)-((((fz (q_ no bn) au.length).length:Nat):Int)-(((fz (q_ no bn) au.length).filter fun i=> !(bitsOf (mR p.body) i.toNat)).length:Nat))}
   else {a with bad:=inc a.bad}
section
variable {w J:World} {aD m:Nat} {a:bY} {br gs:ak} {au:List c3} {seen bn:List Nat}
theorem di.cell (h:di w aD a br m gs au seen bn):w.cell? (Addr.add ⟨aD,0,none⟩ 10)=some (.slice br.a br.len br.cap)∧w.cell? (Addr.add ⟨aD,0,none⟩ 11)=some (.map (some m))∧w.cell? (Addr.add ⟨aD,0,none⟩ 12)=some (.slice gs.a gs.len gs.cap)∧
   w.cell? (Addr.add ⟨aD,0,none⟩ 5)=some (.int .i64 a.gZ)∧w.cell? (Addr.add ⟨aD,0,none⟩ 6)=some (.int .i64 a.keys)∧w.cell? (Addr.add ⟨aD,0,none⟩ 8)=some (.int .i64 a.eS)∧w.cell? (Addr.add ⟨aD,0,none⟩ 9)=some (.int .i64 a.bad):=by
 simp only[ba]
 exact ⟨h.v.cell,h.v.cell,h.v.cell,h.v.cell,h.v.cell,h.v.cell,h.v.cell⟩
theorem di.lt (h:di w aD a br m gs au seen bn):aD<w.heap.size∧m<w.heap.size∧∀q,aM gs q→q<w.heap.size:=⟨h.v.lt,h.mp.lt,h.g.lt⟩
theorem di.hO (h:di w aD a br m gs au seen bn) {W:Nat→Prop} (ai:aq W w J) (e0:∀q,q<w.heap.size→¬W q):di J aD a br m gs au seen bn:=by
 have af:Ext w J:=dv (aq.refl _ _) ai fun q ag hw=>e0 q ag hw
 exact ⟨h.v.ext af,b2.ext h.s af,h.mp.az af id,h.g.ext af,h.ne,h.len,h.n,h.q9,h.hN⟩
theorem di.put (h:di w aD a br m gs au seen bn) {j:Nat} {a':bY} {v:Value} (bb:j<10) (aH:a'.c=a.c.set j v):(∃u:Value,w.cell? (Addr.add ⟨aD,0,none⟩ j)=some u)∧w.frozen? (Addr.add ⟨aD,0,none⟩ j)=false∧
   di (w.setCell (Addr.add ⟨aD,0,none⟩ j) v) aD a' br m gs au seen bn∧aq (fun q=>q=aD) w (w.setCell (Addr.add ⟨aD,0,none⟩ j) v):=by
 rw[ba,e6]
 have aB:a.c.length=10:=rfl
 obtain ⟨eN,gf⟩:=jE h.v (i:=j) (by unfold pJ;rw[fF,aB];simp;omega)
 have ai:=iE w aD j v
 refine ⟨eN,gf,⟨?_,b2.az h.s ai fun q ag e=>ag.1 e,h.mp.az ai (fun e=>h.ne.1 e),h.g.az ai fun q ag e=>h.ne.2.1 (by rw[←e];exact ag),h.ne,h.len,h.n,h.q9,h.hN⟩,ai⟩
 have U:=kE h.v (i:=j) v
 unfold pJ at U⊢
 rw[List.set_append_left _ _ (by rw[aB];exact bb),←aH] at U
 exact U
theorem di.OS (h:di w aD a br m gs au seen bn) {k:Nat} (aa:k<au.length) (ay:k∉seen):
   ∃ae:World,(Instr.mapUpdate aj.pK (.map (some m)) (.int .i64 ((k:Nat):Int)) (.bool true)).run Tryz.prog w= .ok () ae∧di ae aD a br m gs au (k::seen) bn∧aq (fun q=>q=m) w ae:=by
 have aQ:Tryz.prog.underlying aj.pK=some (.map aj.int aj.bool):=by kernel_rfl
 obtain ⟨ae,U,ab,aw,aL⟩:=E0 nI aQ h.mp (k:=((k:Nat):Int)) (fun v al=>by
   obtain ⟨x,af,e⟩:=eK.1 al
   have:((x:Nat):Int)=((k:Nat):Int):=congrArg Prod.fst e
   have:x=k:=by omega
   exact ay (this▸af)) (.bool true)
 exact ⟨ae,U,⟨h.v.az ab fun e=>h.ne.1 e.symm,b2.az h.s ab fun q ag e=>ag.2.1 e,aL,h.g.az ab fun q ag e=>h.ne.2.2 (by rw[←e];exact ag),h.ne,h.len,h.n,h.q9,h.hN.1,fun x af=>qw _ (h.hN.2.1 x af),fun x af=>by
   rcases dT.1 af with rfl|af
   · exact aa
   · exact h.hN.2.2 x af⟩,ab⟩
theorem di.OT (h:di w aD a br m gs au seen bn) (k:Nat):(Instr.lookup aj.pK (.map (some m)) (.int .i64 ((k:Nat):Int)) false).run Tryz.prog w= .ok (.bool (decide (k∈seen))) w:=by
 have aQ:Tryz.prog.underlying aj.pK=some (.map aj.int aj.bool):=by kernel_rfl
 by_cases aa:k∈seen
 · have:=h.mp.Az nI aQ (k:=((k:Nat):Int)) (v:= .bool true) (eK.2 ⟨k,aa,rfl⟩) false
   rw[eA aa];exact this
 · obtain ⟨E_,U,ab⟩:=xP (P:=Tryz.prog) (T:=aj.bool) (z:= .bool false) (by kernel_rfl)
   have:=h.mp.AA nI aQ (k:=((k:Nat):Int)) U ab (fun v al=>by
     obtain ⟨x,af,e⟩:=eK.1 al
     have:((x:Nat):Int)=((k:Nat):Int):=congrArg Prod.fst e
     have:x=k:=by omega
     exact aa (this▸af)) false
   rw[qo aa];exact this
theorem di.OU (h:di w aD a br m gs au seen bn) {k:Nat} (aa:k∈seen) (ay:k∉bn):
   ∃ (g':ak) (ae:World),Sem.run Tryz.prog (Builtin.append_ #[aj.dD,aj.dD] aj.dD #[.slice gs.a gs.len gs.cap, .slice (some ⟨w.heap.size,0,none⟩) 1 1]) (w.alloc (.cells #[.int .i64 ((k:Nat):Int)] aj.int))= .ok (.slice g'.a g'.len g'.cap) ae∧
     (∃u:Value,ae.cell? (Addr.add ⟨aD,0,none⟩ 12)=some u)∧ae.frozen? (Addr.add ⟨aD,0,none⟩ 12)=false∧
     di (ae.setCell (Addr.add ⟨aD,0,none⟩ 12) (.slice g'.a g'.len g'.cap)) aD a br m g' au seen (bn++ [k])∧aq (fun q=>q=aD∨aM gs q) w (ae.setCell (Addr.add ⟨aD,0,none⟩ 12) (.slice g'.a g'.len g'.cap))∧∀q,aM g' q→aM gs q∨w.heap.size≤q:=by
 have OV:gs.len=bn.length:=by have:=h.g.1;rw[xz] at this;omega
 have F7:=h.q9
 have aS:=h.lt
 obtain ⟨g',ae,bp,bw,bL,cx,dX⟩:=xA.push (db:=aj.dD) (w:=w) (xs:=[.int .i64 ((k:Nat):Int)]) rfl h.g (fun v al=>by rw[fE.1 al];trivial) (by omega)
 have c6:=h.v.az cx h.ne.2.1
 rw[ba,e6]
 obtain ⟨eN,gf⟩:=jE c6 (i:=12) (by unfold pJ bY.c;simp)
 have ai:=iE ae aD 12 (.slice g'.a g'.len g'.cap)
 have bU:¬aM g' aD∧¬aM g' m:=⟨fun ag=>by
   rcases dX aD ag with U|U
   · exact h.ne.2.1 U
   · omega,fun ag=>by
   rcases dX m ag with U|U
   · exact h.ne.2.2 U
   · omega⟩
 refine ⟨g',ae,bp,eN,gf,⟨?_,?_,?_,?_,⟨h.ne.1,bU⟩,h.len,h.n,?_,?_,fun x af=> ?_,h.hN.2.2⟩,?_,dX⟩
 · have U:=kE c6 (i:=12) (.slice g'.a g'.len g'.cap)
   exact U
 · have U:b2 (fun q=>q<w.heap.size∧q≠aD∧q≠m∧¬aM gs q) w br au:=b2.cA h.s fun q ag ad=>⟨ag,ad⟩
   refine b2.cA (b2.az (b2.az U cx fun q ag a6=>ag.2.2.2 a6) ai fun q ag e=>ag.2.1 e) fun q _ ad=>⟨ad.2.1,ad.2.2.1,fun a6=> ?_⟩
   rcases dX q a6 with ab|ab
   · exact ad.2.2.2 ab
   · have:=ad.1;omega
 · exact (h.mp.az cx h.ne.2.2).az ai h.ne.1
 · have U:=bw.az ai fun q ag e=>bU.1 (by rw[←e];exact ag)
   have e:ja (bn++ [k])=ja bn++ [.int .i64 ((k:Nat):Int)]:=by simp[ja]
   rw[e];exact U
 · have U:(bn++ [k]).Nodup:=by
     rw[wW]
     exact ⟨h.hN.1,by simp,fun x af y aZ e=>ay (by rw[fE.1 aZ] at e;rw[←e];exact af)⟩
   have ab:=A4 U (b:=List.range au.length) fun x af=>by
     rw[oH]
     rcases gv.1 af with af|af
     · exact h.hN.2.2 x (h.hN.2.1 x af)
     · rw[fE.1 af];exact h.hN.2.2 k aa
   rw[uj] at ab
   have:=h.n
   omega
 · rw[wW]
   exact ⟨h.hN.1,by simp,fun x af y aZ e=>ay (by rw[fE.1 aZ] at e;rw[←e];exact af)⟩
 · rcases gv.1 af with af|af
   · exact h.hN.2.1 x af
   · rw[fE.1 af];exact aa
 · exact dv (cx.mono fun q _ h=> .inr h) ai fun q _ e=> .inl e
end
end
section
section
variable {w J:World} {aD m:Nat} {a:bY} {br gs:ak} {au:List c3} {seen bn:List Nat}
theorem OW (b:List UInt8):aF b=(mR b).map (.int .u8):=by
 unfold aF mR
 rw[mg];rfl
theorem OX (b:List UInt8):∀n∈mR b,(0:Int)≤n∧n≤255:=by
 intro n ay
 obtain ⟨c,_,rfl⟩:=eK.1 ay
 have:=t_ c
 omega
theorem OY (l:List Nat):ja l=(l.map fun d=>((d:Nat):Int)).map encZ:=by
 unfold ja
 rw[mg];rfl
theorem F8 {no:Int} {l:List UInt8} {p:iW} (h:eX no l= .ok p):p.body.length≤232:=by
 unfold eX at h
 repeat' split at h
 all_goals first|cases h|skip
 rename_i U ab aw aL bt cj
 have gT:ca l 6 2≤232:=by
   rcases gd 232 (ca l 6 2) with h7|h7
   · exact absurd (.inr (.inl h7)) bt
   · exact h7
 show ((l.drop 24).take (ca l 6 2)).length≤232
 rw[g8];omega
theorem F9 (h:di w aD a br m gs au seen bn) {no:Nat} (fH:no<au.length) (bu:∀x∈bn,x<au.length) (hw:a.eS=0):
   aN Tryz.prog F.pL #[.pointer (some ⟨aD,0,none⟩), .int .i64 ((no:Nat):Int)] w (fun v J=>v= .tuple #[]∧di J aD (kN au bn no a) br m gs au seen bn∧aq (fun q=>q=aD) w J):=by
 have jD:=h.n
 have aS:=h.lt
 have F7:=h.q9
 have lh:(au[no]).length=256:=h.len _ (eV fH)
 have n0:au.getD no []=au[no]:=ep fH
 refine W.OZ _ ((no:Nat):Int) w _ ?_
 (delta W.pL aW bK mJ z4 ah hJ aA aE st aK cL b8 b1;dsimp only)
 obtain ⟨gQ,sM,A5,_⟩:=h.cell
 obtain ⟨A,t,an,ad,ai,bx,_⟩:=b2.at h.s fH
 refine ⟨_,rfl,br,gQ,A,an,ad,t,ai,(jB bx.1 bx.2.1 (by omega) ((no:Nat):Int)).use ?_⟩
 rintro v5 aR ⟨fP,fw⟩
 have pM:∀cP:World,Ext w cP→kN au bn no a={a with bad:=inc a.bad}→∃a26:Addr,(some ⟨aD,0,none⟩:Option Addr)=some a26∧∃n27:Int,cP.cell? (a26.add 9)=some (.int .i64 n27)∧
     ∃a28:Addr,(some ⟨aD,0,none⟩:Option Addr)=some a28∧(∃u:Value,cP.cell? (a28.add 9)=some u)∧cP.frozen? (a28.add 9)=false∧aG (cP.setCell (a28.add 9) (.int .i64 (IntKind.wrap .i64 (n27+1)))) fun ej=>
     (Value.tuple #[]= .tuple #[]∧di ej aD (kN au bn no a) br m gs au seen bn∧aq (fun q=>q=aD) w ej):=by
   intro cP af e
   have u_:=h.hO af fun _ _ h=>h
   obtain ⟨_,_,_,_,_,_,mJ⟩:=u_.cell
   obtain ⟨ie,ig,fZ,jj⟩:=u_.put (j:=9) (a':={a with bad:=inc a.bad}) (v:= .int .i64 (inc a.bad)) (by decide) rfl
   refine ⟨_,rfl,a.bad,mJ,_,rfl,ie,ig,bD ⟨rfl,?_,dv (af.mono fun _ _ h=>h.elim) jj fun q _ e=>e⟩⟩
   rw[e];exact fZ
 have F_:∀ (k g:Int) (s:ak) (K:World→Prop),(∀bm,Var bm aR.heap.size [.int .i64 k, .int .u64 g, .slice s.a s.len s.cap] aj.nC→Ext aR bm→K bm)→aG (aR.alloc (.cells #[.int .i64 0, .int .u64 0, .slice none 0 0] aj.nC)) fun b5=>
     cd b5 ⟨aR.heap.size,0,none⟩ [.int .i64 k, .int .u64 g, .slice s.a s.len s.cap]∧(3:Nat)=3∧aG (setCells b5 ⟨aR.heap.size,0,none⟩ 0 [.int .i64 k, .int .u64 g, .slice s.a s.len s.cap]) K:=by
   intro k g s K aJ
   refine cZ (vs:=[.int .i64 0, .int .u64 0, .slice none 0 0]) rfl fun b5 pN iX Ga=>⟨pN.fG rfl (fun v al=> ?_),rfl,iw pN (us:=[.int .i64 k, .int .u64 g, .slice s.a s.len s.cap]) rfl rfl fun bm mS mT Gb=>aJ bm mS (Ext.dJ iX mT (b6 _))⟩
   simp only[dT,gK,gL] at al
   rcases al with rfl|rfl|rfl<;>trivial
 cases aU:eX ((no:Nat):Int) au[no] with
 |error e=>
   rw[aU] at fP
   have bU:=x4 aU
   have u0:kN au bn no a={a with bad:=inc a.bad}:=by unfold kN;rw[n0,aU]
   obtain rfl:v5=_:=fP
   refine ⟨0,0,⟨none,0,0⟩,e,rfl,F_ _ _ _ _ fun bm mS sT=>bD ⟨fun _=>False,id,⟨none,0,0⟩,?_,_,rfl,id,br,?_,?_⟩⟩
   · rw[ba];exact (mS.ext (dz bm)).cell
   · exact (h.hO (Ext.trans (Ext.trans fw sT) (dz bm)) fun _ _ h=>h).cell.1
   have va:=Ext.trans (Ext.trans fw sT) (dz bm)
   refine (lM (s:=⟨none,0,0⟩) (ns:=[]) (bd.none 1 aj.uint8 bm.drew).src (fun n ay=>(by cases ay)) (by simp) ((br.len:Nat):Int)).use ?_
   rintro Gc cp ⟨jK,pO⟩
   have O0:∃ (sU:Option Addr) (n21:Int),Gc= .tuple #[.pointer sU, .int .i64 n21]:=by
     rcases pO with ⟨_,al⟩|⟨_,_,_,al⟩|⟨_,_,_,b,s1,s2,al,_⟩
     · exact ⟨_,_,al⟩
     · exact ⟨_,_,al⟩
     · exact ⟨_,_,al⟩
   obtain ⟨sU,n21,rfl⟩:=O0
   refine ⟨sU,n21,rfl,jK,c2 (fun b J=>b=true∧cp=J) (fun q ag=>⟨fun _=>ag _ _ ⟨rfl,rfl⟩,fun aI=> ?_⟩) ?_⟩
   · have:(e !=0)=true:=by simpa using bU
     rw[this] at aI;cases aI
   · rintro _ _ ⟨rfl,rfl⟩
     exact ⟨fun _=>pM cp (Ext.trans va jK) u0,fun h=>(by cases h)⟩
 |ok p=>
   rw[aU] at fP
   obtain ⟨cr,rfl,kJ,AI⟩:=fP
   have cK:br.len=au.length:=b2.len h.s
   have vb:=F8 aU
   refine ⟨_,_,cr,0,rfl,F_ _ _ _ _ fun bm mS sT=>bD ⟨fun _=>False,id,cr,?_,_,rfl,id,br,?_,?_⟩⟩
   · rw[ba];exact (mS.ext (dz bm)).cell
   · exact (h.hO (Ext.trans (Ext.trans fw sT) (dz bm)) fun _ _ h=>h).cell.1
   have cg:=dz bm
   have va:=Ext.trans (Ext.trans fw sT) cg
   have qJ:=kJ.src.ext (Ext.trans sT cg)
   rw[OW] at qJ
   rw[cK]
   refine (lM qJ (OX _) (by unfold mR;rw[eB];omega) ((au.length:Nat):Int)).use ?_
   rintro Gc cp ⟨jK,⟨mK,_⟩|⟨_,_,po,rfl⟩|⟨_,_,Gd,b,s1,s2,rfl,n1,O1⟩⟩
   · exact absurd ⟨by omega,by omega⟩ mK
   · rw[eC] at po
     refine ⟨none,4,rfl,jK,c2 (fun b J=>b=true∧cp=J) (fun q ag=>⟨fun _=>ag _ _ ⟨rfl,rfl⟩,fun aI=>(by cases aI)⟩) ?_⟩
     rintro _ _ ⟨rfl,rfl⟩
     refine ⟨fun _=>pM cp (Ext.trans va jK) ?_,fun h=>(by cases h)⟩
     unfold kN
     rw[n0,aU]
     exact if_neg fun fI=>po fI.2
   rw[eC] at Gd n1
   have ra:=Ext.trans va jK
   have O2:=(mS.ext cg).ext jK
   refine ⟨some ⟨b,0,none⟩,0,rfl,jK,c2 (fun b J=>b=decide (p.kind≠4)∧cp=J) (fun q ag=>⟨fun aI=>(by cases aI),fun _=>⟨_,O2.cell,ag _ _ ⟨?_,rfl⟩⟩⟩) ?_⟩
   · rw[fU,bne_iff_ne,c1];omega
   rintro _ _ ⟨rfl,rfl⟩
   refine ⟨fun aa=>pM cp ra ?_,fun aa=> ?_⟩
   · have aa:=cG aa
     unfold kN
     rw[n0,aU]
     exact if_neg fun fI=>aa fI.1
   have O3:p.kind=4:=r6 fun fI=>by rw[eA fI] at aa;cases aa
   obtain ⟨f,aI⟩:∃f,f=bitsOf (mR p.body):=⟨_,rfl⟩
   obtain ⟨own,fl⟩:∃own,own=fz (q_ no bn) au.length:=⟨_,rfl⟩
   have u0:kN au bn no a={a with eS:=((own.filter fun i=> !(f i.toNat)).length:Nat),lost:=(((fz f au.length).length:Nat):Int)-(((own.length:Nat):Int)-((own.filter fun i=> !(f i.toNat)).length:Nat))}:=by
     unfold kN
     rw[n0,aU,fl,aI]
     exact if_pos ⟨O3,Gd⟩
   rw[u0]
   rw[←aI] at n1
   have Ge:=h.hO ra fun _ _ h=>h
   have O4:=ra.size
   have gS:Ext cp (cp.alloc (.cells #[.int .i64 ((no:Nat):Int)] aj.int)):=eE _ _
   have Gf:=Ge.hO gS fun _ _ h=>h
   have O5:bd 1 aj.int (cp.alloc (.cells #[.int .i64 ((no:Nat):Int)] aj.int)) ⟨some ⟨cp.heap.size,0,none⟩,1,1⟩ [.int .i64 ((no:Nat):Int)]:=bd.new cp [.int .i64 ((no:Nat):Int)] 1 rfl (by decide)
   have OV:gs.len=bn.length:=by have:=h.g.1;rw[xz] at this;omega
   obtain ⟨sV,cO,aE,cU,aW,bE,fK⟩:=xA.append (db:=aj.dD) Gf.g.src O5 (Lt bn) (by show (2*(1+gs.len)+1000)*8≤_;omega)
   have Gg:∀q,aM (⟨some ⟨cp.heap.size,0,none⟩,1,1⟩:ak) q→cp.heap.size≤q:=fun q ag=>by
     obtain ⟨A,an,rfl⟩:=ag
     cases an;exact b6 _
   have mU:Ext cp cO:=Ext.k9 gS bE Gg
   refine bD ⟨_,rfl,gs,Gf.cell.2.2.1,sV,cO,aE,fun s n J=>∃k:Nat,n=(k:Int)∧k≤2∧bd 1 aj.int J s (((((no:Nat):Int)::bn.map fun d=>((d:Nat):Int))++([0,1]:List Int).take k).map encZ)∧Ext cp J∧∀q,aM s q→cp.heap.size≤q,
     fun _ n _=>((2:Int)-n).toNat,⟨0,rfl,by decide,?_,mU,fun q ag=> ?_⟩,?_⟩
   · rw[List.take_zero,List.append_nil,jw,←OY]
     exact cU
   · rcases fK q ag with U|U
     · exact Gg q U
     · have:=gS.size;omega
   rintro ed _ iJ ⟨k,rfl,cb,A6,vc,vd⟩
   refine ⟨fun qD=> ?_,fun qE=> ?_⟩
   · have xD:k<2:=by
       have:((k:Nat):Int)<2:=cG qD
       omega
     have Uw:ed.len≤bn.length+3:=by
       have:=A6.1
       simp only[eB,fF,ir,g8,qq] at this
       omega
     obtain ⟨gE,gX,A7,xB,A8,sW,O6⟩:=xA.push (db:=aj.dD) (w:=iJ) (xs:=[encZ ((k:Nat):Int)]) rfl A6 (fun v al=>by rw[fE.1 al];trivial) (by omega)
     have lI:IntKind.wrap .i64 (((k:Nat):Int)+1)=((k+1:Nat):Int):=by rw[b_ (by omega) (by omega)];omega
     rw[lI]
     refine bD ⟨gE,gX,A7,⟨k+1,rfl,by omega,?_,Ext.k9 vc sW vd,fun q ag=> ?_⟩,by show ((2:Int)-((k+1:Nat):Int)).toNat<((2:Int)-((k:Nat):Int)).toNat;omega⟩
     · have e:([0,1]:List Int).take (k+1)=([0,1]:List Int).take k++ [((k:Nat):Int)]:=by
         have O7:k=0∨k=1:=by omega
         rcases O7 with rfl|rfl<;>rfl
       rw[e,←gI,gu]
       exact xB
     · rcases O6 q ag with U|U
       · exact vd q U
       · have:=vc.size;omega
   have O8:k=2:=by
     have:¬((k:Nat):Int)<2:=cT qE
     omega
   subst O8
   have Ux:(((((no:Nat):Int)::bn.map fun d=>((d:Nat):Int))++([0,1]:List Int).take 2)).length≤2000:=by simp;omega
   refine (NO A6 (by omega)).use ?_
   rintro _ dF ⟨rfl,sX,ys,O9,nU,O_⟩
   refine ⟨rfl,(Nw O9 O_ (by have:=nU.length_eq;omega)).use ?_⟩
   rintro _ sY ⟨kj,zs,rfl,A9,lJ,fj,Pa,Pb⟩
   have A_:Ext cp sY:=Ext.k9 (Ext.k9 vc sX vd) Pa vd
   have Pc:zs=own:=by
     rw[fl]
     refine OR lJ fun x=> ?_
     rw[fj,nU.mem_iff]
     unfold q_
     simp only[uk,dT,gv,eK,List.take,gK,gL,kv,c1]
     constructor
     · rintro (rfl|⟨d,ax,rfl⟩|rfl|rfl)
       · exact ⟨no,rfl,fH, .inl (.inl rfl)⟩
       · exact ⟨d,rfl,bu d ax, .inl (.inr ax)⟩
       · exact ⟨0,rfl,by omega, .inr (by omega)⟩
       · exact ⟨1,rfl,by omega, .inr (by omega)⟩
     · rintro ⟨d,rfl,ax,(rfl|cW)|cW⟩
       · exact .inl rfl
       · exact .inr (.inl ⟨d,cW,rfl⟩)
       · have gD:d=0∨d=1:=by omega
         rcases gD with rfl|rfl
         · exact .inr (.inr (.inl rfl))
         · exact .inr (.inr (.inr rfl))
   rw[Pc] at A9
   have Ba:own.length≤1600:=by rw[fl];have:=yj (q_ no bn) au.length;omega
   have Pd:kj.len=own.length:=by have:=A9.1;rw[eB] at this;omega
   have Pe:∀q,aM kj q→q≠aD:=fun q ag e=>by
     have:=vd q ((Pb q).1 ag)
     have:=aS.1;omega
   have Pf:∀q,sP b s1 s2 q→q≠aD:=fun q ag e=>by
     have:=O1 q ag
     have:=va.size
     have:=aS.1;omega
   refine ⟨kj,rfl,fun n J=>∃ (k:Nat) (a':bY),n=(k:Int)∧k≤own.length∧a'={a with eS:=(((own.take k).filter fun i=> !(f i.toNat)).length:Nat)}∧di J aD a' br m gs au seen bn∧bd 1 aj.int J kj (own.map encZ)∧gm J b au.length f f s1 s2∧aq (fun q=>q=aD) cp J,
     fun n _=>((own.length:Int)-n).toNat,⟨0,a,rfl,ft _,?_,Ge.hO A_ fun _ _ h=>h,A9,n1.ext A_,A_.mono fun _ _ h=>h.elim⟩,?_⟩
   · cases a
     have hw:_=_:=hw
     subst hw
     rfl
   rintro _ n2 ⟨k,a',rfl,aa,mV,mW,Bb,yq,yr⟩
   have Uy:=yr.size
   refine ⟨fun Ep=> ?_,fun Pg=> ?_⟩
   · have jb:k<own.length:=by
       have:((k:Nat):Int)<((kj.len:Nat):Int):=cG Ep
       omega
     have lI:IntKind.wrap .i64 (((k:Nat):Int)+1)=((k+1:Nat):Int):=by rw[b_ (by omega) (by omega)];omega
     have Ph:own[k]∈fz (q_ no bn) au.length:=by rw[←fl];exact eV jb
     obtain ⟨d,Gh,cW,_⟩:=(yp _ _ _).1 Ph
     obtain ⟨A,an,Bc,Bd⟩:=Bb.src.at (i:=k) (v:=encZ own[k]) (by rw[qn,e7 jb];rfl)
     have iG:(own.take (k+1)).filter (fun i=> !(f i.toNat))=(own.take k).filter (fun i=> !(f i.toNat))++(if f d then [] else [own[k]]):=by
       rw[mc jb,List.filter_append,List.filter_cons,List.filter_nil]
       rw[Gh,eC]
       cases f d<;>rfl
     have Pj:=List.length_filter_le (fun i:Int=> !(f i.toNat)) (own.take k)
     rw[g8] at Pj
     refine xE (fun lQ=>∃bB:bY,bB={a with eS:=(((own.take (k+1)).filter fun i=> !(f i.toNat)).length:Nat)}∧di lQ aD bB br m gs au seen bn∧bd 1 aj.int lQ kj (own.map encZ)∧gm lQ b au.length f f s1 s2∧aq (fun q=>q=aD) cp lQ) (fun q ag=>⟨A,an,Bc,own[k],Bd,(N8 yq own[k]).use ?_⟩) ?_
     · rintro _ _ ⟨rfl,rfl⟩
       have AV:(decide (0≤own[k])&&decide (own[k]<((au.length:Nat):Int))&&f (own[k]).toNat)=f d:=by
         rw[Gh,eC,eA (by omega),eA (by omega)];rfl
       rw[AV]
       refine ⟨f d,rfl,fun ay=> ?_,fun ay=> ?_⟩
       · have rb:f d=false:=by simpa using ay
         rw[rb] at iG
         obtain ⟨_,_,_,_,_,pf,_⟩:=mW.cell
         have Pk:IntKind.wrap .i64 (a'.eS+1)=(((own.take (k+1)).filter fun i=> !(f i.toNat)).length:Nat):=by
           rw[iG,mV]
           show IntKind.wrap .i64 ((((own.take k).filter fun i=> !(f i.toNat)).length:Nat)+1)=_
           rw[b_ (by omega) (by omega)]
           simp
         obtain ⟨ie,ig,fZ,jj⟩:=mW.put (j:=8) (a':={a' with eS:=IntKind.wrap .i64 (a'.eS+1)}) (v:= .int .i64 (IntKind.wrap .i64 (a'.eS+1))) (by decide) rfl
         refine ⟨_,rfl,a'.eS,pf,_,rfl,ie,ig,bD (ag _ ⟨_,?_,fZ,Bb.az jj Pe,yq.az jj Pf,dv yr jj fun q _ e=>e⟩)⟩
         rw[Pk,mV]
       · have rb:f d=true:=by simpa using ay
         rw[rb] at iG
         refine ag _ ⟨a',?_,mW,Bb,yq,yr⟩
         rw[mV,iG]
         simp
     · rintro lQ ⟨bB,bp,bw,bL,cx,dX⟩
       rw[lI]
       exact ⟨⟨k+1,bB,rfl,by omega,bp,bw,bL,cx,dX⟩,by show ((own.length:Int)-((k+1:Nat):Int)).toNat<((own.length:Int)-((k:Nat):Int)).toNat;omega⟩
   · have Pl:k=own.length:=by
       have:¬((k:Nat):Int)<((kj.len:Nat):Int):=cT Pg
       omega
     rw[Pl,oJ] at mV
     have Be:=dz n2
     have Gi:=mW.hO Be fun _ _ h=>h
     obtain ⟨_,_,_,_,_,pf,_⟩:=Gi.cell
     refine bD ⟨fun _=>False,_,rfl,id,a'.eS,pf,(Oh (yq.ext Be)).use ?_⟩
     rintro _ kL ⟨ve,rfl,Pm,Bf,_⟩
     have Pn:=Gi.hO Bf fun _ _ h=>h
     have AM:ve.len=(fz f au.length).length:=by
       have:=Pm.1
       unfold q7 at this
       rw[eB] at this;omega
     have Uz:=yj f au.length
     have UA:=List.length_filter_le (fun i:Int=> !(f i.toNat)) own
     have aP:IntKind.wrap .i64 (((ve.len:Nat):Int)-(IntKind.wrap .i64 (((kj.len:Nat):Int)-a'.eS)))=(((fz f au.length).length:Nat):Int)-(((own.length:Nat):Int)-((own.filter fun i=> !(f i.toNat)).length:Nat)):=by
       have aT:a'.eS=((own.filter fun i=> !(f i.toNat)).length:Nat):=by rw[mV]
       rw[aT,AM,Pd,b_ (n:=((own.length:Nat):Int)-_) (by omega) (by omega),b_ (by omega) (by omega)]
     obtain ⟨ie,ig,fZ,jj⟩:=Pn.put (j:=7) (a':={a' with lost:=(((fz f au.length).length:Nat):Int)-(((own.length:Nat):Int)-((own.filter fun i=> !(f i.toNat)).length:Nat))}) (v:= .int .i64 ((((fz f au.length).length:Nat):Int)-(((own.length:Nat):Int)-((own.filter fun i=> !(f i.toNat)).length:Nat)))) (by decide) rfl
     refine ⟨ve,rfl,Bf,_,rfl,ie,ig,?_⟩
     rw[aP]
     refine bD ⟨rfl,?_,?_⟩
     · rw[mV] at fZ
       exact fZ
     · refine dv (ra.mono fun _ _ h=>h.elim) (dv yr (dv ((Ext.trans Be Bf).mono fun _ _ h=>h.elim) jj fun q _ e=>e) fun q _ e=>e) fun q _ e=>e
end
end
section
def pP (level:Int):Nat:=if level==1 then 1 else 2
inductive lR (au:List c3) (no level:Int) (a:bY) (seen bn:List Nat):bY→List Nat→List Nat→List Nat→Prop
 |Gj:(∀k:Nat,no=(k:Int)→k<au.length→k∈seen)→lR au no level a seen bn {a with bad:=inc a.bad} seen bn []
 |bad (k:Nat):no=(k:Int)→k<au.length→k∉seen→(∀p n,eX no (au.getD k [])= .ok p→nx (level==1) p.body n→p.kind≠pP level)→lR au no level a seen bn {a with bad:=inc a.bad} (k::seen) bn []
 |ok (k:Nat) (p:iW) (n:cw):no=(k:Int)→k<au.length→k∉seen→eX no (au.getD k [])= .ok p→nx (level==1) p.body n→p.kind=pP level→
     lR au no level a seen bn {a with gZ:=inc a.gZ,keys:=if level==1 then IntKind.wrap .i64 (a.keys+(n.keys.length:Nat)) else a.keys} (k::seen) (bn++ [k]) n.kids
section
variable {w J:World} {aD m:Nat} {a:bY} {br gs:ak} {au:List c3} {seen bn:List Nat}
theorem Gk {k g:Int} {s:ak} {K:World→Prop} (aJ:∀bm,Var bm w.heap.size [.int .i64 k, .int .u64 g, .slice s.a s.len s.cap] aj.nC→Ext w bm→K bm):aG (w.alloc (.cells #[.int .i64 0, .int .u64 0, .slice none 0 0] aj.nC)) fun b5=>
      cd b5 ⟨w.heap.size,0,none⟩ [.int .i64 k, .int .u64 g, .slice s.a s.len s.cap]∧(3:Nat)=3∧aG (setCells b5 ⟨w.heap.size,0,none⟩ 0 [.int .i64 k, .int .u64 g, .slice s.a s.len s.cap]) K:=by
  refine cZ (vs:=[.int .i64 0, .int .u64 0, .slice none 0 0]) rfl fun b5 pN iX Ga=>⟨pN.fG rfl (fun v al=> ?_),rfl,iw pN (us:=[.int .i64 k, .int .u64 g, .slice s.a s.len s.cap]) rfl rfl fun bm mS mT Gb=>aJ bm mS (Ext.dJ iX mT (b6 _))⟩
  simp only[dT,gK,gL] at al
  rcases al with rfl|rfl|rfl<;>trivial
theorem Bg {b:Bool} {k v d:ak} {K:World→Prop} (aJ:∀bm,Var bm w.heap.size [.bool b, .slice k.a k.len k.cap, .slice v.a v.len v.cap, .slice d.a d.len d.cap] aj.mC→Ext w bm→K bm):aG (w.alloc (.cells #[.bool false, .slice none 0 0, .slice none 0 0, .slice none 0 0] aj.mC)) fun b5=>
      cd b5 ⟨w.heap.size,0,none⟩ [.bool b, .slice k.a k.len k.cap, .slice v.a v.len v.cap, .slice d.a d.len d.cap]∧(4:Nat)=4∧aG (setCells b5 ⟨w.heap.size,0,none⟩ 0 [.bool b, .slice k.a k.len k.cap, .slice v.a v.len v.cap, .slice d.a d.len d.cap]) K:=by
  refine cZ (vs:=[.bool false, .slice none 0 0, .slice none 0 0, .slice none 0 0]) rfl fun b5 pN iX Ga=>⟨pN.fG rfl (fun v al=> ?_),rfl,iw pN (us:=[.bool b, .slice k.a k.len k.cap, .slice v.a v.len v.cap, .slice d.a d.len d.cap]) rfl rfl fun bm mS mT Gb=>aJ bm mS (Ext.dJ iX mT (b6 _))⟩
  simp only[dT,gK,gL] at al
  rcases al with rfl|rfl|rfl|rfl<;>trivial
structure Bh (w:World) (aD:Nat) (a:bY) (br:ak) (m:Nat) (gs:ak) (au:List c3) (seen bn:List Nat) (no level:Int) (J:World) (s:ak) (a':bY) (iK:ak) (jL jM kids:List Nat):Prop where
 r:lR au no level a seen bn a' jL jM kids
 at_:di J aD a' br m iK au jL jM
 kids:dC (fun q=>w.heap.size≤q∧¬aM iK q) J s kids
 az:aq (fun q=>q=aD∨q=m∨aM gs q) w J
 own:∀q,aM iK q→aM gs q∨w.heap.size≤q
theorem Po (h:di w aD a br m gs au seen bn) (no level:Int):
   aN Tryz.prog F.pQ #[.pointer (some ⟨aD,0,none⟩), .int .i64 no, .int .i64 level] w (fun v J=>∃s a' iK jL jM kids,v= .slice s.a s.len s.cap∧Bh w aD a br m gs au seen bn no level J s a' iK jL jM kids):=by
 have jD:=h.n
 have aS:=h.lt
 have cK:br.len=au.length:=b2.len h.s
 obtain ⟨gQ,sM,_⟩:=h.cell
 have pM:∀ {cP:World} {yt:List Nat},di cP aD a br m gs au yt bn→aq (fun q=>q=aD∨q=m∨aM gs q) w cP→lR au no level a seen bn {a with bad:=inc a.bad} yt bn []→∃a26:Addr,(some ⟨aD,0,none⟩:Option Addr)=some a26∧∃n27:Int,cP.cell? (a26.add 9)=some (.int .i64 n27)∧
     ∃a28:Addr,(some ⟨aD,0,none⟩:Option Addr)=some a28∧(∃u:Value,cP.cell? (a28.add 9)=some u)∧cP.frozen? (a28.add 9)=false∧aG (cP.setCell (a28.add 9) (.int .i64 (IntKind.wrap .i64 (n27+1)))) fun ej=>
     (∃s a' iK jL jM kids,Value.slice none 0 0= .slice s.a s.len s.cap∧Bh w aD a br m gs au seen bn no level ej s a' iK jL jM kids):=by
   intro cP yt u_ Pp aC
   obtain ⟨_,_,_,_,_,_,mJ⟩:=u_.cell
   obtain ⟨ie,ig,fZ,jj⟩:=u_.put (j:=9) (a':={a with bad:=inc a.bad}) (v:= .int .i64 (inc a.bad)) (by decide) rfl
   exact ⟨_,rfl,a.bad,mJ,_,rfl,ie,ig,bD ⟨⟨none,0,0⟩,_,gs,yt,bn,[],rfl,aC,fZ,dC.none _ _,dv Pp jj fun q _ e=> .inl e,fun q ag=> .inl ag⟩⟩
 refine W.Pq _ no level w _ ?_
 (delta W.pQ aA aW aE st aK bK mJ z4 ah A5 z5;dsimp only)
 refine c2 (fun b J=>b= !(decide (0≤no)&&decide (no<(au.length:Nat)))∧w=J) (fun q ag=>⟨fun aI=>ag _ _ ⟨?_,rfl⟩,fun aI=>⟨_,rfl,br,gQ,ag _ _ ⟨?_,rfl⟩⟩⟩) ?_
 · have:=cG aI
   rw[qo (show¬0≤no by omega)];rfl
 · have:=cT aI
   rw[eA (show 0≤no by omega),jx,cK,fU,c1,mh,k7];omega
 rintro _ _ ⟨rfl,rfl⟩
 refine c2 (fun b J=>b=(!(decide (0≤no)&&decide (no<(au.length:Nat)))||decide (no.toNat∈seen))∧w=J) (fun q ag=>⟨fun aI=>ag _ _ ⟨by rw[aI];rfl,rfl⟩,fun aI=>⟨_,rfl,some m,sM,decide (no.toNat∈seen),w,?_,ag _ _ ⟨by rw[aI];rfl,rfl⟩⟩⟩) ?_
 · have iV:decide (0≤no)=true∧decide (no<(au.length:Nat))=true:=by
     revert aI
     cases decide (0≤no)<;>cases decide (no<(au.length:Nat))<;>simp
   have bA:=cG iV.1
   have e:no=((no.toNat:Nat):Int):=by omega
   have:=h.OT no.toNat
   rw[←e] at this
   exact this
 rintro _ _ ⟨rfl,rfl⟩
 refine ⟨fun ad=>pM h (.refl _ _) (.Gj fun k aa aB=> ?_),fun ad=> ?_⟩
 · subst aa
   rw[eC,eA (by omega),eA (by omega),Bool.and_self,Bool.not_true,k8] at ad
   exact cG ad
 obtain ⟨k,rfl,aa,jk⟩:∃k:Nat,no=(k:Int)∧k<au.length∧k∉seen:=by
   rw[ud,Bool.not_eq_false',eL,c1,c1,k7] at ad
   exact ⟨no.toNat,by omega,by omega,ad.2⟩
 obtain ⟨cJ,FA,vf,re⟩:=h.OS aa jk
 have Bi:aq (fun q=>q=aD∨q=m∨aM gs q) w cJ:=re.mono fun q _ e=> .inr (.inl e)
 refine ⟨_,rfl,some m,sM,cJ,FA,c2 (fun n J=>n=((pP level:Nat):Int)∧cJ=J) (fun q ag=>⟨fun aB=>ag _ _ ⟨by unfold pP;rw[aB];rfl,rfl⟩,fun aB=>ag _ _ ⟨by unfold pP;rw[aB];rfl,rfl⟩⟩) ?_⟩
 rintro _ _ ⟨rfl,rfl⟩
 obtain ⟨A,t,an,Bc,Bd,Gl,_⟩:=b2.at vf.s aa
 have lh:(au[k]).length=256:=h.len _ (eV aa)
 have n0:au.getD k []=au[k]:=ep aa
 refine ⟨_,rfl,br,vf.cell.1,A,an,Bc,t,Bd,(jB Gl.1 Gl.2.1 (by omega) ((k:Nat):Int)).use ?_⟩
 rintro v27 cM ⟨fP,lH⟩
 have Bj:(∀p n,eX ((k:Nat):Int) (au.getD k [])= .ok p→nx (level==1) p.body n→p.kind≠pP level)→lR au ((k:Nat):Int) level a seen bn {a with bad:=inc a.bad} (k::seen) bn []:= .bad k rfl aa jk
 cases aU:eX ((k:Nat):Int) au[k] with
 |error e=>
   rw[aU] at fP
   have bU:=x4 aU
   obtain rfl:v27=_:=fP
   refine ⟨0,0,⟨none,0,0⟩,e,rfl,Gk fun cO yu mU=>⟨⟨none,0,0⟩,by rw[ba];exact yu.cell,(lz (s:=⟨none,0,0⟩) (l:=[]) (bd.none 1 aj.uint8 cO).src (b6 _) (fun q ag=>(ld q ag).elim) (by decide) (level==1)).use ?_⟩⟩
   rintro v36 cX ⟨jH,iL⟩
   have al:∃ (b:Bool) (K V D:ak) (mX:Int),v36= .tuple #[.agg #[.bool b, .slice K.a K.len K.cap, .slice V.a V.len V.cap, .slice D.a D.len D.cap], .int .i64 mX]:=by
     rcases jH with ⟨n,K,V,D,al,_⟩|⟨al,_⟩
     · exact ⟨_,K,V,D,_,al⟩
     · exact ⟨_,_,_,_,_,al⟩
   obtain ⟨b,K,V,D,mX,rfl⟩:=al
   refine ⟨b,K,V,D,mX,rfl,Bg fun gn yv rf=>c2 (fun b J=>b=true∧gn=J) (fun q ag=>⟨fun _=>ag _ _ ⟨rfl,rfl⟩,fun aI=> ?_⟩) ?_⟩
   · have:(e !=0)=true:=by simpa using bU
     rw[this] at aI;cases aI
   rintro _ _ ⟨rfl,rfl⟩
   have eo:=Ext.trans (Ext.trans lH mU) (Ext.trans iL rf)
   exact ⟨fun _=>pM (vf.hO eo fun _ _ h=>h) (Bi.trans (eo.mono fun _ _ h=>h.elim)) (Bj fun p n U _=>by rw[n0,aU] at U;cases U),fun h=>(by cases h)⟩
 |ok p=>
   rw[aU] at fP
   obtain ⟨cr,rfl,kJ,AI⟩:=fP
   have vb:=F8 aU
   refine ⟨_,_,cr,0,rfl,Gk fun cO yu mU=>⟨cr,by rw[ba];exact yu.cell,(lz (kJ.src.ext mU) kJ.2.1 (fun q ag=>mf (kJ.lt q ag) mU.size) (by omega) (level==1)).use ?_⟩⟩
   rintro v36 cX ⟨⟨n,K,V,D,rfl,Pr,Ps⟩|⟨rfl,fH⟩,iL⟩
   rotate_left
   · refine ⟨_,_,_,_,4,rfl,Bg fun gn yv rf=>c2 (fun b J=>b=true∧gn=J) (fun q ag=>⟨fun _=>ag _ _ ⟨rfl,rfl⟩,fun aI=>(by cases aI)⟩) ?_⟩
     rintro _ _ ⟨rfl,rfl⟩
     have eo:=Ext.trans (Ext.trans lH mU) (Ext.trans iL rf)
     exact ⟨fun _=>pM (vf.hO eo fun _ _ h=>h) (Bi.trans (eo.mono fun _ _ h=>h.elim)) (Bj fun Pt n U ab=>by rw[n0,aU] at U;cases U;exact absurd ab (fH n)),fun h=>(by cases h)⟩
   refine ⟨n.leaf,K,V,D,0,rfl,Bg fun gn yv rf=> ?_⟩
   have eo:=Ext.trans (Ext.trans lH mU) (Ext.trans iL rf)
   have Pu:=(yu.ext iL).ext rf
   have Bk:=vf.hO eo fun _ _ h=>h
   have Bl:aq (fun q=>q=aD∨q=m∨aM gs q) w gn:=Bi.trans (eo.mono fun _ _ h=>h.elim)
   refine c2 (fun b J=>b=decide (p.kind≠pP level)∧gn=J) (fun q ag=>⟨fun aI=>(by cases aI),fun _=>⟨_,Pu.cell,ag _ _ ⟨?_,rfl⟩⟩⟩) ?_
   · rw[fU,bne_iff_ne,c1];omega
   rintro _ _ ⟨rfl,rfl⟩
   refine ⟨fun cb=>pM Bk Bl (Bj fun Pt kG U ab=>by rw[n0,aU] at U;cases U;exact cG cb),fun cb=> ?_⟩
   have Pv:p.kind=pP level:=r6 fun fI=>by rw[eA fI] at cb;cases cb
   have Pw:k∉bn:=fun fI=>jk (h.hN.2.1 k fI)
   obtain ⟨g',vg,aE,cU,aW,Bm,yw,fl⟩:=Bk.OU (k:=k) (List.mem_cons_self ..) Pw
   refine ⟨_,rfl,gs,Bk.cell.2.2.1,bD ⟨g',vg,aE,_,rfl,cU,aW,bD ?_⟩⟩
   generalize vg.setCell (Addr.add ⟨aD,0,none⟩ 12) (.slice g'.a g'.len g'.cap)=ih at Bm yw
   obtain ⟨_,_,_,kc,_⟩:=Bm.cell
   obtain ⟨ie,ig,Bn,yx⟩:=Bm.put (j:=5) (a':={a with gZ:=inc a.gZ}) (v:= .int .i64 (inc a.gZ)) (by decide) rfl
   refine ⟨_,rfl,a.gZ,kc,_,rfl,ie,ig,bD ?_⟩
   show bZ _ _
   have Px:ih.setCell (Addr.add ⟨aD,0,none⟩ 5) (.int .i64 (IntKind.wrap .i64 (a.gZ+1)))=ih.setCell (Addr.add ⟨aD,0,none⟩ 5) (.int .i64 (inc a.gZ)):=rfl
   rw[Px]
   generalize ih.setCell (Addr.add ⟨aD,0,none⟩ 5) (.int .i64 (inc a.gZ))=jN at Bn yx
   have yy:w.heap.size≤cX.heap.size:=by have:=re.size;have:=lH.size;have:=mU.size;have:=iL.size;omega
   have UB:=yv.lt
   have gj:∀q,w.heap.size≤q→q≠aD∧¬aM gs q:=fun q ag=>⟨fun e=>by have:=aS.1;omega,fun a6=>by have:=aS.2.2 q a6;omega⟩
   have Py:=yv.az yw fun e=>by
     rcases e with e|e
     · exact (gj _ yy).1 e
     · exact (gj _ yy).2 e
   have Gm:=Py.az yx fun e=>(gj _ yy).1 e
   have Pz:∀q,cO.heap.size≤q→w.heap.size≤q:=fun q ag=>by have:=re.size;have:=lH.size;have:=mU.size;omega
   have Gn:=h8.ext Ps rf
   have PA:dC (fun q=>q<gn.heap.size∧w.heap.size≤q) gn D n.kids:=dC.cA Gn.kids fun q ag ad=>⟨ag,Pz q ad⟩
   have PB:=dC.az (dC.az PA yw fun q ag e=>by
     rcases e with e|e
     · exact (gj q ag.2).1 e
     · exact (gj q ag.2).2 e) yx fun q ag e=>(gj q ag.2).1 e
   have Gp:∀q,aM g' q→aM gs q∨gn.heap.size≤q:=fl
   have j4:K.len=n.keys.length:=b2.len Gn.keys
   have UC:w.heap.size≤gn.heap.size:=Bl.size
   have fin:∀ {fR:World} {a':bY},di fR aD a' br m g' au (k::seen) (bn++ [k])→aq (fun q=>q=aD) jN fR→a'={a with gZ:=inc a.gZ,keys:=if level==1 then IntKind.wrap .i64 (a.keys+(n.keys.length:Nat)) else a.keys}→
       ∃mY:ak,fR.cell? (Addr.add ⟨cX.heap.size,0,none⟩ 3)=some (.slice mY.a mY.len mY.cap)∧∃s a' iK jL jM kids,Value.slice mY.a mY.len mY.cap= .slice s.a s.len s.cap∧Bh w aD a br m gs au seen bn ((k:Nat):Int) level fR s a' iK jL jM kids:=by
     intro fR a' Bo vh aH
     have PC:=Gm.az vh fun e=>(gj _ yy).1 e
     have PD:=dC.az PB vh fun q ag e=>(gj q ag.2).1 e
     refine ⟨D,(hE PC).2.2.2,D,a',g',k::seen,bn++ [k],n.kids,rfl,?_,Bo,dC.cA PD fun q _ ad=>⟨ad.2,fun a6=> ?_⟩,?_,fun q ag=>(Gp q ag).imp id fun h=>by omega⟩
     · rw[aH]
       exact .ok k p n rfl aa jk (by rw[n0];exact aU) Pr Pv
     · rcases Gp q a6 with U|U
       · exact (gj q ad.2).2 U
       · have:=ad.1;omega
     · exact ((Bl.trans (yw.mono fun q _ e=>e.elim .inl fun e=> .inr (.inr e))).trans (yx.mono fun q _ e=> .inl e)).trans (vh.mono fun q _ e=> .inl e)
   refine xE (fun fR=>∃a':bY,di fR aD a' br m g' au (k::seen) (bn++ [k])∧aq (fun q=>q=aD) jN fR∧a'={a with gZ:=inc a.gZ,keys:=if level==1 then IntKind.wrap .i64 (a.keys+(n.keys.length:Nat)) else a.keys}) (fun q ag=>⟨fun aB=> ?_,fun aB=>ag _ ⟨_,Bn, .refl _ _,by rw[aB];rfl⟩⟩) ?_
   · have cg:=dz jN
     have Gq:=Bn.hO cg fun _ _ h=>h
     obtain ⟨_,_,_,_,hJ,_⟩:=Gq.cell
     obtain ⟨ie,ig,PE,PF⟩:=Gq.put (j:=6) (a':={a with gZ:=inc a.gZ,keys:=IntKind.wrap .i64 (a.keys+(n.keys.length:Nat))}) (v:= .int .i64 (IntKind.wrap .i64 (a.keys+(n.keys.length:Nat)))) (by decide) rfl
     refine bD ⟨_,rfl,id,a.keys,hJ,id,K,(hE (Gm.ext cg)).2.1,_,rfl,ie,ig,?_⟩
     rw[j4]
     exact bD (ag _ ⟨_,PE,dv (cg.mono fun _ _ h=>h.elim) PF fun q _ e=>e,by rw[aB];rfl⟩)
   · rintro fR ⟨a',Bo,vh,aH⟩
     exact fin Bo vh aH
end
end
section
def eG (sz:Nat) (T:TypeId) (w:World) (s:ak) (vs:List Value):Prop:=
 vs.length=s.len*sz∧s.len≤s.cap∧s.cap≤maxLen∧((s.a=none∧s.cap=0)∨∃b o c,s.a=some ⟨b,o,none⟩∧bo w b c T∧o+s.cap*sz≤c.size∧(c.toList.drop o).take (s.len*sz)=vs)
section
variable {sz:Nat} {T:TypeId} {w J:World} {s:ak} {vs xs:List Value}
theorem bd.Gr (h:bd sz T w s vs):eG sz T w s vs:=by
 obtain ⟨U,ab,aw,aL⟩:=h
 refine ⟨U,ab,aw,aL.imp id ?_⟩
 rintro ⟨b,c,ad,fe,ai,al⟩
 exact ⟨b,0,c,ad,fe,by omega,by rw[oK];exact al⟩
theorem eG.src (h:eG sz T w s vs):Src sz w s vs:=by
 obtain ⟨U,ab,aw,aL⟩:=h
 rcases aL with ⟨aH,ai⟩|⟨b,o,c,ad,fe,ai,al⟩
 · have:s.len=0:=by omega
   rw[this,sa] at U
   exact ⟨by rw[U,this,sa],fun _=>List.eq_nil_of_length_eq_zero U,fun a h=>by rw[aH] at h;cases h⟩
 · have hle:o+s.len*sz≤c.size:=by
     have:=r_ sz ab
     omega
   have bt:=bo.Fa (sz:=sz) (o:=o) (n:=s.len) (cap:=s.cap) fe hle
   rw[al,←ad] at bt
   exact bt
theorem eG.az {W:Nat→Prop} (h:eG sz T w s vs) (ai:aq W w J) (ay:∀k,aM s k→¬W k):eG sz T J s vs:=by
 obtain ⟨U,ab,aw,aL⟩:=h
 refine ⟨U,ab,aw,?_⟩
 rcases aL with aL|⟨b,o,c,ad,dm,dn,al⟩
 · exact .inl aL
 · exact .inr ⟨b,o,c,ad,dm.az ai (ay b ⟨_,ad,rfl⟩),dn,al⟩
theorem eG.ext (h:eG sz T w s vs) (ai:Ext w J):eG sz T J s vs:=eG.az h ai fun _ _ h=>h
theorem eG.lt (h:eG sz T w s vs):∀k,aM s k→k<w.heap.size:=by
 rintro k ⟨A,an,rfl⟩
 obtain ⟨_,_,_,aL⟩:=h
 rcases aL with ⟨ay,_⟩|⟨b,o,c,ad,dm,_⟩
 · rw[ay] at an;cases an
 · rw[ad] at an;cases an;exact dm.lt
theorem eG.tail (h:eG sz T w s vs) (U:1≤s.len):eG sz T w ⟨b7 s.a sz 1 s.cap,s.len-1,s.cap-1⟩ (vs.drop sz)∧∀q,aM ⟨b7 s.a sz 1 s.cap,s.len-1,s.cap-1⟩ q→aM s q:=by
 obtain ⟨bp,bw,bL,cx⟩:=h
 rcases cx with ⟨aH,ai⟩|⟨b,o,c,ad,fe,ai,al⟩
 · omega
 have aT:s.len*sz=sz+(s.len-1)*sz:=by
   obtain ⟨n,ay⟩:∃n,s.len=n+1:=⟨s.len-1,by omega⟩
   rw[ay,Nat.add_sub_cancel,iu,qu,Nat.add_comm]
 have a8:s.cap*sz=sz+(s.cap-1)*sz:=by
   obtain ⟨n,ay⟩:∃n,s.cap=n+1:=⟨s.cap-1,by omega⟩
   rw[ay,Nat.add_sub_cancel,iu,qu,Nat.add_comm]
 have aB:(vs.drop sz).length=(s.len-1)*sz:=by rw[nq,bp];omega
 by_cases uZ:1=s.cap
 · have nF:b7 s.a sz 1 s.cap=s.a:=by unfold b7;rw[if_pos uZ.symm]
   rw[nF]
   refine ⟨⟨aB,by show s.len-1≤s.cap-1;omega,by show s.cap-1≤_;omega, .inr ⟨b,o,c,ad,fe,by show o+(s.cap-1)*sz≤_;omega,?_⟩⟩,fun q ag=>ag⟩
   have ei:s.len-1=0:=by omega
   show (c.toList.drop o).take ((s.len-1)*sz)=_
   rw[ei,sa,List.take_zero]
   rw[ei,sa] at aB
   exact (List.eq_nil_of_length_eq_zero aB).symm
 · have nF:b7 s.a sz 1 s.cap=some ⟨b,o+sz,none⟩:=by rw[ad,xw (fun e=>uZ e.symm),qu]
   rw[nF]
   refine ⟨⟨aB,by show s.len-1≤s.cap-1;omega,by show s.cap-1≤_;omega, .inr ⟨b,o+sz,c,rfl,fe,by show o+sz+(s.cap-1)*sz≤_;omega,?_⟩⟩,fun q ag=> ?_⟩
   · show (c.toList.drop (o+sz)).take ((s.len-1)*sz)=_
     rw[←al,aT,List.drop_take,r5]
     congr 1
     omega
   · obtain ⟨A,an,rfl⟩:=ag
     cases an
     exact ⟨_,ad,rfl⟩
theorem gM.PG {P:Program} {dk e db:TypeId} {bytes:Nat} (h:gM P dk e sz bytes) (af:xs.length=sz) (fl:eG sz e w s vs) (aU:∀v∈xs,Plain v) (lS:(2*(s.len+1)+1000)*bytes≤281474976710656):
   ∃ (ar:ak) (J:World),Sem.run P (Builtin.append_ #[dk,dk] db #[.slice s.a s.len s.cap, .slice (some ⟨w.heap.size,0,none⟩) 1 1]) (w.alloc (.cells xs.toArray e))= .ok (.slice ar.a ar.len ar.cap) J∧
     eG sz e J ar (vs++xs)∧ar.len=s.len+1∧aq (aM s) w J∧(∀k,aM ar k→aM s k∨w.heap.size≤k):=by
 have gS:Ext w (w.alloc (.cells xs.toArray e)):=aq.alloc (.refl _ _) _
 obtain ⟨U,i,z,ab,aw,aL,bt,cj,rfl,h7⟩:=h.out
 have fi:=Src.new (T:=e) w xs 1 (by simpa using af)
 have a6:=eG.ext fl gS
 have hold:=eG.src a6
 have bI:=gS.size
 obtain ⟨bp,bw,bL,cx⟩:=a6
 by_cases kk:s.len+1≤s.cap
 · rcases cx with ⟨ay,ai⟩|⟨b,o,c,mZ,dm,dn,al⟩
   · omega
   have aT:(s.len+1)*sz=s.len*sz+sz:=by rw[iu,qu]
   have hle:o+s.len*sz+xs.length≤c.size:=by
     have:=r_ sz kk
     omega
   obtain ⟨d,ax⟩:=lT _ aw
   have iB:=Bp (gF:= #[dk,dk]) (db:=db) rfl rfl U U ax cj fi kk (fun a aH=>by
     rw[mZ] at aH;cases aH
     rw[ba]
     exact dm.fG _ _ hle aU)
   simp only[mZ,ba] at iB
   rw[←mZ] at iB
   refine ⟨⟨s.a,s.len+1,s.cap⟩,_,iB,⟨by rw[fF,bp,af,aT],kk,bL, .inr ⟨b,o,_,mZ,bo.qF dm xs,by rw[sf];exact dn,?_⟩⟩,rfl,?_,fun k aa=> .inl aa⟩
   · rw[uz _ _ _ hle,aT]
     have t1:(c.toList.take (o+s.len*sz)++xs++c.toList.drop (o+s.len*sz+xs.length)).drop o=vs++xs++c.toList.drop (o+s.len*sz+xs.length):=by
       rw[gI,List.drop_append_of_le_length (by simp;omega),List.drop_take,Nat.add_sub_cancel_left,al,gI]
     rw[t1,List.take_append_of_le_length (by rw[fF,bp,af];omega),hX (by rw[fF,bp,af];omega)]
   · exact ((aq.gi gS).trans (aq.mono (W:=fun q=>q=b) (aq.uq (.refl _ _) _ 0) fun q _ e=>⟨_,mZ,e.symm⟩))
 · obtain ⟨g0,rest,jD,gU,aC,iB⟩:=bl.run_append_grow (gF:= #[dk,dk]) (db:=db) rfl rfl U U ab aw aL bt cj h7 fi hold (by show s.cap<s.len+1;omega) lS
   have aT:(s.len+1)*sz=s.len*sz+sz:=by rw[iu,qu]
   refine ⟨⟨some ⟨(w.alloc (.cells xs.toArray e)).heap.size,0,none⟩,s.len+1,g0⟩,_,iB,bd.Gr ?_,rfl,aq.alloc (aq.drew (aq.gi gS)) _,?_⟩
   · refine ⟨by rw[fF,bp,af,aT],jD,gU, .inr ⟨(w.alloc (.cells xs.toArray e)).heap.size,(vs++xs++rest).toArray,rfl,bo.new (w.alloc (.cells xs.toArray e)).drew _ _,?_,?_⟩⟩
     · have aC:rest.length=(g0-(s.len+1))*sz:=aC
       have jD:s.len+1≤g0:=jD
       rw[wZ,fF,fF,bp,af,aC,←aT,←iu]
       congr 1
       show s.len+1+(g0-(s.len+1))=g0
       omega
     · have:(vs++xs).length=(s.len+1)*sz:=by rw[fF,bp,af,aT]
       show List.take ((s.len+1)*sz) (vs++xs++rest).toArray.toList=vs++xs
       rw[←this]
       exact List.take_left
   · rintro k ⟨A,an,aa⟩
     cases an
     right
     have aa:(w.alloc (.cells xs.toArray e)).heap.size=k:=aa
     omega
end
end
section
inductive n3 (au:List c3):List (Int×Int)→bY→List Nat→List Nat→bY→List Nat→List Nat→Prop
 |done (a:bY) (seen bn:List Nat):n3 au [] a seen bn a seen bn
 |step {no level:Int} {q:List (Int×Int)} {a a7 bB:bY} {seen bn pR rh vi vj kids:List Nat}:lR au no level a seen bn a7 pR rh kids→
     n3 au (q++kids.map fun k=>(((k:Nat):Int),IntKind.wrap .i64 (level-1))) a7 pR rh bB vi vj→n3 au ((no,level)::q) a seen bn bB vi vj
def lU (x:Int×Int):List Value:=[.int .i64 x.1, .int .i64 x.2]
theorem vk (l:List (Int×Int)):∀x∈l,(lU x).length=2:=fun _ _=>rfl
def pS (m:Nat) (w:World):Nat:=match w.heap[m]? with
 |some (.map es _)=>es.size
 |_=>0
theorem cI.pS {α:Type} {w:World} {m:Nat} {enc:α→Value} {M:List (α×Value)} (h:cI w m enc M):pS m w=M.length:=by
 obtain ⟨L,bW,h,U,_⟩:=h
 unfold Go.Proofs.YtmhhgpogjpbglaaGreat.pS
 rw[h]
 have:=U.length_eq
 simpa using this
theorem Gs:∀ (l:List Key),l.length≤(l.map fun k=>3+k.length).sum
 | []=>b6 _
 |k::l=>by
   have:=Gs l
   rw[jw,List.sum_cons,ir];omega
theorem PH {leaf:Bool} {b:List UInt8} {n:cw} (h:nx leaf b n):n.kids.length≤240:=by
 obtain ⟨U,_,ab,_⟩:=h
 rcases U with U|U
 · rw[U.kids];exact ft _
 · rw[U.len]
   have aw:=Gs n.keys
   unfold kx cellsOf at ab
   rw[if_neg (by rw[U.inner];simp),if_neg (by rw[U.inner];simp)] at ab
   omega
theorem cI.PI {w:World} {m:Nat} {seen:List Nat} (h:cI w m encZ (seen.map fun x=>(((x:Nat):Int),Value.bool true))):seen.Nodup:=by
 obtain ⟨L,bW,_,U,ab,_⟩:=h
 have aw:(L.map fun x=>x.1)=(L.map mE).map Prod.fst:=by rw[mg];rfl
 rw[aw] at ab
 have aL:=(U.map Prod.fst).nodup_iff.1 ab
 rw[mg] at aL
 exact (List.pairwise_map.1 aL).imp fun h e=>h (by rw[e])
theorem lR.len {au:List c3} {no level:Int} {a a':bY} {seen bn ar g' kids:List Nat} (h:lR au no level a seen bn a' ar g' kids) (ay:seen.Nodup) (aB:∀x∈seen,x<au.length):kids.length+300*(au.length-ar.length)≤300*(au.length-seen.length)∧kids.length≤240:=by
 have aS:∀k,k<au.length→k∉seen→seen.length<au.length:=fun k aa jk=>by
   have U:(k::seen).Nodup:=List.nodup_cons.2 ⟨jk,ay⟩
   have ab:=A4 U (b:=List.range au.length) fun x af=>by
     rw[oH]
     rcases dT.1 af with rfl|af
     · exact aa
     · exact aB x af
   rw[uj,ir] at ab
   omega
 cases h with
 |Gj=>exact ⟨by rw[qq];omega,ft _⟩
 |bad k _ aa jk=>
   have:=aS k aa jk
   exact ⟨by rw[ir,qq];omega,ft _⟩
 |ok k p n _ aa jk aU ax=>
   have:=aS k aa jk
   have bt:=PH ax
   exact ⟨by rw[ir];omega,bt⟩
theorem Gt {w:World} {s:ak} {x:Int×Int} {q:List (Int×Int)} (h:Src 2 w s (b9 lU (x::q))):∃a:Addr,s.a=some a∧((0:Int)≤0∧0<((s.len:Nat):Int))∧w.cell? (a.add (Int.toNat 0*2))=some (.int .i64 x.1)∧w.cell? ((a.add (Int.toNat 0*2)).add 1)=some (.int .i64 x.2)∧aM s a.block:=by
 have aB:=h.len
 rw[kF _ (vk _)] at aB
 have cK:s.len=(x::q).length:=by omega
 cases aH:s.a with
 |none=>
   have:=congrArg List.length (h.nil aH)
   rw[kF _ (vk _),qq,ir] at this;omega
 |some a=>
   have aC:=h.rd a aH
   have bu:∀j v,(lU x)[j]? =some v→w.cell? (a.add (0*2+j))=some v:=fun j v al=>by
     have bb:j<2:=(tZ.1 al).1
     have cj:=uv aC (j:=0*2+j) (v:=v) (by rw[EZ (vk (x::q)) (i:=0) (by simp) bb];exact al)
     rw[e6] at cj
     exact cj
   have kD:Int.toNat 0=0:=rfl
   rw[kD]
   rw[ir] at cK
   refine ⟨a,rfl,⟨by omega,by omega⟩,bu 0 _ rfl,?_,⟨a,aH,rfl⟩⟩
   rw[add_add]
   exact bu 1 _ rfl
theorem PJ:gM Tryz.prog aj.vl aj.pT 2 16:=⟨by kernel_rfl⟩
def vm (level:Int) (k:Nat):Int×Int:=(((k:Nat):Int),IntKind.wrap .i64 (level-1))
section
variable {w J:World} {aD m:Nat} {a:bY} {br gs:ak} {au:List c3} {seen bn:List Nat}
theorem PK (h:di w aD a br m gs au seen bn) (root bG:Int):
   aN Tryz.prog F.pU #[.pointer (some ⟨aD,0,none⟩), .int .i64 root, .int .i64 bG] w (fun v J=>v= .tuple #[]∧∃a' iK jL jM,n3 au [(root,bG)] a seen bn a' jL jM∧di J aD a' br m iK au jL jM∧aq (fun q=>q=aD∨q=m∨aM gs q) w J):=by
 have aS:=h.lt
 refine W.PL _ root bG w _ ?_
 (delta W.pU ah aA bK aE b8 aK;dsimp only)
 obtain ⟨ae,nN⟩:∃ae,ae=w.alloc (.cells #[.int .i64 root, .int .i64 bG] aj.pT):=⟨_,rfl⟩
 have bg:Ext w ae:=by rw[nN];exact eE _ _
 have uw:eG 2 aj.pT ae ⟨some ⟨w.heap.size,0,none⟩,1,1⟩ (b9 lU [(root,bG)]):=by
   rw[nN]
   exact bd.Gr (bd.new w [.int .i64 root, .int .i64 bG] 1 rfl (by decide))
 rw[←nN]
 refine bD ⟨fun s J=>∃ (q:List (Int×Int)) (a7:bY) (ri:ak) (pR rh:List Nat),eG 2 aj.pT J s (b9 lU q)∧(∀k,aM s k→w.heap.size≤k∧¬aM ri k)∧di J aD a7 br m ri au pR rh∧b2 (fun k=>k<w.heap.size∧k≠aD∧k≠m∧¬aM ri k) J br au∧(∀bB s2 bw,n3 au q a7 pR rh bB s2 bw→n3 au [(root,bG)] a seen bn bB s2 bw)∧aq (fun q=>q=aD∨q=m∨aM gs q) w J∧(∀k,aM ri k→aM gs k∨w.heap.size≤k)∧q.length+300*(au.length-pR.length)≤1000000,
   fun s J=>s.len+300*(au.length-pS m J),⟨[(root,bG)],a,gs,seen,bn,uw,fun k aa=> ?_,h.hO bg fun _ _ h=>h,b2.ext (b2.cA h.s fun k aa ad=>⟨aa,ad⟩) bg,fun _ _ _ h=>h,bg.mono fun _ _ h=>h.elim,fun k aa=> .inl aa,?_⟩,?_⟩
 · obtain ⟨A,an,rfl⟩:=aa
   cases an
   exact ⟨b6 _,fun a6=>by have:=aS.2.2 _ a6;have:w.heap.size<w.heap.size:=this;omega⟩
 · have:=h.n
   simp only[ir,qq];omega
 rintro s aR ⟨q,a7,ri,pR,rh,a6,uP,mW,PM,Gu,ai,lV,Eo⟩
 have cK:s.len=q.length:=by
   have:=a6.1
   rw[kF _ (vk _)] at this;omega
 refine ⟨fun qD=> ?_,fun bS=> ?_⟩
 · obtain ⟨x,lN,rfl⟩:∃x lN,q=x::lN:=by
     cases q with
     |nil=>
       have:=cG qD
       rw[qq] at cK
       omega
     |cons x lN=>exact ⟨x,lN,rfl⟩
   have cg:=dz aR
   have kO:=eG.ext a6 cg
   obtain ⟨A,an,ad,gB,bN,_⟩:=Gt (eG.src kO)
   refine bD ⟨fun _=>False,A,an,ad,id,x.1,gB,A,an,ad,id,x.2,bN,(Po (mW.hO cg fun _ _ h=>h) x.1 x.2).use ?_⟩
   rintro _ bm ⟨c9,bB,pV,vi,vj,kids,rfl,lW⟩
   have n4:=lW.kids
   have PN:=lW.at_
   have F7:=lW.r.len (cI.PI mW.mp) mW.hN.2.2
   have MC:w.heap.size≤aR.drew.heap.size:=by have:=ai.size;have:=cg.size;omega
   have PO:=lW.az.size
   have Ba:∀k,aM s k→k<aR.drew.heap.size:=eG.lt kO
   have PQ:eG 2 aj.pT bm s (b9 lU (x::lN)):=eG.az kO lW.az fun k aa e=>by
     have U:=uP k aa
     rcases e with e|e|e
     · have:=aS.1;omega
     · have:=aS.2.1;omega
     · exact U.2 e
   have PR:∀k,aM pV k→aM gs k∨w.heap.size≤k:=fun k aa=>by
     rcases lW.own k aa with U|U
     · exact lV k U
     · exact .inr (by omega)
   have PS:∀k,aM s k→w.heap.size≤k∧¬aM pV k:=fun k aa=>⟨(uP k aa).1,fun ab=>by
     rcases lW.own k ab with aw|aw
     · exact (uP k aa).2 aw
     · have:=Ba k aa;omega⟩
   have PT:b2 (fun k=>k<w.heap.size∧k≠aD∧k≠m∧¬aM pV k) bm br au:=by
     refine b2.cA (b2.az (b2.ext PM cg) lW.az fun k aa e=> ?_) fun k _ aa=>⟨aa.1,aa.2.1,aa.2.2.1,fun ab=> ?_⟩
     · rcases e with e|e|e
       · exact aa.2.1 e
       · exact aa.2.2.1 e
       · exact aa.2.2.2 e
     · rcases lW.own k ab with aw|aw
       · exact aa.2.2.2 aw
       · have:=aa.1;omega
   have mT:aq (fun k=>k=aD∨k=m∨aM gs k) w bm:=dv ai (dv (cg.mono (V:=fun k=>k=aD∨k=m∨aM ri k) fun _ _ h=>h.elim) lW.az fun k _ e=>e) fun k aa e=>by
     rcases e with e|e|e
     · exact .inl e
     · exact .inr (.inl e)
     · exact .inr (.inr ((lV k e).resolve_right (by omega)))
   have j4:c9.len=kids.length:=dC.len n4
   have PU:∀k,aM c9 k→aR.drew.heap.size≤k:=fun k aa=>(n4.2.2 k aa).1.1
   refine ⟨c9,rfl,fun ct n J=>∃j:Nat,n=(j:Int)∧j≤kids.length∧eG 2 aj.pT J ct (b9 lU (x::(lN++(kids.take j).map (vm x.2))))∧(∀k,aM ct k→w.heap.size≤k∧¬aM pV k)∧di J aD bB br m pV au vi vj∧b2 (fun k=>k<w.heap.size∧k≠aD∧k≠m∧¬aM pV k) J br au∧Src 1 J c9 (ja kids)∧(∀k,aM c9 k→¬aM ct k∧k<J.heap.size)∧aq (fun k=>w.heap.size≤k) bm J,
     fun _ n _=>((kids.length:Int)-n).toNat,⟨0,rfl,ft _,by rw[List.take_zero,List.map_nil,List.append_nil];exact PQ,PS,PN,PT,n4.1,fun k aa=>⟨fun ab=>by have:=PU k aa;have:=Ba k ab;omega,(n4.2.2 k aa).2⟩, .refl _ _⟩,?_⟩
   rintro ct _ cJ ⟨j,rfl,bb,vn,rj,lX,Gv,Gw,yz,re⟩
   have UD:ct.len=lN.length+1+j:=by
     have:=vn.1
     rw[kF _ (vk _),ir,fF,eB,g8] at this
     omega
   rw[ir] at Eo cK
   refine ⟨fun AS=> ?_,fun AT=> ?_⟩
   · have nT:j<kids.length:=by
       have:((j:Nat):Int)<((c9.len:Nat):Int):=cG AS
       omega
     obtain ⟨PV,PW,PX,q4⟩:=Gw.at (i:=j) (v:= .int .i64 ((kids[j]:Nat):Int)) (by simp[ja,nT])
     obtain ⟨PY,PZ,P0,_,d1,_⟩:=Gt (eG.src vn)
     obtain ⟨jl,de,aE,cU,aW,bE,fK⟩:=gM.PG PJ (db:=aj.vl) (w:=cJ) (xs:=lU (vm x.2 kids[j])) rfl vn (fun v al=>by
       simp only[lU,dT,gK,gL] at al
       rcases al with rfl|rfl<;>trivial) (by omega)
     have lI:IntKind.wrap .i64 (((j:Nat):Int)+1)=((j+1:Nat):Int):=by rw[b_ (by omega) (by omega)];omega
     rw[lI]
     have Gx:∀k,aM ct k→k≠aD∧k≠m:=fun k aa=>⟨fun e=>by have:=(rj k aa).1;have:=aS.1;omega,fun e=>by have:=(rj k aa).1;have:=aS.2.1;omega⟩
     have Gy:b2 (fun k=>k<w.heap.size∧k≠aD∧k≠m∧¬aM pV k) de br au:=b2.az Gv bE fun k aa e=>by have:=(rj k e).1;have:=aa.1;omega
     refine ⟨PV,PW,PX,_,q4,PY,PZ,P0,x.2,d1,bD ⟨jl,de,aE,⟨j+1,rfl,by omega,?_,fun k aa=> ?_,⟨lX.v.az bE fun e=>(Gx aD e).1 rfl,b2.cA Gy fun k _ aa=>aa.2,lX.mp.az bE fun e=>(Gx m e).2 rfl,lX.g.az bE fun k aa e=>(rj k e).2 aa,lX.ne,lX.len,lX.n,lX.q9,lX.hN⟩,Gy,Gw.az bE fun k aa e=>(yz k aa).1 e,fun k aa=>⟨fun ab=> ?_,by have:=(yz k aa).2;have:=bE.size;omega⟩,re.trans (bE.mono fun k _ aa=>(rj k aa).1)⟩,by show ((kids.length:Int)-((j+1:Nat):Int)).toNat<((kids.length:Int)-((j:Nat):Int)).toNat;omega⟩⟩
     · rw[mc nT,gu,←gI,←uk,xL]
       exact cU
     · rcases fK k aa with U|U
       · exact rj k U
       · have:=re.size
         exact ⟨by omega,fun ab=>by have:=lX.lt.2.2 k ab;omega⟩
     · rcases fK k ab with U|U
       · exact (yz k aa).1 U
       · have:=(yz k aa).2;omega
   · have P1:j=kids.length:=by
       have:¬((j:Nat):Int)<((c9.len:Nat):Int):=cT AT
       omega
     subst P1
     rw[oJ] at vn
     have aT:Int.toNat 1=1:=rfl
     rw[aT]
     obtain ⟨t1,t2⟩:=eG.tail vn (by omega)
     have P2:(b9 lU (x::(lN++kids.map (vm x.2)))).drop 2=b9 lU (lN++kids.map (vm x.2)):=rfl
     rw[P2] at t1
     have FI:aq (fun k=>k=aD∨k=m∨aM gs k) w cJ:=dv mT re fun k aa e=>by omega
     refine ⟨⟨by omega,by show (1:Int)≤((ct.len:Nat):Int);omega⟩,⟨lN++kids.map (vm x.2),bB,pV,vi,vj,t1,fun k aa=>rj k (t2 k aa),lX,Gv,fun a3 cl bL uA=>Gu a3 cl bL (.step lW.r uA),FI,PR,?_⟩,?_⟩
     · rw[fF,eB];omega
     · have Gz:=cI.pS mW.mp
       have vo:=cI.pS lX.mp
       rw[eB] at Gz vo
       show (ct.len-1)+300*(au.length-pS m cJ)<s.len+300*(au.length-pS m aR)
       rw[Gz,vo]
       omega
 · have ag:q=[]:=by
     have:=cT bS
     cases q with
     |nil=>rfl
     |cons x q=>rw[ir] at cK;omega
   subst ag
   exact ⟨rfl,a7,ri,pR,rh,Gu _ _ _ (.done _ _ _),mW,ai⟩
end
end
section
def dH:bY:=⟨0,0,0,0,0,0,0,0,0,0⟩
def bY.kl (a:bY) (no:Nat) (s:Int):bY:=if no=0 then {a with q8:=s} else {a with s1:=s}
def bY.kP (a:bY) (no:Nat) (g:Int):bY:=if no=0 then {a with sR:=g} else {a with bp:=g}
def bY.yA (a:bY) (no:Int):Int:=if no=0 then a.sR else a.bp
def pW (au:List c3) (no:Nat) (p:bY×df):bY×df:=
 let x:=fk au.length no (au.getD no [])
 let a:=(p.1.kl no x.2.2).kP no x.2.1
 if x.2.2=2∧(a.dG<0∨a.yA a.dG<x.2.1) then ({a with dG:=no},x.1) else (a,p.2)
def gp (au:List c3):Nat→bY×df
 |0=>({dH with dG:= -1},c7)
 |k+1=>pW au k (gp au k)
def jm (au:List c3):bY×df:=gp au 2
def vp (au:List c3) (r:bY):Prop:=
 ((jm au).1.dG<0∧r=(jm au).1)∨
 (0≤(jm au).1.dG∧∃ (a7:bY) (seen bn:List Nat),((0<(jm au).2.bG∧n3 au [((((jm au).2.root:Nat):Int),(((jm au).2.bG:Nat):Int))] (jm au).1 [] [] a7 seen bn)∨((jm au).2.bG=0∧a7=(jm au).1∧bn=[]))∧
   r=kN au bn (jm au).2.map a7)
theorem lR.eS {au:List c3} {no level:Int} {a a':bY} {seen bn ar g' kids:List Nat} (h:lR au no level a seen bn a' ar g' kids):a'.eS=a.eS:=by
 cases h<;>rfl
theorem n3.eS {au:List c3} {q:List (Int×Int)} {a a':bY} {seen bn ar g':List Nat} (h:n3 au q a seen bn a' ar g'):a'.eS=a.eS:=by
 induction h with
 |done=>rfl
 |step aU _ bV=>exact bV.trans aU.eS
end
section
theorem P3 (w:World):aN Tryz.prog F.ij #[.pointer none] w (fun v J=>v= .tuple #[.agg dH.c.toArray, .int .i64 1]∧Ext w J):=by
 refine W.GA none w _ ?_
 (delta W.ij gA aA cL ah b8 bN fO aW st aK fc kc aE vq bE;dsimp only)
 refine cZ (vs:=dH.c) rfl fun ae c6 bg h6=>⟨fun _=>⟨dH.c.toArray,by kernel_rfl,c6.fG rfl (fun v al=> ?_),rfl,iw c6 (us:=dH.c) rfl rfl fun bM nO rk uE=>⟨dH.c,nO.rd rfl,rfl,Ext.dJ bg rk (b6 _)⟩⟩,fun h=>(by cases h)⟩
 have al:v∈dH.c:=al
 simp only[bY.c,dT,gK,gL] at al
 rcases al with rfl|rfl|rfl|rfl|rfl|rfl|rfl|rfl|rfl|rfl<;>trivial
def aY.rd (D:aY) (i:Nat):aY:={D with bz:=D.bz.set 1 (if D.bz.getD 1 0= -1 then -1 else D.bz.getD 1 0-i)}
def aY.lit (D:aY) (n:Nat):Prop:=D.bz.getD 1 0≠ -1∧D.bz.getD 1 0<n
theorem P4 {D:aY} {i:Nat} (aL:D.bz.length=4) (aI: -1≤D.bz.getD 1 0) (hi:¬D.lit i):((D.rd i).fh 1=true↔D.lit (i+1))∧((D.rd i).fh 1=false→(D.rd i).du 1=D.rd (i+1)):=by
 have e:(D.rd i).bz.getD 1 0=if D.bz.getD 1 0= -1 then -1 else D.bz.getD 1 0-i:=by
   show (D.bz.set 1 _).getD 1 0=_
   rw[ep (by rw[hZ];omega),r9]
 unfold aY.lit at hi⊢
 unfold aY.fh aY.du
 rw[e]
 unfold fW
 by_cases U:D.bz.getD 1 0= -1
 · rw[if_pos U,if_pos rfl]
   refine ⟨⟨fun h=>(by cases h),fun h=>absurd U h.1⟩,fun _=> ?_⟩
   unfold aY.rd
   rw[if_pos U,if_pos U]
   simp
 · rw[if_neg U]
   have ab:(i:Int)≤D.bz.getD 1 0:=r6 fun aw=>hi ⟨U,by omega⟩
   rw[if_neg (by omega)]
   by_cases aw:D.bz.getD 1 0-i=0
   · rw[if_pos aw]
     exact ⟨⟨fun _=>⟨U,by omega⟩,fun _=>rfl⟩,fun h=>(by cases h)⟩
   · rw[if_neg aw]
     refine ⟨⟨fun h=>(by cases h),fun h=>by omega⟩,fun _=> ?_⟩
     unfold aY.rd
     rw[if_neg U,if_neg U]
     simp only[List.set_set]
     congr 2
     omega
end
section
abbrev iM:ak:=⟨none,0,0⟩
def km (D:aY):List c3:=(List.range D.n).map D.now
theorem P5 {D:aY} (aL:D.bz.length=4):D.rd 0=D:=by
 have e:(if D.bz.getD 1 0= -1 then -1 else D.bz.getD 1 0-((0:Nat):Int))=D.bz.getD 1 0:=by split<;>omega
 unfold aY.rd
 rw[e,ep (by omega:1<D.bz.length),List.set_getElem_self]
theorem P6 (a:bY) {k:Nat} (aa:k<2) (s:Int):(a.kl k s).c=a.c.set k (.int .i64 s):=by
 have:k=0∨k=1:=by omega
 rcases this with rfl|rfl<;>rfl
theorem P7 (a:bY) {k:Nat} (aa:k<2) (s:Int):(a.kP k s).c=a.c.set (2+k) (.int .u64 s):=by
 have:k=0∨k=1:=by omega
 rcases this with rfl|rfl<;>rfl
theorem yB (a:bY) (k:Nat) (s g:Int):((a.kl k s).kP k g).dG=a.dG∧((a.kl k s).kP k g).eS=a.eS:=by
 unfold bY.kl bY.kP
 split<;>exact ⟨rfl,rfl⟩
theorem GB (au:List c3):∀k, -1≤(gp au k).1.dG∧(gp au k).1.dG<k∧(gp au k).1.eS=0
 |0=>⟨by show (-1:Int)≤ -1;omega,by show (-1:Int)<0;omega,rfl⟩
 |k+1=>by
   obtain ⟨U,ab,aw⟩:=GB au k
   show _∧(pW au k (gp au k)).1.dG<_∧_
   simp only[gp,pW]
   split
   · exact ⟨by show (-1:Int)≤(k:Int);omega,by show (k:Int)<((k+1:Nat):Int);omega,(yB _ _ _ _).2.trans aw⟩
   · simp only[yB]
     exact ⟨U,by omega,aw⟩
theorem P8 {n no:Nat} {b:c3} (h:(fk n no b).2.2=2):(fk n no b).1.map<n:=by
 revert h
 unfold fk
 split
 · intro h;cases h
 · split
   · split
     · intro h;cases h
     · rename_i U
       intro _
       exact Nat.not_le.1 fun ab=>U (.inr ab)
   · intro h;cases h
theorem Bq (au:List c3):∀k,0≤(gp au k).1.dG→(gp au k).2.map<au.length
 |0,h=>absurd h (by show¬(0:Int)≤ -1;omega)
 |k+1,h=>by
   revert h
   simp only[gp,pW]
   split
   · rename_i U
     exact fun _=>P8 U.1
   · intro h
     exact Bq au k (by rw[←(yB (gp au k).1 k _ _).1];exact h)
structure GC (en w:World) (D:aY) (aD m fA z:Nat) (br:ak) (i:Nat):Prop where
 dev:cB w (D.rd i)
 lit:¬D.lit i
 s:cV (fun q=>z≤q) w br ((List.range i).map D.now)
 v:Var w aD (pJ dH br m iM) aj.sN
 mp:cI w m encZ []
 fA:Var w fA dH.c aj.hP
 az:aq (fun q=>q=D.d) en w
structure Br (en w:World) (aD m fA cC z:Nat) (br:ak) (au:List c3) (p:bY×df):Prop where
 P9:b2 (fun q=>z≤q∧q<en.heap.size) w br au
 qN:di w aD p.1 br m iM au [] []
 cC:Var w cC p.2.c aj.jf
 fA:Var w fA dH.c aj.hP
 az:aq (fun q=>q=aD∨q=m) en w
theorem di.P_ {w J:World} {aD m:Nat} {a:bY} {br gs:ak} {au:List c3} {seen bn:List Nat} (h:di w aD a br m gs au seen bn) {W:Nat→Prop} (ai:aq W w J) (U:¬W aD) (ab:¬W m) (aw:∀q,aM gs q→¬W q) {B:Nat→Prop} (ao:b2 B w br au) (aL:∀q,B q→¬W q∧q≠aD∧q≠m∧¬aM gs q):di J aD a br m gs au seen bn:=
 ⟨h.v.az ai U,b2.cA (ao.az ai fun q ag=>(aL q ag).1) fun q _ ag=>(aL q ag).2,h.mp.az ai ab,h.g.az ai aw,h.ne,h.len,h.n,h.q9,h.hN⟩
theorem bY.plain (a:bY):∀v∈a.c,Plain v:=fun v al=>by
 simp only[bY.c,dT,gK,gL] at al
 rcases al with rfl|rfl|rfl|rfl|rfl|rfl|rfl|rfl|rfl|rfl<;>trivial
theorem ij {w:World} {D:aY} (h:cB w D) (pd:D.eP≤1000000000):aN Tryz.prog F.ij #[.pointer (some ⟨D.d,0,none⟩)] w (fun v J=>aq (fun q=>q=D.d) w J∧
   ((D.lit D.n∧v= .tuple #[.agg dH.c.toArray, .int .i64 3])∨(¬D.lit D.n∧cB J (D.rd D.n)∧∃r,vp (km D) r∧v= .tuple #[.agg r.c.toArray, .int .i64 0]))):=by
 have qQ:∀q,c0 D q→q<w.heap.size:=fun q=>h.lt
 have pX:D.d<w.heap.size:=qQ _ (.inl rfl)
 have nv: -1≤D.bz.getD 1 0:=by
   rw[ep (by rw[h.f4];omega:1<D.bz.length)]
   exact (h.pc _ (eV _)).1
 refine W.GA _ w _ ?_
 (delta W.ij gA aA cL ah b8 bN fO aW st aK fc kc aE vq bE;dsimp only)
 refine cZ (vs:=dH.c) rfl fun ae c6 bg h6=>⟨fun h=>(by cases h),fun _=> ?_⟩
 obtain ⟨fA,kJ⟩:∃fA,fA=w.heap.size:=⟨_,rfl⟩
 rw[←kJ] at c6⊢
 obtain ⟨bp,bw⟩:=cI.make (P:=Tryz.prog) (enc:=encZ) aj.pK ae
 obtain ⟨m,hm⟩:∃m,m=ae.heap.size:=⟨_,rfl⟩
 have bT:=eE ae (.map #[] 0)
 have nz:=xn ae (.map #[] 0)
 obtain ⟨av,sA⟩:∃av,av=ae.alloc (.map #[] 0):=⟨_,rfl⟩
 rw[←sA,←hm] at bp bw
 rw[←sA] at bT nz
 refine ⟨some m,av,bp,(pJ dH iM m iM).toArray,by kernel_rfl,cZ (vs:=pJ dH iM m iM) rfl fun bM nO dO uE=> ?_⟩
 obtain ⟨aD,Bs⟩:∃aD,aD=av.heap.size:=⟨_,rfl⟩
 rw[←Bs] at nO⊢
 have jC:=(bg.trans bT).trans dO
 refine (xT (h.ext jC)).use ?_
 rintro _ _ ⟨rfl,rfl⟩
 have Qa:GC w bM D aD m fA bM.heap.size iM 0:=⟨by rw[P5 h.f4];exact h.ext jC,fun aB=>by have:=aB.2;have:=aB.1;omega,cV.none _ _,nO,(bw.ext dO),(c6.ext bT).ext dO,jC.mono fun _ _ h=>h.elim⟩
 refine ⟨_,rfl,fun n J=>∃ (i:Nat) (br:ak),n=(i:Int)∧i≤D.n∧bM.heap.size≤J.heap.size∧GC w J D aD m fA bM.heap.size br i,fun n _=>((D.n:Int)-n).toNat,⟨0,iM,rfl,ft _,b6 _,Qa⟩,?_⟩
 rintro _ cY ⟨i,br,rfl,hi,Qb,aC⟩
 have jD:=h.dM
 have gU:=h.cH
 refine ⟨fun aS=> ?_,fun bS=> ?_⟩
 · have oQ:i<D.n:=by have:=cG aS;omega
   obtain ⟨hG,fL⟩:=P4 (i:=i) h.f4 nv aC.lit
   refine (MA aC.dev (i:=i) oQ pd).use ?_
   rintro v bH ⟨GD,x5,pO⟩
   have UE:=x5.size
   have vr:aq (fun q=>q=D.d) cY bH:=x5
   have GF:aq (fun q=>q=D.d) w bH:=aC.az.trans vr
   have Bt:Var bH fA dH.c aj.hP:=aC.fA.az vr (by omega)
   rcases pO with ⟨vt,rfl⟩|⟨vt,hT,rfl,bx⟩
   · have vu:=hG.1 vt
     refine ⟨iM,3,rfl,fun _=>⟨dH.c.toArray,by kernel_rfl,Bt.fG rfl (bY.plain _),rfl,iw Bt (us:=dH.c) rfl rfl fun eu uV uW ya=>⟨dH.c,uV.rd rfl,dv GF uW fun q ag e=>by omega, .inl ⟨⟨vu.1,by have:=vu.2;omega⟩,rfl⟩⟩⟩,fun h=>(by cases h)⟩
   have Ft:=aC.s.az vr fun k aa e=>by omega
   have kf:Var bH aD (pJ dH br m iM) aj.sN:=aC.v.az vr (by omega)
   have Qc:ea (fun q=>bM.heap.size≤q) bH hT (D.now i):=ea.cA bx fun k _ aa=>by omega
   have dt:∀k,aM br k→bM.heap.size≤k∧k<cY.heap.size:=aC.s.uF.choose_spec.2.2.2.1
   obtain ⟨f_,cM,aT,a8,ei,sk⟩:=Ex Ft Qc (fun k aa cb=>by
     have U:=(bx.2.2 k aa).1
     have:=(dt k cb).2
     omega) (by rw[eB,uj];omega) (fun k aa=>by omega)
   have UF:=ei.size
   have sO:=kf.az ei fun a6=>by have:=(dt aD a6).1;omega
   have dn:aq (fun q=>q=aD) cM (cM.setCell ⟨aD,10,none⟩ (.slice f_.a f_.len f_.cap)):=aq.gN (.refl _ _) _
   have ph:∀q,q<bM.heap.size→¬aM br q:=fun q ag a6=>by have:=(dt q a6).1;omega
   refine ⟨hT,0,rfl,fun h=>(by cases h),fun _=>⟨_,rfl,br,by rw[ba];exact kf.cell,f_,cM,aT,_,rfl,⟨_,by rw[ba];exact sO.cell⟩,by rw[ba];exact sO.frozen _ rfl,?_⟩⟩
   rw[ba,F6 (by omega)]
   refine bD ⟨⟨i+1,f_,rfl,by omega,hY (by omega:bM.heap.size≤cM.heap.size) dn.size,⟨?_,fun aB=> ?_,?_,sO.KA 10 _,?_,?_,?_⟩⟩,by show ((D.n:Int)-((i+1:Nat):Int)).toNat<((D.n:Int)-((i:Nat):Int)).toNat;omega⟩
   · rw[fL vt] at GD
     exact (GD.az ei fun q ag a6=>by have:=(dt q a6).1;have:=qQ q ag;omega).az dn fun q ag e=>by have:=qQ q ag;omega
   · rw[hG.2 aB] at vt;cases vt
   · rw[List.range_succ,gu]
     exact a8.az dn fun k aa e=>by omega
   · exact ((aC.mp.az vr (by omega)).az ei (ph _ (by omega))).az dn (by omega)
   · exact (Bt.az ei (ph _ (by omega))).az dn (by omega)
   · exact dv (dv GF ei fun q ag a6=>by have:=(dt q a6).1;omega) dn fun q ag e=>by omega
 have Qd:i=D.n:=by
   have:=cT bS
   omega
 subst Qd
 obtain ⟨au,vv⟩:∃au,au=km D:=⟨_,rfl⟩
 have cK:au.length=D.n:=by rw[vv,km,eB,uj]
 have oY:∀q,¬aM iM q:=fun q ⟨a,aH,_⟩=>by cases aH
 have xZ:di cY aD dH br m iM au [] []:=⟨aC.v,b2.cA (by rw[vv];exact aC.s.uF) fun k _ aa=>⟨by omega,by omega,oY k⟩,aC.mp,(dY.none (fun _=>True) cY).1,⟨by omega,oY _,oY _⟩,fun l aB=> ?_,by omega,by show 0≤1600;omega,⟨List.nodup_nil,fun x af=>(by cases af),fun x af=>(by cases af)⟩⟩
 rotate_left
 · rw[vv] at aB
   obtain ⟨j,bb,rfl⟩:=eK.1 aB
   exact h.xS (oH.1 bb)
 have Qe:b2 (fun q=>bM.heap.size≤q∧q<cY.heap.size) cY br au:=b2.cA (by rw[vv];exact aC.s.uF) fun k fv aa=>⟨aa,fv⟩
 obtain ⟨ie,ig,fZ,jj⟩:=xZ.put (j:=4) (a':={dH with dG:= -1}) (v:= .int .i64 (-1)) (by omega) rfl
 refine ⟨_,rfl,ie,ig,?_⟩
 obtain ⟨cN,Qf⟩:∃cN,cN=cY.setCell (Addr.add ⟨aD,0,none⟩ 4) (.int .i64 (-1)):=⟨_,rfl⟩
 rw[←Qf] at fZ jj⊢
 have UG:=jj.size
 refine bD (cZ (vs:=c7.c) rfl fun ew yC sZ GG=> ?_)
 obtain ⟨cC,uR⟩:∃cC,cC=cN.heap.size:=⟨_,rfl⟩
 rw[←uR] at yC⊢
 have Fe:Br cY ew aD m fA cC bM.heap.size br au (gp au 0):=⟨(Qe.az jj fun q ag e=>by omega).ext sZ,fZ.hO sZ fun _ _ h=>h,yC,(aC.fA.az jj (by omega)).ext sZ,dv (jj.mono fun q _ e=> .inl e) sZ fun q _ h=>h.elim⟩
 refine ⟨fun n J=>∃k:Nat,n=(k:Int)∧k≤2∧ew.heap.size≤J.heap.size∧Br cY J aD m fA cC bM.heap.size br au (gp au k),fun n _=>((2:Int)-n).toNat,⟨0,rfl,by omega,b6 _,Fe⟩,?_⟩
 rintro _ cX ⟨k,rfl,aa,Qg,rl⟩
 obtain ⟨a,aH⟩:∃a,a=(gp au k).1:=⟨_,rfl⟩
 obtain ⟨u,hu⟩:∃u,u=(gp au k).2:=⟨_,rfl⟩
 have pY:di cX aD a br m iM au [] []:=by rw[aH];exact rl.qN
 have s0:Var cX cC u.c aj.jf:=by rw[hu];exact rl.cC
 have n_:cC≠aD∧cC≠m∧fA≠aD∧fA≠m∧fA≠cC:=⟨by omega,by omega,by omega,by omega,by omega⟩
 obtain ⟨Qh,yk,Bu⟩:=GB au k
 rw[←aH] at Qh yk Bu
 refine ⟨fun aS=> ?_,fun bS=> ?_⟩
 · have cb:k<2:=by have:=cG aS;omega
   refine ⟨(Ns pY.v rfl pY.s pY.len (no:=k) (by omega)).use ?_⟩
   rintro _ eT ⟨rfl,GH⟩
   have jk:k<au.length:=by omega
   obtain ⟨x,af⟩:∃x,x=fk au.length k au[k]:=⟨_,rfl⟩
   rw[←af]
   have eW:gp au (k+1)=if x.2.2=2∧(((a.kl k x.2.2).kP k x.2.1).dG<0∨((a.kl k x.2.2).kP k x.2.1).yA ((a.kl k x.2.2).kP k x.2.1).dG<x.2.1) then ({(a.kl k x.2.2).kP k x.2.1 with dG:=k},x.1) else ((a.kl k x.2.2).kP k x.2.1,u):=by
     show pW au k (gp au k)=_
     unfold pW
     rw[ep jk,←af,←aH,←hu]
   have oR:Int.toNat ((k:Nat):Int)*1=k:=by rw[eC,fb]
   refine ⟨_,_,_,_,_,_,_,_,rfl,cZ (vs:=c7.c) rfl fun oa Qi Qj UH=>kd Qi rfl x.1 fun pn GI GJ UI=> ?_⟩
   obtain ⟨sS,Qk⟩:∃sS,sS=eT.heap.size:=⟨_,rfl⟩
   rw[←Qk] at GI GJ⊢
   have UJ:=GH.size
   have Bv:Ext cX pn.drew:=(GH.trans (Ext.dJ Qj GJ (by omega))).trans (dz _)
   have UK:=Bv.size
   have Ql:=pY.hO Bv fun _ _ h=>h
   obtain ⟨A7,xB,A8,sW⟩:=Ql.put (j:=k) (a':=a.kl k x.2.2) (v:= .int .i64 x.2.2) (by omega) (P6 a cb _)
   obtain ⟨iH,Qm⟩:∃iH,iH=pn.drew.setCell (Addr.add ⟨aD,0,none⟩ k) (.int .i64 x.2.2):=⟨_,rfl⟩
   rw[oR]
   refine bD ⟨fun _=>False,_,rfl,⟨by omega,by omega⟩,_,rfl,A7,xB,?_⟩
   rw[←Qm] at A8 sW⊢
   obtain ⟨t1,t2,t3,t4⟩:=A8.put (j:=2+k) (a':=(a.kl k x.2.2).kP k x.2.1) (v:= .int .u64 x.2.1) (by omega) (P7 _ cb _)
   obtain ⟨e2,Qn⟩:∃e2,e2=iH.setCell (Addr.add ⟨aD,0,none⟩ (2+k)) (.int .u64 x.2.1):=⟨_,rfl⟩
   rw[add_add]
   refine bD ⟨⟨by omega,by omega⟩,t1,t2,?_⟩
   rw[←Qn] at t3 t4⊢
   refine bD (bD ?_)
   have cg:=dz e2
   have rm:=t3.hO cg fun _ _ h=>h
   have UL:=sW.size
   have UM:=t4.size
   have vw:aq (fun q=>q=aD) cX e2.drew:=((((Bv.mono fun _ _ h=>h.elim).trans sW).trans t4)).trans (cg.mono fun _ _ h=>h.elim)
   obtain ⟨gq,Bw⟩:∃gq,gq=e2.drew:=⟨_,rfl⟩
   rw[←Bw] at rm vw⊢
   have xX:pn.drew.heap.size≤gq.heap.size:=by
     have:=cg.size
     rw[←Bw] at this;omega
   obtain ⟨bB,zS⟩:∃bB,bB=(a.kl k x.2.2).kP k x.2.1:=⟨_,rfl⟩
   have UN:bB.dG=a.dG:=by rw[zS];exact (yB _ _ _ _).1
   rw[←zS] at rm eW
   have Bx:=s0.az vw n_.1
   have Qo:Var gq sS x.1.c aj.jf:=by
     rw[Bw]
     exact (((Var.drew GI).az sW (by omega)).az t4 (by omega)).drew
   have Qp:=rl.fA.az vw n_.2.2.1
   have fO:gq.cell? (Addr.add ⟨aD,0,none⟩ 4)=some (.int .i64 bB.dG):=by rw[ba];exact rm.v.cell
   have GK:=rl.P9.az vw fun q ag e=>by omega
   have fin:∀J,aq (fun q=>q=aD∨q=cC) gq J→∀p,p=gp au (k+1)→di J aD p.1 br m iM au [] []→Var J cC p.2.c aj.jf→
       (∃ga:Nat,IntKind.wrap .i64 (((k:Nat):Int)+1)=(ga:Int)∧ga≤2∧ew.heap.size≤J.heap.size∧Br cY J aD m fA cC bM.heap.size br au (gp au ga))∧((2:Int)-IntKind.wrap .i64 (((k:Nat):Int)+1)).toNat<((2:Int)-((k:Nat):Int)).toNat:=fun J ob p aU aB al=>by
     have bI:=ob.size
     rw[F6 (by omega)]
     subst aU
     refine ⟨⟨k+1,rfl,by omega,by omega,GK.az ob fun q ag e=>by omega,aB,al,Qp.az ob (by omega),?_⟩,by omega⟩
     exact dv (dv rl.az vw fun q _ e=> .inl e) ob fun q ag e=>by omega
   refine (fun (key:(x.2.2=2∧(bB.dG<0∨bB.yA bB.dG<x.2.1))→_)=>⟨fun ab=>⟨_,rfl,id,_,fO,fun ay=>⟨fun _=>key ⟨by have:=eq_of_beq ab;omega, .inl (cG ay)⟩,fun h=>(by cases h)⟩,fun ay=>⟨_,rfl,id,_,fO,_,rfl,?_,id,bB.yA bB.dG,?_,fun bu=>key ⟨by have:=eq_of_beq ab;omega, .inr (cG bu)⟩,fun bu=>fin gq (.refl _ _) (bB,u) ?_ rm Bx⟩⟩,fun ab=>⟨fun h=>(by cases h),fun _=>fin gq (.refl _ _) (bB,u) ?_ rm Bx⟩⟩) ?_
   rotate_left
   · have:=cT ay
     exact ⟨by omega,by omega⟩
   · have U:=cT ay
     have bA:bB.dG=0:=by omega
     rw[bA,add_add,ba]
     exact rm.v.cell
   · have U:=cT bu
     have aw:=cT ay
     rw[eW,if_neg]
     rintro ⟨_,aL|aL⟩<;>omega
   · rw[eW,if_neg]
     rintro ⟨aL,_⟩
     rw[aL] at ab;cases ab
   intro Qq
   have By:=dz gq
   have Qr:=rm.hO By fun _ _ h=>h
   obtain ⟨aE,cU,aW,bE⟩:=Qr.put (j:=4) (a':={bB with dG:=k}) (v:= .int .i64 ((k:Nat):Int)) (by omega) rfl
   refine bD ⟨fun q=>q=aD,by show¬sS=aD;omega,ib (Var.drew Qo) ⟨_,rfl,aE,cU,bD ⟨bE,kd ((Var.drew Bx).az bE n_.1) rfl x.1 fun iI Qs GL UO=>fin iI ?_ ({bB with dG:=k},x.1) ?_ ?_ Qs⟩⟩⟩
   · exact (((By.mono fun _ _ h=>h.elim).trans (bE.mono fun q _ e=> .inl e))).trans (GL.mono fun q _ e=> .inr e)
   · rw[eW,if_pos Qq]
   · exact aW.P_ GL (fun e=>n_.1 e.symm) (fun e=>n_.2.1 e.symm) (fun q ag=>absurd ag (oY q)) ((GK.ext By).az bE fun q ag e=>by omega) fun q ag=>⟨by omega,by omega,by omega,oY q⟩
 have cb:k=2:=by have:=cT bS;omega
 subst cb
 have ik:jm au=(a,u):=by rw[aH,hu];rfl
 have GM:aq (fun q=>q=aD∨q=m) cY cX:=rl.az
 have fin:∀J (r:bY) (iK:ak) (seen bn:List Nat),aq (fun q=>q=aD∨q=m) cX J→di J aD r br m iK au seen bn→vp au r→
     ∃vx:Addr,(some ⟨aD,0,none⟩:Option Addr)=some vx∧∃oc:List Value,bR J vx 0 10=some oc∧cd J ⟨fA,0,none⟩ (Array.toList oc.toArray)∧Array.size oc.toArray=10∧
       aG (setCells J ⟨fA,0,none⟩ 0 (Array.toList oc.toArray)) fun rn=>∃s3:List Value,bR rn ⟨fA,0,none⟩ 0 10=some s3∧
         (aq (fun q=>q=D.d) w rn∧((D.lit D.n∧Value.tuple #[.agg s3.toArray, .int .i64 0]= .tuple #[.agg dH.c.toArray, .int .i64 3])∨(¬D.lit D.n∧cB rn (D.rd D.n)∧∃r,vp (km D) r∧Value.tuple #[.agg s3.toArray, .int .i64 0]= .tuple #[.agg r.c.toArray, .int .i64 0]))):=by
   intro J r iK seen bn ai aB Qt
   have GN:=rl.fA.az ai (by omega)
   refine ⟨_,rfl,r.c,by rw[Var.zG aB.v (o:=0) (n:=10) (by show 0+10≤13;decide)];rfl,GN.fG rfl (bY.plain _),rfl,iw GN (us:=r.c) rfl rfl fun rn Qu GO UP=>⟨r.c,Qu.rd rfl,?_, .inr ⟨aC.lit,?_,r,by rw[←vv];exact Qt,rfl⟩⟩⟩
   · exact dv (dv aC.az (GM.trans ai) fun q ag e=>by omega) GO fun q ag e=>by omega
   · exact (aC.dev.az (GM.trans ai) fun q ag e=>by have:=qQ q ag;omega).az GO fun q ag e=>by have:=qQ q ag;omega
 have fO:cX.cell? (Addr.add ⟨aD,0,none⟩ 4)=some (.int .i64 a.dG):=by rw[ba];exact pY.v.cell
 refine ⟨⟨_,rfl,a.dG,fO,fun ay=>⟨⟨_,by rw[ba];exact s0.cell,fun fI=> ?_,fun fI=> ?_⟩⟩,fun ay=>fin cX a iM [] [] (.refl _ _) pY (.inl ?_)⟩⟩
 · have kQ:=cG ay
   have od:u.map<au.length:=by rw[hu];exact Bq au 2 (by rw[←aH];exact kQ)
   have Qv:=cG fI
   refine ⟨_,s0.cell,_,by rw[ba];exact s0.cell,(PK pY (u.root:Nat) (u.bG:Nat)).use ?_⟩
   rintro _ kh ⟨rfl,a',iK,jL,jM,hw,aB,ai⟩
   have ob:aq (fun q=>q=aD∨q=m) cX kh:=ai.mono fun q _ e=>e.elim .inl fun e=>e.elim .inr fun e=>absurd e (oY q)
   have Qw:=s0.az ob (by omega)
   refine ⟨rfl,_,by rw[ba];exact Qw.cell,(F9 aB od (fun x af=>aB.hN.2.2 x (aB.hN.2.1 x af)) (hw.eS.trans Bu)).use ?_⟩
   rintro _ vy ⟨rfl,s4,eF⟩
   exact ⟨rfl,fin vy _ iK jL jM (ob.trans (eF.mono fun q _ e=> .inl e)) s4 (.inr ⟨by rw[ik];exact kQ,a',jL,jM, .inl ⟨by rw[ik];show 0<u.bG;omega,by rw[ik];exact hw⟩,by rw[ik]⟩)⟩
 · have kQ:=cG ay
   have od:u.map<au.length:=by rw[hu];exact Bq au 2 (by rw[←aH];exact kQ)
   have Qv:=cT fI
   refine ⟨_,by rw[ba];exact s0.cell,(F9 pY od (fun x af=>by cases af) Bu).use ?_⟩
   rintro _ vy ⟨rfl,s4,eF⟩
   exact ⟨rfl,fin vy _ iM [] [] (eF.mono fun q _ e=> .inl e) s4 (.inr ⟨by rw[ik];exact kQ,a,[],[], .inr ⟨by rw[ik];show u.bG=0;omega,by rw[ik],rfl⟩,by rw[ik]⟩)⟩
 · have kQ:=cT ay
   rw[ik]
   exact ⟨by show a.dG<0;omega,rfl⟩
end
section
section
variable {α:Type} {P:Program} {w J:World} {gV mD T:TypeId} {enc:α→Value} {r m:Nat} {L:List (α×Value×Nat)} {seen:List Nat}
structure kR (w:World) (r m:Nat) (enc:α→Value) (L:List (α×Value×Nat)) (seen:List Nat):Prop where
 it:∃bW:Nat,w.heap[r]? =some (.mapIter (some m) bW seen.toArray bW)∧w.heap[m]? =some (.map (L.map (dd enc)).toArray bW)∧∀x∈L,x.2.2<bW
 Qx:(L.map (·.2.2)).Nodup
def fm (L:List (α×Value×Nat)) (seen:List Nat):List (α×Value×Nat):=L.filter fun x=> !seen.contains x.2.2
theorem GP (P:Program) {n:Nat} (ay:1≤n) (w:World):∃ (i:Nat) (J:World),i<n∧(choose (.mapNext n)).run P w= .ok i J∧(J=w∨J=w.drew):=by
 by_cases h:n≤1
 · refine ⟨0,w,by omega,?_, .inl rfl⟩
   show Sem.run P (.choose (.mapNext n) .pure) w=_
   have ag:(Question.mapNext n).forced=true:=by simp[Question.forced,h]
   simp only[Sem.run,ag,if_true]
 · refine ⟨(Question.mapNext n).cut (w.tape w.drawn (.mapNext n)),w.drew,k6 _ (by omega),?_, .inr rfl⟩
   show Sem.run P (.choose (.mapNext n) .pure) w=_
   have ag:(Question.mapNext n).forced=false:=by simp[Question.forced,h]
   simp only[Sem.run,ag,gJ,if_false]
   rfl
theorem Bz {a:Option Nat} {b d:Nat} {c:Array Nat} (h:w.heap[r]? =some (.mapIter a b c d)):(getObj r).run P w= .ok (.mapIter a b c d) w:=by simp[getObj,Sem.run,h]
theorem Qy {a:Option Nat} {b d:Nat} {c:Array Nat} (h:w.heap[r]? =some (.mapIter a b c d)) (GQ:Obj):(setObj r GQ).run P w= .ok () (ia w r GQ):=by simp[setObj,Sem.run,h,ia]
theorem kR.begin {M:List (α×Value)} (h:cI w m enc M) {T:TypeId} {gV mD:TypeId} (aQ:P.underlying T=some (.map gV mD)):∃ (L:List (α×Value×Nat)) (ae:World),(L.map mE).Perm M∧(Instr.range T (.map (some m))).run P w= .ok (.pointer (some ⟨w.heap.size,0,none⟩)) ae∧kR ae w.heap.size m enc L []∧Ext w ae∧ae.heap.size=w.heap.size+1:=by
 have aS:=h.lt
 obtain ⟨L,bW,U,ab,aw,aL,bt⟩:=h
 refine ⟨L,w.alloc (.mapIter (some m) bW #[] bW),ab,?_,⟨⟨bW,?_,?_,bt⟩,aL⟩,aq.alloc (.refl _ _) _,by simp⟩
 · simp only[Instr.range,Sem.run_bind,ck aQ,Result.andThen,nH U,Sem.run_pure,newObj,Sem.run]
   rfl
 · show (w.heap.push _)[w.heap.size]? =_
   simp
 · show (w.heap.push _)[m]? =_
   rw[Array.getElem?_push_lt aS]
   exact (Array.getElem?_eq_getElem aS).symm.trans U
theorem kR.next (h:kR w r m enc L seen) (BA:r≠m) (T:TypeId):
   (fm L seen=[]∧∃ae,(Instr.next (.pointer (some ⟨r,0,none⟩)) false T).run P w= .ok (.tuple #[.bool false]) ae∧Ext w ae∧ae.heap=w.heap)∨
   (∃x∈fm L seen,∃ae,(Instr.next (.pointer (some ⟨r,0,none⟩)) false T).run P w= .ok (.tuple #[.bool true,enc x.1,x.2.1]) ae∧kR ae r m enc L (seen++ [x.2.2])∧aq (fun q=>q=r) w ae∧ae.heap.size=w.heap.size∧(Instr.entry (.pointer (some ⟨r,0,none⟩))).run P ae= .ok (.tuple #[enc x.1,x.2.1]) ae):=by
 obtain ⟨⟨bW,U,ab,aw⟩,aL⟩:=h
 have dN:(!seen.toArray.isEmpty&& !((L.map (dd enc)).toArray).isEmpty&&((L.map (dd enc)).toArray).all fun e=>decide (e.born≥bW))=false:=by
   cases L with
   |nil=>simp
   |cons x L=>
     have:¬bW≤x.2.2:=by have:=aw x (by simp);omega
     simp[dd,this]
 have s5:((L.map (dd enc)).toArray.filter fun e=> !seen.toArray.contains e.born)=((fm L seen).map (dd enc)).toArray:=by
   rw[List.filter_toArray,List.filter_map]
   congr 1
   unfold fm
   congr 1
   apply List.filter_congr
   intro x _
   simp only[Function.comp,dd,List.contains_toArray]
 have aS:∀x∈fm L seen,x.2.2<bW:=fun x af=>aw x (qt.1 af).1
 have hold:(((fm L seen).map (dd enc)).toArray.filter fun e=>decide (e.born<bW))=((fm L seen).map (dd enc)).toArray:=by
   rw[List.filter_toArray,List.filter_eq_self.2]
   intro e he
   obtain ⟨x,af,rfl⟩:=eK.1 he
   exact eA (aS x af)
 have mu:(((fm L seen).map (dd enc)).toArray.filter fun e=>decide (e.born≥bW))= #[]:=by
   rw[List.filter_toArray,List.filter_eq_nil_iff.2]
   intro e he
   obtain ⟨x,af,rfl⟩:=eK.1 he
   have:=aS x af
   have bt:¬bW≤x.2.2:=by omega
   simp[dd,bt]
 cases aB:fm L seen with
 |nil=>
   rw[aB] at s5 hold mu
   obtain ⟨i,ae,hi,ai,hw⟩:=GP P (n:=1) (b6 _) w
   have Qz:i=0:=by omega
   subst Qz
   refine .inl ⟨rfl,ae,?_,?_,?_⟩
   · simp only[Instr.next,Sem.run_bind,Bz U,Result.andThen,nH ab,dN,gJ,if_false,s5,hold,mu]
     simp only[List.map_nil,Array.isEmpty,wZ,qq,decide_true,if_true]
     have e:(#[none]++((#[]:Array MapEntry)++ #[]).map some:Array (Option MapEntry)).size=1:=by simp
     have a8:((#[none]++((#[]:Array MapEntry)++ #[]).map some:Array (Option MapEntry)))[0]? =some none:=by simp
     simp only[e,Sem.run_bind,ai,Result.andThen,a8,Sem.run_pure,Sem.run_pure]
   · rcases hw with rfl|rfl
     · exact .refl _ _
     · exact aq.drew (.refl _ _)
   · rcases hw with rfl|rfl<;>rfl
 |cons y l=>
   right
   rw[←aB]
   have GR:1≤(fm L seen).length:=by rw[aB];simp
   obtain ⟨i,ae,hi,ai,hw⟩:=GP P (n:=(fm L seen).length) GR w
   have yD:ae.heap=w.heap:=by rcases hw with rfl|rfl<;>rfl
   obtain ⟨x,af⟩:∃x,x=(fm L seen)[i]:=⟨_,rfl⟩
   have sq:x∈fm L seen:=by rw[af];exact eV _
   have s6:x∈L:=(qt.1 sq).1
   have xK:ae.heap[r]? =some (.mapIter (some m) bW seen.toArray bW):=by rw[yD];exact U
   have QA:r<ae.heap.size:=(nt.1 xK).1
   have BB:(ia ae r (.mapIter (some m) bW (seen.toArray.push x.2.2) bW)).heap[r]? =some (.mapIter (some m) bW (seen++ [x.2.2]).toArray bW):=by
     rw[xO QA];simp
   have BC:(ia ae r (.mapIter (some m) bW (seen.toArray.push x.2.2) bW)).heap[m]? =some (.map (L.map (dd enc)).toArray bW):=by
     have hm:ae.heap[m]? =some (.map (L.map (dd enc)).toArray bW):=by rw[yD];exact ab
     rw[(uN ae r _).block m (nt.1 hm).1 (fun e=>BA e.symm)]
     exact hm
   refine ⟨x,sq,ia ae r (.mapIter (some m) bW (seen.toArray.push x.2.2) bW),?_,⟨⟨bW,BB,BC,aw⟩,aL⟩,?_,?_,?_⟩
   · simp only[Instr.next,Sem.run_bind,Bz U,Result.andThen,nH ab,dN,gJ,if_false,s5,hold,mu]
     have bU:((fm L seen).map (dd enc)).toArray.isEmpty=false:=by rw[aB];rfl
     have e:((#[]:Array (Option MapEntry))++(((fm L seen).map (dd enc)).toArray++ #[]).map some).size=(fm L seen).length:=by simp
     have a8:((#[]:Array (Option MapEntry))++(((fm L seen).map (dd enc)).toArray++ #[]).map some)[i]? =some (some (dd enc x)):=by
       simp[hi,af]
     simp only[bU,gJ,if_false,e,Sem.run_bind,ai,Result.andThen,a8,Qy xK,Sem.run_pure,dd]
   · have nF:aq (fun q=>q=r) w ae:=by
       rcases hw with rfl|rfl
       · exact .refl _ _
       · exact aq.drew (.refl _ _)
     exact nF.trans (uN _ _ _)
   · rw[xN,yD]
   · have ad:(seen++ [x.2.2]).toArray.back? =some x.2.2:=by simp
     have aI:((L.map (dd enc)).toArray.find? fun e=>e.born==x.2.2)=some (dd enc x):=by
       rw[List.find?_toArray,List.find?_map]
       have:L.find? ((fun e:MapEntry=>e.born==x.2.2)∘dd enc)=some x:=by
         clear aB GR hi ai sq af BB BC s5 hold mu aS dN ab aw
         induction L with
         |nil=>cases s6
         |cons z L bV=>
           rw[jw] at aL
           obtain ⟨dM,cH⟩:=List.nodup_cons.1 aL
           rw[List.find?_cons]
           rcases dT.1 s6 with rfl|bI
           · simp[dd]
           · have xW:z.2.2≠x.2.2:=fun e=>dM (by rw[e];exact eK.2 ⟨x,bI,rfl⟩)
             have:((fun e:MapEntry=>e.born==x.2.2)∘dd enc) z=false:=by simp[dd,xW]
             rw[this]
             exact bV cH bI
       rw[this];rfl
     have kA:(bW !=bW)=false:=by simp
     simp only[Instr.entry,Sem.run_bind,Bz BB,Result.andThen,ad,nH BC,kA,gJ,if_false,aI,Sem.run_pure,dd]
theorem cI.clear {M:List (α×Value)} (h:cI w m enc M) {o:TypeId} (aQ:P.underlying T=some (.map gV mD)):∃ae,(Builtin.clear_ #[T] o #[.map (some m)]).run P w= .ok (.tuple #[]) ae∧cI ae m enc ([]:List (α×Value))∧aq (fun q=>q=m) w ae∧ae.heap.size=w.heap.size:=by
 have aS:=h.lt
 obtain ⟨L,bW,U,ab,aw,aL,bt⟩:=h
 refine ⟨ia w m (.map #[] bW),?_,⟨[],bW,xO aS _,by simp,by simp,by simp,by simp⟩,uN _ _ _,xN _ _ _⟩
 unfold Builtin.clear_
 simp only[List.getElem?_toArray,sd,Sem.run_bind,ck aQ,Result.andThen,nH U,As U,Sem.run_pure]
end
end
section
theorem QB {w:World} {aD:Nat} {ls:List c3} {T:TypeId} (h:bo w aD (b9 aF ls).toArray T) (ao:∀x∈ls,x.length=256) {i:Nat} (hi:i<ls.length) {x:c3} (af:x.length=256):
   cd w ⟨aD,i*256,none⟩ (aF x)∧bo (setCells w ⟨aD,i*256,none⟩ 0 (aF x)) aD (b9 aF (ls.set i x)).toArray T∧aq (fun q=>q=aD) w (setCells w ⟨aD,i*256,none⟩ 0 (aF x)):=by
 have iF:∀x∈ls,(aF x).length=256:=fun x af=>by rw[dj];exact ao x af
 have aB:=kF (c:=aF) ls iF
 have GS:(aF x).length=256:=by rw[dj];exact af
 have hle:i*256+(aF x).length≤(b9 aF ls).toArray.size:=by
   rw[wZ,aB,GS];omega
 refine ⟨bo.fG h _ _ hle (oM _),?_,aq.uq (.refl _ _) _ 0⟩
 have bA:=bo.qF (o:=i*256) h (aF x)
 have U:=uz (aF x) (b9 aF ls).toArray (i*256) hle
 have ab:=Mo iF hi x
 rw[GS] at U
 have aL:(g9 (b9 aF ls).toArray (i*256) (aF x)).toList=b9 aF (ls.set i x):=U.trans ab
 have e:g9 (b9 aF ls).toArray (i*256) (aF x)=(b9 aF (ls.set i x)).toArray:=by rw[←aL]
 rw[e] at bA
 exact bA
theorem QC {α:Type} {L:List (α×Value×Nat)} {seen:List Nat} {x:α×Value×Nat} (h:x∈fm L seen):(fm L (seen++ [x.2.2])).length<(fm L seen).length:=by
 have e:fm L (seen++ [x.2.2])=(fm L seen).filter fun y=> !(y.2.2==x.2.2):=by
   unfold fm
   rw[List.filter_filter]
   apply List.filter_congr
   intro y _
   rw[fU]
   simp only[mh,eL,List.contains_eq_mem,k7,gv,fE,beq_eq_false_iff_ne]
   constructor
   · exact fun h=>⟨fun ab=>h (.inr ab),fun ab=>h (.inl ab)⟩
   · rintro ⟨U,ab⟩ (aw|aw)
     · exact ab aw
     · exact U aw
 rw[e]
 exact List.length_filter_lt_length_iff_exists.2 ⟨x,h,by simp⟩
def BD {α:Type} (L:List (α×Value×Nat)) (r:Nat) (w:World):Nat:=match w.heap[r]? with
 |some (.mapIter _ _ seen _)=>(fm L seen.toList).length
 |_=>0
theorem kR.left {α:Type} {w:World} {r m:Nat} {enc:α→Value} {L:List (α×Value×Nat)} {seen:List Nat} (h:kR w r m enc L seen):BD L r w=(fm L seen).length:=by
 obtain ⟨⟨bW,U,_⟩,_⟩:=h
 unfold BD
 rw[U]
theorem kR.az {α:Type} {W:Nat→Prop} {w J:World} {r m:Nat} {enc:α→Value} {L:List (α×Value×Nat)} {seen:List Nat} (h:kR w r m enc L seen) (ai:aq W w J) (aC:¬W r) (hm:¬W m):kR J r m enc L seen:=by
 obtain ⟨⟨bW,U,ab,aw⟩,aL⟩:=h
 exact ⟨⟨bW,by rw[ai.block r (nt.1 U).1 aC];exact U,by rw[ai.block m (nt.1 ab).1 hm];exact ab,aw⟩,aL⟩
def aY.m0 (D:aY):aY:={D with c4:=(List.range D.n).map D.now,waits:=[]}
theorem GU (D:aY):D.m0.n=D.n:=by simp[aY.m0,aY.n]
theorem GV (D:aY) {i:Nat} (hi:i<D.n):D.m0.now i=D.now i:=by
 show ((List.range D.n).map D.now).getD i []=_
 rw[ep (by simp;exact hi)];simp
def QD (D:aY) (w:World) (v:Value) (J:World):Prop:=
 (D.fh 3=true∧v= .int .i64 3∧cB J (D.du 3)∧aq (fun q=>q=D.d) w J)∨
 (D.fh 3=false∧v= .int .i64 0∧cB J (D.du 3).m0∧aq (c0 D) w J)
theorem GW {w:World} {D:aY} (h:cB w D) (pd:D.eP≤1000000000):aN Tryz.prog F.oe #[.pointer (some ⟨D.d,0,none⟩)] w (QD D w):=by
 refine W.QE (some ⟨D.d,0,none⟩) w _ ?_
 (delta W.oe aA b1 BE aW pf bK BF;dsimp only)
 refine ⟨fun U=>(by cases U),fun _=>⟨_,rfl,(Av h (k:=3) (by decide)).use ?_⟩⟩
 rintro _ av ⟨rfl,cW,eF,nz⟩
 obtain ⟨b4,m3⟩:∃b4,b4=D.du 3:=⟨_,rfl⟩
 have aT:b4.d=D.d:=by rw[m3];rfl
 have a8:b4.aD=D.aD:=by rw[m3];rfl
 have ei:b4.cQ=D.cQ:=by rw[m3];rfl
 have sk:b4.n=D.n:=by rw[m3];rfl
 have QF:c0 b4=c0 D:=by rw[m3];rfl
 have UQ:b4.eP=D.eP:=by rw[m3];rfl
 rw[←m3] at cW
 refine ⟨_,rfl,fun ad=> .inl ⟨ad,rfl,by rw[←m3];exact cW,eF⟩,fun ad=> ?_⟩
 rw[←aT]
 have gU:=cW.cH
 obtain ⟨L,bC,nU,iB,GX,gz,Aq⟩:=kR.begin (P:=Tryz.prog) cW.m o9
 obtain ⟨r,aC⟩:∃r,r=av.heap.size:=⟨_,rfl⟩
 rw[←aC] at iB GX
 have BA:r≠b4.cQ:=by have:=cW.m.lt;omega
 have e8:∀q,c0 b4 q→q≠r:=fun q ag e=>by have:=cW.lt ag;omega
 have QG:∀x∈L,∃y∈b4.waits,x.1=(y.i:Int):=fun x af=>by
   have:=nU.mem_iff.1 (eK.2 ⟨x,af,rfl⟩)
   obtain ⟨y,aZ,e⟩:=eK.1 this
   refine ⟨y,aZ,?_⟩
   have:=congrArg Prod.fst e
   exact this.symm
 have QH:∀y∈b4.waits,∃x∈L,x.1=(y.i:Int):=fun y aZ=>by
   have:y.e∈L.map mE:=nU.mem_iff.2 (eK.2 ⟨y,aZ,rfl⟩)
   obtain ⟨x,af,e⟩:=eK.1 this
   exact ⟨x,af,congrArg Prod.fst e⟩
 refine ⟨_,rfl,some b4.cQ,cW.kc,_,bC,iB,fun J=>∃ (seen:List Nat) (ls:List c3),kR J r b4.cQ encZ L seen∧cB J {b4 with c4:=ls}∧ls.length=b4.n∧(∀ (j:Nat) (bb:j<ls.length),ls[j]=if ∃x∈L,x.2.2∈seen∧x.1=(j:Int) then b4.now j else b4.c4.getD j [])∧aq (fun q=>c0 b4 q) av J∧bC.heap.size≤J.heap.size,
   BD L r,⟨[],b4.c4,GX,cW.ext gz,rfl,fun j bb=> ?_,aq.gi gz,b6 _⟩,?_⟩
 · rw[if_neg (by rintro ⟨x,_,U,_⟩;cases U),ep bb]
 rintro b5 ⟨seen,ls,BG,s7,ik,kS,s8,UR⟩
 have cK:∀s∈ls,s.length=256:=s7.o_
 have US:r<b5.heap.size:=by omega
 have Bs:b4.aD≠r:=e8 _ (.inr (.inl rfl))
 rcases BG.next (P:=Tryz.prog) BA 0 with ⟨s5,cN,BH,vz,yD⟩|⟨x,af,bm,BH,QI,mT,PO,QJ⟩
 ·
   refine .inr ⟨cN,BH,fun h=>(by cases h),fun _=> ?_⟩
   have yE:=s7.ext vz
   obtain ⟨pZ,kA,QK,BI,UT⟩:=cI.clear (P:=Tryz.prog) (o:=aj.t) yE.m o9
   refine ⟨_,rfl,some b4.cQ,yE.kc,_,pZ,kA, .inr ⟨ad,rfl,?_,?_⟩⟩
   · have dN:∀x∈L,x.2.2∈seen:=fun x af=>by
       have:=List.filter_eq_nil_iff.1 s5 x af
       simpa using this
     have nS:ls=(List.range D.n).map D.now:=by
       refine List.ext_getElem (by simp[ik,sk]) fun j U ab=> ?_
       rw[kS j U,List.getElem_map,List.getElem_range]
       have qX:D.now j=b4.now j:=by rw[m3];rfl
       rw[qX]
       split
       · rfl
       · rename_i fH
         unfold aY.now
         cases aI:b4.waits.find? fun x=>x.i==j with
         |some y=>
           exfalso
           have aZ:=r8 aI
           have QL:y.i=j:=by simpa using uf aI
           obtain ⟨x,af,e⟩:=QH y aZ
           exact fH ⟨x,af,dN x af,by rw[e,QL]⟩
         |none=>rfl
     have n_:b4.d≠b4.cQ:=cW.a7.2.1
     have QM:b4.aD≠b4.cQ:=cW.a7.2.2
     have e:(D.du 3).m0={b4 with c4:=ls,waits:=[]}:=by
       rw[nS,m3];rfl
     rw[e]
     refine ⟨yE.v.az BI n_,bo.az yE.l BI QM,QK,fun x af=>(by cases af),fun x af=>(by cases af),cK,fun x af=>(by cases af),?_,?_,s7.f4,s7.pc,s7.a7,fun x af=>(by cases af),fun x af=>(by cases af)⟩
     · show 16≤ls.length;rw[ik];exact cW.dM
     · show ls.length≤1600;rw[ik];exact gU
   · have QN:c0 D D.d:= .inl rfl
     have ai:aq (fun q=>c0 D q) w av:=eF.mono fun q _ e=>by rw[e];exact QN
     have s8:aq (fun q=>c0 D q) av b5:=by rw[←QF];exact s8
     have rk:=dv ai s8 fun q _ h=>h
     have kC:=dv rk vz fun q _ h=>h.elim
     exact dv kC BI fun q _ cF=>by rw[cF,ei];exact .inr (.inr (.inl rfl))
 ·
   have s6:x∈L:=(qt.1 af).1
   have GY:x.2.2∉seen:=by
     have:=(qt.1 af).2
     simpa using this
   obtain ⟨y,aZ,BJ⟩:=QG x s6
   have QO:=s7.az mT fun q ag=>e8 q ag
   have hi:y.i<b4.n:=(cW.wn y aZ).2.1
   have QP:y.i<ls.length:=by omega
   refine .inl ⟨_,_,bm,BH,fun _=>⟨(y.i:Int),x.2.1,bm,?_,?_⟩,fun h=>(by cases h)⟩
   · rw[QJ]
     have e:encZ x.1= .int .i64 ((y.i:Nat):Int):=by rw[BJ]
     rw[e]
   have cg:=dz bm
   have BK:=QO.ext cg
   have kQ:({b4 with c4:=ls}:aY).n=b4.n:=ik
   refine bD ⟨fun _=>False,_,rfl,id,⟨some ⟨b4.aD,0,none⟩,ls.length,ls.length⟩,BK.fO,(E8 (i:=y.i) BK (by rw[kQ];exact hi) (by show b4.eP≤_;omega)).use ?_⟩
   rintro _ c_ ⟨rfl,jO⟩
   have jP:=BK.ext jO
   have qX:({b4 with c4:=ls}:aY).now y.i=b4.now y.i:=by
     unfold aY.now
     cases aI:b4.waits.find? fun x=>x.i==y.i with
     |some z=>rfl
     |none=>
       have:=List.find?_eq_none.1 aI y aZ
       simp at this
   have jJ:(b4.now y.i).length=256:=cW.xS hi
   rw[qX]
   have an:Addr.add ⟨b4.aD,0,none⟩ (Int.toNat ((y.i:Nat):Int)*256)=⟨b4.aD,y.i*256,none⟩:=by rw[eC,ba,e6]
   obtain ⟨eN,gf,kg⟩:=QB jP.l cK QP jJ
   refine ⟨_,rfl,jO,_,rfl,⟨by omega,by show ((y.i:Nat):Int)<((ls.length:Nat):Int);omega⟩,by rw[an];exact eN,by simp[dj,jJ],?_⟩
   rw[an]
   refine bD ?_
   show _∧_
   have GZ:bo (setCells c_ ⟨b4.aD,y.i*256,none⟩ 0 (aF (b4.now y.i)).toArray.toList) b4.aD (b9 aF (ls.set y.i (b4.now y.i))).toArray aj.fV:=gf
   have rp:aq (fun q=>q=b4.aD) c_ (setCells c_ ⟨b4.aD,y.i*256,none⟩ 0 (aF (b4.now y.i)).toArray.toList):=kg
   generalize setCells c_ ⟨b4.aD,y.i*256,none⟩ 0 (aF (b4.now y.i)).toArray.toList=de at GZ rp
   have BL:=Ext.trans cg jO
   have G0:=(QI.az BL id id).az rp (fun e=>Bs e.symm) fun e=>cW.a7.2.2 e.symm
   have QQ:aq (fun q=>c0 b4 q) av de:=by
     have U:aq (fun q=>c0 b4 q) av bm:=dv s8 mT fun q ag e=>by omega
     have ab:=dv U BL fun q _ h=>h.elim
     exact dv ab rp fun q _ e=>by rw[e];exact .inr (.inl rfl)
   have UU:=BL.size
   have UW:=rp.size
   have QR:cB de {b4 with c4:=ls.set y.i (b4.now y.i)}:=by
     have n_:b4.d≠b4.aD:=cW.a7.1
     refine ⟨?_,GZ,jP.m.az rp fun e=>cW.a7.2.2 e.symm,fun x af=>(jP.ws x af).az rp fun q ag e=>(jP.bB x af).2.1 (by rw[←e];exact ag),?_,fun s ao=> ?_,jP.pb,?_,?_,jP.f4,jP.pc,jP.a7,jP.bB,jP.a3⟩
     · have U:=jP.v.az rp n_
       have e:({b4 with c4:=ls.set y.i (b4.now y.i)}:aY).c=({b4 with c4:=ls}:aY).c:=by unfold aY.c;simp
       rw[e];exact U
     · intro z bI
       have:=jP.wn z bI
       refine ⟨this.1,?_,this.2.2⟩
       show z.i<(ls.set y.i (b4.now y.i)).length
       rw[hZ];exact this.2.1
     · rcases List.mem_or_eq_of_mem_set ao with U|rfl
       · exact cK s U
       · exact jJ
     · show 16≤(ls.set y.i (b4.now y.i)).length;rw[hZ,ik];exact cW.dM
     · show (ls.set y.i (b4.now y.i)).length≤1600;rw[hZ,ik];exact gU
   refine ⟨⟨seen++ [x.2.2],_,G0,QR,by rw[hZ];exact ik,fun j bb=> ?_,QQ,by omega⟩,?_⟩
   · rw[hZ] at bb
     rw[List.getElem_set]
     split
     · rename_i e
       subst e
       rw[if_pos ⟨x,s6,by simp,BJ⟩]
     · rename_i bU
       rw[kS j bb]
       have:(∃vA∈L,vA.2.2∈seen∧vA.1=(j:Int))↔∃vA∈L,vA.2.2∈seen++ [x.2.2]∧vA.1=(j:Int):=by
         constructor
         · rintro ⟨z,U,ab,aw⟩
           exact ⟨z,U,List.mem_append_left _ ab,aw⟩
         · rintro ⟨z,U,ab,aw⟩
           rcases gv.1 ab with ab|ab
           · exact ⟨z,U,ab,aw⟩
           · have xW:z=x:=by
               have bt:=BG.Qx
               obtain ⟨a,aH,rfl⟩:=oI U
               obtain ⟨b,ad,rfl⟩:=oI s6
               have cj:=fE.1 ab
               have gT:a=b:=by
                 rcases Nat.lt_trichotomy a b with h|h|h
                 · have:=wV.1 bt a b (by simpa using aH) (by simpa using ad) h
                   simp at this;exact absurd cj this
                 · exact h
                 · have:=wV.1 bt b a (by simpa using ad) (by simpa using aH) h
                   simp at this;exact absurd cj.symm this
               subst gT;rfl
             rw[xW,BJ] at aw
             exact absurd (by omega) bU
       simp only[this]
   · rw[G0.left,BG.left]
     exact QC af
end
section
structure og where
 dh:Nat
 batch:Nat
 lY:Nat
def og.c (l:og):List Value:=[.int .i64 (l.dh:Nat), .int .i64 (l.batch:Nat), .int .u64 (l.lY:Nat)]
def vB (f b d:Int):Prop:=8≤f∧f≤64∧1≤b∧b≤1000∧1≤d∧d≤1048576
instance UX (f b d:Int):Decidable (vB f b d):=by unfold vB;infer_instance
section
variable {w J:World} {D:aY}
theorem m4 (w:World) (p:Option Addr) (f b d:Int):aN Tryz.prog F.m4 #[.pointer p, .agg #[.int .i64 f, .int .i64 b, .int .u64 d]] w (fun v J=>v= .bool (!(Option.isNone p)&&decide (vB f b d))∧Ext w J):=by
 refine W.QS p f b d w _ ?_
 (delta W.m4 aA aE ah bE;dsimp only)
 refine cZ (vs:=[.int .i64 f, .int .i64 b, .int .u64 d]) rfl fun ae al af ao=> ?_
 refine c2 (fun x J=>x=(!(Option.isNone p)&&decide (8≤f))∧ae=J) (fun q ag=>⟨fun h=>⟨f,al.cell,ag _ _ ⟨by rw[h,jx],rfl⟩⟩,fun h=>ag _ _ ⟨by rw[h,nr],rfl⟩⟩) ?_
 rintro ee _ ⟨U,rfl⟩
 refine c2 (fun x J=>x=(ee&&decide (f≤64))∧ae=J) (fun q ag=>⟨fun h=>⟨f,al.cell,ag _ _ ⟨by rw[h,jx],rfl⟩⟩,fun h=>ag _ _ ⟨by rw[h,nr],rfl⟩⟩) ?_
 rintro gG _ ⟨ab,rfl⟩
 refine c2 (fun x J=>x=(gG&&decide (1≤b))∧ae=J) (fun q ag=>⟨fun h=>⟨b,by rw[ba];exact al.cell,ag _ _ ⟨by rw[h,jx],rfl⟩⟩,fun h=>ag _ _ ⟨by rw[h,nr],rfl⟩⟩) ?_
 rintro jn _ ⟨aw,rfl⟩
 refine c2 (fun x J=>x=(jn&&decide (b≤1000))∧ae=J) (fun q ag=>⟨fun h=>⟨b,by rw[ba];exact al.cell,ag _ _ ⟨by rw[h,jx],rfl⟩⟩,fun h=>ag _ _ ⟨by rw[h,nr],rfl⟩⟩) ?_
 rintro m5 _ ⟨aL,rfl⟩
 refine c2 (fun x J=>x=(m5&&decide (1≤d))∧ae=J) (fun q ag=>⟨fun h=>⟨d,by rw[ba];exact al.cell,ag _ _ ⟨by rw[h,jx],rfl⟩⟩,fun h=>ag _ _ ⟨by rw[h,nr],rfl⟩⟩) ?_
 rintro rq _ ⟨bt,rfl⟩
 refine c2 (fun x J=>x=(rq&&decide (d≤1048576))∧ae=J) (fun q ag=>⟨fun h=>⟨d,by rw[ba];exact al.cell,ag _ _ ⟨by rw[h,jx],rfl⟩⟩,fun h=>ag _ _ ⟨by rw[h,nr],rfl⟩⟩) ?_
 rintro s9 _ ⟨cj,rfl⟩
 refine ⟨?_,af⟩
 rw[cj,bt,aL,aw,ab,U,Value.bool.injEq,fU]
 simp only[eL,c1,and_assoc]
 exact Iff.rfl
theorem BM {D:aY} {no:Nat} {s:ak} {l:c3} {N:Nat} (e8:∀q,aM s q→c0 D q∨N≤q):∀q,c0 (D.put no s l) q→c0 D q∨N≤q:=by
 rintro q (e|e|e|⟨x,af,e⟩)
 · exact .inl (.inl e)
 · exact .inl (.inr (.inl e))
 · exact .inl (.inr (.inr (.inl e)))
 · rcases dT.1 af with rfl|af
   · exact e8 q e
   · exact .inl (.inr (.inr (.inr ⟨x,(qt.1 af).1,e⟩)))
def QT (D:aY) (u:df) (gen:Nat) (w:World) (v:Value) (J:World):Prop:=
 aq (c0 D) w J∧((D.fh 2=true∧v= .int .i64 3∧cB J (D.du 2))∨
 (D.fh 2=false∧∃s:ak,(∀q,aM s q→c0 D q∨w.heap.size≤q)∧∃b4:aY,b4=D.put (gen%2) s (dW (gen%2) (lF u D.n gen))∧
   ((b4.fh 3=true∧v= .int .i64 3∧cB J (b4.du 3))∨(b4.fh 3=false∧v= .int .i64 0∧cB J (b4.du 3).m0))))
theorem m6 (h:cB w D) (pd:D.eP≤999999999) {u:df} (hu:x2 u) {gen:Nat} (bu:gen<18446744073709551616):
   aN Tryz.prog F.m6 #[.pointer (some ⟨D.d,0,none⟩), .agg u.c.toArray, .int .u64 (gen:Nat)] w (QT D u gen w):=by
 have jD:=h.dM
 have gU:=h.cH
 refine W.QU _ (u.root:Nat) (u.bG:Nat) (u.map:Nat) (u.clock:Nat) (u.fX:Nat) (u.keys:Nat) (gen:Nat) w _ ?_
 (delta W.m6 ah aE bE bN b8 s_ fO aK aA;dsimp only)
 have hm:IntKind.wrap .i64 (Int.tmod ((gen:Nat):Int) 2)=((gen%2:Nat):Int):=by
   rw[ui (by omega),b_ (by omega) (by omega)];omega
 refine cZ (vs:=u.c) rfl fun ae al bg h6=>⟨by decide,?_⟩
 have cg:=dz ae
 have eg:=al.ext cg
 have cW:=h.ext (bg.trans cg)
 refine bD ⟨fun _=>False,id,ib eg ((xT cW).use ?_)⟩
 rintro _ _ ⟨rfl,rfl⟩
 refine ⟨_,rfl,aq.refl _ _,(mH hu (n:=D.n) (by omega)).use ?_⟩
 rintro _ fQ ⟨gb,rfl,QV,pq,UY⟩
 rw[hm]
 refine ⟨gb,rfl,fun _=>False, #[.int .i64 3, .int .u64 (gen:Nat), .slice gb.a gb.len gb.cap],fun cp=>by kernel_rfl,(D9 (s:=gb) (p:=lF u D.n gen) QV.src (by omega) (AG bu)).use ?_⟩
 rintro _ cJ ⟨g1,rfl,ya,G1,QW⟩
 have eo:=(bg.trans cg).trans (Ext.trans pq G1)
 have QX:=h.ext eo
 have UZ:=eo.size
 have AW:(dW (gen%2) (lF u D.n gen)).length=256:=zQ _ (AG bu)
 have lJ:w.heap.size≤fQ.heap.size:=by have:=(bg.trans cg).size;have:=pq.size;omega
 refine ⟨g1,0,rfl,G1,fun h=>(by cases h),fun _=>(Fi QX (i:=gen%2) (by omega) (by omega) ya.src AW fun q ag aI=>by have:=QW q ag;have:=h.lt aI;omega).use ?_⟩
 rintro _ g2 (⟨ad,rfl,ax,ai⟩|⟨ad,rfl,s,ax,ai,e8⟩)
 · exact ⟨3,rfl,fun _=>⟨dv (eo.mono fun _ _ h=>h.elim) ai fun q _ e=>by rw[e];exact .inl rfl, .inl ⟨ad,rfl,ax⟩⟩,fun h=>(by cases h)⟩
 · have G2:aq (c0 D) w g2:=dv (eo.mono fun _ _ h=>h.elim) ai fun q _ e=>e
   have oh:=BM (no:=gen%2) (l:=dW (gen%2) (lF u D.n gen)) e8
   refine ⟨0,rfl,fun h=>(by cases h),fun _=>(GW ax (by show D.eP+1≤_;omega)).use ?_⟩
   have yF:∀q,aM s q→c0 D q∨w.heap.size≤q:=fun q ag=>(e8 q ag).imp id fun h=>by omega
   rintro _ de (⟨q0,rfl,gD,rk⟩|⟨q0,rfl,gD,rk⟩)
   · exact ⟨3,rfl,dv G2 rk fun q _ e=>by rw[e];exact .inl rfl, .inr ⟨ad,s,yF,_,rfl, .inl ⟨q0,rfl,gD⟩⟩⟩
   · exact ⟨0,rfl,dv G2 rk fun q ag e=>(oh q e).resolve_right (by omega), .inr ⟨ad,s,yF,_,rfl, .inr ⟨q0,rfl,gD⟩⟩⟩
end
end
section
section
variable {w J:World} {C:lO} {X:Nat→Prop}
theorem QY {D:aY} (h:cB w D) (i:Nat):D.m0.now i=D.now i:=by
 by_cases hi:i<D.n
 · exact GV D hi
 · have U:D.now i=[]:=by
     unfold aY.now
     cases aI:D.waits.find? fun x=>x.i==i with
     |some x=>
       have af:=r8 aI
       have he:x.i=i:=by simpa using uf aI
       have:=(h.wn x af).2.1
       omega
     |none=>
       have:¬i<D.c4.length:=hi
       show D.c4.getD i []=[]
       rw[iS,ug (by omega)];rfl
   rw[U]
   show ((List.range D.n).map D.now).getD i []=[]
   rw[iS,ug (by simp;omega)];rfl
theorem G3 (D:aY) {m:Nat} (h:D.calm m):(D.du 3).calm m:=by
 unfold aY.calm aY.du at*
 simpa[iS] using h
end
end
end Go.Proofs.YtmhhgpogjpbglaaGreat
