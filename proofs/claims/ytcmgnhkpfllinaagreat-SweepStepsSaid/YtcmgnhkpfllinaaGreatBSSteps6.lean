/- Contracts of the functions that the statement reaches, and the plain laws over them; each theorem stands with its conditions. -/
import Derived.Test.YtcmgnhkpfllinaaGreatBSSteps5
namespace Go.Proofs.YtcmgnhkpfllinaaGreat
open Go aQ Go.Proofs.Tryz
section
variable {w w' w1:J}{C:b4}{X:Nat->Prop}{T:aK}{S aE kp:cf}{pages aP:O Nat}{L bQ:O aM}{f2:Nat->al}{aJ:b4}{P':Nat->av aD}
theorem JQ{f:Nat->al}{n k:Nat}(h:k<n):nL f n (k:Int)=du f k false:=by
 unfold nL;rw[if_pos ⟨I,I⟩,dc]
theorem JR{bh d c sb gen now first pending keys st:Nat}{l:eB}{u:eT}{failed:al}(b:Var w st (jc bh d c sb l u gen now first pending keys failed) 146)(a:eT){K:J->Prop}(e:∀ai,Var ai st (jc bh d c sb l a gen now first pending keys failed) 146->af (λq=>q=st) w ai->K ai):
 bJ w ⟨st,7,none⟩ [a.root,a.aL,a.map,.int .u64 (a.clock:Nat),.int .u64 (a.dw:Nat),a.keys]/\(6:Nat)=6/\
  ao (setCells w ⟨st,7,none⟩ 0 [a.root,a.aL,a.map,.int .u64 (a.clock:Nat),.int .u64 (a.dw:Nat),a.keys]) K:=
 ⟨bj.cn b _ _ (by simp[jc]) λv f=>eT.plain a v f,rfl,aX (e _ (bj.lf (o:=7) b _) (af.jJ (.refl _ _) _ 0))⟩
theorem JS(h:dW w S pages L aP bQ)(U:S.failed=false)(cW:L.length<4096)(d9:S.T.C.D.a7<=800000000)(d_:S.gen<=1000000000)(ac:S.T.C.D.quiet):
 aI aj 74 #[.pointer (some S.st)] w (zy S pages L aP bQ w):=by
 refine okF (ae.uR (some S.st)) ax.uR func74 ?_;(delta ae.uR gy ak bP aG cr bE ew jN Y gT st;dsimp only);obtain⟨aY,bx,cO⟩:=h.live U;obtain⟨no,bz⟩:=C1 cO;obtain⟨bC,cP,_⟩:=CA bz;have ea:=h.t.s.bB;have ap:=h.num;have cQ:=h.gen;have bD:=h.jY.zx;have bF:S.T.f no=false:=by cases cS:S.T.f no<;>simp_all
 have aZ:S.T.g no=false:=by cases cS:S.T.g no<;>simp_all
 have bH:2<=no:=Nat.le_of_not_lt λe=>by
  have:=(h.jY.g no).2 (.inr (.inl e));rw[aZ]at this;cases this
 have eb:S.T.M S.st:=.inr (.inr (.inr (.inl h.es)));refine⟨_,rfl,_,by rw[aA];exact h.v.cell,(CC h.t.s).use ?_⟩;rintro _ bI ⟨rfl,bJ,aq⟩;rw[bz]at bJ⊢;refine⟨(no:Nat),0,rfl,λhx=>(by cases hx),λ_=>aX ?_⟩;have cT:=(h.t.wC (f:=du S.T.f no true) bJ aq).1;have cU:=h.v.ah aq (h.t.dV _ h.es).2.1;have ar:Ext bI bI.drew:=cG _;have a0:=cU.ext ar;have bK:=cT.ext ar;refine⟨_,rfl,id,_,by rw[aA];exact a0.cell,_,rfl,id,_,by rw[aA,aA];exact a0.cell,(CD bK.s (S.u.map:Nat)).use ?_⟩;rintro _ au ⟨rfl,bL,aB⟩;rw[JQ (by exact bD.2.2.2.1)]at bL;obtain⟨f2,a1⟩:∃f2,f2=du (du S.T.f no true) S.u.map false:=⟨_,rfl⟩;have bM:fp au S.T.sb S.T.n f2 S.T.g S.T.s1 S.T.s2:=by rw[a1];exact bL
 have a2:b_ au (S.T.jw f2):=(bK.wC (f:=f2) bM aB).1;have bN:=a0.ah aB (h.t.dV _ h.es).2.1;refine⟨_,rfl,aX ?_⟩;have aC:Ext au au.drew:=cG _;have bO:=bN.ext aC;have cV:=a2.ext aC;have a3:IntKind.wrap .u64 ((S.gen:Int)+1)=((S.gen+1:Nat):Int):=by rw[gI I I];omega
 refine⟨λ_=>False,_,rfl,id,_,by rw[aA];exact bO.cell,_,rfl,id,_,by rw[aA];exact bO.cell,(CJ cV.s).use ?_⟩;rintro _ cX ⟨aE,rfl,cY,a4,ec⟩;have cZ:aT 1 5 cX aE (az (iH f2 ((S.T.n+7)/8))):=by rw[DA];exact cY
 have bR:nE ⟨4,S.gen+1,iH f2 ((S.T.n+7)/8)⟩:=⟨(by decide:1<=4),(by decide:4<=4),by show S.gen+1<_;omega,by show(iH _ _).length<=232;rw[wO];omega⟩;rw[a3];refine⟨aE,rfl,a4,#[(4:Int),.int .u64 ((S.gen+1:Nat):Int),aE],λee=>by kernel_rfl,(v7 (s:=aE) (p:=⟨4,S.gen+1,iH f2 ((S.T.n+7)/8)⟩) (no:=no) cZ.src I bR).use ?_⟩;rintro _ bS ⟨c0,rfl,bT,bU,c1⟩;have a5:=aC.trans (Ext.trans a4 bU);have aF:=a2.ext a5;have bV:=bN.ext a5;have eg:=aq.size;have eh:=aB.size;have ei:=ar.size;have ej:=aC.size;have ek:=a4.size;have a6:af S.W w bS:=c5 (c5 (c5 (c5 (af.refl _ _) aq λq _ a=>h.nT (.inr (.inr (.inl a)))) ar λq _ a=>a.elim) aB λq _ a=>h.nT (.inr (.inr (.inl a)))) a5 λq _ a=>a.elim;have c2:(eJ no ⟨4,S.gen+1,iH f2 ((S.T.n+7)/8)⟩).length=256:=sD _ bR;refine⟨c0,0,rfl,bU,λhx=>(by cases hx),λ_=>⟨_,rfl,_,by rw[aA];exact bV.cell,(CT aF.ca (by show S.T.C.D.a7<=_;omega) (no:=no) (by rw[aF.n];exact bC) bH (λhs=>?_) bT.src c2 λq a=>⟨aT.lt bT q a,λhf=>?_⟩).use ?_⟩⟩
 .rcases aF.b9 no hs with h1|h1
  .rw[show(S.T.jw f2).g no=S.T.g no from rfl,aZ]at h1;cases h1
  .exact aY h1
 .have h1:=c1 q a
  have h2:=a2.lt (q:=q) (.inl hf);omega
 rintro _ bW ⟨J,c3,bX,aH⟩;have A:eA S.T.C J bS bW 1:=bX;have bY:∀j,j≠no->J.view j=S.T.C.view j:=λj o=>by
  rcases aH with ⟨_,a8⟩|⟨_,_,a8⟩
  .rw[a8,if_neg o];rfl
  .rw[a8];rfl
 obtain⟨F,a9⟩:∃F:Nat->av aD,F=λj=>if j=no then none else S.T.P j:=⟨_,rfl⟩
 have ad:∀j,j≠no->F j=S.T.P j:=λj o=>by rw[a9];exact if_neg o
 obtain⟨aJ,_⟩:=aF.wA (P:=F) c3 bX λj cd Q=>by
  have o:j≠no:=λe=>by rw[a9]at Q;simp[e]at Q
  rw[bY j o];exact h.t.eV j cd (by rw[←ad j o];exact Q)
 have c4:¬da S.T.C S.st:=(h.t.ca.inv.fh _ (.inr (.inr (.inl h.es)))).2;have bZ:=bV.ah A.ah c4;have b0:af S.W w bW:=c5 a6 A.ah λq _ a=>h.nT (.inl a);have el:∀x∈aP,S.T.P x=F x:=λx hx=>(ad x λe=>by
  have:=(h.jY.g x).2 (.inl hx);rw[e,aZ]at this;cases this).symm
 have em:J.D.b7=S.T.C.D.b7:=congrArg (λp=>p.1.1) A.b7;have b1:J.D.cl.getD 3 0=S.T.C.D.cl.getD 3 0:=congrArg Prod.snd A.b7;rcases aH with ⟨rfl,aH⟩|⟨rfl,c7,_⟩
 rotate_left
 .exact absurd (ac.1 1) c7
 refine⟨0,rfl,λhx=>(by cases hx),λ_=>⟨_,rfl,_,by rw[aA];exact bZ.cell,?_⟩⟩;have b2:=Jx aJ.ca (by show J.D.a7<=_;have:=A.a7;omega) λj o=>by show J.D.eL j=_;rw[A.pt.2,bx]
 rw[show((S.T.jw f2).bA J F).C.c=S.T.C.c from A.c]at b2;refine b2.use ?_;rintro _ aM ⟨b,R⟩;have c8:¬da J S.st:=(aJ.ca.inv.fh _ (.inr (.inr (.inl h.es)))).2;have a_:=bZ.ah R.ah c8;have bb:b.D.d=S.T.C.D.d:=R.d.trans A.d;have c9:b.c=S.T.C.c:=R.c.trans A.c;have c_:b.D.r1=S.T.C.D.r1:=R.r.trans (congrArg (λp=>p.1.2.2.2.2) A.b7);have aN:∀q,da b q->da S.T.C q\/w.heap.size<=q:=λq a=>by
  have:=b0.size;have:=a6.size;rcases R.c6 q a with h1|h1
  .exact(A.c6 q h1).imp id λe=>by omega
  .exact .inr I
 have b3:af S.W w aM:=c5 b0 R.ah λq U a=>by
  have:=a6.size;exact h.nT (.inl ((A.c6 q a).resolve_right I))
 have b6:∀ (bd:b4),(∀j,2<=j->bd.view j=J.view j)->∀j cd,F j=some cd->j<S.T.n/\gY S.T.gen cd.leaf j (bd.view j) cd:=λbd db j cd Q=>by
  have o:j≠no:=λe=>by rw[a9]at Q;simp[e]at Q
  have h1:=h.t.eV j cd (by rw[←ad j o];exact Q);rw[db j h1.2.two,bY j o];exact h1
 have be:b_ aM ((S.T.jw f2).bA b F):=aJ.DG R.at_ R.ah R.c R.n (b6 b λj _=>R.view j) λj o=>by
  rw[R.b9.1]at o;rcases aJ.b9 j o with h1|h1
  .exact .inl h1
  .exact .inr λi=>by rw[R.b9.1];exact h1 i
 have b8:b.D.b9=S.T.C.D.b9:=R.b9.1.trans A.b9;have en:b.D.eL=λ_=> []:=R.b9.2.trans (A.pt.2.trans bx);have eo:b.D.a7<=S.T.C.D.a7+70:=by have h1:b.D.a7<=J.D.a7+64:=R.a7;have:=A.a7;omega
 rcases R.ib with ⟨rfl,dc,cb,dd⟩|⟨rfl,ep,de⟩
 rotate_left
 .exfalso
  rcases de with h1|h1
  .exact h1 (A.calm 64 (ac.1 _))
  .unfold bc.gg at h1
   rw[show((S.T.jw f2).bA J F).C.D.cl.getD 3 0=S.T.C.D.cl.getD 3 0 from b1,ac.2]at h1
   cases h1
 have aO:∀j,b.D.ff j=[]:=λj=>by unfold bc.ff;rw[dc];rfl
 have df:∀j,b.D.b7.getD j []=if j=no then eJ no ⟨4,S.gen+1,iH f2 ((S.T.n+7)/8)⟩ else S.T.C.view j:=λj=>by
  have h1:=Jv R.at_ cb j;rw[yT _ (λx hx=>(R.at_.raw.dev.wn x hx).1),if_pos (aO j)]at h1;rw[←h1,R.view];exact aH j
 have ce:∀j,S.T.g j=true->S.V j=S.T.C.view j:=λj o=>(h.view U o).symm;refine⟨0,rfl,λhx=>(by cases hx),λ_=>⟨_,rfl,_,a_.cell,?_⟩⟩;have cf:=Dt be;rw[show((S.T.jw f2).bA b F).bh=S.T.bh from rfl]at cf;refine cf.use ?_;rintro _ bf ⟨rfl,bg⟩;have bi:Ext bf bf.drew:=cG _;have bj:=(a_.ext bg).ext bi;have dg:IntKind.wrap .u64 ((S.u.dw:Int)+1)=((S.u.dw+1:Nat):Int):=by rw[gI I I];omega
 refine⟨_,_,rfl,aX ⟨λ_=>False,_,rfl,id,_,by rw[aA];exact bj.cell,_,rfl,id,_,by rw[aA,aA];exact bj.cell,_,rfl,id,_,by rw[aA];exact bj.cell,?_⟩⟩;rw[dg];obtain⟨G,Z⟩:∃G:eT,G=⟨S.T.root,S.T.aL,no,S.now,S.u.dw+1,S.keys⟩:=⟨_,rfl⟩;refine⟨G.c.toArray,λeq=>by rw[Z];kernel_rfl,ba (vs:=Cp.c) rfl λer cg ch et=>⟨ch,?_⟩⟩;obtain⟨ag,dj⟩:∃ag,ag=bf.drew.heap.size:=⟨_,rfl⟩;rw[←dj]at cg⊢;refine Cs cg rfl G λai dk dl eu=>aX ?_;have ev:=bg.size;have ex:=bi.size;have dm:Ext aM ai:=Ext.cC (Ext.trans bg (bi.trans ch)) dl I;have ci:Ext ai ai.drew:=cG _;have al:Ext aM ai.drew:=Ext.trans dm ci;have bl:=dk.ext ci;have aQ:=a_.ext al;have bm:=be.ext al;generalize ez:ai.drew=aR at bl aQ bm al⊢;refine⟨_,rfl,id,_,by rw[aA];exact aQ.cell,id,q4 bl ⟨_,rfl,id,_,by rw[aA];exact aQ.cell,?_⟩⟩;rw[a3];have dn:nJ G:=by
  have h1:=h.t.num;have h2:=h.keys;rw[Z];exact⟨by show S.T.root<_;omega,by show S.T.aL<_;omega,by show no<_;omega,ap.1,by show S.u.dw+1<_;omega,by show S.keys<_;omega⟩
 have bn:b.D.n=S.T.n:=R.n.trans (A.n.trans h.t.n);have O:ef S.T.X aR b:=bm.ca;have cj:=np O.raw.dev I dn (gen:=S.gen+1) I;rw[bb]at cj;refine cj.use ?_;rintro v bo ⟨aa,bp⟩;have eB:=al.size;have dp:∀q,da b q->q<ag:=λq a=>by have:=R.at_.raw.lt a;omega
 have dq:=bl.ah aa λhf=>by have:=dp ag (.inr (.inr hf));omega
 have ds:¬da b S.st:=(be.ca.inv.fh _ (.inr (.inr (.inl h.es)))).2;have ck:=aQ.ah aa λhf=>ds (.inr (.inr hf));have dt:af S.W w aR:=c5 b3 al λq _ a=>a.elim;have eC:=b3.size;have dv:af S.W w bo:=c5 dt aa λq U a=>h.nT<| .inl ((aN q (.inr (.inr a))).resolve_right I)
 have main:∀ (N:bc),di bo N->N.d=b.D.d->kQ N b.D->(∀i,2<=i->N.now i=b.D.now i)->(∀q,cq N q->cq b.D q\/aR.heap.size<=q)->(∀j,N.b9 j=true->S.T.g j=true)->
  b_ bo ((S.T.jw f2).bA {b with D:=N} F)/\∀q,da {b with D:=N} q->da S.T.C q\/w.heap.size<=q:=λN am dx cn dy co dz=>by
  obtain⟨hX,ey⟩:=JM O am dx cn dy aa co;refine⟨bm.DG hX (aa.mono λq _ a=>.inr (.inr a)) rfl cn.1 (b6 _ λj o=>(ey j o).trans (R.view j)) λj o=>.inl (dz j o),λq a=>?_⟩;rcases a with a|a|a
  .exact aN q (.inl a)
  .exact aN q (.inr (.inl a))
  .rcases co q a with h1|h1
   .exact aN q (.inr (.inr h1))
   .exact .inr I
 have eD:¬b.D.ro:=λe=>aY λi=>by rw[←b8];exact e i
 have eG:∀j,b.D.b9 j=true->S.T.g j=true:=λj o=>by
  rw[b8]at o;exact(h.t.b9 j o).resolve_right aY
 have cs:S.T.C.D.quiet->∀k,b.D.calm k:=λa k=>R.calm k (A.calm _ (a.1 _));rcases bp with ⟨bq,rfl,am⟩|⟨bq,s,dA,bG,K,bp⟩
 .have:=(jS (k:=2) (m:=0) (.inr rfl) O.raw.dev.f4 (cs ac 1)).2
  rw[this]at bq;cases bq
 have eH:∀j,bG.ff j=if j=(S.gen+1)%2 then [eJ ((S.gen+1)%2) (jT G b.D.n (S.gen+1))] else []:=λj=>by
  rw[K,Cn,aO,aO];rfl
 have ct:G=⟨S.T.root,S.T.aL,no,S.now,S.u.dw+1,L.length⟩:=by rw[Z,h.keys]
 have dB:∀V:Nat->dh,(∀j,V j=if j=(S.gen+1)%2 then eJ ((S.gen+1)%2) (jT G b.D.n (S.gen+1)) else b.D.b7.getD j [])->lB V S.T.n (S.gen+1) G f2 F pages L:=λV gl=>by
  rw[ct];refine JP h a1 cP bH bC cW (λx hx=>ad x λe=>by
   have:=(h.f x).2 (.inl hx);rw[e,bF]at this;cases this) (by rw[gl,if_pos rfl,ct,bn]) (λj o=>?_) ce
  rw[gl,if_neg o,df];by_cases e:j=no
  .rw[if_pos e,if_pos e]
  .rw[if_neg e,if_neg e]
   by_cases br:S.T.g j=true
   .rw[if_pos br,ce j br]
   .rw[if_neg br]
 have bs:∀q,cq bG q->cq b.D q\/aR.heap.size<=q:=by rw[K];exact wN dA
 have eI:∀i,2<=i->bG.now i=b.D.now i:=λi hi=>by rw[K,pn,if_neg I]
 have cu:bG.n=b.D.n:=by rw[K];rfl
 have dC:bG.d=b.D.d:=by rw[K];rfl
 have eK:bG.b7=b.D.b7:=by rw[K];rfl
 have eM:bG.a7=b.D.a7+1:=by rw[K];rfl
 have cv:S.T.C.D.quiet->bG.cl.getD 3 0= -1:=λa=>by
  rw[K];show(b.D.cl.set 2 _).getD 3 0=_;have aS:=O.raw.dev.f4;rw[fH (by rw[dr];omega),fx (by decide),←fH (d:=0),dd];rw[show((S.T.jw f2).bA J F).C.D.cl.getD 3 0=S.T.C.D.cl.getD 3 0 from b1,a.2];rfl
 rcases bp with ⟨aU,rfl,am⟩|⟨aU,rfl,am⟩
 .unfold bc.gg at aU
  rw[cv ac]at aU;cases aU
 have dD:∀j,S.T.n<=j->b.D.b7.getD j []=[]:=λj o=>by
  rw[fQ,n_ (by have:b.D.b7.length=S.T.n:=bn;omega)];rfl
 have cw:∀j,b.D.now j=b.D.b7.getD j []:=λj=>by rw[yT _ (λx hx=>(O.raw.dev.wn x hx).1),if_pos (aO j)]
 have eN:bG.n=S.T.n:=cu.trans bn;have dE:∀j,(bG.cJ 3).jb.b7.getD j []=if j=(S.gen+1)%2 then eJ ((S.gen+1)%2) (jT G b.D.n (S.gen+1)) else b.D.b7.getD j []:=λj=>by
  show((List.range bG.n).map bG.now).getD j []=_;have eO:16<=bG.n:=by have:16<=b.D.n:=O.raw.dev.cc;omega
  by_cases o:j<bG.n
  .rw[fH (by simp;exact o),List.getElem_map,List.getElem_range,K,pn,cw]
  .rw[fQ,n_ (by simp;omega),if_neg I,dD j I];rfl
 obtain⟨B,H⟩:∃B,B=(bG.cJ 3).jb.jy (λ_=>false) λ_=> []:=⟨_,rfl⟩;have dF:∀j,B.ff j=[]:=λj=>by rw[H];rfl
 have cx:∀j,B.b7.getD j []=if j=(S.gen+1)%2 then eJ ((S.gen+1)%2) (jT G b.D.n (S.gen+1)) else b.D.b7.getD j []:=λj=>by rw[H];exact dE j
 have dG:B.n=b.D.n:=by rw[H];exact(sX (bG.cJ 3)).trans cu
 have bt:B.d=S.T.C.D.d:=by rw[H];exact dC.trans bb
 obtain⟨cy,dH⟩:=main B (by rw[H];exact am.jy _ _) (bt.trans bb.symm) ⟨dG,λj o=>(by rw[H]at o;cases o),λj o=>(by rw[H]at o;cases o)⟩ (λi hi=>by
  have h1:B.now i=B.b7.getD i []:=by rw[H];rfl
  rw[h1,cx,if_neg I,cw]) (λq a=>by
   rw[H]at a;rcases a with e|e|e|⟨x,hx,e⟩
   .exact bs q (.inl e)
   .exact bs q (.inr (.inl e))
   .exact bs q (.inr (.inr (.inl e)))
   .cases hx) λj o=>(by rw[H]at o;cases o)
 refine⟨0,rfl,λhx=>(by cases hx),λ_=>⟨_,rfl,_,by rw[aA];exact ck.cell,(Ia cy.s).use ?_⟩⟩;rintro _ an ⟨rfl,s2,dI,ao,cz⟩;have ab:=dB (λj=>B.b7.getD j []) cx;have dJ:f2 0=true/\f2 1=true:=⟨(ab.g 0).2 (.inr (.inl (by decide))),(ab.g 1).2 (.inr (.inl (by decide)))⟩;obtain⟨dK,eP⟩:=cy.space dI ao cz (λj o=>by
  have o:B.b9 j=true:=o;rw[H]at o;cases o) dJ
 have eQ:=ao.size;have dL:=ck.ah ao (h.t.dV _ h.es).2.1;have dM:=dq.ah ao λhf=>by
  have h1:=h.t.lt (q:=ag) (.inr (.inr (.inl hf)));omega
 have dN:=dK.jy (s:=f2) (z:=λ_=> []) (λf hf j dO _ _=>by
  have h1:=cb f hf;unfold Fr.g6 at h1;rw[dO]at h1;simpa using h1) (λj _=>dF j) λj o=>.inl o
 obtain⟨fF,y⟩:∃fF:aK,fF=(((S.T.jw f2).bA {b with D:=B} F).zo f2 f2 S.T.s1 s2).bA {b with D:=B.jy f2 λ_=> []} F:=⟨_,rfl⟩;have dP:b_ an fF:=by rw[y];exact dN
 have aV:Ext an an.drew:=cG _;have cA:Var an.drew S.st (jc S.T.bh S.T.C.D.d S.T.C.c S.T.sb S.l S.u S.gen S.now S.first S.pending S.keys S.failed) 146:=dL.ext aV;have dQ:=dM.ext aV;have dR:=dP.ext aV;have aW:fF.E=S.T.E:=by rw[y];rfl
 refine⟨rfl,aX ⟨λ_=>False,id,q4 dQ ⟨_,rfl,id,_,by rw[aA];exact cA.cell,_,rfl,?_⟩⟩⟩;rw[aA,cR,a3];refine JR cA G λcB cD cE=>?_;have dS:=dR.ja (by rw[aW];exact h.es) cE;obtain⟨b5,cp⟩:=eF cD (i:=13) (by simp[jc]);have cF:=eE cD (i:=13) (.int .u64 ((S.gen+1:Nat):Int));have dT:=ed cB S.st 13 (.int .u64 ((S.gen+1:Nat):Int));refine⟨_,rfl,by rw[aA];exact b5,by rw[aA];exact cp,aX ?_⟩;rw[aA,cR];obtain⟨dU,dX⟩:=eF cF (i:=16) (by simp[jc]);have cH:=eE cF (i:=16) (0:Int);have bu:=dT.trans (ed _ S.st 16 (0:Int));refine⟨_,rfl,by rw[aA];exact dU,by rw[aA];exact dX,aX ?_⟩;rw[aA,cR];generalize (cB.setCell ⟨S.st,13,none⟩ (.int .u64 ((S.gen+1:Nat):Int))).setCell ⟨S.st,16,none⟩ (0:Int)=cI at cH bu⊢;have dY:=dS.ja (by rw[aW];exact h.es) bu;have bv:Ext cI cI.drew:=cG _;have bw:=cH.ext bv;have dZ:=dY.ext bv;refine aX ⟨_,rfl,id,_,bw.cell,_,rfl,id,_,by rw[aA];exact bw.cell,?_⟩;have d0:IntKind.wrap .u64 (((S.gen+1:Nat):Int)+1)=((S.gen+2:Nat):Int):=by rw[gI I I];omega
 rw[d0];have eR:fF.gen=S.gen+1:=by rw[y];exact cQ
 have cK:fF.bh=S.T.bh:=by rw[y];rfl
 have cL:=JO dZ (gen:=S.gen+2) I I;rw[cK]at cL;refine cL.use ?_;rintro _ d1 ⟨rfl,d2,cN⟩;have d3:=bw.ah cN (h.t.dV _ h.es).1;have d4:∀q,(fF.mR (S.gen+2)).M q->S.T.M q\/w.heap.size<=q:=λq a=>by
  rw[y]at a;rcases a with a|a|a|a
  .exact(dH q a).imp .inl id
  .exact .inl (.inr (.inl a))
  .rcases cz q a with h1|h1
   .exact .inl (.inr (.inr (.inl h1)))
   .have:=aa.size;exact .inr I
  .exact .inl (.inr (.inr (.inr a)))
 refine⟨rfl,⟨S.st,fF.mR (S.gen+2),S.l,G,S.gen+1,S.now,S.first,0,S.keys,S.failed⟩,⟨rfl,?_,by rw[y];rfl,rfl,?_,λa=>?_,?_,d4,aW,by rw[y];rfl,by rw[y];exact(show B.r1=bG.r1 by rw[H];rfl).trans ((show bG.r1=b.D.r1 by rw[K];rfl).trans c_)⟩,rfl,.inl ⟨rfl,⟨⟨?_,d2,?_,?_,rfl,?_,?_⟩,?_,h.cd,?_,?_,h.kv,h.keys,cM _,λ_=>⟨?_,?_,?_⟩,λhf=>?_⟩,U,rfl,by rw[Z],by rw[Z],rfl⟩⟩
 .rw[y];exact bt
 .rw[y];show B.a7<=_;rw[H];show bG.a7<=_;omega
 .rw[y]
  show bc.quiet (B.jy _ _);rw[H];refine⟨λk=>sY bG ?_,?_⟩
  .have aS:=(jS (k:=2) (m:=k) (.inr rfl) O.raw.dev.f4 (cs a (k+1))).1
   rw[K];exact aS
  .show(bG.cl.set 3 (gL (bG.cl.getD 3 0)).2).getD 3 0= -1
   have aS:=O.raw.dev.f4;have eS:bG.cl.length=4:=by rw[K];show(b.D.cl.set 2 _).length=4;rw[dr];exact aS
   rw[cv a,fH (by rw[dr];omega),im];rfl
 .have hs:∀q,q=S.st->S.W q:=λq e=>by rw[e];exact h.DF
  have aw:af S.W w an:=c5 dv ao λq _ a=>h.nT (.inr (.inr (.inl a)));have ay:=c5 aw aV λq _ a=>a.elim;have d5:=c5 ay cE λq _ a=>hs q a;have d6:=c5 d5 bu λq _ a=>hs q a;have d7:=c5 d6 bv λq _ a=>a.elim;exact c5 d7 cN λq _ a=>h.nT (.inr (.inl a))
 .show Var d1 S.st (jc fF.bh fF.C.D.d fF.C.c fF.sb _ _ _ _ _ _ _ _) _
  rw[cK,show fF.C.D.d=S.T.C.D.d by rw[y];exact bt,show fF.C.c=S.T.C.c by rw[y];exact c9,show fF.sb=S.T.sb by rw[y];rfl];exact d3
 .show fF.E S.st
  rw[aW];exact h.es
 .rw[y];exact ab
 .refine⟨ap.1,ap.2.1,?_,by show S.gen+1+2<_;omega,ap.2.2.2.2⟩
  show G.dw+1<=S.gen+1;rw[Z];show S.u.dw+1+1<=_;omega
 .intro j o
  have o:fF.g j=true:=o;show fF.C.D.b9 j=true;rw[y]at o⊢;exact o
 .refine h.ok.agree (by rw[y];rfl) (by rw[y];rfl) λx hx=>?_
  rw[y];exact(ad x λe=>by
   have:=(h.f x).2 (.inl hx);rw[e,bF]at this;cases this).symm
 .intro j
  have:(fF.mR (S.gen+2)).f j=f2 j:=by rw[y];rfl
  rw[this];exact ab.g j
 .intro x hx
  exact⟨(ab.two x hx).1,(ab.two x hx).2.1⟩
 .intro e
  have h1:=e S.T.n;have h2:(fF.mR (S.gen+2)).C.D.b9 S.T.n=f2 S.T.n:=by rw[y];rfl
  rw[h2,bM.pf S.T.n (bk _)]at h1;cases h1
 .rw[y];rfl
 .have d8:f2 S.u.map=false:=by rw[a1];unfold du;rw[if_pos rfl]
  have h1:=wD (s:=λi=>f2 i||f2 i) (t:=du (λi=>f2 i||f2 i) S.u.map true) (k:=S.u.map) (by simp[d8]) (by simp[du]) (λi hi=>by simp[du,hi]) (n:=S.T.n) bD.2.2.2.1;have h2:=nM (du (λi=>f2 i||f2 i) S.u.map true) S.T.n;have eW:cm (fF.mR (S.gen+2))=S.T.n-eU (λi=>f2 i||f2 i) S.T.n:=by rw[y];rfl
  show 1<=cm (fF.mR (S.gen+2));omega
 .have hf:S.failed=true:=hf
  rw[U]at hf;cases hf
end
theorem JT(a b:Int)(w:J)(T:TypeId)(k:IntKind):Sem.run aj (Builtin.max_ #[T,T] T #[.int k a,.int k b]) w=.ok (.int k (max a b)) w:=by
 simp only[Builtin.max_];unfold Builtin.max2;simp;split<;>omega
theorem ek.trans{S aE b:cf}{w w' c:J}{k l:Nat}(h1:ek k S aE w w')(h2:ek l aE b w' c):ek (k+l) S b w c:=
 ⟨h2.st.trans h1.st,h2.d.trans h1.d,h2.n.trans h1.n,h2.l.trans h1.l,by have:=h1.a7;have:=h2.a7;omega,λh=>h2.q (h1.q h),c5 h1.ah h2.ah λq f a=>h1.back f a,λq a=>by
  have:=h1.ah.size
  rcases h2.c6 q a with e|e
  .exact h1.c6 q e
  .exact .inr I,h2.E.trans h1.E,h2.G.trans h1.G,h2.r.trans h1.r⟩
theorem ek.mono{S aE:cf}{w w':J}{k l:Nat}(h:ek k S aE w w')(a:k<=l):ek l S aE w w':={h with a7:=by have:=h.a7;omega}
theorem ek.ext{w w':J}(S:cf)(h:Ext w w'):ek 0 S S w w':=⟨rfl,rfl,rfl,rfl,bk _,λh=>h,h.mono λ_ _ h=>h.elim,λq a=>.inl a,rfl,rfl,rfl⟩
section
variable {w w' w1:J}{T:aK}{S aE kp:cf}{pages aP:O Nat}{L bQ:O aM}
theorem jX.ext(h:jX w S aP bQ)(hx:Ext w w'):jX w' S aP bQ:=⟨h.v.ext hx,h.t.ext hx,h.es,h.jY,h.gen,h.num,h.b9⟩
theorem dW.ext(h:dW w S pages L aP bQ)(hx:Ext w w'):dW w' S pages L aP bQ:=⟨h.tojX.ext hx,h.ok,h.cd,h.f,h.two,h.kv,h.keys,h.pC,h.live,h.dead⟩
theorem dW.ja{kS:Nat}(h:dW w S pages L aP bQ)(a:S.T.E kS)(hs:kS≠S.st)(hc:af (λq=>q=kS) w w'):dW w' S pages L aP bQ:=
 ⟨⟨h.v.ah hc λe=>hs e.symm,h.t.ja a hc,h.es,h.jY,h.gen,h.num,h.b9⟩,h.ok,h.cd,h.f,h.two,h.kv,h.keys,h.pC,h.live,h.dead⟩
theorem JU(h:dW w S pages L aP bQ):aI aj 48 #[.pointer (some S.st)] w (λv w'=>v=S.keys/\w=w'):=by
 refine okF (ae.x2 (some S.st)) ax.x2 func48 ?_;exact⟨λa=>(by cases a),λ_=>⟨_,rfl,_,by rw[aA];exact h.v.cell,rfl,rfl⟩⟩
def ih(S:cf):Nat:=cm S.T-2*S.T.aL-4
theorem DJ(h:dW w S pages L aP bQ):aI aj 66 #[.pointer (some S.st)] w (λv w'=>v=.int .i64 (ih S:Nat)/\Ext w w'):=by
 refine okF (ae.uN (some S.st)) ax.uN func66 ?_;delta ae.uN gy bP aq;refine⟨_,rfl,_,h.v.cell,(Dt h.t).use ?_⟩;rintro _ e ⟨rfl,a⟩;refine⟨_,_,rfl,_,rfl,_,by rw[aA];exact(h.v.ext a).cell,(y2 (h.t.ext a).s).use ?_⟩;rintro _ b ⟨rfl,c⟩;have j:=h.t.s.bB;have k:=h.t.num.2.1;have l:=nM (λi=>S.T.f i||S.T.g i) S.T.n;have d:(S.T.n:Int)-eU (λi=>S.T.f i||S.T.g i) S.T.n=((cm S.T:Nat):Int):=by unfold cm;omega
 have m:cm S.T<=S.T.n:=Nat.sub_le _ _;rw[d,bq (n:=2*(S.T.aL:Int)) I I];refine⟨_,rfl,_,b,JT _ _ b _ _,?_,Ext.trans a c⟩;rw[bq (n:=((cm S.T:Nat):Int)-2*(S.T.aL:Int)) I I,bq I I];unfold ih
 congr 1
 omega
end
def kW(c:Prop)(S aE:cf)(pages:O Nat)(L:O aM)(aP:O Nat)(bQ:O aM)(v:aa)(w':J):Prop:=
 (v=.int .i64 0/\c/\dW w' aE pages L pages L/\aE.failed=false/\aE.gen=S.gen+1/\aE.u.clock=S.now/\aE.u.dw=S.u.dw+1/\aE.pending=0)\/
 (v=.int .i64 3/\¬S.T.C.D.quiet/\dW w' aE aP bQ aP bQ/\aE.failed=true/\aE.u=S.u/\aE.gen=S.gen/\(∀j,S.T.g j=true->aE.V j=S.V j)/\((∀j,S.T.g j=true->aE.T.C.D.eL j=[])\/(c/\DH aE S.gen S.T.g pages L S.now (S.u.dw+1))))
theorem zy.x{c:Prop}{S:cf}{pages aP:O Nat}{L bQ:O aM}{w w':J}{v:aa}(h:zy S pages L aP bQ w v w')(hc:c):∃aE,ek 100 S aE w w'/\aE.now=S.now/\kW c S aE pages L aP bQ v w':=by
 obtain⟨aE,h1,h2,a⟩:=h;refine⟨aE,h1,h2,?_⟩;rcases a with ⟨a1,a2,a3⟩|⟨a1,a2,a3,a4,a5,c1,cS,e2⟩
 .exact .inl ⟨a1,hc,a2,a3⟩
 .exact .inr ⟨a1,a2,a3,a4,a5,c1,cS,.inr ⟨hc,e2⟩⟩
theorem kW.val{c:Prop}{S aE:cf}{pages aP:O Nat}{L bQ:O aM}{w':J}{v:aa}(h:kW c S aE pages L aP bQ v w'):∃n:Int,v=n:=by
 rcases h with ⟨a,_⟩|⟨a,_⟩<;>exact⟨_,a⟩
def mS(S aE:cf)(pages:O Nat)(L:O aM)(aP:O Nat)(bQ:O aM)(v:aa)(w':J):Prop:=
 (v=.int .i64 0/\S.pending+1<S.l.batch/\dW w' aE pages L aP bQ/\aE.failed=false/\aE.gen=S.gen/\aE.u=S.u/\aE.pending=S.pending+1/\aE.first=(if S.pending=0 then S.now else S.first)/\∀j,S.T.g j=true->aE.V j=S.V j)\/
 kW (S.l.batch<=S.pending+1) S aE pages L aP bQ v w'
section
variable {w w' w1:J}{T:aK}{S aE kp:cf}{pages aP:O Nat}{L bQ:O aM}
theorem JV{d:Int}(b:jX w S aP bQ)(t:S.failed=false)(ok:gP S.T pages L)(cd:pages.Nodup)(f:∀no,S.T.f no=true↔no∈pages\/no<2\/no=S.u.map)(two:∀x∈pages,2<=x/\x≠S.u.map)(kv:∀p∈L,cw p.1/\p.2.length<=24)
 (X:¬S.T.C.D.ro/\S.T.C.D.eL=(λ_=> [])/\1<=cm S.T) (Y:(S.keys:Int)+d=L.length) (ap:S.pending<1000) (cW:L.length<4096) (ar:S.keys<100000) (Z:S.T.C.D.a7<=800000000) (aa:S.gen<=1000000000) (ab:S.T.C.D.quiet):
 aI aj 68 #[.pointer (some S.st),d] w (λv w'=>∃aE,ek 100 S aE w w'/\aE.now=S.now/\mS S aE pages L aP bQ v w'):=by
 refine okF (ae.uP (some S.st) d) ax.uP func68 ?_;(delta ae.uP aG st aq ak cr bP;dsimp only);have N:=b.num;have au:S.T.M S.st:=.inr (.inr (.inr (.inl b.es)));obtain⟨aw,ay,g,y,z⟩:=b.set (i:=17) (x:=L.length) (by decide);refine⟨_,rfl,_,by rw[aA];exact b.v.cell,_,rfl,by rw[aA];exact aw,by rw[aA];exact ay,aX ?_⟩;rw[aA,cR,Y,bq (n:=(L.length:Int)) I I];generalize av:w.setCell ⟨S.st,17,none⟩ L.length=ac at g y z⊢;obtain⟨m,s⟩:∃m,m=if S.pending=0 then S.now else S.first:=⟨_,rfl⟩
 refine k9 (λk=>Var k S.st (jc S.T.bh S.T.C.D.d S.T.C.c S.T.sb S.l S.u S.gen S.now m S.pending L.length S.failed) 146/\b_ k S.T/\af (λq=>q=S.st) w k) (λaz O=>?_) ?_
 .refine⟨_,rfl,_,by rw[aA];exact g.cell,λA=>?_,λA=>O _ ⟨?_,y,z⟩⟩
  .have h0:S.pending=0:=by
    have:(S.pending:Int)=0:=by simpa using A
    omega
   obtain⟨B,E⟩:=eF g (i:=15) (by simp[cf.cells,jc]);have ad:=eE g (i:=15) (.int .u64 (S.now:Int));have P:=ed ac S.st 15 (.int .u64 (S.now:Int));refine⟨_,rfl,_,by rw[aA];exact g.cell,_,rfl,by rw[aA];exact B,by rw[aA];exact E,aX (O _ ⟨?_,?_,?_⟩)⟩
   .rw[aA,cR,s,if_pos h0];exact ad
   .rw[aA,cR];exact y.ja b.es P
   .rw[aA,cR];exact z.trans P
  .have h0:¬S.pending=0:=by
    have:¬(S.pending:Int)=0:=by simpa using A
    omega
   rw[s,if_neg h0];exact g
 rintro k ⟨F,ag,ah⟩;obtain⟨B,E⟩:=eF F (i:=16) (by simp[jc]);have Q:=eE F (i:=16) (.int .i64 ((S.pending+1:Nat):Int));have G:=ed k S.st 16 (.int .i64 ((S.pending+1:Nat):Int));have ai:IntKind.wrap .i64 ((S.pending:Int)+1)=((S.pending+1:Nat):Int):=by rw[bq I I];omega
 refine⟨_,rfl,_,by rw[aA];exact F.cell,_,rfl,by rw[aA];exact B,by rw[aA];exact E,aX ?_⟩;rw[aA,cR,ai];have R:=ag.ja b.es G;generalize aB:k.setCell ⟨S.st,16,none⟩ (.int .i64 ((S.pending+1:Nat):Int))=o at Q G R⊢;have H:Ext o o.drew:=cG _;have J:=Q.ext H;have al:=R.ext H;have am:af (λq=>q=S.st) w o.drew:=c5 (ah.trans G) H λq _ K=>K.elim;obtain⟨en,a⟩:∃en:cf,en={S with first:=m,pending:=S.pending+1,keys:=L.length}:=⟨_,rfl⟩;have an:m<=S.now:=by rw[s];split<;>omega
 have U:dW o.drew en pages L aP bQ:=by
  rw[a];exact⟨⟨J,al,b.es,b.jY,b.gen,⟨N.1,an,N.2.2⟩,b.b9⟩,ok,cd,f,two,kv,rfl,by show S.pending+1<=1000;omega,λ_=>X,λhf=>by have hf:S.failed=true:=hf;rw[t]at hf;cases hf⟩
 have V:ek 0 S en w o.drew:=by
  rw[a];exact⟨rfl,rfl,rfl,rfl,bk _,λh=>h,am.mono λq _ e=>by rw[e];exact b.DF,λq K=>.inl K,rfl,rfl,rfl⟩
 refine aX ⟨_,rfl,id,_,by rw[aA];exact J.cell,_,rfl,id,_,by rw[aA,aA];exact J.cell,λr=>?_,λr=>?_⟩
 .have r:((S.pending+1:Nat):Int)>=(S.l.batch:Int):=cj r
  have W:=JS U (by rw[a];exact t) cW (by rw[a];exact Z) (by rw[a];exact aa) (by rw[a];exact ab);rw[show en.st=S.st by rw[a]]at W;refine W.use ?_;intro v aC ao;obtain⟨aE,r1,aG,cr⟩:=ao.x (c:=S.l.batch<=S.pending+1) I;obtain⟨n,rfl⟩:=cr.val;refine⟨n,rfl,aE,(V.trans r1).mono I,by rw[aG,a],.inr ?_⟩;rw[a]at cr;exact cr
 .have r:¬((S.pending+1:Nat):Int)>=(S.l.batch:Int):=cE r
  exact⟨en,V.mono I,by rw[a],.inl ⟨rfl,I,U,by rw[a];exact t,by rw[a],by rw[a],by rw[a],by rw[a];exact s,λj _=>by rw[a];rfl⟩⟩
end
section
variable {w w' w1:J}{T au:aK}{S aE kp:cf}{pages aP:O Nat}{L bQ:O aM}{k:Nat}
def cf.cY(S:cf)(au:aK):cf:={S with T:=au}
theorem jX.to(h:jX w S aP bQ)(ht:b_ w' au)(a:bS S.T au w w' k)(f:au.E=S.T.E)(l:au.G=S.T.G)(o:∀no,S.T.g no=true->au.P no=S.T.P no):
 jX w' (S.cY au) aP bQ/\ek k S (S.cY au) w w'/\(S.cY au).V=S.V:=by
 have r:au.C.D.b7=S.T.C.D.b7:=congrArg (λp=>p.1.1) a.b7;have s:au.C.D.cl.getD 3 0=S.T.C.D.cl.getD 3 0:=congrArg Prod.snd a.b7;have i:(S.cY au).V=S.V:=by
  funext j;show au.C.D.b7.getD j []=S.T.C.D.b7.getD j [];rw[r]
 refine⟨⟨?_,ht,by show au.E S.st;rw[f];exact h.es,?_,a.gen.trans h.gen,h.num,λj b=>?_⟩,⟨rfl,a.d,a.n,rfl,a.a7,λe=>⟨λm=>a.calm m (e.1 _),s.trans e.2⟩,a.ah.mono λq _ e=>h.nT e,a.c6,f,l,congrArg (λp=>p.1.2.2.2.2) a.b7⟩,i⟩
 .show Var w' S.st (jc au.bh au.C.D.d au.C.c au.sb _ _ _ _ _ _ _ _) _
  rw[a.bh,a.d,a.c,a.sb];exact h.v.ah a.ah (h.t.kO h.es)
 .show lB _ au.n _ _ au.g au.P _ _
  rw[i,a.n,a.g];exact h.jY.agree (λ_ _=>rfl) λx hx=>(o x ((h.jY.g x).2 (.inl hx))).symm
 .have b:au.g j=true:=b
  rw[a.g]at b;show au.C.D.b9 j=true;rw[a.b9.1];exact h.b9 j b
theorem bS.ro(h:bS T au w w' k):au.C.D.ro↔T.C.D.ro:=by unfold bc.ro;rw[h.b9.1]
theorem dW.to(h:dW w S pages L aP bQ)(ht:b_ w' au)(a:bS S.T au w w' k)(c:au.E=S.T.E)(d:au.G=S.T.G)(b:i_ S.T au):
 dW w' (S.cY au) pages L aP bQ/\ek k S (S.cY au) w w'/\(S.cY au).V=S.V:=by
 obtain⟨h1,h2,i⟩:=h.tojX.to ht a c d λno j=>(b.eD no (by rw[j,Bool.or_true])).1;have l:cm au=cm S.T:=by unfold cm;rw[a.n,b.f,a.g]
 refine⟨⟨h1,b.ok h.ok λx hx=>(h.f x).2 (.inl hx),h.cd,λno=>by show au.f no=true↔_;rw[b.f];exact h.f no,h.two,h.kv,h.keys,h.pC,λhf=>?_,λhf=>?_⟩,h2,i⟩
 .obtain⟨a1,a2,a3⟩:=h.live hf
  exact⟨λe=>a1 (a.ro.1 e),a.b9.2.trans a2,by show 1<=cm au;rw[l];exact a3⟩
 .obtain⟨a1,a2⟩:=h.dead hf
  exact⟨a.ro.2 a1,a2⟩
theorem JW{tk:ad}{key:Key}(h:dW w S pages L aP bQ)(b:S.T.C.D.a7<=800000000)(c:Src 1 w tk (az key))(d:∀q,aB tk q->q<w.heap.size/\¬S.T.M q):
 aI aj 50 #[.pointer (some S.st),tk] w (λv w'=>∃aJ,dW w' (S.cY (S.T.bA aJ S.T.P)) pages L aP bQ/\ek 30 S (S.cY (S.T.bA aJ S.T.P)) w w'/\zk S.T L key w v w'):=by
 refine okF (ae.uG (some S.st) tk) ax.uG func50 ?_;delta ae.uG ak nj;refine⟨λe=>(by cases e),λ_=>⟨_,rfl,_,h.v.cell,(zl h.t h.ok b c d).use ?_⟩⟩;intro v w' a;have f:=a;obtain⟨aJ,h1,h2,g,i⟩:=a;obtain⟨a1,a2,_⟩:=h.to h1 h2 rfl rfl (.bA g);have fin:(λv w'=>∃aJ,dW w' (S.cY (S.T.bA aJ S.T.P)) pages L aP bQ/\ek 30 S (S.cY (S.T.bA aJ S.T.P)) w w'/\zk S.T L key w v w') v w':=⟨aJ,a1,a2,f⟩;rcases i with ⟨rfl,_⟩|⟨t,x,rfl,_⟩|⟨rfl,_⟩
 .exact⟨⟨none,0,0⟩,_,_,rfl,fin⟩
 .exact⟨t,_,_,rfl,fin⟩
 .exact⟨⟨none,0,0⟩,_,_,rfl,fin⟩
end
theorem zz(k v:Key):∀L:O aM,(gA L k v).length=(eR L k).length+1
 | []=>rfl
 |p::L=>by
  have b:=zz k v L
  unfold gA eR at b⊢
  simp only[cv,gh,jg]at b⊢
  by_cases h1:bo p.1 k
  .have h2:¬bo k p.1:=jQ h1
   have a:p.1≠k:=λe=>by rw[e]at h1;exact jQ h1 h1
   rw[if_pos (dR h1),if_neg (by simpa using h2),if_pos (dR a)]
   simp only[gh];omega
  .by_cases h2:bo k p.1
   .have a:p.1≠k:=λe=>h1 (by rw[e]at h2;exact absurd h2 (λh=>jQ h h))
    rw[if_neg (by simpa using h1),if_pos (dR h2),if_pos (dR a)]
    simp only[gh];omega
   .have a:p.1=k:=by
     rcases vK p.1 k with h|h|h
     .exact absurd h h1
     .exact h
     .exact absurd h h2
    rw[if_neg (by simpa using h1),if_neg (by simpa using h2),if_neg (by simpa using a)];omega
theorem wR{k:Key}:∀ {L:O aM},g2 L->L.length=(eR L k).length+(if e3 L k=none then 0 else 1)
 | [],_=>rfl
 |p::L,h=>by
  have h0:=jD.1 h
  have d:=wR (k:=k) h0.2
  by_cases e:p.1=k
  .have h1:∀q∈L,q.1≠k:=λq b c=>by
    have:=h0.1 q b
    rw[e,c]at this
    exact jQ this this
   have h2:eR (p::L) k=L:=by
    have:eR (p::L) k=eR L k:=by unfold eR;rw[jg];simp[e]
    rw[this,sA h1]
   have a:e3 (p::L) k≠none:=by unfold e3;simp[e]
   rw[h2,if_neg a];rfl
  .have h2:(eR (p::L) k).length=(eR L k).length+1:=by unfold eR;rw[jg];simp[e]
   have a:e3 (p::L) k=e3 L k:=by unfold e3;simp[e]
   rw[h2,a,gh];omega
section
variable {w w' w1:J}{T au:aK}{S aE dO:cf}{pages aP:O Nat}{L bQ:O aM}{k:Nat}
structure l7(S dO:cf):Prop where
 u:dO.u=S.u
 gen:dO.gen=S.gen
 now:dO.now=S.now
 first:dO.first=S.first
 pending:dO.pending=S.pending
 l:dO.l=S.l
 g:dO.T.g=S.T.g
 V:dO.V=S.V
theorem kW.back{c:Prop}{v:aa}(h:kW c dO aE pages L aP bQ v w')(e:l7 S dO)(d:ek k S dO w w1):kW c S aE pages L aP bQ v w':=by
 unfold kW at h⊢;rw[e.u,e.gen,e.now,e.g,e.V]at h;exact h.imp id λ⟨a,b,c⟩=>⟨a,λf=>b (d.q f),c⟩
theorem mS.back{v:aa}(h:mS dO aE pages L aP bQ v w')(e:l7 S dO)(a:ek k S dO w w1):mS S aE pages L aP bQ v w':=by
 unfold mS at h⊢;have:=λh=>kW.back (pages:=pages) (L:=L) (aP:=aP) (bQ:=bQ) (c:=S.l.batch<=S.pending+1) (v:=v) (aE:=aE) (w':=w') h e a;rw[e.pending,e.l,e.gen,e.u,e.now,e.first,e.g,e.V]at h;exact h.imp id this
theorem dW.DK{b3:aK}{dP:O aM}{d:Int}(h:dW w S pages L aP bQ)(hf:S.failed=false)(m:b_ w' b3)(b:bS S.T b3 w w' k)(o:b3.E=S.T.E)(r:b3.G=S.T.G)(s:Dj S.T b3 pages dP)(X:2*S.T.aL+5<=cm S.T)(t:∀p∈dP,cw p.1/\p.2.length<=24)(hd:(S.keys:Int)+d=dP.length)(cW:dP.length<4096)(Y:S.keys<4096)(y:S.pending<1000)(Z:S.T.C.D.a7+k<=800000000)(z:S.gen<=1000000000)(A:S.T.C.D.quiet):
 aI aj 68 #[.pointer (some S.st),d] w' (λv i=>(∃n:Int,v=n)/\∃aE dQ,ek (k+100) S aE w i/\aE.now=S.now/\mS S aE dQ dP aP bQ v i):=by
 obtain⟨⟨dQ,aa,B,eo,F,H⟩,I⟩:=s;obtain⟨J,l,K⟩:=h.tojX.to m b o r λno M=>(I no M).1;have N:l7 S (S.cY b3):=⟨rfl,rfl,rfl,rfl,rfl,rfl,b.g,K⟩;obtain⟨P,Q,_⟩:=h.live hf;have R:∀j,j<2\/j=S.u.map->j∉pages:=λj c U=>by
  have:=h.two j U;rcases c with c|c
  .omega
  .exact this.2 c
 refine(JV (d:=d) J hf B eo (λno=>(H no).trans ?_) (λx hx=>?_) t ⟨λe=>P (b.ro.1 e),b.b9.2.trans Q,by show 1<=cm b3;omega⟩ hd y cW (by show S.keys<_;omega) (by have:=b.a7;show b3.C.D.a7<=_;omega) z (l.q A)).mono ?_
 .rw[h.f no]
  constructor
  .rintro(h1|⟨h1|h1,h2⟩)
   .exact .inl h1
   .exact absurd h1 h2
   .exact .inr h1
  .rintro(h1|h1)
   .exact .inl h1
   .exact .inr ⟨.inr h1,R no h1⟩
 .rcases F x hx with h1|h1
  .exact h.two x h1
  .have h2:S.T.f x=false:=by cases ab:S.T.f x<;>simp_all
   refine⟨Nat.le_of_not_lt λV=>?_,λW=>?_⟩
   .rw[(h.f x).2 (.inr (.inl V))]at h2;cases h2
   .rw[(h.f x).2 (.inr (.inr W))]at h2;cases h2
 .rintro v i ⟨aE,r1,aG,cr⟩
  refine⟨?_,aE,dQ,l.trans r1,aG,cr.back N l⟩;rcases cr with ⟨a,_⟩|a
  .exact⟨0,a⟩
  .exact a.val
theorem ql(w:J)(s:ad):aI aj 63 #[s] w (λv w'=>v=.bool (decide (1<=s.len/\s.len<=24))/\w=w'):=by
 refine okF (ae.ql s) ax.ql func63 ?_;refine⟨?_,rfl⟩
 congr 1
 rw[e0,c8,cg,cg,cg];omega
theorem JX{tk cV:ad}{key val:Key}(h:dW w S pages L aP bQ)(cW:L.length<4000)(y:S.pending<1000)(aN:S.T.C.D.a7<=700000000)(W:S.gen<=1000000000)(z:S.T.C.D.quiet)
 (A:Src 1 w tk (az key)) (o:∀q,aB tk q->q<w.heap.size/\¬S.T.M q) (G:Src 1 w cV (az val)) (H:∀q,aB cV q->q<w.heap.size/\¬S.T.M q):
 aI aj 27 #[.pointer (some S.st),tk,cV] w (λv w'=>(v=.int .i64 1/\¬(cw key/\val.length<=24)/\w=w')\/((cw key/\val.length<=24)/\
  ((S.failed=true/\v=.int .i64 8/\w=w')\/(S.failed=false/\∃aE,ek 300 S aE w w'/\aE.now=S.now/\
    ((v=.int .i64 2/\ih S=0/\dW w' S pages L aP bQ/\aE=S)\/(ih S≠0/\∃dQ,mS S aE dQ (gA L key val) aP bQ v w')))))):=by
 have X:tk.len=key.length:=by have:=A.len;rw[c9]at this;omega
 have aO:cV.len=val.length:=by have:=G.len;rw[c9]at this;omega
 have aQ:=h.t.s.bB;refine okF (ae.uD (some S.st) tk cV) ax.uD func27 ?_;(delta ae.uD ak b8 aV bP nj;dsimp only);refine cx (λb w'=>(b=false↔cw key)/\w=w') (λq a=>⟨λr=>(by cases r),λ_=>(ql w tk).use ?_⟩) ?_
 .rintro _ _ ⟨rfl,rfl⟩
  refine⟨_,rfl,a _ _ ⟨?_,rfl⟩⟩;unfold cw;rw[X,mg,cg]
 rintro b _ ⟨r,rfl⟩;refine⟨λh1=>.inl ⟨rfl,λhg=>?_,rfl⟩,λh1=>?_⟩
 .rcases Bool.or_eq_true_iff.1 h1 with h2|h2
  .rw[r.2 hg.1]at h2;cases h2
  .have:=cj h2;have:=hg.2;omega
 have hg:cw key/\val.length<=24:=by
  have h2:=pH.1 h1;have J:=cE h2.2;exact⟨r.1 h2.1,I⟩
 refine⟨_,rfl,S.failed,by rw[aA];exact h.v.cell,λhf=>.inr ⟨hg,.inl ⟨hf,rfl,rfl⟩⟩,λhf=>(DJ h).use ?_⟩;rintro _ aR ⟨rfl,i⟩;have l:=h.ext i;obtain⟨Y,Z,_⟩:=h.live hf;refine⟨_,rfl,λB=>.inr ⟨hg,.inr ⟨hf,S,(ek.ext S i).mono I,rfl,.inl ⟨rfl,?_,l,rfl⟩⟩⟩,λB=>?_⟩
 .have:((ih S:Nat):Int)=0:=by simpa using B
  omega
 have K:ih S≠0:=by
  have:¬((ih S:Nat):Int)=0:=by simpa using B
  omega
 refine⟨_,rfl,_,l.v.cell,(zl l.t l.ok I (A.ext i) λq a=>⟨by have:=(o q a).1;have:=i.size;omega,(o q a).2⟩).use ?_⟩;rintro v N ⟨c,O,j,aa,u⟩;obtain⟨m,E,ab⟩:=l.to O j rfl rfl (.bA aa);have Q:ek 30 S (S.cY (S.T.bA c S.T.P)) w N:=((ek.ext S i).trans E).mono I;have ac:l7 S (S.cY (S.T.bA c S.T.P)):=⟨rfl,rfl,rfl,rfl,rfl,rfl,rfl,ab⟩;have aS:(S.cY (S.T.bA c S.T.P)).T.C.D.eL=λ_=> []:=j.b9.2.trans Z;have aT:c.D.a7<=S.T.C.D.a7+30:=j.a7;have af:∃ (t:ad) (e:al),v=.tuple #[t,e,(0:Int)]/\(e=true↔e3 L key≠none):=by
  rcases u with ⟨rfl,g⟩|⟨t,x,rfl,_,hs,_⟩|⟨_,_,F⟩
  .exact⟨⟨none,0,0⟩,false,rfl,λh=>(by cases h),λh=>absurd (g hg.1) h⟩
  .exact⟨t,true,rfl,λ_=>by rw[hs];simp,λ_=>rfl⟩
  .exact absurd (z.1 30) F
 clear u;obtain⟨t,e,rfl,he⟩:=af;have aU:=i.size;have aW:=j.ah.size;have R:∀s:ad,(∀q,aB s q->q<w.heap.size/\¬S.T.M q)->∀q,aB s q->q<N.heap.size/\¬(S.T.bA c S.T.P).M q:=λs hs q a=>⟨by have:=(hs q a).1;omega,λag=>by
  rcases j.c6 q ag with h2|h2
  .exact(hs q a).2 h2
  .have:=(hs q a).1;omega⟩
 have ai:=(A.ext i).ah j.ah λq a g=>(o q a).2 (aK.gN g);have am:=(G.ext i).ah j.ah λq a g=>(H q a).2 (aK.gN g);have an:¬(S.T.bA c S.T.P).C.D.ro:=λe=>Y (j.ro.1 e);refine⟨t,e,0,rfl,λh=>(by cases h),λ_=>⟨_,rfl,_,m.v.cell,?_⟩⟩;refine(IZ O an m.ok I m.cd (λx hx=>(m.f x).2 (.inl hx)) (by show c.D.a7<=_;omega) ai (R tk o) am (R cV H)).use ?_;rintro v aX (⟨_,ao,_⟩|⟨_,_,b3,ap,aq,ar,au,u⟩)
 .exact absurd hg ao
 have av:cm (S.T.bA c S.T.P)=cm S.T:=rfl;have aw:(S.T.bA c S.T.P).aL=S.T.aL:=rfl;have ay:2*S.T.aL+5<=cm S.T:=by unfold ih at K;omega
 rcases u with ⟨_,aC,_⟩|⟨rfl,_,⟨dQ,aD,aF,eo,aH,aJ⟩,U⟩|⟨rfl,F,aY,aZ,a0,U⟩
 .rw[av,aw]at aC;omega
 .have hlen:(S.keys:Int)+(if e=true then 0 else 1)=(gA L key val).length:=by
   have h1:=zz key val L;have h2:=wR (k:=key) h.ok.rising;have J:=h.keys;by_cases g:e3 L key=none
   .have:¬e=true:=λh=>he.1 h g
    rw[if_pos g]at h2;rw[if_neg this];omega
   .rw[if_neg g]at h2
    rw[if_pos (he.2 g)];omega
  have J:=h.keys;have aM:(gA L key val).length<4096:=by split at hlen<;>omega
  have V:=λd hd=>m.DK (d:=d) hf ap aq ar au ⟨⟨dQ,aD,aF,eo,aH,aJ⟩,U⟩ ay (λp y=>by
   rcases Gw.1 y with rfl|⟨h1,_⟩
   .exact hg
   .exact h.kv p h1) hd aM (by show S.keys<_;omega) y (by show c.D.a7+100<=_;omega) W (E.q z)
  refine⟨0,rfl,λh=>(by cases h),λ_=>⟨λht=>(V 0 (by rw[←hlen,if_pos ht];rfl)).use ?_,λht=>(V 1 (by rw[←hlen,if_neg (by rw[ht];decide)];rfl)).use ?_⟩⟩
  all_goals
   rintro v w' ⟨⟨n,rfl⟩,aE,dQ,r1,aG,cr⟩;exact⟨n,rfl,.inr ⟨hg,.inr ⟨hf,aE,(Q.trans r1).mono I,aG,.inr ⟨K,dQ,cr.back ac Q⟩⟩⟩⟩
 .exact absurd ((E.q z).1 100) F
end
section
variable {w w' w1:J}{T au:aK}{S aE dO:cf}{pages aP:O Nat}{L bQ:O aM}{k:Nat}
theorem JY{tk:ad}{key:Key}(h:dW w S pages L aP bQ)(cW:L.length<4000)(z:S.pending<1000)(aC:S.T.C.D.a7<=700000000)(U:S.gen<=1000000000)(A:S.T.C.D.quiet)
 (B:Src 1 w tk (az key)) (m:∀q,aB tk q->q<w.heap.size/\¬S.T.M q):
 aI aj 23 #[.pointer (some S.st),tk] w (λv w'=>(v=.tuple #[false,(1:Int)]/\¬cw key/\w=w')\/(cw key/\
  ((S.failed=true/\v=.tuple #[false,(8:Int)]/\w=w')\/(S.failed=false/\∃aE,ek 300 S aE w w'/\aE.now=S.now/\
    ((v=.tuple #[false,(0:Int)]/\e3 L key=none/\dW w' aE pages L aP bQ/\l7 S aE/\aE.failed=false)\/
     (v=.tuple #[false,(2:Int)]/\e3 L key≠none/\ih S=0/\dW w' aE pages L aP bQ/\l7 S aE/\aE.failed=false)\/
     (∃n:Int,v=.tuple #[.bool (n==0),n]/\e3 L key≠none/\ih S≠0/\∃dQ,mS S aE dQ (eR L key) aP bQ n w')\/
     (v=.tuple #[false,(3:Int)]/\∀c pages L,kW c S aE pages L aP bQ (3:Int) w')))))):=by
 have V:tk.len=key.length:=by have:=B.len;rw[c9]at this;omega
 have aD:=h.t.s.bB;refine okF (ae.uC (some S.st) tk) ax.uC func23 ?_;(delta ae.uC ak b8 aV nj bP nk;dsimp only);refine cx (λb w'=>(b=false↔cw key)/\w=w') (λq i=>⟨λo=>(by cases o),λ_=>(ql w tk).use ?_⟩) ?_
 .rintro _ _ ⟨rfl,rfl⟩
  refine⟨_,rfl,i _ _ ⟨?_,rfl⟩⟩;unfold cw;rw[V,mg,cg]
 rintro b _ ⟨o,rfl⟩;refine⟨λh1=>.inl ⟨rfl,λhg=>?_,rfl⟩,λh1=>?_⟩
 .rw[o.2 hg]at h1;cases h1
 have hg:cw key:=o.1 h1;refine⟨_,rfl,S.failed,by rw[aA];exact h.v.cell,λhf=>.inr ⟨hg,.inl ⟨hf,rfl,rfl⟩⟩,λhf=>?_⟩;obtain⟨W,X,_⟩:=h.live hf;refine⟨_,rfl,_,h.v.cell,(zl h.t h.ok I B m).use ?_⟩;rintro v aF ⟨a,Y,j,Z,r⟩;obtain⟨E,u,aa⟩:=h.to Y j rfl rfl (.bA Z);have F:l7 S (S.cY (S.T.bA a S.T.P)):=⟨rfl,rfl,rfl,rfl,rfl,rfl,rfl,aa⟩;have aH:(S.cY (S.T.bA a S.T.P)).T.C.D.eL=λ_=> []:=j.b9.2.trans X;have aJ:a.D.a7<=S.T.C.D.a7+30:=j.a7;have ab:∃ (t:ad) (e:al),v=.tuple #[t,e,(0:Int)]/\(e=true↔e3 L key≠none):=by
  rcases r with ⟨rfl,g⟩|⟨t,x,rfl,_,hs,_⟩|⟨_,_,G⟩
  .exact⟨⟨none,0,0⟩,false,rfl,λh=>(by cases h),λh=>absurd (g hg) h⟩
  .exact⟨t,true,rfl,λ_=>by rw[hs];simp,λ_=>rfl⟩
  .exact absurd (A.1 30) G
 clear r;obtain⟨t,e,rfl,he⟩:=ab;refine⟨t,e,0,rfl,λh=>(by cases h),λ_=>⟨λH=>?_,λH=>(DJ E).use ?_⟩⟩
 .have g:e3 L key=none:=by
   cases ac:e3 L key with
   |none=>rfl
   |some x=>
    have:e=true:=he.2 (by rw[ac];simp);rw[this]at H;cases H
  exact .inr ⟨hg,.inr ⟨hf,_,u.mono I,rfl,.inl ⟨rfl,g,E,F,hf⟩⟩⟩
 have g:e3 L key≠none:=he.1 (by cases e<;>simp_all);rintro _ Q ⟨rfl,y⟩;have l:=E.ext y;have J:ek 30 S (S.cY (S.T.bA a S.T.P)) w Q:=(u.trans (ek.ext _ y)).mono I;have af:ih (S.cY (S.T.bA a S.T.P))=ih S:=rfl;rw[af];refine⟨_,rfl,λK=>.inr ⟨hg,.inr ⟨hf,_,J.mono I,rfl,.inr (.inl ⟨rfl,g,?_,l,F,hf⟩)⟩⟩,λK=>?_⟩
 .have:((ih S:Nat):Int)=0:=by simpa using K
  omega
 have R:ih S≠0:=by
  have:¬((ih S:Nat):Int)=0:=by simpa using K
  omega
 have aM:=j.ah.size;have aN:=y.size;have ag:∀q,aB tk q->q<Q.heap.size/\¬(S.T.bA a S.T.P).M q:=λq i=>⟨by have:=(m q i).1;omega,λai=>by
  rcases j.c6 q ai with h2|h2
  .exact(m q i).2 h2
  .have:=(m q i).1;omega⟩
 have am:=(B.ah j.ah λq i g=>(m q i).2 (aK.gN g)).ext y;have an:¬(S.T.bA a S.T.P).C.D.ro:=λe=>W (j.ro.1 e);refine⟨_,rfl,_,l.v.cell,?_⟩;refine(I2 l.t an l.ok I l.cd (λx hx=>(l.f x).2 (.inl hx)) (by show a.D.a7<=_;omega) am ag).use ?_;rintro v aO ⟨b3,ao,ap,aq,ar,r⟩;have au:cm (S.T.bA a S.T.P)=cm S.T:=rfl;have av:(S.T.bA a S.T.P).aL=S.T.aL:=rfl;have aw:2*S.T.aL+5<=cm S.T:=by unfold ih at R;omega
 rcases r with ⟨_,N,_⟩|⟨_,_,N,_⟩|⟨_,_,_,O,_⟩|⟨rfl,_,_,_,ay⟩|⟨rfl,_,G,aQ⟩
 .exact absurd hg N
 .exact absurd N g
 .have O:cm (S.T.bA a S.T.P)<2*(S.T.bA a S.T.P).aL+3:=O
  rw[au,av]at O;omega
 .have h2:=wR (k:=key) h.ok.rising
  rw[if_neg g]at h2;have aR:=h.keys;refine⟨true,0,rfl,λh=>(by cases h),λ_=>(l.DK (d:= -1) hf ao ap aq ar ay aw (λp z=>h.kv p (gr.1 z).1) (by show(S.keys:Int)+ -1=_;omega) I (by show S.keys<_;omega) z (by show a.D.a7+100<=_;omega) U (u.q A)).use ?_⟩;rintro v w' ⟨⟨n,rfl⟩,aE,dQ,r1,aG,cr⟩;exact⟨n,rfl,.inr ⟨hg,.inr ⟨hf,aE,(J.trans r1).mono I,aG,.inr (.inr (.inl ⟨n,rfl,g,R,dQ,cr.back F J⟩))⟩⟩⟩
 .exact absurd ((u.q A).1 100) G
theorem JZ{fI fz:ad}{fr to:Key}{most:Int}(h:dW w S pages L aP bQ)(cW:L.length<=4000)(n:S.T.C.D.a7<=800000000)(o:pages.length<=4000)
 (hf:Src 1 w fI (az fr)) (b:∀q,aB fI q->q<w.heap.size/\¬S.T.M q) (ht:Src 1 w fz (az to)) (c:∀q,aB fz q->q<w.heap.size/\¬S.T.M q) (d:to.length<=1000000):
 aI aj 102 #[.pointer (some S.st),fI,fz,most] w (λv w'=>∃au,dW w' (S.cY au) pages L aP bQ/\ek (2*pages.length) S (S.cY au) w w'/\l7 S (S.cY au)/\bS S.T au w w' (2*pages.length)/\
  ((∃s:ad,v=.tuple #[s,(0:Int)]/\fq (λq=>¬au.M q) w' s ((gV L fr to).take most.toNat))\/(v=.tuple #[(),(3:Int)]/\¬S.T.C.D.calm (2*pages.length)))):=by
 refine okF (ae.uU (some S.st) fI fz most) ax.uU func102 ?_;delta ae.uU ak ew;refine⟨λe=>(by cases e),λ_=>⟨_,rfl,_,h.v.cell,(Jg h.t h.ok I I hf b ht c d).use ?_⟩⟩;rintro v w' ⟨au,i,a,j,k⟩;obtain⟨a1,a2,a3⟩:=h.to i a.to a.E j ⟨a.root,a.aL,a.f,λno _=>⟨congrFun a.P no,a.view no⟩⟩;have hs:l7 S (S.cY au):=⟨rfl,rfl,rfl,rfl,rfl,rfl,a.to.g,a3⟩;rcases k with ⟨s,rfl,l⟩|⟨rfl,m⟩
 .exact⟨s,0,rfl,au,a1,a2,hs,a.to,.inl ⟨s,rfl,l⟩⟩
 .exact⟨⟨none,0,0⟩,3,rfl,au,a1,a2,hs,a.to,.inr ⟨rfl,m⟩⟩
end
variable {w w':J}{D:bc}
theorem J0(a b:Int)(w:J)(T:TypeId)(k:IntKind):Sem.run aj (Builtin.min_ #[T,T] T #[.int k a,.int k b]) w=.ok (.int k (min a b)) w:=by
 simp only[Builtin.min_];unfold Builtin.min2;simp;split<;>omega
section
variable {w w':J}{D:bc}{V:Nat->dh}{gen:Nat}{u:eT}{g:Nat->al}{P:Nat->av aD}{aP:O Nat}{bQ:O aM}
theorem J1{c aY k:Nat}{a:Nat->Prop}(h:ef (λ_=>False) w (l2 c aY k D))(d:∀q,a q->q<w.heap.size/\¬da (l2 c aY k D) q):ef a w (l2 c aY k D):=
 ⟨h.raw,h.inv.pins,λf hf b=>(by
  have:=(List.mem_replicate.1 (show f∈List.replicate k dx from hf)).2
  rw[this]at b
  cases b),h.inv.un,d,h.inv.pr⟩
end
structure DL(D:bc)(l:eB)(bp:Nat->Prop)(k:Nat)(w w':J)(S:cf):Prop where
 live:S.failed=false
 pC:S.pending=0
 now:S.now=S.u.clock
 l:S.l=l
 d:S.T.C.D.d=D.d
 n:S.T.n=D.n
 q:S.T.C.D.quiet
 a7:S.T.C.D.a7<=D.a7+k
 M:∀q,S.T.M q->cq D q\/bp q\/w.heap.size<=q
 E:∀q,S.T.E q↔q=S.st\/bp q
 st:w.heap.size<=S.st
 r:S.T.C.D.r1=D.r1
 ah:af (cq D) w w'
section
variable {w w':J}{D:bc}{bp:Nat->Prop}
theorem J2{l:eB}(h:di w D)(y:pA (l.an:Nat) (l.batch:Nat) (l.iS:Nat))(N:∀k,D.calm k)(qV:D.cl.getD 3 0= -1)(O:D.a7<=999999000)(z:∀q,bp q->q<w.heap.size/\¬cq D q):
 aI aj 21 #[.pointer (some D.d),.agg l.c.toArray] w (λv w'=>∃S:cf,v=.tuple #[.pointer (some S.st),(0:Int)]/\dW w' S [] [] [] []/\DL D l bp 4 w w' S/\S.u=jz/\S.gen=1):=by
 have aa:=h.cc;have P:=h.bB;refine(oG h y N qV O).mono ?_;rintro v w' ⟨aC,sb,s1,s2,c,aY,bh,st,kq,R⟩;obtain rfl:=R.DC.val;have hd:=R.qI;have B:=R.DC;have ab:=R.ah.size;have ac:=B.x.size;have ad:=B.hc;have ae:=B.hf;have af:=B.ht;have ag:=B.sv.lt;have E:∀j,aC.b7.getD j []=aC.now j:=λj=>by unfold bc.now;rw[hd.waits];rfl
 have m:∀q,da (l2 c aY l.an aC) q->q=c\/q=aY\/cq aC q:=λq h=>h;have G:∀q,cq aC q->q<kq.heap.size:=λq b=>by
  rcases R.dq q b with h1|h1
  .have:=h.lt h1;omega
  .omega
 have Q:aC.quiet:=⟨hd.calm,hd.cl⟩;obtain⟨T,a⟩:∃T:aK,T=⟨bh,1+1,0,0,l2 c aY l.an aC,sb,D.n,λi=>decide (i<3),λi=>decide (i<3),s1,s2,λq=>q=st\/bp q,λ_=>False,λ_=>none⟩:=⟨_,rfl⟩;have U:∀q,bp q->q<w.heap.size/\¬cq aC q:=λq b=>⟨(z q b).1,λhf=>by
  rcases R.dq q hf with h1|h1
  .exact(z q b).2 h1
  .have:=(z q b).1;omega⟩
 have V:b_ w' T:=by
  have H:ef T.X w' (l2 c aY l.an aC):=J1 B.ca λq b=>by
   rw[a]at b;rcases b with h1|h1|h1|h1
   .have h1:q=bh:=h1
    refine⟨I,λhf=>?_⟩;rcases m q hf with h2|h2|h2
    .omega
    .omega
    .have:=G q h2;omega
   .have A:=R.sZ q h1
    refine⟨I,λhf=>?_⟩;rcases m q hf with h2|h2|h2
    .omega
    .omega
    .have ai:=B.ca.raw.dev
     exact R.Jz q h1 h2
   .rcases(show q=st\/bp q from h1) with h1|h1
    .refine⟨I,λhf=>?_⟩
     rcases m q hf with h2|h2|h2
     .omega
     .omega
     .have:=G q h2;omega
    .have A:=U q h1
     refine⟨I,λhf=>?_⟩;rcases m q hf with h2|h2|h2
     .omega
     .omega
     .exact A.2 h2
   .exact h1.elim
  rw[a]at H⊢;refine⟨B.cV,R.sp,H,λhf=>by have:=R.sZ bh hf;omega,λq b=>?_,λq b=>b.elim,hd.n,⟨by show 0<D.n;omega,(by decide:0<=12),(by decide:1+1<18446744073709551616)⟩,λno cd F=>(by cases F),λj f=>.inl ?_,⟨rfl,rfl⟩⟩
  .rcases(show q=st\/bp q from b) with h1|h1
   .exact⟨by show q≠bh;omega,λhf=>by have:=R.sZ q hf;omega,λh=>h⟩
   .have A:=z q h1
    exact⟨by show q≠bh;omega,λhf=>by have:=R.sZ q hf;omega,λh=>h⟩
  .have f:aC.b9 j=true:=f
   rw[hd.b9]at f;exact f
 have J:nK jz D.n:=⟨Iff.intro (λ_=>rfl) (λ_=>rfl),by decide,by show 0<D.n;omega,by show 2<D.n;omega,by decide,P⟩;have K:nJ jz:=⟨by decide,by decide,by decide,by decide,by decide,by decide⟩;have L:lB (λj=>aC.b7.getD j []) D.n 1 jz (λi=>decide (i<3)) (λ_=>none) [] []:=by
  refine⟨⟨3,I,rfl⟩,?_,.inl ?_,⟨1,bk _,?_⟩,λno=>?_,List.nodup_nil,λx hx=>(by cases hx),.inl ⟨rfl,rfl,rfl,rfl⟩,λx hx=>(by cases hx),rfl,λq b=>(by cases b),K,J,bk _⟩
  .show sM ((1:Nat):Int) (aC.b7.getD 1 [])=_
   rw[E,hd.now];exact Cr K J (by decide) (by decide)
  .show aC.b7.getD 0 []=hU
   rw[E,hd.now];rfl
  .show fm ((2:Nat):Int) (aC.b7.getD 2 [])=_
   rw[E,hd.now];exact vW I ⟨(by decide:1<=4),(by decide:4<=4),(by decide:1<18446744073709551616),by show(iH _ _).length<=232;rw[wO];omega⟩
  .show decide (no<3)=true↔no∈ []\/no<2\/no=2
   simp only[fw,false_or,cg];omega
 obtain⟨S,o⟩:∃S:cf,S=⟨st,T,l,jz,1,0,0,0,0,false⟩:=⟨_,rfl⟩;have W:1<=cm T:=by
  have h1:=wD (s:=λi=>decide (i<3)||decide (i<3)) (t:=du (λi=>decide (i<3)||decide (i<3)) 3 true) (k:=3) (by simp) (by simp[du]) (λi hi=>by simp[du,hi]) (n:=D.n) I;have h2:=nM (du (λi=>decide (i<3)||decide (i<3)) 3 true) D.n;have A:cm T=D.n-eU (λi=>decide (i<3)||decide (i<3)) D.n:=by rw[a];rfl
  omega
 refine⟨S,by rw[o],?_,?_,by rw[o],by rw[o]⟩
 .rw[o]
  refine⟨⟨?_,V,by rw[a];exact .inl rfl,by rw[a];exact L,by rw[a],⟨(by decide:0<18446744073709551616),bk _,bk _,(by decide:1+2<18446744073709551616),?_,?_,?_⟩,λj f=>?_⟩,.inl ?_,List.nodup_nil,?_,λx hx=>(by cases hx),λp F=>(by cases F),rfl,cM _,λ_=>⟨?_,by rw[a];exact hd.eL,W⟩,λhf=>(by cases hf)⟩
  .show Var w' st (jc T.bh T.C.D.d T.C.c T.sb _ _ _ _ _ _ _ _) _
   rw[a];exact B.sv
  .have:=y.2.2.2.1;show l.batch<=1000;omega
  .have:=y.2.2.2.2.2;show l.iS<=1048576;omega
  .have:=y.2.2.1;show 1<=l.batch;omega
  .have f:T.g j=true:=f
   show T.C.D.b9 j=true;rw[a]at f⊢;show aC.b9 j=true;rw[hd.b9];exact f
  .rw[a];exact⟨rfl,rfl,rfl,rfl⟩
  .intro no
   have Y:=L.g no;rw[a];exact Y
  .intro e
   have h1:aC.b9 5=true:=by have:=e 5;rw[a]at this;exact this
   rw[hd.b9]at h1;cases h1
 .rw[o]
  refine⟨rfl,rfl,rfl,rfl,by rw[a];exact hd.d,by rw[a],by rw[a];exact Q,by rw[a];show aC.a7<=_;rw[hd.a7];omega,λq M=>?_,λq=>by rw[a],by show w.heap.size<=st;omega,by rw[a];exact hd.r,c5 R.ah B.x λq _ h=>h.elim⟩;rw[a]at M;have Z:∀q,cq aC q->cq D q\/bp q\/w.heap.size<=q:=λq b=>by
   rcases R.dq q b with h1|h1
   .exact .inl h1
   .exact .inr (.inr h1.1)
  rcases M with h1|h1|h1|h1|h1
  .rcases m q h1 with h2|h2|h2
   .exact .inr (.inr I)
   .exact .inr (.inr I)
   .exact Z q h2
  .have h1:q=bh:=h1
   exact .inr (.inr I)
  .exact .inr (.inr (R.sZ q h1).1)
  .rcases(show q=st\/bp q from h1) with h1|h1
   .exact .inr (.inr I)
   .exact .inr (.inl h1)
  .exact h1.elim
end
section
variable {V:Nat->dh}{n gen:Nat}{u:eT}{g:Nat->al}{P:Nat->av aD}{aP:O Nat}{bQ:O aM}
theorem lB.low(h:lB V n gen u g P aP bQ):aP.length<=bQ.length:=by
 rcases h.ok with ⟨_,_,h2,_⟩|h2
 .rw[h2];exact cM _
 .exact h2.pages.1
end
structure gZ(w0 w:J)(bp:Nat->Prop)(d n:Nat)(l:eB)(S:cf)(pages:O Nat)(L:O aM)(aP:O Nat)(bQ:O aM)(c:Nat):Prop where
 x:Ext w0 w
 at_:dW w S pages L aP bQ
 E:∀q,S.T.E q↔q=S.st\/bp q
 ne:¬bp S.st
 s0:∀q,S.T.M q->w0.heap.size<=q
 lim:S.l=l
 d:S.T.C.D.d=d
 n:S.T.n=n
 a7:S.T.C.D.a7<=20000*(c+1)
 eS:L.length<=c/\bQ.length<=c
 gen:S.gen<=c+1
 wS:S.pending<=c
 r:S.T.C.D.r1=true
section
variable {w0 w w':J}{bp:Nat->Prop}{d n aR k c:Nat}{l:eB}{S aE:cf}{pages aP:O Nat}{L bQ:O aM}
theorem fq.zA{s:ad}(b:fq (λq=>¬S.T.M q) w s L)(hd:ek k S aE w w'):fq (λq=>¬aE.T.M q) w' s L:=
 ((b.a_ (C:=λq=>¬S.T.M q/\¬aE.T.M q) λq f a=>⟨a,λc=>by rcases hd.c6 q c with h|h;exact a h;omega⟩).ah hd.ah λq d _ e=>d.1 e.1).a_ λ_ _ h=>h.2
theorem gZ.lC(h:gZ w0 w bp d n l S pages L aP bQ c){q:Nat}(a:bp q):S.T.E q/\q≠S.st:=⟨(h.E q).2 (.inr a),λe=>h.ne (e▸a)⟩
theorem gZ.ext(h:gZ w0 w bp d n l S pages L aP bQ c)(hx:Ext w w'):gZ w0 w' bp d n l S pages L aP bQ c:={h with x:=h.x.trans hx,at_:=h.at_.ext hx}
theorem gZ.mono{e:Nat}(h:gZ w0 w bp d n l S pages L aP bQ c)(he:c<=e):gZ w0 w bp d n l S pages L aP bQ e:={h with a7:=by have:=h.a7;omega,eS:=⟨by have:=h.eS.1;omega,by have:=h.eS.2;omega⟩,gen:=by have:=h.gen;omega,wS:=by have:=h.wS;omega}
theorem gZ.ja{kS:Nat}(h:gZ w0 w bp d n l S pages L aP bQ c)(a:bp kS)(hc:af (λq=>q=kS) w w'):gZ w0 w' bp d n l S pages L aP bQ c:=
 {h with x:=Ext.dT h.x hc λq e=>by rw[e];exact h.s0 _ (.inr (.inr (.inr (.inl (h.lC a).1)))),at_:=h.at_.ja (h.lC a).1 (h.lC a).2 hc}
theorem gZ.step{dQ fX:O Nat}{lz pD:O aM}(h:gZ w0 w bp d n l S pages L aP bQ c)(hs:dW w' aE dQ lz fX pD)(hd:ek k S aE w w')(b:k<=20000)(hf:lz.length<=c+1/\pD.length<=c+1)(hg:aE.gen<=S.gen+1)(e:aE.pending<=S.pending+1):gZ w0 w' bp d n l aE dQ lz fX pD (c+1):=
 ⟨Ext.dT h.x hd.ah λq a=>h.s0 q a.1,hs,λq=>by rw[hd.E,hd.st];exact h.E q,by rw[hd.st];exact h.ne,λq a=>by
  rcases hd.c6 q a with h1|h1
  .exact h.s0 q h1
  .have:=h.x.size;omega,hd.l.trans h.lim,hd.d.trans h.d,hd.n.trans h.n,by have:=hd.a7;have:=h.a7;omega,hf,by have:=h.gen;omega,by have:=h.wS;omega,hd.r.trans h.r⟩
end
section
variable {w0 w w' w1 ai:J}{bp:Nat->Prop}{d n aR k c:Nat}{l:eB}{S aE:cf}{pages dQ aP fX:O Nat}{L lz bQ pD:O aM}{v:aa}
theorem kW.J3{c:Prop}(h:kW c S aE pages L aP bQ v w')(a:S.T.C.D.quiet):v=.int .i64 0/\c/\dW w' aE pages L pages L/\aE.failed=false/\aE.gen=S.gen+1/\aE.u.clock=S.now/\aE.u.dw=S.u.dw+1/\aE.pending=0:=by
 rcases h with h|⟨_,h,_⟩
 .exact h
 .exact absurd a h
end
section
variable {w0 w w' w1 ai:J}{bp bO:Nat->Prop}{d n aR k c i:Nat}{l:eB}{S aE:cf}{pages dQ aP fX bl:O Nat}{L lz bQ pD bd:O aM}{v:aa}{aC:bc}{ls:ad}
theorem dW.grow(h:dW w S pages L aP bQ)(hx:Ext w w'){b:Nat->Prop}(c:∀q,b q->S.T.E q\/(w.heap.size<=q/\q<w'.heap.size))(hs:b S.st):dW w' (S.cY (S.T.cy b S.T.G)) pages L aP bQ:=by
 have ht:b_ w' (S.T.cy b S.T.G):=h.t.grow (W:=λ_=>False) hx (λ_ d=>d.elim) (λq a=>(c q a).imp id .inr) (λq a=>.inr (.inl a)) λq a hg=>by
  rcases c q a with h1|h1
  .exact(h.t.dV q h1).2.2 hg
  .have:=h.t.lt (q:=q) (.inr (.inr (.inr (.inr hg))));omega
 exact⟨⟨h.v.ext hx,ht,hs,h.jY,h.gen,h.num,h.b9⟩,h.ok,h.cd,h.f,h.two,h.kv,h.keys,h.pC,h.live,h.dead⟩
def cf.own(S:cf)(bO:Nat->Prop):cf:=S.cY (S.T.cy (λq=>q=S.st\/bO q) S.T.G)
theorem cf.J4{q:Nat}(b:∀q,S.T.E q↔q=S.st\/bp q)(h1:∀q,bO q->bp q\/k<=q)(a:(S.own bO).T.M q):S.T.M q\/k<=q:=by
 rcases a with a|a|a|a|a
 .exact .inl (.inl a)
 .exact .inl (.inr (.inl a))
 .exact .inl (.inr (.inr (.inl a)))
 .rcases(show q=S.st\/bO q from a) with h|h
  .exact .inl (.inr (.inr (.inr (.inl ((b q).2 (.inl h))))))
  .rcases h1 q h with h|h
   .exact .inl (.inr (.inr (.inr (.inl ((b q).2 (.inr h))))))
   .exact .inr h
 .exact .inl (.inr (.inr (.inr (.inr a))))
theorem gZ.grow(h:gZ w0 w bp d n l S pages L aP bQ c)(hx:Ext w w')(b:∀q,bO q->bp q\/(w.heap.size<=q/\q<w'.heap.size)):gZ w0 w' bO d n l (S.own bO) pages L aP bQ c:=
 ⟨h.x.trans hx,h.at_.grow hx (λq a=>by
  rcases a with h1|h1
  .exact .inl ((h.E q).2 (.inl h1))
  .exact(b q h1).imp (λh2=>(h.E q).2 (.inr h2)) id) (.inl rfl),λq=>Iff.rfl,λhs=>by
  have hs:bO S.st:=hs
  rcases b _ hs with h1|h1
  .exact h.ne h1
  .have:=h.at_.t.lt (q:=S.st) (.inr (.inr (.inr (.inl h.at_.es))));omega,λq a=>by
  rcases cf.J4 h.E (λq a=>(b q a).imp id And.left) a with h1|h1
  .exact h.s0 q h1
  .have:=h.x.size;omega,h.lim,h.d,h.n,h.a7,h.eS,h.gen,h.wS,h.r⟩
end
section
variable {w0 w w' w1 ai:J}{bp bO:Nat->Prop}{d n aR k c i:Nat}{l:eB}{S aE:cf}{pages dQ aP fX bl:O Nat}{L lz bQ pD bd:O aM}{v:aa}{aC:bc}{ls:ad}
theorem zB{q b k:Nat}(h:aB ⟨some b,k,k⟩ q):q=b:=by
 obtain⟨A,ar,rfl⟩:=h
 cases ar;rfl
theorem dW.room(h:dW w S pages L aP bQ):S.T.n<=cm S.T+pages.length+aP.length+3:=by
 have h1:=Jk (t:=λi=>S.T.f i||S.T.g i) (l:=pages++aP++ [0,1,S.u.map]) S.T.n λi _ hi=>by
  simp only[je]at hi;simp only[cO,c0,fw,fD];rcases hi with hi|hi
  .rcases(h.f i).1 hi with h2|h2|h2
   .exact .inl (.inl h2)
   .exact .inr I
   .exact .inr (.inr (.inr h2))
  .rcases(h.jY.g i).1 hi with h2|h2|h2
   .exact .inl (.inr h2)
   .exact .inr I
   .exact .inr (.inr (.inr h2))
 simp only[cv,gh,k2]at h1;unfold cm;omega
theorem gZ.new{D:bc}(hx:Ext w0 w)(e:dW w' S [] [] [] [])(a:DL D l bp 4 w w' S)(hu:S.u=jz)(hg:S.gen=1)(b:∀q,cq D q->w0.heap.size<=q)(c:∀q,bp q->w0.heap.size<=q/\q<w.heap.size)(i:D.a7=0)(f:D.r1=true):gZ w0 w' bp D.d D.n l S [] [] [] [] 0:=
 ⟨Ext.dT hx a.ah b,e,a.E,λh=>by have:=(c _ h).2;have:=a.st;omega,λq g=>by
  rcases a.M q g with h1|h1|h1
  .exact b q h1
  .exact(c q h1).1
  .have:=hx.size;omega,a.l,a.d,a.n,by have:=a.a7;omega,⟨bk _,bk _⟩,I,by rw[a.pC];exact bk _,a.r.trans f⟩
end
section
variable {w0 w w' w1 ai:J}{bp bO:Nat->Prop}{d n aR k c i:Nat}{l:eB}{S aE:cf}{pages dQ aP fX bl:O Nat}{L lz bQ pD bd:O aM}{v:aa}{aC:bc}{ls:ad}
def jZ(b:Nat):eB:=⟨8,1+b%12,1+b/16%12⟩
theorem J5(b:Nat):pA ((jZ b).an:Nat) ((jZ b).batch:Nat) ((jZ b).iS:Nat):=by
 unfold pA jZ;have h1:b%12<12:=g9 _ (by decide);have h2:b/16%12<12:=g9 _ (by decide);show(8:Int)<=((8:Nat):Int)/\((8:Nat):Int)<=64/\(1:Int)<=((1+b%12:Nat):Int)/\((1+b%12:Nat):Int)<=1000/\(1:Int)<=((1+b/16%12:Nat):Int)/\((1+b/16%12:Nat):Int)<=1048576;omega
theorem J6{b:Nat}(a:b<256):IntKind.wrap .u8 (Int.tdiv (b:Int) 16)=((b/16:Nat):Int):=by
 rw[wW I];have h:((b:Int)/16)=((b/16:Nat):Int):=by omega
 rw[h];have h2:b/16<256:=by omega
 show((b/16:Nat):Int)%256=_;omega
end
section
variable {w:J}{ab st:Nat}{most:Int}
theorem qh{s:av ag}(w:J)(most:Int):aI aj 37 #[.pointer s,most] w (λv w'=>Ext w w'/\(((s=none\/most<1\/400<most)/\v=.tuple #[.pointer none,(1:Int)])\/((s≠none/\1<=most/\most<=400)/\v=.tuple #[.pointer (some w.heap.size),(0:Int)]/\Var w' w.heap.size [.pointer s,most] 120))):=by
 refine okF (ae.qh s most) ax.qh func37 ?_;delta ae.qh ak Y;refine⟨λh=>⟨.refl _ _,.inl ⟨?_,rfl⟩⟩,λh=>ba (vs:=[.pointer s,most]) rfl λw1 b hx _=>⟨hx,.inr ⟨?_,rfl,b⟩⟩⟩
 .cases s with
  |none=>exact .inl rfl
  |some a=>simp at h;exact .inr I
 .cases s with
  |none=>simp at h
  |some a=>simp at h;exact⟨by simp,I,I⟩
theorem J7(a:Var w ab [.pointer (some st),most] 120):aI aj 38 #[.pointer (some ab)] w (λv w'=>v=.pointer (some st)/\w=w'):=by
 refine okF (ae.uE (some ab)) ax.uE func38 ?_;delta ae.uE ak;exact⟨λh=>(by cases h),λ_=>⟨_,rfl,_,a.cell,rfl,rfl⟩⟩
theorem zC{S:cf}{pages aP:O Nat}{L bQ:O aM}(a:Var w ab [.pointer (some S.st),most] 120)(h:dW w S pages L aP bQ):aI aj 17 #[.pointer (some ab)] w (λv w'=>v=L.length/\w=w'):=by
 refine okF (ae.uB (some ab)) ax.uB func17 ?_;delta ae.uB kg bP;refine(J7 a).use ?_;rintro _ _ ⟨rfl,rfl⟩;refine⟨_,rfl,(JU h).use ?_⟩;rintro _ _ ⟨rfl,rfl⟩;exact⟨_,rfl,by rw[h.keys],rfl⟩
end
theorem zD{s:Int}{p:br}(h:dN s p=true):∃k:Nat,s=(k:Int)/\k<=65535/\ga p.addr p.bits=some p:=by
 unfold dN at h;rw[c8,cg]at h;obtain⟨k,h1,h2⟩:=qS h.2;exact⟨k,h1,h2,h.1⟩
theorem J8{s b:Int}{p a:br}(h:dN s p=true)(j:dN b a=true)(he:eX s.toNat p=eX b.toNat a):s=b/\p=a:=by
 obtain⟨k,rfl,l,c⟩:=zD h;obtain⟨d,rfl,m,f⟩:=zD j;rw[dc,dc]at he;have h1:=yF l p;rw[he,yF m a]at h1;have h2:=yG k p;rw[he,yG d a]at h2;have g:=yH k p;rw[he,yH d a]at g;have n:p.addr=a.addr:=by
  have i:=yE (yd c).2.1;rw[←g,yE (yd f).2.1]at i;exact(Option.some.inj i).symm
 have cB:=sH c;have b6:=sH f;have o:p.bits=a.bits:=by
  have e:=congrArg UInt8.toNat (Option.some.inj h2);rw[rv,rv]at e;omega
 refine⟨I,?_⟩
 cases p;cases a
 simp_all
def aF.kv(t:aF):aM:=(eX t.s.toNat t.p,jt t.b.toNat t.u)
section
variable {T:O aF}{s:Int}{p:br}
theorem zE{t:aF}(ht:dN t.s t.p=true)(hg:dN s p=true):decide (t.kv.1=eX s.toNat p)=ep s p t:=by
 unfold ep;rw[e0,c8,cg,cg,cg];exact⟨λh=>J8 ht hg h,λh=>by show eX t.s.toNat t.p=_;rw[h.1,h.2]⟩
theorem zF(c:∀t∈T,dN t.s t.p=true)(hg:dN s p=true):e3 (T.map aF.kv) (eX s.toNat p)=(T.find? (ep s p)).map λt=>jt t.b.toNat t.u:=by
 unfold e3
 induction T with
 |nil=>rfl
 |cons t T a=>
  have a:=a λx hx=>c x (jC _ hx);rw[g_,List.find?_cons,List.find?_cons,zE (c t (nY)) hg]
  cases ep s p t with
  |true=>rfl
  |false=>exact a
theorem J9(b:∀t∈T,dN t.s t.p=true)(hg:dN s p=true):eR (T.map aF.kv) (eX s.toNat p)=(T.filter λt=> !ep s p t).map aF.kv:=by
 unfold eR
 induction T with
 |nil=>rfl
 |cons t T a=>
  have a:=a λx hx=>b x (jC _ hx);have h1:=zE (b t (nY)) hg;rw[g_,jg,jg,a];have e:decide (t.kv.1≠eX s.toNat p)= !ep s p t:=by rw[←h1];simp
  rw[e]
  cases ep s p t<;>rfl
end
def g7(T:O aF)(t:aF):O aF:=(T.filter λx=>decide (bo x.kv.1 t.kv.1))++t::T.filter λx=>decide (bo t.kv.1 x.kv.1)
theorem DM(T:O aF)(t:aF):gA (T.map aF.kv) t.kv.1 t.kv.2=(g7 T t).map aF.kv:=by
 unfold gA g7;rw[fP,g_,List.filter_map,List.filter_map];rfl
theorem J_{T:O aF}{t x:aF}(h:x∈g7 T t):x=t\/x∈T:=by
 unfold g7 at h;rcases cO.1 h with h|h
 .exact .inr (gr.1 h).1
 .rcases c0.1 h with h|h
  .exact .inl h
  .exact .inr (gr.1 h).1
theorem pE{k:Nat}{p:br}:cw (eX k p):=by
 have h:=wg k p;have h2:=vJ p.addr;unfold cw;omega
section
variable {T A B:O aF}{t x:aF}{i m now:Nat}{fr:Key}
def fN(T:O aF):Prop:=T.Pairwise λa b=>bo a.kv.1 b.kv.1
theorem DN:g2 (T.map aF.kv)↔fN T:=List.pairwise_map
theorem DO(ar:∀a∈A,bo a.kv.1 t.kv.1)(e:∀b∈B,bo t.kv.1 b.kv.1):g7 (A++B) t=A++t::B:=by
 unfold g7;rw[gu,gu,ik.2 λa c=>dR (ar a c),lI.2 λb d=>by simpa using jQ (e b d),lI.2 λa c=>by simpa using jQ (ar a c),ik.2 λb d=>dR (e b d),fu,hA]
theorem Ka(hx:x.kv.1=t.kv.1)(ar:∀a∈A,bo a.kv.1 t.kv.1)(c:∀b∈B,bo t.kv.1 b.kv.1):g7 (A++x::B) t=A++t::B:=by
 have h:=DO ar c;unfold g7 at h⊢;rw[←h,gu,gu,gu,gu,jg,jg,hx];simp[jP]
theorem wT(h:fN T)(hi:i<T.length):(∀a∈T.take i,bo a.kv.1 T[i].kv.1)/\∀b∈T.drop (i+1),bo T[i].kv.1 b.kv.1:=by
 have e:T=T.take i++T[i]::T.drop (i+1):=by rw[List.getElem_cons_drop,fK]
 have h2:fN (T.take i++T[i]::T.drop (i+1)):=e▸h;obtain⟨_,c,d⟩:=mf.1 h2;exact⟨λa f=>d a f _ (nY),(jD.1 c).1⟩
theorem DP(h:ep t.s t.p x=true):x.kv.1=t.kv.1:=by
 unfold ep at h;rw[c8,cg,cg]at h;show eX _ _=eX _ _;rw[h.1,h.2]
theorem Kb(h:fN T)(hf:T.findIdx? (ep t.s t.p)=some i):i<T.length/\T.set i t=g7 T t:=by
 obtain⟨hi,a,_⟩:=List.findIdx?_eq_some_iff_getElem.1 hf;have hx:=DP a;have h1:=wT h hi;rw[hx]at h1;refine⟨hi,?_⟩;have e:T=T.take i++T[i]::T.drop (i+1):=by rw[List.getElem_cons_drop,fK]
 have h2:=Ka hx h1.1 h1.2;rw[←e]at h2;rw[h2,wY,if_pos hi]
theorem DQ(h:fN T)(d:∀t∈T,dN t.s t.p=true)(hg:dN t.s t.p=true)(hf:T.findIdx? (ep t.s t.p)=none)(hi:i<=T.length)(f:∀a∈T.take i,bo a.kv.1 t.kv.1)(g:∀hi:i<T.length,¬bo T[i].kv.1 t.kv.1):T.take i++t::T.drop i=g7 T t:=by
 have e:=DO (B:=T.drop i) f λb c=>?_
 .rw[fK]at e
  exact e.symm
 have j:∀x∈T,x.kv.1≠t.kv.1:=λx hx e=>by
  have h1:=List.findIdx?_eq_none_iff.1 hf x hx;rw[←zE (d x hx) hg]at h1;exact absurd e (cE h1)
 have key:∀x∈T,¬bo x.kv.1 t.kv.1->bo t.kv.1 x.kv.1:=λx hx k=>by
  rcases vK x.kv.1 t.kv.1 with h1|h1|h1
  .exact absurd h1 k
  .exact absurd h1 (j x hx)
  .exact h1
 rcases dX i T.length with h1|h1
 .have h2:=key _ (cP h1) (g h1)
  rw[←List.getElem_cons_drop h1]at c;rcases c0.1 c with rfl|c
  .exact h2
  .exact lV h2 ((wT h h1).2 b c)
 .rw[rz h1]at c;cases c
def eW(T:O aF)(fr:Key):O aF:=T.filter λt=>decide (dt fr t.kv.1)
def ct(T:O aF)(fr:Key)(m:Nat):O aF:=(eW T fr).take m
def er(T Q:O aF)(ch:aF->al):O aF:=T.filter λt=> !(decide (t∈Q)&&ch t)
def fY(T Q:O aF):Key:=match Q.getLast? with
 |none=> []
 |some t=>if T.getLast? =some t then [] else t.kv.1++ [0]
theorem fN.nodup(h:fN T):T.Nodup:=List.Pairwise.imp (λ{a b} c (e:a=b)=>by rw[e]at c;exact jP _ c) h
theorem Kc(h:fN T)(hi:i<T.length):ct (T.take (i+1)) fr m=(if decide (dt fr T[i].kv.1)&&decide ((ct (T.take i) fr m).length<m) then ct (T.take i) fr m++ [T[i]] else ct (T.take i) fr m)/\
 decide (T[i]∈ct T fr m)=(decide (dt fr T[i].kv.1)&&decide ((ct (T.take i) fr m).length<m)):=by
 have j:T.take (i+1)=T.take i++ [T[i]]:=(List.take_append_getElem hi).symm;have e:T=T.take i++T[i]::T.drop (i+1):=by rw[List.getElem_cons_drop,fK]
 have l:T[i]∉T.take i:=λa=>jP _ ((wT h hi).1 _ a);have n:eW (T.take (i+1)) fr=eW (T.take i) fr++if decide (dt fr T[i].kv.1) then [T[i]] else []:=by
  unfold eW;rw[j,gu,jg,rA]
 have o:eW T fr=eW (T.take i) fr++((if decide (dt fr T[i].kv.1) then [T[i]] else [])++eW (T.drop (i+1)) fr):=by
  conv=>lhs;rw[e]
  unfold eW;rw[gu,jg];split<;>rfl
 have d:T[i]∉eW (T.take i) fr:=λa=>l (gr.1 a).1;have f:T[i]∈eW (T.drop (i+1)) fr->decide (dt fr T[i].kv.1)=true:=λa=>(gr.1 a).2;unfold ct;rw[n,o];generalize eW (T.take i) fr=b at d;generalize eW (T.drop (i+1)) fr=G at f
 cases g:decide (dt fr T[i].kv.1) with
 |false=>
  refine⟨by simp,?_⟩;rw[kC,iL];intro a;have h1:=fC a;simp only[fZ,if_false,hA,cO]at h1;rcases h1 with h1|h1
  .exact d h1
  .rw[f h1]at g;cases g
 |true=>
  rw[if_pos rfl,g0];rcases dX b.length m with c|c
  .have h1:b.take m=b:=dC (Nat.le_of_lt c)
   rw[h1,dR c,if_pos rfl];refine⟨dC (by simp;omega),?_⟩;rw[cg,tf];refine h5 _ ?_;obtain⟨k,p⟩:∃k,m-b.length=k+1:=⟨m-b.length-1,I⟩;rw[p];exact nY
  .have h1:(b.take m).length=m:=by rw[cz];omega
   rw[h1,m5 c,m5 c,h6 (Nat.lt_irrefl m)];exact⟨rfl,h6 λa=>d (fC a)⟩
theorem Ke(h:fN T){Q:O aF}{ch:aF->al}(c:x∈T)(hx:x∉Q)(d:∀t∈T,dN t.s t.p=true):(er T Q ch).filter (λt=> !ep x.s x.p t)=T.filter (λt=> !(decide (t∈Q)&&ch t)&& !decide (t=x)):=by
 unfold er;rw[List.filter_filter];refine oc λt ht=>?_;rw[Bool.and_comm]
 congr 2
 rw[e0,cg];refine⟨λe=>?_,λe=>by rw[e];simp[ep]⟩;have h1:=DP (t:=x) e;obtain⟨i,hi,rfl⟩:=tg.1 ht;obtain⟨j,b,rfl⟩:=tg.1 c;have h2:=k1.1 h;rcases Nat.lt_trichotomy i j with a|rfl|a
 .have:=h2 i j hi b a;rw[h1]at this;exact absurd this (jP _)
 .rfl
 .have:=h2 j i b hi a;rw[h1]at this;exact absurd this (jP _)
end
def aF.ok(t:aF):Prop:=t.ej=true/\t.u<18446744073709551616
theorem aF.ok.k{t:aF}(h:t.ok):dN t.s t.p=true:=by have:=h.1;unfold aF.ej at this;rw[c8]at this;exact this.1
theorem aF.ok.b{t:aF}(h:t.ok):iV t.b=true:=by have:=h.1;unfold aF.ej at this;rw[c8]at this;exact this.2
def kX(S:cf)(bt:O aF)(aE:cf)(dB:O aF):Prop:=(aE.u.dw=S.u.dw/\dB=bt)\/S.u.dw<aE.u.dw
theorem kX.trans{S aE c:cf}{bt dB d:O aF}(h:kX S bt aE dB)(e:kX aE dB c d):kX S bt c d:=by
 rcases h with ⟨a,rfl⟩|a<;>rcases e with ⟨b,rfl⟩|b
 .exact .inl ⟨b.trans a,rfl⟩
 .exact .inr I
 .exact .inr I
 .exact .inr I
structure db(w0 w:J)(bp:Nat->Prop)(d n:Nat)(l:eB)(ab most:Nat)(S:cf)(pages aP:O Nat)(T bt:O aF)(c:Nat):Prop where
 s:gZ w0 w bp d n l S pages (T.map aF.kv) aP (bt.map aF.kv) c
 live:S.failed=false
 q:S.T.C.D.quiet
 wU:bp ab
 v:Var w ab [.pointer (some S.st),most] 120
 ok:∀t∈T,t.ok
 DR:∀t∈bt,t.ok
 wV:S.pending<l.batch
 DS:S.pending=0->T=bt
 eS:T.length<=most/\bt.length<=most
 hZ:1<=most/\most<=400
 bX:n=4*most+64
 lD:fN T
section
variable {w0 w w':J}{bp:Nat->Prop}{d n ab most k c:Nat}{l:eB}{S aE:cf}{pages dQ aP fX:O Nat}{T au bt dB:O aF}{tk cV:ad}{key:Key}{v:aa}{s:Int}{p:br}
theorem db.ext(h:db w0 w bp d n l ab most S pages aP T bt c)(hx:Ext w w'):db w0 w' bp d n l ab most S pages aP T bt c:={h with s:=h.s.ext hx,v:=h.v.ext hx}
theorem db.mono{e:Nat}(h:db w0 w bp d n l ab most S pages aP T bt c)(he:c<=e):db w0 w bp d n l ab most S pages aP T bt e:={h with s:=h.s.mono he}
theorem db.new(h:db w0 w bp d n l ab most S pages aP T bt c):∀q,w.heap.size<=q->¬S.T.M q:=λq b a=>by have:=h.s.at_.t.lt a;omega
theorem db.keys(h:db w0 w bp d n l ab most S pages aP T bt c):∀t∈T,dN t.s t.p=true:=λt ht=>(h.ok t ht).k
theorem db.room(h:db w0 w bp d n l ab most S pages aP T bt c):ih S≠0:=by
 have h1:=h.eS;have e:=h.s.at_.room;have a:=h.s.at_.ok.low (by rw[dn];have:=h.hZ;omega);have b:=h.s.at_.jY.low;have f:=h.s.n;have g:=h.bX;rw[dn]at a b;unfold ih;omega
theorem db.step(h:db w0 w bp d n l ab most S pages aP T bt c)(hs:dW w' aE dQ (au.map aF.kv) fX (dB.map aF.kv))(hd:ek k S aE w w')(f:k<=20000)(u:au.length<=T.length+1)(a:dB=bt\/dB=au)(g:au.length<=most)(hg:aE.gen<=S.gen+1)(i:aE.pending<=S.pending+1)(hf:aE.failed=false)(b:∀t∈au,t.ok)(j:aE.pending<l.batch)(m:aE.pending=0->au=dB):
 db w0 w' bp d n l ab most aE dQ fX au dB (c+1):=by
 have o:=h.s.eS;rw[dn,dn]at o;have e:=h.s.lC h.wU;have p:dB.length<=c+1/\dB.length<=most:=by
  have:=h.eS;rcases a with rfl|rfl<;>omega
 refine⟨h.s.step hs hd f (by rw[dn,dn];omega) hg i,hf,hd.q h.q,h.wU,?_,b,?_,j,m,⟨g,p.2⟩,h.hZ,h.bX,DN.1 (hs.ok.rising)⟩
 .rw[hd.st]
  exact h.v.ah hd.ah λr=>e.2 (r.2 e.1)
 .rcases a with rfl|rfl
  .exact h.DR
  .exact b
theorem db.read(h:db w0 w bp d n l ab most S pages aP T bt c)(hs:dW w' aE pages (T.map aF.kv) aP (bt.map aF.kv))(hd:ek k S aE w w')(b:k<=20000)(hg:aE.gen=S.gen)(a:aE.pending=S.pending)(hf:aE.failed=S.failed):db w0 w' bp d n l ab most aE pages aP T bt (c+1):=
 h.step hs hd b I (.inl rfl) h.eS.1 I I (hf.trans h.live) h.ok (by rw[a];exact h.wV) (by rw[a];exact h.DS)
def jd(w0:J)(bp:Nat->Prop)(d n:Nat)(l:eB)(ab most:Nat)(S:cf)(bt au:O aF)(w:J)(c:Nat)(w':J):Prop:=
 ∃ (k:Nat) (aE:cf) (dQ fX:O Nat) (dB:O aF),db w0 w' bp d n l ab most aE dQ fX au dB c/\ek k S aE w w'/\aE.now=S.now/\kX S bt aE dB
theorem db.more(h:db w0 w bp d n l ab most S pages aP T bt c)(a:mS S aE dQ (au.map aF.kv) aP (bt.map aF.kv) v w')(hd:ek k S aE w w')(b:aE.now=S.now)(f:k<=20000)(g:au.length<=T.length+1)(i:au.length<=most)(j:∀t∈au,t.ok):
 v=.int .i64 0/\jd w0 bp d n l ab most S bt au w (c+1) w':=by
 have p:=h.s.at_.num.2.2.2.2.2.2;have m:=h.s.lim;rcases a with ⟨rfl,h1,hs,hf,hg,hu,o,_⟩|a
 .exact⟨rfl,k,aE,dQ,aP,bt,h.step hs hd f g (.inl rfl) i I I hf j (by rw[←m];omega) (λe=>I),hd,b,.inl ⟨by rw[hu],rfl⟩⟩
 .obtain⟨rfl,_,hs,hf,hg,_,r,o⟩:=a.J3 h.q
  exact⟨rfl,k,aE,dQ,dQ,au,h.step hs hd f g (.inr rfl) i I I hf j (by rw[←m];omega) (λ_=>rfl),hd,b,.inr I⟩
theorem db.put{t:aF}(h:db w0 w bp d n l ab most S pages aP T bt c)(ht:t.ok)(hlen:(g7 T t).length<=most/\(g7 T t).length<=T.length+1)(hc:c<=30000)(f:Src 1 w tk (az (eX t.s.toNat t.p)))(g:∀q,aB tk q->q<w.heap.size/\¬S.T.M q)(i:Src 1 w cV (az (jt t.b.toNat t.u)))(j:∀q,aB cV q->q<w.heap.size/\¬S.T.M q):
 aI aj 27 #[.pointer (some S.st),tk,cV] w (λv w'=>v=.int .i64 0/\jd w0 bp d n l ab most S bt (g7 T t) w (c+1) w'):=by
 have k:=h.s.at_.num.2.2.2.2.1;have m:=h.s.lim;have z:=h.wV;have A:=h.s.a7;have B:=h.s.gen;refine(JX (key:=eX t.s.toNat t.p) (val:=jt t.b.toNat t.u) h.s.at_ (by rw[dn];have:=h.eS.1;have:=h.hZ;omega) (by rw[m]at k;omega) I I h.q f g i j).mono ?_;rintro v w' (⟨_,o,_⟩|⟨_,⟨hf,_⟩|⟨_,aE,hd,r,⟨_,y,_⟩|⟨_,dQ,a⟩⟩⟩)
 .exact absurd ⟨pE,by rw[qU];decide⟩ o
 .rw[h.live]at hf;cases hf
 .exact absurd y h.room
 .rw[show gA (T.map aF.kv) (eX t.s.toNat t.p) (jt t.b.toNat t.u)=(g7 T t).map aF.kv from DM T t]at a
  exact h.more a hd r I hlen.2 hlen.1 λx hx=>(J_ hx).elim (λe=>e▸ht) (h.ok x)
theorem db.del(h:db w0 w bp d n l ab most S pages aP T bt c)(hg:dN s p=true)(hc:c<=30000)(j:Src 1 w tk (az (eX s.toNat p)))(k:∀q,aB tk q->q<w.heap.size/\¬S.T.M q):
 aI aj 23 #[.pointer (some S.st),tk] w (λv w'=>v=.tuple #[.bool (T.find? (ep s p)).isSome,(0:Int)]/\jd w0 bp d n l ab most S bt (T.filter λt=> !ep s p t) w (c+1) w'):=by
 have m:=h.s.at_.num.2.2.2.2.1;have o:=h.s.lim;have D:=h.wV;have E:=h.s.a7;have F:=h.s.gen;have f:=zF h.keys hg;have G:(T.filter λt=> !ep s p t).length<=T.length:=k3 _ _;refine(JY (key:=eX s.toNat p) h.s.at_ (by rw[dn];have:=h.eS.1;have:=h.hZ;omega) (by rw[o]at m;omega) I I h.q j k).mono ?_;rintro v w' (⟨_,r,_⟩|⟨_,⟨hf,_⟩|⟨_,aE,hd,g,⟨rfl,a,hs,he,y⟩|⟨_,_,z,_⟩|⟨e,rfl,a,_,dQ,i⟩|⟨_,hx⟩⟩⟩)
 .exact absurd pE r
 .rw[h.live]at hf;cases hf
 .rw[f,Option.map_eq_none_iff]at a
  rw[a];refine⟨rfl,300,aE,pages,aP,bt,?_,hd,g,.inl ⟨by rw[he.u],rfl⟩⟩;rw[ik.2 λt ht=>by rw[iK,←ft];exact j8.1 a t ht];exact h.read hs hd I he.gen he.pending (y.trans h.live.symm)
 .exact absurd z h.room
 .rw[J9 h.keys hg]at i
  obtain⟨A,B⟩:=h.more i hd g I I (by have:=h.eS.1;omega) λx hx=>h.ok x (gr.1 hx).1;obtain rfl:e=0:=by cases A;rfl
  rw[f,ne_eq,Option.map_eq_none_iff]at a;refine⟨?_,B⟩
  cases C:T.find? (ep s p) with
  |none=>exact absurd C a
  |some t=>rfl
 .rcases hx True pages (T.map aF.kv) with ⟨b,_⟩|⟨_,b,_⟩
  .cases b
  .exact absurd h.q b
theorem db.get(h:db w0 w bp d n l ab most S pages aP T bt c)(hg:dN s p=true)(hc:c<=30000)(g:Src 1 w tk (az (eX s.toNat p)))(i:∀q,aB tk q->q<w.heap.size/\¬S.T.M q):
 aI aj 50 #[.pointer (some S.st),tk] w (λv w'=>(∃ (t:ad),v=.tuple #[t,.bool (T.find? (ep s p)).isSome,(0:Int)]/\∀x,T.find? (ep s p)=some x->Src 1 w' t (az (jt x.b.toNat x.u))/\t.len<=t.cap)/\jd w0 bp d n l ab most S bt T w (c+1) w'):=by
 have o:=h.s.a7;have f:=zF h.keys hg;refine(JW h.s.at_ I g i).mono ?_;rintro v w' ⟨aJ,hs,hd,_,_,_,_,j⟩;have ar:jd w0 bp d n l ab most S bt T w (c+1) w':=⟨30,_,pages,aP,bt,h.read hs hd I rfl rfl rfl,hd,rfl,.inl ⟨rfl,rfl⟩⟩;rcases j with ⟨rfl,a⟩|⟨t,x,rfl,_,a,ht⟩|⟨_,_,k⟩
 .have a:=a pE
  rw[f,Option.map_eq_none_iff]at a;rw[a];exact⟨⟨⟨none,0,0⟩,rfl,λx e=>(by cases e)⟩,ar⟩
 .rw[f]at a
  obtain⟨y,m,rfl⟩:=s7.1 a;rw[m];exact⟨⟨t,rfl,λz e=>by cases e;exact⟨ht.1,ht.2.1⟩⟩,ar⟩
 .exact absurd (h.q.1 30) k
end
section
variable {w0 w w' w1:J}{bp:Nat->Prop}{d n ab most k c q:Nat}{l:eB}{S aE en:cf}{pages dQ aP fX:O Nat}{T au bt dB jA:O aF}{tk cV:ad}{key:Key}{v:aa}{s:Int}{p:br}{vs:O aa}
theorem db.DT(h:db w0 w bp d n l ab most S pages aP T bt c)(hx:Ext w w')(e:Nat):jd w0 bp d n l ab most S bt T w (c+e) w':=⟨0,S,pages,aP,bt,(h.ext hx).mono (Nat.le_add_right _ _),.ext S hx,rfl,.inl ⟨rfl,rfl⟩⟩
theorem jd.cat(hd:ek k S en w w1)(a:en.now=S.now)(hg:kX S bt en jA)(h:jd w0 bp d n l ab most en jA au w1 c w'):jd w0 bp d n l ab most S bt au w c w':=by
 obtain⟨cp,dO,cH,bf,b3,h2,d2,bB,ay⟩:=h;exact⟨k+cp,dO,cH,bf,b3,h2,hd.trans d2,bB.trans a,hg.trans ay⟩
theorem jd.pre(hx:Ext w w1)(h:jd w0 bp d n l ab most S bt au w1 c w'):jd w0 bp d n l ab most S bt au w c w':=jd.cat (.ext S hx) rfl (.inl ⟨rfl,rfl⟩) h
theorem cf.DU{b:Nat}(c:∀q,S.T.E q↔q=S.st\/bp q)(a:(S.own λq=>bp q\/q=b).T.M q):S.T.M q\/q=b:=by
 rcases a with a|a|a|a|a
 .exact .inl (.inl a)
 .exact .inl (.inr (.inl a))
 .exact .inl (.inr (.inr (.inl a)))
 .rcases(show q=S.st\/bp q\/q=b from a) with h|h|h
  .exact .inl (.inr (.inr (.inr (.inl ((c q).2 (.inl h))))))
  .exact .inl (.inr (.inr (.inr (.inl ((c q).2 (.inr h))))))
  .exact .inr h
 .exact .inl (.inr (.inr (.inr (.inr a))))
theorem Kf(t:aF){K:J->Prop}(d:∀w',Var w' w.heap.size t.c 57->Ext w w'->K w'):ao (w.alloc (.cells aF.zero.c.toArray 57)) λa=>bJ a w.heap.size (Array.toList t.c.toArray)/\Array.size t.c.toArray=21/\ao (setCells a w.heap.size 0 (Array.toList t.c.toArray)) K:=
 ba (vs:=aF.zero.c) rfl λw1 b hx _=>⟨b.cn (by simp[aF.bF]) (aF.plain t),by simp[aF.bF],cT b (us:=t.c) (by simp[aF.bF]) rfl λw' e f _=>d w' e (Ext.cC hx f (bk _))⟩
theorem Kg{x:aF}(hx:x.ok)(a:Src 1 w tk (az (eX x.s.toNat x.p)))(g:tk.len<=tk.cap)(d:Src 1 w cV (az (jt x.b.toNat x.u)))(h:cV.len<=cV.cap):aI aj 51 #[tk,cV] w (λv w'=>v=.tuple #[.agg x.c.toArray,true]/\Ext w w'):=by
 obtain⟨k,e,_⟩:=zD hx.k;obtain⟨j,f,i⟩:=qS hx.b;have hg:=hx.k;have hu:=hx.2;obtain⟨s,p,b,u⟩:=x;dsimp only at e f hg hu a d;subst e f;rw[dc]at a d;exact qi a g d h hg i hu
end
def iI(T:O aF)(most:Nat)(t:aF):Int:=if t.ej then (if (T.find? (ep t.s t.p)).isSome then 0 else if most<=T.length then 2 else 0) else 1
def kB(T:O aF)(most:Nat)(t:aF):O aF:=if iI T most t=0 then g7 T t else T
theorem Kh{T:O aF}{t:aF}(a:fN T)(b:∀t∈T,dN t.s t.p=true)(hg:dN t.s t.p=true):(g7 T t).length=if (T.find? (ep t.s t.p)).isSome then T.length else T.length+1:=by
 have h1:=zz t.kv.1 t.kv.2 (T.map aF.kv);have h2:=wR (k:=t.kv.1) (DN.2 a);rw[DM,dn]at h1;rw[dn,show e3 (T.map aF.kv) t.kv.1=_ from zF b hg]at h2;rw[h1]
 cases hf:T.find? (ep t.s t.p) with
 |none=>rw[hf]at h2;simp at h2⊢;omega
 |some x=>rw[hf]at h2;simp at h2⊢;omega
section
variable {w0 w w' w1:J}{bp:Nat->Prop}{d n ab most k c q:Nat}{l:eB}{S aE en:cf}{pages dQ aP fX:O Nat}{T au bt dB jA:O aF}{s:Int}{p:br}
theorem DV(h:db w0 w bp d n l ab most S pages aP T bt c)(hc:c<=20000){t:aF}(hu:t.u<18446744073709551616):aI aj 43 #[.pointer (some ab),.agg t.c.toArray] w (λv w'=>v=.int .i64 (iI T most t)/\jd w0 bp d n l ab most S bt (kB T most t) w (c+2) w'):=by
 refine ae.Fk (some ab) _ w _ ?_;(delta ae.r8 ak Y b8 aG jL cr nj bP;dsimp only);refine ba (vs:=t.c) rfl λw1 C O af=>cx (λb w'=>b= !t.ej/\Ext w1 w') (λk P=>⟨λh=>(by cases h),λ_=>⟨t.c,C.rd (aF.bF t),(oI t w1).use λv w' a=>by obtain⟨rfl,hx⟩:=a;exact⟨t.ej,rfl,P _ _ ⟨rfl,hx⟩⟩⟩⟩) ?_;rintro _ Q ⟨rfl,D⟩;have x:=O.trans D;refine⟨λg=>?_,λg=>?_⟩
 .have hg:t.ej=false:=by rwa[iK]at g
  have e:iI T most t=1:=by unfold iI;rw[hg];rfl
  refine⟨by rw[e],?_⟩;unfold kB;rw[e];exact h.DT x 2
 have hg:t.ej=true:=by rwa[mg]at g
 have ht:t.ok:=⟨hg,hu⟩;have y:=C.ext D;refine⟨_,y.cell,_,qT y,(mz t.s t.p Q).use ?_⟩;rintro _ R ⟨E,⟨hf,_⟩|⟨_,tk,rfl,U,z⟩⟩
 .rw[ht.k]at hf;cases hf
 have F:=y.ext E;refine⟨tk,true,rfl,_,yD F,_,B0 F,(qm t.b hu R).use ?_⟩;rintro _ V (⟨hf,_⟩|⟨_,cV,rfl,A,j,G⟩)
 .rw[ht.b]at hf;cases hf
 have m:=x.trans E;have H:=h.ext (m.trans j);have ag:=x.size;have ai:=m.size;have al:=(m.trans j).size;have o:=U.ext j;refine⟨cV,true,rfl,_,rfl,_,H.v.cell,(H.get ht.k I o.src λq a=>⟨o.lt q a,h.new q (by have:=z q a;omega)⟩).use ?_⟩;rintro _ J ⟨⟨X,rfl,_⟩,k,en,am,bl,bY,h1,d1,cc,aw⟩;have K:∀q,w.heap.size<=q->¬S.W q:=λq a Z=>h.new q a Z.1;have L:∀q,w.heap.size<=q->q<V.heap.size->¬en.T.M q:=λq a i B=>(d1.c6 q B).elim (h.new q a) λ_=>by omega
 have aa:=o.src.ah d1.ah λq a=>K q (by have:=z q a;omega);have ac:=A.src.ah d1.ah λq a=>K q (by have:=G q a;omega);have an:=d1.ah.size;have f:=cG J;have N:iI T most t=0->aI aj 27 #[.pointer (some en.st),tk,cV] J.drew (λv w'=>v=.int .i64 (iI T most t)/\jd w0 bp d n l ab most S bt (kB T most t) w (c+2) w'):=λhe=>by
  have i:=Kh h.lD h.keys ht.k;have B:(g7 T t).length<=most/\(g7 T t).length<=T.length+1:=by
   have:=h.eS.1;unfold iI at he;rw[hg,if_pos rfl]at he;rw[i];split
   .omega
   .rename_i hs
    rw[if_neg hs]at he;split at he
    .cases he
    .omega
  refine((h1.ext f).put ht B I (aa.ext f) (λq a=>⟨?_,L q (by have:=z q a;omega) (o.lt q a)⟩) (ac.ext f) λq a=>⟨?_,L q (by have:=G q a;omega) (A.lt q a)⟩).mono ?_
  .have:=o.lt q a;have:=f.size;omega
  .have:=A.lt q a;have:=f.size;omega
  .rintro _ w' ⟨rfl,r⟩
   rw[he];refine⟨rfl,?_⟩;unfold kB;rw[he,if_pos rfl];exact((r.pre f).cat d1 cc aw).pre (m.trans j)
 have he:iI T most t=if (T.find? (ep t.s t.p)).isSome then 0 else if most<=T.length then 2 else 0:=by unfold iI;rw[hg,if_pos rfl]
 refine⟨X,_,0,rfl,λh=>(by cases h),λ_=>aX ⟨λ_=>False,λg=>?_,λg=>?_⟩⟩
 .have hs:(T.find? (ep t.s t.p)).isSome=false:=by rwa[iK]at g
  rw[hs]at he;refine⟨_,rfl,id,_,(h1.ext f).v.cell,(zC (h1.ext f).v (h1.ext f).s.at_).use ?_⟩;rintro _ _ ⟨rfl,rfl⟩;rw[dn];refine⟨_,rfl,.refl _ _,λi=>?_,λi=>⟨_,rfl,_,(h1.ext f).v.cell,(N ?_).use ?_⟩⟩
  .have:most<=T.length:=by have:=cj i;omega
   have e:iI T most t=2:=by rw[he,if_neg (by decide),if_pos this]
   refine⟨by rw[e],?_⟩;unfold kB;rw[e];exact(((h1.DT f 1)).cat d1 cc aw).pre (m.trans j)
  .have:¬most<=T.length:=by have:=cE i;omega
   rw[he,if_neg (by decide),if_neg this]
  .rintro _ ad ⟨rfl,r⟩
   exact⟨_,rfl,rfl,r⟩
 .have hs:(T.find? (ep t.s t.p)).isSome=true:=by rwa[mg]at g
  rw[hs,if_pos rfl]at he;refine⟨λh=>(by cases h),λ_=>⟨_,rfl,_,(h1.ext f).v.cell,(N he).use ?_⟩⟩;rintro _ ad ⟨rfl,r⟩;exact⟨_,rfl,rfl,r⟩
end
section
variable {w0 w w' w1:J}{bp B:Nat->Prop}{d n ab most k c q i:Nat}{l:eB}{S aE en:cf}{pages dQ aP fX:O Nat}{T au bt dB jA Q:O aF}{s:Int}{p:br}{x:aF}{ch:aF->al}{tl:ad}
theorem db.scan(h:db w0 w bp d n l ab most S pages aP T bt c)(hc:c<=20000){a tt:ad}{fr to:Key}{m:Int}(hf:Src 1 w a (az fr))(b:∀q,aB a q->q<w.heap.size/\¬S.T.M q)(ht:Src 1 w tt (az to))(e:∀q,aB tt q->q<w.heap.size/\¬S.T.M q)(f:to.length<=1000000):
 aI aj 102 #[.pointer (some S.st),a,tt,m] w (λv w'=>∃ (t:ad) (aE:cf),v=.tuple #[t,(0:Int)]/\db w0 w' bp d n l ab most aE pages aP T bt (c+1)/\ek 20000 S aE w w'/\l7 S aE/\fq (λq=>¬aE.T.M q) w' t ((gV (T.map aF.kv) fr to).take m.toNat)):=by
 have k:=h.eS.1;have o:=h.hZ;have g:=(h.s.at_.ok.low (by rw[dn];omega)).2;rw[dn]at g;have p:=h.s.a7;refine(JZ h.s.at_ (by rw[dn];omega) I I hf b ht e f).mono ?_;rintro v w' ⟨au,hs,hd,he,_,⟨t,rfl,i⟩|⟨_,j⟩⟩
 .exact⟨t,_,rfl,h.read hs hd I he.gen he.pending rfl,hd.mono I,he,i⟩
 .exact absurd (h.q.1 _) j
theorem Ki{K:al->J->J->Prop}(y:fq B w tl (Q.map aF.kv))(hi:i<Q.length)(z:∀t∈Q,t.ok)(C:∀ (b d:J) (tk cV:ad),Ext w b->Ext w d->w.heap.size<b.heap.size->Var d w.heap.size [tk,cV] 198->Var d b.heap.size (Q[i]).c 57->bu B w tk (eX (Q[i]).s.toNat (Q[i]).p)->K true b d):
 ∃cS:ag,tl.a=some cS/\((0:Int)<=(i:Int)/\(i:Int)<(tl.len:Int))/\
  ∃e:ad,w.cell? (cS.add (Int.toNat (i:Int)*2))=some (.slice e.a e.len e.cap)/\
  ∃f:ad,w.cell? ((cS.add (Int.toNat (i:Int)*2)).add 1)=some (.slice f.a f.len f.cap)/\
  ao (w.alloc (.cells #[(),()] 198)) λo=>
  bJ o w.heap.size [e,f]/\
  (2:Nat)=2/\ao (setCells o w.heap.size 0 [e,f]) λg=>
  ∃j:ad,g.cell? w.heap.size=some (.slice j.a j.len j.cap)/\
  ∃k:ad,g.cell? (Addr.add w.heap.size 1)=some (.slice k.a k.len k.cap)/\
  Calls aj 51 #[j,k] g λD b=>
  ∃l:Array aa,∃r:al,D=.returned (.tuple #[.agg l,r])/\
  ao (b.alloc (.cells aF.zero.c.toArray 57)) λu=>bJ u b.heap.size (Array.toList l)/\Array.size l=21/\
  ao (setCells u b.heap.size 0 (Array.toList l)) λd=>K r b d:=by
 obtain⟨A,tk,cV,ar,E,h1,h2,b5,cp⟩:=Du y (i:=i) (by rw[dn];exact hi);rw[List.getElem_map]at b5 cp;refine⟨A,ar,E,tk,h1,cV,h2,ba (vs:=[(),()]) rfl λo h F L=>⟨h.cn rfl (λv h=>?_),rfl,cT h (us:=[tk,cV]) rfl rfl λg q G M=>?_⟩⟩
 .simp only[c0,fw,fD]at h
  rcases h with rfl|rfl<;>trivial
 have m:Ext w g:=Ext.cC F G (bk _);refine⟨tk,q.cell,cV,by rw[aA];exact q.cell,(Kg (z _ (cP hi)) (b5.1.ext m) b5.2.1 (cp.1.ext m) cp.2.1).use ?_⟩;rintro _ b ⟨rfl,n⟩;have N:=n.size;exact⟨_,true,rfl,Kf Q[i] λd H x=>C b d tk cV (m.trans n) ((m.trans n).trans x) I ((q.ext n).ext x) H b5⟩
end
section
variable {w0 w w' w1:J}{bp B:Nat->Prop}{d n ab most k c q i:Nat}{l:eB}{S aE en:cf}{pages dQ aP fX:O Nat}{T au bt dB jA Q:O aF}{s:Int}{p:br}{x:aF}{ch:aF->al}{tl:ad}
theorem Kj(hc:ch x=false):er T (Q++ [x]) ch=er T Q ch:=by
 unfold er;refine oc λt _=>?_
 congr 1
 by_cases e:t=x
 .subst e;rw[hc,Bool.and_false,Bool.and_false]
 .congr 1
  rw[e0,cg,cg];simp[e]
theorem Kk(h:fN T)(a:∀t∈T,dN t.s t.p=true)(b:x∈T)(hx:x∉Q)(hc:ch x=true):er T (Q++ [x]) ch=(er T Q ch).filter λt=> !ep x.s x.p t:=by
 rw[Ke h b hx a];unfold er;refine oc λt _=>?_;by_cases e:t=x
 .subst e;simp[hc]
 .rw[h6 e,Bool.not_false,pI]
  congr 2
  rw[e0,cg,cg];simp[e]
def Kl(S:cf)(w:J)(f:iq)(ch:aF->al):Prop:=h8 aj f.f/\∀ (t:aF) (w':J),af S.W w w'->aI aj f.f (f.pre++ #[.agg t.c.toArray]++f.cap) w' (λv a=>v=.bool (ch t)/\Ext w' a)
theorem Km(h:db w0 w bp d n l ab most S pages aP T bt c)(hc:c<=10000)(G:fq (λq=>¬S.T.M q) w tl (Q.map aF.kv))(y:∀t∈Q,t∈T)(H:Q.Nodup){f:iq}(hf:Kl S w f ch):
 aI aj 104 #[.pointer (some ab),tl,.func (.func f.f) f.pre f.cap] w (λv w'=>v=.tuple #[.int .i64 ((Q.filter ch).length:Nat),(0:Int)]/\jd w0 bp d n l ab most S bt (er T Q ch) w (c+(Q.filter ch).length) w'):=by
 refine okF (ae.uV (some ab) tl f) ax.uV func104 ?_;(delta ae.uV ak aO r1 Y jM z3 nk aq;dsimp only);have V:=G.len;rw[dn]at V;have az:Q.length<=400:=by
  have:=(H.length_le_of_subset y);have:=h.eS.1;have:=h.hZ;omega
 refine⟨λg m w'=>∃ (i k:Nat) (b:cf) (r s:O Nat) (iy:O aF),m=(i:Int)/\i<=Q.length/\g=(((Q.take i).filter ch).length:Nat)/\db w0 w' bp d n l ab most b r s (er T (Q.take i) ch) iy (c+((Q.take i).filter ch).length)/\ek k S b w w'/\b.now=S.now/\kX S bt b iy,
  λ_ m _=>((Q.length:Int)-m).toNat,⟨0,0,S,pages,aP,bt,rfl,cM _,rfl,?_,.ext S (.refl _ _),rfl,.inl ⟨rfl,rfl⟩⟩,?_⟩
 .have e:er T (Q.take 0) ch=T:=ik.2 λt _=>by simp
  rw[e];exact h
 rintro _ _ X ⟨i,k,b,r,s,iy,rfl,hi,rfl,u,d5,n5,z⟩;have Z:fq (λq=>¬b.T.M q) X tl (Q.map aF.kv):=G.zA d5;refine⟨λaH=>?_,λJ=>?_⟩
 rotate_left
 .have J:=cE J
  have e:i=Q.length:=by omega
  subst e;rw[j5]at u⊢;exact⟨rfl,k,b,r,s,iy,u,d5,n5,z⟩
 have aH:=cj aH;have A:i<Q.length:=by omega
 have hx:=y _ (cP A);have aa:=h.ok _ hx;have o:Q.take (i+1)=Q.take i++ [Q[i]]:=j3 A;have ac:Q[i]∉Q.take i:=λad=>by
  have h1:(Q.take (i+1)).Nodup:=H.sublist (td _ _);rw[o]at h1;exact(s9.1 h1).2.2 _ ad _ (fj.2 rfl) rfl
 have p:(Q.take (i+1)).filter ch=(Q.take i).filter ch++if ch Q[i] then [Q[i]] else []:=by rw[o,gu,jg,rA]
 refine cx (λg w'=>∃ (k:Nat) (j:cf) (B C:O Nat) (lj:O aF),g=(((Q.take (i+1)).filter ch).length:Nat)/\db w0 w' bp d n l ab most j B C (er T (Q.take (i+1)) ch) lj (c+((Q.take (i+1)).filter ch).length)/\ek k S j w w'/\j.now=S.now/\kX S bt j lj) (λaA D=>?_) ?_
 rotate_left
 .rintro _ aB ⟨ag,j,B,C,lj,rfl,ai,d6,n6,al⟩
  rw[lA I];exact⟨⟨i+1,ag,j,B,C,lj,rfl,I,rfl,ai,d6,n6,al⟩,by show((Q.length:Int)-((i+1:Nat):Int)).toNat<((Q.length:Int)-(i:Nat)).toNat;omega⟩
 refine Ki Z A (λt ht=>h.ok t (y t ht)) λaC am tk cV aD K aE an ao E=>⟨λa=>(by cases a),λ_=>⟨_,ao.rd (aF.bF _),hf.1,((hf.2 Q[i] am (c5 d5.ah (af.cX (W:=λ_=>False) K) λ_ _ h=>h.elim)).use ?_)⟩⟩;rintro _ ap ⟨rfl,L⟩;have F:=K.trans L;refine⟨_,rfl,λa=>?_,λa=>?_⟩
 .have a:ch Q[i]=false:=by rwa[iK]at a
  rw[a]at p;rw[o,Kj a,←o,p,if_neg (by decide),fu]at D;exact D _ _ ⟨_,b,r,s,iy,rfl,u.ext F,d5.trans (.ext b F),n5,z⟩
 .have a:ch Q[i]=true:=by rwa[mg]at a
  rw[a,if_pos rfl]at p;have N:=cG ap;have x:=F.trans N;have P:=u.ext x;have ar:=k3 ch (Q.take i);rw[cz]at ar;refine aX ⟨λ_=>False,_,rfl,id,_,P.v.cell,id,tk,((an.ext L).ext N).cell,((P.del aa.k I (E.1.ext x) λq R=>⟨?_,(E.2.2 q R).1⟩).use ?_)⟩
  .have:=(E.2.2 q R).2
   have:=x.size;omega
  rintro _ aG ⟨rfl,aJ,au,av,aw,jn,U,d7,n7,ay⟩;refine⟨_,0,rfl,λa=>(by cases a),λ_=>?_⟩;rw[←Kk h.lD h.keys hx ac a,←o]at U;rw[lA I,show((Q.take i).filter ch).length+1=((Q.take (i+1)).filter ch).length by rw[p,cv];rfl];refine D _ _ ⟨_,au,av,aw,jn,rfl,?_,(d5.trans (.ext b x)).trans d7,n7.trans n5,z.trans ay⟩;rw[p,cv];exact U
end
def dm(now:Nat)(t:aF):al:=decide (t.u<=now)
section
variable {w0 w w' w1:J}{bp B:Nat->Prop}{d n ab most k c q i ck m:Nat}{l:eB}{S aE en:cf}{pages dQ aP fX:O Nat}{T au bt dB jA Q:O aF}{s b:Int}{p:br}{x t:aF}{ch:aF->al}{tl:ad}{fr:Key}{L:O aM}
theorem DW(h:fN T)(d:eW T fr≠ []):(eW T fr).getLast? =T.getLast? :=by
 obtain⟨x,hx⟩:=pL _ d;obtain⟨b,a⟩:=gr.1 hx;have c:T≠ []:=List.ne_nil_of_mem b;obtain⟨au,z,e⟩:∃au z,T=au++ [z]:=⟨T.dropLast,T.getLast c,(List.dropLast_concat_getLast c).symm⟩;subst e;have f:decide (dt fr z.kv.1)=true:=by
  rcases cO.1 b with h1|h1
  .have h2:=(mf.1 h).2.2 x h1 z (fj.2 rfl)
   exact dR (yg (cj a) (ic h2))
  .rw[fj.1 h1]at a;exact a
 unfold eW;rw[gu,jg,f];simp
theorem DX(h:fN T)(b:(eW T fr).length<=m):fY T (ct T fr m)=[]:=by
 unfold fY ct;rw[dC b];by_cases a:eW T fr=[]
 .rw[a];rfl
 .rw[DW h a]
  cases T.getLast? with
  |none=>rfl
  |some t=>simp
theorem DY(h:fN T)(h1:1<=m)(b:m<(eW T fr).length)(a:m-1<(ct T fr m).length):fY T (ct T fr m)=((ct T fr m)[m-1]'a).kv.1++ [0]:=by
 have c:(ct T fr m)[m-1]'a=(eW T fr)[m-1]'I:=m4 ..;have hlen:(ct T fr m).length=m:=by unfold ct;rw[cz];omega
 have d:(ct T fr m).getLast? =some ((eW T fr)[m-1]'I):=by
  rw[wZ,hlen,←c,dI a]
 have f:eW T fr≠ []:=λe=>by rw[e]at b;cases b
 have g:fN (eW T fr):=List.Pairwise.filter _ h;unfold fY;rw[d,c,←DW h f];show(if _ then _ else _)=_;rw[if_neg];intro e;rw[wZ,dI I]at e;have h2:=k1.1 g (m-1) ((eW T fr).length-1) I I I;rw[Option.some.inj e]at h2;exact jP _ h2
theorem Kn(T:O aF)(fr:Key):gV (T.map aF.kv) fr []=(eW T fr).map aF.kv:=by
 unfold gV eW;rw[List.filter_map];refine congrArg _ (oc λt _=>?_);show(decide (dt fr t.kv.1)&&(true||_))=_;rw[Bool.true_or,pI]
theorem fq.head(h:fq B w tl L)(g:m<=L.length):fq B w ⟨aZ tl.a 2 0 tl.cap,m-0,tl.cap-0⟩ (L.take m):=by
 have i:=h.len;obtain⟨ps,h1,h2,d,b⟩:=h;have c:=Src.Ji h1 h2 (cM m) (by have:=b.1;omega);have e:(ps.drop 0).take (m-0)=ps.take m:=by rw[iM,mY]
 rw[e]at c;exact⟨ps.take m,c,by show m-0<=tl.cap-0;omega,λq f=>d q (HH.1 f),b.take m⟩
theorem Ko{now:Nat}(b:Var w ck [.int .u64 (now:Nat)] 23)(t:aF):aI aj 105 #[.agg t.c.toArray,.pointer (some ck)] w (λv w'=>v=.bool (dm now t)/\Ext w w'):=by
 refine ae.Ft _ ck w _ ?_;(delta ae.r_ cr Y;dsimp only);refine ba (vs:=t.c) rfl λw1 d a _=>⟨_,B0 d,_,(b.ext a).cell,?_,a⟩;unfold dm
 congr 1
 rw[e0,cg,cg];omega
theorem Kp:h8 aj 105:=⟨_,(rm (show(Tryz.prog.funcs[105]?).isSome=true by kernel_rfl)).symm,by kernel_rfl,by kernel_rfl⟩
def stM(m:Int):Nat:=(min m 64).toNat
theorem Kq(h:db w0 w bp d n l ab most S pages aP T bt c)(hc:c<=9000){x:ad}{fr:Key}{now:Nat}{m:Int}(D:m<=9223372036854775807)(hf:Src 1 w x (az fr))(E:∀q,aB x q->q<w.heap.size/\¬S.T.M q):
 aI aj 45 #[.pointer (some ab),x,.int .u64 (now:Nat),m] w (λv w'=>∃t:ad,v=.tuple #[t,.int .i64 (((ct T fr (stM m)).filter (dm now)).length:Nat),(0:Int)]/\
  aT 1 5 w' t (az (fY T (ct T fr (stM m))))/\(∀q,aB t q->w.heap.size<=q)/\∃ (k:Nat) (aE:cf) (dQ fX:O Nat) (dB:O aF),db w0 w' bp d n l ab most aE dQ fX (er T (ct T fr (stM m)) (dm now)) dB (c+1+((ct T fr (stM m)).filter (dm now)).length)/\ek k S aE w w'/\aE.now=S.now/\kX S bt aE dB/\∀q,aB t q->¬aE.T.M q):=by
 refine okF (ae.uF (some ab) x (now:Nat) m) ax.uF func45 ?_;(delta ae.uF ak ew aq r1 iR Y bE gy;dsimp only);refine ba (vs:=[.int .u64 (now:Nat)]) rfl λw1 ac p aN=>⟨λb=>(by cases b),λ_=>⟨min m 64,w1,J0 _ _ _ _ _,λaH=>?_,λF=>?_⟩⟩
 .have aH:=cj aH
  have e:stM m=0:=by unfold stM;omega
  have af:ct T fr (stM m)=[]:=by unfold ct;rw[e,List.take_zero]
  have ag:er T [] (dm now)=T:=ik.2 λt _=>by simp
  rw[af,ag];exact⟨⟨none,0,0⟩,rfl,aT.none _ _ _,λq a=>(f_ q a).elim,0,S,pages,aP,bt,(h.ext p).mono I,.ext S p,rfl,.inl ⟨rfl,rfl⟩,λq a=>(f_ q a).elim⟩
 have F:=cE F;obtain⟨M,G⟩:∃M,M=stM m:=⟨_,rfl⟩;have ai:min m 64=(M:Int):=by rw[G];unfold stM;omega
 rw[←G,ai];have al:1<=M/\M<=64:=by omega
 rw[lA I];have h1:=h.ext p;refine⟨_,rfl,_,h1.v.cell,(h1.scan I (tt:=bI) (to:=[]) (hf.ext p) (λq a=>⟨by have:=(E q a).1;omega,(E q a).2⟩) (Jj w1) (λq a=>(f_ q a).elim) (by decide)).use ?_⟩;rintro _ H ⟨t6,y,rfl,J,d6,K,j⟩;rw[Kn,dc]at j;obtain⟨Q,g⟩:∃Q,Q=ct T fr M:=⟨_,rfl⟩;have am:¬y.W w.heap.size:=λr=>(d6.c6 _ r.1).elim (h.new _ (bk _)) λaO=>by omega
 have an:=ac.ah d6.ah λr=>h.new _ (bk _) r.1;have aQ:=d6.ah.size;have hlen:=j.len;rw[cz,dn]at hlen;have L:Q.map aF.kv=((eW T fr).map aF.kv).take M:=by rw[g];exact mc
 refine⟨t6,0,rfl,λb=>(by cases b),λ_=>rS (λs N w'=>Ext H w'/\fq (λq=>¬y.T.M q) w' N (Q.map aF.kv)/\aT 1 5 w' s (az (fY T Q))/\∀q,aB s q->H.heap.size<=q) (λaR P=>⟨λb=>?_,λb=>?_⟩) ?_⟩
 .have b:=cj b
  have B:M<(eW T fr).length:=by omega
  have C:=j.head (m:=M) (by rw[cz,dn];omega);rw[n1,h4 I,←L]at C;have aS:Q.length=M:=by rw[g];unfold ct;rw[cz];omega
  have R:M-1<Q.length:=by omega
  obtain⟨A,tk,cV,ar,ao,aW,_,b5,_⟩:=Du C (i:=M-1) (by rw[dn];exact R);rw[List.getElem_map]at b5;have ap:IntKind.wrap .i64 ((M:Int)-1)=((M-1:Nat):Int):=by rw[bq I I];omega
  rw[ap,dc];have aU:=j.choose_spec.2.1;refine⟨I,A,ar,ao,tk,aW,ba (vs:=[.int .u8 0]) rfl λaV au U aY=>aX ((BV (la:=Q[M-1].kv.1) (lb:=[0]) (b5.1.ext U) (au.qJ (o:=0) (n:=1) (c:=1) (l:=[0]) (by decide) rfl) ?_).use ?_)⟩
  .have av:cw Q[M-1].kv.1:=pE
   unfold cw at av;show _+1<=1000;omega
  rintro _ aZ ⟨aw,rfl,ay,aA,aC⟩;have V:=U.trans aA;refine⟨aw,rfl,P _ _ _ ⟨V,C.ext V,?_,λq a=>by have:=aC q a;omega⟩⟩;have e:fY T Q=Q[M-1].kv.1++ [0]:=by
   subst g;exact DY h.lD al.1 B R
  rw[e];exact ay
 .have b:=cE b
  have B:(eW T fr).length<=M:=by omega
  have e:fY T Q=[]:=by rw[g];exact DX h.lD B
  refine P _ _ _ ⟨.refl _ _,?_,?_,λq a=>(f_ q a).elim⟩
  .rw[L]
   rw[dC (by rw[dn];omega)]at j⊢;exact j
  .rw[e];exact aT.none _ _ _
 .rintro s N a0 ⟨z,aD,X,Z⟩
  have a1:=z.size;refine(Km (f:=⟨105,#[],#[.pointer (some w.heap.size)]⟩) (ch:=dm now) (J.ext z) I aD (λt ht=>?_) ?_ ⟨Kp,λt w' hc=>Ko ((an.ext z).ah hc am) t⟩).use ?_
  .rw[g]at ht
   exact(gr.1 (fC ht)).1
  .rw[g]
   exact(h.lD.nodup.filter _).sublist (td _ _)
  rintro _ a2 ⟨rfl,a3,aG,aJ,aK,jn,aL,d7,n7,aM⟩;rw[←g];have aa:∀q,aB s q->¬y.T.M q:=λq a=>J.new q (Z q a);exact⟨_,0,rfl,λb=>(by cases b),λ_=>⟨s,rfl,X.ah d7.ah λq a r=>aa q a r.1,λq a=>by have:=Z q a;omega,_,aG,aJ,aK,jn,aL,(((ek.ext S p).trans d6).trans (.ext y z)).trans d7,n7.trans K.now,kX.trans (.inl ⟨by rw[K.u],rfl⟩) aM,λq a D=>(d7.c6 q D).elim (aa q a) λa4=>by have:=X.lt q a;omega⟩⟩
end
theorem zG:∀ (k y:Key),dt (k++ [0]) y↔bo k y
 | [],[]=>by decide
 | [],c::y=>by
  unfold dt bo
  rw[hA,dJ,dJ]
  have h0:¬dJ y []<0:=by cases y<;>simp[dJ]
  have hc:¬c.toNat<(0:UInt8).toNat:=Nat.not_lt_zero _
  rw[if_neg hc]
  split
  .simp
  .simp[h0]
 |a::k,[]=>by simp[dt,bo,dJ]
 |a::k,c::y=>by
  have b:=zG k y
  unfold dt bo at b⊢
  rw[l8,dJ,dJ]
  rcases Nat.lt_trichotomy a.toNat c.toNat with h|h|h
  .simp[h,Nat.not_lt.2 (Nat.le_of_lt h)]
  .rw[if_neg I,if_neg I,if_neg I,if_neg I];exact b
  .simp[h,Nat.not_lt.2 (Nat.le_of_lt h)]
section
variable {T:O aF}{fr:Key}{a m:Nat}{st:aF->al}
theorem Kr(a b:O aF):er (er T a st) b st=er T (a++b) st:=by
 unfold er;rw[List.filter_filter];refine oc λt _=>?_;by_cases h1:t∈a<;>by_cases h2:t∈b<;>cases st t<;>simp[h1,h2]
theorem DZ{Q:O aF}(h:fN T):fN (er T Q st):=List.Pairwise.filter _ h
theorem Ks(h:fN T){b:Nat}(c:b<T.length):eW (er T (T.take (b+1)) st) (T[b].kv.1++ [0])=T.drop (b+1):=by
 unfold eW er;rw[List.filter_filter];have e:T=T.take (b+1)++T.drop (b+1):=(fK _ _).symm
 conv=>lhs;arg 2;rw[e]
 rw[gu];have h1:=wT h c;have aH:∀y∈T.take (b+1),¬bo T[b].kv.1 y.kv.1:=λy a=>by
  rw[j3 c]at a;rcases cO.1 a with a|a
  .exact jQ (h1.1 y a)
  .rw[fj.1 a];exact jP _
 rw[lI.2 λy a=>by simp[zG,aH y a],hA,ik.2 λy a=>?_];have d:y∉T.take (b+1):=λf=>aH y f (h1.2 y a);simp[zG,h1.2 y a,d]
structure pF(T:O aF)(st:aF->al)(a:Nat)(dH:O aF)(at_:Key):Prop where
 le:a<=T.length
 t:dH=er T (T.take a) st
 f:eW dH at_=T.drop a
theorem pF.step{dH:O aF}{at_:Key}(h:pF T st a dH at_)(i:fN T)(l:1<=m):ct dH at_ m=(T.drop a).take m/\er dH (ct dH at_ m) st=er T (T.take (a+m)) st/\
 ((T.length<=a+m/\fY dH (ct dH at_ m)=[])\/(a+m<T.length/\fY dH (ct dH at_ m)≠ []/\pF T st (a+m) (er dH (ct dH at_ m) st) (fY dH (ct dH at_ m)))):=by
 have c:ct dH at_ m=(T.drop a).take m:=by unfold ct;rw[h.f]
 have e:er dH (ct dH at_ m) st=er T (T.take (a+m)) st:=by rw[c,h.t,Kr,←List.take_add]
 have j:fN dH:=by rw[h.t];exact DZ i
 refine⟨c,e,?_⟩;rcases dX (a+m) T.length with d|d
 .right
  have hlen:m<(eW dH at_).length:=by rw[h.f,eg];omega
  have k:m-1<(ct dH at_ m).length:=by rw[c,cz,eg];omega
  have g:=DY j l hlen k;have n:(ct dH at_ m)[m-1]'k=T[a+m-1]'I:=by
   simp only[c,m4,ru]
   congr 1;omega
  rw[n]at g;refine⟨d,by rw[g];simp,Nat.le_of_lt d,e,?_⟩;rw[e,g];have o:=Ks (st:=st) i (b:=a+m-1) I;rwa[show a+m-1+1=a+m from I]at o
 .exact .inl ⟨d,DX j (by rw[h.f,eg];omega)⟩
theorem pF.begin(a:fN T):pF T st 0 T []:=by
 refine⟨cM _,?_,?_⟩
 .unfold er
  exact(ik.2 λt _=>by simp).symm
 .unfold eW
  rw[iM];exact ik.2 λt _=>dR (by unfold dt;cases t.kv.1<;>simp[dJ])
theorem D1(b:T.length<=a):er T (T.take a) st=T.filter λt=> !st t:=by
 unfold er;rw[dC b];exact oc λt ht=>by simp[ht]
end
section
variable {B:Nat->Prop}{w w':J}{s:ad}{T:O aF}{t:aF}{aR i most:Nat}
theorem Kt(h:aT 21 57 w s (bn aF.c T))(hi:i<T.length)(t:aF):∃A:ag,s.a=some A/\((0:Int)<=(i:Int)/\(i:Int)<(s.len:Int))/\bJ w (A.add (Int.toNat (i:Int)*21)) (Array.toList t.c.toArray)/\Array.size t.c.toArray=21/\
 aT 21 57 (setCells w (A.add (Int.toNat (i:Int)*21)) 0 (Array.toList t.c.toArray)) s (bn aF.c (T.set i t))/\af (aB s) w (setCells w (A.add (Int.toNat (i:Int)*21)) 0 (Array.toList t.c.toArray)):=by
 obtain⟨h1,h2,k,m⟩:=h;have r:s.len=T.length:=by rw[fe _ (kA T)]at h1;omega
 rcases m with ⟨_,hc⟩|⟨b,c,d,f,n,ht⟩
 .omega
 have g:=t.bF;have j:i*21+t.c.length<=c.size:=by omega
 rw[dc];refine⟨_,d,I,?_,by simp[g],?_,?_⟩
 .rw[aA,cR]
  exact f.cn _ _ j (aF.plain t)
 .rw[aA,cR]
  refine⟨?_,h2,k,.inr ⟨b,_,d,bj.lf f t.c,by rw[h_];exact n,?_⟩⟩
  .rw[fe _ (kA _),dr];omega
  .rw[ld _ _ _ j,wY,if_pos hi,lu]
   show _=_++(t.c++bn aF.c (T.drop (i+1)));have o:=sW (c:=aF.c) (sz:=21) T i (kA T);have p:=sW (c:=aF.c) (sz:=21) T (i+1) (kA T);rw[←o.1,←p.2,←ht,n1,h4 I,cD,tf,tf,cz,Array.length_toList,h4 I,dC (l:=c.toList.take _) (by rw[cz];omega),dC (l:=t.c) I,List.drop_take];rw[g,show s.len*21-i*21-21=s.len*21-(i+1)*21 from I,show i*21+21=(i+1)*21 from I]
 .rw[aA,cR]
  refine(af.jJ (b:=b) (.refl _ _) _ 0).mono λq _ e=>?_;rw[e];exact⟨_,d,rfl⟩
theorem Ku(h:fA B w aR (most:Nat) s T)(a4:T.length<=1000000)(az:∀q,w.heap.size<=q->B q)(V:fN T)(W:∀t∈T,dN t.s t.p=true)(t:aF):
 aI aj 44 #[.pointer (some aR),.agg t.c.toArray] w (λv w'=>v=.int .i64 (iI T most t)/\af (λq=>q=aR) w w'/\∃g,fA B w' aR (most:Nat) g (kB T most t)):=by
 have aB:=h.len;have hc:=h.c;have bm:=h.v.lt;refine ae.FO (some aR) _ w _ ?_;(delta ae.sq Y b8 ak aG bP r1 aO st bE aq lj uf;dsimp only);refine ba (vs:=t.c) rfl λw1 aC a5 bp=>⟨t.c,aC.rd (aF.bF t),(nw t w1).use ?_⟩;rintro _ y ⟨rfl,aD⟩;have D:=a5.trans aD;refine⟨_,rfl,λd=>?_,λd=>?_⟩
 .have hg:t.ej=false:=by rwa[iK]at d
  have e:iI T most t=1:=by unfold iI;rw[hg];rfl
  unfold kB;rw[e];exact⟨rfl,af.cX D,s,h.ext D⟩
 have hg:t.ej=true:=by rwa[mg]at d
 have X:dN t.s t.p=true:=by have:=hg;unfold aF.ej at this;rw[c8]at this;exact this.1
 have Z:=aC.ext aD;have he:iI T most t=if (T.find? (ep t.s t.p)).isSome then 0 else if most<=T.length then 2 else 0:=by unfold iI;rw[hg,if_pos rfl]
 refine⟨_,Z.cell,_,qT Z,(JD (h.v.ext D) (h.gp.ext D) a4).use ?_⟩;rintro _ z ⟨rfl,aE⟩;have E:=D.trans aE;have L:=h.ext E;have aJ:=Z.ext aE;have bq:=E.size;refine⟨_,rfl,λF=>?_,λaH=>?_⟩
 .have F:=cj F
  obtain⟨i,hf⟩:∃i,T.findIdx? (ep t.s t.p)=some i:=by
   cases hf:T.findIdx? (ep t.s t.p) with
   |some i=>exact⟨i,rfl⟩
   |none=>unfold pB at F;rw[hf]at F;exact absurd F (by decide)
  have e:pB T t.s t.p=(i:Int):=by unfold pB;rw[hf]
  obtain⟨hi,a6⟩:=Kb V hf;have hs:(T.find? (ep t.s t.p)).isSome=true:=by
   rw[List.find?_isSome];exact⟨T[i],cP hi,(List.findIdx?_eq_some_iff_getElem.1 hf).2.1⟩
  rw[hs,if_pos rfl]at he;rw[e,he];have f0:=DD z;obtain⟨ab,ac,aw,ay,C,br,bs,_⟩:=gE.app (cF:=22) wQ f0 (L.gp.ext f0.x) (zw T) (by show(2*(0+s.len)+1000)*56<=_;omega);rw[hA]at C;have a7:=aJ.ext C.x;obtain⟨A,ar,ah,b5,cp,a9,a_⟩:=Kt C.o hi t;have ai:Ext z (setCells ac (A.add (Int.toNat (i:Int)*21)) 0 (Array.toList t.c.toArray)):=Ext.dT C.x a_ C.f;have bb:gE 21 57 z (setCells ac (A.add (Int.toNat (i:Int)*21)) 0 (Array.toList t.c.toArray)) ab (bn aF.c (T.set i t)):=⟨a9,ai,C.f⟩;obtain⟨bl,bf,al,am⟩:=L.put ai bb λq l=>az q I;refine⟨_,_,wP z,_,rfl,s,by rw[aA];exact(L.v.ext f0.x).cell,ab,ac,aw,t.c,a7.rd (aF.bF t),A,ar,ah,b5,cp,aX ⟨_,rfl,bl,bf,aX ⟨rfl,?_,ab,?_⟩⟩⟩
  .exact c5 (af.cX (E.trans ai)) am λq _ e=>e
  .unfold kB
   rw[he,if_pos rfl,←a6];exact al
 have aH:=cE aH;have hf:T.findIdx? (ep t.s t.p)=none:=by
  cases hf:T.findIdx? (ep t.s t.p) with
  |none=>rfl
  |some i=>unfold pB at aH;rw[hf]at aH;dsimp only at aH;omega
 have hs:(T.find? (ep t.s t.p)).isSome=false:=by
  rw[←ft,List.find?_isSome];rintro⟨x,hx,d⟩;have:=List.findIdx?_eq_none_iff.1 hf x hx;rw[d]at this;cases this
 rw[hs,if_neg (by decide)]at he;have M:=cG z;have an:=L.ext M;refine aX ⟨_,rfl,id,s,by rw[aA];exact an.v.cell,_,rfl,id,_,an.v.cell,λd=>?_,λd=>?_⟩
 .have d:=cj d
  rw[if_pos I]at he;unfold kB;rw[he];exact⟨rfl,af.cX (E.trans M),s,an⟩
 have d:=cE d;rw[if_neg I]at he;have aK:∀x:aF,dN x.s x.p=true->mQ x.s x.p=x.kv.1:=λx hx=>by unfold mQ;rw[if_pos hx];rfl
 have aL:∀x:aF,x.kv.1.length<=1000000:=λx=>by have N:cw x.kv.1:=pE;unfold cw at N;omega
 have aM:∀ (b:J) (i:Nat) (g:ad) (y:J),Ext w b->T.take i++t::T.drop i=g7 T t->gE 21 57 b y g (bn aF.c (T.take i)++t.c++bn aF.c (T.drop i))->
  ∃O:ag,some (aR:ag)=some O/\(∃u:aa,y.cell? (O.add 1)=some u)/\y.frozen? (O.add 1)=false/\ao (y.setCell (O.add 1) g) λaN=>(Value.int .i64 0=.int .i64 (iI T most t)/\af (λq=>q=aR) w aN/\∃g,fA B aN aR (most:Nat) g (kB T most t)):=λb i g y hx l hf=>by
  have e:bn aF.c (T.take i)++t.c++bn aF.c (T.drop i)=bn aF.c (g7 T t):=by rw[←l,lu,cD];rfl
  rw[e]at hf;have aP:=hx.size;obtain⟨bl,bf,al,am⟩:=(h.ext hx).put hf.x hf λq l=>az q I;refine⟨_,rfl,bl,bf,aX ⟨by rw[he],c5 (af.cX (hx.trans hf.x)) am λq _ e=>e,g,?_⟩⟩;unfold kB;rw[he,if_pos rfl];exact al
 have aQ:∀ {b:J} (i:Nat),Ext w b->i<=T.length->Src 21 b ⟨aZ s.a 21 0 s.cap,i-0,s.cap-0⟩ (bn aF.c (T.take i))/\Src 21 b ⟨aZ s.a 21 i s.cap,s.len-i,s.cap-i⟩ (bn aF.c (T.drop i)):=λ{b} i hx hi=>by
  have a1:=Src.cut ((h.ext hx).gp) hc (cM i) I;have a2:=Src.cut ((h.ext hx).gp) hc (lo:=i) (hi:=s.len) I (bk _);rw[JF T i hi]at a1;rw[aB,JG T i hi,←aB]at a2;exact⟨a1,a2⟩
 have P:∀i,(∀v∈bn aF.c (T.take i),Plain v)/\∀v∈bn aF.c (T.drop i),Plain v:=λi=>⟨zw _,zw _⟩;refine⟨λn w'=>∃i:Nat,n=(i:Int)/\i<=T.length/\Ext z.drew w'/\∀a∈T.take i,bo a.kv.1 t.kv.1,λn _=>((T.length:Int)-n).toNat,⟨0,rfl,cM _,.refl _ _,λa k=>by simp at k⟩,?_⟩;rintro _ aS ⟨i,rfl,hi,bc,ap⟩;have Q:=bc.trans (cG aS);have R:=(E.trans M).trans Q;have S:=h.ext R;have U:=(aJ.ext M).ext Q;refine aX ?_;generalize aS.drew=au at Q R S U;refine⟨λ_=>False,_,rfl,id,s,by rw[aA];exact S.v.cell,λG=>?_,λG=>⟨λd=>(by cases d),λ_=>?_⟩⟩
 .have G:=cj G
  have av:i<T.length:=by omega
  obtain⟨A,ar,ah,_,_,bd⟩:=q_ S.gp av;refine⟨_,rfl,id,s,by rw[aA];exact S.v.cell,A,ar,ah,id,_,bd,id,t.c,U.rd (aF.bF t),(mC T[i] au).use ?_⟩;rintro _ be ⟨bg,rfl,aT,aU,_⟩;refine⟨bg,rfl,af.cX aU,(mC t be).use ?_⟩;rintro _ bt ⟨bh,rfl,aV,aY,_⟩;rw[aK _ (W _ (cP av))]at aT;rw[aK _ X]at aV;refine⟨bh,rfl,(oX (aT.src.ext aY) aV.src (aL _) (aL _)).use ?_⟩;rintro _ a0 ⟨n,rfl,a3,bi⟩;have ax:=(aU.trans aY).trans bi;refine⟨n,rfl,λm=>?_,λm=>?_⟩
  .have m:=a3.1 (cj m)
   rw[lA I];refine⟨⟨i+1,rfl,I,Q.trans ax,λa k=>?_⟩,by show((T.length:Int)-((i+1:Nat):Int)).toNat<((T.length:Int)-(i:Nat)).toNat;omega⟩;rw[j3 av]at k;rcases cO.1 k with k|k
   .exact ap a k
   .rw[fj.1 k];exact m
  .have m:¬bo T[i].kv.1 t.kv.1:=λN=>cE m (a3.2 N)
   have l:=DQ V W X hf hi ap λ_=>m;have H:=cG a0;have j:=(R.trans ax).trans H;have r:=(U.ext ax).ext H;refine aX ?_;generalize a0.drew=b at j r;have K:=h.ext j;have aP:=j.size;have bj:=r.lt;obtain⟨aW,a8⟩:=aQ i j hi;refine⟨λq=>b.heap.size<=q,_,rfl,by rw[aA];show¬b.heap.size<=aR;omega,s,by rw[aA];exact K.v.cell,I,by show¬b.heap.size<=w.heap.size;omega,t.c,r.rd (aF.bF t),_,rfl,by rw[aA];show¬b.heap.size<=aR;omega,s,by rw[aA];exact K.v.cell,I,?_⟩;rw[dc];exact Ct (x:=t.c) wQ wP (λw=>zv w t) (aF.bF t) aW a8 (aF.plain t) (P i).1 (P i).2 (by show(2*((i-0)+(s.len-i)+1)+1000)*56<=_;omega) (λg w' hf=>aM b i g w' j l hf)
 .have G:=cE G
  have bu:i=T.length:=by omega
  have l:=DQ V W X hf hi ap λN=>by omega
  have H:=cG au;have j:=R.trans H;have r:=U.ext H;refine aX ?_;generalize au.drew=b at j r;have K:=h.ext j;have aP:=j.size;have bj:=r.lt;obtain⟨aW,a8⟩:=aQ i j hi;refine⟨λq=>b.heap.size<=q,_,rfl,by rw[aA];show¬b.heap.size<=aR;omega,s,by rw[aA];exact K.v.cell,I,by show¬b.heap.size<=w.heap.size;omega,t.c,r.rd (aF.bF t),_,rfl,by rw[aA];show¬b.heap.size<=aR;omega,s,by rw[aA];exact K.v.cell,I,?_⟩;rw[dc];exact Ct (x:=t.c) wQ wP (λw=>zv w t) (aF.bF t) aW a8 (aF.plain t) (P i).1 (P i).2 (by show(2*((i-0)+(s.len-i)+1)+1000)*56<=_;omega) (λg w' hf=>aM b i g w' j l hf)
end
section
variable {B:Nat->Prop}{w w':J}{s:ad}{T:O aF}{t:aF}{aR i:Nat}{most:Int}{fr:Key}
theorem aT.block{sz q:Nat}{gQ:TypeId}{vs:O aa}(h:aT sz gQ w s vs)(a:aB s q):∃c,bj w q c gQ:=by
 obtain⟨A,ar,rfl⟩:=a;rcases h.2.2.2 with ⟨d,_⟩|⟨b,c,e,f,_⟩
 .rw[d]at ar;cases ar
 .rw[e]at ar;cases ar
  exact⟨c,f⟩
theorem D2(h:fN T)(hi:i<T.length):T.getLast? =some T[i]↔i+1=T.length:=by
 rw[wZ,dI I];constructor
 .intro e
  have e:=Option.some.inj e;rcases dX i (T.length-1) with h1|h1
  .have h2:=k1.1 h i (T.length-1) hi I h1
   rw[e]at h2;exact absurd h2 (jP _)
  .omega
 .intro e
  congr 2
  omega
theorem Kv(h:fA B w aR most s T)(bp:T.length<=1000000)(aY:∀q,w.heap.size<=q->B q)(O:fN T)(E:∀t∈T,dN t.s t.p=true){P:ad}(hf:Src 1 w P (az fr))(aZ:fr.length<=1000000){now:Nat}{m:Int}:
 aI aj 47 #[.pointer (some aR),P,.int .u64 (now:Nat),m] w (λv w'=>∃t:ad,v=.tuple #[t,.int .i64 (((ct T fr (stM m)).filter (dm now)).length:Nat)]/\aT 1 5 w' t (az (fY T (ct T fr (stM m))))/\(∀q,aB t q->w.heap.size<=q)/\
  af (λq=>q=aR) w w'/\∃a0,fA B w' aR most a0 (er T (ct T fr (stM m)) (dm now))):=by
 have br:=h.len;have bs:=h.v.lt;have a1:∀x:aF,dN x.s x.p=true->mQ x.s x.p=x.kv.1:=λx hx=>by unfold mQ;rw[if_pos hx];rfl
 have al:∀x:aF,x.kv.1.length<=1000000:=λx=>by have z:cw x.kv.1:=pE;unfold cw at z;omega
 obtain⟨M,F⟩:∃M,M=stM m:=⟨_,rfl⟩;rw[←F];obtain⟨Q,am⟩:∃Q,Q=ct T fr M:=⟨_,rfl⟩;have a2:∀i,(ct (T.take i) fr M).length<=M/\M<=64:=λi=>⟨by unfold ct;rw[cz];omega,by rw[F];unfold stM;omega⟩;refine okF (ae.vE (some aR) P (now:Nat) m) ax.vE func47 ?_;(delta ae.vE ak Y r1 lQ bE bP iR aq aO cr st;dsimp only);have f0:=DD w;refine⟨⟨some w.heap.size,0,0⟩,_,wP w,aX (cx (λn5 w'=>(∀k:Nat,decide ((k:Int)<n5)=decide (k<M))/\(w.alloc (.cells #[] 57)).alloc (.cells #[] 5)=w') (λk E=>⟨λa=>E _ _ ⟨λk=>?_,rfl⟩,λa=>E _ _ ⟨λk=>?_,rfl⟩⟩) ?_)⟩
 .have:=cj a
  rw[e0,cg,cg,F];unfold stM;omega
 .have:=cE a
  rw[e0,cg,cg,F];unfold stM;omega
 rintro n5 _ ⟨a3,rfl⟩;have an:Ext (w.alloc (.cells #[] 57)) ((w.alloc (.cells #[] 57)).alloc (.cells #[] 5)):=c4 _ _;have bt:w.heap.size<=(w.alloc (.cells #[] 57)).heap.size:=f0.x.size;refine⟨λj r n11 n12 n13 w'=>∃i:Nat,n13=(i:Int)/\i<=T.length/\n11=((ct (T.take i) fr M).length:Nat)/\n12=(((ct (T.take i) fr M).filter (dm now)).length:Nat)/\gE 21 57 w w' j (bn aF.c (er (T.take i) Q (dm now)))/\aT 1 5 w' r (az (fY T (ct (T.take i) fr M)))/\∀q,aB r q->w.heap.size<=q,
  λ_ _ _ _ n _=>((T.length:Int)-n).toNat,⟨0,rfl,cM _,by simp[ct,eW],by simp[ct,eW],⟨f0.o.ext an,f0.x.trans an,f0.f⟩,?_,λq l=>by have:=zB l;omega⟩,?_⟩
 .have e:fY T (ct (T.take 0) fr M)=[]:=by simp[ct,eW,fY]
  rw[e];exact aT.new _ [] 0 rfl (by decide)
 rintro j r _ _ _ G ⟨i,rfl,hi,rfl,rfl,g,R,S⟩;have C:=h.ext g.x;refine⟨_,rfl,s,by rw[aA];exact C.v.cell,λaH=>?_,λao=>?_⟩
 rotate_left
 .have ao:=cE ao
  have e:i=T.length:=by omega
  subst e;rw[j5]at g R⊢;rw[am]at g;obtain⟨bl,bf,a4,ap⟩:=h.put g.x g aY;exact⟨_,rfl,bl,bf,aX ⟨r,rfl,R.ah ap λq l e=>by have:=S q l;omega,S,c5 (af.cX g.x) ap λq _ e=>e,j,a4⟩⟩
 have u:i<T.length:=by have:=cj aH;omega
 obtain⟨A,ar,a5,_,_,a6⟩:=q_ C.gp u;have a7:=E _ (cP u);obtain⟨D,U⟩:=Kc (m:=M) (fr:=fr) O u;rw[←am]at U;have a8:T.take (i+1)=T.take i++ [T[i]]:=j3 u;refine ER (λj r n11 n12 w'=>n11=((ct (T.take (i+1)) fr M).length:Nat)/\n12=(((ct (T.take (i+1)) fr M).filter (dm now)).length:Nat)/\gE 21 57 w w' j (bn aF.c (er (T.take (i+1)) Q (dm now)))/\aT 1 5 w' r (az (fY T (ct (T.take (i+1)) fr M)))/\∀q,aB r q->w.heap.size<=q) (λbu au=>?_) ?_
 rotate_left
 .rintro j r _ _ w' ⟨rfl,rfl,h1,h2,V⟩
  rw[lA I];exact⟨⟨i+1,rfl,I,rfl,rfl,h1,h2,V⟩,by show((T.length:Int)-((i+1:Nat):Int)).toNat<((T.length:Int)-(i:Nat)).toNat;omega⟩
 refine⟨_,rfl,s,by rw[aA];exact C.v.cell,A,ar,a5,_,a6,(mC T[i] G).use ?_⟩;rintro _ bv ⟨a9,rfl,W,av,aC⟩;rw[a1 _ a7]at W;refine⟨a9,rfl,(oX W.src (hf.ext (g.x.trans av)) (al _) aZ).use ?_⟩;rintro _ bw ⟨n27,rfl,a_,aD⟩;have H:=av.trans aD;have ba:((decide (n27>=0))&&(decide ((((ct (T.take i) fr M).length:Nat):Int)<n5)))=decide (T[i]∈Q):=by
  rw[U,a3]
  congr 1
  rw[e0,cg,cg];unfold dt;rw[show(dJ T[i].kv.1 fr<0)=bo T[i].kv.1 fr from rfl,←a_];omega
 refine⟨n27,rfl,?_⟩;rw[ba];rw[←U]at D;obtain⟨d,aE⟩:∃d,d=decide (T[i]∈Q):=⟨_,rfl⟩;rw[←aE]at D⊢;have bx:=g.x.size;have bz:=H.size;have hlen:(ct (T.take (i+1)) fr M).length=if d then (ct (T.take i) fr M).length+1 else (ct (T.take i) fr M).length:=by
  rw[D];cases d<;>simp
 have aG:((ct (T.take (i+1)) fr M).filter (dm now)).length=if d&&dm now T[i] then ((ct (T.take i) fr M).filter (dm now)).length+1 else ((ct (T.take i) fr M).filter (dm now)).length:=by
  rw[D]
  cases d
  .rfl
  .rw[if_pos rfl,gu,jg,rA]
   cases dm now T[i]<;>simp
 have aJ:fY T (ct (T.take (i+1)) fr M)=if d then (if i+1=T.length then [] else T[i].kv.1++ [0]) else fY T (ct (T.take i) fr M):=by
  rw[D]
  cases d
  .rfl
  .rw[if_pos rfl,if_pos rfl]
   unfold fY;rw[List.getLast?_concat];show(if _ then _ else _)=_;by_cases e:i+1=T.length
   .rw[if_pos e,if_pos ((D2 O u).2 e)]
   .rw[if_neg e,if_neg λz=>e ((D2 O u).1 z)]
 have aK:er (T.take (i+1)) Q (dm now)=er (T.take i) Q (dm now)++if d&&dm now T[i] then [] else [T[i]]:=by
  unfold er;rw[a8,gu,jg,rA,←aE]
  cases d&&dm now T[i]<;>rfl
 have bA:=a2 i;refine rS (λX n33 w'=>Ext G w'/\n33=((ct (T.take (i+1)) fr M).length:Nat)/\aT 1 5 w' X (az (if d then T[i].kv.1++ [0] else fY T (ct (T.take i) fr M)))/\∀q,aB X q->w.heap.size<=q) (λbB aL=>⟨λa=>?_,λa=>aL _ _ _ ⟨H,?_,?_,S⟩⟩) ?_
 .obtain⟨bb,aM,aw,ay,Z,bc⟩:=Bs (c:=0) (W.ext aD) (al _)
  have aa:Ext G aM:=Ext.dT H Z aC;refine aX ⟨bb,aM,aw,aL _ _ _ ⟨aa,?_,?_,λq l=>?_⟩⟩
  .rw[lA I,hlen,if_pos a]
  .rw[if_pos a];exact ay
  .rcases bc q l with z|z
   .have:=aC q z;omega
   .omega
 .rw[hlen,a];rfl
 .rw[a];exact R.ext H
 rintro X _ bd ⟨J,rfl,aN,be⟩;have bg:=C.ext J;refine cx (λab w'=>Ext G w'/\aT 1 5 w' ab (az (fY T (ct (T.take (i+1)) fr M)))/\∀q,aB ab q->w.heap.size<=q) (λbC aP=>cx (λb w'=>b=(d&&decide (i+1=T.length))/\bd=w') (λbD aQ=>⟨λa=>⟨_,rfl,s,by rw[aA];exact bg.v.cell,aQ _ _ ⟨?_,rfl⟩⟩,λa=>aQ _ _ ⟨by rw[a];rfl,rfl⟩⟩) ?_) ?_
 .rw[a,g0,e0,j4,cg,bq I I];omega
 .rintro _ _ ⟨rfl,rfl⟩
  refine⟨λa=>aX (aP _ _ ⟨J.trans (c4 _ _),?_,λq l=>?_⟩),λa=>aP _ _ ⟨J,?_,be⟩⟩
  .rw[c8,cg]at a
   rw[aJ,if_pos a.1,if_pos a.2];exact aT.new _ [] 0 rfl (by decide)
  .have:=zB l
   have:=J.size;omega
  .rw[aJ]
   cases d
   .exact aN
   .rw[if_pos rfl,if_neg (by simpa using a)]
    exact aN
 rintro ab y ⟨ac,ag,aS⟩;have K:=C.ext ac;obtain⟨mu,ai,aU,_,_,bh⟩:=q_ K.gp u;refine cx (λb w'=>b=(d&&dm now T[i])/\y=w') (λbG aV=>⟨λa=>⟨_,rfl,s,by rw[aA];exact K.v.cell,mu,ai,aU,_,JE K.gp u ai,aV _ _ ⟨?_,rfl⟩⟩,λa=>aV _ _ ⟨by rw[a];rfl,rfl⟩⟩) ?_
 .rw[a,g0]
  unfold dm;rw[e0,cg,cg];omega
 rintro _ _ ⟨rfl,rfl⟩;have bH:=k3 (dm now) (ct (T.take i) fr M);have L:gE 21 57 w y j (bn aF.c (er (T.take i) Q (dm now))):=⟨g.o.ext ac,g.x.trans ac,g.f⟩;refine⟨λa=>?_,λa=>?_⟩
 .rw[lA I]
  refine au _ _ _ _ _ ⟨rfl,by rw[aG,if_pos a],?_,ag,aS⟩;rw[aK,if_pos a,fu];exact L
 .have N:Ext y (y.alloc (.cells T[i].c.toArray 57)):=c4 _ _
  have aW:gE 21 57 w (y.alloc (.cells T[i].c.toArray 57)) j (bn aF.c (er (T.take i) Q (dm now))):=⟨L.o.ext N,L.x.trans N,L.f⟩;have bI:j.len<=1000000:=by
   have V:=g.o.1;have bi:(er (T.take i) Q (dm now)).length<=(T.take i).length:=k3 _ _;rw[fe _ (kA _)]at V;rw[cz]at bi;omega
  obtain⟨bj,bk,aw,ay,Z,_,aa,_⟩:=gE.app (cF:=22) wQ aW (Src.new (T:=57) y T[i].c 1 (T[i].bF)) (aF.plain _) (by show(2*(j.len+1)+1000)*56<=_;omega);refine⟨_,rfl,s,by rw[aA];exact K.v.cell,mu,ai,aU,_,bh,⟨some y.heap.size,1,1⟩,_,zv y T[i],bj,bk,aw,au _ _ _ _ _ ⟨rfl,by rw[aG,a];rfl,?_,(ag.ext N).ah aa λq l bm=>?_,aS⟩⟩
  .rw[aK,a,if_neg (by decide),lu]
   have e:bn aF.c [T[i]]=T[i].c:=by simp[bn]
   rw[e];exact Z
  .obtain⟨c,hc⟩:=aT.block aW.o bm
   exact absurd ((ag.ext N).Fc l hc) (by decide)
end
section
variable {w0 w w' w1:J}{bp bO:Nat->Prop}{d n ab aR most k c q:Nat}{l:eB}{S aE en:cf}{pages dQ aP fX:O Nat}{T au bt dB jA:O aF}{s:ad}
theorem db.grow(h:db w0 w bp d n l ab most S pages aP T bt c)(hx:Ext w w')(a:∀q,bO q->bp q\/(w.heap.size<=q/\q<w'.heap.size))(b:bO ab):db w0 w' bO d n l ab most (S.own bO) pages aP T bt c:=
 ⟨h.s.grow hx a,h.live,h.q,b,h.v.ext hx,h.ok,h.DR,h.wV,h.DS,h.eS,h.hZ,h.bX,h.lD⟩
theorem db.ja(h:db w0 w bp d n l ab most S pages aP T bt c)(a:bp q)(b:ab≠q)(hc:af (λx=>x=q) w w'):db w0 w' bp d n l ab most S pages aP T bt c:={h with s:=h.s.ja a hc,v:=h.v.ah hc b}
theorem fA.zA{m:Int}(h:fA (λq=>¬S.T.M q) w aR m s T)(hd:ek k S aE w w')(he:S.T.E aR/\aR≠S.st):fA (λq=>¬aE.T.M q) w' aR m s T:=
 ⟨h.v.ah hd.ah λd=>he.2 (d.2 he.1),h.gp.ah hd.ah λq a d=>(h.b q a).1 d.1,h.c,λq a=>⟨λe=>(hd.c6 q e).elim (h.b q a).1 λg=>by have:=(h.b q a).2;omega,by have:=(h.b q a).2;have:=hd.ah.size;omega⟩,λf=>f (.inr (.inr (.inr (.inl (by rw[hd.E];exact he.1)))))⟩
structure gR(w0 w:J)(bp:Nat->Prop)(d n:Nat)(l:eB)(ab aR most:Nat)(S:cf)(T bt:O aF)(c:Nat):Prop where
 a:∃pages aP,db w0 w bp d n l ab most S pages aP T bt c
 ra:bp aR
 ne:ab≠aR
 m:∃s,fA (λq=>¬S.T.M q) w aR (most:Nat) s T
structure g8(aR:Nat)(S:cf)(bt:O aF)(w:J)(aE:cf)(dB:O aF)(w':J):Prop where
 now:aE.now=S.now
 g:kX S bt aE dB
 ah:af (λq=>S.W q\/q=aR) w w'
 c6:∀q,aE.T.M q->S.T.M q\/w.heap.size<=q
 E:aE.T.E=S.T.E
 st:aE.st=S.st
theorem g8.ext(hx:Ext w w'):g8 aR S bt w S bt w':=⟨rfl,.inl ⟨rfl,rfl⟩,af.cX hx,λ_ h=>.inl h,rfl,rfl⟩
theorem g8.of(hd:ek k S aE w w')(a:aE.now=S.now)(hg:kX S bt aE dB):g8 aR S bt w aE dB w':=⟨a,hg,hd.ah.mono λ_ _ h=>.inl h,hd.c6,hd.E,hd.st⟩
theorem g8.trans{c:cf}{d:O aF}{e:J}(h:g8 aR S bt w aE dB w')(a:g8 aR aE dB w' c d e):g8 aR S bt w c d e:=
 ⟨a.now.trans h.now,h.g.trans a.g,c5 h.ah a.ah λq f b=>b.imp (λb=>⟨(h.c6 q b.1).resolve_right I,λhe=>by rw[←h.st];exact b.2 (by rw[h.E];exact he)⟩) id,λq f=>(a.c6 q f).elim (h.c6 q) λi=>.inr (eG h.ah.size i),a.E.trans h.E,a.st.trans h.st⟩
theorem g8.zH(h:g8 aR S bt w aE dB w'){a:J}(hc:af (λq=>q=aR) w' a):g8 aR S bt w aE dB a:={h with ah:=h.ah.trans (hc.mono λ_ _ h=>.inr h)}
theorem gR.ext(h:gR w0 w bp d n l ab aR most S T bt c)(hx:Ext w w'):gR w0 w' bp d n l ab aR most S T bt c:=by
 obtain⟨⟨cH,p,h1⟩,h2,a,s,b⟩:=h;exact⟨⟨cH,p,h1.ext hx⟩,h2,a,s,b.ext hx⟩
theorem gR.mono{e:Nat}(h:gR w0 w bp d n l ab aR most S T bt c)(he:c<=e):gR w0 w bp d n l ab aR most S T bt e:=by
 obtain⟨⟨cH,p,h1⟩,h2,a,b⟩:=h;exact⟨⟨cH,p,h1.mono he⟩,h2,a,b⟩
theorem gR.lC(h:gR w0 w bp d n l ab aR most S T bt c):S.T.E aR/\aR≠S.st:=by
 obtain⟨⟨cH,p,h1⟩,h2,_⟩:=h;exact h1.s.lC h2
theorem gR.whole{s:ad}(h:db w0 w bp d n l ab most S pages aP T bt c)(he:bp aR)(a:ab≠aR)(hc:af (λq=>q=aR) w w')(b:fA (λq=>¬S.T.M q) w' aR (most:Nat) s T):gR w0 w' bp d n l ab aR most S T bt c:=⟨⟨pages,aP,h.ja he a hc⟩,he,a,s,b⟩
end
section
variable {w0 w w' w1:J}{bp bO:Nat->Prop}{d n ab aR most k c q:Nat}{l:eB}{S aE en:cf}{pages dQ aP fX:O Nat}{T au bt dB jA:O aF}
theorem o4{most b:Nat}(o:1<=most/\most<=350)(f:b<256)(w:J):aI aj 36 #[most,.int .u8 (b:Nat)] w (λv w'=>∃ (ab d:Nat) (S:cf),v=.tuple #[.pointer (some ab),.pointer (some d),true]/\db w w' (λq=>q=ab) d (4*most+64) (jZ b) ab most S [] [] [] [] 0/\S.u=jz/\S.now=jz.clock):=by
 refine okF (ae.o4 (most:Nat) (b:Nat)) ax.o4 func36 ?_;delta ae.o4 ia aq Bb;have p:IntKind.wrap .i64 ((IntKind.wrap .i64 (4*(most:Int)))+64)=((4*most+64:Nat):Int):=by
  rw[bq (n:=4*(most:Int)) I I,bq I I];omega
 rw[p,J6 f];refine(qg (n:=4*most+64) I I w).use ?_;rintro _ w1 ⟨d,lb,mr,rfl,hd,r,s⟩;refine⟨_,0,rfl,by decide,(o3 (b:=b) (d:=b/16) f I w1).use ?_⟩;rintro _ B ⟨rfl,g⟩;refine⟨_,_,_,rfl,(J2 (l:=jZ b) (bp:=λ_=>False) (hd.ext g) (J5 b) (λk=>⟨.inl rfl,.inl rfl⟩) rfl (by show 0<=999999000;omega) (λq h=>h.elim)).use ?_⟩;rintro _ c ⟨e,rfl,x,a,hu,hg⟩;have i:=gZ.new (w0:=w) (r.trans g) x a hu hg (λq j=>s q j) (λq h=>h.elim) rfl rfl;have y:(q2 (4*most+64) d lb mr).n=4*most+64:=by show(List.replicate _ hU).length=_;rw[me]
 rw[y]at i;refine⟨_,0,rfl,(qh c (most:Nat)).use ?_⟩;rintro _ C ⟨z,⟨A,_⟩|⟨_,rfl,m⟩⟩
 .exfalso
  rcases A with h|h|h
  .cases h
  .omega
  .omega
 have D:=m.lt;refine⟨_,0,rfl,c.heap.size,d,e.own λq=>q=c.heap.size,rfl,⟨i.grow z λq j=>.inr I,a.live,a.q,rfl,m,λt ht=>(by cases ht),λt ht=>(by cases ht),?_,λ_=>rfl,⟨cM _,cM _⟩,⟨o.1,I⟩,rfl,List.Pairwise.nil⟩,hu,a.now.trans (by rw[hu])⟩;rw[show(e.own λq=>q=c.heap.size).pending=e.pending from rfl,a.pC];show 0<1+b%12;omega
end
section
variable {w0 w w' w1:J}{bp bO:Nat->Prop}{d n ab aR b most bZ k c q i a m:Nat}{l:eB}{S aE en:cf}{pages dQ aP fX:O Nat}{T au bt dB jA dH Q:O aF}{s t:ad}{fr j0:Key}{gQ:TypeId}{st:aF->al}
theorem D3:(fY T Q).length<=1000:=by
 unfold fY;split
 .exact cM _
 .rename_i t _
  split
  .exact cM _
  .have a:cw t.kv.1:=pE
   unfold cw at a;rw[cv,iN];omega
theorem D4(h:1<=bZ/\bZ<=64):stM (bZ:Nat)=bZ:=by unfold stM;omega
theorem D5:((T.take a).filter st).length+(((T.drop a).take m).filter st).length=((T.take (a+m)).filter st).length:=by rw[List.take_add,gu,cv]
theorem s3(l:O aF):(l.filter st).length<=l.length:=k3 _ _
structure eN(S:cf)(w:J)(gQ:TypeId)(b p bZ:Nat)(s:ad)(fr:Key):Prop where
 v:Var w b [.pointer (some p),s,bZ] gQ
 gp:Src 1 w s (az fr)
 c:s.len<=s.cap
 kY:∀q,aB s q->¬S.T.M q/\q<w.heap.size
 e:S.T.E b/\b≠S.st
theorem eN.M{p:Nat}(h:eN S w gQ b p bZ s fr):S.T.M b:=.inr (.inr (.inr (.inl h.e.1)))
theorem eN.to{p:Nat}(h:eN S w gQ b p bZ s fr)(t:g8 aR S bt w aE dB w')(f:S.T.M aR)(g:b≠aR):eN aE w' gQ b p bZ s fr:=
 ⟨h.v.ah t.ah λa=>a.elim (λa=>h.e.2 (a.2 h.e.1)) g,h.gp.ah t.ah λq d a=>a.elim (λa=>(h.kY q d).1 a.1) λe=>(h.kY q d).1 (e▸f),h.c,λq d=>⟨λi=>(t.c6 q i).elim (h.kY q d).1 λj=>by have:=(h.kY q d).2;omega,by have:=(h.kY q d).2;have:=t.ah.size;omega⟩,by rw[t.E,t.st];exact h.e⟩
theorem eN.ext{p:Nat}(h:eN S w gQ b p bZ s fr)(hx:Ext w w'):eN S w' gQ b p bZ s fr:=⟨h.v.ext hx,h.gp.ext hx,h.c,λq a=>⟨(h.kY q a).1,fi (h.kY q a).2 hx.size⟩,h.e⟩
theorem eN.ah{p:Nat}(h:eN S w gQ b p bZ s fr)(hc:af (λq=>q=aR) w w')(a:S.T.M aR)(c:b≠aR):eN S w' gQ b p bZ s fr:=h.to (bt:=[]) ((g8.ext (.refl _ _)).zH hc) a c
theorem fA.to{hZ:Int}(h:fA (λq=>¬S.T.M q) w aR hZ s T)(t:g8 b S bt w aE dB w')(f:S.T.M b)(g:aR≠b)(he:S.T.E aR/\aR≠S.st):fA (λq=>¬aE.T.M q) w' aR hZ s T:=
 ⟨h.v.ah t.ah λa=>a.elim (λa=>he.2 (a.2 he.1)) g,h.gp.ah t.ah λq d a=>a.elim (λa=>(h.b q d).1 a.1) λe=>(h.b q d).1 (e▸f),h.c,λq d=>⟨λi=>(t.c6 q i).elim (h.b q d).1 λk=>by have:=(h.b q d).2;omega,by have:=(h.b q d).2;have:=t.ah.size;omega⟩,λj=>j (.inr (.inr (.inr (.inl (by rw[t.E];exact he.1)))))⟩
theorem eN.put{p:Nat}(h:eN S w gQ b p bZ s fr)(ht:Src 1 w t (az j0))(hc:t.len<=t.cap)(c:∀q,aB t q->¬S.T.M q/\q<w.heap.size):
 (∃u:aa,w.cell? (Addr.add b 1)=some u)/\w.frozen? (Addr.add b 1)=false/\eN S (w.setCell (Addr.add b 1) t) gQ b p bZ t j0/\af (λq=>q=b) w (w.setCell (Addr.add b 1) t):=by
 rw[aA,cR];obtain⟨b5,cp⟩:=eF h.v (i:=1) (by show 1<3;decide);have d:=ed w b 1 t;exact⟨b5,cp,⟨eE h.v (i:=1) _,ht.ah d λq a e=>(c q a).1 (e▸h.M),hc,λq a=>⟨(c q a).1,fi (c q a).2 d.size⟩,h.e⟩,d⟩
end
theorem leastOf{P:Nat->Prop}{k:Nat}(h:P k):∃k,P k/\∀j,P j->k<=j:=by
 induction k using Nat.strongRecOn with
 |_ k b=>
  by_cases h2:∃j,j<k/\P j
  .obtain⟨j,c,a⟩:=h2
   exact b j c a
  .exact⟨k,h,λj a=>Nat.le_of_not_lt λd=>h2 ⟨j,d,a⟩⟩
theorem Kw{α:Type}(b:Nat->α->Prop):∃d:α->Nat,∀a j,b j a->b (d a) a/\d a<=j:=by
 have h:∀a,∃k,∀j,b j a->b k a/\k<=j:=λa=>by
  by_cases h:∃k,b k a
  .obtain⟨_,h⟩:=h
   obtain⟨k,h1,h2⟩:=leastOf (P:=λk=>b k a) h;exact⟨k,λj c=>⟨h1,h2 j c⟩⟩
  .exact⟨0,λj c=>absurd ⟨j,c⟩ h⟩
 exact⟨λa=>(h a).choose,λa=>(h a).choose_spec⟩
section
variable {w0 w w' w1:J}{bp bO:Nat->Prop}{d n ab aR b most bZ k c q i a m now:Nat}{l:eB}{S aE en:cf}{pages dQ aP fX:O Nat}{T au bt dB jA dH Q:O aF}{s t sl:ad}{fr j0:Key}{gQ:TypeId}{st:aF->al}
theorem lT{p:ag}(b:1<=bZ/\bZ<=64)(w:J):aI aj 10 #[.pointer (some p),bZ] w (λv w'=>v=.tuple #[.pointer (some w.heap.size),(0:Int)]/\Ext w w'/\Var w' w.heap.size [.pointer (some p),(),bZ] 110):=by
 refine okF (ae.lT (some p) (bZ:Nat)) ax.lT func10 ?_;delta ae.lT ak Y;refine⟨λh=>?_,λ_=>ba (vs:=[.pointer (some p),(),bZ]) rfl λw1 a hx _=>⟨rfl,hx,a⟩⟩;rw[h6 I,h6 I]at h;cases h
theorem Kx{p:av ag}{m:Int}(h:((Option.isNone p||decide (m<1))||decide (m>64))=true)(w:J):aI aj 10 #[.pointer p,m] w (λv w'=>v=.tuple #[.pointer none,(1:Int)]/\w=w'):=by
 refine okF (ae.lT p m) ax.lT func10 ?_;delta ae.lT ak Y;exact⟨λ_=>⟨rfl,rfl⟩,λa=>by rw[h]at a;cases a⟩
theorem Ky{p:Nat}(h:eN S w 110 b p bZ s fr)(a:fr.length<=1000000):aI aj 12 #[.pointer (some b)] w (λv w'=>∃t:ad,v=t/\Src 1 w' t (az fr)/\Ext w w'):=by
 refine okF (ae.uz (some b)) ax.uz func12 ?_;(delta ae.uz ui ak r1 bE;dsimp only);refine⟨λc=>(by cases c),λ_=>⟨_,rfl,s,by rw[aA];exact h.v.cell,(vI h.gp a).use ?_⟩⟩;rintro _ e ⟨t,rfl,d,hx,_⟩;exact⟨t,rfl,t,rfl,d.src,hx⟩
theorem zI(h:db w0 w bp d n l ab most S pages aP T bt c)(hs:eN S w 110 b ab bZ s fr)(u:bp b)(i:ab≠b)(hc:c<=9000)(x:1<=bZ/\bZ<=64):
 aI aj 11 #[.pointer (some b),.int .u64 (now:Nat)] w (λv w'=>v=.tuple #[.int .i64 (((ct T fr bZ).filter (dm now)).length:Nat),(0:Int)]/\∃ (aE:cf) (cH p:O Nat) (dB:O aF) (y:ad),
  db w0 w' bp d n l ab most aE cH p (er T (ct T fr bZ) (dm now)) dB (c+1+((ct T fr bZ).filter (dm now)).length)/\g8 b S bt w aE dB w'/\eN aE w' 110 b ab bZ y (fY T (ct T fr bZ))):=by
 refine okF (ae.uy (some b) (now:Nat)) ax.uy func11 ?_;(delta ae.uy ak r1 aG A9 st;dsimp only);have e:=cG w;have h1:=h.ext e;have s1:=hs.ext e;have y3:g8 b S bt w S bt w.drew:=.ext e;refine⟨λf=>(by cases f),λ_=>aX ?_⟩;generalize w.drew=w1 at h1 s1 y3;refine⟨λ_=>False,_,rfl,id,_,s1.v.cell,_,rfl,id,s,by rw[aA];exact s1.v.cell,_,rfl,id,_,by rw[aA];exact s1.v.cell,?_⟩;have j:=Kq (now:=now) (m:=(bZ:Nat)) h1 hc I s1.gp λq a=>⟨(s1.kY q a).2,(s1.kY q a).1⟩;rw[D4 x]at j;refine j.use ?_;rintro _ E ⟨t,rfl,g,hf,k,z,cH,p,fF,A,d9,n9,o,B⟩;have C:=s1.to (g8.of (aR:=ab) d9 n9 o) (.inr (.inr (.inr (.inl (h1.s.lC h1.wU).1)))) i.symm;obtain⟨b5,cp,D,r⟩:=C.put g.src g.2.1 λq a=>⟨B q a,g.lt q a⟩;exact⟨t,_,_,rfl,λf=>(by cases f),λ_=>⟨_,rfl,b5,cp,aX ⟨rfl,z,cH,p,fF,t,A.ja u i r,(y3.trans (.of d9 n9 o)).zH r,D⟩⟩⟩
def zJ(w0 w:J)(bp:Nat->Prop)(d n:Nat)(l:eB)(ab most b bZ now c:Nat)(S:cf)(T bt:O aF)(k:Nat)(x:Int×J):Prop:=
 ∃ (a:Nat) (aE:cf) (cH p:O Nat) (dB dH:O aF) (e:ad) (j0:Key),k=T.length-a/\pF T (dm now) a dH j0/\x.1=(((T.take a).filter (dm now)).length:Nat)/\db w0 x.2 bp d n l ab most aE cH p dH dB (c+2*a)/\g8 b S bt w aE dB x.2/\eN aE x.2 110 b ab bZ e j0
theorem Kz(h:db w0 w bp d n l ab most S pages aP T bt c)(hs:eN S w 110 b ab bZ s fr)(A:bp b)(B:ab≠b)(hc:c<=8000)(C:1<=bZ/\bZ<=64):
 aI aj 14 #[.pointer (some b),.int .u64 (now:Nat)] w (λv w'=>v=.tuple #[.int .i64 ((T.filter (dm now)).length:Nat),(0:Int)]/\∃ (aE:cf) (cH p:O Nat) (dB:O aF) (X:ad),
  db w0 w' bp d n l ab most aE cH p (T.filter λt=> !dm now t) dB (c+1+2*T.length)/\g8 b S bt w aE dB w'/\eN aE w' 110 b ab bZ X []):=by
 have an:T.length<=400:=by have:=h.eS.1;have:=h.hZ;omega
 refine okF (ae.uA (some b) (now:Nat)) ax.uA func14 ?_;(delta ae.uA ak st gy r1 aq;dsimp only);obtain⟨b5,cp,s2,a8⟩:=hs.put (t:=⟨none,0,0⟩) (j0:=[]) (aT.none 1 5 w).src (bk _) λq Y=>(f_ q Y).elim;refine⟨λy=>(by cases y),λ_=>⟨_,rfl,b5,cp,aX ?_⟩⟩;have h2:=h.ja A B a8;have t2:=(g8.ext (aR:=b) (S:=S) (bt:=bt) (.refl _ w)).zH a8;obtain⟨Z,D⟩:=Kw (zJ w0 w bp d n l ab most b bZ now c S T bt);refine⟨λz w'=>∃k,zJ w0 w bp d n l ab most b bZ now c S T bt k (z,w'),λz w'=>Z (z,w'),⟨_,0,S,pages,aP,bt,T,_,[],rfl,.begin h.lD,rfl,h2,t2,s2⟩,?_⟩;rintro n5 aa ⟨j,ac⟩;obtain⟨a,ao,cH,p,lj,dH,ap,i,E,F,G,H,t6,J⟩:=(D (n5,aa) j ac).1;dsimp only at G H t6 J;have ar:=F.le;refine(zI (now:=now) H J A B I C).use ?_;rintro _ af ⟨rfl,K,L,M,jn,o,u,t7,r⟩;obtain⟨N,P,Q⟩:=F.step h.lD C.1;have ag:=D5 (T:=T) (a:=a) (m:=bZ) (st:=dm now);have hg:=s3 (st:=dm now) (ct dH i bZ);have au:(ct dH i bZ).length<=bZ/\(ct dH i bZ).length<=T.length-a:=by rw[N,cz,eg];omega
 rw[←N]at ag;rw[P]at u;generalize ((ct dH i bZ).filter (dm now)).length=g at*;have ah:=s3 (st:=dm now) (T.take a);rw[cz]at ah;have R:IntKind.wrap .i64 (n5+(g:Int))=(((T.take (a+bZ)).filter (dm now)).length:Nat):=by rw[G,bq I I];omega
 have U:=len8 r.gp;refine⟨_,0,rfl,λy=>(by cases y),λ_=>⟨_,rfl,o,by rw[aA];exact r.v.cell,λf=>?_,λf=>?_⟩⟩
 .have f:o.len=0:=by have:=eq_of_beq f;omega
  have x:fY dH (ct dH i bZ)=[]:=ti I;rcases Q with ⟨V,_⟩|⟨_,ai,_⟩
  .rw[R]
   rw[D1 V]at u;rw[x]at r;rw[dC V];exact⟨rfl,K,L,M,jn,o,u.mono I,t6.trans t7,r⟩
  .exact absurd x ai
 .have f:o.len≠0:=λe=>by rw[e]at f;cases f
  rcases Q with ⟨_,x⟩|⟨aH,_,al⟩
  .rw[x]at U
   exact absurd U f
  .rw[R]
   have W:zJ w0 w bp d n l ab most b bZ now c S T bt (T.length-(a+bZ)) ((((T.take (a+bZ)).filter (dm now)).length:Nat),af):=
    ⟨a+bZ,K,L,M,jn,_,o,_,rfl,al,rfl,by rw[P];exact u.mono I,t6.trans t7,r⟩
   refine⟨⟨_,W⟩,?_⟩;have am:=(D _ _ W).2;dsimp only at am E⊢;rw[E];omega
def iJ(aR b:Nat)(w w':J):Prop:=∀P:J->Prop,P w->(∀u a,P u->(af (λq=>q=aR) u a\/af (λq=>q=b) u a)->P a)->P w'
theorem iJ.one(hc:af (λq=>q=aR) w w'):iJ aR b w w':=λ_ h k=>k _ _ h (.inl hc)
theorem iJ.two(hc:af (λq=>q=b) w w'):iJ aR b w w':=λ_ h k=>k _ _ h (.inr hc)
theorem iJ.trans(h1:iJ aR b w w1)(h2:iJ aR b w1 w'):iJ aR b w w':=λP h k=>h2 P (h1 P h k) k
theorem iJ.size(h:iJ aR b w w'):w.heap.size<=w'.heap.size:=h (λu=>w.heap.size<=u.heap.size) (bk _) λ_ _ hu hc=>eG hu (hc.elim (λh=>h.size) λh=>h.size)
theorem D6{hZ:Int}(h:fA (λq=>¬S.T.M q) w aR hZ sl T)(hx:eN S w 46 b aR bZ s fr)(i:∀q,w.heap.size<=q->¬S.T.M q)(j:aR≠b)(x:fN T)(y:∀t∈T,dN t.s t.p=true)(F:T.length<=400)(hf:fr.length<=1000000)(z:1<=bZ/\bZ<=64):
 aI aj 16 #[.pointer (some b),.int .u64 (now:Nat)] w (λv w'=>v=.int .i64 (((ct T fr bZ).filter (dm now)).length:Nat)/\iJ aR b w w'/\(∃f,fA (λq=>¬S.T.M q) w' aR hZ f (er T (ct T fr bZ) (dm now)))/\∃A,eN S w' 46 b aR bZ A (fY T (ct T fr bZ))):=by
 refine okF (ae.vD (some b) (now:Nat)) ax.vD func16 ?_;(delta ae.vD r1 aG ew st;dsimp only);have d:=cG w;have k:=h.ext d;have a:=hx.ext d;have l:iJ aR b w w.drew:=.one (af.cX d);have B:=d.size;refine aX ?_;generalize w.drew=w1 at k a l B;refine⟨λ_=>False,_,rfl,id,_,a.v.cell,_,rfl,id,s,by rw[aA];exact a.v.cell,_,rfl,id,_,by rw[aA];exact a.v.cell,?_⟩;have n:=Kv (now:=now) (m:=(bZ:Nat)) k I (λq c=>i q I) x y a.gp hf;rw[D4 z]at n;refine n.use ?_;rintro _ G ⟨t,rfl,g,C,o,f,D⟩;have r:=a.ah o (Classical.byContradiction h.nb) j.symm;obtain⟨b5,cp,E,u⟩:=r.put g.src g.2.1 λq c=>⟨i q (by have:=C q c;omega),g.lt q c⟩;exact⟨t,_,rfl,_,rfl,b5,cp,aX ⟨rfl,(l.trans (.one o)).trans (.two u),⟨f,D.ah u j λq c _ e=>c (e▸r.M)⟩,t,E⟩⟩
theorem KA{hZ:Int}(L:fA (λq=>¬S.T.M q) w aR hZ sl T)(hx:eN S w 46 b aR bZ s fr)(y:∀q,w.heap.size<=q->¬S.T.M q)(z:aR≠b)(n:fN T)(N:∀t∈T,dN t.s t.p=true)(al:T.length<=400)(A:1<=bZ/\bZ<=64):
 aI aj 15 #[.pointer (some b),.int .u64 (now:Nat)] w (λv w'=>v=.int .i64 ((T.filter (dm now)).length:Nat)/\iJ aR b w w'/\(∃o,fA (λq=>¬S.T.M q) w' aR hZ o (T.filter λt=> !dm now t))/\∃r,eN S w' 46 b aR bZ r []):=by
 refine okF (ae.vC (some b) (now:Nat)) ax.vC func15 ?_;(delta ae.vC st Y ak bP r1 aq;dsimp only);have u:Ext w (w.alloc (.cells #[] 5)):=c4 _ _;have B:aT 1 5 (w.alloc (.cells #[] 5)) ⟨some w.heap.size,0,0⟩ (az []):=aT.new _ [] 0 rfl (by decide);obtain⟨b5,cp,P,a8⟩:=(hx.ext u).put B.src (bk _) λq c=>⟨y q (by have:=zB c;omega),B.lt q c⟩;have Q:=(L.ext u).ah a8 z λq c _ e=>c (e▸hx.M);have R:iJ aR b w _:=(iJ.one (af.cX u)).trans (.two a8);refine aX ⟨_,rfl,b5,cp,aX ⟨λn6 n7 w'=>∃ (i a:Nat) (dH:O aF) (o r:ad) (j0:Key),n7=(i:Int)/\i<=a/\j0.length<=1000/\pF T (dm now) a dH j0/\n6=(((T.take a).filter (dm now)).length:Nat)/\iJ aR b w w'/\fA (λq=>¬S.T.M q) w' aR hZ o dH/\eN S w' 46 b aR bZ r j0,λ_ n7 _=>((500:Int)-n7).toNat,⟨0,0,T,_,_,[],rfl,bk _,cM _,.begin n,rfl,R,Q,P⟩,?_⟩⟩;rintro n6 _ am ⟨i,a,dH,an,ao,j,rfl,ap,ar,d,U,x,V,W⟩;have au:=d.le;have av:=x.size;refine⟨λ_=>?_,λX=>?_⟩
 rotate_left
 .have:=cE X
  omega
 have Z:fN dH:=by rw[d.t];exact DZ n
 have aa:∀t∈dH,t∈T:=λt ht=>by rw[d.t]at ht;exact(gr.1 ht).1
 have aw:dH.length<=T.length:=by rw[d.t];exact k3 _ _
 refine(D6 (now:=now) V W (λq c=>y q I) z Z (λt ht=>N t (aa t ht)) I I A).use ?_;rintro _ ay ⟨rfl,C,⟨D,k⟩,f,h⟩;obtain⟨E,F,G⟩:=d.step n A.1;have ab:=D5 (T:=T) (a:=a) (m:=bZ) (st:=dm now);have hg:=s3 (st:=dm now) (ct dH j bZ);have aB:(ct dH j bZ).length<=bZ:=by rw[E,cz];omega
 rw[←E]at ab;rw[F]at k;generalize ((ct dH j bZ).filter (dm now)).length=g at*;have ac:=s3 (st:=dm now) (T.take a);rw[cz]at ac;have H:IntKind.wrap .i64 (n6+(g:Int))=(((T.take (a+bZ)).filter (dm now)).length:Nat):=by rw[U,bq I I];omega
 have J:=len8 h.gp;refine⟨_,rfl,_,rfl,f,by rw[aA];exact h.v.cell,λh0=>?_,λh0=>?_⟩
 .have h0:f.len=0:=by have:=eq_of_beq h0;omega
  have l:fY dH (ct dH j bZ)=[]:=ti I;rcases G with ⟨K,_⟩|⟨_,ag,_⟩
  .rw[H]
   rw[D1 K]at k;rw[l]at h;rw[dC K];exact⟨rfl,x.trans C,⟨D,k⟩,f,h⟩
  .exact absurd l ag
 .have h0:f.len≠0:=λe=>by rw[e]at h0;cases h0
  rcases G with ⟨_,l⟩|⟨aH,_,ai⟩
  .rw[l]at J
   exact absurd J h0
  .rw[H,lA I]
   exact⟨⟨i+1,a+bZ,_,D,f,_,rfl,I,D3,ai,rfl,x.trans C,by rw[F];exact k,h⟩,by show((500:Int)-((i+1:Nat):Int)).toNat<((500:Int)-(i:Nat)).toNat;omega⟩
end
theorem aF.o7{cs:O aa}(h:iv (.int .i64::(((.bool::mE 16)++ [.int .i64])++ [.int .i64,.int .u64])) cs):∃t:aF,cs=t.c/\t.u<18446744073709551616:=by
 obtain⟨_,us,rfl,⟨s,rfl,_⟩,h⟩:=h;obtain⟨a,t1,rfl,h1,h2⟩:=xD h;obtain⟨p,rfl,_⟩:=br.o7 h1;obtain⟨_,_,rfl,⟨b,rfl,_⟩,_,_,rfl,⟨u,rfl,aw,ay⟩,rfl⟩:=h2;have g:0<=u/\u<=18446744073709551615:=by simpa[IntKind.min,IntKind.max,IntKind.signed,IntKind.bits] using And.intro aw ay
 obtain⟨k,rfl⟩:∃k:Nat,u=(k:Int):=⟨u.toNat,I⟩;exact⟨⟨s,p,b,k⟩,rfl,by show k<_;omega⟩
section
variable {w0 w w' w1:J}{bp bO:Nat->Prop}{d n ab aR most k c q i:Nat}{l:eB}{S aE en:cf}{pages dQ aP fX:O Nat}{T au bt dB jA:O aF}{ls:ad}
theorem gR.new(h:db w0 w (λq=>q=ab) d n l ab most S [] [] [] [] c)(hx:Ext w w')(b:Var w' aR [most,()] 36)(g:w.heap.size<=aR):gR w0 w' (λq=>q=ab\/q=aR) d n l ab aR most (S.own λq=>q=ab\/q=aR) [] [] c:=by
 have i:=b.lt;have j:=h.v.lt;refine⟨⟨[],[],h.grow hx (λq a=>a.imp id λe=>I) (.inl rfl)⟩,.inr rfl,I,⟨none,0,0⟩,b,(aT.none 21 57 w').src,bk _,λq a=>(f_ q a).elim,λf=>f (.inr (.inr (.inr (.inl (.inr (.inr rfl))))))⟩
end
def KB(i:Nat):br:=⟨⟨false,[0,0,0,0,0,0,0,0,0,0,0,0,10,0,0,UInt8.ofNat i],rfl⟩,32⟩
def kf(i b u:Nat):aF:=⟨7,KB i,(b:Nat),u⟩
section
variable {w0 w w' w1:J}{bp bO:Nat->Prop}{d n ab aR most k c q i:Nat}{l:eB}{S aE en:cf}{pages dQ aP fX:O Nat}{T au bt dB jA:O aF}{t x:aF}
end
section
variable {w0 w w' w1:J}{bp bO:Nat->Prop}{d n ab aR b nb most bZ k c q i a m now:Nat}{l:eB}{S aE en:cf}{pages dQ aP fX:O Nat}{T au bt dB jA dH Q L:O aF}{s t sl ls:ad}{fr j0:Key}{gQ:TypeId}{st:aF->al}
theorem gR.grow(h:gR w0 w bp d n l ab aR most S T bt c)(hx:Ext w w')(i:w.heap.size<=nb/\nb<w'.heap.size):gR w0 w' (λq=>bp q\/q=nb) d n l ab aR most (S.own λq=>bp q\/q=nb) T bt c:=by
 obtain⟨⟨cH,p,a⟩,ra,j,s,m⟩:=h;refine⟨⟨cH,p,a.grow hx (λq f=>f.imp id λe=>by rw[e];exact i) (.inl a.wU)⟩,.inl ra,j,s,m.v.ext hx,m.gp.ext hx,m.c,λq f=>⟨λg=>?_,by have:=(m.b q f).2;have:=hx.size;omega⟩,λg=>g (.inr (.inr (.inr (.inl (.inr (.inl ra))))))⟩;have h2:=(m.b q f).2;exact(cf.DU a.s.E g).elim (m.b q f).1 λe=>by omega
theorem eN.grow{p:Nat}(f:eN S w gQ b p bZ s fr)(h:gR w0 w bp d n l ab aR most S T bt c)(i:bp b)(hx:Ext w w')(k:w.heap.size<=nb):eN (S.own λq=>bp q\/q=nb) w' gQ b p bZ s fr:=by
 obtain⟨⟨cH,p,a⟩,ra,o,s,m⟩:=h;refine⟨f.v.ext hx,f.gp.ext hx,f.c,λq g=>⟨λj=>?_,by have:=(f.kY q g).2;have:=hx.size;omega⟩,.inr (.inl i),f.e.2⟩;have h2:=(f.kY q g).2;exact(cf.DU a.s.E j).elim (f.kY q g).1 λe=>by omega
theorem eN.new{p:Nat}(e:Var w b [.pointer (some p),(),bZ] gQ)(h:gR w0 w (λq=>bp q\/q=b) d n l ab aR most S T bt c):eN S w gQ b p bZ ⟨none,0,0⟩ []:=by
 obtain⟨⟨cH,p,a⟩,_⟩:=h;exact⟨e,(aT.none 1 5 w).src,bk _,λq f=>(f_ q f).elim,a.s.lC (.inr rfl)⟩
theorem qG{m:Nat}(Q:m<256)(cW:Src 21 w ls (bn aF.c L))(hu:∀t∈L,t.u<18446744073709551616):
 aI aj 9 #[.int .u8 (m:Nat),ls] w (λv w'=>∃ (ab aR d N:Nat) (S:cf) (T bt:O aF),v=.tuple #[.pointer (some ab),.pointer (some aR),true]/\N<=40/\gR w w' (λq=>q=ab\/q=aR) d (4*N+64) (jZ 7) ab aR N S T bt 200):=by
 have r:ls.len=L.length:=by have:=cW.len;rw[fe _ (kA _)]at this;omega
 refine okF (ae.qG (m:Nat) ls) ax.qG func9 ?_;delta ae.qG p_ aq ak aO bP Y;obtain⟨N,y,e⟩:∃N:Nat,IntKind.wrap .i64 (1+(IntKind.wrap .i64 (Int.tmod (m:Int) 40)))=(N:Int)/\1<=N/\N<=40:=by
  rw[nW I,bq (n:=(m:Int)%40) I I,bq I I];exact⟨1+m%40,I,I,I⟩
 rw[y];refine⟨by decide,(o4 (b:=7) ⟨e.1,I⟩ (by decide) w).use ?_⟩;rintro _ w1 ⟨ab,d,R,rfl,a0,_⟩;refine⟨_,_,_,rfl,ba (vs:=[N,()]) rfl λU z B V=>?_⟩;have f:=gR.new a0 B z (bk _);generalize w1.heap.size=aR at f⊢;refine⟨λb C w'=>∃ (i:Nat) (S:cf) (T bt:O aF),b=true/\C=(i:Int)/\i<=60/\gR w w' (λq=>q=ab\/q=aR) d (4*N+64) (jZ 7) ab aR N S T bt (2*i),λ_ n _=>((60:Int)-n).toNat,⟨0,_,[],[],rfl,rfl,I,f⟩,?_⟩;rintro _ _ g ⟨i,S,T,bt,rfl,rfl,hi,h⟩;refine⟨λaH=>?_,λ_=>⟨ab,aR,d,N,S,T,bt,rfl,e.2,h.mono I⟩⟩;rw[pI]at aH;obtain⟨h1,h2⟩:=Dv (m:=60) r aH;have D:=cG g;have a:=h.ext D;refine aX ?_;generalize g.drew=X at a;have E:=a.lC;obtain⟨⟨cH,p,eI⟩,ra,F,Z,G⟩:=a;obtain⟨A,ar,j,_,_,l⟩:=q_ (cW.ext eI.s.x) h1;have Y:¬S.W (A.add (Int.toNat (i:Int)*21)).block:=λH=>by
  have aa:=eI.s.s0 _ H.1;obtain⟨mu,o,_,J,_⟩:=q_ cW h1;rw[ar]at o
  cases o;have ac:=JA J;omega
 refine⟨λq=>S.W q,A,ar,j,Y,_,l,A,ar,j,Y,_,l,(DV eI I (hu _ (cP h1))).use ?_⟩;rintro _ ad ⟨rfl,k,en,af,bl,bY,a1,d1,cc,aw⟩;have K:=G.zA d1 E;have ag:T.length<=400:=by have:=eI.eS.1;have:=eI.hZ;omega
 refine⟨_,rfl,d1.ah,(Ku K I a1.new eI.lD eI.keys L[i]).use ?_⟩;rintro _ ai ⟨rfl,M,al,P⟩;rw[lA I];exact⟨_,rfl,⟨i+1,en,_,bY,beq_self_eq_true _,rfl,I,.whole (a1.mono I) ra F M P⟩,by show((60:Int)-((i+1:Nat):Int)).toNat<((60:Int)-(i:Nat)).toNat;omega⟩
def D7:br:=⟨⟨false,[0,0,0,0,0,0,0,0,0,0,0,0,0,0,0,0],rfl⟩,0⟩
def nU:aF:=⟨1,D7,0,5⟩
theorem D8(w:J):aI aj 13 #[] w (λv w'=>v=true/\Ext w w'):=by
 refine ae.FZ w _ ?_;delta ae.ss p_ ak bP ia gy;refine(o4 (most:=5) (b:=1) (by decide) (by decide) w).use ?_;rintro _ w1 ⟨ab,d,u,rfl,a0,_⟩;refine⟨_,_,_,rfl,λh=>(by cases h),λ_=>⟨D7.c.toArray,by kernel_rfl,nU.c.toArray,by kernel_rfl,(DV a0 I (t:=nU) (by decide)).use ?_⟩⟩;have g:iI [] 5 nU=0:=by decide+kernel
 have m:kB [] 5 nU=[nU]:=by unfold kB;rw[g];rfl
 rw[g,m];rintro _ a ⟨rfl,b5,en,y,bl,bY,a1,_⟩;refine⟨_,rfl,(lT (bZ:=3) (by decide) a).use ?_⟩;rintro _ i ⟨rfl,n,j⟩;have z:=j.lt;have A:=a1.v.lt;have dZ:=a1.grow (bO:=λq=>q=ab\/q=a.heap.size) n (λq f=>f.imp id λe=>I) (.inl rfl);have o:eN _ i 110 a.heap.size ab 3 ⟨none,0,0⟩ []:=⟨j,(aT.none 1 5 i).src,bk _,λq f=>(f_ q f).elim,dZ.s.lC (.inr rfl)⟩;refine⟨_,_,rfl,(zI (now:=5) dZ o (.inr rfl) I I (by decide)).use ?_⟩;have l:((ct [nU] [] 3).filter (dm 5)).length=1/\(er [nU] (ct [nU] [] 3) (dm 5)).length=0:=by decide+kernel
 rw[l.1];rintro _ p ⟨rfl,dO,B,bf,b3,s2,a2,_⟩;refine⟨_,_,rfl,cx (λb w'=>b=true/\p=w') (λk r=>⟨λ_=>(zC a2.v a2.s.at_).use ?_,λh=>(by cases h)⟩) ?_⟩
 .rintro _ _ ⟨rfl,rfl⟩
  rw[dn,l.2];exact⟨_,rfl,r _ _ ⟨rfl,rfl⟩⟩
 .rintro _ _ ⟨rfl,rfl⟩
  exact⟨rfl,a2.s.x⟩
end
section
variable {w0 w w' w1:J}{bp bO:Nat->Prop}{d n ab aR b nb most bZ k c q i a m now:Nat}{l:eB}{S aE en:cf}{pages dQ aP fX:O Nat}{T au bt dB jA dH Q L:O aF}{s t sl ls:ad}{fr j0:Key}{gQ:TypeId}{st:aF->al}{x y:aF}
theorem gR.D9(h:gR w0 w bp d n l ab aR most S T bt c):Ext w0 w:=by
 obtain⟨⟨_,_,a⟩,_⟩:=h;exact a.s.x
end
structure lE where
 bZ:Int
 now:Nat
 all:al
def lE.c(a:lE):O aa:=[a.bZ,.int .u64 (a.now:Nat),a.all]
section
variable {w0 w w' w1:J}{bp bO:Nat->Prop}{d n ab aR b nb most bZ k c q i a m now:Nat}{l:eB}{S aE en:cf}{pages dQ aP fX:O Nat}{T au bt dB jA dH Q L:O aF}{s t sl ls la:ad}{fr j0:Key}{gQ:TypeId}{st:aF->al}{x y:aF}{A:O lE}
theorem D_(h:Src 3 w la (bn lE.c A))(hi:i<A.length):∃a:ag,la.a=some a/\((0:Int)<=(i:Int)/\(i:Int)<(la.len:Int))/\∀w',Ext w w'->w'.cell? (a.add (Int.toNat (i:Int)*3))=some (.int .i64 A[i].bZ)/\w'.cell? ((a.add (Int.toNat (i:Int)*3)).add 1)=some (.int .u64 (A[i].now:Nat))/\w'.cell? ((a.add (Int.toNat (i:Int)*3)).add 2)=some (.bool A[i].all):=by
 have f:=h.len;rw[fe (sz:=3) _ (λa _=>rfl)]at f;obtain⟨g,a,d,_⟩:=q0 h (λa _=>rfl) (by decide) hi;refine⟨a,d,⟨I,I⟩,λw' hx=>?_⟩;obtain⟨_,k,e,b⟩:=q0 (h.ext hx) (λa _=>rfl) (by decide) hi;rw[d]at e
 cases e;rw[dc];have h0:=lN b (j:=0) (v:=.int .i64 A[i].bZ) rfl;rw[lF,add_zero']at h0;have h1:=lN b (j:=1) (v:=.int .u64 (A[i].now:Nat)) rfl;have h2:=lN b (j:=2) (v:=.bool A[i].all) rfl;rw[cR]at h1 h2;exact⟨h0,h1,h2⟩
structure zK(w0 w:J)(bp:Nat->Prop)(d n:Nat)(l:eB)(ab aR sb gf most bZ c:Nat):Prop where
 h:∃ (S:cf) (cH p:O Nat) (T bt:O aF) (s a b:ad) (fr:Key),db w0 w bp d n l ab most S cH p T bt c/\fA (λq=>¬S.T.M q) w aR (most:Nat) b T/\eN S w 110 sb ab bZ s fr/\eN S w 46 gf aR bZ a fr/\fr.length<=1000/\S.T.E aR/\aR≠S.st
set_option maxRecDepth 100000 in
theorem KC {m:Nat} (aM:m<256) (cW:Src 21 w ls (bn aF.c L)) (hu:∀t∈L,t.u<18446744073709551616) (ar:Src 3 w la (bn lE.c A)):
 aI aj 4 #[.int .u8 (m:Nat),ls,la] w (λv w'=>v=true/\Ext w w'):=by
 have aN:la.len=A.length:=by have:=ar.len;rw[fe (sz:=3) _ (λa _=>rfl)]at this;omega
 refine okF (ae.vF (m:Nat) ls la) ax.vF func4 ?_;(delta ae.vF p_ ak aO aG ia b8 aV cr gy bP Y aq r1 bE;dsimp only);refine(qG aM cW hu).use ?_;rintro _ w1 ⟨ab,aR,d,N,S,T,bt,rfl,a7,h1⟩;refine⟨_,_,_,rfl,λe=>(by cases e),λ_=>cx (λn w'=>w1=w') (λk r=>⟨λe=>?_,λ_=>r _ _ rfl⟩) ?_⟩
 .have e:=cj e
  obtain⟨a,f,y,hc⟩:=D_ ar (i:=0) I;exact⟨a,f,y,_,(hc _ h1.D9).1,r _ _ rfl⟩
 rintro z _ rfl
 cases ap:(decide (z<1)||decide (z>64)) with
 |true=>
  refine(Kx (p:=some ⟨ab,0,none⟩) (m:=z) ap w1).use ?_;rintro _ _ ⟨rfl,rfl⟩;refine⟨_,_,rfl,λ_=>cx (λb w'=>b=true/\Ext w1 w') (λk r=>⟨λ_=>(D8 w1).use ?_,λe=>(by cases e)⟩) ?_,λe=>(by cases e)⟩
  .rintro _ a8 ⟨rfl,hx⟩
   exact⟨_,rfl,r _ _ ⟨rfl,hx⟩⟩
  .rintro _ a9 ⟨rfl,hx⟩
   exact⟨rfl,h1.D9.trans hx⟩
 |false=>
  obtain⟨bZ,rfl,D⟩:∃bZ:Nat,z=(bZ:Int)/\1<=bZ/\bZ<=64:=by
   rw[pH,iL,iL]at ap;exact⟨z.toNat,I,I,I⟩
  refine(lT D w1).use ?_;rintro _ aP ⟨rfl,aQ,Z⟩;have Q:=h1.grow aQ ⟨bk _,Z.lt⟩;have au:=eN.new Z Q;have aS:ab<w1.heap.size:=by obtain⟨⟨_,_,a⟩,_⟩:=h1;exact a.v.lt
  have aT:=h1.ne;have aU:aR<w1.heap.size:=by obtain⟨_,_,_,_,m⟩:=h1;exact m.v.lt
  have av:=Z.lt;generalize w1.heap.size=sb at Q au aS aU av⊢;refine⟨_,_,rfl,λe=>(by cases e),λ_=>⟨λe=>(by cases e),λ_=>ba (vs:=[.pointer (some aR),(),bZ]) rfl λaW aw ay a_=>?_⟩⟩;have R:=Q.grow ay ⟨bk _,aw.lt⟩;have az:=au.grow Q (.inr rfl) ay (bk _);have aB:=eN.new aw R;generalize aP.heap.size=gf at R az aB av⊢;obtain⟨E,aa⟩:∃E:Nat->Prop,E=λq=>(((q=ab\/q=aR)\/q=sb)\/q=gf):=⟨_,rfl⟩;have ac:E sb/\E gf:=by rw[aa];exact⟨.inl (.inr rfl),.inr rfl⟩
  have start:zK w aW E d (4*N+64) (jZ 7) ab aR sb gf N bZ 200:=by
   have he:=R.lC;obtain⟨⟨cH,p,a⟩,_,_,aC,m⟩:=R;rw[aa];exact⟨_,cH,p,T,bt,_,_,aC,[],a,m,az,aB,cM _,he⟩
  refine⟨λag w'=>∃i:Nat,ag=(i:Int)/\i<=20/\zK w w' E d (4*N+64) (jZ 7) ab aR sb gf N bZ (200+100*i),λag _=>((20:Int)-ag).toNat,⟨0,rfl,I,start⟩,?_⟩;rintro _ aY ⟨i,rfl,hi,⟨bb,cH,p,iy,bc,s,bd,aC,fr,a5,aD,C,aE,be,U⟩⟩;refine⟨λaH=>?_,λ_=>(D8 aY).use ?_⟩
  rotate_left
  .rintro _ bf ⟨rfl,hx⟩
   exact⟨_,rfl,rfl,a5.s.x.trans hx⟩
  obtain⟨dL,bg⟩:=Dv (m:=20) aN aH;obtain⟨a,f,y,hc⟩:=D_ ar dL;have bh:=a5.eS.1;have B:sb≠aR/\gf≠sb/\aR≠gf/\ab≠sb:=by omega
  have aZ:E aR:=by rw[aa];exact .inl (.inl (.inr rfl))
  have two:∀ {S:cf}{cH p:O Nat}{T bt:O aF}{c:Nat}{s:ad}{fr:Key}{u V:J},iJ aR gf u V->db w u E d (4*N+64) (jZ 7) ab N S cH p T bt c->eN S u 110 sb ab bZ s fr->S.T.M aR->S.T.M gf->db w V E d (4*N+64) (jZ 7) ab N S cH p T bt c/\eN S V 110 sb ab bZ s fr:=λ{S cH p T bt c s fr u V} hc f W h1 h2=>
   hc (λu=>db w u E d (4*N+64) (jZ 7) ab N S cH p T bt c/\eN S u 110 sb ab bZ s fr) ⟨f,W⟩ λ_ _ ⟨f,W⟩ hc=>hc.elim (λhc=>⟨f.ja aZ aT hc,W.ah hc h1 B.1⟩) λhc=>⟨f.ja ac.2 I hc,W.ah hc h2 I⟩
  refine EP (λcc bB a0 w'=>cc=bB/\a0=0/\zK w w' E d (4*N+64) (jZ 7) ab aR sb gf N bZ (200+100*(i+1))) (λk r=>⟨a,f,y,_,(hc _ a5.s.x).2.2,λ_=>?_,λ_=>?_⟩) ?_
  .refine⟨a,f,y,_,(hc _ a5.s.x).2.1,(Kz (now:=A[i].now) a5 C ac.1 B.2.2.2 I D).use ?_⟩
   rintro _ bi ⟨rfl,F,G,H,K,P,c1,t6,l⟩;have g:=aD.to t6 C.M I U;have j:=aE.to t6 C.M B.2.1;refine⟨_,_,rfl,a,f,y,_,(hc _ c1.s.x).2.1,(KA (now:=A[i].now) g j c1.new B.2.2.1 a5.lD a5.keys I D).use ?_⟩;rintro _ bj ⟨rfl,a1,⟨ai,al⟩,am,an⟩;obtain⟨cS,ao⟩:=two a1 c1 l (Classical.byContradiction g.nb) j.M;exact⟨_,rfl,r _ _ _ _ ⟨rfl,rfl,F,G,H,_,K,P,am,ai,[],cS.mono I,al,ao,an,cM _,by rw[t6.E,t6.st];exact U⟩⟩
  .refine⟨a,f,y,_,(hc _ a5.s.x).2.1,(zI (now:=A[i].now) a5 C ac.1 B.2.2.2 I D).use ?_⟩
   rintro _ bl ⟨rfl,F,G,H,K,P,c1,t6,l⟩;have g:=aD.to t6 C.M I U;have j:=aE.to t6 C.M B.2.1;have bm:=s3 (st:=dm A[i].now) (ct iy fr bZ);have bo:(ct iy fr bZ).length<=bZ:=by unfold ct;rw[cz];omega
   refine⟨_,_,rfl,a,f,y,_,(hc _ c1.s.x).2.1,(D6 (now:=A[i].now) g j c1.new B.2.2.1 a5.lD a5.keys I I D).use ?_⟩;rintro _ bp ⟨rfl,a2,⟨ai,al⟩,am,an⟩;obtain⟨cS,ao⟩:=two a2 c1 l (Classical.byContradiction g.nb) j.M;exact⟨_,rfl,r _ _ _ _ ⟨rfl,rfl,F,G,H,_,K,P,am,ai,_,cS.mono I,al,ao,an,D3,by rw[t6.E,t6.st];exact U⟩⟩
  .rintro cc _ _ aJ ⟨rfl,rfl,⟨F,G,H,lj,K,P,aK,aL,a3,c1,g,l,j,a4,a6⟩⟩
   have X:=cG aJ;refine aX ?_
   replace c1:=c1.ext X
   replace g:=g.ext X
   replace l:=l.ext X
   replace j:=j.ext X
   generalize aJ.drew=bq at c1 g l j;refine⟨λ_=>False,λe=>?_,λ_=>⟨λe=>(by cases e),λ_=>⟨_,rfl,id,aK,by rw[aA];exact j.v.cell,_,λbr hc=>v_ (j.gp.ah hc λ_ _ h=>h),(Ky l I).use ?_⟩⟩⟩
   .simp at e
   rintro _ bs ⟨t,rfl,ht,o⟩;refine⟨t,rfl,af.cX o,_,λbu hc=>v_ (ht.ah hc λ_ _ h=>h),λe=>?_,λ_=>⟨_,rfl,id,aL,by rw[aA];exact(g.ext o).v.cell,(zC (c1.ext o).v (c1.ext o).s.at_).use ?_⟩⟩
   .rw[beq_self_eq_true]at e
    cases e
   rintro _ _ ⟨rfl,rfl⟩;rw[dn,g.len];refine⟨_,rfl,.refl _ _,λe=>?_,λ_=>?_⟩
   .simp at e
   .rw[lA I]
    exact⟨⟨i+1,rfl,I,⟨F,G,H,lj,K,P,aK,aL,a3,c1.ext o,g.ext o,l.ext o,j.ext o,a4,a6⟩⟩,by show((20:Int)-((i+1:Nat):Int)).toNat<((20:Int)-(i:Nat)).toNat;omega⟩
end
section
variable {w:J}{v:aa}
set_option maxRecDepth 100000 in
theorem KD.of (h:k8 aj w 22 v):∃ (l:ad) (L:O aF),v=l/\Src 21 w l (bn aF.c L)/\∀t∈L,t.u<18446744073709551616:=by
 obtain⟨t,rfl,ht⟩:=oy.of h (e:=57) (by kernel_rfl);obtain⟨A,h1,_,h2⟩:=ht.src (c:=aF.c) (sz:=21) (by kernel_rfl) (λt=>t.u<18446744073709551616) λfuel vs a=>aF.o7 (tR 8 (ls:=.int .i64::(((.bool::mE 16)++ [.int .i64])++ [.int .i64,.int .u64])) (by kernel_rfl) (by kernel_rfl) a);exact⟨t,A,rfl,h1,h2⟩
theorem lE.o7{cs:O aa}(h:iv [.int .i64,.int .u64,.bool] cs):∃a:lE,cs=a.c:=by
 obtain⟨_,_,rfl,⟨p,rfl,_⟩,_,_,rfl,⟨n,rfl,h1,_⟩,_,_,rfl,⟨b,rfl⟩,rfl⟩:=h;obtain⟨k,rfl⟩:∃k:Nat,n=(k:Int):=⟨n.toNat,(Int.toNat_of_nonneg h1).symm⟩;exact⟨⟨p,k,b⟩,rfl⟩
set_option maxRecDepth 100000 in
theorem KE.of (h:k8 aj w 43 v):∃ (l:ad) (A:O lE),v=l/\Src 3 w l (bn lE.c A):=by
 obtain⟨t,rfl,ht⟩:=oy.of h (e:=25) (by kernel_rfl);obtain⟨A,h1,_⟩:=ht.src (c:=lE.c) (sz:=3) (by kernel_rfl) (λ_=>True) λfuel vs a=>(lE.o7 (tR 8 (ls:=[.int .i64,.int .u64,.bool]) (by kernel_rfl) (by kernel_rfl) a)).imp λ_ h=>⟨h,trivial⟩;exact⟨t,A,rfl,h1⟩
end
end Go.Proofs.YtcmgnhkpfllinaaGreat
