/- Contracts of the functions that the statement reaches, and the plain laws over them; each theorem stands with its conditions. -/
import Derived.Test.YtcmgnhkpfllinaaGreatBSFew5
namespace Go.Proofs.YtcmgnhkpfllinaaGreat
open Go aQ Go.Proofs.Tryz
section
variable {w w' w1:J}{C:b2}{X:Nat->Prop}{T:aK}{S aE kh:ck}{pages aO:O Nat}{L bN:O aM}{f2:Nat->al}{aI:b2}{P':Nat->av aD}
theorem Jr{f:Nat->al}{n k:Nat}(h:k<n):nG f n (k:Int)=dk f k false:=by
 unfold nG;rw[if_pos ⟨I,I⟩,dg]
theorem Js{bg d c sb gen now first pending keys st:Nat}{l:eI}{u:eP}{failed:al}(b:Var w st (iW bg d c sb l u gen now first pending keys failed) 146)(a:eP){K:J->Prop}(e:∀ai,Var ai st (iW bg d c sb l a gen now first pending keys failed) 146->af (λq=>q=st) w ai->K ai):
 bI w ⟨st,7,none⟩ [a.root,a.aL,a.map,.int .u64 (a.clock:Nat),.int .u64 (a.dn:Nat),a.keys]/\(6:Nat)=6/\
  ao (setCells w ⟨st,7,none⟩ 0 [a.root,a.aL,a.map,.int .u64 (a.clock:Nat),.int .u64 (a.dn:Nat),a.keys]) K:=
 ⟨bm.cl b _ _ (by simp[iW]) λv f=>eP.plain a v f,rfl,aX (e _ (bm.k5 (o:=7) b _) (af.jC (.refl _ _) _ 0))⟩
theorem Jt(h:dP w S pages L aO bN)(U:S.failed=false)(cS:L.length<4096)(ea:S.T.C.D.a6<=800000000)(eb:S.gen<=1000000000)(ac:S.T.C.D.quiet):
 aJ aj 74 #[.pointer (some S.st)] w (zm S pages L aO bN w):=by
 refine okF (ae.uJ (some S.st)) ax.uJ func74 ?_;(delta ae.uJ gK ak bY aF cr bD ey jF Y gJ st;dsimp only);obtain⟨aY,bz,cO⟩:=h.live U;obtain⟨no,bB⟩:=CL cO;obtain⟨bC,cP,_⟩:=Ck bB;have ec:=h.t.s.bA;have ap:=h.num;have cQ:=h.gen;have bF:=h.jS.zl;have bG:S.T.f no=false:=by cases cT:S.T.f no<;>simp_all
 have aZ:S.T.g no=false:=by cases cT:S.T.g no<;>simp_all
 have bH:2<=no:=Nat.le_of_not_lt λe=>by
  have:=(h.jS.g no).2 (.inr (.inl e));rw[aZ]at this;cases this
 have ed:S.T.M S.st:=.inr (.inr (.inr (.inl h.es)));refine⟨_,rfl,_,by rw[aA];exact h.v.cell,(Cm h.t.s).use ?_⟩;rintro _ bI ⟨rfl,bJ,aq⟩;rw[bB]at bJ⊢;refine⟨(no:Nat),0,rfl,λhx=>(by cases hx),λ_=>aX ?_⟩;have cU:=(h.t.wj (f:=dk S.T.f no true) bJ aq).1;have cV:=h.v.ah aq (h.t.dO _ h.es).2.1;have ar:Ext bI bI.drew:=cG _;have a0:=cV.ext ar;have bK:=cU.ext ar;refine⟨_,rfl,id,_,by rw[aA];exact a0.cell,_,rfl,id,_,by rw[aA,aA];exact a0.cell,(Cn bK.s (S.u.map:Nat)).use ?_⟩;rintro _ au ⟨rfl,bL,aB⟩;rw[Jr (by exact bF.2.2.2.1)]at bL;obtain⟨f2,a1⟩:∃f2,f2=dk (dk S.T.f no true) S.u.map false:=⟨_,rfl⟩;have bM:fg au S.T.sb S.T.n f2 S.T.g S.T.s1 S.T.s2:=by rw[a1];exact bL
 have a2:b8 au (S.T.jl f2):=(bK.wj (f:=f2) bM aB).1;have bO:=a0.ah aB (h.t.dO _ h.es).2.1;refine⟨_,rfl,aX ?_⟩;have aC:Ext au au.drew:=cG _;have bP:=bO.ext aC;have cW:=a2.ext aC;have a3:IntKind.wrap .u64 ((S.gen:Int)+1)=((S.gen+1:Nat):Int):=by rw[gw I I];omega
 refine⟨λ_=>False,_,rfl,id,_,by rw[aA];exact bP.cell,_,rfl,id,_,by rw[aA];exact bP.cell,(Ct cW.s).use ?_⟩;rintro _ cX ⟨aE,rfl,cY,a4,ee⟩;have cZ:aW 1 5 cX aE (az (iC f2 ((S.T.n+7)/8))):=by rw[Di];exact cY
 have bQ:nz ⟨4,S.gen+1,iC f2 ((S.T.n+7)/8)⟩:=⟨(by decide:1<=4),(by decide:4<=4),by show S.gen+1<_;omega,by show(iC _ _).length<=232;rw[wC];omega⟩;rw[a3];refine⟨aE,rfl,a4,#[(4:Int),.int .u64 ((S.gen+1:Nat):Int),aE],λef=>by kernel_rfl,(vP (s:=aE) (p:=⟨4,S.gen+1,iC f2 ((S.T.n+7)/8)⟩) (no:=no) cZ.src I bQ).use ?_⟩;rintro _ bR ⟨c0,rfl,bS,bT,c1⟩;have a5:=aC.trans (Ext.trans a4 bT);have aG:=a2.ext a5;have bU:=bO.ext a5;have eg:=aq.size;have eh:=aB.size;have ei:=ar.size;have ej:=aC.size;have ek:=a4.size;have a7:af S.W w bR:=c2 (c2 (c2 (c2 (af.refl _ _) aq λq _ a=>h.nO (.inr (.inr (.inl a)))) ar λq _ a=>a.elim) aB λq _ a=>h.nO (.inr (.inr (.inl a)))) a5 λq _ a=>a.elim;have c4:(eE no ⟨4,S.gen+1,iC f2 ((S.T.n+7)/8)⟩).length=256:=sy _ bQ;refine⟨c0,0,rfl,bT,λhx=>(by cases hx),λ_=>⟨_,rfl,_,by rw[aA];exact bU.cell,(CD aG.ca (by show S.T.C.D.a6<=_;omega) (no:=no) (by rw[aG.n];exact bC) bH (λhs=>?_) bS.src c4 λq a=>⟨aW.lt bS q a,λhf=>?_⟩).use ?_⟩⟩
 .rcases aG.b7 no hs with h1|h1
  .rw[show(S.T.jl f2).g no=S.T.g no from rfl,aZ]at h1;cases h1
  .exact aY h1
 .have h1:=c1 q a
  have h2:=a2.lt (q:=q) (.inl hf);omega
 rintro _ bV ⟨J,c5,bW,aH⟩;have A:er S.T.C J bR bV 1:=bW;have bX:∀j,j≠no->J.view j=S.T.C.view j:=λj o=>by
  rcases aH with ⟨_,a9⟩|⟨_,_,a9⟩
  .rw[a9,if_neg o];rfl
  .rw[a9];rfl
 obtain⟨F,a_⟩:∃F:Nat->av aD,F=λj=>if j=no then none else S.T.P j:=⟨_,rfl⟩
 have ad:∀j,j≠no->F j=S.T.P j:=λj o=>by rw[a_];exact if_neg o
 obtain⟨aI,_⟩:=aG.wh (P:=F) c5 bW λj b_ Q=>by
  have o:j≠no:=λe=>by rw[a_]at Q;simp[e]at Q
  rw[bX j o];exact h.t.eR j b_ (by rw[←ad j o];exact Q)
 have c7:¬c6 S.T.C S.st:=(h.t.ca.inv.e_ _ (.inr (.inr (.inl h.es)))).2;have bZ:=bU.ah A.ah c7;have b0:af S.W w bV:=c2 a7 A.ah λq _ a=>h.nO (.inl a);have el:∀x∈aO,S.T.P x=F x:=λx hx=>(ad x λe=>by
  have:=(h.jS.g x).2 (.inl hx);rw[e,aZ]at this;cases this).symm
 have em:J.D.b4=S.T.C.D.b4:=congrArg (λp=>p.1.1) A.b4;have b1:J.D.cf.getD 3 0=S.T.C.D.cf.getD 3 0:=congrArg Prod.snd A.b4;rcases aH with ⟨rfl,aH⟩|⟨rfl,c8,_⟩
 rotate_left
 .exact absurd (ac.1 1) c8
 refine⟨0,rfl,λhx=>(by cases hx),λ_=>⟨_,rfl,_,by rw[aA];exact bZ.cell,?_⟩⟩;have b3:=I9 aI.ca (by show J.D.a6<=_;have:=A.a6;omega) λj o=>by show J.D.eG j=_;rw[A.ph.2,bz]
 rw[show((S.T.jl f2).bx J F).C.c=S.T.C.c from A.c]at b3;refine b3.use ?_;rintro _ aM ⟨b,R⟩;have c9:¬c6 J S.st:=(aI.ca.inv.e_ _ (.inr (.inr (.inl h.es)))).2;have bb:=bZ.ah R.ah c9;have bc:b.D.d=S.T.C.D.d:=R.d.trans A.d;have c_:b.c=S.T.C.c:=R.c.trans A.c;have da:b.D.r1=S.T.C.D.r1:=R.r.trans (congrArg (λp=>p.1.2.2.2.2) A.b4);have aN:∀q,c6 b q->c6 S.T.C q\/w.heap.size<=q:=λq a=>by
  have:=b0.size;have:=a7.size;rcases R.c3 q a with h1|h1
  .exact(A.c3 q h1).imp id λe=>by omega
  .exact .inr I
 have b5:af S.W w aM:=c2 b0 R.ah λq U a=>by
  have:=a7.size;exact h.nO (.inl ((A.c3 q a).resolve_right I))
 have b6:∀ (bd:b2),(∀j,2<=j->bd.view j=J.view j)->∀j b_,F j=some b_->j<S.T.n/\gP S.T.gen b_.leaf j (bd.view j) b_:=λbd db j b_ Q=>by
  have o:j≠no:=λe=>by rw[a_]at Q;simp[e]at Q
  have h1:=h.t.eR j b_ (by rw[←ad j o];exact Q);rw[db j h1.2.two,bX j o];exact h1
 have be:b8 aM ((S.T.jl f2).bx b F):=aI.Dp R.at_ R.ah R.c R.n (b6 b λj _=>R.view j) λj o=>by
  rw[R.b7.1]at o;rcases aI.b7 j o with h1|h1
  .exact .inl h1
  .exact .inr λi=>by rw[R.b7.1];exact h1 i
 have cb:b.D.b7=S.T.C.D.b7:=R.b7.1.trans A.b7;have en:b.D.eG=λ_=> []:=R.b7.2.trans (A.ph.2.trans bz);have ep:b.D.a6<=S.T.C.D.a6+70:=by have h1:b.D.a6<=J.D.a6+64:=R.a6;have:=A.a6;omega
 rcases R.h6 with ⟨rfl,de,cd,df⟩|⟨rfl,eq,dg⟩
 rotate_left
 .exfalso
  rcases dg with h1|h1
  .exact h1 (A.calm 64 (ac.1 _))
  .unfold ba.fX at h1
   rw[show((S.T.jl f2).bx J F).C.D.cf.getD 3 0=S.T.C.D.cf.getD 3 0 from b1,ac.2]at h1
   cases h1
 have aP:∀j,b.D.e8 j=[]:=λj=>by unfold ba.e8;rw[de];rfl
 have dh:∀j,b.D.b4.getD j []=if j=no then eE no ⟨4,S.gen+1,iC f2 ((S.T.n+7)/8)⟩ else S.T.C.view j:=λj=>by
  have h1:=I7 R.at_ cd j;rw[yG _ (λx hx=>(R.at_.raw.dev.wn x hx).1),if_pos (aP j)]at h1;rw[←h1,R.view];exact aH j
 have ce:∀j,S.T.g j=true->S.V j=S.T.C.view j:=λj o=>(h.view U o).symm;refine⟨0,rfl,λhx=>(by cases hx),λ_=>⟨_,rfl,_,bb.cell,?_⟩⟩;have ch:=Dc be;rw[show((S.T.jl f2).bx b F).bg=S.T.bg from rfl]at ch;refine ch.use ?_;rintro _ bf ⟨rfl,bh⟩;have bi:Ext bf bf.drew:=cG _;have bj:=(bb.ext bh).ext bi;have di:IntKind.wrap .u64 ((S.u.dn:Int)+1)=((S.u.dn+1:Nat):Int):=by rw[gw I I];omega
 refine⟨_,_,rfl,aX ⟨λ_=>False,_,rfl,id,_,by rw[aA];exact bj.cell,_,rfl,id,_,by rw[aA,aA];exact bj.cell,_,rfl,id,_,by rw[aA];exact bj.cell,?_⟩⟩;rw[di];obtain⟨G,Z⟩:∃G:eP,G=⟨S.T.root,S.T.aL,no,S.now,S.u.dn+1,S.keys⟩:=⟨_,rfl⟩;refine⟨G.c.toArray,λet=>by rw[Z];kernel_rfl,a8 (vs:=B_.c) rfl λeu ci cj ev=>⟨cj,?_⟩⟩;obtain⟨ag,dl⟩:∃ag,ag=bf.drew.heap.size:=⟨_,rfl⟩;rw[←dl]at ci⊢;refine Cc ci rfl G λai dm dp ew=>aX ?_;have ex:=bh.size;have eB:=bi.size;have dq:Ext aM ai:=Ext.cy (Ext.trans bh (bi.trans cj)) dp I;have ck:Ext ai ai.drew:=cG _;have al:Ext aM ai.drew:=Ext.trans dq ck;have bk:=dm.ext ck;have aQ:=bb.ext al;have bm:=be.ext al;generalize eC:ai.drew=aR at bk aQ bm al⊢;refine⟨_,rfl,id,_,by rw[aA];exact aQ.cell,id,q1 bk ⟨_,rfl,id,_,by rw[aA];exact aQ.cell,?_⟩⟩;rw[a3];have dr:nE G:=by
  have h1:=h.t.num;have h2:=h.keys;rw[Z];exact⟨by show S.T.root<_;omega,by show S.T.aL<_;omega,by show no<_;omega,ap.1,by show S.u.dn+1<_;omega,by show S.keys<_;omega⟩
 have bn:b.D.n=S.T.n:=R.n.trans (A.n.trans h.t.n);have O:dW S.T.X aR b:=bm.ca;have cl:=nh O.raw.dev I dr (gen:=S.gen+1) I;rw[bc]at cl;refine cl.use ?_;rintro v bo ⟨aa,bp⟩;have eD:=al.size;have ds:∀q,c6 b q->q<ag:=λq a=>by have:=R.at_.raw.lt a;omega
 have dt:=bk.ah aa λhf=>by have:=ds ag (.inr (.inr hf));omega
 have du:¬c6 b S.st:=(be.ca.inv.e_ _ (.inr (.inr (.inl h.es)))).2;have cn:=aQ.ah aa λhf=>du (.inr (.inr hf));have dv:af S.W w aR:=c2 b5 al λq _ a=>a.elim;have eF:=b5.size;have dw:af S.W w bo:=c2 dv aa λq U a=>h.nO<| .inl ((aN q (.inr (.inr a))).resolve_right I)
 have main:∀ (N:ba),dd bo N->N.d=b.D.d->kL N b.D->(∀i,2<=i->N.now i=b.D.now i)->(∀q,cm N q->cm b.D q\/aR.heap.size<=q)->(∀j,N.b7 j=true->S.T.g j=true)->
  b8 bo ((S.T.jl f2).bx {b with D:=N} F)/\∀q,c6 {b with D:=N} q->c6 S.T.C q\/w.heap.size<=q:=λN am dx co dy cp dz=>by
  obtain⟨hM,eo⟩:=Jn O am dx co dy aa cp;refine⟨bm.Dp hM (aa.mono λq _ a=>.inr (.inr a)) rfl co.1 (b6 _ λj o=>(eo j o).trans (R.view j)) λj o=>.inl (dz j o),λq a=>?_⟩;rcases a with a|a|a
  .exact aN q (.inl a)
  .exact aN q (.inr (.inl a))
  .rcases cp q a with h1|h1
   .exact aN q (.inr (.inr h1))
   .exact .inr I
 have eH:¬b.D.ro:=λe=>aY λi=>by rw[←cb];exact e i
 have eI:∀j,b.D.b7 j=true->S.T.g j=true:=λj o=>by
  rw[cb]at o;exact(h.t.b7 j o).resolve_right aY
 have cq:S.T.C.D.quiet->∀k,b.D.calm k:=λa k=>R.calm k (A.calm _ (a.1 _));rcases bp with ⟨bq,rfl,am⟩|⟨bq,s,dA,bE,K,bp⟩
 .have:=(jM (k:=2) (m:=0) (.inr rfl) O.raw.dev.f4 (cq ac 1)).2
  rw[this]at bq;cases bq
 have eJ:∀j,bE.e8 j=if j=(S.gen+1)%2 then [eE ((S.gen+1)%2) (jN G b.D.n (S.gen+1))] else []:=λj=>by
  rw[K,B8,aP,aP];rfl
 have cs:G=⟨S.T.root,S.T.aL,no,S.now,S.u.dn+1,L.length⟩:=by rw[Z,h.keys]
 have dB:∀V:Nat->dc,(∀j,V j=if j=(S.gen+1)%2 then eE ((S.gen+1)%2) (jN G b.D.n (S.gen+1)) else b.D.b4.getD j [])->ln V S.T.n (S.gen+1) G f2 F pages L:=λV gd=>by
  rw[cs];refine Jq h a1 cP bH bC cS (λx hx=>ad x λe=>by
   have:=(h.f x).2 (.inl hx);rw[e,bG]at this;cases this) (by rw[gd,if_pos rfl,cs,bn]) (λj o=>?_) ce
  rw[gd,if_neg o,dh];by_cases e:j=no
  .rw[if_pos e,if_pos e]
  .rw[if_neg e,if_neg e]
   by_cases br:S.T.g j=true
   .rw[if_pos br,ce j br]
   .rw[if_neg br]
 have bs:∀q,cm bE q->cm b.D q\/aR.heap.size<=q:=by rw[K];exact wB dA
 have eK:∀i,2<=i->bE.now i=b.D.now i:=λi hi=>by rw[K,pc,if_neg I]
 have cu:bE.n=b.D.n:=by rw[K];rfl
 have dC:bE.d=b.D.d:=by rw[K];rfl
 have eL:bE.b4=b.D.b4:=by rw[K];rfl
 have eM:bE.a6=b.D.a6+1:=by rw[K];rfl
 have cv:S.T.C.D.quiet->bE.cf.getD 3 0= -1:=λa=>by
  rw[K];show(b.D.cf.set 2 _).getD 3 0=_;have aS:=O.raw.dev.f4;rw[fz (by rw[dj];omega),fl (by decide),←fz (d:=0),df];rw[show((S.T.jl f2).bx J F).C.D.cf.getD 3 0=S.T.C.D.cf.getD 3 0 from b1,a.2];rfl
 rcases bp with ⟨aT,rfl,am⟩|⟨aT,rfl,am⟩
 .unfold ba.fX at aT
  rw[cv ac]at aT;cases aT
 have dD:∀j,S.T.n<=j->b.D.b4.getD j []=[]:=λj o=>by
  rw[fL,nZ (by have:b.D.b4.length=S.T.n:=bn;omega)];rfl
 have cw:∀j,b.D.now j=b.D.b4.getD j []:=λj=>by rw[yG _ (λx hx=>(O.raw.dev.wn x hx).1),if_pos (aP j)]
 have eN:bE.n=S.T.n:=cu.trans bn;have dE:∀j,(bE.cD 3).iV.b4.getD j []=if j=(S.gen+1)%2 then eE ((S.gen+1)%2) (jN G b.D.n (S.gen+1)) else b.D.b4.getD j []:=λj=>by
  show((List.range bE.n).map bE.now).getD j []=_;have eO:16<=bE.n:=by have:16<=b.D.n:=O.raw.dev.cc;omega
  by_cases o:j<bE.n
  .rw[fz (by simp;exact o),List.getElem_map,List.getElem_range,K,pc,cw]
  .rw[fL,nZ (by simp;omega),if_neg I,dD j I];rfl
 obtain⟨B,H⟩:∃B,B=(bE.cD 3).iV.jn (λ_=>false) λ_=> []:=⟨_,rfl⟩;have dF:∀j,B.e8 j=[]:=λj=>by rw[H];rfl
 have cx:∀j,B.b4.getD j []=if j=(S.gen+1)%2 then eE ((S.gen+1)%2) (jN G b.D.n (S.gen+1)) else b.D.b4.getD j []:=λj=>by rw[H];exact dE j
 have dG:B.n=b.D.n:=by rw[H];exact(sT (bE.cD 3)).trans cu
 have bt:B.d=S.T.C.D.d:=by rw[H];exact dC.trans bc
 obtain⟨cz,dH⟩:=main B (by rw[H];exact am.jn _ _) (bt.trans bc.symm) ⟨dG,λj o=>(by rw[H]at o;cases o),λj o=>(by rw[H]at o;cases o)⟩ (λi hi=>by
  have h1:B.now i=B.b4.getD i []:=by rw[H];rfl
  rw[h1,cx,if_neg I,cw]) (λq a=>by
   rw[H]at a;rcases a with e|e|e|⟨x,hx,e⟩
   .exact bs q (.inl e)
   .exact bs q (.inr (.inl e))
   .exact bs q (.inr (.inr (.inl e)))
   .cases hx) λj o=>(by rw[H]at o;cases o)
 refine⟨0,rfl,λhx=>(by cases hx),λ_=>⟨_,rfl,_,by rw[aA];exact cn.cell,(HK cz.s).use ?_⟩⟩;rintro _ an ⟨rfl,s2,dI,ao,cA⟩;have ab:=dB (λj=>B.b4.getD j []) cx;have dJ:f2 0=true/\f2 1=true:=⟨(ab.g 0).2 (.inr (.inl (by decide))),(ab.g 1).2 (.inr (.inl (by decide)))⟩;obtain⟨dK,eS⟩:=cz.space dI ao cA (λj o=>by
  have o:B.b7 j=true:=o;rw[H]at o;cases o) dJ
 have eT:=ao.size;have dL:=cn.ah ao (h.t.dO _ h.es).2.1;have dM:=dt.ah ao λhf=>by
  have h1:=h.t.lt (q:=ag) (.inr (.inr (.inl hf)));omega
 have dN:=dK.jn (s:=f2) (z:=λ_=> []) (λf hf j dQ _ _=>by
  have h1:=cd f hf;unfold Fr.gX at h1;rw[dQ]at h1;simpa using h1) (λj _=>dF j) λj o=>.inl o
 obtain⟨fx,y⟩:∃fx:aK,fx=(((S.T.jl f2).bx {b with D:=B} F).zc f2 f2 S.T.s1 s2).bx {b with D:=B.jn f2 λ_=> []} F:=⟨_,rfl⟩;have dR:b8 an fx:=by rw[y];exact dN
 have aU:Ext an an.drew:=cG _;have cB:Var an.drew S.st (iW S.T.bg S.T.C.D.d S.T.C.c S.T.sb S.l S.u S.gen S.now S.first S.pending S.keys S.failed) 146:=dL.ext aU;have dS:=dM.ext aU;have dT:=dR.ext aU;have aV:fx.E=S.T.E:=by rw[y];rfl
 refine⟨rfl,aX ⟨λ_=>False,id,q1 dS ⟨_,rfl,id,_,by rw[aA];exact cB.cell,_,rfl,?_⟩⟩⟩;rw[aA,cR,a3];refine Js cB G λcC cE cF=>?_;have dV:=dT.ko (by rw[aV];exact h.es) cF;obtain⟨b9,ct⟩:=eA cE (i:=13) (by simp[iW]);have cH:=ez cE (i:=13) (.int .u64 ((S.gen+1:Nat):Int));have dX:=dU cC S.st 13 (.int .u64 ((S.gen+1:Nat):Int));refine⟨_,rfl,by rw[aA];exact b9,by rw[aA];exact ct,aX ?_⟩;rw[aA,cR];obtain⟨dY,dZ⟩:=eA cH (i:=16) (by simp[iW]);have cI:=ez cH (i:=16) (0:Int);have bu:=dX.trans (dU _ S.st 16 (0:Int));refine⟨_,rfl,by rw[aA];exact dY,by rw[aA];exact dZ,aX ?_⟩;rw[aA,cR];generalize (cC.setCell ⟨S.st,13,none⟩ (.int .u64 ((S.gen+1:Nat):Int))).setCell ⟨S.st,16,none⟩ (0:Int)=cJ at cI bu⊢;have d0:=dV.ko (by rw[aV];exact h.es) bu;have bv:Ext cJ cJ.drew:=cG _;have bw:=cI.ext bv;have d1:=d0.ext bv;refine aX ⟨_,rfl,id,_,bw.cell,_,rfl,id,_,by rw[aA];exact bw.cell,?_⟩;have d2:IntKind.wrap .u64 (((S.gen+1:Nat):Int)+1)=((S.gen+2:Nat):Int):=by rw[gw I I];omega
 rw[d2];have eU:fx.gen=S.gen+1:=by rw[y];exact cQ
 have cK:fx.bg=S.T.bg:=by rw[y];rfl
 have cM:=Jp d1 (gen:=S.gen+2) I I;rw[cK]at cM;refine cM.use ?_;rintro _ d3 ⟨rfl,d4,cN⟩;have d5:=bw.ah cN (h.t.dO _ h.es).1;have d6:∀q,(fx.mD (S.gen+2)).M q->S.T.M q\/w.heap.size<=q:=λq a=>by
  rw[y]at a;rcases a with a|a|a|a
  .exact(dH q a).imp .inl id
  .exact .inl (.inr (.inl a))
  .rcases cA q a with h1|h1
   .exact .inl (.inr (.inr (.inl h1)))
   .have:=aa.size;exact .inr I
  .exact .inl (.inr (.inr (.inr a)))
 refine⟨rfl,⟨S.st,fx.mD (S.gen+2),S.l,G,S.gen+1,S.now,S.first,0,S.keys,S.failed⟩,⟨rfl,?_,by rw[y];rfl,rfl,?_,λa=>?_,?_,d6,aV,by rw[y];rfl,by rw[y];exact(show B.r1=bE.r1 by rw[H];rfl).trans ((show bE.r1=b.D.r1 by rw[K];rfl).trans da)⟩,rfl,.inl ⟨rfl,⟨⟨?_,d4,?_,?_,rfl,?_,?_⟩,?_,h.b_,?_,?_,h.kv,h.keys,cL _,λ_=>⟨?_,?_,?_⟩,λhf=>?_⟩,U,rfl,by rw[Z],by rw[Z],rfl⟩⟩
 .rw[y];exact bt
 .rw[y];show B.a6<=_;rw[H];show bE.a6<=_;omega
 .rw[y]
  show ba.quiet (B.jn _ _);rw[H];refine⟨λk=>sU bE ?_,?_⟩
  .have aS:=(jM (k:=2) (m:=k) (.inr rfl) O.raw.dev.f4 (cq a (k+1))).1
   rw[K];exact aS
  .show(bE.cf.set 3 (gz (bE.cf.getD 3 0)).2).getD 3 0= -1
   have aS:=O.raw.dev.f4;have eV:bE.cf.length=4:=by rw[K];show(b.D.cf.set 2 _).length=4;rw[dj];exact aS
   rw[cv a,fz (by rw[dj];omega),ij];rfl
 .have hs:∀q,q=S.st->S.W q:=λq e=>by rw[e];exact h.Dn
  have aw:af S.W w an:=c2 dw ao λq _ a=>h.nO (.inr (.inr (.inl a)));have ay:=c2 aw aU λq _ a=>a.elim;have d7:=c2 ay cF λq _ a=>hs q a;have d8:=c2 d7 bu λq _ a=>hs q a;have d9:=c2 d8 bv λq _ a=>a.elim;exact c2 d9 cN λq _ a=>h.nO (.inr (.inl a))
 .show Var d3 S.st (iW fx.bg fx.C.D.d fx.C.c fx.sb _ _ _ _ _ _ _ _) _
  rw[cK,show fx.C.D.d=S.T.C.D.d by rw[y];exact bt,show fx.C.c=S.T.C.c by rw[y];exact c_,show fx.sb=S.T.sb by rw[y];rfl];exact d5
 .show fx.E S.st
  rw[aV];exact h.es
 .rw[y];exact ab
 .refine⟨ap.1,ap.2.1,?_,by show S.gen+1+2<_;omega,ap.2.2.2.2⟩
  show G.dn+1<=S.gen+1;rw[Z];show S.u.dn+1+1<=_;omega
 .intro j o
  have o:fx.g j=true:=o;show fx.C.D.b7 j=true;rw[y]at o⊢;exact o
 .refine h.ok.agree (by rw[y];rfl) (by rw[y];rfl) λx hx=>?_
  rw[y];exact(ad x λe=>by
   have:=(h.f x).2 (.inl hx);rw[e,bG]at this;cases this).symm
 .intro j
  have:(fx.mD (S.gen+2)).f j=f2 j:=by rw[y];rfl
  rw[this];exact ab.g j
 .intro x hx
  exact⟨(ab.two x hx).1,(ab.two x hx).2.1⟩
 .intro e
  have h1:=e S.T.n;have h2:(fx.mD (S.gen+2)).C.D.b7 S.T.n=f2 S.T.n:=by rw[y];rfl
  rw[h2,bM.pf S.T.n (bl _)]at h1;cases h1
 .rw[y];rfl
 .have d_:f2 S.u.map=false:=by rw[a1];unfold dk;rw[if_pos rfl]
  have h1:=wk (s:=λi=>f2 i||f2 i) (t:=dk (λi=>f2 i||f2 i) S.u.map true) (k:=S.u.map) (by simp[d_]) (by simp[dk]) (λi hi=>by simp[dk,hi]) (n:=S.T.n) bF.2.2.2.1;have h2:=nH (dk (λi=>f2 i||f2 i) S.u.map true) S.T.n;have eW:cg (fx.mD (S.gen+2))=S.T.n-eQ (λi=>f2 i||f2 i) S.T.n:=by rw[y];rfl
  show 1<=cg (fx.mD (S.gen+2));omega
 .have hf:S.failed=true:=hf
  rw[U]at hf;cases hf
end
theorem Ju(a b:Int)(w:J)(T:TypeId)(k:IntKind):Sem.run aj (Builtin.max_ #[T,T] T #[.int k a,.int k b]) w=.ok (.int k (max a b)) w:=by
 simp only[Builtin.max_];unfold Builtin.max2;simp;split<;>omega
theorem d_.trans{S aE b:ck}{w w' c:J}{k l:Nat}(h1:d_ k S aE w w')(h2:d_ l aE b w' c):d_ (k+l) S b w c:=
 ⟨h2.st.trans h1.st,h2.d.trans h1.d,h2.n.trans h1.n,h2.l.trans h1.l,by have:=h1.a6;have:=h2.a6;omega,λh=>h2.q (h1.q h),c2 h1.ah h2.ah λq f a=>h1.back f a,λq a=>by
  have:=h1.ah.size
  rcases h2.c3 q a with e|e
  .exact h1.c3 q e
  .exact .inr I,h2.E.trans h1.E,h2.G.trans h1.G,h2.r.trans h1.r⟩
theorem d_.mono{S aE:ck}{w w':J}{k l:Nat}(h:d_ k S aE w w')(a:k<=l):d_ l S aE w w':={h with a6:=by have:=h.a6;omega}
theorem d_.ext{w w':J}(S:ck)(h:Ext w w'):d_ 0 S S w w':=⟨rfl,rfl,rfl,rfl,bl _,λh=>h,h.mono λ_ _ h=>h.elim,λq a=>.inl a,rfl,rfl,rfl⟩
section
variable {w w' w1:J}{T:aK}{S aE kh:ck}{pages aO:O Nat}{L bN:O aM}
theorem jR.ext(h:jR w S aO bN)(hx:Ext w w'):jR w' S aO bN:=⟨h.v.ext hx,h.t.ext hx,h.es,h.jS,h.gen,h.num,h.b7⟩
theorem dP.ext(h:dP w S pages L aO bN)(hx:Ext w w'):dP w' S pages L aO bN:=⟨h.tojR.ext hx,h.ok,h.b_,h.f,h.two,h.kv,h.keys,h.px,h.live,h.dead⟩
theorem dP.ko{kN:Nat}(h:dP w S pages L aO bN)(a:S.T.E kN)(hs:kN≠S.st)(hc:af (λq=>q=kN) w w'):dP w' S pages L aO bN:=
 ⟨⟨h.v.ah hc λe=>hs e.symm,h.t.ko a hc,h.es,h.jS,h.gen,h.num,h.b7⟩,h.ok,h.b_,h.f,h.two,h.kv,h.keys,h.px,h.live,h.dead⟩
theorem Jv(h:dP w S pages L aO bN):aJ aj 48 #[.pointer (some S.st)] w (λv w'=>v=S.keys/\w=w'):=by
 refine okF (ae.xP (some S.st)) ax.xP func48 ?_;exact⟨λa=>(by cases a),λ_=>⟨_,rfl,_,by rw[aA];exact h.v.cell,rfl,rfl⟩⟩
def h_(S:ck):Nat:=cg S.T-2*S.T.aL-4
theorem Ds(h:dP w S pages L aO bN):aJ aj 66 #[.pointer (some S.st)] w (λv w'=>v=.int .i64 (h_ S:Nat)/\Ext w w'):=by
 refine okF (ae.uF (some S.st)) ax.uF func66 ?_;delta ae.uF gK bY aq;refine⟨_,rfl,_,h.v.cell,(Dc h.t).use ?_⟩;rintro _ e ⟨rfl,a⟩;refine⟨_,_,rfl,_,rfl,_,by rw[aA];exact(h.v.ext a).cell,(yQ (h.t.ext a).s).use ?_⟩;rintro _ b ⟨rfl,c⟩;have j:=h.t.s.bA;have k:=h.t.num.2.1;have l:=nH (λi=>S.T.f i||S.T.g i) S.T.n;have d:(S.T.n:Int)-eQ (λi=>S.T.f i||S.T.g i) S.T.n=((cg S.T:Nat):Int):=by unfold cg;omega
 have m:cg S.T<=S.T.n:=Nat.sub_le _ _;rw[d,bn (n:=2*(S.T.aL:Int)) I I];refine⟨_,rfl,_,b,Ju _ _ b _ _,?_,Ext.trans a c⟩;rw[bn (n:=((cg S.T:Nat):Int)-2*(S.T.aL:Int)) I I,bn I I];unfold h_
 congr 1
 omega
end
def kR(c:Prop)(S aE:ck)(pages:O Nat)(L:O aM)(aO:O Nat)(bN:O aM)(v:aa)(w':J):Prop:=
 (v=.int .i64 0/\c/\dP w' aE pages L pages L/\aE.failed=false/\aE.gen=S.gen+1/\aE.u.clock=S.now/\aE.u.dn=S.u.dn+1/\aE.pending=0)\/
 (v=.int .i64 3/\¬S.T.C.D.quiet/\dP w' aE aO bN aO bN/\aE.failed=true/\aE.u=S.u/\aE.gen=S.gen/\(∀j,S.T.g j=true->aE.V j=S.V j)/\((∀j,S.T.g j=true->aE.T.C.D.eG j=[])\/(c/\Dq aE S.gen S.T.g pages L S.now (S.u.dn+1))))
theorem zm.x{c:Prop}{S:ck}{pages aO:O Nat}{L bN:O aM}{w w':J}{v:aa}(h:zm S pages L aO bN w v w')(hc:c):∃aE,d_ 100 S aE w w'/\aE.now=S.now/\kR c S aE pages L aO bN v w':=by
 obtain⟨aE,h1,h2,a⟩:=h;refine⟨aE,h1,h2,?_⟩;rcases a with ⟨a1,a2,a3⟩|⟨a1,a2,a3,a4,a5,dK,c9,eC⟩
 .exact .inl ⟨a1,hc,a2,a3⟩
 .exact .inr ⟨a1,a2,a3,a4,a5,dK,c9,.inr ⟨hc,eC⟩⟩
theorem kR.val{c:Prop}{S aE:ck}{pages aO:O Nat}{L bN:O aM}{w':J}{v:aa}(h:kR c S aE pages L aO bN v w'):∃n:Int,v=n:=by
 rcases h with ⟨a,_⟩|⟨a,_⟩<;>exact⟨_,a⟩
def mE(S aE:ck)(pages:O Nat)(L:O aM)(aO:O Nat)(bN:O aM)(v:aa)(w':J):Prop:=
 (v=.int .i64 0/\S.pending+1<S.l.batch/\dP w' aE pages L aO bN/\aE.failed=false/\aE.gen=S.gen/\aE.u=S.u/\aE.pending=S.pending+1/\aE.first=(if S.pending=0 then S.now else S.first)/\∀j,S.T.g j=true->aE.V j=S.V j)\/
 kR (S.l.batch<=S.pending+1) S aE pages L aO bN v w'
section
variable {w w' w1:J}{T:aK}{S aE kh:ck}{pages aO:O Nat}{L bN:O aM}
theorem Jw{d:Int}(b:jR w S aO bN)(t:S.failed=false)(ok:gD S.T pages L)(b_:pages.Nodup)(f:∀no,S.T.f no=true↔no∈pages\/no<2\/no=S.u.map)(two:∀x∈pages,2<=x/\x≠S.u.map)(kv:∀p∈L,cv p.1/\p.2.length<=24)
 (X:¬S.T.C.D.ro/\S.T.C.D.eG=(λ_=> [])/\1<=cg S.T) (Y:(S.keys:Int)+d=L.length) (ap:S.pending<1000) (cS:L.length<4096) (ar:S.keys<100000) (Z:S.T.C.D.a6<=800000000) (aa:S.gen<=1000000000) (ab:S.T.C.D.quiet):
 aJ aj 68 #[.pointer (some S.st),d] w (λv w'=>∃aE,d_ 100 S aE w w'/\aE.now=S.now/\mE S aE pages L aO bN v w'):=by
 refine okF (ae.uH (some S.st) d) ax.uH func68 ?_;(delta ae.uH aF st aq ak cr bY;dsimp only);have N:=b.num;have au:S.T.M S.st:=.inr (.inr (.inr (.inl b.es)));obtain⟨aw,ay,g,y,z⟩:=b.set (i:=17) (x:=L.length) (by decide);refine⟨_,rfl,_,by rw[aA];exact b.v.cell,_,rfl,by rw[aA];exact aw,by rw[aA];exact ay,aX ?_⟩;rw[aA,cR,Y,bn (n:=(L.length:Int)) I I];generalize av:w.setCell ⟨S.st,17,none⟩ L.length=ac at g y z⊢;obtain⟨m,s⟩:∃m,m=if S.pending=0 then S.now else S.first:=⟨_,rfl⟩
 refine k2 (λk=>Var k S.st (iW S.T.bg S.T.C.D.d S.T.C.c S.T.sb S.l S.u S.gen S.now m S.pending L.length S.failed) 146/\b8 k S.T/\af (λq=>q=S.st) w k) (λaz O=>?_) ?_
 .refine⟨_,rfl,_,by rw[aA];exact g.cell,λA=>?_,λA=>O _ ⟨?_,y,z⟩⟩
  .have h0:S.pending=0:=by
    have:(S.pending:Int)=0:=by simpa using A
    omega
   obtain⟨B,E⟩:=eA g (i:=15) (by simp[ck.cells,iW]);have ad:=ez g (i:=15) (.int .u64 (S.now:Int));have P:=dU ac S.st 15 (.int .u64 (S.now:Int));refine⟨_,rfl,_,by rw[aA];exact g.cell,_,rfl,by rw[aA];exact B,by rw[aA];exact E,aX (O _ ⟨?_,?_,?_⟩)⟩
   .rw[aA,cR,s,if_pos h0];exact ad
   .rw[aA,cR];exact y.ko b.es P
   .rw[aA,cR];exact z.trans P
  .have h0:¬S.pending=0:=by
    have:¬(S.pending:Int)=0:=by simpa using A
    omega
   rw[s,if_neg h0];exact g
 rintro k ⟨F,ag,ah⟩;obtain⟨B,E⟩:=eA F (i:=16) (by simp[iW]);have Q:=ez F (i:=16) (.int .i64 ((S.pending+1:Nat):Int));have G:=dU k S.st 16 (.int .i64 ((S.pending+1:Nat):Int));have ai:IntKind.wrap .i64 ((S.pending:Int)+1)=((S.pending+1:Nat):Int):=by rw[bn I I];omega
 refine⟨_,rfl,_,by rw[aA];exact F.cell,_,rfl,by rw[aA];exact B,by rw[aA];exact E,aX ?_⟩;rw[aA,cR,ai];have R:=ag.ko b.es G;generalize aB:k.setCell ⟨S.st,16,none⟩ (.int .i64 ((S.pending+1:Nat):Int))=o at Q G R⊢;have H:Ext o o.drew:=cG _;have J:=Q.ext H;have al:=R.ext H;have am:af (λq=>q=S.st) w o.drew:=c2 (ah.trans G) H λq _ K=>K.elim;obtain⟨ef,a⟩:∃ef:ck,ef={S with first:=m,pending:=S.pending+1,keys:=L.length}:=⟨_,rfl⟩;have an:m<=S.now:=by rw[s];split<;>omega
 have U:dP o.drew ef pages L aO bN:=by
  rw[a];exact⟨⟨J,al,b.es,b.jS,b.gen,⟨N.1,an,N.2.2⟩,b.b7⟩,ok,b_,f,two,kv,rfl,by show S.pending+1<=1000;omega,λ_=>X,λhf=>by have hf:S.failed=true:=hf;rw[t]at hf;cases hf⟩
 have V:d_ 0 S ef w o.drew:=by
  rw[a];exact⟨rfl,rfl,rfl,rfl,bl _,λh=>h,am.mono λq _ e=>by rw[e];exact b.Dn,λq K=>.inl K,rfl,rfl,rfl⟩
 refine aX ⟨_,rfl,id,_,by rw[aA];exact J.cell,_,rfl,id,_,by rw[aA,aA];exact J.cell,λr=>?_,λr=>?_⟩
 .have r:((S.pending+1:Nat):Int)>=(S.l.batch:Int):=cj r
  have W:=Jt U (by rw[a];exact t) cS (by rw[a];exact Z) (by rw[a];exact aa) (by rw[a];exact ab);rw[show ef.st=S.st by rw[a]]at W;refine W.use ?_;intro v aC ao;obtain⟨aE,r1,aF,cr⟩:=ao.x (c:=S.l.batch<=S.pending+1) I;obtain⟨n,rfl⟩:=cr.val;refine⟨n,rfl,aE,(V.trans r1).mono I,by rw[aF,a],.inr ?_⟩;rw[a]at cr;exact cr
 .have r:¬((S.pending+1:Nat):Int)>=(S.l.batch:Int):=cH r
  exact⟨ef,V.mono I,by rw[a],.inl ⟨rfl,I,U,by rw[a];exact t,by rw[a],by rw[a],by rw[a],by rw[a];exact s,λj _=>by rw[a];rfl⟩⟩
end
section
variable {w w' w1:J}{T ar:aK}{S aE kh:ck}{pages aO:O Nat}{L bN:O aM}{k:Nat}
def ck.cT(S:ck)(ar:aK):ck:={S with T:=ar}
theorem jR.to(h:jR w S aO bN)(ht:b8 w' ar)(a:bO S.T ar w w' k)(f:ar.E=S.T.E)(l:ar.G=S.T.G)(o:∀no,S.T.g no=true->ar.P no=S.T.P no):
 jR w' (S.cT ar) aO bN/\d_ k S (S.cT ar) w w'/\(S.cT ar).V=S.V:=by
 have r:ar.C.D.b4=S.T.C.D.b4:=congrArg (λp=>p.1.1) a.b4;have s:ar.C.D.cf.getD 3 0=S.T.C.D.cf.getD 3 0:=congrArg Prod.snd a.b4;have i:(S.cT ar).V=S.V:=by
  funext j;show ar.C.D.b4.getD j []=S.T.C.D.b4.getD j [];rw[r]
 refine⟨⟨?_,ht,by show ar.E S.st;rw[f];exact h.es,?_,a.gen.trans h.gen,h.num,λj b=>?_⟩,⟨rfl,a.d,a.n,rfl,a.a6,λe=>⟨λm=>a.calm m (e.1 _),s.trans e.2⟩,a.ah.mono λq _ e=>h.nO e,a.c3,f,l,congrArg (λp=>p.1.2.2.2.2) a.b4⟩,i⟩
 .show Var w' S.st (iW ar.bg ar.C.D.d ar.C.c ar.sb _ _ _ _ _ _ _ _) _
  rw[a.bg,a.d,a.c,a.sb];exact h.v.ah a.ah (h.t.kJ h.es)
 .show ln _ ar.n _ _ ar.g ar.P _ _
  rw[i,a.n,a.g];exact h.jS.agree (λ_ _=>rfl) λx hx=>(o x ((h.jS.g x).2 (.inl hx))).symm
 .have b:ar.g j=true:=b
  rw[a.g]at b;show ar.C.D.b7 j=true;rw[a.b7.1];exact h.b7 j b
theorem bO.ro(h:bO T ar w w' k):ar.C.D.ro↔T.C.D.ro:=by unfold ba.ro;rw[h.b7.1]
theorem dP.to(h:dP w S pages L aO bN)(ht:b8 w' ar)(a:bO S.T ar w w' k)(c:ar.E=S.T.E)(d:ar.G=S.T.G)(b:iU S.T ar):
 dP w' (S.cT ar) pages L aO bN/\d_ k S (S.cT ar) w w'/\(S.cT ar).V=S.V:=by
 obtain⟨h1,h2,i⟩:=h.tojR.to ht a c d λno j=>(b.ew no (by rw[j,Bool.or_true])).1;have l:cg ar=cg S.T:=by unfold cg;rw[a.n,b.f,a.g]
 refine⟨⟨h1,b.ok h.ok λx hx=>(h.f x).2 (.inl hx),h.b_,λno=>by show ar.f no=true↔_;rw[b.f];exact h.f no,h.two,h.kv,h.keys,h.px,λhf=>?_,λhf=>?_⟩,h2,i⟩
 .obtain⟨a1,a2,a3⟩:=h.live hf
  exact⟨λe=>a1 (a.ro.1 e),a.b7.2.trans a2,by show 1<=cg ar;rw[l];exact a3⟩
 .obtain⟨a1,a2⟩:=h.dead hf
  exact⟨a.ro.2 a1,a2⟩
theorem Jx{tk:ad}{key:Key}(h:dP w S pages L aO bN)(b:S.T.C.D.a6<=800000000)(c:Src 1 w tk (az key))(d:∀q,aB tk q->q<w.heap.size/\¬S.T.M q):
 aJ aj 50 #[.pointer (some S.st),tk] w (λv w'=>∃aI,dP w' (S.cT (S.T.bx aI S.T.P)) pages L aO bN/\d_ 30 S (S.cT (S.T.bx aI S.T.P)) w w'/\y9 S.T L key w v w'):=by
 refine okF (ae.uy (some S.st) tk) ax.uy func50 ?_;delta ae.uy ak nc;refine⟨λe=>(by cases e),λ_=>⟨_,rfl,_,h.v.cell,(y_ h.t h.ok b c d).use ?_⟩⟩;intro v w' a;have f:=a;obtain⟨aI,h1,h2,g,i⟩:=a;obtain⟨a1,a2,_⟩:=h.to h1 h2 rfl rfl (.bx g);have fin:(λv w'=>∃aI,dP w' (S.cT (S.T.bx aI S.T.P)) pages L aO bN/\d_ 30 S (S.cT (S.T.bx aI S.T.P)) w w'/\y9 S.T L key w v w') v w':=⟨aI,a1,a2,f⟩;rcases i with ⟨rfl,_⟩|⟨t,x,rfl,_⟩|⟨rfl,_⟩
 .exact⟨⟨none,0,0⟩,_,_,rfl,fin⟩
 .exact⟨t,_,_,rfl,fin⟩
 .exact⟨⟨none,0,0⟩,_,_,rfl,fin⟩
end
theorem zn(k v:Key):∀L:O aM,(gm L k v).length=(eO L k).length+1
 | []=>rfl
 |p::L=>by
  have b:=zn k v L
  unfold gm eO at b⊢
  simp only[cp,fY,kX]at b⊢
  by_cases h1:bo p.1 k
  .have h2:¬bo k p.1:=jJ h1
   have a:p.1≠k:=λe=>by rw[e]at h1;exact jJ h1 h1
   rw[if_pos (dI h1),if_neg (by simpa using h2),if_pos (dI a)]
   simp only[fY];omega
  .by_cases h2:bo k p.1
   .have a:p.1≠k:=λe=>h1 (by rw[e]at h2;exact absurd h2 (λh=>jJ h h))
    rw[if_neg (by simpa using h1),if_pos (dI h2),if_pos (dI a)]
    simp only[fY];omega
   .have a:p.1=k:=by
     rcases vz p.1 k with h|h|h
     .exact absurd h h1
     .exact h
     .exact absurd h h2
    rw[if_neg (by simpa using h1),if_neg (by simpa using h2),if_neg (by simpa using a)];omega
theorem wE{k:Key}:∀ {L:O aM},gT L->L.length=(eO L k).length+(if eY L k=none then 0 else 1)
 | [],_=>rfl
 |p::L,h=>by
  have h0:=jw.1 h
  have d:=wE (k:=k) h0.2
  by_cases e:p.1=k
  .have h1:∀q∈L,q.1≠k:=λq b c=>by
    have:=h0.1 q b
    rw[e,c]at this
    exact jJ this this
   have h2:eO (p::L) k=L:=by
    have:eO (p::L) k=eO L k:=by unfold eO;rw[kX];simp[e]
    rw[this,su h1]
   have a:eY (p::L) k≠none:=by unfold eY;simp[e]
   rw[h2,if_neg a];rfl
  .have h2:(eO (p::L) k).length=(eO L k).length+1:=by unfold eO;rw[kX];simp[e]
   have a:eY (p::L) k=eY L k:=by unfold eY;simp[e]
   rw[h2,a,fY];omega
section
variable {w w' w1:J}{T ar:aK}{S aE dF:ck}{pages aO:O Nat}{L bN:O aM}{k:Nat}
structure lT(S dF:ck):Prop where
 u:dF.u=S.u
 gen:dF.gen=S.gen
 now:dF.now=S.now
 first:dF.first=S.first
 pending:dF.pending=S.pending
 l:dF.l=S.l
 g:dF.T.g=S.T.g
 V:dF.V=S.V
theorem kR.back{c:Prop}{v:aa}(h:kR c dF aE pages L aO bN v w')(e:lT S dF)(d:d_ k S dF w w1):kR c S aE pages L aO bN v w':=by
 unfold kR at h⊢;rw[e.u,e.gen,e.now,e.g,e.V]at h;exact h.imp id λ⟨a,b,c⟩=>⟨a,λf=>b (d.q f),c⟩
theorem mE.back{v:aa}(h:mE dF aE pages L aO bN v w')(e:lT S dF)(a:d_ k S dF w w1):mE S aE pages L aO bN v w':=by
 unfold mE at h⊢;have:=λh=>kR.back (pages:=pages) (L:=L) (aO:=aO) (bN:=bN) (c:=S.l.batch<=S.pending+1) (v:=v) (aE:=aE) (w':=w') h e a;rw[e.pending,e.l,e.gen,e.u,e.now,e.first,e.g,e.V]at h;exact h.imp id this
theorem dP.Dt{b1:aK}{dG:O aM}{d:Int}(h:dP w S pages L aO bN)(hf:S.failed=false)(m:b8 w' b1)(b:bO S.T b1 w w' k)(o:b1.E=S.T.E)(r:b1.G=S.T.G)(s:C4 S.T b1 pages dG)(X:2*S.T.aL+5<=cg S.T)(t:∀p∈dG,cv p.1/\p.2.length<=24)(hd:(S.keys:Int)+d=dG.length)(cS:dG.length<4096)(Y:S.keys<4096)(y:S.pending<1000)(Z:S.T.C.D.a6+k<=800000000)(z:S.gen<=1000000000)(A:S.T.C.D.quiet):
 aJ aj 68 #[.pointer (some S.st),d] w' (λv i=>(∃n:Int,v=n)/\∃aE dH,d_ (k+100) S aE w i/\aE.now=S.now/\mE S aE dH dG aO bN v i):=by
 obtain⟨⟨dH,aa,B,eg,F,H⟩,I⟩:=s;obtain⟨J,l,K⟩:=h.tojR.to m b o r λno M=>(I no M).1;have N:lT S (S.cT b1):=⟨rfl,rfl,rfl,rfl,rfl,rfl,b.g,K⟩;obtain⟨P,Q,_⟩:=h.live hf;have R:∀j,j<2\/j=S.u.map->j∉pages:=λj c U=>by
  have:=h.two j U;rcases c with c|c
  .omega
  .exact this.2 c
 refine(Jw (d:=d) J hf B eg (λno=>(H no).trans ?_) (λx hx=>?_) t ⟨λe=>P (b.ro.1 e),b.b7.2.trans Q,by show 1<=cg b1;omega⟩ hd y cS (by show S.keys<_;omega) (by have:=b.a6;show b1.C.D.a6<=_;omega) z (l.q A)).mono ?_
 .rw[h.f no]
  constructor
  .rintro(h1|⟨h1|h1,h2⟩)
   .exact .inl h1
   .exact absurd h1 h2
   .exact .inr h1
  .rintro(h1|h1)
   .exact .inl h1
   .exact .inr ⟨.inr h1,R no h1⟩
 .rcases F x hx with h1|h1
  .exact h.two x h1
  .have h2:S.T.f x=false:=by cases ab:S.T.f x<;>simp_all
   refine⟨Nat.le_of_not_lt λV=>?_,λW=>?_⟩
   .rw[(h.f x).2 (.inr (.inl V))]at h2;cases h2
   .rw[(h.f x).2 (.inr (.inr W))]at h2;cases h2
 .rintro v i ⟨aE,r1,aF,cr⟩
  refine⟨?_,aE,dH,l.trans r1,aF,cr.back N l⟩;rcases cr with ⟨a,_⟩|a
  .exact⟨0,a⟩
  .exact a.val
theorem qi(w:J)(s:ad):aJ aj 63 #[s] w (λv w'=>v=.bool (decide (1<=s.len/\s.len<=24))/\w=w'):=by
 refine okF (ae.qi s) ax.qi func63 ?_;refine⟨?_,rfl⟩
 congr 1
 rw[fC,c7,cq,cq,cq];omega
theorem Jy{tk cQ:ad}{key val:Key}(h:dP w S pages L aO bN)(cS:L.length<4000)(y:S.pending<1000)(aN:S.T.C.D.a6<=700000000)(W:S.gen<=1000000000)(z:S.T.C.D.quiet)
 (A:Src 1 w tk (az key)) (o:∀q,aB tk q->q<w.heap.size/\¬S.T.M q) (G:Src 1 w cQ (az val)) (H:∀q,aB cQ q->q<w.heap.size/\¬S.T.M q):
 aJ aj 27 #[.pointer (some S.st),tk,cQ] w (λv w'=>(v=.int .i64 1/\¬(cv key/\val.length<=24)/\w=w')\/((cv key/\val.length<=24)/\
  ((S.failed=true/\v=.int .i64 8/\w=w')\/(S.failed=false/\∃aE,d_ 300 S aE w w'/\aE.now=S.now/\
    ((v=.int .i64 2/\h_ S=0/\dP w' S pages L aO bN/\aE=S)\/(h_ S≠0/\∃dH,mE S aE dH (gm L key val) aO bN v w')))))):=by
 have X:tk.len=key.length:=by have:=A.len;rw[c4]at this;omega
 have aP:cQ.len=val.length:=by have:=G.len;rw[c4]at this;omega
 have aQ:=h.t.s.bA;refine okF (ae.uv (some S.st) tk cQ) ax.uv func27 ?_;(delta ae.uv ak b6 aT bY nc;dsimp only);refine cA (λb w'=>(b=false↔cv key)/\w=w') (λq a=>⟨λr=>(by cases r),λ_=>(qi w tk).use ?_⟩) ?_
 .rintro _ _ ⟨rfl,rfl⟩
  refine⟨_,rfl,a _ _ ⟨?_,rfl⟩⟩;unfold cv;rw[X,l3,cq]
 rintro b _ ⟨r,rfl⟩;refine⟨λh1=>.inl ⟨rfl,λhg=>?_,rfl⟩,λh1=>?_⟩
 .rcases Bool.or_eq_true_iff.1 h1 with h2|h2
  .rw[r.2 hg.1]at h2;cases h2
  .have:=cj h2;have:=hg.2;omega
 have hg:cv key/\val.length<=24:=by
  have h2:=rh.1 h1;have J:=cH h2.2;exact⟨r.1 h2.1,I⟩
 refine⟨_,rfl,S.failed,by rw[aA];exact h.v.cell,λhf=>.inr ⟨hg,.inl ⟨hf,rfl,rfl⟩⟩,λhf=>(Ds h).use ?_⟩;rintro _ aR ⟨rfl,i⟩;have l:=h.ext i;obtain⟨Y,Z,_⟩:=h.live hf;refine⟨_,rfl,λB=>.inr ⟨hg,.inr ⟨hf,S,(d_.ext S i).mono I,rfl,.inl ⟨rfl,?_,l,rfl⟩⟩⟩,λB=>?_⟩
 .have:((h_ S:Nat):Int)=0:=by simpa using B
  omega
 have K:h_ S≠0:=by
  have:¬((h_ S:Nat):Int)=0:=by simpa using B
  omega
 refine⟨_,rfl,_,l.v.cell,(y_ l.t l.ok I (A.ext i) λq a=>⟨by have:=(o q a).1;have:=i.size;omega,(o q a).2⟩).use ?_⟩;rintro v N ⟨c,O,j,aa,u⟩;obtain⟨m,E,ab⟩:=l.to O j rfl rfl (.bx aa);have Q:d_ 30 S (S.cT (S.T.bx c S.T.P)) w N:=((d_.ext S i).trans E).mono I;have ac:lT S (S.cT (S.T.bx c S.T.P)):=⟨rfl,rfl,rfl,rfl,rfl,rfl,rfl,ab⟩;have aS:(S.cT (S.T.bx c S.T.P)).T.C.D.eG=λ_=> []:=j.b7.2.trans Z;have aU:c.D.a6<=S.T.C.D.a6+30:=j.a6;have af:∃ (t:ad) (e:al),v=.tuple #[t,e,(0:Int)]/\(e=true↔eY L key≠none):=by
  rcases u with ⟨rfl,g⟩|⟨t,x,rfl,_,hs,_⟩|⟨_,_,F⟩
  .exact⟨⟨none,0,0⟩,false,rfl,λh=>(by cases h),λh=>absurd (g hg.1) h⟩
  .exact⟨t,true,rfl,λ_=>by rw[hs];simp,λ_=>rfl⟩
  .exact absurd (z.1 30) F
 clear u;obtain⟨t,e,rfl,he⟩:=af;have aV:=i.size;have aW:=j.ah.size;have R:∀s:ad,(∀q,aB s q->q<w.heap.size/\¬S.T.M q)->∀q,aB s q->q<N.heap.size/\¬(S.T.bx c S.T.P).M q:=λs hs q a=>⟨by have:=(hs q a).1;omega,λag=>by
  rcases j.c3 q ag with h2|h2
  .exact(hs q a).2 h2
  .have:=(hs q a).1;omega⟩
 have ai:=(A.ext i).ah j.ah λq a g=>(o q a).2 (aK.gB g);have am:=(G.ext i).ah j.ah λq a g=>(H q a).2 (aK.gB g);have an:¬(S.T.bx c S.T.P).C.D.ro:=λe=>Y (j.ro.1 e);refine⟨t,e,0,rfl,λh=>(by cases h),λ_=>⟨_,rfl,_,m.v.cell,?_⟩⟩;refine(Ix O an m.ok I m.b_ (λx hx=>(m.f x).2 (.inl hx)) (by show c.D.a6<=_;omega) ai (R tk o) am (R cQ H)).use ?_;rintro v aX (⟨_,ao,_⟩|⟨_,_,b1,ap,aq,ar,au,u⟩)
 .exact absurd hg ao
 have av:cg (S.T.bx c S.T.P)=cg S.T:=rfl;have aw:(S.T.bx c S.T.P).aL=S.T.aL:=rfl;have ay:2*S.T.aL+5<=cg S.T:=by unfold h_ at K;omega
 rcases u with ⟨_,aC,_⟩|⟨rfl,_,⟨dH,aD,aG,eg,aH,aI⟩,U⟩|⟨rfl,F,aY,aZ,a0,U⟩
 .rw[av,aw]at aC;omega
 .have hlen:(S.keys:Int)+(if e=true then 0 else 1)=(gm L key val).length:=by
   have h1:=zn key val L;have h2:=wE (k:=key) h.ok.rising;have J:=h.keys;by_cases g:eY L key=none
   .have:¬e=true:=λh=>he.1 h g
    rw[if_pos g]at h2;rw[if_neg this];omega
   .rw[if_neg g]at h2
    rw[if_pos (he.2 g)];omega
  have J:=h.keys;have aM:(gm L key val).length<4096:=by split at hlen<;>omega
  have V:=λd hd=>m.Dt (d:=d) hf ap aq ar au ⟨⟨dH,aD,aG,eg,aH,aI⟩,U⟩ ay (λp y=>by
   rcases F6.1 y with rfl|⟨h1,_⟩
   .exact hg
   .exact h.kv p h1) hd aM (by show S.keys<_;omega) y (by show c.D.a6+100<=_;omega) W (E.q z)
  refine⟨0,rfl,λh=>(by cases h),λ_=>⟨λht=>(V 0 (by rw[←hlen,if_pos ht];rfl)).use ?_,λht=>(V 1 (by rw[←hlen,if_neg (by rw[ht];decide)];rfl)).use ?_⟩⟩
  all_goals
   rintro v w' ⟨⟨n,rfl⟩,aE,dH,r1,aF,cr⟩;exact⟨n,rfl,.inr ⟨hg,.inr ⟨hf,aE,(Q.trans r1).mono I,aF,.inr ⟨K,dH,cr.back ac Q⟩⟩⟩⟩
 .exact absurd ((E.q z).1 100) F
end
section
variable {w w' w1:J}{T ar:aK}{S aE dF:ck}{pages aO:O Nat}{L bN:O aM}{k:Nat}
theorem Jz{tk:ad}{key:Key}(h:dP w S pages L aO bN)(cS:L.length<4000)(z:S.pending<1000)(aC:S.T.C.D.a6<=700000000)(U:S.gen<=1000000000)(A:S.T.C.D.quiet)
 (B:Src 1 w tk (az key)) (m:∀q,aB tk q->q<w.heap.size/\¬S.T.M q):
 aJ aj 23 #[.pointer (some S.st),tk] w (λv w'=>(v=.tuple #[false,(1:Int)]/\¬cv key/\w=w')\/(cv key/\
  ((S.failed=true/\v=.tuple #[false,(8:Int)]/\w=w')\/(S.failed=false/\∃aE,d_ 300 S aE w w'/\aE.now=S.now/\
    ((v=.tuple #[false,(0:Int)]/\eY L key=none/\dP w' aE pages L aO bN/\lT S aE/\aE.failed=false)\/
     (v=.tuple #[false,(2:Int)]/\eY L key≠none/\h_ S=0/\dP w' aE pages L aO bN/\lT S aE/\aE.failed=false)\/
     (∃n:Int,v=.tuple #[.bool (n==0),n]/\eY L key≠none/\h_ S≠0/\∃dH,mE S aE dH (eO L key) aO bN n w')\/
     (v=.tuple #[false,(3:Int)]/\∀c pages L,kR c S aE pages L aO bN (3:Int) w')))))):=by
 have V:tk.len=key.length:=by have:=B.len;rw[c4]at this;omega
 have aD:=h.t.s.bA;refine okF (ae.uu (some S.st) tk) ax.uu func23 ?_;(delta ae.uu ak b6 aT nc bY nd;dsimp only);refine cA (λb w'=>(b=false↔cv key)/\w=w') (λq i=>⟨λo=>(by cases o),λ_=>(qi w tk).use ?_⟩) ?_
 .rintro _ _ ⟨rfl,rfl⟩
  refine⟨_,rfl,i _ _ ⟨?_,rfl⟩⟩;unfold cv;rw[V,l3,cq]
 rintro b _ ⟨o,rfl⟩;refine⟨λh1=>.inl ⟨rfl,λhg=>?_,rfl⟩,λh1=>?_⟩
 .rw[o.2 hg]at h1;cases h1
 have hg:cv key:=o.1 h1;refine⟨_,rfl,S.failed,by rw[aA];exact h.v.cell,λhf=>.inr ⟨hg,.inl ⟨hf,rfl,rfl⟩⟩,λhf=>?_⟩;obtain⟨W,X,_⟩:=h.live hf;refine⟨_,rfl,_,h.v.cell,(y_ h.t h.ok I B m).use ?_⟩;rintro v aG ⟨a,Y,j,Z,r⟩;obtain⟨E,u,aa⟩:=h.to Y j rfl rfl (.bx Z);have F:lT S (S.cT (S.T.bx a S.T.P)):=⟨rfl,rfl,rfl,rfl,rfl,rfl,rfl,aa⟩;have aH:(S.cT (S.T.bx a S.T.P)).T.C.D.eG=λ_=> []:=j.b7.2.trans X;have aI:a.D.a6<=S.T.C.D.a6+30:=j.a6;have ab:∃ (t:ad) (e:al),v=.tuple #[t,e,(0:Int)]/\(e=true↔eY L key≠none):=by
  rcases r with ⟨rfl,g⟩|⟨t,x,rfl,_,hs,_⟩|⟨_,_,G⟩
  .exact⟨⟨none,0,0⟩,false,rfl,λh=>(by cases h),λh=>absurd (g hg) h⟩
  .exact⟨t,true,rfl,λ_=>by rw[hs];simp,λ_=>rfl⟩
  .exact absurd (A.1 30) G
 clear r;obtain⟨t,e,rfl,he⟩:=ab;refine⟨t,e,0,rfl,λh=>(by cases h),λ_=>⟨λH=>?_,λH=>(Ds E).use ?_⟩⟩
 .have g:eY L key=none:=by
   cases ac:eY L key with
   |none=>rfl
   |some x=>
    have:e=true:=he.2 (by rw[ac];simp);rw[this]at H;cases H
  exact .inr ⟨hg,.inr ⟨hf,_,u.mono I,rfl,.inl ⟨rfl,g,E,F,hf⟩⟩⟩
 have g:eY L key≠none:=he.1 (by cases e<;>simp_all);rintro _ Q ⟨rfl,y⟩;have l:=E.ext y;have J:d_ 30 S (S.cT (S.T.bx a S.T.P)) w Q:=(u.trans (d_.ext _ y)).mono I;have af:h_ (S.cT (S.T.bx a S.T.P))=h_ S:=rfl;rw[af];refine⟨_,rfl,λK=>.inr ⟨hg,.inr ⟨hf,_,J.mono I,rfl,.inr (.inl ⟨rfl,g,?_,l,F,hf⟩)⟩⟩,λK=>?_⟩
 .have:((h_ S:Nat):Int)=0:=by simpa using K
  omega
 have R:h_ S≠0:=by
  have:¬((h_ S:Nat):Int)=0:=by simpa using K
  omega
 have aM:=j.ah.size;have aN:=y.size;have ag:∀q,aB tk q->q<Q.heap.size/\¬(S.T.bx a S.T.P).M q:=λq i=>⟨by have:=(m q i).1;omega,λai=>by
  rcases j.c3 q ai with h2|h2
  .exact(m q i).2 h2
  .have:=(m q i).1;omega⟩
 have am:=(B.ah j.ah λq i g=>(m q i).2 (aK.gB g)).ext y;have an:¬(S.T.bx a S.T.P).C.D.ro:=λe=>W (j.ro.1 e);refine⟨_,rfl,_,l.v.cell,?_⟩;refine(IA l.t an l.ok I l.b_ (λx hx=>(l.f x).2 (.inl hx)) (by show a.D.a6<=_;omega) am ag).use ?_;rintro v aP ⟨b1,ao,ap,aq,ar,r⟩;have au:cg (S.T.bx a S.T.P)=cg S.T:=rfl;have av:(S.T.bx a S.T.P).aL=S.T.aL:=rfl;have aw:2*S.T.aL+5<=cg S.T:=by unfold h_ at R;omega
 rcases r with ⟨_,N,_⟩|⟨_,_,N,_⟩|⟨_,_,_,O,_⟩|⟨rfl,_,_,_,ay⟩|⟨rfl,_,G,aQ⟩
 .exact absurd hg N
 .exact absurd N g
 .have O:cg (S.T.bx a S.T.P)<2*(S.T.bx a S.T.P).aL+3:=O
  rw[au,av]at O;omega
 .have h2:=wE (k:=key) h.ok.rising
  rw[if_neg g]at h2;have aR:=h.keys;refine⟨true,0,rfl,λh=>(by cases h),λ_=>(l.Dt (d:= -1) hf ao ap aq ar ay aw (λp z=>h.kv p (gG.1 z).1) (by show(S.keys:Int)+ -1=_;omega) I (by show S.keys<_;omega) z (by show a.D.a6+100<=_;omega) U (u.q A)).use ?_⟩;rintro v w' ⟨⟨n,rfl⟩,aE,dH,r1,aF,cr⟩;exact⟨n,rfl,.inr ⟨hg,.inr ⟨hf,aE,(J.trans r1).mono I,aF,.inr (.inr (.inl ⟨n,rfl,g,R,dH,cr.back F J⟩))⟩⟩⟩
 .exact absurd ((u.q A).1 100) G
theorem JA{fB fp:ad}{fr to:Key}{most:Int}(h:dP w S pages L aO bN)(cS:L.length<=4000)(n:S.T.C.D.a6<=800000000)(o:pages.length<=4000)
 (hf:Src 1 w fB (az fr)) (b:∀q,aB fB q->q<w.heap.size/\¬S.T.M q) (ht:Src 1 w fp (az to)) (c:∀q,aB fp q->q<w.heap.size/\¬S.T.M q) (d:to.length<=1000000):
 aJ aj 102 #[.pointer (some S.st),fB,fp,most] w (λv w'=>∃ar,dP w' (S.cT ar) pages L aO bN/\d_ (2*pages.length) S (S.cT ar) w w'/\lT S (S.cT ar)/\bO S.T ar w w' (2*pages.length)/\
  ((∃s:ad,v=.tuple #[s,(0:Int)]/\fh (λq=>¬ar.M q) w' s ((gM L fr to).take most.toNat))\/(v=.tuple #[(),(3:Int)]/\¬S.T.C.D.calm (2*pages.length)))):=by
 refine okF (ae.uM (some S.st) fB fp most) ax.uM func102 ?_;delta ae.uM ak ey;refine⟨λe=>(by cases e),λ_=>⟨_,rfl,_,h.v.cell,(IQ h.t h.ok I I hf b ht c d).use ?_⟩⟩;rintro v w' ⟨ar,i,a,j,k⟩;obtain⟨a1,a2,a3⟩:=h.to i a.to a.E j ⟨a.root,a.aL,a.f,λno _=>⟨congrFun a.P no,a.view no⟩⟩;have hs:lT S (S.cT ar):=⟨rfl,rfl,rfl,rfl,rfl,rfl,a.to.g,a3⟩;rcases k with ⟨s,rfl,l⟩|⟨rfl,m⟩
 .exact⟨s,0,rfl,ar,a1,a2,hs,a.to,.inl ⟨s,rfl,l⟩⟩
 .exact⟨⟨none,0,0⟩,3,rfl,ar,a1,a2,hs,a.to,.inr ⟨rfl,m⟩⟩
end
variable {w w':J}{D:ba}
theorem JB(a b:Int)(w:J)(T:TypeId)(k:IntKind):Sem.run aj (Builtin.min_ #[T,T] T #[.int k a,.int k b]) w=.ok (.int k (min a b)) w:=by
 simp only[Builtin.min_];unfold Builtin.min2;simp;split<;>omega
section
variable {w w':J}{D:ba}{V:Nat->dc}{gen:Nat}{u:eP}{g:Nat->al}{P:Nat->av aD}{aO:O Nat}{bN:O aM}
theorem JC{c aV k:Nat}{a:Nat->Prop}(h:dW (λ_=>False) w (lO c aV k D))(d:∀q,a q->q<w.heap.size/\¬c6 (lO c aV k D) q):dW a w (lO c aV k D):=
 ⟨h.raw,h.inv.pins,λf hf b=>(by
  have:=(List.mem_replicate.1 (show f∈List.replicate k dp from hf)).2
  rw[this]at b
  cases b),h.inv.un,d,h.inv.pg⟩
end
structure Du(D:ba)(l:eI)(bB:Nat->Prop)(k:Nat)(w w':J)(S:ck):Prop where
 live:S.failed=false
 px:S.pending=0
 now:S.now=S.u.clock
 l:S.l=l
 d:S.T.C.D.d=D.d
 n:S.T.n=D.n
 q:S.T.C.D.quiet
 a6:S.T.C.D.a6<=D.a6+k
 M:∀q,S.T.M q->cm D q\/bB q\/w.heap.size<=q
 E:∀q,S.T.E q↔q=S.st\/bB q
 st:w.heap.size<=S.st
 r:S.T.C.D.r1=D.r1
 ah:af (cm D) w w'
section
variable {w w':J}{D:ba}{bB:Nat->Prop}
theorem JD{l:eI}(h:dd w D)(y:pt (l.an:Nat) (l.batch:Nat) (l.iL:Nat))(N:∀k,D.calm k)(qT:D.cf.getD 3 0= -1)(O:D.a6<=999999000)(z:∀q,bB q->q<w.heap.size/\¬cm D q):
 aJ aj 21 #[.pointer (some D.d),.agg l.c.toArray] w (λv w'=>∃S:ck,v=.tuple #[.pointer (some S.st),(0:Int)]/\dP w' S [] [] [] []/\Du D l bB 4 w w' S/\S.u=jo/\S.gen=1):=by
 have aa:=h.cc;have P:=h.bA;refine(oA h y N qT O).mono ?_;rintro v w' ⟨aC,sb,s1,s2,c,aV,bg,st,ki,R⟩;obtain rfl:=R.Dk.val;have hd:=R.qG;have B:=R.Dk;have ab:=R.ah.size;have ac:=B.x.size;have ad:=B.hc;have ae:=B.hf;have af:=B.ht;have ag:=B.sv.lt;have E:∀j,aC.b4.getD j []=aC.now j:=λj=>by unfold ba.now;rw[hd.waits];rfl
 have m:∀q,c6 (lO c aV l.an aC) q->q=c\/q=aV\/cm aC q:=λq h=>h;have G:∀q,cm aC q->q<ki.heap.size:=λq b=>by
  rcases R.dq q b with h1|h1
  .have:=h.lt h1;omega
  .omega
 have Q:aC.quiet:=⟨hd.calm,hd.cf⟩;obtain⟨T,a⟩:∃T:aK,T=⟨bg,1+1,0,0,lO c aV l.an aC,sb,D.n,λi=>decide (i<3),λi=>decide (i<3),s1,s2,λq=>q=st\/bB q,λ_=>False,λ_=>none⟩:=⟨_,rfl⟩;have U:∀q,bB q->q<w.heap.size/\¬cm aC q:=λq b=>⟨(z q b).1,λhf=>by
  rcases R.dq q hf with h1|h1
  .exact(z q b).2 h1
  .have:=(z q b).1;omega⟩
 have V:b8 w' T:=by
  have H:dW T.X w' (lO c aV l.an aC):=JC B.ca λq b=>by
   rw[a]at b;rcases b with h1|h1|h1|h1
   .have h1:q=bg:=h1
    refine⟨I,λhf=>?_⟩;rcases m q hf with h2|h2|h2
    .omega
    .omega
    .have:=G q h2;omega
   .have A:=R.sV q h1
    refine⟨I,λhf=>?_⟩;rcases m q hf with h2|h2|h2
    .omega
    .omega
    .have ai:=B.ca.raw.dev
     exact R.Ja q h1 h2
   .rcases(show q=st\/bB q from h1) with h1|h1
    .refine⟨I,λhf=>?_⟩
     rcases m q hf with h2|h2|h2
     .omega
     .omega
     .have:=G q h2;omega
    .have A:=U q h1
     refine⟨I,λhf=>?_⟩;rcases m q hf with h2|h2|h2
     .omega
     .omega
     .exact A.2 h2
   .exact h1.elim
  rw[a]at H⊢;refine⟨B.cQ,R.sp,H,λhf=>by have:=R.sV bg hf;omega,λq b=>?_,λq b=>b.elim,hd.n,⟨by show 0<D.n;omega,(by decide:0<=12),(by decide:1+1<18446744073709551616)⟩,λno b_ F=>(by cases F),λj f=>.inl ?_,⟨rfl,rfl⟩⟩
  .rcases(show q=st\/bB q from b) with h1|h1
   .exact⟨by show q≠bg;omega,λhf=>by have:=R.sV q hf;omega,λh=>h⟩
   .have A:=z q h1
    exact⟨by show q≠bg;omega,λhf=>by have:=R.sV q hf;omega,λh=>h⟩
  .have f:aC.b7 j=true:=f
   rw[hd.b7]at f;exact f
 have J:nF jo D.n:=⟨Iff.intro (λ_=>rfl) (λ_=>rfl),by decide,by show 0<D.n;omega,by show 2<D.n;omega,by decide,P⟩;have K:nE jo:=⟨by decide,by decide,by decide,by decide,by decide,by decide⟩;have L:ln (λj=>aC.b4.getD j []) D.n 1 jo (λi=>decide (i<3)) (λ_=>none) [] []:=by
  refine⟨⟨3,I,rfl⟩,?_,.inl ?_,⟨1,bl _,?_⟩,λno=>?_,List.nodup_nil,λx hx=>(by cases hx),.inl ⟨rfl,rfl,rfl,rfl⟩,λx hx=>(by cases hx),rfl,λq b=>(by cases b),K,J,bl _⟩
  .show sI ((1:Nat):Int) (aC.b4.getD 1 [])=_
   rw[E,hd.now];exact Cb K J (by decide) (by decide)
  .show aC.b4.getD 0 []=hG
   rw[E,hd.now];rfl
  .show fe ((2:Nat):Int) (aC.b4.getD 2 [])=_
   rw[E,hd.now];exact vL I ⟨(by decide:1<=4),(by decide:4<=4),(by decide:1<18446744073709551616),by show(iC _ _).length<=232;rw[wC];omega⟩
  .show decide (no<3)=true↔no∈ []\/no<2\/no=2
   simp only[fk,false_or,cq];omega
 obtain⟨S,o⟩:∃S:ck,S=⟨st,T,l,jo,1,0,0,0,0,false⟩:=⟨_,rfl⟩;have W:1<=cg T:=by
  have h1:=wk (s:=λi=>decide (i<3)||decide (i<3)) (t:=dk (λi=>decide (i<3)||decide (i<3)) 3 true) (k:=3) (by simp) (by simp[dk]) (λi hi=>by simp[dk,hi]) (n:=D.n) I;have h2:=nH (dk (λi=>decide (i<3)||decide (i<3)) 3 true) D.n;have A:cg T=D.n-eQ (λi=>decide (i<3)||decide (i<3)) D.n:=by rw[a];rfl
  omega
 refine⟨S,by rw[o],?_,?_,by rw[o],by rw[o]⟩
 .rw[o]
  refine⟨⟨?_,V,by rw[a];exact .inl rfl,by rw[a];exact L,by rw[a],⟨(by decide:0<18446744073709551616),bl _,bl _,(by decide:1+2<18446744073709551616),?_,?_,?_⟩,λj f=>?_⟩,.inl ?_,List.nodup_nil,?_,λx hx=>(by cases hx),λp F=>(by cases F),rfl,cL _,λ_=>⟨?_,by rw[a];exact hd.eG,W⟩,λhf=>(by cases hf)⟩
  .show Var w' st (iW T.bg T.C.D.d T.C.c T.sb _ _ _ _ _ _ _ _) _
   rw[a];exact B.sv
  .have:=y.2.2.2.1;show l.batch<=1000;omega
  .have:=y.2.2.2.2.2;show l.iL<=1048576;omega
  .have:=y.2.2.1;show 1<=l.batch;omega
  .have f:T.g j=true:=f
   show T.C.D.b7 j=true;rw[a]at f⊢;show aC.b7 j=true;rw[hd.b7];exact f
  .rw[a];exact⟨rfl,rfl,rfl,rfl⟩
  .intro no
   have Y:=L.g no;rw[a];exact Y
  .intro e
   have h1:aC.b7 5=true:=by have:=e 5;rw[a]at this;exact this
   rw[hd.b7]at h1;cases h1
 .rw[o]
  refine⟨rfl,rfl,rfl,rfl,by rw[a];exact hd.d,by rw[a],by rw[a];exact Q,by rw[a];show aC.a6<=_;rw[hd.a6];omega,λq M=>?_,λq=>by rw[a],by show w.heap.size<=st;omega,by rw[a];exact hd.r,c2 R.ah B.x λq _ h=>h.elim⟩;rw[a]at M;have Z:∀q,cm aC q->cm D q\/bB q\/w.heap.size<=q:=λq b=>by
   rcases R.dq q b with h1|h1
   .exact .inl h1
   .exact .inr (.inr h1.1)
  rcases M with h1|h1|h1|h1|h1
  .rcases m q h1 with h2|h2|h2
   .exact .inr (.inr I)
   .exact .inr (.inr I)
   .exact Z q h2
  .have h1:q=bg:=h1
   exact .inr (.inr I)
  .exact .inr (.inr (R.sV q h1).1)
  .rcases(show q=st\/bB q from h1) with h1|h1
   .exact .inr (.inr I)
   .exact .inr (.inl h1)
  .exact h1.elim
end
section
variable {V:Nat->dc}{n gen:Nat}{u:eP}{g:Nat->al}{P:Nat->av aD}{aO:O Nat}{bN:O aM}
theorem ln.low(h:ln V n gen u g P aO bN):aO.length<=bN.length:=by
 rcases h.ok with ⟨_,_,h2,_⟩|h2
 .rw[h2];exact cL _
 .exact h2.pages.1
end
structure gQ(w0 w:J)(bB:Nat->Prop)(d n:Nat)(l:eI)(S:ck)(pages:O Nat)(L:O aM)(aO:O Nat)(bN:O aM)(c:Nat):Prop where
 x:Ext w0 w
 at_:dP w S pages L aO bN
 E:∀q,S.T.E q↔q=S.st\/bB q
 ne:¬bB S.st
 sW:∀q,S.T.M q->w0.heap.size<=q
 lim:S.l=l
 d:S.T.C.D.d=d
 n:S.T.n=n
 a6:S.T.C.D.a6<=20000*(c+1)
 eT:L.length<=c/\bN.length<=c
 gen:S.gen<=c+1
 wF:S.pending<=c
 r:S.T.C.D.r1=true
section
variable {w0 w w':J}{bB:Nat->Prop}{d n bf k c:Nat}{l:eI}{S aE:ck}{pages aO:O Nat}{L bN:O aM}
theorem fh.zo{s:ad}(b:fh (λq=>¬S.T.M q) w s L)(hd:d_ k S aE w w'):fh (λq=>¬aE.T.M q) w' s L:=
 ((b.a7 (C:=λq=>¬S.T.M q/\¬aE.T.M q) λq f a=>⟨a,λc=>by rcases hd.c3 q c with h|h;exact a h;omega⟩).ah hd.ah λq d _ e=>d.1 e.1).a7 λ_ _ h=>h.2
theorem gQ.lU(h:gQ w0 w bB d n l S pages L aO bN c){q:Nat}(a:bB q):S.T.E q/\q≠S.st:=⟨(h.E q).2 (.inr a),λe=>h.ne (e▸a)⟩
theorem gQ.ext(h:gQ w0 w bB d n l S pages L aO bN c)(hx:Ext w w'):gQ w0 w' bB d n l S pages L aO bN c:={h with x:=h.x.trans hx,at_:=h.at_.ext hx}
theorem gQ.mono{e:Nat}(h:gQ w0 w bB d n l S pages L aO bN c)(he:c<=e):gQ w0 w bB d n l S pages L aO bN e:={h with a6:=by have:=h.a6;omega,eT:=⟨by have:=h.eT.1;omega,by have:=h.eT.2;omega⟩,gen:=by have:=h.gen;omega,wF:=by have:=h.wF;omega}
theorem gQ.ko{kN:Nat}(h:gQ w0 w bB d n l S pages L aO bN c)(a:bB kN)(hc:af (λq=>q=kN) w w'):gQ w0 w' bB d n l S pages L aO bN c:=
 {h with x:=Ext.dS h.x hc λq e=>by rw[e];exact h.sW _ (.inr (.inr (.inr (.inl (h.lU a).1)))),at_:=h.at_.ko (h.lU a).1 (h.lU a).2 hc}
theorem gQ.step{dH fS:O Nat}{lj py:O aM}(h:gQ w0 w bB d n l S pages L aO bN c)(hs:dP w' aE dH lj fS py)(hd:d_ k S aE w w')(b:k<=20000)(hf:lj.length<=c+1/\py.length<=c+1)(hg:aE.gen<=S.gen+1)(e:aE.pending<=S.pending+1):gQ w0 w' bB d n l aE dH lj fS py (c+1):=
 ⟨Ext.dS h.x hd.ah λq a=>h.sW q a.1,hs,λq=>by rw[hd.E,hd.st];exact h.E q,by rw[hd.st];exact h.ne,λq a=>by
  rcases hd.c3 q a with h1|h1
  .exact h.sW q h1
  .have:=h.x.size;omega,hd.l.trans h.lim,hd.d.trans h.d,hd.n.trans h.n,by have:=hd.a6;have:=h.a6;omega,hf,by have:=h.gen;omega,by have:=h.wF;omega,hd.r.trans h.r⟩
end
section
variable {w0 w w' w1 ai:J}{bB:Nat->Prop}{d n bf k c:Nat}{l:eI}{S aE:ck}{pages dH aO fS:O Nat}{L lj bN py:O aM}{v:aa}
theorem kR.JE{c:Prop}(h:kR c S aE pages L aO bN v w')(a:S.T.C.D.quiet):v=.int .i64 0/\c/\dP w' aE pages L pages L/\aE.failed=false/\aE.gen=S.gen+1/\aE.u.clock=S.now/\aE.u.dn=S.u.dn+1/\aE.pending=0:=by
 rcases h with h|⟨_,h,_⟩
 .exact h
 .exact absurd a h
end
section
variable {w0 w w' w1 ai:J}{bB bM:Nat->Prop}{d n bf k c i:Nat}{l:eI}{S aE:ck}{pages dH aO fS bk:O Nat}{L lj bN py bc:O aM}{v:aa}{aC:ba}{ls:ad}
theorem dP.grow(h:dP w S pages L aO bN)(hx:Ext w w'){b:Nat->Prop}(c:∀q,b q->S.T.E q\/(w.heap.size<=q/\q<w'.heap.size))(hs:b S.st):dP w' (S.cT (S.T.cu b S.T.G)) pages L aO bN:=by
 have ht:b8 w' (S.T.cu b S.T.G):=h.t.grow (W:=λ_=>False) hx (λ_ d=>d.elim) (λq a=>(c q a).imp id .inr) (λq a=>.inr (.inl a)) λq a hg=>by
  rcases c q a with h1|h1
  .exact(h.t.dO q h1).2.2 hg
  .have:=h.t.lt (q:=q) (.inr (.inr (.inr (.inr hg))));omega
 exact⟨⟨h.v.ext hx,ht,hs,h.jS,h.gen,h.num,h.b7⟩,h.ok,h.b_,h.f,h.two,h.kv,h.keys,h.px,h.live,h.dead⟩
def ck.own(S:ck)(bM:Nat->Prop):ck:=S.cT (S.T.cu (λq=>q=S.st\/bM q) S.T.G)
theorem ck.JF{q:Nat}(b:∀q,S.T.E q↔q=S.st\/bB q)(h1:∀q,bM q->bB q\/k<=q)(a:(S.own bM).T.M q):S.T.M q\/k<=q:=by
 rcases a with a|a|a|a|a
 .exact .inl (.inl a)
 .exact .inl (.inr (.inl a))
 .exact .inl (.inr (.inr (.inl a)))
 .rcases(show q=S.st\/bM q from a) with h|h
  .exact .inl (.inr (.inr (.inr (.inl ((b q).2 (.inl h))))))
  .rcases h1 q h with h|h
   .exact .inl (.inr (.inr (.inr (.inl ((b q).2 (.inr h))))))
   .exact .inr h
 .exact .inl (.inr (.inr (.inr (.inr a))))
theorem gQ.grow(h:gQ w0 w bB d n l S pages L aO bN c)(hx:Ext w w')(b:∀q,bM q->bB q\/(w.heap.size<=q/\q<w'.heap.size)):gQ w0 w' bM d n l (S.own bM) pages L aO bN c:=
 ⟨h.x.trans hx,h.at_.grow hx (λq a=>by
  rcases a with h1|h1
  .exact .inl ((h.E q).2 (.inl h1))
  .exact(b q h1).imp (λh2=>(h.E q).2 (.inr h2)) id) (.inl rfl),λq=>Iff.rfl,λhs=>by
  have hs:bM S.st:=hs
  rcases b _ hs with h1|h1
  .exact h.ne h1
  .have:=h.at_.t.lt (q:=S.st) (.inr (.inr (.inr (.inl h.at_.es))));omega,λq a=>by
  rcases ck.JF h.E (λq a=>(b q a).imp id And.left) a with h1|h1
  .exact h.sW q h1
  .have:=h.x.size;omega,h.lim,h.d,h.n,h.a6,h.eT,h.gen,h.wF,h.r⟩
end
section
variable {w0 w w' w1 ai:J}{bB bM:Nat->Prop}{d n bf k c i:Nat}{l:eI}{S aE:ck}{pages dH aO fS bk:O Nat}{L lj bN py bc:O aM}{v:aa}{aC:ba}{ls:ad}
theorem dP.room(h:dP w S pages L aO bN):S.T.n<=cg S.T+pages.length+aO.length+3:=by
 have h1:=IW (t:=λi=>S.T.f i||S.T.g i) (l:=pages++aO++ [0,1,S.u.map]) S.T.n λi _ hi=>by
  simp only[iY]at hi;simp only[cK,cX,fk,fv];rcases hi with hi|hi
  .rcases(h.f i).1 hi with h2|h2|h2
   .exact .inl (.inl h2)
   .exact .inr I
   .exact .inr (.inr (.inr h2))
  .rcases(h.jS.g i).1 hi with h2|h2|h2
   .exact .inl (.inr h2)
   .exact .inr I
   .exact .inr (.inr (.inr h2))
 simp only[cp,fY,kW]at h1;unfold cg;omega
theorem gQ.new{D:ba}(hx:Ext w0 w)(e:dP w' S [] [] [] [])(a:Du D l bB 4 w w' S)(hu:S.u=jo)(hg:S.gen=1)(b:∀q,cm D q->w0.heap.size<=q)(c:∀q,bB q->w0.heap.size<=q/\q<w.heap.size)(i:D.a6=0)(f:D.r1=true):gQ w0 w' bB D.d D.n l S [] [] [] [] 0:=
 ⟨Ext.dS hx a.ah b,e,a.E,λh=>by have:=(c _ h).2;have:=a.st;omega,λq g=>by
  rcases a.M q g with h1|h1|h1
  .exact b q h1
  .exact(c q h1).1
  .have:=hx.size;omega,a.l,a.d,a.n,by have:=a.a6;omega,⟨bl _,bl _⟩,I,by rw[a.px];exact bl _,a.r.trans f⟩
end
section
variable {w0 w w' w1 ai:J}{bB bM:Nat->Prop}{d n bf k c i:Nat}{l:eI}{S aE:ck}{pages dH aO fS bk:O Nat}{L lj bN py bc:O aM}{v:aa}{aC:ba}{ls:ad}
def mF(b:Nat):eI:=⟨8,1+b%12,1+b/16%12⟩
theorem JG(b:Nat):pt ((mF b).an:Nat) ((mF b).batch:Nat) ((mF b).iL:Nat):=by
 unfold pt mF;have h1:b%12<12:=gZ _ (by decide);have h2:b/16%12<12:=gZ _ (by decide);show(8:Int)<=((8:Nat):Int)/\((8:Nat):Int)<=64/\(1:Int)<=((1+b%12:Nat):Int)/\((1+b%12:Nat):Int)<=1000/\(1:Int)<=((1+b/16%12:Nat):Int)/\((1+b/16%12:Nat):Int)<=1048576;omega
theorem JH{b:Nat}(a:b<256):IntKind.wrap .u8 (Int.tdiv (b:Int) 16)=((b/16:Nat):Int):=by
 rw[wI I];have h:((b:Int)/16)=((b/16:Nat):Int):=by omega
 rw[h];have h2:b/16<256:=by omega
 show((b/16:Nat):Int)%256=_;omega
end
section
variable {w:J}{ab st:Nat}{most:Int}
theorem qe{s:av ag}(w:J)(most:Int):aJ aj 37 #[.pointer s,most] w (λv w'=>Ext w w'/\(((s=none\/most<1\/400<most)/\v=.tuple #[.pointer none,(1:Int)])\/((s≠none/\1<=most/\most<=400)/\v=.tuple #[.pointer (some w.heap.size),(0:Int)]/\Var w' w.heap.size [.pointer s,most] 120))):=by
 refine okF (ae.qe s most) ax.qe func37 ?_;delta ae.qe ak Y;refine⟨λh=>⟨.refl _ _,.inl ⟨?_,rfl⟩⟩,λh=>a8 (vs:=[.pointer s,most]) rfl λw1 b hx _=>⟨hx,.inr ⟨?_,rfl,b⟩⟩⟩
 .cases s with
  |none=>exact .inl rfl
  |some a=>simp at h;exact .inr I
 .cases s with
  |none=>simp at h
  |some a=>simp at h;exact⟨by simp,I,I⟩
theorem JI(a:Var w ab [.pointer (some st),most] 120):aJ aj 38 #[.pointer (some ab)] w (λv w'=>v=.pointer (some st)/\w=w'):=by
 refine okF (ae.uw (some ab)) ax.uw func38 ?_;delta ae.uw ak;exact⟨λh=>(by cases h),λ_=>⟨_,rfl,_,a.cell,rfl,rfl⟩⟩
theorem Dv{S:ck}{pages aO:O Nat}{L bN:O aM}(a:Var w ab [.pointer (some S.st),most] 120)(h:dP w S pages L aO bN):aJ aj 17 #[.pointer (some ab)] w (λv w'=>v=L.length/\w=w'):=by
 refine okF (ae.ur (some ab)) ax.ur func17 ?_;delta ae.ur j6 bY;refine(JI a).use ?_;rintro _ _ ⟨rfl,rfl⟩;refine⟨_,rfl,(Jv h).use ?_⟩;rintro _ _ ⟨rfl,rfl⟩;exact⟨_,rfl,by rw[h.keys],rfl⟩
end
theorem zp{s:Int}{p:bp}(h:ee s p=true):∃k:Nat,s=(k:Int)/\k<=65535/\fU p.addr p.bits=some p:=by
 unfold ee at h;rw[c7,cq]at h;obtain⟨k,h1,h2⟩:=qQ h.2;exact⟨k,h1,h2,h.1⟩
theorem JJ{s b:Int}{p a:bp}(h:ee s p=true)(j:ee b a=true)(he:eS s.toNat p=eS b.toNat a):s=b/\p=a:=by
 obtain⟨k,rfl,l,c⟩:=zp h;obtain⟨d,rfl,m,f⟩:=zp j;rw[dg,dg]at he;have h1:=yr l p;rw[he,yr m a]at h1;have h2:=yt k p;rw[he,yt d a]at h2;have g:=yu k p;rw[he,yu d a]at g;have n:p.addr=a.addr:=by
  have i:=yq (x1 c).2.1;rw[←g,yq (x1 f).2.1]at i;exact(Option.some.inj i).symm
 have cx:=sD c;have b3:=sD f;have o:p.bits=a.bits:=by
  have e:=congrArg UInt8.toNat (Option.some.inj h2);rw[rp,rp]at e;omega
 refine⟨I,?_⟩
 cases p;cases a
 simp_all
def aG.kv(t:aG):aM:=(eS t.s.toNat t.p,ji t.b.toNat t.u)
section
variable {T:O aG}{s:Int}{p:bp}
theorem zq{t:aG}(ht:ee t.s t.p=true)(hg:ee s p=true):decide (t.kv.1=eS s.toNat p)=ek s p t:=by
 unfold ek;rw[fC,c7,cq,cq,cq];exact⟨λh=>JJ ht hg h,λh=>by show eS t.s.toNat t.p=_;rw[h.1,h.2]⟩
theorem zr(c:∀t∈T,ee t.s t.p=true)(hg:ee s p=true):eY (T.map aG.kv) (eS s.toNat p)=(T.find? (ek s p)).map λt=>ji t.b.toNat t.u:=by
 unfold eY
 induction T with
 |nil=>rfl
 |cons t T a=>
  have a:=a λx hx=>c x (jv _ hx);rw[g0,List.find?_cons,List.find?_cons,zq (c t (pB)) hg]
  cases ek s p t with
  |true=>rfl
  |false=>exact a
theorem JK(b:∀t∈T,ee t.s t.p=true)(hg:ee s p=true):eO (T.map aG.kv) (eS s.toNat p)=(T.filter λt=> !ek s p t).map aG.kv:=by
 unfold eO
 induction T with
 |nil=>rfl
 |cons t T a=>
  have a:=a λx hx=>b x (jv _ hx);have h1:=zq (b t (pB)) hg;rw[g0,kX,kX,a];have e:decide (t.kv.1≠eS s.toNat p)= !ek s p t:=by rw[←h1];simp
  rw[e]
  cases ek s p t<;>rfl
end
def gY(T:O aG)(t:aG):O aG:=(T.filter λx=>decide (bo x.kv.1 t.kv.1))++t::T.filter λx=>decide (bo t.kv.1 x.kv.1)
theorem Dw(T:O aG)(t:aG):gm (T.map aG.kv) t.kv.1 t.kv.2=(gY T t).map aG.kv:=by
 unfold gm gY;rw[fJ,g0,List.filter_map,List.filter_map];rfl
theorem JL{T:O aG}{t x:aG}(h:x∈gY T t):x=t\/x∈T:=by
 unfold gY at h;rcases cK.1 h with h|h
 .exact .inr (gG.1 h).1
 .rcases cX.1 h with h|h
  .exact .inl h
  .exact .inr (gG.1 h).1
theorem q7{k:Nat}{p:bp}:cv (eS k p):=by
 have h:=vU k p;have h2:=vy p.addr;unfold cv;omega
section
variable {T A B:O aG}{t x:aG}{i m now:Nat}{fr:Key}
def gE(T:O aG):Prop:=T.Pairwise λa b=>bo a.kv.1 b.kv.1
theorem Dx:gT (T.map aG.kv)↔gE T:=List.pairwise_map
theorem Dy(au:∀a∈A,bo a.kv.1 t.kv.1)(e:∀b∈B,bo t.kv.1 b.kv.1):gY (A++B) t=A++t::B:=by
 unfold gY;rw[g1,g1,ie.2 λa c=>dI (au a c),lr.2 λb d=>by simpa using jJ (e b d),lr.2 λa c=>by simpa using jJ (au a c),ie.2 λb d=>dI (e b d),fu,hU]
theorem JM(hx:x.kv.1=t.kv.1)(au:∀a∈A,bo a.kv.1 t.kv.1)(c:∀b∈B,bo t.kv.1 b.kv.1):gY (A++x::B) t=A++t::B:=by
 have h:=Dy au c;unfold gY at h⊢;rw[←h,g1,g1,g1,g1,kX,kX,hx];simp[kG]
theorem zt(h:gE T)(hi:i<T.length):(∀a∈T.take i,bo a.kv.1 T[i].kv.1)/\∀b∈T.drop (i+1),bo T[i].kv.1 b.kv.1:=by
 have e:T=T.take i++T[i]::T.drop (i+1):=by rw[List.getElem_cons_drop,fI]
 have h2:gE (T.take i++T[i]::T.drop (i+1)):=e▸h;obtain⟨_,c,d⟩:=l2.1 h2;exact⟨λa f=>d a f _ (pB),(jw.1 c).1⟩
theorem Dz(h:ek t.s t.p x=true):x.kv.1=t.kv.1:=by
 unfold ek at h;rw[c7,cq,cq]at h;show eS _ _=eS _ _;rw[h.1,h.2]
theorem JN(h:gE T)(hf:T.findIdx? (ek t.s t.p)=some i):i<T.length/\T.set i t=gY T t:=by
 obtain⟨hi,a,_⟩:=List.findIdx?_eq_some_iff_getElem.1 hf;have hx:=Dz a;have h1:=zt h hi;rw[hx]at h1;refine⟨hi,?_⟩;have e:T=T.take i++T[i]::T.drop (i+1):=by rw[List.getElem_cons_drop,fI]
 have h2:=JM hx h1.1 h1.2;rw[←e]at h2;rw[h2,wK,if_pos hi]
theorem DA(h:gE T)(d:∀t∈T,ee t.s t.p=true)(hg:ee t.s t.p=true)(hf:T.findIdx? (ek t.s t.p)=none)(hi:i<=T.length)(f:∀a∈T.take i,bo a.kv.1 t.kv.1)(g:∀hi:i<T.length,¬bo T[i].kv.1 t.kv.1):T.take i++t::T.drop i=gY T t:=by
 have e:=Dy (B:=T.drop i) f λb c=>?_
 .rw[fI]at e
  exact e.symm
 have j:∀x∈T,x.kv.1≠t.kv.1:=λx hx e=>by
  have h1:=List.findIdx?_eq_none_iff.1 hf x hx;rw[←zq (d x hx) hg]at h1;exact absurd e (cH h1)
 have key:∀x∈T,¬bo x.kv.1 t.kv.1->bo t.kv.1 x.kv.1:=λx hx k=>by
  rcases vz x.kv.1 t.kv.1 with h1|h1|h1
  .exact absurd h1 k
  .exact absurd h1 (j x hx)
  .exact h1
 rcases ec i T.length with h1|h1
 .have h2:=key _ (cN h1) (g h1)
  rw[←List.getElem_cons_drop h1]at c;rcases cX.1 c with rfl|c
  .exact h2
  .exact lG h2 ((zt h h1).2 b c)
 .rw[ru h1]at c;cases c
def gF(T:O aG)(fr:Key):O aG:=T.filter λt=>decide (dM fr t.kv.1)
def eJ(T:O aG)(fr:Key)(m:Nat):O aG:=(gF T fr).take m
def fq(T Q:O aG)(ch:aG->al):O aG:=T.filter λt=> !(decide (t∈Q)&&ch t)
def jq(T Q:O aG):Key:=match Q.getLast? with
 |none=> []
 |some t=>if T.getLast? =some t then [] else t.kv.1++ [0]
theorem gE.nodup(h:gE T):T.Nodup:=List.Pairwise.imp (λ{a b} c (e:a=b)=>by rw[e]at c;exact kG _ c) h
theorem JO(h:gE T){Q:O aG}{ch:aG->al}(c:x∈T)(hx:x∉Q)(d:∀t∈T,ee t.s t.p=true):(fq T Q ch).filter (λt=> !ek x.s x.p t)=T.filter (λt=> !(decide (t∈Q)&&ch t)&& !decide (t=x)):=by
 unfold fq;rw[List.filter_filter];refine pJ λt ht=>?_;rw[Bool.and_comm]
 congr 2
 rw[fC,cq];refine⟨λe=>?_,λe=>by rw[e];simp[ek]⟩;have h1:=Dz (t:=x) e;obtain⟨i,hi,rfl⟩:=tb.1 ht;obtain⟨j,b,rfl⟩:=tb.1 c;have h2:=lv.1 h;rcases Nat.lt_trichotomy i j with a|rfl|a
 .have:=h2 i j hi b a;rw[h1]at this;exact absurd this (kG _)
 .rfl
 .have:=h2 j i b hi a;rw[h1]at this;exact absurd this (kG _)
end
def aG.ok(t:aG):Prop:=t.dZ=true/\t.u<18446744073709551616
theorem aG.ok.k{t:aG}(h:t.ok):ee t.s t.p=true:=by have:=h.1;unfold aG.dZ at this;rw[c7]at this;exact this.1
theorem aG.ok.b{t:aG}(h:t.ok):iO t.b=true:=by have:=h.1;unfold aG.dZ at this;rw[c7]at this;exact this.2
def kS(S:ck)(bP:O aG)(aE:ck)(dQ:O aG):Prop:=(aE.u.dn=S.u.dn/\dQ=bP)\/S.u.dn<aE.u.dn
theorem kS.trans{S aE c:ck}{bP dQ d:O aG}(h:kS S bP aE dQ)(e:kS aE dQ c d):kS S bP c d:=by
 rcases h with ⟨a,rfl⟩|a<;>rcases e with ⟨b,rfl⟩|b
 .exact .inl ⟨b.trans a,rfl⟩
 .exact .inr I
 .exact .inr I
 .exact .inr I
structure dw(w0 w:J)(bB:Nat->Prop)(d n:Nat)(l:eI)(ab most:Nat)(S:ck)(pages aO:O Nat)(T bP:O aG)(c:Nat):Prop where
 s:gQ w0 w bB d n l S pages (T.map aG.kv) aO (bP.map aG.kv) c
 live:S.failed=false
 q:S.T.C.D.quiet
 wG:bB ab
 v:Var w ab [.pointer (some S.st),most] 120
 ok:∀t∈T,t.ok
 DB:∀t∈bP,t.ok
 wH:S.pending<l.batch
 DC:S.pending=0->T=bP
 eT:T.length<=most/\bP.length<=most
 mG:1<=most/\most<=400
 bV:n=4*most+64
 mH:gE T
section
variable {w0 w w':J}{bB:Nat->Prop}{d n ab most k c:Nat}{l:eI}{S aE:ck}{pages dH aO fS:O Nat}{T ar bP dQ:O aG}{tk cQ:ad}{key:Key}{v:aa}{s:Int}{p:bp}
theorem dw.ext(h:dw w0 w bB d n l ab most S pages aO T bP c)(hx:Ext w w'):dw w0 w' bB d n l ab most S pages aO T bP c:={h with s:=h.s.ext hx,v:=h.v.ext hx}
theorem dw.mono{e:Nat}(h:dw w0 w bB d n l ab most S pages aO T bP c)(he:c<=e):dw w0 w bB d n l ab most S pages aO T bP e:={h with s:=h.s.mono he}
theorem dw.new(h:dw w0 w bB d n l ab most S pages aO T bP c):∀q,w.heap.size<=q->¬S.T.M q:=λq b a=>by have:=h.s.at_.t.lt a;omega
theorem dw.keys(h:dw w0 w bB d n l ab most S pages aO T bP c):∀t∈T,ee t.s t.p=true:=λt ht=>(h.ok t ht).k
theorem dw.room(h:dw w0 w bB d n l ab most S pages aO T bP c):h_ S≠0:=by
 have h1:=h.eT;have e:=h.s.at_.room;have a:=h.s.at_.ok.low (by rw[di];have:=h.mG;omega);have b:=h.s.at_.jS.low;have f:=h.s.n;have g:=h.bV;rw[di]at a b;unfold h_;omega
theorem dw.step(h:dw w0 w bB d n l ab most S pages aO T bP c)(hs:dP w' aE dH (ar.map aG.kv) fS (dQ.map aG.kv))(hd:d_ k S aE w w')(f:k<=20000)(u:ar.length<=T.length+1)(a:dQ=bP\/dQ=ar)(g:ar.length<=most)(hg:aE.gen<=S.gen+1)(i:aE.pending<=S.pending+1)(hf:aE.failed=false)(b:∀t∈ar,t.ok)(j:aE.pending<l.batch)(m:aE.pending=0->ar=dQ):
 dw w0 w' bB d n l ab most aE dH fS ar dQ (c+1):=by
 have o:=h.s.eT;rw[di,di]at o;have e:=h.s.lU h.wG;have p:dQ.length<=c+1/\dQ.length<=most:=by
  have:=h.eT;rcases a with rfl|rfl<;>omega
 refine⟨h.s.step hs hd f (by rw[di,di];omega) hg i,hf,hd.q h.q,h.wG,?_,b,?_,j,m,⟨g,p.2⟩,h.mG,h.bV,Dx.1 (hs.ok.rising)⟩
 .rw[hd.st]
  exact h.v.ah hd.ah λr=>e.2 (r.2 e.1)
 .rcases a with rfl|rfl
  .exact h.DB
  .exact b
theorem dw.read(h:dw w0 w bB d n l ab most S pages aO T bP c)(hs:dP w' aE pages (T.map aG.kv) aO (bP.map aG.kv))(hd:d_ k S aE w w')(b:k<=20000)(hg:aE.gen=S.gen)(a:aE.pending=S.pending)(hf:aE.failed=S.failed):dw w0 w' bB d n l ab most aE pages aO T bP (c+1):=
 h.step hs hd b I (.inl rfl) h.eT.1 I I (hf.trans h.live) h.ok (by rw[a];exact h.wH) (by rw[a];exact h.DC)
def iX(w0:J)(bB:Nat->Prop)(d n:Nat)(l:eI)(ab most:Nat)(S:ck)(bP ar:O aG)(w:J)(c:Nat)(w':J):Prop:=
 ∃ (k:Nat) (aE:ck) (dH fS:O Nat) (dQ:O aG),dw w0 w' bB d n l ab most aE dH fS ar dQ c/\d_ k S aE w w'/\aE.now=S.now/\kS S bP aE dQ
theorem dw.more(h:dw w0 w bB d n l ab most S pages aO T bP c)(a:mE S aE dH (ar.map aG.kv) aO (bP.map aG.kv) v w')(hd:d_ k S aE w w')(b:aE.now=S.now)(f:k<=20000)(g:ar.length<=T.length+1)(i:ar.length<=most)(j:∀t∈ar,t.ok):
 v=.int .i64 0/\iX w0 bB d n l ab most S bP ar w (c+1) w':=by
 have p:=h.s.at_.num.2.2.2.2.2.2;have m:=h.s.lim;rcases a with ⟨rfl,h1,hs,hf,hg,hu,o,_⟩|a
 .exact⟨rfl,k,aE,dH,aO,bP,h.step hs hd f g (.inl rfl) i I I hf j (by rw[←m];omega) (λe=>I),hd,b,.inl ⟨by rw[hu],rfl⟩⟩
 .obtain⟨rfl,_,hs,hf,hg,_,r,o⟩:=a.JE h.q
  exact⟨rfl,k,aE,dH,dH,ar,h.step hs hd f g (.inr rfl) i I I hf j (by rw[←m];omega) (λ_=>rfl),hd,b,.inr I⟩
theorem dw.put{t:aG}(h:dw w0 w bB d n l ab most S pages aO T bP c)(ht:t.ok)(hlen:(gY T t).length<=most/\(gY T t).length<=T.length+1)(hc:c<=30000)(f:Src 1 w tk (az (eS t.s.toNat t.p)))(g:∀q,aB tk q->q<w.heap.size/\¬S.T.M q)(i:Src 1 w cQ (az (ji t.b.toNat t.u)))(j:∀q,aB cQ q->q<w.heap.size/\¬S.T.M q):
 aJ aj 27 #[.pointer (some S.st),tk,cQ] w (λv w'=>v=.int .i64 0/\iX w0 bB d n l ab most S bP (gY T t) w (c+1) w'):=by
 have k:=h.s.at_.num.2.2.2.2.1;have m:=h.s.lim;have z:=h.wH;have A:=h.s.a6;have B:=h.s.gen;refine(Jy (key:=eS t.s.toNat t.p) (val:=ji t.b.toNat t.u) h.s.at_ (by rw[di];have:=h.eT.1;have:=h.mG;omega) (by rw[m]at k;omega) I I h.q f g i j).mono ?_;rintro v w' (⟨_,o,_⟩|⟨_,⟨hf,_⟩|⟨_,aE,hd,r,⟨_,y,_⟩|⟨_,dH,a⟩⟩⟩)
 .exact absurd ⟨q7,by rw[qS];decide⟩ o
 .rw[h.live]at hf;cases hf
 .exact absurd y h.room
 .rw[show gm (T.map aG.kv) (eS t.s.toNat t.p) (ji t.b.toNat t.u)=(gY T t).map aG.kv from Dw T t]at a
  exact h.more a hd r I hlen.2 hlen.1 λx hx=>(JL hx).elim (λe=>e▸ht) (h.ok x)
theorem dw.del(h:dw w0 w bB d n l ab most S pages aO T bP c)(hg:ee s p=true)(hc:c<=30000)(j:Src 1 w tk (az (eS s.toNat p)))(k:∀q,aB tk q->q<w.heap.size/\¬S.T.M q):
 aJ aj 23 #[.pointer (some S.st),tk] w (λv w'=>v=.tuple #[.bool (T.find? (ek s p)).isSome,(0:Int)]/\iX w0 bB d n l ab most S bP (T.filter λt=> !ek s p t) w (c+1) w'):=by
 have m:=h.s.at_.num.2.2.2.2.1;have o:=h.s.lim;have D:=h.wH;have E:=h.s.a6;have F:=h.s.gen;have f:=zr h.keys hg;have G:(T.filter λt=> !ek s p t).length<=T.length:=mY _ _;refine(Jz (key:=eS s.toNat p) h.s.at_ (by rw[di];have:=h.eT.1;have:=h.mG;omega) (by rw[o]at m;omega) I I h.q j k).mono ?_;rintro v w' (⟨_,r,_⟩|⟨_,⟨hf,_⟩|⟨_,aE,hd,g,⟨rfl,a,hs,he,y⟩|⟨_,_,z,_⟩|⟨e,rfl,a,_,dH,i⟩|⟨_,hx⟩⟩⟩)
 .exact absurd q7 r
 .rw[h.live]at hf;cases hf
 .rw[f,Option.map_eq_none_iff]at a
  rw[a];refine⟨rfl,300,aE,pages,aO,bP,?_,hd,g,.inl ⟨by rw[he.u],rfl⟩⟩;rw[ie.2 λt ht=>by rw[iE,←fi];exact jZ.1 a t ht];exact h.read hs hd I he.gen he.pending (y.trans h.live.symm)
 .exact absurd z h.room
 .rw[JK h.keys hg]at i
  obtain⟨A,B⟩:=h.more i hd g I I (by have:=h.eT.1;omega) λx hx=>h.ok x (gG.1 hx).1;obtain rfl:e=0:=by cases A;rfl
  rw[f,ne_eq,Option.map_eq_none_iff]at a;refine⟨?_,B⟩
  cases C:T.find? (ek s p) with
  |none=>exact absurd C a
  |some t=>rfl
 .rcases hx True pages (T.map aG.kv) with ⟨b,_⟩|⟨_,b,_⟩
  .cases b
  .exact absurd h.q b
theorem dw.get(h:dw w0 w bB d n l ab most S pages aO T bP c)(hg:ee s p=true)(hc:c<=30000)(g:Src 1 w tk (az (eS s.toNat p)))(i:∀q,aB tk q->q<w.heap.size/\¬S.T.M q):
 aJ aj 50 #[.pointer (some S.st),tk] w (λv w'=>(∃ (t:ad),v=.tuple #[t,.bool (T.find? (ek s p)).isSome,(0:Int)]/\∀x,T.find? (ek s p)=some x->Src 1 w' t (az (ji x.b.toNat x.u))/\t.len<=t.cap)/\iX w0 bB d n l ab most S bP T w (c+1) w'):=by
 have o:=h.s.a6;have f:=zr h.keys hg;refine(Jx h.s.at_ I g i).mono ?_;rintro v w' ⟨aI,hs,hd,_,_,_,_,j⟩;have au:iX w0 bB d n l ab most S bP T w (c+1) w':=⟨30,_,pages,aO,bP,h.read hs hd I rfl rfl rfl,hd,rfl,.inl ⟨rfl,rfl⟩⟩;rcases j with ⟨rfl,a⟩|⟨t,x,rfl,_,a,ht⟩|⟨_,_,k⟩
 .have a:=a q7
  rw[f,Option.map_eq_none_iff]at a;rw[a];exact⟨⟨⟨none,0,0⟩,rfl,λx e=>(by cases e)⟩,au⟩
 .rw[f]at a
  obtain⟨y,m,rfl⟩:=s3.1 a;rw[m];exact⟨⟨t,rfl,λz e=>by cases e;exact⟨ht.1,ht.2.1⟩⟩,au⟩
 .exact absurd (h.q.1 30) k
end
section
variable {w0 w w' w1:J}{bB:Nat->Prop}{d n ab most k c q:Nat}{l:eI}{S aE ef:ck}{pages dH aO fS:O Nat}{T ar bP dQ jr:O aG}{tk cQ:ad}{key:Key}{v:aa}{s:Int}{p:bp}{vs:O aa}
theorem dw.DD(h:dw w0 w bB d n l ab most S pages aO T bP c)(hx:Ext w w')(e:Nat):iX w0 bB d n l ab most S bP T w (c+e) w':=⟨0,S,pages,aO,bP,(h.ext hx).mono (Nat.le_add_right _ _),.ext S hx,rfl,.inl ⟨rfl,rfl⟩⟩
theorem iX.cat(hd:d_ k S ef w w1)(a:ef.now=S.now)(hg:kS S bP ef jr)(h:iX w0 bB d n l ab most ef jr ar w1 c w'):iX w0 bB d n l ab most S bP ar w c w':=by
 obtain⟨ct,dF,cU,bh,b1,h2,d2,bA,ay⟩:=h;exact⟨k+ct,dF,cU,bh,b1,h2,hd.trans d2,bA.trans a,hg.trans ay⟩
theorem iX.pre(hx:Ext w w1)(h:iX w0 bB d n l ab most S bP ar w1 c w'):iX w0 bB d n l ab most S bP ar w c w':=iX.cat (.ext S hx) rfl (.inl ⟨rfl,rfl⟩) h
theorem ck.JP{b:Nat}(c:∀q,S.T.E q↔q=S.st\/bB q)(a:(S.own λq=>bB q\/q=b).T.M q):S.T.M q\/q=b:=by
 rcases a with a|a|a|a|a
 .exact .inl (.inl a)
 .exact .inl (.inr (.inl a))
 .exact .inl (.inr (.inr (.inl a)))
 .rcases(show q=S.st\/bB q\/q=b from a) with h|h|h
  .exact .inl (.inr (.inr (.inr (.inl ((c q).2 (.inl h))))))
  .exact .inl (.inr (.inr (.inr (.inl ((c q).2 (.inr h))))))
  .exact .inr h
 .exact .inl (.inr (.inr (.inr (.inr a))))
theorem JQ(t:aG){K:J->Prop}(d:∀w',Var w' w.heap.size t.c 57->Ext w w'->K w'):ao (w.alloc (.cells aG.zero.c.toArray 57)) λa=>bI a w.heap.size (Array.toList t.c.toArray)/\Array.size t.c.toArray=21/\ao (setCells a w.heap.size 0 (Array.toList t.c.toArray)) K:=
 a8 (vs:=aG.zero.c) rfl λw1 b hx _=>⟨b.cl (by simp[aG.bF]) (aG.plain t),by simp[aG.bF],cP b (us:=t.c) (by simp[aG.bF]) rfl λw' e f _=>d w' e (Ext.cy hx f (bl _))⟩
theorem JR{x:aG}(hx:x.ok)(a:Src 1 w tk (az (eS x.s.toNat x.p)))(g:tk.len<=tk.cap)(d:Src 1 w cQ (az (ji x.b.toNat x.u)))(h:cQ.len<=cQ.cap):aJ aj 51 #[tk,cQ] w (λv w'=>v=.tuple #[.agg x.c.toArray,true]/\Ext w w'):=by
 obtain⟨k,e,_⟩:=zp hx.k;obtain⟨j,f,i⟩:=qQ hx.b;have hg:=hx.k;have hu:=hx.2;obtain⟨s,p,b,u⟩:=x;dsimp only at e f hg hu a d;subst e f;rw[dg]at a d;exact qf a g d h hg i hu
end
def iD(T:O aG)(most:Nat)(t:aG):Int:=if t.dZ then (if (T.find? (ek t.s t.p)).isSome then 0 else if most<=T.length then 2 else 0) else 1
def kq(T:O aG)(most:Nat)(t:aG):O aG:=if iD T most t=0 then gY T t else T
theorem JS{T:O aG}{t:aG}(a:gE T)(b:∀t∈T,ee t.s t.p=true)(hg:ee t.s t.p=true):(gY T t).length=if (T.find? (ek t.s t.p)).isSome then T.length else T.length+1:=by
 have h1:=zn t.kv.1 t.kv.2 (T.map aG.kv);have h2:=wE (k:=t.kv.1) (Dx.2 a);rw[Dw,di]at h1;rw[di,show eY (T.map aG.kv) t.kv.1=_ from zr b hg]at h2;rw[h1]
 cases hf:T.find? (ek t.s t.p) with
 |none=>rw[hf]at h2;simp at h2⊢;omega
 |some x=>rw[hf]at h2;simp at h2⊢;omega
section
variable {w0 w w' w1:J}{bB:Nat->Prop}{d n ab most k c q:Nat}{l:eI}{S aE ef:ck}{pages dH aO fS:O Nat}{T ar bP dQ jr:O aG}{s:Int}{p:bp}
theorem DE(h:dw w0 w bB d n l ab most S pages aO T bP c)(hc:c<=20000){t:aG}(hu:t.u<18446744073709551616):aJ aj 43 #[.pointer (some ab),.agg t.c.toArray] w (λv w'=>v=.int .i64 (iD T most t)/\iX w0 bB d n l ab most S bP (kq T most t) w (c+2) w'):=by
 refine ae.ET (some ab) _ w _ ?_;(delta ae.r4 ak Y b6 aF jD cr nc bY;dsimp only);refine a8 (vs:=t.c) rfl λw1 C O af=>cA (λb w'=>b= !t.dZ/\Ext w1 w') (λk P=>⟨λh=>(by cases h),λ_=>⟨t.c,C.rd (aG.bF t),(oC t w1).use λv w' a=>by obtain⟨rfl,hx⟩:=a;exact⟨t.dZ,rfl,P _ _ ⟨rfl,hx⟩⟩⟩⟩) ?_;rintro _ Q ⟨rfl,D⟩;have x:=O.trans D;refine⟨λg=>?_,λg=>?_⟩
 .have hg:t.dZ=false:=by rwa[iE]at g
  have e:iD T most t=1:=by unfold iD;rw[hg];rfl
  refine⟨by rw[e],?_⟩;unfold kq;rw[e];exact h.DD x 2
 have hg:t.dZ=true:=by rwa[l3]at g
 have ht:t.ok:=⟨hg,hu⟩;have y:=C.ext D;refine⟨_,y.cell,_,qR y,(mi t.s t.p Q).use ?_⟩;rintro _ R ⟨E,⟨hf,_⟩|⟨_,tk,rfl,U,z⟩⟩
 .rw[ht.k]at hf;cases hf
 have F:=y.ext E;refine⟨tk,true,rfl,_,yp F,_,BK F,(qj t.b hu R).use ?_⟩;rintro _ V (⟨hf,_⟩|⟨_,cQ,rfl,A,j,G⟩)
 .rw[ht.b]at hf;cases hf
 have m:=x.trans E;have H:=h.ext (m.trans j);have ag:=x.size;have ai:=m.size;have al:=(m.trans j).size;have o:=U.ext j;refine⟨cQ,true,rfl,_,rfl,_,H.v.cell,(H.get ht.k I o.src λq a=>⟨o.lt q a,h.new q (by have:=z q a;omega)⟩).use ?_⟩;rintro _ J ⟨⟨X,rfl,_⟩,k,ef,am,bk,bW,h1,d1,cc,aw⟩;have K:∀q,w.heap.size<=q->¬S.W q:=λq a Z=>h.new q a Z.1;have L:∀q,w.heap.size<=q->q<V.heap.size->¬ef.T.M q:=λq a i B=>(d1.c3 q B).elim (h.new q a) λ_=>by omega
 have aa:=o.src.ah d1.ah λq a=>K q (by have:=z q a;omega);have ac:=A.src.ah d1.ah λq a=>K q (by have:=G q a;omega);have an:=d1.ah.size;have f:=cG J;have N:iD T most t=0->aJ aj 27 #[.pointer (some ef.st),tk,cQ] J.drew (λv w'=>v=.int .i64 (iD T most t)/\iX w0 bB d n l ab most S bP (kq T most t) w (c+2) w'):=λhe=>by
  have i:=JS h.mH h.keys ht.k;have B:(gY T t).length<=most/\(gY T t).length<=T.length+1:=by
   have:=h.eT.1;unfold iD at he;rw[hg,if_pos rfl]at he;rw[i];split
   .omega
   .rename_i hs
    rw[if_neg hs]at he;split at he
    .cases he
    .omega
  refine((h1.ext f).put ht B I (aa.ext f) (λq a=>⟨?_,L q (by have:=z q a;omega) (o.lt q a)⟩) (ac.ext f) λq a=>⟨?_,L q (by have:=G q a;omega) (A.lt q a)⟩).mono ?_
  .have:=o.lt q a;have:=f.size;omega
  .have:=A.lt q a;have:=f.size;omega
  .rintro _ w' ⟨rfl,r⟩
   rw[he];refine⟨rfl,?_⟩;unfold kq;rw[he,if_pos rfl];exact((r.pre f).cat d1 cc aw).pre (m.trans j)
 have he:iD T most t=if (T.find? (ek t.s t.p)).isSome then 0 else if most<=T.length then 2 else 0:=by unfold iD;rw[hg,if_pos rfl]
 refine⟨X,_,0,rfl,λh=>(by cases h),λ_=>aX ⟨λ_=>False,λg=>?_,λg=>?_⟩⟩
 .have hs:(T.find? (ek t.s t.p)).isSome=false:=by rwa[iE]at g
  rw[hs]at he;refine⟨_,rfl,id,_,(h1.ext f).v.cell,(Dv (h1.ext f).v (h1.ext f).s.at_).use ?_⟩;rintro _ _ ⟨rfl,rfl⟩;rw[di];refine⟨_,rfl,.refl _ _,λi=>?_,λi=>⟨_,rfl,_,(h1.ext f).v.cell,(N ?_).use ?_⟩⟩
  .have:most<=T.length:=by have:=cj i;omega
   have e:iD T most t=2:=by rw[he,if_neg (by decide),if_pos this]
   refine⟨by rw[e],?_⟩;unfold kq;rw[e];exact(((h1.DD f 1)).cat d1 cc aw).pre (m.trans j)
  .have:¬most<=T.length:=by have:=cH i;omega
   rw[he,if_neg (by decide),if_neg this]
  .rintro _ ad ⟨rfl,r⟩
   exact⟨_,rfl,rfl,r⟩
 .have hs:(T.find? (ek t.s t.p)).isSome=true:=by rwa[l3]at g
  rw[hs,if_pos rfl]at he;refine⟨λh=>(by cases h),λ_=>⟨_,rfl,_,(h1.ext f).v.cell,(N he).use ?_⟩⟩;rintro _ ad ⟨rfl,r⟩;exact⟨_,rfl,rfl,r⟩
end
section
variable {w0 w w' w1:J}{bB B:Nat->Prop}{d n ab most k c q i:Nat}{l:eI}{S aE ef:ck}{pages dH aO fS:O Nat}{T ar bP dQ jr Q:O aG}{s:Int}{p:bp}{x:aG}{ch:aG->al}{tl:ad}
theorem dw.scan(h:dw w0 w bB d n l ab most S pages aO T bP c)(hc:c<=20000){a tt:ad}{fr to:Key}{m:Int}(hf:Src 1 w a (az fr))(b:∀q,aB a q->q<w.heap.size/\¬S.T.M q)(ht:Src 1 w tt (az to))(e:∀q,aB tt q->q<w.heap.size/\¬S.T.M q)(f:to.length<=1000000):
 aJ aj 102 #[.pointer (some S.st),a,tt,m] w (λv w'=>∃ (t:ad) (aE:ck),v=.tuple #[t,(0:Int)]/\dw w0 w' bB d n l ab most aE pages aO T bP (c+1)/\d_ 20000 S aE w w'/\lT S aE/\fh (λq=>¬aE.T.M q) w' t ((gM (T.map aG.kv) fr to).take m.toNat)):=by
 have k:=h.eT.1;have o:=h.mG;have g:=(h.s.at_.ok.low (by rw[di];omega)).2;rw[di]at g;have p:=h.s.a6;refine(JA h.s.at_ (by rw[di];omega) I I hf b ht e f).mono ?_;rintro v w' ⟨ar,hs,hd,he,_,⟨t,rfl,i⟩|⟨_,j⟩⟩
 .exact⟨t,_,rfl,h.read hs hd I he.gen he.pending rfl,hd.mono I,he,i⟩
 .exact absurd (h.q.1 _) j
theorem JT{K:al->J->J->Prop}(y:fh B w tl (Q.map aG.kv))(hi:i<Q.length)(z:∀t∈Q,t.ok)(C:∀ (b d:J) (tk cQ:ad),Ext w b->Ext w d->w.heap.size<b.heap.size->Var d w.heap.size [tk,cQ] 198->Var d b.heap.size (Q[i]).c 57->bq B w tk (eS (Q[i]).s.toNat (Q[i]).p)->K true b d):
 ∃c9:ag,tl.a=some c9/\((0:Int)<=(i:Int)/\(i:Int)<(tl.len:Int))/\
  ∃e:ad,w.cell? (c9.add (Int.toNat (i:Int)*2))=some (.slice e.a e.len e.cap)/\
  ∃f:ad,w.cell? ((c9.add (Int.toNat (i:Int)*2)).add 1)=some (.slice f.a f.len f.cap)/\
  ao (w.alloc (.cells #[(),()] 198)) λo=>
  bI o w.heap.size [e,f]/\
  (2:Nat)=2/\ao (setCells o w.heap.size 0 [e,f]) λg=>
  ∃j:ad,g.cell? w.heap.size=some (.slice j.a j.len j.cap)/\
  ∃k:ad,g.cell? (Addr.add w.heap.size 1)=some (.slice k.a k.len k.cap)/\
  Calls aj 51 #[j,k] g λD b=>
  ∃l:Array aa,∃r:al,D=.returned (.tuple #[.agg l,r])/\
  ao (b.alloc (.cells aG.zero.c.toArray 57)) λu=>bI u b.heap.size (Array.toList l)/\Array.size l=21/\
  ao (setCells u b.heap.size 0 (Array.toList l)) λd=>K r b d:=by
 obtain⟨A,tk,cQ,au,E,h1,h2,b9,ct⟩:=Dd y (i:=i) (by rw[di];exact hi);rw[List.getElem_map]at b9 ct;refine⟨A,au,E,tk,h1,cQ,h2,a8 (vs:=[(),()]) rfl λo h F L=>⟨h.cl rfl (λv h=>?_),rfl,cP h (us:=[tk,cQ]) rfl rfl λg q G M=>?_⟩⟩
 .simp only[cX,fk,fv]at h
  rcases h with rfl|rfl<;>trivial
 have m:Ext w g:=Ext.cy F G (bl _);refine⟨tk,q.cell,cQ,by rw[aA];exact q.cell,(JR (z _ (cN hi)) (b9.1.ext m) b9.2.1 (ct.1.ext m) ct.2.1).use ?_⟩;rintro _ b ⟨rfl,n⟩;have N:=n.size;exact⟨_,true,rfl,JQ Q[i] λd H x=>C b d tk cQ (m.trans n) ((m.trans n).trans x) I ((q.ext n).ext x) H b9⟩
end
section
variable {w0 w w' w1:J}{bB B:Nat->Prop}{d n ab most k c q i:Nat}{l:eI}{S aE ef:ck}{pages dH aO fS:O Nat}{T ar bP dQ jr Q:O aG}{s:Int}{p:bp}{x:aG}{ch:aG->al}{tl:ad}
theorem JU(hc:ch x=false):fq T (Q++ [x]) ch=fq T Q ch:=by
 unfold fq;refine pJ λt _=>?_
 congr 1
 by_cases e:t=x
 .subst e;rw[hc,Bool.and_false,Bool.and_false]
 .congr 1
  rw[fC,cq,cq];simp[e]
theorem JV(h:gE T)(a:∀t∈T,ee t.s t.p=true)(b:x∈T)(hx:x∉Q)(hc:ch x=true):fq T (Q++ [x]) ch=(fq T Q ch).filter λt=> !ek x.s x.p t:=by
 rw[JO h b hx a];unfold fq;refine pJ λt _=>?_;by_cases e:t=x
 .subst e;simp[hc]
 .rw[ih e,Bool.not_false,pA]
  congr 2
  rw[fC,cq,cq];simp[e]
def JW(S:ck)(w:J)(f:ik)(ch:aG->al):Prop:=hX aj f.f/\∀ (t:aG) (w':J),af S.W w w'->aJ aj f.f (f.pre++ #[.agg t.c.toArray]++f.cap) w' (λv a=>v=.bool (ch t)/\Ext w' a)
theorem JX(h:dw w0 w bB d n l ab most S pages aO T bP c)(hc:c<=10000)(G:fh (λq=>¬S.T.M q) w tl (Q.map aG.kv))(y:∀t∈Q,t∈T)(H:Q.Nodup){f:ik}(hf:JW S w f ch):
 aJ aj 104 #[.pointer (some ab),tl,.func (.func f.f) f.pre f.cap] w (λv w'=>v=.tuple #[.int .i64 ((Q.filter ch).length:Nat),(0:Int)]/\iX w0 bB d n l ab most S bP (fq T Q ch) w (c+(Q.filter ch).length) w'):=by
 refine okF (ae.uN (some ab) tl f) ax.uN func104 ?_;(delta ae.uN ak aP r1 Y jE ir nd aq;dsimp only);have V:=G.len;rw[di]at V;have az:Q.length<=400:=by
  have:=(H.length_le_of_subset y);have:=h.eT.1;have:=h.mG;omega
 refine⟨λg m w'=>∃ (i k:Nat) (b:ck) (r s:O Nat) (jG:O aG),m=(i:Int)/\i<=Q.length/\g=(((Q.take i).filter ch).length:Nat)/\dw w0 w' bB d n l ab most b r s (fq T (Q.take i) ch) jG (c+((Q.take i).filter ch).length)/\d_ k S b w w'/\b.now=S.now/\kS S bP b jG,
  λ_ m _=>((Q.length:Int)-m).toNat,⟨0,0,S,pages,aO,bP,rfl,cL _,rfl,?_,.ext S (.refl _ _),rfl,.inl ⟨rfl,rfl⟩⟩,?_⟩
 .have e:fq T (Q.take 0) ch=T:=ie.2 λt _=>by simp
  rw[e];exact h
 rintro _ _ X ⟨i,k,b,r,s,jG,rfl,hi,rfl,u,d5,n5,z⟩;have Z:fh (λq=>¬b.T.M q) X tl (Q.map aG.kv):=G.zo d5;refine⟨λaH=>?_,λJ=>?_⟩
 rotate_left
 .have J:=cH J
  have e:i=Q.length:=by omega
  subst e;rw[ku]at u⊢;exact⟨rfl,k,b,r,s,jG,u,d5,n5,z⟩
 have aH:=cj aH;have A:i<Q.length:=by omega
 have hx:=y _ (cN A);have aa:=h.ok _ hx;have o:Q.take (i+1)=Q.take i++ [Q[i]]:=kr A;have ac:Q[i]∉Q.take i:=λad=>by
  have h1:(Q.take (i+1)).Nodup:=H.sublist (s_ _ _);rw[o]at h1;exact(s5.1 h1).2.2 _ ad _ (fb.2 rfl) rfl
 have p:(Q.take (i+1)).filter ch=(Q.take i).filter ch++if ch Q[i] then [Q[i]] else []:=by rw[o,g1,kX,List.filter_nil]
 refine cA (λg w'=>∃ (k:Nat) (j:ck) (B C:O Nat) (mh:O aG),g=(((Q.take (i+1)).filter ch).length:Nat)/\dw w0 w' bB d n l ab most j B C (fq T (Q.take (i+1)) ch) mh (c+((Q.take (i+1)).filter ch).length)/\d_ k S j w w'/\j.now=S.now/\kS S bP j mh) (λaA D=>?_) ?_
 rotate_left
 .rintro _ aB ⟨ag,j,B,C,mh,rfl,ai,d6,n6,al⟩
  rw[pr I];exact⟨⟨i+1,ag,j,B,C,mh,rfl,I,rfl,ai,d6,n6,al⟩,by show((Q.length:Int)-((i+1:Nat):Int)).toNat<((Q.length:Int)-(i:Nat)).toNat;omega⟩
 refine JT Z A (λt ht=>h.ok t (y t ht)) λaC am tk cQ aD K aE an ao E=>⟨λa=>(by cases a),λ_=>⟨_,ao.rd (aG.bF _),hf.1,((hf.2 Q[i] am (c2 d5.ah (af.c0 (W:=λ_=>False) K) λ_ _ h=>h.elim)).use ?_)⟩⟩;rintro _ ap ⟨rfl,L⟩;have F:=K.trans L;refine⟨_,rfl,λa=>?_,λa=>?_⟩
 .have a:ch Q[i]=false:=by rwa[iE]at a
  rw[a]at p;rw[o,JU a,←o,p,if_neg (by decide),fu]at D;exact D _ _ ⟨_,b,r,s,jG,rfl,u.ext F,d5.trans (.ext b F),n5,z⟩
 .have a:ch Q[i]=true:=by rwa[l3]at a
  rw[a,if_pos rfl]at p;have N:=cG ap;have x:=F.trans N;have P:=u.ext x;have ar:=mY ch (Q.take i);rw[cI]at ar;refine aX ⟨λ_=>False,_,rfl,id,_,P.v.cell,id,tk,((an.ext L).ext N).cell,((P.del aa.k I (E.1.ext x) λq R=>⟨?_,(E.2.2 q R).1⟩).use ?_)⟩
  .have:=(E.2.2 q R).2
   have:=x.size;omega
  rintro _ aF ⟨rfl,aI,au,av,aw,jH,U,d7,n7,ay⟩;refine⟨_,0,rfl,λa=>(by cases a),λ_=>?_⟩;rw[←JV h.mH h.keys hx ac a,←o]at U;rw[pr I,show((Q.take i).filter ch).length+1=((Q.take (i+1)).filter ch).length by rw[p,cp];rfl];refine D _ _ ⟨_,au,av,aw,jH,rfl,?_,(d5.trans (.ext b x)).trans d7,n7.trans n5,z.trans ay⟩;rw[p,cp];exact U
end
def jT(now:Nat)(t:aG):al:=decide (t.u<=now)
section
variable {w0 w w' w1:J}{bB B:Nat->Prop}{d n ab most k c q i cd m:Nat}{l:eI}{S aE ef:ck}{pages dH aO fS:O Nat}{T ar bP dQ jr Q:O aG}{s b:Int}{p:bp}{x t:aG}{ch:aG->al}{tl:ad}{fr:Key}{L:O aM}
theorem DF(h:gE T)(d:gF T fr≠ []):(gF T fr).getLast? =T.getLast? :=by
 obtain⟨x,hx⟩:=pE _ d;obtain⟨b,a⟩:=gG.1 hx;have c:T≠ []:=List.ne_nil_of_mem b;obtain⟨ar,z,e⟩:∃ar z,T=ar++ [z]:=⟨T.dropLast,T.getLast c,(List.dropLast_concat_getLast c).symm⟩;subst e;have f:decide (dM fr z.kv.1)=true:=by
  rcases cK.1 b with h1|h1
  .have h2:=(l2.1 h).2.2 x h1 z (fb.2 rfl)
   exact dI (x4 (cj a) (h7 h2))
  .rw[fb.1 h1]at a;exact a
 unfold gF;rw[g1,kX,f];simp
theorem DG(h:gE T)(b:(gF T fr).length<=m):jq T (eJ T fr m)=[]:=by
 unfold jq eJ;rw[dX b];by_cases a:gF T fr=[]
 .rw[a];rfl
 .rw[DF h a]
  cases T.getLast? with
  |none=>rfl
  |some t=>simp
theorem DH(h:gE T)(h1:1<=m)(b:m<(gF T fr).length)(a:m-1<(eJ T fr m).length):jq T (eJ T fr m)=((eJ T fr m)[m-1]'a).kv.1++ [0]:=by
 have c:(eJ T fr m)[m-1]'a=(gF T fr)[m-1]'I:=mW ..;have hlen:(eJ T fr m).length=m:=by unfold eJ;rw[cI];omega
 have d:(eJ T fr m).getLast? =some ((gF T fr)[m-1]'I):=by
  rw[List.getLast?_eq_getElem?,hlen,←c,dC a]
 have f:gF T fr≠ []:=λe=>by rw[e]at b;cases b
 have g:gE (gF T fr):=List.Pairwise.filter _ h;unfold jq;rw[d,c,←DF h f];show(if _ then _ else _)=_;rw[if_neg];intro e;rw[List.getLast?_eq_getElem?,dC I]at e;have h2:=lv.1 g (m-1) ((gF T fr).length-1) I I I;rw[Option.some.inj e]at h2;exact kG _ h2
theorem JY(T:O aG)(fr:Key):gM (T.map aG.kv) fr []=(gF T fr).map aG.kv:=by
 unfold gM gF;rw[List.filter_map];refine congrArg _ (pJ λt _=>?_);show(decide (dM fr t.kv.1)&&(true||_))=_;rw[Bool.true_or,pA]
theorem fh.head(h:fh B w tl L)(g:m<=L.length):fh B w ⟨aY tl.a 2 0 tl.cap,m-0,tl.cap-0⟩ (L.take m):=by
 have i:=h.len;obtain⟨ps,h1,h2,d,b⟩:=h;have c:=Src.IT h1 h2 (cL m) (by have:=b.1;omega);have e:(ps.drop 0).take (m-0)=ps.take m:=by rw[iF,mQ]
 rw[e]at c;exact⟨ps.take m,c,by show m-0<=tl.cap-0;omega,λq f=>d q (Hh.1 f),b.take m⟩
theorem JZ{now:Nat}(b:Var w cd [.int .u64 (now:Nat)] 23)(t:aG):aJ aj 105 #[.agg t.c.toArray,.pointer (some cd)] w (λv w'=>v=.bool (jT now t)/\Ext w w'):=by
 refine ae.E0 _ cd w _ ?_;(delta ae.r6 cr Y;dsimp only);refine a8 (vs:=t.c) rfl λw1 d a _=>⟨_,BK d,_,(b.ext a).cell,?_,a⟩;unfold jT
 congr 1
 rw[fC,cq,cq];omega
theorem J0:hX aj 105:=⟨_,(pC (show(Tryz.prog.funcs[105]?).isSome=true by kernel_rfl)).symm,by kernel_rfl,by kernel_rfl⟩
def stM(m:Int):Nat:=(min m 64).toNat
theorem J1(h:dw w0 w bB d n l ab most S pages aO T bP c)(hc:c<=9000){x:ad}{fr:Key}{now:Nat}{m:Int}(D:m<=9223372036854775807)(hf:Src 1 w x (az fr))(E:∀q,aB x q->q<w.heap.size/\¬S.T.M q):
 aJ aj 45 #[.pointer (some ab),x,.int .u64 (now:Nat),m] w (λv w'=>∃t:ad,v=.tuple #[t,.int .i64 (((eJ T fr (stM m)).filter (jT now)).length:Nat),(0:Int)]/\
  aW 1 5 w' t (az (jq T (eJ T fr (stM m))))/\(∀q,aB t q->w.heap.size<=q)/\∃ (k:Nat) (aE:ck) (dH fS:O Nat) (dQ:O aG),dw w0 w' bB d n l ab most aE dH fS (fq T (eJ T fr (stM m)) (jT now)) dQ (c+1+((eJ T fr (stM m)).filter (jT now)).length)/\d_ k S aE w w'/\aE.now=S.now/\kS S bP aE dQ/\∀q,aB t q->¬aE.T.M q):=by
 refine okF (ae.ux (some ab) x (now:Nat) m) ax.ux func45 ?_;(delta ae.ux ak ey aq r1 Y bD gK;dsimp only);refine a8 (vs:=[.int .u64 (now:Nat)]) rfl λw1 ac p aN=>⟨λb=>(by cases b),λ_=>⟨min m 64,w1,JB _ _ _ _ _,λaH=>?_,λF=>?_⟩⟩
 .have aH:=cj aH
  have e:stM m=0:=by unfold stM;omega
  have af:eJ T fr (stM m)=[]:=by unfold eJ;rw[e,List.take_zero]
  have ag:fq T [] (jT now)=T:=ie.2 λt _=>by simp
  rw[af,ag];exact⟨⟨none,0,0⟩,rfl,aW.none _ _ _,λq a=>(fZ q a).elim,0,S,pages,aO,bP,(h.ext p).mono I,.ext S p,rfl,.inl ⟨rfl,rfl⟩,λq a=>(fZ q a).elim⟩
 have F:=cH F;obtain⟨M,G⟩:∃M,M=stM m:=⟨_,rfl⟩;have ai:min m 64=(M:Int):=by rw[G];unfold stM;omega
 rw[←G,ai];have al:1<=M/\M<=64:=by omega
 rw[pr I];have h1:=h.ext p;refine⟨_,rfl,_,h1.v.cell,(h1.scan I (tt:=bH) (to:=[]) (hf.ext p) (λq a=>⟨by have:=(E q a).1;omega,(E q a).2⟩) (IV w1) (λq a=>(fZ q a).elim) (by decide)).use ?_⟩;rintro _ H ⟨t6,y,rfl,J,d6,K,j⟩;rw[JY,dg]at j;obtain⟨Q,g⟩:∃Q,Q=eJ T fr M:=⟨_,rfl⟩;have am:¬y.W w.heap.size:=λr=>(d6.c3 _ r.1).elim (h.new _ (bl _)) λaP=>by omega
 have an:=ac.ah d6.ah λr=>h.new _ (bl _) r.1;have aQ:=d6.ah.size;have hlen:=j.len;rw[cI,di]at hlen;have L:Q.map aG.kv=((gF T fr).map aG.kv).take M:=by rw[g];exact l0
 refine⟨t6,0,rfl,λb=>(by cases b),λ_=>tH (λs N w'=>Ext H w'/\fh (λq=>¬y.T.M q) w' N (Q.map aG.kv)/\aW 1 5 w' s (az (jq T Q))/\∀q,aB s q->H.heap.size<=q) (λaR P=>⟨λb=>?_,λb=>?_⟩) ?_⟩
 .have b:=cj b
  have B:M<(gF T fr).length:=by omega
  have C:=j.head (m:=M) (by rw[cI,di];omega);rw[nV,hV I,←L]at C;have aS:Q.length=M:=by rw[g];unfold eJ;rw[cI];omega
  have R:M-1<Q.length:=by omega
  obtain⟨A,tk,cQ,au,ao,aU,_,b9,_⟩:=Dd C (i:=M-1) (by rw[di];exact R);rw[List.getElem_map]at b9;have ap:IntKind.wrap .i64 ((M:Int)-1)=((M-1:Nat):Int):=by rw[bn I I];omega
  rw[ap,dg];have aT:=j.choose_spec.2.1;refine⟨I,A,au,ao,tk,aU,a8 (vs:=[.int .u8 0]) rfl λaV ar U aY=>aX ((BF (la:=Q[M-1].kv.1) (lb:=[0]) (b9.1.ext U) (ar.qH (o:=0) (n:=1) (c:=1) (l:=[0]) (by decide) rfl) ?_).use ?_)⟩
  .have av:cv Q[M-1].kv.1:=q7
   unfold cv at av;show _+1<=1000;omega
  rintro _ aZ ⟨aw,rfl,ay,aA,aC⟩;have V:=U.trans aA;refine⟨aw,rfl,P _ _ _ ⟨V,C.ext V,?_,λq a=>by have:=aC q a;omega⟩⟩;have e:jq T Q=Q[M-1].kv.1++ [0]:=by
   subst g;exact DH h.mH al.1 B R
  rw[e];exact ay
 .have b:=cH b
  have B:(gF T fr).length<=M:=by omega
  have e:jq T Q=[]:=by rw[g];exact DG h.mH B
  refine P _ _ _ ⟨.refl _ _,?_,?_,λq a=>(fZ q a).elim⟩
  .rw[L]
   rw[dX (by rw[di];omega)]at j⊢;exact j
  .rw[e];exact aW.none _ _ _
 .rintro s N a0 ⟨z,aD,X,Z⟩
  have a1:=z.size;refine(JX (f:=⟨105,#[],#[.pointer (some w.heap.size)]⟩) (ch:=jT now) (J.ext z) I aD (λt ht=>?_) ?_ ⟨J0,λt w' hc=>JZ ((an.ext z).ah hc am) t⟩).use ?_
  .rw[g]at ht
   exact(gG.1 (fK ht)).1
  .rw[g]
   exact(h.mH.nodup.filter _).sublist (s_ _ _)
  rintro _ a2 ⟨rfl,a3,aF,aI,aK,jH,aL,d7,n7,aM⟩;rw[←g];have aa:∀q,aB s q->¬y.T.M q:=λq a=>J.new q (Z q a);exact⟨_,0,rfl,λb=>(by cases b),λ_=>⟨s,rfl,X.ah d7.ah λq a r=>aa q a r.1,λq a=>by have:=Z q a;omega,_,aF,aI,aK,jH,aL,(((d_.ext S p).trans d6).trans (.ext y z)).trans d7,n7.trans K.now,kS.trans (.inl ⟨by rw[K.u],rfl⟩) aM,λq a D=>(d7.c3 q D).elim (aa q a) λa4=>by have:=X.lt q a;omega⟩⟩
end
theorem zu:∀ (k y:Key),dM (k++ [0]) y↔bo k y
 | [],[]=>by decide
 | [],c::y=>by
  unfold dM bo
  rw[hU,dE,dE]
  have h0:¬dE y []<0:=by cases y<;>simp[dE]
  have hc:¬c.toNat<(0:UInt8).toNat:=Nat.not_lt_zero _
  rw[if_neg hc]
  split
  .simp
  .simp[h0]
 |a::k,[]=>by simp[dM,bo,dE]
 |a::k,c::y=>by
  have b:=zu k y
  unfold dM bo at b⊢
  rw[lW,dE,dE]
  rcases Nat.lt_trichotomy a.toNat c.toNat with h|h|h
  .simp[h,Nat.not_lt.2 (Nat.le_of_lt h)]
  .rw[if_neg I,if_neg I,if_neg I,if_neg I];exact b
  .simp[h,Nat.not_lt.2 (Nat.le_of_lt h)]
section
variable {T:O aG}{fr:Key}{a m:Nat}{st:aG->al}
theorem J2(a b:O aG):fq (fq T a st) b st=fq T (a++b) st:=by
 unfold fq;rw[List.filter_filter];refine pJ λt _=>?_;by_cases h1:t∈a<;>by_cases h2:t∈b<;>cases st t<;>simp[h1,h2]
theorem J3{Q:O aG}(h:gE T):gE (fq T Q st):=List.Pairwise.filter _ h
theorem J4(h:gE T){b:Nat}(c:b<T.length):gF (fq T (T.take (b+1)) st) (T[b].kv.1++ [0])=T.drop (b+1):=by
 unfold gF fq;rw[List.filter_filter];have e:T=T.take (b+1)++T.drop (b+1):=(fI _ _).symm
 conv=>lhs;arg 2;rw[e]
 rw[g1];have h1:=zt h c;have aH:∀y∈T.take (b+1),¬bo T[b].kv.1 y.kv.1:=λy a=>by
  rw[kr c]at a;rcases cK.1 a with a|a
  .exact jJ (h1.1 y a)
  .rw[fb.1 a];exact kG _
 rw[lr.2 λy a=>by simp[zu,aH y a],hU,ie.2 λy a=>?_];have d:y∉T.take (b+1):=λf=>aH y f (h1.2 y a);simp[zu,h1.2 y a,d]
structure q8(T:O aG)(st:aG->al)(a:Nat)(eN:O aG)(at_:Key):Prop where
 le:a<=T.length
 t:eN=fq T (T.take a) st
 f:gF eN at_=T.drop a
theorem q8.step{eN:O aG}{at_:Key}(h:q8 T st a eN at_)(i:gE T)(l:1<=m):eJ eN at_ m=(T.drop a).take m/\fq eN (eJ eN at_ m) st=fq T (T.take (a+m)) st/\
 ((T.length<=a+m/\jq eN (eJ eN at_ m)=[])\/(a+m<T.length/\jq eN (eJ eN at_ m)≠ []/\q8 T st (a+m) (fq eN (eJ eN at_ m) st) (jq eN (eJ eN at_ m)))):=by
 have c:eJ eN at_ m=(T.drop a).take m:=by unfold eJ;rw[h.f]
 have e:fq eN (eJ eN at_ m) st=fq T (T.take (a+m)) st:=by rw[c,h.t,J2,←List.take_add]
 have j:gE eN:=by rw[h.t];exact J3 i
 refine⟨c,e,?_⟩;rcases ec (a+m) T.length with d|d
 .right
  have hlen:m<(gF eN at_).length:=by rw[h.f,ed];omega
  have k:m-1<(eJ eN at_ m).length:=by rw[c,cI,ed];omega
  have g:=DH j l hlen k;have n:(eJ eN at_ m)[m-1]'k=T[a+m-1]'I:=by
   simp only[c,mW,rn]
   congr 1;omega
  rw[n]at g;refine⟨d,by rw[g];simp,Nat.le_of_lt d,e,?_⟩;rw[e,g];have o:=J4 (st:=st) i (b:=a+m-1) I;rwa[show a+m-1+1=a+m from I]at o
 .exact .inl ⟨d,DG j (by rw[h.f,ed];omega)⟩
theorem q8.begin(a:gE T):q8 T st 0 T []:=by
 refine⟨cL _,?_,?_⟩
 .unfold fq
  exact(ie.2 λt _=>by simp).symm
 .unfold gF
  rw[iF];exact ie.2 λt _=>dI (by unfold dM;cases t.kv.1<;>simp[dE])
end
section
variable {B:Nat->Prop}{w w':J}{s:ad}{T:O aG}{t:aG}{bf i most:Nat}
theorem J5(h:aW 21 57 w s (bu aG.c T))(hi:i<T.length)(t:aG):∃A:ag,s.a=some A/\((0:Int)<=(i:Int)/\(i:Int)<(s.len:Int))/\bI w (A.add (Int.toNat (i:Int)*21)) (Array.toList t.c.toArray)/\Array.size t.c.toArray=21/\
 aW 21 57 (setCells w (A.add (Int.toNat (i:Int)*21)) 0 (Array.toList t.c.toArray)) s (bu aG.c (T.set i t))/\af (aB s) w (setCells w (A.add (Int.toNat (i:Int)*21)) 0 (Array.toList t.c.toArray)):=by
 obtain⟨h1,h2,k,m⟩:=h;have r:s.len=T.length:=by rw[fA _ (lk T)]at h1;omega
 rcases m with ⟨_,hc⟩|⟨b,c,d,f,n,ht⟩
 .omega
 have g:=t.bF;have j:i*21+t.c.length<=c.size:=by omega
 rw[dg];refine⟨_,d,I,?_,by simp[g],?_,?_⟩
 .rw[aA,cR]
  exact f.cl _ _ j (aG.plain t)
 .rw[aA,cR]
  refine⟨?_,h2,k,.inr ⟨b,_,d,bm.k5 f t.c,by rw[hZ];exact n,?_⟩⟩
  .rw[fA _ (lk _),dj];omega
  .rw[k4 _ _ _ j,wK,if_pos hi,lN]
   show _=_++(t.c++bu aG.c (T.drop (i+1)));have o:=sS (c:=aG.c) (sz:=21) T i (lk T);have p:=sS (c:=aG.c) (sz:=21) T (i+1) (lk T);rw[←o.1,←p.2,←ht,nV,hV I,cz,List.take_append,List.take_append,cI,Array.length_toList,hV I,dX (l:=c.toList.take _) (by rw[cI];omega),dX (l:=t.c) I,List.drop_take];rw[g,show s.len*21-i*21-21=s.len*21-(i+1)*21 from I,show i*21+21=(i+1)*21 from I]
 .rw[aA,cR]
  refine(af.jC (b:=b) (.refl _ _) _ 0).mono λq _ e=>?_;rw[e];exact⟨_,d,rfl⟩
theorem J6(h:hO B w bf (most:Nat) s T)(a3:T.length<=1000000)(az:∀q,w.heap.size<=q->B q)(V:gE T)(W:∀t∈T,ee t.s t.p=true)(t:aG):
 aJ aj 44 #[.pointer (some bf),.agg t.c.toArray] w (λv w'=>v=.int .i64 (iD T most t)/\af (λq=>q=bf) w w'/\∃g,hO B w' bf (most:Nat) g (kq T most t)):=by
 have aB:=h.len;have hc:=h.c;have bm:=h.v.lt;refine ae.Fl (some bf) _ w _ ?_;(delta ae.sj Y b6 ak aF bY r1 aP st bD aq mh tY;dsimp only);refine a8 (vs:=t.c) rfl λw1 aC a4 bn=>⟨t.c,aC.rd (aG.bF t),(np t w1).use ?_⟩;rintro _ y ⟨rfl,aD⟩;have D:=a4.trans aD;refine⟨_,rfl,λd=>?_,λd=>?_⟩
 .have hg:t.dZ=false:=by rwa[iE]at d
  have e:iD T most t=1:=by unfold iD;rw[hg];rfl
  unfold kq;rw[e];exact⟨rfl,af.c0 D,s,h.ext D⟩
 have hg:t.dZ=true:=by rwa[l3]at d
 have X:ee t.s t.p=true:=by have:=hg;unfold aG.dZ at this;rw[c7]at this;exact this.1
 have Z:=aC.ext aD;have he:iD T most t=if (T.find? (ek t.s t.p)).isSome then 0 else if most<=T.length then 2 else 0:=by unfold iD;rw[hg,if_pos rfl]
 refine⟨_,Z.cell,_,qR Z,(Je (h.v.ext D) (h.iS.ext D) a3).use ?_⟩;rintro _ z ⟨rfl,aE⟩;have E:=D.trans aE;have L:=h.ext E;have aI:=Z.ext aE;have bp:=E.size;refine⟨_,rfl,λF=>?_,λaH=>?_⟩
 .have F:=cj F
  obtain⟨i,hf⟩:∃i,T.findIdx? (ek t.s t.p)=some i:=by
   cases hf:T.findIdx? (ek t.s t.p) with
   |some i=>exact⟨i,rfl⟩
   |none=>unfold pw at F;rw[hf]at F;exact absurd F (by decide)
  have e:pw T t.s t.p=(i:Int):=by unfold pw;rw[hf]
  obtain⟨hi,a5⟩:=JN V hf;have hs:(T.find? (ek t.s t.p)).isSome=true:=by
   rw[List.find?_isSome];exact⟨T[i],cN hi,(List.findIdx?_eq_some_iff_getElem.1 hf).2.1⟩
  rw[hs,if_pos rfl]at he;rw[e,he];have f0:=Jf z;obtain⟨ab,ac,aw,ay,C,bq,br,_⟩:=hJ.app (cB:=22) zj f0 (L.iS.ext f0.x) (zk T) (by show(2*(0+s.len)+1000)*56<=_;omega);rw[hU]at C;have a6:=aI.ext C.x;obtain⟨A,au,ah,b9,ct,a7,a9⟩:=J5 C.o hi t;have ai:Ext z (setCells ac (A.add (Int.toNat (i:Int)*21)) 0 (Array.toList t.c.toArray)):=Ext.dS C.x a9 C.f;have ba:hJ 21 57 z (setCells ac (A.add (Int.toNat (i:Int)*21)) 0 (Array.toList t.c.toArray)) ab (bu aG.c (T.set i t)):=⟨a7,ai,C.f⟩;obtain⟨bk,bh,al,am⟩:=L.put ai ba λq l=>az q I;refine⟨_,_,zi z,_,rfl,s,by rw[aA];exact(L.v.ext f0.x).cell,ab,ac,aw,t.c,a6.rd (aG.bF t),A,au,ah,b9,ct,aX ⟨_,rfl,bk,bh,aX ⟨rfl,?_,ab,?_⟩⟩⟩
  .exact c2 (af.c0 (E.trans ai)) am λq _ e=>e
  .unfold kq
   rw[he,if_pos rfl,←a5];exact al
 have aH:=cH aH;have hf:T.findIdx? (ek t.s t.p)=none:=by
  cases hf:T.findIdx? (ek t.s t.p) with
  |none=>rfl
  |some i=>unfold pw at aH;rw[hf]at aH;dsimp only at aH;omega
 have hs:(T.find? (ek t.s t.p)).isSome=false:=by
  rw[←fi,List.find?_isSome];rintro⟨x,hx,d⟩;have:=List.findIdx?_eq_none_iff.1 hf x hx;rw[d]at this;cases this
 rw[hs,if_neg (by decide)]at he;have M:=cG z;have an:=L.ext M;refine aX ⟨_,rfl,id,s,by rw[aA];exact an.v.cell,_,rfl,id,_,an.v.cell,λd=>?_,λd=>?_⟩
 .have d:=cj d
  rw[if_pos I]at he;unfold kq;rw[he];exact⟨rfl,af.c0 (E.trans M),s,an⟩
 have d:=cH d;rw[if_neg I]at he;have aK:∀x:aG,ee x.s x.p=true->pv x.s x.p=x.kv.1:=λx hx=>by unfold pv;rw[if_pos hx];rfl
 have aL:∀x:aG,x.kv.1.length<=1000000:=λx=>by have N:cv x.kv.1:=q7;unfold cv at N;omega
 have aM:∀ (b:J) (i:Nat) (g:ad) (y:J),Ext w b->T.take i++t::T.drop i=gY T t->hJ 21 57 b y g (bu aG.c (T.take i)++t.c++bu aG.c (T.drop i))->
  ∃O:ag,some (bf:ag)=some O/\(∃u:aa,y.cell? (O.add 1)=some u)/\y.frozen? (O.add 1)=false/\ao (y.setCell (O.add 1) g) λaN=>(Value.int .i64 0=.int .i64 (iD T most t)/\af (λq=>q=bf) w aN/\∃g,hO B aN bf (most:Nat) g (kq T most t)):=λb i g y hx l hf=>by
  have e:bu aG.c (T.take i)++t.c++bu aG.c (T.drop i)=bu aG.c (gY T t):=by rw[←l,lN,cz];rfl
  rw[e]at hf;have aO:=hx.size;obtain⟨bk,bh,al,am⟩:=(h.ext hx).put hf.x hf λq l=>az q I;refine⟨_,rfl,bk,bh,aX ⟨by rw[he],c2 (af.c0 (hx.trans hf.x)) am λq _ e=>e,g,?_⟩⟩;unfold kq;rw[he,if_pos rfl];exact al
 have aQ:∀ {b:J} (i:Nat),Ext w b->i<=T.length->Src 21 b ⟨aY s.a 21 0 s.cap,i-0,s.cap-0⟩ (bu aG.c (T.take i))/\Src 21 b ⟨aY s.a 21 i s.cap,s.len-i,s.cap-i⟩ (bu aG.c (T.drop i)):=λ{b} i hx hi=>by
  have a1:=Src.cut ((h.ext hx).iS) hc (cL i) I;have a2:=Src.cut ((h.ext hx).iS) hc (lo:=i) (hi:=s.len) I (bl _);rw[Jg T i hi]at a1;rw[aB,Jh T i hi,←aB]at a2;exact⟨a1,a2⟩
 have P:∀i,(∀v∈bu aG.c (T.take i),Plain v)/\∀v∈bu aG.c (T.drop i),Plain v:=λi=>⟨zk _,zk _⟩;refine⟨λn w'=>∃i:Nat,n=(i:Int)/\i<=T.length/\Ext z.drew w'/\∀a∈T.take i,bo a.kv.1 t.kv.1,λn _=>((T.length:Int)-n).toNat,⟨0,rfl,cL _,.refl _ _,λa k=>by simp at k⟩,?_⟩;rintro _ aR ⟨i,rfl,hi,bb,ap⟩;have Q:=bb.trans (cG aR);have R:=(E.trans M).trans Q;have S:=h.ext R;have U:=(aI.ext M).ext Q;refine aX ?_;generalize aR.drew=ar at Q R S U;refine⟨λ_=>False,_,rfl,id,s,by rw[aA];exact S.v.cell,λG=>?_,λG=>⟨λd=>(by cases d),λ_=>?_⟩⟩
 .have G:=cj G
  have av:i<T.length:=by omega
  obtain⟨A,au,ah,_,_,bc⟩:=wD S.iS av;refine⟨_,rfl,id,s,by rw[aA];exact S.v.cell,A,au,ah,id,_,bc,id,t.c,U.rd (aG.bF t),(nq T[i] ar).use ?_⟩;rintro _ bd ⟨be,rfl,aS,aT,_⟩;refine⟨be,rfl,af.c0 aT,(nq t bd).use ?_⟩;rintro _ bs ⟨bg,rfl,aV,aW,_⟩;rw[aK _ (W _ (cN av))]at aS;rw[aK _ X]at aV;refine⟨bg,rfl,(qD (aS.src.ext aW) aV.src (aL _) (aL _)).use ?_⟩;rintro _ aZ ⟨n,rfl,a0,bi⟩;have ax:=(aT.trans aW).trans bi;refine⟨n,rfl,λm=>?_,λm=>?_⟩
  .have m:=a0.1 (cj m)
   rw[pr I];refine⟨⟨i+1,rfl,I,Q.trans ax,λa k=>?_⟩,by show((T.length:Int)-((i+1:Nat):Int)).toNat<((T.length:Int)-(i:Nat)).toNat;omega⟩;rw[kr av]at k;rcases cK.1 k with k|k
   .exact ap a k
   .rw[fb.1 k];exact m
  .have m:¬bo T[i].kv.1 t.kv.1:=λN=>cH m (a0.2 N)
   have l:=DA V W X hf hi ap λ_=>m;have H:=cG aZ;have j:=(R.trans ax).trans H;have r:=(U.ext ax).ext H;refine aX ?_;generalize aZ.drew=b at j r;have K:=h.ext j;have aO:=j.size;have bj:=r.lt;obtain⟨aU,a_⟩:=aQ i j hi;refine⟨λq=>b.heap.size<=q,_,rfl,by rw[aA];show¬b.heap.size<=bf;omega,s,by rw[aA];exact K.v.cell,I,by show¬b.heap.size<=w.heap.size;omega,t.c,r.rd (aG.bF t),_,rfl,by rw[aA];show¬b.heap.size<=bf;omega,s,by rw[aA];exact K.v.cell,I,?_⟩;rw[dg];exact Cd (x:=t.c) zj zi (λw=>Dl w t) (aG.bF t) aU a_ (aG.plain t) (P i).1 (P i).2 (by show(2*((i-0)+(s.len-i)+1)+1000)*56<=_;omega) (λg w' hf=>aM b i g w' j l hf)
 .have G:=cH G
  have bt:i=T.length:=by omega
  have l:=DA V W X hf hi ap λN=>by omega
  have H:=cG ar;have j:=R.trans H;have r:=U.ext H;refine aX ?_;generalize ar.drew=b at j r;have K:=h.ext j;have aO:=j.size;have bj:=r.lt;obtain⟨aU,a_⟩:=aQ i j hi;refine⟨λq=>b.heap.size<=q,_,rfl,by rw[aA];show¬b.heap.size<=bf;omega,s,by rw[aA];exact K.v.cell,I,by show¬b.heap.size<=w.heap.size;omega,t.c,r.rd (aG.bF t),_,rfl,by rw[aA];show¬b.heap.size<=bf;omega,s,by rw[aA];exact K.v.cell,I,?_⟩;rw[dg];exact Cd (x:=t.c) zj zi (λw=>Dl w t) (aG.bF t) aU a_ (aG.plain t) (P i).1 (P i).2 (by show(2*((i-0)+(s.len-i)+1)+1000)*56<=_;omega) (λg w' hf=>aM b i g w' j l hf)
end
section
variable {w0 w w' w1:J}{bB bM:Nat->Prop}{d n ab bf most k c q:Nat}{l:eI}{S aE ef:ck}{pages dH aO fS:O Nat}{T ar bP dQ jr:O aG}{s:ad}
theorem dw.grow(h:dw w0 w bB d n l ab most S pages aO T bP c)(hx:Ext w w')(a:∀q,bM q->bB q\/(w.heap.size<=q/\q<w'.heap.size))(b:bM ab):dw w0 w' bM d n l ab most (S.own bM) pages aO T bP c:=
 ⟨h.s.grow hx a,h.live,h.q,b,h.v.ext hx,h.ok,h.DB,h.wH,h.DC,h.eT,h.mG,h.bV,h.mH⟩
theorem dw.ko(h:dw w0 w bB d n l ab most S pages aO T bP c)(a:bB q)(b:ab≠q)(hc:af (λx=>x=q) w w'):dw w0 w' bB d n l ab most S pages aO T bP c:={h with s:=h.s.ko a hc,v:=h.v.ah hc b}
theorem hO.zo{m:Int}(h:hO (λq=>¬S.T.M q) w bf m s T)(hd:d_ k S aE w w')(he:S.T.E bf/\bf≠S.st):hO (λq=>¬aE.T.M q) w' bf m s T:=
 ⟨h.v.ah hd.ah λd=>he.2 (d.2 he.1),h.iS.ah hd.ah λq a d=>(h.b q a).1 d.1,h.c,λq a=>⟨λe=>(hd.c3 q e).elim (h.b q a).1 λg=>by have:=(h.b q a).2;omega,by have:=(h.b q a).2;have:=hd.ah.size;omega⟩,λf=>f (.inr (.inr (.inr (.inl (by rw[hd.E];exact he.1)))))⟩
structure gR(w0 w:J)(bB:Nat->Prop)(d n:Nat)(l:eI)(ab bf most:Nat)(S:ck)(T bP:O aG)(c:Nat):Prop where
 a:∃pages aO,dw w0 w bB d n l ab most S pages aO T bP c
 sX:bB bf
 ne:ab≠bf
 m:∃s,hO (λq=>¬S.T.M q) w bf (most:Nat) s T
structure js(bf:Nat)(S:ck)(bP:O aG)(w:J)(aE:ck)(dQ:O aG)(w':J):Prop where
 now:aE.now=S.now
 g:kS S bP aE dQ
 ah:af (λq=>S.W q\/q=bf) w w'
 c3:∀q,aE.T.M q->S.T.M q\/w.heap.size<=q
 E:aE.T.E=S.T.E
 st:aE.st=S.st
theorem js.ext(hx:Ext w w'):js bf S bP w S bP w':=⟨rfl,.inl ⟨rfl,rfl⟩,af.c0 hx,λ_ h=>.inl h,rfl,rfl⟩
theorem js.of(hd:d_ k S aE w w')(a:aE.now=S.now)(hg:kS S bP aE dQ):js bf S bP w aE dQ w':=⟨a,hg,hd.ah.mono λ_ _ h=>.inl h,hd.c3,hd.E,hd.st⟩
theorem js.trans{c:ck}{d:O aG}{e:J}(h:js bf S bP w aE dQ w')(a:js bf aE dQ w' c d e):js bf S bP w c d e:=
 ⟨a.now.trans h.now,h.g.trans a.g,c2 h.ah a.ah λq f b=>b.imp (λb=>⟨(h.c3 q b.1).resolve_right I,λhe=>by rw[←h.st];exact b.2 (by rw[h.E];exact he)⟩) id,λq f=>(a.c3 q f).elim (h.c3 q) λi=>.inr (eK h.ah.size i),a.E.trans h.E,a.st.trans h.st⟩
theorem js.J7(h:js bf S bP w aE dQ w'){a:J}(hc:af (λq=>q=bf) w' a):js bf S bP w aE dQ a:={h with ah:=h.ah.trans (hc.mono λ_ _ h=>.inr h)}
theorem gR.ext(h:gR w0 w bB d n l ab bf most S T bP c)(hx:Ext w w'):gR w0 w' bB d n l ab bf most S T bP c:=by
 obtain⟨⟨cU,p,h1⟩,h2,a,s,b⟩:=h;exact⟨⟨cU,p,h1.ext hx⟩,h2,a,s,b.ext hx⟩
theorem gR.mono{e:Nat}(h:gR w0 w bB d n l ab bf most S T bP c)(he:c<=e):gR w0 w bB d n l ab bf most S T bP e:=by
 obtain⟨⟨cU,p,h1⟩,h2,a,b⟩:=h;exact⟨⟨cU,p,h1.mono he⟩,h2,a,b⟩
theorem gR.lU(h:gR w0 w bB d n l ab bf most S T bP c):S.T.E bf/\bf≠S.st:=by
 obtain⟨⟨cU,p,h1⟩,h2,_⟩:=h;exact h1.s.lU h2
theorem gR.whole{s:ad}(h:dw w0 w bB d n l ab most S pages aO T bP c)(he:bB bf)(a:ab≠bf)(hc:af (λq=>q=bf) w w')(b:hO (λq=>¬S.T.M q) w' bf (most:Nat) s T):gR w0 w' bB d n l ab bf most S T bP c:=⟨⟨pages,aO,h.ko he a hc⟩,he,a,s,b⟩
end
section
variable {w0 w w' w1:J}{bB bM:Nat->Prop}{d n ab bf most k c q:Nat}{l:eI}{S aE ef:ck}{pages dH aO fS:O Nat}{T ar bP dQ jr:O aG}
theorem oX{most b:Nat}(o:1<=most/\most<=350)(f:b<256)(w:J):aJ aj 36 #[most,.int .u8 (b:Nat)] w (λv w'=>∃ (ab d:Nat) (S:ck),v=.tuple #[.pointer (some ab),.pointer (some d),true]/\dw w w' (λq=>q=ab) d (4*most+64) (mF b) ab most S [] [] [] [] 0/\S.u=jo/\S.now=jo.clock):=by
 refine okF (ae.oX (most:Nat) (b:Nat)) ax.oX func36 ?_;delta ae.oX h5 aq AW;have p:IntKind.wrap .i64 ((IntKind.wrap .i64 (4*(most:Int)))+64)=((4*most+64:Nat):Int):=by
  rw[bn (n:=4*(most:Int)) I I,bn I I];omega
 rw[p,JH f];refine(qd (n:=4*most+64) I I w).use ?_;rintro _ w1 ⟨d,lb,mr,rfl,hd,r,s⟩;refine⟨_,0,rfl,by decide,(oW (b:=b) (d:=b/16) f I w1).use ?_⟩;rintro _ B ⟨rfl,g⟩;refine⟨_,_,_,rfl,(JD (l:=mF b) (bB:=λ_=>False) (hd.ext g) (JG b) (λk=>⟨.inl rfl,.inl rfl⟩) rfl (by show 0<=999999000;omega) (λq h=>h.elim)).use ?_⟩;rintro _ c ⟨e,rfl,x,a,hu,hg⟩;have i:=gQ.new (w0:=w) (r.trans g) x a hu hg (λq j=>s q j) (λq h=>h.elim) rfl rfl;have y:(qZ (4*most+64) d lb mr).n=4*most+64:=by show(List.replicate _ hG).length=_;rw[l1]
 rw[y]at i;refine⟨_,0,rfl,(qe c (most:Nat)).use ?_⟩;rintro _ C ⟨z,⟨A,_⟩|⟨_,rfl,m⟩⟩
 .exfalso
  rcases A with h|h|h
  .cases h
  .omega
  .omega
 have D:=m.lt;refine⟨_,0,rfl,c.heap.size,d,e.own λq=>q=c.heap.size,rfl,⟨i.grow z λq j=>.inr I,a.live,a.q,rfl,m,λt ht=>(by cases ht),λt ht=>(by cases ht),?_,λ_=>rfl,⟨cL _,cL _⟩,⟨o.1,I⟩,rfl,List.Pairwise.nil⟩,hu,a.now.trans (by rw[hu])⟩;rw[show(e.own λq=>q=c.heap.size).pending=e.pending from rfl,a.px];show 0<1+b%12;omega
end
section
variable {w0 w w' w1:J}{bB bM:Nat->Prop}{d n ab bf b most cV k c q i a m:Nat}{l:eI}{S aE ef:ck}{pages dH aO fS:O Nat}{T ar bP dQ jr eN Q:O aG}{s t:ad}{fr mI:Key}{jt:TypeId}{st:aG->al}
theorem J8:(jq T Q).length<=1000:=by
 unfold jq;split
 .exact cL _
 .rename_i t _
  split
  .exact cL _
  .have a:cv t.kv.1:=q7
   unfold cv at a;rw[cp,iG];omega
theorem J9(h:1<=cV/\cV<=64):stM (cV:Nat)=cV:=by unfold stM;omega
theorem J_(l:O aG):(l.filter st).length<=l.length:=mY _ _
structure hT(S:ck)(w:J)(jt:TypeId)(b p cV:Nat)(s:ad)(fr:Key):Prop where
 v:Var w b [.pointer (some p),s,cV] jt
 iS:Src 1 w s (az fr)
 c:s.len<=s.cap
 mJ:∀q,aB s q->¬S.T.M q/\q<w.heap.size
 e:S.T.E b/\b≠S.st
theorem hT.M{p:Nat}(h:hT S w jt b p cV s fr):S.T.M b:=.inr (.inr (.inr (.inl h.e.1)))
theorem hT.to{p:Nat}(h:hT S w jt b p cV s fr)(t:js bf S bP w aE dQ w')(f:S.T.M bf)(g:b≠bf):hT aE w' jt b p cV s fr:=
 ⟨h.v.ah t.ah λa=>a.elim (λa=>h.e.2 (a.2 h.e.1)) g,h.iS.ah t.ah λq d a=>a.elim (λa=>(h.mJ q d).1 a.1) λe=>(h.mJ q d).1 (e▸f),h.c,λq d=>⟨λi=>(t.c3 q i).elim (h.mJ q d).1 λj=>by have:=(h.mJ q d).2;omega,by have:=(h.mJ q d).2;have:=t.ah.size;omega⟩,by rw[t.E,t.st];exact h.e⟩
theorem hT.ext{p:Nat}(h:hT S w jt b p cV s fr)(hx:Ext w w'):hT S w' jt b p cV s fr:=⟨h.v.ext hx,h.iS.ext hx,h.c,λq a=>⟨(h.mJ q a).1,fa (h.mJ q a).2 hx.size⟩,h.e⟩
theorem hT.put{p:Nat}(h:hT S w jt b p cV s fr)(ht:Src 1 w t (az mI))(hc:t.len<=t.cap)(c:∀q,aB t q->¬S.T.M q/\q<w.heap.size):
 (∃u:aa,w.cell? (Addr.add b 1)=some u)/\w.frozen? (Addr.add b 1)=false/\hT S (w.setCell (Addr.add b 1) t) jt b p cV t mI/\af (λq=>q=b) w (w.setCell (Addr.add b 1) t):=by
 rw[aA,cR];obtain⟨b9,ct⟩:=eA h.v (i:=1) (by show 1<3;decide);have d:=dU w b 1 t;exact⟨b9,ct,⟨ez h.v (i:=1) _,ht.ah d λq a e=>(c q a).1 (e▸h.M),hc,λq a=>⟨(c q a).1,fa (c q a).2 d.size⟩,h.e⟩,d⟩
end
section
variable {w0 w w' w1:J}{bB bM:Nat->Prop}{d n ab bf b most cV k c q i a m now:Nat}{l:eI}{S aE ef:ck}{pages dH aO fS:O Nat}{T ar bP dQ jr eN Q:O aG}{s t sl:ad}{fr mI:Key}{jt:TypeId}{st:aG->al}
theorem oz{p:ag}(b:1<=cV/\cV<=64)(w:J):aJ aj 10 #[.pointer (some p),cV] w (λv w'=>v=.tuple #[.pointer (some w.heap.size),(0:Int)]/\Ext w w'/\Var w' w.heap.size [.pointer (some p),(),cV] 110):=by
 refine okF (ae.oz (some p) (cV:Nat)) ax.oz func10 ?_;delta ae.oz ak Y;refine⟨λh=>?_,λ_=>a8 (vs:=[.pointer (some p),(),cV]) rfl λw1 a hx _=>⟨rfl,hx,a⟩⟩;rw[ih I,ih I]at h;cases h
theorem Ka{p:Nat}(h:hT S w 110 b p cV s fr)(a:fr.length<=1000000):aJ aj 12 #[.pointer (some b)] w (λv w'=>∃t:ad,v=t/\Src 1 w' t (az fr)/\Ext w w'):=by
 refine okF (ae.uq (some b)) ax.uq func12 ?_;(delta ae.uq ua ak r1 bD;dsimp only);refine⟨λc=>(by cases c),λ_=>⟨_,rfl,s,by rw[aA];exact h.v.cell,(vx h.iS a).use ?_⟩⟩;rintro _ e ⟨t,rfl,d,hx,_⟩;exact⟨t,rfl,t,rfl,d.src,hx⟩
theorem DI(h:dw w0 w bB d n l ab most S pages aO T bP c)(hs:hT S w 110 b ab cV s fr)(u:bB b)(i:ab≠b)(hc:c<=9000)(x:1<=cV/\cV<=64):
 aJ aj 11 #[.pointer (some b),.int .u64 (now:Nat)] w (λv w'=>v=.tuple #[.int .i64 (((eJ T fr cV).filter (jT now)).length:Nat),(0:Int)]/\∃ (aE:ck) (cU p:O Nat) (dQ:O aG) (y:ad),
  dw w0 w' bB d n l ab most aE cU p (fq T (eJ T fr cV) (jT now)) dQ (c+1+((eJ T fr cV).filter (jT now)).length)/\js b S bP w aE dQ w'/\hT aE w' 110 b ab cV y (jq T (eJ T fr cV))):=by
 refine okF (ae.uo (some b) (now:Nat)) ax.uo func11 ?_;(delta ae.uo ak r1 aF AT st;dsimp only);have e:=cG w;have h1:=h.ext e;have s1:=hs.ext e;have yR:js b S bP w S bP w.drew:=.ext e;refine⟨λf=>(by cases f),λ_=>aX ?_⟩;generalize w.drew=w1 at h1 s1 yR;refine⟨λ_=>False,_,rfl,id,_,s1.v.cell,_,rfl,id,s,by rw[aA];exact s1.v.cell,_,rfl,id,_,by rw[aA];exact s1.v.cell,?_⟩;have j:=J1 (now:=now) (m:=(cV:Nat)) h1 hc I s1.iS λq a=>⟨(s1.mJ q a).2,(s1.mJ q a).1⟩;rw[J9 x]at j;refine j.use ?_;rintro _ E ⟨t,rfl,g,hf,k,z,cU,p,fx,A,d9,n9,o,B⟩;have C:=s1.to (js.of (bf:=ab) d9 n9 o) (.inr (.inr (.inr (.inl (h1.s.lU h1.wG).1)))) i.symm;obtain⟨b9,ct,D,r⟩:=C.put g.src g.2.1 λq a=>⟨B q a,g.lt q a⟩;exact⟨t,_,_,rfl,λf=>(by cases f),λ_=>⟨_,rfl,b9,ct,aX ⟨rfl,z,cU,p,fx,t,A.ko u i r,(yR.trans (.of d9 n9 o)).J7 r,D⟩⟩⟩
end
theorem aG.o0{cs:O aa}(h:h4 (.int .i64::(((.bool::mn 16)++ [.int .i64])++ [.int .i64,.int .u64])) cs):∃t:aG,cs=t.c/\t.u<18446744073709551616:=by
 obtain⟨_,us,rfl,⟨s,rfl,_⟩,h⟩:=h;obtain⟨a,t1,rfl,h1,h2⟩:=xo h;obtain⟨p,rfl,_⟩:=bp.o0 h1;obtain⟨_,_,rfl,⟨b,rfl,_⟩,_,_,rfl,⟨u,rfl,aw,ay⟩,rfl⟩:=h2;have g:0<=u/\u<=18446744073709551615:=by simpa[IntKind.min,IntKind.max,IntKind.signed,IntKind.bits] using And.intro aw ay
 obtain⟨k,rfl⟩:∃k:Nat,u=(k:Int):=⟨u.toNat,I⟩;exact⟨⟨s,p,b,k⟩,rfl,by show k<_;omega⟩
section
variable {w0 w w' w1:J}{bB bM:Nat->Prop}{d n ab bf most k c q i:Nat}{l:eI}{S aE ef:ck}{pages dH aO fS:O Nat}{T ar bP dQ jr:O aG}{ls:ad}
theorem gR.new(h:dw w0 w (λq=>q=ab) d n l ab most S [] [] [] [] c)(hx:Ext w w')(b:Var w' bf [most,()] 36)(g:w.heap.size<=bf):gR w0 w' (λq=>q=ab\/q=bf) d n l ab bf most (S.own λq=>q=ab\/q=bf) [] [] c:=by
 have i:=b.lt;have j:=h.v.lt;refine⟨⟨[],[],h.grow hx (λq a=>a.imp id λe=>I) (.inl rfl)⟩,.inr rfl,I,⟨none,0,0⟩,b,(aW.none 21 57 w').src,bl _,λq a=>(fZ q a).elim,λf=>f (.inr (.inr (.inr (.inl (.inr (.inr rfl))))))⟩
end
def Kb(i:Nat):bp:=⟨⟨false,[0,0,0,0,0,0,0,0,0,0,0,0,10,0,0,UInt8.ofNat i],rfl⟩,32⟩
def j5(i b u:Nat):aG:=⟨7,Kb i,(b:Nat),u⟩
section
variable {w0 w w' w1:J}{bB bM:Nat->Prop}{d n ab bf most k c q i:Nat}{l:eI}{S aE ef:ck}{pages dH aO fS:O Nat}{T ar bP dQ jr:O aG}{t x:aG}
end
section
variable {w0 w w' w1:J}{bB bM:Nat->Prop}{d n ab bf b nb most cV k c q i a m now:Nat}{l:eI}{S aE ef:ck}{pages dH aO fS:O Nat}{T ar bP dQ jr eN Q L:O aG}{s t sl ls:ad}{fr mI:Key}{jt:TypeId}{st:aG->al}
theorem gR.grow(h:gR w0 w bB d n l ab bf most S T bP c)(hx:Ext w w')(i:w.heap.size<=nb/\nb<w'.heap.size):gR w0 w' (λq=>bB q\/q=nb) d n l ab bf most (S.own λq=>bB q\/q=nb) T bP c:=by
 obtain⟨⟨cU,p,a⟩,sX,j,s,m⟩:=h;refine⟨⟨cU,p,a.grow hx (λq f=>f.imp id λe=>by rw[e];exact i) (.inl a.wG)⟩,.inl sX,j,s,m.v.ext hx,m.iS.ext hx,m.c,λq f=>⟨λg=>?_,by have:=(m.b q f).2;have:=hx.size;omega⟩,λg=>g (.inr (.inr (.inr (.inl (.inr (.inl sX))))))⟩;have h2:=(m.b q f).2;exact(ck.JP a.s.E g).elim (m.b q f).1 λe=>by omega
theorem hT.new{p:Nat}(e:Var w b [.pointer (some p),(),cV] jt)(h:gR w0 w (λq=>bB q\/q=b) d n l ab bf most S T bP c):hT S w jt b p cV ⟨none,0,0⟩ []:=by
 obtain⟨⟨cU,p,a⟩,_⟩:=h;exact⟨e,(aW.none 1 5 w).src,bl _,λq f=>(fZ q f).elim,a.s.lU (.inr rfl)⟩
theorem qE{m:Nat}(Q:m<256)(cS:Src 21 w ls (bu aG.c L))(hu:∀t∈L,t.u<18446744073709551616):
 aJ aj 9 #[.int .u8 (m:Nat),ls] w (λv w'=>∃ (ab bf d N:Nat) (S:ck) (T bP:O aG),v=.tuple #[.pointer (some ab),.pointer (some bf),true]/\N<=40/\gR w w' (λq=>q=ab\/q=bf) d (4*N+64) (mF 7) ab bf N S T bP 200):=by
 have r:ls.len=L.length:=by have:=cS.len;rw[fA _ (lk _)]at this;omega
 refine okF (ae.qE (m:Nat) ls) ax.qE func9 ?_;delta ae.qE p7 aq ak aP bY Y;obtain⟨N,y,e⟩:∃N:Nat,IntKind.wrap .i64 (1+(IntKind.wrap .i64 (Int.tmod (m:Int) 40)))=(N:Int)/\1<=N/\N<=40:=by
  rw[mT I,bn (n:=(m:Int)%40) I I,bn I I];exact⟨1+m%40,I,I,I⟩
 rw[y];refine⟨by decide,(oX (b:=7) ⟨e.1,I⟩ (by decide) w).use ?_⟩;rintro _ w1 ⟨ab,d,R,rfl,a0,_⟩;refine⟨_,_,_,rfl,a8 (vs:=[N,()]) rfl λU z B V=>?_⟩;have f:=gR.new a0 B z (bl _);generalize w1.heap.size=bf at f⊢;refine⟨λb C w'=>∃ (i:Nat) (S:ck) (T bP:O aG),b=true/\C=(i:Int)/\i<=60/\gR w w' (λq=>q=ab\/q=bf) d (4*N+64) (mF 7) ab bf N S T bP (2*i),λ_ n _=>((60:Int)-n).toNat,⟨0,_,[],[],rfl,rfl,I,f⟩,?_⟩;rintro _ _ g ⟨i,S,T,bP,rfl,rfl,hi,h⟩;refine⟨λaH=>?_,λ_=>⟨ab,bf,d,N,S,T,bP,rfl,e.2,h.mono I⟩⟩;rw[pA]at aH;obtain⟨h1,h2⟩:=IU (m:=60) r aH;have D:=cG g;have a:=h.ext D;refine aX ?_;generalize g.drew=X at a;have E:=a.lU;obtain⟨⟨cU,p,eD⟩,sX,F,Z,G⟩:=a;obtain⟨A,au,j,_,_,l⟩:=wD (cS.ext eD.s.x) h1;have Y:¬S.W (A.add (Int.toNat (i:Int)*21)).block:=λH=>by
  have aa:=eD.s.sW _ H.1;obtain⟨ac,o,_,J,_⟩:=wD cS h1;rw[au]at o
  cases o;have ad:=Jb J;omega
 refine⟨λq=>S.W q,A,au,j,Y,_,l,A,au,j,Y,_,l,(DE eD I (hu _ (cN h1))).use ?_⟩;rintro _ af ⟨rfl,k,ef,ag,bk,bW,a1,d1,cc,aw⟩;have K:=G.zo d1 E;have ai:T.length<=400:=by have:=eD.eT.1;have:=eD.mG;omega
 refine⟨_,rfl,d1.ah,(J6 K I a1.new eD.mH eD.keys L[i]).use ?_⟩;rintro _ al ⟨rfl,M,am,P⟩;rw[pr I];exact⟨_,rfl,⟨i+1,ef,_,bW,beq_self_eq_true _,rfl,I,.whole (a1.mono I) sX F M P⟩,by show((60:Int)-((i+1:Nat):Int)).toNat<((60:Int)-(i:Nat)).toNat;omega⟩
def DJ:bp:=⟨⟨false,[0,0,0,0,0,0,0,0,0,0,0,0,0,0,0,0],rfl⟩,0⟩
def nP:aG:=⟨1,DJ,0,5⟩
theorem DK(w:J):aJ aj 13 #[] w (λv w'=>v=true/\Ext w w'):=by
 refine ae.Fx w _ ?_;delta ae.sn p7 ak bY h5 gK;refine(oX (most:=5) (b:=1) (by decide) (by decide) w).use ?_;rintro _ w1 ⟨ab,d,u,rfl,a0,_⟩;refine⟨_,_,_,rfl,λh=>(by cases h),λ_=>⟨DJ.c.toArray,by kernel_rfl,nP.c.toArray,by kernel_rfl,(DE a0 I (t:=nP) (by decide)).use ?_⟩⟩;have g:iD [] 5 nP=0:=by decide+kernel
 have m:kq [] 5 nP=[nP]:=by unfold kq;rw[g];rfl
 rw[g,m];rintro _ a ⟨rfl,b9,ef,y,bk,bW,a1,_⟩;refine⟨_,rfl,(oz (cV:=3) (by decide) a).use ?_⟩;rintro _ i ⟨rfl,n,j⟩;have z:=j.lt;have A:=a1.v.lt;have ei:=a1.grow (bM:=λq=>q=ab\/q=a.heap.size) n (λq f=>f.imp id λe=>I) (.inl rfl);have o:hT _ i 110 a.heap.size ab 3 ⟨none,0,0⟩ []:=⟨j,(aW.none 1 5 i).src,bl _,λq f=>(fZ q f).elim,ei.s.lU (.inr rfl)⟩;refine⟨_,_,rfl,(DI (now:=5) ei o (.inr rfl) I I (by decide)).use ?_⟩;have l:((eJ [nP] [] 3).filter (jT 5)).length=1/\(fq [nP] (eJ [nP] [] 3) (jT 5)).length=0:=by decide+kernel
 rw[l.1];rintro _ p ⟨rfl,dF,B,bh,b1,s2,a2,_⟩;refine⟨_,_,rfl,cA (λb w'=>b=true/\p=w') (λk r=>⟨λ_=>(Dv a2.v a2.s.at_).use ?_,λh=>(by cases h)⟩) ?_⟩
 .rintro _ _ ⟨rfl,rfl⟩
  rw[di,l.2];exact⟨_,rfl,r _ _ ⟨rfl,rfl⟩⟩
 .rintro _ _ ⟨rfl,rfl⟩
  exact⟨rfl,a2.s.x⟩
end
theorem Kc(z:Int):∃cV:Nat,IntKind.wrap .i64 (1+(IntKind.wrap .i64 (Int.tmod (IntKind.wrap .u64 z) 64)))=(cV:Int)/\1<=cV/\cV<=64:=by
 have h0:0<=IntKind.wrap .u64 z:=Int.emod_nonneg _ (by decide);rw[mT h0,bn (n:=IntKind.wrap .u64 z%64) I I,bn I I];exact⟨1+(IntKind.wrap .u64 z%64).toNat,I,I,I⟩
section
variable {w0 w w' w1:J}{bB bM:Nat->Prop}{d n ab bf b nb most cV k c q i a m now:Nat}{l:eI}{S aE ef:ck}{pages dH aO fS:O Nat}{T ar bP dQ jr eN Q L:O aG}{s t sl ls:ad}{fr mI:Key}{jt:TypeId}{st:aG->al}{x y:aG}
theorem gR.Ke(h:gR w0 w bB d n l ab bf most S T bP c):Ext w0 w:=by
 obtain⟨⟨_,_,a⟩,_⟩:=h;exact a.s.x
theorem Kf{m:Nat}(W:m<256)(cS:Src 21 w ls (bu aG.c L))(hu:∀t∈L,t.u<18446744073709551616)(g6:Int)(now:Nat)(l:al):
 aJ aj 3 #[.int .u8 (m:Nat),ls,.agg #[g6,.int .u64 (now:Nat),l]] w (λv w'=>v=true/\Ext w w'):=by
 refine okF (ae.vu (m:Nat) ls g6 (now:Nat) l) ax.vu func3 ?_;(delta ae.vu p7 ak aF Y h5 aq r1 cr gK bD b6;dsimp only);refine a8 (vs:=[g6,.int .u64 (now:Nat),l]) rfl λw1 C n aB=>(qE W (cS.ext n) hu).use ?_;rintro _ ai ⟨ab,bf,d,N,S,T,bP,rfl,aC,h2⟩;obtain⟨cV,X,h⟩:=Kc g6;refine⟨_,_,_,rfl,λf=>(by cases f),λ_=>⟨_,(C.ext h2.Ke).cell,by decide,?_⟩⟩;rw[X];refine(oz h ai).use ?_;rintro _ aD ⟨rfl,Z,D⟩;have o:=h2.grow Z ⟨bl _,D.lt⟩;have E:=hT.new D o;have aa:ab<ai.heap.size:=by obtain⟨⟨_,_,a⟩,_⟩:=h2;exact a.v.lt
 generalize ai.heap.size=sb at o E aa⊢;obtain⟨⟨cU,p,eC⟩,_,aI,F,G⟩:=o;have aK:T.length<=400:=by have:=eC.eT.1;have:=eC.mG;omega
 obtain⟨q,r⟩:∃q,q=T.length/cV:=⟨_,rfl⟩;have hdiv:IntKind.wrap .i64 (Int.tdiv (F.len:Int) (cV:Int))=(q:Int):=by
  have H:=Nat.div_le_self T.length cV;rw[←r]at H;rw[G.len,←Int.ofNat_tdiv,←r,bn I I]
 refine⟨_,_,rfl,λf=>(by cases f),λ_=>⟨_,rfl,F,by rw[aA];exact G.v.cell,?_⟩⟩;rw[hdiv];refine⟨λy w'=>∃ (i:Nat) (aE:ck) (cU p:O Nat) (dQ eN:O aG) (ac:ad) (mI:Key),y=(i:Int)/\q8 T (jT now) (i*cV) eN mI/\dw w1 w' (λq=>(q=ab\/q=bf)\/q=sb) d (4*N+64) (mF 7) ab N aE cU p eN dQ (200+2*(i*cV))/\hT aE w' 110 sb ab cV ac mI,λy _=>(((T.length+1:Nat):Int)-y).toNat,
  ⟨0,_,cU,p,bP,T,_,[],rfl,by rw[mR];exact .begin eC.mH,by rw[mR];exact eC,E⟩,?_⟩
 rintro _ af ⟨i,aL,aM,aN,mh,eN,aO,j,rfl,J,z,ag⟩;have aP:=J.le;have aQ:i<=i*cV:=Nat.le_mul_of_pos_right _ h.1;have ah:=n.trans z.s.x;refine⟨I,λ_=>⟨_,by rw[aA];exact(C.ext z.s.x).cell,(DI (now:=now) z ag (.inr rfl) I I h).use ?_⟩,λ_=>(DK af).use ?_⟩
 rotate_left
 .rintro _ aR ⟨rfl,hx⟩
  exact⟨_,rfl,rfl,ah.trans hx⟩
 rintro _ aS ⟨rfl,am,an,ao,jH,ap,K,t7,M⟩;obtain⟨ar,aT,P⟩:=J.step h2.a.choose_spec.choose_spec.mH h.1;have hg:=J_ (st:=jT now) (eJ eN j cV);have aU:(eJ eN j cV).length<=cV:=by rw[ar,cI];omega
 refine⟨_,_,rfl,λf=>?_,λ_=>(Ka M (by have:=J8 (T:=eN) (Q:=eJ eN j cV);omega)).use ?_⟩
 .rw[ih I]at f;cases f
 rintro _ R ⟨t,rfl,ht,A⟩;have U:=len8 ht;have au:=(n.trans K.s.x).trans A;refine⟨t,rfl,λg=>⟨I,cA (λb w'=>b=true/\Ext R w') (λk av=>⟨λ_=>(DK R).use ?_,λf=>?_⟩) ?_⟩,λg=>?_⟩
 .rintro _ aV ⟨rfl,hx⟩
  exact⟨_,rfl,av _ _ ⟨rfl,hx⟩⟩
 .exfalso
  have g:t.len=0:=by have:=eq_of_beq g;omega
  have B:jq eN (eJ eN j cV)=[]:=wM I;rcases P with ⟨aw,_⟩|⟨_,ay,_⟩
  .have H:q<=i+1:=by rw[r];exact Nat.div_le_of_le_mul (by rw[Nat.mul_comm,ic,nR];exact aw)
   rw[bn I I,dI I]at f
   cases f
  .exact absurd B ay
 .rintro _ aW ⟨rfl,hx⟩
  exact⟨rfl,au.trans hx⟩
 .have g:t.len≠0:=λe=>by rw[e]at g;cases g
  rcases P with ⟨_,B⟩|⟨aH,_,az⟩
  .rw[B]at U
   exact absurd U g
  .rw[pr I]
   have V:(i+1)*cV=i*cV+cV:=by rw[ic,nR]
   refine⟨⟨i+1,am,an,ao,jH,_,ap,_,rfl,by rw[V];exact az,?_,M.ext A⟩,by show(((T.length+1:Nat):Int)-((i+1:Nat):Int)).toNat<(((T.length+1:Nat):Int)-(i:Nat)).toNat;omega⟩;rw[V];exact(K.ext A).mono I
end
structure mK where
 cV:Int
 now:Nat
 all:al
def mK.c(a:mK):O aa:=[a.cV,.int .u64 (a.now:Nat),a.all]
section
variable {w0 w w' w1:J}{bB bM:Nat->Prop}{d n ab bf b nb most cV k c q i a m now:Nat}{l:eI}{S aE ef:ck}{pages dH aO fS:O Nat}{T ar bP dQ jr eN Q L:O aG}{s t sl ls la:ad}{fr mI:Key}{jt:TypeId}{st:aG->al}{x y:aG}{A:O mK}
end
section
variable {w:J}{v:aa}
set_option maxRecDepth 100000 in
theorem Kg.of (h:j4 aj w 22 v):∃ (l:ad) (L:O aG),v=l/\Src 21 w l (bu aG.c L)/\∀t∈L,t.u<18446744073709551616:=by
 obtain⟨t,rfl,ht⟩:=p1.of h (e:=57) (by kernel_rfl);obtain⟨A,h1,_,h2⟩:=ht.src (c:=aG.c) (sz:=21) (by kernel_rfl) (λt=>t.u<18446744073709551616) λfuel vs a=>aG.o0 (rU 8 (ls:=.int .i64::(((.bool::mn 16)++ [.int .i64])++ [.int .i64,.int .u64])) (by kernel_rfl) (by kernel_rfl) a);exact⟨t,A,rfl,h1,h2⟩
theorem mK.o0{cs:O aa}(h:h4 [.int .i64,.int .u64,.bool] cs):∃a:mK,cs=a.c:=by
 obtain⟨_,_,rfl,⟨p,rfl,_⟩,_,_,rfl,⟨n,rfl,h1,_⟩,_,_,rfl,⟨b,rfl⟩,rfl⟩:=h;obtain⟨k,rfl⟩:∃k:Nat,n=(k:Int):=⟨n.toNat,(Int.toNat_of_nonneg h1).symm⟩;exact⟨⟨p,k,b⟩,rfl⟩
set_option maxRecDepth 100000 in
theorem mK.of (h:j4 aj w 25 v):∃a:mK,v=.agg #[a.cV,.int .u64 (a.now:Nat),a.all]:=by
 obtain⟨cs,rfl,h2⟩:=EG h (d:=(Tryz.prog.underlying 25).get (by kernel_rfl)) (ls:=[.int .i64,.int .u64,.bool]) (pC _).symm (by kernel_rfl) (by kernel_rfl) (by kernel_rfl);obtain⟨a,rfl⟩:=mK.o0 h2;exact⟨a,rfl⟩
end
end Go.Proofs.YtcmgnhkpfllinaaGreat
