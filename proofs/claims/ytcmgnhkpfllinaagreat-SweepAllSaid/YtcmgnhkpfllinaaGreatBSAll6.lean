/- Contracts of the functions that the statement reaches, and the plain laws over them; each theorem stands with its conditions. -/
import Derived.Test.YtcmgnhkpfllinaaGreatBSAll5
namespace Go.Proofs.YtcmgnhkpfllinaaGreat
open Go aQ Go.Proofs.Tryz
section
variable {w w' w1:J}{C:b3}{X:Nat->Prop}{T:aK}{S aD kn:cc}{pages aM:O Nat}{L bQ:O aN}{f2:Nat->al}{aJ:b3}{P':Nat->av aF}
theorem JL{f:Nat->al}{n k:Nat}(h:k<n):nF f n (k:Int)=dt f k false:=by
 unfold nF;rw[if_pos ⟨I,I⟩,di]
theorem JM{bj d c sb gen now first pending keys st:Nat}{l:eC}{u:eR}{failed:al}(b:Var w st (ja bj d c sb l u gen now first pending keys failed) 146)(a:eR){K:J->Prop}(e:∀ai,Var ai st (ja bj d c sb l a gen now first pending keys failed) 146->af (λq=>q=st) w ai->K ai):
 bD w ⟨st,7,none⟩ [a.root,a.aL,a.map,.int .u64 (a.clock:Nat),.int .u64 (a.dv:Nat),a.keys]/\(6:Nat)=6/\
  an (setCells w ⟨st,7,none⟩ 0 [a.root,a.aL,a.map,.int .u64 (a.clock:Nat),.int .u64 (a.dv:Nat),a.keys]) K:=
 ⟨bp.cj b _ _ (by simp[ja]) λv f=>eR.plain a v f,rfl,aX (e _ (bp.k9 (o:=7) b _) (af.jK (.refl _ _) _ 0))⟩
theorem JN(h:dV w S pages L aM bQ)(U:S.failed=false)(cU:L.length<4096)(d_:S.T.C.D.a7<=800000000)(ea:S.gen<=1000000000)(ac:S.T.C.D.quiet):
 aI aj 74 #[.pointer (some S.st)] w (zx S pages L aM bQ w):=by
 refine okF (ae.uO (some S.st)) ax.uO func74 ?_;(delta ae.uO gB ak bX aG cm bG ey iQ Y gQ st;dsimp only);obtain⟨aY,bz,cN⟩:=h.live U;obtain⟨no,bA⟩:=CZ cN;obtain⟨bB,cO,_⟩:=Cy bA;have eb:=h.t.s.bu;have ap:=h.num;have cQ:=h.gen;have bD:=h.jX.zw;have bE:S.T.f no=false:=by cases cR:S.T.f no<;>simp_all
 have aZ:S.T.g no=false:=by cases cR:S.T.g no<;>simp_all
 have bF:2<=no:=Nat.le_of_not_lt λe=>by
  have:=(h.jX.g no).2 (.inr (.inl e));rw[aZ]at this;cases this
 have ed:S.T.M S.st:=.inr (.inr (.inr (.inl h.es)));refine⟨_,rfl,_,by rw[aA];exact h.v.cell,(CA h.t.s).use ?_⟩;rintro _ bI ⟨rfl,bJ,aq⟩;rw[bA]at bJ⊢;refine⟨(no:Nat),0,rfl,λhx=>(by cases hx),λ_=>aX ?_⟩;have cS:=(h.t.wv (f:=dt S.T.f no true) bJ aq).1;have cV:=h.v.ah aq (h.t.dU _ h.es).2.1;have ar:Ext bI bI.drew:=cA _;have a0:=cV.ext ar;have bK:=cS.ext ar;refine⟨_,rfl,id,_,by rw[aA];exact a0.cell,_,rfl,id,_,by rw[aA,aA];exact a0.cell,(CB bK.s (S.u.map:Nat)).use ?_⟩;rintro _ au ⟨rfl,bL,aB⟩;rw[JL (by exact bD.2.2.2.1)]at bL;obtain⟨f2,a1⟩:∃f2,f2=dt (dt S.T.f no true) S.u.map false:=⟨_,rfl⟩;have bM:fk au S.T.sb S.T.n f2 S.T.g S.T.s1 S.T.s2:=by rw[a1];exact bL
 have a2:b7 au (S.T.jt f2):=(bK.wv (f:=f2) bM aB).1;have bN:=a0.ah aB (h.t.dU _ h.es).2.1;refine⟨_,rfl,aX ?_⟩;have aC:Ext au au.drew:=cA _;have bO:=bN.ext aC;have cW:=a2.ext aC;have a3:IntKind.wrap .u64 ((S.gen:Int)+1)=((S.gen+1:Nat):Int):=by rw[gz I I];omega
 refine⟨λ_=>False,_,rfl,id,_,by rw[aA];exact bO.cell,_,rfl,id,_,by rw[aA];exact bO.cell,(CH cW.s).use ?_⟩;rintro _ cX ⟨aD,rfl,cY,a4,ee⟩;have cZ:aV 1 5 cX aD (az (iH f2 ((S.T.n+7)/8))):=by rw[Dx];exact cY
 have bP:ny ⟨4,S.gen+1,iH f2 ((S.T.n+7)/8)⟩:=⟨(by decide:1<=4),(by decide:4<=4),by show S.gen+1<_;omega,by show(iH _ _).length<=232;rw[wI];omega⟩;rw[a3];refine⟨aD,rfl,a4,#[(4:Int),.int .u64 ((S.gen+1:Nat):Int),aD],λef=>by kernel_rfl,(vU (s:=aD) (p:=⟨4,S.gen+1,iH f2 ((S.T.n+7)/8)⟩) (no:=no) cZ.src I bP).use ?_⟩;rintro _ bR ⟨c2,rfl,bS,bT,c3⟩;have a5:=aC.trans (Ext.trans a4 bT);have aE:=a2.ext a5;have bU:=bN.ext a5;have eg:=aq.size;have eh:=aB.size;have ei:=ar.size;have ej:=aC.size;have ek:=a4.size;have a6:af S.W w bR:=c0 (c0 (c0 (c0 (af.refl _ _) aq λq _ a=>h.nN (.inr (.inr (.inl a)))) ar λq _ a=>a.elim) aB λq _ a=>h.nN (.inr (.inr (.inl a)))) a5 λq _ a=>a.elim;have c4:(eG no ⟨4,S.gen+1,iH f2 ((S.T.n+7)/8)⟩).length=256:=sC _ bP;refine⟨c2,0,rfl,bT,λhx=>(by cases hx),λ_=>⟨_,rfl,_,by rw[aA];exact bU.cell,(CR aE.ca (by show S.T.C.D.a7<=_;omega) (no:=no) (by rw[aE.n];exact bB) bF (λhs=>?_) bS.src c4 λq a=>⟨aV.lt bS q a,λhf=>?_⟩).use ?_⟩⟩
 .rcases aE.b6 no hs with h1|h1
  .rw[show(S.T.jt f2).g no=S.T.g no from rfl,aZ]at h1;cases h1
  .exact aY h1
 .have h1:=c3 q a
  have h2:=a2.lt (q:=q) (.inl hf);omega
 rintro _ bV ⟨J,c5,bW,aH⟩;have A:er S.T.C J bR bV 1:=bW;have bY:∀j,j≠no->J.view j=S.T.C.view j:=λj o=>by
  rcases aH with ⟨_,a9⟩|⟨_,_,a9⟩
  .rw[a9,if_neg o];rfl
  .rw[a9];rfl
 obtain⟨F,a_⟩:∃F:Nat->av aF,F=λj=>if j=no then none else S.T.P j:=⟨_,rfl⟩
 have ad:∀j,j≠no->F j=S.T.P j:=λj o=>by rw[a_];exact if_neg o
 obtain⟨aJ,_⟩:=aE.wq (P:=F) c5 bW λj cg Q=>by
  have o:j≠no:=λe=>by rw[a_]at Q;simp[e]at Q
  rw[bY j o];exact h.t.eT j cg (by rw[←ad j o];exact Q)
 have c6:¬c9 S.T.C S.st:=(h.t.ca.inv.fc _ (.inr (.inr (.inl h.es)))).2;have bZ:=bU.ah A.ah c6;have b0:af S.W w bV:=c0 a6 A.ah λq _ a=>h.nN (.inl a);have el:∀x∈aM,S.T.P x=F x:=λx hx=>(ad x λe=>by
  have:=(h.jX.g x).2 (.inl hx);rw[e,aZ]at this;cases this).symm
 have em:J.D.b5=S.T.C.D.b5:=congrArg (λp=>p.1.1) A.b5;have b1:J.D.ck.getD 3 0=S.T.C.D.ck.getD 3 0:=congrArg Prod.snd A.b5;rcases aH with ⟨rfl,aH⟩|⟨rfl,c7,_⟩
 rotate_left
 .exact absurd (ac.1 1) c7
 refine⟨0,rfl,λhx=>(by cases hx),λ_=>⟨_,rfl,_,by rw[aA];exact bZ.cell,?_⟩⟩;have b2:=Js aJ.ca (by show J.D.a7<=_;have:=A.a7;omega) λj o=>by show J.D.eI j=_;rw[A.ph.2,bz]
 rw[show((S.T.jt f2).bC J F).C.c=S.T.C.c from A.c]at b2;refine b2.use ?_;rintro _ aN ⟨b,R⟩;have c8:¬c9 J S.st:=(aJ.ca.inv.fc _ (.inr (.inr (.inl h.es)))).2;have ba:=bZ.ah R.ah c8;have bb:b.D.d=S.T.C.D.d:=R.d.trans A.d;have c_:b.c=S.T.C.c:=R.c.trans A.c;have da:b.D.r1=S.T.C.D.r1:=R.r.trans (congrArg (λp=>p.1.2.2.2.2) A.b5);have aO:∀q,c9 b q->c9 S.T.C q\/w.heap.size<=q:=λq a=>by
  have:=b0.size;have:=a6.size;rcases R.c1 q a with h1|h1
  .exact(A.c1 q h1).imp id λe=>by omega
  .exact .inr I
 have b4:af S.W w aN:=c0 b0 R.ah λq U a=>by
  have:=a6.size;exact h.nN (.inl ((A.c1 q a).resolve_right I))
 have b8:∀ (bd:b3),(∀j,2<=j->bd.view j=J.view j)->∀j cg,F j=some cg->j<S.T.n/\gW S.T.gen cg.leaf j (bd.view j) cg:=λbd db j cg Q=>by
  have o:j≠no:=λe=>by rw[a_]at Q;simp[e]at Q
  have h1:=h.t.eT j cg (by rw[←ad j o];exact Q);rw[db j h1.2.two,bY j o];exact h1
 have be:b7 aN ((S.T.jt f2).bC b F):=aJ.DE R.at_ R.ah R.c R.n (b8 b λj _=>R.view j) λj o=>by
  rw[R.b6.1]at o;rcases aJ.b6 j o with h1|h1
  .exact .inl h1
  .exact .inr λi=>by rw[R.b6.1];exact h1 i
 have cb:b.D.b6=S.T.C.D.b6:=R.b6.1.trans A.b6;have en:b.D.eI=λ_=> []:=R.b6.2.trans (A.ph.2.trans bz);have ep:b.D.a7<=S.T.C.D.a7+70:=by have h1:b.D.a7<=J.D.a7+64:=R.a7;have:=A.a7;omega
 rcases R.ib with ⟨rfl,dc,cc,dd⟩|⟨rfl,eq,dg⟩
 rotate_left
 .exfalso
  rcases dg with h1|h1
  .exact h1 (A.calm 64 (ac.1 _))
  .unfold bc.fZ at h1
   rw[show((S.T.jt f2).bC J F).C.D.ck.getD 3 0=S.T.C.D.ck.getD 3 0 from b1,ac.2]at h1
   cases h1
 have aP:∀j,b.D.fa j=[]:=λj=>by unfold bc.fa;rw[dc];rfl
 have dh:∀j,b.D.b5.getD j []=if j=no then eG no ⟨4,S.gen+1,iH f2 ((S.T.n+7)/8)⟩ else S.T.C.view j:=λj=>by
  have h1:=Jq R.at_ cc j;rw[yQ _ (λx hx=>(R.at_.raw.dev.wn x hx).1),if_pos (aP j)]at h1;rw[←h1,R.view];exact aH j
 have cd:∀j,S.T.g j=true->S.V j=S.T.C.view j:=λj o=>(h.view U o).symm;refine⟨0,rfl,λhx=>(by cases hx),λ_=>⟨_,rfl,_,ba.cell,?_⟩⟩;have ce:=Dr be;rw[show((S.T.jt f2).bC b F).bj=S.T.bj from rfl]at ce;refine ce.use ?_;rintro _ bf ⟨rfl,bg⟩;have bh:Ext bf bf.drew:=cA _;have bi:=(ba.ext bg).ext bh;have di:IntKind.wrap .u64 ((S.u.dv:Int)+1)=((S.u.dv+1:Nat):Int):=by rw[gz I I];omega
 refine⟨_,_,rfl,aX ⟨λ_=>False,_,rfl,id,_,by rw[aA];exact bi.cell,_,rfl,id,_,by rw[aA,aA];exact bi.cell,_,rfl,id,_,by rw[aA];exact bi.cell,?_⟩⟩;rw[di];obtain⟨G,Z⟩:∃G:eR,G=⟨S.T.root,S.T.aL,no,S.now,S.u.dv+1,S.keys⟩:=⟨_,rfl⟩;refine⟨G.c.toArray,λet=>by rw[Z];kernel_rfl,a8 (vs:=Cn.c) rfl λeu cf ch ev=>⟨ch,?_⟩⟩;obtain⟨ag,dj⟩:∃ag,ag=bf.drew.heap.size:=⟨_,rfl⟩;rw[←dj]at cf⊢;refine Cq cf rfl G λai dk dl ew=>aX ?_;have ex:=bg.size;have ez:=bh.size;have dm:Ext aN ai:=Ext.cu (Ext.trans bg (bh.trans ch)) dl I;have ci:Ext ai ai.drew:=cA _;have al:Ext aN ai.drew:=Ext.trans dm ci;have bk:=dk.ext ci;have aQ:=ba.ext al;have bm:=be.ext al;generalize eC:ai.drew=aR at bk aQ bm al⊢;refine⟨_,rfl,id,_,by rw[aA];exact aQ.cell,id,q1 bk ⟨_,rfl,id,_,by rw[aA];exact aQ.cell,?_⟩⟩;rw[a3];have dn:nD G:=by
  have h1:=h.t.num;have h2:=h.keys;rw[Z];exact⟨by show S.T.root<_;omega,by show S.T.aL<_;omega,by show no<_;omega,ap.1,by show S.u.dv+1<_;omega,by show S.keys<_;omega⟩
 have bn:b.D.n=S.T.n:=R.n.trans (A.n.trans h.t.n);have O:ec S.T.X aR b:=bm.ca;have cj:=ng O.raw.dev I dn (gen:=S.gen+1) I;rw[bb]at cj;refine cj.use ?_;rintro v bo ⟨aa,bp⟩;have eD:=al.size;have dp:∀q,c9 b q->q<ag:=λq a=>by have:=R.at_.raw.lt a;omega
 have dq:=bk.ah aa λhf=>by have:=dp ag (.inr (.inr hf));omega
 have ds:¬c9 b S.st:=(be.ca.inv.fc _ (.inr (.inr (.inl h.es)))).2;have co:=aQ.ah aa λhf=>ds (.inr (.inr hf));have du:af S.W w aR:=c0 b4 al λq _ a=>a.elim;have eE:=b4.size;have dw:af S.W w bo:=c0 du aa λq U a=>h.nN<| .inl ((aO q (.inr (.inr a))).resolve_right I)
 have main:∀ (N:bc),df bo N->N.d=b.D.d->kN N b.D->(∀i,2<=i->N.now i=b.D.now i)->(∀q,cn N q->cn b.D q\/aR.heap.size<=q)->(∀j,N.b6 j=true->S.T.g j=true)->
  b7 bo ((S.T.jt f2).bC {b with D:=N} F)/\∀q,c9 {b with D:=N} q->c9 S.T.C q\/w.heap.size<=q:=λN am dx cp dy cr dz=>by
  obtain⟨hW,eo⟩:=JH O am dx cp dy aa cr;refine⟨bm.DE hW (aa.mono λq _ a=>.inr (.inr a)) rfl cp.1 (b8 _ λj o=>(eo j o).trans (R.view j)) λj o=>.inl (dz j o),λq a=>?_⟩;rcases a with a|a|a
  .exact aO q (.inl a)
  .exact aO q (.inr (.inl a))
  .rcases cr q a with h1|h1
   .exact aO q (.inr (.inr h1))
   .exact .inr I
 have eF:¬b.D.ro:=λe=>aY λi=>by rw[←cb];exact e i
 have eH:∀j,b.D.b6 j=true->S.T.g j=true:=λj o=>by
  rw[cb]at o;exact(h.t.b6 j o).resolve_right aY
 have cs:S.T.C.D.quiet->∀k,b.D.calm k:=λa k=>R.calm k (A.calm _ (a.1 _));rcases bp with ⟨bq,rfl,am⟩|⟨bq,s,dA,bH,K,bp⟩
 .have:=(jR (k:=2) (m:=0) (.inr rfl) O.raw.dev.f4 (cs ac 1)).2
  rw[this]at bq;cases bq
 have eJ:∀j,bH.fa j=if j=(S.gen+1)%2 then [eG ((S.gen+1)%2) (jS G b.D.n (S.gen+1))] else []:=λj=>by
  rw[K,Cl,aP,aP];rfl
 have ct:G=⟨S.T.root,S.T.aL,no,S.now,S.u.dv+1,L.length⟩:=by rw[Z,h.keys]
 have dB:∀V:Nat->de,(∀j,V j=if j=(S.gen+1)%2 then eG ((S.gen+1)%2) (jS G b.D.n (S.gen+1)) else b.D.b5.getD j [])->lu V S.T.n (S.gen+1) G f2 F pages L:=λV gd=>by
  rw[ct];refine JK h a1 cO bF bB cU (λx hx=>ad x λe=>by
   have:=(h.f x).2 (.inl hx);rw[e,bE]at this;cases this) (by rw[gd,if_pos rfl,ct,bn]) (λj o=>?_) cd
  rw[gd,if_neg o,dh];by_cases e:j=no
  .rw[if_pos e,if_pos e]
  .rw[if_neg e,if_neg e]
   by_cases br:S.T.g j=true
   .rw[if_pos br,cd j br]
   .rw[if_neg br]
 have bs:∀q,cn bH q->cn b.D q\/aR.heap.size<=q:=by rw[K];exact wH dA
 have eK:∀i,2<=i->bH.now i=b.D.now i:=λi hi=>by rw[K,pc,if_neg I]
 have cv:bH.n=b.D.n:=by rw[K];rfl
 have dC:bH.d=b.D.d:=by rw[K];rfl
 have eL:bH.b5=b.D.b5:=by rw[K];rfl
 have eM:bH.a7=b.D.a7+1:=by rw[K];rfl
 have cw:S.T.C.D.quiet->bH.ck.getD 3 0= -1:=λa=>by
  rw[K];show(b.D.ck.set 2 _).getD 3 0=_;have aS:=O.raw.dev.f4;rw[fC (by rw[dr];omega),fp (by decide),←fC (d:=0),dd];rw[show((S.T.jt f2).bC J F).C.D.ck.getD 3 0=S.T.C.D.ck.getD 3 0 from b1,a.2];rfl
 rcases bp with ⟨aT,rfl,am⟩|⟨aT,rfl,am⟩
 .unfold bc.fZ at aT
  rw[cw ac]at aT;cases aT
 have dD:∀j,S.T.n<=j->b.D.b5.getD j []=[]:=λj o=>by
  rw[fN,nX (by have:b.D.b5.length=S.T.n:=bn;omega)];rfl
 have cx:∀j,b.D.now j=b.D.b5.getD j []:=λj=>by rw[yQ _ (λx hx=>(O.raw.dev.wn x hx).1),if_pos (aP j)]
 have eN:bH.n=S.T.n:=cv.trans bn;have dE:∀j,(bH.cF 3).i_.b5.getD j []=if j=(S.gen+1)%2 then eG ((S.gen+1)%2) (jS G b.D.n (S.gen+1)) else b.D.b5.getD j []:=λj=>by
  show((List.range bH.n).map bH.now).getD j []=_;have eO:16<=bH.n:=by have:16<=b.D.n:=O.raw.dev.b_;omega
  by_cases o:j<bH.n
  .rw[fC (by simp;exact o),List.getElem_map,List.getElem_range,K,pc,cx]
  .rw[fN,nX (by simp;omega),if_neg I,dD j I];rfl
 obtain⟨B,H⟩:∃B,B=(bH.cF 3).i_.jw (λ_=>false) λ_=> []:=⟨_,rfl⟩;have dF:∀j,B.fa j=[]:=λj=>by rw[H];rfl
 have cy:∀j,B.b5.getD j []=if j=(S.gen+1)%2 then eG ((S.gen+1)%2) (jS G b.D.n (S.gen+1)) else b.D.b5.getD j []:=λj=>by rw[H];exact dE j
 have dG:B.n=b.D.n:=by rw[H];exact(sW (bH.cF 3)).trans cv
 have bt:B.d=S.T.C.D.d:=by rw[H];exact dC.trans bb
 obtain⟨cz,dH⟩:=main B (by rw[H];exact am.jw _ _) (bt.trans bb.symm) ⟨dG,λj o=>(by rw[H]at o;cases o),λj o=>(by rw[H]at o;cases o)⟩ (λi hi=>by
  have h1:B.now i=B.b5.getD i []:=by rw[H];rfl
  rw[h1,cy,if_neg I,cx]) (λq a=>by
   rw[H]at a;rcases a with e|e|e|⟨x,hx,e⟩
   .exact bs q (.inl e)
   .exact bs q (.inr (.inl e))
   .exact bs q (.inr (.inr (.inl e)))
   .cases hx) λj o=>(by rw[H]at o;cases o)
 refine⟨0,rfl,λhx=>(by cases hx),λ_=>⟨_,rfl,_,by rw[aA];exact co.cell,(H5 cz.s).use ?_⟩⟩;rintro _ an ⟨rfl,s2,dI,ao,cB⟩;have ab:=dB (λj=>B.b5.getD j []) cy;have dJ:f2 0=true/\f2 1=true:=⟨(ab.g 0).2 (.inr (.inl (by decide))),(ab.g 1).2 (.inr (.inl (by decide)))⟩;obtain⟨dK,eP⟩:=cz.space dI ao cB (λj o=>by
  have o:B.b6 j=true:=o;rw[H]at o;cases o) dJ
 have eQ:=ao.size;have dL:=co.ah ao (h.t.dU _ h.es).2.1;have dM:=dq.ah ao λhf=>by
  have h1:=h.t.lt (q:=ag) (.inr (.inr (.inl hf)));omega
 have dN:=dK.jw (s:=f2) (z:=λ_=> []) (λf hf j dO _ _=>by
  have h1:=cc f hf;unfold Fr.g5 at h1;rw[dO]at h1;simpa using h1) (λj _=>dF j) λj o=>.inl o
 obtain⟨fA,y⟩:∃fA:aK,fA=(((S.T.jt f2).bC {b with D:=B} F).zl f2 f2 S.T.s1 s2).bC {b with D:=B.jw f2 λ_=> []} F:=⟨_,rfl⟩;have dP:b7 an fA:=by rw[y];exact dN
 have aU:Ext an an.drew:=cA _;have cC:Var an.drew S.st (ja S.T.bj S.T.C.D.d S.T.C.c S.T.sb S.l S.u S.gen S.now S.first S.pending S.keys S.failed) 146:=dL.ext aU;have dQ:=dM.ext aU;have dR:=dP.ext aU;have aW:fA.E=S.T.E:=by rw[y];rfl
 refine⟨rfl,aX ⟨λ_=>False,id,q1 dQ ⟨_,rfl,id,_,by rw[aA];exact cC.cell,_,rfl,?_⟩⟩⟩;rw[aA,cT,a3];refine JM cC G λcD cE cG=>?_;have dS:=dR.jv (by rw[aW];exact h.es) cG;obtain⟨b9,cq⟩:=eB cE (i:=13) (by simp[ja]);have cH:=eA cE (i:=13) (.int .u64 ((S.gen+1:Nat):Int));have dT:=dZ cD S.st 13 (.int .u64 ((S.gen+1:Nat):Int));refine⟨_,rfl,by rw[aA];exact b9,by rw[aA];exact cq,aX ?_⟩;rw[aA,cT];obtain⟨dW,dX⟩:=eB cH (i:=16) (by simp[ja]);have cI:=eA cH (i:=16) (0:Int);have bv:=dT.trans (dZ _ S.st 16 (0:Int));refine⟨_,rfl,by rw[aA];exact dW,by rw[aA];exact dX,aX ?_⟩;rw[aA,cT];generalize (cD.setCell ⟨S.st,13,none⟩ (.int .u64 ((S.gen+1:Nat):Int))).setCell ⟨S.st,16,none⟩ (0:Int)=cJ at cI bv⊢;have dY:=dS.jv (by rw[aW];exact h.es) bv;have bw:Ext cJ cJ.drew:=cA _;have bx:=cI.ext bw;have d0:=dY.ext bw;refine aX ⟨_,rfl,id,_,bx.cell,_,rfl,id,_,by rw[aA];exact bx.cell,?_⟩;have d1:IntKind.wrap .u64 (((S.gen+1:Nat):Int)+1)=((S.gen+2:Nat):Int):=by rw[gz I I];omega
 rw[d1];have eU:fA.gen=S.gen+1:=by rw[y];exact cQ
 have cK:fA.bj=S.T.bj:=by rw[y];rfl
 have cL:=JJ d0 (gen:=S.gen+2) I I;rw[cK]at cL;refine cL.use ?_;rintro _ d2 ⟨rfl,d3,cM⟩;have d4:=bx.ah cM (h.t.dU _ h.es).1;have d5:∀q,(fA.mI (S.gen+2)).M q->S.T.M q\/w.heap.size<=q:=λq a=>by
  rw[y]at a;rcases a with a|a|a|a
  .exact(dH q a).imp .inl id
  .exact .inl (.inr (.inl a))
  .rcases cB q a with h1|h1
   .exact .inl (.inr (.inr (.inl h1)))
   .have:=aa.size;exact .inr I
  .exact .inl (.inr (.inr (.inr a)))
 refine⟨rfl,⟨S.st,fA.mI (S.gen+2),S.l,G,S.gen+1,S.now,S.first,0,S.keys,S.failed⟩,⟨rfl,?_,by rw[y];rfl,rfl,?_,λa=>?_,?_,d5,aW,by rw[y];rfl,by rw[y];exact(show B.r1=bH.r1 by rw[H];rfl).trans ((show bH.r1=b.D.r1 by rw[K];rfl).trans da)⟩,rfl,.inl ⟨rfl,⟨⟨?_,d3,?_,?_,rfl,?_,?_⟩,?_,h.cg,?_,?_,h.kv,h.keys,cP _,λ_=>⟨?_,?_,?_⟩,λhf=>?_⟩,U,rfl,by rw[Z],by rw[Z],rfl⟩⟩
 .rw[y];exact bt
 .rw[y];show B.a7<=_;rw[H];show bH.a7<=_;omega
 .rw[y]
  show bc.quiet (B.jw _ _);rw[H];refine⟨λk=>sX bH ?_,?_⟩
  .have aS:=(jR (k:=2) (m:=k) (.inr rfl) O.raw.dev.f4 (cs a (k+1))).1
   rw[K];exact aS
  .show(bH.ck.set 3 (gD (bH.ck.getD 3 0)).2).getD 3 0= -1
   have aS:=O.raw.dev.f4;have eV:bH.ck.length=4:=by rw[K];show(b.D.ck.set 2 _).length=4;rw[dr];exact aS
   rw[cw a,fC (by rw[dr];omega),ir];rfl
 .have hs:∀q,q=S.st->S.W q:=λq e=>by rw[e];exact h.DD
  have aw:af S.W w an:=c0 dw ao λq _ a=>h.nN (.inr (.inr (.inl a)));have ay:=c0 aw aU λq _ a=>a.elim;have d6:=c0 ay cG λq _ a=>hs q a;have d7:=c0 d6 bv λq _ a=>hs q a;have d8:=c0 d7 bw λq _ a=>a.elim;exact c0 d8 cM λq _ a=>h.nN (.inr (.inl a))
 .show Var d2 S.st (ja fA.bj fA.C.D.d fA.C.c fA.sb _ _ _ _ _ _ _ _) _
  rw[cK,show fA.C.D.d=S.T.C.D.d by rw[y];exact bt,show fA.C.c=S.T.C.c by rw[y];exact c_,show fA.sb=S.T.sb by rw[y];rfl];exact d4
 .show fA.E S.st
  rw[aW];exact h.es
 .rw[y];exact ab
 .refine⟨ap.1,ap.2.1,?_,by show S.gen+1+2<_;omega,ap.2.2.2.2⟩
  show G.dv+1<=S.gen+1;rw[Z];show S.u.dv+1+1<=_;omega
 .intro j o
  have o:fA.g j=true:=o;show fA.C.D.b6 j=true;rw[y]at o⊢;exact o
 .refine h.ok.agree (by rw[y];rfl) (by rw[y];rfl) λx hx=>?_
  rw[y];exact(ad x λe=>by
   have:=(h.f x).2 (.inl hx);rw[e,bE]at this;cases this).symm
 .intro j
  have:(fA.mI (S.gen+2)).f j=f2 j:=by rw[y];rfl
  rw[this];exact ab.g j
 .intro x hx
  exact⟨(ab.two x hx).1,(ab.two x hx).2.1⟩
 .intro e
  have h1:=e S.T.n;have h2:(fA.mI (S.gen+2)).C.D.b6 S.T.n=f2 S.T.n:=by rw[y];rfl
  rw[h2,bM.pf S.T.n (bl _)]at h1;cases h1
 .rw[y];rfl
 .have d9:f2 S.u.map=false:=by rw[a1];unfold dt;rw[if_pos rfl]
  have h1:=wx (s:=λi=>f2 i||f2 i) (t:=dt (λi=>f2 i||f2 i) S.u.map true) (k:=S.u.map) (by simp[d9]) (by simp[dt]) (λi hi=>by simp[dt,hi]) (n:=S.T.n) bD.2.2.2.1;have h2:=nG (dt (λi=>f2 i||f2 i) S.u.map true) S.T.n;have eW:cl (fA.mI (S.gen+2))=S.T.n-eS (λi=>f2 i||f2 i) S.T.n:=by rw[y];rfl
  show 1<=cl (fA.mI (S.gen+2));omega
 .have hf:S.failed=true:=hf
  rw[U]at hf;cases hf
end
theorem JO(a b:Int)(w:J)(T:TypeId)(k:IntKind):Sem.run aj (Builtin.max_ #[T,T] T #[.int k a,.int k b]) w=.ok (.int k (max a b)) w:=by
 simp only[Builtin.max_];unfold Builtin.max2;simp;split<;>omega
theorem eg.trans{S aD b:cc}{w w' c:J}{k l:Nat}(h1:eg k S aD w w')(h2:eg l aD b w' c):eg (k+l) S b w c:=
 ⟨h2.st.trans h1.st,h2.d.trans h1.d,h2.n.trans h1.n,h2.l.trans h1.l,by have:=h1.a7;have:=h2.a7;omega,λh=>h2.q (h1.q h),c0 h1.ah h2.ah λq f a=>h1.back f a,λq a=>by
  have:=h1.ah.size
  rcases h2.c1 q a with e|e
  .exact h1.c1 q e
  .exact .inr I,h2.E.trans h1.E,h2.G.trans h1.G,h2.r.trans h1.r⟩
theorem eg.mono{S aD:cc}{w w':J}{k l:Nat}(h:eg k S aD w w')(a:k<=l):eg l S aD w w':={h with a7:=by have:=h.a7;omega}
theorem eg.ext{w w':J}(S:cc)(h:Ext w w'):eg 0 S S w w':=⟨rfl,rfl,rfl,rfl,bl _,λh=>h,h.mono λ_ _ h=>h.elim,λq a=>.inl a,rfl,rfl,rfl⟩
section
variable {w w' w1:J}{T:aK}{S aD kn:cc}{pages aM:O Nat}{L bQ:O aN}
theorem jW.ext(h:jW w S aM bQ)(hx:Ext w w'):jW w' S aM bQ:=⟨h.v.ext hx,h.t.ext hx,h.es,h.jX,h.gen,h.num,h.b6⟩
theorem dV.ext(h:dV w S pages L aM bQ)(hx:Ext w w'):dV w' S pages L aM bQ:=⟨h.tojW.ext hx,h.ok,h.cg,h.f,h.two,h.kv,h.keys,h.px,h.live,h.dead⟩
theorem dV.jv{kP:Nat}(h:dV w S pages L aM bQ)(a:S.T.E kP)(hs:kP≠S.st)(hc:af (λq=>q=kP) w w'):dV w' S pages L aM bQ:=
 ⟨⟨h.v.ah hc λe=>hs e.symm,h.t.jv a hc,h.es,h.jX,h.gen,h.num,h.b6⟩,h.ok,h.cg,h.f,h.two,h.kv,h.keys,h.px,h.live,h.dead⟩
theorem JP(h:dV w S pages L aM bQ):aI aj 48 #[.pointer (some S.st)] w (λv w'=>v=S.keys/\w=w'):=by
 refine okF (ae.xX (some S.st)) ax.xX func48 ?_;exact⟨λa=>(by cases a),λ_=>⟨_,rfl,_,by rw[aA];exact h.v.cell,rfl,rfl⟩⟩
def ih(S:cc):Nat:=cl S.T-2*S.T.aL-4
theorem DH(h:dV w S pages L aM bQ):aI aj 66 #[.pointer (some S.st)] w (λv w'=>v=.int .i64 (ih S:Nat)/\Ext w w'):=by
 refine okF (ae.uK (some S.st)) ax.uK func66 ?_;delta ae.uK gB bX aq;refine⟨_,rfl,_,h.v.cell,(Dr h.t).use ?_⟩;rintro _ e ⟨rfl,a⟩;refine⟨_,_,rfl,_,rfl,_,by rw[aA];exact(h.v.ext a).cell,(yZ (h.t.ext a).s).use ?_⟩;rintro _ b ⟨rfl,c⟩;have j:=h.t.s.bu;have k:=h.t.num.2.1;have l:=nG (λi=>S.T.f i||S.T.g i) S.T.n;have d:(S.T.n:Int)-eS (λi=>S.T.f i||S.T.g i) S.T.n=((cl S.T:Nat):Int):=by unfold cl;omega
 have m:cl S.T<=S.T.n:=Nat.sub_le _ _;rw[d,br (n:=2*(S.T.aL:Int)) I I];refine⟨_,rfl,_,b,JO _ _ b _ _,?_,Ext.trans a c⟩;rw[br (n:=((cl S.T:Nat):Int)-2*(S.T.aL:Int)) I I,br I I];unfold ih
 congr 1
 omega
end
def kU(c:Prop)(S aD:cc)(pages:O Nat)(L:O aN)(aM:O Nat)(bQ:O aN)(v:aa)(w':J):Prop:=
 (v=.int .i64 0/\c/\dV w' aD pages L pages L/\aD.failed=false/\aD.gen=S.gen+1/\aD.u.clock=S.now/\aD.u.dv=S.u.dv+1/\aD.pending=0)\/
 (v=.int .i64 3/\¬S.T.C.D.quiet/\dV w' aD aM bQ aM bQ/\aD.failed=true/\aD.u=S.u/\aD.gen=S.gen/\(∀j,S.T.g j=true->aD.V j=S.V j)/\((∀j,S.T.g j=true->aD.T.C.D.eI j=[])\/(c/\DF aD S.gen S.T.g pages L S.now (S.u.dv+1))))
theorem zx.x{c:Prop}{S:cc}{pages aM:O Nat}{L bQ:O aN}{w w':J}{v:aa}(h:zx S pages L aM bQ w v w')(hc:c):∃aD,eg 100 S aD w w'/\aD.now=S.now/\kU c S aD pages L aM bQ v w':=by
 obtain⟨aD,h1,h2,a⟩:=h;refine⟨aD,h1,h2,?_⟩;rcases a with ⟨a1,a2,a3⟩|⟨a1,a2,a3,a4,a5,dK,da,ez⟩
 .exact .inl ⟨a1,hc,a2,a3⟩
 .exact .inr ⟨a1,a2,a3,a4,a5,dK,da,.inr ⟨hc,ez⟩⟩
theorem kU.val{c:Prop}{S aD:cc}{pages aM:O Nat}{L bQ:O aN}{w':J}{v:aa}(h:kU c S aD pages L aM bQ v w'):∃n:Int,v=n:=by
 rcases h with ⟨a,_⟩|⟨a,_⟩<;>exact⟨_,a⟩
def mJ(S aD:cc)(pages:O Nat)(L:O aN)(aM:O Nat)(bQ:O aN)(v:aa)(w':J):Prop:=
 (v=.int .i64 0/\S.pending+1<S.l.batch/\dV w' aD pages L aM bQ/\aD.failed=false/\aD.gen=S.gen/\aD.u=S.u/\aD.pending=S.pending+1/\aD.first=(if S.pending=0 then S.now else S.first)/\∀j,S.T.g j=true->aD.V j=S.V j)\/
 kU (S.l.batch<=S.pending+1) S aD pages L aM bQ v w'
section
variable {w w' w1:J}{T:aK}{S aD kn:cc}{pages aM:O Nat}{L bQ:O aN}
theorem JQ{d:Int}(b:jW w S aM bQ)(t:S.failed=false)(ok:gL S.T pages L)(cg:pages.Nodup)(f:∀no,S.T.f no=true↔no∈pages\/no<2\/no=S.u.map)(two:∀x∈pages,2<=x/\x≠S.u.map)(kv:∀p∈L,cz p.1/\p.2.length<=24)
 (X:¬S.T.C.D.ro/\S.T.C.D.eI=(λ_=> [])/\1<=cl S.T) (Y:(S.keys:Int)+d=L.length) (ap:S.pending<1000) (cU:L.length<4096) (ar:S.keys<100000) (Z:S.T.C.D.a7<=800000000) (aa:S.gen<=1000000000) (ab:S.T.C.D.quiet):
 aI aj 68 #[.pointer (some S.st),d] w (λv w'=>∃aD,eg 100 S aD w w'/\aD.now=S.now/\mJ S aD pages L aM bQ v w'):=by
 refine okF (ae.uM (some S.st) d) ax.uM func68 ?_;(delta ae.uM aG st aq ak cm bX;dsimp only);have N:=b.num;have au:S.T.M S.st:=.inr (.inr (.inr (.inl b.es)));obtain⟨aw,ay,g,y,z⟩:=b.set (i:=17) (x:=L.length) (by decide);refine⟨_,rfl,_,by rw[aA];exact b.v.cell,_,rfl,by rw[aA];exact aw,by rw[aA];exact ay,aX ?_⟩;rw[aA,cT,Y,br (n:=(L.length:Int)) I I];generalize av:w.setCell ⟨S.st,17,none⟩ L.length=ac at g y z⊢;obtain⟨m,s⟩:∃m,m=if S.pending=0 then S.now else S.first:=⟨_,rfl⟩
 refine k6 (λk=>Var k S.st (ja S.T.bj S.T.C.D.d S.T.C.c S.T.sb S.l S.u S.gen S.now m S.pending L.length S.failed) 146/\b7 k S.T/\af (λq=>q=S.st) w k) (λaz O=>?_) ?_
 .refine⟨_,rfl,_,by rw[aA];exact g.cell,λA=>?_,λA=>O _ ⟨?_,y,z⟩⟩
  .have h0:S.pending=0:=by
    have:(S.pending:Int)=0:=by simpa using A
    omega
   obtain⟨B,E⟩:=eB g (i:=15) (by simp[cc.cells,ja]);have ad:=eA g (i:=15) (.int .u64 (S.now:Int));have P:=dZ ac S.st 15 (.int .u64 (S.now:Int));refine⟨_,rfl,_,by rw[aA];exact g.cell,_,rfl,by rw[aA];exact B,by rw[aA];exact E,aX (O _ ⟨?_,?_,?_⟩)⟩
   .rw[aA,cT,s,if_pos h0];exact ad
   .rw[aA,cT];exact y.jv b.es P
   .rw[aA,cT];exact z.trans P
  .have h0:¬S.pending=0:=by
    have:¬(S.pending:Int)=0:=by simpa using A
    omega
   rw[s,if_neg h0];exact g
 rintro k ⟨F,ag,ah⟩;obtain⟨B,E⟩:=eB F (i:=16) (by simp[ja]);have Q:=eA F (i:=16) (.int .i64 ((S.pending+1:Nat):Int));have G:=dZ k S.st 16 (.int .i64 ((S.pending+1:Nat):Int));have ai:IntKind.wrap .i64 ((S.pending:Int)+1)=((S.pending+1:Nat):Int):=by rw[br I I];omega
 refine⟨_,rfl,_,by rw[aA];exact F.cell,_,rfl,by rw[aA];exact B,by rw[aA];exact E,aX ?_⟩;rw[aA,cT,ai];have R:=ag.jv b.es G;generalize aB:k.setCell ⟨S.st,16,none⟩ (.int .i64 ((S.pending+1:Nat):Int))=o at Q G R⊢;have H:Ext o o.drew:=cA _;have J:=Q.ext H;have al:=R.ext H;have am:af (λq=>q=S.st) w o.drew:=c0 (ah.trans G) H λq _ K=>K.elim;obtain⟨dG,a⟩:∃dG:cc,dG={S with first:=m,pending:=S.pending+1,keys:=L.length}:=⟨_,rfl⟩;have an:m<=S.now:=by rw[s];split<;>omega
 have U:dV o.drew dG pages L aM bQ:=by
  rw[a];exact⟨⟨J,al,b.es,b.jX,b.gen,⟨N.1,an,N.2.2⟩,b.b6⟩,ok,cg,f,two,kv,rfl,by show S.pending+1<=1000;omega,λ_=>X,λhf=>by have hf:S.failed=true:=hf;rw[t]at hf;cases hf⟩
 have V:eg 0 S dG w o.drew:=by
  rw[a];exact⟨rfl,rfl,rfl,rfl,bl _,λh=>h,am.mono λq _ e=>by rw[e];exact b.DD,λq K=>.inl K,rfl,rfl,rfl⟩
 refine aX ⟨_,rfl,id,_,by rw[aA];exact J.cell,_,rfl,id,_,by rw[aA,aA];exact J.cell,λr=>?_,λr=>?_⟩
 .have r:((S.pending+1:Nat):Int)>=(S.l.batch:Int):=cf r
  have W:=JN U (by rw[a];exact t) cU (by rw[a];exact Z) (by rw[a];exact aa) (by rw[a];exact ab);rw[show dG.st=S.st by rw[a]]at W;refine W.use ?_;intro v aC ao;obtain⟨aD,r1,aG,cm⟩:=ao.x (c:=S.l.batch<=S.pending+1) I;obtain⟨n,rfl⟩:=cm.val;refine⟨n,rfl,aD,(V.trans r1).mono I,by rw[aG,a],.inr ?_⟩;rw[a]at cm;exact cm
 .have r:¬((S.pending+1:Nat):Int)>=(S.l.batch:Int):=cC r
  exact⟨dG,V.mono I,by rw[a],.inl ⟨rfl,I,U,by rw[a];exact t,by rw[a],by rw[a],by rw[a],by rw[a];exact s,λj _=>by rw[a];rfl⟩⟩
end
section
variable {w w' w1:J}{T au:aK}{S aD kn:cc}{pages aM:O Nat}{L bQ:O aN}{k:Nat}
def cc.cV(S:cc)(au:aK):cc:={S with T:=au}
theorem jW.to(h:jW w S aM bQ)(ht:b7 w' au)(a:bS S.T au w w' k)(f:au.E=S.T.E)(l:au.G=S.T.G)(o:∀no,S.T.g no=true->au.P no=S.T.P no):
 jW w' (S.cV au) aM bQ/\eg k S (S.cV au) w w'/\(S.cV au).V=S.V:=by
 have r:au.C.D.b5=S.T.C.D.b5:=congrArg (λp=>p.1.1) a.b5;have s:au.C.D.ck.getD 3 0=S.T.C.D.ck.getD 3 0:=congrArg Prod.snd a.b5;have i:(S.cV au).V=S.V:=by
  funext j;show au.C.D.b5.getD j []=S.T.C.D.b5.getD j [];rw[r]
 refine⟨⟨?_,ht,by show au.E S.st;rw[f];exact h.es,?_,a.gen.trans h.gen,h.num,λj b=>?_⟩,⟨rfl,a.d,a.n,rfl,a.a7,λe=>⟨λm=>a.calm m (e.1 _),s.trans e.2⟩,a.ah.mono λq _ e=>h.nN e,a.c1,f,l,congrArg (λp=>p.1.2.2.2.2) a.b5⟩,i⟩
 .show Var w' S.st (ja au.bj au.C.D.d au.C.c au.sb _ _ _ _ _ _ _ _) _
  rw[a.bj,a.d,a.c,a.sb];exact h.v.ah a.ah (h.t.kL h.es)
 .show lu _ au.n _ _ au.g au.P _ _
  rw[i,a.n,a.g];exact h.jX.agree (λ_ _=>rfl) λx hx=>(o x ((h.jX.g x).2 (.inl hx))).symm
 .have b:au.g j=true:=b
  rw[a.g]at b;show au.C.D.b6 j=true;rw[a.b6.1];exact h.b6 j b
theorem bS.ro(h:bS T au w w' k):au.C.D.ro↔T.C.D.ro:=by unfold bc.ro;rw[h.b6.1]
theorem dV.to(h:dV w S pages L aM bQ)(ht:b7 w' au)(a:bS S.T au w w' k)(c:au.E=S.T.E)(d:au.G=S.T.G)(b:iZ S.T au):
 dV w' (S.cV au) pages L aM bQ/\eg k S (S.cV au) w w'/\(S.cV au).V=S.V:=by
 obtain⟨h1,h2,i⟩:=h.tojW.to ht a c d λno j=>(b.ew no (by rw[j,Bool.or_true])).1;have l:cl au=cl S.T:=by unfold cl;rw[a.n,b.f,a.g]
 refine⟨⟨h1,b.ok h.ok λx hx=>(h.f x).2 (.inl hx),h.cg,λno=>by show au.f no=true↔_;rw[b.f];exact h.f no,h.two,h.kv,h.keys,h.px,λhf=>?_,λhf=>?_⟩,h2,i⟩
 .obtain⟨a1,a2,a3⟩:=h.live hf
  exact⟨λe=>a1 (a.ro.1 e),a.b6.2.trans a2,by show 1<=cl au;rw[l];exact a3⟩
 .obtain⟨a1,a2⟩:=h.dead hf
  exact⟨a.ro.2 a1,a2⟩
theorem JR{tk:ad}{key:Key}(h:dV w S pages L aM bQ)(b:S.T.C.D.a7<=800000000)(c:Src 1 w tk (az key))(d:∀q,aB tk q->q<w.heap.size/\¬S.T.M q):
 aI aj 50 #[.pointer (some S.st),tk] w (λv w'=>∃aJ,dV w' (S.cV (S.T.bC aJ S.T.P)) pages L aM bQ/\eg 30 S (S.cV (S.T.bC aJ S.T.P)) w w'/\zh S.T L key w v w'):=by
 refine okF (ae.uD (some S.st) tk) ax.uD func50 ?_;delta ae.uD ak lI;refine⟨λe=>(by cases e),λ_=>⟨_,rfl,_,h.v.cell,(zi h.t h.ok b c d).use ?_⟩⟩;intro v w' a;have f:=a;obtain⟨aJ,h1,h2,g,i⟩:=a;obtain⟨a1,a2,_⟩:=h.to h1 h2 rfl rfl (.bC g);have fin:(λv w'=>∃aJ,dV w' (S.cV (S.T.bC aJ S.T.P)) pages L aM bQ/\eg 30 S (S.cV (S.T.bC aJ S.T.P)) w w'/\zh S.T L key w v w') v w':=⟨aJ,a1,a2,f⟩;rcases i with ⟨rfl,_⟩|⟨t,x,rfl,_⟩|⟨rfl,_⟩
 .exact⟨⟨none,0,0⟩,_,_,rfl,fin⟩
 .exact⟨t,_,_,rfl,fin⟩
 .exact⟨⟨none,0,0⟩,_,_,rfl,fin⟩
end
theorem zy(k v:Key):∀L:O aN,(gn L k v).length=(eQ L k).length+1
 | []=>rfl
 |p::L=>by
  have b:=zy k v L
  unfold gn eQ at b⊢
  simp only[ct,f_,jF]at b⊢
  by_cases h1:bt p.1 k
  .have h2:¬bt k p.1:=jO h1
   have a:p.1≠k:=λe=>by rw[e]at h1;exact jO h1 h1
   rw[if_pos (dI h1),if_neg (by simpa using h2),if_pos (dI a)]
   simp only[f_];omega
  .by_cases h2:bt k p.1
   .have a:p.1≠k:=λe=>h1 (by rw[e]at h2;exact absurd h2 (λh=>jO h h))
    rw[if_neg (by simpa using h1),if_pos (dI h2),if_pos (dI a)]
    simp only[f_];omega
   .have a:p.1=k:=by
     rcases vE p.1 k with h|h|h
     .exact absurd h h1
     .exact h
     .exact absurd h h2
    rw[if_neg (by simpa using h1),if_neg (by simpa using h2),if_neg (by simpa using a)];omega
theorem wJ{k:Key}:∀ {L:O aN},g1 L->L.length=(eQ L k).length+(if eZ L k=none then 0 else 1)
 | [],_=>rfl
 |p::L,h=>by
  have h0:=jD.1 h
  have d:=wJ (k:=k) h0.2
  by_cases e:p.1=k
  .have h1:∀q∈L,q.1≠k:=λq b c=>by
    have:=h0.1 q b
    rw[e,c]at this
    exact jO this this
   have h2:eQ (p::L) k=L:=by
    have:eQ (p::L) k=eQ L k:=by unfold eQ;rw[jF];simp[e]
    rw[this,sy h1]
   have a:eZ (p::L) k≠none:=by unfold eZ;simp[e]
   rw[h2,if_neg a];rfl
  .have h2:(eQ (p::L) k).length=(eQ L k).length+1:=by unfold eQ;rw[jF];simp[e]
   have a:eZ (p::L) k=eZ L k:=by unfold eZ;simp[e]
   rw[h2,a,f_];omega
section
variable {w w' w1:J}{T au:aK}{S aD dn:cc}{pages aM:O Nat}{L bQ:O aN}{k:Nat}
structure l0(S dn:cc):Prop where
 u:dn.u=S.u
 gen:dn.gen=S.gen
 now:dn.now=S.now
 first:dn.first=S.first
 pending:dn.pending=S.pending
 l:dn.l=S.l
 g:dn.T.g=S.T.g
 V:dn.V=S.V
theorem kU.back{c:Prop}{v:aa}(h:kU c dn aD pages L aM bQ v w')(e:l0 S dn)(d:eg k S dn w w1):kU c S aD pages L aM bQ v w':=by
 unfold kU at h⊢;rw[e.u,e.gen,e.now,e.g,e.V]at h;exact h.imp id λ⟨a,b,c⟩=>⟨a,λf=>b (d.q f),c⟩
theorem mJ.back{v:aa}(h:mJ dn aD pages L aM bQ v w')(e:l0 S dn)(a:eg k S dn w w1):mJ S aD pages L aM bQ v w':=by
 unfold mJ at h⊢;have:=λh=>kU.back (pages:=pages) (L:=L) (aM:=aM) (bQ:=bQ) (c:=S.l.batch<=S.pending+1) (v:=v) (aD:=aD) (w':=w') h e a;rw[e.pending,e.l,e.gen,e.u,e.now,e.first,e.g,e.V]at h;exact h.imp id this
theorem dV.DI{bY:aK}{dM:O aN}{d:Int}(h:dV w S pages L aM bQ)(hf:S.failed=false)(m:b7 w' bY)(b:bS S.T bY w w' k)(o:bY.E=S.T.E)(r:bY.G=S.T.G)(s:Dh S.T bY pages dM)(X:2*S.T.aL+5<=cl S.T)(t:∀p∈dM,cz p.1/\p.2.length<=24)(hd:(S.keys:Int)+d=dM.length)(cU:dM.length<4096)(Y:S.keys<4096)(y:S.pending<1000)(Z:S.T.C.D.a7+k<=800000000)(z:S.gen<=1000000000)(A:S.T.C.D.quiet):
 aI aj 68 #[.pointer (some S.st),d] w' (λv i=>(∃n:Int,v=n)/\∃aD dN,eg (k+100) S aD w i/\aD.now=S.now/\mJ S aD dN dM aM bQ v i):=by
 obtain⟨⟨dN,aa,B,ej,F,H⟩,I⟩:=s;obtain⟨J,l,K⟩:=h.tojW.to m b o r λno M=>(I no M).1;have N:l0 S (S.cV bY):=⟨rfl,rfl,rfl,rfl,rfl,rfl,b.g,K⟩;obtain⟨P,Q,_⟩:=h.live hf;have R:∀j,j<2\/j=S.u.map->j∉pages:=λj c U=>by
  have:=h.two j U;rcases c with c|c
  .omega
  .exact this.2 c
 refine(JQ (d:=d) J hf B ej (λno=>(H no).trans ?_) (λx hx=>?_) t ⟨λe=>P (b.ro.1 e),b.b6.2.trans Q,by show 1<=cl bY;omega⟩ hd y cU (by show S.keys<_;omega) (by have:=b.a7;show bY.C.D.a7<=_;omega) z (l.q A)).mono ?_
 .rw[h.f no]
  constructor
  .rintro(h1|⟨h1|h1,h2⟩)
   .exact .inl h1
   .exact absurd h1 h2
   .exact .inr h1
  .rintro(h1|h1)
   .exact .inl h1
   .exact .inr ⟨.inr h1,R no h1⟩
 .rcases F x hx with h1|h1
  .exact h.two x h1
  .have h2:S.T.f x=false:=by cases ab:S.T.f x<;>simp_all
   refine⟨Nat.le_of_not_lt λV=>?_,λW=>?_⟩
   .rw[(h.f x).2 (.inr (.inl V))]at h2;cases h2
   .rw[(h.f x).2 (.inr (.inr W))]at h2;cases h2
 .rintro v i ⟨aD,r1,aG,cm⟩
  refine⟨?_,aD,dN,l.trans r1,aG,cm.back N l⟩;rcases cm with ⟨a,_⟩|a
  .exact⟨0,a⟩
  .exact a.val
theorem qi(w:J)(s:ad):aI aj 63 #[s] w (λv w'=>v=.bool (decide (1<=s.len/\s.len<=24))/\w=w'):=by
 refine okF (ae.qi s) ax.qi func63 ?_;refine⟨?_,rfl⟩
 congr 1
 rw[fv,c5,cp,cp,cp];omega
theorem JS{tk cQ:ad}{key val:Key}(h:dV w S pages L aM bQ)(cU:L.length<4000)(y:S.pending<1000)(aO:S.T.C.D.a7<=700000000)(W:S.gen<=1000000000)(z:S.T.C.D.quiet)
 (A:Src 1 w tk (az key)) (o:∀q,aB tk q->q<w.heap.size/\¬S.T.M q) (G:Src 1 w cQ (az val)) (H:∀q,aB cQ q->q<w.heap.size/\¬S.T.M q):
 aI aj 27 #[.pointer (some S.st),tk,cQ] w (λv w'=>(v=.int .i64 1/\¬(cz key/\val.length<=24)/\w=w')\/((cz key/\val.length<=24)/\
  ((S.failed=true/\v=.int .i64 8/\w=w')\/(S.failed=false/\∃aD,eg 300 S aD w w'/\aD.now=S.now/\
    ((v=.int .i64 2/\ih S=0/\dV w' S pages L aM bQ/\aD=S)\/(ih S≠0/\∃dN,mJ S aD dN (gn L key val) aM bQ v w')))))):=by
 have X:tk.len=key.length:=by have:=A.len;rw[c7]at this;omega
 have aP:cQ.len=val.length:=by have:=G.len;rw[c7]at this;omega
 have aQ:=h.t.s.bu;refine okF (ae.uA (some S.st) tk cQ) ax.uA func27 ?_;(delta ae.uA ak b8 aT bX lI;dsimp only);refine cw (λb w'=>(b=false↔cz key)/\w=w') (λq a=>⟨λr=>(by cases r),λ_=>(qi w tk).use ?_⟩) ?_
 .rintro _ _ ⟨rfl,rfl⟩
  refine⟨_,rfl,a _ _ ⟨?_,rfl⟩⟩;unfold cz;rw[X,l9,cp]
 rintro b _ ⟨r,rfl⟩;refine⟨λh1=>.inl ⟨rfl,λhg=>?_,rfl⟩,λh1=>?_⟩
 .rcases Bool.or_eq_true_iff.1 h1 with h2|h2
  .rw[r.2 hg.1]at h2;cases h2
  .have:=cf h2;have:=hg.2;omega
 have hg:cz key/\val.length<=24:=by
  have h2:=rh.1 h1;have J:=cC h2.2;exact⟨r.1 h2.1,I⟩
 refine⟨_,rfl,S.failed,by rw[aA];exact h.v.cell,λhf=>.inr ⟨hg,.inl ⟨hf,rfl,rfl⟩⟩,λhf=>(DH h).use ?_⟩;rintro _ aR ⟨rfl,i⟩;have l:=h.ext i;obtain⟨Y,Z,_⟩:=h.live hf;refine⟨_,rfl,λB=>.inr ⟨hg,.inr ⟨hf,S,(eg.ext S i).mono I,rfl,.inl ⟨rfl,?_,l,rfl⟩⟩⟩,λB=>?_⟩
 .have:((ih S:Nat):Int)=0:=by simpa using B
  omega
 have K:ih S≠0:=by
  have:¬((ih S:Nat):Int)=0:=by simpa using B
  omega
 refine⟨_,rfl,_,l.v.cell,(zi l.t l.ok I (A.ext i) λq a=>⟨by have:=(o q a).1;have:=i.size;omega,(o q a).2⟩).use ?_⟩;rintro v N ⟨c,O,j,aa,u⟩;obtain⟨m,E,ab⟩:=l.to O j rfl rfl (.bC aa);have Q:eg 30 S (S.cV (S.T.bC c S.T.P)) w N:=((eg.ext S i).trans E).mono I;have ac:l0 S (S.cV (S.T.bC c S.T.P)):=⟨rfl,rfl,rfl,rfl,rfl,rfl,rfl,ab⟩;have aS:(S.cV (S.T.bC c S.T.P)).T.C.D.eI=λ_=> []:=j.b6.2.trans Z;have aU:c.D.a7<=S.T.C.D.a7+30:=j.a7;have af:∃ (t:ad) (e:al),v=.tuple #[t,e,(0:Int)]/\(e=true↔eZ L key≠none):=by
  rcases u with ⟨rfl,g⟩|⟨t,x,rfl,_,hs,_⟩|⟨_,_,F⟩
  .exact⟨⟨none,0,0⟩,false,rfl,λh=>(by cases h),λh=>absurd (g hg.1) h⟩
  .exact⟨t,true,rfl,λ_=>by rw[hs];simp,λ_=>rfl⟩
  .exact absurd (z.1 30) F
 clear u;obtain⟨t,e,rfl,he⟩:=af;have aV:=i.size;have aW:=j.ah.size;have R:∀s:ad,(∀q,aB s q->q<w.heap.size/\¬S.T.M q)->∀q,aB s q->q<N.heap.size/\¬(S.T.bC c S.T.P).M q:=λs hs q a=>⟨by have:=(hs q a).1;omega,λag=>by
  rcases j.c1 q ag with h2|h2
  .exact(hs q a).2 h2
  .have:=(hs q a).1;omega⟩
 have ai:=(A.ext i).ah j.ah λq a g=>(o q a).2 (aK.gF g);have am:=(G.ext i).ah j.ah λq a g=>(H q a).2 (aK.gF g);have an:¬(S.T.bC c S.T.P).C.D.ro:=λe=>Y (j.ro.1 e);refine⟨t,e,0,rfl,λh=>(by cases h),λ_=>⟨_,rfl,_,m.v.cell,?_⟩⟩;refine(IT O an m.ok I m.cg (λx hx=>(m.f x).2 (.inl hx)) (by show c.D.a7<=_;omega) ai (R tk o) am (R cQ H)).use ?_;rintro v aX (⟨_,ao,_⟩|⟨_,_,bY,ap,aq,ar,au,u⟩)
 .exact absurd hg ao
 have av:cl (S.T.bC c S.T.P)=cl S.T:=rfl;have aw:(S.T.bC c S.T.P).aL=S.T.aL:=rfl;have ay:2*S.T.aL+5<=cl S.T:=by unfold ih at K;omega
 rcases u with ⟨_,aC,_⟩|⟨rfl,_,⟨dN,aE,aF,ej,aH,aJ⟩,U⟩|⟨rfl,F,aY,aZ,a0,U⟩
 .rw[av,aw]at aC;omega
 .have hlen:(S.keys:Int)+(if e=true then 0 else 1)=(gn L key val).length:=by
   have h1:=zy key val L;have h2:=wJ (k:=key) h.ok.rising;have J:=h.keys;by_cases g:eZ L key=none
   .have:¬e=true:=λh=>he.1 h g
    rw[if_pos g]at h2;rw[if_neg this];omega
   .rw[if_neg g]at h2
    rw[if_pos (he.2 g)];omega
  have J:=h.keys;have aN:(gn L key val).length<4096:=by split at hlen<;>omega
  have V:=λd hd=>m.DI (d:=d) hf ap aq ar au ⟨⟨dN,aE,aF,ej,aH,aJ⟩,U⟩ ay (λp y=>by
   rcases Gq.1 y with rfl|⟨h1,_⟩
   .exact hg
   .exact h.kv p h1) hd aN (by show S.keys<_;omega) y (by show c.D.a7+100<=_;omega) W (E.q z)
  refine⟨0,rfl,λh=>(by cases h),λ_=>⟨λht=>(V 0 (by rw[←hlen,if_pos ht];rfl)).use ?_,λht=>(V 1 (by rw[←hlen,if_neg (by rw[ht];decide)];rfl)).use ?_⟩⟩
  all_goals
   rintro v w' ⟨⟨n,rfl⟩,aD,dN,r1,aG,cm⟩;exact⟨n,rfl,.inr ⟨hg,.inr ⟨hf,aD,(Q.trans r1).mono I,aG,.inr ⟨K,dN,cm.back ac Q⟩⟩⟩⟩
 .exact absurd ((E.q z).1 100) F
end
section
variable {w w' w1:J}{T au:aK}{S aD dn:cc}{pages aM:O Nat}{L bQ:O aN}{k:Nat}
theorem JT{tk:ad}{key:Key}(h:dV w S pages L aM bQ)(cU:L.length<4000)(z:S.pending<1000)(aC:S.T.C.D.a7<=700000000)(U:S.gen<=1000000000)(A:S.T.C.D.quiet)
 (B:Src 1 w tk (az key)) (m:∀q,aB tk q->q<w.heap.size/\¬S.T.M q):
 aI aj 23 #[.pointer (some S.st),tk] w (λv w'=>(v=.tuple #[false,(1:Int)]/\¬cz key/\w=w')\/(cz key/\
  ((S.failed=true/\v=.tuple #[false,(8:Int)]/\w=w')\/(S.failed=false/\∃aD,eg 300 S aD w w'/\aD.now=S.now/\
    ((v=.tuple #[false,(0:Int)]/\eZ L key=none/\dV w' aD pages L aM bQ/\l0 S aD/\aD.failed=false)\/
     (v=.tuple #[false,(2:Int)]/\eZ L key≠none/\ih S=0/\dV w' aD pages L aM bQ/\l0 S aD/\aD.failed=false)\/
     (∃n:Int,v=.tuple #[.bool (n==0),n]/\eZ L key≠none/\ih S≠0/\∃dN,mJ S aD dN (eQ L key) aM bQ n w')\/
     (v=.tuple #[false,(3:Int)]/\∀c pages L,kU c S aD pages L aM bQ (3:Int) w')))))):=by
 have V:tk.len=key.length:=by have:=B.len;rw[c7]at this;omega
 have aE:=h.t.s.bu;refine okF (ae.uz (some S.st) tk) ax.uz func23 ?_;(delta ae.uz ak b8 aT lI bX nc;dsimp only);refine cw (λb w'=>(b=false↔cz key)/\w=w') (λq i=>⟨λo=>(by cases o),λ_=>(qi w tk).use ?_⟩) ?_
 .rintro _ _ ⟨rfl,rfl⟩
  refine⟨_,rfl,i _ _ ⟨?_,rfl⟩⟩;unfold cz;rw[V,l9,cp]
 rintro b _ ⟨o,rfl⟩;refine⟨λh1=>.inl ⟨rfl,λhg=>?_,rfl⟩,λh1=>?_⟩
 .rw[o.2 hg]at h1;cases h1
 have hg:cz key:=o.1 h1;refine⟨_,rfl,S.failed,by rw[aA];exact h.v.cell,λhf=>.inr ⟨hg,.inl ⟨hf,rfl,rfl⟩⟩,λhf=>?_⟩;obtain⟨W,X,_⟩:=h.live hf;refine⟨_,rfl,_,h.v.cell,(zi h.t h.ok I B m).use ?_⟩;rintro v aF ⟨a,Y,j,Z,r⟩;obtain⟨E,u,aa⟩:=h.to Y j rfl rfl (.bC Z);have F:l0 S (S.cV (S.T.bC a S.T.P)):=⟨rfl,rfl,rfl,rfl,rfl,rfl,rfl,aa⟩;have aH:(S.cV (S.T.bC a S.T.P)).T.C.D.eI=λ_=> []:=j.b6.2.trans X;have aJ:a.D.a7<=S.T.C.D.a7+30:=j.a7;have ab:∃ (t:ad) (e:al),v=.tuple #[t,e,(0:Int)]/\(e=true↔eZ L key≠none):=by
  rcases r with ⟨rfl,g⟩|⟨t,x,rfl,_,hs,_⟩|⟨_,_,G⟩
  .exact⟨⟨none,0,0⟩,false,rfl,λh=>(by cases h),λh=>absurd (g hg) h⟩
  .exact⟨t,true,rfl,λ_=>by rw[hs];simp,λ_=>rfl⟩
  .exact absurd (A.1 30) G
 clear r;obtain⟨t,e,rfl,he⟩:=ab;refine⟨t,e,0,rfl,λh=>(by cases h),λ_=>⟨λH=>?_,λH=>(DH E).use ?_⟩⟩
 .have g:eZ L key=none:=by
   cases ac:eZ L key with
   |none=>rfl
   |some x=>
    have:e=true:=he.2 (by rw[ac];simp);rw[this]at H;cases H
  exact .inr ⟨hg,.inr ⟨hf,_,u.mono I,rfl,.inl ⟨rfl,g,E,F,hf⟩⟩⟩
 have g:eZ L key≠none:=he.1 (by cases e<;>simp_all);rintro _ Q ⟨rfl,y⟩;have l:=E.ext y;have J:eg 30 S (S.cV (S.T.bC a S.T.P)) w Q:=(u.trans (eg.ext _ y)).mono I;have af:ih (S.cV (S.T.bC a S.T.P))=ih S:=rfl;rw[af];refine⟨_,rfl,λK=>.inr ⟨hg,.inr ⟨hf,_,J.mono I,rfl,.inr (.inl ⟨rfl,g,?_,l,F,hf⟩)⟩⟩,λK=>?_⟩
 .have:((ih S:Nat):Int)=0:=by simpa using K
  omega
 have R:ih S≠0:=by
  have:¬((ih S:Nat):Int)=0:=by simpa using K
  omega
 have aN:=j.ah.size;have aO:=y.size;have ag:∀q,aB tk q->q<Q.heap.size/\¬(S.T.bC a S.T.P).M q:=λq i=>⟨by have:=(m q i).1;omega,λai=>by
  rcases j.c1 q ai with h2|h2
  .exact(m q i).2 h2
  .have:=(m q i).1;omega⟩
 have am:=(B.ah j.ah λq i g=>(m q i).2 (aK.gF g)).ext y;have an:¬(S.T.bC a S.T.P).C.D.ro:=λe=>W (j.ro.1 e);refine⟨_,rfl,_,l.v.cell,?_⟩;refine(IW l.t an l.ok I l.cg (λx hx=>(l.f x).2 (.inl hx)) (by show a.D.a7<=_;omega) am ag).use ?_;rintro v aP ⟨bY,ao,ap,aq,ar,r⟩;have au:cl (S.T.bC a S.T.P)=cl S.T:=rfl;have av:(S.T.bC a S.T.P).aL=S.T.aL:=rfl;have aw:2*S.T.aL+5<=cl S.T:=by unfold ih at R;omega
 rcases r with ⟨_,N,_⟩|⟨_,_,N,_⟩|⟨_,_,_,O,_⟩|⟨rfl,_,_,_,ay⟩|⟨rfl,_,G,aQ⟩
 .exact absurd hg N
 .exact absurd N g
 .have O:cl (S.T.bC a S.T.P)<2*(S.T.bC a S.T.P).aL+3:=O
  rw[au,av]at O;omega
 .have h2:=wJ (k:=key) h.ok.rising
  rw[if_neg g]at h2;have aR:=h.keys;refine⟨true,0,rfl,λh=>(by cases h),λ_=>(l.DI (d:= -1) hf ao ap aq ar ay aw (λp z=>h.kv p (gi.1 z).1) (by show(S.keys:Int)+ -1=_;omega) I (by show S.keys<_;omega) z (by show a.D.a7+100<=_;omega) U (u.q A)).use ?_⟩;rintro v w' ⟨⟨n,rfl⟩,aD,dN,r1,aG,cm⟩;exact⟨n,rfl,.inr ⟨hg,.inr ⟨hf,aD,(J.trans r1).mono I,aG,.inr (.inr (.inl ⟨n,rfl,g,R,dN,cm.back F J⟩))⟩⟩⟩
 .exact absurd ((u.q A).1 100) G
theorem JU{fE fu:ad}{fr to:Key}{most:Int}(h:dV w S pages L aM bQ)(cU:L.length<=4000)(n:S.T.C.D.a7<=800000000)(o:pages.length<=4000)
 (hf:Src 1 w fE (az fr)) (b:∀q,aB fE q->q<w.heap.size/\¬S.T.M q) (ht:Src 1 w fu (az to)) (c:∀q,aB fu q->q<w.heap.size/\¬S.T.M q) (d:to.length<=1000000):
 aI aj 102 #[.pointer (some S.st),fE,fu,most] w (λv w'=>∃au,dV w' (S.cV au) pages L aM bQ/\eg (2*pages.length) S (S.cV au) w w'/\l0 S (S.cV au)/\bS S.T au w w' (2*pages.length)/\
  ((∃s:ad,v=.tuple #[s,(0:Int)]/\fl (λq=>¬au.M q) w' s ((gT L fr to).take most.toNat))\/(v=.tuple #[(),(3:Int)]/\¬S.T.C.D.calm (2*pages.length)))):=by
 refine okF (ae.uR (some S.st) fE fu most) ax.uR func102 ?_;delta ae.uR ak ey;refine⟨λe=>(by cases e),λ_=>⟨_,rfl,_,h.v.cell,(Ja h.t h.ok I I hf b ht c d).use ?_⟩⟩;rintro v w' ⟨au,i,a,j,k⟩;obtain⟨a1,a2,a3⟩:=h.to i a.to a.E j ⟨a.root,a.aL,a.f,λno _=>⟨congrFun a.P no,a.view no⟩⟩;have hs:l0 S (S.cV au):=⟨rfl,rfl,rfl,rfl,rfl,rfl,a.to.g,a3⟩;rcases k with ⟨s,rfl,l⟩|⟨rfl,m⟩
 .exact⟨s,0,rfl,au,a1,a2,hs,a.to,.inl ⟨s,rfl,l⟩⟩
 .exact⟨⟨none,0,0⟩,3,rfl,au,a1,a2,hs,a.to,.inr ⟨rfl,m⟩⟩
end
variable {w w':J}{D:bc}
theorem JV(a b:Int)(w:J)(T:TypeId)(k:IntKind):Sem.run aj (Builtin.min_ #[T,T] T #[.int k a,.int k b]) w=.ok (.int k (min a b)) w:=by
 simp only[Builtin.min_];unfold Builtin.min2;simp;split<;>omega
section
variable {w w':J}{D:bc}{V:Nat->de}{gen:Nat}{u:eR}{g:Nat->al}{P:Nat->av aF}{aM:O Nat}{bQ:O aN}
theorem JW{c aW k:Nat}{a:Nat->Prop}(h:ec (λ_=>False) w (lV c aW k D))(d:∀q,a q->q<w.heap.size/\¬c9 (lV c aW k D) q):ec a w (lV c aW k D):=
 ⟨h.raw,h.inv.pins,λf hf b=>(by
  have:=(List.mem_replicate.1 (show f∈List.replicate k dw from hf)).2
  rw[this]at b
  cases b),h.inv.un,d,h.inv.pg⟩
end
structure DJ(D:bc)(l:eC)(bg:Nat->Prop)(k:Nat)(w w':J)(S:cc):Prop where
 live:S.failed=false
 px:S.pending=0
 now:S.now=S.u.clock
 l:S.l=l
 d:S.T.C.D.d=D.d
 n:S.T.n=D.n
 q:S.T.C.D.quiet
 a7:S.T.C.D.a7<=D.a7+k
 M:∀q,S.T.M q->cn D q\/bg q\/w.heap.size<=q
 E:∀q,S.T.E q↔q=S.st\/bg q
 st:w.heap.size<=S.st
 r:S.T.C.D.r1=D.r1
 ah:af (cn D) w w'
section
variable {w w':J}{D:bc}{bg:Nat->Prop}
theorem JX{l:eC}(h:df w D)(y:pr (l.ao:Nat) (l.batch:Nat) (l.iR:Nat))(N:∀k,D.calm k)(qT:D.ck.getD 3 0= -1)(O:D.a7<=999999000)(z:∀q,bg q->q<w.heap.size/\¬cn D q):
 aI aj 21 #[.pointer (some D.d),.agg l.c.toArray] w (λv w'=>∃S:cc,v=.tuple #[.pointer (some S.st),(0:Int)]/\dV w' S [] [] [] []/\DJ D l bg 4 w w' S/\S.u=jx/\S.gen=1):=by
 have aa:=h.b_;have P:=h.bu;refine(oA h y N qT O).mono ?_;rintro v w' ⟨aE,sb,s1,s2,c,aW,bj,st,ko,R⟩;obtain rfl:=R.Dz.val;have hd:=R.qG;have B:=R.Dz;have ab:=R.ah.size;have ac:=B.x.size;have ad:=B.hc;have ae:=B.hf;have af:=B.ht;have ag:=B.sv.lt;have E:∀j,aE.b5.getD j []=aE.now j:=λj=>by unfold bc.now;rw[hd.waits];rfl
 have m:∀q,c9 (lV c aW l.ao aE) q->q=c\/q=aW\/cn aE q:=λq h=>h;have G:∀q,cn aE q->q<ko.heap.size:=λq b=>by
  rcases R.dq q b with h1|h1
  .have:=h.lt h1;omega
  .omega
 have Q:aE.quiet:=⟨hd.calm,hd.ck⟩;obtain⟨T,a⟩:∃T:aK,T=⟨bj,1+1,0,0,lV c aW l.ao aE,sb,D.n,λi=>decide (i<3),λi=>decide (i<3),s1,s2,λq=>q=st\/bg q,λ_=>False,λ_=>none⟩:=⟨_,rfl⟩;have U:∀q,bg q->q<w.heap.size/\¬cn aE q:=λq b=>⟨(z q b).1,λhf=>by
  rcases R.dq q hf with h1|h1
  .exact(z q b).2 h1
  .have:=(z q b).1;omega⟩
 have V:b7 w' T:=by
  have H:ec T.X w' (lV c aW l.ao aE):=JW B.ca λq b=>by
   rw[a]at b;rcases b with h1|h1|h1|h1
   .have h1:q=bj:=h1
    refine⟨I,λhf=>?_⟩;rcases m q hf with h2|h2|h2
    .omega
    .omega
    .have:=G q h2;omega
   .have A:=R.sY q h1
    refine⟨I,λhf=>?_⟩;rcases m q hf with h2|h2|h2
    .omega
    .omega
    .have ai:=B.ca.raw.dev
     exact R.Ju q h1 h2
   .rcases(show q=st\/bg q from h1) with h1|h1
    .refine⟨I,λhf=>?_⟩
     rcases m q hf with h2|h2|h2
     .omega
     .omega
     .have:=G q h2;omega
    .have A:=U q h1
     refine⟨I,λhf=>?_⟩;rcases m q hf with h2|h2|h2
     .omega
     .omega
     .exact A.2 h2
   .exact h1.elim
  rw[a]at H⊢;refine⟨B.cQ,R.sp,H,λhf=>by have:=R.sY bj hf;omega,λq b=>?_,λq b=>b.elim,hd.n,⟨by show 0<D.n;omega,(by decide:0<=12),(by decide:1+1<18446744073709551616)⟩,λno cg F=>(by cases F),λj f=>.inl ?_,⟨rfl,rfl⟩⟩
  .rcases(show q=st\/bg q from b) with h1|h1
   .exact⟨by show q≠bj;omega,λhf=>by have:=R.sY q hf;omega,λh=>h⟩
   .have A:=z q h1
    exact⟨by show q≠bj;omega,λhf=>by have:=R.sY q hf;omega,λh=>h⟩
  .have f:aE.b6 j=true:=f
   rw[hd.b6]at f;exact f
 have J:nE jx D.n:=⟨Iff.intro (λ_=>rfl) (λ_=>rfl),by decide,by show 0<D.n;omega,by show 2<D.n;omega,by decide,P⟩;have K:nD jx:=⟨by decide,by decide,by decide,by decide,by decide,by decide⟩;have L:lu (λj=>aE.b5.getD j []) D.n 1 jx (λi=>decide (i<3)) (λ_=>none) [] []:=by
  refine⟨⟨3,I,rfl⟩,?_,.inl ?_,⟨1,bl _,?_⟩,λno=>?_,List.nodup_nil,λx hx=>(by cases hx),.inl ⟨rfl,rfl,rfl,rfl⟩,λx hx=>(by cases hx),rfl,λq b=>(by cases b),K,J,bl _⟩
  .show sL ((1:Nat):Int) (aE.b5.getD 1 [])=_
   rw[E,hd.now];exact Cp K J (by decide) (by decide)
  .show aE.b5.getD 0 []=hO
   rw[E,hd.now];rfl
  .show fi ((2:Nat):Int) (aE.b5.getD 2 [])=_
   rw[E,hd.now];exact vQ I ⟨(by decide:1<=4),(by decide:4<=4),(by decide:1<18446744073709551616),by show(iH _ _).length<=232;rw[wI];omega⟩
  .show decide (no<3)=true↔no∈ []\/no<2\/no=2
   simp only[fo,false_or,cp];omega
 obtain⟨S,o⟩:∃S:cc,S=⟨st,T,l,jx,1,0,0,0,0,false⟩:=⟨_,rfl⟩;have W:1<=cl T:=by
  have h1:=wx (s:=λi=>decide (i<3)||decide (i<3)) (t:=dt (λi=>decide (i<3)||decide (i<3)) 3 true) (k:=3) (by simp) (by simp[dt]) (λi hi=>by simp[dt,hi]) (n:=D.n) I;have h2:=nG (dt (λi=>decide (i<3)||decide (i<3)) 3 true) D.n;have A:cl T=D.n-eS (λi=>decide (i<3)||decide (i<3)) D.n:=by rw[a];rfl
  omega
 refine⟨S,by rw[o],?_,?_,by rw[o],by rw[o]⟩
 .rw[o]
  refine⟨⟨?_,V,by rw[a];exact .inl rfl,by rw[a];exact L,by rw[a],⟨(by decide:0<18446744073709551616),bl _,bl _,(by decide:1+2<18446744073709551616),?_,?_,?_⟩,λj f=>?_⟩,.inl ?_,List.nodup_nil,?_,λx hx=>(by cases hx),λp F=>(by cases F),rfl,cP _,λ_=>⟨?_,by rw[a];exact hd.eI,W⟩,λhf=>(by cases hf)⟩
  .show Var w' st (ja T.bj T.C.D.d T.C.c T.sb _ _ _ _ _ _ _ _) _
   rw[a];exact B.sv
  .have:=y.2.2.2.1;show l.batch<=1000;omega
  .have:=y.2.2.2.2.2;show l.iR<=1048576;omega
  .have:=y.2.2.1;show 1<=l.batch;omega
  .have f:T.g j=true:=f
   show T.C.D.b6 j=true;rw[a]at f⊢;show aE.b6 j=true;rw[hd.b6];exact f
  .rw[a];exact⟨rfl,rfl,rfl,rfl⟩
  .intro no
   have Y:=L.g no;rw[a];exact Y
  .intro e
   have h1:aE.b6 5=true:=by have:=e 5;rw[a]at this;exact this
   rw[hd.b6]at h1;cases h1
 .rw[o]
  refine⟨rfl,rfl,rfl,rfl,by rw[a];exact hd.d,by rw[a],by rw[a];exact Q,by rw[a];show aE.a7<=_;rw[hd.a7];omega,λq M=>?_,λq=>by rw[a],by show w.heap.size<=st;omega,by rw[a];exact hd.r,c0 R.ah B.x λq _ h=>h.elim⟩;rw[a]at M;have Z:∀q,cn aE q->cn D q\/bg q\/w.heap.size<=q:=λq b=>by
   rcases R.dq q b with h1|h1
   .exact .inl h1
   .exact .inr (.inr h1.1)
  rcases M with h1|h1|h1|h1|h1
  .rcases m q h1 with h2|h2|h2
   .exact .inr (.inr I)
   .exact .inr (.inr I)
   .exact Z q h2
  .have h1:q=bj:=h1
   exact .inr (.inr I)
  .exact .inr (.inr (R.sY q h1).1)
  .rcases(show q=st\/bg q from h1) with h1|h1
   .exact .inr (.inr I)
   .exact .inr (.inl h1)
  .exact h1.elim
end
section
variable {V:Nat->de}{n gen:Nat}{u:eR}{g:Nat->al}{P:Nat->av aF}{aM:O Nat}{bQ:O aN}
theorem lu.low(h:lu V n gen u g P aM bQ):aM.length<=bQ.length:=by
 rcases h.ok with ⟨_,_,h2,_⟩|h2
 .rw[h2];exact cP _
 .exact h2.pages.1
end
structure gX(w0 w:J)(bg:Nat->Prop)(d n:Nat)(l:eC)(S:cc)(pages:O Nat)(L:O aN)(aM:O Nat)(bQ:O aN)(c:Nat):Prop where
 x:Ext w0 w
 at_:dV w S pages L aM bQ
 E:∀q,S.T.E q↔q=S.st\/bg q
 ne:¬bg S.st
 s0:∀q,S.T.M q->w0.heap.size<=q
 lim:S.l=l
 d:S.T.C.D.d=d
 n:S.T.n=n
 a7:S.T.C.D.a7<=20000*(c+1)
 eK:L.length<=c/\bQ.length<=c
 gen:S.gen<=c+1
 wK:S.pending<=c
 r:S.T.C.D.r1=true
section
variable {w0 w w':J}{bg:Nat->Prop}{d n a6 k c:Nat}{l:eC}{S aD:cc}{pages aM:O Nat}{L bQ:O aN}
theorem fl.wL{s:ad}(b:fl (λq=>¬S.T.M q) w s L)(hd:eg k S aD w w'):fl (λq=>¬aD.T.M q) w' s L:=
 ((b.a_ (C:=λq=>¬S.T.M q/\¬aD.T.M q) λq f a=>⟨a,λc=>by rcases hd.c1 q c with h|h;exact a h;omega⟩).ah hd.ah λq d _ e=>d.1 e.1).a_ λ_ _ h=>h.2
theorem gX.kV(h:gX w0 w bg d n l S pages L aM bQ c){q:Nat}(a:bg q):S.T.E q/\q≠S.st:=⟨(h.E q).2 (.inr a),λe=>h.ne (e▸a)⟩
theorem gX.ext(h:gX w0 w bg d n l S pages L aM bQ c)(hx:Ext w w'):gX w0 w' bg d n l S pages L aM bQ c:={h with x:=h.x.trans hx,at_:=h.at_.ext hx}
theorem gX.mono{e:Nat}(h:gX w0 w bg d n l S pages L aM bQ c)(he:c<=e):gX w0 w bg d n l S pages L aM bQ e:={h with a7:=by have:=h.a7;omega,eK:=⟨by have:=h.eK.1;omega,by have:=h.eK.2;omega⟩,gen:=by have:=h.gen;omega,wK:=by have:=h.wK;omega}
theorem gX.jv{kP:Nat}(h:gX w0 w bg d n l S pages L aM bQ c)(a:bg kP)(hc:af (λq=>q=kP) w w'):gX w0 w' bg d n l S pages L aM bQ c:=
 {h with x:=Ext.dX h.x hc λq e=>by rw[e];exact h.s0 _ (.inr (.inr (.inr (.inl (h.kV a).1)))),at_:=h.at_.jv (h.kV a).1 (h.kV a).2 hc}
theorem gX.step{dN fT:O Nat}{lr py:O aN}(h:gX w0 w bg d n l S pages L aM bQ c)(hs:dV w' aD dN lr fT py)(hd:eg k S aD w w')(b:k<=20000)(hf:lr.length<=c+1/\py.length<=c+1)(hg:aD.gen<=S.gen+1)(e:aD.pending<=S.pending+1):gX w0 w' bg d n l aD dN lr fT py (c+1):=
 ⟨Ext.dX h.x hd.ah λq a=>h.s0 q a.1,hs,λq=>by rw[hd.E,hd.st];exact h.E q,by rw[hd.st];exact h.ne,λq a=>by
  rcases hd.c1 q a with h1|h1
  .exact h.s0 q h1
  .have:=h.x.size;omega,hd.l.trans h.lim,hd.d.trans h.d,hd.n.trans h.n,by have:=hd.a7;have:=h.a7;omega,hf,by have:=h.gen;omega,by have:=h.wK;omega,hd.r.trans h.r⟩
end
section
variable {w0 w w' w1 ai:J}{bg:Nat->Prop}{d n a6 k c:Nat}{l:eC}{S aD:cc}{pages dN aM fT:O Nat}{L lr bQ py:O aN}{v:aa}
theorem kU.JY{c:Prop}(h:kU c S aD pages L aM bQ v w')(a:S.T.C.D.quiet):v=.int .i64 0/\c/\dV w' aD pages L pages L/\aD.failed=false/\aD.gen=S.gen+1/\aD.u.clock=S.now/\aD.u.dv=S.u.dv+1/\aD.pending=0:=by
 rcases h with h|⟨_,h,_⟩
 .exact h
 .exact absurd a h
end
section
variable {w0 w w' w1 ai:J}{bg bN:Nat->Prop}{d n a6 k c i:Nat}{l:eC}{S aD:cc}{pages dN aM fT bk:O Nat}{L lr bQ py bd:O aN}{v:aa}{aE:bc}{ls:ad}
theorem dV.grow(h:dV w S pages L aM bQ)(hx:Ext w w'){b:Nat->Prop}(c:∀q,b q->S.T.E q\/(w.heap.size<=q/\q<w'.heap.size))(hs:b S.st):dV w' (S.cV (S.T.cv b S.T.G)) pages L aM bQ:=by
 have ht:b7 w' (S.T.cv b S.T.G):=h.t.grow (W:=λ_=>False) hx (λ_ d=>d.elim) (λq a=>(c q a).imp id .inr) (λq a=>.inr (.inl a)) λq a hg=>by
  rcases c q a with h1|h1
  .exact(h.t.dU q h1).2.2 hg
  .have:=h.t.lt (q:=q) (.inr (.inr (.inr (.inr hg))));omega
 exact⟨⟨h.v.ext hx,ht,hs,h.jX,h.gen,h.num,h.b6⟩,h.ok,h.cg,h.f,h.two,h.kv,h.keys,h.px,h.live,h.dead⟩
def cc.own(S:cc)(bN:Nat->Prop):cc:=S.cV (S.T.cv (λq=>q=S.st\/bN q) S.T.G)
theorem cc.DK{q:Nat}(b:∀q,S.T.E q↔q=S.st\/bg q)(h1:∀q,bN q->bg q\/k<=q)(a:(S.own bN).T.M q):S.T.M q\/k<=q:=by
 rcases a with a|a|a|a|a
 .exact .inl (.inl a)
 .exact .inl (.inr (.inl a))
 .exact .inl (.inr (.inr (.inl a)))
 .rcases(show q=S.st\/bN q from a) with h|h
  .exact .inl (.inr (.inr (.inr (.inl ((b q).2 (.inl h))))))
  .rcases h1 q h with h|h
   .exact .inl (.inr (.inr (.inr (.inl ((b q).2 (.inr h))))))
   .exact .inr h
 .exact .inl (.inr (.inr (.inr (.inr a))))
theorem gX.grow(h:gX w0 w bg d n l S pages L aM bQ c)(hx:Ext w w')(b:∀q,bN q->bg q\/(w.heap.size<=q/\q<w'.heap.size)):gX w0 w' bN d n l (S.own bN) pages L aM bQ c:=
 ⟨h.x.trans hx,h.at_.grow hx (λq a=>by
  rcases a with h1|h1
  .exact .inl ((h.E q).2 (.inl h1))
  .exact(b q h1).imp (λh2=>(h.E q).2 (.inr h2)) id) (.inl rfl),λq=>Iff.rfl,λhs=>by
  have hs:bN S.st:=hs
  rcases b _ hs with h1|h1
  .exact h.ne h1
  .have:=h.at_.t.lt (q:=S.st) (.inr (.inr (.inr (.inl h.at_.es))));omega,λq a=>by
  rcases cc.DK h.E (λq a=>(b q a).imp id And.left) a with h1|h1
  .exact h.s0 q h1
  .have:=h.x.size;omega,h.lim,h.d,h.n,h.a7,h.eK,h.gen,h.wK,h.r⟩
end
section
variable {w0 w w' w1 ai:J}{bg bN:Nat->Prop}{d n a6 k c i:Nat}{l:eC}{S aD:cc}{pages dN aM fT bk:O Nat}{L lr bQ py bd:O aN}{v:aa}{aE:bc}{ls:ad}
theorem dV.room(h:dV w S pages L aM bQ):S.T.n<=cl S.T+pages.length+aM.length+3:=by
 have h1:=Jf (t:=λi=>S.T.f i||S.T.g i) (l:=pages++aM++ [0,1,S.u.map]) S.T.n λi _ hi=>by
  simp only[jb]at hi;simp only[cO,cY,fo,fy];rcases hi with hi|hi
  .rcases(h.f i).1 hi with h2|h2|h2
   .exact .inl (.inl h2)
   .exact .inr I
   .exact .inr (.inr (.inr h2))
  .rcases(h.jX.g i).1 hi with h2|h2|h2
   .exact .inl (.inr h2)
   .exact .inr I
   .exact .inr (.inr (.inr h2))
 simp only[ct,f_,k1]at h1;unfold cl;omega
theorem gX.new{D:bc}(hx:Ext w0 w)(e:dV w' S [] [] [] [])(a:DJ D l bg 4 w w' S)(hu:S.u=jx)(hg:S.gen=1)(b:∀q,cn D q->w0.heap.size<=q)(c:∀q,bg q->w0.heap.size<=q/\q<w.heap.size)(i:D.a7=0)(f:D.r1=true):gX w0 w' bg D.d D.n l S [] [] [] [] 0:=
 ⟨Ext.dX hx a.ah b,e,a.E,λh=>by have:=(c _ h).2;have:=a.st;omega,λq g=>by
  rcases a.M q g with h1|h1|h1
  .exact b q h1
  .exact(c q h1).1
  .have:=hx.size;omega,a.l,a.d,a.n,by have:=a.a7;omega,⟨bl _,bl _⟩,I,by rw[a.px];exact bl _,a.r.trans f⟩
end
section
variable {w0 w w' w1 ai:J}{bg bN:Nat->Prop}{d n a6 k c i:Nat}{l:eC}{S aD:cc}{pages dN aM fT bk:O Nat}{L lr bQ py bd:O aN}{v:aa}{aE:bc}{ls:ad}
def lv(b:Nat):eC:=⟨8,1+b%12,1+b/16%12⟩
theorem JZ(b:Nat):pr ((lv b).ao:Nat) ((lv b).batch:Nat) ((lv b).iR:Nat):=by
 unfold pr lv;have h1:b%12<12:=g8 _ (by decide);have h2:b/16%12<12:=g8 _ (by decide);show(8:Int)<=((8:Nat):Int)/\((8:Nat):Int)<=64/\(1:Int)<=((1+b%12:Nat):Int)/\((1+b%12:Nat):Int)<=1000/\(1:Int)<=((1+b/16%12:Nat):Int)/\((1+b/16%12:Nat):Int)<=1048576;omega
theorem J0{b:Nat}(a:b<256):IntKind.wrap .u8 (Int.tdiv (b:Int) 16)=((b/16:Nat):Int):=by
 rw[wP I];have h:((b:Int)/16)=((b/16:Nat):Int):=by omega
 rw[h];have h2:b/16<256:=by omega
 show((b/16:Nat):Int)%256=_;omega
end
section
variable {w:J}{ab st:Nat}{most:Int}
theorem qe{s:av ag}(w:J)(most:Int):aI aj 37 #[.pointer s,most] w (λv w'=>Ext w w'/\(((s=none\/most<1\/400<most)/\v=.tuple #[.pointer none,(1:Int)])\/((s≠none/\1<=most/\most<=400)/\v=.tuple #[.pointer (some w.heap.size),(0:Int)]/\Var w' w.heap.size [.pointer s,most] 120))):=by
 refine okF (ae.qe s most) ax.qe func37 ?_;delta ae.qe ak Y;refine⟨λh=>⟨.refl _ _,.inl ⟨?_,rfl⟩⟩,λh=>a8 (vs:=[.pointer s,most]) rfl λw1 b hx _=>⟨hx,.inr ⟨?_,rfl,b⟩⟩⟩
 .cases s with
  |none=>exact .inl rfl
  |some a=>simp at h;exact .inr I
 .cases s with
  |none=>simp at h
  |some a=>simp at h;exact⟨by simp,I,I⟩
theorem J1(a:Var w ab [.pointer (some st),most] 120):aI aj 38 #[.pointer (some ab)] w (λv w'=>v=.pointer (some st)/\w=w'):=by
 refine okF (ae.uB (some ab)) ax.uB func38 ?_;delta ae.uB ak;exact⟨λh=>(by cases h),λ_=>⟨_,rfl,_,a.cell,rfl,rfl⟩⟩
theorem zz{S:cc}{pages aM:O Nat}{L bQ:O aN}(a:Var w ab [.pointer (some S.st),most] 120)(h:dV w S pages L aM bQ):aI aj 17 #[.pointer (some ab)] w (λv w'=>v=L.length/\w=w'):=by
 refine okF (ae.uy (some ab)) ax.uy func17 ?_;delta ae.uy ke bX;refine(J1 a).use ?_;rintro _ _ ⟨rfl,rfl⟩;refine⟨_,rfl,(JP h).use ?_⟩;rintro _ _ ⟨rfl,rfl⟩;exact⟨_,rfl,by rw[h.keys],rfl⟩
theorem J2{a:ag}(s:Int)(p:bo)(w:J):aI aj 49 #[.pointer (some a),s,.agg p.c.toArray] w (λv w'=>Ext w w'/\((dT s p=false/\v=.tuple #[(),false])\/(dT s p=true/\∃t:ad,v=.tuple #[t,true]/\aV 1 5 w' t (az (eJ s.toNat p))/\∀q,aB t q->w.heap.size<=q))):=by
 refine ae.Fc (some a) s _ w _ ?_;delta ae.r7 ak Y h_;refine a8 (vs:=p.c) rfl λw1 e b i=>⟨λh=>(by cases h),λ_=>⟨p.c,e.rd (bo.bq _),(lL s p w1).use ?_⟩⟩;rintro _ j ⟨d,⟨hg,rfl⟩|⟨hg,t,rfl,f,hf⟩⟩
 .exact⟨⟨none,0,0⟩,false,rfl,b.trans d,.inl ⟨hg,rfl⟩⟩
 .exact⟨t,true,rfl,b.trans d,.inr ⟨hg,t,rfl,f,λq g=>eE b.size (hf q g)⟩⟩
end
theorem zA{s:Int}{p:bo}(h:dT s p=true):∃k:Nat,s=(k:Int)/\k<=65535/\fW p.addr p.bits=some p:=by
 unfold dT at h;rw[c5,cp]at h;obtain⟨k,h1,h2⟩:=qQ h.2;exact⟨k,h1,h2,h.1⟩
theorem J3{s b:Int}{p a:bo}(h:dT s p=true)(j:dT b a=true)(he:eJ s.toNat p=eJ b.toNat a):s=b/\p=a:=by
 obtain⟨k,rfl,l,c⟩:=zA h;obtain⟨d,rfl,m,f⟩:=zA j;rw[di,di]at he;have h1:=yC l p;rw[he,yC m a]at h1;have h2:=yD k p;rw[he,yD d a]at h2;have g:=yE k p;rw[he,yE d a]at g;have n:p.addr=a.addr:=by
  have i:=yA (x9 c).2.1;rw[←g,yA (x9 f).2.1]at i;exact(Option.some.inj i).symm
 have cy:=sG c;have b4:=sG f;have o:p.bits=a.bits:=by
  have e:=congrArg UInt8.toNat (Option.some.inj h2);rw[rp,rp]at e;omega
 refine⟨I,?_⟩
 cases p;cases a
 simp_all
def aC.kv(t:aC):aN:=(eJ t.s.toNat t.p,jq t.b.toNat t.u)
section
variable {T:O aC}{s:Int}{p:bo}
theorem zB{t:aC}(ht:dT t.s t.p=true)(hg:dT s p=true):decide (t.kv.1=eJ s.toNat p)=dp s p t:=by
 unfold dp;rw[fv,c5,cp,cp,cp];exact⟨λh=>J3 ht hg h,λh=>by show eJ t.s.toNat t.p=_;rw[h.1,h.2]⟩
theorem zC(c:∀t∈T,dT t.s t.p=true)(hg:dT s p=true):eZ (T.map aC.kv) (eJ s.toNat p)=(T.find? (dp s p)).map λt=>jq t.b.toNat t.u:=by
 unfold eZ
 induction T with
 |nil=>rfl
 |cons t T a=>
  have a:=a λx hx=>c x (jC _ hx);rw[g9,List.find?_cons,List.find?_cons,zB (c t (pD)) hg]
  cases dp s p t with
  |true=>rfl
  |false=>exact a
theorem J4(b:∀t∈T,dT t.s t.p=true)(hg:dT s p=true):eQ (T.map aC.kv) (eJ s.toNat p)=(T.filter λt=> !dp s p t).map aC.kv:=by
 unfold eQ
 induction T with
 |nil=>rfl
 |cons t T a=>
  have a:=a λx hx=>b x (jC _ hx);have h1:=zB (b t (pD)) hg;rw[g9,jF,jF,a];have e:decide (t.kv.1≠eJ s.toNat p)= !dp s p t:=by rw[←h1];simp
  rw[e]
  cases dp s p t<;>rfl
end
def g6(T:O aC)(t:aC):O aC:=(T.filter λx=>decide (bt x.kv.1 t.kv.1))++t::T.filter λx=>decide (bt t.kv.1 x.kv.1)
theorem DL(T:O aC)(t:aC):gn (T.map aC.kv) t.kv.1 t.kv.2=(g6 T t).map aC.kv:=by
 unfold gn g6;rw[fL,g9,List.filter_map,List.filter_map];rfl
theorem J5{T:O aC}{t x:aC}(h:x∈g6 T t):x=t\/x∈T:=by
 unfold g6 at h;rcases cO.1 h with h|h
 .exact .inr (gi.1 h).1
 .rcases cY.1 h with h|h
  .exact .inl h
  .exact .inr (gi.1 h).1
theorem zD{s:Int}{p:bo}{now:Nat}:∀ (T:O aC),sZ T s p now=match T.find? (dp s p) with|some t=>if t.u<=now then none else some t|none=>none
 | []=>rfl
 |t::T=>by
  have a:=zD (s:=s) (p:=p) (now:=now) T
  unfold sZ at a⊢
  rw[List.findIdx?_cons,List.find?_cons]
  cases b:dp s p t with
  |true=>rfl
  |false=>
   show(match (T.findIdx? (dp s p)).map (· +1) with|some i=>if ((t::T).getD i aC.zero).u<=now then none else some ((t::T).getD i aC.zero)|none=>none)=_
   rw[←a]
   cases T.findIdx? (dp s p)<;>rfl
theorem s3{k:Nat}{p:bo}:cz (eJ k p):=by
 have h:=vZ k p;have h2:=vD p.addr;unfold cz;omega
section
variable {T A B:O aC}{t x:aC}{i m now:Nat}{fr:Key}
def gx(T:O aC):Prop:=T.Pairwise λa b=>bt a.kv.1 b.kv.1
theorem DM:g1 (T.map aC.kv)↔gx T:=List.pairwise_map
theorem DN(ar:∀a∈A,bt a.kv.1 t.kv.1)(e:∀b∈B,bt t.kv.1 b.kv.1):g6 (A++B) t=A++t::B:=by
 unfold g6;rw[gN,gN,il.2 λa c=>dI (ar a c),lB.2 λb d=>by simpa using jO (e b d),lB.2 λa c=>by simpa using jO (ar a c),il.2 λb d=>dI (e b d),fx,hY]
theorem J6(hx:x.kv.1=t.kv.1)(ar:∀a∈A,bt a.kv.1 t.kv.1)(c:∀b∈B,bt t.kv.1 b.kv.1):g6 (A++x::B) t=A++t::B:=by
 have h:=DN ar c;unfold g6 at h⊢;rw[←h,gN,gN,gN,gN,jF,jF,hx];simp[jN]
theorem zE(h:gx T)(hi:i<T.length):(∀a∈T.take i,bt a.kv.1 T[i].kv.1)/\∀b∈T.drop (i+1),bt T[i].kv.1 b.kv.1:=by
 have e:T=T.take i++T[i]::T.drop (i+1):=by rw[List.getElem_cons_drop,fK]
 have h2:gx (T.take i++T[i]::T.drop (i+1)):=e▸h;obtain⟨_,c,d⟩:=l8.1 h2;exact⟨λa f=>d a f _ (pD),(jD.1 c).1⟩
theorem DO(h:dp t.s t.p x=true):x.kv.1=t.kv.1:=by
 unfold dp at h;rw[c5,cp,cp]at h;show eJ _ _=eJ _ _;rw[h.1,h.2]
theorem J7(h:gx T)(hf:T.findIdx? (dp t.s t.p)=some i):i<T.length/\T.set i t=g6 T t:=by
 obtain⟨hi,a,_⟩:=List.findIdx?_eq_some_iff_getElem.1 hf;have hx:=DO a;have h1:=zE h hi;rw[hx]at h1;refine⟨hi,?_⟩;have e:T=T.take i++T[i]::T.drop (i+1):=by rw[List.getElem_cons_drop,fK]
 have h2:=J6 hx h1.1 h1.2;rw[←e]at h2;rw[h2,wR,if_pos hi]
theorem DP(h:gx T)(d:∀t∈T,dT t.s t.p=true)(hg:dT t.s t.p=true)(hf:T.findIdx? (dp t.s t.p)=none)(hi:i<=T.length)(f:∀a∈T.take i,bt a.kv.1 t.kv.1)(g:∀hi:i<T.length,¬bt T[i].kv.1 t.kv.1):T.take i++t::T.drop i=g6 T t:=by
 have e:=DN (B:=T.drop i) f λb c=>?_
 .rw[fK]at e
  exact e.symm
 have j:∀x∈T,x.kv.1≠t.kv.1:=λx hx e=>by
  have h1:=List.findIdx?_eq_none_iff.1 hf x hx;rw[←zB (d x hx) hg]at h1;exact absurd e (cC h1)
 have key:∀x∈T,¬bt x.kv.1 t.kv.1->bt t.kv.1 x.kv.1:=λx hx k=>by
  rcases vE x.kv.1 t.kv.1 with h1|h1|h1
  .exact absurd h1 k
  .exact absurd h1 (j x hx)
  .exact h1
 rcases ei i T.length with h1|h1
 .have h2:=key _ (cL h1) (g h1)
  rw[←List.getElem_cons_drop h1]at c;rcases cY.1 c with rfl|c
  .exact h2
  .exact lN h2 ((zE h h1).2 b c)
 .rw[ru h1]at c;cases c
def gM(T:O aC)(fr:Key):O aC:=T.filter λt=>decide (dR fr t.kv.1)
def eD(T:O aC)(fr:Key)(m:Nat):O aC:=(gM T fr).take m
def fe(T Q:O aC)(ch:aC->al):O aC:=T.filter λt=> !(decide (t∈Q)&&ch t)
def ky(T Q:O aC):Key:=match Q.getLast? with
 |none=> []
 |some t=>if T.getLast? =some t then [] else t.kv.1++ [0]
theorem gx.nodup(h:gx T):T.Nodup:=List.Pairwise.imp (λ{a b} c (e:a=b)=>by rw[e]at c;exact jN _ c) h
theorem J8(h:gx T){Q:O aC}{ch:aC->al}(c:x∈T)(hx:x∉Q)(d:∀t∈T,dT t.s t.p=true):(fe T Q ch).filter (λt=> !dp x.s x.p t)=T.filter (λt=> !(decide (t∈Q)&&ch t)&& !decide (t=x)):=by
 unfold fe;rw[List.filter_filter];refine n0 λt ht=>?_;rw[Bool.and_comm]
 congr 2
 rw[fv,cp];refine⟨λe=>?_,λe=>by rw[e];simp[dp]⟩;have h1:=DO (t:=x) e;obtain⟨i,hi,rfl⟩:=tg.1 ht;obtain⟨j,b,rfl⟩:=tg.1 c;have h2:=kZ.1 h;rcases Nat.lt_trichotomy i j with a|rfl|a
 .have:=h2 i j hi b a;rw[h1]at this;exact absurd this (jN _)
 .rfl
 .have:=h2 j i b hi a;rw[h1]at this;exact absurd this (jN _)
end
def aC.ok(t:aC):Prop:=t.ef=true/\t.u<18446744073709551616
theorem aC.ok.k{t:aC}(h:t.ok):dT t.s t.p=true:=by have:=h.1;unfold aC.ef at this;rw[c5]at this;exact this.1
theorem aC.ok.b{t:aC}(h:t.ok):iU t.b=true:=by have:=h.1;unfold aC.ef at this;rw[c5]at this;exact this.2
def kW(S:cc)(bA:O aC)(aD:cc)(dj:O aC):Prop:=(aD.u.dv=S.u.dv/\dj=bA)\/S.u.dv<aD.u.dv
theorem kW.trans{S aD c:cc}{bA dj d:O aC}(h:kW S bA aD dj)(e:kW aD dj c d):kW S bA c d:=by
 rcases h with ⟨a,rfl⟩|a<;>rcases e with ⟨b,rfl⟩|b
 .exact .inl ⟨b.trans a,rfl⟩
 .exact .inr I
 .exact .inr I
 .exact .inr I
structure c4(w0 w:J)(bg:Nat->Prop)(d n:Nat)(l:eC)(ab most:Nat)(S:cc)(pages aM:O Nat)(T bA:O aC)(c:Nat):Prop where
 s:gX w0 w bg d n l S pages (T.map aC.kv) aM (bA.map aC.kv) c
 live:S.failed=false
 q:S.T.C.D.quiet
 pz:bg ab
 v:Var w ab [.pointer (some S.st),most] 120
 ok:∀t∈T,t.ok
 wM:∀t∈bA,t.ok
 q7:S.pending<l.batch
 wN:S.pending=0->T=bA
 eK:T.length<=most/\bA.length<=most
 jy:1<=most/\most<=400
 bT:n=4*most+64
 kX:gx T
section
variable {w0 w w':J}{bg:Nat->Prop}{d n ab most k c:Nat}{l:eC}{S aD:cc}{pages dN aM fT:O Nat}{T au bA dj:O aC}{tk cQ:ad}{key:Key}{v:aa}{s:Int}{p:bo}
theorem c4.ext(h:c4 w0 w bg d n l ab most S pages aM T bA c)(hx:Ext w w'):c4 w0 w' bg d n l ab most S pages aM T bA c:={h with s:=h.s.ext hx,v:=h.v.ext hx}
theorem c4.mono{e:Nat}(h:c4 w0 w bg d n l ab most S pages aM T bA c)(he:c<=e):c4 w0 w bg d n l ab most S pages aM T bA e:={h with s:=h.s.mono he}
theorem c4.new(h:c4 w0 w bg d n l ab most S pages aM T bA c):∀q,w.heap.size<=q->¬S.T.M q:=λq b a=>by have:=h.s.at_.t.lt a;omega
theorem c4.keys(h:c4 w0 w bg d n l ab most S pages aM T bA c):∀t∈T,dT t.s t.p=true:=λt ht=>(h.ok t ht).k
theorem c4.room(h:c4 w0 w bg d n l ab most S pages aM T bA c):ih S≠0:=by
 have h1:=h.eK;have e:=h.s.at_.room;have a:=h.s.at_.ok.low (by rw[dk];have:=h.jy;omega);have b:=h.s.at_.jX.low;have f:=h.s.n;have g:=h.bT;rw[dk]at a b;unfold ih;omega
theorem c4.step(h:c4 w0 w bg d n l ab most S pages aM T bA c)(hs:dV w' aD dN (au.map aC.kv) fT (dj.map aC.kv))(hd:eg k S aD w w')(f:k<=20000)(u:au.length<=T.length+1)(a:dj=bA\/dj=au)(g:au.length<=most)(hg:aD.gen<=S.gen+1)(i:aD.pending<=S.pending+1)(hf:aD.failed=false)(b:∀t∈au,t.ok)(j:aD.pending<l.batch)(m:aD.pending=0->au=dj):
 c4 w0 w' bg d n l ab most aD dN fT au dj (c+1):=by
 have o:=h.s.eK;rw[dk,dk]at o;have e:=h.s.kV h.pz;have p:dj.length<=c+1/\dj.length<=most:=by
  have:=h.eK;rcases a with rfl|rfl<;>omega
 refine⟨h.s.step hs hd f (by rw[dk,dk];omega) hg i,hf,hd.q h.q,h.pz,?_,b,?_,j,m,⟨g,p.2⟩,h.jy,h.bT,DM.1 (hs.ok.rising)⟩
 .rw[hd.st]
  exact h.v.ah hd.ah λr=>e.2 (r.2 e.1)
 .rcases a with rfl|rfl
  .exact h.wM
  .exact b
theorem c4.read(h:c4 w0 w bg d n l ab most S pages aM T bA c)(hs:dV w' aD pages (T.map aC.kv) aM (bA.map aC.kv))(hd:eg k S aD w w')(b:k<=20000)(hg:aD.gen=S.gen)(a:aD.pending=S.pending)(hf:aD.failed=S.failed):c4 w0 w' bg d n l ab most aD pages aM T bA (c+1):=
 h.step hs hd b I (.inl rfl) h.eK.1 I I (hf.trans h.live) h.ok (by rw[a];exact h.q7) (by rw[a];exact h.wN)
def gH(w0:J)(bg:Nat->Prop)(d n:Nat)(l:eC)(ab most:Nat)(S:cc)(bA au:O aC)(w:J)(c:Nat)(w':J):Prop:=
 ∃ (k:Nat) (aD:cc) (dN fT:O Nat) (dj:O aC),c4 w0 w' bg d n l ab most aD dN fT au dj c/\eg k S aD w w'/\aD.now=S.now/\kW S bA aD dj
theorem c4.more(h:c4 w0 w bg d n l ab most S pages aM T bA c)(a:mJ S aD dN (au.map aC.kv) aM (bA.map aC.kv) v w')(hd:eg k S aD w w')(b:aD.now=S.now)(f:k<=20000)(g:au.length<=T.length+1)(i:au.length<=most)(j:∀t∈au,t.ok):
 v=.int .i64 0/\gH w0 bg d n l ab most S bA au w (c+1) w':=by
 have p:=h.s.at_.num.2.2.2.2.2.2;have m:=h.s.lim;rcases a with ⟨rfl,h1,hs,hf,hg,hu,o,_⟩|a
 .exact⟨rfl,k,aD,dN,aM,bA,h.step hs hd f g (.inl rfl) i I I hf j (by rw[←m];omega) (λe=>I),hd,b,.inl ⟨by rw[hu],rfl⟩⟩
 .obtain⟨rfl,_,hs,hf,hg,_,r,o⟩:=a.JY h.q
  exact⟨rfl,k,aD,dN,dN,au,h.step hs hd f g (.inr rfl) i I I hf j (by rw[←m];omega) (λ_=>rfl),hd,b,.inr I⟩
theorem c4.put{t:aC}(h:c4 w0 w bg d n l ab most S pages aM T bA c)(ht:t.ok)(hlen:(g6 T t).length<=most/\(g6 T t).length<=T.length+1)(hc:c<=30000)(f:Src 1 w tk (az (eJ t.s.toNat t.p)))(g:∀q,aB tk q->q<w.heap.size/\¬S.T.M q)(i:Src 1 w cQ (az (jq t.b.toNat t.u)))(j:∀q,aB cQ q->q<w.heap.size/\¬S.T.M q):
 aI aj 27 #[.pointer (some S.st),tk,cQ] w (λv w'=>v=.int .i64 0/\gH w0 bg d n l ab most S bA (g6 T t) w (c+1) w'):=by
 have k:=h.s.at_.num.2.2.2.2.1;have m:=h.s.lim;have z:=h.q7;have A:=h.s.a7;have B:=h.s.gen;refine(JS (key:=eJ t.s.toNat t.p) (val:=jq t.b.toNat t.u) h.s.at_ (by rw[dk];have:=h.eK.1;have:=h.jy;omega) (by rw[m]at k;omega) I I h.q f g i j).mono ?_;rintro v w' (⟨_,o,_⟩|⟨_,⟨hf,_⟩|⟨_,aD,hd,r,⟨_,y,_⟩|⟨_,dN,a⟩⟩⟩)
 .exact absurd ⟨s3,by rw[qS];decide⟩ o
 .rw[h.live]at hf;cases hf
 .exact absurd y h.room
 .rw[show gn (T.map aC.kv) (eJ t.s.toNat t.p) (jq t.b.toNat t.u)=(g6 T t).map aC.kv from DL T t]at a
  exact h.more a hd r I hlen.2 hlen.1 λx hx=>(J5 hx).elim (λe=>e▸ht) (h.ok x)
theorem c4.del(h:c4 w0 w bg d n l ab most S pages aM T bA c)(hg:dT s p=true)(hc:c<=30000)(j:Src 1 w tk (az (eJ s.toNat p)))(k:∀q,aB tk q->q<w.heap.size/\¬S.T.M q):
 aI aj 23 #[.pointer (some S.st),tk] w (λv w'=>v=.tuple #[.bool (T.find? (dp s p)).isSome,(0:Int)]/\gH w0 bg d n l ab most S bA (T.filter λt=> !dp s p t) w (c+1) w'):=by
 have m:=h.s.at_.num.2.2.2.2.1;have o:=h.s.lim;have D:=h.q7;have E:=h.s.a7;have F:=h.s.gen;have f:=zC h.keys hg;have G:(T.filter λt=> !dp s p t).length<=T.length:=mY _ _;refine(JT (key:=eJ s.toNat p) h.s.at_ (by rw[dk];have:=h.eK.1;have:=h.jy;omega) (by rw[o]at m;omega) I I h.q j k).mono ?_;rintro v w' (⟨_,r,_⟩|⟨_,⟨hf,_⟩|⟨_,aD,hd,g,⟨rfl,a,hs,he,y⟩|⟨_,_,z,_⟩|⟨e,rfl,a,_,dN,i⟩|⟨_,hx⟩⟩⟩)
 .exact absurd s3 r
 .rw[h.live]at hf;cases hf
 .rw[f,Option.map_eq_none_iff]at a
  rw[a];refine⟨rfl,300,aD,pages,aM,bA,?_,hd,g,.inl ⟨by rw[he.u],rfl⟩⟩;rw[il.2 λt ht=>by rw[iJ,←fm];exact jE.1 a t ht];exact h.read hs hd I he.gen he.pending (y.trans h.live.symm)
 .exact absurd z h.room
 .rw[J4 h.keys hg]at i
  obtain⟨A,B⟩:=h.more i hd g I I (by have:=h.eK.1;omega) λx hx=>h.ok x (gi.1 hx).1;obtain rfl:e=0:=by cases A;rfl
  rw[f,ne_eq,Option.map_eq_none_iff]at a;refine⟨?_,B⟩
  cases C:T.find? (dp s p) with
  |none=>exact absurd C a
  |some t=>rfl
 .rcases hx True pages (T.map aC.kv) with ⟨b,_⟩|⟨_,b,_⟩
  .cases b
  .exact absurd h.q b
theorem c4.get(h:c4 w0 w bg d n l ab most S pages aM T bA c)(hg:dT s p=true)(hc:c<=30000)(g:Src 1 w tk (az (eJ s.toNat p)))(i:∀q,aB tk q->q<w.heap.size/\¬S.T.M q):
 aI aj 50 #[.pointer (some S.st),tk] w (λv w'=>(∃ (t:ad),v=.tuple #[t,.bool (T.find? (dp s p)).isSome,(0:Int)]/\∀x,T.find? (dp s p)=some x->Src 1 w' t (az (jq x.b.toNat x.u))/\t.len<=t.cap)/\gH w0 bg d n l ab most S bA T w (c+1) w'):=by
 have o:=h.s.a7;have f:=zC h.keys hg;refine(JR h.s.at_ I g i).mono ?_;rintro v w' ⟨aJ,hs,hd,_,_,_,_,j⟩;have ar:gH w0 bg d n l ab most S bA T w (c+1) w':=⟨30,_,pages,aM,bA,h.read hs hd I rfl rfl rfl,hd,rfl,.inl ⟨rfl,rfl⟩⟩;rcases j with ⟨rfl,a⟩|⟨t,x,rfl,_,a,ht⟩|⟨_,_,k⟩
 .have a:=a s3
  rw[f,Option.map_eq_none_iff]at a;rw[a];exact⟨⟨⟨none,0,0⟩,rfl,λx e=>(by cases e)⟩,ar⟩
 .rw[f]at a
  obtain⟨y,m,rfl⟩:=s8.1 a;rw[m];exact⟨⟨t,rfl,λz e=>by cases e;exact⟨ht.1,ht.2.1⟩⟩,ar⟩
 .exact absurd (h.q.1 30) k
end
section
variable {w0 w w' w1:J}{bg:Nat->Prop}{d n ab most k c q:Nat}{l:eC}{S aD dG:cc}{pages dN aM fT:O Nat}{T au bA dj jz:O aC}{tk cQ:ad}{key:Key}{v:aa}{s:Int}{p:bo}{vs:O aa}
theorem c4.zF(h:c4 w0 w bg d n l ab most S pages aM T bA c)(hx:Ext w w')(e:Nat):gH w0 bg d n l ab most S bA T w (c+e) w':=⟨0,S,pages,aM,bA,(h.ext hx).mono (Nat.le_add_right _ _),.ext S hx,rfl,.inl ⟨rfl,rfl⟩⟩
theorem gH.cat(hd:eg k S dG w w1)(a:dG.now=S.now)(hg:kW S bA dG jz)(h:gH w0 bg d n l ab most dG jz au w1 c w'):gH w0 bg d n l ab most S bA au w c w':=by
 obtain⟨cq,dn,cJ,bf,bY,h2,d2,bu,ay⟩:=h;exact⟨k+cq,dn,cJ,bf,bY,h2,hd.trans d2,bu.trans a,hg.trans ay⟩
theorem gH.pre(hx:Ext w w1)(h:gH w0 bg d n l ab most S bA au w1 c w'):gH w0 bg d n l ab most S bA au w c w':=gH.cat (.ext S hx) rfl (.inl ⟨rfl,rfl⟩) h
theorem gH.post(h:gH w0 bg d n l ab most S bA au w c w1)(hx:Ext w1 w'):gH w0 bg d n l ab most S bA au w c w':=by
 obtain⟨cq,dn,cJ,bf,bY,h2,d2,bu,ay⟩:=h;exact⟨cq+0,dn,cJ,bf,bY,h2.ext hx,d2.trans (.ext dn hx),bu,ay⟩
theorem cc.zG{b:Nat}(c:∀q,S.T.E q↔q=S.st\/bg q)(a:(S.own λq=>bg q\/q=b).T.M q):S.T.M q\/q=b:=by
 rcases a with a|a|a|a|a
 .exact .inl (.inl a)
 .exact .inl (.inr (.inl a))
 .exact .inl (.inr (.inr (.inl a)))
 .rcases(show q=S.st\/bg q\/q=b from a) with h|h|h
  .exact .inl (.inr (.inr (.inr (.inl ((c q).2 (.inl h))))))
  .exact .inl (.inr (.inr (.inr (.inl ((c q).2 (.inr h))))))
  .exact .inr h
 .exact .inl (.inr (.inr (.inr (.inr a))))
theorem c4.scope{b:Nat}(h:c4 w0 w bg d n l ab most S pages aM T bA c)(hx:Ext w w1)(t:w.heap.size<=b/\b<w1.heap.size):c4 w0 w1 (λq=>bg q\/q=b) d n l ab most (S.own λq=>bg q\/q=b) pages aM T bA c/\
 (∀q,w.heap.size<=q->q≠b->¬(S.own λq=>bg q\/q=b).T.M q)/\(∀q,w.heap.size<=q->¬(S.own λq=>bg q\/q=b).W q)/\
 ∀ {ai g:J}{e:Nat}{au:O aC},gH w0 (λq=>bg q\/q=b) d n l ab most (S.own λq=>bg q\/q=b) bA au w1 e ai->af (λq=>q=b) ai g->gH w0 bg d n l ab most S bA au w e g:=by
 have i:∀q,(S.own λq=>bg q\/q=b).T.M q->S.T.M q\/q=b:=λq a=>cc.zG h.s.E a;have y:=h.s.at_.v.lt;have o:∀q,w.heap.size<=q->q≠b->¬(S.own λq=>bg q\/q=b).T.M q:=λq a j u=>(i q u).elim (h.new q a) j;refine⟨⟨h.s.grow hx λq a=>a.imp id λe=>by rw[e];exact t,h.live,h.q,.inl h.pz,h.v.ext hx,h.ok,h.wM,h.q7,h.wN,h.eK,h.jy,h.bT,h.kX⟩,o,λq a f=>?_,λ{ai g e au} x hc=>?_⟩
 .by_cases e:q=b
  .have:q=S.st:=f.2 (.inr (.inr e))
   omega
  .exact o q a e f.1
 obtain⟨k,dn,cJ,bf,bY,h2,d2,bu,ay⟩:=x;have j:¬ab=b:=by have:=h.v.lt;omega
 have z:=hx.size;refine⟨k,dn.own bg,cJ,bf,bY,⟨(h2.s.jv (.inr rfl) hc).grow (.refl _ _) λq a=>.inl (.inl a),h2.live,h2.q,h.pz,h2.v.ah hc j,h2.ok,h2.wM,h2.q7,h2.wN,h2.eK,h2.jy,h2.bT,h2.kX⟩,⟨d2.st,d2.d,d2.n,d2.l,d2.a7,d2.q,?_,λq a=>?_,?_,d2.G,d2.r⟩,bu,ay⟩
 .refine c0 (c0 (hx.mono λ_ _ h=>h.elim) d2.ah λq a f=>⟨(i q f.1).resolve_right I,λhe=>f.2 ?_⟩) hc λq a e=>absurd a I
  rcases(h.s.E q).1 he with e|e
  .exact .inl e
  .exact .inr (.inl e)
 .rcases cc.DK (k:=w.heap.size) h2.s.E (λq a=>.inl (.inl a)) a with m|m
  .rcases d2.c1 q m with p|p
   .exact(i q p).imp id λe=>by omega
   .exact .inr I
  .exact .inr m
 .funext q
  rw[show(dn.own bg).T.E q=(q=dn.st\/bg q) from rfl,d2.st];exact(propext (h.s.E q)).symm
theorem wO(a:Var w q vs 57)(b:vs.length=21)(t:aC){K:O aa->J->Prop}(f:∀w',af (λx=>x=q) w w'->K t.c w'):bD w q (Array.toList t.c.toArray)/\Array.size t.c.toArray=21/\an (setCells w q 0 (Array.toList t.c.toArray)) λd=>∃e:O aa,bn d q 0 21=some e/\K e d:=
 ⟨a.cj (by simp[aC.bq,b]) (aC.plain t),by simp[aC.bq],cN a (us:=t.c) (by simp[aC.bq,b]) rfl λw' g h _=>⟨t.c,g.rd (aC.bq t),f w' h⟩⟩
theorem DQ(t:aC){K:J->Prop}(d:∀w',Var w' w.heap.size t.c 57->Ext w w'->K w'):an (w.alloc (.cells aC.zero.c.toArray 57)) λa=>bD a w.heap.size (Array.toList t.c.toArray)/\Array.size t.c.toArray=21/\an (setCells a w.heap.size 0 (Array.toList t.c.toArray)) K:=
 a8 (vs:=aC.zero.c) rfl λw1 b hx _=>⟨b.cj (by simp[aC.bq]) (aC.plain t),by simp[aC.bq],cN b (us:=t.c) (by simp[aC.bq]) rfl λw' e f _=>d w' e (Ext.cu hx f (bl _))⟩
theorem DR{x:aC}(hx:x.ok)(a:Src 1 w tk (az (eJ x.s.toNat x.p)))(g:tk.len<=tk.cap)(d:Src 1 w cQ (az (jq x.b.toNat x.u)))(h:cQ.len<=cQ.cap):aI aj 51 #[tk,cQ] w (λv w'=>v=.tuple #[.agg x.c.toArray,true]/\Ext w w'):=by
 obtain⟨k,e,_⟩:=zA hx.k;obtain⟨j,f,i⟩:=qQ hx.b;have hg:=hx.k;have hu:=hx.2;obtain⟨s,p,b,u⟩:=x;dsimp only at e f hg hu a d;subst e f;rw[di]at a d;exact qf a g d h hg i hu
theorem DS{x:aC}(h:dp s p x=true):x.s=s/\x.p=p:=by
 unfold dp at h;rwa[c5,cp,cp]at h
theorem DT{now:Nat}(h:c4 w0 w bg d n l ab most S pages aM T bA c)(hc:c<=30000)(s:Int)(p:bo):aI aj 18 #[.pointer (some ab),s,.agg p.c.toArray,.int .u64 (now:Nat)] w (λv w'=>gH w0 bg d n l ab most S bA T w (c+1) w'/\
 v=if dT s p then .tuple #[.agg ((sZ T s p now).getD aC.zero).c.toArray,.bool (sZ T s p now).isSome,(0:Int)] else .tuple #[.agg aC.zero.c.toArray,false,(1:Int)]):=by
 refine ae.E_ (some ab) s _ (now:Nat) w _ ?_;(delta ae.r5 gR Y h_ ak lI iP cm;dsimp only);refine a8 (vs:=p.c) rfl λw1 K z Z=>a8 (vs:=aC.zero.c) rfl λai A B aa=>⟨p.c,(K.ext B).rd (bo.bq _),(J2 s p ai).use ?_⟩;have i:=z.trans B;have j:=z.size;have ac:=i.size;rintro _ L ⟨e,⟨hg,rfl⟩|⟨hg,tk,rfl,g,hf⟩⟩
 .refine⟨⟨none,0,0⟩,false,rfl,λ_=>⟨_,yB L,wO (A.ext e) (aC.bq _) aC.zero λm a=>⟨h.zF (Ext.cu (i.trans e) a j) 1,by rw[hg];rfl⟩⟩,λh=>(by cases h)⟩
 have M:=i.trans e;have ad:=e.size;obtain⟨C,N,D,o⟩:=h.scope (b:=w1.heap.size) M ⟨j,I⟩;refine⟨tk,true,rfl,λh=>(by cases h),λ_=>⟨_,rfl,_,C.v.cell,(C.get hg hc g.src λq f=>⟨g.lt q f,N q (by have:=hf q f;omega) (by have:=hf q f;omega)⟩).use ?_⟩⟩;rintro _ O ⟨⟨cQ,rfl,iO⟩,r⟩;have P:=r;obtain⟨k,dG,af,bk,bP,h1,d1,b_,aw⟩:=P;have E:=(A.ext e).ah d1.ah (D _ j);have Q:=g.src.ah d1.ah λq f=>D q (by have:=hf q f;omega);rw[if_pos hg,zD]
 cases t:T.find? (dp s p) with
 |none=>exact⟨cQ,false,0,rfl,λ_=>⟨_,yB O,wO E (aC.bq _) aC.zero λm a=>⟨o r a,rfl⟩⟩,λh=>(by cases h)⟩
 |some x=>
  have hx:=h.ok x (je t);obtain⟨rfl,rfl⟩:=DS (j6 t);obtain⟨R,U⟩:=iO x t;refine⟨cQ,true,0,rfl,λh=>(by cases h),λ_=>(DR hx Q g.2.1 R U).use ?_⟩;rintro _ ag ⟨rfl,V⟩;refine⟨_,true,rfl,DQ x λW F X=>⟨λh=>(by cases h),λ_=>?_⟩⟩;have G:=V.trans X;have H:=E.ext G;have J:=r.post G;refine⟨_,yz F,λy=>⟨_,yB W,wO H (aC.bq _) aC.zero λm a=>⟨o J a,?_⟩⟩,λy=>⟨x.c,F.rd (aC.bq x),wO H (aC.bq _) x λm a=>⟨o J a,?_⟩⟩⟩
  .have:x.u<=now:=by have:=cf y;omega
   simp only[if_pos this];rfl
  .have:¬x.u<=now:=by have:=cC y;omega
   simp only[if_neg this];rfl
end
def iI(T:O aC)(most:Nat)(t:aC):Int:=if t.ef then (if (T.find? (dp t.s t.p)).isSome then 0 else if most<=T.length then 2 else 0) else 1
def kz(T:O aC)(most:Nat)(t:aC):O aC:=if iI T most t=0 then g6 T t else T
theorem J9{T:O aC}{t:aC}(a:gx T)(b:∀t∈T,dT t.s t.p=true)(hg:dT t.s t.p=true):(g6 T t).length=if (T.find? (dp t.s t.p)).isSome then T.length else T.length+1:=by
 have h1:=zy t.kv.1 t.kv.2 (T.map aC.kv);have h2:=wJ (k:=t.kv.1) (DM.2 a);rw[DL,dk]at h1;rw[dk,show eZ (T.map aC.kv) t.kv.1=_ from zC b hg]at h2;rw[h1]
 cases hf:T.find? (dp t.s t.p) with
 |none=>rw[hf]at h2;simp at h2⊢;omega
 |some x=>rw[hf]at h2;simp at h2⊢;omega
section
variable {w0 w w' w1:J}{bg:Nat->Prop}{d n ab most k c q:Nat}{l:eC}{S aD dG:cc}{pages dN aM fT:O Nat}{T au bA dj jz:O aC}{s:Int}{p:bo}
theorem DU(h:c4 w0 w bg d n l ab most S pages aM T bA c)(hc:c<=20000){t:aC}(hu:t.u<18446744073709551616):aI aj 43 #[.pointer (some ab),.agg t.c.toArray] w (λv w'=>v=.int .i64 (iI T most t)/\gH w0 bg d n l ab most S bA (kz T most t) w (c+2) w'):=by
 refine ae.Fb (some ab) _ w _ ?_;(delta ae.r6 ak Y b8 aG h_ cm lI bX;dsimp only);refine a8 (vs:=t.c) rfl λw1 C O af=>cw (λb w'=>b= !t.ef/\Ext w1 w') (λk P=>⟨λh=>(by cases h),λ_=>⟨t.c,C.rd (aC.bq t),(oC t w1).use λv w' a=>by obtain⟨rfl,hx⟩:=a;exact⟨t.ef,rfl,P _ _ ⟨rfl,hx⟩⟩⟩⟩) ?_;rintro _ Q ⟨rfl,D⟩;have x:=O.trans D;refine⟨λg=>?_,λg=>?_⟩
 .have hg:t.ef=false:=by rwa[iJ]at g
  have e:iI T most t=1:=by unfold iI;rw[hg];rfl
  refine⟨by rw[e],?_⟩;unfold kz;rw[e];exact h.zF x 2
 have hg:t.ef=true:=by rwa[l9]at g
 have ht:t.ok:=⟨hg,hu⟩;have y:=C.ext D;refine⟨_,y.cell,_,qR y,(lL t.s t.p Q).use ?_⟩;rintro _ R ⟨E,⟨hf,_⟩|⟨_,tk,rfl,U,z⟩⟩
 .rw[ht.k]at hf;cases hf
 have F:=y.ext E;refine⟨tk,true,rfl,_,yy F,_,yz F,(qj t.b hu R).use ?_⟩;rintro _ V (⟨hf,_⟩|⟨_,cQ,rfl,A,j,G⟩)
 .rw[ht.b]at hf;cases hf
 have m:=x.trans E;have H:=h.ext (m.trans j);have ag:=x.size;have ai:=m.size;have al:=(m.trans j).size;have o:=U.ext j;refine⟨cQ,true,rfl,_,rfl,_,H.v.cell,(H.get ht.k I o.src λq a=>⟨o.lt q a,h.new q (by have:=z q a;omega)⟩).use ?_⟩;rintro _ J ⟨⟨X,rfl,_⟩,k,dG,am,bk,bP,h1,d1,b_,aw⟩;have K:∀q,w.heap.size<=q->¬S.W q:=λq a Z=>h.new q a Z.1;have L:∀q,w.heap.size<=q->q<V.heap.size->¬dG.T.M q:=λq a i B=>(d1.c1 q B).elim (h.new q a) λ_=>by omega
 have aa:=o.src.ah d1.ah λq a=>K q (by have:=z q a;omega);have ac:=A.src.ah d1.ah λq a=>K q (by have:=G q a;omega);have an:=d1.ah.size;have f:=cA J;have N:iI T most t=0->aI aj 27 #[.pointer (some dG.st),tk,cQ] J.drew (λv w'=>v=.int .i64 (iI T most t)/\gH w0 bg d n l ab most S bA (kz T most t) w (c+2) w'):=λhe=>by
  have i:=J9 h.kX h.keys ht.k;have B:(g6 T t).length<=most/\(g6 T t).length<=T.length+1:=by
   have:=h.eK.1;unfold iI at he;rw[hg,if_pos rfl]at he;rw[i];split
   .omega
   .rename_i hs
    rw[if_neg hs]at he;split at he
    .cases he
    .omega
  refine((h1.ext f).put ht B I (aa.ext f) (λq a=>⟨?_,L q (by have:=z q a;omega) (o.lt q a)⟩) (ac.ext f) λq a=>⟨?_,L q (by have:=G q a;omega) (A.lt q a)⟩).mono ?_
  .have:=o.lt q a;have:=f.size;omega
  .have:=A.lt q a;have:=f.size;omega
  .rintro _ w' ⟨rfl,r⟩
   rw[he];refine⟨rfl,?_⟩;unfold kz;rw[he,if_pos rfl];exact((r.pre f).cat d1 b_ aw).pre (m.trans j)
 have he:iI T most t=if (T.find? (dp t.s t.p)).isSome then 0 else if most<=T.length then 2 else 0:=by unfold iI;rw[hg,if_pos rfl]
 refine⟨X,_,0,rfl,λh=>(by cases h),λ_=>aX ⟨λ_=>False,λg=>?_,λg=>?_⟩⟩
 .have hs:(T.find? (dp t.s t.p)).isSome=false:=by rwa[iJ]at g
  rw[hs]at he;refine⟨_,rfl,id,_,(h1.ext f).v.cell,(zz (h1.ext f).v (h1.ext f).s.at_).use ?_⟩;rintro _ _ ⟨rfl,rfl⟩;rw[dk];refine⟨_,rfl,.refl _ _,λi=>?_,λi=>⟨_,rfl,_,(h1.ext f).v.cell,(N ?_).use ?_⟩⟩
  .have:most<=T.length:=by have:=cf i;omega
   have e:iI T most t=2:=by rw[he,if_neg (by decide),if_pos this]
   refine⟨by rw[e],?_⟩;unfold kz;rw[e];exact(((h1.zF f 1)).cat d1 b_ aw).pre (m.trans j)
  .have:¬most<=T.length:=by have:=cC i;omega
   rw[he,if_neg (by decide),if_neg this]
  .rintro _ ad ⟨rfl,r⟩
   exact⟨_,rfl,rfl,r⟩
 .have hs:(T.find? (dp t.s t.p)).isSome=true:=by rwa[l9]at g
  rw[hs,if_pos rfl]at he;refine⟨λh=>(by cases h),λ_=>⟨_,rfl,_,(h1.ext f).v.cell,(N he).use ?_⟩⟩;rintro _ ad ⟨rfl,r⟩;exact⟨_,rfl,rfl,r⟩
end
section
variable {w0 w w' w1:J}{bg B:Nat->Prop}{d n ab most k c q i:Nat}{l:eC}{S aD dG:cc}{pages dN aM fT:O Nat}{T au bA dj jz Q:O aC}{s:Int}{p:bo}{x:aC}{ch:aC->al}{tl:ad}
theorem c4.scan(h:c4 w0 w bg d n l ab most S pages aM T bA c)(hc:c<=20000){a tt:ad}{fr to:Key}{m:Int}(hf:Src 1 w a (az fr))(b:∀q,aB a q->q<w.heap.size/\¬S.T.M q)(ht:Src 1 w tt (az to))(e:∀q,aB tt q->q<w.heap.size/\¬S.T.M q)(f:to.length<=1000000):
 aI aj 102 #[.pointer (some S.st),a,tt,m] w (λv w'=>∃ (t:ad) (aD:cc),v=.tuple #[t,(0:Int)]/\c4 w0 w' bg d n l ab most aD pages aM T bA (c+1)/\eg 20000 S aD w w'/\l0 S aD/\fl (λq=>¬aD.T.M q) w' t ((gT (T.map aC.kv) fr to).take m.toNat)):=by
 have k:=h.eK.1;have o:=h.jy;have g:=(h.s.at_.ok.low (by rw[dk];omega)).2;rw[dk]at g;have p:=h.s.a7;refine(JU h.s.at_ (by rw[dk];omega) I I hf b ht e f).mono ?_;rintro v w' ⟨au,hs,hd,he,_,⟨t,rfl,i⟩|⟨_,j⟩⟩
 .exact⟨t,_,rfl,h.read hs hd I he.gen he.pending rfl,hd.mono I,he,i⟩
 .exact absurd (h.q.1 _) j
theorem J_{K:al->J->J->Prop}(y:fl B w tl (Q.map aC.kv))(hi:i<Q.length)(z:∀t∈Q,t.ok)(C:∀ (b d:J) (tk cQ:ad),Ext w b->Ext w d->w.heap.size<b.heap.size->Var d w.heap.size [tk,cQ] 198->Var d b.heap.size (Q[i]).c 57->bw B w tk (eJ (Q[i]).s.toNat (Q[i]).p)->K true b d):
 ∃da:ag,tl.a=some da/\((0:Int)<=(i:Int)/\(i:Int)<(tl.len:Int))/\
  ∃e:ad,w.cell? (da.add (Int.toNat (i:Int)*2))=some (.slice e.a e.len e.cap)/\
  ∃f:ad,w.cell? ((da.add (Int.toNat (i:Int)*2)).add 1)=some (.slice f.a f.len f.cap)/\
  an (w.alloc (.cells #[(),()] 198)) λo=>
  bD o w.heap.size [e,f]/\
  (2:Nat)=2/\an (setCells o w.heap.size 0 [e,f]) λg=>
  ∃j:ad,g.cell? w.heap.size=some (.slice j.a j.len j.cap)/\
  ∃k:ad,g.cell? (Addr.add w.heap.size 1)=some (.slice k.a k.len k.cap)/\
  Calls aj 51 #[j,k] g λD b=>
  ∃l:Array aa,∃r:al,D=.returned (.tuple #[.agg l,r])/\
  an (b.alloc (.cells aC.zero.c.toArray 57)) λu=>bD u b.heap.size (Array.toList l)/\Array.size l=21/\
  an (setCells u b.heap.size 0 (Array.toList l)) λd=>K r b d:=by
 obtain⟨A,tk,cQ,ar,E,h1,h2,b9,cq⟩:=Ds y (i:=i) (by rw[dk];exact hi);rw[List.getElem_map]at b9 cq;refine⟨A,ar,E,tk,h1,cQ,h2,a8 (vs:=[(),()]) rfl λo h F L=>⟨h.cj rfl (λv h=>?_),rfl,cN h (us:=[tk,cQ]) rfl rfl λg q G M=>?_⟩⟩
 .simp only[cY,fo,fy]at h
  rcases h with rfl|rfl<;>trivial
 have m:Ext w g:=Ext.cu F G (bl _);refine⟨tk,q.cell,cQ,by rw[aA];exact q.cell,(DR (z _ (cL hi)) (b9.1.ext m) b9.2.1 (cq.1.ext m) cq.2.1).use ?_⟩;rintro _ b ⟨rfl,n⟩;have N:=n.size;exact⟨_,true,rfl,DQ Q[i] λd H x=>C b d tk cQ (m.trans n) ((m.trans n).trans x) I ((q.ext n).ext x) H b9⟩
end
section
variable {w0 w w' w1:J}{bg B:Nat->Prop}{d n ab most k c q i:Nat}{l:eC}{S aD dG:cc}{pages dN aM fT:O Nat}{T au bA dj jz Q:O aC}{s:Int}{p:bo}{x:aC}{ch:aC->al}{tl:ad}
theorem Ka(hc:ch x=false):fe T (Q++ [x]) ch=fe T Q ch:=by
 unfold fe;refine n0 λt _=>?_
 congr 1
 by_cases e:t=x
 .subst e;rw[hc,Bool.and_false,Bool.and_false]
 .congr 1
  rw[fv,cp,cp];simp[e]
theorem Kb(h:gx T)(a:∀t∈T,dT t.s t.p=true)(b:x∈T)(hx:x∉Q)(hc:ch x=true):fe T (Q++ [x]) ch=(fe T Q ch).filter λt=> !dp x.s x.p t:=by
 rw[J8 h b hx a];unfold fe;refine n0 λt _=>?_;by_cases e:t=x
 .subst e;simp[hc]
 .rw[h4 e,Bool.not_false,pB]
  congr 2
  rw[fv,cp,cp];simp[e]
def Kc(S:cc)(w:J)(f:iu)(ch:aC->al):Prop:=h6 aj f.f/\∀ (t:aC) (w':J),af S.W w w'->aI aj f.f (f.pre++ #[.agg t.c.toArray]++f.cap) w' (λv a=>v=.bool (ch t)/\Ext w' a)
theorem Ke(h:c4 w0 w bg d n l ab most S pages aM T bA c)(hc:c<=10000)(G:fl (λq=>¬S.T.M q) w tl (Q.map aC.kv))(y:∀t∈Q,t∈T)(H:Q.Nodup){f:iu}(hf:Kc S w f ch):
 aI aj 104 #[.pointer (some ab),tl,.func (.func f.f) f.pre f.cap] w (λv w'=>v=.tuple #[.int .i64 ((Q.filter ch).length:Nat),(0:Int)]/\gH w0 bg d n l ab most S bA (fe T Q ch) w (c+(Q.filter ch).length) w'):=by
 refine okF (ae.uS (some ab) tl f) ax.uS func104 ?_;(delta ae.uS ak aP r1 Y iP gR nc aq;dsimp only);have V:=G.len;rw[dk]at V;have az:Q.length<=400:=by
  have:=(H.length_le_of_subset y);have:=h.eK.1;have:=h.jy;omega
 refine⟨λg m w'=>∃ (i k:Nat) (b:cc) (r s:O Nat) (jL:O aC),m=(i:Int)/\i<=Q.length/\g=(((Q.take i).filter ch).length:Nat)/\c4 w0 w' bg d n l ab most b r s (fe T (Q.take i) ch) jL (c+((Q.take i).filter ch).length)/\eg k S b w w'/\b.now=S.now/\kW S bA b jL,
  λ_ m _=>((Q.length:Int)-m).toNat,⟨0,0,S,pages,aM,bA,rfl,cP _,rfl,?_,.ext S (.refl _ _),rfl,.inl ⟨rfl,rfl⟩⟩,?_⟩
 .have e:fe T (Q.take 0) ch=T:=il.2 λt _=>by simp
  rw[e];exact h
 rintro _ _ X ⟨i,k,b,r,s,jL,rfl,hi,rfl,u,d5,n5,z⟩;have Z:fl (λq=>¬b.T.M q) X tl (Q.map aC.kv):=G.wL d5;refine⟨λaH=>?_,λJ=>?_⟩
 rotate_left
 .have J:=cC J
  have e:i=Q.length:=by omega
  subst e;rw[j3]at u⊢;exact⟨rfl,k,b,r,s,jL,u,d5,n5,z⟩
 have aH:=cf aH;have A:i<Q.length:=by omega
 have hx:=y _ (cL A);have aa:=h.ok _ hx;have o:Q.take (i+1)=Q.take i++ [Q[i]]:=j1 A;have ac:Q[i]∉Q.take i:=λad=>by
  have h1:(Q.take (i+1)).Nodup:=H.sublist (te _ _);rw[o]at h1;exact(s_.1 h1).2.2 _ ad _ (fg.2 rfl) rfl
 have p:(Q.take (i+1)).filter ch=(Q.take i).filter ch++if ch Q[i] then [Q[i]] else []:=by rw[o,gN,jF,List.filter_nil]
 refine cw (λg w'=>∃ (k:Nat) (j:cc) (B C:O Nat) (lf:O aC),g=(((Q.take (i+1)).filter ch).length:Nat)/\c4 w0 w' bg d n l ab most j B C (fe T (Q.take (i+1)) ch) lf (c+((Q.take (i+1)).filter ch).length)/\eg k S j w w'/\j.now=S.now/\kW S bA j lf) (λaA D=>?_) ?_
 rotate_left
 .rintro _ aB ⟨ag,j,B,C,lf,rfl,ai,d6,n6,al⟩
  rw[mH I];exact⟨⟨i+1,ag,j,B,C,lf,rfl,I,rfl,ai,d6,n6,al⟩,by show((Q.length:Int)-((i+1:Nat):Int)).toNat<((Q.length:Int)-(i:Nat)).toNat;omega⟩
 refine J_ Z A (λt ht=>h.ok t (y t ht)) λaD am tk cQ aE K aF an ao E=>⟨λa=>(by cases a),λ_=>⟨_,ao.rd (aC.bq _),hf.1,((hf.2 Q[i] am (c0 d5.ah (af.cW (W:=λ_=>False) K) λ_ _ h=>h.elim)).use ?_)⟩⟩;rintro _ ap ⟨rfl,L⟩;have F:=K.trans L;refine⟨_,rfl,λa=>?_,λa=>?_⟩
 .have a:ch Q[i]=false:=by rwa[iJ]at a
  rw[a]at p;rw[o,Ka a,←o,p,if_neg (by decide),fx]at D;exact D _ _ ⟨_,b,r,s,jL,rfl,u.ext F,d5.trans (.ext b F),n5,z⟩
 .have a:ch Q[i]=true:=by rwa[l9]at a
  rw[a,if_pos rfl]at p;have N:=cA ap;have x:=F.trans N;have P:=u.ext x;have ar:=mY ch (Q.take i);rw[cG]at ar;refine aX ⟨λ_=>False,_,rfl,id,_,P.v.cell,id,tk,((an.ext L).ext N).cell,((P.del aa.k I (E.1.ext x) λq R=>⟨?_,(E.2.2 q R).1⟩).use ?_)⟩
  .have:=(E.2.2 q R).2
   have:=x.size;omega
  rintro _ aG ⟨rfl,aJ,au,av,aw,iy,U,d7,n7,ay⟩;refine⟨_,0,rfl,λa=>(by cases a),λ_=>?_⟩;rw[←Kb h.kX h.keys hx ac a,←o]at U;rw[mH I,show((Q.take i).filter ch).length+1=((Q.take (i+1)).filter ch).length by rw[p,ct];rfl];refine D _ _ ⟨_,au,av,aw,iy,rfl,?_,(d5.trans (.ext b x)).trans d7,n7.trans n5,z.trans ay⟩;rw[p,ct];exact U
end
def eO(now:Nat)(t:aC):al:=decide (t.u<=now)
section
variable {w0 w w' w1:J}{bg B:Nat->Prop}{d n ab most k c q i cd m:Nat}{l:eC}{S aD dG:cc}{pages dN aM fT:O Nat}{T au bA dj jz Q:O aC}{s b:Int}{p:bo}{x t:aC}{ch:aC->al}{tl:ad}{fr:Key}{L:O aN}
theorem DV(h:gx T)(d:gM T fr≠ []):(gM T fr).getLast? =T.getLast? :=by
 obtain⟨x,hx⟩:=pG _ d;obtain⟨b,a⟩:=gi.1 hx;have c:T≠ []:=List.ne_nil_of_mem b;obtain⟨au,z,e⟩:∃au z,T=au++ [z]:=⟨T.dropLast,T.getLast c,(List.dropLast_concat_getLast c).symm⟩;subst e;have f:decide (dR fr z.kv.1)=true:=by
  rcases cO.1 b with h1|h1
  .have h2:=(l8.1 h).2.2 x h1 z (fg.2 rfl)
   exact dI (yb (cf a) (ic h2))
  .rw[fg.1 h1]at a;exact a
 unfold gM;rw[gN,jF,f];simp
theorem DW(h:gx T)(b:(gM T fr).length<=m):ky T (eD T fr m)=[]:=by
 unfold ky eD;rw[dO b];by_cases a:gM T fr=[]
 .rw[a];rfl
 .rw[DV h a]
  cases T.getLast? with
  |none=>rfl
  |some t=>simp
theorem DX(h:gx T)(h1:1<=m)(b:m<(gM T fr).length)(a:m-1<(eD T fr m).length):ky T (eD T fr m)=((eD T fr m)[m-1]'a).kv.1++ [0]:=by
 have c:(eD T fr m)[m-1]'a=(gM T fr)[m-1]'I:=mW ..;have hlen:(eD T fr m).length=m:=by unfold eD;rw[cG];omega
 have d:(eD T fr m).getLast? =some ((gM T fr)[m-1]'I):=by
  rw[List.getLast?_eq_getElem?,hlen,←c,dH a]
 have f:gM T fr≠ []:=λe=>by rw[e]at b;cases b
 have g:gx (gM T fr):=List.Pairwise.filter _ h;unfold ky;rw[d,c,←DV h f];show(if _ then _ else _)=_;rw[if_neg];intro e;rw[List.getLast?_eq_getElem?,dH I]at e;have h2:=kZ.1 g (m-1) ((gM T fr).length-1) I I I;rw[Option.some.inj e]at h2;exact jN _ h2
theorem Kf(T:O aC)(fr:Key):gT (T.map aC.kv) fr []=(gM T fr).map aC.kv:=by
 unfold gT gM;rw[List.filter_map];refine congrArg _ (n0 λt _=>?_);show(decide (dR fr t.kv.1)&&(true||_))=_;rw[Bool.true_or,pB]
theorem fl.head(h:fl B w tl L)(g:m<=L.length):fl B w ⟨aY tl.a 2 0 tl.cap,m-0,tl.cap-0⟩ (L.take m):=by
 have i:=h.len;obtain⟨ps,h1,h2,d,b⟩:=h;have c:=Src.Jc h1 h2 (cP m) (by have:=b.1;omega);have e:(ps.drop 0).take (m-0)=ps.take m:=by rw[iK,mR]
 rw[e]at c;exact⟨ps.take m,c,by show m-0<=tl.cap-0;omega,λq f=>d q (HB.1 f),b.take m⟩
theorem Kg{now:Nat}(b:Var w cd [.int .u64 (now:Nat)] 23)(t:aC):aI aj 105 #[.agg t.c.toArray,.pointer (some cd)] w (λv w'=>v=.bool (eO now t)/\Ext w w'):=by
 refine ae.Fk _ cd w _ ?_;(delta ae.r9 cm Y;dsimp only);refine a8 (vs:=t.c) rfl λw1 d a _=>⟨_,yz d,_,(b.ext a).cell,?_,a⟩;unfold eO
 congr 1
 rw[fv,cp,cp];omega
theorem Kh:h6 aj 105:=⟨_,(pE (show(Tryz.prog.funcs[105]?).isSome=true by kernel_rfl)).symm,by kernel_rfl,by kernel_rfl⟩
def stM(m:Int):Nat:=(min m 64).toNat
theorem Ki(h:c4 w0 w bg d n l ab most S pages aM T bA c)(hc:c<=9000){x:ad}{fr:Key}{now:Nat}{m:Int}(D:m<=9223372036854775807)(hf:Src 1 w x (az fr))(E:∀q,aB x q->q<w.heap.size/\¬S.T.M q):
 aI aj 45 #[.pointer (some ab),x,.int .u64 (now:Nat),m] w (λv w'=>∃t:ad,v=.tuple #[t,.int .i64 (((eD T fr (stM m)).filter (eO now)).length:Nat),(0:Int)]/\
  aV 1 5 w' t (az (ky T (eD T fr (stM m))))/\(∀q,aB t q->w.heap.size<=q)/\∃ (k:Nat) (aD:cc) (dN fT:O Nat) (dj:O aC),c4 w0 w' bg d n l ab most aD dN fT (fe T (eD T fr (stM m)) (eO now)) dj (c+1+((eD T fr (stM m)).filter (eO now)).length)/\eg k S aD w w'/\aD.now=S.now/\kW S bA aD dj/\∀q,aB t q->¬aD.T.M q):=by
 refine okF (ae.uC (some ab) x (now:Nat) m) ax.uC func45 ?_;(delta ae.uC ak ey aq r1 Y bG gB;dsimp only);refine a8 (vs:=[.int .u64 (now:Nat)]) rfl λw1 ac p aO=>⟨λb=>(by cases b),λ_=>⟨min m 64,w1,JV _ _ _ _ _,λaH=>?_,λF=>?_⟩⟩
 .have aH:=cf aH
  have e:stM m=0:=by unfold stM;omega
  have af:eD T fr (stM m)=[]:=by unfold eD;rw[e,List.take_zero]
  have ag:fe T [] (eO now)=T:=il.2 λt _=>by simp
  rw[af,ag];exact⟨⟨none,0,0⟩,rfl,aV.none _ _ _,λq a=>(fV q a).elim,0,S,pages,aM,bA,(h.ext p).mono I,.ext S p,rfl,.inl ⟨rfl,rfl⟩,λq a=>(fV q a).elim⟩
 have F:=cC F;obtain⟨M,G⟩:∃M,M=stM m:=⟨_,rfl⟩;have ai:min m 64=(M:Int):=by rw[G];unfold stM;omega
 rw[←G,ai];have al:1<=M/\M<=64:=by omega
 rw[mH I];have h1:=h.ext p;refine⟨_,rfl,_,h1.v.cell,(h1.scan I (tt:=bJ) (to:=[]) (hf.ext p) (λq a=>⟨by have:=(E q a).1;omega,(E q a).2⟩) (Je w1) (λq a=>(fV q a).elim) (by decide)).use ?_⟩;rintro _ H ⟨t6,y,rfl,J,d6,K,j⟩;rw[Kf,di]at j;obtain⟨Q,g⟩:∃Q,Q=eD T fr M:=⟨_,rfl⟩;have am:¬y.W w.heap.size:=λr=>(d6.c1 _ r.1).elim (h.new _ (bl _)) λaP=>by omega
 have an:=ac.ah d6.ah λr=>h.new _ (bl _) r.1;have aQ:=d6.ah.size;have hlen:=j.len;rw[cG,dk]at hlen;have L:Q.map aC.kv=((gM T fr).map aC.kv).take M:=by rw[g];exact l6
 refine⟨t6,0,rfl,λb=>(by cases b),λ_=>rO (λs N w'=>Ext H w'/\fl (λq=>¬y.T.M q) w' N (Q.map aC.kv)/\aV 1 5 w' s (az (ky T Q))/\∀q,aB s q->H.heap.size<=q) (λaR P=>⟨λb=>?_,λb=>?_⟩) ?_⟩
 .have b:=cf b
  have B:M<(gM T fr).length:=by omega
  have C:=j.head (m:=M) (by rw[cG,dk];omega);rw[nT,hZ I,←L]at C;have aS:Q.length=M:=by rw[g];unfold eD;rw[cG];omega
  have R:M-1<Q.length:=by omega
  obtain⟨A,tk,cQ,ar,ao,aU,_,b9,_⟩:=Ds C (i:=M-1) (by rw[dk];exact R);rw[List.getElem_map]at b9;have ap:IntKind.wrap .i64 ((M:Int)-1)=((M-1:Nat):Int):=by rw[br I I];omega
  rw[ap,di];have aT:=j.choose_spec.2.1;refine⟨I,A,ar,ao,tk,aU,a8 (vs:=[.int .u8 0]) rfl λaW au U aY=>aX ((BU (la:=Q[M-1].kv.1) (lb:=[0]) (b9.1.ext U) (au.qH (o:=0) (n:=1) (c:=1) (l:=[0]) (by decide) rfl) ?_).use ?_)⟩
  .have av:cz Q[M-1].kv.1:=s3
   unfold cz at av;show _+1<=1000;omega
  rintro _ aZ ⟨aw,rfl,ay,aA,aE⟩;have V:=U.trans aA;refine⟨aw,rfl,P _ _ _ ⟨V,C.ext V,?_,λq a=>by have:=aE q a;omega⟩⟩;have e:ky T Q=Q[M-1].kv.1++ [0]:=by
   subst g;exact DX h.kX al.1 B R
  rw[e];exact ay
 .have b:=cC b
  have B:(gM T fr).length<=M:=by omega
  have e:ky T Q=[]:=by rw[g];exact DW h.kX B
  refine P _ _ _ ⟨.refl _ _,?_,?_,λq a=>(fV q a).elim⟩
  .rw[L]
   rw[dO (by rw[dk];omega)]at j⊢;exact j
  .rw[e];exact aV.none _ _ _
 .rintro s N a0 ⟨z,aF,X,Z⟩
  have a1:=z.size;refine(Ke (f:=⟨105,#[],#[.pointer (some w.heap.size)]⟩) (ch:=eO now) (J.ext z) I aF (λt ht=>?_) ?_ ⟨Kh,λt w' hc=>Kg ((an.ext z).ah hc am) t⟩).use ?_
  .rw[g]at ht
   exact(gi.1 (fM ht)).1
  .rw[g]
   exact(h.kX.nodup.filter _).sublist (te _ _)
  rintro _ a2 ⟨rfl,a3,aG,aJ,aK,iy,aL,d7,n7,aN⟩;rw[←g];have aa:∀q,aB s q->¬y.T.M q:=λq a=>J.new q (Z q a);exact⟨_,0,rfl,λb=>(by cases b),λ_=>⟨s,rfl,X.ah d7.ah λq a r=>aa q a r.1,λq a=>by have:=Z q a;omega,_,aG,aJ,aK,iy,aL,(((eg.ext S p).trans d6).trans (.ext y z)).trans d7,n7.trans K.now,kW.trans (.inl ⟨by rw[K.u],rfl⟩) aN,λq a D=>(d7.c1 q D).elim (aa q a) λa4=>by have:=X.lt q a;omega⟩⟩
end
theorem zH:∀ (k y:Key),dR (k++ [0]) y↔bt k y
 | [],[]=>by decide
 | [],c::y=>by
  unfold dR bt
  rw[hY,dL,dL]
  have h0:¬dL y []<0:=by cases y<;>simp[dL]
  have hc:¬c.toNat<(0:UInt8).toNat:=Nat.not_lt_zero _
  rw[if_neg hc]
  split
  .simp
  .simp[h0]
 |a::k,[]=>by simp[dR,bt,dL]
 |a::k,c::y=>by
  have b:=zH k y
  unfold dR bt at b⊢
  rw[l2,dL,dL]
  rcases Nat.lt_trichotomy a.toNat c.toNat with h|h|h
  .simp[h,Nat.not_lt.2 (Nat.le_of_lt h)]
  .rw[if_neg I,if_neg I,if_neg I,if_neg I];exact b
  .simp[h,Nat.not_lt.2 (Nat.le_of_lt h)]
section
variable {T:O aC}{fr:Key}{a m:Nat}{st:aC->al}
theorem Kj(a b:O aC):fe (fe T a st) b st=fe T (a++b) st:=by
 unfold fe;rw[List.filter_filter];refine n0 λt _=>?_;by_cases h1:t∈a<;>by_cases h2:t∈b<;>cases st t<;>simp[h1,h2]
theorem Kk{Q:O aC}(h:gx T):gx (fe T Q st):=List.Pairwise.filter _ h
theorem Kl(h:gx T){b:Nat}(c:b<T.length):gM (fe T (T.take (b+1)) st) (T[b].kv.1++ [0])=T.drop (b+1):=by
 unfold gM fe;rw[List.filter_filter];have e:T=T.take (b+1)++T.drop (b+1):=(fK _ _).symm
 conv=>lhs;arg 2;rw[e]
 rw[gN];have h1:=zE h c;have aH:∀y∈T.take (b+1),¬bt T[b].kv.1 y.kv.1:=λy a=>by
  rw[j1 c]at a;rcases cO.1 a with a|a
  .exact jO (h1.1 y a)
  .rw[fg.1 a];exact jN _
 rw[lB.2 λy a=>by simp[zH,aH y a],hY,il.2 λy a=>?_];have d:y∉T.take (b+1):=λf=>aH y f (h1.2 y a);simp[zH,h1.2 y a,d]
structure q8(T:O aC)(st:aC->al)(a:Nat)(eP:O aC)(at_:Key):Prop where
 le:a<=T.length
 t:eP=fe T (T.take a) st
 f:gM eP at_=T.drop a
theorem q8.step{eP:O aC}{at_:Key}(h:q8 T st a eP at_)(i:gx T)(l:1<=m):eD eP at_ m=(T.drop a).take m/\fe eP (eD eP at_ m) st=fe T (T.take (a+m)) st/\
 ((T.length<=a+m/\ky eP (eD eP at_ m)=[])\/(a+m<T.length/\ky eP (eD eP at_ m)≠ []/\q8 T st (a+m) (fe eP (eD eP at_ m) st) (ky eP (eD eP at_ m)))):=by
 have c:eD eP at_ m=(T.drop a).take m:=by unfold eD;rw[h.f]
 have e:fe eP (eD eP at_ m) st=fe T (T.take (a+m)) st:=by rw[c,h.t,Kj,←List.take_add]
 have j:gx eP:=by rw[h.t];exact Kk i
 refine⟨c,e,?_⟩;rcases ei (a+m) T.length with d|d
 .right
  have hlen:m<(gM eP at_).length:=by rw[h.f,ed];omega
  have k:m-1<(eD eP at_ m).length:=by rw[c,cG,ed];omega
  have g:=DX j l hlen k;have n:(eD eP at_ m)[m-1]'k=T[a+m-1]'I:=by
   simp only[c,mW,rn]
   congr 1;omega
  rw[n]at g;refine⟨d,by rw[g];simp,Nat.le_of_lt d,e,?_⟩;rw[e,g];have o:=Kl (st:=st) i (b:=a+m-1) I;rwa[show a+m-1+1=a+m from I]at o
 .exact .inl ⟨d,DW j (by rw[h.f,ed];omega)⟩
theorem q8.begin(a:gx T):q8 T st 0 T []:=by
 refine⟨cP _,?_,?_⟩
 .unfold fe
  exact(il.2 λt _=>by simp).symm
 .unfold gM
  rw[iK];exact il.2 λt _=>dI (by unfold dR;cases t.kv.1<;>simp[dL])
theorem Km(b:T.length<=a):fe T (T.take a) st=T.filter λt=> !st t:=by
 unfold fe;rw[dO b];exact n0 λt ht=>by simp[ht]
theorem DY(p:aC->al):∀T:O aC,(T.filter p).length+(T.filter λt=> !p t).length=T.length
 | []=>rfl
 |x::T=>by
  have:=DY p T
  rw[jF,jF]
  cases p x<;>simp<;>omega
end
section
variable {B:Nat->Prop}{w w':J}{s:ad}{T:O aC}{t:aC}{a6 i most:Nat}
theorem Kn(h:aV 21 57 w s (bz aC.c T))(hi:i<T.length)(t:aC):∃A:ag,s.a=some A/\((0:Int)<=(i:Int)/\(i:Int)<(s.len:Int))/\bD w (A.add (Int.toNat (i:Int)*21)) (Array.toList t.c.toArray)/\Array.size t.c.toArray=21/\
 aV 21 57 (setCells w (A.add (Int.toNat (i:Int)*21)) 0 (Array.toList t.c.toArray)) s (bz aC.c (T.set i t))/\af (aB s) w (setCells w (A.add (Int.toNat (i:Int)*21)) 0 (Array.toList t.c.toArray)):=by
 obtain⟨h1,h2,k,m⟩:=h;have r:s.len=T.length:=by rw[fD _ (kT T)]at h1;omega
 rcases m with ⟨_,hc⟩|⟨b,c,d,f,n,ht⟩
 .omega
 have g:=t.bq;have j:i*21+t.c.length<=c.size:=by omega
 rw[di];refine⟨_,d,I,?_,by simp[g],?_,?_⟩
 .rw[aA,cT]
  exact f.cj _ _ j (aC.plain t)
 .rw[aA,cT]
  refine⟨?_,h2,k,.inr ⟨b,_,d,bp.k9 f t.c,by rw[h8];exact n,?_⟩⟩
  .rw[fD _ (kT _),dr];omega
  .rw[k8 _ _ _ j,wR,if_pos hi,lU]
   show _=_++(t.c++bz aC.c (T.drop (i+1)));have o:=sV (c:=aC.c) (sz:=21) T i (kT T);have p:=sV (c:=aC.c) (sz:=21) T (i+1) (kT T);rw[←o.1,←p.2,←ht,nT,hZ I,cB,List.take_append,List.take_append,cG,Array.length_toList,hZ I,dO (l:=c.toList.take _) (by rw[cG];omega),dO (l:=t.c) I,List.drop_take];rw[g,show s.len*21-i*21-21=s.len*21-(i+1)*21 from I,show i*21+21=(i+1)*21 from I]
 .rw[aA,cT]
  refine(af.jK (b:=b) (.refl _ _) _ 0).mono λq _ e=>?_;rw[e];exact⟨_,d,rfl⟩
theorem Ko(h:gw B w a6 (most:Nat) s T)(a3:T.length<=1000000)(az:∀q,w.heap.size<=q->B q)(V:gx T)(W:∀t∈T,dT t.s t.p=true)(t:aC):
 aI aj 44 #[.pointer (some a6),.agg t.c.toArray] w (λv w'=>v=.int .i64 (iI T most t)/\af (λq=>q=a6) w w'/\∃g,gw B w' a6 (most:Nat) g (kz T most t)):=by
 have aB:=h.len;have hc:=h.c;have bm:=h.v.lt;refine ae.FH (some a6) _ w _ ?_;(delta ae.so Y b8 ak aG bX r1 aP st bG aq lf uc;dsimp only);refine a8 (vs:=t.c) rfl λw1 aD a4 bn=>⟨t.c,aD.rd (aC.bq t),(nn t w1).use ?_⟩;rintro _ y ⟨rfl,aE⟩;have D:=a4.trans aE;refine⟨_,rfl,λd=>?_,λd=>?_⟩
 .have hg:t.ef=false:=by rwa[iJ]at d
  have e:iI T most t=1:=by unfold iI;rw[hg];rfl
  unfold kz;rw[e];exact⟨rfl,af.cW D,s,h.ext D⟩
 have hg:t.ef=true:=by rwa[l9]at d
 have X:dT t.s t.p=true:=by have:=hg;unfold aC.ef at this;rw[c5]at this;exact this.1
 have Z:=aD.ext aE;have he:iI T most t=if (T.find? (dp t.s t.p)).isSome then 0 else if most<=T.length then 2 else 0:=by unfold iI;rw[hg,if_pos rfl]
 refine⟨_,Z.cell,_,qR Z,(Jy (h.v.ext D) (h.gG.ext D) a3).use ?_⟩;rintro _ z ⟨rfl,aF⟩;have E:=D.trans aF;have L:=h.ext E;have aJ:=Z.ext aF;have bo:=E.size;refine⟨_,rfl,λF=>?_,λaH=>?_⟩
 .have F:=cf F
  obtain⟨i,hf⟩:∃i,T.findIdx? (dp t.s t.p)=some i:=by
   cases hf:T.findIdx? (dp t.s t.p) with
   |some i=>exact⟨i,rfl⟩
   |none=>unfold pw at F;rw[hf]at F;exact absurd F (by decide)
  have e:pw T t.s t.p=(i:Int):=by unfold pw;rw[hf]
  obtain⟨hi,a5⟩:=J7 V hf;have hs:(T.find? (dp t.s t.p)).isSome=true:=by
   rw[List.find?_isSome];exact⟨T[i],cL hi,(List.findIdx?_eq_some_iff_getElem.1 hf).2.1⟩
  rw[hs,if_pos rfl]at he;rw[e,he];have f0:=Jz z;obtain⟨ab,ac,aw,ay,C,bp,br,_⟩:=hT.app (cD:=22) zu f0 (L.gG.ext f0.x) (zv T) (by show(2*(0+s.len)+1000)*56<=_;omega);rw[hY]at C;have a7:=aJ.ext C.x;obtain⟨A,ar,ah,b9,cq,a9,a_⟩:=Kn C.o hi t;have ai:Ext z (setCells ac (A.add (Int.toNat (i:Int)*21)) 0 (Array.toList t.c.toArray)):=Ext.dX C.x a_ C.f;have bb:hT 21 57 z (setCells ac (A.add (Int.toNat (i:Int)*21)) 0 (Array.toList t.c.toArray)) ab (bz aC.c (T.set i t)):=⟨a9,ai,C.f⟩;obtain⟨bk,bf,al,am⟩:=L.put ai bb λq l=>az q I;refine⟨_,_,zt z,_,rfl,s,by rw[aA];exact(L.v.ext f0.x).cell,ab,ac,aw,t.c,a7.rd (aC.bq t),A,ar,ah,b9,cq,aX ⟨_,rfl,bk,bf,aX ⟨rfl,?_,ab,?_⟩⟩⟩
  .exact c0 (af.cW (E.trans ai)) am λq _ e=>e
  .unfold kz
   rw[he,if_pos rfl,←a5];exact al
 have aH:=cC aH;have hf:T.findIdx? (dp t.s t.p)=none:=by
  cases hf:T.findIdx? (dp t.s t.p) with
  |none=>rfl
  |some i=>unfold pw at aH;rw[hf]at aH;dsimp only at aH;omega
 have hs:(T.find? (dp t.s t.p)).isSome=false:=by
  rw[←fm,List.find?_isSome];rintro⟨x,hx,d⟩;have:=List.findIdx?_eq_none_iff.1 hf x hx;rw[d]at this;cases this
 rw[hs,if_neg (by decide)]at he;have M:=cA z;have ao:=L.ext M;refine aX ⟨_,rfl,id,s,by rw[aA];exact ao.v.cell,_,rfl,id,_,ao.v.cell,λd=>?_,λd=>?_⟩
 .have d:=cf d
  rw[if_pos I]at he;unfold kz;rw[he];exact⟨rfl,af.cW (E.trans M),s,ao⟩
 have d:=cC d;rw[if_neg I]at he;have aK:∀x:aC,dT x.s x.p=true->pt x.s x.p=x.kv.1:=λx hx=>by unfold pt;rw[if_pos hx];rfl
 have aL:∀x:aC,x.kv.1.length<=1000000:=λx=>by have N:cz x.kv.1:=s3;unfold cz at N;omega
 have aM:∀ (b:J) (i:Nat) (g:ad) (y:J),Ext w b->T.take i++t::T.drop i=g6 T t->hT 21 57 b y g (bz aC.c (T.take i)++t.c++bz aC.c (T.drop i))->
  ∃O:ag,some (a6:ag)=some O/\(∃u:aa,y.cell? (O.add 1)=some u)/\y.frozen? (O.add 1)=false/\an (y.setCell (O.add 1) g) λaN=>(Value.int .i64 0=.int .i64 (iI T most t)/\af (λq=>q=a6) w aN/\∃g,gw B aN a6 (most:Nat) g (kz T most t)):=λb i g y hx l hf=>by
  have e:bz aC.c (T.take i)++t.c++bz aC.c (T.drop i)=bz aC.c (g6 T t):=by rw[←l,lU,cB];rfl
  rw[e]at hf;have aO:=hx.size;obtain⟨bk,bf,al,am⟩:=(h.ext hx).put hf.x hf λq l=>az q I;refine⟨_,rfl,bk,bf,aX ⟨by rw[he],c0 (af.cW (hx.trans hf.x)) am λq _ e=>e,g,?_⟩⟩;unfold kz;rw[he,if_pos rfl];exact al
 have aQ:∀ {b:J} (i:Nat),Ext w b->i<=T.length->Src 21 b ⟨aY s.a 21 0 s.cap,i-0,s.cap-0⟩ (bz aC.c (T.take i))/\Src 21 b ⟨aY s.a 21 i s.cap,s.len-i,s.cap-i⟩ (bz aC.c (T.drop i)):=λ{b} i hx hi=>by
  have a1:=Src.cut ((h.ext hx).gG) hc (cP i) I;have a2:=Src.cut ((h.ext hx).gG) hc (lo:=i) (hi:=s.len) I (bl _);rw[JA T i hi]at a1;rw[aB,JB T i hi,←aB]at a2;exact⟨a1,a2⟩
 have P:∀i,(∀v∈bz aC.c (T.take i),Plain v)/\∀v∈bz aC.c (T.drop i),Plain v:=λi=>⟨zv _,zv _⟩;refine⟨λn w'=>∃i:Nat,n=(i:Int)/\i<=T.length/\Ext z.drew w'/\∀a∈T.take i,bt a.kv.1 t.kv.1,λn _=>((T.length:Int)-n).toNat,⟨0,rfl,cP _,.refl _ _,λa k=>by simp at k⟩,?_⟩;rintro _ aR ⟨i,rfl,hi,bc,ap⟩;have Q:=bc.trans (cA aR);have R:=(E.trans M).trans Q;have S:=h.ext R;have U:=(aJ.ext M).ext Q;refine aX ?_;generalize aR.drew=au at Q R S U;refine⟨λ_=>False,_,rfl,id,s,by rw[aA];exact S.v.cell,λG=>?_,λG=>⟨λd=>(by cases d),λ_=>?_⟩⟩
 .have G:=cf G
  have av:i<T.length:=by omega
  obtain⟨A,ar,ah,_,_,bd⟩:=pv S.gG av;refine⟨_,rfl,id,s,by rw[aA];exact S.v.cell,A,ar,ah,id,_,bd,id,t.c,U.rd (aC.bq t),(np T[i] au).use ?_⟩;rintro _ be ⟨bg,rfl,aS,aT,_⟩;refine⟨bg,rfl,af.cW aT,(np t be).use ?_⟩;rintro _ bs ⟨bh,rfl,aV,aW,_⟩;rw[aK _ (W _ (cL av))]at aS;rw[aK _ X]at aV;refine⟨bh,rfl,(qD (aS.src.ext aW) aV.src (aL _) (aL _)).use ?_⟩;rintro _ aZ ⟨n,rfl,a0,bi⟩;have ax:=(aT.trans aW).trans bi;refine⟨n,rfl,λm=>?_,λm=>?_⟩
  .have m:=a0.1 (cf m)
   rw[mH I];refine⟨⟨i+1,rfl,I,Q.trans ax,λa k=>?_⟩,by show((T.length:Int)-((i+1:Nat):Int)).toNat<((T.length:Int)-(i:Nat)).toNat;omega⟩;rw[j1 av]at k;rcases cO.1 k with k|k
   .exact ap a k
   .rw[fg.1 k];exact m
  .have m:¬bt T[i].kv.1 t.kv.1:=λN=>cC m (a0.2 N)
   have l:=DP V W X hf hi ap λ_=>m;have H:=cA aZ;have j:=(R.trans ax).trans H;have r:=(U.ext ax).ext H;refine aX ?_;generalize aZ.drew=b at j r;have K:=h.ext j;have aO:=j.size;have bj:=r.lt;obtain⟨aU,ba⟩:=aQ i j hi;refine⟨λq=>b.heap.size<=q,_,rfl,by rw[aA];show¬b.heap.size<=a6;omega,s,by rw[aA];exact K.v.cell,I,by show¬b.heap.size<=w.heap.size;omega,t.c,r.rd (aC.bq t),_,rfl,by rw[aA];show¬b.heap.size<=a6;omega,s,by rw[aA];exact K.v.cell,I,?_⟩;rw[di];exact Cr (x:=t.c) zu zt (λw=>DB w t) (aC.bq t) aU ba (aC.plain t) (P i).1 (P i).2 (by show(2*((i-0)+(s.len-i)+1)+1000)*56<=_;omega) (λg w' hf=>aM b i g w' j l hf)
 .have G:=cC G
  have bu:i=T.length:=by omega
  have l:=DP V W X hf hi ap λN=>by omega
  have H:=cA au;have j:=R.trans H;have r:=U.ext H;refine aX ?_;generalize au.drew=b at j r;have K:=h.ext j;have aO:=j.size;have bj:=r.lt;obtain⟨aU,ba⟩:=aQ i j hi;refine⟨λq=>b.heap.size<=q,_,rfl,by rw[aA];show¬b.heap.size<=a6;omega,s,by rw[aA];exact K.v.cell,I,by show¬b.heap.size<=w.heap.size;omega,t.c,r.rd (aC.bq t),_,rfl,by rw[aA];show¬b.heap.size<=a6;omega,s,by rw[aA];exact K.v.cell,I,?_⟩;rw[di];exact Cr (x:=t.c) zu zt (λw=>DB w t) (aC.bq t) aU ba (aC.plain t) (P i).1 (P i).2 (by show(2*((i-0)+(s.len-i)+1)+1000)*56<=_;omega) (λg w' hf=>aM b i g w' j l hf)
end
section
variable {w0 w w' w1:J}{bg bN:Nat->Prop}{d n ab a6 most k c q:Nat}{l:eC}{S aD dG:cc}{pages dN aM fT:O Nat}{T au bA dj jz:O aC}{s:ad}
theorem c4.grow(h:c4 w0 w bg d n l ab most S pages aM T bA c)(hx:Ext w w')(a:∀q,bN q->bg q\/(w.heap.size<=q/\q<w'.heap.size))(b:bN ab):c4 w0 w' bN d n l ab most (S.own bN) pages aM T bA c:=
 ⟨h.s.grow hx a,h.live,h.q,b,h.v.ext hx,h.ok,h.wM,h.q7,h.wN,h.eK,h.jy,h.bT,h.kX⟩
theorem c4.jv(h:c4 w0 w bg d n l ab most S pages aM T bA c)(a:bg q)(b:ab≠q)(hc:af (λx=>x=q) w w'):c4 w0 w' bg d n l ab most S pages aM T bA c:={h with s:=h.s.jv a hc,v:=h.v.ah hc b}
theorem gw.wL{m:Int}(h:gw (λq=>¬S.T.M q) w a6 m s T)(hd:eg k S aD w w')(he:S.T.E a6/\a6≠S.st):gw (λq=>¬aD.T.M q) w' a6 m s T:=
 ⟨h.v.ah hd.ah λd=>he.2 (d.2 he.1),h.gG.ah hd.ah λq a d=>(h.b q a).1 d.1,h.c,λq a=>⟨λe=>(hd.c1 q e).elim (h.b q a).1 λg=>by have:=(h.b q a).2;omega,by have:=(h.b q a).2;have:=hd.ah.size;omega⟩,λf=>f (.inr (.inr (.inr (.inl (by rw[hd.E];exact he.1)))))⟩
structure gY(w0 w:J)(bg:Nat->Prop)(d n:Nat)(l:eC)(ab a6 most:Nat)(S:cc)(T bA:O aC)(c:Nat):Prop where
 a:∃pages aM,c4 w0 w bg d n l ab most S pages aM T bA c
 s4:bg a6
 ne:ab≠a6
 m:∃s,gw (λq=>¬S.T.M q) w a6 (most:Nat) s T
structure g7(a6:Nat)(S:cc)(bA:O aC)(w:J)(aD:cc)(dj:O aC)(w':J):Prop where
 now:aD.now=S.now
 g:kW S bA aD dj
 ah:af (λq=>S.W q\/q=a6) w w'
 c1:∀q,aD.T.M q->S.T.M q\/w.heap.size<=q
 E:aD.T.E=S.T.E
 st:aD.st=S.st
theorem g7.ext(hx:Ext w w'):g7 a6 S bA w S bA w':=⟨rfl,.inl ⟨rfl,rfl⟩,af.cW hx,λ_ h=>.inl h,rfl,rfl⟩
theorem g7.of(hd:eg k S aD w w')(a:aD.now=S.now)(hg:kW S bA aD dj):g7 a6 S bA w aD dj w':=⟨a,hg,hd.ah.mono λ_ _ h=>.inl h,hd.c1,hd.E,hd.st⟩
theorem g7.trans{c:cc}{d:O aC}{e:J}(h:g7 a6 S bA w aD dj w')(a:g7 a6 aD dj w' c d e):g7 a6 S bA w c d e:=
 ⟨a.now.trans h.now,h.g.trans a.g,c0 h.ah a.ah λq f b=>b.imp (λb=>⟨(h.c1 q b.1).resolve_right I,λhe=>by rw[←h.st];exact b.2 (by rw[h.E];exact he)⟩) id,λq f=>(a.c1 q f).elim (h.c1 q) λi=>.inr (eE h.ah.size i),a.E.trans h.E,a.st.trans h.st⟩
theorem g7.DZ(h:g7 a6 S bA w aD dj w'){a:J}(hc:af (λq=>q=a6) w' a):g7 a6 S bA w aD dj a:={h with ah:=h.ah.trans (hc.mono λ_ _ h=>.inr h)}
theorem gY.ext(h:gY w0 w bg d n l ab a6 most S T bA c)(hx:Ext w w'):gY w0 w' bg d n l ab a6 most S T bA c:=by
 obtain⟨⟨cJ,p,h1⟩,h2,a,s,b⟩:=h;exact⟨⟨cJ,p,h1.ext hx⟩,h2,a,s,b.ext hx⟩
theorem gY.mono{e:Nat}(h:gY w0 w bg d n l ab a6 most S T bA c)(he:c<=e):gY w0 w bg d n l ab a6 most S T bA e:=by
 obtain⟨⟨cJ,p,h1⟩,h2,a,b⟩:=h;exact⟨⟨cJ,p,h1.mono he⟩,h2,a,b⟩
theorem gY.kV(h:gY w0 w bg d n l ab a6 most S T bA c):S.T.E a6/\a6≠S.st:=by
 obtain⟨⟨cJ,p,h1⟩,h2,_⟩:=h;exact h1.s.kV h2
theorem gY.whole{s:ad}(h:c4 w0 w bg d n l ab most S pages aM T bA c)(he:bg a6)(a:ab≠a6)(hc:af (λq=>q=a6) w w')(b:gw (λq=>¬S.T.M q) w' a6 (most:Nat) s T):gY w0 w' bg d n l ab a6 most S T bA c:=⟨⟨pages,aM,h.jv he a hc⟩,he,a,s,b⟩
end
section
variable {w0 w w' w1:J}{bg bN:Nat->Prop}{d n ab a6 most k c q:Nat}{l:eC}{S aD dG:cc}{pages dN aM fT:O Nat}{T au bA dj jz:O aC}
theorem oX{most b:Nat}(o:1<=most/\most<=350)(f:b<256)(w:J):aI aj 36 #[most,.int .u8 (b:Nat)] w (λv w'=>∃ (ab d:Nat) (S:cc),v=.tuple #[.pointer (some ab),.pointer (some d),true]/\c4 w w' (λq=>q=ab) d (4*most+64) (lv b) ab most S [] [] [] [] 0/\S.u=jx/\S.now=jx.clock):=by
 refine okF (ae.oX (most:Nat) (b:Nat)) ax.oX func36 ?_;delta ae.oX ia aq Ba;have p:IntKind.wrap .i64 ((IntKind.wrap .i64 (4*(most:Int)))+64)=((4*most+64:Nat):Int):=by
  rw[br (n:=4*(most:Int)) I I,br I I];omega
 rw[p,J0 f];refine(qd (n:=4*most+64) I I w).use ?_;rintro _ w1 ⟨d,lb,mr,rfl,hd,r,s⟩;refine⟨_,0,rfl,by decide,(oW (b:=b) (d:=b/16) f I w1).use ?_⟩;rintro _ B ⟨rfl,g⟩;refine⟨_,_,_,rfl,(JX (l:=lv b) (bg:=λ_=>False) (hd.ext g) (JZ b) (λk=>⟨.inl rfl,.inl rfl⟩) rfl (by show 0<=999999000;omega) (λq h=>h.elim)).use ?_⟩;rintro _ c ⟨e,rfl,x,a,hu,hg⟩;have i:=gX.new (w0:=w) (r.trans g) x a hu hg (λq j=>s q j) (λq h=>h.elim) rfl rfl;have y:(qZ (4*most+64) d lb mr).n=4*most+64:=by show(List.replicate _ hO).length=_;rw[l7]
 rw[y]at i;refine⟨_,0,rfl,(qe c (most:Nat)).use ?_⟩;rintro _ C ⟨z,⟨A,_⟩|⟨_,rfl,m⟩⟩
 .exfalso
  rcases A with h|h|h
  .cases h
  .omega
  .omega
 have D:=m.lt;refine⟨_,0,rfl,c.heap.size,d,e.own λq=>q=c.heap.size,rfl,⟨i.grow z λq j=>.inr I,a.live,a.q,rfl,m,λt ht=>(by cases ht),λt ht=>(by cases ht),?_,λ_=>rfl,⟨cP _,cP _⟩,⟨o.1,I⟩,rfl,List.Pairwise.nil⟩,hu,a.now.trans (by rw[hu])⟩;rw[show(e.own λq=>q=c.heap.size).pending=e.pending from rfl,a.px];show 0<1+b%12;omega
end
section
variable {w0 w w' w1:J}{bg bN:Nat->Prop}{d n ab a6 b most cM k c q i a m:Nat}{l:eC}{S aD dG:cc}{pages dN aM fT:O Nat}{T au bA dj jz eP Q:O aC}{s t:ad}{fr l1:Key}{jA:TypeId}{st:aC->al}
theorem Kp(h:1<=cM/\cM<=64):stM (cM:Nat)=cM:=by unfold stM;omega
theorem Kq:((T.take a).filter st).length+(((T.drop a).take m).filter st).length=((T.take (a+m)).filter st).length:=by rw[List.take_add,gN,ct]
theorem zI(l:O aC):(l.filter st).length<=l.length:=mY _ _
structure gI(S:cc)(w:J)(jA:TypeId)(b p cM:Nat)(s:ad)(fr:Key):Prop where
 v:Var w b [.pointer (some p),s,cM] jA
 gG:Src 1 w s (az fr)
 c:s.len<=s.cap
 mK:∀q,aB s q->¬S.T.M q/\q<w.heap.size
 e:S.T.E b/\b≠S.st
theorem gI.M{p:Nat}(h:gI S w jA b p cM s fr):S.T.M b:=.inr (.inr (.inr (.inl h.e.1)))
theorem gI.to{p:Nat}(h:gI S w jA b p cM s fr)(t:g7 a6 S bA w aD dj w')(f:S.T.M a6)(g:b≠a6):gI aD w' jA b p cM s fr:=
 ⟨h.v.ah t.ah λa=>a.elim (λa=>h.e.2 (a.2 h.e.1)) g,h.gG.ah t.ah λq d a=>a.elim (λa=>(h.mK q d).1 a.1) λe=>(h.mK q d).1 (e▸f),h.c,λq d=>⟨λi=>(t.c1 q i).elim (h.mK q d).1 λj=>by have:=(h.mK q d).2;omega,by have:=(h.mK q d).2;have:=t.ah.size;omega⟩,by rw[t.E,t.st];exact h.e⟩
theorem gI.ext{p:Nat}(h:gI S w jA b p cM s fr)(hx:Ext w w'):gI S w' jA b p cM s fr:=⟨h.v.ext hx,h.gG.ext hx,h.c,λq a=>⟨(h.mK q a).1,ff (h.mK q a).2 hx.size⟩,h.e⟩
theorem gw.to{jy:Int}(h:gw (λq=>¬S.T.M q) w a6 jy s T)(t:g7 b S bA w aD dj w')(f:S.T.M b)(g:a6≠b)(he:S.T.E a6/\a6≠S.st):gw (λq=>¬aD.T.M q) w' a6 jy s T:=
 ⟨h.v.ah t.ah λa=>a.elim (λa=>he.2 (a.2 he.1)) g,h.gG.ah t.ah λq d a=>a.elim (λa=>(h.b q d).1 a.1) λe=>(h.b q d).1 (e▸f),h.c,λq d=>⟨λi=>(t.c1 q i).elim (h.b q d).1 λk=>by have:=(h.b q d).2;omega,by have:=(h.b q d).2;have:=t.ah.size;omega⟩,λj=>j (.inr (.inr (.inr (.inl (by rw[t.E];exact he.1)))))⟩
theorem gI.put{p:Nat}(h:gI S w jA b p cM s fr)(ht:Src 1 w t (az l1))(hc:t.len<=t.cap)(c:∀q,aB t q->¬S.T.M q/\q<w.heap.size):
 (∃u:aa,w.cell? (Addr.add b 1)=some u)/\w.frozen? (Addr.add b 1)=false/\gI S (w.setCell (Addr.add b 1) t) jA b p cM t l1/\af (λq=>q=b) w (w.setCell (Addr.add b 1) t):=by
 rw[aA,cT];obtain⟨b9,cq⟩:=eB h.v (i:=1) (by show 1<3;decide);have d:=dZ w b 1 t;exact⟨b9,cq,⟨eA h.v (i:=1) _,ht.ah d λq a e=>(c q a).1 (e▸h.M),hc,λq a=>⟨(c q a).1,ff (c q a).2 d.size⟩,h.e⟩,d⟩
end
theorem leastOf{P:Nat->Prop}{k:Nat}(h:P k):∃k,P k/\∀j,P j->k<=j:=by
 induction k using Nat.strongRecOn with
 |_ k b=>
  by_cases h2:∃j,j<k/\P j
  .obtain⟨j,c,a⟩:=h2
   exact b j c a
  .exact⟨k,h,λj a=>Nat.le_of_not_lt λd=>h2 ⟨j,d,a⟩⟩
theorem Kr{α:Type}(b:Nat->α->Prop):∃d:α->Nat,∀a j,b j a->b (d a) a/\d a<=j:=by
 have h:∀a,∃k,∀j,b j a->b k a/\k<=j:=λa=>by
  by_cases h:∃k,b k a
  .obtain⟨_,h⟩:=h
   obtain⟨k,h1,h2⟩:=leastOf (P:=λk=>b k a) h;exact⟨k,λj c=>⟨h1,h2 j c⟩⟩
  .exact⟨0,λj c=>absurd ⟨j,c⟩ h⟩
 exact⟨λa=>(h a).choose,λa=>(h a).choose_spec⟩
section
variable {w0 w w' w1:J}{bg bN:Nat->Prop}{d n ab a6 b most cM k c q i a m now:Nat}{l:eC}{S aD dG:cc}{pages dN aM fT:O Nat}{T au bA dj jz eP Q:O aC}{s t sl:ad}{fr l1:Key}{jA:TypeId}{st:aC->al}
theorem oz{p:ag}(b:1<=cM/\cM<=64)(w:J):aI aj 10 #[.pointer (some p),cM] w (λv w'=>v=.tuple #[.pointer (some w.heap.size),(0:Int)]/\Ext w w'/\Var w' w.heap.size [.pointer (some p),(),cM] 110):=by
 refine okF (ae.oz (some p) (cM:Nat)) ax.oz func10 ?_;delta ae.oz ak Y;refine⟨λh=>?_,λ_=>a8 (vs:=[.pointer (some p),(),cM]) rfl λw1 a hx _=>⟨rfl,hx,a⟩⟩;rw[h4 I,h4 I]at h;cases h
theorem Ks{p:Nat}(h:gI S w 110 b p cM s fr)(a:fr.length<=1000000):aI aj 12 #[.pointer (some b)] w (λv w'=>∃t:ad,v=t/\Src 1 w' t (az fr)/\Ext w w'):=by
 refine okF (ae.uw (some b)) ax.uw func12 ?_;(delta ae.uw uf ak r1 bG;dsimp only);refine⟨λc=>(by cases c),λ_=>⟨_,rfl,s,by rw[aA];exact h.v.cell,(vC h.gG a).use ?_⟩⟩;rintro _ e ⟨t,rfl,d,hx,_⟩;exact⟨t,rfl,t,rfl,d.src,hx⟩
theorem D1(h:c4 w0 w bg d n l ab most S pages aM T bA c)(hs:gI S w 110 b ab cM s fr)(u:bg b)(i:ab≠b)(hc:c<=9000)(x:1<=cM/\cM<=64):
 aI aj 11 #[.pointer (some b),.int .u64 (now:Nat)] w (λv w'=>v=.tuple #[.int .i64 (((eD T fr cM).filter (eO now)).length:Nat),(0:Int)]/\∃ (aD:cc) (cJ p:O Nat) (dj:O aC) (y:ad),
  c4 w0 w' bg d n l ab most aD cJ p (fe T (eD T fr cM) (eO now)) dj (c+1+((eD T fr cM).filter (eO now)).length)/\g7 b S bA w aD dj w'/\gI aD w' 110 b ab cM y (ky T (eD T fr cM))):=by
 refine okF (ae.uv (some b) (now:Nat)) ax.uv func11 ?_;(delta ae.uv ak r1 aG A8 st;dsimp only);have e:=cA w;have h1:=h.ext e;have s1:=hs.ext e;have y0:g7 b S bA w S bA w.drew:=.ext e;refine⟨λf=>(by cases f),λ_=>aX ?_⟩;generalize w.drew=w1 at h1 s1 y0;refine⟨λ_=>False,_,rfl,id,_,s1.v.cell,_,rfl,id,s,by rw[aA];exact s1.v.cell,_,rfl,id,_,by rw[aA];exact s1.v.cell,?_⟩;have j:=Ki (now:=now) (m:=(cM:Nat)) h1 hc I s1.gG λq a=>⟨(s1.mK q a).2,(s1.mK q a).1⟩;rw[Kp x]at j;refine j.use ?_;rintro _ E ⟨t,rfl,g,hf,k,z,cJ,p,fA,A,d9,n9,o,B⟩;have C:=s1.to (g7.of (a6:=ab) d9 n9 o) (.inr (.inr (.inr (.inl (h1.s.kV h1.pz).1)))) i.symm;obtain⟨b9,cq,D,r⟩:=C.put g.src g.2.1 λq a=>⟨B q a,g.lt q a⟩;exact⟨t,_,_,rfl,λf=>(by cases f),λ_=>⟨_,rfl,b9,cq,aX ⟨rfl,z,cJ,p,fA,t,A.jv u i r,(y0.trans (.of d9 n9 o)).DZ r,D⟩⟩⟩
def zJ(w0 w:J)(bg:Nat->Prop)(d n:Nat)(l:eC)(ab most b cM now c:Nat)(S:cc)(T bA:O aC)(k:Nat)(x:Int×J):Prop:=
 ∃ (a:Nat) (aD:cc) (cJ p:O Nat) (dj eP:O aC) (e:ad) (l1:Key),k=T.length-a/\q8 T (eO now) a eP l1/\x.1=(((T.take a).filter (eO now)).length:Nat)/\c4 w0 x.2 bg d n l ab most aD cJ p eP dj (c+2*a)/\g7 b S bA w aD dj x.2/\gI aD x.2 110 b ab cM e l1
theorem Kt(h:c4 w0 w bg d n l ab most S pages aM T bA c)(hs:gI S w 110 b ab cM s fr)(A:bg b)(B:ab≠b)(hc:c<=8000)(C:1<=cM/\cM<=64):
 aI aj 14 #[.pointer (some b),.int .u64 (now:Nat)] w (λv w'=>v=.tuple #[.int .i64 ((T.filter (eO now)).length:Nat),(0:Int)]/\∃ (aD:cc) (cJ p:O Nat) (dj:O aC) (X:ad),
  c4 w0 w' bg d n l ab most aD cJ p (T.filter λt=> !eO now t) dj (c+1+2*T.length)/\g7 b S bA w aD dj w'/\gI aD w' 110 b ab cM X []):=by
 have an:T.length<=400:=by have:=h.eK.1;have:=h.jy;omega
 refine okF (ae.ux (some b) (now:Nat)) ax.ux func14 ?_;(delta ae.ux ak st gB r1 aq;dsimp only);obtain⟨b9,cq,s2,ba⟩:=hs.put (t:=⟨none,0,0⟩) (l1:=[]) (aV.none 1 5 w).src (bl _) λq Y=>(fV q Y).elim;refine⟨λy=>(by cases y),λ_=>⟨_,rfl,b9,cq,aX ?_⟩⟩;have h2:=h.jv A B ba;have t2:=(g7.ext (a6:=b) (S:=S) (bA:=bA) (.refl _ w)).DZ ba;obtain⟨Z,D⟩:=Kr (zJ w0 w bg d n l ab most b cM now c S T bA);refine⟨λz w'=>∃k,zJ w0 w bg d n l ab most b cM now c S T bA k (z,w'),λz w'=>Z (z,w'),⟨_,0,S,pages,aM,bA,T,_,[],rfl,.begin h.kX,rfl,h2,t2,s2⟩,?_⟩;rintro n5 aa ⟨j,ac⟩;obtain⟨a,ao,cJ,p,lf,eP,ap,i,E,F,G,H,t6,J⟩:=(D (n5,aa) j ac).1;dsimp only at G H t6 J;have ar:=F.le;refine(D1 (now:=now) H J A B I C).use ?_;rintro _ af ⟨rfl,K,L,M,iy,o,u,t7,r⟩;obtain⟨N,P,Q⟩:=F.step h.kX C.1;have ag:=Kq (T:=T) (a:=a) (m:=cM) (st:=eO now);have hg:=zI (st:=eO now) (eD eP i cM);have au:(eD eP i cM).length<=cM/\(eD eP i cM).length<=T.length-a:=by rw[N,cG,ed];omega
 rw[←N]at ag;rw[P]at u;generalize ((eD eP i cM).filter (eO now)).length=g at*;have ah:=zI (st:=eO now) (T.take a);rw[cG]at ah;have R:IntKind.wrap .i64 (n5+(g:Int))=(((T.take (a+cM)).filter (eO now)).length:Nat):=by rw[G,br I I];omega
 have U:=len8 r.gG;refine⟨_,0,rfl,λy=>(by cases y),λ_=>⟨_,rfl,o,by rw[aA];exact r.v.cell,λf=>?_,λf=>?_⟩⟩
 .have f:o.len=0:=by have:=eq_of_beq f;omega
  have x:ky eP (eD eP i cM)=[]:=wT I;rcases Q with ⟨V,_⟩|⟨_,ai,_⟩
  .rw[R]
   rw[Km V]at u;rw[x]at r;rw[dO V];exact⟨rfl,K,L,M,iy,o,u.mono I,t6.trans t7,r⟩
  .exact absurd x ai
 .have f:o.len≠0:=λe=>by rw[e]at f;cases f
  rcases Q with ⟨_,x⟩|⟨aH,_,al⟩
  .rw[x]at U
   exact absurd U f
  .rw[R]
   have W:zJ w0 w bg d n l ab most b cM now c S T bA (T.length-(a+cM)) ((((T.take (a+cM)).filter (eO now)).length:Nat),af):=
    ⟨a+cM,K,L,M,iy,_,o,_,rfl,al,rfl,by rw[P];exact u.mono I,t6.trans t7,r⟩
   refine⟨⟨_,W⟩,?_⟩;have am:=(D _ _ W).2;dsimp only at am E⊢;rw[E];omega
end
theorem aC.o0{cs:O aa}(h:h9 (.int .i64::(((.bool::mv 16)++ [.int .i64])++ [.int .i64,.int .u64])) cs):∃t:aC,cs=t.c/\t.u<18446744073709551616:=by
 obtain⟨_,us,rfl,⟨s,rfl,_⟩,h⟩:=h;obtain⟨a,t1,rfl,h1,h2⟩:=xw h;obtain⟨p,rfl,_⟩:=bo.o0 h1;obtain⟨_,_,rfl,⟨b,rfl,_⟩,_,_,rfl,⟨u,rfl,aw,ay⟩,rfl⟩:=h2;have g:0<=u/\u<=18446744073709551615:=by simpa[IntKind.min,IntKind.max,IntKind.signed,IntKind.bits] using And.intro aw ay
 obtain⟨k,rfl⟩:∃k:Nat,u=(k:Int):=⟨u.toNat,I⟩;exact⟨⟨s,p,b,k⟩,rfl,by show k<_;omega⟩
section
variable {w0 w w' w1:J}{bg bN:Nat->Prop}{d n ab a6 most k c q i:Nat}{l:eC}{S aD dG:cc}{pages dN aM fT:O Nat}{T au bA dj jz:O aC}{ls:ad}
theorem gY.new(h:c4 w0 w (λq=>q=ab) d n l ab most S [] [] [] [] c)(hx:Ext w w')(b:Var w' a6 [most,()] 36)(g:w.heap.size<=a6):gY w0 w' (λq=>q=ab\/q=a6) d n l ab a6 most (S.own λq=>q=ab\/q=a6) [] [] c:=by
 have i:=b.lt;have j:=h.v.lt;refine⟨⟨[],[],h.grow hx (λq a=>a.imp id λe=>I) (.inl rfl)⟩,.inr rfl,I,⟨none,0,0⟩,b,(aV.none 21 57 w').src,bl _,λq a=>(fV q a).elim,λf=>f (.inr (.inr (.inr (.inl (.inr (.inr rfl))))))⟩
end
def Ku(i:Nat):bo:=⟨⟨false,[0,0,0,0,0,0,0,0,0,0,0,0,10,0,0,UInt8.ofNat i],rfl⟩,32⟩
def kc(i b u:Nat):aC:=⟨7,Ku i,(b:Nat),u⟩
section
variable {w0 w w' w1:J}{bg bN:Nat->Prop}{d n ab a6 most k c q i:Nat}{l:eC}{S aD dG:cc}{pages dN aM fT:O Nat}{T au bA dj jz:O aC}{t x:aC}
end
section
variable {w0 w w' w1:J}{bg bN:Nat->Prop}{d n ab a6 b nb most cM k c q i a m now:Nat}{l:eC}{S aD dG:cc}{pages dN aM fT:O Nat}{T au bA dj jz eP Q L:O aC}{s t sl ls:ad}{fr l1:Key}{jA:TypeId}{st:aC->al}
theorem gY.grow(h:gY w0 w bg d n l ab a6 most S T bA c)(hx:Ext w w')(i:w.heap.size<=nb/\nb<w'.heap.size):gY w0 w' (λq=>bg q\/q=nb) d n l ab a6 most (S.own λq=>bg q\/q=nb) T bA c:=by
 obtain⟨⟨cJ,p,a⟩,s4,j,s,m⟩:=h;refine⟨⟨cJ,p,a.grow hx (λq f=>f.imp id λe=>by rw[e];exact i) (.inl a.pz)⟩,.inl s4,j,s,m.v.ext hx,m.gG.ext hx,m.c,λq f=>⟨λg=>?_,by have:=(m.b q f).2;have:=hx.size;omega⟩,λg=>g (.inr (.inr (.inr (.inl (.inr (.inl s4))))))⟩;have h2:=(m.b q f).2;exact(cc.zG a.s.E g).elim (m.b q f).1 λe=>by omega
theorem gI.new{p:Nat}(e:Var w b [.pointer (some p),(),cM] jA)(h:gY w0 w (λq=>bg q\/q=b) d n l ab a6 most S T bA c):gI S w jA b p cM ⟨none,0,0⟩ []:=by
 obtain⟨⟨cJ,p,a⟩,_⟩:=h;exact⟨e,(aV.none 1 5 w).src,bl _,λq f=>(fV q f).elim,a.s.kV (.inr rfl)⟩
theorem qE{m:Nat}(Q:m<256)(cU:Src 21 w ls (bz aC.c L))(hu:∀t∈L,t.u<18446744073709551616):
 aI aj 9 #[.int .u8 (m:Nat),ls] w (λv w'=>∃ (ab a6 d N:Nat) (S:cc) (T bA:O aC),v=.tuple #[.pointer (some ab),.pointer (some a6),true]/\N<=40/\gY w w' (λq=>q=ab\/q=a6) d (4*N+64) (lv 7) ab a6 N S T bA 200):=by
 have r:ls.len=L.length:=by have:=cU.len;rw[fD _ (kT _)]at this;omega
 refine okF (ae.qE (m:Nat) ls) ax.qE func9 ?_;delta ae.qE p7 aq ak aP bX Y;obtain⟨N,y,e⟩:∃N:Nat,IntKind.wrap .i64 (1+(IntKind.wrap .i64 (Int.tmod (m:Int) 40)))=(N:Int)/\1<=N/\N<=40:=by
  rw[mT I,br (n:=(m:Int)%40) I I,br I I];exact⟨1+m%40,I,I,I⟩
 rw[y];refine⟨by decide,(oX (b:=7) ⟨e.1,I⟩ (by decide) w).use ?_⟩;rintro _ w1 ⟨ab,d,R,rfl,a0,_⟩;refine⟨_,_,_,rfl,a8 (vs:=[N,()]) rfl λU z B V=>?_⟩;have f:=gY.new a0 B z (bl _);generalize w1.heap.size=a6 at f⊢;refine⟨λb C w'=>∃ (i:Nat) (S:cc) (T bA:O aC),b=true/\C=(i:Int)/\i<=60/\gY w w' (λq=>q=ab\/q=a6) d (4*N+64) (lv 7) ab a6 N S T bA (2*i),λ_ n _=>((60:Int)-n).toNat,⟨0,_,[],[],rfl,rfl,I,f⟩,?_⟩;rintro _ _ g ⟨i,S,T,bA,rfl,rfl,hi,h⟩;refine⟨λaH=>?_,λ_=>⟨ab,a6,d,N,S,T,bA,rfl,e.2,h.mono I⟩⟩;rw[pB]at aH;obtain⟨h1,h2⟩:=Jd (m:=60) r aH;have D:=cA g;have a:=h.ext D;refine aX ?_;generalize g.drew=X at a;have E:=a.kV;obtain⟨⟨cJ,p,eU⟩,s4,F,Z,G⟩:=a;obtain⟨A,ar,j,_,_,l⟩:=pv (cU.ext eU.s.x) h1;have Y:¬S.W (A.add (Int.toNat (i:Int)*21)).block:=λH=>by
  have aa:=eU.s.s0 _ H.1;obtain⟨ac,o,_,J,_⟩:=pv cU h1;rw[ar]at o
  cases o;have ad:=Jv J;omega
 refine⟨λq=>S.W q,A,ar,j,Y,_,l,A,ar,j,Y,_,l,(DU eU I (hu _ (cL h1))).use ?_⟩;rintro _ af ⟨rfl,k,dG,ag,bk,bP,a1,d1,b_,aw⟩;have K:=G.wL d1 E;have ai:T.length<=400:=by have:=eU.eK.1;have:=eU.jy;omega
 refine⟨_,rfl,d1.ah,(Ko K I a1.new eU.kX eU.keys L[i]).use ?_⟩;rintro _ al ⟨rfl,M,am,P⟩;rw[mH I];exact⟨_,rfl,⟨i+1,dG,_,bP,beq_self_eq_true _,rfl,I,.whole (a1.mono I) s4 F M P⟩,by show((60:Int)-((i+1:Nat):Int)).toNat<((60:Int)-(i:Nat)).toNat;omega⟩
def D2:bo:=⟨⟨false,[0,0,0,0,0,0,0,0,0,0,0,0,0,0,0,0],rfl⟩,0⟩
def nO:aC:=⟨1,D2,0,5⟩
theorem Kv(w:J):aI aj 13 #[] w (λv w'=>v=true/\Ext w w'):=by
 refine ae.FR w _ ?_;delta ae.sr p7 ak bX ia gB;refine(oX (most:=5) (b:=1) (by decide) (by decide) w).use ?_;rintro _ w1 ⟨ab,d,u,rfl,a0,_⟩;refine⟨_,_,_,rfl,λh=>(by cases h),λ_=>⟨D2.c.toArray,by kernel_rfl,nO.c.toArray,by kernel_rfl,(DU a0 I (t:=nO) (by decide)).use ?_⟩⟩;have g:iI [] 5 nO=0:=by decide+kernel
 have m:kz [] 5 nO=[nO]:=by unfold kz;rw[g];rfl
 rw[g,m];rintro _ a ⟨rfl,b9,dG,y,bk,bP,a1,_⟩;refine⟨_,rfl,(oz (cM:=3) (by decide) a).use ?_⟩;rintro _ i ⟨rfl,n,j⟩;have z:=j.lt;have A:=a1.v.lt;have dE:=a1.grow (bN:=λq=>q=ab\/q=a.heap.size) n (λq f=>f.imp id λe=>I) (.inl rfl);have o:gI _ i 110 a.heap.size ab 3 ⟨none,0,0⟩ []:=⟨j,(aV.none 1 5 i).src,bl _,λq f=>(fV q f).elim,dE.s.kV (.inr rfl)⟩;refine⟨_,_,rfl,(D1 (now:=5) dE o (.inr rfl) I I (by decide)).use ?_⟩;have l:((eD [nO] [] 3).filter (eO 5)).length=1/\(fe [nO] (eD [nO] [] 3) (eO 5)).length=0:=by decide+kernel
 rw[l.1];rintro _ p ⟨rfl,dn,B,bf,bY,s2,a2,_⟩;refine⟨_,_,rfl,cw (λb w'=>b=true/\p=w') (λk r=>⟨λ_=>(zz a2.v a2.s.at_).use ?_,λh=>(by cases h)⟩) ?_⟩
 .rintro _ _ ⟨rfl,rfl⟩
  rw[dk,l.2];exact⟨_,rfl,r _ _ ⟨rfl,rfl⟩⟩
 .rintro _ _ ⟨rfl,rfl⟩
  exact⟨rfl,a2.s.x⟩
end
theorem Kw(z:Int):∃cM:Nat,IntKind.wrap .i64 (1+(IntKind.wrap .i64 (Int.tmod (IntKind.wrap .u64 z) 64)))=(cM:Int)/\1<=cM/\cM<=64:=by
 have h0:0<=IntKind.wrap .u64 z:=Int.emod_nonneg _ (by decide);rw[mT h0,br (n:=IntKind.wrap .u64 z%64) I I,br I I];exact⟨1+(IntKind.wrap .u64 z%64).toNat,I,I,I⟩
section
variable {w0 w w' w1:J}{bg bN:Nat->Prop}{d n ab a6 b nb most cM k c q i a m now:Nat}{l:eC}{S aD dG:cc}{pages dN aM fT:O Nat}{T au bA dj jz eP Q L:O aC}{s t sl ls:ad}{fr l1:Key}{jA:TypeId}{st:aC->al}{x y:aC}
theorem gY.Kx(h:gY w0 w bg d n l ab a6 most S T bA c):Ext w0 w:=by
 obtain⟨⟨_,_,a⟩,_⟩:=h;exact a.s.x
theorem Ky(h:gx T)(hx:x∈T)(c:y∈T)(e:x.kv.1=y.kv.1):x=y:=by
 obtain⟨i,hi,rfl⟩:=e2 hx;obtain⟨j,b,rfl⟩:=e2 c;have h2:=kZ.1 h;rcases Nat.lt_trichotomy i j with h1|rfl|h1
 .have a:=h2 i j hi b h1
  rw[e]at a;exact absurd a (jN _)
 .rfl
 .have a:=h2 j i b hi h1
  rw[e]at a;exact absurd a (jN _)
theorem Kz(x:aC):dp x.s x.p x=true:=by unfold dp;simp
theorem D3(h:gx T)(hx:x∈T):(sZ (T.filter λt=> !eO now t) x.s x.p 0).isSome=decide (now<x.u):=by
 have hu:∀y,y∈T.filter (λt=> !eO now t)->dp x.s x.p y=true->y=x:=λy a b=>by
  obtain⟨c,d⟩:=DS b;exact Ky h (gi.1 a).1 hx (by show eJ _ _=eJ _ _;rw[c,d])
 rw[zD]
 cases hf:(T.filter λt=> !eO now t).find? (dp x.s x.p) with
 |none=>
  refine(h4 λf=>?_).symm;exact jE.1 hf x (gi.2 ⟨hx,by unfold eO;simp;omega⟩) (Kz x)
 |some y=>
  have a:=je hf;have e:=hu y a (j6 hf);subst e;have h1:=(gi.1 a).2;unfold eO at h1;have h2:now<y.u:=by simpa using h1
  show(if y.u<=0 then (none:av aC) else some y).isSome=_;rw[if_neg I,dI h2];rfl
theorem KA{m:Nat}(a0:m<256)(cU:Src 21 w ls (bz aC.c L))(hu:∀t∈L,t.u<18446744073709551616)(hE:Int)(now:Nat)(V:al):
 aI aj 6 #[.int .u8 (m:Nat),ls,.agg #[hE,.int .u64 (now:Nat),V]] w (λv w'=>v=true/\Ext w w'):=by
 refine okF (ae.vz (m:Nat) ls hE (now:Nat) V) ax.vz func6 ?_;(delta ae.vz p7 ak aG Y ia aq r1 aP cm gB xF gR bX bG b8;dsimp only);refine a8 (vs:=[hE,.int .u64 (now:Nat),V]) rfl λw1 X ao bx=>(qE a0 (cU.ext ao) hu).use ?_;rintro _ ai ⟨ab,a6,d,N,S,T,bA,rfl,bB,h2⟩;obtain⟨cM,a2,ap⟩:=Kw hE;refine⟨_,_,_,rfl,λf=>(by cases f),λ_=>⟨_,(X.ext h2.Kx).cell,by decide,?_⟩⟩;rw[a2];refine(oz ap ai).use ?_;rintro _ au ⟨rfl,a3,av⟩;have C:=h2.grow a3 ⟨bl _,av.lt⟩;have P:=gI.new av C;have a4:ab<ai.heap.size:=by obtain⟨⟨_,_,a⟩,_⟩:=h2;exact a.v.lt
 have a5:a6<ai.heap.size:=by obtain⟨_,_,_,_,m⟩:=h2;exact m.v.lt
 generalize ai.heap.size=sb at C P a4 a5⊢;generalize (S.own λq=>(q=ab\/q=a6)\/q=sb)=bC at C P;have Z:=C.kV;obtain⟨⟨cJ,p,ez⟩,_,bD,l,ay⟩:=C;have bE:T.length<=400:=by have:=ez.eK.1;have:=ez.jy;omega
 have bF:=ay.len;refine⟨_,_,rfl,λf=>(by cases f),λ_=>⟨λb_ bu w'=>∃i:Nat,bu=(i:Int)/\i<=T.length/\b_=(((T.take i).filter λt=> !eO now t).length:Nat)/\Ext au w',λ_ bu _=>((T.length:Int)-bu).toNat,⟨0,rfl,cP _,rfl,.refl _ _⟩,?_⟩⟩;rintro _ _ a7 ⟨i,rfl,hi,rfl,D⟩;have F:=ay.ext D;have fq:=ez.ext D;have az:=X.ext fq.s.x;refine⟨_,rfl,l,by rw[aA];exact F.v.cell,λaH=>?_,λaa=>?_⟩
 .have h:i<T.length:=by have:=cf aH;omega
  obtain⟨A,ar,z,_,_,_⟩:=pv F.gG h;have g:=cA a7;refine cw (λn w'=>n=(((T.take (i+1)).filter λt=> !eO now t).length:Nat)/\Ext au w') (λk j=>aX ?_) ?_
  .have ac:=DA (F.ext g).gG h ar
   have aB:=zI (st:=λt=> !eO now t) (T.take i);rw[cG]at aB;have aE:((T.take (i+1)).filter λt=> !eO now t).length=((T.take i).filter λt=> !eO now t).length+if now<T[i].u then 1 else 0:=by
    rw[j1 h,gN,ct,jF,List.filter_nil]
    congr 1
    unfold eO;by_cases aF:now<T[i].u
    .rw[if_pos aF,h4 I];rfl
    .rw[if_neg aF,dI I];rfl
   refine⟨_,rfl,id,l,by rw[aA];exact(F.ext g).v.cell,A,ar,z,id,_,ac,id,_,by rw[aA];exact(az.ext g).cell,λf=>j _ _ ⟨?_,D.trans g⟩,λf=>j _ _ ⟨?_,D.trans g⟩⟩
   .have:=cf f
    rw[aE,if_pos I,mH I]
   .have:=cC f
    rw[aE,if_neg I,ly]
  .rintro _ bH ⟨rfl,a9⟩
   rw[mH I];exact⟨⟨i+1,rfl,h,rfl,a9⟩,by show((T.length:Int)-((i+1:Nat):Int)).toNat<((T.length:Int)-(i:Nat)).toNat;omega⟩
 have aa:=cC aa;obtain rfl:i=T.length:=by omega
 rw[j3];have bI:=Z;refine⟨_,by rw[aA];exact az.cell,(Kt (now:=now) fq (P.ext D) (.inr rfl) I I ap).use ?_⟩;rintro _ bJ ⟨rfl,ad,a_,ba,iy,aJ,bb,t7,bc⟩;have bd:=F.to t7 P.M I Z;have be:ad.T.E a6/\a6≠ad.st:=by rw[t7.E,t7.st];exact Z
 have aK:=ez.kX;have bf:=ez.keys;refine⟨_,_,rfl,λG w'=>∃ (i:Nat) (aD:cc) (cJ p:O Nat) (dj:O aC),G=(i:Int)/\i<=T.length/\c4 w1 w' (λq=>(q=ab\/q=a6)\/q=sb) d (4*N+64) (lv 7) ab N aD cJ p (T.filter λt=> !eO now t) dj (1200+i)/\gw (λq=>¬aD.T.M q) w' a6 (N:Nat) l T/\gI aD w' 110 sb ab cM aJ []/\aD.T.E a6/\a6≠aD.st,λG _=>((T.length:Int)-G).toNat,
  ⟨0,ad,a_,ba,iy,rfl,cP _,bb.mono I,bd,bc,be⟩,?_⟩
 rintro _ H ⟨i,Q,bK,bL,lf,rfl,hi,R,ag,aL,U⟩;refine⟨_,rfl,l,by rw[aA];exact ag.v.cell,λaH=>?_,λaa=>?_⟩
 .have h:i<T.length:=by have:=cf aH;omega
  have aM:=bf _ (cL h);have g:=cA H;refine rO (λb G w'=>b=decide (now<T[i].u)/\G=0/\∃ (aD:cc) (cJ p:O Nat) (dj:O aC),c4 w1 w' (λq=>(q=ab\/q=a6)\/q=sb) d (4*N+64) (lv 7) ab N aD cJ p (T.filter λt=> !eO now t) dj (1200+i+1)/\gw (λq=>¬aD.T.M q) w' a6 (N:Nat) l T/\gI aD w' 110 sb ab cM aJ []/\aD.T.E a6/\a6≠aD.st) (λk j=>aX ?_) ?_
  .have o:=R.ext g
   have B:=ag.ext g;have aN:=aL.ext g;generalize H.drew=aO at o B aN;obtain⟨A,ar,z,bg,bh,_⟩:=pv B.gG h;have Y:¬Q.W A.block:=λr=>(B.b _ ⟨A,ar,rfl⟩).1 r.1;have aQ:¬Q.W a6:=λr=>U.2 (r.2 U.1);have fin:∀am,gH w1 (λq=>(q=ab\/q=a6)\/q=sb) d (4*N+64) (lv 7) ab N Q lf (T.filter λt=> !eO now t) aO (1200+i+1) am->k (decide (now<T[i].u)) 0 am:=λam ⟨_,dG,an,bk,bP,a1,d1,b_,aw⟩=>
    j _ _ _ ⟨rfl,rfl,dG,an,bk,bP,a1,B.wL d1 U,aN.to (g7.of (a6:=ab) d1 b_ aw) (.inr (.inr (.inr (.inl (o.s.kV o.pz).1)))) I,by rw[d1.E,d1.st];exact U⟩
   refine⟨λq=>Q.W q,_,rfl,aQ,l,by rw[aA];exact B.v.cell,A,ar,z,by rw[zr];exact Y,_,bg,_,rfl,aQ,l,by rw[aA];exact B.v.cell,A,ar,z,by rw[zr,zr];exact Y,_,bh,?_,?_⟩
   .have J:=DT (now:=0) o I T[i].s T[i].p
    rw[if_pos aM,D3 aK (cL h)]at J;refine J.use ?_;rintro _ bM ⟨K,rfl⟩;refine⟨_,_,_,rfl,K.choose_spec.choose_spec.choose_spec.choose_spec.choose_spec.2.1.ah,a8 (vs:=aC.zero.c) rfl λbN aR aS _=>⟨af.cW aS,aR.cj (by simp[aC.bq]) (aC.plain _),by simp[aC.bq],cN aR (by simp[aC.bq]) rfl λbi _ bj _=>fin bi (K.post (Ext.cu aS bj (bl _)))⟩⟩
   .refine a8 (vs:=aC.zero.c) rfl λbO bm aT bQ=>⟨af.cW aT,?_⟩
    obtain⟨bn,bR,aU,bo⟩:=o.scope (b:=aO.heap.size) aT ⟨bl _,I⟩;have J:=DT (now:=0) bn I T[i].s T[i].p;rw[if_pos aM,D3 aK (cL h)]at J;refine J.use ?_;rintro _ bS ⟨K,rfl⟩;have aV:=K.choose_spec.choose_spec.choose_spec.choose_spec.choose_spec.2.1.ah;have aW:=bm.ah aV (aU _ (bl _));refine⟨_,_,_,rfl,aV.mono λq _ r=>⟨(cc.zG o.s.E r.1).resolve_right λe=>aU q I r,λhe=>r.2 (((o.s.E q).1 he).imp id .inl)⟩,aW.cj (by simp[aC.bq]) (aC.plain _),by simp[aC.bq],cN aW (by simp[aC.bq]) rfl λbp _ bs _=>fin bp (bo K bs)⟩
  .rintro _ _ aY ⟨rfl,rfl,dG,an,bk,bP,a1,y,v1,bt⟩
   have g:=cA aY;refine aX ?_
   replace a1:=a1.ext g
   replace y:=y.ext g
   replace v1:=v1.ext g
   generalize aY.drew=bT at a1 y v1;obtain⟨A,ar,z,_,_,_⟩:=pv y.gG h;have ac:=DA y.gG h ar;refine⟨λf=>(by cases f),λ_=>⟨_,rfl,id,l,by rw[aA];exact y.v.cell,A,ar,z,id,_,ac,id,_,by rw[aA];exact(X.ext a1.s.x).cell,λf=>?_,λ_=>⟨λf=>(by cases f),λ_=>?_⟩⟩⟩
   .exfalso
    have e:decide (now<T[i].u)=decide (((T[i].u:Nat):Int)>(now:Int)):=by rw[fv,cp,cp];omega
    rw[e,beq_self_eq_true]at f
    cases f
   .rw[mH I]
    exact⟨⟨i+1,dG,an,bk,bP,rfl,h,a1,y,v1,bt⟩,by show((T.length:Int)-((i+1:Nat):Int)).toNat<((T.length:Int)-(i:Nat)).toNat;omega⟩
 have aB:=DY (eO now) T;refine cw (λb w'=>b=true/\H=w') (λk j=>⟨λ_=>(zz R.v R.s.at_).use ?_,λf=>(by cases f)⟩) ?_
 .rintro _ _ ⟨rfl,rfl⟩
  rw[dk];exact⟨_,rfl,j _ _ ⟨beq_self_eq_true _,rfl⟩⟩
 rintro _ _ ⟨rfl,rfl⟩;refine cw (λb w'=>b=true/\H=w') (λk j=>⟨λ_=>⟨_,rfl,l,by rw[aA];exact ag.v.cell,j _ _ ⟨?_,rfl⟩⟩,λf=>(by cases f)⟩) ?_
 .rw[br I I,j2];omega
 rintro _ _ ⟨rfl,rfl⟩;refine cw (λb w'=>b=true/\Ext H w') (λk j=>⟨λ_=>(Ks aL (by decide)).use ?_,λf=>(by cases f)⟩) ?_
 .rintro _ bU ⟨t,rfl,ht,hx⟩
  have bv:=len8 ht;exact⟨t,rfl,j _ _ ⟨by rw[bv];rfl,hx⟩⟩
 rintro _ aZ ⟨rfl,bw⟩;refine cw (λb w'=>b=true/\Ext aZ w') (λk j=>⟨λ_=>(Kv aZ).use ?_,λf=>(by cases f)⟩) ?_
 .rintro _ bV ⟨rfl,hx⟩
  exact⟨_,rfl,j _ _ ⟨rfl,hx⟩⟩
 rintro _ bW ⟨rfl,hx⟩;exact⟨rfl,((ao.trans R.s.x).trans bw).trans hx⟩
end
structure mL where
 cM:Int
 now:Nat
 all:al
def mL.c(a:mL):O aa:=[a.cM,.int .u64 (a.now:Nat),a.all]
section
variable {w0 w w' w1:J}{bg bN:Nat->Prop}{d n ab a6 b nb most cM k c q i a m now:Nat}{l:eC}{S aD dG:cc}{pages dN aM fT:O Nat}{T au bA dj jz eP Q L:O aC}{s t sl ls la:ad}{fr l1:Key}{jA:TypeId}{st:aC->al}{x y:aC}{A:O mL}
end
section
variable {w:J}{v:aa}
set_option maxRecDepth 100000 in
theorem KB.of (h:j_ aj w 22 v):∃ (l:ad) (L:O aC),v=l/\Src 21 w l (bz aC.c L)/\∀t∈L,t.u<18446744073709551616:=by
 obtain⟨t,rfl,ht⟩:=p2.of h (e:=57) (by kernel_rfl);obtain⟨A,h1,_,h2⟩:=ht.src (c:=aC.c) (sz:=21) (by kernel_rfl) (λt=>t.u<18446744073709551616) λfuel vs a=>aC.o0 (rV 8 (ls:=.int .i64::(((.bool::mv 16)++ [.int .i64])++ [.int .i64,.int .u64])) (by kernel_rfl) (by kernel_rfl) a);exact⟨t,A,rfl,h1,h2⟩
theorem mL.o0{cs:O aa}(h:h9 [.int .i64,.int .u64,.bool] cs):∃a:mL,cs=a.c:=by
 obtain⟨_,_,rfl,⟨p,rfl,_⟩,_,_,rfl,⟨n,rfl,h1,_⟩,_,_,rfl,⟨b,rfl⟩,rfl⟩:=h;obtain⟨k,rfl⟩:∃k:Nat,n=(k:Int):=⟨n.toNat,(Int.toNat_of_nonneg h1).symm⟩;exact⟨⟨p,k,b⟩,rfl⟩
set_option maxRecDepth 100000 in
theorem mL.of (h:j_ aj w 25 v):∃a:mL,v=.agg #[a.cM,.int .u64 (a.now:Nat),a.all]:=by
 obtain⟨cs,rfl,h2⟩:=EZ h (d:=(Tryz.prog.underlying 25).get (by kernel_rfl)) (ls:=[.int .i64,.int .u64,.bool]) (pE _).symm (by kernel_rfl) (by kernel_rfl) (by kernel_rfl);obtain⟨a,rfl⟩:=mL.o0 h2;exact⟨a,rfl⟩
end
end Go.Proofs.YtcmgnhkpfllinaaGreat
