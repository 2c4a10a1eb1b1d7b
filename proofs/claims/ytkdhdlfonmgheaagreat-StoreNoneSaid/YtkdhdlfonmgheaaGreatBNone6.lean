/- Contracts of the functions that the statement reaches, and the plain laws over them; each theorem stands with its conditions. -/
import Derived.Test.YtkdhdlfonmgheaaGreatBNone5
namespace Go.Proofs.YtkdhdlfonmgheaaGreat
open Go aX Go.Proofs.Tryz
section
variable {w w' w1:J}{C:bN}{X:Nat->Prop}{T:aK}{S aM e1:cu}{pages aS:O Nat}{L bm:O aQ}{f2:Nat->ag}{aC:bN}{P':Nat->an az}
theorem FV{f:Nat->ag}{n k:Nat}(h:k<n):lS f n (k:Int)=cZ f k false:=by
 unfold lS;rw[if_pos ⟨I,I⟩,du]
theorem FW{a6 d c sb gen now first pending keys st:Nat}{l:fC}{u:cz}{failed:ag}(b:Var w st (gn a6 d c sb l u gen now first pending keys failed) 158)(a:cz){K:J->Prop}(e:∀ah,Var ah st (gn a6 d c sb l a gen now first pending keys failed) 158->ae (λq=>q=st) w ah->K ah):
 bz w ⟨st,7,none⟩ [a.root,a.aD,a.map,.int .u64 (a.clock:Nat),.int .u64 (a.dc:Nat),a.keys]/\(6:Nat)=6/\
  ao (setCells w ⟨st,7,none⟩ 0 [a.root,a.aD,a.map,.int .u64 (a.clock:Nat),.int .u64 (a.dc:Nat),a.keys]) K:=
 ⟨bh.b5 b _ _ (by simp[gn]) λv f=>cz.plain a v f,rfl,aY (e _ (bh.jI (o:=7) b _) (ae.kJ (.refl _ _) _ 0))⟩
theorem AI(h:ei w S pages L aS bm)(hl:S.failed=false)(dq:L.length<4096)(eV:S.T.C.D.aO<=800000000)(eW:S.gen<=1000000000):
 aH ai 94 #[.pointer (some S.st)] w (oO S pages L aS bm w):=by
 refine okF (af.sr (some S.st)) ay.sr func94 ?_;(delta af.sr eT al aA r1 bt aW nT bW ga U aT st;dsimp only);obtain⟨bv,bx,dr⟩:=h.live hl;obtain⟨no,cl⟩:=zU dr;obtain⟨cm,ds,_⟩:=zC cl;have eX:=h.t.s.bc;have aU:=h.num;have dt:=h.gen;have cn:=h.fM.qq;have co:S.T.f no=false:=by cases du:S.T.f no<;>simp_all
 have am:S.T.g no=false:=by cases du:S.T.g no<;>simp_all
 have cp:2<=no:=Nat.le_of_not_lt λe=>by
  have:=(h.fM.g no).2 (.inr (.inl e));rw[am]at this;cases this
 have eY:S.T.M S.st:=.inr (.inr (.inr (.inl h.es)));refine⟨_,rfl,_,by rw[ax];exact h.v.cell,(zE h.t.s).use ?_⟩;rintro _ cq ⟨rfl,cs,aX⟩;rw[cl]at cs⊢;refine⟨(no:Nat),0,rfl,λhx=>(by cases hx),λ_=>aY ?_⟩;have dv:=(h.t.tQ (f:=cZ S.T.f no true) cs aX).1;have dw:=h.v.ad aX (h.t.c2 _ h.es).2.1;have a0:Ext cq cq.drew:=cr _;have bz:=dw.ext a0;have ct:=dv.ext a0;refine⟨_,rfl,id,_,by rw[ax];exact bz.cell,_,rfl,id,_,by rw[ax,ax];exact bz.cell,(zF ct.s (S.u.map:Nat)).use ?_⟩;rintro _ a1 ⟨rfl,cw,a2⟩;rw[FV (by exact cn.2.2.2.1)]at cw;obtain⟨f2,bA⟩:∃f2,f2=cZ (cZ S.T.f no true) S.u.map false:=⟨_,rfl⟩;have cx:en a1 S.T.sb S.T.n f2 S.T.g S.T.s1 S.T.s2:=by rw[bA];exact cw
 have bB:bK a1 (S.T.hC f2):=(ct.tQ (f:=f2) cx a2).1;have cy:=bz.ad a2 (h.t.c2 _ h.es).2.1;refine⟨_,rfl,aY ?_⟩;have a3:Ext a1 a1.drew:=cr _;have cA:=cy.ext a3;have dz:=bB.ext a3;have bC:IntKind.wrap .u64 ((S.gen:Int)+1)=((S.gen+1:Nat):Int):=by rw[gz I I];omega
 refine⟨λ_=>False,_,rfl,id,_,by rw[ax];exact cA.cell,_,rfl,id,_,by rw[ax];exact cA.cell,(zL dz.s).use ?_⟩;rintro _ dA ⟨a4,rfl,dB,bE,e0⟩;have dD:aZ 1 5 dA a4 (aF (e4 f2 ((S.T.n+7)/8))):=by rw[Az];exact dB
 have cB:lL ⟨4,S.gen+1,e4 f2 ((S.T.n+7)/8)⟩:=⟨(by decide:1<=4),(by decide:4<=4),by show S.gen+1<_;omega,by show(e4 _ _).length<=232;rw[nf];omega⟩;rw[bC];refine⟨a4,rfl,bE,#[(4:Int),.int .u64 ((S.gen+1:Nat):Int),a4],λe1=>by kernel_rfl,(tA (s:=a4) (p:=⟨4,S.gen+1,e4 f2 ((S.T.n+7)/8)⟩) (no:=no) dD.src I cB).use ?_⟩;rintro _ cC ⟨dE,rfl,cD,cE,dF⟩;have bH:=a3.trans (Ext.trans bE cE);have a5:=bB.ext bH;have cG:=cy.ext bH;have e2:=aX.size;have e3:=a2.size;have e5:=a0.size;have e7:=a3.size;have e8:=bE.size;have a7:ae S.W w cC:=ck (ck (ck (ck (ae.refl _ _) aX λq _ a=>h.kp (.inr (.inr (.inl a)))) a0 λq _ a=>a.elim) a2 λq _ a=>h.kp (.inr (.inr (.inl a)))) bH λq _ a=>a.elim;have dG:(dW no ⟨4,S.gen+1,e4 f2 ((S.T.n+7)/8)⟩).length=256:=p3 _ cB;refine⟨dE,0,rfl,cE,λhx=>(by cases hx),λ_=>⟨_,rfl,_,by rw[ax];exact cG.cell,(zv a5.ca (by show S.T.C.D.aO<=_;omega) (no:=no) (by rw[a5.n];exact cm) cp (λhs=>?_) cD.src dG λq a=>⟨aZ.lt cD q a,λhf=>?_⟩).use ?_⟩⟩
 .rcases a5.bD no hs with h1|h1
  .rw[show(S.T.hC f2).g no=S.T.g no from rfl,am]at h1;cases h1
  .exact bv h1
 .have h1:=dF q a
  have a9:=bB.lt (q:=q) (.inl hf);omega
 rintro _ ba ⟨F,cJ,cL,bb⟩;have r:dY S.T.C F cC ba 1:=cL;have cM:∀j,j≠no->F.view j=S.T.C.view j:=λj b=>by
  rcases bb with ⟨_,bI⟩|⟨_,_,bI⟩
  .rw[bI,if_neg b];rfl
  .rw[bI];rfl
 obtain⟨y,bJ⟩:∃y:Nat->an az,y=λj=>if j=no then none else S.T.P j:=⟨_,rfl⟩
 have aw:∀j,j≠no->y j=S.T.P j:=λj b=>by rw[bJ];exact if_neg b
 obtain⟨aB,_⟩:=a5.oI (P:=y) cJ cL λj bf ag=>by
  have b:j≠no:=λe=>by rw[bJ]at ag;simp[e]at ag
  rw[cM j b];exact h.t.dM j bf (by rw[←aw j b];exact ag)
 have dH:¬cK S.T.C S.st:=(h.t.ca.inv.eI _ (.inr (.inr (.inl h.es)))).2;have bL:=cG.ad r.ad dH;have bM:ae S.W w ba:=ck a7 r.ad λq _ a=>h.kp (.inl a);have bd:∀x∈aS,S.T.P x=y x:=λx hx=>(aw x λe=>by
  have:=(h.fM.g x).2 (.inl hx);rw[e,am]at this;cases this).symm
 have bO:F.D.a_=S.T.C.D.a_:=congrArg (λp=>p.1.1) r.a_;have bP:F.D.bY.getD 3 0=S.T.C.D.bY.getD 3 0:=congrArg Prod.snd r.a_;have dI:fl ba (S.at f2 F y) aS bm:=h.tofl.ua aB bL r.d r.c (λj b=>by rw[bO];rfl) bd λj b=>by rw[r.bD];exact h.bD j b
 have dJ:dN 100 S (S.at f2 F y) w ba:=dN.at bM r.d (by have:=r.aO;omega) (λa=>⟨λk=>r.calm k (a.1 _),bP.trans a.2⟩) λq a=>(r.cN q a).imp id λe=>by have:=a7.size;omega
 have dK:∀j,S.T.g j=true->F.D.da j=[]:=λj b=>by
  rw[cJ.inv.jT j (by rw[r.bD];exact h.bD j b),r.lQ.2,bx]
 rcases bb with ⟨rfl,bb⟩|⟨rfl,dL,_⟩
 rotate_left
 .exact⟨3,rfl,λ_=>(uc dI dJ rfl rfl rfl (λa=>dL (a.1 1)) (λj b=>by unfold cu.V;show F.D.a_.getD j []=_;rw[bO]) (by show F.D.aO<=_;have:=r.aO;omega) (.inl dK)).use λv w' bQ=>by
   obtain⟨aM,r1,b4,ak⟩:=bQ;rcases ak with ⟨rfl,bt⟩|⟨rfl,bt⟩
   .exact⟨0,rfl,aM,r1,b4,.inl ⟨rfl,bt⟩⟩
   .exact⟨3,rfl,aM,r1,b4,.inr ⟨rfl,bt⟩⟩,λhx=>(by cases hx)⟩
 refine⟨0,rfl,λhx=>(by cases hx),λ_=>⟨_,rfl,_,by rw[ax];exact bL.cell,?_⟩⟩;have cO:=FH aB.ca (by show F.D.aO<=_;have:=r.aO;omega) λj b=>by show F.D.dQ j=_;rw[r.lQ.2,bx]
 rw[show((S.T.hC f2).bw F y).C.c=S.T.C.c from r.c]at cO;refine cO.use ?_;rintro _ ao ⟨o,R⟩;have dO:¬cK F S.st:=(aB.ca.inv.eI _ (.inr (.inr (.inl h.es)))).2;have be:=bL.ad R.ad dO;have Y:o.D.d=S.T.C.D.d:=R.d.trans r.d;have bg:o.c=S.T.C.c:=R.c.trans r.c;have aC:∀q,cK o q->cK S.T.C q\/w.heap.size<=q:=λq a=>by
  have:=bM.size;have:=a7.size;rcases R.cN q a with h1|h1
  .exact(r.cN q h1).imp id λe=>by omega
  .exact .inr I
 have bS:ae S.W w ao:=ck bM R.ad λq hl a=>by
  have:=a7.size;exact h.kp (.inl ((r.cN q a).resolve_right I))
 have cP:∀ (bT:bN),(∀j,2<=j->bT.view j=F.view j)->∀j bf,y j=some bf->j<S.T.n/\fU S.T.gen bf.leaf j (bT.view j) bf:=λbT dP j bf ag=>by
  have b:j≠no:=λe=>by rw[bJ]at ag;simp[e]at ag
  have h1:=h.t.dM j bf (by rw[←aw j b];exact ag);rw[dP j h1.2.two,cM j b];exact h1
 have bh:bK ao ((S.T.hC f2).bw o y):=aB.AG R.at_ R.ad R.c R.n (cP o λj _=>R.view j) λj b=>by
  rw[R.bD.1]at b;rcases aB.bD j b with h1|h1
  .exact .inl h1
  .exact .inr λi=>by rw[R.bD.1];exact h1 i
 have ap:o.D.bD=S.T.C.D.bD:=R.bD.1.trans r.bD;have dS:o.D.dQ=λ_=> []:=R.bD.2.trans (r.lQ.2.trans bx);have e9:o.D.aO<=S.T.C.D.aO+70:=by have h1:o.D.aO<=F.D.aO+64:=R.aO;have:=r.aO;omega
 have fin:∀ (w1:J) (Z:aa->J->Prop),aH ai 81 #[.pointer (some S.st),(3:Int)] w1 (oO S pages L aS bm w)->(∀v w',oO S pages L aS bm w v w'->Z v w')->Calls ai 81 #[.pointer (some S.st),(3:Int)] w1 (λe ah=>∃n:Int,e=.returned n/\Z n ah):=λw1 Z bQ cQ=>bQ.use λv w' hc=>by
  have dT:=hc;obtain⟨aM,r1,b4,ak⟩:=dT;rcases ak with ⟨rfl,bt⟩|⟨rfl,bt⟩
  .exact⟨0,rfl,cQ _ _ hc⟩
  .exact⟨3,rfl,cQ _ _ hc⟩
 rcases R.gS with ⟨rfl,dU,cR,dV⟩|⟨rfl,dZ,d0⟩
 rotate_left
 .have cS:o.D.a_=S.T.C.D.a_:=dZ.trans bO
  have d1:fl ao (S.at f2 o y) aS bm:=h.tofl.ua bh be Y bg (λj b=>by rw[cS];rfl) bd λj b=>by rw[ap];exact h.bD j b
  have ab:¬S.T.C.D.quiet:=λa=>by
   rcases d0 with h1|h1
   .exact h1 (r.calm 64 (a.1 _))
   .unfold aV.e_ at h1
    rw[show((S.T.hC f2).bw F y).C.D.bY.getD 3 0=S.T.C.D.bY.getD 3 0 from bP,a.2]at h1
    cases h1
  have d2:dN 100 S (S.at f2 o y) w ao:=dN.at bS Y I (λa=>absurd a ab) aC;exact⟨3,rfl,λ_=>fin _ _ (uc d1 d2 rfl rfl rfl ab (λj b=>by unfold cu.V;show o.D.a_.getD j []=_;rw[cS]) (by show o.D.aO<=_;omega) (.inl λj b=>by
   show o.D.da j=[];rw[R.at_.inv.jT j (by rw[ap];exact h.bD j b),dS])) λ_ _ h=>h,λhx=>(by cases hx)⟩
 have aE:∀j,o.D.da j=[]:=λj=>by unfold aV.da;rw[dU];rfl
 have bi:∀j,o.D.a_.getD j []=if j=no then dW no ⟨4,S.gen+1,e4 f2 ((S.T.n+7)/8)⟩ else S.T.C.view j:=λj=>by
  have h1:=FF R.at_ cR j;rw[tI _ (λx hx=>(R.at_.raw.dev.wn x hx).1),if_pos (aE j)]at h1;rw[←h1,R.view];exact bb j
 have aG:∀j,S.T.g j=true->S.V j=S.T.C.view j:=λj b=>(h.view hl b).symm;refine⟨0,rfl,λhx=>(by cases hx),λ_=>⟨_,rfl,_,be.cell,?_⟩⟩;have cT:=Ai bh;rw[show((S.T.hC f2).bw o y).a6=S.T.a6 from rfl]at cT;refine cT.use ?_;rintro _ bU ⟨rfl,bV⟩;have bX:Ext bU bU.drew:=cr _;have bZ:=(be.ext bV).ext bX;have d3:IntKind.wrap .u64 ((S.u.dc:Int)+1)=((S.u.dc+1:Nat):Int):=by rw[gz I I];omega
 refine⟨_,_,rfl,aY ⟨λ_=>False,_,rfl,id,_,by rw[ax];exact bZ.cell,_,rfl,id,_,by rw[ax,ax];exact bZ.cell,_,rfl,id,_,by rw[ax];exact bZ.cell,?_⟩⟩;rw[d3];obtain⟨G,ac⟩:∃G:cz,G=⟨S.T.root,S.T.aD,no,S.now,S.u.dc+1,S.keys⟩:=⟨_,rfl⟩;refine⟨G.c.toArray,λfa=>by rw[ac];kernel_rfl,bk (vs:=fb.c) rfl λfc cU cV fd=>⟨cV,?_⟩⟩;obtain⟨aI,d4⟩:∃aI,aI=bU.drew.heap.size:=⟨_,rfl⟩;rw[←d4]at cU⊢;refine ib cU rfl G λaJ d5 d6 fe=>aY ?_;have ff:=bV.size;have fg:=bX.size;have d7:Ext ao aJ:=Ext.cv (Ext.trans bV (bX.trans cV)) d6 I;have cW:Ext aJ aJ.drew:=cr _;have aL:Ext ao aJ.drew:=Ext.trans d7 cW;have b0:=d5.ext cW;have bj:=be.ext aL;have b1:=bh.ext aL;generalize fi:aJ.drew=bl at b0 bj b1 aL⊢;refine⟨_,rfl,id,_,by rw[ax];exact bj.cell,id,fV b0 ⟨_,rfl,id,_,by rw[ax];exact bj.cell,?_⟩⟩;rw[bC];have d8:lZ G:=by
  have h1:=h.t.num;have a9:=h.keys;rw[ac];exact⟨by show S.T.root<_;omega,by show S.T.aD<_;omega,by show no<_;omega,aU.1,by show S.u.dc+1<_;omega,by show S.keys<_;omega⟩
 have b2:o.D.n=S.T.n:=R.n.trans (r.n.trans h.t.n);have Q:dy S.T.X bl o:=b1.ca;have cY:=lB Q.raw.dev I d8 (gen:=S.gen+1) I;rw[Y]at cY;refine cY.use ?_;rintro v aN ⟨aq,b5⟩;have fj:=aL.size;have d9:∀q,cK o q->q<aI:=λq a=>by have:=R.at_.raw.lt a;omega
 have d_:=b0.ad aq λhf=>by have:=d9 aI (.inr (.inr hf));omega
 have ea:¬cK o S.st:=(bh.ca.inv.eI _ (.inr (.inr (.inl h.es)))).2;have bn:=bj.ad aq λhf=>ea (.inr (.inr hf));have eb:ae S.W w bl:=ck bS aL λq _ a=>a.elim;have fk:=bS.size;have b6:ae S.W w aN:=ck eb aq λq hl a=>h.kp<| .inl ((aC q (.inr (.inr a))).resolve_right I)
 have main:∀ (A:aV),cj aN A->A.d=o.D.d->jw A o.D->(∀i,2<=i->A.now i=o.D.now i)->(∀q,bF A q->bF o.D q\/bl.heap.size<=q)->(∀j,A.bD j=true->S.T.g j=true)->
  bK aN ((S.T.hC f2).bw {o with D:=A} y)/\∀q,cK {o with D:=A} q->cK S.T.C q\/w.heap.size<=q:=λA aj ec c0 ed c1 b8=>by
  obtain⟨gX,ee⟩:=FQ Q aj ec c0 ed aq c1;refine⟨b1.AG gX (aq.mono λq _ a=>.inr (.inr a)) rfl c0.1 (cP _ λj b=>(ee j b).trans (R.view j)) λj b=>.inl (b8 j b),λq a=>?_⟩;rcases a with a|a|a
  .exact aC q (.inl a)
  .exact aC q (.inr (.inl a))
  .rcases c1 q a with h1|h1
   .exact aC q (.inr (.inr h1))
   .exact .inr I
 have fm:¬o.D.ro:=λe=>bv λi=>by rw[←ap];exact e i
 have ef:∀j,o.D.bD j=true->S.T.g j=true:=λj b=>by
  rw[ap]at b;exact(h.t.bD j b).resolve_right bv
 have c3:S.T.C.D.quiet->∀k,o.D.calm k:=λa k=>R.calm k (r.calm _ (a.1 _));rcases b5 with ⟨b9,rfl,aj⟩|⟨b9,s,eg,a8,O,b5⟩
 .obtain⟨ar,aP⟩:=main (o.D.b_ 2) aj rfl (Q.inv.b_ 2) (λi _=>qc o.D 2 i) (λq a=>.inl a) λj b=>ef j b
  have cb:fl aN (S.at f2 {o with D:=o.D.b_ 2} y) aS bm:=h.tofl.ua ar bn Y bg (λj b=>by
   show o.D.a_.getD j []=_;rw[bi j,if_neg (λe=>by rw[e,am]at b;cases b),aG j b]) bd λj b=>by show o.D.bD j=true;rw[ap];exact h.bD j b
  have ab:¬S.T.C.D.quiet:=λa=>by
   have:=(iD (k:=2) (m:=0) (.inr rfl) Q.raw.dev.f4 (c3 a 1)).2;rw[this]at b9;cases b9
  exact⟨3,rfl,λ_=>fin _ _ (uc cb (dN.at b6 Y (by show o.D.aO<=_;omega) (λa=>absurd a ab) aP) rfl rfl rfl ab (λj b=>by
   show o.D.a_.getD j []=_;rw[bi j,if_neg (λe=>by rw[e,am]at b;cases b),aG j b]) (by show o.D.aO<=_;omega) (.inl λj _=>aE j)) λ_ _ h=>h,λhx=>(by cases hx)⟩
 have c4:∀j,a8.da j=if j=(S.gen+1)%2 then [dW ((S.gen+1)%2) (hU G o.D.n (S.gen+1))] else []:=λj=>by
  rw[O,zi,aE,aE];rfl
 have c5:G=⟨S.T.root,S.T.aD,no,S.now,S.u.dc+1,L.length⟩:=by rw[ac,h.keys]
 have c6:∀V:Nat->cF,(∀j,V j=if j=(S.gen+1)%2 then dW ((S.gen+1)%2) (hU G o.D.n (S.gen+1)) else o.D.a_.getD j [])->gp V S.T.n (S.gen+1) G f2 y pages L:=λV dC=>by
  rw[c5];refine FU h bA ds cp cm dq (λx hx=>aw x λe=>by
   have:=(h.f x).2 (.inl hx);rw[e,co]at this;cases this) (by rw[dC,if_pos rfl,c5,b2]) (λj b=>?_) aG
  rw[dC,if_neg b,bi];by_cases e:j=no
  .rw[if_pos e,if_pos e]
  .rw[if_neg e,if_neg e]
   by_cases cc:S.T.g j=true
   .rw[if_pos cc,aG j cc]
   .rw[if_neg cc]
 have bo:∀q,bF a8 q->bF o.D q\/bl.heap.size<=q:=by rw[O];exact tY eg
 have eh:∀i,2<=i->a8.now i=o.D.now i:=λi hi=>by rw[O,m3,if_neg I]
 have cd:a8.n=o.D.n:=by rw[O];rfl
 have ce:a8.d=o.D.d:=by rw[O];rfl
 have ej:a8.a_=o.D.a_:=by rw[O];rfl
 have ek:a8.aO=o.D.aO+1:=by rw[O];rfl
 have c7:S.T.C.D.quiet->a8.bY.getD 3 0= -1:=λa=>by
  rw[O];show(o.D.bY.set 2 _).getD 3 0=_;have bp:=Q.raw.dev.f4;rw[eH (by rw[cX];omega),eZ (by decide),←eH (d:=0),dV];rw[show((S.T.hC f2).bw F y).C.D.bY.getD 3 0=S.T.C.D.bY.getD 3 0 from bP,a.2];rfl
 rcases b5 with ⟨bq,rfl,aj⟩|⟨bq,rfl,aj⟩
 .obtain⟨A,K⟩:∃A,A=(a8.b_ 3).fq S.T.g λj=>if j=(S.gen+1)%2 then [dW ((S.gen+1)%2) (hU G o.D.n (S.gen+1))] else []:=⟨_,rfl⟩
  obtain⟨ar,aP⟩:=main A (by rw[K];exact aj.fq _ _) (by rw[K];exact ce) ⟨by rw[K];exact cd,λj b=>by rw[ap];exact h.bD j (by rw[K]at b;exact b),λj _=>by rw[K];exact c4 j⟩ (λi hi=>by rw[K];exact eh i hi) (λq a=>by rw[K]at a;exact bo q a) λj b=>by rw[K]at b;exact b
  have c8:A.a_=o.D.a_:=by rw[K];exact ej
  have fn:A.aO=o.D.aO+1:=by rw[K];exact ek
  have c9:A.d=S.T.C.D.d:=by rw[K];exact ce.trans Y
  have b8:∀j,A.da j=if j=(S.gen+1)%2 then [dW ((S.gen+1)%2) (hU G o.D.n (S.gen+1))] else []:=λj=>by rw[K];exact c4 j
  have c_:∀j,S.T.g j=true->A.a_.getD j []=S.V j:=λj b=>by rw[c8,bi j,if_neg (λe=>by rw[e,am]at b;cases b),aG j b]
  have cb:fl aN (S.at f2 {o with D:=A} y) aS bm:=h.tofl.ua ar bn c9 bg c_ bd λj b=>by rw[K];exact b
  have ab:¬S.T.C.D.quiet:=λa=>by
   unfold aV.e_ at bq;rw[c7 a]at bq;cases bq
  exact⟨3,rfl,λ_=>fin _ _ (uc cb (dN.at b6 c9 (by show A.aO<=_;omega) (λa=>absurd a ab) aP) rfl rfl rfl ab c_ (by show A.aO<=_;omega) (.inr ⟨G,f2,y,_,b8,c6 _ λj=>by show(if _ then _ else A.a_.getD j [])=_;rw[c8],by rw[ac],by rw[ac]⟩)) λ_ _ h=>h,λhx=>(by cases hx)⟩
 have el:∀j,S.T.n<=j->o.D.a_.getD j []=[]:=λj b=>by
  rw[e6,kz (by have:o.D.a_.length=S.T.n:=b2;omega)];rfl
 have db:∀j,o.D.now j=o.D.a_.getD j []:=λj=>by rw[tI _ (λx hx=>(Q.raw.dev.wn x hx).1),if_pos (aE j)]
 have fo:a8.n=S.T.n:=cd.trans b2;have em:∀j,(a8.b_ 3).hV.a_.getD j []=if j=(S.gen+1)%2 then dW ((S.gen+1)%2) (hU G o.D.n (S.gen+1)) else o.D.a_.getD j []:=λj=>by
  show((List.range a8.n).map a8.now).getD j []=_;have fp:16<=a8.n:=by have:16<=o.D.n:=Q.raw.dev.bG;omega
  by_cases b:j<a8.n
  .rw[eH (by simp;exact b),List.getElem_map,List.getElem_range,O,m3,db]
  .rw[e6,kz (by simp;omega),if_neg I,el j I];rfl
 obtain⟨H,N⟩:∃H,H=(a8.b_ 3).hV.fq (λ_=>false) λ_=> []:=⟨_,rfl⟩;have ep:∀j,H.da j=[]:=λj=>by rw[N];rfl
 have dd:∀j,H.a_.getD j []=if j=(S.gen+1)%2 then dW ((S.gen+1)%2) (hU G o.D.n (S.gen+1)) else o.D.a_.getD j []:=λj=>by rw[N];exact em j
 have eq:H.n=o.D.n:=by rw[N];exact(qn (a8.b_ 3)).trans cd
 have cf:H.d=S.T.C.D.d:=by rw[N];exact ce.trans Y
 obtain⟨ar,aP⟩:=main H (by rw[N];exact aj.fq _ _) (cf.trans Y.symm) ⟨eq,λj b=>(by rw[N]at b;cases b),λj b=>(by rw[N]at b;cases b)⟩ (λi hi=>by
  have h1:H.now i=H.a_.getD i []:=by rw[N];rfl
  rw[h1,dd,if_neg I,db]) (λq a=>by
   rw[N]at a;rcases a with e|e|e|⟨x,hx,e⟩
   .exact bo q (.inl e)
   .exact bo q (.inr (.inl e))
   .exact bo q (.inr (.inr (.inl e)))
   .cases hx) λj b=>(by rw[N]at b;cases b)
 refine⟨0,rfl,λhx=>(by cases hx),λ_=>⟨_,rfl,_,by rw[ax];exact bn.cell,(En ar.s).use ?_⟩⟩;rintro _ aQ ⟨rfl,s2,er,aR,de⟩;have au:=c6 (λj=>H.a_.getD j []) dd;have et:f2 0=true/\f2 1=true:=⟨(au.g 0).2 (.inr (.inl (by decide))),(au.g 1).2 (.inr (.inl (by decide)))⟩;obtain⟨eu,fr⟩:=ar.space er aR de (λj b=>by
  have b:H.bD j=true:=b;rw[N]at b;cases b) et
 have fs:=aR.size;have ev:=bn.ad aR (h.t.c2 _ h.es).2.1;have ew:=d_.ad aR λhf=>by
  have h1:=h.t.lt (q:=aI) (.inr (.inr (.inl hf)));omega
 have ex:=eu.fq (s:=f2) (z:=λ_=> []) (λf hf j ey _ _=>by
  have h1:=cR f hf;unfold Fr.gg at h1;rw[ey]at h1;simpa using h1) (λj _=>ep j) λj b=>.inl b
 obtain⟨fh,B⟩:∃fh:aK,fh=(((S.T.hC f2).bw {o with D:=H} y).tZ f2 f2 S.T.s1 s2).bw {o with D:=H.fq f2 λ_=> []} y:=⟨_,rfl⟩;have ez:bK aQ fh:=by rw[B];exact ex
 have bs:Ext aQ aQ.drew:=cr _;have df:Var aQ.drew S.st (gn S.T.a6 S.T.C.D.d S.T.C.c S.T.sb S.l S.u S.gen S.now S.first S.pending S.keys S.failed) 158:=ev.ext bs;have eA:=ew.ext bs;have eB:=ez.ext bs;have bu:fh.E=S.T.E:=by rw[B];rfl
 refine⟨rfl,aY ⟨λ_=>False,id,fV eA ⟨_,rfl,id,_,by rw[ax];exact df.cell,_,rfl,?_⟩⟩⟩;rw[ax,cH,bC];refine FW df G λdg dh di=>?_;have eC:=eB.ng (by rw[bu];exact h.es) di;obtain⟨bR,b3⟩:=dR dh (i:=13) (by simp[gn]);have dj:=dX dh (i:=13) (.int .u64 ((S.gen+1:Nat):Int));have eD:=dx dg S.st 13 (.int .u64 ((S.gen+1:Nat):Int));refine⟨_,rfl,by rw[ax];exact bR,by rw[ax];exact b3,aY ?_⟩;rw[ax,cH];obtain⟨eE,eF⟩:=dR dj (i:=16) (by simp[gn]);have dk:=dX dj (i:=16) (0:Int);have cg:=eD.trans (dx _ S.st 16 (0:Int));refine⟨_,rfl,by rw[ax];exact eE,by rw[ax];exact eF,aY ?_⟩;rw[ax,cH];generalize (dg.setCell ⟨S.st,13,none⟩ (.int .u64 ((S.gen+1:Nat):Int))).setCell ⟨S.st,16,none⟩ (0:Int)=dl at dk cg⊢;have eG:=eC.ng (by rw[bu];exact h.es) cg;have ch:Ext dl dl.drew:=cr _;have ci:=dk.ext ch;have eJ:=eG.ext ch;refine aY ⟨_,rfl,id,_,ci.cell,_,rfl,id,_,by rw[ax];exact ci.cell,?_⟩;have eK:IntKind.wrap .u64 (((S.gen+1:Nat):Int)+1)=((S.gen+2:Nat):Int):=by rw[gz I I];omega
 rw[eK];have ft:fh.gen=S.gen+1:=by rw[B];exact dt
 have dm:fh.a6=S.T.a6:=by rw[B];rfl
 have dn:=FT eJ (gen:=S.gen+2) I I;rw[dm]at dn;refine dn.use ?_;rintro _ eL ⟨rfl,eM,dp⟩;have eN:=ci.ad dp (h.t.c2 _ h.es).1;have eO:∀q,(fh.k3 (S.gen+2)).M q->S.T.M q\/w.heap.size<=q:=λq a=>by
  rw[B]at a;rcases a with a|a|a|a
  .exact(aP q a).imp .inl id
  .exact .inl (.inr (.inl a))
  .rcases de q a with h1|h1
   .exact .inl (.inr (.inr (.inl h1)))
   .have:=aq.size;exact .inr I
  .exact .inl (.inr (.inr (.inr a)))
 refine⟨rfl,⟨S.st,fh.k3 (S.gen+2),S.l,G,S.gen+1,S.now,S.first,0,S.keys,S.failed⟩,⟨rfl,?_,by rw[B];rfl,rfl,?_,λa=>?_,?_,eO,bu,by rw[B];rfl⟩,rfl,.inl ⟨rfl,⟨⟨?_,eM,?_,?_,rfl,?_,?_⟩,?_,h.bf,?_,?_,h.kv,h.keys,cI _,λ_=>⟨?_,?_,?_⟩,λhf=>?_⟩,hl,rfl,by rw[ac],by rw[ac],rfl⟩⟩
 .rw[B];exact cf
 .rw[B];show H.aO<=_;rw[N];show a8.aO<=_;omega
 .rw[B]
  show aV.quiet (H.fq _ _);rw[N];refine⟨λk=>qo a8 ?_,?_⟩
  .have bp:=(iD (k:=2) (m:=k) (.inr rfl) Q.raw.dev.f4 (c3 a (k+1))).1
   rw[O];exact bp
  .show(a8.bY.set 3 (fH (a8.bY.getD 3 0)).2).getD 3 0= -1
   have bp:=Q.raw.dev.f4;have fu:a8.bY.length=4:=by rw[O];show(o.D.bY.set 2 _).length=4;rw[cX];exact bp
   rw[c7 a,eH (by rw[cX];omega),gN];rfl
 .have hs:∀q,q=S.st->S.W q:=λq e=>by rw[e];exact h.wQ
  have av:ae S.W w aQ:=ck b6 aR λq _ a=>h.kp (.inr (.inr (.inl a)));have eP:=ck av bs λq _ a=>a.elim;have eQ:=ck eP di λq _ a=>hs q a;have eR:=ck eQ cg λq _ a=>hs q a;have eS:=ck eR ch λq _ a=>a.elim;exact ck eS dp λq _ a=>h.kp (.inr (.inl a))
 .show Var eL S.st (gn fh.a6 fh.C.D.d fh.C.c fh.sb _ _ _ _ _ _ _ _) _
  rw[dm,show fh.C.D.d=S.T.C.D.d by rw[B];exact cf,show fh.C.c=S.T.C.c by rw[B];exact bg,show fh.sb=S.T.sb by rw[B];rfl];exact eN
 .show fh.E S.st
  rw[bu];exact h.es
 .rw[B];exact au
 .refine⟨aU.1,aU.2.1,?_,by show S.gen+1+2<_;omega,aU.2.2.2.2⟩
  show G.dc+1<=S.gen+1;rw[ac];show S.u.dc+1+1<=_;omega
 .intro j b
  have b:fh.g j=true:=b;show fh.C.D.bD j=true;rw[B]at b⊢;exact b
 .refine h.ok.agree (by rw[B];rfl) (by rw[B];rfl) λx hx=>?_
  rw[B];exact(aw x λe=>by
   have:=(h.f x).2 (.inl hx);rw[e,co]at this;cases this).symm
 .intro j
  have:(fh.k3 (S.gen+2)).f j=f2 j:=by rw[B];rfl
  rw[this];exact au.g j
 .intro x hx
  exact⟨(au.two x hx).1,(au.two x hx).2.1⟩
 .intro e
  have h1:=e S.T.n;have a9:(fh.k3 (S.gen+2)).C.D.bD S.T.n=f2 S.T.n:=by rw[B];rfl
  rw[a9,cx.pf S.T.n (br _)]at h1;cases h1
 .rw[B];rfl
 .have eU:f2 S.u.map=false:=by rw[bA];unfold cZ;rw[if_pos rfl]
  have h1:=qi (s:=λi=>f2 i||f2 i) (t:=cZ (λi=>f2 i||f2 i) S.u.map true) (k:=S.u.map) (by simp[eU]) (by simp[cZ]) (λi hi=>by simp[cZ,hi]) (n:=S.T.n) cn.2.2.2.1;have a9:=kZ (cZ (λi=>f2 i||f2 i) S.u.map true) S.T.n;have fv:b7 (fh.k3 (S.gen+2))=S.T.n-eo (λi=>f2 i||f2 i) S.T.n:=by rw[B];rfl
  show 1<=b7 (fh.k3 (S.gen+2));omega
 .have hf:S.failed=true:=hf
  rw[hl]at hf;cases hf
end
theorem FX(a b:Int)(w:J)(T:TypeId)(k:IntKind):Sem.run ai (Builtin.max_ #[T,T] T #[.int k a,.int k b]) w=.ok (.int k (max a b)) w:=by
 simp only[Builtin.max_];unfold Builtin.max2;simp;split<;>omega
theorem dN.trans{S aM c:cu}{w w' e:J}{k l:Nat}(h1:dN k S aM w w')(a:dN l aM c w' e):dN (k+l) S c w e:=
 ⟨a.st.trans h1.st,a.d.trans h1.d,a.n.trans h1.n,a.l.trans h1.l,by have:=h1.aO;have:=a.aO;omega,λh=>a.q (h1.q h),ck h1.ad a.ad λq hl b=>h1.back hl b,λq b=>by
  have:=h1.ad.size
  rcases a.cN q b with f|f
  .exact h1.cN q f
  .exact .inr I,a.E.trans h1.E,a.G.trans h1.G⟩
theorem dN.mono{S aM:cu}{w w':J}{k l:Nat}(h:dN k S aM w w')(hl:k<=l):dN l S aM w w':={h with aO:=by have:=h.aO;omega}
theorem dN.ext{w w':J}(S:cu)(h:Ext w w'):dN 0 S S w w':=⟨rfl,rfl,rfl,rfl,br _,λh=>h,h.mono λ_ _ h=>h.elim,λq a=>.inl a,rfl,rfl⟩
section
variable {w w' w1:J}{T:aK}{S aM e1:cu}{pages aS:O Nat}{L bm:O aQ}
theorem fl.ext(h:fl w S aS bm)(hx:Ext w w'):fl w' S aS bm:=⟨h.v.ext hx,h.t.ext hx,h.es,h.fM,h.gen,h.num,h.bD⟩
theorem ei.ext(h:ei w S pages L aS bm)(hx:Ext w w'):ei w' S pages L aS bm:=⟨h.tofl.ext hx,h.ok,h.bf,h.f,h.two,h.kv,h.keys,h.jX,h.live,h.dead⟩
def k5(S:cu):Nat:=b7 S.T-2*S.T.aD-4
theorem FY(h:ei w S pages L aS bm):aH ai 82 #[.pointer (some S.st)] w (λv w'=>v=.int .i64 (k5 S:Nat)/\Ext w w'):=by
 refine okF (af.sk (some S.st)) ay.sk func82 ?_;(delta af.sk eT aA au;dsimp only);refine⟨_,rfl,_,h.v.cell,(Ai h.t).use ?_⟩;rintro _ e ⟨rfl,a⟩;refine⟨_,_,rfl,_,rfl,_,by rw[ax];exact(h.v.ext a).cell,(wg (h.t.ext a).s).use ?_⟩;rintro _ b ⟨rfl,c⟩;have j:=h.t.s.bc;have k:=h.t.num.2.1;have l:=kZ (λi=>S.T.f i||S.T.g i) S.T.n;have d:(S.T.n:Int)-eo (λi=>S.T.f i||S.T.g i) S.T.n=((b7 S.T:Nat):Int):=by unfold b7;omega
 have m:b7 S.T<=S.T.n:=Nat.sub_le _ _;rw[d,bB (n:=2*(S.T.aD:Int)) I I];refine⟨_,rfl,_,b,FX _ _ b _ _,?_,Ext.trans a c⟩;rw[bB (n:=((b7 S.T:Nat):Int)-2*(S.T.aD:Int)) I I,bB I I];unfold k5
 congr 1
 omega
end
def iI(c:Prop)(S aM:cu)(pages:O Nat)(L:O aQ)(aS:O Nat)(bm:O aQ)(v:aa)(w':J):Prop:=
 (v=.int .i64 0/\c/\ei w' aM pages L pages L/\aM.failed=false/\aM.gen=S.gen+1/\aM.u.clock=S.now/\aM.u.dc=S.u.dc+1/\aM.pending=0)\/
 (v=.int .i64 3/\¬S.T.C.D.quiet/\ei w' aM aS bm aS bm/\aM.failed=true/\aM.u=S.u/\aM.gen=S.gen/\(∀j,S.T.g j=true->aM.V j=S.V j)/\((∀j,S.T.g j=true->aM.T.C.D.dQ j=[])\/(c/\AH aM S.gen S.T.g pages L S.now (S.u.dc+1))))
theorem oO.x{c:Prop}{S:cu}{pages aS:O Nat}{L bm:O aQ}{w w':J}{v:aa}(h:oO S pages L aS bm w v w')(hc:c):∃aM,dN 100 S aM w w'/\aM.now=S.now/\iI c S aM pages L aS bm v w':=by
 obtain⟨aM,h1,a,b⟩:=h;refine⟨aM,h1,a,?_⟩;rcases b with ⟨a1,a2,a3⟩|⟨a1,a2,a3,a4,a5,c_,dK,dH⟩
 .exact .inl ⟨a1,hc,a2,a3⟩
 .exact .inr ⟨a1,a2,a3,a4,a5,c_,dK,.inr ⟨hc,dH⟩⟩
theorem iI.val{c:Prop}{S aM:cu}{pages aS:O Nat}{L bm:O aQ}{w':J}{v:aa}(h:iI c S aM pages L aS bm v w'):∃n:Int,v=n:=by
 rcases h with ⟨a,_⟩|⟨a,_⟩<;>exact⟨_,a⟩
def nh(S aM:cu)(pages:O Nat)(L:O aQ)(aS:O Nat)(bm:O aQ)(v:aa)(w':J):Prop:=
 (v=.int .i64 0/\S.pending+1<S.l.batch/\ei w' aM pages L aS bm/\aM.failed=false/\aM.gen=S.gen/\aM.u=S.u/\aM.pending=S.pending+1/\aM.first=(if S.pending=0 then S.now else S.first)/\∀j,S.T.g j=true->aM.V j=S.V j)\/
 iI (S.l.batch<=S.pending+1) S aM pages L aS bm v w'
section
variable {w w' w1:J}{T:aK}{S aM e1:cu}{pages aS:O Nat}{L bm:O aQ}
theorem FZ{d:Int}(b:fl w S aS bm)(hl:S.failed=false)(ok:fL S.T pages L)(bf:pages.Nodup)(f:∀no,S.T.f no=true↔no∈pages\/no<2\/no=S.u.map)(two:∀x∈pages,2<=x/\x≠S.u.map)(kv:∀p∈L,cT p.1/\p.2.length<=24)
 (X:¬S.T.C.D.ro/\S.T.C.D.dQ=(λ_=> [])/\1<=b7 S.T) (Y:(S.keys:Int)+d=L.length) (ar:S.pending<1000) (Z:L.length<4096) (aw:S.keys<100000) (aa:S.T.C.D.aO<=800000000) (ab:S.gen<=1000000000):
 aH ai 84 #[.pointer (some S.st),d] w (λv w'=>∃aM,dN 100 S aM w w'/\aM.now=S.now/\nh S aM pages L aS bm v w'):=by
 refine okF (af.sm (some S.st) d) ay.sm func84 ?_;(delta af.sm r1 st au al bt aA;dsimp only);have N:=b.num;have az:S.T.M S.st:=.inr (.inr (.inr (.inl b.es)));obtain⟨av,ac,g,y,z⟩:=b.set (i:=17) (x:=L.length) (by decide);refine⟨_,rfl,_,by rw[ax];exact b.v.cell,_,rfl,by rw[ax];exact av,by rw[ax];exact ac,aY ?_⟩;rw[ax,cH,Y,bB (n:=(L.length:Int)) I I];generalize aB:w.setCell ⟨S.st,17,none⟩ L.length=ad at g y z⊢;obtain⟨o,t⟩:∃o,o=if S.pending=0 then S.now else S.first:=⟨_,rfl⟩
 refine jm (λk=>Var k S.st (gn S.T.a6 S.T.C.D.d S.T.C.c S.T.sb S.l S.u S.gen S.now o S.pending L.length S.failed) 158/\bK k S.T/\ae (λq=>q=S.st) w k) (λaC O=>?_) ?_
 .refine⟨_,rfl,_,by rw[ax];exact g.cell,λA=>?_,λA=>O _ ⟨?_,y,z⟩⟩
  .have h0:S.pending=0:=by
    have:(S.pending:Int)=0:=by simpa using A
    omega
   obtain⟨B,E⟩:=dR g (i:=15) (by simp[cu.cells,gn]);have ag:=dX g (i:=15) (.int .u64 (S.now:Int));have P:=dx ad S.st 15 (.int .u64 (S.now:Int));refine⟨_,rfl,_,by rw[ax];exact g.cell,_,rfl,by rw[ax];exact B,by rw[ax];exact E,aY (O _ ⟨?_,?_,?_⟩)⟩
   .rw[ax,cH,t,if_pos h0];exact ag
   .rw[ax,cH];exact y.ng b.es P
   .rw[ax,cH];exact z.trans P
  .have h0:¬S.pending=0:=by
    have:¬(S.pending:Int)=0:=by simpa using A
    omega
   rw[t,if_neg h0];exact g
 rintro k ⟨F,ah,aj⟩;obtain⟨B,E⟩:=dR F (i:=16) (by simp[gn]);have Q:=dX F (i:=16) (.int .i64 ((S.pending+1:Nat):Int));have G:=dx k S.st 16 (.int .i64 ((S.pending+1:Nat):Int));have am:IntKind.wrap .i64 ((S.pending:Int)+1)=((S.pending+1:Nat):Int):=by rw[bB I I];omega
 refine⟨_,rfl,_,by rw[ax];exact F.cell,_,rfl,by rw[ax];exact B,by rw[ax];exact E,aY ?_⟩;rw[ax,cH,am];have R:=ah.ng b.es G;generalize aD:k.setCell ⟨S.st,16,none⟩ (.int .i64 ((S.pending+1:Nat):Int))=r at Q G R⊢;have H:Ext r r.drew:=cr _;have J:=Q.ext H;have an:=R.ext H;have ao:ae (λq=>q=S.st) w r.drew:=ck (aj.trans G) H λq _ K=>K.elim;obtain⟨m,a⟩:∃m:cu,m={S with first:=o,pending:=S.pending+1,keys:=L.length}:=⟨_,rfl⟩;have ap:o<=S.now:=by rw[t];split<;>omega
 have U:ei r.drew m pages L aS bm:=by
  rw[a];exact⟨⟨J,an,b.es,b.fM,b.gen,⟨N.1,ap,N.2.2⟩,b.bD⟩,ok,bf,f,two,kv,rfl,by show S.pending+1<=1000;omega,λ_=>X,λhf=>by have hf:S.failed=true:=hf;rw[hl]at hf;cases hf⟩
 have V:dN 0 S m w r.drew:=by
  rw[a];exact⟨rfl,rfl,rfl,rfl,br _,λh=>h,ao.mono λq _ e=>by rw[e];exact b.wQ,λq K=>.inl K,rfl,rfl⟩
 refine aY ⟨_,rfl,id,_,by rw[ax];exact J.cell,_,rfl,id,_,by rw[ax,ax];exact J.cell,λs=>?_,λs=>?_⟩
 .have s:((S.pending+1:Nat):Int)>=(S.l.batch:Int):=cf s
  have W:=AI U (by rw[a];exact hl) Z (by rw[a];exact aa) (by rw[a];exact ab);rw[show m.st=S.st by rw[a]]at W;refine W.use ?_;intro v aE aq;obtain⟨aM,r1,b4,ak⟩:=aq.x (c:=S.l.batch<=S.pending+1) I;obtain⟨n,rfl⟩:=ak.val;refine⟨n,rfl,aM,(V.trans r1).mono I,by rw[b4,a],.inr ?_⟩;rw[a]at ak;exact ak
 .have s:¬((S.pending+1:Nat):Int)>=(S.l.batch:Int):=cx s
  exact⟨m,V.mono I,by rw[a],.inl ⟨rfl,I,U,by rw[a];exact hl,by rw[a],by rw[a],by rw[a],by rw[a];exact t,λj _=>by rw[a];rfl⟩⟩
theorem F0(h:ei w S pages L aS bm)(a:L.length<4096)(b:S.T.C.D.aO<=800000000)(d:S.gen<=1000000000):
 aH ai 34 #[.pointer (some S.st)] w (λv w'=>(S.failed=true/\v=.int .i64 8/\w=w')\/(S.failed=false/\∃aM,dN 100 S aM w w'/\aM.now=S.now/\iI True S aM pages L aS bm v w')):=by
 refine okF (af.mz (some S.st)) ay.mz func34 ?_;(delta af.mz al a7 aA;dsimp only);refine⟨λe=>(by cases e),λ_=>⟨_,rfl,S.failed,by rw[ax];exact h.v.cell,λhf=>.inl ⟨hf,rfl,rfl⟩,λhf=>(AI h hf a b d).use ?_⟩⟩;intro v w' f;obtain⟨aM,r1,b4,ak⟩:=f.x (c:=True) trivial;obtain⟨n,rfl⟩:=ak.val;exact⟨n,rfl,.inr ⟨hf,aM,r1,b4,ak⟩⟩
end
section
variable {w w' w1:J}{T aq:aK}{S aM e1:cu}{pages aS:O Nat}{L bm:O aQ}{k:Nat}
def cu.bZ(S:cu)(aq:aK):cu:={S with T:=aq}
theorem fl.to(h:fl w S aS bm)(ht:bK w' aq)(a:bO S.T aq w w' k)(f:aq.E=S.T.E)(l:aq.G=S.T.G)(o:∀no,S.T.g no=true->aq.P no=S.T.P no):
 fl w' (S.bZ aq) aS bm/\dN k S (S.bZ aq) w w'/\(S.bZ aq).V=S.V:=by
 have r:aq.C.D.a_=S.T.C.D.a_:=congrArg (λp=>p.1.1) a.a_;have s:aq.C.D.bY.getD 3 0=S.T.C.D.bY.getD 3 0:=congrArg Prod.snd a.a_;have i:(S.bZ aq).V=S.V:=by
  funext j;show aq.C.D.a_.getD j []=S.T.C.D.a_.getD j [];rw[r]
 refine⟨⟨?_,ht,by show aq.E S.st;rw[f];exact h.es,?_,a.gen.trans h.gen,h.num,λj b=>?_⟩,⟨rfl,a.d,a.n,rfl,a.aO,λe=>⟨λm=>a.calm m (e.1 _),s.trans e.2⟩,a.ad.mono λq _ e=>h.kp e,a.cN,f,l⟩,i⟩
 .show Var w' S.st (gn aq.a6 aq.C.D.d aq.C.c aq.sb _ _ _ _ _ _ _ _) _
  rw[a.a6,a.d,a.c,a.sb];exact h.v.ad a.ad (h.t.iC h.es)
 .show gp _ aq.n _ _ aq.g aq.P _ _
  rw[i,a.n,a.g];exact h.fM.agree (λ_ _=>rfl) λx hx=>(o x ((h.fM.g x).2 (.inl hx))).symm
 .have b:aq.g j=true:=b
  rw[a.g]at b;show aq.C.D.bD j=true;rw[a.bD.1];exact h.bD j b
theorem bO.ro(h:bO T aq w w' k):aq.C.D.ro↔T.C.D.ro:=by unfold aV.ro;rw[h.bD.1]
theorem ei.to(h:ei w S pages L aS bm)(ht:bK w' aq)(a:bO S.T aq w w' k)(c:aq.E=S.T.E)(d:aq.G=S.T.G)(b:ql S.T aq):
 ei w' (S.bZ aq) pages L aS bm/\dN k S (S.bZ aq) w w'/\(S.bZ aq).V=S.V:=by
 obtain⟨h1,i,j⟩:=h.tofl.to ht a c d λno l=>(b.ej no (by rw[l,Bool.or_true])).1;have m:b7 aq=b7 S.T:=by unfold b7;rw[a.n,b.f,a.g]
 refine⟨⟨h1,b.ok h.ok λx hx=>(h.f x).2 (.inl hx),h.bf,λno=>by show aq.f no=true↔_;rw[b.f];exact h.f no,h.two,h.kv,h.keys,h.jX,λhf=>?_,λhf=>?_⟩,i,j⟩
 .obtain⟨a1,a2,a3⟩:=h.live hf
  exact⟨λe=>a1 (a.ro.1 e),a.bD.2.trans a2,by show 1<=b7 aq;rw[m];exact a3⟩
 .obtain⟨a1,a2⟩:=h.dead hf
  exact⟨a.ro.2 a1,a2⟩
theorem F1{tk:Y}{key:Key}(h:ei w S pages L aS bm)(b:S.T.C.D.aO<=800000000)(c:Src 1 w tk (aF key))(d:∀q,aB tk q->q<w.heap.size/\¬S.T.M q):
 aH ai 55 #[.pointer (some S.st),tk] w (λv w'=>∃aC,ei w' (S.bZ (S.T.bw aC S.T.P)) pages L aS bm/\dN 30 S (S.bZ (S.T.bw aC S.T.P)) w w'/\wC S.T L key w v w'):=by
 refine okF (af.mA (some S.st) tk) ay.mA func55 ?_;(delta af.mA al kN;dsimp only);refine⟨λe=>(by cases e),λ_=>⟨_,rfl,_,h.v.cell,(Ah h.t h.ok b c d).use ?_⟩⟩;intro v w' a;have f:=a;obtain⟨aC,h1,g,i,j⟩:=a;obtain⟨a1,a2,_⟩:=h.to h1 g rfl rfl (.bw i);have fin:(λv w'=>∃aC,ei w' (S.bZ (S.T.bw aC S.T.P)) pages L aS bm/\dN 30 S (S.bZ (S.T.bw aC S.T.P)) w w'/\wC S.T L key w v w') v w':=⟨aC,a1,a2,f⟩;rcases j with ⟨rfl,_⟩|⟨t,x,rfl,_⟩|⟨rfl,_⟩
 .exact⟨⟨none,0,0⟩,_,_,rfl,fin⟩
 .exact⟨t,_,_,rfl,fin⟩
 .exact⟨⟨none,0,0⟩,_,_,rfl,fin⟩
end
theorem AJ(k v:Key):∀L:O aQ,(gb L k v).length=(fR L k).length+1
 | []=>rfl
 |p::L=>by
  have c:=AJ k v L
  unfold gb fR at c⊢
  simp only[cE,fD,qO]at c⊢
  by_cases h1:bU p.1 k
  .have a:¬bU k p.1:=jN h1
   have b:p.1≠k:=λe=>by rw[e]at h1;exact jN h1 h1
   rw[if_pos (dv h1),if_neg (by simpa using a),if_pos (dv b)]
   simp only[fD];omega
  .by_cases a:bU k p.1
   .have b:p.1≠k:=λe=>h1 (by rw[e]at a;exact absurd a (λh=>jN h h))
    rw[if_neg (by simpa using h1),if_pos (dv a),if_pos (dv b)]
    simp only[fD];omega
   .have b:p.1=k:=by
     rcases ve p.1 k with h|h|h
     .exact absurd h h1
     .exact h
     .exact absurd h a
    rw[if_neg (by simpa using h1),if_neg (by simpa using a),if_neg (by simpa using b)];omega
theorem AK{k:Key}:∀ {L:O aQ},iy L->L.length=(fR L k).length+(if gC L k=none then 0 else 1)
 | [],_=>rfl
 |p::L,h=>by
  have h0:=kx.1 h
  have f:=AK (k:=k) h0.2
  by_cases e:p.1=k
  .have h1:∀q∈L,q.1≠k:=λq c d=>by
    have:=h0.1 q c
    rw[e,d]at this
    exact jN this this
   have a:fR (p::L) k=L:=by
    have:fR (p::L) k=fR L k:=by unfold fR;rw[qO];simp[e]
    rw[this,vf h1]
   have b:gC (p::L) k≠none:=by unfold gC;simp[e]
   rw[a,if_neg b];rfl
  .have a:(fR (p::L) k).length=(fR L k).length+1:=by unfold fR;rw[qO];simp[e]
   have b:gC (p::L) k=gC L k:=by unfold gC;simp[e]
   rw[a,b,fD];omega
section
variable {w w' w1:J}{T aq:aK}{S aM cV:cu}{pages aS:O Nat}{L bm:O aQ}{k:Nat}
structure oP(S cV:cu):Prop where
 u:cV.u=S.u
 gen:cV.gen=S.gen
 now:cV.now=S.now
 first:cV.first=S.first
 pending:cV.pending=S.pending
 l:cV.l=S.l
 g:cV.T.g=S.T.g
 V:cV.V=S.V
theorem iI.back{c:Prop}{v:aa}(h:iI c cV aM pages L aS bm v w')(e:oP S cV)(d:dN k S cV w w1):iI c S aM pages L aS bm v w':=by
 unfold iI at h⊢;rw[e.u,e.gen,e.now,e.g,e.V]at h;exact h.imp id λ⟨a,b,c⟩=>⟨a,λf=>b (d.q f),c⟩
theorem nh.back{v:aa}(h:nh cV aM pages L aS bm v w')(e:oP S cV)(a:dN k S cV w w1):nh S aM pages L aS bm v w':=by
 unfold nh at h⊢;have:=λh=>iI.back (pages:=pages) (L:=L) (aS:=aS) (bm:=bm) (c:=S.l.batch<=S.pending+1) (v:=v) (aM:=aM) (w':=w') h e a;rw[e.pending,e.l,e.gen,e.u,e.now,e.first,e.g,e.V]at h;exact h.imp id this
theorem wR(b:fl w1 cV aS bm)(d:dN k S cV w w1)(e:oP S cV)(h:¬S.T.C.D.quiet)(i:cV.T.C.D.dQ=λ_=> [])(l:cV.T.C.D.aO<=900000000):
 aH ai 81 #[.pointer (some S.st),(3:Int)] w1 (λv w'=>v=.int .i64 3/\∃aM,dN k S aM w w'/\aM.now=S.now/\∀c pages L,iI c S aM pages L aS bm v w'):=by
 have hf:=AF b 3 l;rw[d.st]at hf;refine hf.mono ?_;rintro v w' ⟨rfl,aM,hs,hd,a⟩;refine⟨rfl,aM,d.trans hd,a.now.trans e.now,λc pages L=>.inr ⟨rfl,h,hs,a.failed,a.u.trans e.u,a.gen.trans e.gen,λj f=>?_,.inl λj f=>?_⟩⟩
 .rw[←e.V];unfold cu.V;rw[a.V]
 .rw[a.sa j,b.t.ca.inv.jT j (b.bD j (by rw[e.g];exact f)),i]
theorem ei.F2{b6:aK}{dz:O aQ}{d:Int}(h:ei w S pages L aS bm)(hf:S.failed=false)(o:bK w' b6)(c:bO S.T b6 w w' k)(q:b6.E=S.T.E)(r:b6.G=S.T.G)(s:E8 S.T b6 pages dz)(W:2*S.T.aD+5<=b7 S.T)(t:∀p∈dz,cT p.1/\p.2.length<=24)(hd:(S.keys:Int)+d=dz.length)(y:dz.length<4096)(X:S.keys<4096)(z:S.pending<1000)(Y:S.T.C.D.aO+k<=800000000)(A:S.gen<=1000000000):
 aH ai 84 #[.pointer (some S.st),d] w' (λv l=>(∃n:Int,v=n)/\∃aM ig,dN (k+100) S aM w l/\aM.now=S.now/\nh S aM ig dz aS bm v l):=by
 obtain⟨⟨ig,Z,B,cS,F,H⟩,I⟩:=s;obtain⟨J,m,K⟩:=h.tofl.to o c q r λno M=>(I no M).1;have N:oP S (S.bZ b6):=⟨rfl,rfl,rfl,rfl,rfl,rfl,c.g,K⟩;obtain⟨P,Q,_⟩:=h.live hf;have R:∀j,j<2\/j=S.u.map->j∉pages:=λj i U=>by
  have:=h.two j U;rcases i with i|i
  .omega
  .exact this.2 i
 refine(FZ (d:=d) J hf B cS (λno=>(H no).trans ?_) (λx hx=>?_) t ⟨λe=>P (c.ro.1 e),c.bD.2.trans Q,by show 1<=b7 b6;omega⟩ hd z y (by show S.keys<_;omega) (by have:=c.aO;show b6.C.D.aO<=_;omega) A).mono ?_
 .rw[h.f no]
  constructor
  .rintro(h1|⟨h1|h1,b⟩)
   .exact .inl h1
   .exact absurd h1 b
   .exact .inr h1
  .rintro(h1|h1)
   .exact .inl h1
   .exact .inr ⟨.inr h1,R no h1⟩
 .rcases F x hx with h1|h1
  .exact h.two x h1
  .have b:S.T.f x=false:=by cases aa:S.T.f x<;>simp_all
   refine⟨Nat.le_of_not_lt λhl=>?_,λV=>?_⟩
   .rw[(h.f x).2 (.inr (.inl hl))]at b;cases b
   .rw[(h.f x).2 (.inr (.inr V))]at b;cases b
 .rintro v l ⟨aM,r1,b4,ak⟩
  refine⟨?_,aM,ig,m.trans r1,b4,ak.back N m⟩;rcases ak with ⟨a,_⟩|a
  .exact⟨0,a⟩
  .exact a.val
theorem pJ(w:J)(s:Y):aH ai 79 #[s] w (λv w'=>v=.bool (decide (1<=s.len/\s.len<=24))/\w=w'):=by
 refine okF (af.pJ s) ay.pJ func79 ?_;refine⟨?_,rfl⟩
 congr 1
 rw[fm,dO,cO,cO,cO];omega
theorem F3{tk fG:Y}{key val:Key}(h:ei w S pages L aS bm)(a5:L.length<4000)(G:S.pending<1000)(a6:S.T.C.D.aO<=700000000)(an:S.gen<=1000000000)
 (H:Src 1 w tk (aF key)) (A:∀q,aB tk q->q<w.heap.size/\¬S.T.M q) (V:Src 1 w fG (aF val)) (W:∀q,aB fG q->q<w.heap.size/\¬S.T.M q):
 aH ai 23 #[.pointer (some S.st),tk,fG] w (λv w'=>(v=.int .i64 1/\¬(cT key/\val.length<=24)/\w=w')\/((cT key/\val.length<=24)/\
  ((S.failed=true/\v=.int .i64 8/\w=w')\/(S.failed=false/\∃aM,dN 300 S aM w w'/\aM.now=S.now/\
    ((v=.int .i64 2/\k5 S=0/\ei w' S pages L aS bm/\aM=S)\/(k5 S≠0/\∃ig,nh S aM ig (gb L key val) aS bm v w')))))):=by
 have ao:tk.len=key.length:=by have:=H.len;rw[dI]at this;omega
 have a8:fG.len=val.length:=by have:=V.len;rw[dI]at this;omega
 have a9:=h.t.s.bc;refine okF (af.my (some S.st) tk fG) ay.my func23 ?_;(delta af.my al aG a7 aA kN;dsimp only);refine cl (λb w'=>(b=false↔cT key)/\w=w') (λq a=>⟨λB=>(by cases B),λ_=>(pJ w tk).use ?_⟩) ?_
 .rintro _ _ ⟨rfl,rfl⟩
  refine⟨_,rfl,a _ _ ⟨?_,rfl⟩⟩;unfold cT;rw[ao,Bool.not_eq_false',cO]
 rintro b _ ⟨B,rfl⟩;refine⟨λh1=>.inl ⟨rfl,λhg=>?_,rfl⟩,λh1=>?_⟩
 .rcases Bool.or_eq_true_iff.1 h1 with j|j
  .rw[B.2 hg.1]at j;cases j
  .have:=cf j;have:=hg.2;omega
 have hg:cT key/\val.length<=24:=by
  have j:=nm.1 h1;have X:=cx j.2;exact⟨B.1 j.1,I⟩
 refine⟨_,rfl,S.failed,by rw[ax];exact h.v.cell,λhf=>.inr ⟨hg,.inl ⟨hf,rfl,rfl⟩⟩,λhf=>(FY h).use ?_⟩;rintro _ a_ ⟨rfl,m⟩;have u:=h.ext m;obtain⟨ap,aq,_⟩:=h.live hf;refine⟨_,rfl,λJ=>.inr ⟨hg,.inr ⟨hf,S,(dN.ext S m).mono I,rfl,.inl ⟨rfl,?_,u,rfl⟩⟩⟩,λJ=>?_⟩
 .have:((k5 S:Nat):Int)=0:=by simpa using J
  omega
 have E:k5 S≠0:=by
  have:¬((k5 S:Nat):Int)=0:=by simpa using J
  omega
 refine⟨_,rfl,_,u.v.cell,(Ah u.t u.ok I (H.ext m) λq a=>⟨by have:=(A q a).1;have:=m.size;omega,(A q a).2⟩).use ?_⟩;rintro v K ⟨i,Z,o,ar,F⟩;obtain⟨r,aa,ab⟩:=u.to Z o rfl rfl (.bw ar);have y:dN 30 S (S.bZ (S.T.bw i S.T.P)) w K:=((dN.ext S m).trans aa).mono I;have N:oP S (S.bZ (S.T.bw i S.T.P)):=⟨rfl,rfl,rfl,rfl,rfl,rfl,rfl,ab⟩;have O:(S.bZ (S.T.bw i S.T.P)).T.C.D.dQ=λ_=> []:=o.bD.2.trans aq;have ba:i.D.aO<=S.T.C.D.aO+30:=o.aO;have au:∀n:Int,v=.tuple #[(),false,(3:Int)]->¬S.T.C.D.quiet->aH ai 81 #[.pointer (some S.st),(3:Int)] K (λv w'=>v=.int .i64 3/\∃aM,dN 30 S aM w w'/\aM.now=S.now/\∀c pages L,iI c S aM pages L aS bm v w'):=λ_ _ a=>wR r.tofl y N a O (by show i.D.aO<=_;omega);have av:∃ (t:Y) (e:ag) (n:Int),v=.tuple #[t,e,n]/\((n=0/\(e=true↔gC L key≠none))\/(n=3/\¬S.T.C.D.quiet)):=by
  rcases F with ⟨rfl,l⟩|⟨t,x,rfl,_,hs,_⟩|⟨rfl,_,Q⟩
  .exact⟨⟨none,0,0⟩,false,0,rfl,.inl ⟨rfl,λh=>(by cases h),λh=>absurd (l hg.1) h⟩⟩
  .exact⟨t,true,0,rfl,.inl ⟨rfl,λ_=>by rw[hs];simp,λ_=>rfl⟩⟩
  .exact⟨⟨none,0,0⟩,false,3,rfl,.inr ⟨rfl,λa=>Q (a.1 30)⟩⟩
 clear au F;obtain⟨t,e,n,rfl,aw⟩:=av;rcases aw with ⟨rfl,he⟩|⟨rfl,R⟩
 rotate_left
 .refine⟨t,e,3,rfl,λ_=>(wR r.tofl y N R O (by show i.D.aO<=_;omega)).use ?_,λh=>(by cases h)⟩
  rintro _ az ⟨rfl,aM,r1,b4,ak⟩;exact⟨3,rfl,.inr ⟨hg,.inr ⟨hf,aM,r1.mono I,b4,.inr ⟨E,[],.inr (ak _ _ _)⟩⟩⟩⟩
 have bb:=m.size;have bd:=o.ad.size;have ac:∀s:Y,(∀q,aB s q->q<w.heap.size/\¬S.T.M q)->∀q,aB s q->q<K.heap.size/\¬(S.T.bw i S.T.P).M q:=λs hs q a=>⟨by have:=(hs q a).1;omega,λaC=>by
  rcases o.cN q aC with j|j
  .exact(hs q a).2 j
  .have:=(hs q a).1;omega⟩
 have aE:=(H.ext m).ad o.ad λq a l=>(A q a).2 (aK.gu l);have aI:=(V.ext m).ad o.ad λq a l=>(W q a).2 (aK.gu l);have aJ:¬(S.T.bw i S.T.P).C.D.ro:=λe=>ap (o.ro.1 e);refine⟨t,e,0,rfl,λh=>(by cases h),λ_=>⟨_,rfl,_,r.v.cell,?_⟩⟩;refine(E5 Z aJ r.ok I r.bf (λx hx=>(r.f x).2 (.inl hx)) (by show i.D.aO<=_;omega) aE (ac tk A) aI (ac fG W)).use ?_;rintro v aL (⟨_,aN,_⟩|⟨_,_,b6,ae,z,ah,aj,F⟩)
 .exact absurd hg aN
 have aP:b7 (S.T.bw i S.T.P)=b7 S.T:=rfl;have aQ:(S.T.bw i S.T.P).aD=S.T.aD:=rfl;have aR:2*S.T.aD+5<=b7 S.T:=by unfold k5 at E;omega
 rcases F with ⟨_,aT,_⟩|⟨rfl,_,⟨ig,aU,aV,cS,aW,aX⟩,U⟩|⟨rfl,Q,be,bg,bh,U⟩
 .rw[aP,aQ]at aT;omega
 .have hlen:(S.keys:Int)+(if e=true then 0 else 1)=(gb L key val).length:=by
   have h1:=AJ key val L;have j:=AK (k:=key) h.ok.rising;have X:=h.keys;by_cases l:gC L key=none
   .have:¬e=true:=λh=>he.1 h l
    rw[if_pos l]at j;rw[if_neg this];omega
   .rw[if_neg l]at j
    rw[if_pos (he.2 l)];omega
  have X:=h.keys;have aY:(gb L key val).length<4096:=by split at hlen<;>omega
  have am:=λd hd=>r.F2 (d:=d) hf ae z ah aj ⟨⟨ig,aU,aV,cS,aW,aX⟩,U⟩ aR (λp G=>by
   rcases CK.1 G with rfl|⟨h1,_⟩
   .exact hg
   .exact h.kv p h1) hd aY (by show S.keys<_;omega) G (by show i.D.aO+100<=_;omega) an
  refine⟨0,rfl,λh=>(by cases h),λ_=>⟨λht=>(am 0 (by rw[←hlen,if_pos ht];rfl)).use ?_,λht=>(am 1 (by rw[←hlen,if_neg (by rw[ht];decide)];rfl)).use ?_⟩⟩
  all_goals
   rintro v w' ⟨⟨n,rfl⟩,aM,ig,r1,b4,ak⟩;exact⟨n,rfl,.inr ⟨hg,.inr ⟨hf,aM,(y.trans r1).mono I,b4,.inr ⟨E,ig,ak.back N y⟩⟩⟩⟩
 .obtain⟨aZ,a0,a1⟩:=r.tofl.to ae z ah aj λno a2=>(U no (by show(S.T.f no||S.T.g no)=true;rw[show S.T.g no=true from a2,Bool.or_true])).1
  have a3:dN 130 S (S.bZ b6) w aL:=(y.trans a0).mono I;have a4:oP S (S.bZ b6):=⟨rfl,rfl,rfl,rfl,rfl,rfl,z.g,a1.trans ab⟩;have R:¬S.T.C.D.quiet:=λa=>Q ((aa.q a).1 100);refine⟨3,rfl,λ_=>(wR aZ a3 a4 R (z.bD.2.trans O) (by have:=z.aO;show b6.C.D.aO<=_;have e:(S.T.bw i S.T.P).C.D.aO=i.D.aO:=rfl;omega)).use ?_,λh=>(by cases h)⟩;rintro _ az ⟨rfl,aM,r1,b4,ak⟩;exact⟨3,rfl,.inr ⟨hg,.inr ⟨hf,aM,r1.mono I,b4,.inr ⟨E,[],.inr (ak _ _ _)⟩⟩⟩⟩
end
theorem ints_at{w:J}{s:Y}{l:O Nat}(h:Src 1 w s (dr l)){i:Nat}(hi:i<l.length):∃A:ab,s.a=some A/\((0:Int)<=(i:Int)/\(i:Int)<(s.len:Int))/\w.cell? (A.add (Int.toNat (i:Int)*1))=some (.int .i64 ((l[i]:Nat):Int)):=by
 obtain⟨A,ar,b,hc⟩:=h.at (i:=i) (v:=.int .i64 ((l[i]:Nat):Int)) (by simp[dr,hi]);exact⟨A,ar,b,hc⟩
theorem F4{w:J}{t u:Y}{l m:O Nat}(hl:Src 1 w t (dr l))(d:Src 1 w u (dr m))(K:l.length<=100000):aH ai 154 #[t,u] w (λv w'=>v=.bool (decide (l=m))/\Ext w w'):=by
 refine okF (af.rN t u) ay.rN func154 ?_;(delta af.rN al aI r1 au;dsimp only);have o:=hl.len;have p:=d.len;rw[lO]at o p;refine⟨λa=>⟨?_,.refl _ _⟩,λq=>?_⟩
 .simp only[bne_iff_ne]at a
  have:l≠m:=λe=>a (by subst e;omega);rw[gM this]
 simp only[bne_eq_false_iff_eq]at q;have r:l.length=m.length:=by omega
 refine⟨λn w'=>∃i:Nat,n=i/\i<=l.length/\Ext w w'/\∀ (j:Nat) (h1:j<l.length) (b:j<m.length),j<i->l[j]=m[j],λn _=>((l.length:Int)-n).toNat,⟨0,rfl,cI _,.refl _ _,λj _ _ h=>I⟩,?_⟩;rintro _ s ⟨i,rfl,hi,f,g⟩;refine⟨λaJ=>aY ?_,λx=>⟨?_,f⟩⟩
 .have aJ:i<l.length:=by have:=cf aJ;omega
  have y:i<m.length:=by omega
  have c:Ext w s.drew:=ae.drew f;obtain⟨A,ar,z,C⟩:=ints_at (hl.ext c) aJ;obtain⟨B,D,E,F⟩:=ints_at (d.ext c) y;have G:IntKind.wrap .i64 ((i:Int)+1)=((i+1:Nat):Int):=by rw[bB I I];rfl
  have H:((l.length:Int)-((i+1:Nat):Int)).toNat<((l.length:Int)-(i:Int)).toNat:=by omega
  rw[G];refine⟨A,ar,z,id,_,C,B,D,E,id,_,F,λa=>⟨?_,c⟩,λhe=>⟨⟨i+1,rfl,aJ,c,λj h1 b L=>?_⟩,H⟩⟩
  .have a:l[i]≠m[i]:=λe=>by rw[e]at a;simp at a
   have:l≠m:=λe=>a (by subst e;rfl);rw[gM this]
  .rcases dJ j i with k|k
   .exact g j h1 b k
   .obtain rfl:j=i:=by omega
    have he:((l[j]:Nat):Int)=((m[j]:Nat):Int):=by simpa using he
    omega
 .have hi:i=l.length:=by have:=cx x;omega
  rw[dv (List.ext_getElem r λj h1 b=>g j h1 b I)]
theorem AL:∀ {a b:O Nat},dr a=dr b->a=b
 | [],[],_=>rfl
 | [],_::_,h=>by cases h
 |_::_,[],h=>by cases h
 |x::a,y::b,h=>by
  have h1:=List.cons.inj h
  have c:Value.int .i64 (x:Int)=Value.int .i64 (y:Int):=h1.1
  injection c with _ c
  rw[AL (a:=a) (b:=b) h1.2,show x=y from I]
def wS(f:Nat->ag)(n:Nat):O Nat:=(List.range n).filter f
theorem wT(f:Nat->ag):∀n,k0 f n=dr (wS f n)
 |0=>rfl
 |n+1=>by
  have a:=wT f n
  unfold k0 dr wS at a⊢
  rw[List.range_succ,j2,fe,←a]
  show(iE f n++(if f n then [(n:Int)] else [])).map _=_
  rw[fe]
  cases hf:f n<;>simp[hf]
section
variable {w w' w1:J}{S aM cV:cu}{pages aS:O Nat}{L bm:O aQ}{k:Nat}
theorem F5{fk:Nat->an az}{m:Int}(R:Var w S.st S.cells 158)(ht:bK w S.T)(es:S.T.E S.st)(ar:fL (S.T.bw S.T.C fk) pages L)(au:∀x∈pages,∀bf,fk x=some bf->S.T.P x=some bf\/iZ S.T x)(cS:pages.Nodup)
 (hf:∀no,S.T.f no=true↔no∈pages\/no<2\/no=S.u.map) (two:∀x∈pages,2<=x/\x≠S.u.map) (a9:2<=S.u.map/\S.u.map<S.T.n) (a_:L.length<=4000) (aw:pages.length<=4000) (ba:S.T.C.D.aO<=900000000):
 aH ai 86 #[.pointer (some ⟨S.st,0,none⟩),.int .i64 m] w (λv w'=>∃aq,bK w' aq/\dS S.T aq w w' (2*pages.length)/\aq.G=S.T.G/\
  ((v=.int .i64 0/\m=L.length/\∀x∈pages,S.T.P x=fk x)\/(∃e:Int,v=.int .i64 e/\e≠0/\(¬S.T.C.D.calm (2*pages.length)\/(∃x∈pages,iZ S.T x)\/m≠L.length)))):=by
 refine okF (af.so (some ⟨S.st,0,none⟩) m) ay.so func86 ?_;(delta af.so yj al r1 U aT aW aG;dsimp only);have X:∀x∈pages,S.T.f x=true/\x<S.T.n:=λx hx=>⟨(hf x).2 (.inl hx),Nat.lt_of_not_le λe=>by
  have:=ht.s.pf x e;rw[(hf x).2 (.inl hx)]at this;cases this⟩
 refine⟨_,rfl,_,R.cell,(Fo ht ar X au cS I I I).use ?_⟩;rintro v k ⟨aq,Z,g,r,aA⟩;have aC:∃ (s:Y) (es:O Nat) (n e:Int),v=.tuple #[.slice s.a s.len s.cap,.int .i64 n,.int .i64 e]/\aZ 1 3 k s (dr es)/\es.length<=4000/\(∀q,aB s q->S.T.N q\/w.heap.size<=q)/\bK k (aq.cc S.T.E λq=>S.T.G q\/aB s q)/\
  ((n=L.length/\e=0/\es.Perm pages/\∀x∈pages,S.T.P x=fk x)\/(e≠0/\(¬S.T.C.D.calm (2*pages.length)\/∃x∈pages,iZ S.T x))):=by
  rcases aA with ⟨s,es,rfl,z,A,_,aD,aE,aF⟩|⟨e,rfl,aI,aJ⟩
  .exact⟨s,es,_,0,rfl,z,by rw[A.length_eq];exact aw,λq c=>(aD q c).1,aF,.inl ⟨rfl,rfl,A,aE⟩⟩
  .refine⟨bu,[],0,e,rfl,aZ.none _ _ _,by simp,λq c=>(gi q c).elim,Z.grow (W:=λ_=>False) (ae.refl _ _) (λ_ h=>h.elim) (λq c=>.inl (by rw[g.E];exact c)) (λq c=>.inr (.inl (by rw[r];exact c.resolve_right λh=>gi q h))) (λq c hg=>(ht.c2 q c).2.2 (hg.resolve_right λh=>gi q h)),.inr ⟨aI,aJ.imp And.right id⟩⟩
 obtain⟨s,es,n,e,rfl,z,bb,aK,aa,B⟩:=aC;refine⟨s,n,e,rfl,λd=>?_,λd=>?_⟩
 .have d:e=3:=by simpa using d
  refine⟨aq,Z,g,r,.inr ⟨e,rfl,I,?_⟩⟩;rcases B with ⟨_,F,_⟩|⟨_,F⟩
  .omega
  .exact F.imp id .inl
 have ab:=R.ad g.to.ad (ht.iC (by assumption));refine⟨_,rfl,_,by rw[ax,ax];exact ab.cell,aY ?_⟩;have J:Ext k (k.alloc (.cells #[.int .i64 0,.int .i64 1,.int .i64 ((S.u.map:Nat):Int)] 3)):=er _ _;have bc:s.len=es.length:=by have:=z.1;rw[lO]at this;omega
 obtain⟨ac,ag,av,aL,bd,aM,aN⟩:=oy.append (dG:=58) (x:=⟨some ⟨k.heap.size,0,none⟩,3,3⟩) (Src.new (T:=3) k [.int .i64 0,.int .i64 1,.int .i64 ((S.u.map:Nat):Int)] 3 rfl) (z.ext J) (vF [0,1,S.u.map]) (by show(2*(s.len+3)+1000)*8<=_;omega);have aP:aZ 1 3 ag ac (dr (es++ [0,1,S.u.map])):=by
  have e:dr (es++ [0,1,S.u.map])=dr es++ [.int .i64 0,.int .i64 1,.int .i64 ((S.u.map:Nat):Int)]:=by unfold dr;rw[fe];rfl
  rw[e];exact aL
 refine⟨ac,ag,av,(Am aP (by simp;omega)).use ?_⟩;rintro _ H ⟨rfl,aQ,t,aR,ah,aS⟩;have K:ae (aB s) k H:=ck (ck (ae.refl _ _) (J.mono λ_ _ h=>h.elim) (V:=aB s) (λq _ h=>h)|>.trans aM) aQ λq hl c=>(aN q c).resolve_right (by have:=J.size;omega);have be:=g.to.ad.size;have eS:aq.cc S.T.E S.T.G=aq:=by rw[←g.E,←r];rfl
 have M:bK H aq:=by
  have:=aa.grow (E:=S.T.E) (G:=S.T.G) K (λq c _=>.inr (.inr c)) (λq c=>.inl c) (λq c=>.inr (.inl (.inl c))) λq c=>(ht.c2 q c).2.2;rw[←eS];exact this
 have aU:dS S.T aq w H (2*pages.length):={g with to:=g.to.step (E:=aq.E) (G:=aq.G) K (λq c hl=>(aK q c).resolve_right I) (λq c=>.inl c) λq c=>.inl c};have aV:¬aB s S.st:=λc=>(aa.c2 S.st (by assumption)).2.2 (.inr c);have aX:=ab.ad K aV;refine⟨rfl,cl (λb w'=>((b=true->e≠0\/n≠m)/\(b=false->e=0/\n=m))/\Ext H w') (λq c=>⟨λo=>c _ _ ⟨⟨λ_=>?_,λh=>(by cases h)⟩,.refl _ _⟩,λo=>?_⟩) ?_⟩
 .rcases Bool.or_eq_true_iff.1 o with h1|h1
  .exact .inl (by simpa using h1)
  .exact .inr (by simpa using h1)
 .obtain⟨h1,j⟩:=nm.1 o
  have h1:e=0:=by simpa using h1
  have j:n=m:=by simpa using j
  have hu:=Eu M.s;rw[g.to.sb,g.to.n,g.f]at hu;refine⟨_,rfl,_,by rw[ax];exact aX.cell,hu.use ?_⟩;rintro _ bg ⟨a0,rfl,aj,ak,_⟩;have a1:t.length<=100000:=by rw[ah.length_eq];simp;omega
  rw[wT]at aj;refine⟨a0,rfl,(F4 (aR.ext ak).src aj.src a1).use ?_⟩;rintro _ bh ⟨rfl,a2⟩;have a3:t=wS S.T.f S.T.n:=by
   rcases B with ⟨_,_,A,_⟩|⟨d,_⟩
   rotate_left
   .exact absurd h1 d
   have am:t.Perm (pages++ [0,1,S.u.map]):=ah.trans (A.append_right _);have a4:(pages++ [0,1,S.u.map]).Nodup:=by
    refine nq.2 ⟨cS,by simp;omega,λx hx y p e=>?_⟩;have:=two x hx;subst e;simp only[cR,eR,eY]at p;rcases p with p|p|p
    .omega
    .omega
    .exact this.2 p
   have a5:t.Nodup:=am.nodup_iff.2 a4;have a6:t.Pairwise λa b=>a<b:=(aS.and a5).imp λh=>by have:=h.1;have:=h.2;omega
   have ao:=FL (f:=S.T.f) (n:=S.T.n) a6 λx=>by
    rw[am.mem_iff,cG,hf x];simp only[cR,eR,eY];constructor
    .rintro(i|i|i|i)
     .exact⟨(X x i).2,.inl i⟩
     .exact⟨I,.inr (.inl I)⟩
     .exact⟨I,.inr (.inl I)⟩
     .exact⟨I,.inr (.inr i)⟩
    .rintro⟨_,i|i|i⟩
     .exact .inl i
     .exact .inr I
     .exact .inr I
   rw[wT]at ao;exact AL ao
  exact⟨_,rfl,c _ _ ⟨⟨λh=>(by rw[dv a3]at h;cases h),λ_=>⟨h1,j⟩⟩,Ext.trans ak a2⟩⟩
 .rintro b bi ⟨⟨a7,a8⟩,Q⟩
  have ap:=(aU.trans (dS.ext aq Q)).mono (l:=2*pages.length) I;refine⟨λo=>⟨aq,M.ext Q,ap,r,.inr ⟨4,rfl,by decide,?_⟩⟩,λo=>⟨aq,M.ext Q,ap,r,.inl ⟨rfl,?_⟩⟩⟩
  .rcases B with ⟨h1,j,_⟩|⟨_,j⟩
   .rcases a7 o with d|d
    .exact absurd j d
    .exact .inr (.inr (by rw[←h1];exact λe=>d e.symm))
   .exact j.imp id .inl
  .obtain⟨h1,j⟩:=a8 o
   rcases B with ⟨d,_,_,F⟩|⟨d,_⟩
   .exact⟨by rw[←j];exact d,F⟩
   .exact absurd h1 d
end
variable {w w':J}
theorem Ext.F6(h:Go.RowKit.Below w.heap.size w w'):Ext w w':=⟨h.os,h.tape,h.output,h.size,λk a _=>h.block k a⟩
theorem aZ.F7{sz:Nat}{T:TypeId}{base:Nat}{v:aa}{n:Nat}{xs:O aa}(h:w.ownsRow base T sz v n xs):∃s:Y,v=s/\aZ sz T w s xs/\s.len=n/\∀q,aB s q->base<=q:=by
 obtain⟨h1,⟨rfl,rfl⟩|⟨g,cap,i,rfl,b,hg,c,d,e,f⟩⟩:=h
 .have:xs=[]:=l2.1 I
  subst this;exact⟨⟨none,0,0⟩,rfl,aZ.none _ _ _,rfl,λq a=>(gi q a).elim⟩
 .refine⟨⟨some g,n,cap⟩,rfl,aZ.mk' hg h1 c d e f,rfl,λq a=>?_⟩
  rw[←ml.1 a];exact b
def qs:aa->an (DataW Unit×O MemPlace):=λ_=>some (.lit (.bool true),[])
theorem F8{q:Nat}{M:O (Int×aa)}(h:dP w q encZ M)(u:M.length<=1000000)(i:∀x∈M, -9223372036854775808<=x.1/\x.1<=9223372036854775807):
 ∃D:DataW Unit,w.ownsMap ai 3 qs q M.length D/\(intKeys D).Perm (M.map (·.1))/\Maps.size D=M.length:=by
 obtain⟨L,d,j,h1,l,m,n⟩:=h;have hl:L.length=M.length:=by rw[←h1.length_eq,dE]
 have o:∀x∈L, -9223372036854775808<=x.1/\x.1<=9223372036854775807:=λx hx=>i (j8 x) (h1.mem_iff.1 (dZ.2 ⟨x,hx,rfl⟩));have f:∀x∈L,Go.WideElems.rd ai 3 qs (dk encZ x)=some (.int .i64 x.1,.lit (.bool true)):=λx hx=>by
  have r:(Lit.int .i64 x.1).wf=true:=by
   have:=o x hx;simp[Lit.wf,IntKind.min,IntKind.max,IntKind.signed,IntKind.bits];omega
  exact Go.WideElems.rd_mk (R:=qs) (yv:=(.lit (.bool true),[])) (Maps.keyOf_int_mk (k:=3) (by kernel_rfl) r) rfl
 have g:((L.map (dk encZ)).map (Go.WideElems.rg ai 3 qs))=L.map λx=>(Lit.int .i64 x.1,DataW.lit (.bool true)):=by
  rw[gK];refine qG λx hx=>?_;have:=Go.WideElems.rg_of (f x hx);simp only[Function.comp_apply];exact this
 have s:Go.WideElems.Fit ai 3 qs (L.map (dk encZ)).toArray d:=by
  refine⟨by simp[hl];unfold maxLen;omega,⟨λx hx=>?_,?_,?_⟩,λx hx=>?_⟩
  .obtain⟨y,c,rfl⟩:=dZ.1 (by simpa using hx:x∈L.map (dk encZ))
   exact n y c
  .simp only[gK]
   exact m
  .simp only[gK]
   have:((λe:MapEntry=>e.key)∘dk encZ)=λx:Int×aa×Nat=>encZ x.1:=rfl;show(L.map ((λe:MapEntry=>e.key)∘dk encZ)).Nodup;rw[this];have e:(L.map λx:Int×aa×Nat=>encZ x.1)=(L.map (·.1)).map encZ:=by rw[gK];rfl
   rw[e];exact List.Pairwise.map encZ (λa b t he=>t (by cases he;rfl)) l
  .obtain⟨y,c,rfl⟩:=dZ.1 (by simpa using hx:x∈L.map (dk encZ))
   exact⟨_,f y c⟩
 have fv:=Go.WideShapes.sorted_perm (L.map λx=>(Lit.int .i64 x.1,(DataW.lit (.bool true):DataW Unit)));refine⟨_,⟨_,d,j,s,by simp[hl],rfl⟩,?_,?_⟩
 .simp only[g]
  show(List.map (λp:Lit×DataW Unit=>Go.intOf p.1) _).Perm _;refine(fv.map _).trans ?_;rw[gK];have:=h1.map (·.1);rw[gK]at this;exact this
 .simp only[g]
  show List.length _=_;rw[fv.length_eq,dE,hl]
theorem F9(m:Nat):AnyZI.SortsIn ai Ak Fence.wide m:=
 ⟨λbP off cap ss W a b c=>callsIn_wide.2 (AnyM.slices_Sort_int tX bP off cap ss W a b c),λp cap W=>callsIn_wide.2 (AnyM.slices_Sort_int_none tX p cap W)⟩
theorem F_{q:Nat}{M:O (Int×aa)}(h:dP w q encZ M)(g:M.length<=1000000)(i:∀x∈M, -9223372036854775808<=x.1/\x.1<=9223372036854775807):
 aH ai 177 #[.func (.func 232) #[] #[.pointer (some w.heap.size)]] (w.alloc (.cells #[.map (some q)] 137))
  (λv w'=>∃ (s:Y) (ids:O Int),v=s/\aZ 1 3 w' s (ids.map encZ)/\s.len=ids.length/\ids.Perm (M.map (·.1))/\ids.Pairwise (λa b=>decide (a<=b)=true)/\Ext w w'/\∀k,aB s k->w.heap.size<=k):=by
 have d:Ext w (w.alloc (.cells #[.map (some q)] 137)):=ae.alloc (.refl _ _) _;have B:(w.alloc (.cells #[.map (some q)] 137)).heap.size=w.heap.size+1:=by simp
 obtain⟨D,j,l,f⟩:=F8 (h.ext d) g i;have m:=AnyZI.keys_gives (ρ:=Aj) {Fa with} Fence.wide 2 trivial rfl I w.heap.size q M.length D (w.alloc (.cells #[.map (some q)] 137)) I (by simp) j;have n:=AnyZI.sorted_in Fb Fence.wide 5 trivial trivial trivial trivial rfl I (F9 _) (enters_of func153 (by kernel_rfl) rfl) 232 #[.pointer (some w.heap.size)] trivial (enters_of func232 (by kernel_rfl) rfl) _ _ (by rw[f];unfold maxLen;omega) (by rw[f];omega) _ m;have o:=callsIn_wide.1 (n.mono (R':=λe w'=>∃v,e=.returned v/\∃ (s:Y) (ids:O Int),v=s/\aZ 1 3 w' s (ids.map encZ)/\s.len=ids.length/\ids.Perm (M.map (·.1))/\ids.Pairwise (λa b=>decide (a<=b)=true)/\Ext w w'/\∀k,aB s k->w.heap.size<=k) ?_)
 .exact o
 .rintro e ah ⟨v,ss,rfl,p,r,_,t⟩
  obtain⟨s,rfl,u,hl,z⟩:=aZ.F7 r;refine⟨_,rfl,s,ss.mergeSort (λx y=>decide (x<=y)),rfl,u,by rw[hl,List.length_mergeSort],?_,?_,Ext.trans d (Ext.F6 t),λk A=>by have:=z k A;omega⟩
  .exact(List.mergeSort_perm _ _).trans (p.trans l)
  .exact List.pairwise_mergeSort (λa b c h1 C=>by simp only[cO]at*;omega) (λa b=>by simp only[hW,cO];omega) ss
theorem wU:∀ (n:Nat) {l:O Nat},l.Nodup->(∀x∈l,x<n)->l.length<=n
 |0,l,_,h=>by
  cases l with
  |nil=>exact br _
  |cons x l=>exact absurd (h x (by simp)) (Nat.not_lt_zero _)
 |n+1,l,a,h=>by
  by_cases c:n∈l
  .have h1:=wU n (l:=l.erase n) (a.erase n) λx hx=>by
    have b:=(a.mem_erase_iff).1 hx
    have:=h x b.2
    have:=b.1
    omega
   rw[List.length_erase_of_mem c]at h1
   omega
  .have:=wU n a λx hx=>by
    have h1:=h x hx
    have b:x≠n:=λe=>c (e▸hx)
    omega
   omega
section
variable {D:aV}
theorem cj.AM(h:cj w D):(D.waits.map gl.i).Nodup:=by
 have h1:=h.m.keys;rw[gK]at h1;refine(List.pairwise_map.1 h1:D.waits.Pairwise _).imp (λa e=>a ?_)|>List.pairwise_map.2;exact congrArg (λn:Nat=>(n:Int)) e
theorem cj.AN(h:cj w D):D.waits.length<=1600:=by
 have h1:=wU D.n h.AM λx hx=>by
  obtain⟨y,a,rfl⟩:=dZ.1 hx;exact(h.wn y a).2.1
 have:=h.bc;rw[dE]at h1;omega
theorem Ga(h:cj w D):aH ai 112 #[.pointer (some D.d)] w
 (λv w'=>∃ (s:Y) (ids:O Int),v=s/\aZ 1 3 w' s (ids.map encZ)/\ids.Perm (D.waits.map λx=>(x.i:Int))/\Ext w w'/\∀k,aB s k->w.heap.size<=k):=by
 refine okF (af.sw (some D.d)) ay.sw func112 ?_;(delta af.sw yl aW;dsimp only);refine⟨_,rfl,_,h.aW,?_⟩;refine Calls.mono (af.BY (some D.mr) w (λv w'=>v=.func (.func 232) #[] #[.pointer (some w.heap.size)]/\w.alloc (.cells #[.map (some D.mr)] 137)=w') ⟨rfl,rfl⟩) ?_;rintro _ _ ⟨_,rfl,rfl,rfl⟩;have cS:D.waits.length<=1000000:=by have:=h.AN;omega
 refine⟨⟨232,#[],#[.pointer (some w.heap.size)]⟩,rfl,(F_ h.m (by rw[dE];exact cS) (λx hx=>?_)).use ?_⟩
 .obtain⟨y,b,rfl⟩:=dZ.1 hx
  have:=(h.wn y b).2.1;have:=h.bc;show _<=(y.i:Int)/\(y.i:Int)<=_;omega
 .rintro _ f ⟨s,ids,rfl,h1,_,a,_,c,e⟩
  refine⟨s,rfl,s,ids,rfl,h1,?_,c,e⟩;rw[gK]at a;exact a
end
variable {w w':J}{D:aV}
theorem Gb(a b:Int)(w:J)(T:TypeId)(k:IntKind):Sem.run ai (Builtin.min_ #[T,T] T #[.int k a,.int k b]) w=.ok (.int k (min a b)) w:=by
 simp only[Builtin.min_];unfold Builtin.min2;simp;split<;>omega
theorem cj.Gc(h:cj w D){i:Nat}(hi:i<D.n){x:cF}(hx:x.length=256):bz w ⟨D.lb,i*256,none⟩ (aF x)/\cj (setCells w ⟨D.lb,i*256,none⟩ 0 (aF x)) {D with a_:=D.a_.set i x}/\ae (λq=>q=D.lb) w (setCells w ⟨D.lb,i*256,none⟩ 0 (aF x)):=by
 obtain⟨bR,b3,a⟩:=Au h.l h.sl hi hx;refine⟨bR,?_,a⟩;generalize setCells w ⟨D.lb,i*256,none⟩ 0 (aF x)=j at b3 a;have b:D.d≠D.lb:=h.a1.1;refine⟨?_,b3,h.m.ad a λe=>h.a1.2.2 e.symm,λx hx=>(h.ws x hx).ad a λq f e=>(h.a2 x hx).2.1 (by rw[←e];exact f),?_,λs hs=>?_,h.jv,?_,?_,h.f4,h.fr,h.a1,h.a2,h.a3⟩
 .have h1:=h.v.ad a b
  have e:({D with a_:=D.a_.set i x}:aV).c=D.c:=by unfold aV.c;simp
  rw[e];exact h1
 .intro z g
  have:=h.wn z g;refine⟨this.1,?_,this.2.2⟩;show z.i<(D.a_.set i x).length;rw[cX];exact this.2.1
 .rcases kB hs with h1|rfl
  .exact h.sl s h1
  .exact hx
 .show 16<=(D.a_.set i x).length;rw[cX];exact h.bG
 .show(D.a_.set i x).length<=1600;rw[cX];exact h.bc
theorem Src.Gd{sz:Nat}{s:Y}{vs:O aa}{W:Nat->Prop}(h:Src sz w s vs)(hc:ae W w w')(d:∀k,aB s k->W k->vs=[]):Src sz w' s vs:=⟨h.len,h.nil,λa b=>by
 by_cases c:vs=[]
 .have h0:=h.len
  rw[c]at h0⊢
  rw[←h0];rfl
 .exact hc.cy (λe=>c (d _ ⟨a,b,rfl⟩ e)) _ _ _ (h.rd a b)⟩
structure wV(D aw:aV):Prop where
 d:aw.d=D.d
 waits:aw.waits=[]
 n:aw.n=D.n
 q:aw.quiet
 aO:aw.aO=D.aO
 a_:∀j,aw.a_.getD j []=D.a_.getD j []\/aw.a_.getD j []∈D.da j
 cN:∀q,bF aw q->bF D q
theorem Ge(h:cj w D){y:gl}(c:y∈D.waits):D.da y.i=y.fA:=by
 unfold aV.da
 cases hf:D.waits.find? λx=>x.i==y.i with
 |none=>
  have:=iN.1 hf y c;simp at this
 |some z=>
  have d:=iq hf;have e:z.i=y.i:=by simpa using je hf
  have h1:=h.AM;obtain⟨a,f,rfl⟩:=eD d;obtain⟨b,g,rfl⟩:=eD c;have k:=(List.getElem_inj (i:=a) (j:=b) (h₀:=by simpa using f) (h₁:=by simpa using g) h1).1 (by simpa using e);subst k;rfl
theorem Gf{l:Y}{zs:O Int}(h:cj w D)(hl:Src 1 w l (zs.map encZ))(ah:∀q,aB l q->bF D q->zs=[])(bi:zs.length<=1000000)(bj:∀z∈zs,z<=9223372036854775807)(bk:D.aO<=1000000000):
 aH ai 45 #[.pointer (some D.d),l] w (λv w'=>v=.tuple #[]/\∃aw,cj w' aw/\wV D aw/\ae (bF D) w w'):=by
 refine okF (af.r3 (some D.d) l) ay.r3 func45 ?_;(delta af.r3 al aW aI r1 ak au aT;dsimp only);refine⟨λh1=>(by cases h1),λ_=>(Ga h).use ?_⟩;rintro _ w1 ⟨s,ids,rfl,R,S,E,aj⟩;have am:=h.bc;have an:=hl.len;rw[dE]at an;have bl:s.len=ids.length:=by have:=R.1;rw[dE]at this;omega
 have bm:ids.length<=1600:=by rw[S.length_eq,dE];exact h.AN
 have ao:∀q,aB s q->¬bF D q:=λq a hf=>by have:=aj q a;have:=h.lt hf;omega
 have F:bF D D.lb:=.inr (.inl rfl);refine⟨s,rfl,λn6 f=>∃ (i:Nat) (ls:O cF),n6=(i:Nat)/\i<=ids.length/\cj f {D with a_:=ls}/\ls.length=D.n/\(∀j,ls.getD j []=D.a_.getD j []\/ls.getD j []∈D.da j)/\ae (λq=>q=D.lb) w1 f,λn6 _=>((ids.length:Int)-n6).toNat,⟨0,D.a_,rfl,cI _,h.ext E,rfl,λj=>.inl rfl,ae.refl _ _⟩,?_⟩;rintro _ f ⟨i,ls,rfl,hi,g,r,g3,u⟩;have ap:=R.ad u λq a e=>ao q a (by rw[e];exact F);have G:=Src.Gd (hl.ext E) u λq a e=>by rw[ah q a (by rw[e];exact F)];rfl
 refine⟨λH=>?_,λH=>?_⟩
 .have H:(i:Int)<(s.len:Int):=cf H
  have J:i<ids.length:=by omega
  obtain⟨y,p,T⟩:=dZ.1 (S.mem_iff.1 (cm J));have aq:IntKind.wrap .i64 ((i:Int)+1)=((i+1:Nat):Int):=by rw[bB I I];omega
  have az:((ids.length:Int)-((i+1:Nat):Int)).toNat<((ids.length:Int)-(i:Int)).toNat:=by omega
  obtain⟨A,ar,aA,K⟩:=ap.src.at (i:=i) (v:=encZ ids[i]) (by simp[J]);refine jm (λL=>∃ls:O cF,cj L {D with a_:=ls}/\ls.length=D.n/\(∀j,ls.getD j []=D.a_.getD j []\/ls.getD j []∈D.da j)/\ae (λq=>q=D.lb) w1 L) (λbn U=>⟨A,ar,aA,ids[i],K,?_⟩) ?_
  .refine cl (λb w'=>(b=false->∃t:i<zs.length,0<zs[i])/\f=w') (λq a=>⟨λ_=>a _ _ ⟨λh=>(by cases h),rfl⟩,λV=>?_⟩) ?_
   .have V:¬(i:Int)>=(l.len:Int):=cx V
    have t:i<zs.length:=by omega
    obtain⟨B,W,X,Z⟩:=G.at (i:=i) (v:=encZ zs[i]) (by simp[t]);exact⟨B,W,X,zs[i],Z,a _ _ ⟨λaC=>⟨t,by have:=cx aC;omega⟩,rfl⟩⟩
   .rintro b _ ⟨aD,rfl⟩
    refine⟨λ_=>U _ ⟨ls,g,r,g3,u⟩,λaE=>?_⟩;obtain⟨t,bo⟩:=aD aE;obtain⟨B,W,X,Z⟩:=G.at (i:=i) (v:=encZ zs[i]) (by simp[t]);have aG:=g.m.uT mZ ki (k:=(y.i:Int)) (v:=y.s) (dZ.2 ⟨y,p,rfl⟩) false;have M:=g.ext (cr f);have aJ:=G.ext (cr f);obtain⟨aK,aL,aM,aN⟩:=aJ.at (i:=i) (v:=encZ zs[i]) (by simp[t]);have bp:=(h.wn y p).2.2;have bq:0<y.fA.length:=qC.2 (h.wn y p).1;obtain⟨k,aP⟩:∃k:Nat,min zs[i] (y.fA.length:Int)=((k+1:Nat):Int):=⟨(min zs[i] (y.fA.length:Int)-1).toNat,I⟩;have C:k<y.fA.length:=by omega
    obtain⟨aQ,aR,aS,aU⟩:=vR (M.ws y p).src (λs hs=>by rw[dI];exact h.jv y p s hs) (by decide) (i:=k) C;have aX:y.i<D.n:=(h.wn y p).2.1;have aZ:({D with a_:=ls}:aV).n=D.n:=r;obtain⟨bR,b3,a0⟩:=M.Gc (i:=y.i) (by rw[aZ];exact aX) (h.jv y p y.fA[k] (cm C));have aa:Addr.add D.lb (Int.toNat (y.i:Int)*256)=⟨D.lb,y.i*256,none⟩:=by rw[du,ax,cH]
    refine⟨_,rfl,some D.mr,g.aW,y.s,f,by rw[←T];exact aG,aY ⟨λ_=>False,_,rfl,id,⟨some D.lb,ls.length,ls.length⟩,M.de,aK,aL,aM,id,zs[i],aN,_,f.drew,Gb _ _ _ _ _,ae.refl _ _,aR,aS,?_⟩⟩;rw[aQ,aP,bB (n:=(((k+1:Nat):Nat):Int)-1) I I];have a2:Int.toNat (((k+1:Nat):Int)-1)=k:=by omega
    rw[a2,←T];refine⟨⟨I,I⟩,id,_,aU,_,rfl,⟨I,by show(y.i:Int)<(ls.length:Int);omega⟩,by rw[aa];exact bR,by simp[dI,h.jv y p y.fA[k] (cm C)],?_⟩;rw[aa];refine aY (U _ ⟨ls.set y.i y.fA[k],b3,by rw[cX];exact r,λj=>?_,u.trans ((cr f).mono (λ_ _ h=>h.elim)|>.trans a0)⟩);by_cases ab:y.i=j
    .subst ab
     right;rw[eH (by rw[cX];omega),gN,Ge h p];exact cm C
    .rw[e6,List.getElem?_set_ne ab,←e6]
     exact g3 j
  .rintro L ⟨a3,av,a4,a5,a6⟩
   rw[aq];exact⟨⟨i+1,a3,rfl,J,av,a4,a5,a6⟩,az⟩
 .obtain⟨ac,K,a7,N,br⟩:=dP.clear (P:=ai) (o:=0) g.m ki
  have a8:D.d≠D.mr:=h.a1.2.1;have a9:=g.v.ad N a8;refine⟨_,rfl,some D.mr,g.aW,_,ac,K,_,rfl,(zk a9 (by rw[show(aV.c {D with a_:=ls}).length=7 from g.tH];decide)).use ?_⟩;rintro _ ag ⟨rfl,ba,Q,bs⟩;have bb:=h.f4;have bd:cj ag {D with a_:=ls,waits:=[],bY:=[-1, -1, -1, -1]}:=by
   have be:bh ac D.lb (b1 aF ls).toArray 182:=bh.ad g.l N h.a1.2.2;have bf:bh ag D.lb (b1 aF ls).toArray 182:=bh.ad be Q λe=>h.a1.1 e.symm;refine⟨?_,bf,a7.ad Q λe=>h.a1.2.1 e.symm,λx hx=>(by cases hx),λx hx=>(by cases hx),g.sl,λx hx=>(by cases hx),?_,?_,rfl,λx hx=>?_,h.a1,λx hx=>(by cases hx),λx hx=>(by cases hx)⟩
   .have e:({D with a_:=ls,waits:=[],bY:=[-1, -1, -1, -1]}:aV).c=List.replicate 4 (.int .i64 (-1))++(aV.c {D with a_:=ls}).drop 4:=by
     unfold aV.c;dsimp only;rw[List.drop_left' (by rw[dE];exact bb)];rfl
    rw[e];exact ba
   .show 16<=ls.length;rw[r];exact h.bG
   .show ls.length<=1600;rw[r];exact am
   .have hx:x∈ [(-1:Int), -1, -1, -1]:=hx
    simp only[cR,eR,eY,or_self]at hx;omega
  refine⟨rfl,rfl,_,bd,⟨rfl,rfl,r,⟨λk=>⟨.inl rfl,.inl rfl⟩,rfl⟩,rfl,g3,λq a=>?_⟩,?_⟩
  .rcases a with e|e|e|⟨x,hx,e⟩
   .exact .inl e
   .exact .inr (.inl e)
   .exact .inr (.inr (.inl e))
   .cases hx
  .have h1:ae (bF D) w f:=ck (E.mono λ_ _ h=>h.elim) u λq _ e=>by rw[e];exact F
   have bg:=ck h1 N λq _ e=>by rw[e];exact .inr (.inr (.inl rfl))
   exact ck bg Q λq _ e=>by rw[e];exact .inl rfl
theorem Gg:hY ai 170:=⟨_,(Option.some_get (show(Tryz.prog.funcs[170]?).isSome=true by kernel_rfl)).symm,by kernel_rfl,by kernel_rfl⟩
theorem Gh{w:J}{s:Y}{l:O UInt8}(hs:Src 1 w s (aF l))(hl:l.length<=1000):
   aH ai 169 #[s,.func (.func 170) #[] #[]] w (λv w'=>v=.bool (!(l.all λc=>c==0))/\w=w'):=by
 have o:=len8 hs
 refine okF (af.rO s ⟨170,#[],#[]⟩) ay.rO func169 ?_
 (delta af.rO aA;dsimp only)
 refine Calls.mono (af.BZ s ⟨170,#[],#[]⟩ w (λv w'=>(∃i:Int,v=i/\(decide (i>=0))= !(l.all λc=>c==0))/\w=w') ?_) ?_
 · (delta af.pF al aI b4 au;dsimp only)
   refine⟨λi w'=>∃j:Nat,i=j/\j<=l.length/\w=w'/\∀ (k:Nat) (a:k<l.length),k<j->l[k]=0,λi _=>((l.length:Int)-i).toNat,⟨0,rfl,cI _,rfl,λk a h=>I⟩,?_⟩
   rintro _ _ ⟨j,rfl,p,rfl,d⟩
   refine⟨λaJ=>?_,λb=>?_⟩
   · have aJ:j<l.length:=by have:=cf aJ;omega
     obtain⟨A,ar,f,g⟩:=hs.at (mP aJ)
     refine⟨A,ar,f,_,g,Gg,?_⟩
     refine Calls.mono (af.Cr ((l[j]).toNat:Int) w (λv w'=>v=.bool (((l[j]).toNat:Int) !=0)/\w=w') ⟨rfl,rfl⟩) ?_
     rintro _ _ ⟨_,rfl,rfl,rfl⟩
     refine⟨_,rfl,λe=>⟨⟨j,rfl,?_⟩,rfl⟩,λm=>?_⟩
     · have:(l.all λc=>c==0)=false:=by
         rw[List.all_eq_false]
         refine⟨l[j],cm _,λh=>?_⟩
         have h:=eq_of_beq h
         rw[h]at e
         simp at e
       rw[this]
       exact dv I
     · have h0:l[j]=0:=by
         have:((l[j]).toNat:Int)=0:=by simpa using m
         exact UInt8.toNat_inj.1 (by show(l[j]).toNat=0;omega)
       rw[bB (n:=(j:Int)+1) I I]
       refine⟨⟨j+1,I,I,rfl,λk a h=>?_⟩,?_⟩
       · rcases dJ k j with h1|h1
         · exact d k a h1
         · have:k=j:=by omega
           subst this;exact h0
       · show((l.length:Int)-((j:Int)+1)).toNat<((l.length:Int)-(j:Int)).toNat
         omega
   · have b:j=l.length:=by have:=cx b;omega
     subst b
     refine⟨⟨-1,rfl,?_⟩,rfl⟩
     have:(l.all λc=>c==0)=true:=by
       rw[k7]
       intro c hc
       obtain⟨k,a,rfl⟩:=eD hc
       rw[d k a a];rfl
     rw[this];rfl
 · rintro _ _ ⟨_,rfl,⟨i,rfl,hi⟩,rfl⟩
   exact⟨i,rfl,by rw[hi],rfl⟩
theorem Gi{l:O Int}{i:Nat}{d:Int}(h:i<l.length):l.set i (l.getD i d)=l:=by
 rw[eH h,List.set_getElem_self]
theorem Gj{D:aV}(h:D.quiet){k:Nat}(a:k=1\/k=2):D.bY.getD k 0= -1:=by
 have h1:=h.1 ((D.bY.getD k 0).toNat+1);rcases a with rfl|rfl
 .exact h1.1.resolve_right I
 .exact h1.2.resolve_right I
theorem AO{D:aV}(h:D.quiet)(b:D.bY.length=4){k:Nat}(a:k=1\/k=2):D.b_ k=D/\D.e_ k=false:=by
 have h1:=Gj h a;unfold aV.b_ aV.e_;rw[h1];refine⟨?_,rfl⟩;have e:(fH (-1)).2=D.bY.getD k 0:=by rw[h1];rfl
 rw[e,Gi I]
def takeN(u:cz)(g:Nat):an (cz×Nat)->an (cz×Nat)
 |none=>some (u,g)
 |some x=>if g>x.2 then some (u,g) else some x
def fW(n no:Nat)(l:cF)(acc:an (cz×Nat)):Except Int (an (cz×Nat)):=
 if (l.all λc=>c==0)=true then .ok acc else match gf (no:Int) l with
 | .error e=>.error e
 | .ok (u,s,g)=>if s≠n then .error 4 else .ok (takeN u g acc)
def ih(n:Nat)(V:Nat->cF):Nat->Except Int (an (cz×Nat))
 |0=>.ok none
 |i+1=>match ih n V i with
  | .error e=>.error e
  | .ok a=>fW n i (V i) a
theorem AP{n:Nat}{V:Nat->cF}{e:Int}{i:Nat}(h:ih n V i=.error e):∀k,ih n V (i+k)=.error e
 |0=>h
 |k+1=>by
  show ih n V (i+k+1)=_
  unfold ih
  rw[AP h k]
def AQ:an (cz×Nat)->Except Int (cz×Nat)
 |none=>.error 6
 |some x=>.ok x
def iJ(n:Nat)(V:Nat->cF):Except Int (cz×Nat):=match ih n V 2 with
 | .error e=>.error e
 | .ok a=>AQ a
def oQ:an (cz×Nat)->cz
 |none=>fb
 |some x=>x.1
def oR:an (cz×Nat)->Nat
 |none=>0
 |some x=>x.2
theorem Gk{no:Int}{l:cF}{e:Int}(h:gf no l=.error e):e≠0:=by
 unfold gf at h;split at h
 .rename_i a he
  cases h;exact wG he
 .split at h
  .cases h;decide
  .split at h
   .cases h
   .cases h;decide
theorem nX{w:J}{D:aV}(h:cj w D)(j:D.quiet)(aE:D.aO<=1000000000):
 aH ai 109 #[.pointer (some D.d)] w (λv w'=>cj w' D/\ae (λq=>q=D.d) w w'/\(match iJ D.n D.now with
  | .error e=>e≠0/\∃u:cz,v=.tuple #[.agg u.c.toArray,.int .u64 0,e]
  | .ok (u,g)=>v=.tuple #[.agg u.c.toArray,.int .u64 (g:Nat),(0:Int)])):=by
 have aW:=h.bG;refine okF (af.nX (some D.d)) ay.nX func109 ?_;(delta af.nX ga al bW uY r1 U bt aG yk aA au;dsimp only);refine bk (vs:=fb.c) rfl λw1 ag aj aX=>?_;obtain⟨t,aF⟩:∃t,t=w.heap.size:=⟨_,rfl⟩;rw[←aF]at ag⊢;have aI:t≠D.d:=by have:=h.lt (q:=D.d) (.inl rfl);omega
 have ak:=AO j h.f4 (k:=1) (.inl rfl);refine⟨λaJ aK n6 C=>∃ (i:Nat) (a:an (cz×Nat)),n6=(i:Nat)/\i<=2/\aJ=(oR a:Nat)/\aK=a.isSome/\ih D.n D.now i=.ok a/\cj C D/\Var C t (oQ a).c 104/\ae (λq=>q=D.d) w C,λ_ _ n6 _=>(2-n6).toNat,⟨0,none,rfl,by decide,rfl,rfl,rfl,h.ext aj,ag,aj.mono λ_ _ h=>h.elim⟩,?_⟩;rintro _ _ _ C ⟨i,a,rfl,hi,rfl,rfl,am,O,A,E⟩;have aY:=E.size;have B:∀ {w' ao:J},ae (λq=>q=D.d) w w'->ae (λq=>q=t) w' ao->ae (λq=>q=D.d) w ao:=λh1 P=>ck h1 P λq hl e=>by omega
 refine⟨λQ=>?_,λQ=>?_⟩
 .have R:i<2:=by have:(i:Int)<2:=cf Q;omega
  have aL:IntKind.wrap .i64 ((i:Int)+1)=((i+1:Nat):Int):=by rw[bB I I];omega
  refine rh (λn b w'=>∃y:an (cz×Nat),n=(oR y:Nat)/\b=y.isSome/\ih D.n D.now (i+1)=.ok y/\cj w' D/\Var w' t (oQ y).c 104/\ae (λq=>q=D.d) w w') (λaZ S=>(vT O (i:=i) I aE).use ?_) ?_
  .rintro v aM ⟨F,ap,aN⟩
   rw[ak.1]at F;rcases aN with ⟨aq,_⟩|⟨_,s,rfl,T⟩
   .rw[ak.2]at aq;cases aq
   have ar:=A.ad ap aI;have av:ae (λq=>q=D.d) w aM:=E.trans ap;have a0:=F.m0 (i:=i) I;have G:ih D.n D.now (i+1)=fW D.n i (D.now i) a:=by
    unfold ih;rw[am]
   have aw:∀e,fW D.n i (D.now i) a=.error e->iJ D.n D.now=.error e:=λe he=>by
    unfold iJ;have:=AP (G.trans he) (1-i);rw[show i+1+(1-i)=2 from I]at this;rw[this]
   refine⟨s,0,rfl,λhx=>(by cases hx),λ_=>(Gh T.1 I).use ?_⟩;rintro _ _ ⟨rfl,rfl⟩;refine⟨_,rfl,λm=>S _ _ _ ⟨a,rfl,rfl,?_,F,ar,av⟩,λm=>(n3 T.1 T.2.1 I (i:Nat)).use ?_⟩
   .rw[G];unfold fW
    rw[if_pos (by simpa using m)]
   have m:¬((D.now i).all λc=>c==0)=true:=by simpa using m
   rintro v V ⟨rfl,W⟩;have ax:=F.ext W;have az:=ar.ext W;have aB:ae (λq=>q=D.d) w V:=ck av W λq _ h=>h.elim
   cases H:gf (i:Int) (D.now i) with
   |error e=>
    have he:=Gk H;have z:=aw e (by unfold fW;rw[if_neg m,H]);refine⟨_,_,_,_,_,_,_,_,e,rfl,bk (vs:=fb.c) rfl λaP X Y aQ=>ib X rfl fb λK aC Z _=>⟨λ_=>?_,λhx=>absurd (by simpa using hx) he⟩⟩;have o:Ext V K:=Ext.cv Y Z (br _);have p:=az.ext o;refine fV p (ib p rfl (oQ a) λah l f _=>fV l ⟨(ax.ext o).ad f λq j e=>?_,B (ck aB o λq _ h=>h.elim) f,?_⟩)
    .have:=h.lt j;omega
    .rw[z];exact⟨he,_,rfl⟩
   |ok r=>
    obtain⟨u,ia,g⟩:=r;refine⟨_,_,_,_,_,_,_,_,0,rfl,bk (vs:=fb.c) rfl λaP X Y aQ=>ib X rfl u λK aC Z _=>⟨λhx=>(by cases hx),λ_=>?_⟩⟩;have o:Ext V K:=Ext.cv Y Z (br _);have p:=az.ext o;have L:=ax.ext o;have aa:ae (λq=>q=D.d) w K:=ck aB o λq _ h=>h.elim;refine(oD L).use ?_;rintro _ _ ⟨rfl,rfl⟩;refine⟨_,rfl,λM=>?_,λab=>?_⟩
    .have M:ia≠D.n:=λe=>by rw[e]at M;simp at M
     have z:=aw 4 (by unfold fW;rw[if_neg m,H];dsimp only;rw[if_pos M]);refine fV p (ib p rfl (oQ a) λah l f _=>fV l ⟨L.ad f λq j e=>?_,B aa f,?_⟩)
     .have:=h.lt j;omega
     .rw[z];exact⟨by decide,_,rfl⟩
    .have ab:ia=D.n:=by
      have:(ia:Int)=(D.n:Int):=by simpa using ab
      omega
     have aD:fW D.n i (D.now i) a=.ok (takeN u g a):=by
      unfold fW;rw[if_neg m,H];dsimp only;rw[if_neg (λe=>e ab)]
     refine⟨λN=>?_,λN=>?_⟩
     .have aR:ih D.n D.now (i+1)=.ok (some (u,g)):=by
       rw[G,aD]
       cases a with
       |none=>rfl
       |some x=>
        have:g>x.2:=by
         have:(g:Int)>((oR (some x):Nat):Int):=by simpa using N
         have e:oR (some x)=x.2:=rfl;omega
        show Except.ok (if g>x.2 then _ else _)=_;rw[if_pos this]
      refine fV aC (ib p rfl u λah l f _=>S _ _ _ ⟨some (u,g),rfl,rfl,aR,L.ad f λq j e=>?_,l,B aa f⟩);have:=h.lt j;omega
     .refine S _ _ _ ⟨a,rfl,rfl,?_,L,p,aa⟩
      rw[G,aD]
      cases a with
      |none=>cases N
      |some x=>
       have:¬g>x.2:=by
        have:¬(g:Int)>((oR (some x):Nat):Int):=by simpa using N
        have e:oR (some x)=x.2:=rfl;omega
       show Except.ok (if g>x.2 then _ else _)=_;rw[if_neg this]
  .rintro _ _ a1 ⟨y,rfl,rfl,h1,P,aS,aT⟩
   rw[aL];have aU:(2-((i+1:Nat):Int)).toNat<(2-(i:Int)).toNat:=by omega
   exact⟨⟨i+1,y,rfl,R,rfl,rfl,h1,P,aS,aT⟩,aU⟩
 .have R:i=2:=by have:¬(i:Int)<2:=cx Q;omega
  subst R;have z:iJ D.n D.now=AQ a:=by unfold iJ;rw[am]
  refine⟨λac=>fV A (ib A rfl (oQ a) λah l f _=>fV l ⟨O.ad f λq j e=>?_,B E f,?_⟩),λac=>fV A (ib A rfl (oQ a) λah l f _=>fV l ⟨O.ad f λq j e=>?_,B E f,?_⟩)⟩
  .have:=h.lt j;omega
  .rw[z]
   cases a with
   |none=>exact⟨by decide,_,rfl⟩
   |some x=>cases ac
  .have:=h.lt j;omega
  .rw[z]
   cases a with
   |none=>cases ac
   |some x=>rfl
theorem Gl{no:Int}{l:O UInt8}{p:gV}(h:dh no l=.ok p):l.getD 4 0=1:=by
 by_cases e:l.getD 4 0=1
 .exact e
 .exfalso
  unfold dh at h;split at h
  .cases h
  .split at h
   .cases h
   .first|(rw[if_pos e]at h;cases h)|cases h
theorem Gm{no:Int}{l:O UInt8}{p:gV}(h:dh no l=.ok p):¬(l.all λc=>c==0)=true:=λa=>by
 have h1:=Gl h
 rw[k7]at a
 rw[e6]at h1
 cases hg:l[4]? with
 |none=>rw[hg]at h1;cases h1
 |some c=>
  rw[hg]at h1
  have:=a c (List.mem_of_getElem? hg)
  have h1:c=1:=h1
  rw[h1]at this;cases this
theorem wW{no:Int}{l:O UInt8}{r:cz×Nat×Nat}(h:gf no l=.ok r):∃p,dh no l=.ok p:=by
 unfold gf at h
 cases a:dh no l with
 |error e=>rw[a]at h;cases h
 |ok p=>exact⟨p,rfl⟩
theorem qt{n no:Nat}{l:cF}{a:an (cz×Nat)}{u:cz}{g:Nat}(h:gf (no:Int) l=.ok (u,n,g)):fW n no l a=.ok (takeN u g a):=by
 obtain⟨p,b⟩:=wW h;unfold fW;rw[if_neg (Gm b),h];dsimp only;rw[if_neg (λe=>e rfl)]
theorem AR{n no:Nat}{a:an (cz×Nat)}:fW n no fI a=.ok a:=by
 unfold fW;rw[if_pos (by unfold fI;rw[List.all_replicate];rfl)]
section
variable {V:Nat->cF}{n gen:Nat}{u:cz}{g:Nat->ag}{P:Nat->an az}{p:O Nat}{L:O aQ}
theorem gp.iJ(h:gp V n gen u g P p L):iJ n V=.ok (u,gen):=by
 have c:ih n V 2=.ok (some (u,gen)):=by
  have e:ih n V 2=(match fW n 0 (V 0) none with| .error e=>.error e| .ok a=>fW n 1 (V 1) a):=rfl;rw[e];have b:=h.t_;have d:=h.wP;rcases Nat.mod_two_eq_zero_or_one gen with h0|h0
  .rw[h0]at b d
   rw[qt b];show fW n 1 (V 1) (some (u,gen))=_;rcases d with f|⟨i,g',h1,c⟩
   .rw[show V 1=fI from f,AR]
   .rw[qt (no:=1) h1]
    show Except.ok (if g'>gen then _ else _)=_;rw[if_neg I]
  .rw[h0]at b d
   rcases d with f|⟨i,g',h1,c⟩
   .rw[show V 0=fI from f,AR]
    exact qt b
   .rw[qt (no:=0) h1]
    show fW n 1 (V 1) (some (i,g'))=_;rw[qt b];show Except.ok (if gen>g' then _ else _)=_;rw[if_pos c]
 unfold Go.Proofs.YtkdhdlfonmgheaaGreat.iJ;rw[c];rfl
end
theorem AS{g:Nat->ag}{n:Nat}(hg:∀i,n<=i->g i=false):bitsOf ((e4 g ((n+7)/8)).map λc=>(c.toNat:Int))=g:=by
 funext i;unfold bitsOf;by_cases hi:i/8<(n+7)/8
 .rw[e6,j3]
  have e:(e4 g ((n+7)/8))[i/8]? =some (UInt8.ofNat (byteOf g (i/8))):=by
   unfold e4;rw[j3,List.getElem?_range hi];rfl
  rw[e];have a:=iW g (i/8);show((((UInt8.ofNat (byteOf g (i/8))).toNat:Nat):Int).toNat).testBit (i%8)=g i;rw[UInt8.toNat_ofNat',ir a,du,lR _ _ _ (g1 _ (by decide)),zx]
 .have:(e4 g ((n+7)/8)).length<=i/8:=by rw[nf];omega
  rw[e6,kz (by rw[dE];exact this),hg i I];show Nat.testBit (Int.toNat 0) _=false;simp
theorem Gn{g:Nat->ag}{n:Nat}(hg:∀i,n<=i->g i=false):nd ((e4 g ((n+7)/8)).map λc=>(c.toNat:Int)) n:=
 ⟨by rw[dE,nf],λi hi=>by rw[AS hg];exact hg i hi⟩
theorem nY{w:J}{D:aV}{no:Nat}{g:Nat->ag}(h:cj w D)(P:D.quiet)(Q:D.aO<=1000000000)(C:no<D.n)(hg:∀i,D.n<=i->g i=false)
 (hc:(∃eO,dh ((no:Nat):Int) (D.now no)=.ok ⟨4,eO,e4 g ((D.n+7)/8)⟩)\/∃e,dh ((no:Nat):Int) (D.now no)=.error e):
 aH ai 110 #[.pointer (some ⟨D.d,0,none⟩),.int .i64 (no:Nat)] w (λv w'=>cj w' D/\ae (λq=>q=D.d) w w'/\
  ((∃sb s1 s2,v=.tuple #[.pointer (some ⟨sb,0,none⟩),.int .i64 0]/\(∃eO,dh ((no:Nat):Int) (D.now no)=.ok ⟨4,eO,e4 g ((D.n+7)/8)⟩)/\en w' sb D.n g g s1 s2/\∀k,eN sb s1 s2 k->w.heap.size<=k)\/
   (∃e:Int,v=.tuple #[.pointer none,.int .i64 e]/\e≠0/\∃R,dh ((no:Nat):Int) (D.now no)=.error R))):=by
 refine okF (af.nY (some ⟨D.d,0,none⟩) (no:Nat)) ay.nY func110 ?_;(delta af.nY bW al j_ z3 U r1 ak aA de;dsimp only);have ah:=h.bc;have E:=AO P h.f4 (k:=1) (.inl rfl);refine(vT h C Q).use ?_;rintro v w1 ⟨m,S,o⟩;rw[E.1]at m;rcases o with ⟨F,_⟩|⟨_,s,rfl,G⟩
 .rw[E.2]at F;cases F
 have aj:=m.m0 C;refine⟨s,0,rfl,λhx=>(by cases hx),λ_=>(lD G.1 G.2.1 I _).use ?_⟩;rintro v p ⟨f,H⟩;have K:=m.ext H;have r:ae (λq=>q=D.d) w p:=ck S H λq _ h=>h.elim;rcases hc with ⟨eO,a⟩|⟨e,a⟩
 .rw[a]at f
  obtain⟨t,rfl,T,am⟩:=f;refine⟨4,eO,t,0,rfl,bk (vs:=[.int .i64 0,.int .u64 0,.slice none 0 0]) rfl λV u y W=>tO 4 eO t u rfl λb z A X=>⟨λhx=>(by cases hx),λ_=>⟨4,z.cell,λhx=>(by cases hx),λ_=>aY ?_⟩⟩⟩;have j:Ext p b:=Ext.cv y A (br _);have L:Ext b b.drew:=cr _;have Y:=z.ext L;have l:=Ext.trans j L;have M:=K.ext l;refine⟨λ_=>False,id,t,by rw[ax];exact Y.cell,(oD M).use ?_⟩;rintro _ _ ⟨rfl,rfl⟩;have Z:=T.ext l;have hu:aF (e4 g ((D.n+7)/8))=((e4 g ((D.n+7)/8)).map λc=>((c.toNat:Nat):Int)).map (.int .u8):=by unfold aF;rw[gK];rfl
  have N:=Z.src;rw[show(⟨4,eO,e4 g ((D.n+7)/8)⟩:gV).body=e4 g ((D.n+7)/8) from rfl,hu]at N;refine⟨_,rfl,ae.refl _ _,(n4 N (λx hx=>?_) (by rw[dE,nf];omega) (D.n:Nat)).use ?_⟩
  .obtain⟨c,_,rfl⟩:=dZ.1 hx
   have:=c.toNat_lt;omega
  rintro v aa ⟨O,o⟩;have ab:=M.ext O;have ac:ae (λq=>q=D.d) w aa:=ck r (Ext.trans l O) λq _ h=>h.elim;have an:=h.bG;rcases o with ⟨B,_⟩|⟨_,_,B,_⟩|⟨_,_,_,sb,s1,s2,rfl,fv,hf⟩
  .exact absurd ⟨I,I⟩ B
  .exact absurd (by rw[du];exact Gn hg) B
  .rw[AS hg,du]at fv
   refine⟨_,0,rfl,ab,ac,.inl ⟨sb,s1,s2,rfl,⟨eO,a⟩,fv,λk ad=>?_⟩⟩;have:=hf k ad;have:=r.size;have:=l.size;omega
 .rw[a]at f
  obtain rfl:=f;have he:=wG a;refine⟨0,0,⟨none,0,0⟩,e,rfl,bk (vs:=[.int .i64 0,.int .u64 0,.slice none 0 0]) rfl λV u y W=>tO 0 0 ⟨none,0,0⟩ u rfl λb z A X=>⟨λ_=>?_,λhx=>absurd (by simpa using hx) he⟩⟩;have j:Ext p b:=Ext.cv y A (br _);exact⟨K.ext j,ck r j λq _ h=>h.elim,.inr ⟨e,rfl,he,e,a⟩⟩
section
variable {w w':J}{D:aV}{V:Nat->cF}{gen:Nat}{u:cz}{g:Nat->ag}{P:Nat->an az}{aS:O Nat}{bm:O aQ}
def qu(D:aV)(j:Nat):Prop:=¬((D.now j).all λc=>c==0)=true/\∃e,dh (j:Int) (D.now j)=.error e
theorem Gp(h:gp V D.n gen u g P aS bm)(dC:∀j,g j=true->D.now j=V j\/qu D j):(D.now 0=V 0/\D.now 1=V 1/\iJ D.n D.now=.ok (u,gen))\/((∃j,g j=true/\qu D j)/\∃e,iJ D.n D.now=.error e):=by
 have mX:g 0=true:=(h.g 0).2 (.inr (.inl (by decide)));have av:g 1=true:=(h.g 1).2 (.inr (.inl (by decide)));have bad:∀ (j:Nat) (a:an (cz×Nat)),qu D j->∃e,fW D.n j (D.now j) a=.error e:=λj a ⟨h1,e,c⟩=>by
  unfold fW;rw[if_neg h1];unfold gf;rw[c];exact⟨e,rfl⟩
 have b:ih D.n D.now 2=(match fW D.n 0 (D.now 0) none with| .error e=>.error e| .ok a=>fW D.n 1 (D.now 1) a):=rfl;rcases dC 0 mX with h0|h0
 .rcases dC 1 av with h1|h1
  .refine .inl ⟨h0,h1,?_⟩
   have:=h.iJ;unfold iJ at this⊢;have d:ih D.n V 2=(match fW D.n 0 (V 0) none with| .error e=>.error e| .ok a=>fW D.n 1 (V 1) a):=rfl;rw[b,h0,h1,←d];exact this
  .right
   refine⟨⟨1,av,h1⟩,?_⟩;unfold iJ;rw[b]
   cases hs:fW D.n 0 (D.now 0) none with
   |error e=>exact⟨e,rfl⟩
   |ok a=>
    obtain⟨e,he⟩:=bad 1 a h1;dsimp only;rw[he];exact⟨e,rfl⟩
 .right
  refine⟨⟨0,mX,h0⟩,?_⟩;obtain⟨e,he⟩:=bad 0 none h0;unfold iJ;rw[b,he];exact⟨e,rfl⟩
theorem AT{c aR k:Nat}{a:Nat->Prop}(h:dy (λ_=>False) w (g_ c aR k D))(d:∀q,a q->q<w.heap.size/\¬cK (g_ c aR k D) q):dy a w (g_ c aR k D):=
 ⟨h.raw,h.inv.pins,λf hf b=>(by
  have:=(List.mem_replicate.1 (show f∈List.replicate k dm from hf)).2
  rw[this]at b
  cases b),h.inv.un,d,h.inv.jT⟩
theorem nV{l:fC}{df:Nat->Prop}(h:cj w D)(r:D.quiet)(b4:D.aO<=800000000)(aL:∀j,g j=true->D.da j=[])(O:ic (l.aj:Nat) (l.batch:Nat) (l.gk:Nat))(b:gp V D.n gen u g P aS bm)(dC:∀j,g j=true->D.now j=V j\/qu D j)(hs:D.bD=g)(aM:D.dQ=λ_=> [])(b5:gen<=1000000000)(be:bm.length<=4000)(bg:aS.length<=4000)(aN:∀q,df q->q<w.heap.size/\¬bF D q):
 aH ai 41 #[.pointer (some ⟨D.d,0,none⟩),.agg l.c.toArray] w (λv w'=>ae (bF D) w w'/\
  ((∃S:cu,v=.tuple #[.pointer (some ⟨S.st,0,none⟩),.int .i64 0]/\ei w' S aS bm aS bm/\S.failed=false/\S.u=u/\S.gen=gen/\S.now=u.clock/\S.pending=0/\S.l=l/\S.T.C.D.d=D.d/\S.T.n=D.n/\S.T.C.D.quiet/\S.T.C.D.aO<=D.aO+9000/\(∀q,S.T.M q->bF D q\/df q\/w.heap.size<=q)/\(∀q,S.T.E q↔q=S.st\/df q)/\w.heap.size<=S.st)\/
   (∃e:Int,v=.tuple #[.pointer none,.int .i64 e]/\e≠0/\∃j,g j=true/\qu D j))):=by
 refine okF (af.nV (some ⟨D.d,0,none⟩) (l.aj:Nat) (l.batch:Nat) (l.gk:Nat)) ay.nV func41 ?_;(delta af.nV r1 U bt aG al yi ga de aA;dsimp only);have b6:=h.bG;have b8:=h.bc;have H:=b.qq;have Z:g u.map=true:=(b.g _).2 (.inr (.inr rfl));refine bk (vs:=l.c) rfl λw1 aa aP b9=>⟨_,aa.cell,_,by rw[ax];exact aa.cell,_,by rw[ax];exact aa.cell,(lA w1 _ _ _ _).use ?_⟩;rintro _ b_ ⟨rfl,aQ⟩;refine⟨_,rfl,λaT=>?_,λ_=>?_⟩
 .rw[dv O]at aT;cases aT
 have ak:=aP.trans aQ;have bh:=h.ext ak;have bi:=aa.ext aQ;refine(nX bh r I).use ?_;rintro v am ⟨bj,ao,J⟩;have cb:=ak.size;have cc:=ao.size;have cd:=aP.size;have ab:∀q,q=D.d->bF D q:=λq e=>.inl e;have aU:ae (bF D) w am:=ck (ak.mono λ_ _ h=>h.elim) ao λq _ e=>ab q e;have bl:=bi.ad ao λe=>by have:=h.lt (q:=D.d) (.inl rfl);omega
 rcases Gp b dC with ⟨bn,bo,ap⟩|⟨bp,e,ap⟩
 rotate_left
 .rw[ap]at J
  obtain⟨he,bq,rfl⟩:=J;refine⟨_,_,_,_,_,_,0,e,rfl,bk (vs:=fb.c) rfl λbs ar au bu=>ib ar rfl bq λac av aw _=>⟨λ_=>?_,λhx=>absurd (by simpa using hx) he⟩⟩;have Q:Ext am ac:=Ext.cv au aw (br _);exact⟨ck aU Q λq _ h=>h.elim,.inr ⟨e,rfl,he,bp⟩⟩
 rw[ap]at J;obtain rfl:=J;refine⟨_,_,_,_,_,_,_,0,rfl,bk (vs:=fb.c) rfl λbs ar au bu=>ib ar rfl u λac av aw _=>⟨λhx=>(by cases hx),λ_=>⟨_,by rw[ax];exact av.cell,?_⟩⟩⟩;have Q:Ext am ac:=Ext.cv au aw (br _);have bv:=bj.ext Q;have bx:=bl.ext Q;have aV:∀i,D.n<=i->g i=false:=λi hi=>by
  cases hg:g i with
  |false=>rfl
  |true=>
   rcases(b.g i).1 hg with h1|h1|h1
   .have:=(b.two i h1).2.2;omega
   .omega
   .have:=H.2.2.2.1;omega
 have aW:=b.mp;have bz:(∃eO,dh ((u.map:Nat):Int) (D.now u.map)=.ok ⟨4,eO,e4 g ((D.n+7)/8)⟩)\/∃e,dh ((u.map:Nat):Int) (D.now u.map)=.error e:=by
  rcases dC u.map Z with h1|h1
  .obtain⟨eO,_,a⟩:=aW
   exact .inl ⟨eO,by rw[h1];exact a⟩
  .exact .inr h1.2
 refine(nY bv r I H.2.2.2.1 aV bz).use ?_;rintro v aX ⟨bA,ag,J⟩;have ce:=Q.size;have bB:ae (bF D) w ac:=ck aU Q λq _ h=>h.elim;have aY:ae (bF D) w aX:=ck bB ag λq _ e=>ab q e;rcases J with ⟨sb,s1,s2,rfl,⟨eO,bC⟩,fv,bE⟩|⟨e,rfl,he,cf,aZ⟩
 rotate_left
 .refine⟨none,e,rfl,λ_=>⟨aY,.inr ⟨e,rfl,he,u.map,Z,?_⟩⟩,λhx=>absurd (by simpa using hx) he⟩
  rcases dC u.map Z with h1|h1
  .obtain⟨eO,_,a⟩:=aW
   rw[h1,a]at aZ;cases aZ
  .exact h1
 have a0:∀q,w.heap.size<=q->¬bF D q:=λq r hf=>by have:=h.lt hf;omega
 have aB:=bx.ad ag λe=>a0 _ (br _) (ab _ e);have a4:=av.ad ag λe=>a0 _ I (ab _ e);have bH:D.now u.map=V u.map:=by
  rcases dC u.map Z with h1|⟨_,e,h1⟩
  .exact h1
  .rw[bC]at h1;cases h1
 refine⟨_,0,rfl,λhx=>(by cases hx),λ_=>⟨_,aB.cell,_,by rw[ax];exact aB.cell,_,by rw[ax];exact aB.cell,fV a4 ?_⟩⟩;have bI:=lC bA (l:=l) (u:=u) (gen:=gen) ⟨by have:=O.1;omega,by have:=O.2.1;omega⟩ ⟨I,by have:=H.2.1;omega,I,by have:=H.2.2.1;omega,by have:=H.1;omega⟩ I (λj F=>by rw[aM,aL j (by rw[←hs];exact F)]) sb;refine bI.use ?_;rintro _ R ⟨c,aR,a6,st,B⟩;have bJ:=B.val;subst bJ;refine⟨_,0,rfl,λhx=>(by cases hx),λ_=>⟨_,by rw[ax];exact(a4.ext B.x).cell,?_⟩⟩;have cg:=ag.size;have ch:=B.x.size;have ci:=B.sv.lt;have cl:=B.hc;have cm:=B.hf;have cn:=B.ht;obtain⟨P',ah⟩:∃P':Nat->an az,P'=λno=>if no∈aS then (if D.now no=V no then P no else none) else none:=⟨_,rfl⟩
 obtain⟨T,o⟩:∃T:aK,T=⟨a6,gen+1,u.root,u.aD,g_ c aR l.aj D,sb,D.n,g,g,s1,s2,λq=>q=st\/df q,λ_=>False,P'⟩:=⟨_,rfl⟩;have W:∀q,cK (g_ c aR l.aj D) q->q=c\/q=aR\/bF D q:=λq h=>h;have Y:∀q,eN sb s1 s2 q->w.heap.size<=q/\q<aX.heap.size:=λq r=>⟨by have:=bE q r;omega,fv.lt q r⟩;have bL:∀q,T.X q->q=a6\/eN sb s1 s2 q\/q=st\/df q:=λq r=>by
  rw[o]at r;rcases r with h1|h1|h1|h1
  .exact .inl h1
  .exact .inr (.inl h1)
  .exact .inr (.inr h1)
  .exact h1.elim
 have aC:∀q,bF D q->q<w.heap.size:=λq r=>h.lt r;have a5:bK R T:=by
  have a7:dy T.X R (g_ c aR l.aj D):=AT B.ca λq r=>by
   rcases bL q r with h1|h1|h1|h1
   .refine⟨I,λhf=>?_⟩
    rcases W q hf with a|a|a
    .omega
    .omega
    .have:=aC q a;omega
   .have z:=Y q h1
    refine⟨I,λhf=>?_⟩;rcases W q hf with a|a|a
    .omega
    .omega
    .have:=aC q a;omega
   .refine⟨I,λhf=>?_⟩
    rcases W q hf with a|a|a
    .omega
    .omega
    .have:=aC q a;omega
   .have z:=aN q h1
    refine⟨I,λhf=>?_⟩;rcases W q hf with a|a|a
    .omega
    .omega
    .exact z.2 a
  rw[o]at a7⊢;refine⟨B.fG,fv.ext B.x,a7,λhf=>by have:=Y a6 hf;omega,λq r=>?_,λq r=>r.elim,rfl,⟨H.2.2.1,H.2.1,by show gen+1<_;omega⟩,λno bf A=>?_,λj F=>.inl (by rw[←hs];exact F),⟨(b.g 0).2 (.inr (.inl (by decide))),(b.g 1).2 (.inr (.inl (by decide)))⟩⟩
  .have r:q=st\/df q:=r
   rcases r with h1|h1
   .exact⟨by show q≠a6;omega,λhf=>by have:=Y q hf;omega,λh=>h⟩
   .have z:=aN q h1
    exact⟨by show q≠a6;omega,λhf=>by have:=Y q hf;omega,λh=>h⟩
  .have A:P' no=some bf:=A
   rw[ah]at A;dsimp only at A;by_cases h1:no∈aS
   .rw[if_pos h1]at A
    by_cases a:D.now no=V no
    .rw[if_pos a]at A
     refine⟨(b.two no h1).2.2,?_⟩;show fU (gen+1) bf.leaf no ((g_ c aR l.aj D).view no) bf;rw[v7,a];exact(b.dM no h1 bf A).mono I
    .rw[if_neg a]at A;cases A
   .rw[if_neg h1]at A;cases A
 obtain⟨S,y⟩:∃S:cu,S=⟨st,T,l,u,gen,u.clock,0,0,u.keys,false⟩:=⟨_,rfl⟩;have aE:Var R S.st S.cells 158:=by
  rw[y];show Var R st (gn T.a6 T.C.D.d T.C.c T.sb _ _ _ _ _ _ _ _) _;rw[o];exact B.sv
 have eS:S.T=T:=by rw[y]
 have aF:S.u=u:=by rw[y]
 have bM:fL (T.bw T.C P) aS bm:=by
  rw[o];exact b.ok
 have a8:=F5 (S:=S) (fk:=P) (pages:=aS) (L:=bm) (m:=((u.keys:Nat):Int)) aE (by rw[eS];exact a5) (by rw[y,o];exact .inl rfl) (by rw[eS];exact bM) (λx hx bf A=>?_) b.bf (λno=>by rw[eS,aF,o];exact b.g no) (λx hx=>by rw[aF];exact⟨(b.two x hx).1,(b.two x hx).2.1⟩) (by rw[eS,aF,o];exact⟨H.2.2.2.2.1,H.2.2.2.1⟩) be bg (by rw[eS,o];show D.aO<=_;omega)
 rotate_left
 .rw[eS,o]
  rcases dC x ((b.g x).2 (.inl hx)) with h1|h1
  .left
   show P' x=some bf;rw[ah];dsimp only;rw[if_pos hx,if_pos h1];exact A
  .right
   obtain⟨_,e,a⟩:=h1;exact⟨⟨(b.two x hx).2.2,(b.two x hx).1⟩,e,by show dh _ ((g_ c aR l.aj D).view x)=_;rw[v7];exact a⟩
 rw[show S.st=st by rw[y]]at a8;refine a8.use ?_;rintro v bN ⟨aq,bO,G,a9,J⟩;rw[eS]at G a9 J;have bP:ae (bF D) w R:=ck aY B.x λq _ h=>h.elim;have bQ:∀q,T.N q->bF D q\/w.heap.size<=q:=λq r=>by
  rw[o]at r;rcases r with h1|h1|h1|h1
  .rcases W q h1 with a|a|a
   .exact .inr I
   .exact .inr I
   .exact .inl a
  .have h1:q=a6:=h1
   exact .inr I
  .exact .inr (Y q h1).1
  .exact h1.elim
 have ba:ae (bF D) w bN:=ck bP G.to.ad λq hl r=>(bQ q r).resolve_right I;rcases J with ⟨rfl,co,bR⟩|⟨e,rfl,he,bS⟩
 .refine⟨0,rfl,λhx=>(by cases hx),λ_=>⟨ba,.inl ?_⟩⟩
  have bb:∀x∈aS,D.now x=V x:=λx hx=>by
   rcases dC x ((b.g x).2 (.inl hx)) with h1|⟨_,e,h1⟩
   .exact h1
   .exfalso
    have K:=bR x hx;rw[o]at K;have K:P' x=P x:=K;have aI:∃bf,P x=some bf:=by
     rcases b.ok with ⟨_,_,a,_⟩|a
     .rw[a]at hx;cases hx
     .exact a.node _ x hx
    obtain⟨bf,cS⟩:=aI;rw[cS,ah]at K;dsimp only at K;rw[if_pos hx]at K;by_cases a:D.now x=V x
    .obtain⟨p,z,_⟩:=b.dM x hx bf cS
     rw[a,z]at h1;cases h1
    .rw[if_neg a]at K;cases K
  have bT:∀j,g j=true->D.a_.getD j []=V j:=λj F=>by
   have bU:D.now j=D.a_.getD j []:=by rw[tI D (λx hx=>(h.wn x hx).1),if_pos (aL j F)]
   rw[←bU];rcases(b.g j).1 F with h1|h1|h1
   .exact bb j h1
   .rcases dJ j 1 with a|a
    .rw[show j=0 from I];exact bn
    .rw[show j=1 from I];exact bo
   .rw[h1];exact bH
  have bV:∀x∈aS,P x=P' x:=λx hx=>by rw[ah];dsimp only;rw[if_pos hx,if_pos (bb x hx)]
  have bW:ei R S aS bm aS bm:=by
   have hd:=b.agree bT bV;rw[y];refine⟨⟨by rw[y]at aE;exact aE,a5,by rw[o];exact .inl rfl,by rw[o];exact hd,by rw[o],⟨b.AD.clock,cI _,b.AE,by show gen+2<_;omega,?_,?_,?_⟩,λj F=>?_⟩,?_,b.bf,by rw[o];exact b.g,λx hx=>⟨(b.two x hx).1,(b.two x hx).2.1⟩,b.kv,b.keys,cI _,λ_=>⟨?_,by rw[o];exact aM,?_⟩,λhf=>(by cases hf)⟩
   .have:=O.2.2.2.1;show l.batch<=1000;omega
   .have:=O.2.2.2.2.2;show l.gk<=1048576;omega
   .have:=O.2.2.1;show 1<=l.batch;omega
   .have F:T.g j=true:=F
    show T.C.D.bD j=true;rw[o]at F⊢;show D.bD j=true;rw[hs];exact F
   .have h1:=hd.ok
    rw[o];exact h1
   .intro e
    have h1:=e D.n;have a:T.C.D.bD=g:=by rw[o];exact hs
    have h1:T.C.D.bD D.n=true:=h1;rw[a,aV D.n (br _)]at h1;cases h1
   .obtain⟨j,bX,bY⟩:=b.fr
    have h1:=qi (s:=λi=>g i||g i) (t:=cZ (λi=>g i||g i) j true) (k:=j) (by simp[bY]) (by simp[cZ]) (λi hi=>by simp[cZ,hi]) (n:=D.n) bX;have a:=kZ (cZ (λi=>g i||g i) j true) D.n;have z:b7 T=D.n-eo (λi=>g i||g i) D.n:=by rw[o];rfl
    show 1<=b7 T;omega
  obtain⟨a1,a2,a3⟩:=bW.to bO (by rw[eS];exact G.to) (by rw[eS];exact G.E) (by rw[eS];exact a9) ⟨by rw[eS];exact G.root,by rw[eS];exact G.aD,by rw[eS];exact G.f,λno _=>by rw[eS];exact⟨congrFun G.P no,G.view no⟩⟩;have b0:S.T.C.D.quiet:=by rw[eS,o];exact r
  refine⟨S.bZ aq,by rw[show(S.bZ aq).st=st by rw[y];rfl],a1,by rw[y];rfl,by rw[y];rfl,by rw[y];rfl,by rw[y];rfl,by rw[y];rfl,by rw[y];rfl,?_,?_,a2.q b0,?_,λq b1=>?_,λq=>?_,?_⟩
  .rw[a2.d,eS,o];rfl
  .rw[a2.n,eS,o]
  .have h1:=a2.aO
   have a:S.T.C.D.aO=D.aO:=by rw[eS,o];rfl
   omega
  .have h1:=G.to.cN q b1
   rcases h1 with h1|h1
   .rw[o]at h1
    rcases h1 with h1|h1|h1|h1|h1
    .rcases W q h1 with a|a|a
     .exact .inr (.inr I)
     .exact .inr (.inr I)
     .exact .inl a
    .have h1:q=a6:=h1
     exact .inr (.inr I)
    .exact .inr (.inr (Y q h1).1)
    .have h1:q=st\/df q:=h1
     rcases h1 with h1|h1
     .exact .inr (.inr I)
     .exact .inr (.inl h1)
    .exact h1.elim
   .exact .inr (.inr I)
  .show aq.E q↔q=(S.bZ aq).st\/df q
   rw[G.E,o,y];rfl
  .show w.heap.size<=S.st
   rw[y];show w.heap.size<=st;omega
 .refine⟨e,rfl,λ_=>⟨ba,.inr ⟨e,rfl,he,?_⟩⟩,λhx=>absurd (by simpa using hx) he⟩
  rcases bS with h1|⟨x,hx,h1⟩|h1
  .rw[o]at h1
   exact absurd (r.1 _) h1
  .have bd:=(b.g x).2 (.inl hx)
   refine⟨x,bd,?_⟩;rcases dC x bd with a|a
   .exfalso
    obtain⟨_,b2,z⟩:=h1;rw[o]at z;have z:dh ((x:Nat):Int) ((g_ c aR l.aj D).view x)=.error b2:=z;rw[v7,a]at z;have aI:∃bf,P x=some bf:=by
     rcases b.ok with ⟨_,_,aJ,_⟩|aJ
     .rw[aJ]at hx;cases hx
     .exact aJ.node _ x hx
    obtain⟨bf,cS⟩:=aI;obtain⟨p,b3,_⟩:=b.dM x hx bf cS;rw[b3]at z;cases z
   .exact a
  .exact absurd (by rw[b.keys]) h1
end
structure wX(D:aV)(l:fC)(df:Nat->Prop)(k:Nat)(w w':J)(S:cu):Prop where
 live:S.failed=false
 jX:S.pending=0
 now:S.now=S.u.clock
 l:S.l=l
 d:S.T.C.D.d=D.d
 n:S.T.n=D.n
 q:S.T.C.D.quiet
 aO:S.T.C.D.aO<=D.aO+k
 M:∀q,S.T.M q->bF D q\/df q\/w.heap.size<=q
 E:∀q,S.T.E q↔q=S.st\/df q
 st:w.heap.size<=S.st
 ad:ae (bF D) w w'
section
variable {w w':J}{D:aV}{df:Nat->Prop}
theorem AU{l:fC}(h:cj w D)(y:ic (l.aj:Nat) (l.batch:Nat) (l.gk:Nat))(N:∀k,D.calm k)(oB:D.bY.getD 3 0= -1)(O:D.aO<=999999000)(z:∀q,df q->q<w.heap.size/\¬bF D q):
 aH ai 19 #[.pointer (some D.d),.agg l.c.toArray] w (λv w'=>∃S:cu,v=.tuple #[.pointer (some S.st),(0:Int)]/\ei w' S [] [] [] []/\wX D l df 4 w w' S/\S.u=ja/\S.gen=1):=by
 have aa:=h.bG;have P:=h.bc;refine(ke h y N oB O).mono ?_;rintro v w' ⟨aw,sb,s1,s2,c,aR,a6,st,iU,R⟩;obtain rfl:=R.AB.val;have hd:=R.mQ;have B:=R.AB;have ab:=R.ad.size;have ac:=B.x.size;have ae:=B.hc;have af:=B.hf;have ag:=B.ht;have ah:=B.sv.lt;have E:∀j,aw.a_.getD j []=aw.now j:=λj=>by unfold aV.now;rw[hd.waits];rfl
 have o:∀q,cK (g_ c aR l.aj aw) q->q=c\/q=aR\/bF aw q:=λq h=>h;have G:∀q,bF aw q->q<iU.heap.size:=λq f=>by
  rcases R.dq q f with h1|h1
  .have:=h.lt h1;omega
  .omega
 have Q:aw.quiet:=⟨hd.calm,hd.bY⟩;obtain⟨T,b⟩:∃T:aK,T=⟨a6,1+1,0,0,g_ c aR l.aj aw,sb,D.n,λi=>decide (i<3),λi=>decide (i<3),s1,s2,λq=>q=st\/df q,λ_=>False,λ_=>none⟩:=⟨_,rfl⟩;have U:∀q,df q->q<w.heap.size/\¬bF aw q:=λq f=>⟨(z q f).1,λhf=>by
  rcases R.dq q hf with h1|h1
  .exact(z q f).2 h1
  .have:=(z q f).1;omega⟩
 have V:bK w' T:=by
  have H:dy T.X w' (g_ c aR l.aj aw):=AT B.ca λq f=>by
   rw[b]at f;rcases f with h1|h1|h1|h1
   .have h1:q=a6:=h1
    refine⟨I,λhf=>?_⟩;rcases o q hf with a|a|a
    .omega
    .omega
    .have:=G q a;omega
   .have A:=R.qp q h1
    refine⟨I,λhf=>?_⟩;rcases o q hf with a|a|a
    .omega
    .omega
    .have ak:=B.ca.raw.dev
     exact R.FJ q h1 a
   .rcases(show q=st\/df q from h1) with h1|h1
    .refine⟨I,λhf=>?_⟩
     rcases o q hf with a|a|a
     .omega
     .omega
     .have:=G q a;omega
    .have A:=U q h1
     refine⟨I,λhf=>?_⟩;rcases o q hf with a|a|a
     .omega
     .omega
     .exact A.2 a
   .exact h1.elim
  rw[b]at H⊢;refine⟨B.fG,R.sp,H,λhf=>by have:=R.qp a6 hf;omega,λq f=>?_,λq f=>f.elim,hd.n,⟨by show 0<D.n;omega,(by decide:0<=12),(by decide:1+1<18446744073709551616)⟩,λno bf F=>(by cases F),λj m=>.inl ?_,⟨rfl,rfl⟩⟩
  .rcases(show q=st\/df q from f) with h1|h1
   .exact⟨by show q≠a6;omega,λhf=>by have:=R.qp q hf;omega,λh=>h⟩
   .have A:=z q h1
    exact⟨by show q≠a6;omega,λhf=>by have:=R.qp q hf;omega,λh=>h⟩
  .have m:aw.bD j=true:=m
   rw[hd.bD]at m;exact m
 have J:i_ ja D.n:=⟨Iff.intro (λ_=>rfl) (λ_=>rfl),by decide,by show 0<D.n;omega,by show 2<D.n;omega,by decide,P⟩;have K:lZ ja:=⟨by decide,by decide,by decide,by decide,by decide,by decide⟩;have L:gp (λj=>aw.a_.getD j []) D.n 1 ja (λi=>decide (i<3)) (λ_=>none) [] []:=by
  refine⟨⟨3,I,rfl⟩,?_,.inl ?_,⟨1,br _,?_⟩,λno=>?_,List.nodup_nil,λx hx=>(by cases hx),.inl ⟨rfl,rfl,rfl,rfl⟩,λx hx=>(by cases hx),rfl,λq f=>(by cases f),K,J,br _⟩
  .show gf ((1:Nat):Int) (aw.a_.getD 1 [])=_
   rw[E,hd.now];exact Aq K J (by decide) (by decide)
  .show aw.a_.getD 0 []=fI
   rw[E,hd.now];rfl
  .show dh ((2:Nat):Int) (aw.a_.getD 2 [])=_
   rw[E,hd.now];exact tu I ⟨(by decide:1<=4),(by decide:4<=4),(by decide:1<18446744073709551616),by show(e4 _ _).length<=232;rw[nf];omega⟩
  .show decide (no<3)=true↔no∈ []\/no<2\/no=2
   simp only[eR,false_or,cO];omega
 obtain⟨S,r⟩:∃S:cu,S=⟨st,T,l,ja,1,0,0,0,0,false⟩:=⟨_,rfl⟩;have W:1<=b7 T:=by
  have h1:=qi (s:=λi=>decide (i<3)||decide (i<3)) (t:=cZ (λi=>decide (i<3)||decide (i<3)) 3 true) (k:=3) (by simp) (by simp[cZ]) (λi hi=>by simp[cZ,hi]) (n:=D.n) I;have a:=kZ (cZ (λi=>decide (i<3)||decide (i<3)) 3 true) D.n;have A:b7 T=D.n-eo (λi=>decide (i<3)||decide (i<3)) D.n:=by rw[b];rfl
  omega
 refine⟨S,by rw[r],?_,?_,by rw[r],by rw[r]⟩
 .rw[r]
  refine⟨⟨?_,V,by rw[b];exact .inl rfl,by rw[b];exact L,by rw[b],⟨(by decide:0<18446744073709551616),br _,br _,(by decide:1+2<18446744073709551616),?_,?_,?_⟩,λj m=>?_⟩,.inl ?_,List.nodup_nil,?_,λx hx=>(by cases hx),λp F=>(by cases F),rfl,cI _,λ_=>⟨?_,by rw[b];exact hd.dQ,W⟩,λhf=>(by cases hf)⟩
  .show Var w' st (gn T.a6 T.C.D.d T.C.c T.sb _ _ _ _ _ _ _ _) _
   rw[b];exact B.sv
  .have:=y.2.2.2.1;show l.batch<=1000;omega
  .have:=y.2.2.2.2.2;show l.gk<=1048576;omega
  .have:=y.2.2.1;show 1<=l.batch;omega
  .have m:T.g j=true:=m
   show T.C.D.bD j=true;rw[b]at m⊢;show aw.bD j=true;rw[hd.bD];exact m
  .rw[b];exact⟨rfl,rfl,rfl,rfl⟩
  .intro no
   have Y:=L.g no;rw[b];exact Y
  .intro e
   have h1:aw.bD 5=true:=by have:=e 5;rw[b]at this;exact this
   rw[hd.bD]at h1;cases h1
 .rw[r]
  refine⟨rfl,rfl,rfl,rfl,by rw[b];exact hd.d,by rw[b],by rw[b];exact Q,by rw[b];show aw.aO<=_;rw[hd.aO];omega,λq M=>?_,λq=>by rw[b],by show w.heap.size<=st;omega,ck R.ad B.x λq _ h=>h.elim⟩;rw[b]at M;have Z:∀q,bF aw q->bF D q\/df q\/w.heap.size<=q:=λq f=>by
   rcases R.dq q f with h1|h1
   .exact .inl h1
   .exact .inr (.inr h1.1)
  rcases M with h1|h1|h1|h1|h1
  .rcases o q h1 with a|a|a
   .exact .inr (.inr I)
   .exact .inr (.inr I)
   .exact Z q a
  .have h1:q=a6:=h1
   exact .inr (.inr I)
  .exact .inr (.inr (R.qp q h1).1)
  .rcases(show q=st\/df q from h1) with h1|h1
   .exact .inr (.inr I)
   .exact .inr (.inl h1)
  .exact h1.elim
end
section
variable {w0 w w':J}{wM ed:Nat}{T aq:aK}{r h k c:Nat}{pages aS:O Nat}{L ko bm:O aQ}{V:Nat->cF}{ms l:Y}
theorem Gq(w:J):Src 1 w bu (aF []):=(aZ.none 1 5 w).src
end
theorem AV:∀ {a b:O Nat},a.Nodup->(∀x∈a,x∈b)->a.length<=b.length
 | [],_,_,_=>cI _
 |x::a,b,d,hs=>by
  obtain⟨h1,f⟩:=List.nodup_cons.1 d
  have hx:=hs x (by simp)
  have:=AV (a:=a) (b:=b.erase x) f λy c=>(List.mem_erase_of_ne (λe=>h1 (by rw[←e];exact c))).2 (hs y (jb _ c))
  rw[List.length_erase_of_mem hx]at this
  have:=List.length_pos_of_mem hx
  rw[fD];omega
theorem Gr{t:Nat->ag}{l:O Nat}(n:Nat)(h:∀i,i<n->t i=true->i∈l):eo t n<=l.length:=by
 have h1:∀n,eo t n=((List.range n).filter t).length:=by
  intro n
  induction n with
  |zero=>rfl
  |succ n a=>
   rw[List.range_succ,j2,cE,eo,a,qO,List.filter_nil]
   cases t n<;>rfl
 rw[h1];refine AV (List.nodup_range.filter t) λx hx=>?_;rw[g0,ik]at hx;exact h x hx.1 hx.2
section
variable {V:Nat->cF}{n gen:Nat}{u:cz}{g:Nat->ag}{P:Nat->an az}{aS:O Nat}{bm:O aQ}
theorem gp.sound(h:gp V n gen u g P aS bm){j:Nat}(c:g j=true):V j=fI\/∃p,dh (j:Int) (V j)=.ok p:=by
 rcases(h.g j).1 c with h1|h1|h1
 .right
  have d:∃bf,P j=some bf:=by
   rcases h.ok with ⟨_,_,a,_⟩|a
   .rw[a]at h1;cases h1
   .exact a.node _ j h1
  obtain⟨bf,cS⟩:=d;obtain⟨p,b,_⟩:=h.dM j h1 bf cS;exact⟨p,b⟩
 .by_cases e:j=gen%2
  .right
   rw[e];obtain⟨p,b⟩:=wW h.t_;exact⟨p,b⟩
  .have e:j=1-gen%2:=by omega
   rcases h.wP with a|⟨f,g',a,_⟩
   .left;rw[e];exact a
   .right
    rw[e];obtain⟨p,b⟩:=wW a;exact⟨p,b⟩
 .right
  rw[h1];obtain⟨_,_,a⟩:=h.mp;exact⟨_,a⟩
theorem gp.low(h:gp V n gen u g P aS bm):aS.length<=bm.length:=by
 rcases h.ok with ⟨_,_,a,_⟩|a
 .rw[a];exact cI _
 .exact a.pages.1
theorem Gs{w:J}{D:aV}{l:fC}{df:Nat->Prop}(h:cj w D)(o:D.quiet)(B:D.aO<=700000000)(f:D.waits=[])(r:ic (l.aj:Nat) (l.batch:Nat) (l.gk:Nat))(b:gp V D.n gen u g P aS bm)(dC:∀j,g j=true->D.a_.getD j []=V j)(s:gen<=1000000000)(t:bm.length<=4000)(x:∀q,df q->q<w.heap.size/\¬bF D q):
 aH ai 41 #[.pointer (some D.d),.agg l.c.toArray] w (λv w'=>∃S:cu,v=.tuple #[.pointer (some S.st),(0:Int)]/\ei w' S aS bm aS bm/\wX D l df 9000 w w' S/\S.u=u/\S.gen=gen):=by
 have y:∀j,D.da j=[]:=λj=>by unfold aV.da;rw[f];rfl
 have i:∀j,D.now j=D.a_.getD j []:=λj=>by unfold aV.now;rw[f];rfl
 have C:=b.low;refine(nV (D:=D.fq g λ_=> []) (df:=df) (h.fq _ _) o (by show D.aO<=_;omega) (λj _=>y j) r b (λj a=>.inl ((i j).trans (dC j a))) rfl rfl s t I x).mono ?_;rintro v w' ⟨hc,⟨S,rfl,z,a1,a2,a3,a4,a5,c_,dK,dH,a9,c8,eU,dV,ec⟩|⟨e,rfl,he,j,a,k,E,m⟩⟩
 .exact⟨S,rfl,z,⟨a1,a5,by rw[a4,a2],c_,dK,dH,a9,c8,eU,dV,ec,hc⟩,a2,a3⟩
 .exfalso
  have A:(D.fq g λ_=> []).now j=V j:=(i j).trans (dC j a);rw[A]at k m;rcases b.sound a with h1|⟨p,h1⟩
  .exact k (by rw[h1];decide+kernel)
  .rw[m]at h1;cases h1
end
theorem ni{a:(ag->J->Prop)->Prop}{rest:ag->J->Prop}{w0:J}{b:ag}(c:ag)(h1:b=true->∀k:ag->J->Prop,(∀w',Ext w0 w'->k c w')->a k)(d:∀w',Ext w0 w'->rest (b&&c) w'):
 bq (λk=>(b=true->a k)/\(b=false->k false w0)) rest:=
 ⟨⟨λh=>h1 h rest (λw' hx=>by have:=d w' hx;rwa[h,ij]at this),λh=>by have:=d w0 (.refl _ _);rwa[h,ky]at this⟩⟩
theorem k6{a:(ag->J->Prop)->Prop}{rest:ag->J->Prop}{w0:J}{b:ag}(c:ag)(h1:b=false->∀k:ag->J->Prop,(∀w',Ext w0 w'->k c w')->a k)(d:∀w',Ext w0 w'->rest (b||c) w'):
 bq (λk=>(b=true->k true w0)/\(b=false->a k)) rest:=
 ⟨⟨λh=>by have:=d w0 (.refl _ _);rwa[h,Bool.true_or]at this,λh=>h1 h rest (λw' hx=>by have:=d w' hx;rwa[h,j0]at this)⟩⟩
theorem kP{b d:Nat}(k:b<256)(hd:d<256)(w:J):aH ai 20 #[.int .u8 (b:Nat),.int .u8 (d:Nat)] w (λv w'=>v=.agg (fC.c ⟨8,1+b%12,1+d%12⟩).toArray/\Ext w w'):=by
 refine af.CC _ _ w _ ?_;(delta af.kP U au r1 bt;dsimp only);have g:IntKind.wrap .i64 (1+IntKind.wrap .i64 (Int.tmod (b:Int) 12))=((1+b%12:Nat):Int):=by
  rw[qN I,bB (n:=(b:Int)%12) I I,bB I I];omega
 have h:IntKind.wrap .u64 (1+IntKind.wrap .u64 (Int.tmod (d:Int) 12))=((1+d%12:Nat):Int):=by
  rw[qN I,gz (n:=(d:Int)%12) I I,gz I I];omega
 rw[g,h];refine bk (vs:=[(0:Int),(0:Int),.int .u64 0]) rfl λw1 e i l=>⟨by decide,by decide,e.b5 rfl (λv f=>?_),rfl,cn e (us:=fC.c ⟨8,1+b%12,1+d%12⟩) rfl rfl λah a j m=>⟨_,a.cell,_,by rw[ax];exact a.cell,_,by rw[ax];exact a.cell,rfl,Ext.cv i j (br _)⟩⟩;simp only[cR,eR,eY]at f;rcases f with rfl|rfl|rfl<;>trivial
structure iK(w0 w:J)(df:Nat->Prop)(d n:Nat)(l:fC)(S:cu)(pages:O Nat)(L:O aQ)(aS:O Nat)(bm:O aQ)(c:Nat):Prop where
 x:Ext w0 w
 at_:ei w S pages L aS bm
 E:∀q,S.T.E q↔q=S.st\/df q
 ne:¬df S.st
 qv:∀q,S.T.M q->w0.heap.size<=q
 lim:S.l=l
 d:S.T.C.D.d=d
 n:S.T.n=n
 aO:S.T.C.D.aO<=20000*(c+1)
 g9:L.length<=c/\bm.length<=c
 gen:S.gen<=c+1
 Gt:S.pending<=c
section
variable {w0 w w':J}{df:Nat->Prop}{d n ed k c:Nat}{l:fC}{S aM:cu}{pages aS:O Nat}{L bm:O aQ}{m:lX}
theorem iK.AW(h:iK w0 w df d n l S pages L aS bm c){q:Nat}(a:df q):S.T.E q/\q≠S.st:=⟨(h.E q).2 (.inr a),λe=>h.ne (e▸a)⟩
theorem iK.ext(h:iK w0 w df d n l S pages L aS bm c)(hx:Ext w w'):iK w0 w' df d n l S pages L aS bm c:={h with x:=h.x.trans hx,at_:=h.at_.ext hx}
theorem iK.step{ig qw:O Nat}{ko oS:O aQ}(h:iK w0 w df d n l S pages L aS bm c)(hs:ei w' aM ig ko qw oS)(hd:dN k S aM w w')(b:k<=20000)(hf:ko.length<=c+1/\oS.length<=c+1)(hg:aM.gen<=S.gen+1)(e:aM.pending<=S.pending+1):iK w0 w' df d n l aM ig ko qw oS (c+1):=
 ⟨Ext.dj h.x hd.ad λq a=>h.qv q a.1,hs,λq=>by rw[hd.E,hd.st];exact h.E q,by rw[hd.st];exact h.ne,λq a=>by
  rcases hd.cN q a with h1|h1
  .exact h.qv q h1
  .have:=h.x.size;omega,hd.l.trans h.lim,hd.d.trans h.d,hd.n.trans h.n,by have:=hd.aO;have:=h.aO;omega,hf,by have:=h.gen;omega,by have:=h.Gt;omega⟩
end
section
variable {w0 w w' w1 ah:J}{df:Nat->Prop}{d n ed k c:Nat}{l:fC}{S aM:cu}{pages ig aS qw:O Nat}{L ko bm oS:O aQ}{m:lX}{v:aa}
theorem iI.AX{c:Prop}(h:iI c S aM pages L aS bm v w')(a:S.T.C.D.quiet):v=.int .i64 0/\c/\ei w' aM pages L pages L/\aM.failed=false/\aM.gen=S.gen+1/\aM.u.clock=S.now/\aM.u.dc=S.u.dc+1/\aM.pending=0:=by
 rcases h with h|⟨_,h,_⟩
 .exact h
 .exact absurd a h
end
section
variable {w0 w w' w1 ah:J}{df bT:Nat->Prop}{d n ed k c i:Nat}{l:fC}{S aM:cu}{pages ig aS qw bo:O Nat}{L ko bm oS bl:O aQ}{m:lX}{v:aa}{aw:aV}{ls:Y}
theorem ei.a_(h:ei w S pages L aS bm)(hl:S.failed=false)(b:wV S.T.C.D aw):∀j,S.T.g j=true->aw.a_.getD j []=S.V j:=λj c=>by
 rcases b.a_ j with h1|h1
 .exact h1
 .have a:=h.t.ca.inv.jT j (h.bD j c)
  rw[(h.live hl).2.1]at a
  rw[a]at h1;cases h1
theorem iK.found{V:Nat->cF}{gen:Nat}{u:cz}{g:Nat->ag}{P:Nat->an az}(h:iK w0 w df d n l S pages L aS bm c)(hd:cj w1 aw)(e:wV S.T.C.D aw)(i:ae (bF S.T.C.D) w w1)(G:gp V n gen u g P bo bl)(dC:∀j,g j=true->aw.a_.getD j []=V j)(H:ic (l.aj:Nat) (l.batch:Nat) (l.gk:Nat))(Q:gen<=S.gen+1)(hc:c<=3000)(r:bl.length<=c+1):
 aH ai 41 #[.pointer (some d),.agg l.c.toArray] w1 (λv ah=>∃cV:cu,v=.tuple #[.pointer (some cV.st),(0:Int)]/\iK w0 ah df d n l cV bo bl bo bl (c+1)/\cV.failed=false/\cV.T.C.D.quiet/\cV.u=u/\cV.gen=gen/\cV.pending=0/\cV.now=u.clock/\
  ∀ed m,df ed->lY (λq=>¬S.T.M q) w ed m->lY (λq=>¬cV.T.M q) ah ed m):=by
 have R:=h.aO;have U:=h.gen;have s:aw.n=n:=e.n.trans (h.at_.t.n.trans h.n);have W:=i.size;have k:∀q,bF aw q->S.T.M q:=λq a=>.inl (.inr (.inr (e.cN q a)));have o:∀q,df q->S.T.M q:=λq a=>.inr (.inr (.inr (.inl (h.AW a).1)));have p:∀q,df q->¬bF S.T.C.D q:=λq a hf=>h.at_.t.iC (h.AW a).1 (.inl (.inr (.inr hf)));have y:=Gs (l:=l) (df:=df) hd e.q (by rw[e.aO];omega) e.waits H (by rw[s];exact G) dC I I λq a=>⟨by have:=h.at_.t.lt (o q a);omega,λhf=>p q a (e.cN q hf)⟩;rw[e.d,h.d]at y;refine y.mono ?_;rintro v ah ⟨cV,rfl,J,b,hu,hg⟩;have z:Ext w0 w1:=Ext.dj h.x i λq a=>h.qv q (.inl (.inr (.inr a)));have K:Ext w0 ah:=Ext.dj z b.ad λq a=>h.qv q (k q a);have A:∀q,cV.T.M q->S.T.M q\/w1.heap.size<=q:=λq a=>by
  rcases b.M q a with h1|h1|h1
  .exact .inl (k q h1)
  .exact .inl (o q h1)
  .exact .inr h1
 refine⟨cV,rfl,⟨K,J,b.E,λhs=>?_,λq a=>?_,b.l,b.d.trans (e.d.trans h.d),b.n.trans s,?_,⟨r,r⟩,I,by rw[b.jX];omega⟩,b.live,b.q,hu,hg,b.jX,by rw[b.now,hu],λed m he N=>?_⟩
 .have:=h.at_.t.lt (o _ hs)
  have:=b.st;omega
 .rcases A q a with h1|h1
  .exact h.qv q h1
  .have:=z.size;omega
 .have:=b.aO
  have:=e.aO;omega
 .have B:cV.T.M ed:=.inr (.inr (.inr (.inl ((b.E ed).2 (.inr he)))))
  have h1:=N.ad i (p ed he) λq a _ hf=>a (.inl (.inr (.inr hf)));have O:=h1.aU (C:=λq=>¬S.T.M q/\¬cV.T.M q) (λq hl F=>⟨F,λa=>by
   rcases A q a with f|f
   .exact F f
   .omega⟩) λf=>f.2 B
  exact(O.ad b.ad (λhf=>p ed he (e.cN ed hf)) λq a _ hf=>a.1 (k q hf)).aU (λ_ _ h=>h.2) λh=>h B
end
section
variable {w0 w w' w1 ah:J}{df bT:Nat->Prop}{d n ed k c i:Nat}{l:fC}{S aM:cu}{pages ig aS qw bo:O Nat}{L ko bm oS bl:O aQ}{m:lX}{v:aa}{aw:aV}{ls:Y}
theorem wY{q b k:Nat}(h:aB ⟨some b,k,k⟩ q):q=b:=by
 obtain⟨A,ar,rfl⟩:=h
 cases ar;rfl
theorem ei.room(h:ei w S pages L aS bm):S.T.n<=b7 S.T+pages.length+aS.length+3:=by
 have h1:=Gr (t:=λi=>S.T.f i||S.T.g i) (l:=pages++aS++ [0,1,S.u.map]) S.T.n λi _ hi=>by
  simp only[hW]at hi;simp only[cG,cR,eR,eY];rcases hi with hi|hi
  .rcases(h.f i).1 hi with a|a|a
   .exact .inl (.inl a)
   .exact .inr I
   .exact .inr (.inr (.inr a))
  .rcases(h.fM.g i).1 hi with a|a|a
   .exact .inl (.inr a)
   .exact .inr I
   .exact .inr (.inr (.inr a))
 simp only[cE,fD,j4]at h1;unfold b7;omega
theorem iK.new{D:aV}(hx:Ext w0 w)(e:ei w' S [] [] [] [])(a:wX D l df 4 w w' S)(hu:S.u=ja)(hg:S.gen=1)(b:∀q,bF D q->w0.heap.size<=q)(c:∀q,df q->w0.heap.size<=q/\q<w.heap.size)(g:D.aO=0):iK w0 w' df D.d D.n l S [] [] [] [] 0:=
 ⟨Ext.dj hx a.ad b,e,a.E,λh=>by have:=(c _ h).2;have:=a.st;omega,λq f=>by
  rcases a.M q f with h1|h1|h1
  .exact b q h1
  .exact(c q h1).1
  .have:=hx.size;omega,a.l,a.d,a.n,by have:=a.aO;omega,⟨br _,br _⟩,I,by rw[a.jX];exact br _⟩
theorem Gu(w:J):aH ai 26 #[] w (λv w'=>v=true/\Ext w w'):=by
 refine af.CD w _ ?_;(delta af.pY de pC al uX U aA aT kN;dsimp only);refine(mx (n:=40) I I w).use ?_;rintro _ w1 ⟨d,lb,mr,rfl,hd,aa,ab⟩;refine⟨_,0,rfl,(kP (b:=9) (d:=9) I I w1).use ?_⟩;rintro _ aZ ⟨rfl,G⟩;have r:ic (((⟨8,1+9%12,1+9%12⟩:fC).aj:Nat):Int) (((⟨8,1+9%12,1+9%12⟩:fC).batch:Nat):Int) (((⟨8,1+9%12,1+9%12⟩:fC).gk:Nat):Int):=by unfold ic;decide
 generalize H:(⟨8,1+9%12,1+9%12⟩:fC)=K at r;have ac:K.batch=10:=by rw[←H]
 have ad:=hd.ext G;refine⟨_,_,_,rfl,(AU (l:=K) (df:=λ_=>False) ad r (λk=>⟨.inl rfl,.inl rfl⟩) rfl (by show 0<=999999000;omega) (λq h=>h.elim)).use ?_⟩;rintro _ s ⟨j,rfl,ag,f,hu,hg⟩;have u:=iK.new (w0:=w) (aa.trans G) ag f hu hg (λq a=>ab q a) (λq h=>h.elim) rfl;refine⟨_,0,rfl,λh=>(by cases h),λ_=>?_⟩;obtain⟨m,bR,b3,ah,a0⟩:=tz s [97];obtain⟨y,ak,am,L,a1⟩:=tz m [49];have g:=u.ext (ah.trans L);have an:∀q,aB ⟨some s.heap.size,1,1⟩ q->q<y.heap.size/\¬j.T.M q:=λq a=>by
  have e:=wY a;exact⟨I,λc=>by have:=u.at_.t.lt c;omega⟩
 have ao:∀q,aB ⟨some m.heap.size,1,1⟩ q->q<y.heap.size/\¬j.T.M q:=λq a=>by
  have e:=wY a;exact⟨I,λc=>by have:=u.at_.t.lt c;omega⟩
 have N:=f.q;refine aY ⟨⟨some s.heap.size,1,1⟩,m,bR,aY ⟨⟨some m.heap.size,1,1⟩,y,ak,(F3 (key:=[97]) (val:=[49]) g.at_ (by decide) (by rw[f.jX];decide) (by have:=g.aO;omega) (by rw[hg];decide) (b3.ext L) an am ao).use ?_⟩⟩;rintro v a2 (⟨_,ap,_⟩|⟨_,⟨hf,_⟩|⟨_,a3,A,a4,⟨_,O,_⟩|⟨_,pages,c⟩⟩⟩)
 .exact absurd ⟨⟨by decide,by decide⟩,by decide⟩ ap
 .rw[f.live]at hf;cases hf
 .exfalso
  have h1:=g.at_.room;rw[g.n]at h1;have e:(oG 40 d lb mr).n=40:=by show(List.replicate 40 fI).length=40;rw[lj]
  have aq:j.T.aD=0:=by
   rcases g.at_.ok with ⟨B,_⟩|B
   .exact B
   .have:=B.pages.2.1;simp at this
  unfold k5 at O;rw[e]at h1;rw[aq]at O;simp only[j4]at h1;omega
 have ar:j.pending=0:=f.jX;rcases c with ⟨rfl,_,E,au,av,a5,a6,_⟩|c
 rotate_left
 .have:=(c.AX N).2.1
  rw[f.l,ac,ar]at this;omega
 have ax:gb [] [97] [49]=[(([97],[49]):aQ)]:=by decide
 rw[ax]at E;have P:=g.step E A I ⟨by decide,by decide⟩ I I;have ay:=A.q N;have Q:=F0 E (by decide) (by have:=P.aO;omega) (by rw[av,hg];decide);rw[A.st]at Q;refine⟨0,rfl,Q.use ?_⟩;rintro v R (⟨hf,_⟩|⟨_,cV,az,a7,hx⟩)
 .rw[au]at hf;cases hf
 obtain⟨rfl,_,o,aE,a8,_,_,a9⟩:=hx.AX ay;have p:=P.step o az I ⟨by decide,by decide⟩ I I;have S:=Gf (l:=bu) (zs:=[]) o.t.ca.raw.dev (Gq R) (λq a=>(gi q a).elim) (by decide) (λz aF=>(by cases aF)) (by have:=p.aO;omega);rw[p.d]at S;refine⟨0,rfl,S.use ?_⟩;rintro _ aG ⟨rfl,aw,aI,V,aJ⟩;refine⟨rfl,(kP (b:=9) (d:=9) I I aG).use ?_⟩;rintro _ aK ⟨rfl,W⟩;rw[H];have aL:ae (bF cV.T.C.D) R aK:=aJ.trans (W.mono λ_ _ h=>h.elim);have X:=o.fM;rw[p.n]at X;refine⟨_,_,_,rfl,(p.found (aI.ext W) V aL X (o.a_ aE V) r I (by decide) (by decide)).use ?_⟩;rintro _ Y ⟨e1,rfl,Z,ba,aM,_⟩;obtain⟨aN,bG,bc,aP,bb⟩:=tz Y [97];have F:=Z.ext aP;refine⟨_,0,rfl,aY ⟨⟨some Y.heap.size,1,1⟩,aN,bG,(F1 (key:=[97]) F.at_ (by have:=F.aO;omega) bc λq a=>?_).use ?_⟩⟩
 .have e:=wY a
  exact⟨I,λc=>by have:=Z.at_.t.lt c;omega⟩
 rintro v aR ⟨aC,aS,aU,_,_,_,_,aV⟩;have aW:=F.step aS aU I ⟨by decide,by decide⟩ (by show e1.gen<=e1.gen+1;omega) (by show e1.pending<=e1.pending+1;omega);rcases aV with ⟨_,i⟩|⟨t,x,rfl,_,i,ht⟩|⟨_,_,i⟩
 .have aX:gC [(([97],[49]):aQ)] [97]=none:=i ⟨by decide,by decide⟩
  exact absurd aX (by decide)
 .have e:gC [(([97],[49]):aQ)] [97]=some [49]:=by decide
  rw[e]at i;obtain rfl:=Option.some.inj i;refine⟨t,true,0,rfl,cl (λb w'=>b=true/\aR=w') (λq a=>⟨λ_=>⟨_,_,vD ht.1,a _ _ ⟨?_,rfl⟩⟩,λh=>(by cases h)⟩) ?_⟩
  .exact beq_self_eq_true _
  .rintro _ _ ⟨rfl,rfl⟩
   exact⟨rfl,aW.x⟩
 .exact absurd (aM.1 30) i
end
section
variable {w w':J}{f b d:Int}
theorem mL(w:J)(f b d:Int):aH ai 59 #[.agg #[f,b,.int .u64 d]] w (λv w'=>v=.bool (decide (ic f b d))/\Ext w w'):=by
 refine okF (af.mL f b d) ay.mL func59 ?_;(delta af.mL r1 U al bt;dsimp only);refine bk (vs:=[f,b,.int .u64 d]) rfl λw1 c hx _=>⟨_,c.cell,ni (decide (f<=64)) (λ_ k a=>⟨_,c.cell,a _ (.refl _ _)⟩) λah g=>ni (decide (b>=1)) (λ_ k a=>⟨_,by rw[ax];exact(c.ext g).cell,a _ (.refl _ _)⟩) λr i=>ni (decide (b<=1000)) (λ_ k a=>⟨_,by rw[ax];exact((c.ext g).ext i).cell,a _ (.refl _ _)⟩) λs o=>ni (decide (d>=1)) (λ_ k a=>⟨_,by rw[ax];exact(((c.ext g).ext i).ext o).cell,a _ (.refl _ _)⟩) λt p=>ni (decide (d<=1048576)) (λ_ k a=>⟨_,by rw[ax];exact((((c.ext g).ext i).ext o).ext p).cell,a _ (.refl _ _)⟩) λu q=>⟨?_,((((hx.trans g).trans i).trans o).trans p).trans q⟩⟩;have e:∀bo bj j l m n:Prop,∀ [Decidable bo] [Decidable bj] [Decidable j] [Decidable l] [Decidable m] [Decidable n],(decide bo&&decide bj&&decide j&&decide l&&decide m&&decide n)=decide (bo/\bj/\j/\l/\m/\n):=λbo bj j l m n=>by
  intros
  rw[fm];simp only[dO,cO];exact⟨λh=>⟨h.1.1.1.1.1,h.1.1.1.1.2,h.1.1.1.2,h.1.1.2,h.1.2,h.2⟩,λh=>⟨⟨⟨⟨⟨h.1,h.2.1⟩,h.2.2.1⟩,h.2.2.2.1⟩,h.2.2.2.2.1⟩,h.2.2.2.2.2⟩⟩
 exact congrArg Value.bool (e _ _ _ _ _ _)
theorem AY{p:an ab}(h:p=none\/¬ic f b d):aH ai 19 #[.pointer p,.agg #[f,b,.int .u64 d]] w (λv w'=>v=.tuple #[.pointer none,(1:Int)]/\Ext w w'):=by
 refine okF (af.ke p f b d) ay.ke func19 ?_;(delta af.ke r1 U bt aG al aA de aW bW iR hG au ga;dsimp only);refine bk (vs:=[f,b,.int .u64 d]) rfl λw1 a hx _=>⟨_,a.cell,_,by rw[ax];exact a.cell,_,by rw[ax];exact a.cell,(lA w1 p f b d).use ?_⟩;rintro _ g ⟨rfl,e⟩;refine⟨_,rfl,λ_=>⟨rfl,hx.trans e⟩,λc=>?_⟩;exfalso;rcases h with rfl|h
 .simp at c
 .rw[gM h]at c;simp at c
def AZ:O c6:=[.int .i64,.int .i64,.int .i64,.int .u64,.int .u64,.int .i64]
theorem cz.fw(a:cz):fw AZ a.c:=⟨_,_,rfl,⟨_,rfl⟩,_,_,rfl,⟨_,rfl⟩,_,_,rfl,⟨_,rfl⟩,_,_,rfl,⟨_,rfl⟩,_,_,rfl,⟨_,rfl⟩,_,_,rfl,⟨_,rfl⟩,rfl⟩
theorem Gv(a:cz):l8 ai 104 a.c.toArray a.c.toArray true:=by
 have h:=l8.flat (P:=ai) (T:=104) (d:=(Tryz.prog.underlying 104).get (by kernel_rfl)) (ls:=AZ) (Option.some_get _).symm (by kernel_rfl) (by kernel_rfl) (by kernel_rfl) a.fw a.fw;have e:e7 a.c a.c=true:=(x4 a.fw a.fw).2 rfl;rwa[e]at h
theorem Gw{key:Y}{x:Key}(g:Src 1 w key (aF x))(hc:key.len<=key.cap):aH ai 11 #[.agg #[.int .i64 f,.int .i64 b,.int .u64 d],.slice key.a key.len key.cap] w (λv w'=>v=.bool true/\Ext w w'):=by
 refine okF (af.td f b d key) ay.td func11 ?_;(delta af.td aW kN uW bW al aA fo aG ym de r1 U bt pC;dsimp only);refine bk (vs:=[.int .i64 f,.int .i64 b,.int .u64 d]) rfl λw1 aU E _=>(Fp (g.ext E) hc 30 (by decide)).use ?_;rintro _ ah ⟨i,rfl,_,F,_⟩;have ak:=aU.ext F;refine⟨i,rfl,(show aH ai 55 #[.pointer none,.slice i.a i.len i.cap] ah (λv w'=>v=.tuple #[.slice none 0 0,.bool false,.int .i64 1]/\ah=w') from af.Cb none i ah _ ⟨λ_=>⟨rfl,rfl⟩,λh=>(by cases h)⟩).use ?_⟩;rintro _ _ ⟨rfl,rfl⟩;refine⟨bu,_,_,rfl,(show aH ai 22 #[.pointer none,.slice i.a i.len i.cap] ah (λv w'=>v=.tuple #[.bool false,.int .i64 1]/\ah=w') from af.B3 none i ah _ (cl (λb w'=>b=true/\ah=w') (λq o=>⟨λ_=>o _ _ ⟨rfl,rfl⟩,λh=>(by cases h)⟩) (by rintro _ _ ⟨rfl,rfl⟩;exact⟨λ_=>⟨rfl,rfl⟩,λh=>(by cases h)⟩))).use ?_⟩;rintro _ _ ⟨rfl,rfl⟩;refine⟨_,_,rfl,(show aH ai 42 #[.pointer none,.slice none 0 0,.slice none 0 0,.int .i64 5] ah (λv w'=>v=.tuple #[.slice none 0 0,.int .i64 1]/\ah=w') from af.B7 none bu bu 5 ah _ ⟨λ_=>⟨rfl,rfl⟩,λh=>(by cases h)⟩).use ?_⟩;rintro _ _ ⟨rfl,rfl⟩;refine⟨bu,_,rfl,k6 false (λ_ k g=>(show aH ai 23 #[.pointer none,.slice i.a i.len i.cap,.slice none 0 0] ah (λv w'=>v=.int .i64 1/\ah=w') from af.B4 none i bu ah _ (cl (λb w'=>b=true/\ah=w') (λq o=>⟨λ_=>o _ _ ⟨rfl,rfl⟩,λh=>(by cases h)⟩) (by rintro _ _ ⟨rfl,rfl⟩;exact⟨λ_=>⟨rfl,rfl⟩,λh=>(by cases h)⟩))).use λv w' h=>by obtain⟨rfl,rfl⟩:=h;exact⟨_,rfl,g _ (.refl _ _)⟩) λG H=>
  k6 false (λ_ k g=>(show aH ai 51 #[.pointer none,.int .u64 5] G (λv w'=>v=.int .i64 1/\G=w') from af.B_ none 5 G _ ⟨λ_=>⟨rfl,rfl⟩,λh=>(by cases h)⟩).use λv w' h=>by obtain⟨rfl,rfl⟩:=h;exact⟨_,rfl,g _ (.refl _ _)⟩) λK L=>
  k6 false (λ_ k g=>(show aH ai 34 #[.pointer none] K (λv w'=>v=.int .i64 1/\K=w') from af.B6 none K _ ⟨λ_=>⟨rfl,rfl⟩,λh=>(by cases h)⟩).use λv w' h=>by obtain⟨rfl,rfl⟩:=h;exact⟨_,rfl,g _ (.refl _ _)⟩) λM N=>
  k6 false (λ_ k g=>(show aH ai 25 #[.pointer none] M (λv w'=>v=.int .i64 1/\M=w') from af.B5 none M _ ⟨λ_=>⟨rfl,rfl⟩,λh=>(by cases h)⟩).use λv w' h=>by obtain⟨rfl,rfl⟩:=h;exact⟨_,rfl,g _ (.refl _ _)⟩) λr O=>⟨λh=>absurd h (by decide),λ_=>(show aH ai 53 #[.pointer none] r (λv w'=>v=.int .i64 0/\r=w') from af.Ca none r _ ⟨λ_=>⟨rfl,rfl⟩,λh=>(by cases h)⟩).use ?_⟩⟩
 rintro _ _ ⟨rfl,rfl⟩;refine⟨_,rfl,k6 false (λ_ k g=>(show aH ai 56 #[.pointer none] r (λv w'=>v=.int .i64 0/\r=w') from af.Cc none r _ ⟨λ_=>⟨rfl,rfl⟩,λh=>(by cases h)⟩).use λv w' h=>by obtain⟨rfl,rfl⟩:=h;exact⟨_,rfl,g _ (.refl _ _)⟩) λP Q=>
  k6 false (λ_ k g=>(show aH ai 57 #[.pointer none] P (λv w'=>v=.int .u64 0/\P=w') from af.Cd none P _ ⟨λ_=>⟨rfl,rfl⟩,λh=>(by cases h)⟩).use λv w' h=>by obtain⟨rfl,rfl⟩:=h;exact⟨_,rfl,g _ (.refl _ _)⟩) λR S=>
  k6 false (λ_ k g=>(show aH ai 58 #[.pointer none] R (λv w'=>v=.int .i64 0/\R=w') from af.Ce none R _ ⟨λ_=>⟨rfl,rfl⟩,λh=>(by cases h)⟩).use λv w' h=>by obtain⟨rfl,rfl⟩:=h;exact⟨_,rfl,g _ (.refl _ _)⟩) λz T=>
  k6 false (λ_ k g=>(show aH ai 48 #[.pointer none] z (λv w'=>v=.bool false/\z=w') from af.B9 none z _ (cl (λb w'=>b=false/\z=w') (λq o=>⟨λh=>(by cases h),λ_=>o _ _ ⟨rfl,rfl⟩⟩) (by rintro _ _ ⟨rfl,rfl⟩;exact⟨rfl,rfl⟩))).use λv w' h=>by obtain⟨rfl,rfl⟩:=h;exact⟨_,rfl,g _ (.refl _ _)⟩) λV W=>
  k6 false (λ_ k g=>(show aH ai 46 #[.pointer none] V (λv w'=>v=.agg fb.c.toArray/\Ext V w') from af.B8 none V _ (bk (vs:=fb.c) rfl λX aV t _=>⟨λ_=>ib aV rfl fb λaX s aY _=>fV s ⟨rfl,Ext.cv t aY (br _)⟩,λh=>(by cases h)⟩)).use λv w' h=>by obtain⟨rfl,hx⟩:=h;exact⟨_,_,_,_,_,_,rfl,true,Gv fb,g _ hx⟩) λX t=>⟨λh=>absurd h (by decide),λ_=>(mx (n:=40) I I X).use ?_⟩⟩
 rintro _ aX ⟨mQ,lb,mr,rfl,hd,am,aZ⟩;have ao:=((((((((H.trans L).trans N).trans O).trans Q).trans S).trans T).trans W).trans t).trans am;have s:=ak.ext ao;have a0:=(E.trans F).trans ao
 have fin:∀ (j:J) (p:an ab) (e:Int),Ext w j->Var j w.heap.size [.int .i64 f,.int .i64 b,.int .u64 d] 46->((!(Option.isNone p))=decide (ic f b d))->((e==0)=decide (ic f b d))->Calls ai 20 #[.int .u8 1,.int .u8 1] j λa1 a2=>
  ∃ap:Int,∃aq:Int,∃ar:Int,a1=.returned (.agg #[.int .i64 ap,.int .i64 aq,.int .u64 ar])/\
  Calls ai 19 #[.pointer none,.agg #[.int .i64 ap,.int .i64 aq,.int .u64 ar]] a2 λa3 A=>
  ∃Z:an ab,∃ac:Int,a3=.returned (.tuple #[.pointer Z,.int .i64 ac])/\
  ∃au:Int,A.cell? ⟨w.heap.size,0,none⟩=some (.int .i64 au)/\∃av:Int,A.cell? (Addr.add ⟨w.heap.size,0,none⟩ 1)=some (.int .i64 av)/\
  ∃aw:Int,A.cell? (Addr.add ⟨w.heap.size,0,none⟩ 2)=some (.int .u64 aw)/\
  Calls ai 59 #[.agg #[.int .i64 au,.int .i64 av,.int .u64 aw]] A λa4 u=>
  ∃ae:ag,a4=.returned (.bool ae)/\bq (
   λaz:ag->J->Prop=>(
    ((!(Option.isNone p))==ae)=true->∃aB:Int,u.cell? ⟨w.heap.size,0,none⟩=some (.int .i64 aB)/\
    ∃aC:Int,u.cell? (Addr.add ⟨w.heap.size,0,none⟩ 1)=some (.int .i64 aC)/\
    ∃aD:Int,u.cell? (Addr.add ⟨w.heap.size,0,none⟩ 2)=some (.int .u64 aD)/\
    Calls ai 59 #[.agg #[.int .i64 aB,.int .i64 aC,.int .u64 aD]] u λa5 a6=>
    ∃aE:ag,a5=.returned (.bool aE)/\az ((e==0)==aE) a6)
   /\(((!(Option.isNone p))==ae)=false->az false u))
  (λ(aI:ag) (aJ:J)=>bq (
    λaK:ag->J->Prop=>(
     ((aI&&(Option.isNone Z))&&((ac:Int)==1))=true->Calls ai 26 #[] aJ λa7 a9=>
     ∃aL:ag,a7=.returned (.bool aL)/\aK aL a9)
    /\(((aI&&(Option.isNone Z))&&((ac:Int)==1))=false->aK false aJ))
   (λ(a_:ag) (ba:J)=>(.bool a_:aa)=.bool true/\Ext w ba)):=by
  intro j p e bb bc bd he;refine(kP (b:=1) (d:=1) I I j).use ?_;rintro _ bp ⟨rfl,aM⟩;refine⟨_,_,_,rfl,(AY (.inl rfl)).use ?_⟩;rintro _ be ⟨rfl,aN⟩;have B:=bc.ext (aM.trans aN);refine⟨_,_,rfl,_,B.cell,_,by rw[ax];exact B.cell,_,by rw[ax];exact B.cell,(mL be f b d).use ?_⟩;rintro _ bf ⟨rfl,aO⟩;have aj:=B.ext aO;refine⟨_,rfl,ni true (λ_ k g=>⟨_,aj.cell,_,by rw[ax];exact aj.cell,_,by rw[ax];exact aj.cell,(mL bf f b d).use λv w' h=>by obtain⟨rfl,hx⟩:=h;exact⟨_,rfl,by rw[he,beq_self_eq_true];exact g _ hx⟩⟩) λbg bh=>ni true (λ_ k g=>(Gu bg).use λv w' h=>by obtain⟨rfl,hx⟩:=h;exact⟨_,rfl,g _ hx⟩) λbs bi=>⟨?_,((((bb.trans aM).trans aN).trans aO).trans bh).trans bi⟩⟩;rw[bd,beq_self_eq_true];rfl
 refine⟨_,_,rfl,_,s.cell,_,by rw[ax];exact s.cell,_,by rw[ax];exact s.cell,?_⟩;by_cases m:ic f b d
 .obtain⟨C,aP⟩:∃C:Nat,f=(C:Int):=⟨f.toNat,by have:=m.1;omega⟩
  obtain⟨D,aQ⟩:∃D:Nat,b=(D:Int):=⟨b.toNat,by have:=m.2.2.1;omega⟩;obtain⟨a8,aR⟩:∃a8:Nat,d=(a8:Int):=⟨d.toNat,by have:=m.2.2.2.2.1;omega⟩;have aS:=m;rw[aP,aQ,aR]at aS;have aT:=AU (l:=⟨C,D,a8⟩) (df:=λ_=>False) hd aS (λk=>⟨.inl rfl,.inl rfl⟩) rfl (by show 0<=999999000;omega) (λq h=>h.elim);have bj:(fC.c ⟨C,D,a8⟩).toArray= #[.int .i64 f,.int .i64 b,.int .u64 d]:=by rw[aP,aQ,aR];rfl
  rw[bj]at aT;refine aT.use ?_;rintro _ j ⟨bl,rfl,bv,bm,hu,hg⟩;refine⟨_,_,rfl,?_⟩;have y:Ext X j:=Ext.dj am bm.ad λq o=>aZ q o;have bn:=(E.trans F).trans ((((((((H.trans L).trans N).trans O).trans Q).trans S).trans T).trans W).trans t);have bo:=ak.ext ((((((((H.trans L).trans N).trans O).trans Q).trans S).trans T).trans W).trans t);exact fin j (some ⟨bl.st,0,none⟩) 0 (bn.trans y) (bo.ext y) (by rw[dv m];rfl) (by rw[dv m];rfl)
 .refine(AY (.inr m)).use ?_
  rintro _ j ⟨rfl,y⟩;exact⟨_,_,rfl,fin j none 1 (a0.trans y) (s.ext y) (by rw[gM m];rfl) (by rw[gM m];rfl)⟩
set_option maxRecDepth 100000 in
theorem Gx.of {v:aa} (h:lr ai w 46 v):∃f b d:Int,v=.agg #[f,b,.int .u64 d]:=by
 have hu:Tryz.prog.underlying 46=some (.struct (fieldsOf ai 46)):=by kernel_rfl
 unfold lr at h;rw[hu]at h;obtain⟨cs,rfl,fuel,h⟩:=h;have hlen:cs.toList.length=3:=by
  have:=(x3 h hu).1;rwa[show Tryz.prog.cellsOf 46=3 by kernel_rfl]at this
 obtain⟨_,f0⟩:=uU h hu 0 (t:=3) (o:=0) (n:=1) (by kernel_rfl) (by kernel_rfl);obtain⟨_,f1⟩:=uU h hu 1 (t:=3) (o:=1) (n:=1) (by kernel_rfl) (by kernel_rfl);obtain⟨_,f2⟩:=uU h hu 2 (t:=27) (o:=2) (n:=1) (by kernel_rfl) (by kernel_rfl);obtain⟨j,e,_⟩:=uK f0 (k:=.i64) (by kernel_rfl);obtain⟨bG,g,_⟩:=uK f1 (k:=.i64) (by kernel_rfl);obtain⟨bc,i,_⟩:=uK f2 (k:=.u64) (by kernel_rfl);refine⟨j,bG,bc,?_⟩;have l:cs=cs.toList.toArray:=rfl;rw[l]
 match cs.toList,hlen,e,g,i with
 | [a,b,c],_,e,g,i=>
  simp at e g i;rw[e,g,i]
end
end Go.Proofs.YtkdhdlfonmgheaaGreat
