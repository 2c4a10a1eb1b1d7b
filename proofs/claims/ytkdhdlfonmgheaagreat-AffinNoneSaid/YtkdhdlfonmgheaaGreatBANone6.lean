/- Contracts of the functions that the statement reaches, and the plain laws over them; each theorem stands with its conditions. -/
import Derived.Test.YtkdhdlfonmgheaaGreatBANone5
namespace Go.Proofs.YtkdhdlfonmgheaaGreat
open Go aQ Go.Proofs.Tryz
section
variable {w w' w1:J}{C:bN}{X:Nat->Prop}{T:aP}{S aF fz:cl}{pages aM:O Nat}{L bp:O aS}{f2:Nat->an}{aD:bN}{P':Nat->aq aB}
def cl.at(S:cl)(f2:Nat->an)(aD:bN)(P':Nat->aq aB):cl:={S with T:=(S.T.hJ f2).bL aD P'}
theorem fq.uA(h:fq w S aM bp)(ht:b6 w' ((S.T.hJ f2).bL aD P'))(a:Var w' S.st S.cells 158)(b:aD.D.d=S.T.C.D.d)(e:aD.c=S.T.C.c)(e5:∀j,S.T.g j=true->aD.D.bx.getD j []=S.V j)(f:∀x∈aM,S.T.P x=P' x)(i:∀j,S.T.g j=true->aD.D.bC j=true):
 fq w' (S.at f2 aD P') aM bp:=by
 refine⟨?_,ht,h.es,h.fB.agree e5 f,h.gen,h.num,i⟩;show Var w' S.st (gB _ aD.D.d aD.c _ _ _ _ _ _ _ _ _) _;rw[b,e];exact a
theorem dA.at{k:Nat}(hc:ae S.W w w')(b:aD.D.d=S.T.C.D.d)(c:aD.D.aR<=S.T.C.D.aR+k)(a:S.T.C.D.quiet->aD.D.quiet)(e:aD.D.r1=S.T.C.D.r1)(hf:∀q,cR aD q->cR S.T.C q\/w.heap.size<=q):dA k S (S.at f2 aD P') w w':=
 ⟨rfl,b,rfl,rfl,c,a,hc,λq a=>by
  rcases a with a|a
  .exact(hf q a).imp .inl id
  .exact .inl (.inr a),rfl,rfl,e⟩
theorem uB(p:fq w1 fz aM bp)(a:dA 100 S fz w w1)(s:fz.u=S.u)(t:fz.gen=S.gen)(x:fz.now=S.now)(m:¬S.T.C.D.quiet)(e5:∀j,S.T.g j=true->fz.V j=S.V j)(y:fz.T.C.D.aR<=900000000)
 (z:(∀j,S.T.g j=true->fz.T.C.D.dF j=[])\/∃ (e:en) (av:Nat->an) (f:Nat->aq aB) (b:c7),(∀j,fz.T.C.D.dF j=if j=(S.gen+1)%2 then [b] else [])/\je (λj=>if j=(S.gen+1)%2 then b else fz.V j) fz.T.n (S.gen+1) e av f pages L/\e.clock=S.now/\e.da=S.u.da+1):
 aH ai 81 #[.pointer (some S.st),(3:Int)] w1 (o_ S pages L aM bp w):=by
 have hf:=Bf p 3 y;rw[a.st]at hf;refine hf.mono ?_;rintro v w' ⟨rfl,aF,hs,hd,c⟩;have o:∀j,aF.V j=fz.V j:=λj=>by unfold cl.V;rw[c.V]
 refine⟨aF,⟨hd.st.trans a.st,hd.d.trans a.d,hd.n.trans a.n,hd.l.trans a.l,by rw[c.aR];exact a.aR,λh=>absurd h m,cV a.af hd.af λq A i=>a.back A i,λq i=>?_,hd.E.trans a.E,hd.G.trans a.G,hd.r.trans a.r⟩,c.now.trans x,.inr ⟨rfl,m,hs,c.failed,c.u.trans s,c.gen.trans t,λj k=>(o j).trans (e5 j k),?_⟩⟩
 .have:=a.af.size
  rcases hd.de q i with h1|h1
  .exact a.de q h1
  .exact .inr I
 .rcases z with h1|⟨e,av,f,b,h1,B,F,H⟩
  .exact .inl λj k=>(c.sa j).trans (h1 j k)
  .exact .inr ⟨e,av,f,b,λj=>(c.sa j).trans (h1 j),by rw[hd.n];exact B.agree (λj _=>by rw[o]) λ_ _=>rfl,F,H⟩
theorem Gr{V:Nat->c7}{no:Nat}{i:Nat->aq aB}(h:dP w S pages L aM bp)(k:f2=dc (dc S.T.f no true) S.u.map false)(M:(S.T.f no||S.T.g no)=false)(A:2<=no)(B:no<S.T.n)(N:L.length<4096)(l:∀x∈pages,i x=S.T.P x)
 (D:V ((S.gen+1)%2)=dX ((S.gen+1)%2) (h4 ⟨S.T.root,S.T.aI,no,S.now,S.u.da+1,L.length⟩ S.T.n (S.gen+1))) (e5:∀j,j≠(S.gen+1)%2->V j=if j=no then dX no ⟨4,S.gen+1,hL f2 ((S.T.n+7)/8)⟩ else if S.T.g j=true then S.V j else S.T.C.view j)
 (hg:∀j,S.T.g j=true->S.V j=S.T.C.view j):je V S.T.n (S.gen+1) ⟨S.T.root,S.T.aI,no,S.now,S.u.da+1,L.length⟩ f2 i pages L:=by
 have E:=h.t.s.bf;have F:=h.num;have m:=h.t.num;have o:=h.fB.uz;have O:=o.2.2.2.2.1;have p:S.T.f S.u.map=true:=(h.f _).2 (.inr (.inr rfl));have q:S.T.f no=false:=by cases Q:S.T.f no<;>simp_all
 have r:∀x∈pages,x≠no:=λx hx e=>by
  have:=(h.f x).2 (.inl hx);rw[e,q]at this;cases this
 have G:∀x∈pages,x<S.T.n:=λx hx=>Nat.lt_of_not_le λe=>by
  have:=h.t.s.pf x e;rw[(h.f x).2 (.inl hx)]at this;cases this
 have H:∀j,j≠(S.gen+1)%2->j≠no->V j=S.T.C.view j:=λj h1 J=>by
  rw[e5 j h1,if_neg J];by_cases e:S.T.g j=true
  .rw[if_pos e,hg j e]
  .rw[if_neg e]
 have v:l3 ⟨S.T.root,S.T.aI,no,S.now,S.u.da+1,L.length⟩ S.T.n:=by
  refine⟨?_,m.2.1,m.1,B,A,E⟩;rcases h.ok with ⟨a1,a2,_⟩|b
  .exact⟨λ_=>a1,λ_=>a2⟩
  .obtain⟨bP,R,_,a2,_,_⟩:=b.jC
   have:=(h.two S.T.root (by rw[a2];simp)).1;constructor
   .intro e;have e:S.T.root=0:=e;omega
   .intro e
    have e:S.T.aI=0:=e;rw[e]at b;exact b.elim
 have y:l2 ⟨S.T.root,S.T.aI,no,S.now,S.u.da+1,L.length⟩:=⟨by show S.T.root<_;omega,by show S.T.aI<_;omega,by show no<_;omega,F.1,by show S.u.da+1<_;omega,by show L.length<_;omega⟩;refine⟨⟨S.u.map,o.2.2.2.1,by rw[k];unfold dc;rw[if_pos rfl]⟩,?_,.inr ⟨S.u,S.gen,?_,I⟩,⟨S.gen+1,bm _,?_⟩,λj=>?_,h.bP,λx hx=>⟨(h.two x hx).1,r x hx,G x hx⟩,?_,λx hx bP z=>?_,rfl,h.kv,y,v,by show S.u.da+1+1<=S.gen+1;omega⟩
 .rw[D]
  exact z8 y v I I
 .have e:1-(S.gen+1)%2=S.gen%2:=by omega
  have K:S.T.g (S.gen%2)=true:=(h.fB.g _).2 (.inr (.inl I));rw[e,e5 _ I,if_neg I,if_pos K];exact h.fB.Be
 .show fe (no:Int) (V no)=_
  rw[e5 _ I,if_pos rfl];exact tN I ⟨(by decide:1<=4),(by decide:4<=4),by show S.gen+1<_;omega,by show(hL _ _).length<=232;rw[uy];omega⟩
 .rw[k]
  show dc (dc S.T.f no true) S.u.map false j=true↔j∈pages\/j<2\/j=no;unfold dc;by_cases c:j=S.u.map
  .rw[if_pos c]
   refine⟨λh=>(by cases h),λa=>?_⟩;rcases a with a|a|a
   .exact absurd c (h.two j a).2
   .omega
   .rw[←c,a,q]at p;cases p
  .rw[if_neg c]
   by_cases d:j=no
   .rw[if_pos d];exact⟨λ_=>.inr (.inr d),λ_=>rfl⟩
   .rw[if_neg d,h.f j]
    constructor
    .rintro(a|a|a)
     .exact .inl a
     .exact .inr (.inl a)
     .exact absurd a c
    .rintro(a|a|a)
     .exact .inl a
     .exact .inr (.inl a)
     .exact absurd a d
 .rcases h.ok with ⟨a1,a2,a3,a4⟩|b
  .exact .inl ⟨a1,a2,a3,a4⟩
  .exact .inr (b.agree λx hx=>(l x hx).symm).1
 .rw[l x hx]at z
  rw[H x (by have:=(h.two x hx).1;omega) (r x hx),←h.gen];exact(h.t.eF x bP z).2
end
section
variable {w w' w1:J}{C:bN}{X:Nat->Prop}{T:aP}{S aF fz:cl}{pages aM:O Nat}{L bp:O aS}{f2:Nat->an}{aD:bN}{P':Nat->aq aB}
theorem Gs{f:Nat->an}{n k:Nat}(h:k<n):l4 f n (k:Int)=dc f k false:=by
 unfold l4;rw[if_pos ⟨I,I⟩,dQ]
theorem Gt{bg d c sb gen now first pending keys st:Nat}{l:e7}{u:en}{failed:an}(b:Var w st (gB bg d c sb l u gen now first pending keys failed) 158)(a:en){K:J->Prop}(e:∀aj,Var aj st (gB bg d c sb l a gen now first pending keys failed) 158->ae (λq=>q=st) w aj->K aj):
 bj w ⟨st,7,none⟩ [a.root,a.aI,a.map,.int .u64 (a.clock:Nat),.int .u64 (a.da:Nat),a.keys]/\(6:Nat)=6/\
  al (setCells w ⟨st,7,none⟩ 0 [a.root,a.aI,a.map,.int .u64 (a.clock:Nat),.int .u64 (a.da:Nat),a.keys]) K:=
 ⟨bh.bV b _ _ (by simp[gB]) λv f=>en.plain a v f,rfl,aY (e _ (bh.lH (o:=7) b _) (ae.jX (.refl _ _) _ 0))⟩
theorem Gu(h:dP w S pages L aM bp)(al:S.failed=false)(dn:L.length<4096)(eV:S.T.C.D.aR<=800000000)(eW:S.gen<=1000000000):
 aH ai 94 #[.pointer (some S.st)] w (o_ S pages L aM bp w):=by
 refine okF (ag.sQ (some S.st)) az.sQ func94 ?_;(delta ag.sQ gk ao b9 aE b4 bG dS iV aa fV st;dsimp only);obtain⟨bt,bu,dp⟩:=h.live al;obtain⟨no,cg⟩:=AK dp;obtain⟨ch,dq,_⟩:=Ag cg;have eZ:=h.t.s.bf;have aU:=h.num;have dr:=h.gen;have ci:=h.fB.uz;have cj:S.T.f no=false:=by cases ds:S.T.f no<;>simp_all
 have am:S.T.g no=false:=by cases ds:S.T.g no<;>simp_all
 have cm:2<=no:=Nat.le_of_not_lt λe=>by
  have:=(h.fB.g no).2 (.inr (.inl e));rw[am]at this;cases this
 have e0:S.T.M S.st:=.inr (.inr (.inr (.inl h.es)));refine⟨_,rfl,_,by rw[ay];exact h.v.cell,(Ai h.t.s).use ?_⟩;rintro _ co ⟨rfl,cp,aV⟩;rw[cg]at cp⊢;refine⟨(no:Nat),0,rfl,λhx=>(by cases hx),λ_=>aY ?_⟩;have dt:=(h.t.uh (f:=dc S.T.f no true) cp aV).1;have du:=h.v.af aV (h.t.dG _ h.es).2.1;have aZ:Ext co co.drew:=cL _;have bv:=du.ext aZ;have cs:=dt.ext aZ;refine⟨_,rfl,id,_,by rw[ay];exact bv.cell,_,rfl,id,_,by rw[ay,ay];exact bv.cell,(Aj cs.s (S.u.map:Nat)).use ?_⟩;rintro _ a0 ⟨rfl,ct,a1⟩;rw[Gs (by exact ci.2.2.2.1)]at ct;obtain⟨f2,bw⟩:∃f2,f2=dc (dc S.T.f no true) S.u.map false:=⟨_,rfl⟩;have cu:eJ a0 S.T.sb S.T.n f2 S.T.g S.T.s1 S.T.s2:=by rw[bw];exact ct
 have bz:b6 a0 (S.T.hJ f2):=(cs.uh (f:=f2) cu a1).1;have cv:=bv.af a1 (h.t.dG _ h.es).2.1;refine⟨_,rfl,aY ?_⟩;have a2:Ext a0 a0.drew:=cL _;have cw:=cv.ext a2;have dv:=bz.ext a2;have bA:IntKind.wrap .u64 ((S.gen:Int)+1)=((S.gen+1:Nat):Int):=by rw[fU I I];omega
 refine⟨λ_=>False,_,rfl,id,_,by rw[ay];exact cw.cell,_,rfl,id,_,by rw[ay];exact cw.cell,(Ao dv.s).use ?_⟩;rintro _ dw ⟨a3,rfl,dx,bB,e1⟩;have dy:aW 1 5 dw a3 (aA (hL f2 ((S.T.n+7)/8))):=by rw[Ba];exact dx
 have cx:lX ⟨4,S.gen+1,hL f2 ((S.T.n+7)/8)⟩:=⟨(by decide:1<=4),(by decide:4<=4),by show S.gen+1<_;omega,by show(hL _ _).length<=232;rw[uy];omega⟩;rw[bA];refine⟨a3,rfl,bB,#[(4:Int),.int .u64 ((S.gen+1:Nat):Int),a3],λe2=>by kernel_rfl,(tR (s:=a3) (p:=⟨4,S.gen+1,hL f2 ((S.T.n+7)/8)⟩) (no:=no) dy.src I cx).use ?_⟩;rintro _ cz ⟨dz,rfl,cA,cB,dB⟩;have bD:=a2.trans (Ext.trans bB cB);have a4:=bz.ext bD;have cC:=cv.ext bD;have e3:=aV.size;have e4:=a1.size;have e6:=aZ.size;have e7:=a2.size;have e8:=bB.size;have a5:ae S.W w cz:=cV (cV (cV (cV (ae.refl _ _) aV λq _ a=>h.kF (.inr (.inr (.inl a)))) aZ λq _ a=>a.elim) a1 λq _ a=>h.kF (.inr (.inr (.inl a)))) bD λq _ a=>a.elim;have dD:(dX no ⟨4,S.gen+1,hL f2 ((S.T.n+7)/8)⟩).length=256:=qF _ cx;refine⟨dz,0,rfl,cB,λhx=>(by cases hx),λ_=>⟨_,rfl,_,by rw[ay];exact cC.cell,(Az a4.ca (by show S.T.C.D.aR<=_;omega) (no:=no) (by rw[a4.n];exact ch) cm (λhs=>?_) cA.src dD λq a=>⟨aW.lt cA q a,λhf=>?_⟩).use ?_⟩⟩
 .rcases a4.bC no hs with h1|h1
  .rw[show(S.T.hJ f2).g no=S.T.g no from rfl,am]at h1;cases h1
  .exact bt h1
 .have h1:=dB q a
  have a8:=bz.lt (q:=q) (.inl hf);omega
 rintro _ a9 ⟨G,cD,cE,ba⟩;have y:dO S.T.C G cz a9 1:=cE;have cF:∀j,j≠no->G.view j=S.T.C.view j:=λj b=>by
  rcases ba with ⟨_,bE⟩|⟨_,_,bE⟩
  .rw[bE,if_neg b];rfl
  .rw[bE];rfl
 obtain⟨F,bF⟩:∃F:Nat->aq aB,F=λj=>if j=no then none else S.T.P j:=⟨_,rfl⟩
 have ax:∀j,j≠no->F j=S.T.P j:=λj b=>by rw[bF];exact if_neg b
 obtain⟨aC,_⟩:=a4.o7 (P:=F) cD cE λj bP ah=>by
  have b:j≠no:=λe=>by rw[bF]at ah;simp[e]at ah
  rw[cF j b];exact h.t.eF j bP (by rw[←ax j b];exact ah)
 have dE:¬cR S.T.C S.st:=(h.t.ca.inv.eK _ (.inr (.inr (.inl h.es)))).2;have bH:=cC.af y.af dE;have bI:ae S.W w a9:=cV a5 y.af λq _ a=>h.kF (.inl a);have bb:∀x∈aM,S.T.P x=F x:=λx hx=>(ax x λe=>by
  have:=(h.fB.g x).2 (.inl hx);rw[e,am]at this;cases this).symm
 have bJ:G.D.bx=S.T.C.D.bx:=congrArg (λp=>p.1.1) y.bx;have bK:G.D.b7.getD 3 0=S.T.C.D.b7.getD 3 0:=congrArg Prod.snd y.bx;have dH:fq a9 (S.at f2 G F) aM bp:=h.tofq.uA aC bH y.d y.c (λj b=>by rw[bJ];rfl) bb λj b=>by rw[y.bC];exact h.bC j b
 have dI:dA 100 S (S.at f2 G F) w a9:=dA.at bI y.d (by have:=y.aR;omega) (λa=>⟨λk=>y.calm k (a.1 _),bK.trans a.2⟩) (congrArg (λp=>p.1.2.2.2.2) y.bx) λq a=>(y.de q a).imp id λe=>by have:=a5.size;omega
 have dJ:∀j,S.T.g j=true->G.D.dF j=[]:=λj b=>by
  rw[cD.inv.kz j (by rw[y.bC];exact h.bC j b),y.l7.2,bu]
 rcases ba with ⟨rfl,ba⟩|⟨rfl,dK,_⟩
 rotate_left
 .exact⟨3,rfl,λ_=>(uB dH dI rfl rfl rfl (λa=>dK (a.1 1)) (λj b=>by unfold cl.V;show G.D.bx.getD j []=_;rw[bJ]) (by show G.D.aR<=_;have:=y.aR;omega) (.inl dJ)).use λv w' bO=>by
   obtain⟨aF,r1,aE,b4⟩:=bO;rcases b4 with ⟨rfl,aX⟩|⟨rfl,aX⟩
   .exact⟨0,rfl,aF,r1,aE,.inl ⟨rfl,aX⟩⟩
   .exact⟨3,rfl,aF,r1,aE,.inr ⟨rfl,aX⟩⟩,λhx=>(by cases hx)⟩
 refine⟨0,rfl,λhx=>(by cases hx),λ_=>⟨_,rfl,_,by rw[ay];exact bH.cell,?_⟩⟩;have cG:=Gd aC.ca (by show G.D.aR<=_;have:=y.aR;omega) λj b=>by show G.D.dY j=_;rw[y.l7.2,bu]
 rw[show((S.T.hJ f2).bL G F).C.c=S.T.C.c from y.c]at cG;refine cG.use ?_;rintro _ an ⟨o,R⟩;have dL:¬cR G S.st:=(aC.ca.inv.eK _ (.inr (.inr (.inl h.es)))).2;have bc:=bH.af R.af dL;have ab:o.D.d=S.T.C.D.d:=R.d.trans y.d;have bd:o.c=S.T.C.c:=R.c.trans y.c;have be:o.D.r1=S.T.C.D.r1:=R.r.trans (congrArg (λp=>p.1.2.2.2.2) y.bx);have aD:∀q,cR o q->cR S.T.C q\/w.heap.size<=q:=λq a=>by
  have:=bI.size;have:=a5.size;rcases R.de q a with h1|h1
  .exact(y.de q h1).imp id λe=>by omega
  .exact .inr I
 have bQ:ae S.W w an:=cV bI R.af λq al a=>by
  have:=a5.size;exact h.kF (.inl ((y.de q a).resolve_right I))
 have cH:∀ (bR:bN),(∀j,2<=j->bR.view j=G.view j)->∀j bP,F j=some bP->j<S.T.n/\gr S.T.gen bP.leaf j (bR.view j) bP:=λbR dM j bP ah=>by
  have b:j≠no:=λe=>by rw[bF]at ah;simp[e]at ah
  have h1:=h.t.eF j bP (by rw[←ax j b];exact ah);rw[dM j h1.2.two,cF j b];exact h1
 have bh:b6 an ((S.T.hJ f2).bL o F):=aC.Bg R.at_ R.af R.c R.n (cH o λj _=>R.view j) λj b=>by
  rw[R.bC.1]at b;rcases aC.bC j b with h1|h1
  .exact .inl h1
  .exact .inr λi=>by rw[R.bC.1];exact h1 i
 have ap:o.D.bC=S.T.C.D.bC:=R.bC.1.trans y.bC;have dQ:o.D.dY=λ_=> []:=R.bC.2.trans (y.l7.2.trans bu);have e9:o.D.aR<=S.T.C.D.aR+70:=by have h1:o.D.aR<=G.D.aR+64:=R.aR;have:=y.aR;omega
 have fin:∀ (w1:J) (Z:Y->J->Prop),aH ai 81 #[.pointer (some S.st),(3:Int)] w1 (o_ S pages L aM bp w)->(∀v w',o_ S pages L aM bp w v w'->Z v w')->Calls ai 81 #[.pointer (some S.st),(3:Int)] w1 (λe aj=>∃n:Int,e=.returned n/\Z n aj):=λw1 Z bO cI=>bO.use λv w' hc=>by
  have dR:=hc;obtain⟨aF,r1,aE,b4⟩:=dR;rcases b4 with ⟨rfl,aX⟩|⟨rfl,aX⟩
  .exact⟨0,rfl,cI _ _ hc⟩
  .exact⟨3,rfl,cI _ _ hc⟩
 rcases R.gY with ⟨rfl,dT,cJ,dU⟩|⟨rfl,dV,dW⟩
 rotate_left
 .have cK:o.D.bx=S.T.C.D.bx:=dV.trans bJ
  have dZ:fq an (S.at f2 o F) aM bp:=h.tofq.uA bh bc ab bd (λj b=>by rw[cK];rfl) bb λj b=>by rw[ap];exact h.bC j b
  have ac:¬S.T.C.D.quiet:=λa=>by
   rcases dW with h1|h1
   .exact h1 (y.calm 64 (a.1 _))
   .unfold a6.fA at h1
    rw[show((S.T.hJ f2).bL G F).C.D.b7.getD 3 0=S.T.C.D.b7.getD 3 0 from bK,a.2]at h1
    cases h1
  have d0:dA 100 S (S.at f2 o F) w an:=dA.at bQ ab I (λa=>absurd a ac) be aD;exact⟨3,rfl,λ_=>fin _ _ (uB dZ d0 rfl rfl rfl ac (λj b=>by unfold cl.V;show o.D.bx.getD j []=_;rw[cK]) (by show o.D.aR<=_;omega) (.inl λj b=>by
   show o.D.dF j=[];rw[R.at_.inv.kz j (by rw[ap];exact h.bC j b),dQ])) λ_ _ h=>h,λhx=>(by cases hx)⟩
 have aG:∀j,o.D.dF j=[]:=λj=>by unfold a6.dF;rw[dT];rfl
 have bi:∀j,o.D.bx.getD j []=if j=no then dX no ⟨4,S.gen+1,hL f2 ((S.T.n+7)/8)⟩ else S.T.C.view j:=λj=>by
  have h1:=Gb R.at_ cJ j;rw[wE _ (λx hx=>(R.at_.raw.dev.wn x hx).1),if_pos (aG j)]at h1;rw[←h1,R.view];exact ba j
 have aJ:∀j,S.T.g j=true->S.V j=S.T.C.view j:=λj b=>(h.view al b).symm;refine⟨0,rfl,λhx=>(by cases hx),λ_=>⟨_,rfl,_,bc.cell,?_⟩⟩;have cM:=A4 bh;rw[show((S.T.hJ f2).bL o F).bg=S.T.bg from rfl]at cM;refine cM.use ?_;rintro _ bS ⟨rfl,bT⟩;have bU:Ext bS bS.drew:=cL _;have bV:=(bc.ext bT).ext bU;have d1:IntKind.wrap .u64 ((S.u.da:Int)+1)=((S.u.da+1:Nat):Int):=by rw[fU I I];omega
 refine⟨_,_,rfl,aY ⟨λ_=>False,_,rfl,id,_,by rw[ay];exact bV.cell,_,rfl,id,_,by rw[ay,ay];exact bV.cell,_,rfl,id,_,by rw[ay];exact bV.cell,?_⟩⟩;rw[d1];obtain⟨H,ad⟩:∃H:en,H=⟨S.T.root,S.T.aI,no,S.now,S.u.da+1,S.keys⟩:=⟨_,rfl⟩;refine⟨H.c.toArray,λe_=>by rw[ad];kernel_rfl,a_ (vs:=z6.c) rfl λfa cN cO fb=>⟨cO,?_⟩⟩;obtain⟨aK,d2⟩:∃aK,aK=bS.drew.heap.size:=⟨_,rfl⟩;rw[←d2]at cN⊢;refine z_ cN rfl H λaL d3 d4 fc=>aY ?_;have fd:=bT.size;have fe:=bU.size;have d5:Ext an aL:=Ext.cy (Ext.trans bT (bU.trans cO)) d4 I;have cP:Ext aL aL.drew:=cL _;have aN:Ext an aL.drew:=Ext.trans d5 cP;have bW:=d3.ext cP;have bj:=bc.ext aN;have bX:=bh.ext aN;generalize ff:aL.drew=bk at bW bj bX aN⊢;refine⟨_,rfl,id,_,by rw[ay];exact bj.cell,id,o5 bW ⟨_,rfl,id,_,by rw[ay];exact bj.cell,?_⟩⟩;rw[bA];have d6:l2 H:=by
  have h1:=h.t.num;have a8:=h.keys;rw[ad];exact⟨by show S.T.root<_;omega,by show S.T.aI<_;omega,by show no<_;omega,aU.1,by show S.u.da+1<_;omega,by show S.keys<_;omega⟩
 have bY:o.D.n=S.T.n:=R.n.trans (y.n.trans h.t.n);have U:dC S.T.X bk o:=bX.ca;have cQ:=lO U.raw.dev I d6 (gen:=S.gen+1) I;rw[ab]at cQ;refine cQ.use ?_;rintro v aO ⟨ar,bZ⟩;have fg:=aN.size;have d7:∀q,cR o q->q<aK:=λq a=>by have:=R.at_.raw.lt a;omega
 have d8:=bW.af ar λhf=>by have:=d7 aK (.inr (.inr hf));omega
 have d9:¬cR o S.st:=(bh.ca.inv.eK _ (.inr (.inr (.inl h.es)))).2;have bl:=bj.af ar λhf=>d9 (.inr (.inr hf));have d_:ae S.W w bk:=cV bQ aN λq _ a=>a.elim;have fh:=bQ.size;have b0:ae S.W w aO:=cV d_ ar λq al a=>h.kF<| .inl ((aD q (.inr (.inr a))).resolve_right I)
 have main:∀ (A:a6),c4 aO A->A.d=o.D.d->jH A o.D->(∀i,2<=i->A.now i=o.D.now i)->(∀q,cd A q->cd o.D q\/bk.heap.size<=q)->(∀j,A.bC j=true->S.T.g j=true)->
  b6 aO ((S.T.hJ f2).bL {o with D:=A} F)/\∀q,cR {o with D:=A} q->cR S.T.C q\/w.heap.size<=q:=λA ak ea cT eb cU b1=>by
  obtain⟨g1,ec⟩:=Gn U ak ea cT eb ar cU;refine⟨bX.Bg g1 (ar.mono λq _ a=>.inr (.inr a)) rfl cT.1 (cH _ λj b=>(ec j b).trans (R.view j)) λj b=>.inl (b1 j b),λq a=>?_⟩;rcases a with a|a|a
  .exact aD q (.inl a)
  .exact aD q (.inr (.inl a))
  .rcases cU q a with h1|h1
   .exact aD q (.inr (.inr h1))
   .exact .inr I
 have fi:¬o.D.ro:=λe=>bt λi=>by rw[←ap];exact e i
 have ed:∀j,o.D.bC j=true->S.T.g j=true:=λj b=>by
  rw[ap]at b;exact(h.t.bC j b).resolve_right bt
 have cW:S.T.C.D.quiet->∀k,o.D.calm k:=λa k=>R.calm k (y.calm _ (a.1 _));rcases bZ with ⟨b2,rfl,ak⟩|⟨b2,s,ee,a7,Q,bZ⟩
 .obtain⟨au,aQ⟩:=main (o.D.cn 2) ak rfl (U.inv.cn 2) (λi _=>qV o.D 2 i) (λq a=>.inl a) λj b=>ed j b
  have b3:fq aO (S.at f2 {o with D:=o.D.cn 2} F) aM bp:=h.tofq.uA au bl ab bd (λj b=>by
   show o.D.bx.getD j []=_;rw[bi j,if_neg (λe=>by rw[e,am]at b;cases b),aJ j b]) bb λj b=>by show o.D.bC j=true;rw[ap];exact h.bC j b
  have ac:¬S.T.C.D.quiet:=λa=>by
   have:=(iG (k:=2) (m:=0) (.inr rfl) U.raw.dev.f4 (cW a 1)).2;rw[this]at b2;cases b2
  exact⟨3,rfl,λ_=>fin _ _ (uB b3 (dA.at b0 ab (by show o.D.aR<=_;omega) (λa=>absurd a ac) be aQ) rfl rfl rfl ac (λj b=>by
   show o.D.bx.getD j []=_;rw[bi j,if_neg (λe=>by rw[e,am]at b;cases b),aJ j b]) (by show o.D.aR<=_;omega) (.inl λj _=>aG j)) λ_ _ h=>h,λhx=>(by cases hx)⟩
 have cX:∀j,a7.dF j=if j=(S.gen+1)%2 then [dX ((S.gen+1)%2) (h4 H o.D.n (S.gen+1))] else []:=λj=>by
  rw[Q,z1,aG,aG];rfl
 have cY:H=⟨S.T.root,S.T.aI,no,S.now,S.u.da+1,L.length⟩:=by rw[ad,h.keys]
 have c0:∀V:Nat->c7,(∀j,V j=if j=(S.gen+1)%2 then dX ((S.gen+1)%2) (h4 H o.D.n (S.gen+1)) else o.D.bx.getD j [])->je V S.T.n (S.gen+1) H f2 F pages L:=λV e5=>by
  rw[cY];refine Gr h bw dq cm ch dn (λx hx=>ax x λe=>by
   have:=(h.f x).2 (.inl hx);rw[e,cj]at this;cases this) (by rw[e5,if_pos rfl,cY,bY]) (λj b=>?_) aJ
  rw[e5,if_neg b,bi];by_cases e:j=no
  .rw[if_pos e,if_pos e]
  .rw[if_neg e,if_neg e]
   by_cases b5:S.T.g j=true
   .rw[if_pos b5,aJ j b5]
   .rw[if_neg b5]
 have bn:∀q,cd a7 q->cd o.D q\/bk.heap.size<=q:=by rw[Q];exact ux ee
 have ef:∀i,2<=i->a7.now i=o.D.now i:=λi hi=>by rw[Q,nk,if_neg I]
 have b8:a7.n=o.D.n:=by rw[Q];rfl
 have b_:a7.d=o.D.d:=by rw[Q];rfl
 have eg:a7.bx=o.D.bx:=by rw[Q];rfl
 have eh:a7.aR=o.D.aR+1:=by rw[Q];rfl
 have c1:S.T.C.D.quiet->a7.b7.getD 3 0= -1:=λa=>by
  rw[Q];show(o.D.b7.set 2 _).getD 3 0=_;have bo:=U.raw.dev.f4;rw[eX (by rw[dg];omega),eY (by decide),←eX (d:=0),dU];rw[show((S.T.hJ f2).bL G F).C.D.b7.getD 3 0=S.T.C.D.b7.getD 3 0 from bK,a.2];rfl
 rcases bZ with ⟨bq,rfl,ak⟩|⟨bq,rfl,ak⟩
 .obtain⟨A,N⟩:∃A,A=(a7.cn 3).ga S.T.g λj=>if j=(S.gen+1)%2 then [dX ((S.gen+1)%2) (h4 H o.D.n (S.gen+1))] else []:=⟨_,rfl⟩
  obtain⟨au,aQ⟩:=main A (by rw[N];exact ak.ga _ _) (by rw[N];exact b_) ⟨by rw[N];exact b8,λj b=>by rw[ap];exact h.bC j (by rw[N]at b;exact b),λj _=>by rw[N];exact cX j⟩ (λi hi=>by rw[N];exact ef i hi) (λq a=>by rw[N]at a;exact bn q a) λj b=>by rw[N]at b;exact b
  have c2:A.bx=o.D.bx:=by rw[N];exact eg
  have fj:A.aR=o.D.aR+1:=by rw[N];exact eh
  have c3:A.d=S.T.C.D.d:=by rw[N];exact b_.trans ab
  have ei:A.r1=S.T.C.D.r1:=by rw[N];exact(show a7.r1=o.D.r1 by rw[Q];rfl).trans be
  have b1:∀j,A.dF j=if j=(S.gen+1)%2 then [dX ((S.gen+1)%2) (h4 H o.D.n (S.gen+1))] else []:=λj=>by rw[N];exact cX j
  have c5:∀j,S.T.g j=true->A.bx.getD j []=S.V j:=λj b=>by rw[c2,bi j,if_neg (λe=>by rw[e,am]at b;cases b),aJ j b]
  have b3:fq aO (S.at f2 {o with D:=A} F) aM bp:=h.tofq.uA au bl c3 bd c5 bb λj b=>by rw[N];exact b
  have ac:¬S.T.C.D.quiet:=λa=>by
   unfold a6.fA at bq;rw[c1 a]at bq;cases bq
  exact⟨3,rfl,λ_=>fin _ _ (uB b3 (dA.at b0 c3 (by show A.aR<=_;omega) (λa=>absurd a ac) ei aQ) rfl rfl rfl ac c5 (by show A.aR<=_;omega) (.inr ⟨H,f2,F,_,b1,c0 _ λj=>by show(if _ then _ else A.bx.getD j [])=_;rw[c2],by rw[ad],by rw[ad]⟩)) λ_ _ h=>h,λhx=>(by cases hx)⟩
 have ej:∀j,S.T.n<=j->o.D.bx.getD j []=[]:=λj b=>by
  rw[fK,mi (by have:o.D.bx.length=S.T.n:=bY;omega)];rfl
 have c6:∀j,o.D.now j=o.D.bx.getD j []:=λj=>by rw[wE _ (λx hx=>(U.raw.dev.wn x hx).1),if_pos (aG j)]
 have fk:a7.n=S.T.n:=b8.trans bY;have ek:∀j,(a7.cn 3).h5.bx.getD j []=if j=(S.gen+1)%2 then dX ((S.gen+1)%2) (h4 H o.D.n (S.gen+1)) else o.D.bx.getD j []:=λj=>by
  show((List.range a7.n).map a7.now).getD j []=_;have fl:16<=a7.n:=by have:16<=o.D.n:=U.raw.dev.bM;omega
  by_cases b:j<a7.n
  .rw[eX (by simp;exact b),List.getElem_map,List.getElem_range,Q,nk,c6]
  .rw[fK,mi (by simp;omega),if_neg I,ej j I];rfl
 obtain⟨K,O⟩:∃K,K=(a7.cn 3).h5.ga (λ_=>false) λ_=> []:=⟨_,rfl⟩;have el:∀j,K.dF j=[]:=λj=>by rw[O];rfl
 have c8:∀j,K.bx.getD j []=if j=(S.gen+1)%2 then dX ((S.gen+1)%2) (h4 H o.D.n (S.gen+1)) else o.D.bx.getD j []:=λj=>by rw[O];exact ek j
 have em:K.n=o.D.n:=by rw[O];exact(q0 (a7.cn 3)).trans b8
 have cb:K.d=S.T.C.D.d:=by rw[O];exact b_.trans ab
 obtain⟨au,aQ⟩:=main K (by rw[O];exact ak.ga _ _) (cb.trans ab.symm) ⟨em,λj b=>(by rw[O]at b;cases b),λj b=>(by rw[O]at b;cases b)⟩ (λi hi=>by
  have h1:K.now i=K.bx.getD i []:=by rw[O];rfl
  rw[h1,c8,if_neg I,c6]) (λq a=>by
   rw[O]at a;rcases a with e|e|e|⟨x,hx,e⟩
   .exact bn q (.inl e)
   .exact bn q (.inr (.inl e))
   .exact bn q (.inr (.inr (.inl e)))
   .cases hx) λj b=>(by rw[O]at b;cases b)
 refine⟨0,rfl,λhx=>(by cases hx),λ_=>⟨_,rfl,_,by rw[ay];exact bl.cell,(E6 au.s).use ?_⟩⟩;rintro _ aS ⟨rfl,s2,eo,aT,c9⟩;have aw:=c0 (λj=>K.bx.getD j []) c8;have ep:f2 0=true/\f2 1=true:=⟨(aw.g 0).2 (.inr (.inl (by decide))),(aw.g 1).2 (.inr (.inl (by decide)))⟩;obtain⟨eq,fm⟩:=au.space eo aT c9 (λj b=>by
  have b:K.bC j=true:=b;rw[O]at b;cases b) ep
 have fn:=aT.size;have er:=bl.af aT (h.t.dG _ h.es).2.1;have et:=d8.af aT λhf=>by
  have h1:=h.t.lt (q:=aK) (.inr (.inr (.inl hf)));omega
 have ev:=eq.ga (s:=f2) (z:=λ_=> []) (λf hf j ex _ _=>by
  have h1:=cJ f hf;unfold Fr.gi at h1;rw[ex]at h1;simpa using h1) (λj _=>el j) λj b=>.inl b
 obtain⟨fG,B⟩:∃fG:aP,fG=(((S.T.hJ f2).bL {o with D:=K} F).uw f2 f2 S.T.s1 s2).bL {o with D:=K.ga f2 λ_=> []} F:=⟨_,rfl⟩;have ez:b6 aS fG:=by rw[B];exact ev
 have br:Ext aS aS.drew:=cL _;have c_:Var aS.drew S.st (gB S.T.bg S.T.C.D.d S.T.C.c S.T.sb S.l S.u S.gen S.now S.first S.pending S.keys S.failed) 158:=er.ext br;have eA:=et.ext br;have eB:=ez.ext br;have bs:fG.E=S.T.E:=by rw[B];rfl
 refine⟨rfl,aY ⟨λ_=>False,id,o5 eA ⟨_,rfl,id,_,by rw[ay];exact c_.cell,_,rfl,?_⟩⟩⟩;rw[ay,cS,bA];refine Gt c_ H λdb dd df=>?_;have eC:=eB.jL (by rw[bs];exact h.es) df;obtain⟨cr,cq⟩:=ew dd (i:=13) (by simp[gB]);have dh:=eu dd (i:=13) (.int .u64 ((S.gen+1:Nat):Int));have eD:=dN db S.st 13 (.int .u64 ((S.gen+1:Nat):Int));refine⟨_,rfl,by rw[ay];exact cr,by rw[ay];exact cq,aY ?_⟩;rw[ay,cS];obtain⟨eE,eG⟩:=ew dh (i:=16) (by simp[gB]);have di:=eu dh (i:=16) (0:Int);have cc:=eD.trans (dN _ S.st 16 (0:Int));refine⟨_,rfl,by rw[ay];exact eE,by rw[ay];exact eG,aY ?_⟩;rw[ay,cS];generalize (db.setCell ⟨S.st,13,none⟩ (.int .u64 ((S.gen+1:Nat):Int))).setCell ⟨S.st,16,none⟩ (0:Int)=dj at di cc⊢;have eH:=eC.jL (by rw[bs];exact h.es) cc;have ce:Ext dj dj.drew:=cL _;have cf:=di.ext ce;have eI:=eH.ext ce;refine aY ⟨_,rfl,id,_,cf.cell,_,rfl,id,_,by rw[ay];exact cf.cell,?_⟩;have eL:IntKind.wrap .u64 (((S.gen+1:Nat):Int)+1)=((S.gen+2:Nat):Int):=by rw[fU I I];omega
 rw[eL];have fo:fG.gen=S.gen+1:=by rw[B];exact dr
 have dk:fG.bg=S.T.bg:=by rw[B];rfl
 have dl:=Gq eI (gen:=S.gen+2) I I;rw[dk]at dl;refine dl.use ?_;rintro _ eM ⟨rfl,eN,dm⟩;have eO:=cf.af dm (h.t.dG _ h.es).1;have eP:∀q,(fG.ld (S.gen+2)).M q->S.T.M q\/w.heap.size<=q:=λq a=>by
  rw[B]at a;rcases a with a|a|a|a
  .exact(aQ q a).imp .inl id
  .exact .inl (.inr (.inl a))
  .rcases c9 q a with h1|h1
   .exact .inl (.inr (.inr (.inl h1)))
   .have:=ar.size;exact .inr I
  .exact .inl (.inr (.inr (.inr a)))
 refine⟨rfl,⟨S.st,fG.ld (S.gen+2),S.l,H,S.gen+1,S.now,S.first,0,S.keys,S.failed⟩,⟨rfl,?_,by rw[B];rfl,rfl,?_,λa=>?_,?_,eP,bs,by rw[B];rfl,by rw[B];exact(show K.r1=a7.r1 by rw[O];rfl).trans ((show a7.r1=o.D.r1 by rw[Q];rfl).trans be)⟩,rfl,.inl ⟨rfl,⟨⟨?_,eN,?_,?_,rfl,?_,?_⟩,?_,h.bP,?_,?_,h.kv,h.keys,cZ _,λ_=>⟨?_,?_,?_⟩,λhf=>?_⟩,al,rfl,by rw[ad],by rw[ad],rfl⟩⟩
 .rw[B];exact cb
 .rw[B];show K.aR<=_;rw[O];show a7.aR<=_;omega
 .rw[B]
  show a6.quiet (K.ga _ _);rw[O];refine⟨λk=>q1 a7 ?_,?_⟩
  .have bo:=(iG (k:=2) (m:=k) (.inr rfl) U.raw.dev.f4 (cW a (k+1))).1
   rw[Q];exact bo
  .show(a7.b7.set 3 (f_ (a7.b7.getD 3 0)).2).getD 3 0= -1
   have bo:=U.raw.dev.f4;have fp:a7.b7.length=4:=by rw[Q];show(o.D.b7.set 2 _).length=4;rw[dg];exact bo
   rw[c1 a,eX (by rw[dg];omega),g5];rfl
 .have hs:∀q,q=S.st->S.W q:=λq e=>by rw[e];exact h.xd
  have av:ae S.W w aS:=cV b0 aT λq _ a=>h.kF (.inr (.inr (.inl a)));have eQ:=cV av br λq _ a=>a.elim;have eR:=cV eQ df λq _ a=>hs q a;have eS:=cV eR cc λq _ a=>hs q a;have eT:=cV eS ce λq _ a=>a.elim;exact cV eT dm λq _ a=>h.kF (.inr (.inl a))
 .show Var eM S.st (gB fG.bg fG.C.D.d fG.C.c fG.sb _ _ _ _ _ _ _ _) _
  rw[dk,show fG.C.D.d=S.T.C.D.d by rw[B];exact cb,show fG.C.c=S.T.C.c by rw[B];exact bd,show fG.sb=S.T.sb by rw[B];rfl];exact eO
 .show fG.E S.st
  rw[bs];exact h.es
 .rw[B];exact aw
 .refine⟨aU.1,aU.2.1,?_,by show S.gen+1+2<_;omega,aU.2.2.2.2⟩
  show H.da+1<=S.gen+1;rw[ad];show S.u.da+1+1<=_;omega
 .intro j b
  have b:fG.g j=true:=b;show fG.C.D.bC j=true;rw[B]at b⊢;exact b
 .refine h.ok.agree (by rw[B];rfl) (by rw[B];rfl) λx hx=>?_
  rw[B];exact(ax x λe=>by
   have:=(h.f x).2 (.inl hx);rw[e,cj]at this;cases this).symm
 .intro j
  have:(fG.ld (S.gen+2)).f j=f2 j:=by rw[B];rfl
  rw[this];exact aw.g j
 .intro x hx
  exact⟨(aw.two x hx).1,(aw.two x hx).2.1⟩
 .intro e
  have h1:=e S.T.n;have a8:(fG.ld (S.gen+2)).C.D.bC S.T.n=f2 S.T.n:=by rw[B];rfl
  rw[a8,cu.pf S.T.n (bm _)]at h1;cases h1
 .rw[B];rfl
 .have eU:f2 S.u.map=false:=by rw[bw];unfold dc;rw[if_pos rfl]
  have h1:=ui (s:=λi=>f2 i||f2 i) (t:=dc (λi=>f2 i||f2 i) S.u.map true) (k:=S.u.map) (by simp[eU]) (by simp[dc]) (λi hi=>by simp[dc,hi]) (n:=S.T.n) ci.2.2.2.1;have a8:=l5 (dc (λi=>f2 i||f2 i) S.u.map true) S.T.n;have fr:ck (fG.ld (S.gen+2))=S.T.n-ey (λi=>f2 i||f2 i) S.T.n:=by rw[B];rfl
  show 1<=ck (fG.ld (S.gen+2));omega
 .have hf:S.failed=true:=hf
  rw[al]at hf;cases hf
end
theorem Gv(a b:Int)(w:J)(T:TypeId)(k:IntKind):Sem.run ai (Builtin.max_ #[T,T] T #[.int k a,.int k b]) w=.ok (.int k (max a b)) w:=by
 simp only[Builtin.max_];unfold Builtin.max2;simp;split<;>omega
theorem dA.trans{S aF c:cl}{w w' e:J}{k l:Nat}(h1:dA k S aF w w')(a:dA l aF c w' e):dA (k+l) S c w e:=
 ⟨a.st.trans h1.st,a.d.trans h1.d,a.n.trans h1.n,a.l.trans h1.l,by have:=h1.aR;have:=a.aR;omega,λh=>a.q (h1.q h),cV h1.af a.af λq g b=>h1.back g b,λq b=>by
  have:=h1.af.size
  rcases a.de q b with f|f
  .exact h1.de q f
  .exact .inr I,a.E.trans h1.E,a.G.trans h1.G,a.r.trans h1.r⟩
theorem dA.mono{S aF:cl}{w w':J}{k l:Nat}(h:dA k S aF w w')(a:k<=l):dA l S aF w w':={h with aR:=by have:=h.aR;omega}
theorem dA.ext{w w':J}(S:cl)(h:Ext w w'):dA 0 S S w w':=⟨rfl,rfl,rfl,rfl,bm _,λh=>h,h.mono λ_ _ h=>h.elim,λq a=>.inl a,rfl,rfl,rfl⟩
section
variable {w w' w1:J}{T:aP}{S aF fz:cl}{pages aM:O Nat}{L bp:O aS}
theorem fq.ext(h:fq w S aM bp)(hx:Ext w w'):fq w' S aM bp:=⟨h.v.ext hx,h.t.ext hx,h.es,h.fB,h.gen,h.num,h.bC⟩
theorem dP.ext(h:dP w S pages L aM bp)(hx:Ext w w'):dP w' S pages L aM bp:=⟨h.tofq.ext hx,h.ok,h.bP,h.f,h.two,h.kv,h.keys,h.nv,h.live,h.dead⟩
theorem dP.jL{jJ:Nat}(h:dP w S pages L aM bp)(a:S.T.E jJ)(hs:jJ≠S.st)(hc:ae (λq=>q=jJ) w w'):dP w' S pages L aM bp:=
 ⟨⟨h.v.af hc λe=>hs e.symm,h.t.jL a hc,h.es,h.fB,h.gen,h.num,h.bC⟩,h.ok,h.bP,h.f,h.two,h.kv,h.keys,h.nv,h.live,h.dead⟩
theorem Gw(h:dP w S pages L aM bp):aH ai 56 #[.pointer (some S.st)] w (λv w'=>v=S.keys/\w=w'):=by
 refine okF (ag.oc (some S.st)) az.oc func56 ?_;exact⟨λa=>(by cases a),λ_=>⟨_,rfl,_,by rw[ay];exact h.v.cell,rfl,rfl⟩⟩
def kG(S:cl):Nat:=ck S.T-2*S.T.aI-4
theorem Gx(h:dP w S pages L aM bp):aH ai 82 #[.pointer (some S.st)] w (λv w'=>v=.int .i64 (kG S:Nat)/\Ext w w'):=by
 refine okF (ag.sM (some S.st)) az.sM func82 ?_;delta ag.sM gk b9 au;refine⟨_,rfl,_,h.v.cell,(A4 h.t).use ?_⟩;rintro _ e ⟨rfl,a⟩;refine⟨_,_,rfl,_,rfl,_,by rw[ay];exact(h.v.ext a).cell,(wN (h.t.ext a).s).use ?_⟩;rintro _ b ⟨rfl,c⟩;have j:=h.t.s.bf;have k:=h.t.num.2.1;have l:=l5 (λi=>S.T.f i||S.T.g i) S.T.n;have d:(S.T.n:Int)-ey (λi=>S.T.f i||S.T.g i) S.T.n=((ck S.T:Nat):Int):=by unfold ck;omega
 have m:ck S.T<=S.T.n:=Nat.sub_le _ _;rw[d,bB (n:=2*(S.T.aI:Int)) I I];refine⟨_,rfl,_,b,Gv _ _ b _ _,?_,Ext.trans a c⟩;rw[bB (n:=((ck S.T:Nat):Int)-2*(S.T.aI:Int)) I I,bB I I];unfold kG
 congr 1
 omega
end
def jf(c:Prop)(S aF:cl)(pages:O Nat)(L:O aS)(aM:O Nat)(bp:O aS)(v:Y)(w':J):Prop:=
 (v=.int .i64 0/\c/\dP w' aF pages L pages L/\aF.failed=false/\aF.gen=S.gen+1/\aF.u.clock=S.now/\aF.u.da=S.u.da+1/\aF.pending=0)\/
 (v=.int .i64 3/\¬S.T.C.D.quiet/\dP w' aF aM bp aM bp/\aF.failed=true/\aF.u=S.u/\aF.gen=S.gen/\(∀j,S.T.g j=true->aF.V j=S.V j)/\((∀j,S.T.g j=true->aF.T.C.D.dY j=[])\/(c/\Bh aF S.gen S.T.g pages L S.now (S.u.da+1))))
theorem o_.x{c:Prop}{S:cl}{pages aM:O Nat}{L bp:O aS}{w w':J}{v:Y}(h:o_ S pages L aM bp w v w')(hc:c):∃aF,dA 100 S aF w w'/\aF.now=S.now/\jf c S aF pages L aM bp v w':=by
 obtain⟨aF,h1,a,b⟩:=h;refine⟨aF,h1,a,?_⟩;rcases b with ⟨a1,a2,a3⟩|⟨a1,a2,a3,a4,a5,dL,dT,eT⟩
 .exact .inl ⟨a1,hc,a2,a3⟩
 .exact .inr ⟨a1,a2,a3,a4,a5,dL,dT,.inr ⟨hc,eT⟩⟩
theorem jf.val{c:Prop}{S aF:cl}{pages aM:O Nat}{L bp:O aS}{w':J}{v:Y}(h:jf c S aF pages L aM bp v w'):∃n:Int,v=n:=by
 rcases h with ⟨a,_⟩|⟨a,_⟩<;>exact⟨_,a⟩
def mc(S aF:cl)(pages:O Nat)(L:O aS)(aM:O Nat)(bp:O aS)(v:Y)(w':J):Prop:=
 (v=.int .i64 0/\S.pending+1<S.l.batch/\dP w' aF pages L aM bp/\aF.failed=false/\aF.gen=S.gen/\aF.u=S.u/\aF.pending=S.pending+1/\aF.first=(if S.pending=0 then S.now else S.first)/\∀j,S.T.g j=true->aF.V j=S.V j)\/
 jf (S.l.batch<=S.pending+1) S aF pages L aM bp v w'
section
variable {w w' w1:J}{T:aP}{S aF fz:cl}{pages aM:O Nat}{L bp:O aS}
theorem Gy{d:Int}(b:fq w S aM bp)(t:S.failed=false)(ok:gu S.T pages L)(bP:pages.Nodup)(f:∀no,S.T.f no=true↔no∈pages\/no<2\/no=S.u.map)(two:∀x∈pages,2<=x/\x≠S.u.map)(kv:∀p∈L,cU p.1/\p.2.length<=24)
 (X:¬S.T.C.D.ro/\S.T.C.D.dY=(λ_=> [])/\1<=ck S.T) (Y:(S.keys:Int)+d=L.length) (aq:S.pending<1000) (Z:L.length<4096) (ar:S.keys<100000) (aa:S.T.C.D.aR<=800000000) (ab:S.gen<=1000000000):
 aH ai 84 #[.pointer (some S.st),d] w (λv w'=>∃aF,dA 100 S aF w w'/\aF.now=S.now/\mc S aF pages L aM bp v w'):=by
 refine okF (ag.sN (some S.st) d) az.sN func84 ?_;(delta ag.sN aE st au ao b4 b9;dsimp only);have N:=b.num;have aw:S.T.M S.st:=.inr (.inr (.inr (.inl b.es)));obtain⟨av,ac,g,y,z⟩:=b.set (i:=17) (x:=L.length) (by decide);refine⟨_,rfl,_,by rw[ay];exact b.v.cell,_,rfl,by rw[ay];exact av,by rw[ay];exact ac,aY ?_⟩;rw[ay,cS,Y,bB (n:=(L.length:Int)) I I];generalize ax:w.setCell ⟨S.st,17,none⟩ L.length=ad at g y z⊢;obtain⟨m,s⟩:∃m,m=if S.pending=0 then S.now else S.first:=⟨_,rfl⟩
 refine kn (λk=>Var k S.st (gB S.T.bg S.T.C.D.d S.T.C.c S.T.sb S.l S.u S.gen S.now m S.pending L.length S.failed) 158/\b6 k S.T/\ae (λq=>q=S.st) w k) (λaA O=>?_) ?_
 .refine⟨_,rfl,_,by rw[ay];exact g.cell,λA=>?_,λA=>O _ ⟨?_,y,z⟩⟩
  .have h0:S.pending=0:=by
    have:(S.pending:Int)=0:=by simpa using A
    omega
   obtain⟨B,E⟩:=ew g (i:=15) (by simp[cl.cells,gB]);have af:=eu g (i:=15) (.int .u64 (S.now:Int));have P:=dN ad S.st 15 (.int .u64 (S.now:Int));refine⟨_,rfl,_,by rw[ay];exact g.cell,_,rfl,by rw[ay];exact B,by rw[ay];exact E,aY (O _ ⟨?_,?_,?_⟩)⟩
   .rw[ay,cS,s,if_pos h0];exact af
   .rw[ay,cS];exact y.jL b.es P
   .rw[ay,cS];exact z.trans P
  .have h0:¬S.pending=0:=by
    have:¬(S.pending:Int)=0:=by simpa using A
    omega
   rw[s,if_neg h0];exact g
 rintro k ⟨F,ah,aj⟩;obtain⟨B,E⟩:=ew F (i:=16) (by simp[gB]);have Q:=eu F (i:=16) (.int .i64 ((S.pending+1:Nat):Int));have G:=dN k S.st 16 (.int .i64 ((S.pending+1:Nat):Int));have ak:IntKind.wrap .i64 ((S.pending:Int)+1)=((S.pending+1:Nat):Int):=by rw[bB I I];omega
 refine⟨_,rfl,_,by rw[ay];exact F.cell,_,rfl,by rw[ay];exact B,by rw[ay];exact E,aY ?_⟩;rw[ay,cS,ak];have R:=ah.jL b.es G;generalize aB:k.setCell ⟨S.st,16,none⟩ (.int .i64 ((S.pending+1:Nat):Int))=o at Q G R⊢;have H:Ext o o.drew:=cL _;have J:=Q.ext H;have al:=R.ext H;have am:ae (λq=>q=S.st) w o.drew:=cV (aj.trans G) H λq _ K=>K.elim;obtain⟨cJ,a⟩:∃cJ:cl,cJ={S with first:=m,pending:=S.pending+1,keys:=L.length}:=⟨_,rfl⟩;have an:m<=S.now:=by rw[s];split<;>omega
 have U:dP o.drew cJ pages L aM bp:=by
  rw[a];exact⟨⟨J,al,b.es,b.fB,b.gen,⟨N.1,an,N.2.2⟩,b.bC⟩,ok,bP,f,two,kv,rfl,by show S.pending+1<=1000;omega,λ_=>X,λhf=>by have hf:S.failed=true:=hf;rw[t]at hf;cases hf⟩
 have V:dA 0 S cJ w o.drew:=by
  rw[a];exact⟨rfl,rfl,rfl,rfl,bm _,λh=>h,am.mono λq _ e=>by rw[e];exact b.xd,λq K=>.inl K,rfl,rfl,rfl⟩
 refine aY ⟨_,rfl,id,_,by rw[ay];exact J.cell,_,rfl,id,_,by rw[ay,ay];exact J.cell,λr=>?_,λr=>?_⟩
 .have r:((S.pending+1:Nat):Int)>=(S.l.batch:Int):=cw r
  have W:=Gu U (by rw[a];exact t) Z (by rw[a];exact aa) (by rw[a];exact ab);rw[show cJ.st=S.st by rw[a]]at W;refine W.use ?_;intro v aC ap;obtain⟨aF,r1,aE,b4⟩:=ap.x (c:=S.l.batch<=S.pending+1) I;obtain⟨n,rfl⟩:=b4.val;refine⟨n,rfl,aF,(V.trans r1).mono I,by rw[aE,a],.inr ?_⟩;rw[a]at b4;exact b4
 .have r:¬((S.pending+1:Nat):Int)>=(S.l.batch:Int):=cT r
  exact⟨cJ,V.mono I,by rw[a],.inl ⟨rfl,I,U,by rw[a];exact t,by rw[a],by rw[a],by rw[a],by rw[a];exact s,λj _=>by rw[a];rfl⟩⟩
end
section
variable {w w' w1:J}{T ax:aP}{S aF fz:cl}{pages aM:O Nat}{L bp:O aS}{k:Nat}
def cl.b8(S:cl)(ax:aP):cl:={S with T:=ax}
theorem fq.to(h:fq w S aM bp)(ht:b6 w' ax)(a:cf S.T ax w w' k)(f:ax.E=S.T.E)(l:ax.G=S.T.G)(o:∀no,S.T.g no=true->ax.P no=S.T.P no):
 fq w' (S.b8 ax) aM bp/\dA k S (S.b8 ax) w w'/\(S.b8 ax).V=S.V:=by
 have r:ax.C.D.bx=S.T.C.D.bx:=congrArg (λp=>p.1.1) a.bx;have s:ax.C.D.b7.getD 3 0=S.T.C.D.b7.getD 3 0:=congrArg Prod.snd a.bx;have i:(S.b8 ax).V=S.V:=by
  funext j;show ax.C.D.bx.getD j []=S.T.C.D.bx.getD j [];rw[r]
 refine⟨⟨?_,ht,by show ax.E S.st;rw[f];exact h.es,?_,a.gen.trans h.gen,h.num,λj b=>?_⟩,⟨rfl,a.d,a.n,rfl,a.aR,λe=>⟨λm=>a.calm m (e.1 _),s.trans e.2⟩,a.af.mono λq _ e=>h.kF e,a.de,f,l,congrArg (λp=>p.1.2.2.2.2) a.bx⟩,i⟩
 .show Var w' S.st (gB ax.bg ax.C.D.d ax.C.c ax.sb _ _ _ _ _ _ _ _) _
  rw[a.bg,a.d,a.c,a.sb];exact h.v.af a.af (h.t.j8 h.es)
 .show je _ ax.n _ _ ax.g ax.P _ _
  rw[i,a.n,a.g];exact h.fB.agree (λ_ _=>rfl) λx hx=>(o x ((h.fB.g x).2 (.inl hx))).symm
 .have b:ax.g j=true:=b
  rw[a.g]at b;show ax.C.D.bC j=true;rw[a.bC.1];exact h.bC j b
theorem cf.ro(h:cf T ax w w' k):ax.C.D.ro↔T.C.D.ro:=by unfold a6.ro;rw[h.bC.1]
theorem dP.to(h:dP w S pages L aM bp)(ht:b6 w' ax)(a:cf S.T ax w w' k)(c:ax.E=S.T.E)(d:ax.G=S.T.G)(b:qZ S.T ax):
 dP w' (S.b8 ax) pages L aM bp/\dA k S (S.b8 ax) w w'/\(S.b8 ax).V=S.V:=by
 obtain⟨h1,i,j⟩:=h.tofq.to ht a c d λno l=>(b.ej no (by rw[l,Bool.or_true])).1;have m:ck ax=ck S.T:=by unfold ck;rw[a.n,b.f,a.g]
 refine⟨⟨h1,b.ok h.ok λx hx=>(h.f x).2 (.inl hx),h.bP,λno=>by show ax.f no=true↔_;rw[b.f];exact h.f no,h.two,h.kv,h.keys,h.nv,λhf=>?_,λhf=>?_⟩,i,j⟩
 .obtain⟨a1,a2,a3⟩:=h.live hf
  exact⟨λe=>a1 (a.ro.1 e),a.bC.2.trans a2,by show 1<=ck ax;rw[m];exact a3⟩
 .obtain⟨a1,a2⟩:=h.dead hf
  exact⟨a.ro.2 a1,a2⟩
theorem Gz{tk:ad}{key:Key}(h:dP w S pages L aM bp)(b:S.T.C.D.aR<=800000000)(c:Src 1 w tk (aA key))(d:∀q,aC tk q->q<w.heap.size/\¬S.T.M q):
 aH ai 55 #[.pointer (some S.st),tk] w (λv w'=>∃aD,dP w' (S.b8 (S.T.bL aD S.T.P)) pages L aM bp/\dA 30 S (S.b8 (S.T.bL aD S.T.P)) w w'/\w8 S.T L key w v w'):=by
 refine okF (ag.sE (some S.st) tk) az.sE func55 ?_;delta ag.sE ao kp;refine⟨λe=>(by cases e),λ_=>⟨_,rfl,_,h.v.cell,(A3 h.t h.ok b c d).use ?_⟩⟩;intro v w' a;have f:=a;obtain⟨aD,h1,g,i,j⟩:=a;obtain⟨a1,a2,_⟩:=h.to h1 g rfl rfl (.bL i);have fin:(λv w'=>∃aD,dP w' (S.b8 (S.T.bL aD S.T.P)) pages L aM bp/\dA 30 S (S.b8 (S.T.bL aD S.T.P)) w w'/\w8 S.T L key w v w') v w':=⟨aD,a1,a2,f⟩;rcases j with ⟨rfl,_⟩|⟨t,x,rfl,_⟩|⟨rfl,_⟩
 .exact⟨⟨none,0,0⟩,_,_,rfl,fin⟩
 .exact⟨t,_,_,rfl,fin⟩
 .exact⟨⟨none,0,0⟩,_,_,rfl,fin⟩
end
theorem xe(k v:Key):∀L:O aS,(fM L k v).length=(fY L k).length+1
 | []=>rfl
 |p::L=>by
  have c:=xe k v L
  unfold fM fY at c⊢
  simp only[cO,hO,rp]at c⊢
  by_cases h1:bR p.1 k
  .have a:¬bR k p.1:=j3 h1
   have b:p.1≠k:=λe=>by rw[e]at h1;exact j3 h1 h1
   rw[if_pos (dU h1),if_neg (by simpa using a),if_pos (dU b)]
   simp only[hO];omega
  .by_cases a:bR k p.1
   .have b:p.1≠k:=λe=>h1 (by rw[e]at a;exact absurd a (λh=>j3 h h))
    rw[if_neg (by simpa using h1),if_pos (dU a),if_pos (dU b)]
    simp only[hO];omega
   .have b:p.1=k:=by
     rcases vL p.1 k with h|h|h
     .exact absurd h h1
     .exact h
     .exact absurd h a
    rw[if_neg (by simpa using h1),if_neg (by simpa using a),if_neg (by simpa using b)];omega
theorem xf{k:Key}:∀ {L:O aS},ij L->L.length=(fY L k).length+(if gy L k=none then 0 else 1)
 | [],_=>rfl
 |p::L,h=>by
  have h0:=kK.1 h
  have f:=xf (k:=k) h0.2
  by_cases e:p.1=k
  .have h1:∀q∈L,q.1≠k:=λq c d=>by
    have:=h0.1 q c
    rw[e,d]at this
    exact j3 this this
   have a:fY (p::L) k=L:=by
    have:fY (p::L) k=fY L k:=by unfold fY;rw[rp];simp[e]
    rw[this,vM h1]
   have b:gy (p::L) k≠none:=by unfold gy;simp[e]
   rw[a,if_neg b];rfl
  .have a:(fY (p::L) k).length=(fY L k).length+1:=by unfold fY;rw[rp];simp[e]
   have b:gy (p::L) k=gy L k:=by unfold gy;simp[e]
   rw[a,b,hO];omega
section
variable {w w' w1:J}{T ax:aP}{S aF dk:cl}{pages aM:O Nat}{L bp:O aS}{k:Nat}
structure pb(S dk:cl):Prop where
 u:dk.u=S.u
 gen:dk.gen=S.gen
 now:dk.now=S.now
 first:dk.first=S.first
 pending:dk.pending=S.pending
 l:dk.l=S.l
 g:dk.T.g=S.T.g
 V:dk.V=S.V
theorem jf.back{c:Prop}{v:Y}(h:jf c dk aF pages L aM bp v w')(e:pb S dk)(d:dA k S dk w w1):jf c S aF pages L aM bp v w':=by
 unfold jf at h⊢;rw[e.u,e.gen,e.now,e.g,e.V]at h;exact h.imp id λ⟨a,b,c⟩=>⟨a,λf=>b (d.q f),c⟩
theorem mc.back{v:Y}(h:mc dk aF pages L aM bp v w')(e:pb S dk)(a:dA k S dk w w1):mc S aF pages L aM bp v w':=by
 unfold mc at h⊢;have:=λh=>jf.back (pages:=pages) (L:=L) (aM:=aM) (bp:=bp) (c:=S.l.batch<=S.pending+1) (v:=v) (aF:=aF) (w':=w') h e a;rw[e.pending,e.l,e.gen,e.u,e.now,e.first,e.g,e.V]at h;exact h.imp id this
theorem xg(b:fq w1 dk aM bp)(d:dA k S dk w w1)(e:pb S dk)(h:¬S.T.C.D.quiet)(i:dk.T.C.D.dY=λ_=> [])(l:dk.T.C.D.aR<=900000000):
 aH ai 81 #[.pointer (some S.st),(3:Int)] w1 (λv w'=>v=.int .i64 3/\∃aF,dA k S aF w w'/\aF.now=S.now/\∀c pages L,jf c S aF pages L aM bp v w'):=by
 have hf:=Bf b 3 l;rw[d.st]at hf;refine hf.mono ?_;rintro v w' ⟨rfl,aF,hs,hd,a⟩;refine⟨rfl,aF,d.trans hd,a.now.trans e.now,λc pages L=>.inr ⟨rfl,h,hs,a.failed,a.u.trans e.u,a.gen.trans e.gen,λj f=>?_,.inl λj f=>?_⟩⟩
 .rw[←e.V];unfold cl.V;rw[a.V]
 .rw[a.sa j,b.t.ca.inv.kz j (b.bC j (by rw[e.g];exact f)),i]
theorem dP.GA{b2:aP}{dz:O aS}{d:Int}(h:dP w S pages L aM bp)(hf:S.failed=false)(o:b6 w' b2)(c:cf S.T b2 w w' k)(q:b2.E=S.T.E)(r:b2.G=S.T.G)(s:F0 S.T b2 pages dz)(X:2*S.T.aI+5<=ck S.T)(t:∀p∈dz,cU p.1/\p.2.length<=24)(hd:(S.keys:Int)+d=dz.length)(y:dz.length<4096)(Y:S.keys<4096)(z:S.pending<1000)(Z:S.T.C.D.aR+k<=800000000)(A:S.gen<=1000000000):
 aH ai 84 #[.pointer (some S.st),d] w' (λv l=>(∃n:Int,v=n)/\∃aF eQ,dA (k+100) S aF w l/\aF.now=S.now/\mc S aF eQ dz aM bp v l):=by
 obtain⟨⟨eQ,aa,B,ep,F,H⟩,I⟩:=s;obtain⟨J,m,K⟩:=h.tofq.to o c q r λno M=>(I no M).1;have N:pb S (S.b8 b2):=⟨rfl,rfl,rfl,rfl,rfl,rfl,c.g,K⟩;obtain⟨P,Q,_⟩:=h.live hf;have R:∀j,j<2\/j=S.u.map->j∉pages:=λj i U=>by
  have:=h.two j U;rcases i with i|i
  .omega
  .exact this.2 i
 refine(Gy (d:=d) J hf B ep (λno=>(H no).trans ?_) (λx hx=>?_) t ⟨λe=>P (c.ro.1 e),c.bC.2.trans Q,by show 1<=ck b2;omega⟩ hd z y (by show S.keys<_;omega) (by have:=c.aR;show b2.C.D.aR<=_;omega) A).mono ?_
 .rw[h.f no]
  constructor
  .rintro(h1|⟨h1|h1,b⟩)
   .exact .inl h1
   .exact absurd h1 b
   .exact .inr h1
  .rintro(h1|h1)
   .exact .inl h1
   .exact .inr ⟨.inr h1,R no h1⟩
 .rcases F x hx with h1|h1
  .exact h.two x h1
  .have b:S.T.f x=false:=by cases ab:S.T.f x<;>simp_all
   refine⟨Nat.le_of_not_lt λV=>?_,λW=>?_⟩
   .rw[(h.f x).2 (.inr (.inl V))]at b;cases b
   .rw[(h.f x).2 (.inr (.inr W))]at b;cases b
 .rintro v l ⟨aF,r1,aE,b4⟩
  refine⟨?_,aF,eQ,m.trans r1,aE,b4.back N m⟩;rcases b4 with ⟨a,_⟩|a
  .exact⟨0,a⟩
  .exact a.val
theorem qi(w:J)(s:ad):aH ai 79 #[s] w (λv w'=>v=.bool (decide (1<=s.len/\s.len<=24))/\w=w'):=by
 refine okF (ag.qi s) az.qi func79 ?_;refine⟨?_,rfl⟩
 congr 1
 rw[fD,dt,cx,cx,cx];omega
theorem GB{tk ek:ad}{key val:Key}(h:dP w S pages L aM bp)(a4:L.length<4000)(G:S.pending<1000)(a5:S.T.C.D.aR<=700000000)(ak:S.gen<=1000000000)
 (H:Src 1 w tk (aA key)) (A:∀q,aC tk q->q<w.heap.size/\¬S.T.M q) (V:Src 1 w ek (aA val)) (W:∀q,aC ek q->q<w.heap.size/\¬S.T.M q):
 aH ai 23 #[.pointer (some S.st),tk,ek] w (λv w'=>(v=.int .i64 1/\¬(cU key/\val.length<=24)/\w=w')\/((cU key/\val.length<=24)/\
  ((S.failed=true/\v=.int .i64 8/\w=w')\/(S.failed=false/\∃aF,dA 300 S aF w w'/\aF.now=S.now/\
    ((v=.int .i64 2/\kG S=0/\dP w' S pages L aM bp/\aF=S)\/(kG S≠0/\∃eQ,mc S aF eQ (fM L key val) aM bp v w')))))):=by
 have al:tk.len=key.length:=by have:=H.len;rw[dj]at this;omega
 have a6:ek.len=val.length:=by have:=V.len;rw[dj]at this;omega
 have a7:=h.t.s.bf;refine okF (ag.sA (some S.st) tk ek) az.sA func23 ?_;(delta ag.sA ao b_ aX b9 kp;dsimp only);refine cC (λb w'=>(b=false↔cU key)/\w=w') (λq a=>⟨λB=>(by cases B),λ_=>(qi w tk).use ?_⟩) ?_
 .rintro _ _ ⟨rfl,rfl⟩
  refine⟨_,rfl,a _ _ ⟨?_,rfl⟩⟩;unfold cU;rw[al,nH,cx]
 rintro b _ ⟨B,rfl⟩;refine⟨λh1=>.inl ⟨rfl,λhg=>?_,rfl⟩,λh1=>?_⟩
 .rcases Bool.or_eq_true_iff.1 h1 with j|j
  .rw[B.2 hg.1]at j;cases j
  .have:=cw j;have:=hg.2;omega
 have hg:cU key/\val.length<=24:=by
  have j:=pq.1 h1;have X:=cT j.2;exact⟨B.1 j.1,I⟩
 refine⟨_,rfl,S.failed,by rw[ay];exact h.v.cell,λhf=>.inr ⟨hg,.inl ⟨hf,rfl,rfl⟩⟩,λhf=>(Gx h).use ?_⟩;rintro _ a8 ⟨rfl,m⟩;have u:=h.ext m;obtain⟨am,ap,_⟩:=h.live hf;refine⟨_,rfl,λJ=>.inr ⟨hg,.inr ⟨hf,S,(dA.ext S m).mono I,rfl,.inl ⟨rfl,?_,u,rfl⟩⟩⟩,λJ=>?_⟩
 .have:((kG S:Nat):Int)=0:=by simpa using J
  omega
 have E:kG S≠0:=by
  have:¬((kG S:Nat):Int)=0:=by simpa using J
  omega
 refine⟨_,rfl,_,u.v.cell,(A3 u.t u.ok I (H.ext m) λq a=>⟨by have:=(A q a).1;have:=m.size;omega,(A q a).2⟩).use ?_⟩;rintro v K ⟨i,Y,o,aq,F⟩;obtain⟨r,Z,aa⟩:=u.to Y o rfl rfl (.bL aq);have y:dA 30 S (S.b8 (S.T.bL i S.T.P)) w K:=((dA.ext S m).trans Z).mono I;have N:pb S (S.b8 (S.T.bL i S.T.P)):=⟨rfl,rfl,rfl,rfl,rfl,rfl,rfl,aa⟩;have O:(S.b8 (S.T.bL i S.T.P)).T.C.D.dY=λ_=> []:=o.bC.2.trans ap;have a9:i.D.aR<=S.T.C.D.aR+30:=o.aR;have ar:∀n:Int,v=.tuple #[(),false,(3:Int)]->¬S.T.C.D.quiet->aH ai 81 #[.pointer (some S.st),(3:Int)] K (λv w'=>v=.int .i64 3/\∃aF,dA 30 S aF w w'/\aF.now=S.now/\∀c pages L,jf c S aF pages L aM bp v w'):=λ_ _ a=>xg r.tofq y N a O (by show i.D.aR<=_;omega);have au:∃ (t:ad) (e:an) (n:Int),v=.tuple #[t,e,n]/\((n=0/\(e=true↔gy L key≠none))\/(n=3/\¬S.T.C.D.quiet)):=by
  rcases F with ⟨rfl,l⟩|⟨t,x,rfl,_,hs,_⟩|⟨rfl,_,Q⟩
  .exact⟨⟨none,0,0⟩,false,0,rfl,.inl ⟨rfl,λh=>(by cases h),λh=>absurd (l hg.1) h⟩⟩
  .exact⟨t,true,0,rfl,.inl ⟨rfl,λ_=>by rw[hs];simp,λ_=>rfl⟩⟩
  .exact⟨⟨none,0,0⟩,false,3,rfl,.inr ⟨rfl,λa=>Q (a.1 30)⟩⟩
 clear ar F;obtain⟨t,e,n,rfl,av⟩:=au;rcases av with ⟨rfl,he⟩|⟨rfl,R⟩
 rotate_left
 .refine⟨t,e,3,rfl,λ_=>(xg r.tofq y N R O (by show i.D.aR<=_;omega)).use ?_,λh=>(by cases h)⟩
  rintro _ aw ⟨rfl,aF,r1,aE,b4⟩;exact⟨3,rfl,.inr ⟨hg,.inr ⟨hf,aF,r1.mono I,aE,.inr ⟨E,[],.inr (b4 _ _ _)⟩⟩⟩⟩
 have a_:=m.size;have ba:=o.af.size;have ab:∀s:ad,(∀q,aC s q->q<w.heap.size/\¬S.T.M q)->∀q,aC s q->q<K.heap.size/\¬(S.T.bL i S.T.P).M q:=λs hs q a=>⟨by have:=(hs q a).1;omega,λax=>by
  rcases o.de q ax with j|j
  .exact(hs q a).2 j
  .have:=(hs q a).1;omega⟩
 have aB:=(H.ext m).af o.af λq a l=>(A q a).2 (aP.hG l);have aD:=(V.ext m).af o.af λq a l=>(W q a).2 (aP.hG l);have aG:¬(S.T.bL i S.T.P).C.D.ro:=λe=>am (o.ro.1 e);refine⟨t,e,0,rfl,λh=>(by cases h),λ_=>⟨_,rfl,_,r.v.cell,?_⟩⟩;refine(FX Y aG r.ok I r.bP (λx hx=>(r.f x).2 (.inl hx)) (by show i.D.aR<=_;omega) aB (ab tk A) aD (ab ek W)).use ?_;rintro v aJ (⟨_,aK,_⟩|⟨_,_,b2,ac,z,ae,ah,F⟩)
 .exact absurd hg aK
 have aL:ck (S.T.bL i S.T.P)=ck S.T:=rfl;have aN:(S.T.bL i S.T.P).aI=S.T.aI:=rfl;have aO:2*S.T.aI+5<=ck S.T:=by unfold kG at E;omega
 rcases F with ⟨_,aQ,_⟩|⟨rfl,_,⟨eQ,aS,aT,ep,aU,aV⟩,U⟩|⟨rfl,Q,bb,bc,bd,U⟩
 .rw[aL,aN]at aQ;omega
 .have hlen:(S.keys:Int)+(if e=true then 0 else 1)=(fM L key val).length:=by
   have h1:=xe key val L;have j:=xf (k:=key) h.ok.rising;have X:=h.keys;by_cases l:gy L key=none
   .have:¬e=true:=λh=>he.1 h l
    rw[if_pos l]at j;rw[if_neg this];omega
   .rw[if_neg l]at j
    rw[if_pos (he.2 l)];omega
  have X:=h.keys;have aW:(fM L key val).length<4096:=by split at hlen<;>omega
  have aj:=λd hd=>r.GA (d:=d) hf ac z ae ah ⟨⟨eQ,aS,aT,ep,aU,aV⟩,U⟩ aO (λp G=>by
   rcases Du.1 G with rfl|⟨h1,_⟩
   .exact hg
   .exact h.kv p h1) hd aW (by show S.keys<_;omega) G (by show i.D.aR+100<=_;omega) ak
  refine⟨0,rfl,λh=>(by cases h),λ_=>⟨λht=>(aj 0 (by rw[←hlen,if_pos ht];rfl)).use ?_,λht=>(aj 1 (by rw[←hlen,if_neg (by rw[ht];decide)];rfl)).use ?_⟩⟩
  all_goals
   rintro v w' ⟨⟨n,rfl⟩,aF,eQ,r1,aE,b4⟩;exact⟨n,rfl,.inr ⟨hg,.inr ⟨hf,aF,(y.trans r1).mono I,aE,.inr ⟨E,eQ,b4.back N y⟩⟩⟩⟩
 .obtain⟨aY,aZ,a0⟩:=r.tofq.to ac z ae ah λno a1=>(U no (by show(S.T.f no||S.T.g no)=true;rw[show S.T.g no=true from a1,Bool.or_true])).1
  have a2:dA 130 S (S.b8 b2) w aJ:=(y.trans aZ).mono I;have a3:pb S (S.b8 b2):=⟨rfl,rfl,rfl,rfl,rfl,rfl,z.g,a0.trans aa⟩;have R:¬S.T.C.D.quiet:=λa=>Q ((Z.q a).1 100);refine⟨3,rfl,λ_=>(xg aY a2 a3 R (z.bC.2.trans O) (by have:=z.aR;show b2.C.D.aR<=_;have e:(S.T.bL i S.T.P).C.D.aR=i.D.aR:=rfl;omega)).use ?_,λh=>(by cases h)⟩;rintro _ aw ⟨rfl,aF,r1,aE,b4⟩;exact⟨3,rfl,.inr ⟨hg,.inr ⟨hf,aF,r1.mono I,aE,.inr ⟨E,[],.inr (b4 _ _ _)⟩⟩⟩⟩
end
section
variable {w w':J}{D:a6}{V:Nat->c7}{gen:Nat}{u:en}{g:Nat->an}{P:Nat->aq aB}{aM:O Nat}{bp:O aS}
theorem GC{c aV k:Nat}{a:Nat->Prop}(h:dC (λ_=>False) w (kA c aV k D))(d:∀q,a q->q<w.heap.size/\¬cR (kA c aV k D) q):dC a w (kA c aV k D):=
 ⟨h.raw,h.inv.pins,λf hf b=>(by
  have:=(List.mem_replicate.1 (show f∈List.replicate k du from hf)).2
  rw[this]at b
  cases b),h.inv.un,d,h.inv.kz⟩
end
structure Bi(D:a6)(l:e7)(bU:Nat->Prop)(k:Nat)(w w':J)(S:cl):Prop where
 live:S.failed=false
 nv:S.pending=0
 now:S.now=S.u.clock
 l:S.l=l
 d:S.T.C.D.d=D.d
 n:S.T.n=D.n
 q:S.T.C.D.quiet
 aR:S.T.C.D.aR<=D.aR+k
 M:∀q,S.T.M q->cd D q\/bU q\/w.heap.size<=q
 E:∀q,S.T.E q↔q=S.st\/bU q
 st:w.heap.size<=S.st
 r:S.T.C.D.r1=D.r1
 af:ae (cd D) w w'
section
variable {w w':J}{D:a6}{bU:Nat->Prop}
theorem GD{l:e7}(h:c4 w D)(z:nu (l.ak:Nat) (l.batch:Nat) (l.hX:Nat))(O:∀k,D.calm k)(oY:D.b7.getD 3 0= -1)(P:D.aR<=999999000)(A:∀q,bU q->q<w.heap.size/\¬cd D q):
 aH ai 19 #[.pointer (some D.d),.agg l.c.toArray] w (λv w'=>∃S:cl,v=.tuple #[.pointer (some S.st),(0:Int)]/\dP w' S [] [] [] []/\Bi D l bU 4 w w' S/\S.u=iw/\S.gen=1):=by
 have ab:=h.bM;have Q:=h.bf;refine(mM h z O oY P).mono ?_;rintro v w' ⟨aw,sb,s1,s2,c,aV,bg,st,ja,R⟩;obtain rfl:=R.Bc.val;have hd:=R.oK;have B:=R.Bc;have ac:=R.af.size;have ad:=B.x.size;have ae:=B.hc;have ag:=B.hf;have ah:=B.ht;have aj:=B.sv.lt;have F:∀j,aw.bx.getD j []=aw.now j:=λj=>by unfold a6.now;rw[hd.waits];rfl
 have o:∀q,cR (kA c aV l.ak aw) q->q=c\/q=aV\/cd aw q:=λq h=>h;have H:∀q,cd aw q->q<ja.heap.size:=λq f=>by
  rcases R.dq q f with h1|h1
  .have:=h.lt h1;omega
  .omega
 have U:aw.quiet:=⟨hd.calm,hd.b7⟩;obtain⟨T,b⟩:∃T:aP,T=⟨bg,1+1,0,0,kA c aV l.ak aw,sb,D.n,λi=>decide (i<3),λi=>decide (i<3),s1,s2,λq=>q=st\/bU q,λ_=>False,λ_=>none⟩:=⟨_,rfl⟩;have V:∀q,bU q->q<w.heap.size/\¬cd aw q:=λq f=>⟨(A q f).1,λhf=>by
  rcases R.dq q hf with h1|h1
  .exact(A q f).2 h1
  .have:=(A q f).1;omega⟩
 have W:b6 w' T:=by
  have J:dC T.X w' (kA c aV l.ak aw):=GC B.ca λq f=>by
   rw[b]at f;rcases f with h1|h1|h1|h1
   .have h1:q=bg:=h1
    refine⟨I,λhf=>?_⟩;rcases o q hf with a|a|a
    .omega
    .omega
    .have:=H q a;omega
   .have E:=R.q2 q h1
    refine⟨I,λhf=>?_⟩;rcases o q hf with a|a|a
    .omega
    .omega
    .have al:=B.ca.raw.dev
     exact R.Gf q h1 a
   .rcases(show q=st\/bU q from h1) with h1|h1
    .refine⟨I,λhf=>?_⟩
     rcases o q hf with a|a|a
     .omega
     .omega
     .have:=H q a;omega
    .have E:=V q h1
     refine⟨I,λhf=>?_⟩;rcases o q hf with a|a|a
     .omega
     .omega
     .exact E.2 a
   .exact h1.elim
  rw[b]at J⊢;refine⟨B.ek,R.sp,J,λhf=>by have:=R.q2 bg hf;omega,λq f=>?_,λq f=>f.elim,hd.n,⟨by show 0<D.n;omega,(by decide:0<=12),(by decide:1+1<18446744073709551616)⟩,λno bP G=>(by cases G),λj m=>.inl ?_,⟨rfl,rfl⟩⟩
  .rcases(show q=st\/bU q from f) with h1|h1
   .exact⟨by show q≠bg;omega,λhf=>by have:=R.q2 q hf;omega,λh=>h⟩
   .have E:=A q h1
    exact⟨by show q≠bg;omega,λhf=>by have:=R.q2 q hf;omega,λh=>h⟩
  .have m:aw.bC j=true:=m
   rw[hd.bC]at m;exact m
 have K:l3 iw D.n:=⟨Iff.intro (λ_=>rfl) (λ_=>rfl),by decide,by show 0<D.n;omega,by show 2<D.n;omega,by decide,Q⟩;have L:l2 iw:=⟨by decide,by decide,by decide,by decide,by decide,by decide⟩;have M:je (λj=>aw.bx.getD j []) D.n 1 iw (λi=>decide (i<3)) (λ_=>none) [] []:=by
  refine⟨⟨3,I,rfl⟩,?_,.inl ?_,⟨1,bm _,?_⟩,λno=>?_,List.nodup_nil,λx hx=>(by cases hx),.inl ⟨rfl,rfl,rfl,rfl⟩,λx hx=>(by cases hx),rfl,λq f=>(by cases f),L,K,bm _⟩
  .show qQ ((1:Nat):Int) (aw.bx.getD 1 [])=_
   rw[F,hd.now];exact z8 L K (by decide) (by decide)
  .show aw.bx.getD 0 []=gT
   rw[F,hd.now];rfl
  .show fe ((2:Nat):Int) (aw.bx.getD 2 [])=_
   rw[F,hd.now];exact tN I ⟨(by decide:1<=4),(by decide:4<=4),(by decide:1<18446744073709551616),by show(hL _ _).length<=232;rw[uy];omega⟩
  .show decide (no<3)=true↔no∈ []\/no<2\/no=2
   simp only[fi,false_or,cx];omega
 obtain⟨S,y⟩:∃S:cl,S=⟨st,T,l,iw,1,0,0,0,0,false⟩:=⟨_,rfl⟩;have Y:1<=ck T:=by
  have h1:=ui (s:=λi=>decide (i<3)||decide (i<3)) (t:=dc (λi=>decide (i<3)||decide (i<3)) 3 true) (k:=3) (by simp) (by simp[dc]) (λi hi=>by simp[dc,hi]) (n:=D.n) I;have a:=l5 (dc (λi=>decide (i<3)||decide (i<3)) 3 true) D.n;have E:ck T=D.n-ey (λi=>decide (i<3)||decide (i<3)) D.n:=by rw[b];rfl
  omega
 refine⟨S,by rw[y],?_,?_,by rw[y],by rw[y]⟩
 .rw[y]
  refine⟨⟨?_,W,by rw[b];exact .inl rfl,by rw[b];exact M,by rw[b],⟨(by decide:0<18446744073709551616),bm _,bm _,(by decide:1+2<18446744073709551616),?_,?_,?_⟩,λj m=>?_⟩,.inl ?_,List.nodup_nil,?_,λx hx=>(by cases hx),λp G=>(by cases G),rfl,cZ _,λ_=>⟨?_,by rw[b];exact hd.dY,Y⟩,λhf=>(by cases hf)⟩
  .show Var w' st (gB T.bg T.C.D.d T.C.c T.sb _ _ _ _ _ _ _ _) _
   rw[b];exact B.sv
  .have:=z.2.2.2.1;show l.batch<=1000;omega
  .have:=z.2.2.2.2.2;show l.hX<=1048576;omega
  .have:=z.2.2.1;show 1<=l.batch;omega
  .have m:T.g j=true:=m
   show T.C.D.bC j=true;rw[b]at m⊢;show aw.bC j=true;rw[hd.bC];exact m
  .rw[b];exact⟨rfl,rfl,rfl,rfl⟩
  .intro no
   have Z:=M.g no;rw[b];exact Z
  .intro e
   have h1:aw.bC 5=true:=by have:=e 5;rw[b]at this;exact this
   rw[hd.bC]at h1;cases h1
 .rw[y]
  refine⟨rfl,rfl,rfl,rfl,by rw[b];exact hd.d,by rw[b],by rw[b];exact U,by rw[b];show aw.aR<=_;rw[hd.aR];omega,λq N=>?_,λq=>by rw[b],by show w.heap.size<=st;omega,by rw[b];exact hd.r,cV R.af B.x λq _ h=>h.elim⟩;rw[b]at N;have aa:∀q,cd aw q->cd D q\/bU q\/w.heap.size<=q:=λq f=>by
   rcases R.dq q f with h1|h1
   .exact .inl h1
   .exact .inr (.inr h1.1)
  rcases N with h1|h1|h1|h1|h1
  .rcases o q h1 with a|a|a
   .exact .inr (.inr I)
   .exact .inr (.inr I)
   .exact aa q a
  .have h1:q=bg:=h1
   exact .inr (.inr I)
  .exact .inr (.inr (R.q2 q h1).1)
  .rcases(show q=st\/bU q from h1) with h1|h1
   .exact .inr (.inr I)
   .exact .inr (.inl h1)
  .exact h1.elim
end
section
variable {w w':J}{l:ad}
theorem GF{s:ad}(h:p2 ai w 3 s):∃l:O Int,Src 1 w s (l.map encZ)/\∀z∈l,z<=9223372036854775807:=by
 obtain⟨l,h1,_,b⟩:=h.src (c:=λz:Int=> [encZ z]) (sz:=1) (by kernel_rfl) (λz=>z<=9223372036854775807) λfuel us d=>by
  obtain⟨n,rfl,b,f⟩:=p3 d (k:=.i64) (by kernel_rfl);exact⟨n,rfl,f⟩
 have e:∀l:O Int,(l.map λz:Int=> [encZ z]).flatten=l.map encZ:=λl=>by
  induction l with
  |nil=>rfl
  |cons a l g=>rw[gF,List.flatten_cons,g];rfl
 rw[e]at h1;exact⟨l,h1,b⟩
theorem Src.Bj{s:ad}{l:O Int}(h:Src 1 w s (l.map encZ)):∀q,aC s q->w.heap.size<=q->l=[]:=by
 rintro q ⟨a,c,rfl⟩ d
 cases e:l with
 |nil=>rfl
 |cons v us=>
  have f:=h.rd a c;have b:w.cell? (a.add (0+0))=some (encZ v):=p_ f (by rw[e];rfl);rw[kf,add_zero']at b;have:w.heap[a.block]? =none:=by simp[d]
  simp[World.cell?,this]at b
end
section
variable {V:Nat->c7}{n gen:Nat}{u:en}{g:Nat->an}{P:Nat->aq aB}{aM:O Nat}{bp:O aS}
theorem je.low(h:je V n gen u g P aM bp):aM.length<=bp.length:=by
 rcases h.ok with ⟨_,_,a,_⟩|a
 .rw[a];exact cZ _
 .exact a.pages.1
end
structure gv(w0 w:J)(bU:Nat->Prop)(d n:Nat)(l:e7)(S:cl)(pages:O Nat)(L:O aS)(aM:O Nat)(bp:O aS)(c:Nat):Prop where
 x:Ext w0 w
 at_:dP w S pages L aM bp
 E:∀q,S.T.E q↔q=S.st\/bU q
 ne:¬bU S.st
 q3:∀q,S.T.M q->w0.heap.size<=q
 lim:S.l=l
 d:S.T.C.D.d=d
 n:S.T.n=n
 aR:S.T.C.D.aR<=20000*(c+1)
 fy:L.length<=c/\bp.length<=c
 gen:S.gen<=c+1
 uC:S.pending<=c
 r:S.T.C.D.r1=true
section
variable {w0 w w':J}{bU:Nat->Prop}{d n gM k c:Nat}{l:e7}{S aF:cl}{pages aM:O Nat}{L bp:O aS}
theorem gv.uD(h:gv w0 w bU d n l S pages L aM bp c){q:Nat}(a:bU q):S.T.E q/\q≠S.st:=⟨(h.E q).2 (.inr a),λe=>h.ne (e▸a)⟩
theorem gv.ext(h:gv w0 w bU d n l S pages L aM bp c)(hx:Ext w w'):gv w0 w' bU d n l S pages L aM bp c:={h with x:=h.x.trans hx,at_:=h.at_.ext hx}
theorem gv.mono{e:Nat}(h:gv w0 w bU d n l S pages L aM bp c)(he:c<=e):gv w0 w bU d n l S pages L aM bp e:={h with aR:=by have:=h.aR;omega,fy:=⟨by have:=h.fy.1;omega,by have:=h.fy.2;omega⟩,gen:=by have:=h.gen;omega,uC:=by have:=h.uC;omega}
theorem gv.jL{jJ:Nat}(h:gv w0 w bU d n l S pages L aM bp c)(a:bU jJ)(hc:ae (λq=>q=jJ) w w'):gv w0 w' bU d n l S pages L aM bp c:=
 {h with x:=Ext.dn h.x hc λq e=>by rw[e];exact h.q3 _ (.inr (.inr (.inr (.inl (h.uD a).1)))),at_:=h.at_.jL (h.uD a).1 (h.uD a).2 hc}
theorem gv.step{eQ hM:O Nat}{kE nw:O aS}(h:gv w0 w bU d n l S pages L aM bp c)(hs:dP w' aF eQ kE hM nw)(hd:dA k S aF w w')(b:k<=20000)(hf:kE.length<=c+1/\nw.length<=c+1)(hg:aF.gen<=S.gen+1)(e:aF.pending<=S.pending+1):gv w0 w' bU d n l aF eQ kE hM nw (c+1):=
 ⟨Ext.dn h.x hd.af λq a=>h.q3 q a.1,hs,λq=>by rw[hd.E,hd.st];exact h.E q,by rw[hd.st];exact h.ne,λq a=>by
  rcases hd.de q a with h1|h1
  .exact h.q3 q h1
  .have:=h.x.size;omega,hd.l.trans h.lim,hd.d.trans h.d,hd.n.trans h.n,by have:=hd.aR;have:=h.aR;omega,hf,by have:=h.gen;omega,by have:=h.uC;omega,hd.r.trans h.r⟩
end
section
variable {w0 w w' w1 aj:J}{bU:Nat->Prop}{d n gM k c:Nat}{l:e7}{S aF:cl}{pages eQ aM hM:O Nat}{L kE bp nw:O aS}{v:Y}
theorem jf.GG{c:Prop}(h:jf c S aF pages L aM bp v w')(a:S.T.C.D.quiet):v=.int .i64 0/\c/\dP w' aF pages L pages L/\aF.failed=false/\aF.gen=S.gen+1/\aF.u.clock=S.now/\aF.u.da=S.u.da+1/\aF.pending=0:=by
 rcases h with h|⟨_,h,_⟩
 .exact h
 .exact absurd a h
end
section
variable {w0 w w' w1 aj:J}{bU bW:Nat->Prop}{d n gM k c i:Nat}{l:e7}{S aF:cl}{pages eQ aM hM br:O Nat}{L kE bp nw bn:O aS}{v:Y}{aw:a6}{ls:ad}
theorem dP.grow(h:dP w S pages L aM bp)(hx:Ext w w'){b:Nat->Prop}(c:∀q,b q->S.T.E q\/(w.heap.size<=q/\q<w'.heap.size))(hs:b S.st):dP w' (S.b8 (S.T.cv b S.T.G)) pages L aM bp:=by
 have ht:b6 w' (S.T.cv b S.T.G):=h.t.grow (W:=λ_=>False) hx (λ_ d=>d.elim) (λq a=>(c q a).imp id .inr) (λq a=>.inr (.inl a)) λq a hg=>by
  rcases c q a with h1|h1
  .exact(h.t.dG q h1).2.2 hg
  .have:=h.t.lt (q:=q) (.inr (.inr (.inr (.inr hg))));omega
 exact⟨⟨h.v.ext hx,ht,hs,h.fB,h.gen,h.num,h.bC⟩,h.ok,h.bP,h.f,h.two,h.kv,h.keys,h.nv,h.live,h.dead⟩
def cl.own(S:cl)(bW:Nat->Prop):cl:=S.b8 (S.T.cv (λq=>q=S.st\/bW q) S.T.G)
theorem cl.Bk{q:Nat}(b:∀q,S.T.E q↔q=S.st\/bU q)(h1:∀q,bW q->bU q\/k<=q)(a:(S.own bW).T.M q):S.T.M q\/k<=q:=by
 rcases a with a|a|a|a|a
 .exact .inl (.inl a)
 .exact .inl (.inr (.inl a))
 .exact .inl (.inr (.inr (.inl a)))
 .rcases(show q=S.st\/bW q from a) with h|h
  .exact .inl (.inr (.inr (.inr (.inl ((b q).2 (.inl h))))))
  .rcases h1 q h with h|h
   .exact .inl (.inr (.inr (.inr (.inl ((b q).2 (.inr h))))))
   .exact .inr h
 .exact .inl (.inr (.inr (.inr (.inr a))))
theorem gv.grow(h:gv w0 w bU d n l S pages L aM bp c)(hx:Ext w w')(b:∀q,bW q->bU q\/(w.heap.size<=q/\q<w'.heap.size)):gv w0 w' bW d n l (S.own bW) pages L aM bp c:=
 ⟨h.x.trans hx,h.at_.grow hx (λq a=>by
  rcases a with h1|h1
  .exact .inl ((h.E q).2 (.inl h1))
  .exact(b q h1).imp (λe=>(h.E q).2 (.inr e)) id) (.inl rfl),λq=>Iff.rfl,λhs=>by
  have hs:bW S.st:=hs
  rcases b _ hs with h1|h1
  .exact h.ne h1
  .have:=h.at_.t.lt (q:=S.st) (.inr (.inr (.inr (.inl h.at_.es))));omega,λq a=>by
  rcases cl.Bk h.E (λq a=>(b q a).imp id And.left) a with h1|h1
  .exact h.q3 q h1
  .have:=h.x.size;omega,h.lim,h.d,h.n,h.aR,h.fy,h.gen,h.uC,h.r⟩
end
section
variable {w0 w w' w1 aj:J}{bU bW:Nat->Prop}{d n gM k c i:Nat}{l:e7}{S aF:cl}{pages eQ aM hM br:O Nat}{L kE bp nw bn:O aS}{v:Y}{aw:a6}{ls:ad}
theorem dP.room(h:dP w S pages L aM bp):S.T.n<=ck S.T+pages.length+aM.length+3:=by
 have h1:=F2 (t:=λi=>S.T.f i||S.T.g i) (l:=pages++aM++ [0,1,S.u.map]) S.T.n λi _ hi=>by
  simp only[h8]at hi;simp only[cM,c8,fi,fu];rcases hi with hi|hi
  .rcases(h.f i).1 hi with a|a|a
   .exact .inl (.inl a)
   .exact .inr I
   .exact .inr (.inr (.inr a))
  .rcases(h.fB.g i).1 hi with a|a|a
   .exact .inl (.inr a)
   .exact .inr I
   .exact .inr (.inr (.inr a))
 simp only[cO,hO,lr]at h1;unfold ck;omega
theorem gv.new{D:a6}(hx:Ext w0 w)(e:dP w' S [] [] [] [])(a:Bi D l bU 4 w w' S)(hu:S.u=iw)(hg:S.gen=1)(b:∀q,cd D q->w0.heap.size<=q)(c:∀q,bU q->w0.heap.size<=q/\q<w.heap.size)(i:D.aR=0)(f:D.r1=true):gv w0 w' bU D.d D.n l S [] [] [] [] 0:=
 ⟨Ext.dn hx a.af b,e,a.E,λh=>by have:=(c _ h).2;have:=a.st;omega,λq g=>by
  rcases a.M q g with h1|h1|h1
  .exact b q h1
  .exact(c q h1).1
  .have:=hx.size;omega,a.l,a.d,a.n,by have:=a.aR;omega,⟨bm _,bm _⟩,I,by rw[a.nv];exact bm _,a.r.trans f⟩
end
section
variable {w0 w w' w1 aj:J}{bU bW:Nat->Prop}{d n gM k c i:Nat}{l:e7}{S aF:cl}{pages eQ aM hM br:O Nat}{L kE bp nw bn:O aS}{v:Y}{aw:a6}{ls:ad}
def pc(b:Nat):e7:=⟨8,1+b%12,1+b/16%12⟩
theorem GH(b:Nat):nu ((pc b).ak:Nat) ((pc b).batch:Nat) ((pc b).hX:Nat):=by
 unfold nu pc;have h1:b%12<12:=hN _ (by decide);have a:b/16%12<12:=hN _ (by decide);show(8:Int)<=((8:Nat):Int)/\((8:Nat):Int)<=64/\(1:Int)<=((1+b%12:Nat):Int)/\((1+b%12:Nat):Int)<=1000/\(1:Int)<=((1+b/16%12:Nat):Int)/\((1+b/16%12:Nat):Int)<=1048576;omega
theorem GI{b:Nat}(a:b<256):IntKind.wrap .u8 (Int.tdiv (b:Int) 16)=((b/16:Nat):Int):=by
 rw[Int.tdiv_eq_ediv_of_nonneg I];have h:((b:Int)/16)=((b/16:Nat):Int):=by omega
 rw[h];have c:b/16<256:=by omega
 show((b/16:Nat):Int)%256=_;omega
end
section
variable {w:J}{ab st:Nat}{most:Int}
theorem lN{s:aq ah}(w:J)(most:Int):aH ai 33 #[.pointer s,most] w (λv w'=>Ext w w'/\(((s=none\/most<1\/400<most)/\v=.tuple #[.pointer none,(1:Int)])\/((s≠none/\1<=most/\most<=400)/\v=.tuple #[.pointer (some w.heap.size),(0:Int)]/\Var w' w.heap.size [.pointer s,most] 134))):=by
 refine okF (ag.lN s most) az.lN func33 ?_;delta ag.lN ao aa;refine⟨λh=>⟨.refl _ _,.inl ⟨?_,rfl⟩⟩,λh=>a_ (vs:=[.pointer s,most]) rfl λw1 b hx _=>⟨hx,.inr ⟨?_,rfl,b⟩⟩⟩
 .cases s with
  |none=>exact .inl rfl
  |some a=>simp at h;exact .inr I
 .cases s with
  |none=>simp at h
  |some a=>simp at h;exact⟨by simp,I,I⟩
theorem Bl(a:Var w ab [.pointer (some st),most] 134):aH ai 32 #[.pointer (some ab)] w (λv w'=>v=.pointer (some st)/\w=w'):=by
 refine okF (ag.mN (some ab)) az.mN func32 ?_;delta ag.mN ao;exact⟨λh=>(by cases h),λ_=>⟨_,rfl,_,a.cell,rfl,rfl⟩⟩
theorem GJ{S:cl}{pages aM:O Nat}{L bp:O aS}(a:Var w ab [.pointer (some S.st),most] 134)(h:dP w S pages L aM bp):aH ai 16 #[.pointer (some ab)] w (λv w'=>v=L.length/\w=w'):=by
 refine okF (ag.mL (some ab)) az.mL func16 ?_;delta ag.mL g9 b9;refine(Bl a).use ?_;rintro _ _ ⟨rfl,rfl⟩;refine⟨_,rfl,(Gw h).use ?_⟩;rintro _ _ ⟨rfl,rfl⟩;exact⟨_,rfl,by rw[h.keys],rfl⟩
theorem GK{a:ah}(s:Int)(p:bQ)(w:J):aH ai 87 #[.pointer (some a),s,.agg p.c.toArray] w (λv w'=>Ext w w'/\((e2 s p=false/\v=.tuple #[(),false])\/(e2 s p=true/\∃t:ad,v=.tuple #[t,true]/\aW 1 5 w' t (aA (fx s.toNat p))/\∀q,aC t q->w.heap.size<=q))):=by
 refine ag.yT (some a) s _ w _ ?_;delta ag.oh ao aa fW;refine a_ (vs:=p.c) rfl λw1 e b i=>⟨λh=>(by cases h),λ_=>⟨p.c,e.rd (bQ.bK _),(kr s p w1).use ?_⟩⟩;rintro _ j ⟨d,⟨hg,rfl⟩|⟨hg,t,rfl,f,hf⟩⟩
 .exact⟨⟨none,0,0⟩,false,rfl,b.trans d,.inl ⟨hg,rfl⟩⟩
 .exact⟨t,true,rfl,b.trans d,.inr ⟨hg,t,rfl,f,λq g=>eo b.size (hf q g)⟩⟩
end
theorem xh{s:Int}{p:bQ}(h:e2 s p=true):∃k:Nat,s=(k:Int)/\k<=65535/\gN p.addr p.bits=some p:=by
 unfold e2 at h;rw[dt,cx]at h;obtain⟨k,h1,a⟩:=oV h.2;exact⟨k,h1,a,h.1⟩
theorem GL{s b:Int}{p a:bQ}(h:e2 s p=true)(l:e2 b a=true)(he:fx s.toNat p=fx b.toNat a):s=b/\p=a:=by
 obtain⟨k,rfl,m,c⟩:=xh h;obtain⟨d,rfl,n,f⟩:=xh l;rw[dQ,dQ]at he;have h1:=wi m p;rw[he,wi n a]at h1;have g:=wj k p;rw[he,wj d a]at g;have i:=wk k p;rw[he,wk d a]at i;have o:p.addr=a.addr:=by
  have j:=wh (vI c).2.1;rw[←i,wh (vI f).2.1]at j;exact(Option.some.inj j).symm
 have cg:=tU c;have bH:=tU f;have q:p.bits=a.bits:=by
  have e:=congrArg UInt8.toNat (Option.some.inj g);rw[pD,pD]at e;omega
 refine⟨I,?_⟩
 cases p;cases a
 simp_all
def aU.kv(t:aU):aS:=(fx t.s.toNat t.p,iq t.b.toNat t.u)
section
variable {T:O aU}{s:Int}{p:bQ}
theorem GM{t:aU}(ht:e2 t.s t.p=true)(hg:e2 s p=true):decide (t.kv.1=fx s.toNat p)=gC s p t:=by
 unfold gC;rw[fD,dt,cx,cx,cx];exact⟨λh=>GL ht hg h,λh=>by show fx t.s.toNat t.p=_;rw[h.1,h.2]⟩
theorem Bm(c:∀t∈T,e2 t.s t.p=true)(hg:e2 s p=true):gy (T.map aU.kv) (fx s.toNat p)=(T.find? (gC s p)).map λt=>iq t.b.toNat t.u:=by
 unfold gy
 induction T with
 |nil=>rfl
 |cons t T a=>
  have a:=a λx hx=>c x (jg _ hx);rw[gF,List.find?_cons,List.find?_cons,GM (c t (List.mem_cons_self)) hg]
  cases gC s p t with
  |true=>rfl
  |false=>exact a
end
def jN(T:O aU)(t:aU):O aU:=(T.filter λx=>decide (bR x.kv.1 t.kv.1))++t::T.filter λx=>decide (bR t.kv.1 x.kv.1)
theorem Bn(T:O aU)(t:aU):fM (T.map aU.kv) t.kv.1 t.kv.2=(jN T t).map aU.kv:=by
 unfold fM jN;rw[fE,gF,List.filter_map,List.filter_map];rfl
theorem GN{T:O aU}{t x:aU}(h:x∈jN T t):x=t\/x∈T:=by
 unfold jN at h;rcases cM.1 h with h|h
 .exact .inr (gE.1 h).1
 .rcases c8.1 h with h|h
  .exact .inl h
  .exact .inr (gE.1 h).1
theorem Bo{s:Int}{p:bQ}{now:Nat}:∀ (T:O aU),o9 T s p now=match T.find? (gC s p) with|some t=>if t.u<=now then none else some t|none=>none
 | []=>rfl
 |t::T=>by
  have a:=Bo (s:=s) (p:=p) (now:=now) T
  unfold o9 at a⊢
  rw[List.findIdx?_cons,List.find?_cons]
  cases b:gC s p t with
  |true=>rfl
  |false=>
   show(match (T.findIdx? (gC s p)).map (· +1) with|some i=>if ((t::T).getD i aU.zero).u<=now then none else some ((t::T).getD i aU.zero)|none=>none)=_
   rw[←a]
   cases T.findIdx? (gC s p)<;>rfl
theorem Bp{k:Nat}{p:bQ}:cU (fx k p):=by
 have h:=tX k p;have a:=vH p.addr;unfold cU;omega
section
variable {T A B:O aU}{t x:aU}{i m now:Nat}{fr:Key}
def xi(T:O aU):Prop:=T.Pairwise λa b=>bR a.kv.1 b.kv.1
theorem Bq:ij (T.map aU.kv)↔xi T:=List.pairwise_map
end
def aU.ok(t:aU):Prop:=t.eN=true/\t.u<18446744073709551616
theorem aU.ok.k{t:aU}(h:t.ok):e2 t.s t.p=true:=by have:=h.1;unfold aU.eN at this;rw[dt]at this;exact this.1
theorem aU.ok.b{t:aU}(h:t.ok):jE t.b=true:=by have:=h.1;unfold aU.eN at this;rw[dt]at this;exact this.2
def pd(S:cl)(cY:O aU)(aF:cl)(gw:O aU):Prop:=(aF.u.da=S.u.da/\gw=cY)\/S.u.da<aF.u.da
theorem pd.trans{S aF c:cl}{cY gw d:O aU}(h:pd S cY aF gw)(e:pd aF gw c d):pd S cY c d:=by
 rcases h with ⟨a,rfl⟩|a<;>rcases e with ⟨b,rfl⟩|b
 .exact .inl ⟨b.trans a,rfl⟩
 .exact .inr I
 .exact .inr I
 .exact .inr I
structure eL(w0 w:J)(bU:Nat->Prop)(d n:Nat)(l:e7)(ab most:Nat)(S:cl)(pages aM:O Nat)(T cY:O aU)(c:Nat):Prop where
 s:gv w0 w bU d n l S pages (T.map aU.kv) aM (cY.map aU.kv) c
 live:S.failed=false
 q:S.T.C.D.quiet
 uE:bU ab
 v:Var w ab [.pointer (some S.st),most] 134
 ok:∀t∈T,t.ok
 xj:∀t∈cY,t.ok
 uF:S.pending<l.batch
 xk:S.pending=0->T=cY
 fy:T.length<=most/\cY.length<=most
 q4:1<=most/\most<=400
 cp:n=4*most+64
 xl:xi T
section
variable {w0 w w':J}{bU:Nat->Prop}{d n ab most k c:Nat}{l:e7}{S aF:cl}{pages eQ aM hM:O Nat}{T ax cY gw:O aU}{tk ek:ad}{key:Key}{v:Y}{s:Int}{p:bQ}
theorem eL.ext(h:eL w0 w bU d n l ab most S pages aM T cY c)(hx:Ext w w'):eL w0 w' bU d n l ab most S pages aM T cY c:={h with s:=h.s.ext hx,v:=h.v.ext hx}
theorem eL.mono{e:Nat}(h:eL w0 w bU d n l ab most S pages aM T cY c)(he:c<=e):eL w0 w bU d n l ab most S pages aM T cY e:={h with s:=h.s.mono he}
theorem eL.new(h:eL w0 w bU d n l ab most S pages aM T cY c):∀q,w.heap.size<=q->¬S.T.M q:=λq b a=>by have:=h.s.at_.t.lt a;omega
theorem eL.keys(h:eL w0 w bU d n l ab most S pages aM T cY c):∀t∈T,e2 t.s t.p=true:=λt ht=>(h.ok t ht).k
theorem eL.room(h:eL w0 w bU d n l ab most S pages aM T cY c):kG S≠0:=by
 have h1:=h.fy;have e:=h.s.at_.room;have a:=h.s.at_.ok.low (by rw[dJ];have:=h.q4;omega);have b:=h.s.at_.fB.low;have f:=h.s.n;have g:=h.cp;rw[dJ]at a b;unfold kG;omega
theorem eL.step(h:eL w0 w bU d n l ab most S pages aM T cY c)(hs:dP w' aF eQ (ax.map aU.kv) hM (gw.map aU.kv))(hd:dA k S aF w w')(f:k<=20000)(u:ax.length<=T.length+1)(a:gw=cY\/gw=ax)(g:ax.length<=most)(hg:aF.gen<=S.gen+1)(i:aF.pending<=S.pending+1)(hf:aF.failed=false)(b:∀t∈ax,t.ok)(j:aF.pending<l.batch)(m:aF.pending=0->ax=gw):
 eL w0 w' bU d n l ab most aF eQ hM ax gw (c+1):=by
 have o:=h.s.fy;rw[dJ,dJ]at o;have e:=h.s.uD h.uE;have p:gw.length<=c+1/\gw.length<=most:=by
  have:=h.fy;rcases a with rfl|rfl<;>omega
 refine⟨h.s.step hs hd f (by rw[dJ,dJ];omega) hg i,hf,hd.q h.q,h.uE,?_,b,?_,j,m,⟨g,p.2⟩,h.q4,h.cp,Bq.1 (hs.ok.rising)⟩
 .rw[hd.st]
  exact h.v.af hd.af λr=>e.2 (r.2 e.1)
 .rcases a with rfl|rfl
  .exact h.xj
  .exact b
theorem eL.read(h:eL w0 w bU d n l ab most S pages aM T cY c)(hs:dP w' aF pages (T.map aU.kv) aM (cY.map aU.kv))(hd:dA k S aF w w')(b:k<=20000)(hg:aF.gen=S.gen)(a:aF.pending=S.pending)(hf:aF.failed=S.failed):eL w0 w' bU d n l ab most aF pages aM T cY (c+1):=
 h.step hs hd b I (.inl rfl) h.fy.1 I I (hf.trans h.live) h.ok (by rw[a];exact h.uF) (by rw[a];exact h.xk)
def gD(w0:J)(bU:Nat->Prop)(d n:Nat)(l:e7)(ab most:Nat)(S:cl)(cY ax:O aU)(w:J)(c:Nat)(w':J):Prop:=
 ∃ (k:Nat) (aF:cl) (eQ hM:O Nat) (gw:O aU),eL w0 w' bU d n l ab most aF eQ hM ax gw c/\dA k S aF w w'/\aF.now=S.now/\pd S cY aF gw
theorem eL.more(h:eL w0 w bU d n l ab most S pages aM T cY c)(a:mc S aF eQ (ax.map aU.kv) aM (cY.map aU.kv) v w')(hd:dA k S aF w w')(b:aF.now=S.now)(f:k<=20000)(g:ax.length<=T.length+1)(i:ax.length<=most)(j:∀t∈ax,t.ok):
 v=.int .i64 0/\gD w0 bU d n l ab most S cY ax w (c+1) w':=by
 have p:=h.s.at_.num.2.2.2.2.2.2;have m:=h.s.lim;rcases a with ⟨rfl,h1,hs,hf,hg,hu,o,_⟩|a
 .exact⟨rfl,k,aF,eQ,aM,cY,h.step hs hd f g (.inl rfl) i I I hf j (by rw[←m];omega) (λe=>I),hd,b,.inl ⟨by rw[hu],rfl⟩⟩
 .obtain⟨rfl,_,hs,hf,hg,_,r,o⟩:=a.GG h.q
  exact⟨rfl,k,aF,eQ,eQ,ax,h.step hs hd f g (.inr rfl) i I I hf j (by rw[←m];omega) (λ_=>rfl),hd,b,.inr I⟩
theorem eL.put{t:aU}(h:eL w0 w bU d n l ab most S pages aM T cY c)(ht:t.ok)(hlen:(jN T t).length<=most/\(jN T t).length<=T.length+1)(hc:c<=30000)(f:Src 1 w tk (aA (fx t.s.toNat t.p)))(g:∀q,aC tk q->q<w.heap.size/\¬S.T.M q)(i:Src 1 w ek (aA (iq t.b.toNat t.u)))(j:∀q,aC ek q->q<w.heap.size/\¬S.T.M q):
 aH ai 23 #[.pointer (some S.st),tk,ek] w (λv w'=>v=.int .i64 0/\gD w0 bU d n l ab most S cY (jN T t) w (c+1) w'):=by
 have k:=h.s.at_.num.2.2.2.2.1;have m:=h.s.lim;have z:=h.uF;have A:=h.s.aR;have B:=h.s.gen;refine(GB (key:=fx t.s.toNat t.p) (val:=iq t.b.toNat t.u) h.s.at_ (by rw[dJ];have:=h.fy.1;have:=h.q4;omega) (by rw[m]at k;omega) I I f g i j).mono ?_;rintro v w' (⟨_,o,_⟩|⟨_,⟨hf,_⟩|⟨_,aF,hd,r,⟨_,y,_⟩|⟨_,eQ,a⟩⟩⟩)
 .exact absurd ⟨Bp,by rw[oW];decide⟩ o
 .rw[h.live]at hf;cases hf
 .exact absurd y h.room
 .rw[show fM (T.map aU.kv) (fx t.s.toNat t.p) (iq t.b.toNat t.u)=(jN T t).map aU.kv from Bn T t]at a
  exact h.more a hd r I hlen.2 hlen.1 λx hx=>(GN hx).elim (λe=>e▸ht) (h.ok x)
theorem eL.get(h:eL w0 w bU d n l ab most S pages aM T cY c)(hg:e2 s p=true)(hc:c<=30000)(g:Src 1 w tk (aA (fx s.toNat p)))(i:∀q,aC tk q->q<w.heap.size/\¬S.T.M q):
 aH ai 55 #[.pointer (some S.st),tk] w (λv w'=>(∃ (t:ad),v=.tuple #[t,.bool (T.find? (gC s p)).isSome,(0:Int)]/\∀x,T.find? (gC s p)=some x->Src 1 w' t (aA (iq x.b.toNat x.u))/\t.len<=t.cap)/\gD w0 bU d n l ab most S cY T w (c+1) w'):=by
 have o:=h.s.aR;have f:=Bm h.keys hg;refine(Gz h.s.at_ I g i).mono ?_;rintro v w' ⟨aD,hs,hd,_,_,_,_,j⟩;have ar:gD w0 bU d n l ab most S cY T w (c+1) w':=⟨30,_,pages,aM,cY,h.read hs hd I rfl rfl rfl,hd,rfl,.inl ⟨rfl,rfl⟩⟩;rcases j with ⟨rfl,a⟩|⟨t,x,rfl,_,a,ht⟩|⟨_,_,k⟩
 .have a:=a Bp
  rw[f,Option.map_eq_none_iff]at a;rw[a];exact⟨⟨⟨none,0,0⟩,rfl,λx e=>(by cases e)⟩,ar⟩
 .rw[f]at a
  obtain⟨y,m,rfl⟩:=q9.1 a;rw[m];exact⟨⟨t,rfl,λz e=>by cases e;exact⟨ht.1,ht.2.1⟩⟩,ar⟩
 .exact absurd (h.q.1 30) k
end
section
variable {w0 w w' w1:J}{bU:Nat->Prop}{d n ab most k c q:Nat}{l:e7}{S aF cJ:cl}{pages eQ aM hM:O Nat}{T ax cY gw nx:O aU}{tk ek:ad}{key:Key}{v:Y}{s:Int}{p:bQ}{vs:O Y}
theorem eL.xm(h:eL w0 w bU d n l ab most S pages aM T cY c)(hx:Ext w w')(e:Nat):gD w0 bU d n l ab most S cY T w (c+e) w':=⟨0,S,pages,aM,cY,(h.ext hx).mono (Nat.le_add_right _ _),.ext S hx,rfl,.inl ⟨rfl,rfl⟩⟩
theorem gD.cat(hd:dA k S cJ w w1)(a:cJ.now=S.now)(hg:pd S cY cJ nx)(h:gD w0 bU d n l ab most cJ nx ax w1 c w'):gD w0 bU d n l ab most S cY ax w c w':=by
 obtain⟨cq,dk,dd,bl,b2,b,d2,bf,e⟩:=h;exact⟨k+cq,dk,dd,bl,b2,b,hd.trans d2,bf.trans a,hg.trans e⟩
theorem gD.pre(hx:Ext w w1)(h:gD w0 bU d n l ab most S cY ax w1 c w'):gD w0 bU d n l ab most S cY ax w c w':=gD.cat (.ext S hx) rfl (.inl ⟨rfl,rfl⟩) h
theorem gD.post(h:gD w0 bU d n l ab most S cY ax w c w1)(hx:Ext w1 w'):gD w0 bU d n l ab most S cY ax w c w':=by
 obtain⟨cq,dk,dd,bl,b2,a,d2,bf,b⟩:=h;exact⟨cq+0,dk,dd,bl,b2,a.ext hx,d2.trans (.ext dk hx),bf,b⟩
theorem cl.GO{b:Nat}(c:∀q,S.T.E q↔q=S.st\/bU q)(a:(S.own λq=>bU q\/q=b).T.M q):S.T.M q\/q=b:=by
 rcases a with a|a|a|a|a
 .exact .inl (.inl a)
 .exact .inl (.inr (.inl a))
 .exact .inl (.inr (.inr (.inl a)))
 .rcases(show q=S.st\/bU q\/q=b from a) with h|h|h
  .exact .inl (.inr (.inr (.inr (.inl ((c q).2 (.inl h))))))
  .exact .inl (.inr (.inr (.inr (.inl ((c q).2 (.inr h))))))
  .exact .inr h
 .exact .inl (.inr (.inr (.inr (.inr a))))
theorem eL.scope{b:Nat}(h:eL w0 w bU d n l ab most S pages aM T cY c)(hx:Ext w w1)(u:w.heap.size<=b/\b<w1.heap.size):eL w0 w1 (λq=>bU q\/q=b) d n l ab most (S.own λq=>bU q\/q=b) pages aM T cY c/\
 (∀q,w.heap.size<=q->q≠b->¬(S.own λq=>bU q\/q=b).T.M q)/\(∀q,w.heap.size<=q->¬(S.own λq=>bU q\/q=b).W q)/\
 ∀ {aj i:J}{e:Nat}{ax:O aU},gD w0 (λq=>bU q\/q=b) d n l ab most (S.own λq=>bU q\/q=b) cY ax w1 e aj->ae (λq=>q=b) aj i->gD w0 bU d n l ab most S cY ax w e i:=by
 have j:∀q,(S.own λq=>bU q\/q=b).T.M q->S.T.M q\/q=b:=λq a=>cl.GO h.s.E a;have A:=h.s.at_.v.lt;have p:∀q,w.heap.size<=q->q≠b->¬(S.own λq=>bU q\/q=b).T.M q:=λq a m x=>(j q x).elim (h.new q a) m;refine⟨⟨h.s.grow hx λq a=>a.imp id λe=>by rw[e];exact u,h.live,h.q,.inl h.uE,h.v.ext hx,h.ok,h.xj,h.uF,h.xk,h.fy,h.q4,h.cp,h.xl⟩,p,λq a g=>?_,λ{aj i e ax} y hc=>?_⟩
 .by_cases e:q=b
  .have:q=S.st:=g.2 (.inr (.inr e))
   omega
  .exact p q a e g.1
 obtain⟨k,dk,dd,bl,b2,f,d2,bf,z⟩:=y;have m:¬ab=b:=by have:=h.v.lt;omega
 have B:=hx.size;refine⟨k,dk.own bU,dd,bl,b2,⟨(f.s.jL (.inr rfl) hc).grow (.refl _ _) λq a=>.inl (.inl a),f.live,f.q,h.uE,f.v.af hc m,f.ok,f.xj,f.uF,f.xk,f.fy,f.q4,f.cp,f.xl⟩,⟨d2.st,d2.d,d2.n,d2.l,d2.aR,d2.q,?_,λq a=>?_,?_,d2.G,d2.r⟩,bf,z⟩
 .refine cV (cV (hx.mono λ_ _ h=>h.elim) d2.af λq a g=>⟨(j q g.1).resolve_right I,λhe=>g.2 ?_⟩) hc λq a e=>absurd a I
  rcases(h.s.E q).1 he with e|e
  .exact .inl e
  .exact .inr (.inl e)
 .rcases cl.Bk (k:=w.heap.size) f.s.E (λq a=>.inl (.inl a)) a with o|o
  .rcases d2.de q o with t|t
   .exact(j q t).imp id λe=>by omega
   .exact .inr I
  .exact .inr o
 .funext q
  rw[show(dk.own bU).T.E q=(q=dk.st\/bU q) from rfl,d2.st];exact(propext (h.s.E q)).symm
theorem pe(a:Var w q vs 29)(b:vs.length=21)(t:aU){K:O Y->J->Prop}(f:∀w',ae (λx=>x=q) w w'->K t.c w'):bj w q (Array.toList t.c.toArray)/\Array.size t.c.toArray=21/\al (setCells w q 0 (Array.toList t.c.toArray)) λd=>∃e:O Y,bz d q 0 21=some e/\K e d:=
 ⟨a.bV (by simp[aU.bK,b]) (aU.plain t),by simp[aU.bK],cm a (us:=t.c) (by simp[aU.bK,b]) rfl λw' g h _=>⟨t.c,g.rd (aU.bK t),f w' h⟩⟩
theorem uG(t:aU){K:J->Prop}(d:∀w',Var w' w.heap.size t.c 29->Ext w w'->K w'):al (w.alloc (.cells aU.zero.c.toArray 29)) λa=>bj a w.heap.size (Array.toList t.c.toArray)/\Array.size t.c.toArray=21/\al (setCells a w.heap.size 0 (Array.toList t.c.toArray)) K:=
 a_ (vs:=aU.zero.c) rfl λw1 b hx _=>⟨b.bV (by simp[aU.bK]) (aU.plain t),by simp[aU.bK],cm b (us:=t.c) (by simp[aU.bK]) rfl λw' e f _=>d w' e (Ext.cy hx f (bm _))⟩
theorem GP{x:aU}(hx:x.ok)(a:Src 1 w tk (aA (fx x.s.toNat x.p)))(g:tk.len<=tk.cap)(d:Src 1 w ek (aA (iq x.b.toNat x.u)))(h:ek.len<=ek.cap):aH ai 88 #[tk,ek] w (λv w'=>v=.tuple #[.agg x.c.toArray,true]/\Ext w w'):=by
 obtain⟨k,e,_⟩:=xh hx.k;obtain⟨j,f,i⟩:=oV hx.b;have hg:=hx.k;have hu:=hx.2;obtain⟨s,p,b,u⟩:=x;dsimp only at e f hg hu a d;subst e f;rw[dQ]at a d;exact om a g d h hg i hu
theorem GQ{x:aU}(h:gC s p x=true):x.s=s/\x.p=p:=by
 unfold gC at h;rwa[dt,cx,cx]at h
theorem Br{now:Nat}(h:eL w0 w bU d n l ab most S pages aM T cY c)(hc:c<=30000)(s:Int)(p:bQ):aH ai 27 #[.pointer (some ab),s,.agg p.c.toArray,.int .u64 (now:Nat)] w (λv w'=>gD w0 bU d n l ab most S cY T w (c+1) w'/\
 v=if e2 s p then .tuple #[.agg ((o9 T s p now).getD aU.zero).c.toArray,.bool (o9 T s p now).isSome,(0:Int)] else .tuple #[.agg aU.zero.c.toArray,false,(1:Int)]):=by
 refine ag.yS (some ab) s _ (now:Nat) w _ ?_;(delta ag.ob fm aa fW ao kp ig b4;dsimp only);refine a_ (vs:=p.c) rfl λw1 K z Y=>a_ (vs:=aU.zero.c) rfl λaj A B Z=>⟨p.c,(K.ext B).rd (bQ.bK _),(GK s p aj).use ?_⟩;have i:=z.trans B;have j:=z.size;have ac:=i.size;rintro _ L ⟨e,⟨hg,rfl⟩|⟨hg,tk,rfl,g,hf⟩⟩
 .refine⟨⟨none,0,0⟩,false,rfl,λ_=>⟨_,tW L,pe (A.ext e) (aU.bK _) aU.zero λm a=>⟨h.xm (Ext.cy (i.trans e) a j) 1,by rw[hg];rfl⟩⟩,λh=>(by cases h)⟩
 have M:=i.trans e;have ad:=e.size;obtain⟨C,N,D,o⟩:=h.scope (b:=w1.heap.size) M ⟨j,I⟩;refine⟨tk,true,rfl,λh=>(by cases h),λ_=>⟨_,rfl,_,C.v.cell,(C.get hg hc g.src λq f=>⟨g.lt q f,N q (by have:=hf q f;omega) (by have:=hf q f;omega)⟩).use ?_⟩⟩;rintro _ O ⟨⟨ek,rfl,ib⟩,r⟩;have P:=r;obtain⟨k,cJ,ae,br,bX,h1,d1,bM,av⟩:=P;have E:=(A.ext e).af d1.af (D _ j);have Q:=g.src.af d1.af λq f=>D q (by have:=hf q f;omega);rw[if_pos hg,Bo]
 cases t:T.find? (gC s p) with
 |none=>exact⟨ek,false,0,rfl,λ_=>⟨_,tW O,pe E (aU.bK _) aU.zero λm a=>⟨o r a,rfl⟩⟩,λh=>(by cases h)⟩
 |some x=>
  have hx:=h.ok x (iy t);obtain⟨rfl,rfl⟩:=GQ (jo t);obtain⟨R,U⟩:=ib x t;refine⟨ek,true,0,rfl,λh=>(by cases h),λ_=>(GP hx Q g.2.1 R U).use ?_⟩;rintro _ ah ⟨rfl,V⟩;refine⟨_,true,rfl,uG x λW F X=>⟨λh=>(by cases h),λ_=>?_⟩⟩;have G:=V.trans X;have H:=E.ext G;have J:=r.post G;refine⟨_,zC F,λy=>⟨_,tW W,pe H (aU.bK _) aU.zero λm a=>⟨o J a,?_⟩⟩,λy=>⟨x.c,F.rd (aU.bK x),pe H (aU.bK _) x λm a=>⟨o J a,?_⟩⟩⟩
  .have:x.u<=now:=by have:=cw y;omega
   simp only[if_pos this];rfl
  .have:¬x.u<=now:=by have:=cT y;omega
   simp only[if_neg this];rfl
end
def ke(T:O aU)(most:Nat)(t:aU):Int:=if t.eN then (if (T.find? (gC t.s t.p)).isSome then 0 else if most<=T.length then 2 else 0) else 1
def ny(T:O aU)(most:Nat)(t:aU):O aU:=if ke T most t=0 then jN T t else T
theorem GR{T:O aU}{t:aU}(b:xi T)(c:∀t∈T,e2 t.s t.p=true)(hg:e2 t.s t.p=true):(jN T t).length=if (T.find? (gC t.s t.p)).isSome then T.length else T.length+1:=by
 have h1:=xe t.kv.1 t.kv.2 (T.map aU.kv);have a:=xf (k:=t.kv.1) (Bq.2 b);rw[Bn,dJ]at h1;rw[dJ,show gy (T.map aU.kv) t.kv.1=_ from Bm c hg]at a;rw[h1]
 cases hf:T.find? (gC t.s t.p) with
 |none=>rw[hf]at a;simp at a⊢;omega
 |some x=>rw[hf]at a;simp at a⊢;omega
section
variable {w0 w w' w1:J}{bU:Nat->Prop}{d n ab most k c q:Nat}{l:e7}{S aF cJ:cl}{pages eQ aM hM:O Nat}{T ax cY gw nx:O aU}{s:Int}{p:bQ}
theorem GS(h:eL w0 w bU d n l ab most S pages aM T cY c)(hc:c<=20000){t:aU}(hu:t.u<18446744073709551616):aH ai 15 #[.pointer (some ab),.agg t.c.toArray] w (λv w'=>v=.int .i64 (ke T most t)/\gD w0 bU d n l ab most S cY (ny T most t) w (c+2) w'):=by
 refine ag.Cw (some ab) _ w _ ?_;(delta ag.lM ao aa b_ aE fW b4 kp b9;dsimp only);refine a_ (vs:=t.c) rfl λw1 C O ae=>cC (λb w'=>b= !t.eN/\Ext w1 w') (λk P=>⟨λh=>(by cases h),λ_=>⟨t.c,C.rd (aU.bK t),(mO t w1).use λv w' a=>by obtain⟨rfl,hx⟩:=a;exact⟨t.eN,rfl,P _ _ ⟨rfl,hx⟩⟩⟩⟩) ?_;rintro _ Q ⟨rfl,D⟩;have x:=O.trans D;refine⟨λg=>?_,λg=>?_⟩
 .have hg:t.eN=false:=by rwa[iK]at g
  have e:ke T most t=1:=by unfold ke;rw[hg];rfl
  refine⟨by rw[e],?_⟩;unfold ny;rw[e];exact h.xm x 2
 have hg:t.eN=true:=by rwa[nH]at g
 have ht:t.ok:=⟨hg,hu⟩;have y:=C.ext D;refine⟨_,y.cell,_,wg y,(kr t.s t.p Q).use ?_⟩;rintro _ R ⟨E,⟨hf,_⟩|⟨_,tk,rfl,U,z⟩⟩
 .rw[ht.k]at hf;cases hf
 have F:=y.ext E;refine⟨tk,true,rfl,_,zB F,_,zC F,(od t.b hu R).use ?_⟩;rintro _ V (⟨hf,_⟩|⟨_,ek,rfl,A,j,G⟩)
 .rw[ht.b]at hf;cases hf
 have m:=x.trans E;have H:=h.ext (m.trans j);have ah:=x.size;have aj:=m.size;have ak:=(m.trans j).size;have o:=U.ext j;refine⟨ek,true,rfl,_,rfl,_,H.v.cell,(H.get ht.k I o.src λq a=>⟨o.lt q a,h.new q (by have:=z q a;omega)⟩).use ?_⟩;rintro _ J ⟨⟨X,rfl,_⟩,k,cJ,al,br,bX,h1,d1,bM,av⟩;have K:∀q,w.heap.size<=q->¬S.W q:=λq a Y=>h.new q a Y.1;have L:∀q,w.heap.size<=q->q<V.heap.size->¬cJ.T.M q:=λq a i B=>(d1.de q B).elim (h.new q a) λ_=>by omega
 have Z:=o.src.af d1.af λq a=>K q (by have:=z q a;omega);have ac:=A.src.af d1.af λq a=>K q (by have:=G q a;omega);have am:=d1.af.size;have f:=cL J;have N:ke T most t=0->aH ai 23 #[.pointer (some cJ.st),tk,ek] J.drew (λv w'=>v=.int .i64 (ke T most t)/\gD w0 bU d n l ab most S cY (ny T most t) w (c+2) w'):=λhe=>by
  have i:=GR h.xl h.keys ht.k;have B:(jN T t).length<=most/\(jN T t).length<=T.length+1:=by
   have:=h.fy.1;unfold ke at he;rw[hg,if_pos rfl]at he;rw[i];split
   .omega
   .rename_i hs
    rw[if_neg hs]at he;split at he
    .cases he
    .omega
  refine((h1.ext f).put ht B I (Z.ext f) (λq a=>⟨?_,L q (by have:=z q a;omega) (o.lt q a)⟩) (ac.ext f) λq a=>⟨?_,L q (by have:=G q a;omega) (A.lt q a)⟩).mono ?_
  .have:=o.lt q a;have:=f.size;omega
  .have:=A.lt q a;have:=f.size;omega
  .rintro _ w' ⟨rfl,r⟩
   rw[he];refine⟨rfl,?_⟩;unfold ny;rw[he,if_pos rfl];exact((r.pre f).cat d1 bM av).pre (m.trans j)
 have he:ke T most t=if (T.find? (gC t.s t.p)).isSome then 0 else if most<=T.length then 2 else 0:=by unfold ke;rw[hg,if_pos rfl]
 refine⟨X,_,0,rfl,λh=>(by cases h),λ_=>aY ⟨λ_=>False,λg=>?_,λg=>?_⟩⟩
 .have hs:(T.find? (gC t.s t.p)).isSome=false:=by rwa[iK]at g
  rw[hs]at he;refine⟨_,rfl,id,_,(h1.ext f).v.cell,(GJ (h1.ext f).v (h1.ext f).s.at_).use ?_⟩;rintro _ _ ⟨rfl,rfl⟩;rw[dJ];refine⟨_,rfl,.refl _ _,λi=>?_,λi=>⟨_,rfl,_,(h1.ext f).v.cell,(N ?_).use ?_⟩⟩
  .have:most<=T.length:=by have:=cw i;omega
   have e:ke T most t=2:=by rw[he,if_neg (by decide),if_pos this]
   refine⟨by rw[e],?_⟩;unfold ny;rw[e];exact(((h1.xm f 1)).cat d1 bM av).pre (m.trans j)
  .have:¬most<=T.length:=by have:=cT i;omega
   rw[he,if_neg (by decide),if_neg this]
  .rintro _ ad ⟨rfl,r⟩
   exact⟨_,rfl,rfl,r⟩
 .have hs:(T.find? (gC t.s t.p)).isSome=true:=by rwa[nH]at g
  rw[hs,if_pos rfl]at he;refine⟨λh=>(by cases h),λ_=>⟨_,rfl,_,(h1.ext f).v.cell,(N he).use ?_⟩⟩;rintro _ ad ⟨rfl,r⟩;exact⟨_,rfl,rfl,r⟩
end
structure h6 where
 kind:Int
 t:aU
 fs:ad
 fr:O UInt8
 now:Nat
 n:Int
 ls:ad
 l:O Int
def h6.c(a:h6):O Y:=.int .i64 a.kind::(a.t.c++ [.slice a.fs.a a.fs.len a.fs.cap,.int .u64 (a.now:Nat),.int .i64 a.n,.slice a.ls.a a.ls.len a.ls.cap])
theorem h6.bK(a:h6):a.c.length=26:=by unfold h6.c;simp[aU.bK]
theorem h6.get(a:h6):a.c[22]? =some (.slice a.fs.a a.fs.len a.fs.cap)/\a.c[23]? =some (.int .u64 (a.now:Nat))/\a.c[24]? =some (.int .i64 a.n)/\a.c[25]? =some (.slice a.ls.a a.ls.len a.ls.cap)/\(a.c.drop 1).take 21=a.t.c:=by
 unfold h6.c;have h:=a.t.bK;refine⟨?_,?_,?_,?_,?_⟩
 .rw[nE,g4 I,h];rfl
 .rw[nE,g4 I,h];rfl
 .rw[nE,g4 I,h];rfl
 .rw[nE,g4 I,h];rfl
 .rw[List.drop_succ_cons,ix,pF I,dH I]
section
variable {w0 w w' w1:J}{bU bW:Nat->Prop}{d n ab gM most k c q b1 t0:Nat}{l:e7}{S aF cJ:cl}{pages eQ aM hM:O Nat}{T ax cY gw nx:O aU}{dM:ad}{s:Int}{p:bQ}{fr:O UInt8}{X:h6}
end
structure q5(w:J)(X:h6):Prop where
 f:Src 1 w X.fs (aA X.fr)
 Hb:X.fs.len<=X.fs.cap
 u:X.t.u<18446744073709551616
 q3:X.now<18446744073709551616
 n:X.n<=9223372036854775807
 l:Src 1 w X.ls (X.l.map encZ)
 lc:X.ls.len<=X.ls.cap
 Hc:∀z∈X.l,z<=9223372036854775807
 Bj:∀q,aC X.ls q->w.heap.size<=q->X.l=[]
section
variable {w0 w w' w1:J}{bU bW:Nat->Prop}{d n ab gM most k c q:Nat}{l:e7}{S aF cJ:cl}{pages eQ aM hM:O Nat}{T ax cY gw nx:O aU}{X:h6}
theorem m7{most b:Nat}(o:1<=most/\most<=350)(f:b<256)(w:J):aH ai 14 #[most,.int .u8 (b:Nat)] w (λv w'=>∃ (ab d:Nat) (S:cl),v=.tuple #[.pointer (some ab),.pointer (some d),true]/\eL w w' (λq=>q=ab) d (4*most+64) (pc b) ab most S [] [] [] [] 0/\S.u=iw/\S.now=iw.clock):=by
 refine okF (ag.m7 (most:Nat) (b:Nat)) az.m7 func14 ?_;delta ag.m7 gK au yP;have p:IntKind.wrap .i64 ((IntKind.wrap .i64 (4*(most:Int)))+64)=((4*most+64:Nat):Int):=by
  rw[bB (n:=4*(most:Int)) I I,bB I I];omega
 rw[p,GI f];refine(oa (n:=4*most+64) I I w).use ?_;rintro _ w1 ⟨d,lb,mr,rfl,hd,r,s⟩;refine⟨_,0,rfl,by decide,(m8 (b:=b) (d:=b/16) f I w1).use ?_⟩;rintro _ B ⟨rfl,g⟩;refine⟨_,_,_,rfl,(GD (l:=pc b) (bU:=λ_=>False) (hd.ext g) (GH b) (λk=>⟨.inl rfl,.inl rfl⟩) rfl (by show 0<=999999000;omega) (λq h=>h.elim)).use ?_⟩;rintro _ c ⟨e,rfl,x,a,hu,hg⟩;have i:=gv.new (w0:=w) (r.trans g) x a hu hg (λq j=>s q j) (λq h=>h.elim) rfl rfl;have y:(o3 (4*most+64) d lb mr).n=4*most+64:=by show(List.replicate _ gT).length=_;rw[lu]
 rw[y]at i;refine⟨_,0,rfl,(lN c (most:Nat)).use ?_⟩;rintro _ C ⟨z,⟨A,_⟩|⟨_,rfl,m⟩⟩
 .exfalso
  rcases A with h|h|h
  .cases h
  .omega
  .omega
 have D:=m.lt;refine⟨_,0,rfl,c.heap.size,d,e.own λq=>q=c.heap.size,rfl,⟨i.grow z λq j=>.inr I,a.live,a.q,rfl,m,λt ht=>(by cases ht),λt ht=>(by cases ht),?_,λ_=>rfl,⟨cZ _,cZ _⟩,⟨o.1,I⟩,rfl,List.Pairwise.nil⟩,hu,a.now.trans (by rw[hu])⟩;rw[show(e.own λq=>q=c.heap.size).pending=e.pending from rfl,a.nv];show 0<1+b%12;omega
end
def jO:bQ:=⟨⟨false,[0,0,0,0,0,0,0,0,0,0,0,0,10,0,0,0],rfl⟩,8⟩
def jP(u:Nat):aU:=⟨1,jO,2,u⟩
theorem k0(u:Nat)(w:J):aH ai 68 #[.int .u64 (u:Nat)] w (λv w'=>v=.agg (jP u).c.toArray/\Ext w w'):=by
 refine okF (ag.k0 (u:Nat)) az.k0 func68 ?_;delta ag.k0 fm aa;refine a_ (vs:=aU.zero.c) rfl λw1 a d e=>⟨(aA jO.addr.b).toArray,by kernel_rfl,jO.addr.c.toArray,by kernel_rfl,jO.c.toArray,by kernel_rfl,_,zD w1 jO 1 2 u,pe a (aU.bK _) (jP u) λw' hc=>⟨rfl,Ext.cy d hc (bm _)⟩⟩
theorem xn(u:Nat):Array.extract (jP u).c.toArray 1 (1+18)=jO.c.toArray:=by rfl
theorem GU(w:J):aH ai 17 #[] w (λv w'=>v=true/\Ext w w'):=by
 refine ag.C0 w _ ?_;delta ag.qv r8 ao jY b9 qb fm aa;refine(m7 (most:=5) (b:=1) (by decide) (by decide) w).use ?_;rintro _ w1 ⟨ab,d,G,rfl,p,_⟩;refine⟨_,_,_,rfl,λh=>(by cases h),λ_=>(k0 5 w1).use ?_⟩;rintro _ H ⟨rfl,r⟩;refine⟨_,rfl,(GS (p.ext r) I (t:=jP 5) (by decide)).use ?_⟩;have e:ke [] 5 (jP 5)=0:=by decide+kernel
 have u:ny [] 5 (jP 5)=[jP 5]:=by unfold ny;rw[e];rfl
 rw[e,u];rintro _ y ⟨rfl,cr,cJ,K,br,bX,a1,_⟩;refine⟨_,rfl,(k0 5 y).use ?_⟩;rintro _ L ⟨rfl,z⟩;have hg:e2 1 jO=true:=by decide+kernel
 have f4:o9 [jP 5] 1 jO 4=some (jP 5):=by decide+kernel
 have f5:o9 [jP 5] 1 jO 5=none:=by decide+kernel
 have f:=Br (now:=4) (a1.ext z) I 1 jO;rw[if_pos hg,f4,←xn 5]at f;refine⟨_,rfl,f.use ?_⟩;rintro _ g ⟨⟨cq,dk,M,bl,b2,a2,_⟩,rfl⟩;refine⟨_,_,_,rfl,uG (jP 5) λA B C=>(k0 5 A).use ?_⟩;rintro _ N ⟨rfl,i⟩;have D:¬dk.W g.heap.size:=λE=>a2.new _ (bm _) E.1;have j:=Br (now:=5) ((a2.ext C).ext i) I 1 jO;rw[if_pos hg,f5,←xn 5]at j;refine⟨_,rfl,j.use ?_⟩;rintro _ O ⟨⟨P,fz,Q,R,dp,a3,d3,_⟩,rfl⟩;have F:=(B.ext i).af d3.af D;refine⟨_,_,_,rfl,uG aU.zero λk S l=>?_⟩;have m:=cL k;have a:=(F.ext l).ext m;have n:=(a3.ext l).ext m;refine aY ?_;generalize k.drew=c at a n;have T:=a.lt;refine⟨λq=>c.heap.size<=q,λ_=>⟨λ_=>⟨λ_=>⟨λ_=>⟨by show¬c.heap.size<=g.heap.size;omega,_,a.rd (aU.bK _),(k0 5 c).use ?_⟩,λh=>(by cases h)⟩,λh=>(by cases h)⟩,λh=>(by cases h)⟩,λh=>(by cases h)⟩;rintro _ U ⟨rfl,o⟩;refine⟨_,rfl,ae.cP o,_,Gg _ _,?_,n.s.x.trans o⟩;rw[dU rfl];rfl
theorem aU.qB{cs:O Y}(h:hW (.int .i64::(((.bool::j1 16)++ [.int .i64])++ [.int .i64,.int .u64])) cs):∃t:aU,cs=t.c/\t.u<18446744073709551616:=by
 obtain⟨_,us,rfl,⟨s,rfl,_⟩,h⟩:=h;obtain⟨e,t1,rfl,h1,a⟩:=vk h;obtain⟨p,rfl,_⟩:=bQ.qB h1;obtain⟨_,_,rfl,⟨b,rfl,_⟩,_,_,rfl,⟨u,rfl,av,d⟩,rfl⟩:=a;have g:0<=u/\u<=18446744073709551615:=by simpa[IntKind.min,IntKind.max,IntKind.signed,IntKind.bits] using And.intro av d
 obtain⟨k,rfl⟩:∃k:Nat,u=(k:Int):=⟨u.toNat,I⟩;exact⟨⟨s,p,b,k⟩,rfl,by show k<_;omega⟩
theorem pg(cs:O Y)(a n:Nat):cs.drop a=(cs.drop a).take n++cs.drop (a+n):=by
 rw[←jl,gb]
section
variable {w0 w w' w1:J}{bU bW:Nat->Prop}{d n ab gM most k c q i:Nat}{l:e7}{S aF cJ:cl}{pages eQ aM hM:O Nat}{T ax cY gw nx:O aU}{X:h6}{ls:ad}{A:O h6}
set_option maxRecDepth 100000 in
theorem GV {fuel:Nat}{vs:O Y} (h:eZ ai w fuel 60 vs):∃a:h6,vs=a.c/\q5 w a:=by
 have hu:Tryz.prog.underlying 60=some (.struct (fieldsOf ai 60)):=by kernel_rfl
 have hlen:vs.length=26:=by
  have:=(yr h hu).1;rwa[show Tryz.prog.cellsOf 60=26 by kernel_rfl]at this
 obtain⟨_,f0⟩:=n2 h hu 0 (t:=3) (o:=0) (n:=1) (by kernel_rfl) (by kernel_rfl);obtain⟨_,f1⟩:=n2 h hu 1 (t:=29) (o:=1) (n:=21) (by kernel_rfl) (by kernel_rfl);obtain⟨_,f2⟩:=n2 h hu 2 (t:=48) (o:=22) (n:=1) (by kernel_rfl) (by kernel_rfl);obtain⟨_,f3⟩:=n2 h hu 3 (t:=27) (o:=23) (n:=1) (by kernel_rfl) (by kernel_rfl);obtain⟨_,f4⟩:=n2 h hu 4 (t:=3) (o:=24) (n:=1) (by kernel_rfl) (by kernel_rfl);obtain⟨_,f5⟩:=n2 h hu 5 (t:=58) (o:=25) (n:=1) (by kernel_rfl) (by kernel_rfl);obtain⟨q,r,_⟩:=p3 f0 (k:=.i64) (by kernel_rfl);obtain⟨t,s,u⟩:=aU.qB (vl 8 (ls:=.int .i64::(((.bool::j1 16)++ [.int .i64])++ [.int .i64,.int .u64])) (by kernel_rfl) (by kernel_rfl) f1);obtain⟨d2,v,d⟩:=yq f2 (e:=5) (by kernel_rfl);obtain⟨b,x,b4⟩:=p3 f3 (k:=.u64) (by kernel_rfl);obtain⟨cp,y,_,z⟩:=p3 f4 (k:=.i64) (by kernel_rfl);obtain⟨d5,A,f⟩:=yq f5 (e:=3) (by kernel_rfl);obtain⟨B,cq⟩:=F1 d;obtain⟨C,g,ee⟩:=GF f;have b4:0<=b/\b<=18446744073709551615:=by simpa[IntKind.min,IntKind.max,IntKind.signed,IntKind.bits] using b4
 obtain⟨i,rfl⟩:∃k:Nat,b=(k:Int):=⟨b.toNat,I⟩;refine⟨⟨q,t,d2,B,i,cp,d5,C⟩,?_,cq,d.le,u,by show i<_;omega,z,g,f.le,ee,Src.Bj g⟩;have h0:=pg vs 0 1;have h1:=pg vs 1 21;have j:=pg vs 22 1;have l:=pg vs 23 1;have m:=pg vs 24 1;have p:=pg vs 25 1;have D:vs.drop 26=[]:=rf I;rw[r]at h0;rw[s]at h1;rw[v]at j;rw[x]at l;rw[y]at m;rw[A,D]at p;rw[ix]at h0;rw[h0,h1,j,l,m,p];rfl
end
def GW(i:Nat):bQ:=⟨⟨false,[0,0,0,0,0,0,0,0,0,0,0,0,10,0,0,UInt8.ofNat i],rfl⟩,32⟩
def iU(i b u:Nat):aU:=⟨7,GW i,(b:Nat),u⟩
section
variable {w0 w w' w1:J}{bU bW:Nat->Prop}{d n ab gM most k c q i:Nat}{l:e7}{S aF cJ:cl}{pages eQ aM hM:O Nat}{T ax cY gw nx:O aU}{X:h6}{t x:aU}
theorem Bt(s:Int)(p:bQ)(w:J):aH ai 87 #[.pointer none,s,.agg p.c.toArray] w (λv w'=>v=.tuple #[(),false]/\Ext w w'):=by
 refine ag.yT none s _ w _ ?_;delta ag.oh ao aa fW;exact a_ (vs:=p.c) rfl λw1 b a d=>⟨λh=>⟨rfl,a⟩,λh=>(by cases h)⟩
theorem GX(s:Int)(p:bQ)(now:Nat)(w:J):aH ai 27 #[.pointer none,s,.agg p.c.toArray,.int .u64 (now:Nat)] w (λv w'=>v=.tuple #[.agg aU.zero.c.toArray,false,(1:Int)]/\Ext w w'):=by
 refine ag.yS none s _ (now:Nat) w _ ?_;(delta ag.ob fm aa fW ao kp ig b4;dsimp only);refine a_ (vs:=p.c) rfl λw1 e a j=>a_ (vs:=aU.zero.c) rfl λaj f b k=>⟨p.c,(e.ext b).rd (bQ.bK _),(Bt s p aj).use ?_⟩;rintro _ g ⟨rfl,d⟩;exact⟨⟨none,0,0⟩,false,rfl,λ_=>⟨_,tW g,pe (f.ext d) (aU.bK _) aU.zero λl i=>⟨rfl,Ext.cy ((a.trans b).trans d) i a.size⟩⟩,λh=>(by cases h)⟩
theorem GY(s:Int)(p:bQ)(w:J):aH ai 28 #[.pointer none,s,.agg p.c.toArray] w (λv w'=>v=.tuple #[false,(1:Int)]/\Ext w w'):=by
 refine ag.Cy none s _ w _ ?_;delta ag.qg aa fW ao r7;refine a_ (vs:=p.c) rfl λw1 a b e=>⟨p.c,a.rd (bQ.bK _),(Bt s p w1).use ?_⟩;rintro _ f ⟨rfl,d⟩;exact⟨⟨none,0,0⟩,false,rfl,λ_=>⟨rfl,b.trans d⟩,λh=>(by cases h)⟩
theorem Bu(s:Int)(w:J):aH ai 89 #[.pointer none,s] w (λv w'=>v=.tuple #[(),(1:Int)]/\Ext w w'):=by
 refine okF (ag.sP none s) az.sP func89 ?_;delta ag.sP yL ao dS;refine(ow s w).use ?_;rintro _ w1 ⟨f,t,rfl,a,_⟩;exact⟨f,t,rfl,λ_=>⟨rfl,a⟩,λh=>(by cases h)⟩
theorem GZ(w:J):aH ai 29 #[.pointer none,(1:Int),(2:Int)] w (λv w'=>v=.tuple #[(0:Int),(1:Int)]/\Ext w w'):=by
 refine okF (ag.sB none 1 2) az.sB func29 ?_;delta ag.sB dS ao gk aa;refine a_ (vs:=[(2:Int)]) rfl λa _ b _=>(Bu 1 a).use ?_;rintro _ d ⟨rfl,c⟩;exact⟨⟨none,0,0⟩,1,rfl,λ_=>⟨rfl,b.trans c⟩,λh=>(by cases h)⟩
theorem G0(w:J):aH ai 30 #[.pointer none,(),.int .u64 5,(5:Int)] w (λv w'=>v=.tuple #[(),(0:Int),(1:Int)]/\Ext w w'):=by
 refine okF (ag.sC none ⟨none,0,0⟩ 5 5) az.sC func30 ?_;(delta ag.sC ao dS au r1 aa bG gk;dsimp only);exact a_ (vs:=[.int .u64 5]) rfl λb _ a _=>⟨λ_=>⟨rfl,a⟩,λh=>(by cases h)⟩
theorem G1(w:J):aH ai 31 #[.pointer none,(1:Int)] w (λv w'=>v=.tuple #[(),(1:Int)]/\Ext w w'):=by
 refine okF (ag.sD none 1) az.sD func31 ?_;(delta ag.sD dS ao aL r1 aa ig fm au;dsimp only);refine(Bu 1 w).use ?_;rintro _ b ⟨rfl,a⟩;exact⟨⟨none,0,0⟩,1,rfl,λ_=>⟨rfl,a⟩,λh=>(by cases h)⟩
theorem G2(t:aU)(w:J):aH ai 15 #[.pointer none,.agg t.c.toArray] w (λv w'=>v=.int .i64 1/\Ext w w'):=by
 refine okF (ag.lM none t.c.toArray) az.lM func15 ?_;(delta ag.lM ao aa b_ aE fW b4 kp b9;dsimp only);refine a_ (vs:=t.c) rfl λa _ d _=>cC (λb w'=>b=true/\a=w') (λq e=>⟨λ_=>e _ _ ⟨rfl,rfl⟩,λh=>(by cases h)⟩) ?_;rintro _ _ ⟨rfl,rfl⟩;exact⟨λ_=>⟨rfl,d⟩,λh=>(by cases h)⟩
theorem Bv(w:J):aH ai 32 #[.pointer none] w (λv w'=>v=.pointer none/\w=w'):=by
 refine okF (ag.mN none) az.mN func32 ?_;delta ag.mN ao;exact⟨λ_=>⟨rfl,rfl⟩,λh=>(by cases h)⟩
theorem G3(w:J):aH ai 56 #[.pointer none] w (λv w'=>v=.int .i64 0/\w=w'):=by
 refine okF (ag.oc none) az.oc func56 ?_;(delta ag.oc ao aE;dsimp only);exact⟨λ_=>⟨rfl,rfl⟩,λh=>(by cases h)⟩
theorem G4(w:J):aH ai 16 #[.pointer none] w (λv w'=>v=.int .i64 0/\w=w'):=by
 refine okF (ag.mL none) az.mL func16 ?_;delta ag.mL g9 b9;refine(Bv w).use ?_;rintro _ _ ⟨rfl,rfl⟩;refine⟨_,rfl,(G3 w).use ?_⟩;rintro _ _ ⟨rfl,rfl⟩;exact⟨_,rfl,rfl,rfl⟩
set_option maxRecDepth 100000 in
theorem q5.of {v:Y} (h:lC ai w 60 v):∃X:h6,v=.agg X.c.toArray/\q5 w X:=by
 have hu:Tryz.prog.underlying 60=some (.struct (fieldsOf ai 60)):=by kernel_rfl
 unfold lC at h;rw[hu]at h;obtain⟨cs,rfl,fuel,h⟩:=h;obtain⟨a,e,h⟩:=GV h;exact⟨a,by rw[←e],h⟩
theorem G5(a:Int)(cE:q5 w X):aH ai 5 #[.agg X.c.toArray,a] w (λv w'=>v=true/\Ext w w'):=by
 obtain⟨_,H,_,_,gt⟩:=X.get;have o:∀ {w1:J}{b:Nat},Var w1 b X.c 60->w1.cell? (Addr.add b 1)=some (.int .i64 X.t.s)/\bz w1 ((Addr.add b 1).add 1) 0 18=some X.t.p.c/\w1.cell? (Addr.add b 23)=some (.int .u64 (X.now:Nat))/\bz w1 (Addr.add b 1) 0 21=some X.t.c:=λ{w1 b} n=>by
  have q:bz w1 ⟨b,1,none⟩ 0 21=some X.t.c:=by rw[n.qx (by rw[X.bK];decide),gt]
  have y:=yK q (k:=1) (m:=18) (by decide);have e:(X.t.c.drop 1).take 18=X.t.p.c:=by
   show List.take 18 (X.t.p.c++_)=_;rw[pC (bQ.bK _)]
  rw[e]at y;have z:=p4 q (j:=0) (v:=X.t.s) rfl;rw[kf,add_zero']at z;have I:Addr.add b 1=⟨b,1,none⟩:=by rw[Bd]
  rw[I];exact⟨z,y,by rw[Bd,cS,n.cell];exact H,q⟩
 refine okF (ag.tx X.c.toArray a) az.tx func5 ?_;(delta ag.tx aE aa b4 qb fm r7 gk yO dS ao r8 b9 g9 gK b_;dsimp only);refine a_ (vs:=X.c) rfl λw1 r K Z=>?_;obtain⟨a1,a2,a3,_⟩:=o r;refine⟨_,a1,_,a2,_,a3,(GX X.t.s X.t.p X.now w1).use ?_⟩;rintro _ ac ⟨rfl,L⟩;refine⟨_,_,_,rfl,uG aU.zero λM _ i=>?_⟩;have i:=L.trans i;obtain⟨cg,bH,_,_⟩:=o (r.ext i);refine⟨_,cg,_,bH,(GY X.t.s X.t.p M).use ?_⟩;rintro _ N ⟨rfl,A⟩;refine⟨_,_,rfl,(GZ N).use ?_⟩;rintro _ O ⟨rfl,B⟩;refine⟨_,_,rfl,(G0 O).use ?_⟩;rintro _ P ⟨rfl,C⟩;refine⟨⟨none,0,0⟩,_,_,rfl,(G1 P).use ?_⟩;rintro _ Q ⟨rfl,D⟩;have R:=K.trans ((((i.trans A).trans B).trans C).trans D);refine⟨⟨none,0,0⟩,_,rfl,λh=>(by cases h),λ_=>(m7 (most:=5) (b:=1) (by decide) (by decide) Q).use ?_⟩;rintro _ E ⟨ab,d,ad,rfl,u,_⟩;have S:=((((((r.ext i).ext A).ext B).ext C).ext D).ext u.s.x);refine⟨_,_,_,rfl,cC (λb w'=>b=false/\Ext E w') (λk g=>⟨λh=>(by cases h),λ_=>⟨_,(o S).2.2.2,(G2 X.t E).use ?_⟩⟩) ?_⟩
 .rintro _ ae ⟨rfl,T⟩
  exact⟨_,rfl,g _ _ ⟨rfl,T⟩⟩
 rintro _ l ⟨rfl,F⟩;refine cC (λb w'=>b=false/\l=w') (λk g=>⟨λh=>(by cases h),λ_=>(G4 l).use ?_⟩) ?_
 .rintro _ _ ⟨rfl,rfl⟩
  exact⟨_,rfl,g _ _ ⟨rfl,rfl⟩⟩
 rintro _ _ ⟨rfl,rfl⟩;refine cC (λb w'=>b=false/\l=w') (λk g=>⟨λh=>(by cases h),λ_=>(Bv l).use ?_⟩) ?_
 .rintro _ _ ⟨rfl,rfl⟩
  exact⟨_,rfl,g _ _ ⟨rfl,rfl⟩⟩
 rintro _ _ ⟨rfl,rfl⟩;refine⟨λh=>(by cases h),λ_=>(Bl (u.v.ext F)).use ?_⟩;rintro _ _ ⟨rfl,rfl⟩;refine⟨_,rfl,(lN l a).use ?_⟩;rintro v U ⟨V,n⟩;obtain⟨pp,e,rfl,h1,W⟩:∃ (pp:aq ah) (e:Int),v=.tuple #[.pointer pp,e]/\(!(Option.isNone pp))=(decide (a>=1)&&decide (a<=400))/\(e==0)=(decide (a>=1)&&decide (a<=400)):=by
  rcases n with ⟨f,rfl⟩|⟨⟨_,f⟩,rfl,_⟩
  .have f:¬(1<=a/\a<=400):=by
    rcases f with f|f|f
    .cases f
    .omega
    .omega
   have e:(decide (a>=1)&&decide (a<=400))=false:=by
    rw[Bool.and_eq_false_iff,jh,jh];omega
   exact⟨none,1,rfl,by rw[e];rfl,by rw[e];rfl⟩
  .have e:(decide (a>=1)&&decide (a<=400))=true:=by
    rw[dt,cx,cx];exact f
   exact⟨_,0,rfl,by rw[e];rfl,by rw[e];rfl⟩
 refine⟨pp,e,rfl,(lN (s:=none) U 5).use ?_⟩;rintro _ G ⟨Y,⟨_,rfl⟩|⟨⟨f,_⟩,_⟩⟩
 rotate_left
 .exact absurd rfl f
 refine⟨_,_,rfl,cC (λb w'=>b=true/\Ext G w') (λk g=>⟨λ_=>(GU G).use ?_,λf=>?_⟩) ?_⟩
 .rintro _ af ⟨rfl,hx⟩
  exact⟨true,rfl,g _ _ ⟨rfl,hx⟩⟩
 .exfalso
  rw[h1,W,beq_self_eq_true]at f
  cases f
 .rintro _ aj ⟨rfl,hx⟩
  exact⟨rfl,((((R.trans u.s.x).trans F).trans V).trans Y).trans hx⟩
end
end Go.Proofs.YtkdhdlfonmgheaaGreat
