/- Contracts of the functions that the statement reaches, and the plain laws over them; each theorem stands with its conditions. -/
import Derived.Test.YtkdhdlfonmgheaaGreatBAFew5
namespace Go.Proofs.YtkdhdlfonmgheaaGreat
open Go aR Go.Proofs.Tryz
section
variable {w w' w1:J}{C:bM}{X:Nat->Prop}{T:aP}{S aE fx:ck}{pages aM:O Nat}{L bp:O aS}{f2:Nat->al}{aD:bM}{P':Nat->ar aB}
def ck.at(S:ck)(f2:Nat->al)(aD:bM)(P':Nat->ar aB):ck:={S with T:=(S.T.hD f2).bK aD P'}
theorem fk.uc(h:fk w S aM bp)(ht:b4 w' ((S.T.hD f2).bK aD P'))(a:Var w' S.st S.cells 158)(b:aD.D.d=S.T.C.D.d)(e:aD.c=S.T.C.c)(e3:∀j,S.T.g j=true->aD.D.bw.getD j []=S.V j)(f:∀x∈aM,S.T.P x=P' x)(i:∀j,S.T.g j=true->aD.D.bB j=true):
 fk w' (S.at f2 aD P') aM bp:=by
 refine⟨?_,ht,h.es,h.fz.agree e3 f,h.gen,h.num,i⟩;show Var w' S.st (gA _ aD.D.d aD.c _ _ _ _ _ _ _ _ _) _;rw[b,e];exact a
theorem dz.at{k:Nat}(hc:ae S.W w w')(b:aD.D.d=S.T.C.D.d)(c:aD.D.aQ<=S.T.C.D.aQ+k)(a:S.T.C.D.quiet->aD.D.quiet)(e:aD.D.r1=S.T.C.D.r1)(hf:∀q,cP aD q->cP S.T.C q\/w.heap.size<=q):dz k S (S.at f2 aD P') w w':=
 ⟨rfl,b,rfl,rfl,c,a,hc,λq a=>by
  rcases a with a|a
  .exact(hf q a).imp .inl id
  .exact .inl (.inr a),rfl,rfl,e⟩
theorem ud(p:fk w1 fx aM bp)(a:dz 100 S fx w w1)(s:fx.u=S.u)(t:fx.gen=S.gen)(x:fx.now=S.now)(m:¬S.T.C.D.quiet)(e3:∀j,S.T.g j=true->fx.V j=S.V j)(y:fx.T.C.D.aQ<=900000000)
 (z:(∀j,S.T.g j=true->fx.T.C.D.dE j=[])\/∃ (e:eg) (av:Nat->al) (f:Nat->ar aB) (b:c2),(∀j,fx.T.C.D.dE j=if j=(S.gen+1)%2 then [b] else [])/\jf (λj=>if j=(S.gen+1)%2 then b else fx.V j) fx.T.n (S.gen+1) e av f pages L/\e.clock=S.now/\e.c_=S.u.c_+1):
 aL aj 81 #[.pointer (some S.st),(3:Int)] w1 (oY S pages L aM bp w):=by
 have hf:=AR p 3 y;rw[a.st]at hf;refine hf.mono ?_;rintro v w' ⟨rfl,aE,hs,hd,c⟩;have o:∀j,aE.V j=fx.V j:=λj=>by unfold ck.V;rw[c.V]
 refine⟨aE,⟨hd.st.trans a.st,hd.d.trans a.d,hd.n.trans a.n,hd.l.trans a.l,by rw[c.aQ];exact a.aQ,λh=>absurd h m,cS a.af hd.af λq A i=>a.back A i,λq i=>?_,hd.E.trans a.E,hd.G.trans a.G,hd.r.trans a.r⟩,c.now.trans x,.inr ⟨rfl,m,hs,c.failed,c.u.trans s,c.gen.trans t,λj k=>(o j).trans (e3 j k),?_⟩⟩
 .have:=a.af.size
  rcases hd.db q i with h1|h1
  .exact a.db q h1
  .exact .inr I
 .rcases z with h1|⟨e,av,f,b,h1,B,F,H⟩
  .exact .inl λj k=>(c.sa j).trans (h1 j k)
  .exact .inr ⟨e,av,f,b,λj=>(c.sa j).trans (h1 j),by rw[hd.n];exact B.agree (λj _=>by rw[o]) λ_ _=>rfl,F,H⟩
theorem F8{V:Nat->c2}{no:Nat}{i:Nat->ar aB}(h:dN w S pages L aM bp)(k:f2=da (da S.T.f no true) S.u.map false)(M:(S.T.f no||S.T.g no)=false)(A:2<=no)(B:no<S.T.n)(N:L.length<4096)(l:∀x∈pages,i x=S.T.P x)
 (D:V ((S.gen+1)%2)=dT ((S.gen+1)%2) (hX ⟨S.T.root,S.T.aH,no,S.now,S.u.c_+1,L.length⟩ S.T.n (S.gen+1))) (e3:∀j,j≠(S.gen+1)%2->V j=if j=no then dT no ⟨4,S.gen+1,hF f2 ((S.T.n+7)/8)⟩ else if S.T.g j=true then S.V j else S.T.C.view j)
 (hg:∀j,S.T.g j=true->S.V j=S.T.C.view j):jf V S.T.n (S.gen+1) ⟨S.T.root,S.T.aH,no,S.now,S.u.c_+1,L.length⟩ f2 i pages L:=by
 have E:=h.t.s.bx;have F:=h.num;have m:=h.t.num;have o:=h.fz.ua;have O:=o.2.2.2.2.1;have p:S.T.f S.u.map=true:=(h.f _).2 (.inr (.inr rfl));have q:S.T.f no=false:=by cases Q:S.T.f no<;>simp_all
 have r:∀x∈pages,x≠no:=λx hx e=>by
  have:=(h.f x).2 (.inl hx);rw[e,q]at this;cases this
 have G:∀x∈pages,x<S.T.n:=λx hx=>Nat.lt_of_not_le λe=>by
  have:=h.t.s.pf x e;rw[(h.f x).2 (.inl hx)]at this;cases this
 have H:∀j,j≠(S.gen+1)%2->j≠no->V j=S.T.C.view j:=λj h1 J=>by
  rw[e3 j h1,if_neg J];by_cases e:S.T.g j=true
  .rw[if_pos e,hg j e]
  .rw[if_neg e]
 have v:lZ ⟨S.T.root,S.T.aH,no,S.now,S.u.c_+1,L.length⟩ S.T.n:=by
  refine⟨?_,m.2.1,m.1,B,A,E⟩;rcases h.ok with ⟨a1,a2,_⟩|b
  .exact⟨λ_=>a1,λ_=>a2⟩
  .obtain⟨bO,R,_,a2,_,_⟩:=b.jz
   have:=(h.two S.T.root (by rw[a2];simp)).1;constructor
   .intro e;have e:S.T.root=0:=e;omega
   .intro e
    have e:S.T.aH=0:=e;rw[e]at b;exact b.elim
 have y:lY ⟨S.T.root,S.T.aH,no,S.now,S.u.c_+1,L.length⟩:=⟨by show S.T.root<_;omega,by show S.T.aH<_;omega,by show no<_;omega,F.1,by show S.u.c_+1<_;omega,by show L.length<_;omega⟩;refine⟨⟨S.u.map,o.2.2.2.1,by rw[k];unfold da;rw[if_pos rfl]⟩,?_,.inr ⟨S.u,S.gen,?_,I⟩,⟨S.gen+1,bl _,?_⟩,λj=>?_,h.bO,λx hx=>⟨(h.two x hx).1,r x hx,G x hx⟩,?_,λx hx bO z=>?_,rfl,h.kv,y,v,by show S.u.c_+1+1<=S.gen+1;omega⟩
 .rw[D]
  exact zG y v I I
 .have e:1-(S.gen+1)%2=S.gen%2:=by omega
  have K:S.T.g (S.gen%2)=true:=(h.fz.g _).2 (.inr (.inl I));rw[e,e3 _ I,if_neg I,if_pos K];exact h.fz.AQ
 .show fa (no:Int) (V no)=_
  rw[e3 _ I,if_pos rfl];exact tu I ⟨(by decide:1<=4),(by decide:4<=4),by show S.gen+1<_;omega,by show(hF _ _).length<=232;rw[t_];omega⟩
 .rw[k]
  show da (da S.T.f no true) S.u.map false j=true↔j∈pages\/j<2\/j=no;unfold da;by_cases c:j=S.u.map
  .rw[if_pos c]
   refine⟨λh=>(by cases h),λa=>?_⟩;rcases a with a|a|a
   .exact absurd c (h.two j a).2
   .omega
   .rw[←c,a,q]at p;cases p
  .rw[if_neg c]
   by_cases d:j=no
   .rw[if_pos d];exact⟨λ_=>.inr (.inr d),λ_=>rfl⟩
   .rw[if_neg d,h.f j]
    constructor
    .rintro(a|a|a)
     .exact .inl a
     .exact .inr (.inl a)
     .exact absurd a c
    .rintro(a|a|a)
     .exact .inl a
     .exact .inr (.inl a)
     .exact absurd a d
 .rcases h.ok with ⟨a1,a2,a3,a4⟩|b
  .exact .inl ⟨a1,a2,a3,a4⟩
  .exact .inr (b.agree λx hx=>(l x hx).symm).1
 .rw[l x hx]at z
  rw[H x (by have:=(h.two x hx).1;omega) (r x hx),←h.gen];exact(h.t.eE x bO z).2
end
section
variable {w w' w1:J}{C:bM}{X:Nat->Prop}{T:aP}{S aE fx:ck}{pages aM:O Nat}{L bp:O aS}{f2:Nat->al}{aD:bM}{P':Nat->ar aB}
theorem F9{f:Nat->al}{n k:Nat}(h:k<n):l0 f n (k:Int)=da f k false:=by
 unfold l0;rw[if_pos ⟨I,I⟩,dO]
theorem F_{bf d c sb gen now first pending keys st:Nat}{l:fe}{u:eg}{failed:al}(b:Var w st (gA bf d c sb l u gen now first pending keys failed) 158)(a:eg){K:J->Prop}(e:∀ai,Var ai st (gA bf d c sb l a gen now first pending keys failed) 158->ae (λq=>q=st) w ai->K ai):
 bh w ⟨st,7,none⟩ [a.root,a.aH,a.map,.int .u64 (a.clock:Nat),.int .u64 (a.c_:Nat),a.keys]/\(6:Nat)=6/\
  an (setCells w ⟨st,7,none⟩ 0 [a.root,a.aH,a.map,.int .u64 (a.clock:Nat),.int .u64 (a.c_:Nat),a.keys]) K:=
 ⟨bg.bU b _ _ (by simp[gA]) λv f=>eg.plain a v f,rfl,aX (e _ (bg.lD (o:=7) b _) (ae.jT (.refl _ _) _ 0))⟩
theorem Ga(h:dN w S pages L aM bp)(al:S.failed=false)(dn:L.length<4096)(eW:S.T.C.D.aQ<=800000000)(eY:S.gen<=1000000000):
 aL aj 94 #[.pointer (some S.st)] w (oY S pages L aM bp w):=by
 refine okF (ah.ss (some S.st)) az.ss func94 ?_;(delta ah.ss ic ao b7 aF cd bJ eR iW aa fS st;dsimp only);obtain⟨bs,bt,dp⟩:=h.live al;obtain⟨no,cg⟩:=Ak dp;obtain⟨ch,dq,_⟩:=zO cg;have eZ:=h.t.s.bx;have aU:=h.num;have dr:=h.gen;have ci:=h.fz.ua;have cl:S.T.f no=false:=by cases ds:S.T.f no<;>simp_all
 have am:S.T.g no=false:=by cases ds:S.T.g no<;>simp_all
 have co:2<=no:=Nat.le_of_not_lt λe=>by
  have:=(h.fz.g no).2 (.inr (.inl e));rw[am]at this;cases this
 have e0:S.T.M S.st:=.inr (.inr (.inr (.inl h.es)));refine⟨_,rfl,_,by rw[ay];exact h.v.cell,(zQ h.t.s).use ?_⟩;rintro _ cq ⟨rfl,cr,aV⟩;rw[cg]at cr⊢;refine⟨(no:Nat),0,rfl,λhx=>(by cases hx),λ_=>aX ?_⟩;have dt:=(h.t.tO (f:=da S.T.f no true) cr aV).1;have du:=h.v.af aV (h.t.dF _ h.es).2.1;have aY:Ext cq cq.drew:=cJ _;have bu:=du.ext aY;have cs:=dt.ext aY;refine⟨_,rfl,id,_,by rw[ay];exact bu.cell,_,rfl,id,_,by rw[ay,ay];exact bu.cell,(zR cs.s (S.u.map:Nat)).use ?_⟩;rintro _ a0 ⟨rfl,ct,a1⟩;rw[F9 (by exact ci.2.2.2.1)]at ct;obtain⟨f2,bv⟩:∃f2,f2=da (da S.T.f no true) S.u.map false:=⟨_,rfl⟩;have cu:eJ a0 S.T.sb S.T.n f2 S.T.g S.T.s1 S.T.s2:=by rw[bv];exact ct
 have bz:b4 a0 (S.T.hD f2):=(cs.tO (f:=f2) cu a1).1;have cv:=bu.af a1 (h.t.dF _ h.es).2.1;refine⟨_,rfl,aX ?_⟩;have a2:Ext a0 a0.drew:=cJ _;have cw:=cv.ext a2;have dv:=bz.ext a2;have bA:IntKind.wrap .u64 ((S.gen:Int)+1)=((S.gen+1:Nat):Int):=by rw[gj I I];omega
 refine⟨λ_=>False,_,rfl,id,_,by rw[ay];exact cw.cell,_,rfl,id,_,by rw[ay];exact cw.cell,(zW dv.s).use ?_⟩;rintro _ dw ⟨a3,rfl,dx,bC,e1⟩;have dy:aZ 1 5 dw a3 (aA (hF f2 ((S.T.n+7)/8))):=by rw[AN];exact dx
 have cx:lT ⟨4,S.gen+1,hF f2 ((S.T.n+7)/8)⟩:=⟨(by decide:1<=4),(by decide:4<=4),by show S.gen+1<_;omega,by show(hF _ _).length<=232;rw[t_];omega⟩;rw[bA];refine⟨a3,rfl,bC,#[(4:Int),.int .u64 ((S.gen+1:Nat):Int),a3],λe2=>by kernel_rfl,(tz (s:=a3) (p:=⟨4,S.gen+1,hF f2 ((S.T.n+7)/8)⟩) (no:=no) dy.src I cx).use ?_⟩;rintro _ cy ⟨dA,rfl,cz,cA,dC⟩;have bD:=a2.trans (Ext.trans bC cA);have a4:=bz.ext bD;have cB:=cv.ext bD;have e4:=aV.size;have e5:=a1.size;have e6:=aY.size;have e7:=a2.size;have e8:=bC.size;have a5:ae S.W w cy:=cS (cS (cS (cS (ae.refl _ _) aV λq _ a=>h.kz (.inr (.inr (.inl a)))) aY λq _ a=>a.elim) a1 λq _ a=>h.kz (.inr (.inr (.inl a)))) bD λq _ a=>a.elim;have dD:(dT no ⟨4,S.gen+1,hF f2 ((S.T.n+7)/8)⟩).length=256:=qj _ cx;refine⟨dA,0,rfl,cA,λhx=>(by cases hx),λ_=>⟨_,rfl,_,by rw[ay];exact cB.cell,(Aa a4.ca (by show S.T.C.D.aQ<=_;omega) (no:=no) (by rw[a4.n];exact ch) co (λhs=>?_) cz.src dD λq a=>⟨aZ.lt cz q a,λhf=>?_⟩).use ?_⟩⟩
 .rcases a4.bB no hs with h1|h1
  .rw[show(S.T.hD f2).g no=S.T.g no from rfl,am]at h1;cases h1
  .exact bs h1
 .have h1:=dC q a
  have a8:=bz.lt (q:=q) (.inl hf);omega
 rintro _ a9 ⟨G,cD,cE,a_⟩;have y:dM S.T.C G cy a9 1:=cE;have cF:∀j,j≠no->G.view j=S.T.C.view j:=λj b=>by
  rcases a_ with ⟨_,bE⟩|⟨_,_,bE⟩
  .rw[bE,if_neg b];rfl
  .rw[bE];rfl
 obtain⟨F,bF⟩:∃F:Nat->ar aB,F=λj=>if j=no then none else S.T.P j:=⟨_,rfl⟩
 have ax:∀j,j≠no->F j=S.T.P j:=λj b=>by rw[bF];exact if_neg b
 obtain⟨aC,_⟩:=a4.oV (P:=F) cD cE λj bO ag=>by
  have b:j≠no:=λe=>by rw[bF]at ag;simp[e]at ag
  rw[cF j b];exact h.t.eE j bO (by rw[←ax j b];exact ag)
 have dG:¬cP S.T.C S.st:=(h.t.ca.inv.eK _ (.inr (.inr (.inl h.es)))).2;have bG:=cB.af y.af dG;have bH:ae S.W w a9:=cS a5 y.af λq _ a=>h.kz (.inl a);have ba:∀x∈aM,S.T.P x=F x:=λx hx=>(ax x λe=>by
  have:=(h.fz.g x).2 (.inl hx);rw[e,am]at this;cases this).symm
 have bI:G.D.bw=S.T.C.D.bw:=congrArg (λp=>p.1.1) y.bw;have bN:G.D.b5.getD 3 0=S.T.C.D.b5.getD 3 0:=congrArg Prod.snd y.bw;have dH:fk a9 (S.at f2 G F) aM bp:=h.tofk.uc aC bG y.d y.c (λj b=>by rw[bI];rfl) ba λj b=>by rw[y.bB];exact h.bB j b
 have dI:dz 100 S (S.at f2 G F) w a9:=dz.at bH y.d (by have:=y.aQ;omega) (λa=>⟨λk=>y.calm k (a.1 _),bN.trans a.2⟩) (congrArg (λp=>p.1.2.2.2.2) y.bw) λq a=>(y.db q a).imp id λe=>by have:=a5.size;omega
 have dJ:∀j,S.T.g j=true->G.D.dE j=[]:=λj b=>by
  rw[cD.inv.kq j (by rw[y.bB];exact h.bB j b),y.l3.2,bt]
 rcases a_ with ⟨rfl,a_⟩|⟨rfl,dK,_⟩
 rotate_left
 .exact⟨3,rfl,λ_=>(ud dH dI rfl rfl rfl (λa=>dK (a.1 1)) (λj b=>by unfold ck.V;show G.D.bw.getD j []=_;rw[bI]) (by show G.D.aQ<=_;have:=y.aQ;omega) (.inl dJ)).use λv w' bP=>by
   obtain⟨aE,r1,aF,cd⟩:=bP;rcases cd with ⟨rfl,aW⟩|⟨rfl,aW⟩
   .exact⟨0,rfl,aE,r1,aF,.inl ⟨rfl,aW⟩⟩
   .exact⟨3,rfl,aE,r1,aF,.inr ⟨rfl,aW⟩⟩,λhx=>(by cases hx)⟩
 refine⟨0,rfl,λhx=>(by cases hx),λ_=>⟨_,rfl,_,by rw[ay];exact bG.cell,?_⟩⟩;have cG:=FV aC.ca (by show G.D.aQ<=_;have:=y.aQ;omega) λj b=>by show G.D.dU j=_;rw[y.l3.2,bt]
 rw[show((S.T.hD f2).bK G F).C.c=S.T.C.c from y.c]at cG;refine cG.use ?_;rintro _ an ⟨o,R⟩;have dO:¬cP G S.st:=(aC.ca.inv.eK _ (.inr (.inr (.inl h.es)))).2;have bb:=bG.af R.af dO;have ab:o.D.d=S.T.C.D.d:=R.d.trans y.d;have bc:o.c=S.T.C.c:=R.c.trans y.c;have be:o.D.r1=S.T.C.D.r1:=R.r.trans (congrArg (λp=>p.1.2.2.2.2) y.bw);have aD:∀q,cP o q->cP S.T.C q\/w.heap.size<=q:=λq a=>by
  have:=bH.size;have:=a5.size;rcases R.db q a with h1|h1
  .exact(y.db q h1).imp id λe=>by omega
  .exact .inr I
 have bQ:ae S.W w an:=cS bH R.af λq al a=>by
  have:=a5.size;exact h.kz (.inl ((y.db q a).resolve_right I))
 have cH:∀ (bR:bM),(∀j,2<=j->bR.view j=G.view j)->∀j bO,F j=some bO->j<S.T.n/\gr S.T.gen bO.leaf j (bR.view j) bO:=λbR dP j bO ag=>by
  have b:j≠no:=λe=>by rw[bF]at ag;simp[e]at ag
  have h1:=h.t.eE j bO (by rw[←ax j b];exact ag);rw[dP j h1.2.two,cF j b];exact h1
 have bg:b4 an ((S.T.hD f2).bK o F):=aC.AS R.at_ R.af R.c R.n (cH o λj _=>R.view j) λj b=>by
  rw[R.bB.1]at b;rcases aC.bB j b with h1|h1
  .exact .inl h1
  .exact .inr λi=>by rw[R.bB.1];exact h1 i
 have ap:o.D.bB=S.T.C.D.bB:=R.bB.1.trans y.bB;have dQ:o.D.dU=λ_=> []:=R.bB.2.trans (y.l3.2.trans bt);have e9:o.D.aQ<=S.T.C.D.aQ+70:=by have h1:o.D.aQ<=G.D.aQ+64:=R.aQ;have:=y.aQ;omega
 have fin:∀ (w1:J) (Z:Y->J->Prop),aL aj 81 #[.pointer (some S.st),(3:Int)] w1 (oY S pages L aM bp w)->(∀v w',oY S pages L aM bp w v w'->Z v w')->Calls aj 81 #[.pointer (some S.st),(3:Int)] w1 (λe ai=>∃n:Int,e=.returned n/\Z n ai):=λw1 Z bP cI=>bP.use λv w' hc=>by
  have dR:=hc;obtain⟨aE,r1,aF,cd⟩:=dR;rcases cd with ⟨rfl,aW⟩|⟨rfl,aW⟩
  .exact⟨0,rfl,cI _ _ hc⟩
  .exact⟨3,rfl,cI _ _ hc⟩
 rcases R.gV with ⟨rfl,dS,cK,dV⟩|⟨rfl,dW,dX⟩
 rotate_left
 .have cL:o.D.bw=S.T.C.D.bw:=dW.trans bI
  have dY:fk an (S.at f2 o F) aM bp:=h.tofk.uc bg bb ab bc (λj b=>by rw[cL];rfl) ba λj b=>by rw[ap];exact h.bB j b
  have ac:¬S.T.C.D.quiet:=λa=>by
   rcases dX with h1|h1
   .exact h1 (y.calm 64 (a.1 _))
   .unfold a6.fy at h1
    rw[show((S.T.hD f2).bK G F).C.D.b5.getD 3 0=S.T.C.D.b5.getD 3 0 from bN,a.2]at h1
    cases h1
  have dZ:dz 100 S (S.at f2 o F) w an:=dz.at bQ ab I (λa=>absurd a ac) be aD;exact⟨3,rfl,λ_=>fin _ _ (ud dY dZ rfl rfl rfl ac (λj b=>by unfold ck.V;show o.D.bw.getD j []=_;rw[cL]) (by show o.D.aQ<=_;omega) (.inl λj b=>by
   show o.D.dE j=[];rw[R.at_.inv.kq j (by rw[ap];exact h.bB j b),dQ])) λ_ _ h=>h,λhx=>(by cases hx)⟩
 have aG:∀j,o.D.dE j=[]:=λj=>by unfold a6.dE;rw[dS];rfl
 have bh:∀j,o.D.bw.getD j []=if j=no then dT no ⟨4,S.gen+1,hF f2 ((S.T.n+7)/8)⟩ else S.T.C.view j:=λj=>by
  have h1:=FT R.at_ cK j;rw[we _ (λx hx=>(R.at_.raw.dev.wn x hx).1),if_pos (aG j)]at h1;rw[←h1,R.view];exact a_ j
 have aI:∀j,S.T.g j=true->S.V j=S.T.C.view j:=λj b=>(h.view al b).symm;refine⟨0,rfl,λhx=>(by cases hx),λ_=>⟨_,rfl,_,bb.cell,?_⟩⟩;have cM:=AG bg;rw[show((S.T.hD f2).bK o F).bf=S.T.bf from rfl]at cM;refine cM.use ?_;rintro _ bS ⟨rfl,bT⟩;have bU:Ext bS bS.drew:=cJ _;have bV:=(bb.ext bT).ext bU;have d0:IntKind.wrap .u64 ((S.u.c_:Int)+1)=((S.u.c_+1:Nat):Int):=by rw[gj I I];omega
 refine⟨_,_,rfl,aX ⟨λ_=>False,_,rfl,id,_,by rw[ay];exact bV.cell,_,rfl,id,_,by rw[ay,ay];exact bV.cell,_,rfl,id,_,by rw[ay];exact bV.cell,?_⟩⟩;rw[d0];obtain⟨H,ad⟩:∃H:eg,H=⟨S.T.root,S.T.aH,no,S.now,S.u.c_+1,S.keys⟩:=⟨_,rfl⟩;refine⟨H.c.toArray,λe_=>by rw[ad];kernel_rfl,bd (vs:=zE.c) rfl λfa cN cO fb=>⟨cO,?_⟩⟩;obtain⟨aJ,d1⟩:∃aJ,aJ=bS.drew.heap.size:=⟨_,rfl⟩;rw[←d1]at cN⊢;refine zH cN rfl H λaK d2 d3 fc=>aX ?_;have fd:=bT.size;have fe:=bU.size;have d4:Ext an aK:=Ext.cC (Ext.trans bT (bU.trans cO)) d3 I;have cQ:Ext aK aK.drew:=cJ _;have aN:Ext an aK.drew:=Ext.trans d4 cQ;have bW:=d2.ext cQ;have bi:=bb.ext aN;have bX:=bg.ext aN;generalize ff:aK.drew=bj at bW bi bX aN⊢;refine⟨_,rfl,id,_,by rw[ay];exact bi.cell,id,oT bW ⟨_,rfl,id,_,by rw[ay];exact bi.cell,?_⟩⟩;rw[bA];have d5:lY H:=by
  have h1:=h.t.num;have a8:=h.keys;rw[ad];exact⟨by show S.T.root<_;omega,by show S.T.aH<_;omega,by show no<_;omega,aU.1,by show S.u.c_+1<_;omega,by show S.keys<_;omega⟩
 have bY:o.D.n=S.T.n:=R.n.trans (y.n.trans h.t.n);have U:dB S.T.X bj o:=bX.ca;have cR:=lJ U.raw.dev I d5 (gen:=S.gen+1) I;rw[ab]at cR;refine cR.use ?_;rintro v aO ⟨aq,bZ⟩;have fg:=aN.size;have d6:∀q,cP o q->q<aJ:=λq a=>by have:=R.at_.raw.lt a;omega
 have d7:=bW.af aq λhf=>by have:=d6 aJ (.inr (.inr hf));omega
 have d8:¬cP o S.st:=(bg.ca.inv.eK _ (.inr (.inr (.inl h.es)))).2;have bk:=bi.af aq λhf=>d8 (.inr (.inr hf));have d9:ae S.W w bj:=cS bQ aN λq _ a=>a.elim;have fh:=bQ.size;have b0:ae S.W w aO:=cS d9 aq λq al a=>h.kz<| .inl ((aD q (.inr (.inr a))).resolve_right I)
 have main:∀ (A:a6),c3 aO A->A.d=o.D.d->jD A o.D->(∀i,2<=i->A.now i=o.D.now i)->(∀q,b9 A q->b9 o.D q\/bj.heap.size<=q)->(∀j,A.bB j=true->S.T.g j=true)->
  b4 aO ((S.T.hD f2).bK {o with D:=A} F)/\∀q,cP {o with D:=A} q->cP S.T.C q\/w.heap.size<=q:=λA ak d_ cT ea cV b1=>by
  obtain⟨gY,eb⟩:=F5 U ak d_ cT ea aq cV;refine⟨bX.AS gY (aq.mono λq _ a=>.inr (.inr a)) rfl cT.1 (cH _ λj b=>(eb j b).trans (R.view j)) λj b=>.inl (b1 j b),λq a=>?_⟩;rcases a with a|a|a
  .exact aD q (.inl a)
  .exact aD q (.inr (.inl a))
  .rcases cV q a with h1|h1
   .exact aD q (.inr (.inr h1))
   .exact .inr I
 have fi:¬o.D.ro:=λe=>bs λi=>by rw[←ap];exact e i
 have ec:∀j,o.D.bB j=true->S.T.g j=true:=λj b=>by
  rw[ap]at b;exact(h.t.bB j b).resolve_right bs
 have cW:S.T.C.D.quiet->∀k,o.D.calm k:=λa k=>R.calm k (y.calm _ (a.1 _));rcases bZ with ⟨b2,rfl,ak⟩|⟨b2,s,ed,a7,Q,bZ⟩
 .obtain⟨au,aR⟩:=main (o.D.cm 2) ak rfl (U.inv.cm 2) (λi _=>qB o.D 2 i) (λq a=>.inl a) λj b=>ec j b
  have b3:fk aO (S.at f2 {o with D:=o.D.cm 2} F) aM bp:=h.tofk.uc au bk ab bc (λj b=>by
   show o.D.bw.getD j []=_;rw[bh j,if_neg (λe=>by rw[e,am]at b;cases b),aI j b]) ba λj b=>by show o.D.bB j=true;rw[ap];exact h.bB j b
  have ac:¬S.T.C.D.quiet:=λa=>by
   have:=(iE (k:=2) (m:=0) (.inr rfl) U.raw.dev.f4 (cW a 1)).2;rw[this]at b2;cases b2
  exact⟨3,rfl,λ_=>fin _ _ (ud b3 (dz.at b0 ab (by show o.D.aQ<=_;omega) (λa=>absurd a ac) be aR) rfl rfl rfl ac (λj b=>by
   show o.D.bw.getD j []=_;rw[bh j,if_neg (λe=>by rw[e,am]at b;cases b),aI j b]) (by show o.D.aQ<=_;omega) (.inl λj _=>aG j)) λ_ _ h=>h,λhx=>(by cases hx)⟩
 have cY:∀j,a7.dE j=if j=(S.gen+1)%2 then [dT ((S.gen+1)%2) (hX H o.D.n (S.gen+1))] else []:=λj=>by
  rw[Q,zC,aG,aG];rfl
 have cZ:H=⟨S.T.root,S.T.aH,no,S.now,S.u.c_+1,L.length⟩:=by rw[ad,h.keys]
 have c0:∀V:Nat->c2,(∀j,V j=if j=(S.gen+1)%2 then dT ((S.gen+1)%2) (hX H o.D.n (S.gen+1)) else o.D.bw.getD j [])->jf V S.T.n (S.gen+1) H f2 F pages L:=λV e3=>by
  rw[cZ];refine F8 h bv dq co ch dn (λx hx=>ax x λe=>by
   have:=(h.f x).2 (.inl hx);rw[e,cl]at this;cases this) (by rw[e3,if_pos rfl,cZ,bY]) (λj b=>?_) aI
  rw[e3,if_neg b,bh];by_cases e:j=no
  .rw[if_pos e,if_pos e]
  .rw[if_neg e,if_neg e]
   by_cases b6:S.T.g j=true
   .rw[if_pos b6,aI j b6]
   .rw[if_neg b6]
 have bm:∀q,b9 a7 q->b9 o.D q\/bj.heap.size<=q:=by rw[Q];exact tZ ed
 have ee:∀i,2<=i->a7.now i=o.D.now i:=λi hi=>by rw[Q,nc,if_neg I]
 have b8:a7.n=o.D.n:=by rw[Q];rfl
 have b_:a7.d=o.D.d:=by rw[Q];rfl
 have ef:a7.bw=o.D.bw:=by rw[Q];rfl
 have eh:a7.aQ=o.D.aQ+1:=by rw[Q];rfl
 have c1:S.T.C.D.quiet->a7.b5.getD 3 0= -1:=λa=>by
  rw[Q];show(o.D.b5.set 2 _).getD 3 0=_;have bn:=U.raw.dev.f4;rw[eV (by rw[dd];omega),eX (by decide),←eV (d:=0),dV];rw[show((S.T.hD f2).bK G F).C.D.b5.getD 3 0=S.T.C.D.b5.getD 3 0 from bN,a.2];rfl
 rcases bZ with ⟨bo,rfl,ak⟩|⟨bo,rfl,ak⟩
 .obtain⟨A,N⟩:∃A,A=(a7.cm 3).fW S.T.g λj=>if j=(S.gen+1)%2 then [dT ((S.gen+1)%2) (hX H o.D.n (S.gen+1))] else []:=⟨_,rfl⟩
  obtain⟨au,aR⟩:=main A (by rw[N];exact ak.fW _ _) (by rw[N];exact b_) ⟨by rw[N];exact b8,λj b=>by rw[ap];exact h.bB j (by rw[N]at b;exact b),λj _=>by rw[N];exact cY j⟩ (λi hi=>by rw[N];exact ee i hi) (λq a=>by rw[N]at a;exact bm q a) λj b=>by rw[N]at b;exact b
  have c4:A.bw=o.D.bw:=by rw[N];exact ef
  have fj:A.aQ=o.D.aQ+1:=by rw[N];exact eh
  have c5:A.d=S.T.C.D.d:=by rw[N];exact b_.trans ab
  have ei:A.r1=S.T.C.D.r1:=by rw[N];exact(show a7.r1=o.D.r1 by rw[Q];rfl).trans be
  have b1:∀j,A.dE j=if j=(S.gen+1)%2 then [dT ((S.gen+1)%2) (hX H o.D.n (S.gen+1))] else []:=λj=>by rw[N];exact cY j
  have c6:∀j,S.T.g j=true->A.bw.getD j []=S.V j:=λj b=>by rw[c4,bh j,if_neg (λe=>by rw[e,am]at b;cases b),aI j b]
  have b3:fk aO (S.at f2 {o with D:=A} F) aM bp:=h.tofk.uc au bk c5 bc c6 ba λj b=>by rw[N];exact b
  have ac:¬S.T.C.D.quiet:=λa=>by
   unfold a6.fy at bo;rw[c1 a]at bo;cases bo
  exact⟨3,rfl,λ_=>fin _ _ (ud b3 (dz.at b0 c5 (by show A.aQ<=_;omega) (λa=>absurd a ac) ei aR) rfl rfl rfl ac c6 (by show A.aQ<=_;omega) (.inr ⟨H,f2,F,_,b1,c0 _ λj=>by show(if _ then _ else A.bw.getD j [])=_;rw[c4],by rw[ad],by rw[ad]⟩)) λ_ _ h=>h,λhx=>(by cases hx)⟩
 have ej:∀j,S.T.n<=j->o.D.bw.getD j []=[]:=λj b=>by
  rw[fI,me (by have:o.D.bw.length=S.T.n:=bY;omega)];rfl
 have c7:∀j,o.D.now j=o.D.bw.getD j []:=λj=>by rw[we _ (λx hx=>(U.raw.dev.wn x hx).1),if_pos (aG j)]
 have fl:a7.n=S.T.n:=b8.trans bY;have ek:∀j,(a7.cm 3).hY.bw.getD j []=if j=(S.gen+1)%2 then dT ((S.gen+1)%2) (hX H o.D.n (S.gen+1)) else o.D.bw.getD j []:=λj=>by
  show((List.range a7.n).map a7.now).getD j []=_;have fm:16<=a7.n:=by have:16<=o.D.n:=U.raw.dev.bL;omega
  by_cases b:j<a7.n
  .rw[eV (by simp;exact b),List.getElem_map,List.getElem_range,Q,nc,c7]
  .rw[fI,me (by simp;omega),if_neg I,ej j I];rfl
 obtain⟨K,O⟩:∃K,K=(a7.cm 3).hY.fW (λ_=>false) λ_=> []:=⟨_,rfl⟩;have el:∀j,K.dE j=[]:=λj=>by rw[O];rfl
 have c8:∀j,K.bw.getD j []=if j=(S.gen+1)%2 then dT ((S.gen+1)%2) (hX H o.D.n (S.gen+1)) else o.D.bw.getD j []:=λj=>by rw[O];exact ek j
 have em:K.n=o.D.n:=by rw[O];exact(qG (a7.cm 3)).trans b8
 have cb:K.d=S.T.C.D.d:=by rw[O];exact b_.trans ab
 obtain⟨au,aR⟩:=main K (by rw[O];exact ak.fW _ _) (cb.trans ab.symm) ⟨em,λj b=>(by rw[O]at b;cases b),λj b=>(by rw[O]at b;cases b)⟩ (λi hi=>by
  have h1:K.now i=K.bw.getD i []:=by rw[O];rfl
  rw[h1,c8,if_neg I,c7]) (λq a=>by
   rw[O]at a;rcases a with e|e|e|⟨x,hx,e⟩
   .exact bm q (.inl e)
   .exact bm q (.inr (.inl e))
   .exact bm q (.inr (.inr (.inl e)))
   .cases hx) λj b=>(by rw[O]at b;cases b)
 refine⟨0,rfl,λhx=>(by cases hx),λ_=>⟨_,rfl,_,by rw[ay];exact bk.cell,(EM au.s).use ?_⟩⟩;rintro _ aS ⟨rfl,s2,en,aT,c9⟩;have aw:=c0 (λj=>K.bw.getD j []) c8;have eo:f2 0=true/\f2 1=true:=⟨(aw.g 0).2 (.inr (.inl (by decide))),(aw.g 1).2 (.inr (.inl (by decide)))⟩;obtain⟨eq,fn⟩:=au.space en aT c9 (λj b=>by
  have b:K.bB j=true:=b;rw[O]at b;cases b) eo
 have fo:=aT.size;have et:=bk.af aT (h.t.dF _ h.es).2.1;have ev:=d7.af aT λhf=>by
  have h1:=h.t.lt (q:=aJ) (.inr (.inr (.inl hf)));omega
 have ew:=eq.fW (s:=f2) (z:=λ_=> []) (λf hf j ex _ _=>by
  have h1:=cK f hf;unfold Fr.gb at h1;rw[ex]at h1;simpa using h1) (λj _=>el j) λj b=>.inl b
 obtain⟨fE,B⟩:∃fE:aP,fE=(((S.T.hD f2).bK {o with D:=K} F).tY f2 f2 S.T.s1 s2).bK {o with D:=K.fW f2 λ_=> []} F:=⟨_,rfl⟩;have ey:b4 aS fE:=by rw[B];exact ew
 have bq:Ext aS aS.drew:=cJ _;have dc:Var aS.drew S.st (gA S.T.bf S.T.C.D.d S.T.C.c S.T.sb S.l S.u S.gen S.now S.first S.pending S.keys S.failed) 158:=et.ext bq;have ez:=ev.ext bq;have eA:=ey.ext bq;have br:fE.E=S.T.E:=by rw[B];rfl
 refine⟨rfl,aX ⟨λ_=>False,id,oT ez ⟨_,rfl,id,_,by rw[ay];exact dc.cell,_,rfl,?_⟩⟩⟩;rw[ay,cU,bA];refine F_ dc H λde df dg=>?_;have eB:=eA.jH (by rw[br];exact h.es) dg;obtain⟨cn,cp⟩:=er df (i:=13) (by simp[gA]);have dh:=ep df (i:=13) (.int .u64 ((S.gen+1:Nat):Int));have eC:=dL de S.st 13 (.int .u64 ((S.gen+1:Nat):Int));refine⟨_,rfl,by rw[ay];exact cn,by rw[ay];exact cp,aX ?_⟩;rw[ay,cU];obtain⟨eD,eF⟩:=er dh (i:=16) (by simp[gA]);have di:=ep dh (i:=16) (0:Int);have cc:=eC.trans (dL _ S.st 16 (0:Int));refine⟨_,rfl,by rw[ay];exact eD,by rw[ay];exact eF,aX ?_⟩;rw[ay,cU];generalize (de.setCell ⟨S.st,13,none⟩ (.int .u64 ((S.gen+1:Nat):Int))).setCell ⟨S.st,16,none⟩ (0:Int)=dj at di cc⊢;have eG:=eB.jH (by rw[br];exact h.es) cc;have ce:Ext dj dj.drew:=cJ _;have cf:=di.ext ce;have eH:=eG.ext ce;refine aX ⟨_,rfl,id,_,cf.cell,_,rfl,id,_,by rw[ay];exact cf.cell,?_⟩;have eI:IntKind.wrap .u64 (((S.gen+1:Nat):Int)+1)=((S.gen+2:Nat):Int):=by rw[gj I I];omega
 rw[eI];have fp:fE.gen=S.gen+1:=by rw[B];exact dr
 have dk:fE.bf=S.T.bf:=by rw[B];rfl
 have dl:=F7 eH (gen:=S.gen+2) I I;rw[dk]at dl;refine dl.use ?_;rintro _ eL ⟨rfl,eM,dm⟩;have eN:=cf.af dm (h.t.dF _ h.es).1;have eO:∀q,(fE.k6 (S.gen+2)).M q->S.T.M q\/w.heap.size<=q:=λq a=>by
  rw[B]at a;rcases a with a|a|a|a
  .exact(aR q a).imp .inl id
  .exact .inl (.inr (.inl a))
  .rcases c9 q a with h1|h1
   .exact .inl (.inr (.inr (.inl h1)))
   .have:=aq.size;exact .inr I
  .exact .inl (.inr (.inr (.inr a)))
 refine⟨rfl,⟨S.st,fE.k6 (S.gen+2),S.l,H,S.gen+1,S.now,S.first,0,S.keys,S.failed⟩,⟨rfl,?_,by rw[B];rfl,rfl,?_,λa=>?_,?_,eO,br,by rw[B];rfl,by rw[B];exact(show K.r1=a7.r1 by rw[O];rfl).trans ((show a7.r1=o.D.r1 by rw[Q];rfl).trans be)⟩,rfl,.inl ⟨rfl,⟨⟨?_,eM,?_,?_,rfl,?_,?_⟩,?_,h.bO,?_,?_,h.kv,h.keys,cX _,λ_=>⟨?_,?_,?_⟩,λhf=>?_⟩,al,rfl,by rw[ad],by rw[ad],rfl⟩⟩
 .rw[B];exact cb
 .rw[B];show K.aQ<=_;rw[O];show a7.aQ<=_;omega
 .rw[B]
  show a6.quiet (K.fW _ _);rw[O];refine⟨λk=>qH a7 ?_,?_⟩
  .have bn:=(iE (k:=2) (m:=k) (.inr rfl) U.raw.dev.f4 (cW a (k+1))).1
   rw[Q];exact bn
  .show(a7.b5.set 3 (fV (a7.b5.getD 3 0)).2).getD 3 0= -1
   have bn:=U.raw.dev.f4;have fq:a7.b5.length=4:=by rw[Q];show(o.D.b5.set 2 _).length=4;rw[dd];exact bn
   rw[c1 a,eV (by rw[dd];omega),g1];rfl
 .have hs:∀q,q=S.st->S.W q:=λq e=>by rw[e];exact h.wU
  have av:ae S.W w aS:=cS b0 aT λq _ a=>h.kz (.inr (.inr (.inl a)));have eP:=cS av bq λq _ a=>a.elim;have eQ:=cS eP dg λq _ a=>hs q a;have eS:=cS eQ cc λq _ a=>hs q a;have eT:=cS eS ce λq _ a=>a.elim;exact cS eT dm λq _ a=>h.kz (.inr (.inl a))
 .show Var eL S.st (gA fE.bf fE.C.D.d fE.C.c fE.sb _ _ _ _ _ _ _ _) _
  rw[dk,show fE.C.D.d=S.T.C.D.d by rw[B];exact cb,show fE.C.c=S.T.C.c by rw[B];exact bc,show fE.sb=S.T.sb by rw[B];rfl];exact eN
 .show fE.E S.st
  rw[br];exact h.es
 .rw[B];exact aw
 .refine⟨aU.1,aU.2.1,?_,by show S.gen+1+2<_;omega,aU.2.2.2.2⟩
  show H.c_+1<=S.gen+1;rw[ad];show S.u.c_+1+1<=_;omega
 .intro j b
  have b:fE.g j=true:=b;show fE.C.D.bB j=true;rw[B]at b⊢;exact b
 .refine h.ok.agree (by rw[B];rfl) (by rw[B];rfl) λx hx=>?_
  rw[B];exact(ax x λe=>by
   have:=(h.f x).2 (.inl hx);rw[e,cl]at this;cases this).symm
 .intro j
  have:(fE.k6 (S.gen+2)).f j=f2 j:=by rw[B];rfl
  rw[this];exact aw.g j
 .intro x hx
  exact⟨(aw.two x hx).1,(aw.two x hx).2.1⟩
 .intro e
  have h1:=e S.T.n;have a8:(fE.k6 (S.gen+2)).C.D.bB S.T.n=f2 S.T.n:=by rw[B];rfl
  rw[a8,cu.pf S.T.n (bl _)]at h1;cases h1
 .rw[B];rfl
 .have eU:f2 S.u.map=false:=by rw[bv];unfold da;rw[if_pos rfl]
  have h1:=tP (s:=λi=>f2 i||f2 i) (t:=da (λi=>f2 i||f2 i) S.u.map true) (k:=S.u.map) (by simp[eU]) (by simp[da]) (λi hi=>by simp[da,hi]) (n:=S.T.n) ci.2.2.2.1;have a8:=l1 (da (λi=>f2 i||f2 i) S.u.map true) S.T.n;have fr:cj (fE.k6 (S.gen+2))=S.T.n-eu (λi=>f2 i||f2 i) S.T.n:=by rw[B];rfl
  show 1<=cj (fE.k6 (S.gen+2));omega
 .have hf:S.failed=true:=hf
  rw[al]at hf;cases hf
end
theorem Gb(a b:Int)(w:J)(T:TypeId)(k:IntKind):Sem.run aj (Builtin.max_ #[T,T] T #[.int k a,.int k b]) w=.ok (.int k (max a b)) w:=by
 simp only[Builtin.max_];unfold Builtin.max2;simp;split<;>omega
theorem dz.trans{S aE c:ck}{w w' e:J}{k l:Nat}(h1:dz k S aE w w')(a:dz l aE c w' e):dz (k+l) S c w e:=
 ⟨a.st.trans h1.st,a.d.trans h1.d,a.n.trans h1.n,a.l.trans h1.l,by have:=h1.aQ;have:=a.aQ;omega,λh=>a.q (h1.q h),cS h1.af a.af λq g b=>h1.back g b,λq b=>by
  have:=h1.af.size
  rcases a.db q b with f|f
  .exact h1.db q f
  .exact .inr I,a.E.trans h1.E,a.G.trans h1.G,a.r.trans h1.r⟩
theorem dz.mono{S aE:ck}{w w':J}{k l:Nat}(h:dz k S aE w w')(a:k<=l):dz l S aE w w':={h with aQ:=by have:=h.aQ;omega}
theorem dz.ext{w w':J}(S:ck)(h:Ext w w'):dz 0 S S w w':=⟨rfl,rfl,rfl,rfl,bl _,λh=>h,h.mono λ_ _ h=>h.elim,λq a=>.inl a,rfl,rfl,rfl⟩
section
variable {w w' w1:J}{T:aP}{S aE fx:ck}{pages aM:O Nat}{L bp:O aS}
theorem fk.ext(h:fk w S aM bp)(hx:Ext w w'):fk w' S aM bp:=⟨h.v.ext hx,h.t.ext hx,h.es,h.fz,h.gen,h.num,h.bB⟩
theorem dN.ext(h:dN w S pages L aM bp)(hx:Ext w w'):dN w' S pages L aM bp:=⟨h.tofk.ext hx,h.ok,h.bO,h.f,h.two,h.kv,h.keys,h.nm,h.live,h.dead⟩
theorem dN.jH{jF:Nat}(h:dN w S pages L aM bp)(a:S.T.E jF)(hs:jF≠S.st)(hc:ae (λq=>q=jF) w w'):dN w' S pages L aM bp:=
 ⟨⟨h.v.af hc λe=>hs e.symm,h.t.jH a hc,h.es,h.fz,h.gen,h.num,h.bB⟩,h.ok,h.bO,h.f,h.two,h.kv,h.keys,h.nm,h.live,h.dead⟩
theorem Gc(h:dN w S pages L aM bp):aL aj 56 #[.pointer (some S.st)] w (λv w'=>v=S.keys/\w=w'):=by
 refine okF (ah.vk (some S.st)) az.vk func56 ?_;exact⟨λa=>(by cases a),λ_=>⟨_,rfl,_,by rw[ay];exact h.v.cell,rfl,rfl⟩⟩
def kA(S:ck):Nat:=cj S.T-2*S.T.aH-4
theorem Gd(h:dN w S pages L aM bp):aL aj 82 #[.pointer (some S.st)] w (λv w'=>v=.int .i64 (kA S:Nat)/\Ext w w'):=by
 refine okF (ah.so (some S.st)) az.so func82 ?_;delta ah.so ic b7 au;refine⟨_,rfl,_,h.v.cell,(AG h.t).use ?_⟩;rintro _ e ⟨rfl,a⟩;refine⟨_,_,rfl,_,rfl,_,by rw[ay];exact(h.v.ext a).cell,(wu (h.t.ext a).s).use ?_⟩;rintro _ b ⟨rfl,c⟩;have j:=h.t.s.bx;have k:=h.t.num.2.1;have l:=l1 (λi=>S.T.f i||S.T.g i) S.T.n;have d:(S.T.n:Int)-eu (λi=>S.T.f i||S.T.g i) S.T.n=((cj S.T:Nat):Int):=by unfold cj;omega
 have m:cj S.T<=S.T.n:=Nat.sub_le _ _;rw[d,bz (n:=2*(S.T.aH:Int)) I I];refine⟨_,rfl,_,b,Gb _ _ b _ _,?_,Ext.trans a c⟩;rw[bz (n:=((cj S.T:Nat):Int)-2*(S.T.aH:Int)) I I,bz I I];unfold kA
 congr 1
 omega
end
def jg(c:Prop)(S aE:ck)(pages:O Nat)(L:O aS)(aM:O Nat)(bp:O aS)(v:Y)(w':J):Prop:=
 (v=.int .i64 0/\c/\dN w' aE pages L pages L/\aE.failed=false/\aE.gen=S.gen+1/\aE.u.clock=S.now/\aE.u.c_=S.u.c_+1/\aE.pending=0)\/
 (v=.int .i64 3/\¬S.T.C.D.quiet/\dN w' aE aM bp aM bp/\aE.failed=true/\aE.u=S.u/\aE.gen=S.gen/\(∀j,S.T.g j=true->aE.V j=S.V j)/\((∀j,S.T.g j=true->aE.T.C.D.dU j=[])\/(c/\AT aE S.gen S.T.g pages L S.now (S.u.c_+1))))
theorem oY.x{c:Prop}{S:ck}{pages aM:O Nat}{L bp:O aS}{w w':J}{v:Y}(h:oY S pages L aM bp w v w')(hc:c):∃aE,dz 100 S aE w w'/\aE.now=S.now/\jg c S aE pages L aM bp v w':=by
 obtain⟨aE,h1,a,b⟩:=h;refine⟨aE,h1,a,?_⟩;rcases b with ⟨a1,a2,a3⟩|⟨a1,a2,a3,a4,a5,dH,dX,e1⟩
 .exact .inl ⟨a1,hc,a2,a3⟩
 .exact .inr ⟨a1,a2,a3,a4,a5,dH,dX,.inr ⟨hc,e1⟩⟩
theorem jg.val{c:Prop}{S aE:ck}{pages aM:O Nat}{L bp:O aS}{w':J}{v:Y}(h:jg c S aE pages L aM bp v w'):∃n:Int,v=n:=by
 rcases h with ⟨a,_⟩|⟨a,_⟩<;>exact⟨_,a⟩
def l8(S aE:ck)(pages:O Nat)(L:O aS)(aM:O Nat)(bp:O aS)(v:Y)(w':J):Prop:=
 (v=.int .i64 0/\S.pending+1<S.l.batch/\dN w' aE pages L aM bp/\aE.failed=false/\aE.gen=S.gen/\aE.u=S.u/\aE.pending=S.pending+1/\aE.first=(if S.pending=0 then S.now else S.first)/\∀j,S.T.g j=true->aE.V j=S.V j)\/
 jg (S.l.batch<=S.pending+1) S aE pages L aM bp v w'
section
variable {w w' w1:J}{T:aP}{S aE fx:ck}{pages aM:O Nat}{L bp:O aS}
theorem Ge{d:Int}(b:fk w S aM bp)(t:S.failed=false)(ok:gu S.T pages L)(bO:pages.Nodup)(f:∀no,S.T.f no=true↔no∈pages\/no<2\/no=S.u.map)(two:∀x∈pages,2<=x/\x≠S.u.map)(kv:∀p∈L,cR p.1/\p.2.length<=24)
 (X:¬S.T.C.D.ro/\S.T.C.D.dU=(λ_=> [])/\1<=cj S.T) (Y:(S.keys:Int)+d=L.length) (aq:S.pending<1000) (Z:L.length<4096) (ar:S.keys<100000) (aa:S.T.C.D.aQ<=800000000) (ab:S.gen<=1000000000):
 aL aj 84 #[.pointer (some S.st),d] w (λv w'=>∃aE,dz 100 S aE w w'/\aE.now=S.now/\l8 S aE pages L aM bp v w'):=by
 refine okF (ah.sq (some S.st) d) az.sq func84 ?_;(delta ah.sq aF st au ao cd b7;dsimp only);have N:=b.num;have aw:S.T.M S.st:=.inr (.inr (.inr (.inl b.es)));obtain⟨av,ac,g,y,z⟩:=b.set (i:=17) (x:=L.length) (by decide);refine⟨_,rfl,_,by rw[ay];exact b.v.cell,_,rfl,by rw[ay];exact av,by rw[ay];exact ac,aX ?_⟩;rw[ay,cU,Y,bz (n:=(L.length:Int)) I I];generalize ax:w.setCell ⟨S.st,17,none⟩ L.length=ad at g y z⊢;obtain⟨m,s⟩:∃m,m=if S.pending=0 then S.now else S.first:=⟨_,rfl⟩
 refine kh (λk=>Var k S.st (gA S.T.bf S.T.C.D.d S.T.C.c S.T.sb S.l S.u S.gen S.now m S.pending L.length S.failed) 158/\b4 k S.T/\ae (λq=>q=S.st) w k) (λaA O=>?_) ?_
 .refine⟨_,rfl,_,by rw[ay];exact g.cell,λA=>?_,λA=>O _ ⟨?_,y,z⟩⟩
  .have h0:S.pending=0:=by
    have:(S.pending:Int)=0:=by simpa using A
    omega
   obtain⟨B,E⟩:=er g (i:=15) (by simp[ck.cells,gA]);have af:=ep g (i:=15) (.int .u64 (S.now:Int));have P:=dL ad S.st 15 (.int .u64 (S.now:Int));refine⟨_,rfl,_,by rw[ay];exact g.cell,_,rfl,by rw[ay];exact B,by rw[ay];exact E,aX (O _ ⟨?_,?_,?_⟩)⟩
   .rw[ay,cU,s,if_pos h0];exact af
   .rw[ay,cU];exact y.jH b.es P
   .rw[ay,cU];exact z.trans P
  .have h0:¬S.pending=0:=by
    have:¬(S.pending:Int)=0:=by simpa using A
    omega
   rw[s,if_neg h0];exact g
 rintro k ⟨F,ag,ai⟩;obtain⟨B,E⟩:=er F (i:=16) (by simp[gA]);have Q:=ep F (i:=16) (.int .i64 ((S.pending+1:Nat):Int));have G:=dL k S.st 16 (.int .i64 ((S.pending+1:Nat):Int));have ak:IntKind.wrap .i64 ((S.pending:Int)+1)=((S.pending+1:Nat):Int):=by rw[bz I I];omega
 refine⟨_,rfl,_,by rw[ay];exact F.cell,_,rfl,by rw[ay];exact B,by rw[ay];exact E,aX ?_⟩;rw[ay,cU,ak];have R:=ag.jH b.es G;generalize aB:k.setCell ⟨S.st,16,none⟩ (.int .i64 ((S.pending+1:Nat):Int))=o at Q G R⊢;have H:Ext o o.drew:=cJ _;have J:=Q.ext H;have al:=R.ext H;have am:ae (λq=>q=S.st) w o.drew:=cS (ai.trans G) H λq _ K=>K.elim;obtain⟨cy,a⟩:∃cy:ck,cy={S with first:=m,pending:=S.pending+1,keys:=L.length}:=⟨_,rfl⟩;have an:m<=S.now:=by rw[s];split<;>omega
 have U:dN o.drew cy pages L aM bp:=by
  rw[a];exact⟨⟨J,al,b.es,b.fz,b.gen,⟨N.1,an,N.2.2⟩,b.bB⟩,ok,bO,f,two,kv,rfl,by show S.pending+1<=1000;omega,λ_=>X,λhf=>by have hf:S.failed=true:=hf;rw[t]at hf;cases hf⟩
 have V:dz 0 S cy w o.drew:=by
  rw[a];exact⟨rfl,rfl,rfl,rfl,bl _,λh=>h,am.mono λq _ e=>by rw[e];exact b.wU,λq K=>.inl K,rfl,rfl,rfl⟩
 refine aX ⟨_,rfl,id,_,by rw[ay];exact J.cell,_,rfl,id,_,by rw[ay,ay];exact J.cell,λr=>?_,λr=>?_⟩
 .have r:((S.pending+1:Nat):Int)>=(S.l.batch:Int):=cu r
  have W:=Ga U (by rw[a];exact t) Z (by rw[a];exact aa) (by rw[a];exact ab);rw[show cy.st=S.st by rw[a]]at W;refine W.use ?_;intro v aC ap;obtain⟨aE,r1,aF,cd⟩:=ap.x (c:=S.l.batch<=S.pending+1) I;obtain⟨n,rfl⟩:=cd.val;refine⟨n,rfl,aE,(V.trans r1).mono I,by rw[aF,a],.inr ?_⟩;rw[a]at cd;exact cd
 .have r:¬((S.pending+1:Nat):Int)>=(S.l.batch:Int):=cQ r
  exact⟨cy,V.mono I,by rw[a],.inl ⟨rfl,I,U,by rw[a];exact t,by rw[a],by rw[a],by rw[a],by rw[a];exact s,λj _=>by rw[a];rfl⟩⟩
end
section
variable {w w' w1:J}{T ax:aP}{S aE fx:ck}{pages aM:O Nat}{L bp:O aS}{k:Nat}
def ck.b6(S:ck)(ax:aP):ck:={S with T:=ax}
theorem fk.to(h:fk w S aM bp)(ht:b4 w' ax)(a:b_ S.T ax w w' k)(f:ax.E=S.T.E)(l:ax.G=S.T.G)(o:∀no,S.T.g no=true->ax.P no=S.T.P no):
 fk w' (S.b6 ax) aM bp/\dz k S (S.b6 ax) w w'/\(S.b6 ax).V=S.V:=by
 have r:ax.C.D.bw=S.T.C.D.bw:=congrArg (λp=>p.1.1) a.bw;have s:ax.C.D.b5.getD 3 0=S.T.C.D.b5.getD 3 0:=congrArg Prod.snd a.bw;have i:(S.b6 ax).V=S.V:=by
  funext j;show ax.C.D.bw.getD j []=S.T.C.D.bw.getD j [];rw[r]
 refine⟨⟨?_,ht,by show ax.E S.st;rw[f];exact h.es,?_,a.gen.trans h.gen,h.num,λj b=>?_⟩,⟨rfl,a.d,a.n,rfl,a.aQ,λe=>⟨λm=>a.calm m (e.1 _),s.trans e.2⟩,a.af.mono λq _ e=>h.kz e,a.db,f,l,congrArg (λp=>p.1.2.2.2.2) a.bw⟩,i⟩
 .show Var w' S.st (gA ax.bf ax.C.D.d ax.C.c ax.sb _ _ _ _ _ _ _ _) _
  rw[a.bf,a.d,a.c,a.sb];exact h.v.af a.af (h.t.j4 h.es)
 .show jf _ ax.n _ _ ax.g ax.P _ _
  rw[i,a.n,a.g];exact h.fz.agree (λ_ _=>rfl) λx hx=>(o x ((h.fz.g x).2 (.inl hx))).symm
 .have b:ax.g j=true:=b
  rw[a.g]at b;show ax.C.D.bB j=true;rw[a.bB.1];exact h.bB j b
theorem b_.ro(h:b_ T ax w w' k):ax.C.D.ro↔T.C.D.ro:=by unfold a6.ro;rw[h.bB.1]
theorem dN.to(h:dN w S pages L aM bp)(ht:b4 w' ax)(a:b_ S.T ax w w' k)(c:ax.E=S.T.E)(d:ax.G=S.T.G)(b:qF S.T ax):
 dN w' (S.b6 ax) pages L aM bp/\dz k S (S.b6 ax) w w'/\(S.b6 ax).V=S.V:=by
 obtain⟨h1,i,j⟩:=h.tofk.to ht a c d λno l=>(b.ee no (by rw[l,Bool.or_true])).1;have m:cj ax=cj S.T:=by unfold cj;rw[a.n,b.f,a.g]
 refine⟨⟨h1,b.ok h.ok λx hx=>(h.f x).2 (.inl hx),h.bO,λno=>by show ax.f no=true↔_;rw[b.f];exact h.f no,h.two,h.kv,h.keys,h.nm,λhf=>?_,λhf=>?_⟩,i,j⟩
 .obtain⟨a1,a2,a3⟩:=h.live hf
  exact⟨λe=>a1 (a.ro.1 e),a.bB.2.trans a2,by show 1<=cj ax;rw[m];exact a3⟩
 .obtain⟨a1,a2⟩:=h.dead hf
  exact⟨a.ro.2 a1,a2⟩
theorem Gf{tk:ad}{key:Key}(h:dN w S pages L aM bp)(b:S.T.C.D.aQ<=800000000)(c:Src 1 w tk (aA key))(d:∀q,aC tk q->q<w.heap.size/\¬S.T.M q):
 aL aj 55 #[.pointer (some S.st),tk] w (λv w'=>∃aD,dN w' (S.b6 (S.T.bK aD S.T.P)) pages L aM bp/\dz 30 S (S.b6 (S.T.bK aD S.T.P)) w w'/\wO S.T L key w v w'):=by
 refine okF (ah.sf (some S.st) tk) az.sf func55 ?_;delta ah.sf ao lE;refine⟨λe=>(by cases e),λ_=>⟨_,rfl,_,h.v.cell,(AF h.t h.ok b c d).use ?_⟩⟩;intro v w' a;have f:=a;obtain⟨aD,h1,g,i,j⟩:=a;obtain⟨a1,a2,_⟩:=h.to h1 g rfl rfl (.bK i);have fin:(λv w'=>∃aD,dN w' (S.b6 (S.T.bK aD S.T.P)) pages L aM bp/\dz 30 S (S.b6 (S.T.bK aD S.T.P)) w w'/\wO S.T L key w v w') v w':=⟨aD,a1,a2,f⟩;rcases j with ⟨rfl,_⟩|⟨t,x,rfl,_⟩|⟨rfl,_⟩
 .exact⟨⟨none,0,0⟩,_,_,rfl,fin⟩
 .exact⟨t,_,_,rfl,fin⟩
 .exact⟨⟨none,0,0⟩,_,_,rfl,fin⟩
end
theorem wV(k v:Key):∀L:O aS,(fK L k v).length=(fT L k).length+1
 | []=>rfl
 |p::L=>by
  have c:=wV k v L
  unfold fK fT at c⊢
  simp only[cM,hJ,q0]at c⊢
  by_cases h1:bP p.1 k
  .have a:¬bP k p.1:=jZ h1
   have b:p.1≠k:=λe=>by rw[e]at h1;exact jZ h1 h1
   rw[if_pos (dw h1),if_neg (by simpa using a),if_pos (dw b)]
   simp only[hJ];omega
  .by_cases a:bP k p.1
   .have b:p.1≠k:=λe=>h1 (by rw[e]at a;exact absurd a (λh=>jZ h h))
    rw[if_neg (by simpa using h1),if_pos (dw a),if_pos (dw b)]
    simp only[hJ];omega
   .have b:p.1=k:=by
     rcases tf p.1 k with h|h|h
     .exact absurd h h1
     .exact h
     .exact absurd h a
    rw[if_neg (by simpa using h1),if_neg (by simpa using a),if_neg (by simpa using b)];omega
theorem wW{k:Key}:∀ {L:O aS},ig L->L.length=(fT L k).length+(if gx L k=none then 0 else 1)
 | [],_=>rfl
 |p::L,h=>by
  have h0:=kF.1 h
  have f:=wW (k:=k) h0.2
  by_cases e:p.1=k
  .have h1:∀q∈L,q.1≠k:=λq c d=>by
    have:=h0.1 q c
    rw[e,d]at this
    exact jZ this this
   have a:fT (p::L) k=L:=by
    have:fT (p::L) k=fT L k:=by unfold fT;rw[q0];simp[e]
    rw[this,vu h1]
   have b:gx (p::L) k≠none:=by unfold gx;simp[e]
   rw[a,if_neg b];rfl
  .have a:(fT (p::L) k).length=(fT L k).length+1:=by unfold fT;rw[q0];simp[e]
   have b:gx (p::L) k=gx L k:=by unfold gx;simp[e]
   rw[a,b,hJ];omega
section
variable {w w' w1:J}{T ax:aP}{S aE de:ck}{pages aM:O Nat}{L bp:O aS}{k:Nat}
structure oZ(S de:ck):Prop where
 u:de.u=S.u
 gen:de.gen=S.gen
 now:de.now=S.now
 first:de.first=S.first
 pending:de.pending=S.pending
 l:de.l=S.l
 g:de.T.g=S.T.g
 V:de.V=S.V
theorem jg.back{c:Prop}{v:Y}(h:jg c de aE pages L aM bp v w')(e:oZ S de)(d:dz k S de w w1):jg c S aE pages L aM bp v w':=by
 unfold jg at h⊢;rw[e.u,e.gen,e.now,e.g,e.V]at h;exact h.imp id λ⟨a,b,c⟩=>⟨a,λf=>b (d.q f),c⟩
theorem l8.back{v:Y}(h:l8 de aE pages L aM bp v w')(e:oZ S de)(a:dz k S de w w1):l8 S aE pages L aM bp v w':=by
 unfold l8 at h⊢;have:=λh=>jg.back (pages:=pages) (L:=L) (aM:=aM) (bp:=bp) (c:=S.l.batch<=S.pending+1) (v:=v) (aE:=aE) (w':=w') h e a;rw[e.pending,e.l,e.gen,e.u,e.now,e.first,e.g,e.V]at h;exact h.imp id this
theorem wX(b:fk w1 de aM bp)(d:dz k S de w w1)(e:oZ S de)(h:¬S.T.C.D.quiet)(i:de.T.C.D.dU=λ_=> [])(l:de.T.C.D.aQ<=900000000):
 aL aj 81 #[.pointer (some S.st),(3:Int)] w1 (λv w'=>v=.int .i64 3/\∃aE,dz k S aE w w'/\aE.now=S.now/\∀c pages L,jg c S aE pages L aM bp v w'):=by
 have hf:=AR b 3 l;rw[d.st]at hf;refine hf.mono ?_;rintro v w' ⟨rfl,aE,hs,hd,a⟩;refine⟨rfl,aE,d.trans hd,a.now.trans e.now,λc pages L=>.inr ⟨rfl,h,hs,a.failed,a.u.trans e.u,a.gen.trans e.gen,λj f=>?_,.inl λj f=>?_⟩⟩
 .rw[←e.V];unfold ck.V;rw[a.V]
 .rw[a.sa j,b.t.ca.inv.kq j (b.bB j (by rw[e.g];exact f)),i]
theorem dN.Gg{bZ:aP}{dy:O aS}{d:Int}(h:dN w S pages L aM bp)(hf:S.failed=false)(o:b4 w' bZ)(c:b_ S.T bZ w w' k)(q:bZ.E=S.T.E)(r:bZ.G=S.T.G)(s:FG S.T bZ pages dy)(X:2*S.T.aH+5<=cj S.T)(t:∀p∈dy,cR p.1/\p.2.length<=24)(hd:(S.keys:Int)+d=dy.length)(y:dy.length<4096)(Y:S.keys<4096)(z:S.pending<1000)(Z:S.T.C.D.aQ+k<=800000000)(A:S.gen<=1000000000):
 aL aj 84 #[.pointer (some S.st),d] w' (λv l=>(∃n:Int,v=n)/\∃aE eW,dz (k+100) S aE w l/\aE.now=S.now/\l8 S aE eW dy aM bp v l):=by
 obtain⟨⟨eW,aa,B,ej,F,H⟩,I⟩:=s;obtain⟨J,m,K⟩:=h.tofk.to o c q r λno M=>(I no M).1;have N:oZ S (S.b6 bZ):=⟨rfl,rfl,rfl,rfl,rfl,rfl,c.g,K⟩;obtain⟨P,Q,_⟩:=h.live hf;have R:∀j,j<2\/j=S.u.map->j∉pages:=λj i U=>by
  have:=h.two j U;rcases i with i|i
  .omega
  .exact this.2 i
 refine(Ge (d:=d) J hf B ej (λno=>(H no).trans ?_) (λx hx=>?_) t ⟨λe=>P (c.ro.1 e),c.bB.2.trans Q,by show 1<=cj bZ;omega⟩ hd z y (by show S.keys<_;omega) (by have:=c.aQ;show bZ.C.D.aQ<=_;omega) A).mono ?_
 .rw[h.f no]
  constructor
  .rintro(h1|⟨h1|h1,b⟩)
   .exact .inl h1
   .exact absurd h1 b
   .exact .inr h1
  .rintro(h1|h1)
   .exact .inl h1
   .exact .inr ⟨.inr h1,R no h1⟩
 .rcases F x hx with h1|h1
  .exact h.two x h1
  .have b:S.T.f x=false:=by cases ab:S.T.f x<;>simp_all
   refine⟨Nat.le_of_not_lt λV=>?_,λW=>?_⟩
   .rw[(h.f x).2 (.inr (.inl V))]at b;cases b
   .rw[(h.f x).2 (.inr (.inr W))]at b;cases b
 .rintro v l ⟨aE,r1,aF,cd⟩
  refine⟨?_,aE,eW,m.trans r1,aF,cd.back N m⟩;rcases cd with ⟨a,_⟩|a
  .exact⟨0,a⟩
  .exact a.val
theorem pY(w:J)(s:ad):aL aj 79 #[s] w (λv w'=>v=.bool (decide (1<=s.len/\s.len<=24))/\w=w'):=by
 refine okF (ah.pY s) az.pY func79 ?_;refine⟨?_,rfl⟩
 congr 1
 rw[fA,dn,cA,cA,cA];omega
theorem Gh{tk ef:ad}{key val:Key}(h:dN w S pages L aM bp)(a4:L.length<4000)(G:S.pending<1000)(a5:S.T.C.D.aQ<=700000000)(ak:S.gen<=1000000000)
 (H:Src 1 w tk (aA key)) (A:∀q,aC tk q->q<w.heap.size/\¬S.T.M q) (V:Src 1 w ef (aA val)) (W:∀q,aC ef q->q<w.heap.size/\¬S.T.M q):
 aL aj 23 #[.pointer (some S.st),tk,ef] w (λv w'=>(v=.int .i64 1/\¬(cR key/\val.length<=24)/\w=w')\/((cR key/\val.length<=24)/\
  ((S.failed=true/\v=.int .i64 8/\w=w')\/(S.failed=false/\∃aE,dz 300 S aE w w'/\aE.now=S.now/\
    ((v=.int .i64 2/\kA S=0/\dN w' S pages L aM bp/\aE=S)\/(kA S≠0/\∃eW,l8 S aE eW (fK L key val) aM bp v w')))))):=by
 have am:tk.len=key.length:=by have:=H.len;rw[dg]at this;omega
 have a6:ef.len=val.length:=by have:=V.len;rw[dg]at this;omega
 have a7:=h.t.s.bx;refine okF (ah.sd (some S.st) tk ef) az.sd func23 ?_;(delta ah.sd ao cc aW b7 lE;dsimp only);refine cH (λb w'=>(b=false↔cR key)/\w=w') (λq a=>⟨λB=>(by cases B),λ_=>(pY w tk).use ?_⟩) ?_
 .rintro _ _ ⟨rfl,rfl⟩
  refine⟨_,rfl,a _ _ ⟨?_,rfl⟩⟩;unfold cR;rw[am,nz,cA]
 rintro b _ ⟨B,rfl⟩;refine⟨λh1=>.inl ⟨rfl,λhg=>?_,rfl⟩,λh1=>?_⟩
 .rcases Bool.or_eq_true_iff.1 h1 with j|j
  .rw[B.2 hg.1]at j;cases j
  .have:=cu j;have:=hg.2;omega
 have hg:cR key/\val.length<=24:=by
  have j:=o8.1 h1;have X:=cQ j.2;exact⟨B.1 j.1,I⟩
 refine⟨_,rfl,S.failed,by rw[ay];exact h.v.cell,λhf=>.inr ⟨hg,.inl ⟨hf,rfl,rfl⟩⟩,λhf=>(Gd h).use ?_⟩;rintro _ a8 ⟨rfl,m⟩;have u:=h.ext m;obtain⟨an,ap,_⟩:=h.live hf;refine⟨_,rfl,λJ=>.inr ⟨hg,.inr ⟨hf,S,(dz.ext S m).mono I,rfl,.inl ⟨rfl,?_,u,rfl⟩⟩⟩,λJ=>?_⟩
 .have:((kA S:Nat):Int)=0:=by simpa using J
  omega
 have E:kA S≠0:=by
  have:¬((kA S:Nat):Int)=0:=by simpa using J
  omega
 refine⟨_,rfl,_,u.v.cell,(AF u.t u.ok I (H.ext m) λq a=>⟨by have:=(A q a).1;have:=m.size;omega,(A q a).2⟩).use ?_⟩;rintro v K ⟨i,Y,o,aq,F⟩;obtain⟨r,Z,aa⟩:=u.to Y o rfl rfl (.bK aq);have y:dz 30 S (S.b6 (S.T.bK i S.T.P)) w K:=((dz.ext S m).trans Z).mono I;have N:oZ S (S.b6 (S.T.bK i S.T.P)):=⟨rfl,rfl,rfl,rfl,rfl,rfl,rfl,aa⟩;have O:(S.b6 (S.T.bK i S.T.P)).T.C.D.dU=λ_=> []:=o.bB.2.trans ap;have a9:i.D.aQ<=S.T.C.D.aQ+30:=o.aQ;have ar:∀n:Int,v=.tuple #[(),false,(3:Int)]->¬S.T.C.D.quiet->aL aj 81 #[.pointer (some S.st),(3:Int)] K (λv w'=>v=.int .i64 3/\∃aE,dz 30 S aE w w'/\aE.now=S.now/\∀c pages L,jg c S aE pages L aM bp v w'):=λ_ _ a=>wX r.tofk y N a O (by show i.D.aQ<=_;omega);have au:∃ (t:ad) (e:al) (n:Int),v=.tuple #[t,e,n]/\((n=0/\(e=true↔gx L key≠none))\/(n=3/\¬S.T.C.D.quiet)):=by
  rcases F with ⟨rfl,l⟩|⟨t,x,rfl,_,hs,_⟩|⟨rfl,_,Q⟩
  .exact⟨⟨none,0,0⟩,false,0,rfl,.inl ⟨rfl,λh=>(by cases h),λh=>absurd (l hg.1) h⟩⟩
  .exact⟨t,true,0,rfl,.inl ⟨rfl,λ_=>by rw[hs];simp,λ_=>rfl⟩⟩
  .exact⟨⟨none,0,0⟩,false,3,rfl,.inr ⟨rfl,λa=>Q (a.1 30)⟩⟩
 clear ar F;obtain⟨t,e,n,rfl,av⟩:=au;rcases av with ⟨rfl,he⟩|⟨rfl,R⟩
 rotate_left
 .refine⟨t,e,3,rfl,λ_=>(wX r.tofk y N R O (by show i.D.aQ<=_;omega)).use ?_,λh=>(by cases h)⟩
  rintro _ aw ⟨rfl,aE,r1,aF,cd⟩;exact⟨3,rfl,.inr ⟨hg,.inr ⟨hf,aE,r1.mono I,aF,.inr ⟨E,[],.inr (cd _ _ _)⟩⟩⟩⟩
 have a_:=m.size;have ba:=o.af.size;have ab:∀s:ad,(∀q,aC s q->q<w.heap.size/\¬S.T.M q)->∀q,aC s q->q<K.heap.size/\¬(S.T.bK i S.T.P).M q:=λs hs q a=>⟨by have:=(hs q a).1;omega,λax=>by
  rcases o.db q ax with j|j
  .exact(hs q a).2 j
  .have:=(hs q a).1;omega⟩
 have aB:=(H.ext m).af o.af λq a l=>(A q a).2 (aP.hC l);have aD:=(V.ext m).af o.af λq a l=>(W q a).2 (aP.hC l);have aG:¬(S.T.bK i S.T.P).C.D.ro:=λe=>an (o.ro.1 e);refine⟨t,e,0,rfl,λh=>(by cases h),λ_=>⟨_,rfl,_,r.v.cell,?_⟩⟩;refine(FD Y aG r.ok I r.bO (λx hx=>(r.f x).2 (.inl hx)) (by show i.D.aQ<=_;omega) aB (ab tk A) aD (ab ef W)).use ?_;rintro v aI (⟨_,aJ,_⟩|⟨_,_,bZ,ac,z,ae,ag,F⟩)
 .exact absurd hg aJ
 have aK:cj (S.T.bK i S.T.P)=cj S.T:=rfl;have aN:(S.T.bK i S.T.P).aH=S.T.aH:=rfl;have aO:2*S.T.aH+5<=cj S.T:=by unfold kA at E;omega
 rcases F with ⟨_,aR,_⟩|⟨rfl,_,⟨eW,aS,aT,ej,aU,aV⟩,U⟩|⟨rfl,Q,bb,bc,bd,U⟩
 .rw[aK,aN]at aR;omega
 .have hlen:(S.keys:Int)+(if e=true then 0 else 1)=(fK L key val).length:=by
   have h1:=wV key val L;have j:=wW (k:=key) h.ok.rising;have X:=h.keys;by_cases l:gx L key=none
   .have:¬e=true:=λh=>he.1 h l
    rw[if_pos l]at j;rw[if_neg this];omega
   .rw[if_neg l]at j
    rw[if_pos (he.2 l)];omega
  have X:=h.keys;have aX:(fK L key val).length<4096:=by split at hlen<;>omega
  have ai:=λd hd=>r.Gg (d:=d) hf ac z ae ag ⟨⟨eW,aS,aT,ej,aU,aV⟩,U⟩ aO (λp G=>by
   rcases Da.1 G with rfl|⟨h1,_⟩
   .exact hg
   .exact h.kv p h1) hd aX (by show S.keys<_;omega) G (by show i.D.aQ+100<=_;omega) ak
  refine⟨0,rfl,λh=>(by cases h),λ_=>⟨λht=>(ai 0 (by rw[←hlen,if_pos ht];rfl)).use ?_,λht=>(ai 1 (by rw[←hlen,if_neg (by rw[ht];decide)];rfl)).use ?_⟩⟩
  all_goals
   rintro v w' ⟨⟨n,rfl⟩,aE,eW,r1,aF,cd⟩;exact⟨n,rfl,.inr ⟨hg,.inr ⟨hf,aE,(y.trans r1).mono I,aF,.inr ⟨E,eW,cd.back N y⟩⟩⟩⟩
 .obtain⟨aY,aZ,a0⟩:=r.tofk.to ac z ae ag λno a1=>(U no (by show(S.T.f no||S.T.g no)=true;rw[show S.T.g no=true from a1,Bool.or_true])).1
  have a2:dz 130 S (S.b6 bZ) w aI:=(y.trans aZ).mono I;have a3:oZ S (S.b6 bZ):=⟨rfl,rfl,rfl,rfl,rfl,rfl,z.g,a0.trans aa⟩;have R:¬S.T.C.D.quiet:=λa=>Q ((Z.q a).1 100);refine⟨3,rfl,λ_=>(wX aY a2 a3 R (z.bB.2.trans O) (by have:=z.aQ;show bZ.C.D.aQ<=_;have e:(S.T.bK i S.T.P).C.D.aQ=i.D.aQ:=rfl;omega)).use ?_,λh=>(by cases h)⟩;rintro _ aw ⟨rfl,aE,r1,aF,cd⟩;exact⟨3,rfl,.inr ⟨hg,.inr ⟨hf,aE,r1.mono I,aF,.inr ⟨E,[],.inr (cd _ _ _)⟩⟩⟩⟩
end
section
variable {w w':J}{D:a6}{V:Nat->c2}{gen:Nat}{u:eg}{g:Nat->al}{P:Nat->ar aB}{aM:O Nat}{bp:O aS}
theorem Gi{c aV k:Nat}{a:Nat->Prop}(h:dB (λ_=>False) w (kr c aV k D))(d:∀q,a q->q<w.heap.size/\¬cP (kr c aV k D) q):dB a w (kr c aV k D):=
 ⟨h.raw,h.inv.pins,λf hf b=>(by
  have:=(List.mem_replicate.1 (show f∈List.replicate k dp from hf)).2
  rw[this]at b
  cases b),h.inv.un,d,h.inv.kq⟩
end
structure AU(D:a6)(l:fe)(bV:Nat->Prop)(k:Nat)(w w':J)(S:ck):Prop where
 live:S.failed=false
 nm:S.pending=0
 now:S.now=S.u.clock
 l:S.l=l
 d:S.T.C.D.d=D.d
 n:S.T.n=D.n
 q:S.T.C.D.quiet
 aQ:S.T.C.D.aQ<=D.aQ+k
 M:∀q,S.T.M q->b9 D q\/bV q\/w.heap.size<=q
 E:∀q,S.T.E q↔q=S.st\/bV q
 st:w.heap.size<=S.st
 r:S.T.C.D.r1=D.r1
 af:ae (b9 D) w w'
section
variable {w w':J}{D:a6}{bV:Nat->Prop}
theorem Gj{l:fe}(h:c3 w D)(z:nk (l.ak:Nat) (l.batch:Nat) (l.hT:Nat))(O:∀k,D.calm k)(oM:D.b5.getD 3 0= -1)(P:D.aQ<=999999000)(A:∀q,bV q->q<w.heap.size/\¬b9 D q):
 aL aj 19 #[.pointer (some D.d),.agg l.c.toArray] w (λv w'=>∃S:ck,v=.tuple #[.pointer (some S.st),(0:Int)]/\dN w' S [] [] [] []/\AU D l bV 4 w w' S/\S.u=iu/\S.gen=1):=by
 have ab:=h.bL;have Q:=h.bx;refine(mG h z O oM P).mono ?_;rintro v w' ⟨aw,sb,s1,s2,c,aV,bf,st,jb,R⟩;obtain rfl:=R.AP.val;have hd:=R.oz;have B:=R.AP;have ac:=R.af.size;have ad:=B.x.size;have ae:=B.hc;have ag:=B.hf;have ah:=B.ht;have ai:=B.sv.lt;have F:∀j,aw.bw.getD j []=aw.now j:=λj=>by unfold a6.now;rw[hd.waits];rfl
 have o:∀q,cP (kr c aV l.ak aw) q->q=c\/q=aV\/b9 aw q:=λq h=>h;have H:∀q,b9 aw q->q<jb.heap.size:=λq f=>by
  rcases R.dq q f with h1|h1
  .have:=h.lt h1;omega
  .omega
 have U:aw.quiet:=⟨hd.calm,hd.b5⟩;obtain⟨T,b⟩:∃T:aP,T=⟨bf,1+1,0,0,kr c aV l.ak aw,sb,D.n,λi=>decide (i<3),λi=>decide (i<3),s1,s2,λq=>q=st\/bV q,λ_=>False,λ_=>none⟩:=⟨_,rfl⟩;have V:∀q,bV q->q<w.heap.size/\¬b9 aw q:=λq f=>⟨(A q f).1,λhf=>by
  rcases R.dq q hf with h1|h1
  .exact(A q f).2 h1
  .have:=(A q f).1;omega⟩
 have W:b4 w' T:=by
  have J:dB T.X w' (kr c aV l.ak aw):=Gi B.ca λq f=>by
   rw[b]at f;rcases f with h1|h1|h1|h1
   .have h1:q=bf:=h1
    refine⟨I,λhf=>?_⟩;rcases o q hf with a|a|a
    .omega
    .omega
    .have:=H q a;omega
   .have E:=R.qI q h1
    refine⟨I,λhf=>?_⟩;rcases o q hf with a|a|a
    .omega
    .omega
    .have al:=B.ca.raw.dev
     exact R.FX q h1 a
   .rcases(show q=st\/bV q from h1) with h1|h1
    .refine⟨I,λhf=>?_⟩
     rcases o q hf with a|a|a
     .omega
     .omega
     .have:=H q a;omega
    .have E:=V q h1
     refine⟨I,λhf=>?_⟩;rcases o q hf with a|a|a
     .omega
     .omega
     .exact E.2 a
   .exact h1.elim
  rw[b]at J⊢;refine⟨B.ef,R.sp,J,λhf=>by have:=R.qI bf hf;omega,λq f=>?_,λq f=>f.elim,hd.n,⟨by show 0<D.n;omega,(by decide:0<=12),(by decide:1+1<18446744073709551616)⟩,λno bO G=>(by cases G),λj m=>.inl ?_,⟨rfl,rfl⟩⟩
  .rcases(show q=st\/bV q from f) with h1|h1
   .exact⟨by show q≠bf;omega,λhf=>by have:=R.qI q hf;omega,λh=>h⟩
   .have E:=A q h1
    exact⟨by show q≠bf;omega,λhf=>by have:=R.qI q hf;omega,λh=>h⟩
  .have m:aw.bB j=true:=m
   rw[hd.bB]at m;exact m
 have K:lZ iu D.n:=⟨Iff.intro (λ_=>rfl) (λ_=>rfl),by decide,by show 0<D.n;omega,by show 2<D.n;omega,by decide,Q⟩;have L:lY iu:=⟨by decide,by decide,by decide,by decide,by decide,by decide⟩;have M:jf (λj=>aw.bw.getD j []) D.n 1 iu (λi=>decide (i<3)) (λ_=>none) [] []:=by
  refine⟨⟨3,I,rfl⟩,?_,.inl ?_,⟨1,bl _,?_⟩,λno=>?_,List.nodup_nil,λx hx=>(by cases hx),.inl ⟨rfl,rfl,rfl,rfl⟩,λx hx=>(by cases hx),rfl,λq f=>(by cases f),L,K,bl _⟩
  .show qw ((1:Nat):Int) (aw.bw.getD 1 [])=_
   rw[F,hd.now];exact zG L K (by decide) (by decide)
  .show aw.bw.getD 0 []=gO
   rw[F,hd.now];rfl
  .show fa ((2:Nat):Int) (aw.bw.getD 2 [])=_
   rw[F,hd.now];exact tu I ⟨(by decide:1<=4),(by decide:4<=4),(by decide:1<18446744073709551616),by show(hF _ _).length<=232;rw[t_];omega⟩
  .show decide (no<3)=true↔no∈ []\/no<2\/no=2
   simp only[ff,false_or,cA];omega
 obtain⟨S,y⟩:∃S:ck,S=⟨st,T,l,iu,1,0,0,0,0,false⟩:=⟨_,rfl⟩;have Y:1<=cj T:=by
  have h1:=tP (s:=λi=>decide (i<3)||decide (i<3)) (t:=da (λi=>decide (i<3)||decide (i<3)) 3 true) (k:=3) (by simp) (by simp[da]) (λi hi=>by simp[da,hi]) (n:=D.n) I;have a:=l1 (da (λi=>decide (i<3)||decide (i<3)) 3 true) D.n;have E:cj T=D.n-eu (λi=>decide (i<3)||decide (i<3)) D.n:=by rw[b];rfl
  omega
 refine⟨S,by rw[y],?_,?_,by rw[y],by rw[y]⟩
 .rw[y]
  refine⟨⟨?_,W,by rw[b];exact .inl rfl,by rw[b];exact M,by rw[b],⟨(by decide:0<18446744073709551616),bl _,bl _,(by decide:1+2<18446744073709551616),?_,?_,?_⟩,λj m=>?_⟩,.inl ?_,List.nodup_nil,?_,λx hx=>(by cases hx),λp G=>(by cases G),rfl,cX _,λ_=>⟨?_,by rw[b];exact hd.dU,Y⟩,λhf=>(by cases hf)⟩
  .show Var w' st (gA T.bf T.C.D.d T.C.c T.sb _ _ _ _ _ _ _ _) _
   rw[b];exact B.sv
  .have:=z.2.2.2.1;show l.batch<=1000;omega
  .have:=z.2.2.2.2.2;show l.hT<=1048576;omega
  .have:=z.2.2.1;show 1<=l.batch;omega
  .have m:T.g j=true:=m
   show T.C.D.bB j=true;rw[b]at m⊢;show aw.bB j=true;rw[hd.bB];exact m
  .rw[b];exact⟨rfl,rfl,rfl,rfl⟩
  .intro no
   have Z:=M.g no;rw[b];exact Z
  .intro e
   have h1:aw.bB 5=true:=by have:=e 5;rw[b]at this;exact this
   rw[hd.bB]at h1;cases h1
 .rw[y]
  refine⟨rfl,rfl,rfl,rfl,by rw[b];exact hd.d,by rw[b],by rw[b];exact U,by rw[b];show aw.aQ<=_;rw[hd.aQ];omega,λq N=>?_,λq=>by rw[b],by show w.heap.size<=st;omega,by rw[b];exact hd.r,cS R.af B.x λq _ h=>h.elim⟩;rw[b]at N;have aa:∀q,b9 aw q->b9 D q\/bV q\/w.heap.size<=q:=λq f=>by
   rcases R.dq q f with h1|h1
   .exact .inl h1
   .exact .inr (.inr h1.1)
  rcases N with h1|h1|h1|h1|h1
  .rcases o q h1 with a|a|a
   .exact .inr (.inr I)
   .exact .inr (.inr I)
   .exact aa q a
  .have h1:q=bf:=h1
   exact .inr (.inr I)
  .exact .inr (.inr (R.qI q h1).1)
  .rcases(show q=st\/bV q from h1) with h1|h1
   .exact .inr (.inr I)
   .exact .inr (.inl h1)
  .exact h1.elim
end
section
variable {V:Nat->c2}{n gen:Nat}{u:eg}{g:Nat->al}{P:Nat->ar aB}{aM:O Nat}{bp:O aS}
theorem jf.low(h:jf V n gen u g P aM bp):aM.length<=bp.length:=by
 rcases h.ok with ⟨_,_,a,_⟩|a
 .rw[a];exact cX _
 .exact a.pages.1
end
structure gv(w0 w:J)(bV:Nat->Prop)(d n:Nat)(l:fe)(S:ck)(pages:O Nat)(L:O aS)(aM:O Nat)(bp:O aS)(c:Nat):Prop where
 x:Ext w0 w
 at_:dN w S pages L aM bp
 E:∀q,S.T.E q↔q=S.st\/bV q
 ne:¬bV S.st
 ue:∀q,S.T.M q->w0.heap.size<=q
 lim:S.l=l
 d:S.T.C.D.d=d
 n:S.T.n=n
 aQ:S.T.C.D.aQ<=20000*(c+1)
 fw:L.length<=c/\bp.length<=c
 gen:S.gen<=c+1
 uf:S.pending<=c
 r:S.T.C.D.r1=true
section
variable {w0 w w':J}{bV:Nat->Prop}{d n g5 k c:Nat}{l:fe}{S aE:ck}{pages aM:O Nat}{L bp:O aS}
theorem gv.ug(h:gv w0 w bV d n l S pages L aM bp c){q:Nat}(a:bV q):S.T.E q/\q≠S.st:=⟨(h.E q).2 (.inr a),λe=>h.ne (e▸a)⟩
theorem gv.ext(h:gv w0 w bV d n l S pages L aM bp c)(hx:Ext w w'):gv w0 w' bV d n l S pages L aM bp c:={h with x:=h.x.trans hx,at_:=h.at_.ext hx}
theorem gv.mono{e:Nat}(h:gv w0 w bV d n l S pages L aM bp c)(he:c<=e):gv w0 w bV d n l S pages L aM bp e:={h with aQ:=by have:=h.aQ;omega,fw:=⟨by have:=h.fw.1;omega,by have:=h.fw.2;omega⟩,gen:=by have:=h.gen;omega,uf:=by have:=h.uf;omega}
theorem gv.jH{jF:Nat}(h:gv w0 w bV d n l S pages L aM bp c)(a:bV jF)(hc:ae (λq=>q=jF) w w'):gv w0 w' bV d n l S pages L aM bp c:=
 {h with x:=Ext.dj h.x hc λq e=>by rw[e];exact h.ue _ (.inr (.inr (.inr (.inl (h.ug a).1)))),at_:=h.at_.jH (h.ug a).1 (h.ug a).2 hc}
theorem gv.step{eW hZ:O Nat}{ky nn:O aS}(h:gv w0 w bV d n l S pages L aM bp c)(hs:dN w' aE eW ky hZ nn)(hd:dz k S aE w w')(b:k<=20000)(hf:ky.length<=c+1/\nn.length<=c+1)(hg:aE.gen<=S.gen+1)(e:aE.pending<=S.pending+1):gv w0 w' bV d n l aE eW ky hZ nn (c+1):=
 ⟨Ext.dj h.x hd.af λq a=>h.ue q a.1,hs,λq=>by rw[hd.E,hd.st];exact h.E q,by rw[hd.st];exact h.ne,λq a=>by
  rcases hd.db q a with h1|h1
  .exact h.ue q h1
  .have:=h.x.size;omega,hd.l.trans h.lim,hd.d.trans h.d,hd.n.trans h.n,by have:=hd.aQ;have:=h.aQ;omega,hf,by have:=h.gen;omega,by have:=h.uf;omega,hd.r.trans h.r⟩
end
section
variable {w0 w w' w1 ai:J}{bV:Nat->Prop}{d n g5 k c:Nat}{l:fe}{S aE:ck}{pages eW aM hZ:O Nat}{L ky bp nn:O aS}{v:Y}
theorem jg.Gk{c:Prop}(h:jg c S aE pages L aM bp v w')(a:S.T.C.D.quiet):v=.int .i64 0/\c/\dN w' aE pages L pages L/\aE.failed=false/\aE.gen=S.gen+1/\aE.u.clock=S.now/\aE.u.c_=S.u.c_+1/\aE.pending=0:=by
 rcases h with h|⟨_,h,_⟩
 .exact h
 .exact absurd a h
end
section
variable {w0 w w' w1 ai:J}{bV bW:Nat->Prop}{d n g5 k c i:Nat}{l:fe}{S aE:ck}{pages eW aM hZ bo:O Nat}{L ky bp nn bm:O aS}{v:Y}{aw:a6}{ls:ad}
theorem dN.grow(h:dN w S pages L aM bp)(hx:Ext w w'){b:Nat->Prop}(c:∀q,b q->S.T.E q\/(w.heap.size<=q/\q<w'.heap.size))(hs:b S.st):dN w' (S.b6 (S.T.ct b S.T.G)) pages L aM bp:=by
 have ht:b4 w' (S.T.ct b S.T.G):=h.t.grow (W:=λ_=>False) hx (λ_ d=>d.elim) (λq a=>(c q a).imp id .inr) (λq a=>.inr (.inl a)) λq a hg=>by
  rcases c q a with h1|h1
  .exact(h.t.dF q h1).2.2 hg
  .have:=h.t.lt (q:=q) (.inr (.inr (.inr (.inr hg))));omega
 exact⟨⟨h.v.ext hx,ht,hs,h.fz,h.gen,h.num,h.bB⟩,h.ok,h.bO,h.f,h.two,h.kv,h.keys,h.nm,h.live,h.dead⟩
def ck.own(S:ck)(bW:Nat->Prop):ck:=S.b6 (S.T.ct (λq=>q=S.st\/bW q) S.T.G)
theorem ck.AV{q:Nat}(b:∀q,S.T.E q↔q=S.st\/bV q)(h1:∀q,bW q->bV q\/k<=q)(a:(S.own bW).T.M q):S.T.M q\/k<=q:=by
 rcases a with a|a|a|a|a
 .exact .inl (.inl a)
 .exact .inl (.inr (.inl a))
 .exact .inl (.inr (.inr (.inl a)))
 .rcases(show q=S.st\/bW q from a) with h|h
  .exact .inl (.inr (.inr (.inr (.inl ((b q).2 (.inl h))))))
  .rcases h1 q h with h|h
   .exact .inl (.inr (.inr (.inr (.inl ((b q).2 (.inr h))))))
   .exact .inr h
 .exact .inl (.inr (.inr (.inr (.inr a))))
theorem gv.grow(h:gv w0 w bV d n l S pages L aM bp c)(hx:Ext w w')(b:∀q,bW q->bV q\/(w.heap.size<=q/\q<w'.heap.size)):gv w0 w' bW d n l (S.own bW) pages L aM bp c:=
 ⟨h.x.trans hx,h.at_.grow hx (λq a=>by
  rcases a with h1|h1
  .exact .inl ((h.E q).2 (.inl h1))
  .exact(b q h1).imp (λe=>(h.E q).2 (.inr e)) id) (.inl rfl),λq=>Iff.rfl,λhs=>by
  have hs:bW S.st:=hs
  rcases b _ hs with h1|h1
  .exact h.ne h1
  .have:=h.at_.t.lt (q:=S.st) (.inr (.inr (.inr (.inl h.at_.es))));omega,λq a=>by
  rcases ck.AV h.E (λq a=>(b q a).imp id And.left) a with h1|h1
  .exact h.ue q h1
  .have:=h.x.size;omega,h.lim,h.d,h.n,h.aQ,h.fw,h.gen,h.uf,h.r⟩
end
section
variable {w0 w w' w1 ai:J}{bV bW:Nat->Prop}{d n g5 k c i:Nat}{l:fe}{S aE:ck}{pages eW aM hZ bo:O Nat}{L ky bp nn bm:O aS}{v:Y}{aw:a6}{ls:ad}
theorem dN.room(h:dN w S pages L aM bp):S.T.n<=cj S.T+pages.length+aM.length+3:=by
 have h1:=FI (t:=λi=>S.T.f i||S.T.g i) (l:=pages++aM++ [0,1,S.u.map]) S.T.n λi _ hi=>by
  simp only[h5]at hi;simp only[cL,c7,ff,fp];rcases hi with hi|hi
  .rcases(h.f i).1 hi with a|a|a
   .exact .inl (.inl a)
   .exact .inr I
   .exact .inr (.inr (.inr a))
  .rcases(h.fz.g i).1 hi with a|a|a
   .exact .inl (.inr a)
   .exact .inr I
   .exact .inr (.inr (.inr a))
 simp only[cM,hJ,ll]at h1;unfold cj;omega
theorem gv.new{D:a6}(hx:Ext w0 w)(e:dN w' S [] [] [] [])(a:AU D l bV 4 w w' S)(hu:S.u=iu)(hg:S.gen=1)(b:∀q,b9 D q->w0.heap.size<=q)(c:∀q,bV q->w0.heap.size<=q/\q<w.heap.size)(i:D.aQ=0)(f:D.r1=true):gv w0 w' bV D.d D.n l S [] [] [] [] 0:=
 ⟨Ext.dj hx a.af b,e,a.E,λh=>by have:=(c _ h).2;have:=a.st;omega,λq g=>by
  rcases a.M q g with h1|h1|h1
  .exact b q h1
  .exact(c q h1).1
  .have:=hx.size;omega,a.l,a.d,a.n,by have:=a.aQ;omega,⟨bl _,bl _⟩,I,by rw[a.nm];exact bl _,a.r.trans f⟩
end
section
variable {w0 w w' w1 ai:J}{bV bW:Nat->Prop}{d n g5 k c i:Nat}{l:fe}{S aE:ck}{pages eW aM hZ bo:O Nat}{L ky bp nn bm:O aS}{v:Y}{aw:a6}{ls:ad}
def np(b:Nat):fe:=⟨8,1+b%12,1+b/16%12⟩
theorem Gl(b:Nat):nk ((np b).ak:Nat) ((np b).batch:Nat) ((np b).hT:Nat):=by
 unfold nk np;have h1:b%12<12:=hG _ (by decide);have a:b/16%12<12:=hG _ (by decide);show(8:Int)<=((8:Nat):Int)/\((8:Nat):Int)<=64/\(1:Int)<=((1+b%12:Nat):Int)/\((1+b%12:Nat):Int)<=1000/\(1:Int)<=((1+b/16%12:Nat):Int)/\((1+b/16%12:Nat):Int)<=1048576;omega
theorem Gm{b:Nat}(a:b<256):IntKind.wrap .u8 (Int.tdiv (b:Int) 16)=((b/16:Nat):Int):=by
 rw[Int.tdiv_eq_ediv_of_nonneg I];have h:((b:Int)/16)=((b/16:Nat):Int):=by omega
 rw[h];have c:b/16<256:=by omega
 show((b/16:Nat):Int)%256=_;omega
end
section
variable {w:J}{ab st:Nat}{most:Int}
theorem nZ{s:ar ag}(w:J)(most:Int):aL aj 33 #[.pointer s,most] w (λv w'=>Ext w w'/\(((s=none\/most<1\/400<most)/\v=.tuple #[.pointer none,(1:Int)])\/((s≠none/\1<=most/\most<=400)/\v=.tuple #[.pointer (some w.heap.size),(0:Int)]/\Var w' w.heap.size [.pointer s,most] 134))):=by
 refine okF (ah.nZ s most) az.nZ func33 ?_;delta ah.nZ ao aa;refine⟨λh=>⟨.refl _ _,.inl ⟨?_,rfl⟩⟩,λh=>bd (vs:=[.pointer s,most]) rfl λw1 b hx _=>⟨hx,.inr ⟨?_,rfl,b⟩⟩⟩
 .cases s with
  |none=>exact .inl rfl
  |some a=>simp at h;exact .inr I
 .cases s with
  |none=>simp at h
  |some a=>simp at h;exact⟨by simp,I,I⟩
theorem Gn(a:Var w ab [.pointer (some st),most] 134):aL aj 32 #[.pointer (some ab)] w (λv w'=>v=.pointer (some st)/\w=w'):=by
 refine okF (ah.se (some ab)) az.se func32 ?_;delta ah.se ao;exact⟨λh=>(by cases h),λ_=>⟨_,rfl,_,a.cell,rfl,rfl⟩⟩
theorem AW{S:ck}{pages aM:O Nat}{L bp:O aS}(a:Var w ab [.pointer (some S.st),most] 134)(h:dN w S pages L aM bp):aL aj 16 #[.pointer (some ab)] w (λv w'=>v=L.length/\w=w'):=by
 refine okF (ah.r_ (some ab)) az.r_ func16 ?_;delta ah.r_ iV b7;refine(Gn a).use ?_;rintro _ _ ⟨rfl,rfl⟩;refine⟨_,rfl,(Gc h).use ?_⟩;rintro _ _ ⟨rfl,rfl⟩;exact⟨_,rfl,by rw[h.keys],rfl⟩
theorem Gp{a:ag}(s:Int)(p:bX)(w:J):aL aj 87 #[.pointer (some a),s,.agg p.c.toArray] w (λv w'=>Ext w w'/\((eC s p=false/\v=.tuple #[(),false])\/(eC s p=true/\∃t:ad,v=.tuple #[t,true]/\aZ 1 5 w' t (aA (fv s.toNat p))/\∀q,aC t q->w.heap.size<=q))):=by
 refine ah.Ck (some a) s _ w _ ?_;delta ah.pZ ao aa gU;refine bd (vs:=p.c) rfl λw1 e b i=>⟨λh=>(by cases h),λ_=>⟨p.c,e.rd (bX.bS _),(kk s p w1).use ?_⟩⟩;rintro _ j ⟨d,⟨hg,rfl⟩|⟨hg,t,rfl,f,hf⟩⟩
 .exact⟨⟨none,0,0⟩,false,rfl,b.trans d,.inl ⟨hg,rfl⟩⟩
 .exact⟨t,true,rfl,b.trans d,.inr ⟨hg,t,rfl,f,λq g=>ei b.size (hf q g)⟩⟩
end
theorem wY{s:Int}{p:bX}(h:eC s p=true):∃k:Nat,s=(k:Int)/\k<=65535/\gI p.addr p.bits=some p:=by
 unfold eC at h;rw[dn,cA]at h;obtain⟨k,h1,a⟩:=qp h.2;exact⟨k,h1,a,h.1⟩
theorem AX{s b:Int}{p a:bX}(h:eC s p=true)(l:eC b a=true)(he:fv s.toNat p=fv b.toNat a):s=b/\p=a:=by
 obtain⟨k,rfl,m,c⟩:=wY h;obtain⟨d,rfl,n,f⟩:=wY l;rw[dO,dO]at he;have h1:=vR m p;rw[he,vR n a]at h1;have g:=vS k p;rw[he,vS d a]at g;have i:=vT k p;rw[he,vT d a]at i;have o:p.addr=a.addr:=by
  have j:=vP (vq c).2.1;rw[←i,vP (vq f).2.1]at j;exact(Option.some.inj j).symm
 have cf:=tC c;have bH:=tC f;have q:p.bits=a.bits:=by
  have e:=congrArg UInt8.toNat (Option.some.inj g);rw[nA,nA]at e;omega
 refine⟨I,?_⟩
 cases p;cases a
 simp_all
def aU.kv(t:aU):aS:=(fv t.s.toNat t.p,il t.b.toNat t.u)
section
variable {T:O aU}{s:Int}{p:bX}
theorem Gq{t:aU}(ht:eC t.s t.p=true)(hg:eC s p=true):decide (t.kv.1=fv s.toNat p)=eL s p t:=by
 unfold eL;rw[fA,dn,cA,cA,cA];exact⟨λh=>AX ht hg h,λh=>by show fv t.s.toNat t.p=_;rw[h.1,h.2]⟩
theorem AY(c:∀t∈T,eC t.s t.p=true)(hg:eC s p=true):gx (T.map aU.kv) (fv s.toNat p)=(T.find? (eL s p)).map λt=>il t.b.toNat t.u:=by
 unfold gx
 induction T with
 |nil=>rfl
 |cons t T a=>
  have a:=a λx hx=>c x (iJ _ hx);rw[g0,List.find?_cons,List.find?_cons,Gq (c t (qS)) hg]
  cases eL s p t with
  |true=>rfl
  |false=>exact a
end
def h3(T:O aU)(t:aU):O aU:=(T.filter λx=>decide (bP x.kv.1 t.kv.1))++t::T.filter λx=>decide (bP t.kv.1 x.kv.1)
theorem AZ(T:O aU)(t:aU):fK (T.map aU.kv) t.kv.1 t.kv.2=(h3 T t).map aU.kv:=by
 unfold fK h3;rw[fB,g0,List.filter_map,List.filter_map];rfl
theorem A0{T:O aU}{t x:aU}(h:x∈h3 T t):x=t\/x∈T:=by
 unfold h3 at h;rcases cL.1 h with h|h
 .exact .inr (gf.1 h).1
 .rcases c7.1 h with h|h
  .exact .inl h
  .exact .inr (gf.1 h).1
theorem A1{s:Int}{p:bX}{now:Nat}:∀ (T:O aU),oX T s p now=match T.find? (eL s p) with|some t=>if t.u<=now then none else some t|none=>none
 | []=>rfl
 |t::T=>by
  have a:=A1 (s:=s) (p:=p) (now:=now) T
  unfold oX at a⊢
  rw[List.findIdx?_cons,List.find?_cons]
  cases b:eL s p t with
  |true=>rfl
  |false=>
   show(match (T.findIdx? (eL s p)).map (· +1) with|some i=>if ((t::T).getD i aU.zero).u<=now then none else some ((t::T).getD i aU.zero)|none=>none)=_
   rw[←a]
   cases T.findIdx? (eL s p)<;>rfl
theorem A2{k:Nat}{p:bX}:cR (fv k p):=by
 have h:=tE k p;have a:=vp p.addr;unfold cR;omega
section
variable {T A B:O aU}{t x:aU}{i m now:Nat}{fr:Key}
def wZ(T:O aU):Prop:=T.Pairwise λa b=>bP a.kv.1 b.kv.1
theorem A3:ig (T.map aU.kv)↔wZ T:=List.pairwise_map
end
def aU.ok(t:aU):Prop:=t.ew=true/\t.u<18446744073709551616
theorem aU.ok.k{t:aU}(h:t.ok):eC t.s t.p=true:=by have:=h.1;unfold aU.ew at this;rw[dn]at this;exact this.1
theorem aU.ok.b{t:aU}(h:t.ok):kp t.b=true:=by have:=h.1;unfold aU.ew at this;rw[dn]at this;exact this.2
def o0(S:ck)(cT:O aU)(aE:ck)(gB:O aU):Prop:=(aE.u.c_=S.u.c_/\gB=cT)\/S.u.c_<aE.u.c_
theorem o0.trans{S aE c:ck}{cT gB d:O aU}(h:o0 S cT aE gB)(e:o0 aE gB c d):o0 S cT c d:=by
 rcases h with ⟨a,rfl⟩|a<;>rcases e with ⟨b,rfl⟩|b
 .exact .inl ⟨b.trans a,rfl⟩
 .exact .inr I
 .exact .inr I
 .exact .inr I
structure eF(w0 w:J)(bV:Nat->Prop)(d n:Nat)(l:fe)(ab most:Nat)(S:ck)(pages aM:O Nat)(T cT:O aU)(c:Nat):Prop where
 s:gv w0 w bV d n l S pages (T.map aU.kv) aM (cT.map aU.kv) c
 live:S.failed=false
 q:S.T.C.D.quiet
 uh:bV ab
 v:Var w ab [.pointer (some S.st),most] 134
 ok:∀t∈T,t.ok
 w2:∀t∈cT,t.ok
 ui:S.pending<l.batch
 w3:S.pending=0->T=cT
 fw:T.length<=most/\cT.length<=most
 qJ:1<=most/\most<=400
 cv:n=4*most+64
 o1:wZ T
section
variable {w0 w w':J}{bV:Nat->Prop}{d n ab most k c:Nat}{l:fe}{S aE:ck}{pages eW aM hZ:O Nat}{T ax cT gB:O aU}{tk ef:ad}{key:Key}{v:Y}{s:Int}{p:bX}
theorem eF.ext(h:eF w0 w bV d n l ab most S pages aM T cT c)(hx:Ext w w'):eF w0 w' bV d n l ab most S pages aM T cT c:={h with s:=h.s.ext hx,v:=h.v.ext hx}
theorem eF.mono{e:Nat}(h:eF w0 w bV d n l ab most S pages aM T cT c)(he:c<=e):eF w0 w bV d n l ab most S pages aM T cT e:={h with s:=h.s.mono he}
theorem eF.new(h:eF w0 w bV d n l ab most S pages aM T cT c):∀q,w.heap.size<=q->¬S.T.M q:=λq b a=>by have:=h.s.at_.t.lt a;omega
theorem eF.keys(h:eF w0 w bV d n l ab most S pages aM T cT c):∀t∈T,eC t.s t.p=true:=λt ht=>(h.ok t ht).k
theorem eF.room(h:eF w0 w bV d n l ab most S pages aM T cT c):kA S≠0:=by
 have h1:=h.fw;have e:=h.s.at_.room;have a:=h.s.at_.ok.low (by rw[dG];have:=h.qJ;omega);have b:=h.s.at_.fz.low;have f:=h.s.n;have g:=h.cv;rw[dG]at a b;unfold kA;omega
theorem eF.step(h:eF w0 w bV d n l ab most S pages aM T cT c)(hs:dN w' aE eW (ax.map aU.kv) hZ (gB.map aU.kv))(hd:dz k S aE w w')(f:k<=20000)(u:ax.length<=T.length+1)(a:gB=cT\/gB=ax)(g:ax.length<=most)(hg:aE.gen<=S.gen+1)(i:aE.pending<=S.pending+1)(hf:aE.failed=false)(b:∀t∈ax,t.ok)(j:aE.pending<l.batch)(m:aE.pending=0->ax=gB):
 eF w0 w' bV d n l ab most aE eW hZ ax gB (c+1):=by
 have o:=h.s.fw;rw[dG,dG]at o;have e:=h.s.ug h.uh;have p:gB.length<=c+1/\gB.length<=most:=by
  have:=h.fw;rcases a with rfl|rfl<;>omega
 refine⟨h.s.step hs hd f (by rw[dG,dG];omega) hg i,hf,hd.q h.q,h.uh,?_,b,?_,j,m,⟨g,p.2⟩,h.qJ,h.cv,A3.1 (hs.ok.rising)⟩
 .rw[hd.st]
  exact h.v.af hd.af λr=>e.2 (r.2 e.1)
 .rcases a with rfl|rfl
  .exact h.w2
  .exact b
theorem eF.read(h:eF w0 w bV d n l ab most S pages aM T cT c)(hs:dN w' aE pages (T.map aU.kv) aM (cT.map aU.kv))(hd:dz k S aE w w')(b:k<=20000)(hg:aE.gen=S.gen)(a:aE.pending=S.pending)(hf:aE.failed=S.failed):eF w0 w' bV d n l ab most aE pages aM T cT (c+1):=
 h.step hs hd b I (.inl rfl) h.fw.1 I I (hf.trans h.live) h.ok (by rw[a];exact h.ui) (by rw[a];exact h.w3)
def gC(w0:J)(bV:Nat->Prop)(d n:Nat)(l:fe)(ab most:Nat)(S:ck)(cT ax:O aU)(w:J)(c:Nat)(w':J):Prop:=
 ∃ (k:Nat) (aE:ck) (eW hZ:O Nat) (gB:O aU),eF w0 w' bV d n l ab most aE eW hZ ax gB c/\dz k S aE w w'/\aE.now=S.now/\o0 S cT aE gB
theorem eF.more(h:eF w0 w bV d n l ab most S pages aM T cT c)(a:l8 S aE eW (ax.map aU.kv) aM (cT.map aU.kv) v w')(hd:dz k S aE w w')(b:aE.now=S.now)(f:k<=20000)(g:ax.length<=T.length+1)(i:ax.length<=most)(j:∀t∈ax,t.ok):
 v=.int .i64 0/\gC w0 bV d n l ab most S cT ax w (c+1) w':=by
 have p:=h.s.at_.num.2.2.2.2.2.2;have m:=h.s.lim;rcases a with ⟨rfl,h1,hs,hf,hg,hu,o,_⟩|a
 .exact⟨rfl,k,aE,eW,aM,cT,h.step hs hd f g (.inl rfl) i I I hf j (by rw[←m];omega) (λe=>I),hd,b,.inl ⟨by rw[hu],rfl⟩⟩
 .obtain⟨rfl,_,hs,hf,hg,_,r,o⟩:=a.Gk h.q
  exact⟨rfl,k,aE,eW,eW,ax,h.step hs hd f g (.inr rfl) i I I hf j (by rw[←m];omega) (λ_=>rfl),hd,b,.inr I⟩
theorem eF.put{t:aU}(h:eF w0 w bV d n l ab most S pages aM T cT c)(ht:t.ok)(hlen:(h3 T t).length<=most/\(h3 T t).length<=T.length+1)(hc:c<=30000)(f:Src 1 w tk (aA (fv t.s.toNat t.p)))(g:∀q,aC tk q->q<w.heap.size/\¬S.T.M q)(i:Src 1 w ef (aA (il t.b.toNat t.u)))(j:∀q,aC ef q->q<w.heap.size/\¬S.T.M q):
 aL aj 23 #[.pointer (some S.st),tk,ef] w (λv w'=>v=.int .i64 0/\gC w0 bV d n l ab most S cT (h3 T t) w (c+1) w'):=by
 have k:=h.s.at_.num.2.2.2.2.1;have m:=h.s.lim;have z:=h.ui;have A:=h.s.aQ;have B:=h.s.gen;refine(Gh (key:=fv t.s.toNat t.p) (val:=il t.b.toNat t.u) h.s.at_ (by rw[dG];have:=h.fw.1;have:=h.qJ;omega) (by rw[m]at k;omega) I I f g i j).mono ?_;rintro v w' (⟨_,o,_⟩|⟨_,⟨hf,_⟩|⟨_,aE,hd,r,⟨_,y,_⟩|⟨_,eW,a⟩⟩⟩)
 .exact absurd ⟨A2,by rw[oK];decide⟩ o
 .rw[h.live]at hf;cases hf
 .exact absurd y h.room
 .rw[show fK (T.map aU.kv) (fv t.s.toNat t.p) (il t.b.toNat t.u)=(h3 T t).map aU.kv from AZ T t]at a
  exact h.more a hd r I hlen.2 hlen.1 λx hx=>(A0 hx).elim (λe=>e▸ht) (h.ok x)
theorem eF.get(h:eF w0 w bV d n l ab most S pages aM T cT c)(hg:eC s p=true)(hc:c<=30000)(g:Src 1 w tk (aA (fv s.toNat p)))(i:∀q,aC tk q->q<w.heap.size/\¬S.T.M q):
 aL aj 55 #[.pointer (some S.st),tk] w (λv w'=>(∃ (t:ad),v=.tuple #[t,.bool (T.find? (eL s p)).isSome,(0:Int)]/\∀x,T.find? (eL s p)=some x->Src 1 w' t (aA (il x.b.toNat x.u))/\t.len<=t.cap)/\gC w0 bV d n l ab most S cT T w (c+1) w'):=by
 have o:=h.s.aQ;have f:=AY h.keys hg;refine(Gf h.s.at_ I g i).mono ?_;rintro v w' ⟨aD,hs,hd,_,_,_,_,j⟩;have aq:gC w0 bV d n l ab most S cT T w (c+1) w':=⟨30,_,pages,aM,cT,h.read hs hd I rfl rfl rfl,hd,rfl,.inl ⟨rfl,rfl⟩⟩;rcases j with ⟨rfl,a⟩|⟨t,x,rfl,_,a,ht⟩|⟨_,_,k⟩
 .have a:=a A2
  rw[f,Option.map_eq_none_iff]at a;rw[a];exact⟨⟨⟨none,0,0⟩,rfl,λx e=>(by cases e)⟩,aq⟩
 .rw[f]at a
  obtain⟨y,m,rfl⟩:=qP.1 a;rw[m];exact⟨⟨t,rfl,λz e=>by cases e;exact⟨ht.1,ht.2.1⟩⟩,aq⟩
 .exact absurd (h.q.1 30) k
end
section
variable {w0 w w' w1:J}{bV:Nat->Prop}{d n ab most k c q:Nat}{l:fe}{S aE cy:ck}{pages eW aM hZ:O Nat}{T ax cT gB o2:O aU}{tk ef:ad}{key:Key}{v:Y}{s:Int}{p:bX}{vs:O Y}
theorem eF.w4(h:eF w0 w bV d n l ab most S pages aM T cT c)(hx:Ext w w')(e:Nat):gC w0 bV d n l ab most S cT T w (c+e) w':=⟨0,S,pages,aM,cT,(h.ext hx).mono (Nat.le_add_right _ _),.ext S hx,rfl,.inl ⟨rfl,rfl⟩⟩
theorem gC.cat(hd:dz k S cy w w1)(a:cy.now=S.now)(hg:o0 S cT cy o2)(h:gC w0 bV d n l ab most cy o2 ax w1 c w'):gC w0 bV d n l ab most S cT ax w c w':=by
 obtain⟨cp,de,c4,bj,bZ,b,d2,bx,e⟩:=h;exact⟨k+cp,de,c4,bj,bZ,b,hd.trans d2,bx.trans a,hg.trans e⟩
theorem gC.pre(hx:Ext w w1)(h:gC w0 bV d n l ab most S cT ax w1 c w'):gC w0 bV d n l ab most S cT ax w c w':=gC.cat (.ext S hx) rfl (.inl ⟨rfl,rfl⟩) h
theorem gC.post(h:gC w0 bV d n l ab most S cT ax w c w1)(hx:Ext w1 w'):gC w0 bV d n l ab most S cT ax w c w':=by
 obtain⟨cp,de,c4,bj,bZ,a,d2,bx,b⟩:=h;exact⟨cp+0,de,c4,bj,bZ,a.ext hx,d2.trans (.ext de hx),bx,b⟩
theorem ck.Gr{b:Nat}(c:∀q,S.T.E q↔q=S.st\/bV q)(a:(S.own λq=>bV q\/q=b).T.M q):S.T.M q\/q=b:=by
 rcases a with a|a|a|a|a
 .exact .inl (.inl a)
 .exact .inl (.inr (.inl a))
 .exact .inl (.inr (.inr (.inl a)))
 .rcases(show q=S.st\/bV q\/q=b from a) with h|h|h
  .exact .inl (.inr (.inr (.inr (.inl ((c q).2 (.inl h))))))
  .exact .inl (.inr (.inr (.inr (.inl ((c q).2 (.inr h))))))
  .exact .inr h
 .exact .inl (.inr (.inr (.inr (.inr a))))
theorem eF.scope{b:Nat}(h:eF w0 w bV d n l ab most S pages aM T cT c)(hx:Ext w w1)(u:w.heap.size<=b/\b<w1.heap.size):eF w0 w1 (λq=>bV q\/q=b) d n l ab most (S.own λq=>bV q\/q=b) pages aM T cT c/\
 (∀q,w.heap.size<=q->q≠b->¬(S.own λq=>bV q\/q=b).T.M q)/\(∀q,w.heap.size<=q->¬(S.own λq=>bV q\/q=b).W q)/\
 ∀ {ai i:J}{e:Nat}{ax:O aU},gC w0 (λq=>bV q\/q=b) d n l ab most (S.own λq=>bV q\/q=b) cT ax w1 e ai->ae (λq=>q=b) ai i->gC w0 bV d n l ab most S cT ax w e i:=by
 have j:∀q,(S.own λq=>bV q\/q=b).T.M q->S.T.M q\/q=b:=λq a=>ck.Gr h.s.E a;have A:=h.s.at_.v.lt;have p:∀q,w.heap.size<=q->q≠b->¬(S.own λq=>bV q\/q=b).T.M q:=λq a m x=>(j q x).elim (h.new q a) m;refine⟨⟨h.s.grow hx λq a=>a.imp id λe=>by rw[e];exact u,h.live,h.q,.inl h.uh,h.v.ext hx,h.ok,h.w2,h.ui,h.w3,h.fw,h.qJ,h.cv,h.o1⟩,p,λq a g=>?_,λ{ai i e ax} y hc=>?_⟩
 .by_cases e:q=b
  .have:q=S.st:=g.2 (.inr (.inr e))
   omega
  .exact p q a e g.1
 obtain⟨k,de,c4,bj,bZ,f,d2,bx,z⟩:=y;have m:¬ab=b:=by have:=h.v.lt;omega
 have B:=hx.size;refine⟨k,de.own bV,c4,bj,bZ,⟨(f.s.jH (.inr rfl) hc).grow (.refl _ _) λq a=>.inl (.inl a),f.live,f.q,h.uh,f.v.af hc m,f.ok,f.w2,f.ui,f.w3,f.fw,f.qJ,f.cv,f.o1⟩,⟨d2.st,d2.d,d2.n,d2.l,d2.aQ,d2.q,?_,λq a=>?_,?_,d2.G,d2.r⟩,bx,z⟩
 .refine cS (cS (hx.mono λ_ _ h=>h.elim) d2.af λq a g=>⟨(j q g.1).resolve_right I,λhe=>g.2 ?_⟩) hc λq a e=>absurd a I
  rcases(h.s.E q).1 he with e|e
  .exact .inl e
  .exact .inr (.inl e)
 .rcases ck.AV (k:=w.heap.size) f.s.E (λq a=>.inl (.inl a)) a with o|o
  .rcases d2.db q o with t|t
   .exact(j q t).imp id λe=>by omega
   .exact .inr I
  .exact .inr o
 .funext q
  rw[show(de.own bV).T.E q=(q=de.st\/bV q) from rfl,d2.st];exact(propext (h.s.E q)).symm
theorem qK(a:Var w q vs 29)(b:vs.length=21)(t:aU){K:O Y->J->Prop}(f:∀w',ae (λx=>x=q) w w'->K t.c w'):bh w q (Array.toList t.c.toArray)/\Array.size t.c.toArray=21/\an (setCells w q 0 (Array.toList t.c.toArray)) λd=>∃e:O Y,bE d q 0 21=some e/\K e d:=
 ⟨a.bU (by simp[aU.bS,b]) (aU.plain t),by simp[aU.bS],cl a (us:=t.c) (by simp[aU.bS,b]) rfl λw' g h _=>⟨t.c,g.rd (aU.bS t),f w' h⟩⟩
theorem qL(t:aU){K:J->Prop}(d:∀w',Var w' w.heap.size t.c 29->Ext w w'->K w'):an (w.alloc (.cells aU.zero.c.toArray 29)) λa=>bh a w.heap.size (Array.toList t.c.toArray)/\Array.size t.c.toArray=21/\an (setCells a w.heap.size 0 (Array.toList t.c.toArray)) K:=
 bd (vs:=aU.zero.c) rfl λw1 b hx _=>⟨b.bU (by simp[aU.bS]) (aU.plain t),by simp[aU.bS],cl b (us:=t.c) (by simp[aU.bS]) rfl λw' e f _=>d w' e (Ext.cC hx f (bl _))⟩
theorem Gs{x:aU}(hx:x.ok)(a:Src 1 w tk (aA (fv x.s.toNat x.p)))(g:tk.len<=tk.cap)(d:Src 1 w ef (aA (il x.b.toNat x.u)))(h:ef.len<=ef.cap):aL aj 88 #[tk,ef] w (λv w'=>v=.tuple #[.agg x.c.toArray,true]/\Ext w w'):=by
 obtain⟨k,e,_⟩:=wY hx.k;obtain⟨j,f,i⟩:=qp hx.b;have hg:=hx.k;have hu:=hx.2;obtain⟨s,p,b,u⟩:=x;dsimp only at e f hg hu a d;subst e f;rw[dO]at a d;exact n3 a g d h hg i hu
theorem w5{x:aU}(h:eL s p x=true):x.s=s/\x.p=p:=by
 unfold eL at h;rwa[dn,cA,cA]at h
theorem A4{now:Nat}(h:eF w0 w bV d n l ab most S pages aM T cT c)(hc:c<=30000)(s:Int)(p:bX):aL aj 27 #[.pointer (some ab),s,.agg p.c.toArray,.int .u64 (now:Nat)] w (λv w'=>gC w0 bV d n l ab most S cT T w (c+1) w'/\
 v=if eC s p then .tuple #[.agg ((oX T s p now).getD aU.zero).c.toArray,.bool (oX T s p now).isSome,(0:Int)] else .tuple #[.agg aU.zero.c.toArray,false,(1:Int)]):=by
 refine ah.Ce (some ab) s _ (now:Nat) w _ ?_;(delta ah.pW fD aa gU ao lE ju cd;dsimp only);refine bd (vs:=p.c) rfl λw1 K z Y=>bd (vs:=aU.zero.c) rfl λai A B Z=>⟨p.c,(K.ext B).rd (bX.bS _),(Gp s p ai).use ?_⟩;have i:=z.trans B;have j:=z.size;have ac:=i.size;rintro _ L ⟨e,⟨hg,rfl⟩|⟨hg,tk,rfl,g,hf⟩⟩
 .refine⟨⟨none,0,0⟩,false,rfl,λ_=>⟨_,vQ L,qK (A.ext e) (aU.bS _) aU.zero λm a=>⟨h.w4 (Ext.cC (i.trans e) a j) 1,by rw[hg];rfl⟩⟩,λh=>(by cases h)⟩
 have M:=i.trans e;have ad:=e.size;obtain⟨C,N,D,o⟩:=h.scope (b:=w1.heap.size) M ⟨j,I⟩;refine⟨tk,true,rfl,λh=>(by cases h),λ_=>⟨_,rfl,_,C.v.cell,(C.get hg hc g.src λq f=>⟨g.lt q f,N q (by have:=hf q f;omega) (by have:=hf q f;omega)⟩).use ?_⟩⟩;rintro _ O ⟨⟨ef,rfl,h_⟩,r⟩;have P:=r;obtain⟨k,cy,ae,bo,bR,h1,d1,bL,av⟩:=P;have E:=(A.ext e).af d1.af (D _ j);have Q:=g.src.af d1.af λq f=>D q (by have:=hf q f;omega);rw[if_pos hg,A1]
 cases t:T.find? (eL s p) with
 |none=>exact⟨ef,false,0,rfl,λ_=>⟨_,vQ O,qK E (aU.bS _) aU.zero λm a=>⟨o r a,rfl⟩⟩,λh=>(by cases h)⟩
 |some x=>
  have hx:=h.ok x (h7 t);obtain⟨rfl,rfl⟩:=w5 (iN t);obtain⟨R,U⟩:=h_ x t;refine⟨ef,true,0,rfl,λh=>(by cases h),λ_=>(Gs hx Q g.2.1 R U).use ?_⟩;rintro _ ag ⟨rfl,V⟩;refine⟨_,true,rfl,qL x λW F X=>⟨λh=>(by cases h),λ_=>?_⟩⟩;have G:=V.trans X;have H:=E.ext G;have J:=r.post G;refine⟨_,ze F,λy=>⟨_,vQ W,qK H (aU.bS _) aU.zero λm a=>⟨o J a,?_⟩⟩,λy=>⟨x.c,F.rd (aU.bS x),qK H (aU.bS _) x λm a=>⟨o J a,?_⟩⟩⟩
  .have:x.u<=now:=by have:=cu y;omega
   simp only[if_pos this];rfl
  .have:¬x.u<=now:=by have:=cQ y;omega
   simp only[if_neg this];rfl
end
def fX(T:O aU)(most:Nat)(t:aU):Int:=if t.ew then (if (T.find? (eL t.s t.p)).isSome then 0 else if most<=T.length then 2 else 0) else 1
def gd(T:O aU)(most:Nat)(t:aU):O aU:=if fX T most t=0 then h3 T t else T
theorem uj{T:O aU}{t:aU}(b:wZ T)(c:∀t∈T,eC t.s t.p=true)(hg:eC t.s t.p=true):(h3 T t).length=if (T.find? (eL t.s t.p)).isSome then T.length else T.length+1:=by
 have h1:=wV t.kv.1 t.kv.2 (T.map aU.kv);have a:=wW (k:=t.kv.1) (A3.2 b);rw[AZ,dG]at h1;rw[dG,show gx (T.map aU.kv) t.kv.1=_ from AY c hg]at a;rw[h1]
 cases hf:T.find? (eL t.s t.p) with
 |none=>rw[hf]at a;simp at a⊢;omega
 |some x=>rw[hf]at a;simp at a⊢;omega
section
variable {w0 w w' w1:J}{bV:Nat->Prop}{d n ab most k c q:Nat}{l:fe}{S aE cy:ck}{pages eW aM hZ:O Nat}{T ax cT gB o2:O aU}{s:Int}{p:bX}
theorem uk(h:eF w0 w bV d n l ab most S pages aM T cT c)(hc:c<=20000){t:aU}(hu:t.u<18446744073709551616):aL aj 15 #[.pointer (some ab),.agg t.c.toArray] w (λv w'=>v=.int .i64 (fX T most t)/\gC w0 bV d n l ab most S cT (gd T most t) w (c+2) w'):=by
 refine ah.Cc (some ab) _ w _ ?_;(delta ah.pV ao aa cc aF gU cd lE b7;dsimp only);refine bd (vs:=t.c) rfl λw1 C O ae=>cH (λb w'=>b= !t.ew/\Ext w1 w') (λk P=>⟨λh=>(by cases h),λ_=>⟨t.c,C.rd (aU.bS t),(mH t w1).use λv w' a=>by obtain⟨rfl,hx⟩:=a;exact⟨t.ew,rfl,P _ _ ⟨rfl,hx⟩⟩⟩⟩) ?_;rintro _ Q ⟨rfl,D⟩;have x:=O.trans D;refine⟨λg=>?_,λg=>?_⟩
 .have hg:t.ew=false:=by rwa[iI]at g
  have e:fX T most t=1:=by unfold fX;rw[hg];rfl
  refine⟨by rw[e],?_⟩;unfold gd;rw[e];exact h.w4 x 2
 have hg:t.ew=true:=by rwa[nz]at g
 have ht:t.ok:=⟨hg,hu⟩;have y:=C.ext D;refine⟨_,y.cell,_,vO y,(kk t.s t.p Q).use ?_⟩;rintro _ R ⟨E,⟨hf,_⟩|⟨_,tk,rfl,U,z⟩⟩
 .rw[ht.k]at hf;cases hf
 have F:=y.ext E;refine⟨tk,true,rfl,_,zd F,_,ze F,(n0 t.b hu R).use ?_⟩;rintro _ V (⟨hf,_⟩|⟨_,ef,rfl,A,j,G⟩)
 .rw[ht.b]at hf;cases hf
 have m:=x.trans E;have H:=h.ext (m.trans j);have ag:=x.size;have ai:=m.size;have ak:=(m.trans j).size;have o:=U.ext j;refine⟨ef,true,rfl,_,rfl,_,H.v.cell,(H.get ht.k I o.src λq a=>⟨o.lt q a,h.new q (by have:=z q a;omega)⟩).use ?_⟩;rintro _ J ⟨⟨X,rfl,_⟩,k,cy,al,bo,bR,h1,d1,bL,av⟩;have K:∀q,w.heap.size<=q->¬S.W q:=λq a Y=>h.new q a Y.1;have L:∀q,w.heap.size<=q->q<V.heap.size->¬cy.T.M q:=λq a i B=>(d1.db q B).elim (h.new q a) λ_=>by omega
 have Z:=o.src.af d1.af λq a=>K q (by have:=z q a;omega);have ac:=A.src.af d1.af λq a=>K q (by have:=G q a;omega);have am:=d1.af.size;have f:=cJ J;have N:fX T most t=0->aL aj 23 #[.pointer (some cy.st),tk,ef] J.drew (λv w'=>v=.int .i64 (fX T most t)/\gC w0 bV d n l ab most S cT (gd T most t) w (c+2) w'):=λhe=>by
  have i:=uj h.o1 h.keys ht.k;have B:(h3 T t).length<=most/\(h3 T t).length<=T.length+1:=by
   have:=h.fw.1;unfold fX at he;rw[hg,if_pos rfl]at he;rw[i];split
   .omega
   .rename_i hs
    rw[if_neg hs]at he;split at he
    .cases he
    .omega
  refine((h1.ext f).put ht B I (Z.ext f) (λq a=>⟨?_,L q (by have:=z q a;omega) (o.lt q a)⟩) (ac.ext f) λq a=>⟨?_,L q (by have:=G q a;omega) (A.lt q a)⟩).mono ?_
  .have:=o.lt q a;have:=f.size;omega
  .have:=A.lt q a;have:=f.size;omega
  .rintro _ w' ⟨rfl,r⟩
   rw[he];refine⟨rfl,?_⟩;unfold gd;rw[he,if_pos rfl];exact((r.pre f).cat d1 bL av).pre (m.trans j)
 have he:fX T most t=if (T.find? (eL t.s t.p)).isSome then 0 else if most<=T.length then 2 else 0:=by unfold fX;rw[hg,if_pos rfl]
 refine⟨X,_,0,rfl,λh=>(by cases h),λ_=>aX ⟨λ_=>False,λg=>?_,λg=>?_⟩⟩
 .have hs:(T.find? (eL t.s t.p)).isSome=false:=by rwa[iI]at g
  rw[hs]at he;refine⟨_,rfl,id,_,(h1.ext f).v.cell,(AW (h1.ext f).v (h1.ext f).s.at_).use ?_⟩;rintro _ _ ⟨rfl,rfl⟩;rw[dG];refine⟨_,rfl,.refl _ _,λi=>?_,λi=>⟨_,rfl,_,(h1.ext f).v.cell,(N ?_).use ?_⟩⟩
  .have:most<=T.length:=by have:=cu i;omega
   have e:fX T most t=2:=by rw[he,if_neg (by decide),if_pos this]
   refine⟨by rw[e],?_⟩;unfold gd;rw[e];exact(((h1.w4 f 1)).cat d1 bL av).pre (m.trans j)
  .have:¬most<=T.length:=by have:=cQ i;omega
   rw[he,if_neg (by decide),if_neg this]
  .rintro _ ad ⟨rfl,r⟩
   exact⟨_,rfl,rfl,r⟩
 .have hs:(T.find? (eL t.s t.p)).isSome=true:=by rwa[nz]at g
  rw[hs,if_pos rfl]at he;refine⟨λh=>(by cases h),λ_=>⟨_,rfl,_,(h1.ext f).v.cell,(N he).use ?_⟩⟩;rintro _ ad ⟨rfl,r⟩;exact⟨_,rfl,rfl,r⟩
end
section
variable {w0 w w' w1:J}{bV bW:Nat->Prop}{d n ab g5 most k c q:Nat}{l:fe}{S aE cy:ck}{pages eW aM hZ:O Nat}{T ax cT gB o2:O aU}
theorem mY{most b:Nat}(o:1<=most/\most<=350)(f:b<256)(w:J):aL aj 14 #[most,.int .u8 (b:Nat)] w (λv w'=>∃ (ab d:Nat) (S:ck),v=.tuple #[.pointer (some ab),.pointer (some d),true]/\eF w w' (λq=>q=ab) d (4*most+64) (np b) ab most S [] [] [] [] 0/\S.u=iu/\S.now=iu.clock):=by
 refine okF (ah.mY (most:Nat) (b:Nat)) az.mY func14 ?_;delta ah.mY hO au yv;have p:IntKind.wrap .i64 ((IntKind.wrap .i64 (4*(most:Int)))+64)=((4*most+64:Nat):Int):=by
  rw[bz (n:=4*(most:Int)) I I,bz I I];omega
 rw[p,Gm f];refine(nY (n:=4*most+64) I I w).use ?_;rintro _ w1 ⟨d,lb,mr,rfl,hd,r,s⟩;refine⟨_,0,rfl,by decide,(mZ (b:=b) (d:=b/16) f I w1).use ?_⟩;rintro _ B ⟨rfl,g⟩;refine⟨_,_,_,rfl,(Gj (l:=np b) (bV:=λ_=>False) (hd.ext g) (Gl b) (λk=>⟨.inl rfl,.inl rfl⟩) rfl (by show 0<=999999000;omega) (λq h=>h.elim)).use ?_⟩;rintro _ c ⟨e,rfl,x,a,hu,hg⟩;have i:=gv.new (w0:=w) (r.trans g) x a hu hg (λq j=>s q j) (λq h=>h.elim) rfl rfl;have y:(oR (4*most+64) d lb mr).n=4*most+64:=by show(List.replicate _ gO).length=_;rw[ln]
 rw[y]at i;refine⟨_,0,rfl,(nZ c (most:Nat)).use ?_⟩;rintro _ C ⟨z,⟨A,_⟩|⟨_,rfl,m⟩⟩
 .exfalso
  rcases A with h|h|h
  .cases h
  .omega
  .omega
 have D:=m.lt;refine⟨_,0,rfl,c.heap.size,d,e.own λq=>q=c.heap.size,rfl,⟨i.grow z λq j=>.inr I,a.live,a.q,rfl,m,λt ht=>(by cases ht),λt ht=>(by cases ht),?_,λ_=>rfl,⟨cX _,cX _⟩,⟨o.1,I⟩,rfl,List.Pairwise.nil⟩,hu,a.now.trans (by rw[hu])⟩;rw[show(e.own λq=>q=c.heap.size).pending=e.pending from rfl,a.nm];show 0<1+b%12;omega
end
def jJ:bX:=⟨⟨false,[0,0,0,0,0,0,0,0,0,0,0,0,10,0,0,0],rfl⟩,8⟩
def jK(u:Nat):aU:=⟨1,jJ,2,u⟩
theorem kV(u:Nat)(w:J):aL aj 68 #[.int .u64 (u:Nat)] w (λv w'=>v=.agg (jK u).c.toArray/\Ext w w'):=by
 refine okF (ah.kV (u:Nat)) az.kV func68 ?_;delta ah.kV fD aa;refine bd (vs:=aU.zero.c) rfl λw1 a d e=>⟨(aA jJ.addr.b).toArray,by kernel_rfl,jJ.addr.c.toArray,by kernel_rfl,jJ.c.toArray,by kernel_rfl,_,tD w1 jJ 1 2 u,qK a (aU.bS _) (jK u) λw' hc=>⟨rfl,Ext.cC d hc (bl _)⟩⟩
theorem w6(u:Nat):Array.extract (jK u).c.toArray 1 (1+18)=jJ.c.toArray:=by rfl
theorem Gt(w:J):aL aj 17 #[] w (λv w'=>v=true/\Ext w w'):=by
 refine ah.CH w _ ?_;delta ah.qa rO ao jU b7 u_ fD aa;refine(mY (most:=5) (b:=1) (by decide) (by decide) w).use ?_;rintro _ w1 ⟨ab,d,F,rfl,a0,_⟩;refine⟨_,_,_,rfl,λh=>(by cases h),λ_=>(kV 5 w1).use ?_⟩;rintro _ G ⟨rfl,p⟩;refine⟨_,rfl,(uk (a0.ext p) I (t:=jK 5) (by decide)).use ?_⟩;have e:fX [] 5 (jK 5)=0:=by decide+kernel
 have r:gd [] 5 (jK 5)=[jK 5]:=by unfold gd;rw[e];rfl
 rw[e,r];rintro _ u ⟨rfl,cn,cy,H,bo,bR,a1,_⟩;refine⟨_,rfl,(kV 5 u).use ?_⟩;rintro _ K ⟨rfl,y⟩;have hg:eC 1 jJ=true:=by decide+kernel
 have f4:oX [jK 5] 1 jJ 4=some (jK 5):=by decide+kernel
 have f5:oX [jK 5] 1 jJ 5=none:=by decide+kernel
 have f:=A4 (now:=4) (a1.ext y) I 1 jJ;rw[if_pos hg,f4,←w6 5]at f;refine⟨_,rfl,f.use ?_⟩;rintro _ g ⟨⟨cp,de,L,bj,bZ,a2,_⟩,rfl⟩;refine⟨_,_,_,rfl,qL (jK 5) λz A B=>(kV 5 z).use ?_⟩;rintro _ M ⟨rfl,i⟩;have C:¬de.W g.heap.size:=λD=>a2.new _ (bl _) D.1;have j:=A4 (now:=5) ((a2.ext B).ext i) I 1 jJ;rw[if_pos hg,f5,←w6 5]at j;refine⟨_,rfl,j.use ?_⟩;rintro _ N ⟨⟨O,fx,P,Q,dk,a3,d3,_⟩,rfl⟩;have E:=(A.ext i).af d3.af C;refine⟨_,_,_,rfl,qL aU.zero λk R l=>?_⟩;have m:=cJ k;have a:=(E.ext l).ext m;have n:=(a3.ext l).ext m;refine aX ?_;generalize k.drew=c at a n;have S:=a.lt;refine⟨λq=>c.heap.size<=q,λ_=>⟨λ_=>⟨λ_=>⟨λ_=>⟨by show¬c.heap.size<=g.heap.size;omega,_,a.rd (aU.bS _),(kV 5 c).use ?_⟩,λh=>(by cases h)⟩,λh=>(by cases h)⟩,λh=>(by cases h)⟩,λh=>(by cases h)⟩;rintro _ T ⟨rfl,o⟩;refine⟨_,rfl,ae.cN o,_,FY _ _,?_,n.s.x.trans o⟩;rw[dw rfl];rfl
theorem aU.qf{cs:O Y}(h:g3 (.int .i64::(((.bool::jX 16)++ [.int .i64])++ [.int .i64,.int .u64])) cs):∃t:aU,cs=t.c/\t.u<18446744073709551616:=by
 obtain⟨_,us,rfl,⟨s,rfl,_⟩,h⟩:=h;obtain⟨e,t1,rfl,h1,a⟩:=u3 h;obtain⟨p,rfl,_⟩:=bX.qf h1;obtain⟨_,_,rfl,⟨b,rfl,_⟩,_,_,rfl,⟨u,rfl,av,d⟩,rfl⟩:=a;have g:0<=u/\u<=18446744073709551615:=by simpa[IntKind.min,IntKind.max,IntKind.signed,IntKind.bits] using And.intro av d
 obtain⟨k,rfl⟩:∃k:Nat,u=(k:Int):=⟨u.toNat,I⟩;exact⟨⟨s,p,b,k⟩,rfl,by show k<_;omega⟩
section
variable {w0 w w' w1:J}{bV bW:Nat->Prop}{d n ab g5 most k c q i:Nat}{l:fe}{S aE cy:ck}{pages eW aM hZ:O Nat}{T ax cT gB o2:O aU}{ls:ad}
end
def j8(i:Nat):bX:=⟨⟨false,[0,0,0,0,0,0,0,0,0,0,0,0,10,0,0,UInt8.ofNat i],rfl⟩,32⟩
def ek(i b u:Nat):aU:=⟨7,j8 i,(b:Nat),u⟩
theorem Gu:∀i,i<60->eC 7 (j8 i)=true:=by decide+kernel
theorem A6{i b u:Nat}(hi:i<60)(a:b<=65535)(hu:u<18446744073709551616):(ek i b u).ok:=by
 refine⟨?_,hu⟩;unfold aU.ew ek;rw[Gu i hi];unfold kp;rw[dw (show(b:Int)>=0 from I),dw (show(b:Int)<=65535 from I)];rfl
theorem Gv{i j:Nat}(hi:i<256)(c:j<256)(h:j8 i=j8 j):i=j:=by
 have h1:=congrArg (λp:bX=>((p.addr.b)[15]?).map UInt8.toNat) h;have a:some (UInt8.ofNat i).toNat=some (UInt8.ofNat j).toNat:=h1;simp only[nA,Option.some.injEq]at a;omega
theorem A7(c:UInt8)(w:J):Sem.run aj (Instr.build 22 #[(12,.int .u8 10),(15,.int .u8 (c.toNat:Int))]) w=.ok (.agg (aA [0,0,0,0,0,0,0,0,0,0,0,0,10,0,0,c]).toArray) w:=by kernel_rfl
theorem A8(c:UInt8)(w:J):Sem.run aj (Instr.build 24 #[(1,.agg (aA [0,0,0,0,0,0,0,0,0,0,0,0,10,0,0,c]).toArray)]) w=.ok (.agg (bq.mk false [0,0,0,0,0,0,0,0,0,0,0,0,10,0,0,c] rfl).c.toArray) w:=by kernel_rfl
section
variable {w0 w w' w1:J}{bV bW:Nat->Prop}{d n ab g5 most k c q i:Nat}{l:fe}{S aE cy:ck}{pages eW aM hZ:O Nat}{T ax cT gB o2:O aU}{t x:aU}
theorem A9(T:O aU)(t:aU):t∈h3 T t:=gD _ qS
theorem Gw(hx:x∈T)(a:x.kv.1≠t.kv.1):x∈h3 T t:=by
 rcases tf x.kv.1 t.kv.1 with h|h|h
 .exact iv _ (gf.2 ⟨hx,dw h⟩)
 .exact absurd h a
 .exact gD _ (iJ _ (gf.2 ⟨hx,dw h⟩))
theorem A_{s:Int}{p:bX}(b:∀t∈T,eC t.s t.p=true)(hg:eC t.s t.p=true)(h:(T.find? (eL s p)).isSome=true):((h3 T t).find? (eL s p)).isSome=true:=by
 rw[List.find?_isSome]at h⊢;obtain⟨x,hx,a⟩:=h;by_cases e:x.kv.1=t.kv.1
 .obtain⟨c,d⟩:=AX (b x hx) hg e
  refine⟨t,A9 T t,?_⟩;unfold eL at a⊢;rw[←c,←d];exact a
 .exact⟨x,Gw hx e,a⟩
set_option maxRecDepth 100000 in
theorem Gx {v:Y} (h:kO aj w 29 v):∃t:aU,v=.agg t.c.toArray/\t.u<18446744073709551616:=by
 obtain⟨cs,rfl,a⟩:=B1 h (d:=(Tryz.prog.underlying 29).get (by kernel_rfl)) (ls:=.int .i64::(((.bool::jX 16)++ [.int .i64])++ [.int .i64,.int .u64])) (nx _).symm (by kernel_rfl) (by kernel_rfl) (by kernel_rfl);obtain⟨t,rfl,ht⟩:=aU.qf a;exact⟨t,rfl,ht⟩
set_option maxRecDepth 100000 in
theorem Gy {m:Nat} (aw:m<256) (ht:t.u<18446744073709551616) (w:J):
 aL aj 3 #[.int .u8 (m:Nat),.agg t.c.toArray] w (λv w'=>v=true/\Ext w w'):=by
 refine okF (ah.s_ (m:Nat) t.c.toArray) az.s_ func3 ?_;(delta ah.s_ rO au ao fD aa b7 aF cc;dsimp only);obtain⟨N,K,L⟩:∃N:Nat,IntKind.wrap .i64 (1+(IntKind.wrap .i64 (Int.tmod (m:Int) 50)))=(N:Int)/\1<=N/\N<=50:=by
  rw[pk I,bz (n:=(m:Int)%50) I I,bz I I];exact⟨1+m%50,I,I,I⟩
 rw[K];refine bd (vs:=t.c) rfl λw1 B M ax=>⟨by decide,(mY (b:=9) ⟨L.1,I⟩ (by decide) w1).use ?_⟩;rintro _ ai ⟨ab,d,P,rfl,a0,_⟩;have Q:IntKind.wrap .i64 ((N:Int)+3)=((N+3:Nat):Int):=by rw[bz I I];omega
 rw[Q];refine⟨_,_,_,rfl,λa=>(by cases a),λ_=>⟨λR w'=>∃ (i:Nat) (S:ck) (c4 p:O Nat) (T cT:O aU),R=(i:Int)/\i<=N+3/\eF w1 w' (λq=>q=ab) d (4*N+64) (np 9) ab N S c4 p T cT (2*i)/\T.length=min i N/\(∀x∈T,∃j,j<i/\x.s=7/\x.p=j8 j)/\(1<=i->(T.find? (eL 7 (j8 0))).isSome=true),λn _=>((N+3:Int)-n).toNat,⟨0,P,[],[],[],[],rfl,I,a0,by simp,λx hx=>(by cases hx),λh=>I⟩,?_⟩⟩;rintro _ f ⟨i,S,c4,p,T,cT,rfl,hi,dQ,U,o,h0⟩;have V:=B.ext dQ.s.x;refine⟨λaI=>?_,λz=>?_⟩
 .have aI:i<N+3:=by have:=cu aI;omega
  have X:IntKind.wrap .u8 (i:Int)=(((UInt8.ofNat i).toNat:Nat):Int):=by
   rw[nA];show(i:Int)%256=_;omega
  rw[X];refine⟨_,A7 _ f,_,A8 _ f,_,tc f _ 32,(ek i i 9).c.toArray,tD f _ 7 i 9,qL (ek i i 9) λay Y Z=>⟨_,Y.rd (aU.bS _),(uk (dQ.ext Z) I (t:=ek i i 9) (by show 9<_;decide)).use ?_⟩⟩;have g:=A6 (i:=i) (b:=i) (u:=9) I I (by decide);have C:T.find? (eL (ek i i 9).s (ek i i 9).p)=none:=iM.2 λx hx a=>by
   obtain⟨j,D,_,e⟩:=o x hx;have h1:=(w5 a).2;rw[e]at h1;have:=Gv I I h1;omega
  have he:fX T N (ek i i 9)=if N<=T.length then 2 else 0:=by unfold fX;rw[g.1,if_pos rfl,C];rfl
  rintro _ aA ⟨rfl,k,cy,E,bo,bR,a1,_⟩;refine⟨_,rfl,λa=>?_,λa=>?_⟩
  .exfalso
   rw[he]at a;by_cases h1:i<N
   .rw[if_neg I,dw (show(i:Int)<(N:Int) from I),iw (show¬(i:Int)>=(N:Int) from I)]at a
    cases a
   .rw[if_pos I,iw (show¬(i:Int)<(N:Int) from I),dw (show(i:Int)>=(N:Int) from I)]at a
    cases a
  .have hlen:(gd T N (ek i i 9)).length=min (i+1) N/\(∀x∈gd T N (ek i i 9),∃j,j<i+1/\x.s=7/\x.p=j8 j)/\((gd T N (ek i i 9)).find? (eL 7 (j8 0))).isSome=true:=by
    unfold gd;rw[he];by_cases h1:i<N
    .rw[if_neg (show¬N<=T.length from I),if_pos rfl,uj dQ.o1 dQ.keys g.k,C]
     refine⟨by rw[U];show min i N+1=_;omega,λx hx=>?_,?_⟩
     .rcases A0 hx with rfl|hx
      .exact⟨i,I,rfl,rfl⟩
      .obtain⟨j,D,e⟩:=o x hx
       exact⟨j,I,e⟩
     .rcases lp i with rfl|ac
      .rw[List.find?_isSome]
       exact⟨_,A9 T _,by simp[eL,ek]⟩
      .exact A_ dQ.keys g.k (h0 ac)
    .rw[if_pos (show N<=T.length from I),if_neg (by decide)]
     exact⟨I,λx hx=>by obtain⟨j,D,e⟩:=o x hx;exact⟨j,I,e⟩,h0 I⟩
   rw[FH I];exact⟨⟨i+1,cy,E,bo,_,bR,rfl,I,a1.mono I,hlen.1,hlen.2.1,λ_=>hlen.2.2⟩,by show((N+3:Int)-((i+1:Nat):Int)).toNat<((N+3:Int)-(i:Nat)).toNat;omega⟩
 .have z:i=N+3:=by have:=cQ z;omega
  subst z;refine⟨_,A7 0 f,_,A8 0 f,_,tc f _ 32,(ek 0 99 99).c.toArray,tD f _ 7 99 99,qL (ek 0 99 99) λaB ad F=>⟨_,(V.ext F).rd (aU.bS _),(uk (dQ.ext F) I ht).use ?_⟩⟩;rintro _ aC ⟨rfl,cn,cy,E,bo,bR,a1,d1,_⟩;have ae:∀q,f.heap.size<=q->¬S.W q:=λq ag ak=>dQ.new q ag ak.1;have al:=ad.af d1.af (ae _ (bl _));have g:=A6 (i:=0) (b:=99) (u:=99) I I (by decide)
  have r:(gd T N t).length=N/\((gd T N t).find? (eL 7 (j8 0))).isSome=true/\(((fX T N t==2)||(fX T N t==1))=true\/t.s=7):=by
   have hf:=h0 I
   cases hg:t.ew with
   |false=>
    have e:fX T N t=1:=by unfold fX;rw[hg];rfl
    unfold gd;rw[e];exact⟨by rw[if_neg (by decide)];omega,by rw[if_neg (by decide)];exact hf,.inl rfl⟩
   |true=>
    have G:eC t.s t.p=true:=by have:=hg;unfold aU.ew at this;rw[dn]at this;exact this.1
    cases hs:T.find? (eL t.s t.p) with
    |none=>
     have e:fX T N t=2:=by
      unfold fX;rw[hg,if_pos rfl,hs];show(if false=true then (0:Int) else _)=2;rw[if_neg (by decide),if_pos I]
     unfold gd;rw[e];exact⟨by rw[if_neg (by decide)];omega,by rw[if_neg (by decide)];exact hf,.inl rfl⟩
    |some y=>
     have e:fX T N t=0:=by unfold fX;rw[hg,if_pos rfl,hs];rfl
     unfold gd;rw[e,if_pos rfl];refine⟨by rw[uj dQ.o1 dQ.keys G,hs];show T.length=N;omega,A_ dQ.keys G hf,.inr ?_⟩;obtain⟨j,_,e,_⟩:=o y (h7 hs);rw[←(w5 (iN hs)).1];exact e
  refine⟨_,rfl,_,al.rd (aU.bS _),(uk a1 I (t:=ek 0 99 99) (by show 99<_;decide)).use ?_⟩;have he:fX (gd T N t) N (ek 0 99 99)=0:=by
   unfold fX;rw[g.1,if_pos rfl,show(eL (ek 0 99 99).s (ek 0 99 99).p)=eL 7 (j8 0) from rfl,r.2.1,if_pos rfl]
  rw[he];rintro _ l ⟨rfl,cp,de,aD,bj,bZ,a2,d2,_⟩;have am:(gd (gd T N t) N (ek 0 99 99)).length=N:=by
   have an:gd (gd T N t) N (ek 0 99 99)=h3 (gd T N t) (ek 0 99 99):=if_pos he;rw[an,uj a1.o1 a1.keys g.k,show(eL (ek 0 99 99).s (ek 0 99 99).p)=eL 7 (j8 0) from rfl,r.2.1,if_pos rfl];exact r.1
  have ap:Var l w.heap.size t.c 29:=B.ext a2.s.x;refine⟨_,rfl,cH (λb w'=>b=true/\l=w') (λk aq=>⟨λ_=>(AW a2.v a2.s.at_).use ?_,λa=>(by cases a)⟩) ?_⟩
  .rintro _ _ ⟨rfl,rfl⟩
   rw[dG,am];exact⟨_,rfl,aq _ _ ⟨beq_self_eq_true _,rfl⟩⟩
  rintro _ _ ⟨rfl,rfl⟩;refine cH (λb w'=>b=true/\l=w') (λaE ar=>⟨λ_=>cH (λb w'=>b=true/\l=w') (λaG H=>⟨λa=>H _ _ ⟨rfl,rfl⟩,λa=>⟨t.s,ap.cell,H _ _ ⟨?_,rfl⟩⟩⟩) ?_,λa=>(by cases a)⟩) ?_
  .rcases r.2.2 with A|A
   .rw[A]at a;cases a
   .rw[A];rfl
  .rintro _ _ ⟨rfl,rfl⟩
   exact ar _ _ ⟨rfl,rfl⟩
  rintro _ _ ⟨rfl,rfl⟩;refine cH (λb w'=>b=true/\Ext l w') (λaH av=>⟨λ_=>(Gt l).use ?_,λa=>(by cases a)⟩) ?_
  .rintro _ aJ ⟨rfl,hx⟩
   exact⟨true,rfl,av _ _ ⟨rfl,hx⟩⟩
  .rintro _ aK ⟨rfl,hx⟩
   exact⟨rfl,(M.trans a2.s.x).trans hx⟩
end
end Go.Proofs.YtkdhdlfonmgheaaGreat
