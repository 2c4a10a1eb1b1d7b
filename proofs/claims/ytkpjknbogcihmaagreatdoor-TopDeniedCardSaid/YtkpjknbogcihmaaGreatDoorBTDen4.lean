/- Contracts of the functions that the statement reaches, and the plain laws over them; each theorem stands with its conditions. -/
import Derived.Test.YtkpjknbogcihmaaGreatDoorBTDen3
namespace Go.Proofs.YtkpjknbogcihmaaGreatDoor
open Go aQ Go.Proofs.Tryz
section
variable {w w' w1:I}{C:cv}{X:Nat->Prop}{T:bM}{S aW og:cn}{pages bm:Y Nat}{L cj:Y cH}{f2:Nat->ah}{b9:cv}{P':Nat->aw b6}
theorem N4{V:Nat->dw}{no:Nat}{c:Nat->aw b6}(h:eZ w S pages L bm cj)(d:f2=dm (dm S.T.f no true) S.u.map false)(F:(S.T.f no||S.T.g no)=false)(r:2<=no)(v:no<S.T.n)(fc:L.length<4096)(hP:∀x∈pages,c x=S.T.P x)
 (y:V ((S.gen+1)%2)=eI ((S.gen+1)%2) (kE ⟨S.T.root,S.T.bN,no,S.now,S.u.dt+1,L.length⟩ S.T.n (S.gen+1))) (fo:∀j,j≠(S.gen+1)%2->V j=if j=no then eI no ⟨4,S.gen+1,jy f2 ((S.T.n+7)/8)⟩ else if S.T.g j=true then S.V j else S.T.C.view j)
 (hg:∀j,S.T.g j=true->S.V j=S.T.C.view j):mz V S.T.n (S.gen+1) ⟨S.T.root,S.T.bN,no,S.now,S.u.dt+1,L.length⟩ f2 c pages L:=by
 have z:=h.t.s.bB;have A:=h.num;have i:=h.t.num;have k:=h.kG.CI;have G:=k.2.2.2.2.1;have l:S.T.f S.u.map=true:=(h.f _).2 (.inr (.inr rfl));have kr:S.T.f no=false:=by cases hh:S.T.f no<;>simp_all
 have m:∀x∈pages,x≠no:=λx hx e=>by
  have:=(h.f x).2 (.inl hx);rw[e,kr]at this;cases this
 have B:∀x∈pages,x<S.T.n:=λx hx=>Nat.lt_of_not_le λe=>by
  have:=h.t.s.pf x e;rw[(h.f x).2 (.inl hx)]at this;cases this
 have D:∀j,j≠(S.gen+1)%2->j≠no->V j=S.T.C.view j:=λj h1 h2=>by
  rw[fo j h1,if_neg h2];by_cases e:S.T.g j=true
  .rw[if_pos e,hg j e]
  .rw[if_neg e]
 have o:pw ⟨S.T.root,S.T.bN,no,S.now,S.u.dt+1,L.length⟩ S.T.n:=by
  refine⟨?_,i.2.1,i.1,v,r,z⟩;rcases h.ok with ⟨a1,a2,_⟩|b
  .exact⟨λ_=>a1,λ_=>a2⟩
  .obtain⟨cU,H,_,a2,_,_⟩:=b.Fw
   have:=(h.two S.T.root (by rw[a2];simp)).1;constructor
   .intro e;have e:S.T.root=0:=e;omega
   .intro e
    have e:S.T.bN=0:=e;rw[e]at b;exact b.elim
 have p:pv ⟨S.T.root,S.T.bN,no,S.now,S.u.dt+1,L.length⟩:=⟨by show S.T.root<_;omega,by show S.T.bN<_;omega,by show no<_;omega,A.1,by show S.u.dt+1<_;omega,by show L.length<_;omega⟩;refine⟨⟨S.u.map,k.2.2.2.1,by rw[d];unfold dm;rw[if_pos rfl]⟩,?_,.inr ⟨S.u,S.gen,?_,J⟩,⟨S.gen+1,bu _,?_⟩,λj=>?_,h.cU,λx hx=>⟨(h.two x hx).1,m x hx,B x hx⟩,?_,λx hx cU q=>?_,rfl,h.kv,p,o,by show S.u.dt+1+1<=S.gen+1;omega⟩
 .rw[y]
  exact Gg p o J J
 .have e:1-(S.gen+1)%2=S.gen%2:=by omega
  have E:S.T.g (S.gen%2)=true:=(h.kG.g _).2 (.inr (.inl J));rw[e,fo _ J,if_neg J,if_pos E];exact h.kG.G4
 .show qN (no:Int) (V no)=_
  rw[fo _ J,if_pos rfl];exact zP J ⟨(by decide:1<=4),(by decide:4<=4),by show S.gen+1<_;omega,by show(jy _ _).length<=232;rw[Af];omega⟩
 .rw[d]
  show dm (dm S.T.f no true) S.u.map false j=true↔j∈pages\/j<2\/j=no;unfold dm;by_cases aT:j=S.u.map
  .rw[if_pos aT]
   refine⟨λh=>(by cases h),λa=>?_⟩;rcases a with a|a|a
   .exact absurd aT (h.two j a).2
   .omega
   .rw[←aT,a,kr]at l;cases l
  .rw[if_neg aT]
   by_cases a6:j=no
   .rw[if_pos a6];exact⟨λ_=>.inr (.inr a6),λ_=>rfl⟩
   .rw[if_neg a6,h.f j]
    constructor
    .rintro(a|a|a)
     .exact .inl a
     .exact .inr (.inl a)
     .exact absurd a aT
    .rintro(a|a|a)
     .exact .inl a
     .exact .inr (.inl a)
     .exact absurd a a6
 .rcases h.ok with ⟨a1,a2,a3,a4⟩|b
  .exact .inl ⟨a1,a2,a3,a4⟩
  .exact .inr (b.agree λx hx=>(hP x hx).symm).1
 .rw[hP x hx]at q
  rw[D x (by have:=(h.two x hx).1;omega) (m x hx),←h.gen];exact(h.t.jv x cU q).2
end
section
variable {w w' w1:I}{C:cv}{X:Nat->Prop}{T:bM}{S aW og:cn}{pages bm:Y Nat}{L cj:Y cH}{f2:Nat->ah}{b9:cv}{P':Nat->aw b6}
theorem N5{f:Nat->ah}{n k:Nat}(h:k<n):px f n (k:Int)=dm f k false:=by
 unfold px;rw[if_pos ⟨J,J⟩,eR]
theorem N6{bK d c sb gen now first pending keys st:Nat}{l:dG}{u:eX}{failed:ah}(b:Var w st (jT bK d c sb l u gen now first pending keys failed) 309)(a:eX){K:I->Prop}(e:∀ag,Var ag st (jT bK d c sb l a gen now first pending keys failed) 309->af (λq=>q=st) w ag->K ag):
 bE w ⟨st,7,none⟩ [a.root,a.bN,a.map,.int .u64 (a.clock:Nat),.int .u64 (a.dt:Nat),a.keys]/\(6:Nat)=6/\
  aq (setCells w ⟨st,7,none⟩ 0 [a.root,a.bN,a.map,.int .u64 (a.clock:Nat),.int .u64 (a.dt:Nat),a.keys]) K:=
 ⟨a7.cl b _ _ (by simp[jT]) λv hm=>eX.plain a v hm,rfl,aL (e _ (a7.kZ (o:=7) b _) (af.iD (.refl _ _) _ 0))⟩
theorem N7(h:eZ w S pages L bm cj)(hl:S.failed=false)(fc:L.length<4096)(d_:S.T.C.D.bV<=800000000)(ea:S.gen<=1000000000)(ag:S.T.C.D.quiet):
 aA ae 159 #[.pointer (some S.st)] w (CJ S pages L bm cj w):=by
 refine okF (Z.yi (some S.st)) ao.yi func159 ?_;(delta Z.yi pt nR ad bG aY bx mi di bl eD eU aZ uf aa bh dY dc b7 st;dsimp only);obtain⟨aT,bv,cL⟩:=h.live hl;obtain⟨no,bw⟩:=GN cL;obtain⟨bA,cM,_⟩:=Gq bw;have eb:=h.t.s.bB;have ap:=h.num;have cN:=h.gen;have bC:=h.kG.CI;have kr:S.T.f no=false:=by cases hh:S.T.f no<;>simp_all
 have aV:S.T.g no=false:=by cases hh:S.T.g no<;>simp_all
 have bD:2<=no:=Nat.le_of_not_lt λe=>by
  have:=(h.kG.g no).2 (.inr (.inl e));rw[aV]at this;cases this
 have ec:S.T.M S.st:=.inr (.inr (.inr (.inl h.es)));refine⟨_,rfl,_,by rw[az];exact h.v.cell,(Gs h.t.s).use ?_⟩;rintro _ bE ⟨rfl,bF,aq⟩;rw[bw]at bF⊢;refine⟨(no:Nat),0,rfl,λhx=>(by cases hx),λ_=>aL ?_⟩;have cO:=(h.t.Ab (f:=dm S.T.f no true) bF aq).1;have cP:=h.v.ax aq (h.t.gi _ h.es).2.1;have ar:Ext bE bE.drew:=bH _;have aW:=cP.ext ar;have bI:=cO.ext ar;refine⟨_,rfl,id,_,by rw[az];exact aW.cell,_,rfl,id,_,by rw[az,az];exact aW.cell,(Gt bI.s (S.u.map:Nat)).use ?_⟩;rintro _ av ⟨rfl,bJ,ay⟩;rw[N5 (by exact bC.2.2.2.1)]at bJ;obtain⟨f2,aX⟩:∃f2,f2=dm (dm S.T.f no true) S.u.map false:=⟨_,rfl⟩;have bL:fC av S.T.sb S.T.n f2 S.T.g S.T.s1 S.T.s2:=by rw[aX];exact bJ
 have a0:cS av (S.T.ke f2):=(bI.Ab (f:=f2) bL ay).1;have bO:=aW.ax ay (h.t.gi _ h.es).2.1;refine⟨_,rfl,aL ?_⟩;have aB:Ext av av.drew:=bH _;have bP:=bO.ext aB;have cQ:=a0.ext aB;have a1:IntKind.wrap .u64 ((S.gen:Int)+1)=((S.gen+1:Nat):Int):=by rw[c2 J J];omega
 refine⟨λ_=>False,_,rfl,id,_,by rw[az];exact bP.cell,_,rfl,id,_,by rw[az];exact bP.cell,(Gy cQ.s).use ?_⟩;rintro _ cR ⟨aC,rfl,cT,a2,ed⟩;have cV:aR 1 5 cR aC (au (jy f2 ((S.T.n+7)/8))):=by rw[G1];exact cT
 have bQ:pk ⟨4,S.gen+1,jy f2 ((S.T.n+7)/8)⟩:=⟨(by decide:1<=4),(by decide:4<=4),by show S.gen+1<_;omega,by show(jy _ _).length<=232;rw[Af];omega⟩;rw[a1];refine⟨aC,rfl,a2,#[(4:Int),.int .u64 ((S.gen+1:Nat):Int),aC],λee=>by kernel_rfl,(zU (s:=aC) (p:=⟨4,S.gen+1,jy f2 ((S.T.n+7)/8)⟩) (no:=no) cV.src J bQ).use ?_⟩;rintro _ bS ⟨cW,rfl,bT,bW,cX⟩;have a3:=aB.trans (Ext.trans a2 bW);have aD:=a0.ext a3;have bY:=bO.ext a3;have ef:=aq.size;have eh:=ay.size;have ei:=ar.size;have ej:=aB.size;have el:=a2.size;have a4:af S.W w bS:=de (de (de (de (af.refl _ _) aq λq _ a=>h.pD (.inr (.inr (.inl a)))) ar λq _ a=>a.elim) ay λq _ a=>h.pD (.inr (.inr (.inl a)))) a3 λq _ a=>a.elim;have cY:(eI no ⟨4,S.gen+1,jy f2 ((S.T.n+7)/8)⟩).length=256:=vh _ bQ;refine⟨cW,0,rfl,bW,λhx=>(by cases hx),λ_=>⟨_,rfl,_,by rw[az];exact bY.cell,(GK aD.ca (by show S.T.C.D.bV<=_;omega) (no:=no) (by rw[aD.n];exact bA) bD (λaE=>?_) bT.src cY λq a=>⟨aR.lt bT q a,λhf=>?_⟩).use ?_⟩⟩
 .rcases aD.cc no aE with h1|h1
  .rw[show(S.T.ke f2).g no=S.T.g no from rfl,aV]at h1;cases h1
  .exact aT h1
 .have h1:=cX q a
  have h2:=a0.lt (q:=q) (.inl hf);omega
 rintro _ bZ ⟨K,cZ,b0,aF⟩;have B:e4 S.T.C K bS bZ 1:=b0;have b2:∀j,j≠no->K.view j=S.T.C.view j:=λj o=>by
  rcases aF with ⟨_,a5⟩|⟨_,_,a5⟩
  .rw[a5,if_neg o];rfl
  .rw[a5];rfl
 obtain⟨G,a7⟩:∃G:Nat->aw b6,G=λj=>if j=no then none else S.T.P j:=⟨_,rfl⟩
 have ah:∀j,j≠no->G j=S.T.P j:=λj o=>by rw[a7];exact if_neg o
 obtain⟨aG,_⟩:=aD.Cy (P:=G) cZ b0 λj cU U=>by
  have o:j≠no:=λe=>by rw[a7]at U;simp[e]at U
  rw[b2 j o];exact h.t.jv j cU (by rw[←ah j o];exact U)
 have c0:¬dx S.T.C S.st:=(h.t.ca.inv.gv _ (.inr (.inr (.inl h.es)))).2;have b4:=bY.ax B.ax c0;have b5:af S.W w bZ:=de a4 B.ax λq _ a=>h.pD (.inl a);have em:∀x∈bm,S.T.P x=G x:=λx hx=>(ah x λe=>by
  have:=(h.kG.g x).2 (.inl hx);rw[e,aV]at this;cases this).symm
 have en:K.D.bX=S.T.C.D.bX:=congrArg (λp=>p.1.1) B.bX;have b8:K.D.cg.getD 3 0=S.T.C.D.cg.getD 3 0:=congrArg Prod.snd B.bX;rcases aF with ⟨rfl,aF⟩|⟨rfl,c1,_⟩
 rotate_left
 .exact absurd (ag.1 1) c1
 refine⟨0,rfl,λhx=>(by cases hx),λ_=>⟨_,rfl,_,by rw[az];exact b4.cell,?_⟩⟩;have b9:=NR aG.ca (by show K.D.bV<=_;have:=B.bV;omega) λj o=>by show K.D.ek j=_;rw[B.qW.2,bv]
 rw[show((S.T.ke f2).ja K G).C.c=S.T.C.c from B.c]at b9;refine b9.use ?_;rintro _ aH ⟨b,R⟩;have c3:¬dx K S.st:=(aG.ca.inv.gv _ (.inr (.inr (.inl h.es)))).2;have a8:=b4.ax R.ax c3;have a9:b.D.d=S.T.C.D.d:=R.d.trans B.d;have c4:b.c=S.T.C.c:=R.c.trans B.c;have c5:b.D.r1=S.T.C.D.r1:=R.r.trans (congrArg (λp=>p.1.2.2.2.2) B.bX);have aI:∀q,dx b q->dx S.T.C q\/w.heap.size<=q:=λq a=>by
  have:=b5.size;have:=a4.size;rcases R.dS q a with h1|h1
  .exact(B.dS q h1).imp id λe=>by omega
  .exact .inr J
 have b_:af S.W w aH:=de b5 R.ax λq hl a=>by
  have:=a4.size;exact h.pD (.inl ((B.dS q a).resolve_right J))
 have cb:∀ (a_:cv),(∀j,2<=j->a_.view j=K.view j)->∀j cU,G j=some cU->j<S.T.n/\my S.T.gen cU.leaf j (a_.view j) cU:=λa_ c7 j cU U=>by
  have o:j≠no:=λe=>by rw[a7]at U;simp[e]at U
  have h1:=h.t.jv j cU (by rw[←ah j o];exact U);rw[c7 j h1.2.two,b2 j o];exact h1
 have ba:cS aH ((S.T.ke f2).ja b G):=aG.G6 R.at_ R.ax R.c R.n (cb b λj _=>R.view j) λj o=>by
  rw[R.cc.1]at o;rcases aG.cc j o with h1|h1
  .exact .inl h1
  .exact .inr λi=>by rw[R.cc.1];exact h1 i
 have cd:b.D.cc=S.T.C.D.cc:=R.cc.1.trans B.cc;have eo:b.D.ek=λ_=> []:=R.cc.2.trans (B.qW.2.trans bv);have eq:b.D.bV<=S.T.C.D.bV+70:=by have h1:b.D.bV<=K.D.bV+64:=R.bV;have:=B.bV;omega
 rcases R.kB with ⟨rfl,c8,ce,c_⟩|⟨rfl,er,da⟩
 rotate_left
 .exfalso
  rcases da with h1|h1
  .exact h1 (B.calm 64 (ag.1 _))
  .unfold bz.gW at h1
   rw[show((S.T.ke f2).ja K G).C.D.cg.getD 3 0=S.T.C.D.cg.getD 3 0 from b8,ag.2]at h1
   cases h1
 have aJ:∀j,b.D.fp j=[]:=λj=>by unfold bz.fp;rw[c8];rfl
 have db:∀j,b.D.bX.getD j []=if j=no then eI no ⟨4,S.gen+1,jy f2 ((S.T.n+7)/8)⟩ else S.T.C.view j:=λj=>by
  have h1:=NP R.at_ ce j;rw[Ci _ (λx hx=>(R.at_.raw.dev.wn x hx).1),if_pos (aJ j)]at h1;rw[←h1,R.view];exact aF j
 have cf:∀j,S.T.g j=true->S.V j=S.T.C.view j:=λj o=>(h.view hl o).symm;refine⟨0,rfl,λhx=>(by cases hx),λ_=>⟨_,rfl,_,a8.cell,?_⟩⟩;have ch:=GW ba;rw[show((S.T.ke f2).ja b G).bK=S.T.bK from rfl]at ch;refine ch.use ?_;rintro _ bb ⟨rfl,bc⟩;have bd:Ext bb bb.drew:=bH _;have be:=(a8.ext bc).ext bd;have dd:IntKind.wrap .u64 ((S.u.dt:Int)+1)=((S.u.dt+1:Nat):Int):=by rw[c2 J J];omega
 refine⟨_,_,rfl,aL ⟨λ_=>False,_,rfl,id,_,by rw[az];exact be.cell,_,rfl,id,_,by rw[az,az];exact be.cell,_,rfl,id,_,by rw[az];exact be.cell,?_⟩⟩;rw[dd];obtain⟨H,Y⟩:∃H:eX,H=⟨S.T.root,S.T.bN,no,S.now,S.u.dt+1,S.keys⟩:=⟨_,rfl⟩;refine⟨H.c.toArray,λet=>by rw[Y];kernel_rfl,aU (vs:=Ge.c) rfl λeu ci ck ev=>⟨ck,?_⟩⟩;obtain⟨ai,df⟩:∃ai,ai=bb.drew.heap.size:=⟨_,rfl⟩;rw[←df]at ci⊢;refine Gh ci rfl H λaj dg dh ew=>aL ?_;have ex:=bc.size;have ey:=bd.size;have dk:Ext aH aj:=Ext.bR (Ext.trans bc (bd.trans ck)) dh J;have cl:Ext aj aj.drew:=bH _;have ak:Ext aH aj.drew:=Ext.trans dk cl;have bg:=dg.ext cl;have aK:=a8.ext ak;have bi:=ba.ext ak;generalize ez:aj.drew=aM at bg aK bi ak⊢;refine⟨_,rfl,id,_,by rw[az];exact aK.cell,id,sV bg ⟨_,rfl,id,_,by rw[az];exact aK.cell,?_⟩⟩;rw[a1];have dl:pv H:=by
  have h1:=h.t.num;have h2:=h.keys;rw[Y];exact⟨by show S.T.root<_;omega,by show S.T.bN<_;omega,by show no<_;omega,ap.1,by show S.u.dt+1<_;omega,by show S.keys<_;omega⟩
 have bj:b.D.n=S.T.n:=R.n.trans (B.n.trans h.t.n);have Q:ep S.T.X aM b:=bi.ca;have cn:=o8 Q.raw.dev J dl (gen:=S.gen+1) J;rw[a9]at cn;refine cn.use ?_;rintro v bk ⟨ab,bn⟩;have eA:=ak.size;have dn:∀q,dx b q->q<ai:=λq a=>by have:=R.at_.raw.lt a;omega
 have dp:=bg.ax ab λhf=>by have:=dn ai (.inr (.inr hf));omega
 have dq:¬dx b S.st:=(ba.ca.inv.gv _ (.inr (.inr (.inl h.es)))).2;have co:=aK.ax ab λhf=>dq (.inr (.inr hf));have dr:af S.W w aM:=de b_ ak λq _ a=>a.elim;have eB:=b_.size;have ds:af S.W w bk:=de dr ab λq hl a=>h.pD<| .inl ((aI q (.inr (.inr a))).resolve_right J)
 have main:∀ (O:bz),dj bk O->O.d=b.D.d->lT O b.D->(∀i,2<=i->O.now i=b.D.now i)->(∀q,cm O q->cm b.D q\/aM.heap.size<=q)->(∀j,O.cc j=true->S.T.g j=true)->
  cS bk ((S.T.ke f2).ja {b with D:=O} G)/\∀q,dx {b with D:=O} q->dx S.T.C q\/w.heap.size<=q:=λO al du cp dv cq dy=>by
  obtain⟨jx,iY⟩:=N1 Q al du cp dv ab cq;refine⟨bi.G6 jx (ab.mono λq _ a=>.inr (.inr a)) rfl cp.1 (cb _ λj o=>(iY j o).trans (R.view j)) λj o=>.inl (dy j o),λq a=>?_⟩;rcases a with a|a|a
  .exact aI q (.inl a)
  .exact aI q (.inr (.inl a))
  .rcases cq q a with h1|h1
   .exact aI q (.inr (.inr h1))
   .exact .inr J
 have eC:¬b.D.ro:=λe=>aT λi=>by rw[←cd];exact e i
 have eE:∀j,b.D.cc j=true->S.T.g j=true:=λj o=>by
  rw[cd]at o;exact(h.t.cc j o).resolve_right aT
 have cr:S.T.C.D.quiet->∀k,b.D.calm k:=λa k=>R.calm k (B.calm _ (a.1 _));rcases bn with ⟨bo,rfl,al⟩|⟨bo,s,dz,y,N,bn⟩
 .have:=(lR (k:=2) (m:=0) (.inr rfl) Q.raw.dev.f4 (cr ag 1)).2
  rw[this]at bo;cases bo
 have eF:∀j,y.fp j=if j=(S.gen+1)%2 then [eI ((S.gen+1)%2) (kE H b.D.n (S.gen+1))] else []:=λj=>by
  rw[N,Gc,aJ,aJ];rfl
 have cs:H=⟨S.T.root,S.T.bN,no,S.now,S.u.dt+1,L.length⟩:=by rw[Y,h.keys]
 have dA:∀V:Nat->dw,(∀j,V j=if j=(S.gen+1)%2 then eI ((S.gen+1)%2) (kE H b.D.n (S.gen+1)) else b.D.bX.getD j [])->mz V S.T.n (S.gen+1) H f2 G pages L:=λV fo=>by
  rw[cs];refine N4 h aX cM bD bA fc (λx hx=>ah x λe=>by
   have:=(h.f x).2 (.inl hx);rw[e,kr]at this;cases this) (by rw[fo,if_pos rfl,cs,bj]) (λj o=>?_) cf
  rw[fo,if_neg o,db];by_cases e:j=no
  .rw[if_pos e,if_pos e]
  .rw[if_neg e,if_neg e]
   by_cases a6:S.T.g j=true
   .rw[if_pos a6,cf j a6]
   .rw[if_neg a6]
 have bp:∀q,cm y q->cm b.D q\/aM.heap.size<=q:=by rw[N];exact Ae dz
 have eG:∀i,2<=i->y.now i=b.D.now i:=λi hi=>by rw[N,qQ,if_neg J]
 have ct:y.n=b.D.n:=by rw[N];rfl
 have dB:y.d=b.D.d:=by rw[N];rfl
 have eH:y.bX=b.D.bX:=by rw[N];rfl
 have eJ:y.bV=b.D.bV+1:=by rw[N];rfl
 have cu:S.T.C.D.quiet->y.cg.getD 3 0= -1:=λa=>by
  rw[N];show(b.D.cg.set 2 _).getD 3 0=_;have aN:=Q.raw.dev.f4;rw[gg (by rw[dU];omega),fG (by decide),←gg (d:=0),c_];rw[show((S.T.ke f2).ja K G).C.D.cg.getD 3 0=S.T.C.D.cg.getD 3 0 from b8,a.2];rfl
 rcases bn with ⟨aO,rfl,al⟩|⟨aO,rfl,al⟩
 .unfold bz.gW at aO
  rw[cu ag]at aO;cases aO
 have dD:∀j,S.T.n<=j->b.D.bX.getD j []=[]:=λj o=>by
  rw[l8,nD (by have:b.D.bX.length=S.T.n:=bj;omega)];rfl
 have cw:∀j,b.D.now j=b.D.bX.getD j []:=λj=>by rw[Ci _ (λx hx=>(Q.raw.dev.wn x hx).1),if_pos (aJ j)]
 have eK:y.n=S.T.n:=ct.trans bj;have dE:∀j,(y.c9 3).jS.bX.getD j []=if j=(S.gen+1)%2 then eI ((S.gen+1)%2) (kE H b.D.n (S.gen+1)) else b.D.bX.getD j []:=λj=>by
  show((List.range y.n).map y.now).getD j []=_;have eL:16<=y.n:=by have:16<=b.D.n:=Q.raw.dev.cx;omega
  by_cases o:j<y.n
  .rw[gg (by simp;exact o),List.getElem_map,List.getElem_range,N,qQ,cw]
  .rw[l8,nD (by simp;omega),if_neg J,dD j J];rfl
 obtain⟨F,I⟩:∃F,F=(y.c9 3).jS.kf (λ_=>false) λ_=> []:=⟨_,rfl⟩;have dF:∀j,F.fp j=[]:=λj=>by rw[I];rfl
 have cy:∀j,F.bX.getD j []=if j=(S.gen+1)%2 then eI ((S.gen+1)%2) (kE H b.D.n (S.gen+1)) else b.D.bX.getD j []:=λj=>by rw[I];exact dE j
 have dG:F.n=b.D.n:=by rw[I];exact(vt (y.c9 3)).trans ct
 have bq:F.d=S.T.C.D.d:=by rw[I];exact dB.trans a9
 obtain⟨cz,dH⟩:=main F (by rw[I];exact al.kf _ _) (bq.trans a9.symm) ⟨dG,λj o=>(by rw[I]at o;cases o),λj o=>(by rw[I]at o;cases o)⟩ (λi hi=>by
  have h1:F.now i=F.bX.getD i []:=by rw[I];rfl
  rw[h1,cy,if_neg J,cw]) (λq a=>by
   rw[I]at a;rcases a with e|e|e|⟨x,hx,e⟩
   .exact bp q (.inl e)
   .exact bp q (.inr (.inl e))
   .exact bp q (.inr (.inr (.inl e)))
   .cases hx) λj o=>(by rw[I]at o;cases o)
 refine⟨0,rfl,λhx=>(by cases hx),λ_=>⟨_,rfl,_,by rw[az];exact co.cell,(M_ cz.s).use ?_⟩⟩;rintro _ am ⟨rfl,s2,dI,an,cA⟩;have ac:=dA (λj=>F.bX.getD j []) cy;have dJ:f2 0=true/\f2 1=true:=⟨(ac.g 0).2 (.inr (.inl (by decide))),(ac.g 1).2 (.inr (.inl (by decide)))⟩;obtain⟨dK,eM⟩:=cz.space dI an cA (λj o=>by
  have o:F.cc j=true:=o;rw[I]at o;cases o) dJ
 have eN:=an.size;have dL:=co.ax an (h.t.gi _ h.es).2.1;have dM:=dp.ax an λhf=>by
  have h1:=h.t.lt (q:=ai) (.inr (.inr (.inl hf)));omega
 have dN:=dK.kf (s:=f2) (z:=λ_=> []) (λf hf j dO _ _=>by
  have h1:=ce f hf;unfold Fr.ir at h1;rw[dO]at h1;simpa using h1) (λj _=>dF j) λj o=>.inl o
 obtain⟨fK,A⟩:∃fK:bM,fK=(((S.T.ke f2).ja {b with D:=F} G).pB f2 f2 S.T.s1 s2).ja {b with D:=F.kf f2 λ_=> []} G:=⟨_,rfl⟩;have dP:cS am fK:=by rw[A];exact dN
 have aP:Ext am am.drew:=bH _;have cB:Var am.drew S.st (jT S.T.bK S.T.C.D.d S.T.C.c S.T.sb S.l S.u S.gen S.now S.first S.pending S.keys S.failed) 309:=dL.ext aP;have dQ:=dM.ext aP;have dR:=dP.ext aP;have aQ:fK.E=S.T.E:=by rw[A];rfl
 refine⟨rfl,aL ⟨λ_=>False,id,sV dQ ⟨_,rfl,id,_,by rw[az];exact cB.cell,_,rfl,?_⟩⟩⟩;rw[az,b3,a1];refine N6 cB H λcC cD cE=>?_;have dT:=dR.jb (by rw[aQ];exact h.es) cE;obtain⟨bU,b1⟩:=e9 cD (i:=13) (by simp[jT]);have cF:=e8 cD (i:=13) (.int .u64 ((S.gen+1:Nat):Int));have dV:=eg cC S.st 13 (.int .u64 ((S.gen+1:Nat):Int));refine⟨_,rfl,by rw[az];exact bU,by rw[az];exact b1,aL ?_⟩;rw[az,b3];obtain⟨dW,dX⟩:=e9 cF (i:=16) (by simp[jT]);have cG:=e8 cF (i:=16) (0:Int);have br:=dV.trans (eg _ S.st 16 (0:Int));refine⟨_,rfl,by rw[az];exact dW,by rw[az];exact dX,aL ?_⟩;rw[az,b3];generalize (cC.setCell ⟨S.st,13,none⟩ (.int .u64 ((S.gen+1:Nat):Int))).setCell ⟨S.st,16,none⟩ (0:Int)=cH at cG br⊢;have dZ:=dT.jb (by rw[aQ];exact h.es) br;have bs:Ext cH cH.drew:=bH _;have bt:=cG.ext bs;have d0:=dZ.ext bs;refine aL ⟨_,rfl,id,_,bt.cell,_,rfl,id,_,by rw[az];exact bt.cell,?_⟩;have d1:IntKind.wrap .u64 (((S.gen+1:Nat):Int)+1)=((S.gen+2:Nat):Int):=by rw[c2 J J];omega
 rw[d1];have eO:fK.gen=S.gen+1:=by rw[A];exact cN
 have cI:fK.bK=S.T.bK:=by rw[A];rfl
 have cJ:=N3 d0 (gen:=S.gen+2) J J;rw[cI]at cJ;refine cJ.use ?_;rintro _ d2 ⟨rfl,d3,cK⟩;have d4:=bt.ax cK (h.t.gi _ h.es).1;have d5:∀q,(fK.oe (S.gen+2)).M q->S.T.M q\/w.heap.size<=q:=λq a=>by
  rw[A]at a;rcases a with a|a|a|a
  .exact(dH q a).imp .inl id
  .exact .inl (.inr (.inl a))
  .rcases cA q a with h1|h1
   .exact .inl (.inr (.inr (.inl h1)))
   .have:=ab.size;exact .inr J
  .exact .inl (.inr (.inr (.inr a)))
 refine⟨rfl,⟨S.st,fK.oe (S.gen+2),S.l,H,S.gen+1,S.now,S.first,0,S.keys,S.failed⟩,⟨rfl,?_,by rw[A];rfl,rfl,?_,λa=>?_,?_,d5,aQ,by rw[A];rfl,by rw[A];exact(show F.r1=y.r1 by rw[I];rfl).trans ((show y.r1=b.D.r1 by rw[N];rfl).trans c5)⟩,rfl,.inl ⟨rfl,⟨⟨?_,d3,?_,?_,rfl,?_,?_⟩,?_,h.cU,?_,?_,h.kv,h.keys,dC _,λ_=>⟨?_,?_,?_⟩,λhf=>?_⟩,hl,rfl,by rw[Y],by rw[Y],rfl⟩⟩
 .rw[A];exact bq
 .rw[A];show F.bV<=_;rw[I];show y.bV<=_;omega
 .rw[A]
  show bz.quiet (F.kf _ _);rw[I];refine⟨λk=>vu y ?_,?_⟩
  .have aN:=(lR (k:=2) (m:=k) (.inr rfl) Q.raw.dev.f4 (cr a (k+1))).1
   rw[N];exact aN
  .show(y.cg.set 3 (g9 (y.cg.getD 3 0)).2).getD 3 0= -1
   have aN:=Q.raw.dev.f4;have eP:y.cg.length=4:=by rw[N];show(b.D.cg.set 2 _).length=4;rw[dU];exact aN
   rw[cu a,gg (by rw[dU];omega),jh];rfl
 .have aE:∀q,q=S.st->S.W q:=λq e=>by rw[e];exact h.G5
  have aS:af S.W w am:=de ds an λq _ a=>h.pD (.inr (.inr (.inl a)));have bf:=de aS aP λq _ a=>a.elim;have d6:=de bf cE λq _ a=>aE q a;have d7:=de d6 br λq _ a=>aE q a;have d8:=de d7 bs λq _ a=>a.elim;exact de d8 cK λq _ a=>h.pD (.inr (.inl a))
 .show Var d2 S.st (jT fK.bK fK.C.D.d fK.C.c fK.sb _ _ _ _ _ _ _ _) _
  rw[cI,show fK.C.D.d=S.T.C.D.d by rw[A];exact bq,show fK.C.c=S.T.C.c by rw[A];exact c4,show fK.sb=S.T.sb by rw[A];rfl];exact d4
 .show fK.E S.st
  rw[aQ];exact h.es
 .rw[A];exact ac
 .refine⟨ap.1,ap.2.1,?_,by show S.gen+1+2<_;omega,ap.2.2.2.2⟩
  show H.dt+1<=S.gen+1;rw[Y];show S.u.dt+1+1<=_;omega
 .intro j o
  have o:fK.g j=true:=o;show fK.C.D.cc j=true;rw[A]at o⊢;exact o
 .refine h.ok.agree (by rw[A];rfl) (by rw[A];rfl) λx hx=>?_
  rw[A];exact(ah x λe=>by
   have:=(h.f x).2 (.inl hx);rw[e,kr]at this;cases this).symm
 .intro j
  have:(fK.oe (S.gen+2)).f j=f2 j:=by rw[A];rfl
  rw[this];exact ac.g j
 .intro x hx
  exact⟨(ac.two x hx).1,(ac.two x hx).2.1⟩
 .intro e
  have h1:=e S.T.n;have h2:(fK.oe (S.gen+2)).C.D.cc S.T.n=f2 S.T.n:=by rw[A];rfl
  rw[h2,bL.pf S.T.n (bu _)]at h1;cases h1
 .rw[A];rfl
 .have d9:f2 S.u.map=false:=by rw[aX];unfold dm;rw[if_pos rfl]
  have h1:=Ac (s:=λi=>f2 i||f2 i) (t:=dm (λi=>f2 i||f2 i) S.u.map true) (k:=S.u.map) (by simp[d9]) (by simp[dm]) (λi hi=>by simp[dm,hi]) (n:=S.T.n) bC.2.2.2.1;have h2:=py (dm (λi=>f2 i||f2 i) S.u.map true) S.T.n;have eQ:c6 (fK.oe (S.gen+2))=S.T.n-eY (λi=>f2 i||f2 i) S.T.n:=by rw[A];rfl
  show 1<=c6 (fK.oe (S.gen+2));omega
 .have hf:S.failed=true:=hf
  rw[hl]at hf;cases hf
end
theorem N8(a b:Int)(w:I)(T:TypeId)(k:IntKind):Sem.run ae (Builtin.max_ #[T,T] T #[.int k a,.int k b]) w=.ok (.int k (max a b)) w:=by
 simp only[Builtin.max_];unfold Builtin.max2;simp;split<;>omega
theorem gw.trans{S aW a:cn}{w w' b:I}{k l:Nat}(h1:gw k S aW w w')(h2:gw l aW a w' b):gw (k+l) S a w b:=
 ⟨h2.st.trans h1.st,h2.d.trans h1.d,h2.n.trans h1.n,h2.l.trans h1.l,by have:=h1.bV;have:=h2.bV;omega,λh=>h2.q (h1.q h),de h1.ax h2.ax λq hl hm=>h1.back hl hm,λq hm=>by
  have:=h1.ax.size
  rcases h2.dS q hm with c|c
  .exact h1.dS q c
  .exact .inr J,h2.E.trans h1.E,h2.G.trans h1.G,h2.r.trans h1.r⟩
theorem gw.mono{S aW:cn}{w w':I}{k l:Nat}(h:gw k S aW w w')(hl:k<=l):gw l S aW w w':={h with bV:=by have:=h.bV;omega}
theorem gw.ext{w w':I}(S:cn)(h:Ext w w'):gw 0 S S w w':=⟨rfl,rfl,rfl,rfl,bu _,λh=>h,h.mono λ_ _ h=>h.elim,λq a=>.inl a,rfl,rfl,rfl⟩
section
variable {w w' w1:I}{T:bM}{S aW og:cn}{pages bm:Y Nat}{L cj:Y cH}
theorem kF.ext(h:kF w S bm cj)(hx:Ext w w'):kF w' S bm cj:=⟨h.v.ext hx,h.t.ext hx,h.es,h.kG,h.gen,h.num,h.cc⟩
theorem eZ.ext(h:eZ w S pages L bm cj)(hx:Ext w w'):eZ w' S pages L bm cj:=⟨h.tokF.ext hx,h.ok,h.cU,h.f,h.two,h.kv,h.keys,h.sX,h.live,h.dead⟩
theorem eZ.jb{ng:Nat}(h:eZ w S pages L bm cj)(a:S.T.E ng)(b:ng≠S.st)(hc:af (λq=>q=ng) w w'):eZ w' S pages L bm cj:=
 ⟨⟨h.v.ax hc λe=>b e.symm,h.t.jb a hc,h.es,h.kG,h.gen,h.num,h.cc⟩,h.ok,h.cU,h.f,h.two,h.kv,h.keys,h.sX,h.live,h.dead⟩
theorem N_(h:eZ w S pages L bm cj):aA ae 139 #[.pointer (some S.st)] w (λv w'=>v=S.keys/\w=w'):=by
 refine okF (Z.BT (some S.st)) ao.BT func139 ?_;exact⟨λhb=>(by cases hb),λ_=>⟨_,rfl,_,by rw[az];exact h.v.cell,rfl,rfl⟩⟩
theorem Oa(h:eZ w S pages L bm cj):aA ae 215 #[.pointer (some S.st)] w (λv w'=>v=.int .u64 (S.now:Nat)/\w=w'):=by
 refine okF (Z.BU (some S.st)) ao.BU func215 ?_;exact⟨λhb=>(by cases hb),λ_=>⟨_,rfl,_,by rw[az];exact h.v.cell,rfl,rfl⟩⟩
theorem Ob(h:eZ w S pages L bm cj):aA ae 269 #[.pointer (some S.st)] w (λv w'=>v=S.failed/\w=w'):=by
 refine okF (Z.BV (some S.st)) ao.BV func269 ?_;exact⟨λ_=>⟨_,rfl,_,by rw[az];exact h.v.cell,rfl,rfl⟩,λhb=>(by cases hb)⟩
def sY(S:cn):Nat:=c6 S.T-2*S.T.bN-4
theorem Oc(h:eZ w S pages L bm cj):aA ae 331 #[.pointer (some S.st)] w (λv w'=>v=.int .i64 (sY S:Nat)/\Ext w w'):=by
 refine okF (Z.y9 (some S.st)) ao.y9 func331 ?_;(delta Z.y9 pt nR bG ak;dsimp only);refine⟨_,rfl,_,h.v.cell,(GW h.t).use ?_⟩;rintro _ e ⟨rfl,a⟩;refine⟨_,_,rfl,_,rfl,_,by rw[az];exact(h.v.ext a).cell,(Cr (h.t.ext a).s).use ?_⟩;rintro _ b ⟨rfl,c⟩;have j:=h.t.s.bB;have hh:=h.t.num.2.1;have k:=py (λi=>S.T.f i||S.T.g i) S.T.n;have d:(S.T.n:Int)-eY (λi=>S.T.f i||S.T.g i) S.T.n=((c6 S.T:Nat):Int):=by unfold c6;omega
 have l:c6 S.T<=S.T.n:=Nat.sub_le _ _;rw[d,bF (n:=2*(S.T.bN:Int)) J J];refine⟨_,rfl,_,b,N8 _ _ b _ _,?_,Ext.trans a c⟩;rw[bF (n:=((c6 S.T:Nat):Int)-2*(S.T.bN:Int)) J J,bF J J];unfold sY
 congr 1
 omega
end
def mA(c:Prop)(S aW:cn)(pages:Y Nat)(L:Y cH)(bm:Y Nat)(cj:Y cH)(v:O)(w':I):Prop:=
 (v=.int .i64 0/\c/\eZ w' aW pages L pages L/\aW.failed=false/\aW.gen=S.gen+1/\aW.u.clock=S.now/\aW.u.dt=S.u.dt+1/\aW.pending=0)\/
 (v=.int .i64 3/\¬S.T.C.D.quiet/\eZ w' aW bm cj bm cj/\aW.failed=true/\aW.u=S.u/\aW.gen=S.gen/\(∀j,S.T.g j=true->aW.V j=S.V j)/\((∀j,S.T.g j=true->aW.T.C.D.ek j=[])\/(c/\G7 aW S.gen S.T.g pages L S.now (S.u.dt+1))))
theorem CJ.x{c:Prop}{S:cn}{pages bm:Y Nat}{L cj:Y cH}{w w':I}{v:O}(h:CJ S pages L bm cj w v w')(hc:c):∃aW,gw 100 S aW w w'/\aW.now=S.now/\mA c S aW pages L bm cj v w':=by
 obtain⟨aW,h1,h2,a⟩:=h;refine⟨aW,h1,h2,?_⟩;rcases a with ⟨a1,a2,a3⟩|⟨a1,a2,a3,a4,a5,c0,eV,eG⟩
 .exact .inl ⟨a1,hc,a2,a3⟩
 .exact .inr ⟨a1,a2,a3,a4,a5,c0,eV,.inr ⟨hc,eG⟩⟩
theorem mA.val{c:Prop}{S aW:cn}{pages bm:Y Nat}{L cj:Y cH}{w':I}{v:O}(h:mA c S aW pages L bm cj v w'):∃n:Int,v=n:=by
 rcases h with ⟨a,_⟩|⟨a,_⟩<;>exact⟨_,a⟩
def pE(S aW:cn)(pages:Y Nat)(L:Y cH)(bm:Y Nat)(cj:Y cH)(v:O)(w':I):Prop:=
 (v=.int .i64 0/\S.pending+1<S.l.batch/\eZ w' aW pages L bm cj/\aW.failed=false/\aW.gen=S.gen/\aW.u=S.u/\aW.pending=S.pending+1/\aW.first=(if S.pending=0 then S.now else S.first)/\∀j,S.T.g j=true->aW.V j=S.V j)\/
 mA (S.l.batch<=S.pending+1) S aW pages L bm cj v w'
section
variable {w w' w1:I}{T:bM}{S aW og:cn}{pages bm:Y Nat}{L cj:Y cH}
theorem Od{d:Int}(hb:kF w S bm cj)(hl:S.failed=false)(ok:jQ S.T pages L)(cU:pages.Nodup)(f:∀no,S.T.f no=true↔no∈pages\/no<2\/no=S.u.map)(two:∀x∈pages,2<=x/\x≠S.u.map)(kv:∀p∈L,hK p.1/\p.2.length<=24)
 (U:¬S.T.C.D.ro/\S.T.C.D.ek=(λ_=> [])/\1<=c6 S.T) (V:(S.keys:Int)+d=L.length) (am:S.pending<1000) (fc:L.length<4096) (an:S.keys<100000) (W:S.T.C.D.bV<=800000000) (X:S.gen<=1000000000) (Y:S.T.C.D.quiet):
 aA ae 333 #[.pointer (some S.st),d] w (λv w'=>∃aW,gw 100 S aW w w'/\aW.now=S.now/\pE S aW pages L bm cj v w'):=by
 refine okF (Z.y_ (some S.st) d) ao.y_ func333 ?_;(delta Z.y_ pt aY st ak ad di aZ bG;dsimp only);have H:=hb.num;have ap:S.T.M S.st:=.inr (.inr (.inr (.inl hb.es)));obtain⟨aS,bf,b,r,s⟩:=hb.set (i:=17) (x:=L.length) (by decide);refine⟨_,rfl,_,by rw[az];exact hb.v.cell,_,rfl,by rw[az];exact aS,by rw[az];exact bf,aL ?_⟩;rw[az,b3,V,bF (n:=(L.length:Int)) J J];generalize aq:w.setCell ⟨S.st,17,none⟩ L.length=aC at b r s⊢;obtain⟨g,o⟩:∃g,g=if S.pending=0 then S.now else S.first:=⟨_,rfl⟩
 refine lF (λaP=>Var aP S.st (jT S.T.bK S.T.C.D.d S.T.C.c S.T.sb S.l S.u S.gen S.now g S.pending L.length S.failed) 309/\cS aP S.T/\af (λq=>q=S.st) w aP) (λar I=>?_) ?_
 .refine⟨_,rfl,_,by rw[az];exact b.cell,λt=>?_,λt=>I _ ⟨?_,r,s⟩⟩
  .have h0:S.pending=0:=by
    have:(S.pending:Int)=0:=by simpa using t
    omega
   obtain⟨y,z⟩:=e9 b (i:=15) (by simp[cn.cells,jT]);have aa:=e8 b (i:=15) (.int .u64 (S.now:Int));have K:=eg aC S.st 15 (.int .u64 (S.now:Int));refine⟨_,rfl,_,by rw[az];exact b.cell,_,rfl,by rw[az];exact y,by rw[az];exact z,aL (I _ ⟨?_,?_,?_⟩)⟩
   .rw[az,b3,o,if_pos h0];exact aa
   .rw[az,b3];exact r.jb hb.es K
   .rw[az,b3];exact s.trans K
  .have h0:¬S.pending=0:=by
    have:¬(S.pending:Int)=0:=by simpa using t
    omega
   rw[o,if_neg h0];exact b
 rintro aP ⟨A,ab,ac⟩;obtain⟨y,z⟩:=e9 A (i:=16) (by simp[jT]);have N:=e8 A (i:=16) (.int .i64 ((S.pending+1:Nat):Int));have B:=eg aP S.st 16 (.int .i64 ((S.pending+1:Nat):Int));have ag:IntKind.wrap .i64 ((S.pending:Int)+1)=((S.pending+1:Nat):Int):=by rw[bF J J];omega
 refine⟨_,rfl,_,by rw[az];exact A.cell,_,rfl,by rw[az];exact y,by rw[az];exact z,aL ?_⟩;rw[az,b3,ag];have O:=ab.jb hb.es B;generalize au:aP.setCell ⟨S.st,16,none⟩ (.int .i64 ((S.pending+1:Nat):Int))=k at N B O⊢;have E:Ext k k.drew:=bH _;have F:=N.ext E;have ah:=O.ext E;have ai:af (λq=>q=S.st) w k.drew:=de (ac.trans B) E λq _ G=>G.elim;obtain⟨kH,a⟩:∃kH:cn,kH={S with first:=g,pending:=S.pending+1,keys:=L.length}:=⟨_,rfl⟩;have aj:g<=S.now:=by rw[o];split<;>omega
 have P:eZ k.drew kH pages L bm cj:=by
  rw[a];exact⟨⟨F,ah,hb.es,hb.kG,hb.gen,⟨H.1,aj,H.2.2⟩,hb.cc⟩,ok,cU,f,two,kv,rfl,by show S.pending+1<=1000;omega,λ_=>U,λhf=>by have hf:S.failed=true:=hf;rw[hl]at hf;cases hf⟩
 have Q:gw 0 S kH w k.drew:=by
  rw[a];exact⟨rfl,rfl,rfl,rfl,bu _,λh=>h,ai.mono λq _ e=>by rw[e];exact hb.G5,λq G=>.inl G,rfl,rfl,rfl⟩
 refine aL ⟨_,rfl,id,_,by rw[az];exact F.cell,_,rfl,id,_,by rw[az,az];exact F.cell,λm=>?_,λm=>?_⟩
 .have m:((S.pending+1:Nat):Int)>=(S.l.batch:Int):=bI m
  have R:=N7 P (by rw[a];exact hl) fc (by rw[a];exact W) (by rw[a];exact X) (by rw[a];exact Y);rw[show kH.st=S.st by rw[a]]at R;refine R.use ?_;intro v bk al;obtain⟨aW,r1,a_,di⟩:=al.x (c:=S.l.batch<=S.pending+1) J;obtain⟨n,rfl⟩:=di.val;refine⟨n,rfl,aW,(Q.trans r1).mono J,by rw[a_,a],.inr ?_⟩;rw[a]at di;exact di
 .have m:¬((S.pending+1:Nat):Int)>=(S.l.batch:Int):=ck m
  exact⟨kH,Q.mono J,by rw[a],.inl ⟨rfl,J,P,by rw[a];exact hl,by rw[a],by rw[a],by rw[a],by rw[a];exact o,λj _=>by rw[a];rfl⟩⟩
end
section
variable {w w' w1:I}{T aO:bM}{S aW og:cn}{pages bm:Y Nat}{L cj:Y cH}{k:Nat}
def cn.qZ(S:cn)(aO:bM):cn:={S with T:=aO}
theorem kF.to(h:kF w S bm cj)(ht:cS w' aO)(a:dA S.T aO w w' k)(f:aO.E=S.T.E)(l:aO.G=S.T.G)(hP:∀no,S.T.g no=true->aO.P no=S.T.P no):
 kF w' (S.qZ aO) bm cj/\gw k S (S.qZ aO) w w'/\(S.qZ aO).V=S.V:=by
 have aT:aO.C.D.bX=S.T.C.D.bX:=congrArg (λp=>p.1.1) a.bX;have a6:aO.C.D.cg.getD 3 0=S.T.C.D.cg.getD 3 0:=congrArg Prod.snd a.bX;have i:(S.qZ aO).V=S.V:=by
  funext j;show aO.C.D.bX.getD j []=S.T.C.D.bX.getD j [];rw[aT]
 refine⟨⟨?_,ht,by show aO.E S.st;rw[f];exact h.es,?_,a.gen.trans h.gen,h.num,λj b=>?_⟩,⟨rfl,a.d,a.n,rfl,a.bV,λe=>⟨λm=>a.calm m (e.1 _),a6.trans e.2⟩,a.ax.mono λq _ e=>h.pD e,a.dS,f,l,congrArg (λp=>p.1.2.2.2.2) a.bX⟩,i⟩
 .show Var w' S.st (jT aO.bK aO.C.D.d aO.C.c aO.sb _ _ _ _ _ _ _ _) _
  rw[a.bK,a.d,a.c,a.sb];exact h.v.ax a.ax (h.t.vr h.es)
 .show mz _ aO.n _ _ aO.g aO.P _ _
  rw[i,a.n,a.g];exact h.kG.agree (λ_ _=>rfl) λx hx=>(hP x ((h.kG.g x).2 (.inl hx))).symm
 .have b:aO.g j=true:=b
  rw[a.g]at b;show aO.C.D.cc j=true;rw[a.cc.1];exact h.cc j b
theorem dA.ro(h:dA T aO w w' k):aO.C.D.ro↔T.C.D.ro:=by unfold bz.ro;rw[h.cc.1]
end
section
variable {w w' w1:I}{T aO:bM}{S aW fL:cn}{pages bm:Y Nat}{L cj:Y cH}{k:Nat}
structure CK(S fL:cn):Prop where
 u:fL.u=S.u
 gen:fL.gen=S.gen
 now:fL.now=S.now
 first:fL.first=S.first
 pending:fL.pending=S.pending
 l:fL.l=S.l
 g:fL.T.g=S.T.g
 V:fL.V=S.V
theorem mA.back{c:Prop}{v:O}(h:mA c fL aW pages L bm cj v w')(e:CK S fL)(d:gw k S fL w w1):mA c S aW pages L bm cj v w':=by
 unfold mA at h⊢;rw[e.u,e.gen,e.now,e.g,e.V]at h;exact h.imp id λ⟨a,b,c⟩=>⟨a,λf=>b (d.q f),c⟩
theorem pE.back{v:O}(h:pE fL aW pages L bm cj v w')(e:CK S fL)(a:gw k S fL w w1):pE S aW pages L bm cj v w':=by
 unfold pE at h⊢;have:=λh=>mA.back (pages:=pages) (L:=L) (bm:=bm) (cj:=cj) (c:=S.l.batch<=S.pending+1) (v:=v) (aW:=aW) (w':=w') h e a;rw[e.pending,e.l,e.gen,e.u,e.now,e.first,e.g,e.V]at h;exact h.imp id this
theorem eZ.Oe{dz:bM}{fW:Y cH}{d:Int}(h:eZ w S pages L bm cj)(hf:S.failed=false)(m:cS w' dz)(b:dA S.T dz w w' k)(o:dz.E=S.T.E)(r:dz.G=S.T.G)(s:NA S.T dz pages fW)(U:2*S.T.bN+5<=c6 S.T)(t:∀p∈fW,hK p.1/\p.2.length<=24)(hd:(S.keys:Int)+d=fW.length)(fc:fW.length<4096)(V:S.keys<4096)(y:S.pending<1000)(W:S.T.C.D.bV+k<=800000000)(z:S.gen<=1000000000)(A:S.T.C.D.quiet):
 aA ae 333 #[.pointer (some S.st),d] w' (λv i=>(∃n:Int,v=n)/\∃aW gx,gw (k+100) S aW w i/\aW.now=S.now/\pE S aW gx fW bm cj v i):=by
 obtain⟨⟨gx,X,B,ie,F,H⟩,I⟩:=s;obtain⟨J,l,K⟩:=h.tokF.to m b o r λno M=>(I no M).1;have N:CK S (S.qZ dz):=⟨rfl,rfl,rfl,rfl,rfl,rfl,b.g,K⟩;obtain⟨O,P,_⟩:=h.live hf;have Q:∀j,j<2\/j=S.u.map->j∉pages:=λj c hm=>by
  have:=h.two j hm;rcases c with c|c
  .omega
  .exact this.2 c
 refine(Od (d:=d) J hf B ie (λno=>(H no).trans ?_) (λx hx=>?_) t ⟨λe=>O (b.ro.1 e),b.cc.2.trans P,by show 1<=c6 dz;omega⟩ hd y fc (by show S.keys<_;omega) (by have:=b.bV;show dz.C.D.bV<=_;omega) z (l.q A)).mono ?_
 .rw[h.f no]
  constructor
  .rintro(h1|⟨h1|h1,h2⟩)
   .exact .inl h1
   .exact absurd h1 h2
   .exact .inr h1
  .rintro(h1|h1)
   .exact .inl h1
   .exact .inr ⟨.inr h1,Q no h1⟩
 .rcases F x hx with h1|h1
  .exact h.two x h1
  .have h2:S.T.f x=false:=by cases hh:S.T.f x<;>simp_all
   refine⟨Nat.le_of_not_lt λhl=>?_,λR=>?_⟩
   .rw[(h.f x).2 (.inr (.inl hl))]at h2;cases h2
   .rw[(h.f x).2 (.inr (.inr R))]at h2;cases h2
 .rintro v i ⟨aW,r1,a_,di⟩
  refine⟨?_,aW,gx,l.trans r1,a_,di.back N l⟩;rcases di with ⟨a,_⟩|a
  .exact⟨0,a⟩
  .exact a.val
theorem u_(w:I)(s:ai):aA ae 329 #[s] w (λv w'=>v=.bool (decide (1<=s.len/\s.len<=24))/\w=w'):=by
 refine okF (Z.u_ s) ao.u_ func329 ?_;refine⟨?_,rfl⟩
 congr 1
 rw[hE,dM,dN,dN,dN];omega
end
section
variable {w w':I}{D:bz}{V:Nat->dw}{gen:Nat}{u:eX}{g:Nat->ah}{P:Nat->aw b6}{bm:Y Nat}{cj:Y cH}
theorem Of{c ba k:Nat}{a:Nat->Prop}(h:ep (λ_=>False) w (nc c ba k D))(d:∀q,a q->q<w.heap.size/\¬dx (nc c ba k D) q):ep a w (nc c ba k D):=
 ⟨h.raw,h.inv.pins,λf hf b=>(by
  have:=(List.mem_replicate.1 (show f∈List.replicate k dL from hf)).2
  rw[this]at b
  cases b),h.inv.un,d,h.inv.qU⟩
end
structure G8(D:bz)(l:dG)(cw:Nat->Prop)(k:Nat)(w w':I)(S:cn):Prop where
 live:S.failed=false
 sX:S.pending=0
 now:S.now=S.u.clock
 l:S.l=l
 d:S.T.C.D.d=D.d
 n:S.T.n=D.n
 q:S.T.C.D.quiet
 bV:S.T.C.D.bV<=D.bV+k
 M:∀q,S.T.M q->cm D q\/cw q\/w.heap.size<=q
 E:∀q,S.T.E q↔q=S.st\/cw q
 st:w.heap.size<=S.st
 r:S.T.C.D.r1=D.r1
 ax:af (cm D) w w'
section
variable {w w':I}{D:bz}{cw:Nat->Prop}
theorem Og{l:dG}(h:dj w D)(y:pC (l.ay:Nat) (l.batch:Nat) (l.iX:Nat))(M:∀k,D.calm k)(sR:D.cg.getD 3 0= -1)(N:D.bV<=999999000)(z:∀q,cw q->q<w.heap.size/\¬cm D q):
 aA ae 72 #[.pointer (some D.d),.agg l.c.toArray] w (λv w'=>∃S:cn,v=.tuple #[.pointer (some S.st),(0:Int)]/\eZ w' S [] [] [] []/\G8 D l cw 4 w w' S/\S.u=ld/\S.gen=1):=by
 have Y:=h.cx;have O:=h.bB;refine(mX h y M sR N).mono ?_;rintro v w' ⟨a8,sb,s1,s2,c,ba,bK,st,k7,R⟩;obtain rfl:=R.G3.val;have hd:=R.sE;have B:=R.G3;have Z:=R.ax.size;have aa:=B.x.size;have ab:=B.hc;have ac:=B.hf;have ad:=B.ht;have af:=B.sv.lt;have E:∀j,a8.bX.getD j []=a8.now j:=λj=>by unfold bz.now;rw[hd.waits];rfl
 have m:∀q,dx (nc c ba l.ay a8) q->q=c\/q=ba\/cm a8 q:=λq h=>h;have G:∀q,cm a8 q->q<k7.heap.size:=λq b=>by
  rcases R.dq q b with h1|h1
  .have:=h.lt h1;omega
  .omega
 have P:a8.quiet:=⟨hd.calm,hd.cg⟩;obtain⟨T,a⟩:∃T:bM,T=⟨bK,1+1,0,0,nc c ba l.ay a8,sb,D.n,λi=>decide (i<3),λi=>decide (i<3),s1,s2,λq=>q=st\/cw q,λ_=>False,λ_=>none⟩:=⟨_,rfl⟩;have Q:∀q,cw q->q<w.heap.size/\¬cm a8 q:=λq b=>⟨(z q b).1,λhf=>by
  rcases R.dq q hf with h1|h1
  .exact(z q b).2 h1
  .have:=(z q b).1;omega⟩
 have U:cS w' T:=by
  have H:ep T.X w' (nc c ba l.ay a8):=Of B.ca λq b=>by
   rw[a]at b;rcases b with h1|h1|h1|h1
   .have h1:q=bK:=h1
    refine⟨J,λhf=>?_⟩;rcases m q hf with h2|h2|h2
    .omega
    .omega
    .have:=G q h2;omega
   .have A:=R.vv q h1
    refine⟨J,λhf=>?_⟩;rcases m q hf with h2|h2|h2
    .omega
    .omega
    .have ag:=B.ca.raw.dev
     exact R.eu q h1 h2
   .rcases(show q=st\/cw q from h1) with h1|h1
    .refine⟨J,λhf=>?_⟩
     rcases m q hf with h2|h2|h2
     .omega
     .omega
     .have:=G q h2;omega
    .have A:=Q q h1
     refine⟨J,λhf=>?_⟩;rcases m q hf with h2|h2|h2
     .omega
     .omega
     .exact A.2 h2
   .exact h1.elim
  rw[a]at H⊢;refine⟨B.i_,R.sp,H,λhf=>by have:=R.vv bK hf;omega,λq b=>?_,λq b=>b.elim,hd.n,⟨by show 0<D.n;omega,(by decide:0<=12),(by decide:1+1<18446744073709551616)⟩,λno cU F=>(by cases F),λj f=>.inl ?_,⟨rfl,rfl⟩⟩
  .rcases(show q=st\/cw q from b) with h1|h1
   .exact⟨by show q≠bK;omega,λhf=>by have:=R.vv q hf;omega,λh=>h⟩
   .have A:=z q h1
    exact⟨by show q≠bK;omega,λhf=>by have:=R.vv q hf;omega,λh=>h⟩
  .have f:a8.cc j=true:=f
   rw[hd.cc]at f;exact f
 have I:pw ld D.n:=⟨Iff.intro (λ_=>rfl) (λ_=>rfl),by decide,by show 0<D.n;omega,by show 2<D.n;omega,by decide,O⟩;have K:pv ld:=⟨by decide,by decide,by decide,by decide,by decide,by decide⟩;have L:mz (λj=>a8.bX.getD j []) D.n 1 ld (λi=>decide (i<3)) (λ_=>none) [] []:=by
  refine⟨⟨3,J,rfl⟩,?_,.inl ?_,⟨1,bu _,?_⟩,λno=>?_,List.nodup_nil,λx hx=>(by cases hx),.inl ⟨rfl,rfl,rfl,rfl⟩,λx hx=>(by cases hx),rfl,λq b=>(by cases b),K,I,bu _⟩
  .show vn ((1:Nat):Int) (a8.bX.getD 1 [])=_
   rw[E,hd.now];exact Gg K I (by decide) (by decide)
  .show a8.bX.getD 0 []=iM
   rw[E,hd.now];rfl
  .show qN ((2:Nat):Int) (a8.bX.getD 2 [])=_
   rw[E,hd.now];exact zP J ⟨(by decide:1<=4),(by decide:4<=4),(by decide:1<18446744073709551616),by show(jy _ _).length<=232;rw[Af];omega⟩
  .show decide (no<3)=true↔no∈ []\/no<2\/no=2
   simp only[g1,false_or,dN];omega
 obtain⟨S,o⟩:∃S:cn,S=⟨st,T,l,ld,1,0,0,0,0,false⟩:=⟨_,rfl⟩;have V:1<=c6 T:=by
  have h1:=Ac (s:=λi=>decide (i<3)||decide (i<3)) (t:=dm (λi=>decide (i<3)||decide (i<3)) 3 true) (k:=3) (by simp) (by simp[dm]) (λi hi=>by simp[dm,hi]) (n:=D.n) J;have h2:=py (dm (λi=>decide (i<3)||decide (i<3)) 3 true) D.n;have A:c6 T=D.n-eY (λi=>decide (i<3)||decide (i<3)) D.n:=by rw[a];rfl
  omega
 refine⟨S,by rw[o],?_,?_,by rw[o],by rw[o]⟩
 .rw[o]
  refine⟨⟨?_,U,by rw[a];exact .inl rfl,by rw[a];exact L,by rw[a],⟨(by decide:0<18446744073709551616),bu _,bu _,(by decide:1+2<18446744073709551616),?_,?_,?_⟩,λj f=>?_⟩,.inl ?_,List.nodup_nil,?_,λx hx=>(by cases hx),λp F=>(by cases F),rfl,dC _,λ_=>⟨?_,by rw[a];exact hd.ek,V⟩,λhf=>(by cases hf)⟩
  .show Var w' st (jT T.bK T.C.D.d T.C.c T.sb _ _ _ _ _ _ _ _) _
   rw[a];exact B.sv
  .have:=y.2.2.2.1;show l.batch<=1000;omega
  .have:=y.2.2.2.2.2;show l.iX<=1048576;omega
  .have:=y.2.2.1;show 1<=l.batch;omega
  .have f:T.g j=true:=f
   show T.C.D.cc j=true;rw[a]at f⊢;show a8.cc j=true;rw[hd.cc];exact f
  .rw[a];exact⟨rfl,rfl,rfl,rfl⟩
  .intro no
   have hh:=L.g no;rw[a];exact hh
  .intro e
   have h1:a8.cc 5=true:=by have:=e 5;rw[a]at this;exact this
   rw[hd.cc]at h1;cases h1
 .rw[o]
  refine⟨rfl,rfl,rfl,rfl,by rw[a];exact hd.d,by rw[a],by rw[a];exact P,by rw[a];show a8.bV<=_;rw[hd.bV];omega,λq hm=>?_,λq=>by rw[a],by show w.heap.size<=st;omega,by rw[a];exact hd.r,de R.ax B.x λq _ h=>h.elim⟩;rw[a]at hm;have W:∀q,cm a8 q->cm D q\/cw q\/w.heap.size<=q:=λq b=>by
   rcases R.dq q b with h1|h1
   .exact .inl h1
   .exact .inr (.inr h1.1)
  rcases hm with h1|h1|h1|h1|h1
  .rcases m q h1 with h2|h2|h2
   .exact .inr (.inr J)
   .exact .inr (.inr J)
   .exact W q h2
  .have h1:q=bK:=h1
   exact .inr (.inr J)
  .exact .inr (.inr (R.vv q h1).1)
  .rcases(show q=st\/cw q from h1) with h1|h1
   .exact .inr (.inr J)
   .exact .inr (.inl h1)
  .exact h1.elim
end
section
variable {V:Nat->dw}{n gen:Nat}{u:eX}{g:Nat->ah}{P:Nat->aw b6}{bm:Y Nat}{cj:Y cH}
theorem mz.low(h:mz V n gen u g P bm cj):bm.length<=cj.length:=by
 rcases h.ok with ⟨_,_,h2,_⟩|h2
 .rw[h2];exact dC _
 .exact h2.pages.1
end
structure h6(w0 w:I)(cw:Nat->Prop)(d n:Nat)(l:dG)(S:cn)(pages:Y Nat)(L:Y cH)(bm:Y Nat)(cj:Y cH)(c:Nat):Prop where
 x:Ext w0 w
 at_:eZ w S pages L bm cj
 E:∀q,S.T.E q↔q=S.st\/cw q
 ne:¬cw S.st
 Ah:∀q,S.T.M q->w0.heap.size<=q
 lim:S.l=l
 d:S.T.C.D.d=d
 n:S.T.n=n
 bV:S.T.C.D.bV<=20000*(c+1)
 fU:L.length<=c/\cj.length<=c
 gen:S.gen<=c+1
 G9:S.pending<=c
 r:S.T.C.D.r1=true
section
variable {w0 w w':I}{cw:Nat->Prop}{d n gI k c:Nat}{l:dG}{S aW:cn}{pages bm:Y Nat}{L cj:Y cH}
theorem h6.vw(h:h6 w0 w cw d n l S pages L bm cj c){q:Nat}(a:cw q):S.T.E q/\q≠S.st:=⟨(h.E q).2 (.inr a),λe=>h.ne (e▸a)⟩
theorem h6.ext(h:h6 w0 w cw d n l S pages L bm cj c)(hx:Ext w w'):h6 w0 w' cw d n l S pages L bm cj c:={h with x:=h.x.trans hx,at_:=h.at_.ext hx}
theorem h6.jb{ng:Nat}(h:h6 w0 w cw d n l S pages L bm cj c)(a:cw ng)(hc:af (λq=>q=ng) w w'):h6 w0 w' cw d n l S pages L bm cj c:=
 {h with x:=Ext.dE h.x hc λq e=>by rw[e];exact h.Ah _ (.inr (.inr (.inr (.inl (h.vw a).1)))),at_:=h.at_.jb (h.vw a).1 (h.vw a).2 hc}
theorem h6.step{gx kI:Y Nat}{nf q0:Y cH}(h:h6 w0 w cw d n l S pages L bm cj c)(b:eZ w' aW gx nf kI q0)(hd:gw k S aW w w')(e:k<=20000)(hf:nf.length<=c+1/\q0.length<=c+1)(hg:aW.gen<=S.gen+1)(f:aW.pending<=S.pending+1):h6 w0 w' cw d n l aW gx nf kI q0 (c+1):=
 ⟨Ext.dE h.x hd.ax λq a=>h.Ah q a.1,b,λq=>by rw[hd.E,hd.st];exact h.E q,by rw[hd.st];exact h.ne,λq a=>by
  rcases hd.dS q a with h1|h1
  .exact h.Ah q h1
  .have:=h.x.size;omega,hd.l.trans h.lim,hd.d.trans h.d,hd.n.trans h.n,by have:=hd.bV;have:=h.bV;omega,hf,by have:=h.gen;omega,by have:=h.G9;omega,hd.r.trans h.r⟩
end
section
variable {w0 w w' w1 ag:I}{cw:Nat->Prop}{d n gI k c:Nat}{l:dG}{S aW:cn}{pages gx bm kI:Y Nat}{L nf cj q0:Y cH}{v:O}
theorem mA.Oh{c:Prop}(h:mA c S aW pages L bm cj v w')(a:S.T.C.D.quiet):v=.int .i64 0/\c/\eZ w' aW pages L pages L/\aW.failed=false/\aW.gen=S.gen+1/\aW.u.clock=S.now/\aW.u.dt=S.u.dt+1/\aW.pending=0:=by
 rcases h with h|⟨_,h,_⟩
 .exact h
 .exact absurd a h
end
section
variable {w0 w w' w1 ag:I}{cw cO:Nat->Prop}{d n gI k c i:Nat}{l:dG}{S aW:cn}{pages gx bm kI iW:Y Nat}{L nf cj q0 cF:Y cH}{v:O}{a8:bz}{ls:ai}
theorem eZ.grow(h:eZ w S pages L bm cj)(hx:Ext w w'){b:Nat->Prop}(c:∀q,b q->S.T.E q\/(w.heap.size<=q/\q<w'.heap.size))(d:b S.st):eZ w' (S.qZ (S.T.gh b S.T.G)) pages L bm cj:=by
 have ht:cS w' (S.T.gh b S.T.G):=h.t.grow (W:=λ_=>False) hx (λ_ e=>e.elim) (λq a=>(c q a).imp id .inr) (λq a=>.inr (.inl a)) λq a hg=>by
  rcases c q a with h1|h1
  .exact(h.t.gi q h1).2.2 hg
  .have:=h.t.lt (q:=q) (.inr (.inr (.inr (.inr hg))));omega
 exact⟨⟨h.v.ext hx,ht,d,h.kG,h.gen,h.num,h.cc⟩,h.ok,h.cU,h.f,h.two,h.kv,h.keys,h.sX,h.live,h.dead⟩
def cn.own(S:cn)(cO:Nat->Prop):cn:=S.qZ (S.T.gh (λq=>q=S.st\/cO q) S.T.G)
theorem cn.Oi{q:Nat}(b:∀q,S.T.E q↔q=S.st\/cw q)(h1:∀q,cO q->cw q\/k<=q)(a:(S.own cO).T.M q):S.T.M q\/k<=q:=by
 rcases a with a|a|a|a|a
 .exact .inl (.inl a)
 .exact .inl (.inr (.inl a))
 .exact .inl (.inr (.inr (.inl a)))
 .rcases(show q=S.st\/cO q from a) with h|h
  .exact .inl (.inr (.inr (.inr (.inl ((b q).2 (.inl h))))))
  .rcases h1 q h with h|h
   .exact .inl (.inr (.inr (.inr (.inl ((b q).2 (.inr h))))))
   .exact .inr h
 .exact .inl (.inr (.inr (.inr (.inr a))))
theorem h6.grow(h:h6 w0 w cw d n l S pages L bm cj c)(hx:Ext w w')(b:∀q,cO q->cw q\/(w.heap.size<=q/\q<w'.heap.size)):h6 w0 w' cO d n l (S.own cO) pages L bm cj c:=
 ⟨h.x.trans hx,h.at_.grow hx (λq a=>by
  rcases a with h1|h1
  .exact .inl ((h.E q).2 (.inl h1))
  .exact(b q h1).imp (λh2=>(h.E q).2 (.inr h2)) id) (.inl rfl),λq=>Iff.rfl,λe=>by
  have e:cO S.st:=e
  rcases b _ e with h1|h1
  .exact h.ne h1
  .have:=h.at_.t.lt (q:=S.st) (.inr (.inr (.inr (.inl h.at_.es))));omega,λq a=>by
  rcases cn.Oi h.E (λq a=>(b q a).imp id And.left) a with h1|h1
  .exact h.Ah q h1
  .have:=h.x.size;omega,h.lim,h.d,h.n,h.bV,h.fU,h.gen,h.G9,h.r⟩
end
section
variable {w0 w w' w1 ag:I}{cw cO:Nat->Prop}{d n gI k c i:Nat}{l:dG}{S aW:cn}{pages gx bm kI iW:Y Nat}{L nf cj q0 cF:Y cH}{v:O}{a8:bz}{ls:ai}
theorem Oj{q b k:Nat}(h:aN ⟨some b,k,k⟩ q):q=b:=by
 obtain⟨A,ar,rfl⟩:=h
 cases ar;rfl
theorem eZ.room(h:eZ w S pages L bm cj):S.T.n<=c6 S.T+pages.length+bm.length+3:=by
 have h1:=ND (t:=λi=>S.T.f i||S.T.g i) (l:=pages++bm++ [0,1,S.u.map]) S.T.n λi _ hi=>by
  simp only[l6]at hi;simp only[eL,c4,g1,hF];rcases hi with hi|hi
  .rcases(h.f i).1 hi with h2|h2|h2
   .exact .inl (.inl h2)
   .exact .inr J
   .exact .inr (.inr (.inr h2))
  .rcases(h.kG.g i).1 hi with h2|h2|h2
   .exact .inl (.inr h2)
   .exact .inr J
   .exact .inr (.inr (.inr h2))
 simp only[bW,d_,fE]at h1;unfold c6;omega
theorem h6.new{D:bz}(hx:Ext w0 w)(e:eZ w' S [] [] [] [])(a:G8 D l cw 4 w w' S)(hu:S.u=ld)(hg:S.gen=1)(b:∀q,cm D q->w0.heap.size<=q)(c:∀q,cw q->w0.heap.size<=q/\q<w.heap.size)(i:D.bV=0)(f:D.r1=true):h6 w0 w' cw D.d D.n l S [] [] [] [] 0:=
 ⟨Ext.dE hx a.ax b,e,a.E,λh=>by have:=(c _ h).2;have:=a.st;omega,λq g=>by
  rcases a.M q g with h1|h1|h1
  .exact b q h1
  .exact(c q h1).1
  .have:=hx.size;omega,a.l,a.d,a.n,by have:=a.bV;omega,⟨bu _,bu _⟩,J,by rw[a.sX];exact bu _,a.r.trans f⟩
end
section
variable {w0 w w' w1 ag:I}{cw cO:Nat->Prop}{d n gI k c i:Nat}{l:dG}{S aW:cn}{pages gx bm kI iW:Y Nat}{L nf cj q0 cF:Y cH}{v:O}{a8:bz}{ls:ai}
def CL(b:Nat):dG:=⟨8,1+b%12,1+b/16%12⟩
end
section
variable {w w':I}{f b d:Int}
theorem Ol{p:aw av}(h:p=none\/¬pC f b d):aA ae 72 #[.pointer p,.agg #[f,b,.int .u64 d]] w (λv w'=>v=.tuple #[.pointer none,(1:Int)]/\Ext w w'):=by
 refine okF (Z.mX p f b d) ao.mX func72 ?_;(delta Z.mX aZ aY aa bh dY di br ad bG gf bl eD gG c3 ak uf b7;dsimp only);refine aU (vs:=[f,b,.int .u64 d]) rfl λw1 a hx _=>⟨_,a.cell,_,by rw[az];exact a.cell,_,by rw[az];exact a.cell,(qx w1 p f b d).use ?_⟩;rintro _ aH ⟨rfl,c⟩;refine⟨_,rfl,λ_=>⟨rfl,hx.trans c⟩,λhb=>?_⟩;exfalso;rcases h with rfl|h
 .simp at hb
 .rw[hY h]at hb;simp at hb
end
section
variable {w:I}{ab st:Nat}{most:Int}
theorem sd{s:aw av}(w:I)(most:Int):aA ae 127 #[.pointer s,most] w (λv w'=>Ext w w'/\(((s=none\/most<1\/400<most)/\v=.tuple #[.pointer none,(1:Int)])\/((s≠none/\1<=most/\most<=400)/\v=.tuple #[.pointer (some w.heap.size),(0:Int)]/\Var w' w.heap.size [.pointer s,most] 305))):=by
 refine okF (Z.sd s most) ao.sd func127 ?_;delta Z.sd ad aa;refine⟨λh=>⟨.refl _ _,.inl ⟨?_,rfl⟩⟩,λh=>aU (vs:=[.pointer s,most]) rfl λw1 b hx _=>⟨hx,.inr ⟨?_,rfl,b⟩⟩⟩
 .cases s with
  |none=>exact .inl rfl
  |some a=>simp at h;exact .inr J
 .cases s with
  |none=>simp at h
  |some a=>simp at h;exact⟨by simp,J,J⟩
theorem CM(a:Var w ab [.pointer (some st),most] 305):aA ae 88 #[.pointer (some ab)] w (λv w'=>v=.pointer (some st)/\w=w'):=by
 refine okF (Z.x2 (some ab)) ao.x2 func88 ?_;(delta Z.x2 ad pt;dsimp only);exact⟨λh=>(by cases h),λ_=>⟨_,rfl,_,a.cell,rfl,rfl⟩⟩
theorem Om{S:cn}{pages bm:Y Nat}{L cj:Y cH}(a:Var w ab [.pointer (some S.st),most] 305)(h:eZ w S pages L bm cj):aA ae 322 #[.pointer (some ab)] w (λv w'=>v=L.length/\w=w'):=by
 refine okF (Z.y4 (some ab)) ao.y4 func322 ?_;(delta Z.y4 gH bG;dsimp only);refine(CM a).use ?_;rintro _ _ ⟨rfl,rfl⟩;refine⟨_,rfl,(N_ h).use ?_⟩;rintro _ _ ⟨rfl,rfl⟩;exact⟨_,rfl,by rw[h.keys],rfl⟩
theorem On{a:av}(s:Int)(p:bA)(w:I):aA ae 316 #[.pointer (some a),s,.agg p.c.toArray] w (λv w'=>Ext w w'/\((kc s p=false/\v=.tuple #[(),false])\/(kc s p=true/\∃t:ai,v=.tuple #[t,true]/\aR 1 5 w' t (au (pq s.toNat p))/\∀q,aN t q->w.heap.size<=q))):=by
 refine Z.KG (some a) s _ w _ ?_;(delta Z.u9 ad aa mh;dsimp only);refine aU (vs:=p.c) rfl λw1 e b i=>⟨λh=>(by cases h),λ_=>⟨p.c,e.rd (bA.aM _),(nZ s p w1).use ?_⟩⟩;rintro _ j ⟨d,⟨hg,rfl⟩|⟨hg,t,rfl,f,hf⟩⟩
 .exact⟨⟨none,0,0⟩,false,rfl,b.trans d,.inl ⟨hg,rfl⟩⟩
 .exact⟨t,true,rfl,b.trans d,.inr ⟨hg,t,rfl,f,λq g=>cB b.size (hf q g)⟩⟩
end
def bT.kv(t:bT):cH:=(pq t.s.toNat t.p,vk t.b.toNat t.u)
section
variable {T:Y bT}{s:Int}{p:bA}
end
theorem Oo{k:Nat}{p:bA}:hK (pq k p):=by
 have h:=Mi k p;have h2:=LG p.addr;unfold hK;omega
theorem ni(k:Nat):bp k 2=[UInt8.ofNat (k/256%256),UInt8.ofNat (k%256)]:=by
 simp[bp,List.range_succ]
section
variable {T A B:Y bT}{t x:bT}{i m now:Nat}{fr:Key}
def G_(T:Y bT):Prop:=T.Pairwise λa b=>dZ a.kv.1 b.kv.1
theorem Oq:m6 (T.map bT.kv)↔G_ T:=List.pairwise_map
end
def bT.ok(t:bT):Prop:=t.cP=true/\t.u<18446744073709551616
theorem bT.ok.k{t:bT}(h:t.ok):kc t.s t.p=true:=by have:=h.1;unfold bT.cP at this;rw[dM]at this;exact this.1
theorem bT.ok.b{t:bT}(h:t.ok):n_ t.b=true:=by have:=h.1;unfold bT.cP at this;rw[dM]at this;exact this.2
def sZ(S:cn)(cA:Y bT)(aW:cn)(iu:Y bT):Prop:=(aW.u.dt=S.u.dt/\iu=cA)\/S.u.dt<aW.u.dt
theorem sZ.trans{S aW c:cn}{cA iu d:Y bT}(h:sZ S cA aW iu)(e:sZ aW iu c d):sZ S cA c d:=by
 rcases h with ⟨a,rfl⟩|a<;>rcases e with ⟨b,rfl⟩|b
 .exact .inl ⟨b.trans a,rfl⟩
 .exact .inr J
 .exact .inr J
 .exact .inr J
structure gj(w0 w:I)(cw:Nat->Prop)(d n:Nat)(l:dG)(ab most:Nat)(S:cn)(pages bm:Y Nat)(T cA:Y bT)(c:Nat):Prop where
 s:h6 w0 w cw d n l S pages (T.map bT.kv) bm (cA.map bT.kv) c
 live:S.failed=false
 q:S.T.C.D.quiet
 vx:cw ab
 v:Var w ab [.pointer (some S.st),most] 305
 ok:∀t∈T,t.ok
 Ha:∀t∈cA,t.ok
 Ai:S.pending<l.batch
 Ot:S.pending=0->T=cA
 fU:T.length<=most/\cA.length<=most
 Aj:1<=most/\most<=400
 aX:n=4*most+64
 Ou:G_ T
section
variable {w0 w w':I}{cw:Nat->Prop}{d n ab most k c:Nat}{l:dG}{S aW:cn}{pages gx bm kI:Y Nat}{T aO cA iu:Y bT}{tk i_:ai}{key:Key}{v:O}{s:Int}{p:bA}
theorem gj.ext(h:gj w0 w cw d n l ab most S pages bm T cA c)(hx:Ext w w'):gj w0 w' cw d n l ab most S pages bm T cA c:={h with s:=h.s.ext hx,v:=h.v.ext hx}
theorem gj.room(h:gj w0 w cw d n l ab most S pages bm T cA c):sY S≠0:=by
 have h1:=h.fU;have e:=h.s.at_.room;have a:=h.s.at_.ok.low (by rw[eM];have:=h.Aj;omega);have b:=h.s.at_.kG.low;have f:=h.s.n;have g:=h.aX;rw[eM]at a b;unfold sY;omega
theorem gj.step(h:gj w0 w cw d n l ab most S pages bm T cA c)(a:eZ w' aW gx (aO.map bT.kv) kI (iu.map bT.kv))(hd:gw k S aW w w')(g:k<=20000)(hl:aO.length<=T.length+1)(b:iu=cA\/iu=aO)(hm:aO.length<=most)(hg:aW.gen<=S.gen+1)(i:aW.pending<=S.pending+1)(hf:aW.failed=false)(e:∀t∈aO,t.ok)(j:aW.pending<l.batch)(m:aW.pending=0->aO=iu):
 gj w0 w' cw d n l ab most aW gx kI aO iu (c+1):=by
 have o:=h.s.fU;rw[eM,eM]at o;have f:=h.s.vw h.vx;have p:iu.length<=c+1/\iu.length<=most:=by
  have:=h.fU;rcases b with rfl|rfl<;>omega
 refine⟨h.s.step a hd g (by rw[eM,eM];omega) hg i,hf,hd.q h.q,h.vx,?_,e,?_,j,m,⟨hm,p.2⟩,h.Aj,h.aX,Oq.1 (a.ok.rising)⟩
 .rw[hd.st]
  exact h.v.ax hd.ax λr=>f.2 (r.2 f.1)
 .rcases b with rfl|rfl
  .exact h.Ha
  .exact e
def oh(w0:I)(cw:Nat->Prop)(d n:Nat)(l:dG)(ab most:Nat)(S:cn)(cA aO:Y bT)(w:I)(c:Nat)(w':I):Prop:=
 ∃ (k:Nat) (aW:cn) (gx kI:Y Nat) (iu:Y bT),gj w0 w' cw d n l ab most aW gx kI aO iu c/\gw k S aW w w'/\aW.now=S.now/\sZ S cA aW iu
theorem gj.more(h:gj w0 w cw d n l ab most S pages bm T cA c)(hm:pE S aW gx (aO.map bT.kv) bm (cA.map bT.kv) v w')(hd:gw k S aW w w')(b:aW.now=S.now)(f:k<=20000)(hl:aO.length<=T.length+1)(g:aO.length<=most)(i:∀t∈aO,t.ok):
 v=.int .i64 0/\oh w0 cw d n l ab most S cA aO w (c+1) w':=by
 have hb:=h.s.at_.num.2.2.2.2.2.2;have j:=h.s.lim;rcases hm with ⟨rfl,h1,a,hf,hg,hu,m,_⟩|hm
 .exact⟨rfl,k,aW,gx,bm,cA,h.step a hd f hl (.inl rfl) g J J hf i (by rw[←j];omega) (λe=>J),hd,b,.inl ⟨by rw[hu],rfl⟩⟩
 .obtain⟨rfl,_,a,hf,hg,_,o,m⟩:=hm.Oh h.q
  exact⟨rfl,k,aW,gx,gx,aO,h.step a hd f hl (.inr rfl) g J J hf i (by rw[←j];omega) (λ_=>rfl),hd,b,.inr J⟩
end
section
variable {w0 w w' w1:I}{cw:Nat->Prop}{d n ab most k c q:Nat}{l:dG}{S aW kH:cn}{pages gx bm kI:Y Nat}{T aO cA iu Ak:Y bT}{tk i_:ai}{key:Key}{v:O}{s:Int}{p:bA}{vs:Y O}
theorem oh.cat(hd:gw k S kH w w1)(a:kH.now=S.now)(hg:sZ S cA kH Ak)(h:oh w0 cw d n l ab most kH Ak aO w1 c w'):oh w0 cw d n l ab most S cA aO w c w':=by
 obtain⟨b1,fL,eo,fH,dz,h2,d2,bB,bf⟩:=h;exact⟨k+b1,fL,eo,fH,dz,h2,hd.trans d2,bB.trans a,hg.trans bf⟩
theorem oh.pre(hx:Ext w w1)(h:oh w0 cw d n l ab most S cA aO w1 c w'):oh w0 cw d n l ab most S cA aO w c w':=oh.cat (.ext S hx) rfl (.inl ⟨rfl,rfl⟩) h
theorem Ov(a:Var w q vs 402)(b:vs.length=21)(t:bT){K:Y O->I->Prop}(f:∀w',af (λx=>x=q) w w'->K t.c w'):bE w q (Array.toList t.c.toArray)/\Array.size t.c.toArray=21/\aq (setCells w q 0 (Array.toList t.c.toArray)) λd=>∃e:Y O,aG d q 0 21=some e/\K e d:=
 ⟨a.cl (by simp[bT.aM,b]) (bT.plain t),by simp[bT.aM],cY a (us:=t.c) (by simp[bT.aM,b]) rfl λw' g h _=>⟨t.c,g.rd (bT.aM t),f w' h⟩⟩
end
section
variable {B:Nat->Prop}{w w':I}{s:ai}{T:Y bT}{t:bT}{gI i:Nat}{most:Int}{fr:Key}
theorem aR.block{sz q:Nat}{iO:TypeId}{vs:Y O}(h:aR sz iO w s vs)(a:aN s q):∃c,a7 w q c iO:=by
 obtain⟨A,ar,rfl⟩:=a;rcases h.2.2.2 with ⟨d,_⟩|⟨b,c,hb,e,_⟩
 .rw[d]at ar;cases ar
 .rw[hb]at ar;cases ar
  exact⟨c,e⟩
end
section
variable {w0 w w' w1:I}{cw cO:Nat->Prop}{d n ab gI most k c q:Nat}{l:dG}{S aW kH:cn}{pages gx bm kI:Y Nat}{T aO cA iu Ak:Y bT}{s:ai}
theorem gj.grow(h:gj w0 w cw d n l ab most S pages bm T cA c)(hx:Ext w w')(a:∀q,cO q->cw q\/(w.heap.size<=q/\q<w'.heap.size))(b:cO ab):gj w0 w' cO d n l ab most (S.own cO) pages bm T cA c:=
 ⟨h.s.grow hx a,h.live,h.q,b,h.v.ext hx,h.ok,h.Ha,h.Ai,h.Ot,h.fU,h.Aj,h.aX,h.Ou⟩
theorem gj.jb(h:gj w0 w cw d n l ab most S pages bm T cA c)(a:cw q)(b:ab≠q)(hc:af (λx=>x=q) w w'):gj w0 w' cw d n l ab most S pages bm T cA c:={h with s:=h.s.jb a hc,v:=h.v.ax hc b}
end
section
variable {w0 w w' w1:I}{cw cO:Nat->Prop}{d n ab gI b most ka k c q i a m now:Nat}{l:dG}{S aW kH:cn}{pages gx bm kI:Y Nat}{T aO cA iu Ak RB Q:Y bT}{s t sl:ai}{fr RC:Key}{iO:TypeId}{st:bT->ah}
theorem nY{p:av}(b:1<=ka/\ka<=64)(w:I):aA ae 199 #[.pointer (some p),ka] w (λv w'=>v=.tuple #[.pointer (some w.heap.size),(0:Int)]/\Ext w w'/\Var w' w.heap.size [.pointer (some p),(),ka] 386):=by
 refine okF (Z.nY (some p) (ka:Nat)) ao.nY func199 ?_;delta Z.nY ad aa;refine⟨λh=>?_,λ_=>aU (vs:=[.pointer (some p),(),ka]) rfl λw1 a hx _=>⟨rfl,hx,a⟩⟩;rw[hY J,hY J]at h;cases h
theorem Ow{p:aw av}{m:Int}(h:((Option.isNone p||decide (m<1))||decide (m>64))=true)(w:I):aA ae 199 #[.pointer p,m] w (λv w'=>v=.tuple #[.pointer none,(1:Int)]/\w=w'):=by
 refine okF (Z.nY p m) ao.nY func199 ?_;delta Z.nY ad aa;exact⟨λ_=>⟨rfl,rfl⟩,λhb=>by rw[h]at hb;cases hb⟩
def lW(gI b:Nat)(w w':I):Prop:=∀P:I->Prop,P w->(∀u a,P u->(af (λq=>q=gI) u a\/af (λq=>q=b) u a)->P a)->P w'
theorem lW.one(hc:af (λq=>q=gI) w w'):lW gI b w w':=λ_ h k=>k _ _ h (.inl hc)
theorem lW.two(hc:af (λq=>q=b) w w'):lW gI b w w':=λ_ h k=>k _ _ h (.inr hc)
theorem lW.trans(h1:lW gI b w w1)(h2:lW gI b w1 w'):lW gI b w w':=λP h k=>h2 P (h1 P h k) k
end
def lf(s:Nat×ah)(c:UInt8):Nat×ah:=(s.1+(if s.2 then c.toNat else c.toNat*256), !s.2)
def gX(s:Nat×ah)(l:Y UInt8):Nat×ah:=l.foldl lf s
theorem Al:∀ (l:Y UInt8) (s:Nat×ah),(gX s l).1<=s.1+65280*l.length
 | [],_=>Nat.le_add_right _ _
 |c::l,s=>by
  have h:=Al l (lf s c)
  have hc:=c.toNat_lt
  have e:gX s (c::l)=gX (lf s c) l:=rfl
  rw[e,d_]
  have h2:(lf s c).1<=s.1+65280:=by
   unfold lf;split<;>simp only<;>omega
  omega
theorem Hb(s:Nat×ah)(l r:Y UInt8):gX s (l++r)=gX (gX s l) r:=vT ..
theorem Ox(s:Nat×ah)(l:Y UInt8)(c:UInt8):gX s (l++ [c])=lf (gX s l) c:=by rw[Hb];rfl
def ew(n:Nat):Nat:=if n<=65535 then n else ew (n%65536+n/65536)
termination_by n
decreasing_by omega
theorem nj{n:Nat}(h:n<=65535):ew n=n:=by rw[ew,if_pos h]
theorem s0{n:Nat}(h:65535<n):ew (n%65536+n/65536)=ew n:=by
 conv=>rhs;rw[ew,if_neg J]
theorem pF(n:Nat):ew n<=65535:=by
 induction n using Nat.strongRecOn with
 |_ n a=>
  rw[ew];split
  .assumption
  .exact a _ J
def lX(l:Y UInt8):Nat:=65535^^^ew (gX (0,false) l).1
def om(n:Nat)(c:UInt8):Nat:=((n^^^c.toNat)*1099511628211)%18446744073709551616
def vy(n:Nat):Nat:=((n^^^(n/8589934592))*18397679294719823053)%18446744073709551616
def CN(n:Nat):Nat:=vy n^^^(vy n/8589934592)
def q1(gB:Nat)(l:Y UInt8):Nat:=CN (l.foldl om (14695981039346656037^^^gB))
theorem Oy:q1 1 [0,2]=16824252002199258834:=by decide+kernel
theorem Oz:q1 1 [0,0,0,0,0]=14921627313678984130:=by decide+kernel
def jz(i:Nat):Nat:=(42+i*173)%251
theorem OA(i:Nat):(jz i+173)%251=jz (i+1):=by unfold jz;omega
theorem OB:∀i,i<251->∀j,j<i->jz j≠jz i:=by
 intro i hi j a e;unfold jz at e;have h:∀d,d<251->0<d->d*173%251≠0:=by decide+kernel
 refine h (i-j) J J ?_;have a6:i*173=j*173+(i-j)*173:=by rw[←km];congr 1;omega
 omega
theorem OC:∀q,q<251->∃i,i<251/\jz i=q:=by decide+kernel
theorem Am{a b:Nat}(c:a<65536)(hb:b<65536):fj .u16 (a:Int) (b:Int)=((a^^^b:Nat):Int):=by
 unfold fj;show IntKind.u16.wrap (((BitVec.ofInt 16 (a:Int)^^^BitVec.ofInt 16 (b:Int)).toNat:Nat):Int)=_;rw[show BitVec.ofInt 16 (a:Int)=BitVec.ofNat 16 a by simp,show BitVec.ofInt 16 (b:Int)=BitVec.ofNat 16 b by simp,BitVec.toNat_xor,BitVec.toNat_ofNat,BitVec.toNat_ofNat,hW (by simpa using c),hW (by simpa using hb)];have:a^^^b<65536:=rp (n:=16) c hb;show((a^^^b:Nat):Int)%65536=_;omega
section
variable {w w' w1:I}{s:ai}{l:Y UInt8}{x i n:Nat}{oo:ah}
theorem OD(t:Var w x [.int .u64 (n:Nat),oo] 335)(h:Src 1 w s (au l))(hx:∀q,aN s q->q≠x)(F:n+65280*l.length<18446744073709551616)(hl:l.length<=1000000):
 aA ae 181 #[.pointer (some x),s] w (λv w'=>v=.tuple #[]/\Var w' x [.int .u64 ((gX (n,oo) l).1:Nat),.bool (gX (n,oo) l).2] 335/\af (λq=>q=x) w w'):=by
 have G:=len8 h;refine okF (Z.yo (some x) s) ao.yo func181 ?_;(delta Z.yo c3 ad bc cd bS bn pt bq di st ak;dsimp only);refine⟨λk w'=>∃i:Nat,k=(i:Int)/\i<=l.length/\Var w' x [.int .u64 ((gX (n,oo) (l.take i)).1:Nat),.bool (gX (n,oo) (l.take i)).2] 335/\af (λq=>q=x) w w',λk _=>((l.length:Int)-k).toNat,⟨0,rfl,dC _,t,.refl _ _⟩,?_⟩;rintro _ aC ⟨i,rfl,hi,a,d⟩;refine⟨λaK=>?_,λj=>?_⟩
 rotate_left
 .have j:=ck j
  obtain rfl:i=l.length:=by omega
  rw[jg]at a;exact⟨rfl,a,d⟩
 have e:i<l.length:=by have:=bI aK;omega
 obtain⟨A,ar,hb,hc⟩:=od (h.ax d hx) e;have H:=l[i].toNat_lt;have f:=Al (l.take i) (n,oo);rw[fP]at f;have u:l.take (i+1)=l.take i++ [l[i]]:=kR e;obtain⟨S,o⟩:∃S,S=gX (n,oo) (l.take i):=⟨_,rfl⟩;have y:gX (n,oo) (l.take (i+1))=lf S l[i]:=by rw[u,Ox,o]
 rw[←o]at a f;have I:S.1+65280<18446744073709551616:=by simp only at f;omega
 refine⟨A,ar,hb,_,hc,bL (λm w'=>m=(((if S.2 then l[i].toNat else l[i].toNat*256):Nat):Int)/\aC=w') (λk p=>⟨_,rfl,_,by rw[az];exact a.cell,λb=>⟨by decide,p _ _ ⟨?_,rfl⟩⟩,λb=>p _ _ ⟨?_,rfl⟩⟩) ?_⟩
 .have b:S.2=false:=by simpa using b
  rw[b,if_neg (by decide),c2 (n:=(l[i].toNat:Int)) J J];show IntKind.wrap .u64 ((l[i].toNat:Int)*256)=_;rw[c2 J J];omega
 .have b:S.2=true:=by simpa using b
  rw[b,if_pos rfl,c2 J J]
 rintro _ _ ⟨rfl,rfl⟩;obtain⟨D,g⟩:∃D:Nat,D=if S.2 then l[i].toNat else l[i].toNat*256:=⟨_,rfl⟩
 rw[←g];have K:D<=65280:=by rw[g];split<;>omega
 obtain⟨bU,b1⟩:=e9 a (i:=0) (by show 0<2;decide);refine⟨_,rfl,_,a.cell,_,rfl,bU,b1,aL ?_⟩;rw[c2 (n:=(S.1:Int)+(D:Int)) J J];have c:=e8 a (i:=0) (.int .u64 ((S.1:Int)+(D:Int)));have r:=eg aC x 0 (.int .u64 ((S.1:Int)+(D:Int)));generalize aC.setCell x (.int .u64 ((S.1:Int)+(D:Int)))=aH at c r;obtain⟨z,B⟩:=e9 c (i:=1) (by show 1<2;decide);refine⟨_,rfl,S.2,by rw[az];exact c.cell,_,rfl,by rw[az,b3];exact z,by rw[az,b3];exact B,aL ?_⟩;rw[az,b3,nh J];have C:=e8 c (i:=1) (.bool (!S.2));have E:=eg aH x 1 (.bool (!S.2));refine⟨⟨i+1,rfl,e,?_,(d.trans r).trans E⟩,by show((l.length:Int)-((i+1:Nat):Int)).toNat<((l.length:Int)-(i:Nat)).toNat;omega⟩;rw[y];have aT:(lf S l[i]).1=S.1+D:=by rw[g];rfl
 have a6:(lf S l[i]).2= !S.2:=rfl;rw[aT,a6,Int.natCast_add];exact C
theorem qC(d:n<18446744073709551616)(w:I):aA ae 182 #[.int .u64 (n:Nat)] w (λv w'=>v=.int .u16 (ew n:Nat)/\w=w'):=by
 refine okF (Z.qC (n:Nat)) ao.qC func182 ?_;(delta Z.qC c3 ad;dsimp only);refine⟨λk w'=>∃m:Nat,k=(m:Int)/\m<18446744073709551616/\ew m=ew n/\w=w',λk _=>k.toNat,⟨n,rfl,d,rfl,rfl⟩,?_⟩;rintro _ _ ⟨m,rfl,hm,he,rfl⟩;refine⟨λaK=>?_,λc=>?_⟩
 .have aK:65535<m:=by have:=bI aK;omega
  have aT:dI .u64 (m:Int) 65535=((m%65536:Nat):Int):=by
   have h:=E5 (a:=m) (b:=65535) hm (by decide);rw[show m&&&65535=m%65536 from Nat.and_two_pow_sub_one_eq_mod m 16]at h;exact h
  have a6:Int.fdiv (m:Int) (2^(min (Int.toNat 16) 64))=((m/65536:Nat):Int):=by
   rw[nA _ (by decide)];show(m:Int)/65536=_;omega
  rw[aT,a6,c2 J J];exact⟨by decide,⟨m%65536+m/65536,J,J,(s0 aK).trans he,rfl⟩,by show(((m%65536:Nat):Int)+((m/65536:Nat):Int)).toNat<(m:Int).toNat;omega⟩
 .have c:m<=65535:=by have:=ck c;omega
  rw[←he,nj c];refine⟨?_,rfl⟩;have:IntKind.wrap .u16 (m:Int)=(m:Int):=by simp[IntKind.wrap,IntKind.signed,IntKind.bits];omega
  rw[this]
theorem o7{ps:Y (ai×Y UInt8)}(j:Src 1 w s (ps.map λp=>dW p.1))(t:∀p∈ps,Src 1 w p.1 (au p.2))(hb:∀q,aN s q->q<w.heap.size)(u:∀p∈ps,∀q,aN p.1 q->q<w.heap.size)(hl:(ct ps).length<=100000)(I:ps.length<=100000):
 aA ae 112 #[s] w (λv w'=>v=.int .u16 (lX (ct ps):Nat)/\Ext w w'):=by
 refine okF (Z.o7 s) ao.o7 func112 ?_;(delta Z.o7 aZ c3 ad bc cd a_ bn dc aa ak xs di fI;dsimp only);have K:s.len=ps.length:=by have:=j.len;rw[eM]at this;omega
 refine aU (vs:=[.int .u64 ((0:Nat):Int),false]) rfl λw1 x y L=>?_;have l:∀i,(ct (ps.take i)).length<=(ct ps).length:=λi=>by
  have e:ct ps=ct (ps.take i)++ct (ps.drop i):=by
   unfold ct;rw[←vV,←fv,kn]
  rw[e,bW];omega
 refine⟨λk w'=>∃i:Nat,k=(i:Int)/\i<=ps.length/\Var w' w.heap.size [.int .u64 ((gX (0,false) (ct (ps.take i))).1:Nat),.bool (gX (0,false) (ct (ps.take i))).2] 335/\af (λq=>q=w.heap.size) w1 w',λk _=>((ps.length:Int)-k).toNat,⟨0,rfl,dC _,x,.refl _ _⟩,?_⟩;rintro _ aH ⟨i,rfl,hi,c,m⟩;have g:Ext w aH:=Ext.bR y m (bu _);refine⟨λaK=>?_,λz=>?_⟩
 .have d:i<ps.length:=by have:=bI aK;omega
  obtain⟨a,A,B,C⟩:=(j.ext g).at (i:=i) (v:=dW ps[i].1) (by simp[d]);have hm:=dD d;have f:=Al (ct (ps.take i)) (0,false);have M:=l i;have D:=l (i+1);have o:ct (ps.take (i+1))=ct (ps.take i)++ps[i].2:=by
   rw[kR d,zQ]
  rw[o,bW]at D;obtain⟨S,r⟩:∃S,S=gX (0,false) (ct (ps.take i)):=⟨_,rfl⟩;have E:gX (0,false) (ct (ps.take (i+1)))=gX S ps[i].2:=by rw[o,Hb,r]
  rw[←r]at c f;refine⟨a,A,B,ps[i].1,C,(OD (n:=S.1) (oo:=S.2) c ((t _ hm).ext g) (λq F e=>by have:=u _ hm q F;omega) (by simp only at f;omega) J).use ?_⟩;rintro _ aJ ⟨rfl,G,H⟩;rw[nh J];exact⟨rfl,⟨i+1,rfl,d,by rw[E];exact G,m.trans H⟩,by show((ps.length:Int)-((i+1:Nat):Int)).toNat<((ps.length:Int)-(i:Nat)).toNat;omega⟩
 .obtain rfl:i=ps.length:=by have:=ck z;omega
  rw[jg]at c;have f:=Al (ct ps) (0,false);simp only at f;refine⟨_,rfl,_,c.cell,(qC J aH).use ?_⟩;rintro _ _ ⟨rfl,rfl⟩;refine⟨_,rfl,?_,g⟩;have h:=Am (a:=65535) (b:=ew (gX (0,false) (ct ps)).1) (by decide) (by have:=pF (gX (0,false) (ct ps)).1;omega);show Value.int .u16 (fj .u16 65535 _)=_;rw[show(65535:Int)=((65535:Nat):Int) from rfl,h];rfl
theorem o5{ps:Y (ai×Y UInt8)}(a:Src 1 w s (ps.map λp=>dW p.1))(b:∀p∈ps,Src 1 w p.1 (au p.2))(hb:∀q,aN s q->q<w.heap.size)(c:∀p∈ps,∀q,aN p.1 q->q<w.heap.size)(hl:(ct ps).length<=100000)(d:ps.length<=100000):
 aA ae 64 #[s] w (λv w'=>v=.bool (lX (ct ps)==0)/\Ext w w'):=by
 refine okF (Z.o5 s) ao.o5 func64 ?_;(delta Z.o5 fI;dsimp only);refine(o7 a b hb c hl d).use ?_;rintro _ w1 ⟨rfl,hx⟩;refine⟨_,rfl,?_,hx⟩
 congr 1
 rw[hE,jY,jY];omega
end
theorem An{a b:Nat}(c:a<18446744073709551616)(hb:b<18446744073709551616):fj .u64 (a:Int) (b:Int)=((a^^^b:Nat):Int):=by
 unfold fj;show IntKind.u64.wrap (((BitVec.ofInt 64 (a:Int)^^^BitVec.ofInt 64 (b:Int)).toNat:Nat):Int)=_;rw[show BitVec.ofInt 64 (a:Int)=BitVec.ofNat 64 a by simp,show BitVec.ofInt 64 (b:Int)=BitVec.ofNat 64 b by simp,BitVec.toNat_xor,BitVec.toNat_ofNat,BitVec.toNat_ofNat,hW (by simpa using c),hW (by simpa using hb)];have:a^^^b<18446744073709551616:=rp (n:=64) c hb;show((a^^^b:Nat):Int)%18446744073709551616=_;omega
theorem OE(n:Nat)(c:UInt8):om n c<18446744073709551616:=ib _ (by decide)
theorem OF(n:Nat):vy n<18446744073709551616:=ib _ (by decide)
theorem Ao:∀ {n:Nat},n<18446744073709551616->∀l:Y UInt8,l.foldl om n<18446744073709551616
 |_,a,[]=>a
 |_,_,_::l=>Ao (OE _ _) l
theorem Hc(x k m:Nat):((x:Int)*(k:Int))%(m:Int)=((x*k%m:Nat):Int):=by rw[Int.natCast_emod,Int.natCast_mul]
theorem Hd(n:Nat):Int.fdiv (n:Int) (2^(min (Int.toNat 33) 64))=((n/8589934592:Nat):Int):=by
 rw[nA _ (by decide)];show(n:Int)/8589934592=_;omega
theorem OG{S:Nat}(h:S<18446744073709551616):fj .u64 (IntKind.wrap .u64 ((fj .u64 (S:Int) (Int.fdiv (S:Int) (2^(min (Int.toNat 33) 64))))*18397679294719823053)) (Int.fdiv (IntKind.wrap .u64 ((fj .u64 (S:Int) (Int.fdiv (S:Int) (2^(min (Int.toNat 33) 64))))*18397679294719823053)) (2^(min (Int.toNat 33) 64)))=((CN S:Nat):Int):=by
 have e:IntKind.wrap .u64 ((fj .u64 (S:Int) (Int.fdiv (S:Int) (2^(min (Int.toNat 33) 64))))*18397679294719823053)=((vy S:Nat):Int):=by
  rw[Hd,An (b:=S/8589934592) h J,Eo];exact Hc _ 18397679294719823053 18446744073709551616
 have h2:=OF S;rw[e,Hd,An (b:=vy S/8589934592) h2 J];unfold CN;exact Eq.refl _
theorem OH{T:Nat}{c:UInt8}(h:T<18446744073709551616):IntKind.wrap .u64 ((fj .u64 (T:Int) (IntKind.wrap .u64 (c.toNat:Nat)))*1099511628211)=((om T c:Nat):Int):=by
 have hc:=c.toNat_lt;rw[c2 (n:=(c.toNat:Int)) J J,An h J,Eo];exact Hc _ 1099511628211 18446744073709551616
section
variable {w w' w1:I}{s:ai}{l:Y UInt8}{x i n gB:Nat}
theorem qG{ps:Y (ai×Y UInt8)}(q:Src 1 w s (ps.map λp=>dW p.1))(r:∀p∈ps,Src 1 w p.1 (au p.2))(hl:(ct ps).length<=100000)(F:ps.length<=100000)(t:gB<18446744073709551616):
 aA ae 375 #[.int .u64 (gB:Nat),s] w (λv w'=>v=.int .u64 (q1 gB (ct ps):Nat)/\w=w'):=by
 refine okF (Z.qG (gB:Nat) s) ao.qG func375 ?_;(delta Z.qG eT ad bc cd a_ bn bS ak;dsimp only);have G:s.len=ps.length:=by have:=q.len;rw[eM]at this;omega
 have h0:=An (a:=14695981039346656037) (b:=gB) (by decide) t;have d:14695981039346656037^^^gB<18446744073709551616:=rp (n:=64) (by decide) t;rw[show(14695981039346656037:Int)=((14695981039346656037:Nat):Int) from rfl,h0];obtain⟨B,u⟩:∃B,B=14695981039346656037^^^gB:=⟨_,rfl⟩;rw[←u]at d⊢;refine⟨λm k w'=>∃i:Nat,k=(i:Int)/\i<=ps.length/\m=(((ct (ps.take i)).foldl om B:Nat):Int)/\w=w',λ_ k _=>((ps.length:Int)-k).toNat,⟨0,rfl,dC _,rfl,rfl⟩,?_⟩;rintro _ _ _ ⟨i,rfl,hi,rfl,rfl⟩;refine⟨λaK=>?_,λg=>?_⟩
 .have c:i<ps.length:=by have:=bI aK;omega
  obtain⟨a,x,y,z⟩:=q.at (i:=i) (v:=dW ps[i].1) (by simp[c]);have hm:=dD c;have H:=len8 (r _ hm);have C:ct (ps.take (i+1))=ct (ps.take i)++ps[i].2:=by
   rw[kR c,zQ]
  have I:ps[i].2.length<=100000:=by
   have e:ct ps=ct (ps.take i)++(ps[i].2++ct (ps.drop (i+1))):=by
    unfold ct;rw[←List.flatten_cons,←f_ (f:=λp:ai×Y UInt8=>p.2),←kQ c,←vV,←fv,kn]
   rw[e,bW,bW]at hl;omega
  obtain⟨S,h⟩:∃S,S=(ct (ps.take i)).foldl om B:=⟨_,rfl⟩;have l:S<18446744073709551616:=by rw[h];exact Ao d _
  have D:(ct (ps.take (i+1))).foldl om B=ps[i].2.foldl om S:=by rw[C,vT,h]
  rw[←h];refine⟨a,x,y,ps[i].1,z,λm k w'=>∃j:Nat,k=(j:Int)/\j<=ps[i].2.length/\m=(((ps[i].2.take j).foldl om S:Nat):Int)/\w=w',λ_ k _=>((ps[i].2.length:Int)-k).toNat,⟨0,rfl,dC _,rfl,rfl⟩,?_⟩;rintro _ _ _ ⟨j,rfl,K,rfl,rfl⟩;refine⟨λaK=>?_,λg=>?_⟩
  .have o:j<ps[i].2.length:=by have:=bI aK;omega
   obtain⟨A,ar,hb,hc⟩:=od (r _ hm) o;have E:=Ao l (ps[i].2.take j);refine⟨A,ar,hb,_,hc,?_⟩;rw[OH E,nh J];exact⟨⟨j+1,rfl,o,by rw[kR o,vT,tw,List.foldl_nil],rfl⟩,by show((ps[i].2.length:Int)-((j+1:Nat):Int)).toNat<((ps[i].2.length:Int)-(j:Nat)).toNat;omega⟩
  .obtain rfl:j=ps[i].2.length:=by have:=ck g;omega
   rw[jg,nh J];exact⟨⟨i+1,rfl,c,by rw[D],rfl⟩,by show((ps.length:Int)-((i+1:Nat):Int)).toNat<((ps.length:Int)-(i:Nat)).toNat;omega⟩
 .obtain rfl:i=ps.length:=by have:=ck g;omega
  rw[jg];have l:=Ao d (ct ps);refine⟨by decide,by decide,?_,rfl⟩;rw[OG l,u];unfold q1;exact Eq.refl _
theorem r0{ps:Y (ai×Y UInt8)}(a:Src 1 w s (ps.map λp=>dW p.1))(b:∀p∈ps,Src 1 w p.1 (au p.2))(hl:(ct ps).length<=100000)(c:ps.length<=100000)(d:gB<18446744073709551616):
 aA ae 408 #[.int .u64 (gB:Nat),s] w (λv w'=>v=.int .u64 (q1 gB (ct ps):Nat)/\w=w'):=by
 refine okF (Z.r0 (gB:Nat) s) ao.r0 func408 ?_;(delta Z.r0 fe aZ;dsimp only);refine(qG a b hl c d).use ?_;rintro _ _ ⟨rfl,rfl⟩;exact⟨_,rfl,rfl,rfl⟩
theorem OI{a st sz:Nat}(c:Var w x [a,st,sz] 574)(h:a<sz/\st<=sz/\sz<=1021):
 aA ae 434 #[.pointer (some x)] w (λv w'=>v=a/\Var w' x [.int .i64 ((a+st)%sz:Nat),st,sz] 574/\af (λq=>q=x) w w'):=by
 refine okF (Z.xT (some x)) ao.xT func434 ?_;(delta Z.xT pt aY ak;dsimp only);have d:=bH w;have b:=c.ext d;have f:af (λq=>q=x) w w.drew:=af.bt d;refine⟨_,rfl,_,c.cell,aL ?_⟩;generalize w.drew=g at b f;obtain⟨bU,b1⟩:=e9 b (i:=0) (by show 0<3;decide);refine⟨_,rfl,id,_,b.cell,_,rfl,id,_,by rw[az];exact b.cell,_,rfl,id,_,by rw[az];exact b.cell,J,_,rfl,bU,b1,aL ?_⟩;have e:Int.tmod (IntKind.wrap .i64 ((a:Int)+(st:Int))) (sz:Int)=(((a+st)%sz:Nat):Int):=by
  rw[bF J J,←Int.natCast_add];exact(Int.ofNat_tmod _ _).symm
 rw[e];exact⟨rfl,e8 b (i:=0) _,f.trans (eg g x 0 _)⟩
theorem sy(w:I):aA ae 371 #[(251:Int)] w (λv w'=>v=true/\w=w'):=by
 refine okF (Z.sy 251) ao.sy func371 ?_;(delta Z.sy ad c3 ak;dsimp only);refine⟨λh=>(by cases h),λ_=>⟨λk w'=>∃d:Nat,k=(d:Int)/\2<=d/\d<=16/\w=w',λk _=>((16:Int)-k).toNat,⟨2,rfl,J,J,rfl⟩,?_⟩⟩;rintro _ _ ⟨d,rfl,h2,a,rfl⟩;have hd:∀d,d<17->2<=d->(d*d<=251↔d<=15)/\251%d≠0:=by decide
 obtain⟨c,f⟩:=hd d J h2;have g:IntKind.wrap .i64 ((d:Int)*(d:Int))=((d*d:Nat):Int):=by
  have i:d*d<=16*16:=Nat.mul_le_mul a a;rw[←Int.natCast_mul,bF J J]
 rw[g];refine⟨λb=>⟨J,λh0=>?_,λ_=>?_⟩,λ_=>⟨rfl,rfl⟩⟩
 .exfalso
  have h0:=eq_of_beq h0;have e:Int.tmod 251 (d:Int)=((251%d:Nat):Int):=(Int.ofNat_tmod 251 d).symm;rw[e]at h0;exact f J
 .have b:=bI b
  have:=c.1 J;rw[nh J];exact⟨⟨d+1,rfl,J,J,rfl⟩,by show((16:Int)-((d+1:Nat):Int)).toNat<((16:Int)-(d:Nat)).toNat;omega⟩
end
def lP:Y O:=.bool false:: .int .u8 17:: .int .i64 20::(aE.zero.c++(aE.zero.c++ [.bool false,.int .u8 9]))
def nk:Y O:=.bool false:: .int .u8 0:: .int .i64 0::(aE.zero.c++(aE.zero.c++ [.bool false,.int .u8 0]))
section
variable {w w' w1:I}{s:ai}
end
section
variable {w w' w1:I}{s t:ai}{zs us:Y O}{T:TypeId}{n x:Nat}{l:Y UInt8}
theorem gL(a:zs.length=n)(hu:us.length=n)(c:∀v∈us,Plain v){K:I->Prop}(d:∀w',Var w' w.heap.size us T->Ext w w'->K w'):aq (w.alloc (.cells zs.toArray T)) λw1=>bE w1 w.heap.size (Array.toList us.toArray)/\Array.size us.toArray=n/\aq (setCells w1 w.heap.size 0 (Array.toList us.toArray)) K:=
 aU (vs:=zs) rfl λw1 b hx _=>⟨b.cl (by simp[a,hu]) (λv h=>c v (by simpa using h)),by simp[hu],cY b (us:=us) (by simp[a,hu]) rfl λw' e f _=>d w' e (Ext.bR hx f (bu _))⟩
theorem h7(a:Var w x zs T)(b:zs.length=n)(hu:us.length=n)(f:∀v∈us,Plain v){K:Y O->I->Prop}(g:∀w',Var w' x us T->af (λq=>q=x) w w'->K us w'):bE w x (Array.toList us.toArray)/\Array.size us.toArray=n/\aq (setCells w x 0 (Array.toList us.toArray)) λc=>∃d:Y O,aG c x 0 n=some d/\K d c:=
 ⟨a.cl (by simp[b,hu]) (λv h=>f v (by simpa using h)),by simp[hu],cY a (us:=us) (by simp[b,hu]) rfl λw' e i _=>⟨us,e.rd hu,g w' e i⟩⟩
theorem s3{b:ah}:Plain b:=trivial
theorem cV{k:IntKind}{n:Int}:Plain (.int k n):=trivial
theorem cE{v:O}{l:Y O}(h:Plain v)(hl:∀v∈l,Plain v):∀u∈v::l,Plain u:=λu hu=>(c4.1 hu).elim (λe=>e▸h) (hl u)
theorem hC{k l:Y O}(h:∀v∈k,Plain v)(hl:∀v∈l,Plain v):∀u∈k++l,Plain u:=λu hu=>(eL.1 hu).elim (h u) (hl u)
theorem jc:∀u∈([]:Y O),Plain u:=λu hu=>(by cases hu)
theorem r_(b:Src 1 w s (au l))(hc:s.len<=s.cap){a:Nat}(c:a+2<=l.length)(hl:l.length<=100000):aA ae 102 #[s,a] w (λv w'=>v=.int .u16 (IntKind.wrap .u16 (fm ((l.drop a).take 2):Nat))/\w=w'):=by
 refine okF (Z.r_ s (a:Nat)) ao.r_ func102 ?_;(delta Z.r_ lJ;dsimp only);refine(mn b hc (a:=a) (k:=2) (by decide) c J).use ?_;rintro _ _ ⟨rfl,rfl⟩;exact⟨_,_,rfl,rfl,rfl⟩
end
def eJ(a b c d:Int)(e:ah)(f:Int):Y O:=[.int .u16 a,.int .u16 b,.int .u8 c,d,e,f]
theorem q2(a b c d:Int)(e:ah)(f:Int):∀v∈eJ a b c d e f,Plain v:=cE cV (cE cV (cE cV (cE cV (cE s3 (cE cV jc)))))
section
variable {w w' w1:I}{s t:ai}{x:Nat}{T:TypeId}{a b c d f a' b' c' d' f':Int}{e e':ah}
theorem lg(g:Var w x (eJ a b c d e f) T){K:I->Prop}(h:∀w',Var w' x (eJ a' b' c' d' e' f') T->af (λq=>q=x) w w'->K w'):bE w x (eJ a' b' c' d' e' f')/\(6:Nat)=6/\aq (setCells w x 0 (eJ a' b' c' d' e' f')) K:=
 ⟨g.cl rfl (q2 _ _ _ _ _ _),rfl,cY g (us:=eJ a' b' c' d' e' f') rfl rfl λw' i j _=>h w' i j⟩
theorem vz(g:Var w x (eJ a b c d e f) T){K:Int->Int->Int->Int->ah->Int->Prop}(n:K a b c d e f):∃h:Int,w.cell? x=some (.int .u16 h)/\∃i:Int,w.cell? (Addr.add x 1)=some (.int .u16 i)/\∃j:Int,w.cell? (Addr.add x 2)=some (.int .u8 j)/\∃k:Int,w.cell? (Addr.add x 3)=some (.int .i64 k)/\∃l:ah,w.cell? (Addr.add x 4)=some (.bool l)/\∃m:Int,w.cell? (Addr.add x 5)=some (.int .i64 m)/\K h i j k l m:=by
 simp only[az];exact⟨a,g.cell,b,g.cell,c,g.cell,d,g.cell,e,g.cell,f,g.cell,n⟩
end
def mB:Y O:=aE.zero.c++(aE.zero.c++ [.int .u16 0,.int .u16 0,.int .u8 0])
def Ap:Y O:=nk++(eJ 0 0 0 0 false 0++mB)
section
variable {w w' w1:I}{s t:ai}
end
def mC(i:Nat):Y O:=(List.range 251).map λq=>.int .i64 (if (List.range i).any (λj=>jz j==q) then 2 else -1)
theorem vA(i:Nat):(mC i).length=251:=by simp[mC]
theorem Aq(i:Nat){q:Nat}(a:q<251):(mC i)[q]? =some (.int .i64 (if (List.range i).any (λj=>jz j==q) then 2 else -1)):=by
 unfold mC;rw[oK,List.getElem?_range a];rfl
theorem CO(i:Nat):jz i<251:=ib _ (by decide)
theorem He{i:Nat}(hi:i<251):(mC i)[jz i]? =some (.int .i64 (-1)):=by
 rw[Aq i (CO i),if_neg];rw[oG];rintro⟨j,a,he⟩;exact OB i hi j (jX.1 a) (eq_of_beq he)
theorem OJ(i:Nat):(mC i).set (jz i) (2:Int)=mC (i+1):=by
 refine List.ext_getElem? λq=>?_;by_cases a:q<251
 .rw[List.getElem?_set,Aq (i+1) a,vA,Aq i a,List.range_succ,List.any_append]
  by_cases e:jz i=q
  .rw[if_pos e,if_pos (e▸CO i)]
   simp[e]
  .rw[if_neg e]
   simp[e]
 .rw[nD (by rw[dU,vA];omega),nD (by rw[vA];omega)]
theorem OK{q:Nat}(a:q<251):(mC 251)[q]? =some (.int .i64 2):=by
 rw[Aq 251 a,if_pos];obtain⟨i,hi,e⟩:=OC q a;exact oG.2 ⟨i,jX.2 hi,by rw[e];exact beq_self_eq_true _⟩
section
variable {w w' w1:I}{s t ls Ar:ai}{x bK i:Nat}{T:TypeId}{vs:Y O}
theorem vB(h:aR 1 T w s vs){u:O}(hi:vs[i]? =some u)(v:O):∃A:av,s.a=some A/\((0:Int)<=(i:Int)/\(i:Int)<(s.len:Int))/\(∃u:O,w.cell? (A.add (Int.toNat (i:Int)*1))=some u)/\w.frozen? (A.add (Int.toNat (i:Int)*1))=false/\
 aR 1 T (w.setCell (A.add (Int.toNat (i:Int)*1)) v) s (vs.set i v)/\af (aN s) w (w.setCell (A.add (Int.toNat (i:Int)*1)) v):=by
 obtain⟨b,cs,hb,c,_⟩:=h.cell (i:=i) hi;obtain⟨A,ar,aK,hc⟩:=h.src.at hi;rw[hb]at ar
 cases ar;have e:(Addr.mk b 0 none).add (Int.toNat (i:Int)*1)=⟨b,i,none⟩:=by rw[az,eR,eB,b3]
 refine⟨_,hb,aK,?_⟩;rw[e]at hc⊢;exact⟨⟨_,hc⟩,c.frozen _ rfl,h.set hb (i:=i) v,af.set (.refl _ _) (λ_=>⟨_,hb,rfl⟩) _⟩
theorem sA(w:I):aA ae 373 #[(2:Int),(251:Int),.int .u64 1] w (λv w'=>∃x:Nat,v=.pointer (some x)/\Var w' x [.int .i64 ((jz 0:Nat):Int),.int .i64 ((173:Nat):Int),.int .i64 ((251:Nat):Int)] 574/\Ext w w'/\w.heap.size<=x):=by
 refine okF (Z.sA 2 251 1) ao.sA func373 ?_;(delta Z.sA bl aZ fe aa ak;dsimp only);have hP:=fz (s:=⟨none,0,0⟩) (l:=[]) (n:=2) (k:=2) (aR.none 1 5 w).src (by decide) (by decide) (by decide);rw[show IntKind.wrap .u64 2=((2:Nat):Int) from by decide];refine hP.use ?_;rintro _ w1 ⟨t,rfl,e,b,hf⟩;have a:=bZ w1 (.cells #[t] 28);have c:=r0 (gB:=1) (ps:=[(t,[0,2])]) (Src.new (T:=28) w1 [dW t] 1 rfl) (λp f=>by rw[dH.1 f];exact e.src.ext a) (by show 2<=100000;decide) (by show 1<=100000;decide) (by decide);rw[show q1 1 (ct [(t,[0,2])])=16824252002199258834 from Oy]at c;refine⟨t,rfl,aL (c.use ?_)⟩;rintro _ _ ⟨rfl,rfl⟩;have d:=bH (w1.alloc (.cells #[t] 28));refine⟨_,rfl,aL ⟨by decide,by decide,by decide,aU (vs:=[.int .i64 ((jz 0:Nat):Int),.int .i64 ((173:Nat):Int),.int .i64 ((251:Nat):Int)]) (by kernel_rfl) λi g h j=>⟨_,rfl,g,((b.trans a).trans d).trans h,((b.trans a).trans d).size⟩⟩⟩
theorem OL{a st:Nat}(d:Var w x [a,st,.int .i64 ((251:Nat):Int)] 574)(h:a<251/\st<=251)(ht:Var w bK [s] 537)(hx:bK≠x)(f:aR 1 3 w s vs)(g:vs[a]? =some (.int .i64 (-1))):
 aA ae 409 #[.pointer (some bK),.pointer (some x)] w (λv w'=>v=a/\Var w' x [.int .i64 ((a+st)%251:Nat),st,.int .i64 ((251:Nat):Int)] 574/\af (λq=>q=x) w w'):=by
 refine okF (Z.xP (some bK) (some x)) ao.xP func409 ?_;(delta Z.xP bG c3 pt a_ bc cd aY bn ad;dsimp only);refine(OI d ⟨h.1,h.2,by decide⟩).use ?_;rintro _ w1 ⟨rfl,i,b⟩;have j:aR 1 3 w1 s vs:=f.ax b λq k e=>by
  obtain⟨c,l⟩:=aR.block f k;subst e;exact absurd (a7.inj l d).2 (by decide)
 obtain⟨A,ar,hb,hc⟩:=j.src.at g;refine⟨_,rfl,λn w'=>n=(a:Int)/\w1=w',λ_ _=>0,⟨rfl,rfl⟩,?_⟩;rintro _ _ ⟨rfl,rfl⟩;exact⟨_,rfl,s,(ht.ax b hx).cell,A,ar,hb,_,hc,λh=>absurd h (by decide),λ_=>⟨rfl,i,b⟩⟩
structure kJ(w:I)(bK x:Nat)(s:ai)(i:Nat):Prop where
 t:Var w bK [s] 537
 v:Var w x [.int .i64 (jz i:Nat),.int .i64 ((173:Nat):Int),.int .i64 ((251:Nat):Int)] 574
 o:aR 1 3 w s (mC i)
 n:bK≠x
theorem kJ.ext(h:kJ w bK x s i)(hx:Ext w w'):kJ w' bK x s i:=⟨h.t.ext hx,h.v.ext hx,h.o.ext hx,h.n⟩
theorem kJ.Hf(h:kJ w bK x s i):∀q,aN s q->q≠bK/\q≠x:=λq b=>by
 obtain⟨c,a⟩:=aR.block h.o b
 exact⟨λe=>by subst e;exact absurd (a7.inj a h.t).2 (by decide),λe=>by subst e;exact absurd (a7.inj a h.v).2 (by decide)⟩
theorem OM(h:kJ w bK x s 0)(hl:Src 2 w ls [.int .i64 2,.int .i64 1])(X:Src 1 w Ar [.pointer (some ⟨x,0,none⟩)])(I:∀q,aN ls q->q≠x/\¬aN s q)(D:∀q,aN Ar q->q≠x/\¬aN s q):
 aA ae 374 #[.pointer (some ⟨bK,0,none⟩),.slice ls.a ls.len ls.cap,.slice Ar.a Ar.len Ar.cap] w (λv w'=>v=.tuple #[]/\kJ w' bK x s 251/\af (λq=>q=x\/aN s q) w w'):=by
 have aE:ls.len=1:=by have:=hl.len;simp at this;omega
 have ab:s.len=251:=by have:=h.o.1;rw[vA]at this;omega
 refine okF (Z.ze (some ⟨bK,0,none⟩) ls Ar) ao.ze func374 ?_;(delta Z.ze pt a_ c3 eT ad bc cd aY bn z23 b7 aa bh bx fk bG st ak;dsimp only);refine⟨_,rfl,s,h.t.cell,λn w'=>∃i:Nat,i<=251/\n=((251-i:Nat):Int)/\kJ w' bK x s i/\af (λq=>q=x\/aN s q) w w',λn _=>n.toNat,⟨0,by decide,by rw[ab],h,.refl _ _⟩,?_⟩;rintro _ aF ⟨i,hi,rfl,ac,ag⟩;refine⟨λn m w'=>(n=((251-i:Nat):Int)/\m=0/\kJ w' bK x s i/\af (λq=>q=x\/aN s q) w w')\/(i<251/\n=((251-(i+1):Nat):Int)/\m=1/\kJ w' bK x s (i+1)/\af (λq=>q=x\/aN s q) w w'),λ_ m _=>((1:Int)-m).toNat,.inl ⟨rfl,rfl,ac,ag⟩,?_⟩;rintro _ _ k (⟨rfl,rfl,g,r⟩|⟨f,rfl,rfl,g,r⟩)
 rotate_left
 .refine⟨λaK=>absurd (bI aK) J,λ_=>⟨⟨i+1,f,rfl,g,r⟩,by show(((251-(i+1):Nat):Int)).toNat<(((251-i:Nat):Int)).toNat;omega⟩⟩
 refine⟨λ_=>?_,λu=>absurd (ck u) J⟩;have ah:=hl.ax r λq d E=>E.elim (I q d).1 (I q d).2;obtain⟨aH,A,ar,K⟩:1<=ls.len/\∃A,ls.a=some A/\aG k (A.add (0*2)) 0 2=some [.int .i64 2,.int .i64 1]:=by
  obtain⟨_,A,ar,ai⟩:=sT (c:=λp:Y O=>p) (l:=[[.int .i64 2,.int .i64 1]]) ah (λp aj=>by rw[dH.1 aj];rfl) (by decide) (i:=0) (by decide);exact⟨J,A,ar,ai⟩
 have jP:=nL K (j:=0) (v:=.int .i64 2) rfl;have aS:=nL K (j:=1) (v:=.int .i64 1) rfl;rw[kN,add_zero']at jP;rw[b3]at aS;refine⟨A,ar,⟨J,J⟩,2,jP,1,aS,aU (vs:=[.int .i64 0,.int .i64 0]) rfl λaI L al _=>⟨L.cl rfl (cE cV (cE cV jc)),rfl,cY L (us:=[.int .i64 2,.int .i64 1]) rfl rfl λy M am _=>?_⟩⟩;have N:Ext k y:=Ext.bR al am (bu _);have P:=g.ext N;have Q:=r.trans (af.bt (W:=λq=>q=x\/aN s q) N);refine⟨1,by rw[az];exact M.cell,λn m w'=>(n=((251-i:Nat):Int)/\m=0/\y=w')\/(i<251/\n=((251-(i+1):Nat):Int)/\m=1/\kJ w' bK x s (i+1)/\af (λq=>q=x\/aN s q) w w'),λ_ m _=>((1:Int)-m).toNat,.inl ⟨rfl,rfl,rfl⟩,?_⟩;rintro _ _ bk (⟨rfl,rfl,rfl⟩|⟨f,rfl,rfl,an,ap⟩)
 rotate_left
 .refine⟨λaK=>absurd (bI aK) J,λ_=>⟨.inr ⟨f,rfl,by decide,an,ap⟩,by show((1:Int)-IntKind.wrap .i64 (0+1)).toNat<((1:Int)-0).toNat;decide⟩⟩
 refine⟨λ_=>⟨λh0=>?_,λh0=>?_⟩,λu=>absurd (ck u) J⟩
 .have h0:=eq_of_beq h0
  obtain rfl:i=251:=by omega
  exact⟨rfl,P,Q⟩
 have f:i<251:=by
  refine Nat.lt_of_not_le λu=>?_;obtain rfl:i=251:=by omega
  cases h0
 have F:=bH y;have b:=P.ext F;have R:=M.ext F;have G:=Q.trans (af.bt (W:=λq=>q=x\/aN s q) F);refine aL ?_;generalize y.drew=b8 at b R G;have aq:k.heap.size≠x:=by have:=g.v.lt;omega
 have aJ:k.heap.size≠bK:=by have:=g.t.lt;omega
 obtain⟨B,S,au,av⟩:=(X.ax G λq d E=>E.elim (D q d).1 (D q d).2).at (i:=0) (v:=.pointer (some ⟨x,0,none⟩)) rfl;refine⟨λq=>q=x,_,rfl,b.n,s,b.t.cell,B,S,au,by rw[Ag];exact(D _ ⟨B,S,rfl⟩).1,_,av,aq,2,R.cell,(OL b.v ⟨CO i,by decide⟩ b.t b.n b.o (He f)).use ?_⟩;rintro _ aM ⟨rfl,T,z⟩;rw[OA]at T;have aw:=b.o.ax z λq d e=>(b.Hf q d).2 e;obtain⟨C,ay,aB,aC,aD,U,H⟩:=vB aw (He f) (.int .i64 2);rw[OJ]at U;refine⟨_,rfl,z,C,ay,aB,aC,aD,aL ?_⟩;have aT:IntKind.wrap .i64 (((251-i:Nat):Int)-1)=((251-(i+1):Nat):Int):=by rw[bF J J];omega
 rw[aT];have V:=b.Hf;exact⟨.inr ⟨f,rfl,by decide,⟨(b.t.ax z b.n).ax H λd=>(V _ d).1 rfl,T.ax H λd=>(V _ d).2 rfl,U,b.n⟩,(G.trans (z.mono λ_ _ h=>.inl h)).trans (H.mono λ_ _ h=>.inr h)⟩,by show((1:Int)-IntKind.wrap .i64 (0+1)).toNat<((1:Int)-0).toNat;decide⟩
end
theorem jA{a:(ah->I->Prop)->Prop}{rest:ah->I->Prop}{w0:I}{b:ah}(c:ah)(h1:b=true->∀k:ah->I->Prop,(∀w',Ext w0 w'->k c w')->a k)(h2:∀w',Ext w0 w'->rest (b&&c) w'):
 aV (λk=>(b=true->a k)/\(b=false->k false w0)) rest:=
 ⟨⟨λh=>h1 h rest (λw' hx=>by have:=h2 w' hx;rwa[h,jf]at this),λh=>by have:=h2 w0 (.refl _ _);rwa[h,mO]at this⟩⟩
theorem hN{a:(ah->I->Prop)->Prop}{rest:ah->I->Prop}{w0:I}{b:ah}(c:ah)(h1:b=false->∀k:ah->I->Prop,(∀w',Ext w0 w'->k c w')->a k)(h2:∀w',Ext w0 w'->rest (b||c) w'):
 aV (λk=>(b=true->k true w0)/\(b=false->a k)) rest:=
 ⟨⟨λh=>by have:=h2 w0 (.refl _ _);rwa[h,Bool.true_or]at this,λh=>h1 h rest (λw' hx=>by have:=h2 w' hx;rwa[h,tt]at this)⟩⟩
structure bO where
 id:Int
 addr:aE
 port:Int
 weight:Int
 pG:ah
 deriving DecidableEq
def bO.c(b:bO):Y O:=.int .i64 b.id::(b.addr.c++ [.int .u16 b.port,.int .i64 b.weight,.bool b.pG])
structure cQ where
 id:Int
 addr:aE
 port:Int
 il:Int
 bits:Int
 bX:Int
 deriving DecidableEq
def cQ.c(s:cQ)(k:ai):Y O:=.int .i64 s.id::(s.addr.c++ [.int .u16 s.port,.int .u8 s.il,.int .i64 s.bits,.int .u64 s.bX,.slice k.a k.len k.cap])
structure fD where
 addr:aE
 port:Int
 il:Int
 deriving DecidableEq
def fD.c(d:fD):Y O:=d.addr.c++ [.int .u16 d.port,.int .u8 d.il]
def cQ.jU(s:cQ):fD:=⟨s.addr,s.port,s.il⟩
theorem bO.aM(b:bO):b.c.length=21:=by simp[bO.c,aE.aM]
theorem cQ.aM(s:cQ)(k:ai):(s.c k).length=23:=by simp[cQ.c,aE.aM]
theorem fD.aM(d:fD):d.c.length=19:=by simp[fD.c,aE.aM]
theorem fD.plain(d:fD):∀v∈d.c,Plain v:=by
 intro v a;rcases eL.1 a with a|a
 .exact d.addr.plain v a
 .simp only[c4,g1,hF]at a
  rcases a with rfl|rfl<;>trivial
variable {w:I}{b:Nat}{T:TypeId}{s:cQ}{k:ai}
theorem gM(h:Var w b (s.c k) T):w.cell? ⟨b,0,none⟩=some (.int .i64 s.id)/\w.cell? (Addr.add ⟨b,0,none⟩ 1)=some (.bool s.addr.aj)/\w.cell? (Addr.add ⟨b,0,none⟩ 18)=some (.int .u16 s.port)/\w.cell? (Addr.add ⟨b,0,none⟩ 19)=some (.int .u8 s.il)/\
 w.cell? (Addr.add ⟨b,0,none⟩ 20)=some (.int .i64 s.bits)/\w.cell? (Addr.add ⟨b,0,none⟩ 21)=some (.int .u64 s.bX)/\w.cell? (Addr.add ⟨b,0,none⟩ 22)=some (.slice k.a k.len k.cap):=by
 simp only[az,h.cell];refine⟨rfl,?_,?_,?_,?_,?_,?_⟩<;>simp[cQ.c,List.getElem?_append,aE.aM]
 simp[aE.c]
theorem Hg(h:Var w b (s.c k) T):aG w (Addr.add ⟨b,0,none⟩ 1) 0 17=some s.addr.c:=by
 rw[az,h.e2 (by rw[cQ.aM];decide)];show some ((s.addr.c++_).take 17)=_;rw[kS (by rw[aE.aM];decide),fb (by rw[aE.aM];decide)]
def s4(n:Int):ah:=decide (n>=0)&&decide (n<=65535)
def s5(n:Int):ah:=decide (n>=0)&&decide (n<=10)
def q3(s:cQ)(k:ai):ah:=s4 s.id&&s.addr.cP&&decide (s.port>0)&&((s.il==6)||(s.il==17))&&decide (s.bits>=0)&&decide (s.bits<=if s.addr.aj then 128 else 32)&&decide (s.bX>=1)&&decide (s.bX<=1073741824)&&((k.len:Int)==0)
theorem sf(n:Int)(w:I):aA ae 132 #[n] w (λv w'=>v=.bool (s4 n)/\w=w'):=by
 refine okF (Z.sf n) ao.sf func132 ?_;exact⟨rfl,rfl⟩
theorem uQ(n:Int)(w:I):aA ae 133 #[n] w (λv w'=>v=.bool (s5 n)/\w=w'):=by
 refine okF (Z.uQ n) ao.uQ func133 ?_;exact⟨rfl,rfl⟩
theorem Hh(a:aE)(w:I):aA ae 104 #[.agg a.c.toArray] w (λv w'=>v=a.cP/\Ext w w'):=by
 refine Z.EZ _ w _ ?_;(delta Z.mm aa br;dsimp only);refine aU (vs:=a.c) rfl λw1 b d _=>⟨_,b.rd a.aM,(mY a w1).use ?_⟩;rintro _ f ⟨rfl,e⟩;exact⟨_,rfl,rfl,Ext.trans d e⟩
theorem qz(s:cQ)(k:ai)(w:I):aA ae 129 #[.agg (s.c k).toArray] w (λv w'=>v=.bool (q3 s k)/\Ext w w'):=by
 refine Z.Kk _ w _ ?_;(delta Z.qz cT bq aa ad cJ bS aY br ef e0 bh dY di bD a_;dsimp only);refine aU (vs:=s.c k) rfl λw1 b y _=>bL (λn w'=>w1=w'/\n=if s.addr.aj then 128 else 32) (λq a=>⟨_,(gM b).2.1,λh=>a _ _ ⟨rfl,by rw[h];rfl⟩,λh=>a _ _ ⟨rfl,by rw[h];rfl⟩⟩) ?_;rintro _ _ ⟨rfl,rfl⟩;refine⟨_,(gM b).2.2.2.1,hN (s.il==17) (λ_ q a=>⟨_,(gM b).2.2.2.1,a _ (.refl _ _)⟩) λe f=>?_⟩;have d:=b.ext f;have z:=Ext.trans y f;refine⟨_,(gM d).1,(sf s.id e).use ?_⟩;rintro _ _ ⟨rfl,rfl⟩;refine⟨_,rfl,jA s.addr.cP (λ_ q a=>⟨_,Hg d,(Hh s.addr e).use ?_⟩) λE g=>?_⟩
 .rintro _ F ⟨rfl,A⟩
  exact⟨_,rfl,a _ A⟩
 have i:=d.ext g;have B:=Ext.trans z g;refine jA (decide (s.port>0)) (λ_ q a=>⟨_,(gM i).2.2.1,a _ (.refl _ _)⟩) λG j=>?_;have l:=i.ext j;refine jA (decide (s.bits>=0)) (λ_ q a=>⟨_,(gM l).2.2.2.2.1,a _ (.refl _ _)⟩) λH m=>?_;have o:=l.ext m;refine jA (decide (s.bits<=if s.addr.aj then 128 else 32)) (λ_ q a=>⟨_,(gM o).2.2.2.2.1,a _ (.refl _ _)⟩) λb5 p=>?_;have r:=o.ext p;refine jA (decide (s.bX>=1)) (λ_ q a=>⟨_,(gM r).2.2.2.2.2.1,a _ (.refl _ _)⟩) λJ t=>?_;have u:=r.ext t;refine jA (decide (s.bX<=1073741824)) (λ_ q a=>⟨_,(gM u).2.2.2.2.2.1,a _ (.refl _ _)⟩) λK x=>?_;have C:=u.ext x;exact jA ((k.len:Int)==0) (λ_ q a=>⟨k,(gM C).2.2.2.2.2.2,a _ (.refl _ _)⟩) λL D=>⟨rfl,Ext.trans B (Ext.trans j (Ext.trans m (Ext.trans p (Ext.trans t (Ext.trans x D)))))⟩
theorem Hi(w:I)(a:aE)(n m:Int):Sem.run ae (Instr.build 267 #[(0,.agg a.c.toArray),(1,.int .u16 n),(2,.int .u8 m)]) w=.ok (.agg (fD.mk a n m).c.toArray) w:=by
 obtain⟨aj,b,h⟩:=a;obtain⟨d,e,cf,f,g,i,j,k,l,o,p,q,r,s,t,u,rfl⟩:=iH b h
 kernel_rfl
theorem o9(s:cQ)(k:ai)(w:I):aA ae 130 #[.agg (s.c k).toArray] w (λv w'=>v=.agg s.jU.c.toArray/\Ext w w'):=by
 refine Z.Kl _ w _ ?_;(delta Z.o9 aa ef e0 cJ bS;dsimp only);refine aU (vs:=s.c k) rfl λw1 e b _=>aU (vs:=(fD.mk aE.zero 0 0).c) (by kernel_rfl) λag hd d _=>?_;have a:=e.ext d;exact⟨_,Hg a,_,(gM a).2.2.1,_,(gM a).2.2.2.1,s.jU.c.toArray,Hi _ _ _ _,hd.cl (by simp[fD.aM]) (fD.plain _),by simp[fD.aM],cY hd (us:=s.jU.c) (by simp[fD.aM]) rfl λh f g _=>⟨_,f.rd (fD.aM _),rfl,Ext.bR (Ext.trans b d) g b.size⟩⟩
theorem CP:ih ae 83 87 21 48:=⟨by kernel_rfl⟩
theorem ON{s v:ai}{vs xs:Y O}{i iB:Nat}{ac:Array O}{ag:TypeId}{w:I}(F:aR 21 87 w s vs)(K:Src 21 w v xs)(g:v.len=1)(ah:v.a=some ⟨iB,0,none⟩)(Q:a7 w iB ac ag)(aj:¬aN s iB)
 (R:∀u∈xs,Plain u) (aH:∀u∈vs,Plain u) (hi:i<=s.len) (a3:s.len<=1000000):
 aA ae 134 #[s,.int .i64 (i:Int),v] w (λu w'=>∃y:ai,u=y/\aR 21 87 w' y (vs.take (i*21)++xs++vs.drop (i*21))/\y.len=s.len+1/\af (aN s) w w'/\(∀k,aN y k->aN s k\/w.heap.size<=k)):=by
 obtain⟨h1,a4,a5,h2,al,aI,aJ,B,am,aM⟩:=(CP).out;obtain⟨d0,lP⟩:=kV _ al;refine okF (Z.w_ s i v) ao.w_ func134 ?_;(delta Z.w_ ad ap ak dc;dsimp only);have a8:=F.2.1;have a9:=F.2.2.1;have a_:maxLen=9223372036854775807:=rfl;have p:xs.length=21:=by have:=K.len;rw[g]at this;omega
 have S:=F.1;refine⟨⟨J,J⟩,λh=>by rw[g]at h;simp at h,λ_=>⟨λh=>?_,λh=>?_⟩⟩
 .have aO:i=s.len:=by have:=eq_of_beq h;omega
  subst aO;obtain⟨y,w',aS,bf,T,L,D⟩:=(CP).append (cX:=83) K F R (by rw[g];omega);refine⟨y,w',aS,y,rfl,?_,by rw[T,g],L,D⟩;rwa[fb J,vR J,lu]
 have aK:i<s.len:=by
  have h:¬((i:Int)=(s.len:Int)):=λe=>by rw[e]at h;simp at h
  omega
 rcases F.2.2.2 with ⟨_,hc⟩|⟨b,c,hb,E,an,aq⟩
 .omega
 have aP:b≠iB:=λe=>aj ⟨_,hb,e⟩;have aT:IntKind.wrap .i64 ((s.len:Int)+(v.len:Int))=((s.len+1:Nat):Int):=by rw[g,bF J J];rfl
 have a6:IntKind.wrap .i64 ((i:Int)+(v.len:Int))=((i+1:Nat):Int):=by rw[g,bF J J];rfl
 have aQ:IntKind.wrap .i64 (((s.len+1:Nat):Int)-(i:Int))=((s.len+1-i:Nat):Int):=by rw[bF J J];omega
 have ba:c.toList.length=s.cap*21:=by simpa using an
 have au:∀k,k<=s.len->vs.take (k*21)=c.toList.take (k*21):=λk d=>by rw[←aq,rq,j0 J]
 have av:vs.drop (i*21)=(c.toList.drop (i*21)).take ((s.len-i)*21):=by rw[←aq,List.drop_take,show s.len*21-i*21=(s.len-i)*21 from J]
 have iq:∀u∈vs.drop (i*21),Plain u:=λu hu=>aH u (List.mem_of_mem_drop hu);have z:(vs.drop (i*21)).length=(s.len-i)*21:=by rw[jZ,S];omega
 have G:∀ (bb o l m:Nat),l<m->bj (some (Addr.mk bb o none)) 21 l m=some ⟨bb,o+l*21,none⟩:=λbb o l m bc=>lH J;simp only[aT,a6,aQ,eR,Nat.sub_zero,Bz];refine⟨λhg=>?_,λhg=>?_⟩
 .have bd:s.cap<s.len+1:=by have:=bI hg;omega
  have aU:Src 21 w ⟨some b,i,s.cap⟩ (vs.take (i*21)):=by
   have:=E.qj (sz:=21) (o:=0) (n:=i) (cap:=s.cap) J;rw[iT]at this;rwa[au i J]
  obtain⟨j,zs,rest,aS,bf,T,L,D⟩:=EC (P:=ae) (gR:= #[83,3]) (cX:=83) (kW:=3) (k:=.i64) (s:=⟨some b,i,s.cap⟩) (n:=s.len+1-i) rfl rfl h1 (by kernel_rfl) h2 al aI aJ B (by rw[am];exact aM) aU (by show s.cap<i+_;omega) (by rw[am];show(2*(i+_)+1000)*_<=_;omega);have aV:i+(s.len+1-i)=s.len+1:=by omega
  simp only[aV]at aS L D;obtain⟨C,U⟩:∃C,C=(vs.take (i*21)++zs++rest).toArray:=⟨_,rfl⟩;rw[←U]at D;obtain⟨aC,V⟩:∃aC,aC=w.drew.alloc (.cells C 87):=⟨_,rfl⟩;rw[←V]at D;have aw:a7 aC w.heap.size C 87:=by rw[V];exact a7.new w.drew _ _
  have ay:Ext w aC:=by rw[V];exact af.alloc (af.drew (.refl _ _)) _
  have f:(vs.take (i*21)).length=i*21:=by rw[fP,S];omega
  have az:C.size=j*21:=by rw[U];simp[f,T,L];omega
  have be:C.toList.length=j*21:=by simpa using az
  have H:=nN (P:=ae) (kY:=83) (dJ:=83) (ty:=3) (A:=⟨w.heap.size,0+i*21,none⟩) (dl:=s.len+1-i) (j7:=j-i) (n:=1) h1 lP B (x:=v) (by rw[g];exact j0 J) (xs:=xs) (by have:=K.ext ay;have e:(⟨v.a,1,v.cap⟩:ai)=v:=(by rw[←g]);rw[e];exact this) (by rw[b3];exact aw.cl _ _ J R);obtain⟨r,X⟩:∃r,r=setCells aC ⟨w.heap.size,0+i*21,none⟩ 0 xs:=⟨_,rfl⟩;rw[←X]at H;have aB:a7 r w.heap.size (gn C (i*21) xs) 87:=by rw[X,b3];exact aw.kZ xs
  have aW:Ext w r:=by rw[X];exact Ext.dE ay (af.iD (.refl _ _) xs 0) (λk d=>by subst d;exact bu _)
  have aX:Ext r r.drew:=af.drew (.refl _ _);have aD:=Ext.trans aW aX;have aa:=nN (P:=ae) (w:=r.drew) (kY:=83) (dJ:=83) (ty:=3) (A:=⟨w.heap.size,0+(i+1)*21,none⟩) (dl:=s.len+1-(i+1)) (j7:=j-(i+1)) (n:=s.len-i) h1 lP B (x:=⟨some ⟨b,0+i*21,none⟩,s.len-i,s.cap-i⟩) (j0 (by show s.len-i<=_;omega)) (xs:=vs.drop (i*21))
   (by have:=(E.ext aD).qj (sz:=21) (o:=i*21) (n:=s.len-i) (cap:=s.cap-i) J;rw[av,b3];exact this) (by rw[b3];exact a7.cl (a7.drew aB) _ _ (by rw[g5];omega) iq)
  have M:bj (some (Addr.mk w.heap.size 0 none)) 21 i j=some ⟨w.heap.size,0+i*21,none⟩:=G _ _ _ _ J;have N:bj (some (Addr.mk w.heap.size 0 none)) 21 (i+1) j=some ⟨w.heap.size,0+(i+1)*21,none⟩:=G _ _ _ _ J;have aY:bj s.a 21 i s.cap=some ⟨b,0+i*21,none⟩:=by rw[hb];exact G _ _ _ _ J
  have aZ:Sem.run ae (Builtin.append_ #[83,3] 83 #[.slice s.a i s.cap,.int .i64 ((s.len+1-i:Nat):Int)]) w=.ok (.slice (some w.heap.size) (s.len+1) j) aC:=by rw[hb];exact D
  refine⟨⟨J,J⟩,⟨some w.heap.size,s.len+1,j⟩,aC,aZ,⟨J,by show(i:Int)<=((s.len+1:Nat):Int);omega⟩,_,r,by rw[M];exact H,aL ⟨⟨J,by show((i+1:Nat):Int)<=((s.len+1:Nat):Int);omega⟩,⟨J,J⟩,_,_,by rw[N,aY];exact aa,⟨some w.heap.size,s.len+1,j⟩,rfl,?_,rfl,?_,?_⟩⟩
  .refine aR.mk' ((a7.drew aB).kZ (o:=0+(i+1)*21) _) (by simp[f,p,z];omega) J J (by rw[g5,g5,az]) ?_
   rw[j6 _ _ _ (by rw[g5];omega),j6 _ _ _ J];have t1:C.toList.take (i*21)=vs.take (i*21):=by rw[U,vW,dg];exact eN f
   have t2:(C.toList.take (i*21)++xs++C.toList.drop (i*21+xs.length)).take (0+(i+1)*21)=vs.take (i*21)++xs:=by
    rw[t1,kS (by simp[f,p];omega),fb (by simp[f,p];omega)]
   rw[t2,kS (by simp[f,p,z];omega),fb (by simp[f,p,z];omega)]
  .exact af.bt (Ext.dE aD (af.iD (.refl _ _) _ 0) (λk d=>by subst d;exact bu _))
  .rintro k ⟨A,ar,d⟩
   cases ar;exact .inr (Nat.le_of_eq d)
 .have bg:s.len+1<=s.cap:=by have:=ck hg;omega
  have M:bj s.a 21 (i+1) s.cap=some ⟨b,0+(i+1)*21,none⟩:=by rw[hb];exact G _ _ _ _ J
  have N:bj s.a 21 i s.cap=some ⟨b,0+i*21,none⟩:=by rw[hb];exact G _ _ _ _ J
  have a0:Sem.run ae (callFunc 202 #[v,.slice (some ⟨b,0+(i+1)*21,none⟩) (s.len+1-(i+1)) (s.cap-(i+1))]) w=.ok (.value false) w:=by
   rw[ah,run_callFunc_extern (e:=Extern.SlicesOverlaps.overlaps #[83,83] #[4]) func202 (by kernel_rfl) (by kernel_rfl) (by kernel_rfl) (by kernel_rfl)];have:=Lib.run_overlaps_apart (P:=ae) w 83 4 87 h1 21 (λw=>by have:=g3 (w:=w) lP;rwa[B]at this) iB ⟨b,0+(i+1)*21,none⟩ v.len v.cap (s.len+1-(i+1)) (s.cap-(i+1)) (λe=>aP e.symm) ag 87 ac.size c.size
    (by have:=Q;unfold a7 at this;simp[World.shape?,this]) (by have:=E;unfold a7 at this;simp[World.shape?,this]) J (Q.frozen _ rfl) (Q.frozen _ rfl)
   rw[this];rfl
  have H:=nN (P:=ae) (w:=w.drew) (kY:=83) (dJ:=83) (ty:=3) (A:=⟨b,0+(i+1)*21,none⟩) (dl:=s.len+1-(i+1)) (j7:=s.cap-(i+1)) (n:=s.len-i) h1 lP B (x:=⟨some ⟨b,0+i*21,none⟩,s.len+1-i,s.cap-i⟩) ((Nat.min_eq_right (by show _<=s.len+1-i;omega)).trans J) (xs:=vs.drop (i*21))
   (by have:=(a7.drew E).qj (sz:=21) (o:=i*21) (n:=s.len-i) (cap:=s.cap-i) J;rw[av,b3];exact this) (by rw[b3];exact a7.cl (a7.drew E) _ _ J iq)
  obtain⟨t,ab⟩:∃t,t=setCells w.drew ⟨b,0+(i+1)*21,none⟩ 0 (vs.drop (i*21)):=⟨_,rfl⟩;rw[←ab]at H;have aE:a7 t b (gn c ((i+1)*21) (vs.drop (i*21))) 87:=by rw[ab,b3];exact(a7.drew E).kZ _
  have aF:af (aN s) w t:=by
   rw[ab];exact af.mono (W:=λq=>q=b) (af.iD (af.drew (.refl _ _)) _ 0) (λk _ d=>⟨_,hb,d.symm⟩)
  have a1:Src 21 t v xs:=K.ax aF (λk d a2=>by obtain⟨A,ar,rfl⟩:=d;rw[ah]at ar;cases ar;exact aj a2);have aa:=nN (P:=ae) (w:=t) (kY:=83) (dJ:=83) (ty:=3) (A:=⟨b,0+i*21,none⟩) (dl:=s.len+1-i) (j7:=s.cap-i) (n:=1) h1 lP B (x:=v) (by rw[g];exact j0 J) (xs:=xs) (by have e:(⟨v.a,1,v.cap⟩:ai)=v:=(by rw[←g]);rw[e];exact a1) (by rw[b3];exact aE.cl _ _ (by rw[g5];omega) R);refine⟨⟨J,J⟩,⟨J,J⟩,false,w,by rw[M];exact a0,λ_=>aL ⟨⟨J,J⟩,⟨J,J⟩,_,t,by rw[M,N];exact H,⟨J,J⟩,_,_,by rw[N];exact aa,⟨s.a,s.len+1,s.cap⟩,rfl,?_,rfl,?_,λk d=>.inl d⟩,λh=>by simp at h⟩
  .have aG:aR 21 87 (setCells t ⟨b,0+i*21,none⟩ 0 xs) ⟨some b,s.len+1,s.cap⟩ (vs.take (i*21)++xs++vs.drop (i*21)):=by
    have f:(vs.take (i*21)).length=i*21:=by rw[fP,S];omega
    refine aR.mk' (aE.kZ (o:=0+i*21) _) (by simp[f,p,z];omega) J J (by rw[g5,g5,an]) ?_;rw[j6 _ _ _ (by rw[g5];omega),j6 _ _ _ J];have t1:(c.toList.take ((i+1)*21)++vs.drop (i*21)++c.toList.drop ((i+1)*21+(vs.drop (i*21)).length)).take (0+i*21)=vs.take (i*21):=by
     rw[b3,kS (by simp[z];omega),kS (by simp;omega),rq,au i J,j0 J]
    have t2:(c.toList.take ((i+1)*21)++vs.drop (i*21)++c.toList.drop ((i+1)*21+(vs.drop (i*21)).length)).drop (0+i*21+xs.length)=vs.drop (i*21)++c.toList.drop ((i+1)*21+(vs.drop (i*21)).length):=by
     have hl:(c.toList.take ((i+1)*21)).length=0+i*21+xs.length:=by simp;omega
     rw[dg,←hl,List.drop_left]
    rw[t1,t2,←dg,kS (by simp[f,p,z];omega),fb (by simp[f,p,z];omega)]
   rw[←hb]at aG;exact aG
  .exact aF.trans (af.mono (W:=λq=>q=b) (af.iD (.refl _ _) _ 0) (λk _ d=>⟨_,hb,d.symm⟩))
def fX(l:Y bO):Y O:=(l.map bO.c).flatten
theorem vC:∀l:Y bO,(fX l).length=l.length*21
 | []=>rfl
 |b::l=>by
  show(b.c++fX l).length=_
  rw[bW,vC l,bO.aM,d_];omega
theorem bO.plain(b:bO):∀v∈b.c,Plain v:=by
 intro v a;rcases c4.1 a with rfl|a
 .trivial
 rcases eL.1 a with a|a
 .exact b.addr.plain v a
 .simp only[c4,g1,hF]at a
  rcases a with rfl|rfl|rfl<;>trivial
theorem Hj(l:Y bO):∀v∈fX l,Plain v:=by
 intro v a;obtain⟨x,hx,a⟩:=List.mem_flatten.1 a;obtain⟨b,_,rfl⟩:=dX.1 hx;exact b.plain v a
theorem Hk(a b:Y bO):fX (a++b)=fX a++fX b:=by simp[fX]
theorem OO(b:bO):fX [b]=b.c:=by simp[fX]
theorem Hl:∀ (l:Y bO) (k:Nat),(fX l).take (k*21)=fX (l.take k)
 | [],k=>by simp[fX]
 |b::l,0=>by simp[fX]
 |b::l,k+1=>by
  show(b.c++fX l).take _=b.c++fX (l.take k)
  rw[List.take_append,fb (by rw[bO.aM];omega),bO.aM,show(k+1)*21-21=k*21 from J,Hl l k]
theorem CQ:∀ (l:Y bO) (k:Nat),(fX l).drop (k*21)=fX (l.drop k)
 | [],k=>by simp[fX]
 |b::l,0=>by simp[fX]
 |b::l,k+1=>by
  show(b.c++fX l).drop _=fX (l.drop k)
  rw[List.drop_append,vR (by rw[bO.aM];omega),bO.aM,show(k+1)*21-21=k*21 from J,CQ l k,ko]
theorem OP{l:Y bO}{i:Nat}(h:i<l.length):((fX l).drop (i*21)).take 21=(l[i]).c:=by
 rw[CQ,kQ h];show((l[i]).c++fX _).take 21=_;exact eN (bO.aM _)
abbrev lY(w:I)(s:ai)(l:Y bO):Prop:=Src 21 w s (fX l)
theorem lY.len{w:I}{s:ai}{l:Y bO}(h:lY w s l):s.len=l.length:=by
 have:=Src.len h;rw[vC]at this;omega
theorem lY.get{w:I}{s:ai}{l:Y bO}(h:lY w s l){i:Nat}(hi:i<l.length):∃A,s.a=some A/\((0:Int)<=(i:Int)/\(i:Int)<(s.len:Int))/\aG w (A.add (Int.toNat (i:Int)*21)) 0 21=some (l[i]).c:=by
 have hl:=lY.len h
 cases b:s.a with
 |none=>
  have:=congrArg List.length (h.nil b);rw[vC,fE]at this;omega
 |some A=>
  refine⟨A,rfl,⟨J,J⟩,?_⟩;rw[eR,EF (h.rd A b) (by rw[hl];omega),OP hi]
theorem OQ{s:ai}{l:Y bO}{w:I}(c:lY w s l)(m:l.length<=1000000):
 aA ae 209 #[s] w (λv w'=>∃b:ai,v=b/\aR 21 87 w' b (fX l)/\b.len=l.length/\Ext w w'/\∀k,aN b k->w.heap.size<=k):=by
 refine okF (Z.xb s) ao.xb func209 ?_;(delta Z.xb ad ap;dsimp only);have hl:=lY.len c;refine⟨λh=>?_,λ_=>?_⟩
 .have d:s.a=none:=by cases d:s.a with
   |none=>rfl
   |some A=>rw[d]at h;cases h
  have e:=c.nil d;have h0:l.length=0:=by
   have:=congrArg List.length e;rw[vC,fE]at this;omega
  exact⟨⟨none,0,0⟩,rfl,by rw[e];exact aR.none _ _ _,h0.symm,.refl _ _,λk f=>(gb k f).elim⟩
 .obtain⟨b,w',h1,h2,g,i,j,_⟩:=CP.clone (cX:=83) c (Hj l) J
  exact⟨⟨some w.heap.size,0,0⟩,_,by kernel_rfl,b,w',h1,b,rfl,h2,by rw[g,hl],i,j⟩
theorem cmp_isNaN_int(x:Int)(w:I):aA ae 245 #[x] w (λv w'=>v=false/\w=w'):=by
 refine okF (Z.cmp_isNaN_int x) ao.cmp_isNaN_int func245 ?_;unfold Z.cmp_isNaN_int;simp
def oq(a b:Int):Int:=if a<b then -1 else if a>b then 1 else 0
theorem rW(x y:Int)(w:I):aA ae 180 #[x,y] w (λv w'=>v=.int .i64 (oq x y)/\w=w'):=by
 refine okF (Z.rW x y) ao.rW func180 ?_;(delta Z.rW br ad;dsimp only);refine(cmp_isNaN_int x w).use ?_;rintro _ _ ⟨rfl,rfl⟩;refine⟨_,rfl,(cmp_isNaN_int y w).use ?_⟩;rintro _ _ ⟨rfl,rfl⟩;refine⟨_,rfl,λh=>by simp at h,λ_=>⟨λh=>by simp at h,λ_=>⟨λh=>?_,λh=>⟨λh2=>?_,λh2=>?_⟩⟩⟩⟩
 .have h:=bI h
  exact⟨by unfold oq;rw[if_pos h],rfl⟩
 .have h:=ck h
  have h2:=bI h2;exact⟨by unfold oq;rw[if_neg h,if_pos h2],rfl⟩
 .have h:=ck h
  have h2:=ck h2;exact⟨by unfold oq;rw[if_neg h,if_neg h2],rfl⟩
def nm(l:Y bO):Prop:=l.Pairwise λa b=>a.id<b.id
def fq(l:Y bO)(id:Int):Nat:=l.findIdx λb=>decide (id<=b.id)
def hasB(l:Y bO)(id:Int):ah:=l.any λb=>b.id==id
theorem nm.lt{l:Y bO}(h:nm l){i j:Nat}(hi:i<j)(a:j<l.length):(l[i]).id<(l[j]).id:=tz.1 h i j J a hi
theorem OR{l:Y bO}{id:Int}{a:Nat}(c:a<=l.length)(h1:∀ (j:Nat) (h:j<l.length),j<a->(l[j]).id<id)(h2:∀ (j:Nat) (h:j<l.length),a<=j->id<=(l[j]).id):fq l id=a:=by
 unfold fq;rcases fO a l.length with h|h
 .exact(List.findIdx_eq h).2 ⟨fF (h2 a h (bu _)),λj b=>hY (by have:=h1 j J b;omega)⟩
 .have:a=l.length:=by omega
  subst this;refine List.findIdx_eq_length_of_false λx hx=>?_;obtain⟨j,b,rfl⟩:=fQ hx;exact hY (by have:=h1 j b b;omega)
theorem CR(l:Y bO)(id:Int):fq l id<=l.length:=List.findIdx_le_length
theorem Hm{l:Y bO}{id:Int}{j:Nat}(h:j<fq l id):(l[j]'(fu h (CR l id))).id<id:=by
 have:=List.not_of_lt_findIdx h;simp only[fN,ny]at this;omega
theorem CS{l:Y bO}(a:nm l){id:Int}{j:Nat}(h:fq l id<=j)(b:j<l.length):id<=(l[j]).id:=by
 have c:fq l id<l.length:=by omega
 have h1:id<=(l[fq l id]).id:=by
  have:=List.findIdx_getElem (w:=c);exact bI this
 rcases fO (fq l id) j with h2|h2
 .have:=a.lt h2 b;omega
 .have:j=fq l id:=by omega
  subst this;exact h1
theorem Hn{l:Y bO}(a:nm l)(id:Int):hasB l id=true↔∃h:fq l id<l.length,(l[fq l id]).id=id:=by
 unfold hasB;rw[oG];constructor
 .rintro⟨b,hb,he⟩
  obtain⟨j,d,rfl⟩:=fQ hb;have he:=eq_of_beq he;have h1:¬j<fq l id:=λh=>by have:=Hm h;omega
  refine⟨J,?_⟩;have h2:=CS a (bu (fq l id)) J;rcases fO (fq l id) j with c|c
  .have:=a.lt c d;omega
  .have:j=fq l id:=by omega
   subst this;exact he
 .rintro⟨h,he⟩
  exact⟨_,dD h,by simp[he]⟩
theorem pb(b:bO)(id:Int)(w:I):aA ae 201 #[.agg b.c.toArray,id] w (λv w'=>v=.int .i64 (oq b.id id)/\Ext w w'):=by
 refine Z.Kv _ id w _ ?_;(delta Z.pb aY aa bG;dsimp only);refine aU (vs:=b.c) rfl λw1 a d _=>⟨b.id,a.cell,(rW b.id id w1).use ?_⟩;rintro _ _ ⟨rfl,rfl⟩;exact⟨_,rfl,rfl,d⟩
theorem OS{s:ai}{l:Y bO}(id:Int){w:I}(k:lY w s l)(g:nm l)(H:l.length<=1000000):
 aA ae 200 #[s,id,.func (.func 201) #[] #[]] w (λv w'=>v=.tuple #[.int .i64 ((fq l id:Nat):Int),.bool (hasB l id)]/\Ext w w'):=by
 refine okF (Z.xa s id ⟨201,#[],#[]⟩) ao.xa func200 ?_;(delta Z.xa eT ad w7 ak wZ k1 cd;dsimp only);have hl:=lY.len k;have u:iA ae 201:=⟨_,(kp (show(Tryz.prog.funcs[201]?).isSome=true by kernel_rfl)).symm,by kernel_rfl,by kernel_rfl⟩;refine⟨λlo hi w'=>∃a b:Nat,lo=a/\hi=b/\a<=b/\b<=l.length/\Ext w w'/\(∀ (j:Nat) (h:j<l.length),j<a->(l[j]).id<id)/\(∀ (j:Nat) (h:j<l.length),b<=j->id<=(l[j]).id),λlo hi _=>(hi-lo).toNat,
  ⟨0,l.length,rfl,by rw[hl],dC _,bu _,.refl _ _,λj _ h=>J,λj h h2=>J⟩,?_⟩
 rintro _ _ aH ⟨a,b,rfl,rfl,K,hb,e,h1,h2⟩;have hm:=EG (a:=a) (b:=b) J;refine⟨λh=>?_,λh=>?_⟩
 .have aK:(a:Int)<(b:Int):=bI h
  rw[hm];obtain⟨m,B⟩:∃m,m=(a+b)/2:=⟨_,rfl⟩;rw[←B];have C:a<=m:=by omega
  have L:m<b:=by omega
  obtain⟨A,ar,n,o⟩:=lY.get (k.ext e) (i:=m) J;refine⟨by decide,A,ar,n,_,o,u,(pb _ id aH).use ?_⟩;rintro _ aJ ⟨rfl,f⟩;have x:=Ext.trans e f;have D:IntKind.wrap .i64 ((m:Int)+1)=((m+1:Nat):Int):=by rw[bF J J];rfl
  refine⟨_,rfl,λhc=>?_,λhc=>?_⟩
  .have hc:=bI hc
   have E:(l[m]).id<id:=by
    unfold oq at hc;split at hc
    .assumption
    .split at hc<;>omega
   rw[D];have p:((b:Int)-((m+1:Nat):Int)).toNat<((b:Int)-(a:Int)).toNat:=by omega
   refine⟨⟨m+1,b,rfl,rfl,J,hb,x,λj y F=>?_,h2⟩,p⟩;rcases fO j m with d|d
   .have:=g.lt d (by omega:m<l.length);omega
   .have:j=m:=by omega
    subst this;exact E
  .have hc:=ck hc
   have r:id<=(l[m]).id:=by
    unfold oq at hc;split at hc
    .omega
    .omega
   have p:((m:Int)-(a:Int)).toNat<((b:Int)-(a:Int)).toNat:=by omega
   refine⟨⟨a,m,rfl,rfl,C,J,x,h1,λj y F=>?_⟩,p⟩;rcases fO m j with d|d
   .have:=g.lt d y;omega
   .have:j=m:=by omega
    subst this;exact r
 .have r:¬(a:Int)<(b:Int):=ck h
  have G:b=a:=by omega
  subst G;have t:fq l id=b:=OR hb h1 h2;refine bL (λc w'=>Ext w w'/\c=hasB l id) (λq z=>⟨λh=>?_,λh=>?_⟩) ?_
  .have aK:(b:Int)<(s.len:Int):=bI h
   have aK:b<l.length:=by omega
   obtain⟨A,ar,n,o⟩:=lY.get (k.ext e) aK;refine⟨A,ar,n,_,o,u,(pb _ id aH).use ?_⟩;rintro _ aJ ⟨rfl,f⟩;refine⟨_,rfl,z _ _ ⟨Ext.trans e f,?_⟩⟩;rw[hE,Hn g,jY];constructor
   .intro hc
    refine⟨J,?_⟩;simp only[t];unfold oq at hc;split at hc
    .omega
    .split at hc<;>omega
   .rintro⟨_,he⟩
    simp only[t]at he;unfold oq;rw[if_neg J,if_neg J]
  .have r:¬(b:Int)<(s.len:Int):=ck h
   refine z _ _ ⟨e,?_⟩
   symm
   rw[Bool.eq_false_iff];intro hc;obtain⟨d,_⟩:=(Hn g id).1 hc;omega
  .rintro _ aJ ⟨f,rfl⟩
   exact⟨by rw[t],f⟩
theorem ot{P:Program}{T:TypeId}{z:O}(h:(P.info? T).bind (·.zero)=some z):∃i,P.info? T=some i/\i.zero=some z:=by
 cases hi:P.info? T with
 |none=>rw[hi]at h;cases h
 |some i=>rw[hi]at h;exact⟨i,rfl,h⟩
theorem fD.m3{a b:fD}(h:a.c=b.c):a=b:=by
 simp only[fD.c]at h;obtain⟨h1,h2⟩:=List.append_inj h (by simp[aE.aM]);have d:=aE.m3 h1
 cases a;cases b
 simp_all
theorem fD.dQ(d:fD):aQ.dQ ((.bool::m4 16)++ [.int .u16,.int .u8]) d.c:=tW d.addr.dQ ⟨_,_,rfl,⟨_,rfl⟩,_,_,rfl,⟨_,rfl⟩,rfl⟩
theorem OT(a b:fD):jj ae 267 a.c.toArray b.c.toArray (decide (a=b)):=by
 have h:=jj.flat (P:=ae) (T:=267) (d:=(Tryz.prog.underlying 267).get (by kernel_rfl)) (ls:=(.bool::m4 16)++ [.int .u16,.int .u8]) (kp _).symm (by kernel_rfl) (by kernel_rfl) (by kernel_rfl) a.dQ b.dQ;have e:fx a.c b.c=decide (a=b):=by
  rw[hE,tX a.dQ b.dQ,dN];exact⟨fD.m3,λh=>by rw[h]⟩
 rwa[e]at h
def pH:O->Prop
 | .bool _=>True
 | .int _ _=>True
 | .pointer _=>True
 |_=>False
theorem OU(n:Nat):∀v,pH v->Instr.sameBits n v v=true:=by
 intro v a
 cases v<;>simp only[pH]at a<;>cases n<;>simp[Instr.sameBits]
theorem Ho(n:Nat)(l:Y O)(h:∀v∈l,pH v):Instr.sameBits (n+1) (.agg l.toArray) (.agg l.toArray)=true:=by
 have:∀l:Y O,(∀v∈l,pH v)->((l.zip l).all λ(x,y)=>Instr.sameBits n x y)=true:=by
  intro l
  induction l with
  |nil=>intro _;rfl
  |cons v l a=>
   intro h;simp only[List.zip_cons_cons,List.all_cons,dM];exact⟨OU n v (h v (by simp)),a λu hu=>h u (by simp[hu])⟩
 show((l.toArray.size==l.toArray.size)&&_)=true;rw[beq_self_eq_true,jf];exact this l h
theorem Hp(l:Y UInt8):∀v∈au l,pH v:=by
 intro v a;obtain⟨b,_,rfl⟩:=dX.1 a;trivial
theorem fD.bare(d:fD):∀v∈d.c,pH v:=by
 intro v a;rcases eL.1 a with a|a
 .rcases c4.1 a with rfl|a
  .trivial
  .exact Hp _ v a
 .simp only[c4,g1,hF]at a
  rcases a with rfl|rfl<;>trivial
theorem OV(b:ah)(d:fD)(w:I):(Instr.checkKey b 10000 267 (.agg d.c.toArray)).run ae w=.ok () w:=by
 obtain⟨⟨aj,l,h⟩,port,il⟩:=d;obtain⟨a,e,cf,f,g,i,j,k,m,n,o,p,q,r,s,t,rfl⟩:=iH l h
 kernel_rfl
abbrev encI:Int->O:=λn=>n
abbrev vD:fD->O:=λd=>.agg d.c.toArray
theorem CT:jl ae 3 encI:=jl.int (by kernel_rfl)
theorem As:jl ae 267 vD:=
 jl.agg (d:=(Tryz.prog.underlying 267).get (by kernel_rfl)) (kp _).symm (by kernel_rfl) (λa b w=>(OT a b).2 w) OV (λd=>Ho 9999 d.c d.bare)
structure Rec where
 s:cQ
 bs:Y bO
 bg:Nat
 k:ai
structure iP where
 p:Nat
 m1:Nat
 m2:Nat
def Rec.aT(r:Rec):Int×O:=(r.s.id,.pointer (some r.bg))
def Rec.a6(r:Rec):fD×O:=(r.s.jU,r.s.id)
structure ee(w:I)(bw:iP)(R:Y Rec):Prop where
 v:Var w bw.p [.map (some bw.m1),.map (some bw.m2)] 258
 bU:cR w bw.m1 encI (R.map Rec.aT)
 b1:cR w bw.m2 vD (R.map Rec.a6)
 ne:bw.m1≠bw.m2
 sv:∀r∈R,Var w r.bg (r.s.c r.k) 85
 cM:∀r∈R,aR 21 87 w r.k (fX r.bs)
 eO:∀r∈R,nm r.bs
 fU:∀r∈R,r.bs.length<=16
 ids:R.Pairwise λa b=>a.s.id<b.s.id
 len:R.length<=8
 apart:∀a∈R,∀b∈R,a.s.id≠b.s.id->a.bg≠b.bg/\∀q,aN a.k q->¬aN b.k q
def gY(bw:iP)(R:Y Rec)(q:Nat):Prop:=q=bw.p\/q=bw.m1\/q=bw.m2\/∃r∈R,q=r.bg\/aN r.k q
variable {w w':I}{bw:iP}{R:Y Rec}{r:Rec}
theorem Var.inj{b:Nat}{vs us:Y O}{T aO:TypeId}(h:Var w b vs T)(a:Var w b us aO):T=aO:=(a7.inj h a).2
theorem ee.ax{W:Nat->Prop}(h:ee w bw R)(hc:af W w w')(a:∀q,gY bw R q->¬W q):ee w' bw R:=
 ⟨h.v.ax hc (a _ (.inl rfl)),h.bU.ax hc (a _ (.inr (.inl rfl))),h.b1.ax hc (a _ (.inr (.inr (.inl rfl)))),h.ne,
  λr b=>(h.sv r b).ax hc (a _ (.inr (.inr (.inr ⟨r,b,.inl rfl⟩)))),λr b=>(h.cM r b).ax hc λq c=>a _ (.inr (.inr (.inr ⟨r,b,.inr c⟩))),
  h.eO,h.fU,h.ids,h.len,h.apart⟩
theorem ee.ext(h:ee w bw R)(hc:Ext w w'):ee w' bw R:=h.ax hc λ_ _ h=>h
theorem ee.lt(h:ee w bw R){q:Nat}(a:gY bw R q):q<w.heap.size:=by
 rcases a with rfl|rfl|rfl|⟨r,b,rfl|a⟩
 .exact h.v.lt
 .exact h.bU.lt
 .exact h.b1.lt
 .exact(h.sv r b).lt
 .exact(h.cM r b).lt q a
theorem ee.uniq(h:ee w bw R){a b:Rec}(e:a∈R)(hb:b∈R)(he:a.s.id=b.s.id):a=b:=by
 obtain⟨i,hi,rfl⟩:=fQ e;obtain⟨j,d,rfl⟩:=fQ hb;have:=tz.1 h.ids;rcases Nat.lt_trichotomy i j with c|c|c
 .have:=this i j hi d c;omega
 .subst c;rfl
 .have:=this j i d hi c;omega
theorem ee.cells(h:ee w bw R):w.cell? bw.p=some (.map (some bw.m1))/\w.cell? (Addr.add bw.p 1)=some (.map (some bw.m2)):=by
 rw[az];exact⟨h.v.cell,h.v.cell⟩
theorem Au:Tryz.prog.underlying 255=some (.map 3 264):=by kernel_rfl
theorem Av:Tryz.prog.underlying 256=some (.map 267 3):=by kernel_rfl
theorem Hq:(Tryz.prog.info? 264).bind (·.zero)=some (.pointer none):=by kernel_rfl
theorem Hr:(Tryz.prog.info? 3).bind (·.zero)=some (.int .i64 0):=by kernel_rfl
def jV(R:Y Rec)(id:Int):ah:=R.any λr=>r.s.id==id
def ou(R:Y Rec)(d:fD):ah:=R.any λr=>decide (r.s.jU=d)
theorem vE{id:Int}:jV R id=true↔∃r∈R,r.s.id=id:=by simp[jV]
theorem Aw{id:Int}:jV R id=false↔∀r∈R,r.s.id≠id:=by simp[jV]
theorem OW{d:fD}:ou R d=true↔∃r∈R,r.s.jU=d:=by simp[ou]
theorem Hs{d:fD}:ou R d=false↔∀r∈R,r.s.jU≠d:=by simp[ou]
theorem ee.look(h:ee w bw R)(id:Int):∃p:aw av,Sem.run ae (Instr.lookup 255 (.map (some bw.m1)) id true) w=.ok (.tuple #[.pointer p,.bool (jV R id)]) w/\(∀r∈R,r.s.id=id->p=some ⟨r.bg,0,none⟩):=by
 cases hh:jV R id with
 |true=>
  obtain⟨r,a,rfl⟩:=vE.1 hh;exact⟨some r.bg,h.bU.ud CT Au (k:=r.s.id) (v:=.pointer (some r.bg)) (dX.2 ⟨r,a,rfl⟩) true,λf c he=>by rw[h.uniq c a he]⟩
 |false=>
  have b:=Aw.1 hh;obtain⟨i,hi,d⟩:=ot Hq;exact⟨none,h.bU.oY CT Au hi d (λv e=>by
   obtain⟨r,a,he⟩:=dX.1 e;simp only[Rec.aT,Prod.mk.injEq]at he;exact b r a he.1) true,λr a he=>absurd he (b r a)⟩
theorem ee.OX(h:ee w bw R)(d:fD):∃n:Int,Sem.run ae (Instr.lookup 256 (.map (some bw.m2)) (.agg d.c.toArray) true) w=.ok (.tuple #[n,.bool (ou R d)]) w:=by
 cases hh:ou R d with
 |true=>
  obtain⟨r,a,rfl⟩:=OW.1 hh;exact⟨r.s.id,h.b1.ud As Av (k:=r.s.jU) (v:=r.s.id) (dX.2 ⟨r,a,rfl⟩) true⟩
 |false=>
  have b:=Hs.1 hh;obtain⟨i,hi,e⟩:=ot Hr;exact⟨0,h.b1.oY As Av hi e (λv f=>by
   obtain⟨r,a,he⟩:=dX.1 f;simp only[Rec.a6,Prod.mk.injEq]at he;exact b r a he.1) true⟩
theorem qv(w:I):aA ae 73 #[] w (λv w'=>∃bw:iP,v=.pointer (some bw.p)/\ee w' bw []/\Ext w w'/\∀q,gY bw [] q->w.heap.size<=q):=by
 refine Z.Ka w _ ?_;delta Z.qv aa;obtain⟨aS,bf⟩:=cR.make (P:=ae) (enc:=encI) 255 w;obtain⟨b,c⟩:=cR.make (P:=ae) (enc:=vD) 256 (w.alloc (.map #[] 0));have d:Ext w (w.alloc (.map #[] 0)):=af.alloc (.refl _ _) _;have cf:Ext (w.alloc (.map #[] 0)) ((w.alloc (.map #[] 0)).alloc (.map #[] 0)):=af.alloc (.refl _ _) _;refine⟨some w.heap.size,_,aS,some (w.alloc (.map #[] 0)).heap.size,_,b,aU (vs:=[.map (some w.heap.size),.map (some (w.alloc (.map #[] 0)).heap.size)]) rfl λaH e a h=>?_⟩;have f:(w.alloc (.map #[] 0)).heap.size=w.heap.size+1:=by simp
 have i:((w.alloc (.map #[] 0)).alloc (.map #[] 0)).heap.size=w.heap.size+2:=by simp
 refine⟨⟨_,w.heap.size,(w.alloc (.map #[] 0)).heap.size⟩,rfl,⟨e,(bf.ext cf).ext a,c.ext a,by show w.heap.size≠(w.alloc (.map #[] 0)).heap.size;rw[f];omega,by simp,by simp,by simp,by simp,by simp,by simp,by simp⟩,Ext.trans (Ext.trans d cf) a,?_⟩;rintro q (rfl|rfl|rfl|⟨r,g,_⟩)
 .show w.heap.size<=((w.alloc (.map #[] 0)).alloc (.map #[] 0)).heap.size;omega
 .exact bu _
 .show w.heap.size<=(w.alloc (.map #[] 0)).heap.size;omega
 .cases g
section
variable {α β:Type}
def jB(f:α->Int)(x:α)(l:Y α):Y α:=l.filter (λy=>decide (f y<f x))++x::l.filter (λy=>decide (f x<f y))
theorem OY(f:α->Int)(g:β->Int)(h:α->β)(hf:∀x,g (h x)=f x)(x:α)(l:Y α):(jB f x l).map h=jB g (h x) (l.map h):=by
 unfold jB;rw[fv,f_,List.filter_map,List.filter_map];simp only[Function.comp_def,hf]
theorem Ht(f:α->Int)(x:α):∀l:Y α,(∀y∈l,f y≠f x)->(jB f x l).Perm (x::l)
 |l,h=>by
  unfold jB
  refine ri.trans (List.Perm.cons _ ?_)
  have e:l.filter (λy=>decide (f x<f y))=l.filter (λy=> !decide (f y<f x)):=by
   apply List.filter_congr;intro y a;have:=h y a;rw[hE];simp;omega
  rw[e];exact List.filter_append_perm _ _
theorem Hu{f:α->Int}{x y:α}{l:Y α}(h:y∈jB f x l):y=x\/y∈l:=by
 unfold jB at h;rcases eL.1 h with h|h
 .exact .inr (ia.1 h).1
 .rcases c4.1 h with h|h
  .exact .inl h
  .exact .inr (ia.1 h).1
theorem OZ{f:α->Int}{x:α}{l:Y α}(h:l.Pairwise λa b=>f a<f b):(jB f x l).Pairwise λa b=>f a<f b:=by
 unfold jB;rw[List.pairwise_append,rn];refine⟨h.filter _,⟨λy c=>?_,h.filter _⟩,λa d b hb=>?_⟩
 .exact bI (ia.1 c).2
 .have h1:f a<f x:=bI (ia.1 d).2
  rcases c4.1 hb with rfl|hb
  .exact h1
  .have h2:f x<f b:=bI (ia.1 hb).2
   omega
theorem O0{f:α->Int}{x:α}{l:Y α}(h:∀y∈l,f y≠f x):(jB f x l).length=l.length+1:=by
 rw[(Ht f x l h).length_eq];simp
end
variable {w w':I}{bw:iP}{R:Y Rec}{r:Rec}
def kg(R:Y Rec)(s:cQ)(k:ai):Int:=if q3 s k then if jV R s.id||ou R s.jU then 7 else if R.length>=8 then 2 else 0 else 1
theorem cQ.plain(s:cQ)(k:ai):∀v∈s.c k,Plain v:=by
 intro v a;rcases c4.1 a with rfl|a
 .trivial
 rcases eL.1 a with a|a
 .exact s.addr.plain v a
 .simp only[c4,g1,hF]at a
  rcases a with rfl|rfl|rfl|rfl|rfl<;>trivial
theorem cQ.CU(s:cQ)(k b:ai):(s.c k).set 22 (.slice b.a b.len b.cap)=s.c b:=by
 unfold cQ.c;rw[List.set_cons_succ,tA _ _ (by rw[aE.aM];decide),aE.aM];rfl
theorem Var.set{b i:Nat}{vs:Y O}{T:TypeId}(h:Var w b vs T)(v:O):Var (w.setCell ⟨b,i,none⟩ v) b (vs.set i v) T:=by
 have:=a7.set h i v;rwa[show vs.toArray.setIfInBounds i v=(vs.set i v).toArray by simp]at this
theorem s6{b i:Nat}{vs:Y O}{T:TypeId}{v:O}(a:Var w b vs T){K:I->Prop}(h:∀w',Var w' b (vs.set i v) T->af (λq=>q=b) w w'->w'.heap.size=w.heap.size->K w'):aq (w.setCell ⟨b,i,none⟩ v) K:=
 h _ (a.set v) (af.set (W:=λq=>q=b) (A:=⟨b,i,none⟩) (.refl _ _) (λ_=>rfl) v) (by simp[World.setCell])
theorem O1(h:ee w bw R)(s:cQ)(k:ai):aA ae 75 #[.pointer (some bw.p),.agg (s.c k).toArray] w
 (λv w'=>v=.int .i64 (kg R s k)/\((kg R s k≠0/\ee w' bw R/\Ext w w')\/(kg R s k=0/\∃b,w.heap.size<=b/\ee w' bw (jB (λx=>x.s.id) ⟨s,[],b,⟨none,0,0⟩⟩ R)/\af (gY bw R) w w'))):=by
 refine Z.Kb (some bw.p) _ w _ ?_;(delta Z.uN ad aa br bx pt aY hJ st;dsimp only);refine aU (vs:=s.c k) rfl λw1 i am _=>bL (λb w'=>Ext w1 w'/\b= !q3 s k) (λq g=>⟨λh=>by simp at h,λ_=>⟨_,i.rd (cQ.aM _ _),(qz s k w1).use ?_⟩⟩) ?_
 .rintro _ aC ⟨rfl,an⟩
  exact⟨_,rfl,g _ _ ⟨an,rfl⟩⟩
 rintro _ aJ ⟨H,rfl⟩;have u:=Ext.trans am H;refine⟨λhm=>?_,λhm=>?_⟩
 .have hm:q3 s k=false:=by simpa using hm
  have e:kg R s k=1:=by unfold kg;rw[hm];rfl
  rw[e];exact⟨rfl,.inl ⟨by decide,h.ext u,u⟩⟩
 have hm:q3 s k=true:=by simpa using hm
 have lZ:Ext aJ aJ.drew:=af.drew (.refl _ _);have I:=Ext.trans u lZ;have K:=h.ext I;have L:=(i.ext H).ext lZ;obtain⟨ao,ap,a9⟩:=K.look s.id;have M:Ext aJ.drew aJ.drew.drew:=af.drew (.refl _ _);have N:=Ext.trans I M;have aq:=h.ext N;have O:=L.ext M;refine aL ⟨λ_=>False,_,rfl,id,_,K.cells.1,id,_,(gM L).1,ao,_,_,ap,aL ⟨λ_=>False,_,rfl,id,_,aq.cells.2,id,_,O.rd (cQ.aM _ _),(o9 s k _).use ?_⟩⟩;rintro _ bk ⟨rfl,z⟩;have n:=Ext.trans N z;have l:=h.ext n;have A:=O.ext z;obtain⟨n25,ar⟩:=l.OX s.jU;refine⟨_,rfl,z,n25,_,_,ar,.refl _ _,λhb=>?_,λhb=>?_⟩
 .have e:kg R s k=7:=by unfold kg;rw[hm,hb];rfl
  rw[e];exact⟨rfl,.inl ⟨by decide,l,n⟩⟩
 refine⟨_,rfl,_,l.cells.1,_,_,l.bU.len Au,λhl=>?_,λhl=>?_⟩
 .have hl:=bI hl
  rw[eM]at hl;have e:kg R s k=2:=by unfold kg;rw[hm,hb,if_pos rfl];simp only[gE,if_false];rw[if_pos J]
  rw[e];exact⟨rfl,.inl ⟨by decide,l,n⟩⟩
 have hl:=ck hl;rw[eM]at hl;have Q:kg R s k=0:=by unfold kg;rw[hm,hb,if_pos rfl];simp only[gE,if_false];rw[if_neg J]
 simp only[Bool.or_eq_false_iff]at hb;have S:=Aw.1 hb.1;have ie:=Hs.1 hb.2;have au:bk.cell? (Addr.add w.heap.size 22)=some (.slice k.a k.len k.cap):=(gM A).2.2.2.2.2.2;refine⟨⟨_,au⟩,by rw[az];exact a7.frozen A _ rfl,?_⟩;rw[az];refine s6 A λB U av a_=>?_;have ev:(s.c k).set (0+22) ()=s.c ⟨none,0,0⟩:=s.CU k ⟨none,0,0⟩;rw[ev]at U;have aw:Ext w B:=Ext.bR n av (bu _);have V:Ext B B.drew:=af.drew (.refl _ _);have W:=Ext.trans aw V;have X:=h.ext W;have o:=U.ext V;refine aL ⟨λ_=>False,_,rfl,id,_,X.cells.1,id,_,(gM o).1,_,rfl,id,_,X.cells.2,id,_,o.rd (cQ.aM _ _),id,_,(gM o).1,(o9 s _ _).use ?_⟩;rintro _ C ⟨rfl,D⟩;have Y:=Ext.trans W D;have f:=h.ext Y;have ab:=o.ext D;obtain⟨ba,ay,aB⟩:=ot Hq;obtain⟨bb,aD,aE⟩:=ot Hr;obtain⟨aF,aG,aH,aI,bc,aN⟩:=f.bU.wH CT Au (k:=s.id) ay aB (λv i=>by
  obtain⟨x,hx,he⟩:=dX.1 i;simp only[Rec.aT,Prod.mk.injEq]at he;exact S x hx he.1)
 obtain⟨r,aO,aP,bd,aQ⟩:=aN.store (P:=ae) 255 (.pointer (some w.heap.size));have E:af (λq=>q=bw.m1) C r:=aI.trans aP;have aS:cR r bw.m2 vD (R.map Rec.a6):=f.b1.ax E (λe=>h.ne e.symm);obtain⟨aV,aW,aX,aZ,be,a0⟩:=aS.wH As Av (k:=s.jU) aD aE (λv i=>by
  obtain⟨x,hx,he⟩:=dX.1 i;simp only[Rec.a6,Prod.mk.injEq]at he;exact ie x hx he.1)
 obtain⟨m,a1,a2,bf,a3⟩:=a0.store (P:=ae) 256 s.id;have F:af (λq=>q=bw.m2) r m:=aZ.trans a2;refine⟨_,rfl,D,_,aF,aG,aH,r,aO,_,aV,aW,aX,m,a1,by rw[Q],.inr ⟨Q,w.heap.size,bu _,?_,?_⟩⟩
 .have t:af (λq=>q=bw.m1\/q=bw.m2) C m:=(af.mono E λ_ _ h=>.inl h).trans (af.mono F λ_ _ h=>.inr h)
  have ac:∀y∈R,y.s.id≠s.id:=S;obtain⟨x,hx⟩:∃x:Rec,x=⟨s,[],w.heap.size,⟨none,0,0⟩⟩:=⟨_,rfl⟩;have ag:(jB (λx:Rec=>x.s.id) x R).Perm (x::R):=Ht _ _ _ (by rw[hx];exact ac);rw[←hx];have j:∀y∈jB (λx:Rec=>x.s.id) x R,y=x\/y∈R:=λy d=>Hu d;have a4:cR m bw.m1 encI ((jB (λx:Rec=>x.s.id) x R).map Rec.aT):=by
   refine(aQ.ax F h.ne).perm ?_;have:=(ag.map Rec.aT).symm;rw[f_]at this;rw[hx]at this⊢;exact this
  have a5:cR m bw.m2 vD ((jB (λx:Rec=>x.s.id) x R).map Rec.a6):=by
   refine a3.perm ?_;have:=(ag.map Rec.a6).symm;rw[f_]at this;rw[hx]at this⊢;exact this
  have G:∀q c T,a7 C q c T->¬(q=bw.m1\/q=bw.m2):=by
   rintro q c T ah (rfl|rfl)
   .exact f.bU.ij ah
   .exact f.b1.ij ah
  have aK:∀y∈R,y.bg<w.heap.size:=λy d=>(h.sv y d).lt;refine⟨f.v.ax t (G _ _ _ f.v),a4,a5,h.ne,λy d=>?_,λy d=>?_,λy d=>?_,λy d=>?_,OZ h.ids,?_,λa a8 b hb aj=>?_⟩
  .rcases j y d with rfl|d
   .rw[hx];exact ab.ax t (G _ _ _ ab)
   .exact(f.sv y d).ax t (G _ _ _ (f.sv y d))
  .rcases j y d with rfl|d
   .rw[hx];exact aR.none _ _ _
   .exact(f.cM y d).ax t λq g hm=>hm.elim (λe=>by subst e;exact(f.cM y d).BA g f.bU) (λe=>by subst e;exact(f.cM y d).BA g f.b1)
  .rcases j y d with rfl|d
   .rw[hx];exact List.Pairwise.nil
   .exact h.eO y d
  .rcases j y d with rfl|d
   .rw[hx];exact dC _
   .exact h.fU y d
  .rw[O0 (by rw[hx];exact ac)];omega
  .rcases j a a8 with rfl|ak<;>rcases j b hb with rfl|al
   .exact absurd rfl aj
   .refine⟨?_,λq g=>?_⟩
    .have:=aK b al;rw[hx];show w.heap.size≠_;omega
    .rw[hx]at g;exact(gb q g).elim
   .refine⟨?_,λq _ g=>?_⟩
    .have:=aK a ak;rw[hx];show _≠w.heap.size;omega
    .rw[hx]at g;exact(gb q g).elim
   .exact h.apart a ak b al aj
 .exact(af.bt Y).trans ((af.mono E λq _ e=>.inr (.inl e)).trans (af.mono F λq _ e=>.inr (.inr (.inl e))))
variable {w w':I}{bw:iP}{R:Y Rec}{r:Rec}
abbrev kh:=cQ×Y bO
def ey(R:Y Rec):Y kh:=R.map λr=>(r.s,r.bs)
def nn(L:Y kh)(s:cQ)(k:ai):Int×Y kh:=
 if q3 s k then if (L.any λx=>x.1.id==s.id)||(L.any λx=>decide (x.1.jU=s.jU)) then (7,L) else if L.length>=8 then (2,L) else (0,jB (λx=>x.1.id) (s,[]) L) else (1,L)
def Ax(L:Y kh)(a:Int)(g:Y bO->Y bO):Y kh:=L.map λx=>if x.1.id=a then (x.1,g x.2) else x
def s7(s:cQ)(b:bO):ah:=s4 b.id&&b.addr.cP&&(b.addr.aj==s.addr.aj)&& !(b.port==0)&&s5 b.weight&& !b.pG
def ov(b:bO)(l:Y bO):Y bO:=l.take (fq l b.id)++ [b]++l.drop (fq l b.id)
def pI(L:Y kh)(a:Int)(b:bO):Int×Y kh:=
 match L.find? λx=>x.1.id==a with
 |none=>(6,L)
 |some x=>if s7 x.1 b then if hasB x.2 b.id then (7,L) else if x.2.length>=16 then (2,L) else (0,Ax L a (ov b)) else (1,L)
def q4(L:Y kh)(a b:Int):ah:=L.any λx=>(x.1.id==a)&&hasB x.2 b
def Step(bw:iP)(R:Y Rec)(w:I)(x:Int×Y kh)(v:O)(w':I):Prop:=
 v=x.1/\∃a,ee w' bw a/\ey a=x.2/\af (gY bw R) w w'/\∀q,gY bw a q->gY bw R q\/w.heap.size<=q
theorem Step.same(h:ee w bw R)(hx:Ext w w'){e:Int}{v:O}(a:v=e):Step bw R w (e,ey R) v w':=
 ⟨a,R,h.ext hx,rfl,af.bt hx,λ_ h=>.inl h⟩
theorem Ay(R:Y Rec)(p:kh->ah):(ey R).any p=R.any λr=>p (r.s,r.bs):=by unfold ey;rw[List.any_map];rfl
theorem O2(h:ee w bw R)(s:cQ)(k:ai):aA ae 75 #[.pointer (some bw.p),.agg (s.c k).toArray] w (λv w'=>Step bw R w (nn (ey R) s k) v w'):=by
 refine(O1 h s k).mono ?_;have e:(nn (ey R) s k).1=kg R s k:=by
  unfold nn kg;rw[Ay,Ay,show(ey R).length=R.length by simp[ey]];show _=if q3 s k then if (jV R s.id||ou R s.jU)=true then (7:Int) else if R.length>=8 then 2 else 0 else 1
  unfold jV ou;split
  .split
   .rfl
   .split<;>rfl
  .rfl
 have a6:kg R s k≠0->(nn (ey R) s k).2=ey R:=by
  intro a;rw[←e]at a;unfold nn at a⊢;split
  .split
   .rfl
   .split
    .rfl
    .rename_i h1 h2 f
     rw[if_pos h1,if_neg h2,if_neg f]at a;exact absurd rfl a
  .rfl
 have i:kg R s k=0->(nn (ey R) s k).2=jB (λx=>x.1.id) (s,[]) (ey R):=by
  intro h0;rw[←e]at h0;unfold nn at h0⊢;split
  .split
   .rename_i h1 h2
    rw[if_pos h1,if_pos h2]at h0;exact absurd h0 (show(7:Int)≠0 by decide)
   .split
    .rename_i h1 h2 f
     rw[if_pos h1,if_neg h2,if_pos f]at h0;exact absurd h0 (show(2:Int)≠0 by decide)
    .rfl
  .rename_i h1
   rw[if_neg h1]at h0;exact absurd h0 (show(1:Int)≠0 by decide)
 rintro v w' ⟨rfl,⟨a,g,hx⟩|⟨h0,b,hb,g,hc⟩⟩
 .exact⟨by rw[e],R,g,(a6 a).symm,af.bt hx,λ_ h=>.inl h⟩
 .refine⟨by rw[e],_,g,?_,hc,λq d=>?_⟩
  .rw[i h0]
   exact OY (λx:Rec=>x.s.id) (λx:kh=>x.1.id) (λr:Rec=>(r.s,r.bs)) (λ_=>rfl) _ _
  .rcases d with rfl|rfl|rfl|⟨x,hx,d⟩
   .exact .inl (.inl rfl)
   .exact .inl (.inr (.inl rfl))
   .exact .inl (.inr (.inr (.inl rfl)))
   .rcases Hu hx with rfl|hx
    .rcases d with rfl|d
     .exact .inr hb
     .exact(gb q d).elim
    .exact .inl (.inr (.inr (.inr ⟨x,hx,d⟩)))
theorem ee.set(h:ee w bw R)(n:r∈R){bs:Y bO}{k:ai}(hc:af (λq=>q=r.bg\/aN r.k q) w w')(B:Var w' r.bg (r.s.c k) 85)(C:aR 21 87 w' k (fX bs))(D:nm bs)(E:bs.length<=16)
 (p:∀q,aN k q->aN r.k q\/w.heap.size<=q):∃t,ee w' bw t/\ey t=(ey R).map (λx=>if x.1.id=r.s.id then (x.1,bs) else x)/\∀q,gY bw t q->gY bw R q\/w.heap.size<=q:=by
 obtain⟨g,hg⟩:∃g:Rec->Rec,g=λx=>if x.s.id=r.s.id then ⟨x.s,bs,x.bg,k⟩ else x:=⟨_,rfl⟩
 have j:∀x,(g x).s=x.s/\(g x).bg=x.bg:=λx=>by rw[hg];simp only;split<;>exact⟨rfl,rfl⟩
 have F:g r=⟨r.s,bs,r.bg,k⟩:=by rw[hg];simp
 have G:∀x∈R,x.s.id≠r.s.id->g x=x:=λx _ hx=>by rw[hg];simp[hx]
 have l:∀x∈R,(x=r/\g x=⟨r.s,bs,r.bg,k⟩)\/(x.s.id≠r.s.id/\g x=x):=λx hx=>by
  by_cases he:x.s.id=r.s.id
  .have:=h.uniq hx n he
   subst this;exact .inl ⟨rfl,F⟩
  .exact .inr ⟨he,G x hx he⟩
 have z:=h.cM r n;have u:=h.sv r n;have cu:∀q c T,a7 w q c T->T≠87->q≠r.bg->¬(q=r.bg\/aN r.k q):=by
  rintro q c T H I d (e|e)
  .exact d e
  .exact I (z.ij e H).symm
 have hm:∀ {α:Type}{enc:α->O}{M:Y (α×O)}{q:Nat},cR w q enc M->¬(q=r.bg\/aN r.k q):=by
  rintro α enc M q A (rfl|e)
  .exact A.ij u
  .exact z.BA e A
 have aT:(R.map g).map Rec.aT=R.map Rec.aT:=by
  rw[jE];exact mN λx _=>by simp only[Function.comp,Rec.aT,(j x).1,(j x).2]
 have a6:(R.map g).map Rec.a6=R.map Rec.a6:=by
  rw[jE];exact mN λx _=>by simp only[Function.comp,Rec.a6,(j x).1]
 have hold:∀x∈R,∀q,aN x.k q->q<w.heap.size:=λx hx=>(h.cM x hx).lt;refine⟨R.map g,⟨h.v.ax hc (cu _ _ _ h.v (by decide) (λe=>by have:=h.v;rw[e]at this;exact absurd (this.inj u) (by decide))),by rw[aT];exact h.bU.ax hc (hm h.bU),by rw[a6];exact h.b1.ax hc (hm h.b1),h.ne,λy f=>?_,λy f=>?_,λy f=>?_,λy f=>?_,?_,by rw[eM];exact h.len,λa J b hb i=>?_⟩,?_,λq d=>?_⟩
 .obtain⟨x,hx,rfl⟩:=dX.1 f
  rcases l x hx with ⟨rfl,he⟩|⟨i,he⟩
  .rw[he];exact B
  .rw[he];exact(h.sv x hx).ax hc (cu _ _ _ (h.sv x hx) (by decide) (h.apart x hx r n i).1)
 .obtain⟨x,hx,rfl⟩:=dX.1 f
  rcases l x hx with ⟨rfl,he⟩|⟨i,he⟩
  .rw[he];exact C
  .rw[he]
   refine(h.cM x hx).ax hc λq d hm=>?_;rcases hm with rfl|hm
   .exact absurd ((h.cM x hx).ij d u) (by decide)
   .exact(h.apart x hx r n i).2 q d hm
 .obtain⟨x,hx,rfl⟩:=dX.1 f
  rcases l x hx with ⟨rfl,he⟩|⟨i,he⟩
  .rw[he];exact D
  .rw[he];exact h.eO x hx
 .obtain⟨x,hx,rfl⟩:=dX.1 f
  rcases l x hx with ⟨rfl,he⟩|⟨i,he⟩
  .rw[he];exact E
  .rw[he];exact h.fU x hx
 .rw[List.pairwise_map]
  exact h.ids.imp λ{a b} K=>by rw[(j a).1,(j b).1];exact K
 .obtain⟨x,hx,rfl⟩:=dX.1 J
  obtain⟨y,f,rfl⟩:=dX.1 hb;rw[(j x).1,(j y).1]at i;refine⟨by rw[(j x).2,(j y).2];exact(h.apart x hx y f i).1,λq d m=>?_⟩;rcases l x hx with ⟨rfl,he⟩|⟨L,he⟩<;>rcases l y f with ⟨rfl,o⟩|⟨N,o⟩
  .exact i rfl
  .rw[he]at d;rw[o]at m
   rcases p q d with h1|h1
   .exact(h.apart x hx y f i).2 q h1 m
   .have:=hold y f q m;omega
  .rw[he]at d;rw[o]at m
   rcases p q m with h1|h1
   .exact(h.apart x hx y f i).2 q d h1
   .have:=hold x hx q d;omega
  .rw[he]at d;rw[o]at m
   exact(h.apart x hx y f i).2 q d m
 .unfold ey
  rw[jE,jE];refine mN λx hx=>?_;simp only[Function.comp];rcases l x hx with ⟨rfl,he⟩|⟨i,he⟩
  .rw[he,if_pos rfl]
  .rw[he,if_neg i]
 .rcases d with rfl|rfl|rfl|⟨y,f,d⟩
  .exact .inl (.inl rfl)
  .exact .inl (.inr (.inl rfl))
  .exact .inl (.inr (.inr (.inl rfl)))
  .obtain⟨x,hx,rfl⟩:=dX.1 f
   rcases l x hx with ⟨rfl,he⟩|⟨i,he⟩
   .rw[he]at d
    rcases d with rfl|d
    .exact .inl (.inr (.inr (.inr ⟨x,hx,.inl rfl⟩)))
    .rcases p q d with h1|h1
     .exact .inl (.inr (.inr (.inr ⟨x,hx,.inr h1⟩)))
     .exact .inr h1
   .rw[he]at d
    exact .inl (.inr (.inr (.inr ⟨x,hx,d⟩)))
variable {w w':I}{bw:iP}{R:Y Rec}{r:Rec}
theorem qA(h:ee w bw R)(a:r∈R)(id:Int):aA ae 131 #[.pointer (some r.bg),id] w (λv w'=>v=.tuple #[.int .i64 ((fq r.bs id:Nat):Int),.bool (hasB r.bs id)]/\Ext w w'):=by
 refine okF (Z.qA (some r.bg) id) ao.qA func131 ?_;(delta Z.qA pt a_ hG;dsimp only);refine⟨_,rfl,r.k,(gM (h.sv r a)).2.2.2.2.2.2,(OS id (h.cM r a).src (h.eO r a) (by have:=h.fU r a;omega)).use ?_⟩;rintro _ c ⟨rfl,b⟩;exact⟨_,_,rfl,rfl,b⟩
theorem Hv(h:ee w bw R)(a:Int):(ey R).find? (λx=>x.1.id==a)=(R.find? λr=>r.s.id==a).map λr=>(r.s,r.bs):=by
 unfold ey;rw[List.find?_map];rfl
theorem O3(h:ee w bw R)(a:r∈R):R.find? (λx=>x.s.id==r.s.id)=some r:=by
 cases hf:R.find? (λx=>x.s.id==r.s.id) with
 |none=>
  have:=oL.1 hf r a;simp at this
 |some x=>
  have hx:=mP hf;have hm:=lv hf;rw[h.uniq hm a (eq_of_beq hx)]
theorem O4(h:ee w bw R)(a:r∈R)(b:Int):q4 (ey R) r.s.id b=hasB r.bs b:=by
 unfold q4;rw[Ay,hE,oG];constructor
 .rintro⟨x,hx,he⟩
  simp only[dM,jY]at he;rw[h.uniq hx a he.1]at he;exact he.2
 .intro he
  exact⟨r,a,by simp[he]⟩
theorem O5{a:Int}(b:jV R a=false)(c:Int):q4 (ey R) a c=false:=by
 unfold q4;rw[Ay,oD];intro x hx;have:=Aw.1 b x hx;simp[this]
theorem O6(h:ee w bw R)(b a:Int):aA ae 135 #[.pointer (some bw.p),b,a] w
 (λv w'=>Ext w w'/\((∃r∈R,r.s.id=b/\hasB r.bs a=true/\v=.tuple #[.pointer (some r.bg),.int .i64 ((fq r.bs a:Nat):Int),(0:Int)])\/(q4 (ey R) b a=false/\v=.tuple #[.pointer none,(0:Int),(6:Int)]))):=by
 refine okF (Z.yd (some bw.p) b a) ao.yd func135 ?_;(delta Z.yd ad pt hG;dsimp only);obtain⟨e,hl,f⟩:=h.look b;refine⟨λg=>by simp at g,λ_=>⟨_,rfl,_,h.cells.1,e,_,w,hl,λhb=>?_,λhb=>?_⟩⟩
 .have hb:jV R b=false:=by simpa using hb
  exact⟨.refl _ _,.inr ⟨O5 hb a,rfl⟩⟩
 .have hb:jV R b=true:=by simpa using hb
  obtain⟨r,c,rfl⟩:=vE.1 hb;rw[f r c rfl];refine(qA h c a).use ?_;rintro _ i ⟨rfl,d⟩;refine⟨_,_,rfl,λhb=>?_,λhb=>?_⟩
  .have hb:hasB r.bs a=false:=by simpa using hb
   exact⟨d,.inr ⟨by rw[O4 h c,hb],rfl⟩⟩
  .have hb:hasB r.bs a=true:=by simpa using hb
   exact⟨d,.inl ⟨r,c,rfl,hb,rfl⟩⟩
theorem O7{a:Int}(h:ee w bw R)(b:r∈R)(c:r.s.id=a)(g:Y bO->Y bO):(ey R).map (λx=>if x.1.id=r.s.id then (x.1,g r.bs) else x)=Ax (ey R) a g:=by
 subst c;unfold Ax ey;rw[jE,jE];refine mN λx hx=>?_;simp only[Function.comp];by_cases he:x.s.id=r.s.id
 .rw[if_pos he,if_pos he,h.uniq hx b he]
 .rw[if_neg he,if_neg he]
theorem O8{l:Y bO}(h:nm l){b:bO}(c:hasB l b.id=false):nm (ov b l):=by
 unfold ov nm;rw[dg,List.pairwise_append];refine⟨List.Pairwise.sublist (List.take_sublist _ _) h,?_,λx hx y a=>?_⟩
 .rw[List.singleton_append,rn]
  refine⟨λx hx=>?_,List.Pairwise.sublist (List.drop_sublist _ _) h⟩;obtain⟨j,d,rfl⟩:=fQ hx;rw[List.getElem_drop];rw[jZ]at d;have h1:=CS h (id:=b.id) (j:=fq l b.id+j) J J;have h2:(l[fq l b.id+j]'J).id≠b.id:=by
   intro e;have:hasB l b.id=true:=by unfold hasB;exact oG.2 ⟨_,dD _,by rw[e];simp⟩
   rw[this]at c;cases c
  omega
 .obtain⟨j,d,rfl⟩:=List.mem_take_iff_getElem.1 hx
  have h1:(l[j]'J).id<b.id:=Hm J;rcases eL.1 a with a|a
  .rw[dH.1 a];exact h1
  .obtain⟨i,hi,rfl⟩:=fQ a
   rw[jZ]at hi;rw[List.getElem_drop];have h2:=CS h (id:=b.id) (j:=fq l b.id+i) J J;omega
theorem O9{l:Y bO}(b:bO):(ov b l).length=l.length+1:=by
 unfold ov;have:=CR l b.id;simp;omega
theorem Step.O_{x:Int×Y kh}{v:O}{w1:I}(hx:Ext w w1)(h:Step bw R w1 x v w'):Step bw R w x v w':=by
 obtain⟨a,b,h1,h2,c,d⟩:=h;exact⟨a,b,h1,h2,(af.bt hx).trans c,λq e=>(d q e).imp id λh=>cB hx.size h⟩
theorem Pa(a:r∈R):∀q,q=r.bg\/aN r.k q->gY bw R q:=λ_ b=>.inr (.inr (.inr ⟨r,a,b⟩))
variable {w w':I}{bw:iP}{R:Y Rec}{r:Rec}
theorem np{b:Nat}{T:TypeId}{x:bO}(h:Var w b x.c T):w.cell? ⟨b,0,none⟩=some (.int .i64 x.id)/\w.cell? (Addr.add ⟨b,0,none⟩ 1)=some (.bool x.addr.aj)/\w.cell? (Addr.add ⟨b,0,none⟩ 18)=some (.int .u16 x.port)/\w.cell? (Addr.add ⟨b,0,none⟩ 19)=some (.int .i64 x.weight)/\w.cell? (Addr.add ⟨b,0,none⟩ 20)=some (.bool x.pG):=by
 simp only[az,h.cell];refine⟨rfl,rfl,?_,?_,?_⟩<;>simp[bO.c,List.getElem?_append,aE.aM]
theorem Pb{b:Nat}{T:TypeId}{x:bO}(h:Var w b x.c T):aG w (Addr.add ⟨b,0,none⟩ 1) 0 17=some x.addr.c:=by
 rw[az,h.e2 (by rw[bO.aM];decide)];show some ((x.addr.c++_).take 17)=_;rw[kS (by rw[aE.aM];decide),fb (by rw[aE.aM];decide)]
theorem Pc(x:bO)(w:I):Sem.run ae (Instr.buildSlice 83 1 #[(0,.agg x.c.toArray)]) w=.ok (.slice (some ⟨w.heap.size,0,none⟩) 1 1) (w.alloc (.cells x.c.toArray 87)):=by
 obtain⟨id,⟨aj,b,h⟩,port,weight,pG⟩:=x;obtain⟨a,d,cf,e,f,g,i,j,k,l,m,n,o,p,q,r,rfl⟩:=iH b h
 kernel_rfl
def ow(s:cQ)(b:bO):ah:= !s4 b.id|| !b.addr.cP|| !(b.addr.aj==s.addr.aj)||b.port==0|| !s5 b.weight||b.pG
theorem Pd(s:cQ)(b:bO):ow s b= !s7 s b:=by
 unfold ow s7
 cases s4 b.id<;>cases b.addr.cP<;>cases (b.addr.aj==s.addr.aj)<;>cases (b.port==0)<;>cases s5 b.weight<;>cases b.pG<;>rfl
theorem CV{x:Nat}{T:TypeId}{b:bO}{w1:I}(c:ah){b0:ah}(hc:c=(b0||b.port==0|| !s5 b.weight||b.pG))(e:Var w1 x b.c T){q:ah->I->Prop}(a:∀w',Ext w1 w'->q c w'):
 aV (λf:ah->I->Prop=>(b0=true->f true w1)/\(b0=false->∃n21:Int,w1.cell? (Addr.add x 18)=some (.int .u16 n21)/\f ((n21:Int)==0) w1))
  (λ(g:ah) (b8:I)=>aV (λh:ah->I->Prop=>(g=true->h true b8)/\(g=false->∃n25:Int,b8.cell? (Addr.add x 19)=some (.int .i64 n25)/\
    Calls ae 133 #[n25] b8 λp r=>∃i:ah,p=.returned i/\h (!i) r))
    (λ(j:ah) (d:I)=>aV (λk:ah->I->Prop=>(j=true->k true d)/\(j=false->∃l:ah,d.cell? (Addr.add x 20)=some (.bool l)/\k l d))
      (λ(s:ah) (t:I)=>q s t))):=by
 subst hc;refine hN (b.port==0) (λ_ q a=>⟨_,(np e).2.2.1,a _ (.refl _ _)⟩) λag m=>?_;have n:=e.ext m;refine hN (!s5 b.weight) (λ_ q a=>⟨_,(np n).2.2.2.1,(uQ _ ag).use ?_⟩) λw o=>?_
 .rintro _ _ ⟨rfl,rfl⟩
  exact⟨_,rfl,a _ (.refl _ _)⟩
 have u:=n.ext o;exact hN b.pG (λ_ q a=>⟨_,(np u).2.2.2.2,a _ (.refl _ _)⟩) λaC v=>a _ (Ext.trans m (Ext.trans o v))
theorem Pe(h:ee w bw R)(j:Int)(b:bO):aA ae 76 #[.pointer (some bw.p),j,.agg b.c.toArray] w (λv w'=>Step bw R w (pI (ey R) j b) v w'):=by
 refine Z.Kc (some bw.p) j _ w _ ?_;(delta Z.uO ad pt aY aa hG bx br ef e0 bh cT bq EV BC a_ fk bl st;dsimp only);refine aU (vs:=b.c) rfl λw1 y z an=>⟨λU=>by simp at U,λ_=>?_⟩;have h1:=h.ext z;obtain⟨V,hl,W⟩:=h1.look j;refine⟨_,rfl,_,h1.cells.1,V,_,w1,hl,λhb=>?_,λhb=>?_⟩
 .have hb:jV R j=false:=by simpa using hb
  have e:pI (ey R) j b=(6,ey R):=by
   unfold pI;rw[Hv h];have:R.find? (λr=>r.s.id==j)=none:=oL.2 λx hx=>by simpa using Aw.1 hb x hx
   rw[this];rfl
  rw[e];exact Step.same h z rfl
 have hb:jV R j=true:=by simpa using hb
 obtain⟨r,a,rfl⟩:=vE.1 hb;have X:=W r a rfl;rw[X];have f:pI (ey R) r.s.id b=if s7 r.s b then if hasB r.bs b.id then (7,ey R) else if r.bs.length>=16 then (2,ey R) else (0,Ax (ey R) r.s.id (ov b)) else (1,ey R):=by
  unfold pI;rw[Hv h,O3 h a];rfl
 refine⟨_,(np y).1,(qA h1 a b.id).use ?_⟩;rintro _ aJ ⟨rfl,n⟩;have Y:=Ext.trans z n;refine⟨_,_,rfl,bL (λc w'=>Ext aJ w'/\c=ow r.s b) (λq d=>?_) ?_⟩
 .have hd:Ext aJ aJ.drew:=af.drew (.refl _ _)
  have o:=(y.ext n).ext hd;refine aL ⟨λ_=>False,id,_,(np o).1,(sf b.id _).use ?_⟩;rintro _ _ ⟨rfl,rfl⟩;refine⟨_,rfl,λ_=>False,λhi=>?_,λhi=>⟨id,_,Pb o,(Hh b.addr _).use ?_⟩⟩
  .refine CV (b0:=true) (ow r.s b) ?_ o λw' hx=>d _ _ ⟨Ext.trans hd hx,rfl⟩
   unfold ow;rw[hi];rfl
  rintro _ cr ⟨rfl,A⟩;have B:=o.ext A;have C:=Ext.trans hd A;refine⟨_,rfl,A,λhg=>?_,λhg=>?_⟩
  .refine CV (b0:=true) (ow r.s b) ?_ B λw' hx=>d _ _ ⟨Ext.trans C hx,rfl⟩
   unfold ow;rw[hi,hg];rfl
  .have ab:=(h1.ext n).ext C
   refine⟨id,_,(np B).2.1,_,rfl,id,_,(gM (ab.sv r a)).2.1,?_⟩;refine CV (b0:= !(b.addr.aj==r.s.addr.aj)) (ow r.s b) ?_ B λw' hx=>d _ _ ⟨Ext.trans C hx,rfl⟩;unfold ow;rw[hi,hg];rfl
 rintro _ g ⟨H,rfl⟩;rw[Pd];have m:=Ext.trans Y H;have I:=h.ext m;refine⟨λhc=>?_,λhc=>⟨λhh=>?_,λhh=>⟨_,rfl,r.k,(gM (I.sv r a)).2.2.2.2.2.2,λhl=>?_,λhl=>?_⟩⟩⟩
 .have hc:s7 r.s b=false:=by simpa using hc
  rw[hc]at f;rw[f];exact Step.same h m rfl
 all_goals have hc:s7 r.s b=true:=by simpa using hc
 all_goals rw[hc,if_pos rfl]at f
 .rw[hh,if_pos rfl]at f
  rw[f];exact Step.same h m rfl
 all_goals rw[hh]at f
 all_goals simp only[gE,if_false]at f
 all_goals have ao:=lY.len (I.cM r a).src
 .have hl:(r.k.len:Int)>=16:=bI hl
  rw[if_pos J]at f;rw[f];exact Step.same h m rfl
 have hl:¬(r.k.len:Int)>=16:=ck hl;rw[if_neg J]at f;have hd:Ext g g.drew:=af.drew (.refl _ _);have K:=Ext.trans m hd;have t:=h.ext K;have L:=((y.ext n).ext H).ext hd;have ap:w.heap.size<g.drew.heap.size:=L.lt;have M:Ext g.drew (g.drew.alloc (.cells b.c.toArray 87)):=af.alloc (.refl _ _) _;have N:=Ext.trans K M;have D:=h.ext N;have E:=D.cM r a;have u:=D.sv r a;have ac:¬aN r.k g.drew.heap.size:=λd=>by have:=(t.cM r a).lt _ d;omega
 refine aL ⟨aN r.k,_,rfl,?_,r.k,(gM (t.sv r a)).2.2.2.2.2.2,?_,_,L.rd b.aM,⟨some g.drew.heap.size,1,1⟩,_,Pc b _,af.bt M,?_⟩
 .rw[az];intro d;exact absurd ((t.cM r a).ij d (t.sv r a)) (by decide)
 .intro d
  have:=(h.cM r a).lt _ d;simp at this
 refine(ON (v:=⟨some g.drew.heap.size,1,1⟩) (i:=fq r.bs b.id) E (Src.new _ _ 1 (by rw[b.aM])) rfl rfl (a7.new _ _ _) ac b.plain (Hj _) (by have:=CR r.bs b.id;omega) J).use ?_;rintro _ ag ⟨l,rfl,ah,aq,F,O⟩;have G:Var ag r.bg (r.s.c r.k) 85:=u.ax F λd=>absurd (E.ij d u) (by decide);refine⟨l,rfl,F,_,rfl,⟨_,(gM G).2.2.2.2.2.2⟩,by rw[az];exact a7.frozen G _ rfl,?_⟩;rw[az];refine s6 G λP Q S ar=>?_;have ev:(r.s.c r.k).set (0+22) l=r.s.c l:=r.s.CU r.k l;rw[ev]at Q;have T:af (λq=>q=r.bg\/aN r.k q) (g.drew.alloc (.cells b.c.toArray 87)) P:=(af.mono F λ_ _ h=>.inr h).trans (af.mono S λ_ _ h=>.inl h);have ai:¬aN l r.bg:=λd=>by
  rcases O _ d with h1|h1
  .exact absurd (E.ij h1 u) (by decide)
  .have:=u.lt;omega
 have ak:aR 21 87 P l (fX (ov b r.bs)):=by
  have:=ah.ax S (λq d e=>by subst e;exact ai d);unfold ov;rw[Hk,Hk,OO,←Hl,←CQ];exact this
 rw[f];obtain⟨al,aS,bf,am⟩:=D.set a T Q ak (O8 (h.eO r a) hh) (by rw[O9];omega) O;refine Step.O_ N ⟨rfl,al,aS,?_,af.mono T λq _ d=>Pa a q d,am⟩;rw[bf,O7 h a rfl (ov b)]
def cQ.zero:cQ:=⟨0,aE.zero,0,0,0,0⟩
abbrev ez:ai:=⟨none,0,0⟩
def bO.zero:bO:=⟨0,aE.zero,0,0,false⟩
theorem Pf(w:I):Sem.run ae (Instr.build 87 #[]) w=.ok (.agg bO.zero.c.toArray) w:=by kernel_rfl
variable {w w':I}{bw:iP}{R:Y Rec}{r:Rec}
theorem Pg(h:ee w bw R)(b:r∈R):aA ae 142 #[.pointer (some ⟨bw.p,0,none⟩),.int .i64 r.s.id] w
 (λv w'=>∃k:ai,v=.tuple #[.agg (r.s.c k).toArray,.bool true]/\aR 21 87 w' k (fX r.bs)/\Ext w w'/\∀q,aN k q->w.heap.size<=q):=by
 refine Z.Kn (some ⟨bw.p,0,none⟩) _ w _ ?_;(delta Z.uS BD ad BK aa pt al a_ bl st;dsimp only);refine aU (vs:=cQ.zero.c ez) (by kernel_rfl) λw1 i g M=>⟨λB=>by simp at B,λ_=>?_⟩;have h1:=h.ext g;obtain⟨C,hl,o⟩:=h1.look r.s.id;have D:jV R r.s.id=true:=vE.2 ⟨r,b,rfl⟩;have E:=h1.sv r b;refine⟨_,rfl,_,h1.cells.1,C,_,w1,hl,λhb=>(by rw[D]at hb;cases hb),λ_=>⟨_,o r b rfl,_,E.rd (cQ.aM _ _),aU (vs:=cQ.zero.c ez) (by kernel_rfl) λN t F O=>⟨t.cl (by simp[cQ.aM]) (cQ.plain _ _),by simp[cQ.aM],cY t (us:=r.s.c r.k) (by simp[cQ.aM]) rfl λG u H P=>?_⟩⟩⟩;have d:Ext w1 G:=Ext.bR F H (bu _);have x:=h1.ext d;refine⟨_,o r b rfl,r.k,(gM (x.sv r b)).2.2.2.2.2.2,(OQ (x.cM r b).src (by have:=h.fU r b;omega)).use ?_⟩;rintro _ I ⟨k,rfl,J,Q,j,l⟩;have m:=u.ext j;refine⟨k,rfl,⟨_,(gM m).2.2.2.2.2.2⟩,by rw[az];exact a7.frozen m _ rfl,?_⟩;rw[az];refine s6 m λbk y n S=>?_;have ev:(r.s.c r.k).set (0+22) (.slice k.a k.len k.cap)=r.s.c k:=r.s.CU r.k k;rw[ev]at y;have z:Var bk w.heap.size (cQ.zero.c ez) 85:=((i.ext d).ext j).ax n (by have:=i.lt;omega);refine⟨_,y.rd (cQ.aM _ _),z.cl (by simp[cQ.aM]) (cQ.plain _ _),by simp[cQ.aM],cY z (us:=r.s.c k) (by simp[cQ.aM]) rfl λT K A U=>⟨_,K.rd (cQ.aM _ _),k,rfl,?_,?_,λq f=>?_⟩⟩
 .refine(J.ax n λq f e=>?_).ax A λq f e=>?_
  .subst e;have:=l _ f;have:=u.lt;omega
  .subst e;have:=l _ f;have:=d.size;have:=i.lt;omega
 .have L:Ext w I:=Ext.trans g (Ext.trans d j)
  exact Ext.bR (Ext.bR L n g.size) A (bu _)
 .have:=l q f;have:=(Ext.trans g d).size;omega
theorem Ph(h:ee w bw R)(f:r∈R)(a:aE)(p q:Int)(hd:r.s.jU=⟨a,p,q⟩):aA ae 141 #[.pointer (some bw.p),.agg a.c.toArray,.int .u16 p,.int .u8 q] w (λv w'=>v=.tuple #[r.s.id,true]/\Ext w w'):=by
 refine Z.Km (some bw.p) _ p q w _ ?_;(delta Z.uR ad bx pt aa;dsimp only);refine aU (vs:=a.c) rfl λw1 g i j=>⟨λh=>(by cases h),λ_=>?_⟩;have d:=bH w1;have b:=i.trans d;have h2:=h.ext b;have e:=g.ext d;refine aL ?_;generalize w1.drew=ag at h2 e b;have hl:=h2.b1.ud As Av (k:=r.s.jU) (v:=r.s.id) (dX.2 ⟨r,f,rfl⟩) true;rw[hd]at hl;exact⟨λ_=>False,_,rfl,id,_,h2.cells.2,id,_,e.rd a.aM,_,λaJ=>Hi aJ a p q,_,_,_,hl,.refl _ _,rfl,b⟩
theorem Hw(h:ee w bw R)(d a:Int):aA ae 157 #[.pointer (some ⟨bw.p,0,none⟩),.int .i64 d,.int .i64 a] w
 (λv w'=>Ext w w'/\((∃r∈R,r.s.id=d/\∃hb:fq r.bs a<r.bs.length,hasB r.bs a=true/\v=.tuple #[.agg (r.bs[fq r.bs a]).c.toArray,.bool true])\/(q4 (ey R) d a=false/\v=.tuple #[.agg bO.zero.c.toArray,.bool false]))):=by
 refine okF (Z.yh (some ⟨bw.p,0,none⟩) d a) ao.yh func157 ?_;(delta Z.yh mV EM ad aa pt a_ k1 cd;dsimp only);refine aU (vs:=bO.zero.c) (by kernel_rfl) λw1 m g z=>(O6 (h.ext g) d a).use ?_;rintro _ ag ⟨e,⟨r,i,rfl,hb,rfl⟩|⟨n,rfl⟩⟩
 .have h2:=(h.ext g).ext e
  have f:=m.ext e;have aK:fq r.bs a<r.bs.length:=by
   refine Nat.lt_of_not_le λo=>?_;unfold hasB at hb;unfold fq at o;obtain⟨x,hx,he⟩:=oG.1 hb;have B:=List.findIdx_lt_length_of_exists (p:=λb:bO=>decide (a<=b.id)) (xs:=r.bs) ⟨x,hx,by rw[dN,eq_of_beq he];exact Int.le_refl _⟩;omega
  obtain⟨hl,A,ar,j⟩:=sT (c:=bO.c) (l:=r.bs) (h2.cM r i).src (λb _=>b.aM) (by decide) aK;have j:aG ag (A.add (Int.toNat ((fq r.bs a:Nat):Int)*21)) 0 21=some (r.bs[fq r.bs a]).c:=by rw[eR];exact j
  refine⟨_,_,_,rfl,λhb=>(by cases hb),λ_=>⟨_,rfl,r.k,(gM (h2.sv r i)).2.2.2.2.2.2,A,ar,⟨J,J⟩,_,j,f.cl (by simp[bO.aM]) (bO.plain _),by simp[bO.aM],cY f (us:=(r.bs[fq r.bs a]).c) (by simp[bO.aM]) rfl λC q t _=>⟨_,q.rd (bO.aM _),Ext.bR (g.trans e) t (bu _),.inl ⟨r,i,rfl,aK,hb,rfl⟩⟩⟩⟩
 .have f:=m.ext e
  exact⟨_,_,_,rfl,λ_=>⟨_,Pf ag,f.cl (by simp[bO.aM]) (bO.plain _),by simp[bO.aM],cY f (us:=bO.zero.c) (by simp[bO.aM]) rfl λaJ u y _=>⟨_,u.rd (bO.aM _),Ext.bR (g.trans e) y (bu _),.inr ⟨n,rfl⟩⟩⟩,λhb=>(by cases hb)⟩
section
variable {w w' w1:I}{s t ls:ai}{x bK i:Nat}
theorem Pj(h:kJ w bK x s 251)(n:Nat):aA ae 314 #[.pointer (some bK),.int .u64 (n:Nat)] w (λv w'=>v=.tuple #[(2:Int),true]/\Ext w w'):=by
 have a:s.len=251:=by have:=h.o.1;rw[vA]at this;omega
 refine okF (Z.y2 (some bK) (n:Nat)) ao.y2 func314 ?_;(delta Z.y2 ad pt a_ aY;dsimp only);refine bL (λb w'=>b=false/\w=w') (λk f=>⟨λh=>(by cases h),λ_=>⟨_,rfl,s,h.t.cell,f _ _ ⟨by rw[a];rfl,rfl⟩⟩⟩) ?_;rintro _ _ ⟨rfl,rfl⟩;have d:=bH w;have c:=h.ext d;have g:n%251<251:=ib _ (by decide);obtain⟨A,ar,hb,hc⟩:=c.o.src.at (OK g);have e:Int.tmod (n:Int) (IntKind.wrap .u64 (s.len:Int))=((n%251:Nat):Int):=by
  rw[a,show IntKind.wrap .u64 ((251:Nat):Int)=((251:Nat):Int) from by decide];exact(Int.ofNat_tmod n 251).symm
 refine⟨λh=>(by cases h),λ_=>aL ⟨_,rfl,id,s,c.t.cell,_,rfl,id,s,c.t.cell,by rw[a];decide,A,ar,?_⟩⟩;rw[e];exact⟨hb,2,hc,λ_=>⟨rfl,d⟩,λh=>absurd h (by decide)⟩
theorem su(w:I):aA ae 315 #[.int .u64 1,.agg bA.zero.c.toArray] w (λv w'=>v=.int .u64 14921627313678984130/\Ext w w'):=by
 refine okF (Z.su 1 bA.zero.c.toArray) ao.su func315 ?_;(delta Z.su bx aa lK eU aY bl fe aZ;dsimp only);refine aU (vs:=bA.zero.c) rfl λw1 u x y=>?_;have l:=bH w1;have d:=u.ext l;have e:=x.trans l;have aK:w.heap.size<w1.drew.heap.size:=d.lt;refine aL ?_;generalize w1.drew=ag at d e aK;have fin:∀ (b:I) (s1 s2:ai),Ext w b->Src 1 b s1 (au [0,0,0,0])->Src 1 b s2 (au [0])->aA ae 375 #[.int .u64 1,.slice (some b.heap.size) 2 2] (b.alloc (.cells #[s1,s2] 28)) (λv w'=>v=.int .u64 14921627313678984130/\Ext w w'):=λb s1 s2 hx h1 h2=>by
  have f:=bZ b (.cells #[s1,s2] 28);have m:=qG (gB:=1) (ps:=[(s1,[0,0,0,0]),(s2,[0])]) (Src.new (T:=28) b [dW s1,dW s2] 2 rfl) (λp g=>by
   rcases c4.1 g with rfl|g
   .exact h1.ext f
   .rw[dH.1 g];exact h2.ext f) (by show 5<=100000;decide) (by show 2<=100000;decide) (by decide)
  rw[show q1 1 (ct [(s1,[0,0,0,0]),(s2,[0])])=14921627313678984130 from Oz]at m;refine m.mono ?_;rintro _ _ ⟨rfl,rfl⟩;exact⟨rfl,hx.trans f⟩
 have r:IntKind.wrap .u8 0=0:=by decide
 refine⟨λq=>ag.heap.size<=q,by show¬ag.heap.size<=w.heap.size;omega,aE.zero.c,d.e2 (o:=0) (n:=17) (by decide),by rw[Ag];show¬ag.heap.size<=w.heap.size;omega,0,by rw[az];exact d.cell,(g7 aE.zero ag).use ?_,?_⟩
 .rintro _ h ⟨a,rfl,i,_,s,hf⟩
  rw[r];have j:=bZ h (.cells #[.int .u8 0] 5);refine⟨a,rfl,af.bt s,aL ⟨af.bt j,aL ⟨af.bt (bZ _ _),(fin _ a ⟨some h.heap.size,1,1⟩ ((e.trans s).trans j) (i.src.ext j) (Src.new h (au [0]) 1 rfl)).use ?_⟩⟩⟩;rintro _ z ⟨rfl,hx⟩;exact⟨_,rfl,rfl,hx⟩
 .rw[r]
  have t:=bZ ag (.cells #[.int .u8 0] 5);refine aL ⟨af.bt t,(g7 aE.zero _).use ?_⟩;rintro _ A ⟨a,rfl,i,_,k,hf⟩;refine⟨a,rfl,af.bt k,aL ⟨af.bt (bZ _ _),(fin _ a ⟨some ag.heap.size,1,1⟩ ((e.trans t).trans k) i.src ((Src.new ag (au [0]) 1 rfl).ext k)).use ?_⟩⟩;rintro _ B ⟨rfl,hx⟩;exact⟨_,rfl,rfl,hx⟩
theorem uK(n:Int)(w:I):aA ae 406 #[n] w (λv w'=>v=.bool (s4 n)/\w=w'):=by
 refine okF (Z.uK n) ao.uK func406 ?_;exact⟨rfl,rfl⟩
theorem Az(hl:Src 2 w ls [(2:Int),(1:Int)]):ls.len=1/\∃A,ls.a=some A/\w.cell? (A.add (Int.toNat 0*2))=some (.int .i64 2)/\w.cell? ((A.add (Int.toNat 0*2)).add 1)=some (.int .i64 1):=by
 have d:ls.len=1:=by have:=hl.len;simp at this;omega
 obtain⟨_,A,ar,b⟩:=sT (c:=λp:Y O=>p) (l:=[[(2:Int),(1:Int)]]) hl (λp e=>by rw[dH.1 e];rfl) (by decide) (i:=0) (by decide);have jP:=nL b (j:=0) (v:=.int .i64 2) rfl;have aS:=nL b (j:=1) (v:=.int .i64 1) rfl;rw[kN,add_zero']at jP;rw[b3]at aS;exact⟨d,A,ar,jP,aS⟩
theorem sx(hl:Src 2 w ls [(2:Int),(1:Int)]):aA ae 370 #[ls] w (λv w'=>v=true/\Ext w w'):=by
 have m:=(Az hl).1;refine okF (Z.sx ls) ao.sx func370 ?_;(delta Z.sx c3 ad bc cd aY bn z23 b7 aa bx br bh ak eU;dsimp only);refine⟨λn w'=>(n=0\/n=1)/\Ext w w',λn _=>((1:Int)-n).toNat,⟨.inl rfl,.refl _ _⟩,?_⟩;rintro _ aC ⟨rfl|rfl,c⟩
 rotate_left
 .refine⟨λaK=>absurd (bI aK) J,λ_=>⟨?_,c⟩⟩
  rw[m];rfl
 refine⟨λ_=>?_,λo=>absurd (ck o) J⟩;obtain⟨_,A,ar,jP,aS⟩:=Az (hl.ext c);refine⟨A,ar,⟨J,J⟩,2,jP,1,aS,aU (vs:=[(0:Int),(0:Int)]) rfl λaJ g p _=>⟨g.cl rfl (cE cV (cE cV jc)),rfl,cY g (us:=[(2:Int),(1:Int)]) rfl rfl λd q r _=>?_⟩⟩;have s:Ext aC d:=Ext.bR p r (bu _);have i:=bH d;have e:=q.ext i;have j:=(c.trans s).trans i;refine aL ?_;generalize d.drew=a at e j;refine⟨λ_=>False,id,2,e.cell,(uK 2 a).use ?_⟩;rintro _ _ ⟨rfl,rfl⟩;have l:a.cell? (Addr.add aC.heap.size 1)=some (.int .i64 1):=by rw[az];exact e.cell
 refine⟨_,rfl,λ_=>False,λh=>absurd h (by decide),λ_=>⟨λh=>absurd (bI h) J,λ_=>bL (λb w'=>b=false/\a=w') (λk f=>⟨λh=>(by cases h),λ_=>⟨1,l,f _ _ ⟨by decide,rfl⟩⟩⟩) ?_⟩⟩;rintro _ _ ⟨rfl,rfl⟩;refine bL (λb w'=>b=false/\a=w') (λk f=>⟨λh=>(by cases h),λ_=>⟨1,l,f _ _ ⟨by decide,rfl⟩⟩⟩) ?_;rintro _ _ ⟨rfl,rfl⟩;exact⟨λh=>(by cases h),λ_=>⟨⟨.inr (by decide),j⟩,by show((1:Int)-IntKind.wrap .i64 (0+1)).toNat<((1:Int)-0).toNat;decide⟩⟩
theorem Pk(w:I):aA ae 407 #[.int .u64 1,.int .u64 251] w (λv w'=>v=.tuple #[.int .u64 0,.int .u64 251]/\w=w'):=by
 have h:aA ae 433 #[.int .u64 1,.int .u64 251] w (λv w'=>v=.tuple #[.int .u64 0,.int .u64 251]/\w=w'):=by
  refine okF (Z.xu 1 251) ao.xu func433 ?_;unfold Z.xu;exact⟨by decide,by decide,by decide,by decide,by decide,by kernel_rfl,rfl⟩
 refine okF (Z.xp 1 251) ao.xp func407 ?_;(delta Z.xp ad EH aZ wO;dsimp only);refine⟨λh=>(by cases h),λ_=>h.use ?_⟩;rintro _ _ ⟨rfl,rfl⟩;exact⟨_,_,rfl,rfl,rfl⟩
end
structure gy where
 src:aE
 dst:aE
 sp:Int
 dp:Int
 an:Int
 deriving DecidableEq
def gy.c(f:gy):Y O:=f.src.c++(f.dst.c++ [.int .u16 f.sp,.int .u16 f.dp,.int .u8 f.an])
def CW:Y cI:=(.bool::m4 16)++((.bool::m4 16)++ [.int .u16,.int .u16,.int .u8])
theorem gy.aM(f:gy):f.c.length=37:=by simp[gy.c,aE.aM]
theorem gy.plain(f:gy):∀v∈f.c,Plain v:=hC (aE.plain _) (hC (aE.plain _) (cE cV (cE cV (cE cV jc))))
theorem gy.m3{a b:gy}(h:a.c=b.c):a=b:=by
 simp only[gy.c]at h;obtain⟨h1,h2⟩:=List.append_inj h (by simp[aE.aM]);obtain⟨d,e⟩:=List.append_inj h2 (by simp[aE.aM]);have h1:=aE.m3 h1;have d:=aE.m3 d
 cases a;cases b
 simp_all
theorem gy.dQ(f:gy):aQ.dQ CW f.c:=tW f.src.dQ (tW f.dst.dQ ⟨_,_,rfl,⟨_,rfl⟩,_,_,rfl,⟨_,rfl⟩,_,_,rfl,⟨_,rfl⟩,rfl⟩)
theorem Pl(a b:gy):jj ae 27 a.c.toArray b.c.toArray (decide (a=b)):=by
 have h:=jj.flat (P:=ae) (T:=27) (d:=(Tryz.prog.underlying 27).get (by kernel_rfl)) (ls:=CW) (kp _).symm (by kernel_rfl) (by kernel_rfl) (by kernel_rfl) a.dQ b.dQ;have e:fx a.c b.c=decide (a=b):=by
  rw[hE,tX a.dQ b.dQ,dN];exact⟨gy.m3,λh=>by rw[h]⟩
 rwa[e]at h
theorem aE.bare(a:aE):∀v∈a.c,pH v:=by
 intro v b;rcases c4.1 b with rfl|b
 .trivial
 .exact Hp _ v b
theorem gy.bare(f:gy):∀v∈f.c,pH v:=by
 intro v a;rcases eL.1 a with a|a
 .exact aE.bare _ v a
 .rcases eL.1 a with a|a
  .exact aE.bare _ v a
  .simp only[c4,g1,hF]at a
   rcases a with rfl|rfl|rfl<;>trivial
theorem Pm(b:ah)(f:gy)(w:I):(Instr.checkKey b 10000 27 (.agg f.c.toArray)).run ae w=.ok () w:=by
 obtain⟨⟨aj,l,h⟩,⟨e,a,d⟩,sp,dp,an⟩:=f;obtain⟨g,i,cf,j,k,m,n,o,p,q,r,s,t,u,v,x,rfl⟩:=iH l h;obtain⟨y,z,A,B,C,D,E,F,G,H,J,K,L,M,N,O,rfl⟩:=iH a d
 kernel_rfl
abbrev pJ:gy->O:=λf=>.agg f.c.toArray
theorem s8:jl ae 27 pJ:=
 jl.agg (d:=(Tryz.prog.underlying 27).get (by kernel_rfl)) (kp _).symm (by kernel_rfl) (λa b w=>(Pl a b).2 w) Pm (λf=>Ho 9999 f.c f.bare)
theorem vF:Tryz.prog.underlying 375=some (.map 27 291):=by kernel_rfl
theorem Hx:Tryz.prog.underlying 376=some (.map 27 27):=by kernel_rfl
def eK:Y O:=.int .i64 0:: .int .i64 0::(aE.zero.c++ [.int .u16 0,.int .i64 0,.int .u64 0])
theorem mD:∀v∈eK,Plain v:=cE cV (cE cV (hC (aE.plain _) (cE cV (cE cV (cE cV jc)))))
theorem CX:(Tryz.prog.info? 291).bind (·.zero)=some (.agg eK.toArray):=by kernel_rfl
theorem Hy:(Tryz.prog.info? 27).bind (·.zero)=some (.agg mB.toArray):=by kernel_rfl
structure ki(w:I)(b m1 m2 most:Nat)(cF db:Y (gy×O)):Prop where
 v:Var w b [most,.map (some m1),.map (some m2)] 378
 bU:cR w m1 pJ cF
 b1:cR w m2 pJ db
 n:m1≠m2
section
variable {w w' w1:I}{b m1 m2 most:Nat}{cF db:Y (gy×O)}
theorem ki.ax{W:Nat->Prop}(h:ki w b m1 m2 most cF db)(hc:af W w w')(a:¬W b/\¬W m1/\¬W m2):ki w' b m1 m2 most cF db:=⟨h.v.ax hc a.1,h.bU.ax hc a.2.1,h.b1.ax hc a.2.2,h.n⟩
theorem ki.ext(h:ki w b m1 m2 most cF db)(hx:Ext w w'):ki w' b m1 m2 most cF db:=h.ax hx ⟨id,id,id⟩
theorem nX(hm:1<=most/\most<=4096)(w:I):aA ae 197 #[most] w (λv w'=>∃b m1 m2:Nat,v=.tuple #[.pointer (some b),(0:Int)]/\ki w' b m1 m2 most [] []/\Ext w w'/\w.heap.size<=b/\w.heap.size<=m1/\w.heap.size<=m2):=by
 refine okF (Z.nX (most:Nat)) ao.nX func197 ?_;delta Z.nX ad aa;obtain⟨aS,bf⟩:=cR.make (P:=ae) (enc:=pJ) 375 w;obtain⟨d,e⟩:=cR.make (P:=ae) (enc:=pJ) 376 (w.alloc (.map #[] 0));have a:Ext w (w.alloc (.map #[] 0)):=bZ _ _;have cf:Ext (w.alloc (.map #[] 0)) ((w.alloc (.map #[] 0)).alloc (.map #[] 0)):=bZ _ _;have g:=lO w (.map #[] 0);refine⟨λh=>?_,λ_=>⟨some w.heap.size,_,aS,some (w.alloc (.map #[] 0)).heap.size,_,d,aU (vs:=[most,.map (some w.heap.size),.map (some (w.alloc (.map #[] 0)).heap.size)]) rfl λaH f c i=>⟨_,_,_,rfl,⟨f,(bf.ext cf).ext c,e.ext c,J⟩,(a.trans cf).trans c,(a.trans cf).size,bu _,a.size⟩⟩⟩;rw[hY J,hY J]at h
 cases h
theorem Pn{m:Int}(h:(decide (m<1)||decide (m>4096))=true)(w:I):aA ae 197 #[m] w (λv w'=>v=.tuple #[.pointer none,(1:Int)]/\w=w'):=by
 refine okF (Z.nX m) ao.nX func197 ?_;delta Z.nX ad aa;exact⟨λ_=>⟨rfl,rfl⟩,λhb=>by rw[h]at hb;cases hb⟩
theorem Po(h:ki w b m1 m2 most [] db)(f:gy)(now:Nat):aA ae 210 #[.pointer (some ⟨b,0,none⟩),.agg f.c.toArray,.int .u64 (now:Nat)] w (λv w'=>v=.tuple #[.agg eK.toArray,.bool false]/\Ext w w'):=by
 refine okF (Z.yy (some ⟨b,0,none⟩) f.c.toArray (now:Nat)) ao.yy func210 ?_;(delta Z.yy jq ad aa bx pt dY di;dsimp only);refine aU (vs:=f.c) rfl λw1 A d _=>aU (vs:=eK) (by kernel_rfl) λag B g _=>⟨λh=>(by cases h),λ_=>?_⟩;have e:=bH ag;have j:=((h.ext d).ext g).ext e;have p:=(A.ext g).ext e;have l:=B.ext e;have m:=(d.trans g).trans e;refine aL ?_;generalize ag.drew=a at j p l m;obtain⟨i,hi,C⟩:=ot CX;have hl:∀w',Ext a w'->Sem.run ae (Instr.lookup 375 (.map (some m1)) (.agg f.c.toArray) true) w'=.ok (.tuple #[.agg eK.toArray,.bool false]) w':=λw' hx=>(j.bU.ext hx).oY s8 vF (k:=f) hi C (λv D=>(by cases D)) true;refine⟨λ_=>False,_,rfl,id,some m1,by rw[az];exact j.v.cell,id,f.c,p.rd f.aM,⟨eK.toArray,false,a,hl a (.refl _ _),.refl _ _,aU (vs:=eK) (by kernel_rfl) λI q r _=>⟨af.bt r,q.cl (by simp) (by simpa using mD),by rfl,cY q (us:=eK) (by simp) rfl λs J E _=>bL (λb w'=>b=true/\s=w') (λk n=>⟨λ_=>n _ _ ⟨rfl,rfl⟩,λh=>(by cases h)⟩) ?_⟩⟩,aU (vs:=eK) (by kernel_rfl) λt u o _=>⟨af.bt o,eK.toArray,false,t,hl t o,u.cl (by simp) (by simpa using mD),by rfl,cY u (us:=eK) (by simp) rfl λx K F _=>bL (λb w'=>b=true/\x=w') (λk n=>⟨λ_=>n _ _ ⟨rfl,rfl⟩,λh=>(by cases h)⟩) ?_⟩⟩
 .rintro _ _ ⟨rfl,rfl⟩
  have y:Ext a s:=Ext.bR r E (bu _);exact⟨λ_=>⟨eK.toArray,by kernel_rfl,h7 (l.ext y) (by rfl) (by rfl) mD λL _ G=>⟨rfl,Ext.bR (m.trans y) G d.size⟩⟩,λh=>(by cases h)⟩
 .rintro _ _ ⟨rfl,rfl⟩
  have z:Ext a x:=Ext.bR o F (bu _);exact⟨λ_=>⟨eK.toArray,by kernel_rfl,h7 (l.ext z) (by rfl) (by rfl) mD λcr _ H=>⟨rfl,Ext.bR (m.trans z) H d.size⟩⟩,λh=>(by cases h)⟩
end
abbrev Hz:Int×Int->O:=λp=>.agg #[p.1,p.2]
theorem Pp:Tryz.prog.underlying 388=some (.map 390 392):=by kernel_rfl
structure l0(w:I)(b m:Nat)(eO iG:Int):Prop where
 v:Var w b [eO,iG,.map (some m)] 394
 k:cR w m Hz []
section
variable {w w' w1:I}{b m:Nat}{eO iG:Int}{bw:iP}{R:Y Rec}{r:Rec}
theorem l0.ax{W:Nat->Prop}(h:l0 w b m eO iG)(hc:af W w w')(a:¬W b/\¬W m):l0 w' b m eO iG:=⟨h.v.ax hc a.1,h.k.ax hc a.2⟩
theorem l0.ext(h:l0 w b m eO iG)(hx:Ext w w'):l0 w' b m eO iG:=h.ax hx ⟨id,id⟩
def iQ(n:Int):ah:=decide (n>=1)&&decide (n<=100)
theorem sq(n:Int)(w:I):aA ae 250 #[n] w (λv w'=>v=.bool (iQ n)/\w=w'):=by
 refine okF (Z.sq n) ao.sq func250 ?_;exact⟨rfl,rfl⟩
theorem sm(eO iG:Int)(w:I):aA ae 198 #[eO,iG] w (λv w'=>Ext w w'/\(((iQ eO&&iQ iG)=false/\v=.tuple #[.pointer none,(1:Int)])\/((iQ eO&&iQ iG)=true/\∃b m:Nat,v=.tuple #[.pointer (some b),(0:Int)]/\l0 w' b m eO iG/\w.heap.size<=b/\w.heap.size<=m))):=by
 refine okF (Z.sm eO iG) ao.sm func198 ?_;(delta Z.sm br ad aa;dsimp only);refine(sq eO w).use ?_;rintro _ _ ⟨rfl,rfl⟩;refine⟨_,rfl,bL (λc w'=>c= !(iQ eO&&iQ iG)/\w=w') (λk a=>⟨λhb=>a _ _ ⟨?_,rfl⟩,λhb=>(sq iG w).use ?_⟩) ?_⟩
 .have:iQ eO=false:=by simpa using hb
  rw[this];rfl
 .rintro _ _ ⟨rfl,rfl⟩
  have:iQ eO=true:=by simpa using hb
  exact⟨_,rfl,a _ _ ⟨by rw[this];rfl,rfl⟩⟩
 rintro _ _ ⟨rfl,rfl⟩;obtain⟨aS,bf⟩:=cR.make (P:=ae) (enc:=Hz) 388 w;have d:Ext w (w.alloc (.map #[] 0)):=bZ _ _;refine⟨λhb=>⟨.refl _ _,.inl ⟨by rw[mL]at hb;exact hb,rfl⟩⟩,λhb=>⟨some w.heap.size,_,aS,aU (vs:=[eO,iG,.map (some w.heap.size)]) rfl λaP e hx f=>⟨d.trans hx,.inr ⟨by rw[Bool.not_eq_false']at hb;exact hb,_,_,rfl,⟨e,bf.ext hx⟩,d.size,bu _⟩⟩⟩⟩
theorem Pq(h:l0 w b m eO iG)(sv:Int):aA ae 312 #[.pointer (some b),sv] w (λv w'=>v=()/\Ext w w'):=by
 refine okF (Z.y1 (some b) sv) ao.y1 func312 ?_;(delta Z.y1 ad pt ET BE z22 b7 aa aY bq bh ap dc;dsimp only);refine⟨λh=>(by cases h),λ_=>⟨_,rfl,some m,by rw[az];exact h.v.cell,?_⟩⟩;obtain⟨L,aC,c,d,e,f,l⟩:=k9.begin h.k Pp;have fc:L=[]:=by
  have:=c.length_eq;rw[eM]at this;exact List.eq_nil_of_length_eq_zero this
 subst fc;refine⟨_,aC,d,λs w'=>s=⟨none,0,0⟩/\aC=w',λ_ _=>0,⟨rfl,rfl⟩,?_⟩;rintro _ _ ⟨rfl,rfl⟩;have g:w.heap.size≠m:=by have:=h.k.lt;omega
 rcases e.next g 0 with ⟨_,a,i,j,_⟩|⟨x,hx,_⟩
 .refine .inr ⟨a,i,λh=>(by cases h),λ_=>(Gj (s:=⟨none,0,0⟩) (zs:=[]) (aR.none 1 3 a) (by simp)).use ?_⟩
  rintro _ n ⟨rfl,hc,_⟩;exact⟨rfl,rfl,(f.trans j).trans (hc.mono λq _ h=>(gb q h).elim)⟩
 .cases hx
theorem Pr:ih ae 479 533 2 16:=⟨by kernel_rfl⟩
theorem Ps(h:ee w bw R)(d:r∈R){a:aE}{p:Int}(m:r.bs=[⟨2,a,p,1,false⟩]):aA ae 311 #[.pointer (some bw.p),r.s.id,()] w (λv w'=>∃t:ai,v=t/\aR 2 533 w' t [(2:Int),(1:Int)]/\Ext w w'/\∀q,aN t q->w.heap.size<=q):=by
 refine okF (Z.y0 (some bw.p) r.s.id ⟨none,0,0⟩) ao.y0 func311 ?_;(delta Z.y0 ad pt a_ jI k1 cd al aa mV cT bq aY br bh ap ak;dsimp only);obtain⟨z,hl,C⟩:=h.look r.s.id;have D:jV R r.s.id=true:=vE.2 ⟨r,d,rfl⟩;have N:r.k.len=1:=by
  have:=(h.cM r d).1;rw[m,vC]at this;simp at this;omega
 refine⟨λh=>(by cases h),λ_=>⟨_,rfl,_,h.cells.1,z,_,w,hl,λhb=>(by rw[D]at hb;cases hb),λ_=>⟨_,C r d rfl,r.k,(gM (h.sv r d)).2.2.2.2.2.2,λs n w'=>(n=0/\s=⟨none,0,0⟩/\Ext w w')\/(n=1/\na 2 533 w w' s [(2:Int),(1:Int)]),λ_ n _=>((1:Int)-n).toNat,.inl ⟨rfl,rfl,.refl _ _⟩,?_⟩⟩⟩;rintro s _ aP (⟨rfl,rfl,u⟩|⟨rfl,hf⟩)
 rotate_left
 .exact⟨λaK=>absurd (bI aK) J,λ_=>⟨s,rfl,hf.o,hf.x,hf.f⟩⟩
 refine⟨λ_=>?_,λE=>absurd (ck E) J⟩;have y:=(h.ext u).cM r d;rw[m]at y;obtain⟨_,A,ar,F⟩:=sT (c:=bO.c) (l:=[⟨2,a,p,1,false⟩]) y.src (λb _=>b.aM) (by decide) (i:=0) (by show 0<1;decide);refine bL (λs w'=>na 2 533 w w' s [(2:Int),(1:Int)]) (λk G=>⟨A,ar,⟨J,J⟩,_,F,gL (us:=bO.c ⟨2,a,p,1,false⟩) (by rfl) (bO.aM _) (bO.plain _) λe g H=>⟨false,(np g).2.2.2.2,bL (λb w'=>b=true/\e=w') (λb1 I=>⟨λ_=>⟨2,(np g).1,(NC (s:=⟨none,0,0⟩) (ds:=[]) (B:=λ_=>True) ⟨(aR.none 1 3 e).src,bu _,λq j=>(gb q j).elim⟩ 2 (by simp)).use ?_⟩,λh=>(by cases h)⟩) ?_⟩⟩) ?_
 .rintro _ _ ⟨rfl,rfl⟩
  exact⟨_,rfl,I _ _ ⟨rfl,rfl⟩⟩
 .rintro _ _ ⟨rfl,rfl⟩
  refine⟨λ_=>⟨2,(np g).1,1,(np g).2.2.2.1,aL ?_⟩,λh=>(by cases h)⟩;have K:=bZ e (.cells #[(2:Int),(1:Int)] 533);have f0:na 2 533 w (e.alloc (.cells #[(2:Int),(1:Int)] 533)) ⟨none,0,0⟩ []:=⟨aR.none _ _ _,(u.trans H).trans K,λq j=>(gb q j).elim⟩;obtain⟨t,L,aT,_,M,_⟩:=na.app (cX:=479) Pr f0 (Src.new (T:=533) e [(2:Int),(1:Int)] 1 rfl) (cE cV (cE cV jc)) (by show(2*(0+1)+1000)*16<=281474976710656;decide);exact⟨t,L,aT,G _ _ M⟩
 .rintro t O hf
  exact⟨.inr ⟨by decide,hf⟩,by show((1:Int)-IntKind.wrap .i64 (0+1)).toNat<((1:Int)-0).toNat;decide⟩
end
def iv(m:Nat):Y O:=List.replicate m (.int .i64 (-1))++List.replicate (251-m) (.int .i64 0)
theorem CY{m:Nat}(h:m<=251):(iv m).length=251:=by unfold iv;simp;omega
theorem Pt{m n:Nat}(h:m+n<=251):(iv m).take m++List.replicate n (.int .i64 (-1))++(iv m).drop (m+n)=iv (m+n):=by
 unfold iv;rw[eN (by simp),List.drop_append,tC (by simp),ko,nE,List.drop_replicate,List.replicate_append_replicate]
 congr 2
 omega
theorem Pu:iv 251=mC 0:=by kernel_rfl
theorem Pv:gF ae 3 251=(iv 0).toArray:=by kernel_rfl
section
variable {w w' w1:I}{b m n:Nat}{x:ai}
theorem HA(c:Var w b (iv m) 3)(hm:m+n<=251){dl j7:Nat}(f:Nat.min x.len dl=n)(hx:Src 1 w ⟨x.a,n,x.cap⟩ (List.replicate n (.int .i64 (-1)))):
 ∃w',Sem.run ae (Builtin.copy_ #[88,88] 3 #[.slice (some ⟨b,m,none⟩) dl j7,x]) w=.ok n w'/\Var w' b (iv (m+n)) 3/\af (λq=>q=b) w w':=by
 have hl:=CY (m:=m) J;have g:bE w ⟨b,m,none⟩ (List.replicate n (.int .i64 (-1))):=a7.cl c m _ (by simp[hl];omega) (λv h=>by rw[(List.mem_replicate.1 h).2];trivial);refine⟨_,nN (e:=3) (d:=(Tryz.prog.underlying 3).get (by kernel_rfl)) (sz:=1) (by kernel_rfl) (kp _).symm (by kernel_rfl) f hx g,?_,af.iD (.refl _ _) _ 0⟩;have h:=a7.oS (List.replicate n (.int .i64 (-1))) m 0 c;rw[kN]at h;have e:gn (iv m).toArray m (List.replicate n (.int .i64 (-1)))=(iv (m+n)).toArray:=by
  have:=j6 (List.replicate n (.int .i64 (-1))) (iv m).toArray m (by simp[hl];omega);rw[nE]at this;apply rf.1;rw[this];exact Pt hm
 rw[e]at h;exact h
theorem Pw(hx:Src 1 w x [.int .i64 (-1)]):aA ae 372 #[.slice x.a x.len x.cap,.int .i64 251] w (λv w'=>∃t:ai,v=.slice t.a t.len t.cap/\aR 1 3 w' t (mC 0)/\Ext w w'/\∀q,aN t q->w.heap.size<=q):=by
 have hl:x.len=1:=by have:=hx.len;simp at this;omega
 refine okF (Z.xj x 251) ao.xj func372 ?_;(delta Z.xj ad wO aZ gG ak aa c3 bx;dsimp only);refine lF (λw'=>w=w') (λk b=>⟨λh=>(by cases h),λ_=>b _ rfl⟩) ?_;rintro _ rfl;have i:=Pk w;rw[show(1:Int)=IntKind.wrap .u64 ((x.len:Nat):Int) from by rw[hl];decide,show(.int .u64 251:O)=.int .u64 (IntKind.wrap .u64 251) from by rw[show IntKind.wrap .u64 251=251 from by decide]]at i;refine i.use ?_;rintro _ _ ⟨rfl,rfl⟩;rw[show IntKind.wrap .u64 251=251 from by decide];have C:IntKind.wrap .i64 251=251:=by decide
 refine⟨_,_,rfl,lF (λw'=>w=w') (λk b=>⟨λh=>(by cases h),λ_=>b _ rfl⟩) ?_⟩;rintro _ rfl;rw[C];refine⟨by decide,?_⟩;show aq (w.alloc (.cells (gF ae 3 251) 3)) _;rw[Pv];refine aU (vs:=iv 0) rfl λj D p U=>?_;have E:Src 1 j ⟨x.a,1,x.cap⟩ (List.replicate 1 (.int .i64 (-1))):=by
  have h:=hx.ext p;obtain⟨a,l,c⟩:=x;dsimp only at hl h⊢;subst hl;exact h
 obtain⟨F,G,H,I⟩:=HA (n:=1) (x:=x) D (by decide) (dl:=251) (j7:=251) (by rw[hl];rfl) E;refine⟨_,F,G,λn w'=>∃m:Nat,n=(m:Int)/\1<=m/\m<=251/\Var w' w.heap.size (iv m) 3/\af (λq=>q=w.heap.size) j w',λn _=>((251:Int)-n).toNat,⟨1,rfl,bu _,by decide,H,I⟩,?_⟩;rintro _ r ⟨m,rfl,V,hm,s,u⟩;refine⟨λaK=>?_,λK=>?_⟩
 .have X:m<251:=by have:=bI aK;omega
  have y:=bH r;have d:=s.ext y;have z:=u.trans (af.bt (W:=λq=>q=w.heap.size) y);refine aL ?_;generalize r.drew=A at d z;obtain⟨n,B⟩:∃n,n=Nat.min m (251-m):=⟨_,rfl⟩;have f:1<=n/\n<=m/\m+n<=251:=by rw[B];show 1<=min m (251-m)/\min m (251-m)<=m/\m+min m (251-m)<=251;omega
  have L:Src 1 A ⟨some ⟨w.heap.size,0,none⟩,n,251-0⟩ (List.replicate n (.int .i64 (-1))):=by
   refine⟨by simp,λh=>(by cases h),λa M=>?_⟩
   cases M;have e:(iv m).take n=List.replicate n (.int .i64 (-1)):=by
    unfold iv;rw[kS (by rw[nE];omega),List.take_replicate,j0 f.2.1]
   rw[eB,d.e2 (o:=0) (n:=n) (by rw[CY hm];omega),iT,e]
  obtain⟨N,P,Q,R⟩:=HA (x:=⟨some ⟨w.heap.size,0,none⟩,m-0,251-0⟩) d f.2.2 (dl:=251-m) (j7:=251-m) (by rw[B];rfl) L;have aT:bj (some ⟨w.heap.size,0,none⟩) 1 m 251=some ⟨w.heap.size,m,none⟩:=by
   unfold bj;rw[if_neg J];show some (Addr.add ⟨w.heap.size,0,none⟩ (m*1))=_;rw[az,eB,b3]
  have a6:bj (some ⟨w.heap.size,0,none⟩) 1 0 251=some ⟨w.heap.size,0,none⟩:=by
   unfold bj;rw[if_neg (by decide)];rfl
  rw[eR];show ∃Y:Nat->Prop,_;refine⟨λ_=>False,⟨J,by show(m:Int)<=251;omega⟩,⟨J,by show(m:Int)<=251;omega⟩,(n:Nat),N,?_,?_⟩
  .show Sem.run ae (Builtin.copy_ #[88,88] 3 #[.slice (bj (some ⟨w.heap.size,0,none⟩) 1 m 251) (251-m) (251-m),.slice (bj (some ⟨w.heap.size,0,none⟩) 1 0 251) (m-0) (251-0)]) A=_
   rw[aT,a6];exact P
  .have S:IntKind.wrap .i64 ((m:Int)+(n:Int))=((m+n:Nat):Int):=by rw[bF J J];omega
   rw[S];exact⟨⟨m+n,rfl,J,f.2.2,Q,z.trans R⟩,by show((251:Int)-((m+n:Nat):Int)).toNat<((251:Int)-(m:Nat)).toNat;omega⟩
 .obtain rfl:m=251:=by have:=ck K;simp at this;omega
  have g:=CY (m:=251) (by decide);refine⟨⟨some ⟨w.heap.size,0,none⟩,251,251⟩,rfl,?_,Ext.bR p u (bu _),λq T=>by have:=Oj T;omega⟩;rw[←Pu];exact⟨by show(iv 251).length=251*1;rw[g],bu _,by show 251<=maxLen;decide,.inr ⟨_,_,rfl,s,by simp[g],by show List.take (251*1) (iv 251)=iv 251;rw[fb (by rw[g];decide)]⟩⟩
end
end Go.Proofs.YtkpjknbogcihmaaGreatDoor
