/- Contracts of the functions that the statement reaches, and the plain laws over them; each theorem stands with its conditions. -/
import Derived.Laws.Small
import Derived.Test.YtcmgnhkpfllinaaGreatBSNone3
namespace Go.Proofs.YtcmgnhkpfllinaaGreat
open Go aP Go.Proofs.Tryz
def Bl(T:aF)(c:de)(n:aA)(w:J)(v:aa)(w':J):Prop:=
 ∃ (no:Nat) (ao:aF) (c':de),c2 w' ao c'/\c3 T ao c c' [no] [] w w' 1/\
  ((v=.tuple #[no,(0:Int)]/\ao.P no=some n)\/(v=.tuple #[no,(3:Int)]/\¬T.C.D.calm 1))
theorem cr.eL{n:aA}(h:cr n)(b:bn n<=400):n.keys.length<=200/\n.vals.length<=200/\n.kids.length<=201:=by
 have:=uz h;rcases h with h|h
 .have:=h.len
  have a:n.kids.length=0:=by rw[h.kids];rfl
  omega
 .have:=h.len
  have a:n.vals.length=0:=by rw[h.vals];rfl
  omega
theorem u7{B:Nat->Prop}{w:J}{T:aF}{c:de}{n:aA}{K V D:ad}(h:c2 w T c)(bf:T.C.D.aT<=900000100)(U:1<=b4 T)(bg:c.made.length<=1000)(aC:bF B w n K V D)(hs:cr n)(aD:bn n<=232):
 aJ aj 265 #[.pointer (some c.cb),cZ n K V D] w (Bl T c n w):=by
 obtain⟨no,W⟩:=Bk U;obtain⟨u,y,_⟩:=AV W;have H:=h.t.s.bp;have bh:=hs.eL I;refine okF (ae.uh (some c.cb) n.leaf K V D) aw.uh func265 ?_;(delta ae.uh aS Y r1 dZ an fQ st cl bW;dsimp only);refine a_ (vs:=[n.leaf,K,V,D]) rfl λw1 X Z bi=>?_;obtain⟨bH,aQ,a6,ba⟩:=bx X;refine⟨_,bH,K,aQ,V,a6,D,ba,(pC (aC.ext Z) I I I).use ?_⟩;rintro _ aG ⟨aH,ab⟩;rcases aH with ⟨s,rfl,aI,aK,_,_⟩|⟨e,rfl,he,aL⟩
 rotate_left
 .have:=aL hs;omega
 have L:=Z.trans ab;have r:=h.ext L;refine⟨s,0,rfl,λd=>(by cases d),λ_=>⟨_,rfl,_,r.cells.1,_,rfl,_,r.t.cells.2.1,(AX r.t.s).use ?_⟩⟩;rintro _ aM ⟨rfl,iq,ac⟩;rw[W]at iq⊢;obtain⟨aN,M⟩:=r.t.u5 iq ac;have ah:c2 aM (T.iD (c9 T.f no true)) c:=r.of aN ac (λq a hf=>(h.t.iC q a).2 hf) rfl λ_ h=>h;refine⟨(no:Nat),0,rfl,λd=>(by cases d),λ_=>⟨_,rfl,_,ah.cells.2.1,?_⟩⟩;obtain⟨z,ai,aO,bj,aP,aR,aU⟩:=Gb ah no I;refine aY ⟨z,ai,aO,_,rfl,by rw[aB];exact aP,by rw[aB];exact aR,aY ?_⟩;rw[aB];obtain⟨o,ak⟩:∃o,o=ai.setCell ⟨c.cb,0+1,none⟩ z:=⟨_,rfl⟩;rw[←ak];obtain⟨A,O⟩:=aU o ak;obtain⟨al,bl⟩:∃al,al=λq=>T.G q\/ay z q:=⟨_,rfl⟩;have am:∀q,T.N q->q<w.heap.size:=λq a=>h.t.lt (aF.gd a);have bo:=L.size;have bq:=M.ag.size;have br:=O.ag.size;have ap:af T.N aG o:=M.ag.trans O.ag;have aW:Var o w.heap.size [n.leaf,K,V,D] 169:=(X.ext ab).ag ap λa=>by have:=am _ a;omega
 have aX:aV 1 5 o s (ax (iy n)):=aI.ag ap λq a aZ=>by have:=am _ aZ;have:=aK q a;omega
 have hlen:=w6 hs;have H:2<=no:=by
  have e:(T.f no||T.g no)=false:=y;have F:T.g no=false:=by cases hg:T.g no<;>simp_all
  have:=h.t.low;rcases ec no 2 with Q|Q
  .rcases m8 no with aq|aq
   .rw[aq,this.1]at F;cases F
   .rw[show no=1 from I,this.2]at F;cases F
  .exact Q
 have R:mF ⟨if n.leaf then 1 else 2,T.gen,iy n⟩:=by
  refine⟨?_,?_,h.t.num.2.2,by show(iy n).length<=232;omega⟩
  .show 1<=(if n.leaf then 1 else 2);split<;>omega
  .show(if n.leaf then 1 else 2)<=4;split<;>omega
 refine cz (λn27 a0=>n27=((if n.leaf then 1 else 2:Nat):Int)/\a0=o) (λq a=>⟨n.leaf,aW.cell,λd=>a _ _ ⟨by rw[d];rfl,rfl⟩,λd=>a _ _ ⟨by rw[d];rfl,rfl⟩⟩) ?_;rintro _ _ ⟨rfl,rfl⟩;refine⟨_,rfl,_,A.cells.1,_,rfl,_,A.t.cells.2.2.1,(uI (no:=no) (p:=⟨if n.leaf then 1 else 2,T.gen,iy n⟩) aX.src I R).use ?_⟩;rintro _ bs ⟨s2,rfl,ar,av,a1⟩;have l:=A.ext av;refine⟨s2,0,rfl,λd=>(by cases d),λ_=>⟨_,rfl,_,l.cells.1,_,rfl,_,l.t.cells.1,(Bc l.t.ca (by show T.C.D.aT<=999999999;omega) (no:=no) (by rw[l.t.n];exact u) H (λhs=>by have:=l.t.bT no hs;have e:(T.f no||T.g no)=false:=y;rcases this with this|this;(rw[show T.g no=true from this,Bool.or_true]at e;cases e);exact l.ns this) ar.src (rm no R) λq a=>⟨aV.lt ar q a,λhf=>?_⟩).use ?_⟩⟩
 .have:=a1 q a
  have:=A.t.lt (q:=q) (.inl hf);omega
 rintro _ a2 ⟨aE,a3,S,a4⟩;have a5:∀j,c9 T.f no true j=(T.f j||decide (j∈ [no])):=λj=>by
  unfold c9;by_cases e:j=no
  .subst e;simp
  .simp[e]
 have az:(T.f no||T.g no)=false:=y;have a7:T.n-ey (λi=>c9 T.f no true i||T.g i) T.n+1=b4 T:=by
  have:=u6 (s:=λi=>T.f i||T.g i) (t:=λi=>c9 T.f no true i||T.g i) (k:=no) y (by simp[c9]) (λi hi=>by simp[c9,hi]) u;unfold b4 at U⊢;have Q:=mO (λi=>T.f i||T.g i) T.n;omega
 have main:∀ (P':Nat->au aA) (v:aa),(∀j,j≠no->P' j=T.P j)->(∀j,j≠no->aE.view j=T.C.view j)->(∀j b1,P' j=some b1->j<T.n/\gw T.gen b1.leaf j (aE.view j) b1)->
  ((v=.tuple #[no,(0:Int)]/\P' no=some n)\/(v=.tuple #[no,(3:Int)]/\¬T.C.D.calm 1))->Bl T c n w v a2:=by
  intro P' v a8 fJ a9 m;obtain⟨bb,bc⟩:=l.t.u3 (P:=P') a3 S a9;have bd:=l.of (ao:=((T.iD (c9 T.f no true)).cj T.E λq=>T.G q\/ay z q).bm aE P') bb S.ag (λq a=>l.t.u4 a) rfl (λ_ h=>h) S.bT;refine⟨no,_,_,bd,⟨?_,rfl,λq a=>.inl a,rfl,rfl,rfl,rfl,(fk _).symm,by simp,λx hx=>?_,a5,λj b=>?_,a7⟩,m⟩
  .have:=(((bD.ext T L).trans M).trans O).trans ((bD.ext _ av).trans bc)
   exact this.mono I
  .obtain rfl:=fi.1 hx
   exact⟨az,u⟩
  .have:j≠no:=λe=>by rw[e,az]at b;cases b
   exact⟨a8 j this,fJ j this⟩
 rcases a4 with ⟨rfl,m⟩|⟨rfl,be,m⟩
 .refine⟨0,rfl,main (λj=>if j=no then some n else T.P j) _ (λj b=>if_neg b) (λj b=>(m j).trans (if_neg b)) (λj b1 b=>?_) (.inl ⟨rfl,if_pos rfl⟩)⟩
  by_cases e:j=no
  .subst e
   rw[if_pos rfl]at b
   cases b;rw[m,if_pos rfl];exact⟨u,_,uE I R,bk _,rfl,⟨hs,rfl,aD,rfl⟩,H⟩
  .rw[if_neg e]at b
   rw[m,if_neg e];exact h.t.ez j b1 b
 .refine⟨3,rfl,main T.P _ (λ_ _=>rfl) (λj _=>m j) (λj b1 b=>?_) (.inr ⟨rfl,be⟩)⟩
  rw[m];exact h.t.ez j b1 b
theorem Gc(w:J)(x:Int):Sem.run aj (Instr.buildSlice 317 1 #[(0,.agg #[(),x])]) w=
 .ok (.slice (some w.heap.size) 1 1) (w.alloc (.cells #[(),x] 325)):=by kernel_rfl
theorem Gd(w:J)(x y:Int)(t:ad):Sem.run aj (Instr.buildSlice 317 2 #[(0,.agg #[(),x]),(1,.agg #[t,y])]) w=
 .ok (.slice (some w.heap.size) 2 2) (w.alloc (.cells #[(),x,t,y] 325)):=by kernel_rfl
theorem cr.wU{n:aA}(h:cr n)(f:1<=b_ n)(d:if n.leaf then b_ n<=n.keys.length-1/\1<=n.keys.length-1 else b_ n<=n.keys.length-2/\1<=n.keys.length-2):cr (n.left (b_ n))/\cr (n.right (b_ n)):=by
 rcases h with h|h
 .have a:=h.leaf
  rw[if_pos a]at d;unfold aA.left aA.right;rw[if_pos a,if_pos a];have hlen:=h.len;refine⟨.inl ⟨⟨λk b=>h.ok k (fu b),h.eE.sublist (rY _ _)⟩,rfl,?_,rfl,λv c=>h.vals v (fu c)⟩,.inl ⟨⟨λk b=>h.ok k (ft b),h.eE.sublist (List.drop_sublist _ _)⟩,rfl,?_,rfl,λv c=>h.vals v (ft c)⟩⟩
  .simp only[cE];omega
  .simp only[ed];omega
 .have a:=h.inner
  rw[if_neg (by rw[a];simp)]at d;unfold aA.left aA.right;rw[if_neg (by rw[a];simp),if_neg (by rw[a];simp)];have hlen:=h.len;refine⟨.inr ⟨⟨λk b=>h.ok k (fu b),h.eE.sublist (rY _ _)⟩,rfl,?_,?_,rfl,λv c=>h.kids v (fu c)⟩,.inr ⟨⟨λk b=>h.ok k (ft b),h.eE.sublist (List.drop_sublist _ _)⟩,rfl,?_,?_,rfl,λv c=>h.kids v (ft c)⟩⟩
  .intro e
   have:=congrArg List.length e;simp only[cE,kg]at this;omega
  .simp only[cE];omega
  .intro e
   have:=congrArg List.length e;simp only[ed,kg]at this;omega
  .simp only[ed];omega
def kz(B:Nat->Prop)(w:J)(s:ad)(ks:O Key)(kids:O Nat):Prop:=
 (∃b x,s=⟨some ⟨b,0,none⟩,1,1⟩/\ks=[]/\kids=[x]/\Var w b [.slice none 0 0,.int .i64 (x:Nat)] 325/\B b)\/
 (∃b x y k t,s=⟨some ⟨b,0,none⟩,2,2⟩/\ks=[k]/\kids=[x,y]/\Var w b [.slice none 0 0,.int .i64 (x:Nat),.slice t.a t.len t.cap,.int .i64 (y:Nat)] 325/\B b/\bg B w t k/\k≠ [])
def gT(T:aF)(c:de)(n:aA)(w:J)(v:aa)(w':J):Prop:=
 ∃ (ao:aF) (c':de) (m:O Nat) (s:ad),c2 w' ao c'/\c3 T ao c c' m [] w w' 2/\m.length<=2/\
  ((∃ks,v=.tuple #[s,(0:Int)]/\lF ao.P n ks m/\kz (λq=>¬ao.M q) w' s ks m)\/(v=.tuple #[s,(3:Int)]/\¬T.C.D.calm 2))
theorem Bm{B:Nat->Prop}{w:J}{T:aF}{c:de}{n:aA}{K V D:ad}(h:c2 w T c)(l:T.C.D.aT<=900000100)(m:1<=b4 T)(o:c.made.length<=1000)(p:bF B w n K V D)(hs:cr n)(d:bn n<=232):
 aJ aj 234 #[.pointer (some c.cb),cZ n K V D] w (gT T c n w):=by
 refine okF (ae.ua (some c.cb) n.leaf K V D) aw.ua func234 ?_;(delta ae.ua aS Y r1 fQ;dsimp only);refine a_ (vs:=[n.leaf,K,V,D]) rfl λw1 q b z=>?_;obtain⟨bH,aQ,a6,ba⟩:=bx q;refine⟨_,bH,K,aQ,V,a6,D,ba,(u7 (h.ext b) l m o (p.ext b) hs d).use ?_⟩;rintro _ a ⟨no,ao,c',f,r,s⟩;have g:∀ (e:Int),((e=0/\ao.P no=some n)\/(e=3/\¬T.C.D.calm 1))->∃ (i:ad) (j:J),Sem.run aj (Instr.buildSlice 317 1 #[(0,.agg #[(),no])]) a=.ok i j/\gT T c n w (.tuple #[i,e]) j:=by
  intro e he;refine⟨⟨some a.heap.size,1,1⟩,_,Gc a _,?_⟩;have k:=dE a (.cells #[(),no] 325);have u:c3 T ao c c' [no] [] w (a.alloc (.cells #[(),no] 325)) 2:=(((c3.ext T c b).trans r).trans (c3.ext ao c' k)).mono I;refine⟨ao,c',[no],⟨some a.heap.size,1,1⟩,f.ext k,u,by simp,?_⟩;rcases he with ⟨rfl,he⟩|⟨rfl,he⟩
  .refine .inl ⟨[],rfl,.inl ⟨d,no,rfl,rfl,he⟩,.inl ⟨_,no,rfl,rfl,rfl,Var.new a [(),no] 325,λv=>?_⟩⟩
   have:=f.t.lt v;omega
  .exact .inr ⟨rfl,λhc=>he (fK hc I)⟩
 rcases s with ⟨rfl,x⟩|⟨rfl,y⟩
 .exact⟨_,0,rfl,g 0 (.inl ⟨rfl,x⟩)⟩
 .exact⟨_,3,rfl,g 3 (.inr ⟨rfl,y⟩)⟩
theorem fp{b:al}{K V D:ad}:∀v∈ [.bool b,.slice K.a K.len K.cap,.slice V.a V.len V.cap,.slice D.a D.len D.cap],Plain v:=by
 intro v c;simp only[cN,e3,fb]at c;rcases c with rfl|rfl|rfl|rfl<;>trivial
theorem Ge{B:Nat->Prop}{w:J}{T:aF}{c:de}{n:aA}{K V D:ad}(h:c2 w T c)(aZ:T.C.D.aT<=900000090)(a0:2<=b4 T)(a1:c.made.length<=900)(ai:bF B w n K V D)(hs:cr n)(ak:232<bn n)(a2:bn n<=400)(E:1<=b_ n)
 (l:if n.leaf then b_ n<=n.keys.length-1/\1<=n.keys.length-1 else b_ n<=n.keys.length-2/\1<=n.keys.length-2) (al:bn (n.left (b_ n))<=232) (am:bn (n.right (b_ n))<=232):
 aJ aj 276 #[.pointer (some c.cb),cZ n K V D] w (gT T c n w):=by
 obtain⟨sl,rJ⟩:=hs.wU E l;have a3:=hs.eL I;have a:b_ n<n.keys.length:=by
  split at l<;>omega
 refine okF (ae.uj (some c.cb) n.leaf K V D) aw.uj func276 ?_;(delta ae.uj aS Y r1 zq z4 an fQ;dsimp only);refine a_ (vs:=[n.leaf,K,V,D]) rfl λw1 ao F a4=>?_;obtain⟨bH,aQ,a6,ba⟩:=bx ao;refine⟨_,bH,K,aQ,V,a6,D,ba,(pD (ai.ext F) hs I E l).use ?_⟩;rintro _ ap ⟨e0,fC,bq,dj,dG,cR,t,rfl,aq,ar,ht,au⟩;refine⟨_,e0,fC,bq,t,_,dj,dG,cR,true,rfl,a_ (vs:=[false,(),(),()]) rfl λa5 av ax a7=>a_ (vs:=[false,(),(),()]) rfl λa8 ay G a9=>?_⟩;have H:=av.ext G;refine⟨H.cd rfl fp,rfl,cK H (us:=[.bool (n.left (b_ n)).leaf,e0,fC,bq]) rfl rfl λbb az L bc=>?_⟩;have O:=ay.ag L I;refine⟨O.cd rfl fp,rfl,cK O (us:=[.bool (n.right (b_ n)).leaf,dj,dG,cR]) rfl rfl λm aB Q bd=>⟨λa=>(by cases a),λ_=>?_⟩⟩;have aC:=az.ag Q I;have R:=F.trans au;have i:Ext ap m:=Ext.cx (Ext.cx (ax.trans G) L I) Q I;have o:=R.trans i;have be:=R.size;have bf:=i.size;obtain⟨d0,d1,d2,d3⟩:=bx aC;refine⟨_,d0,e0,d1,fC,d2,bq,d3,(u7 (h.ext o) I I I (aq.ext i) sl al).use ?_⟩;rintro _ aD ⟨x,bL,S,p,b,aE⟩;have r:∀q,T.N q->q<w.heap.size:=λq d=>h.t.lt (aF.gd d);have bh:=b.to.ag.size;rcases aE with ⟨rfl,U⟩|⟨rfl,s⟩
 .have aG:=aB.ag b.to.ag λd=>by have:=r _ d;omega
  obtain⟨d0,d1,d2,d3⟩:=bx aG;have aH:bF (λq=>w1.heap.size<=q) aD (n.right (b_ n)) dj dG cR:=(ar.ext i).ag b.to.ag λq d u=>by have:=r _ u;omega
  have aI:bL.C.D.aT<=900000100:=eH b.to.aT (by clear p b U;omega);have aK:=b.room;have bi:S.made.length=c.made.length+1:=by rw[b.made,cn];rfl
  simp only[ig]at aK;have W:=u7 p aI I I aH rJ am;rw[b.cb]at W;refine⟨x,0,rfl,λa=>(by cases a),λ_=>⟨_,d0,dj,d1,dG,d2,cR,d3,W.use ?_⟩⟩;rintro _ g ⟨y,bN,X,Z,k,aL⟩;have bj:=k.to.ag.size;have aM:=((c3.ext T c o).trans b).trans k;have aN:n.keys.getD (b_ n) []=n.keys[b_ n]:=by rw[fv,dr a];rfl
  have aO:=ht.ext i;have aP:bg (λq=>¬bN.M q) g t n.keys[b_ n]:=by
   rw[←aN];have aR:bg (λq=>q<m.heap.size/\w1.heap.size<=q) m t (n.keys.getD (b_ n) []):=bg.aX aO λq d a=>⟨d,a⟩;have aa:=(b.trans k).to;refine bg.aX (bg.ag aR aa.ag λq d u=>by have:=r _ u;omega) λq _ a v=>?_;rcases aa.cS q v with ab|ab
   .have:=h.t.lt ab;omega
   .omega
  have aU:n.keys[b_ n]≠ []:=by
   have aV:cq n.keys[b_ n]:=by
    rcases hs with hs|hs
    .exact hs.ok _ (cJ a)
    .exact hs.ok _ (cJ a)
   intro e;have:=aV.1;rw[e]at this;simp at this
  have z:=dE g (.cells #[(),x,t,y] 325);have A:=(aM.trans (c3.ext bN X z)).mono (j:=2) I;have ac:∀ (e:Int),((e=0/\bN.P y=some (n.right (b_ n)))\/(e=3/\¬bL.C.D.calm 1))->∃ (af:ad) (ah:J),Sem.run aj (Instr.buildSlice 317 2 #[(0,.agg #[(),x]),(1,.agg #[t,y])]) g=.ok af ah/\
   gT T c n w (.tuple #[af,e]) ah:=by
   intro e he;refine⟨⟨some g.heap.size,2,2⟩,_,Gd g _ _ t,bN,X,[x,y],⟨some g.heap.size,2,2⟩,Z.ext z,A,by simp,?_⟩;rcases he with ⟨rfl,he⟩|⟨rfl,he⟩
   .have aW:bN.P x=some (n.left (b_ n)):=by
     rw[(k.dX x (by rw[b.f];simp)).1,U]
    refine .inl ⟨[n.keys[b_ n]],rfl,.inr ⟨ak,x,y,a,rfl,rfl,aW,he⟩,.inr ⟨_,x,y,_,t,rfl,rfl,rfl,Var.new g [(),x,t,y] 325,λv=>?_,bg.ext aP z,aU⟩⟩;have:=Z.t.lt v;omega
   .exact .inr ⟨rfl,λhc=>he (b.to.calm 1 (fK hc I))⟩
  rcases aL with ⟨rfl,aY⟩|⟨rfl,s⟩
  .exact⟨_,0,rfl,ac 0 (.inl ⟨rfl,aY⟩)⟩
  .exact⟨_,3,rfl,ac 3 (.inr ⟨rfl,s⟩)⟩
 .have A:=((c3.ext T c o).trans b).mono (j:=2) I
  exact⟨_,3,rfl,λ_=>⟨bL,S,[x],bu,p,A,by simp,.inr ⟨rfl,λhc=>s (fK hc I)⟩⟩,λa=>(by cases a)⟩
theorem u9{B:Nat->Prop}{w:J}{T:aF}{c:de}{n:aA}{K V D:ad}(h:c2 w T c)(x:T.C.D.aT<=900000090)(y:2<=b4 T)(z:c.made.length<=900)(i:bF B w n K V D)(hs:cr n)(A:bn n<=400)
 (E:232<bn n->1<=b_ n/\(if n.leaf then b_ n<=n.keys.length-1/\1<=n.keys.length-1 else b_ n<=n.keys.length-2/\1<=n.keys.length-2)/\bn (n.left (b_ n))<=232/\bn (n.right (b_ n))<=232):
 aJ aj 263 #[.pointer (some c.cb),cZ n K V D] w (gT T c n w):=by
 have G:=hs.eL I;refine okF (ae.ug (some c.cb) n.leaf K V D) aw.ug func263 ?_;(delta ae.ug aS Y r1 bW an dZ;dsimp only);refine a_ (vs:=[n.leaf,K,V,D]) rfl λw1 q r H=>?_;obtain⟨bH,aQ,a6,ba⟩:=bx q;refine⟨_,bH,K,aQ,V,a6,D,ba,(nO (i.ext r) hs I).use ?_⟩;rintro _ F ⟨rfl,t⟩;have a:=r.trans t;obtain⟨d0,d1,d2,d3⟩:=bx (q.ext t);have fin:∀ (v:aa) (w':J),gT T c n F v w'->∃s:ad,∃e:Int,v=.tuple #[s,e]/\gT T c n w (.tuple #[s,e]) w':=by
  rintro v w' ⟨ao,c',m,s,d,k,f,l⟩;have u:=((c3.ext T c a).trans k).mono (j:=2) I;rcases l with ⟨ks,rfl,o⟩|⟨rfl,o⟩
  .exact⟨s,0,rfl,ao,c',m,s,d,u,f,.inl ⟨ks,rfl,o⟩⟩
  .exact⟨s,3,rfl,ao,c',m,s,d,u,f,.inr ⟨rfl,o⟩⟩
 refine⟨_,rfl,λb=>⟨_,d0,K,d1,V,d2,D,d3,?_⟩,λb=>⟨_,d0,K,d1,V,d2,D,d3,?_⟩⟩
 .have b:((bn n:Nat):Int)>232:=ck b
  obtain⟨d,k,f,l⟩:=E I;refine(Ge (h.ext a) x y z (i.ext a) hs I A d k f l).use ?_;rintro v w' p;obtain⟨s,e,rfl,g⟩:=fin v w' p;exact⟨s,e,rfl,g⟩
 .have b:¬((bn n:Nat):Int)>232:=cG b
  refine(Bm (h.ext a) I I I (i.ext a) hs I).use ?_;rintro v w' p;obtain⟨s,e,rfl,g⟩:=fin v w' p;exact⟨s,e,rfl,g⟩
theorem Bn{B:Nat->Prop}{w:J}{s:ad}{ls:O Key}(h:bt B w s ls)(x:ls.length<=100000):
 aJ aj 266 #[s] w (λv w'=>∃b:ad,v=b/\bc (λq=>(B q/\q<w.heap.size)\/(w.heap.size<=q/\ay b q)) w' b ls/\Ext w w'/\gi w b):=by
 have y:=bt.len h;obtain⟨ts,j,l,z,A,o⟩:=h;refine okF (ae.s4 s) aw.s4 func266 ?_;delta ae.s4 an Y;refine⟨λd=>?_,λ_=>?_⟩
 .have d:s.a=none:=by simpa using d
  have h0:=l.nil d;have:ls=[]:=List.eq_nil_of_length_eq_zero (by rw[←j];have:=congrArg List.length h0;simpa using this);subst this;exact⟨⟨none,0,0⟩,rfl,bc.none _ _,.refl _ _,λk e=>(fZ k e).elim⟩
 .obtain⟨b,w',p,m,D,n,f,_⟩:=pP.clone (dD:=93) l (uK ts) I
  refine aY ⟨b,w',p,b,rfl,⟨ts,j,m,λq c=>⟨.inr ⟨f q c,c⟩,m.lt q c⟩,λi r t=>?_⟩,n,f⟩;have a:=o i r t;exact⟨bg.aX (bg.ext (bg.aX (C:=λq=>B q/\q<w.heap.size) a λq c g=>⟨g,c⟩) n) λq _ g=>.inl g,λk e u=>by have:=f k u;have:=(a.2.2 k e).2;omega⟩
theorem kz.at{B:Nat->Prop}{w:J}{s:ad}{ks:O Key}{kids:O Nat}(h:kz B w s ks kids):s.len=kids.length/\kids.length=ks.length+1/\kids.length<=2/\∀ (j:Nat) (d:j<kids.length),∃ (A:ah) (t:ad),s.a=some A/\w.cell? (A.add (j*2))=some (.slice t.a t.len t.cap)/\w.cell? ((A.add (j*2)).add 1)=some (.int .i64 ((kids[j]:Nat):Int))/\
 ((t.a=none/\ks.take j=ks.take (j-1))\/(t.a.isSome=true/\∃k,bg B w t k/\ks.take j=ks.take (j-1)++ [k])):=by
 rcases h with ⟨b,x,rfl,rfl,rfl,c,e⟩|⟨b,x,y,k,t,rfl,rfl,rfl,c,e,ht,f⟩
 .refine⟨rfl,rfl,by simp,λj d=>?_⟩
  have:j=0:=by simp at d;omega
  subst this;exact⟨_,⟨none,0,0⟩,rfl,by rw[aB];exact c.cell,by rw[aB,aB];exact c.cell,.inl ⟨rfl,rfl⟩⟩
 .refine⟨rfl,rfl,by simp,λj d=>?_⟩
  rcases ec j 1 with g|g
  .have:j=0:=by omega
   subst this;exact⟨_,⟨none,0,0⟩,rfl,by rw[aB];exact c.cell,by rw[aB,aB];exact c.cell,.inl ⟨rfl,rfl⟩⟩
  .have:j=1:=by simp at d;omega
   subst this;obtain⟨A,ar⟩:=bg.some ht f;exact⟨_,t,rfl,by rw[aB];exact c.cell,by rw[aB,aB];exact c.cell,.inr ⟨by rw[ar];rfl,k,ht,rfl⟩⟩
theorem kz.ext{B:Nat->Prop}{w w':J}{s:ad}{ks:O Key}{kids:O Nat}(h:kz B w s ks kids)(hx:Ext w w'):kz B w' s ks kids:=by
 rcases h with ⟨b,x,a,c,d,e,f⟩|⟨b,x,y,k,t,a,c,d,e,f,ht,g⟩
 .exact .inl ⟨b,x,a,c,d,e.ext hx,f⟩
 .exact .inr ⟨b,x,y,k,t,a,c,d,e.ext hx,f,bg.ext ht hx,g⟩
theorem Gf{w:J}{nb o:Nat}{vs:O aa}{S t:ad}{ls:O Key}{l:Key}{B:Nat->Prop}{T:TypeId}(d:Var w nb vs T)(n:o<vs.length)(f:bc B w S ls)(g:¬B nb)
 (ht:bg B w t l) (hd:∀k,ay t k->¬ay S k) (G:ls.length<=100000) {K:J->Prop}
 (p:∀ (w':J) (aC:ad),Var w' nb (vs.set o aC) T->bc (Grow B w w') w' aC (ls++ [l])->af (λq=>q=nb\/ay S q) w w'->(∀k,ay aC k->ay S k\/w.heap.size<=k)->K w'):
 aq (w.alloc (.cells #[t] 39)) λr=>∃i:ad,∃b:J,Sem.run aj (Builtin.append_ #[93,93] 93 #[S,.slice (some w.heap.size) 1 1]) r=.ok i b/\
  (∃u:aa,b.cell? (Addr.add nb o)=some u)/\b.frozen? (Addr.add nb o)=false/\aq (b.setCell (Addr.add nb o) i) λs=>K s:=by
 have v:=bc.aX (C:=λq=>B q\/w.heap.size<=q) f λk _ h=>.inl h;have x:=bg.aX (C:=λq=>B q\/w.heap.size<=q) ht λk _ h=>.inl h;obtain⟨c,w',y,z,j,A⟩:=z_ v x hd I λk a=>.inr a;have H:=d.lt;have D:¬ay S nb:=λh=>by
  obtain⟨ts,_,_,E,_⟩:=f;exact g (E nb h).1
 have m:=d.ag j D;obtain⟨aQ,a6⟩:=ek m n;refine aY ⟨c,w',y,?_⟩;rw[aB,cQ];have hc:=dJ w' nb o c;refine⟨aQ,a6,aY (p _ c (ej m _) ?_ ?_ A)⟩
 .have F:=bc.aX (C:=Grow B w (w'.setCell ⟨nb,o,none⟩ c)) z λk a h=>by
   rcases h with h|h
   .exact .inl h
   .exact .inr ⟨h,e_ a hc.size⟩
  refine bc.ag F hc λk a e=>?_;subst e;rcases a with h|h
  .exact g h
  .omega
 .exact(j.mono λk _ a=>.inr a).trans (hc.mono λk _ a=>.inl a)
def u_(B:Nat->Prop)(n:aA)(fr to:Nat)(ks:O Key)(kids:O Nat)(w:J)(v:aa)(w':J):Prop:=
 ∃K V D:ad,v=cZ (fz n fr to ks kids) K V D/\bF (λq=>B q\/w.heap.size<=q) w' (fz n fr to ks kids) K V D/\Ext w w'
structure p2(B:Nat->Prop)(lo:Nat)(nb aM a:Nat)(n:aA)(K V D:ad)(c:O aa)(w:J)(b az:ad)(bo bh:Nat->Prop)(ks:O Key)(ds:O Nat):Prop where
 ez:Var w nb [n.leaf,K,V,D] 169
 r:Var w a c 169
 o:Var w aM [false,b,(),az] 169
 k:bc bo w b ks
 d:cB bh w az ds
 bM:∀q,bo q->(B q/\q<lo)\/(lo<=q/\q<w.heap.size/\q≠nb/\q≠aM/\q≠a/\¬bh q)
 aN:∀q,bh q->lo<=q/\q<w.heap.size/\q≠nb/\q≠aM/\q≠a
 lM:∀q,ay b q->lo<=q
theorem p2.ext{B:Nat->Prop}{lo nb aM b:Nat}{n:aA}{K V D:ad}{c:O aa}{w w':J}{e az:ad}{bo bh:Nat->Prop}{ks:O Key}{ds:O Nat}(h:p2 B lo nb aM b n K V D c w e az bo bh ks ds)(hx:Ext w w'):p2 B lo nb aM b n K V D c w' e az bo bh ks ds:=by
 have f:=hx.size;exact⟨h.ez.ext hx,h.r.ext hx,h.o.ext hx,bc.ext h.k hx,cB.ext h.d hx,λq a=>(h.bM q a).imp id λh=>⟨h.1,I,h.2.2⟩,λq a=>⟨(h.aN q a).1,by have:=(h.aN q a).2.1;omega,(h.aN q a).2.2⟩,h.lM⟩
theorem Gg{B:Nat->Prop}{w cI ix a0 a1:J}{nb aM x:Nat}{n:aA}{K V D s dI D0:ad}{ao:O aa}{bo bh:Nat->Prop}{ks:O Key}{kids:O Nat}{fr to:Nat}(bD:p2 B w.heap.size nb aM x n K V D ao cI dI D0 bo bh (n.keys.take fr) (n.kids.take fr))(bE:Ext w cI)
 (bG:bF B w n K V D) (a2:kz B w s ks kids) (bH:ao.length=4) (a3:w.heap.size<=nb) (T:w.heap.size<=aM) (H:w.heap.size<=x) (L:nb≠aM/\nb≠x/\aM≠x) (t1:1<=to) (t2:to<=n.kids.length) (t3:to-1<=n.keys.length) (b2:n.keys.length<=1000) (bp:n.kids.length<=1000) (aF:ix.heap.size=nb) (aG:a0.heap.size=aM) (C:a1.heap.size=x):
 ae.wE ix a0 a1 s (to:Nat) cI (u_ B n fr to ks kids w):=by
 obtain⟨bl,bd,cb,bI⟩:=a2.at;(delta ae.wE iv an aN r1 aD we Y o2 st av aS qP;dsimp only);rw[aF,aG,C];refine⟨λi w'=>∃ (j:Nat) (z az:ad) (bo bh:Nat->Prop),i=j/\j<=kids.length/\Ext w w'/\p2 B w.heap.size nb aM x n K V D ao w' z az bo bh (n.keys.take fr++ks.take (j-1)) (n.kids.take fr++kids.take j),λi _=>((kids.length:Int)-i).toNat,⟨0,dI,D0,bo,bh,rfl,cO _,bE,by simpa using bD⟩,?_⟩;rintro _ u ⟨j,z,az,bo,bh,rfl,cc,y,h⟩;have ce:=y.size;refine⟨λaH=>?_,λaI=>?_⟩
 .have aH:j<kids.length:=by
   have:(j:Int)<(s.len:Int):=ck aH;omega
  obtain⟨A,t,ar,aQ,a6,aJ⟩:=(a2.ext y).at.2.2.2 j aH;refine⟨A,ar,⟨I,I⟩,t,by rw[dm];exact aQ,_,by rw[dm];exact a6,?_⟩;have aJ:(t.a=none/\ks.take j=ks.take (j-1))\/(t.a.isSome=true/\∃k,bg (λq=>B q/\q<w.heap.size) u t k/\ks.take j=ks.take (j-1)++ [k]):=by
   obtain⟨cf,a4,a5,bJ,_,bK⟩:=bI j aH;rw[ar]at a5;cases a5;have e:=af.cell y (λh=>h) bJ;rw[aQ]at e;injection e with e
   obtain rfl:t=a4:=by
    cases t;cases a4;simp at e;simp[e]
   rcases bK with h|⟨a3,k,T,H⟩
   .exact .inl h
   .exact .inr ⟨a3,k,bg.ext (bg.aX T λq c f=>⟨f,c⟩) y,H⟩
  refine a_ (vs:=[(),(0:Int)]) rfl λcg a7 bL ch=>?_;refine⟨a7.cd rfl ?_,rfl,cK a7 (us:=[t,.int .i64 ((kids[j]:Nat):Int)]) rfl rfl λaK U bN ci=>?_⟩
  .intro v a8
   simp only[cN,e3,fb]at a8;rcases a8 with rfl|rfl<;>trivial
  have ap:Ext u aK:=Ext.cx bL bN (bk _);have m:=h.ext ap;have cj:=ap.size;have a9:=y.trans ap;obtain⟨eI,bO⟩:∃eI,eI=u.heap.size:=⟨_,rfl⟩;rw[←bO]at U⊢;have cl:=U.lt;refine kN (λX=>∃ (dj:ad) (aq:Nat->Prop),p2 B w.heap.size nb aM x n K V D ao X dj az aq bh (n.keys.take fr++ks.take j) (n.kids.take fr++kids.take j)/\Ext w X/\Var X eI [t,.int .i64 ((kids[j]:Nat):Int)] 325/\aK.heap.size<=X.heap.size) (λq c=>⟨t,U.cell,λf=>?_,λf=>?_⟩) ?_
  .rcases aJ with ⟨au,_⟩|⟨_,k,ht,ac⟩
   .rw[au]at f;cases f
   obtain⟨ah,M,aj,N⟩:=bx (V:=⟨none,0,0⟩) m.o;have aw:∀q,ay z q->bo q:=λq c=>by
    obtain⟨ts,_,_,H,_⟩:=m.k;exact(H q c).1
   refine⟨z,M,t,U.cell,Gf (B:=λq=>bo q\/(B q/\q<w.heap.size)) m.o (o:=1) (by simp) (bc.aX m.k λq _ f=>.inl f) (λf=>?_) (bg.aX (bg.ext ht ap) λq _ f=>.inr f) (λq c aL=>?_) ?_ λw' aC aO aP p bP=>c _ ⟨aC,Grow (λq=>bo q\/(B q/\q<w.heap.size)) aK w',?_,?_,?_,p.size⟩⟩
   .rcases f with f|f
    .rcases m.bM _ f with g|g
     .omega
     .exact g.2.2.2.1 rfl
    .omega
   .have:=(ht.2.2 q c).1.2
    have:=m.lM q aL;omega
   .rw[cn,cE,cE];omega
   .have bQ:=p.size
    have E:∀q,ay z q->q<u.heap.size/\q≠nb/\q≠aM/\q≠x/\¬bh q:=λq c=>by
     have bR:=h.lM q c;rcases h.bM q (aw q c) with g|g
     .omega
     .exact g.2
    refine⟨m.ez.ag p λc=>?_,m.r.ag p λc=>?_,aO,?_,cB.ag m.d p λq f c=>?_,λq f=>?_,λq f=>⟨(m.aN q f).1,by have:=(m.aN q f).2.1;omega,(m.aN q f).2.2⟩,λq c=>?_⟩
    .rcases c with e|c
     .exact L.1 e
     .exact(E _ c).2.1 rfl
    .rcases c with e|c
     .exact L.2.2 e.symm
     .exact(E _ c).2.2.2.1 rfl
    .rw[ac,←cy];exact aP
    .rcases c with e|c
     .exact(m.aN q f).2.2.2.1 e
     .exact(E q c).2.2.2.2 f
    .rcases f with (f|f)|f
     .exact(m.bM q f).imp id λg=>⟨g.1,I,g.2.2⟩
     .exact .inl f
     .refine .inr ⟨I,f.2,λe=>?_,λe=>?_,λe=>?_,λhd=>?_⟩
      .have:=m.ez.lt;omega
      .have:=m.o.lt;omega
      .have:=m.r.lt;omega
      .have:=(m.aN q hd).2.1;omega
    .rcases bP q c with g|g
     .exact h.lM q g
     .omega
   .exact Ext.dY a9 p λq c=>by
     rcases c with rfl|c
     .exact T
     .exact m.lM q c
   .refine U.ag p λc=>?_
    rcases c with e|c
    .have:=h.o.lt;omega
    .rcases h.bM _ (aw _ c) with g|g<;>omega
  .rcases aJ with ⟨_,ac⟩|⟨au,_⟩
   .refine c _ ⟨z,bo,?_,a9,U,bk _⟩
    rw[ac];exact m
   .cases ba:t.a with
    |none=>rw[ba]at au;cases au
    |some A=>rw[ba]at f;cases f
  rintro X ⟨dj,aq,l,bb,be,cm⟩;have co:=be.lt;obtain⟨ah,M,aj,N⟩:=bx (V:=⟨none,0,0⟩) l.o;have F:∀q,ay az q->bh q:=λq c=>(l.d.2 q c).1;have bS:∀q,aq q->¬(q=aM\/ay az q):=λq f c=>by
   rcases l.bM q f with g|g
   .rcases c with e|c
    .omega
    .have:=(l.aN q (F q c)).1;omega
   .rcases c with e|c
    .exact g.2.2.2.1 e
    .exact g.2.2.2.2.2 (F q c)
  have bf:IntKind.wrap .i64 ((j:Int)+1)=((j+1:Nat):Int):=by rw[bw I I];rfl
  refine⟨az,N,_,by rw[aB];exact be.cell,(An (W:=λ_=>True) kids[j] l.o (o:=3) (by simp) l.d (λf=>(l.aN _ f).2.2.2.1 rfl) (by rw[cn,cE,cE];omega) λw' aC aO aP p=>⟨⟨j+1,dj,aC,aq,Grow bh X w',bf,I,?_,?_⟩,?_⟩).2⟩
  .exact Ext.dY bb p λq c=>by
    rcases c with rfl|c
    .exact T
    .exact(l.aN q (F q c)).1
  .have bQ:=p.size
   refine⟨l.ez.ag p λc=>?_,l.r.ag p λc=>?_,aO,?_,?_,λq f=>?_,λq f=>?_,l.lM⟩
   .rcases c with e|c
    .exact L.1 e
    .exact(l.aN _ (F _ c)).2.2.1 rfl
   .rcases c with e|c
    .exact L.2.2 e.symm
    .exact(l.aN _ (F _ c)).2.2.2.2 rfl
   .exact bc.ag l.k p bS
   .rw[kG aH,←cy];exact aP
   .refine(l.bM q f).imp id λg=>⟨g.1,I,g.2.2.1,g.2.2.2.1,g.2.2.2.2.1,λhd=>?_⟩
    rcases hd with hd|hd
    .exact g.2.2.2.2.2 hd
    .omega
   .rcases f with f|f
    .exact⟨(l.aN q f).1,by have:=(l.aN q f).2.1;omega,(l.aN q f).2.2⟩
    .refine⟨by have:=bb.size;omega,f.2,λe=>?_,λe=>?_,λe=>?_⟩
     .have:=l.ez.lt;omega
     .have:=l.o.lt;omega
     .have:=l.r.lt;omega
  .rw[bf]
   show((kids.length:Int)-((j+1:Nat):Int)).toNat<((kids.length:Int)-(j:Int)).toNat;omega
 .have aI:j=kids.length:=by
   have:¬(j:Int)<(s.len:Int):=cG aI;omega
  subst aI;have bi:Ext u u.drew:=cH _;have h:=h.ext bi;have y:=y.trans bi;have ac:ks.take (kids.length-1)=ks:=dT I;rw[ac,jI]at h;obtain⟨ah,M,aj,N⟩:=bx (V:=⟨none,0,0⟩) h.o;obtain⟨j2,bj,bT,bm⟩:=bx h.ez;have bn:bF (λq=>B q/\q<w.heap.size) w n K V D:=bG.aX λq c f=>⟨f,c⟩;have aR:=bn.ext y;have bq:=bt.len aR.keys;have br:=cM.len aR.kids;have bs:IntKind.wrap .i64 ((to:Int)-1)=((to-1:Nat):Int):=by rw[bw I I];omega
  have aw:∀q,ay z q->bo q:=λq c=>by
   obtain⟨ts,_,_,H,_⟩:=h.k;exact(H q c).1
  have F:∀q,ay az q->bh q:=λq c=>(h.d.2 q c).1;have bu:=bt.sub aR.keys (lo:=to-1) (hi:=n.keys.length) t3 (bk _);have bU:(n.keys.drop (to-1)).take (n.keys.length-(to-1))=n.keys.drop (to-1):=dT (by rw[ed];exact bk _);rw[bU]at bu;obtain⟨P,ak,aF,aG,C⟩:=xm h.k bu (λq c aL=>by have:=h.lM q aL;omega) (by rw[cn,cE];omega) (by rw[ed];omega);have cp:u.drew.heap.size=u.heap.size:=rfl;have E:∀q,ay z q->q<u.drew.heap.size/\q≠nb/\q≠aM/\q≠x/\¬bh q:=λq c=>by
   have bR:=h.lM q c;rcases h.bM q (aw q c) with g|g
   .omega
   .exact g.2
  have cq:=C.size;have bV:Ext w ak:=Ext.dY y C λq c=>h.lM q c;have bv:=h.o.ag C λc=>(E _ c).2.2.1 rfl;have bW:=h.ez.ag C λc=>(E _ c).2.1 rfl;have bX:=h.r.ag C λc=>(E _ c).2.2.2.1 rfl;have bY:cB bh ak az _:=cB.ag h.d C λq f c=>(E q c).2.2.2.2 f;obtain⟨b7,cA⟩:=ek bv (i:=1) (by simp);refine aY ⟨id,z,M,id,K,bj,?_,P,ak,?_,by rw[aB];exact b7,by rw[aB];exact cA,?_⟩
  .rw[bs,bq];omega
  .rw[bs,dm,bq];exact aF
  rw[aB,cQ];have R:=dJ ak aM 1 P;have al:=ej bv (i:=1) P;obtain⟨G,bZ⟩:∃G,G=ak.setCell ⟨aM,1,none⟩ P:=⟨_,rfl⟩;rw[←bZ]at R al⊢;have cr:=R.size;have aT:=bW.ag R (λe=>L.1 e);have aU:=bX.ag R (λe=>L.2.2 e.symm);have aV:cB bh G az _:=cB.ag bY R λq f e=>(h.aN q f).2.2.2.1 e;have am:Ext w G:=Ext.cx bV R T;have Z:Ext G G.drew:=cH _;have bz:∀q,(bo q\/(B q/\q<w.heap.size)\/u.drew.heap.size<=q)->q≠aM:=λq c e=>by
   subst e;rcases c with c|c|c
   .rcases h.bM _ c with g|g
    .omega
    .exact g.2.2.2.1 rfl
   .omega
   .have:=h.o.lt;omega
  have b0:=bt.ext (bt.ag aG R bz) Z;have al:=al.ext Z;have aT:=aT.ext Z;have aU:=aU.ext Z;have aV:=cB.ext aV Z;have am:=am.trans Z;obtain⟨ah,M,aj,N⟩:=bx (V:=⟨none,0,0⟩) al;obtain⟨j2,bj,bT,bm⟩:=bx aT;have bA:=cM.sub (bn.ext am).kids (lo:=to) (hi:=n.kids.length) t2 (bk _);have b1:(n.kids.drop to).take (n.kids.length-to)=n.kids.drop to:=dT (by rw[ed];exact bk _);rw[b1]at bA;obtain⟨S,ax,f1,f2,f3⟩:=Ay aV bA (by rw[cn,cE];omega) (by rw[ed];omega);have cs:G.drew.heap.size=G.heap.size:=rfl;have ct:=f3.size;have aE:∀q,ay az q->w.heap.size<=q/\q<u.drew.heap.size/\q≠nb/\q≠aM/\q≠x:=λq c=>h.aN q (F q c);have b3:Ext w ax:=Ext.dY am f3 λq c=>(aE q c).1;have bB:=al.ag f3 λc=>(aE _ c).2.2.2.1 rfl;have b4:=aU.ag f3 λc=>(aE _ c).2.2.2.2 rfl;have b5:=bt.ag b0 f3 λq f c=>by
   have cu:=aE q c;rcases f with f|f|f
   .rcases h.bM q f with g|g
    .omega
    .exact g.2.2.2.2.2 (F q c)
   .omega
   .omega
  obtain⟨b7,cA⟩:=ek bB (i:=3) (by simp);refine aY (aY ⟨id,az,N,id,D,bm,?_,S,ax,?_,by rw[aB];exact b7,by rw[aB];exact cA,?_⟩)
  .rw[br];omega
  .rw[dm,br];exact f1
  rw[aB,cQ];have ab:=dJ ax aM 3 S;have bC:=ej bB (i:=3) S;obtain⟨aW,b6⟩:∃aW,aW=ax.setCell ⟨aM,3,none⟩ S:=⟨_,rfl⟩;rw[←b6]at ab bC⊢;have cv:=ab.size;have b8:=b4.ag ab (λe=>L.2.2 e.symm);have b9:Ext w aW:=Ext.cx b3 ab T;have b_:=bt.ag b5 ab bz;have ca:=cM.ag f2 ab λq f e=>by
   subst e;rcases f with f|f|f
   .exact(h.aN _ f).2.2.2.1 rfl
   .omega
   .have:=h.o.lt;omega
  obtain⟨ah,M,aj,N⟩:=bx (V:=⟨none,0,0⟩) bC;refine aY ⟨_,ah,P,M,⟨none,0,0⟩,aj,S,N,?_⟩;refine h4 false P ⟨none,0,0⟩ S b8 bH (Q:=λb K V D ai=>u_ B n fr to ks kids w (.agg #[b,K,V,D]) ai) λcw aZ=>?_;refine⟨P,⟨none,0,0⟩,S,rfl,⟨?_,?_,?_⟩,Ext.cx b9 aZ H⟩
  .refine bt.aX (bt.ag b_ aZ λq f e=>?_) λq _ f=>?_
   .subst e
    rcases f with f|f|f
    .rcases h.bM _ f with g|g
     .omega
     .exact g.2.2.2.2.1 rfl
    .omega
    .have:=h.r.lt;omega
   .rcases f with f|f|f
    .rcases h.bM _ f with g|g
     .exact .inl g.1
     .exact .inr g.1
    .exact .inl f.1
    .have:=y.size;exact .inr I
  .exact bt.none _ _
  .refine cM.aX (cM.ag ca aZ λq f e=>?_) λq _ f=>?_
   .subst e
    rcases f with f|f|f
    .exact(h.aN _ f).2.2.2.2 rfl
    .omega
    .have:=h.r.lt;omega
   .rcases f with f|f|f
    .exact .inr (h.aN _ f).1
    .exact .inl f.1
    .have:=am.size;exact .inr I
theorem xK(K D:ad)(w:J):Sem.run aj (Instr.build 169 #[(1,K),(3,D)]) w=.ok (.agg #[false,K,(),D]) w:=by kernel_rfl
theorem pB{B:Nat->Prop}{w:J}{n:aA}{K V D s:ad}{ks:O Key}{kids:O Nat}{fr to:Nat}(Q:bF B w n K V D)(al:kz B w s ks kids)(f1:fr<=n.keys.length)(f2:fr<=n.kids.length)(t1:1<=to)(t2:to<=n.kids.length)(t3:to-1<=n.keys.length)(b2:n.keys.length<=1000)(bp:n.kids.length<=1000):
 aJ aj 233 #[cZ n K V D,fr,to,s] w (u_ B n fr to ks kids w):=by
 refine okF (ae.pB n.leaf K V D (fr:Nat) (to:Nat) s) aw.pB func233 ?_;(delta ae.pB z4 Y r1 bG iv an aN aD we o2 st av aS qP;dsimp only);refine a_ (vs:=[n.leaf,K,V,D]) rfl λw1 am ao aF=>?_;refine a_ (vs:=[false,(),(),()]) rfl λai ap R aG=>aY ?_;have E:Ext ai ai.drew:=cH _;have H:=(ao.trans R).trans E;obtain⟨d,S⟩:∃d,d=ai.drew:=⟨_,rfl⟩;have aI:d.heap.size=ai.heap.size:=by rw[S];rfl
 rw[←S]at H E⊢;have T:=(am.ext R).ext E;have aq:=ap.ext E;obtain⟨bH,aQ,a6,ba⟩:=bx T;have t:bF (λq=>B q/\q<w.heap.size) d n K V D:=(Q.aX λq a c=>⟨c,a⟩).ext H;have aK:=bt.len t.keys;have aL:=cM.len t.kids;have aO:=bt.le t.keys;have aP:=t.kids.2.1;have L:=bt.sub t.keys (lo:=0) (hi:=fr) (cO _) f1;have F:=cM.sub t.kids (lo:=0) (hi:=fr) (cO _) f2;rw[iK,mY]at L F;have U:Int.toNat (fr:Int)-0=fr:=by rw[dm];rfl
 have fin:∀ (cI M:J) (aM:Nat) (dI D0:ad),M.heap.size=aM->Ext d cI->Var cI aM [false,dI,(),D0] 169->d.heap.size<=aM->bc (λq=>(B q/\q<w.heap.size)\/(d.heap.size<=q/\ay dI q)) cI dI (n.keys.take fr)->aV 1 3 cI D0 (fA (n.kids.take fr))->
  (∀q,ay dI q->d.heap.size<=q/\q≠aM)->(∀q,ay D0 q->d.heap.size<=q/\q≠aM/\¬ay dI q)->ae.wE w M w1 s (to:Nat) cI (u_ B n fr to ks kids w):=by
  intro cI M aM dI D0 ar hx au aR W N X Z;have aT:=hx.size;have aH:∀q,ay dI q->q<cI.heap.size:=λq a=>by
   obtain⟨ts,_,o,_,_⟩:=W;exact o.lt q a
  refine Gg (bo:=λq=>(B q/\q<w.heap.size)\/ay dI q) (bh:=λq=>ay D0 q) ⟨T.ext hx,aq.ext hx,au,bc.aX W λq _ c=>c.imp id λh=>h.2,⟨N,λq a=>⟨a,aV.lt N q a⟩⟩,λq c=>?_,λq c=>?_,λq a=>by have:=(X q a).1;omega⟩ (H.trans hx) Q al rfl (bk _) I I ⟨I,I,I⟩ t1 t2 t3 b2 bp rfl ar rfl
  .rcases c with c|c
   .exact .inl c
   .have x:=X q c
    exact .inr ⟨I,aH q c,I,x.2,I,λax=>(Z q ax).2.2 c⟩
  .have x:=Z q c
   exact⟨I,aV.lt N q c,I,x.2.1,I⟩
 refine⟨λ_=>False,id,K,aQ,⟨I,I⟩,id,D,ba,⟨I,I⟩,?_,?_⟩
 .rw[U]
  refine(Bn L (by rw[cE];omega)).use ?_;rintro _ u ⟨dI,rfl,p,f,y⟩;have az:=f.size;refine⟨dI,rfl,f,?_,?_⟩
  .refine(ry (F.1.ext f) (by rw[cE];omega)).use ?_
   rintro _ aa ⟨D0,rfl,v,G,ab⟩;have aU:=G.size;refine⟨D0,rfl,G,_,xK dI D0,a_ (vs:=[false,(),(),()]) rfl λaW ac af aZ=>⟨af,ac.cd rfl (fp (b:=false) (K:=dI) (V:=⟨none,0,0⟩) (D:=D0)),rfl,cK ac (us:=[false,dI,(),D0]) rfl rfl λg z j ah=>?_⟩⟩;have k:Ext aa g:=Ext.cx af j (bk _);have r:∀q,ay dI q->q<u.heap.size:=λq a=>by
    obtain⟨ts,_,o,_,_⟩:=p;exact o.lt q a
   exact fin g aa _ dI D0 rfl (f.trans (G.trans k)) z I (bc.aX (bc.ext p (G.trans k)) λq _ c=>c.imp (λh=>h.1) id) (v.ext k) (λq a=>⟨y q a,by have:=r q a;omega⟩) λq a=>⟨by have:=ab q a;omega,by have:=aV.lt v q a;omega,λh=>by have:=r q h;have:=ab q a;omega⟩
  .refine a_ (vs:=[false,(),(),()]) rfl λak P l aB=>⟨l,(ry ((F.1.ext f).ext l) (by rw[cE];omega)).use ?_⟩
   rintro _ aC ⟨D0,rfl,v,m,i⟩;have A:=P.ext m;refine⟨D0,rfl,m,_,xK dI D0,A.cd rfl (fp (b:=false) (K:=dI) (V:=⟨none,0,0⟩) (D:=D0)),rfl,cK A (us:=[false,dI,(),D0]) rfl rfl λg z j ah=>?_⟩;have k:Ext u g:=Ext.cx (l.trans m) j (bk _);have r:∀q,ay dI q->q<u.heap.size:=λq a=>by
    obtain⟨ts,_,o,_,_⟩:=p;exact o.lt q a
   exact fin g u _ dI D0 rfl (f.trans k) z I (bc.aX (bc.ext p k) λq _ c=>c.imp (λh=>h.1) id) (v.ag j λq a e=>by have:=i q a;omega) (λq a=>⟨y q a,by have:=r q a;omega⟩) λq a=>⟨by have:=i q a;omega,by have:=i q a;omega,λh=>by have:=r q h;have:=i q a;omega⟩
 .rw[U]
  refine a_ (vs:=[false,(),(),()]) rfl λak P l aB=>⟨l,(Bn (bt.ext L l) (by rw[cE];omega)).use ?_⟩;rintro _ u ⟨dI,rfl,p,f,y⟩;have az:=f.size;refine⟨dI,rfl,f,(ry ((F.1.ext l).ext f) (by rw[cE];omega)).use ?_⟩;rintro _ aC ⟨D0,rfl,v,m,i⟩;have A:=(P.ext f).ext m;refine⟨D0,rfl,m,_,xK dI D0,A.cd rfl (fp (b:=false) (K:=dI) (V:=⟨none,0,0⟩) (D:=D0)),rfl,cK A (us:=[false,dI,(),D0]) rfl rfl λg z j ah=>?_⟩;have k:Ext d g:=Ext.cx ((l.trans f).trans m) j (bk _);have r:∀q,ay dI q->q<u.heap.size:=λq a=>by
   obtain⟨ts,_,o,_,_⟩:=p;exact o.lt q a
  have aE:bc (λq=>(B q/\q<w.heap.size)\/(d.heap.size<=q/\ay dI q)) g dI (n.keys.take fr):=by
   have x:=bc.aX (C:=λq=>(B q/\q<w.heap.size)\/(ak.heap.size<=q/\ay dI q)) (bc.ext p m) λq _ c=>c.imp (λh=>h.1) id;exact bc.aX (bc.ag x j λq c e=>by rcases c with c|c<;>omega) λq _ c=>c.imp id λh=>⟨I,h.2⟩
  exact fin g d _ dI D0 rfl k z (bk _) aE (v.ag j λq a e=>by have:=i q a;omega) (λq a=>⟨by have:=y q a;omega,by have:=y q a;omega⟩) λq a=>⟨by have:=i q a;omega,by have:=i q a;omega,λh=>by have:=r q h;have:=i q a;omega⟩
def k2(n:aA):Prop:=cr n/\bn n<=400/\(232<bn n->1<=b_ n/\(if n.leaf then b_ n<=n.keys.length-1/\1<=n.keys.length-1 else b_ n<=n.keys.length-2/\1<=n.keys.length-2)/\bn (n.left (b_ n))<=232/\bn (n.right (b_ n))<=232)
structure k3(B:Nat->Prop)(w:J)(A:ah)(u:dc):Prop where
 aQ:w.cell? (A.add 1)=some (.bool u.n.leaf)
 a6:w.cell? ((A.add 1).add 1)=some (.slice u.K.a u.K.len u.K.cap)
 ba:w.cell? ((A.add 1).add 2)=some (.slice u.V.a u.V.len u.V.cap)
 fo:w.cell? ((A.add 1).add 3)=some (.slice u.D.a u.D.len u.D.cap)
 h5:w.cell? (A.add 5)=some (.int .i64 (u.cC:Nat))
 b1:bF B w u.n u.K u.V u.D
 bY:B A.block
 lt:A.block<w.heap.size
theorem k3.ext{B:Nat->Prop}{w w':J}{A:ah}{u:dc}(h:k3 B w A u)(hx:Ext w w'):k3 B w' A u:=
 ⟨af.cell hx (λh=>h) h.aQ,af.cell hx (λh=>h) h.a6,af.cell hx (λh=>h) h.ba,af.cell hx (λh=>h) h.fo,af.cell hx (λh=>h) h.h5,h.b1.ext hx,h.bY,e_ h.lt hx.size⟩
theorem k3.to{w w':J}{T ao:aF}{k:Nat}{A:ah}{u:dc}(h:k3 (λq=>¬T.M q) w A u)(ht:bD T ao w w' k):k3 (λq=>¬ao.M q) w' A u:=by
 have hc:=ht.ag;have a:¬T.N A.block:=λd=>h.bY (aF.gd d);refine⟨af.cell hc (A:=A.add 1) a h.aQ,af.cell hc (A:=(A.add 1).add 1) a h.a6,af.cell hc (A:=(A.add 1).add 2) a h.ba,af.cell hc (A:=(A.add 1).add 3) a h.fo,af.cell hc (A:=A.add 5) a h.h5,?_,λe=>?_,e_ h.lt hc.size⟩
 .have b:=ht.b1 (lo:=0) (h.b1.aX λq _ c=>⟨cO _,c⟩)
  exact b.aX λq _ c=>c.2
 .rcases ht.cS _ e with b|b
  .exact h.bY b
  .have:=h.lt;omega
theorem gT.base{T:aF}{c:de}{n:aA}{w0 w w':J}{v:aa}(h:gT T c n w v w')(hx:Ext w0 w):gT T c n w0 v w':=by
 obtain⟨ao,c',m,s,a,b,d,e⟩:=h;exact⟨ao,c',m,s,a,((c3.ext T c hx).trans b).mono I,d,e⟩
theorem gT.out{T:aF}{c:de}{n:aA}{w w':J}{v:aa}(h:gT T c n w v w'):∃ (s:ad) (e:Int),v=.tuple #[s,e]:=by
 obtain⟨ao,c',m,s,b,d,f,a⟩:=h;rcases a with ⟨ks,rfl,_⟩|⟨rfl,_⟩
 .exact⟨s,0,rfl⟩
 .exact⟨s,3,rfl⟩
theorem Gh{W X:Nat->Prop}{w0 cI aq hT ar iV:J}{T:aF}{c:de}{nb aM g bv:Nat}{A:ah}{u:dc}{n o:aA}{K V D i j k:ad}{fr other:Nat}{Q:aa->J->Prop}(h:c2 w0 T c)(hx:Ext w0 cI)(au:Var w0 nb (dF n K V D) 169)(aw:Var w0 aM (dF o i j k) 169)
 (ax:Var cI g (dF o i j k) 169) (ay:Var cI bv (dF n K V D) 169) (bb:w0.heap.size<=g) (bc:w0.heap.size<=bv) (az:g≠bv) (aB:bF W w0 n K V D) (aC:bF X w0 o i j k) (hu:k3 (λq=>¬T.M q) w0 A u)
 (aE:T.C.D.aT<=900000090) (aG:2<=b4 T) (aH:c.made.length<=900) (Z:cr n) (ab:cr o) (bP:bn n<=400) (bQ:bn o<=400) (aI:o.leaf=n.leaf) (bd:fr<u.n.keys.length) (aJ:cq u.n.keys[fr]) (m:aA) (aK:m=if u.cC<other then dn n u.n.keys[fr] o else dn o u.n.keys[fr] n) (l:k2 m) (bR:fr<=1000)
 (aL:∀ (s:ad) (e:Int) (w':J),gT T c m w0 (.tuple #[s,e]) w'->Q (.tuple #[s,fr,.int .i64 ((fr+2:Nat):Int),e]) w') (be:aq.heap.size=nb) (bf:hT.heap.size=aM) (bg:ar.heap.size=g) (bh:iV.heap.size=bv):
 ae.wF aq hT ar iV (some c.cb) (some A) (fr:Nat) (other:Nat) cI Q:=by
 have bT:=au.lt;have bU:=aw.lt;have bV:=hx.size;have fn:=Z.eL I;have bW:=ab.eL I;(delta ae.wF bN aD an Y aS r1 nv aN kR z4 o4 dZ av;dsimp only);rw[be,bf,bg,bh];refine kN (λp=>∃ (a b:aA) (G H L N O P:ad) (aO aP:Nat->Prop),Ext w0 p/\Var p g (dF a G H L) 169/\Var p bv (dF b N O P) 169/\bF aO w0 a G H L/\bF aP w0 b N O P/\m=dn a u.n.keys[fr] b/\cr a/\cr b/\a.leaf=b.leaf/\a.keys.length<=200/\b.keys.length<=200)
  (λq r=>⟨A,rfl,_,(hu.ext hx).h5,λd=>?_,λd=>r _ ⟨o,n,i,j,k,K,V,D,X,W,hx,ax,ay,aC,aB,?_,ab,Z,aI,I,I⟩⟩) ?_
 .have d:u.cC<other:=by
   have:(other:Int)>(u.cC:Int):=ck d;omega
  have f:=hx.trans (cH cI);obtain⟨bi,b2,bp,bj⟩:=bx (au.ext f);obtain⟨bl,bm,bo,bq⟩:=bx (aw.ext f);have aQ:=ax.drew;have br:=ay.drew;refine aY ⟨λq=>q=g,(show nb≠g from I),_,bi,K,b2,V,bp,D,bj,(show aM≠g from I),_,bl,i,bm,j,bo,k,bq,aQ.cd rfl fp,rfl,cK aQ (us:=dF n K V D) rfl rfl λbX bs ac bY=>?_⟩;have aR:=br.ag ac (λe=>az e.symm);refine⟨ac,aR.cd rfl fp,rfl,cK aR (us:=dF o i j k) rfl rfl λbZ bu aU b0=>?_⟩;exact r _ ⟨n,o,K,V,D,i,j,k,W,X,Ext.cx (Ext.cx f ac bb) aU bc,bs.ag aU az,bu,aB,aC,by rw[aK,if_pos d],Z,ab,aI.symm,I,I⟩
 .have d:¬u.cC<other:=by
   have:¬(other:Int)>(u.cC:Int):=cG d;omega
  rw[aK,if_neg d]
 rintro p ⟨a,b,G,H,L,N,O,P,aO,aP,bz,bA,d,aV,aW,af,aX,sb,aZ,la,lb⟩;have f:=bz.trans (cH p);have bB:=bA.drew;have bC:=d.drew;obtain⟨a0,a1,a2,a3⟩:=bx bB;obtain⟨bD,cv,bS,bE⟩:=bx bC;have a4:=hu.ext f;obtain⟨bG,tk,bH,bI,bJ,R,b3⟩:=bt.at a4.b1.keys bd;have a5:cr (dn a u.n.keys[fr] b):=by rw[←af];exact l.1
 have B:=nP (aV.ext f) (aW.ext f) R.1 (λq r=>(R.2.2 q r).2) (by have:=aJ.2;omega) aX sb aZ a5 I I;rw[←af]at B;have a7:IntKind.wrap .i64 ((fr:Int)+2)=((fr+2:Nat):Int):=by rw[bw I I];rfl
 obtain⟨wd,b5⟩:∃wd,wd=p.drew:=⟨_,rfl⟩;refine aY ⟨λ_=>False,id,_,a0,G,a1,H,a2,L,a3,A,rfl,id,u.K,a4.a6,bG,bH,bI,id,tk,bJ,id,_,bD,N,cv,O,bS,P,bE,?_,?_⟩
 .refine B.use ?_
  rintro _ bK ⟨t,w,x,rfl,ai,y⟩;refine⟨_,t,w,x,true,rfl,y,a_ (vs:=[false,(),(),()]) rfl λb6 a8 a9 b7=>⟨a9,a8.cd rfl fp,rfl,cK a8 (us:=dF m t w x) rfl rfl λaj ak S bL=>⟨λd=>(by cases d),λ_=>?_⟩⟩⟩;have U:Ext bK aj:=Ext.cx a9 S (bk _);have E:=(f.trans y).trans U;obtain⟨al,am,ao,ap⟩:=bx ak;refine⟨_,al,t,am,w,ao,x,ap,(u9 (h.ext E) aE aG aH (ai.ext U) l.1 l.2.1 l.2.2).use ?_⟩;intro v w' F;obtain⟨s,e,rfl⟩:=F.out;rw[a7];exact⟨s,e,rfl,aL s e w' (F.base E)⟩
 .refine a_ (vs:=[false,(),(),()]) rfl λb8 bM z b9=>⟨z,?_⟩
  have B:=nP ((aV.ext f).ext z) ((aW.ext f).ext z) (R.1.ext z) (λq r=>e_ (R.2.2 q r).2 z.size) (by have:=aJ.2;omega) aX sb aZ a5 I I;rw[←af]at B;refine B.use ?_;rintro _ b_ ⟨t,w,x,rfl,ai,y⟩;have ba:=bM.ext y;refine⟨_,t,w,x,true,rfl,y,ba.cd rfl fp,rfl,cK ba (us:=dF m t w x) rfl rfl λaj ak S bL=>⟨λd=>(by cases d),λ_=>?_⟩⟩;have U:Ext p.drew aj:=Ext.cx (z.trans y) S (bk _);have E:=f.trans U;have bO:=bF.ag ai S λq r e=>by omega
  obtain⟨al,am,ao,ap⟩:=bx ak;refine⟨_,al,t,am,w,ao,x,ap,(u9 (h.ext E) aE aG aH bO l.1 l.2.1 l.2.2).use ?_⟩;intro v w' F;obtain⟨s,e,rfl⟩:=F.out;rw[a7];exact⟨s,e,rfl,aL s e w' (F.base E)⟩
theorem c3.leave{T:aF}{c c':de}{E G:Nat->Prop}{w w':J}{no:Nat}(h:bD T (T.cj E G) w w' 0)(a:E=T.E)(b:∀q,T.G q->G q)(d:c'.cb=c.cb)(e:c'.made=c.made)(f:c'.left=c.left++ [no]):c3 T (T.cj E G) c c' [] [no] w w' 0:=
 ⟨h,a,b,rfl,rfl,d,by rw[e,fk],f,List.nodup_nil,λ_ h=>(by cases h),λno=>by simp[aF.cj],λ_ _=>⟨rfl,rfl⟩,by simp[b4,aF.cj]⟩
theorem Gi{w F hT:J}{T:aF}{c:de}{nb aM:Nat}{A:ah}{u:dc}{n o:aA}{K V D g i j:ad}{fr other no:Nat}{Q:aa->J->Prop}(h:c2 w T c)(aE:Var w nb (dF n K V D) 169)(aG:Var w aM (dF o g i j) 169)
 (aH:¬T.M nb) (aI:¬T.M aM) (aJ:bF (λq=>¬T.M q) w n K V D) (aK:bF (λq=>¬T.M q) w o g i j) (hu:k3 (λq=>¬T.M q) w A u)
 (aL:T.C.D.aT<=900000090) (aO:2<=b4 T) (aP:c.made.length<=900) (bD:c.left.length<=900) (aR:cr n) (aU:cr o) (aV:bn n<=400) (aW:bn o<=400) (aX:o.leaf=n.leaf) (aZ:fr<u.n.keys.length) (a0:cq u.n.keys[fr]) (m:aA) (H:m=if u.cC<other then dn n u.n.keys[fr] o else dn o u.n.keys[fr] n) (a1:k2 m) (a2:fr<=1000)
 (a3:∀ (s:ad) (e:Int) (bL:aF) (aQ:de) (w1 w':J),c3 T bL c aQ [] [no] w w1 0->gT bL aQ m w1 (.tuple #[s,e]) w'->Q (.tuple #[s,fr,.int .i64 ((fr+2:Nat):Int),e]) w') (x:F.heap.size=nb) (y:hT.heap.size=aM):
 ae.wG F hT (some c.cb) (some A) (fr:Nat) (other:Nat) (no:Nat) 0 w Q:=by
 (delta ae.wG o7 an r1 Y st aS z4 qR bN aD nv aN kR o4 dZ av;dsimp only);rw[x,y];refine⟨λL=>(by cases L),λ_=>⟨_,rfl,_,h.cells.2.2,?_⟩⟩;obtain⟨k,aq,a4,bE,a5,a6,a7⟩:=Bh h no I;refine aY ⟨k,aq,a4,_,rfl,by rw[aB];exact a5,by rw[aB];exact a6,aY ?_⟩;rw[aB];obtain⟨b,ar⟩:∃b,b=aq.setCell ⟨c.cb,0+2,none⟩ k:=⟨_,rfl⟩;rw[←ar];obtain⟨au,aw⟩:=a7 b ar;have ax:=c3.leave (c:=c) (c':={c with fV:=k,left:=c.left++ [no]}) (no:=no) aw rfl (λq O=>.inl O) rfl rfl rfl;obtain⟨bL,z⟩:∃bL,bL=T.cj T.E λq=>T.G q\/ay k q:=⟨_,rfl⟩;obtain⟨aQ,P⟩:∃aQ:de,aQ={c with fV:=k,left:=c.left++ [no]}:=⟨_,rfl⟩;have a8:aQ.cb=c.cb:=by rw[P]
 have a9:aQ.made=c.made:=by rw[P]
 have ba:bL.C.D.aT<=900000090:=by rw[z];exact aL
 have bb:2<=b4 bL:=by rw[z];exact aO
 rw[←z,←P]at au ax;rw[←z]at aw;have R:Ext b b.drew:=cH _;have az:=au.ext R;have S:c3 T bL c aQ [] [no] w b.drew 0:=ax.trans (c3.ext bL aQ R);obtain⟨a,bc⟩:∃a,a=b.drew:=⟨_,rfl⟩;rw[←bc]at R az S⊢;have B:=S.to;have U:∀q,¬T.M q->¬T.N q:=λq W X=>W (aF.gd X);have Z:=aE.ag B.ag (U _ aH);have ab:=aG.ag B.ag (U _ aI);have aC:∀ {m:aA}{K V D:ad},bF (λq=>¬T.M q) w m K V D->bF (λq=>¬T.M q) a m K V D:=λH=>bF.ag H B.ag λq O=>U q O;have bd:=aC aJ;have be:=aC aK;have bf:=hu.to B;obtain⟨bg,b2,bp,bh⟩:=bx Z;obtain⟨bi,bj,bl,bm⟩:=bx ab;have bG:=Z.lt;have bH:=ab.lt;have fin:∀ (cI ac iV:J) (l bv:Nat),ac.heap.size=l->iV.heap.size=bv->Ext a cI->Var cI l (dF o g i j) 169->Var cI bv (dF n K V D) 169->a.heap.size<=l->a.heap.size<=bv->l≠bv->ae.wF F hT ac iV (some c.cb) (some A) (fr:Nat) (other:Nat) cI Q:=by
  intro cI ac iV l bv bo bq hx br L W X bs;have:=Gh az hx Z ab br L W X bs bd be bf ba bb (by rw[a9];exact aP) aR aU aV aW aX aZ a0 m H a1 a2 (Q:=Q) (λs e w' hf=>a3 s e bL aQ a w' S hf) x y bo bq;rw[a8]at this;exact this
 refine aY ⟨λq=>a.heap.size<=q,(show¬a.heap.size<=aM from I),_,bi,g,bj,i,bl,j,bm,(show¬a.heap.size<=nb from I),_,bg,K,b2,V,bp,D,bh,?_,?_⟩
 .refine a_ (vs:=[false,(),(),()]) rfl λai bt p bu=>⟨af.c7 p,a_ (vs:=[false,(),(),()]) rfl λbw aj d bz=>?_⟩
  have r:=bt.ext d;refine⟨af.c7 d,r.cd rfl fp,rfl,cK r (us:=dF o g i j) rfl rfl λak al f bA=>?_⟩;have t:=aj.ag f I;have am:Ext a ak:=Ext.cx (p.trans d) f (bk _);refine⟨f.mono λq _ e=>I,t.cd rfl fp,rfl,cK t (us:=dF n K V D) rfl rfl λao ap v bB=>?_⟩;rw[←x,←y];exact fin ao a ai _ _ rfl rfl (Ext.cx am v I) (al.ag v I) ap (bk _) I I
 .refine a_ (vs:=[false,(),(),()]) rfl λai bC p bu=>⟨af.c7 p,a_ (vs:=[false,(),(),()]) rfl λbw r d bz=>?_⟩
  have aj:=bC.ext d;refine⟨af.c7 d,r.cd rfl fp,rfl,cK r (us:=dF o g i j) rfl rfl λak al f bA=>?_⟩;have t:=aj.ag f I;have am:Ext a ak:=Ext.cx (p.trans d) f I;refine⟨f.mono λq _ e=>I,t.cd rfl fp,rfl,cK t (us:=dF n K V D) rfl rfl λao ap v bB=>?_⟩;rw[←x,←y];exact fin ao ai a _ _ rfl rfl (Ext.cx am v (bk _)) (al.ag v I) ap I (bk _) I
theorem bD.read{w w':J}{T:aF}{E:Nat->Prop}{aE:bO}{P:Nat->au aA}{k:Nat}(h:bD (T.cj E λ_=>False) ((T.cj E λ_=>False).bm aE P) w w' k)(f:∀q,T.E q\/T.G q->E q)(i:∀q,E q->T.E q\/T.G q\/w.heap.size<=q):bD T (T.bm aE P) w w' k:=by
 refine⟨h.a8,h.sb,h.n,h.g,h.s1,h.s2,h.c,h.d,h.bP,h.gen,h.aT,h.calm,h.ag.mono λq _ a=>?_,λq a=>?_,λq a=>?_⟩
 .rcases a with a|a|a|a
  .exact .inl a
  .exact .inr (.inl a)
  .exact .inr (.inr (.inl a))
  .exact a.elim
 .have j:((T.cj E λ_=>False).bm aE P).M q:=by
   rcases a with a|a|a|a
   .exact .inl a
   .exact .inr (.inl a)
   .exact .inr (.inr (.inl a))
   .exact .inr (.inr (.inr (.inl (f q a))))
  rcases h.cS q j with b|b
  .rcases b with a|a|a|a|a
   .exact .inl (.inl a)
   .exact .inl (.inr (.inl a))
   .exact .inl (.inr (.inr (.inl a)))
   .rcases i q a with e|e|e
    .exact .inl (.inr (.inr (.inr (.inl e))))
    .exact .inl (.inr (.inr (.inr (.inr e))))
    .exact .inr e
   .exact a.elim
  .exact .inr b
 .rcases a with a|a|a|a
  .rcases h.fn q (.inl a) with b|b
   .rcases b with b|b|b|b
    .exact .inl (.inl b)
    .exact .inl (.inr (.inl b))
    .exact .inl (.inr (.inr (.inl b)))
    .exact b.elim
   .exact .inr b
  .exact .inl (.inr (.inl a))
  .exact .inl (.inr (.inr (.inl a)))
  .exact .inl (.inr (.inr (.inr a)))
theorem c3.cache{T:aF}{c:de}{aE:bO}{w w':J}{k:Nat}(h:bD T (T.bm aE T.P) w w' k)(a:∀j,aE.view j=T.C.view j):c3 T (T.bm aE T.P) c c [] [] w w' k:=
 ⟨h,rfl,λ_ h=>h,rfl,rfl,rfl,by simp,by simp,List.nodup_nil,λ_ h=>(by cases h),λno=>by simp[aF.bm],λno _=>⟨rfl,a no⟩,by simp[b4,aF.bm]⟩
theorem Bo{w w1:J}{T:aF}{c:de}{Z:Nat->Prop}{no:Nat}{o:aA}(h:c2 w T c)(hx:Ext w w1)(i:∀q,Z q->w.heap.size<=q/\q<w1.heap.size)(z:T.C.D.aT<=999999999)(A:T.P no=some o):
 aJ aj 175 #[.pointer (some T.a8),no,o.leaf] w1 (λv w'=>∃aE:bO,(∀j,aE.view j=T.C.view j)/\af (λq=>T.N q/\¬T.G q) w1 w'/\(∀q,(T.bm aE T.P).M q->T.M q\/w1.heap.size<=q)/\
  (∀g,af Z w' g->c2 g (T.bm aE T.P) c/\c3 T (T.bm aE T.P) c c [] [] w g 2)/\
  ((∃ (K V D:ad),v=.tuple #[cZ o K V D,(0:Int)]/\bF (λq=>w1.heap.size<=q/\¬(T.bm aE T.P).M q) w' o K V D)\/(v=.tuple #[cZ hZ bu bu bu,(3:Int)]/\¬T.C.D.calm 2))):=by
 obtain⟨B,k⟩:=h.t.ez no o A;obtain⟨bE,l⟩:∃bE,bE=λq=>T.E q\/T.G q\/Z q:=⟨_,rfl⟩;have f:∀q,T.E q\/T.G q\/Z q->bE q:=λq a=>by rw[l];exact a
 have m:∀q,bE q->T.E q\/T.G q\/Z q:=λq a=>by rw[l]at a;exact a
 have n:bU w1 (T.cj bE λ_=>False):=h.t.grow (W:=λ_=>False) hx (λ_ h=>h.elim) (λq a=>(m q a).imp id (Or.imp id (i q))) (λ_ h=>h.elim) λ_ _ h=>h;have r:∀q,(T.cj bE λ_=>False).N q->T.N q/\¬T.G q:=λq a=>⟨by
  rcases a with a|a|a|a
  .exact .inl a
  .exact .inr (.inl a)
  .exact .inr (.inr (.inl a))
  .exact a.elim,λhg=>n.jY (f q (.inr (.inl hg))) a⟩
 refine(xI n z B k.two o.leaf).mono ?_;rintro v w' ⟨aE,F,ht,s,H⟩;have S:=hx.size;have U:=ht.ag.size;have u:=(bD.ext (T.cj bE λ_=>False) hx).trans ht;rw[cQ]at u;have I:bD T (T.bm aE T.P) w w' 2:=bD.read (E:=bE) u (λq a=>f q (a.imp id .inl)) λq a=>(m q a).imp id (Or.imp id λh=>(i q h).1);have x:af (λq=>T.N q/\¬T.G q) w1 w':=ht.ag.mono λq _ a=>r q a;refine⟨aE,s,x,λq a=>?_,λg hc=>?_,?_⟩
 .rcases a with a|a
  .exact(ht.fn q (.inl a)).imp (λh=>aF.gd (r q h).1) id
  .exact .inl (.inr a)
 .have L:bU g (T.bm aE T.P):=F.grow (E:=T.E) (G:=T.G) hc (λq a _=>.inl (f q (.inr (.inr a)))) (λq a=>.inl (f q (.inl a))) (λq a=>.inl (f q (.inr (.inl a)))) λq a=>(h.t.dA q a).2.2
  refine⟨(h.ext hx).of (W:=λq=>(T.N q/\¬T.G q)\/Z q) L ((x.mono λq _ a=>.inl a).trans (hc.mono λq _ a=>.inr a)) (λq hg a=>?_) rfl (λ_ h=>h) ht.bT.1,c3.cache ?_ s⟩
  .rcases a with a|a
   .exact a.2 hg
   .have:=h.t.lt (q:=q) (.inr (.inr (.inr (.inr hg))))
    have:=(i q a).1;omega
  .exact I.step (E:=T.E) (G:=T.G) hc (λq a X=>by have:=(i q a).1;omega) (λq a=>.inl a) λq a=>.inl a
 .rcases H with ⟨bp,K,V,D,rfl,O,dM⟩|⟨e,rfl,Q,Y⟩
  .obtain rfl:=gw.uniq k O
   refine .inl ⟨K,V,D,rfl,dM.aX λq a y=>⟨y.1,λb=>y.2 ?_⟩⟩;rcases b with b|b|b|b|b
   .exact .inl b
   .exact .inr (.inl b)
   .exact .inr (.inr (.inl b))
   .exact .inr (.inr (.inr (.inl (f q (.inl b)))))
   .exact .inr (.inr (.inr (.inl (f q (.inr (.inl b))))))
  .refine .inr ?_
   rcases Q with ⟨rfl,d⟩|d|⟨_,_,d⟩
   .exact⟨rfl,d⟩
   .obtain⟨p,R,_⟩:=k
    have d:eY (no:Int) (T.C.view no)=.error e:=d;rw[R]at d;cases d
   .exact absurd k (d o)
def iZ(u:dc):Nat:=if u.cC=0 then 1 else u.cC-1
def k4(u:dc)(n o:aA):aA:=if u.cC<iZ u then dn n (u.n.keys.getD (u.cC-1) []) o else dn o (u.n.keys.getD (u.cC-1) []) n
def xL(T:aF)(c:de)(n:aA)(u:dc)(w:J)(v:aa)(w':J):Prop:=
 (80<=bn n/\∃ (s:ad) (e:Int),v=.tuple #[s,u.cC,.int .i64 ((u.cC+1:Nat):Int),e]/\gT T c n w (.tuple #[s,e]) w')\/
 (bn n<80/\∃ (bL:aF) (aQ:de),v=.tuple #[(),(0:Int),(0:Int),(3:Int)]/\c2 w' bL aQ/\c3 T bL c aQ [] [] w w' 2/\¬T.C.D.calm 2)\/
 (bn n<80/\∃ (o:aA) (no:Nat) (bL:aF) (aQ:de) (w1:J) (s:ad) (e:Int),u.n.kids[iZ u]? =some no/\T.P no=some o/\c3 T bL c aQ [] [no] w w1 2/\
   v=.tuple #[s,.int .i64 ((u.cC-1:Nat):Int),.int .i64 ((u.cC-1+2:Nat):Int),e]/\gT bL aQ (k4 u n o) w1 (.tuple #[s,e]) w')
theorem Gj{B:Nat->Prop}{w:J}{T:aF}{c:de}{n:aA}{K V D:ad}(h:c2 w T c)(j:bF B w n K V D)(d:k2 n)(o:T.C.D.aT<=900000080)(k:2<=b4 T)(l:c.made.length<=900):
 aJ aj 231 #[.pointer (some c.cb),cZ n K V D,.pointer none] w (λv w'=>∃ (s:ad) (e:Int),v=.tuple #[s,(0:Int),(0:Int),e]/\gT T c n w (.tuple #[s,e]) w'):=by
 refine okF (ae.nL (some c.cb) n.leaf K V D none) aw.nL func231 ?_;(delta ae.nL an aS Y r1 bW aD av dZ aN kn z4 o7 st qR bN nv kR o4;dsimp only);refine a_ (vs:=dF n K V D) rfl λw1 m f p=>?_;refine cz (λb w'=>b=true/\w1=w') (λq g=>⟨λ_=>g _ _ ⟨rfl,rfl⟩,λh=>(by cases h)⟩) ?_;rintro _ _ ⟨rfl,rfl⟩;refine⟨λ_=>sB (λa b w'=>a=0/\b=0/\w1=w') (λq g=>⟨λh=>(by cases h),λ_=>g _ _ _ ⟨rfl,rfl,rfl⟩⟩) ?_,λh=>(by cases h)⟩;rintro _ _ _ ⟨rfl,rfl,rfl⟩;obtain⟨bH,aQ,a6,ba⟩:=bx m;refine⟨_,bH,K,aQ,V,a6,D,ba,(u9 (h.ext f) I k l (j.ext f) d.1 d.2.1 d.2.2).use ?_⟩;intro v w' i;obtain⟨s,e,rfl⟩:=i.out;exact⟨s,e,rfl,s,e,rfl,i.base f⟩
theorem Gk{w:J}{T:aF}{c:de}{n:aA}{K V D:ad}{A:ah}{u:dc}(h:c2 w T c)(au:bF (λq=>¬T.M q) w n K V D)(hu:k3 (λq=>¬T.M q) w A u)(ax:cr n)(a7:bn n<=400)(ar:80<=bn n->k2 n)
 (a8:bn n<80->∃ (o:aA) (no:Nat),u.n.kids[iZ u]? =some no/\T.P no=some o/\o.leaf=n.leaf/\u.cC-1<u.n.keys.length/\cq (u.n.keys.getD (u.cC-1) [])/\k2 (k4 u n o)) (bJ:u.cC<=900)
 (bK:T.C.D.aT<=900000080) (aU:2<=b4 T) (aV:c.made.length<=900) (a9:c.left.length<=900):
 aJ aj 231 #[.pointer (some c.cb),cZ n K V D,.pointer (some A)] w (xL T c n u w):=by
 have bM:=ax.eL I;refine okF (ae.nL (some c.cb) n.leaf K V D (some A)) aw.nL func231 ?_;(delta ae.nL an aS Y r1 bW aD av dZ aN kn z4 o7 st qR bN nv kR o4;dsimp only);refine a_ (vs:=dF n K V D) rfl λw1 aa aW bP=>?_;obtain⟨nb,ab⟩:∃nb,nb=w.heap.size:=⟨_,rfl⟩;rw[←ab]at aa⊢;refine cz (λb w'=>b=decide (80<=bn n)/\Ext w1 w') (λq f=>⟨λh=>(by cases h),λ_=>?_⟩) ?_
 .obtain⟨bH,aQ,a6,ba⟩:=bx aa
  refine⟨_,bH,K,aQ,V,a6,D,ba,(nO (au.ext aW) ax I).use ?_⟩;rintro _ bQ ⟨rfl,bb⟩;refine⟨_,rfl,f _ _ ⟨?_,bb⟩⟩;rw[fh,cu,cu];omega
 rintro _ p ⟨rfl,ac⟩;have ai:=aW.trans ac;refine⟨λg=>?_,λg=>?_⟩
 .have g:=ck g
  have L:=ar g;refine sB (λa b w'=>a=(u.cC:Nat)/\b=((u.cC+1:Nat):Int)/\Ext p w') (λq f=>⟨λ_=>?_,λh=>(by cases h)⟩) ?_
  .have y:Ext p p.drew:=cH _
   have aZ:=hu.ext (ai.trans y);refine aY ⟨A,rfl,id,_,aZ.h5,A,rfl,id,_,aZ.h5,f _ _ _ ⟨rfl,?_,y⟩⟩;rw[bw I I];rfl
  rintro _ _ bR ⟨rfl,rfl,a0⟩;have r:=ai.trans a0;obtain⟨bH,aQ,a6,ba⟩:=bx (aa.ext (ac.trans a0));refine⟨_,bH,K,aQ,V,a6,D,ba,(u9 (h.ext r) I aU aV (au.ext r) L.1 L.2.1 L.2.2).use ?_⟩;intro v w' ak;obtain⟨s,e,rfl⟩:=ak.out;exact⟨s,e,rfl,.inl ⟨g,s,e,rfl,ak.base r⟩⟩
 .have g:¬80<=bn n:=cG g
  obtain⟨o,no,ay,al,az,a1,bc,L⟩:=a8 I;obtain⟨bS,bd⟩:=h.t.ez no o al;obtain⟨_,be,bT⟩:=bd.is;have am:=hu.ext ai;refine⟨A,rfl,_,am.h5,((u.cC-1:Nat):Int),p,?_,?_⟩
  .rw[run_max_int2]
   congr 2
   by_cases h0:u.cC=0
   .rw[h0];rfl
   .rw[bw I I,if_neg I];omega
  refine cz (λa w'=>a=(iZ u:Nat)/\p=w') (λq f=>⟨A,rfl,_,am.h5,λh0=>f _ _ ⟨?_,rfl⟩,λh0=>f _ _ ⟨?_,rfl⟩⟩) ?_
  .have:u.cC=0:=by simpa using h0
   unfold iZ;rw[if_pos this];rfl
  .have:u.cC≠0:=by simpa using h0
   unfold iZ;rw[if_neg this]
  rintro _ _ ⟨rfl,rfl⟩;have bf:iZ u<u.n.kids.length:=(iI.1 ay).1;obtain⟨br,bg,bh,a2⟩:=cM.at am.b1.kids bf;have bi:u.n.kids[iZ u]=no:=(iI.1 ay).2;rw[bi]at a2;refine⟨A,rfl,u.D,am.fo,br,bg,bh,_,a2,aY ?_⟩;have y:Ext p p.drew:=cH _;obtain⟨z,bj⟩:∃z,z=p.drew:=⟨_,rfl⟩;rw[←bj]at y⊢;have r:=ai.trans y;have aB:=h.ext r;have bU:=r.size;have bV:=(ac.trans y).size;have aC:=aa.ext (ac.trans y);have aG:∀q,T.M q->q<w.heap.size:=λq f=>h.t.lt f;have a3:u.n.keys.getD (u.cC-1) []=u.n.keys[u.cC-1]:=by rw[fv,dr a1];rfl
  have fin:∀ (aE:bO) (hT:J) (aM:Nat) (i k l:ad) (d:J),hT.heap.size=aM->c2 d (T.bm aE T.P) c->c3 T (T.bm aE T.P) c c [] [] z d 2->Var d nb (dF n K V D) 169->Var d aM (dF o i k l) 169->z.heap.size<=aM->¬(T.bm aE T.P).M aM->bF (λq=>¬(T.bm aE T.P).M q) d o i k l->
   ae.wG w hT (some c.cb) (some A) ((u.cC-1:Nat):Int) (iZ u:Nat) (no:Nat) 0 d (λv w'=>xL T c n u w v w'):=by
   intro aE hT aM i k l d bl B ao bo bp bX bq bs;have a4:=((c3.ext T c r).trans ao).mono (j:=2) I;have aH:=a4.to;have bt:¬(T.bm aE T.P).M nb:=λO=>by
    rcases ao.to.cS nb O with Q|Q
    .have:=aG _ Q;omega
    .omega
   have bv:bF (λq=>¬(T.bm aE T.P).M q) d n K V D:=(aH.b1 (lo:=0) (au.aX λq _ g=>⟨cO _,g⟩)).aX λq _ g=>g.2;have bz:(T.bm aE T.P).C.D.aT<=900000090:=eH aH.aT I;refine Gi B bo bp bt bq bv bs (hu.to aH) bz aU aV a9 ax be a7 I az a1 (by rw[←a3];exact bc) (k4 u n o) (by unfold k4;rw[a3]) L I ?_ ab.symm bl;intro s e bL aQ bA w' bB hf;exact .inr (.inr ⟨I,o,no,bL,aQ,bA,s,e,ay,al,(a4.trans bB).mono I,rfl,hf⟩)
  have ap:∀q,T.N q->q<w.heap.size:=λq f=>aG q (aF.gd f);have err:∀ (aE:bO) (d:J),c2 d (T.bm aE T.P) c->c3 T (T.bm aE T.P) c c [] [] z d 2->¬T.C.D.calm 2->xL T c n u w (.tuple #[(),(0:Int),(0:Int),(3:Int)]) d:=by
   intro aE d B ao R;exact .inr (.inl ⟨I,_,c,rfl,B,((c3.ext T c r).trans ao).mono I,R⟩)
  obtain⟨bH,aQ,a6,ba⟩:=bx aC;refine⟨λq=>T.N q/\¬T.G q,_,rfl,λf=>f.2 h.gc,_,aB.cells.1,(λf=>by have:=ap _ f.1;show False;exact absurd this (by show¬nb<w.heap.size;omega)),_,bH,?_,?_⟩
  .rw[←az]
   refine(Bo (Z:=λ_=>False) aB (af.refl _ _) (λ_ h=>h.elim) I al).use ?_;rintro _ F ⟨aE,ak,x,a5,S,aI⟩;have bC:=x.size;rcases aI with ⟨i,k,l,rfl,aK⟩|⟨rfl,R⟩
   .refine⟨_,i,k,l,0,rfl,x,a_ (vs:=[false,(),(),()]) rfl λbD U W bE=>⟨af.c7 W,U.cd rfl fp,rfl,cK U (us:=dF o i k l) rfl rfl λd X m aL=>?_⟩⟩
    have E:Ext F d:=Ext.cx W m (bk _);obtain⟨aq,aO⟩:=S F (af.refl _ _);have H:=aC.ag x λf=>by have:=ap _ f.1;omega
    subst ab;refine fin aE F _ i k l d rfl (aq.ext E) ((aO.trans (c3.ext _ _ E)).mono I) (H.ext E) X I (λO=>by have:=aq.t.lt O;omega) ?_;exact(aK.ext E).aX λq _ g=>g.2
   .refine⟨_,bu,bu,bu,3,rfl,x,a_ (vs:=[false,(),(),()]) rfl λbD U W bE=>⟨af.c7 W,U.cd rfl fp,rfl,cK U (us:=dF hZ bu bu bu) rfl rfl λd X m aL=>⟨λ_=>?_,λg=>(by cases g)⟩⟩⟩
    have E:Ext F d:=Ext.cx W m (bk _);obtain⟨aq,aO⟩:=S F (af.refl _ _);exact err aE d (aq.ext E) ((aO.trans (c3.ext _ _ E)).mono I) R
  .refine a_ (vs:=[false,(),(),()]) rfl λbY bG aP bZ=>⟨af.c7 aP,?_⟩
   rw[←az];refine(Bo (Z:=λq=>q=z.heap.size) aB aP (λq e=>⟨I,I⟩) I al).use ?_;rintro _ F ⟨aE,ak,x,a5,S,aI⟩;have bC:=x.size;have H:=bG.ag x λf=>by have:=ap _ f.1;omega
   have bI:=(aC.ext aP).ag x λf=>by have:=ap _ f.1;omega
   rcases aI with ⟨i,k,l,rfl,aK⟩|⟨rfl,R⟩
   .refine⟨_,i,k,l,0,rfl,H.cd rfl fp,rfl,cK H (us:=dF o i k l) rfl rfl λd X m aL=>?_⟩
    obtain⟨B,aR⟩:=S d m;subst ab;refine fin aE z _ i k l d rfl B aR (bI.ag m I) X (bk _) (λO=>?_) ?_
    .rcases a5 _ O with Q|Q
     .have:=aG _ Q;omega
     .omega
    .refine(bF.ag aK m λq f e=>by have:=f.1;omega).aX λq _ g=>g.2
   .refine⟨_,bu,bu,bu,3,rfl,H.cd rfl fp,rfl,cK H (us:=dF hZ bu bu bu) rfl rfl λd X m aL=>⟨λ_=>?_,λg=>(by cases g)⟩⟩
    obtain⟨B,aR⟩:=S d m;exact err aE d B aR R
structure xM(T ao:aF)(l:O Nat)(w w':J):Prop where
 to:bD T ao w w' 0
 E:ao.E=T.E
 G:ao.G=T.G
 root:ao.root=T.root
 aG:ao.aG=T.aG
 f:∀no,ao.f no=(T.f no&& !decide (no∈l))
 dX:∀no,(no∉l\/T.g no=true)->ao.P no=T.P no/\ao.C.view no=T.C.view no
theorem Bp{w:J}{T:aF}{c:de}{s:ad}{l:O Nat}(h:c2 w T c)(hs:Src 1 w s (fA l))(C:∀q,ay s q->T.G q)(S:∀x∈l,T.f x=true)(dM:l.Nodup)(al:l.length<=10000):
 aJ aj 186 #[.pointer (some c.cb),s] w (λv w'=>v=.tuple #[]/\∃ao:aF,c2 w' ao c/\xM T ao l w w'):=by
 have am:s.len=l.length:=by have:=hs.len;rw[pN]at this;omega
 refine okF (ae.tQ (some c.cb) s) aw.tQ func186 ?_;(delta ae.tQ an aN aD b6 bW av;dsimp only);refine⟨λi w'=>∃ (j:Nat) (ao:aF),i=j/\j<=l.length/\c2 w' ao c/\xM T ao (l.take j) w w'/\Src 1 w' s (fA l),λi _=>((l.length:Int)-i).toNat,⟨0,T,rfl,cO _,h,⟨.refl _ _,rfl,rfl,rfl,rfl,λno=>by simp,λ_ _=>⟨rfl,rfl⟩⟩,hs⟩,?_⟩;rintro _ ap ⟨j,bL,rfl,aq,d,hg,D⟩;refine⟨λaH=>?_,λu=>?_⟩
 .have aH:j<l.length:=by
   have:(j:Int)<(s.len:Int):=ck aH;omega
  have F:bL.f l[j]=true:=by
   rw[hg.f,S _ (cJ aH)];have:l[j]∉l.take j:=λU=>by
    obtain⟨i,hi,he⟩:=fa U;rw[cE]at hi;rw[m4]at he;have:=(List.getElem_inj dM).1 he;omega
   simp[this]
  have au:l[j]<bL.n:=by
   rcases ec l[j] bL.n with a|a
   .exact a
   .have:=d.t.s.pf _ a
    rw[F]at this;cases this
  obtain⟨A,ar,V,hc⟩:=D.at (i:=j) (v:=.int .i64 ((l[j]:Nat):Int)) (by simp[fA,aH]);refine kN (λw'=>∃bN:aF,c2 w' bN c/\xM T bN (l.take (j+1)) w w'/\Src 1 w' s (fA l)) (λq k=>⟨A,ar,V,_,hc,_,rfl,_,d.cells.1,_,rfl,_,d.t.cells.2.1,(FJ d.t.s _).use ?_⟩) ?_
  .rintro _ _ ⟨rfl,rfl⟩
   refine⟨_,rfl,_,rfl,_,d.cells.1,_,rfl,_,d.t.cells.2.1,(AY d.t.s _).use ?_⟩;rintro _ H ⟨rfl,iq,y⟩;have W:mN bL.f bL.n ((l[j]:Nat):Int)=c9 bL.f l[j] false:=by
    unfold mN;rw[if_pos ⟨I,I⟩,dm]
   rw[W]at iq;obtain⟨X,K⟩:=d.t.u5 iq y;have m:c2 H (bL.iD (c9 bL.f l[j] false)) c:=d.of X y (λq k hf=>(d.t.iC q k).2 hf) rfl λ_ h=>h;have L:Src 1 H s (fA l):=D.ag y λq k hf=>(d.t.iC q (by rw[hg.G];exact C q k)).2 hf;have Y:(decide ((0:Int)<=((l[j]:Nat):Int))&&decide (((l[j]:Nat):Int)<(bL.n:Nat))&&bL.f (Int.toNat ((l[j]:Nat):Int))&& !(bL.g (Int.toNat ((l[j]:Nat):Int))))= !(bL.g l[j]):=by
    rw[dm,F,dO I,dO I];simp
   have M:∀no,c9 bL.f l[j] false no=(T.f no&& !decide (no∈l.take (j+1))):=λno=>by
    rw[kG aH];unfold c9;by_cases e:no=l[j]
    .rw[if_pos e,e,dO (cD.2 (.inr (fi.2 rfl)))]
     exact(Bool.and_false _).symm
    .rw[if_neg e,hg.f]
     have Z:decide (no∈l.take j++ [l[j]])=decide (no∈l.take j):=by
      rw[fh,cu,cu,cD,fi];exact⟨λh=>h.resolve_right e,.inl⟩
     rw[Z]
   rw[Y];refine⟨_,rfl,λz=>⟨_,rfl,_,m.cells.1,_,rfl,_,m.t.cells.1,(F4 m.t.ca _).use ?_⟩,λz=>k _ ⟨_,m,⟨?_,hg.E,hg.G,hg.root,hg.aG,M,λno o=>?_⟩,L⟩⟩
   .rintro _ ax ⟨⟨b,rfl⟩,aE,aa,p,N,_⟩
    have ab:T.g l[j]=false:=by
     have a:bL.g=T.g:=hg.to.g;rw[a]at z;simpa using z
    obtain⟨ac,af⟩:=m.t.u3 (P:=λno=>if no=l[j] then none else bL.P no) aa p (λno b1 r=>by
     by_cases e:no=l[j]
     .rw[if_pos e]at r;cases r
     .rw[if_neg e]at r
      rw[N no e];exact d.t.ez no b1 r)
    have ah:=m.of (ao:=(bL.iD (c9 bL.f l[j] false)).bm aE λno=>if no=l[j] then none else bL.P no) ac p.ag (λq k=>m.t.u4 k) rfl (λ_ h=>h) p.bT;refine⟨b,rfl,k _ ⟨_,ah,⟨?_,hg.E,hg.G,hg.root,hg.aG,M,λno o=>?_⟩,?_⟩⟩
    .exact((hg.to.trans K).trans af).mono I
    .have Q:no≠l[j]:=λe=>by
      rcases o with a|a
      .exact a (by rw[kG aH,e];exact cD.2 (.inr (fi.2 rfl)))
      .rw[e,ab]at a;cases a
     have R:=hg.dX no (o.imp (λa B=>a (by rw[kG aH];exact cD.2 (.inl B))) id);exact⟨(if_neg Q).trans R.1,(N no Q).trans R.2⟩
    .exact L.ag p.ag λq k=>m.t.u4 (by show bL.G q;rw[hg.G];exact C q k)
   .exact(hg.to.trans K).mono I
   .exact hg.dX no (o.imp (λa B=>a (by rw[kG aH];exact cD.2 (.inl B))) id)
  .rintro az ⟨bN,a,ai,ak⟩
   rw[bw (n:=(j:Int)+1) I I];refine⟨⟨j+1,bN,I,I,a,ai,ak⟩,?_⟩;show((l.length:Int)-((j:Int)+1)).toNat<((l.length:Int)-(j:Int)).toNat;omega
 .have u:j=l.length:=by
   have:¬(j:Int)<(s.len:Int):=cG u;omega
  subst u;rw[jI]at hg;exact⟨rfl,bL,d,hg⟩
theorem pA{B:Nat->Prop}{w:J}{n:aA}{K V D:ad}(c:bF B w n K V D)(aG:Nat)(h:aG<=100)(d:n.leaf=false->∃x,n.kids=[x]/\1<=aG):
 aJ aj 230 #[cZ n K V D,aG] w (λv w'=>v=(if n.leaf then .tuple #[(0:Int),(0:Int),(0:Int)] else .tuple #[.int .i64 ((n.kids.getD 0 0:Nat):Int),.int .i64 ((aG-1:Nat):Int),(0:Int)])/\Ext w w'):=by
 refine okF (ae.pA n.leaf K V D (aG:Nat)) aw.pA func230 ?_;(delta ae.pA aS Y an r1 aN aD av;dsimp only);refine a_ (vs:=dF n K V D) rfl λw1 e b j=>?_;obtain⟨bH,aQ,a6,ba⟩:=bx e;refine⟨_,bH,λa=>⟨by rw[if_pos a],b⟩,λa=>?_⟩;obtain⟨x,hx,k⟩:=d a;obtain⟨A,ar,f,hc⟩:=cM.at (c.ext b).kids (i:=0) (by rw[hx];simp);refine⟨D,ba,A,ar,f,_,hc,?_,b⟩;have g:(aG:Int)-1=((aG-1:Nat):Int):=by omega
 rw[if_neg (by rw[a];simp),bw I I,g];simp only[hx];rfl
def xN(T:aF)(c:de)(ks:O Key)(kids:O Nat)(w:J)(v:aa)(w':J):Prop:=
 (∃x,ks=[]/\kids=[x]/\v=.tuple #[x,T.aG,(0:Int)]/\c2 w' T c/\Ext w w')\/
 (∃ (k:Key) (x y no:Nat) (ao:aF) (c':de),ks=[k]/\kids=[x,y]/\c2 w' ao c'/\c3 T ao c c' [no] [] w w' 1/\
   ((v=.tuple #[no,.int .i64 ((T.aG+1:Nat):Int),(0:Int)]/\ao.P no=some ⟨false,[k],[],[x,y]⟩)\/(v=.tuple #[no,.int .i64 ((T.aG+1:Nat):Int),(3:Int)]/\¬T.C.D.calm 1)))
theorem Bq(K D:Nat)(w:J):Sem.run aj (Instr.build 169 #[(1,.slice (some K) 1 1),(3,.slice (some D) 2 2)]) w=.ok (.agg #[false,.slice (some K) 1 1,(),.slice (some D) 2 2]) w:=by kernel_rfl
theorem Var.Br{w:J}{b:Nat}{vs:O aa}{T:TypeId}(h:Var w b vs T):Src 1 w ⟨some b,vs.length,vs.length⟩ vs:=by
 refine⟨by show _=vs.length*1;omega,(λh=>by cases h),λa c=>?_⟩
 cases c;show bV w b 0 (vs.length*1)=_;rw[fj,h.rd rfl]
theorem Gl{w:J}{t:ad}{k:Key}(b:Nat)(a:Var w b [t] 39)(ht:bg (λ_=>True) w t k):bt (λ_=>True) w ⟨some b,1,1⟩ [k]:=by
 refine⟨[t],rfl,a.Br,bk _,λq c=>⟨trivial,?_⟩,λi d e=>?_⟩
 .obtain⟨A,ar,rfl⟩:=c
  cases ar;exact a.lt
 .have:i=0:=by simp at d;omega
  subst this;exact ht
theorem Gm{w:J}{x y:Nat}(b:Nat)(a:Var w b [x,y] 3):cM (λ_=>True) w ⟨some b,2,2⟩ [x,y]:=by
 refine⟨a.Br,bk _,λq c=>⟨trivial,?_⟩⟩;obtain⟨A,ar,rfl⟩:=c
 cases ar;exact a.lt
theorem Gn{w:J}{T:aF}{c:de}{s:ad}{ks:O Key}{kids:O Nat}(h:c2 w T c)(K:kz (λq=>¬T.M q) w s ks kids)(A:kids.length=2->T.aG<12)(hs:∀k x y,ks=[k]->kids=[x,y]->cq k/\x<1600/\y<1600)
 (ax:T.C.D.aT<=900000080) (L:1<=b4 T) (ay:c.made.length<=900):
 aJ aj 232 #[.pointer (some c.cb),s] w (xN T c ks kids w):=by
 have az:=h.t.num.2.1;refine okF (ae.t_ (some c.cb) s) aw.t_ func232 ?_;(delta ae.t_ an aN aD r1 Y fQ av;dsimp only);have o:Ext w w.drew:=cH w;have hd:=h.ext o;rcases K with ⟨b,x,rfl,rfl,rfl,l,B⟩|⟨b,x,y,k,t,rfl,rfl,rfl,l,B,ht,aA⟩
 .refine⟨λ_=>aY ⟨_,rfl,⟨by decide,by show(0:Int)<((1:Nat):Int);decide⟩,id,_,by rw[aB,aB];exact l.drew.cell,_,rfl,id,_,hd.cells.1,_,rfl,id,_,hd.t.cells.2.2.2.2,?_⟩,λh=>(by cases h)⟩
  exact .inl ⟨x,rfl,rfl,rfl,hd,o⟩
 .have A:=A rfl
  obtain⟨s1,s2,aC⟩:=hs k x y rfl rfl;refine⟨λh=>(by cases h),λ_=>⟨_,rfl,_,h.cells.1,_,rfl,_,h.t.cells.2.2.2.2,λP=>?_,λ_=>?_⟩⟩
  .have:(T.aG:Int)=12:=by simpa using P
   omega
  have Q:cr ⟨false,[k],[],[x,y]⟩:=.inr ⟨⟨λaE R=>by rw[fi.1 R];exact s1,List.pairwise_singleton _ _⟩,rfl,by simp,rfl,rfl,λz E=>by
   simp only[cN,e3,fb]at E;rcases E with rfl|rfl<;>assumption⟩
  have S:bn ⟨false,[k],[],[x,y]⟩<=232:=by
   have:=s1.2;simp[bn,cellsOf];omega
  have r:¬T.N b:=λU=>B (aF.gd U);have fin:∀ (d:J) (bM aN:Nat),Ext w d->Var d bM [t] 39->Var d aN [x,y] 3->
   aJ aj 265 #[.pointer (some c.cb),.agg #[false,.slice (some bM) 1 1,(),.slice (some aN) 2 2]] d (λv w'=>∃n27:Int,∃n28:Int,v=.tuple #[n27,n28]/\af T.N d w'/\
    ∀e,Ext w' e->xN T c [k] [x,y] w (.tuple #[n27,.int .i64 ((T.aG+1:Nat):Int),n28]) e/\∃ao c',c2 e ao c'/\c'.cb=c.cb/\ao.a8=T.a8/\ao.aG=T.aG):=by
   intro d bM aN hx V W;have dM:bF (λ_=>True) d ⟨false,[k],[],[x,y]⟩ ⟨some bM,1,1⟩ ⟨none,0,0⟩ ⟨some aN,2,2⟩:=by
    exact⟨Gl bM V (bg.aX (bg.ext ht hx) λ_ _ _=>trivial),bt.none _ _,Gm aN W⟩
   refine(u7 (h.ext hx) I L I dM Q S).mono ?_;rintro v w' ⟨no,ao,c',p,f,X⟩;have F:=((c3.ext T c hx).trans f).mono (j:=1) I;rcases X with ⟨rfl,Z⟩|⟨rfl,aa⟩
   .refine⟨_,_,rfl,f.to.ag,λe g=>⟨.inr ⟨k,x,y,no,ao,c',rfl,rfl,p.ext g,(F.trans (c3.ext ao c' g)).mono I,.inl ⟨rfl,Z⟩⟩,ao,c',p.ext g,f.cb,f.to.a8,f.aG⟩⟩
   .refine⟨_,_,rfl,f.to.ag,λe g=>⟨.inr ⟨k,x,y,no,ao,c',rfl,rfl,p.ext g,(F.trans (c3.ext ao c' g)).mono I,.inr ⟨rfl,aa⟩⟩,ao,c',p.ext g,f.cb,f.to.a8,f.aG⟩⟩
  have ab:IntKind.wrap .i64 ((T.aG:Int)+1)=((T.aG+1:Nat):Int):=by rw[bw I I];rfl
  refine sB (λa b w'=>∀e,Ext w' e->xN T c [k] [x,y] w (.tuple #[a,.int .i64 ((T.aG+1:Nat):Int),b]) e/\∃ao c',c2 e ao c'/\c'.cb=c.cb/\ao.a8=T.a8/\ao.aG=T.aG) (λq G=>aY ⟨T.N,_,rfl,⟨by decide,by show(1:Int)<((2:Nat):Int);decide⟩,r,t,by rw[aB];exact l.drew.cell,_,rfl,⟨by decide,by show(0:Int)<((2:Nat):Int);decide⟩,r,_,by rw[aB,aB];exact l.drew.cell,_,rfl,⟨by decide,by show(1:Int)<((2:Nat):Int);decide⟩,r,_,by rw[aB,aB];exact l.drew.cell,?_,?_⟩) ?_
  .refine a_ (vs:=[t]) rfl λu ac m ah=>⟨af.c7 m,a_ (vs:=[x,y]) rfl λd ai i ak=>⟨af.c7 i,_,λ_=>Bq _ _ _,?_⟩⟩
   refine(fin d w.drew.heap.size u.heap.size (o.trans (m.trans i)) (ac.ext i) ai).use ?_;rintro _ w' ⟨n27,n28,rfl,hc,n⟩;exact⟨n27,n28,rfl,hc,G _ _ _ n⟩
  .refine a_ (vs:=[x,y]) rfl λu al m ah=>⟨af.c7 m,a_ (vs:=[t]) rfl λd am i ak=>⟨af.c7 i,_,λ_=>Bq _ _ _,?_⟩⟩
   refine(fin d u.heap.size w.drew.heap.size (o.trans (m.trans i)) am (al.ext i)).use ?_;rintro _ w' ⟨n27,n28,rfl,hc,n⟩;exact⟨n27,n28,rfl,hc,G _ _ _ n⟩
  .intro a b ap n
   obtain⟨aq,ao,c',H,ar,aH,au⟩:=n _ (cH ap);have hc:=H.cells.1;rw[ar]at hc;have ht:=H.t.cells.2.2.2.2;refine aY ⟨_,rfl,id,_,hc,_,rfl,id,_,ht,?_⟩;rw[au,ab];exact aq
theorem cU.xO{P:Nat->au aA}{lo hi:au Key}{h:Nat}{n:aA}{p:O Nat}{L:O aI}(a:cU P h n lo hi p L)(f:n.leaf=true->bn n<=310)(g:n.leaf=false->bn n<=335)(k:n.leaf=false->n.keys≠ []):k2 n:=by
 refine⟨?_,by cases i:n.leaf;exact eH (g i) (by decide);exact eH (f i) (by decide),λhs=>?_⟩
 .cases h with
  |zero=>exact a.elim
  |succ h=>
   cases h with
   |zero=>exact .inl a.1
   |succ h=>
    obtain⟨b,c,d,e,j⟩:=a;have hs:=j.sorted λ_ _ _ _ _ l=>l.in;exact .inr ⟨⟨d,hs.2.2.1⟩,b,k b,j.len,c,e⟩
 .obtain⟨b,c,d,e,_⟩:=a.two (Q:=P) (x:=0) (y:=0) hs f g
  exact⟨b,c,d,e⟩
section
variable {P:Nat->au aA}{lo hi:au Key}
theorem Gp{h:Nat}{d f:aA}{p A:au Key}{i:Nat}{bl D:O Nat}{a7 gJ:O aI}{k:Key}(E:∀k∈d.keys,cq k)(hlen:d.kids.length=d.keys.length+1)(F:∀x n,P x=some n->bn n<=232)
 (dz:1<=i) (Q:i<d.kids.length) (B:e7 p A k)
 (G:eX (eQ P (h+1)) lo p (d.keys.take i) (d.kids.take i) bl a7) (q:cU P (h+1) f p A D gJ) (R:bn f<80):
 ∃ (o:aA) (S:i-1<d.kids.length) (T:i-1<d.keys.length),P d.kids[i-1]=some o/\o.leaf=f.leaf/\cq d.keys[i-1]/\k2 (dn o d.keys[i-1] f):=by
 obtain⟨s,H,aK,r,bB,N,hs,rfl,t,rfl,rfl,⟨u,m,g,v⟩,U,V⟩:=G.last (by rw[cE];omega);have W:(d.keys.take i).length=i:=by rw[cE];omega
 have X:(d.kids.take i).length=i:=by rw[cE];omega
 have t:s=d.keys[i-1]'I:=by
  rw[t,m4];congr 1;omega
 have J:(d.kids.take i)[(d.kids.take i).length-1]'I=d.kids[i-1]'I:=by
  rw[m4];congr 1;omega
 rw[J]at u g;obtain⟨o,K,j,rfl,_,w⟩:=u.ix;rw[j]at g;have v:2<=o.keys.length:=by rw[Option.some.inj g];exact v
 clear g;subst t;have y:=(show eQ P (h+1) H (some (d.keys[i-1]'I)) (d.kids[i-1]'I) (d.kids[i-1]'I::K) N from⟨u,o,j,v⟩).in;obtain⟨x,hx⟩:=ox _ y.1;have z:=E _ (cJ (l:=d.keys) (n:=i-1) I);have L:=cU.merge w q z (λc hc=>g0 (ju ((y.2.2 x hx).1 c hc) ((y.2.2 x hx).2 _ rfl))) (λc hc=>g0 (ju (B.1 _ rfl) (B.2 c hc)));have C:=ux w q z (by have:=F _ _ j;omega);have M:=uw (a:=o) (b:=f) (s:=d.keys[i-1]'I);refine⟨o,I,I,j,by rw[w.leaf,q.leaf],z,L.xO C.1 C.2 λ_ e=>?_⟩;rw[e,kg]at M;omega
theorem Gq{h:Nat}{d f:aA}{B q:au Key}{i:Nat}{bd E:O Nat}{gJ bj:O aI}{k:Key}(F:∀k∈d.keys,cq k)(hlen:d.kids.length=d.keys.length+1)(G:∀x n,P x=some n->bn n<=232)
 (g:i+1<d.kids.length) (C:e7 B q k)
 (H:fS (eQ P (h+1)) hi q (d.keys.drop i) (d.kids.drop (i+1)) bd bj) (t:cU P (h+1) f B q E gJ) (R:bn f<80):
 ∃ (o:aA) (S:i+1<d.kids.length) (T:i<d.keys.length),P d.kids[i+1]=some o/\o.leaf=f.leaf/\cq d.keys[i]/\k2 (dn f d.keys[i] o):=by
 obtain⟨s,J,r,U,N,V,hs,rfl,u,rfl,rfl,⟨v,m,j,w⟩,W⟩:=H.head (by rw[ed];omega);have u:s=d.keys[i]'I:=by rw[u,rZ];rfl
 have K:(d.kids.drop (i+1))[0]'(by rw[ed];omega)=d.kids[i+1]'g:=by rw[rZ]
 rw[K]at v j;obtain⟨o,L,p,rfl,_,y⟩:=v.ix;rw[p]at j;have w:2<=o.keys.length:=by rw[Option.some.inj j];exact w
 clear j;subst u;have z:=(show eQ P (h+1) (some (d.keys[i]'I)) J (d.kids[i+1]'g) (d.kids[i+1]'g::L) N from⟨v,o,p,w⟩).in;obtain⟨x,hx⟩:=ox _ z.1;have A:=F _ (cJ (l:=d.keys) (n:=i) I);have M:=cU.merge t y A (λc hc=>g0 (ju (C.1 c hc) (C.2 _ rfl))) (λc hc=>g0 (ju ((z.2.2 x hx).1 _ rfl) ((z.2.2 x hx).2 c hc)));have D:=ux t y A (by have:=G _ _ p;omega);have Q:=uw (a:=f) (b:=o) (s:=d.keys[i]'I);refine⟨o,g,I,p,by rw[y.leaf,t.leaf],A,M.xO D.1 D.2 λ_ e=>?_⟩;rw[e,kg]at Q;omega
inductive Ctx (P:Nat->au aA) (k:Key) (top:Nat):Nat->au Key->au Key->O (Nat×aA×Nat)->O Nat->O aI->O aI->Prop
 |top:Ctx P k top top none none [] [] [] []
 |step {eo:Nat}{lo hi a b:au Key}{st:O (Nat×aA×Nat)}{dd:O Nat}{A B:O aI}{no:Nat}{n:aA}{bl bd:O Nat}{a7 bj:O aI} (h:Ctx P k top (eo+2) lo hi st dd A B) (c:P no=some n) (d:n.leaf=false) (e:∀k∈n.keys,cq k) (f:∀x∈n.kids,x<1600)
  (hlen:n.kids.length=n.keys.length+1) (g:n.keys≠ []) (i:st≠ []->2<=n.keys.length) (j:e7 a b k) (l:eX (eQ P (eo+1)) lo a (n.keys.take (cY n.keys k)) (n.kids.take (cY n.keys k)) bl a7)
  (m:fS (eQ P (eo+1)) hi b (n.keys.drop (cY n.keys k)) (n.kids.drop (cY n.keys k+1)) bd bj):Ctx P k top (eo+1) a b (st++ [(no,n,cY n.keys k)]) (no::(bl++(bd++dd))) (A++a7) (bj++B)
theorem Ctx.eo{k:Key}{top eo:Nat}{st:O (Nat×aA×Nat)}{dd:O Nat}{A B:O aI}(h:Ctx P k top eo lo hi st dd A B):eo+st.length=top:=by
 induction h with
 |top=>rfl
 |step h _ _ _ _ _ _ _ _ _ _ a=>rw[cn,ig];omega
theorem Ctx.agree{Q:Nat->au aA}{k:Key}{top eo:Nat}{st:O (Nat×aA×Nat)}{dd:O Nat}{A B:O aI}(h:Ctx P k top eo lo hi st dd A B)(a:∀x∈dd,P x=Q x):Ctx Q k top eo lo hi st dd A B:=by
 induction h with
 |top=>exact .top
 | @step eo lo hi p q st dd A B no n bl bd a7 bj h c d e f hlen g i j l m o=>
  refine .step (o λx hx=>a x (by simp[hx])) (by rw[←a no (by simp)];exact c) d e f hlen g i j (l.kW λ_ _ _ _ _ hs b=>b.agree λx hx=>a x ?_) (m.kW λ_ _ _ _ _ hs b=>b.agree λx hx=>a x ?_)
  .have:=hs x hx;simp[this]
  .have:=hs x hx;simp[this]
theorem Ctx.down{k:Key}{top:Nat}:∀ {eo:Nat}{lo hi:au Key}{st:O (Nat×aA×Nat)}{dd:O Nat}{A B M bB:O aI}{no:Nat}{p:O Nat},Ctx P k top (eo+1) lo hi st dd A B->ep P (eo+1) lo hi no p M->(st≠ []->∃m,P no=some m/\2<=m.keys.length)->e7 lo hi k->bB=A++(M++B)->(∀u,Loc k u->u bB=A++(u M++B))->
 ∃ (rest b:O (Nat×aA×Nat)) (c:Nat) (b2:aA) (eR dz:au Key) (g:O Nat) (d e:O aI),mS P k (eo+1) no rest/\st++rest=b++ [(c,b2,0)]/\Ctx P k top 1 eR dz b g d e/\P c=some b2/\gr b2/\b2.within eR dz/\b2.keys≠ []/\(b≠ []->2<=b2.keys.length)/\e7 eR dz k/\
  (p++dd).Perm (c::g)/\bB=d++(b2.dh++e)/\∀u,Loc k u->u bB=d++(u b2.dh++e)
 |0,lo,hi,st,dd,A,B,M,bB,no,p,hc,i,j,l,o,hu=>by
  obtain⟨n,a,h,y,z,rfl,rfl⟩:=i
  refine⟨[(no,n,0)],st,no,n,lo,hi,dd,A,B,⟨n,[],a,by rw[h.leaf];rfl,rfl,rfl⟩,rfl,hc,a,h,y,z,λhs=>?_,l,List.Perm.refl _,o,hu⟩
  obtain⟨m,f,r⟩:=j hs
  rw[a]at f;cases f
  exact r
 |eo+1,lo,hi,st,dd,A,B,M,bB,no,p,hc,i,j,l,o,hu=>by
  obtain⟨n,X,a,rfl,h,s⟩:=i.ix
  obtain⟨Y,Z,bl,q,bd,a7,gJ,bj,C,rfl,rfl,t,v,D,hlen,E,F⟩:=s.at l
  obtain⟨w,aa,G,H,_⟩:=s
  have J:=Ctx.step hc a w G H hlen h (λhs=>by
   obtain⟨m,f,r⟩:=j hs
   rw[a]at f;cases f
   exact r) v E F
  obtain⟨rest,b,c,b2,eR,dz,g,d,e,r1,aD,cl,aS,dN,K,L,N,Q,R,S,T⟩:=Ctx.down (bB:=bB) J t.1 (λ_=>t.2) v (by rw[o];simp only[cy]) (λu x=>by rw[hu u x,D u x];simp only[cy])
  refine⟨(no,n,cY n.keys k)::rest,b,c,b2,eR,dz,g,d,e,⟨n,rest,a,by rw[w];simp,by rw[if_neg I],?_⟩,?_,cl,aS,dN,K,L,N,Q,?_,S,T⟩
  .rw[fv,dr C]
   exact r1
  .rw[←aD];simp
  .refine List.Perm.trans ?_ R
   have U:(no::(bl++(q++bd))++dd)=no::(bl++(q++(bd++dd))):=by simp[cy]
   rw[U]
   have V:(q++no::(bl++(bd++dd))).Perm (no::(q++(bl++(bd++dd)))):=l2
   refine List.Perm.trans ?_ V.symm
   refine List.Perm.cons _ ?_
   have W:=(qj (l₁:=bl) (l₂:=q)).append_right (bd++dd)
   simpa[cy] using W
end
theorem xP{α:Type}(a b c:O α):(a++(b++c)).Perm (a++c++b):=by
 rw[cy];exact(qj (l₁:=b) (l₂:=c)).append_left a
theorem Ctx.up{P:Nat->au aA}{lo hi:au Key}{k:Key}{top eo:Nat}{st U:O (Nat×aA×Nat)}{dd:O Nat}{A B:O aI}{u:dc}{a:aA}{q:O Nat}{M:O aI}(hc:Ctx P k top eo lo hi st dd A B)(ad:st=U++ [u.st])(c:cU P eo a lo hi q M)(J:∀x n,P x=some n->bn n<=232)(hs:bn a<=282):
 ∃ (d f:au Key) (K:O Nat) (g j:O aI) (ps:O Nat),Ctx P k top (eo+1) d f U K g j/\dd=u.no::(ps++K)/\P u.no=some u.n/\u.cC<u.n.kids.length/\u.n.kids.length=u.n.keys.length+1/\u.n.keys≠ []/\(U≠ []->2<=u.n.keys.length)/\
  (80<=bn a->∀ (Q:Nat->au aA) (ks:O Key) (kids:O Nat),lF Q a ks kids->(∀x∈ps++q,P x=Q x)->(∀x∈kids,x<1600)->∃ (l:O Nat) (m:O aI),cU Q (eo+1) (fz u.n u.cC (u.cC+1) ks kids) d f l m/\g++(m++j)=A++(M++B)/\l.Perm (kids++(ps++q))/\
    bn (fz u.n u.cC (u.cC+1) ks kids)<=bn u.n+27/\u.n.keys.length<=(fz u.n u.cC (u.cC+1) ks kids).keys.length+1)/\
  (bn a<80->∃ (o:aA) (no:Nat) (rest:O Nat),u.n.kids[iZ u]? =some no/\P no=some o/\o.leaf=a.leaf/\u.cC-1<u.n.keys.length/\cq (u.n.keys.getD (u.cC-1) [])/\k2 (k4 u a o)/\ps.Perm (no::rest)/\
    ∀ (Q:Nat->au aA) (ks:O Key) (kids:O Nat),lF Q (k4 u a o) ks kids->(∀x∈rest++q,P x=Q x)->(∀x∈kids,x<1600)->∃ (l:O Nat) (m:O aI),cU Q (eo+1) (fz u.n (u.cC-1) (u.cC-1+2) ks kids) d f l m/\g++(m++j)=A++(M++B)/\l.Perm (kids++(rest++q))/\
     bn (fz u.n (u.cC-1) (u.cC-1+2) ks kids)<=bn u.n+27/\u.n.keys.length<=(fz u.n (u.cC-1) (u.cC-1+2) ks kids).keys.length+1):=by
 cases hc with
 |top=>
  have:=congrArg List.length ad;simp at this
 | @step eo d f _ _ ax K g j ae L bl bd a7 bj h ak V p W hlen af al N r s=>
  obtain⟨rfl,am⟩:=List.append_inj' ad rfl;have X:(ae,L,cY L.keys k)=u.st:=by simpa using am
  have an:ae=u.no:=congrArg Prod.fst X;have ao:L=u.n:=congrArg (λx=>x.2.1) X;have ag:cY L.keys k=u.cC:=congrArg (λx=>x.2.2) X;subst an ao;rw[ag]at r s;have ap:=uu u.n.keys k;rw[ag]at ap;refine⟨d,f,K,g,j,bl++bd,h,by rw[cy],ak,I,hlen,af,al,λb Q ks kids hf t v=>?_,λb=>?_⟩
  .obtain⟨w,y,z,C,R⟩:=Eo V p W r s c b hs hf (λx hx=>t x (by
    simp only[cD]at hx⊢;rcases hx with hx|hx|hx
    .exact .inl (.inl hx)
    .exact .inr hx
    .exact .inl (.inr hx))) v
   refine⟨w,_,y,by simp only[cy],z.trans (List.Perm.append_left kids ?_),C,I⟩;exact xP bl q bd
  .by_cases h0:u.cC=0
   .obtain⟨o,S,T,D,Y,Z,aa⟩:=Gq p hlen J (i:=u.cC) (by
     have:u.n.keys.length≠0:=λe=>af (List.eq_nil_of_length_eq_zero e);omega) N s c b
    obtain⟨aq,ah,ar,av,E,ab,_,ac⟩:=Er V p W hlen J S N r s c b;rw[D]at E;obtain rfl:=Option.some.inj E;have F:iZ u=u.cC+1:=by unfold iZ;rw[if_pos h0,h0]
    have ai:u.cC-1=u.cC:=by omega
    have G:u.n.keys.getD (u.cC-1) []=u.n.keys[u.cC]:=by rw[ai,fv,dr T];rfl
    have H:k4 u a o=dn a u.n.keys[u.cC] o:=by unfold k4;rw[if_pos (by rw[F];omega),G]
    refine⟨o,u.n.kids[u.cC+1],bl++ah,by rw[F];exact dr S,D,Y,I,by rw[G];exact Z,by rw[H];exact aa,?_,λQ ks kids hf t v=>?_⟩
    .exact(List.Perm.append_left bl ab).trans l2
    .rw[H]at hf
     obtain⟨w,y,z,C,R⟩:=ac Q ks kids hf (λx hx=>t x (by
      simp only[cD]at hx⊢;rcases hx with hx|hx|hx
      .exact .inl (.inl hx)
      .exact .inr hx
      .exact .inl (.inr hx))) v
     rw[ai];exact⟨w,_,y,by simp only[cy],z.trans (List.Perm.append_left kids (xP bl q ah)),C,R⟩
   .obtain⟨o,S,T,D,Y,Z,aa⟩:=Gp p hlen J (i:=u.cC) I I N r c b
    obtain⟨aq,aj,ar,av,E,ab,_,ac⟩:=Ep V p W hlen J I I N r s c b;rw[D]at E;obtain rfl:=Option.some.inj E;have F:iZ u=u.cC-1:=by unfold iZ;rw[if_neg h0]
    have G:u.n.keys.getD (u.cC-1) []=u.n.keys[u.cC-1]:=by rw[fv,dr T];rfl
    have H:k4 u a o=dn o u.n.keys[u.cC-1] a:=by unfold k4;rw[if_neg (by rw[F];omega),G]
    have aw:u.cC-1+2=u.cC+1:=by omega
    refine⟨o,u.n.kids[u.cC-1],aj++bd,by rw[F];exact dr S,D,Y,T,by rw[G];exact Z,by rw[H];exact aa,?_,λQ ks kids hf t v=>?_⟩
    .exact(ab.append_right bd)
    .rw[H]at hf
     obtain⟨w,y,z,C,R⟩:=ac Q ks kids hf (λx hx=>t x (by
      simp only[cD]at hx⊢;rcases hx with hx|hx|hx
      .exact .inl (.inl hx)
      .exact .inr hx
      .exact .inl (.inr hx))) v
     rw[aw];exact⟨w,_,y,by simp only[cy],z.trans (List.Perm.append_left kids (xP aj q bd)),C,R⟩
theorem c2.Gr{w:J}{T:aF}{c:de}{E:Nat->Prop}(h:c2 w T c)(b:∀q,E q->T.E q):c2 w (T.cj E T.G) c:=
 h.of (ao:=T.cj E T.G) (W:=λ_=>False) (h.t.grow (W:=λ_=>False) (af.refl _ _) (λ_ h=>h.elim) (λq a=>.inl (b q a)) (λq a=>.inr (.inl a)) λq a=>(h.t.dA q (b q a)).2.2) (af.refl _ _) (λ_ _ h=>h) rfl λ_ h=>h
theorem c3.local{T ao:aF}{c c':de}{m l:O Nat}{bE:Nat->Prop}{w w1 w':J}{k:Nat}(h:c3 (T.cj bE T.G) ao c c' m l w1 w' k)(hx:Ext w w1)(b:∀q,bE q->T.E q\/w.heap.size<=q)(d:∀q,T.E q->bE q):c3 T (ao.cj T.E ao.G) c c' m l w w' k:=
 ⟨h.to.local hx b (λq a=>.inl a) (λq a=>.inl (by rw[h.E];exact d q a)) λq a=>a,rfl,h.G,h.root,h.aG,h.cb,h.made,h.left,h.b1,h.iY,h.f,h.dX,h.room⟩
theorem c2.Bs{w w':J}{T:aF}{c:de}{W:Nat->Prop}(h:c2 w T c)(hc:af W w w')(cp:∀q,W q->T.E q\/w.heap.size<=q):c2 w' T c:=by
 have b:af (λq=>T.E q) w w':=c5 (W:=λq=>T.E q) (af.refl _ _) hc λq a d=>(cp q d).resolve_right I;exact h.of (h.t.grow (E:=T.E) (G:=T.G) b (λq a _=>.inl a) (λq a=>.inl a) (λq a=>.inr (.inl a)) λq a=>(h.t.dA q a).2.2) b (λq hg he=>(h.t.dA q he).2.2 hg) rfl λ_ h=>h
theorem jD.to{w w':J}{T ao:aF}{k:Nat}{s:ad}{l:O dc}(h:jD (λq=>¬T.M q) w s l)(ht:bD T ao w w' k):jD (λq=>¬ao.M q) w' s l:=by
 refine⟨h.own.ag ht.ag λq a d=>h.oc q a (aF.gd d),λq a e=>?_,λx hx=>?_⟩
 .rcases ht.cS q e with c|c
  .exact h.oc q a c
  .have:=aV.lt h.own q a;omega
 .exact(ht.b1 (lo:=0) ((h.b1 x hx).aX λq _ b=>⟨cO _,b⟩)).aX λq _ b=>b.2
theorem jD.at{B:Nat->Prop}{w:J}{s:ad}{l:O dc}(h:jD B w s l){i:Nat}(hi:i<l.length):∃A:ah,s.a=some A/\s.len=l.length/\B A.block/\w.cell? (A.add (i*6))=some (.int .i64 ((l[i]).no:Nat))/\k3 B w (A.add (i*6)) l[i]:=by
 have f:=h.own.1;rw[gu _ (mR l)]at f;have g:s.len=l.length:=by omega
 rcases h.own.2.2.2 with ⟨o,p⟩|⟨b,c,e,k,q,m⟩
 .have:=h.own.2.1
  omega
 .have d:∀j,j<6->w.cell? ⟨b,i*6+j,none⟩=((dc.c l[i]))[j]? :=λj n=>by
   rw[bf.cell k,←uT (mR l) hi n,←m];rw[rU,if_pos I,Array.getElem?_toList]
  refine⟨b,e,g,h.oc b ⟨_,e,rfl⟩,?_,?_⟩
  .rw[aB,cQ]
   exact d 0 (by decide)
  .rw[aB,cQ]
   refine⟨?_,?_,?_,?_,?_,h.b1 _ (cJ hi),h.oc b ⟨_,e,rfl⟩,aV.lt h.own b ⟨_,e,rfl⟩⟩
   .rw[aB];exact d 1 (by decide)
   .rw[aB,aB];exact d 2 (by decide)
   .rw[aB,aB];exact d 3 (by decide)
   .rw[aB,aB];exact d 4 (by decide)
   .rw[aB];exact d 5 (by decide)
theorem Ctx.Bt{P:Nat->au aA}{lo hi:au Key}{k:Key}{top eo:Nat}{dd:O Nat}{A B:O aI}(h:Ctx P k top eo lo hi [] dd A B):eo=top/\lo=none/\hi=none/\dd=[]/\A=[]/\B=[]:=by
 generalize a:([]:O (Nat×aA×Nat))=st at h
 cases h with
 |top=>exact⟨rfl,rfl,rfl,rfl,rfl,rfl⟩
 |step h=>
  have:=congrArg List.length a;simp at this
def lN(T:aF)(c:de)(aK:O Nat)(dw:O aI)(w:J)(v:aa)(w':J):Prop:=
 ∃ (ao:aF) (c':de) (m l:O Nat),c2 w' ao c'/\c3 T ao c c' m l w w' 60/\
  ((v=.tuple #[(0:Int),(0:Int),(0:Int)]/\dw=[]/\l.Perm (m++aK)/\m.length<=2*T.aG+3)\/
   (∃ (root h:Nat) (pages:O Nat),v=.tuple #[root,h,(0:Int)]/\ep ao.P h none none root pages dw/\(pages++l).Perm (m++aK)/\1<=h/\h<=T.aG+1/\m.length<=2*T.aG+3)\/
   (∃a b:Int,v=.tuple #[a,b,(3:Int)]/\¬T.C.D.calm 60))
theorem lN.local{T:aF}{c:de}{aK:O Nat}{dw:O aI}{bE:Nat->Prop}{w w1 w':J}{v:aa}(h:lN (T.cj bE T.G) c aK dw w1 v w')(hx:Ext w w1)(d:∀q,bE q->T.E q\/w.heap.size<=q)(a:∀q,T.E q->bE q):lN T c aK dw w v w':=by
 obtain⟨ao,c',m,l,e,b,f⟩:=h;exact⟨ao.cj T.E ao.G,c',m,l,e.Gr λq g=>by rw[b.E];exact a q g,b.local hx d a,f⟩
structure Gs(bL:aF)(c:de)(b:J)(a:O dc)(k:Key)(aK:O Nat)(dw:O aI)(ws:ad)(gD:Nat)(i:Nat)(w':J)(ao:aF)(c':de)(m l:O Nat)(n:aA)(K V D:ad)(lo hi:au Key)(dd:O Nat)(A B:O aI)(q:O Nat)(M:O aI)(r:O Nat):Prop where
 nu:i<a.length
 xQ:c2 w' ao c'
 to:c3 bL ao c c' m l b w' (4*(a.length-1-i))
 od:m.length<=2*(a.length-1-i)
 ll:l.length<=2*(a.length-1-i)
 gD:Var w' gD (dF n K V D) 169
 b1:bF (λq=>¬ao.M q) w' n K V D
 gZ:jD (λq=>¬ao.M q) w' ws a
 ctx:Ctx ao.P k a.length (a.length-i) lo hi ((a.take i).map dc.st) dd A B
 ix:cU ao.P (a.length-i) n lo hi q M
 eq:A++(M++B)=dw
 pp:aK.Perm ((a[i]).no::(r++dd))
 acc:(q++l).Perm (m++r)
 sz:bn n<=282
 Gt:1<=i->n.keys≠ []
 Bu:∀x∈q++dd,ao.f x=true
theorem bU.oe{w:J}{T:aF}(h:bU w T):∀x n,T.P x=some n->bn n<=232:=λx n hx=>(h.ez x n hx).2.is.2.2
theorem gT.cs{T:aF}{c:de}{n:aA}{w w':J}{s:ad}{e:Int}(h:gT T c n w (.tuple #[s,e]) w'):
 ∃ (ao:aF) (c':de) (m:O Nat),c2 w' ao c'/\c3 T ao c c' m [] w w' 2/\m.length<=2/\((e=0/\∃ks,lF ao.P n ks m/\kz (λq=>¬ao.M q) w' s ks m)\/(e=3/\¬T.C.D.calm 2)):=by
 obtain⟨ao,c',m,s2,d,f,g,i⟩:=h;refine⟨ao,c',m,d,f,g,?_⟩;rcases i with ⟨ks,a,b,j⟩|⟨a,b⟩
 .simp at a
  obtain⟨⟨a1,a2,a3⟩,rfl⟩:=a;obtain rfl:s=s2:=by cases s;cases s2;simp_all
  exact .inl ⟨rfl,ks,b,j⟩
 .simp at a
  exact .inr ⟨a.2,b⟩
theorem Gu{P Q c:Nat->au aA}{t:Nat}{n:aA}{q:O Nat}{M:O aI}{a:Key}{x y no:Nat}(d:cU P (t+1) n none none q M)(hs:bn n<=282)(hf:lF Q n [a] [x,y])(j:∀z∈q,P z=Q z)(k:c no=some ⟨false,[a],[],[x,y]⟩)(l:∀z∈x::y::q,Q z=c z)(hx:x<1600)(p:y<1600):
 cq a/\∃pages,ep c (t+2) none none no pages M/\pages.Perm (no::x::y::q):=by
 have r:232<bn n:=by
  rcases hf with ⟨_,z,e,_⟩|⟨h,_⟩
  .cases e
  .exact h
 obtain⟨f,m,g,i,_⟩:=d.fits (d.wX I) (λ_=>I) (λ_=>I) hf j;have o:cU Q (t+2) ⟨false,[a],[],[x,y]⟩ none none f M:=⟨rfl,rfl,i,λz b=>by
  simp only[cN,e3,fb]at b;rcases b with rfl|rfl<;>assumption,m⟩
 refine⟨i a (by simp),no::f,o.lay (by simp) k λz b=>l z ?_,List.Perm.cons no g⟩;have:=g.mem_iff.1 b;simpa using this
theorem mT{a b:O Nat}:a.Perm b↔∀x,a.count x=b.count x:=List.perm_iff_count
theorem lO{q l m r:O Nat}{no:Nat}(h:(q++l).Perm (m++r)):(q++(l++ [no])).Perm (m++(no::r)):=by
 rw[mT]at h⊢;intro x;have:=h x;simp only[m9,oB,oC]at this⊢;omega
theorem h6{q l m r a ps ms ls rest:O Nat}(h:(q++l).Perm (m++r))(b:a.Perm (ms++(rest++q)))(c:ps.Perm (ls++rest)):(a++(l++ls)).Perm ((m++ms)++(ps++r)):=by
 rw[mT]at h b c⊢;intro x;have:=h x;have:=b x;have:=c x;simp only[m9,oB,oC]at*;omega
theorem lP{aK r ps a:O Nat}{u:Nat}(h:aK.Perm (r++(u::(ps++a)))):aK.Perm (u::((ps++r)++a)):=by
 rw[mT]at h⊢;intro x;have:=h x;simp only[m9,oB,oC]at*;omega
theorem Gv{w:J}{T:aF}{c:de}{d:O dc}{k:Key}{aK dd:O Nat}{dw A B M:O aI}{lo hi:au Key}{ws:ad}{n:aA}{K V D:ad}(h:c2 w T c)(bV:jD (λq=>¬T.M q) w ws d)(bA:bF (λq=>¬T.M q) w n K V D)(eH:0<d.length)(hlen:d.length=T.aG)(eI:T.aG<12)
 (eJ:T.C.D.aT<=900000000) (eK:2*T.aG+3<=b4 T) (eM:c.made.length<=100) (eN:c.left.length<=100) (cw:Ctx T.P k d.length 1 lo hi ((d.take (d.length-1)).map dc.st) dd A B) (L:cU T.P 1 n lo hi [] M) (aq:A++(M++B)=dw)
 (N:aK.Perm ((d[d.length-1]'I).no::dd)) (bB:bn n<=282) (a8:2<=d.length->n.keys≠ []) (Q:∀x∈dd,T.f x=true):
 aJ aj 187 #[.pointer (some c.cb),ws,cZ n K V D] w (lN T c aK dw w):=by
 refine okF (ae.nH (some c.cb) ws n.leaf K V D) aw.nH func187 ?_;(delta ae.nH aS Y r1 z4 av an aN aD st oZ wc fI dZ;dsimp only);refine a_ (vs:=dF n K V D) rfl λw1 cB cF eO=>?_;obtain⟨bH,aQ,a6,ba⟩:=bx cB;refine⟨_,bH,K,aQ,V,a6,D,ba,a_ (vs:=[false,(),(),()]) rfl λeP bW cI eQ=>⟨bW.cd rfl fp,rfl,cK bW (us:=dF n K V D) rfl rfl λbC bG cJ eR=>?_⟩⟩;have bX:Ext w bC:=cF.trans (Ext.cx cI cJ (bk _));obtain⟨gD,cM⟩:∃gD,gD=w1.heap.size:=⟨_,rfl⟩;rw[←cM]at bG⊢;obtain⟨bE,bI⟩:∃bE,bE=λq=>T.E q\/q=gD:=⟨_,rfl⟩;have cP:∀q,T.E q->bE q:=λq F=>by rw[bI];exact .inl F
 have a9:∀q,bE q->T.E q\/q=gD:=λq F=>by rw[bI]at F;exact F
 have cS:bE gD:=by rw[bI];exact .inr rfl
 have eS:=bG.lt;have cT:c2 bC (T.cj bE T.G) c:=h.of (W:=λ_=>False) (h.t.grow (W:=λ_=>False) bX (λ_ h=>h.elim) (λq F=>(a9 q F).imp id λe=>.inr ⟨I,I⟩) (λq F=>.inr (.inl F)) λq F hg=>by
  rcases a9 q F with aE|aE
  .exact(h.t.dA q aE).2.2 hg
  .have:=h.t.lt (q:=q) (.inr (.inr (.inr (.inr hg))));omega) bX (λ_ _ h=>h) rfl λ_ h=>h
 have bY:bD T (T.cj bE T.G) w bC 0:=(bD.refl T w).step (W:=λ_=>False) bX (λ_ h=>h.elim) (λq F=>(a9 q F).imp id λe=>.inr I) λq F=>.inl F;have conv:∀ (v:aa) (w':J),lN (T.cj bE T.G) c aK dw w1 v w'->lN T c aK dw w v w':=λv w' hu=>hu.local cF (λq F=>(a9 q F).imp id λe=>I) cP;obtain⟨bL,ar⟩:∃bL,bL=T.cj bE T.G:=⟨_,rfl⟩;have bZ:=bV.to bY;have b0:bF (λq=>¬(T.cj bE T.G).M q) bC n K V D:=(bY.b1 (lo:=0) (bA.aX λq _ R=>⟨cO _,R⟩)).aX λq _ R=>R.2;have cV:bL.P=T.P:=by rw[ar];rfl
 have b3:bL.f=T.f:=by rw[ar];rfl
 have dS:bL.E gD:=by rw[ar];exact cS
 have eT:b4 bL=b4 T:=by rw[ar];rfl
 have dT:bL.C=T.C:=by rw[ar];rfl
 have dU:bL.aG=T.aG:=by rw[ar];rfl
 rw[←ar]at cT bZ b0 conv;clear ar bY bI cP a9 cS;have eU:gD=w1.heap.size:=cM;have eV:ws.len=d.length:=by
  have:=bV.own.1;rw[gu _ (mR d)]at this;omega
 refine⟨λn10 w'=>∃ (i:Nat) (ao:aF) (c':de) (m l:O Nat) (n:aA) (K V D:ad) (lo hi:au Key) (dd:O Nat) (A B:O aI) (q:O Nat) (M:O aI) (r:O Nat),n10=(i:Nat)/\Gs bL c w1 d k aK dw ws gD i w' ao c' m l n K V D lo hi dd A B q M r,λn10 _=>(n10+1).toNat,
  ⟨d.length-1,bL,c,[],[],n,K,V,D,lo,hi,dd,A,B,[],M,[],?_,?_⟩,?_⟩
 .rw[bw I I];omega
 .have e:d.length-(d.length-1)=1:=by omega
  refine⟨I,cT,(c3.ext bL c (Ext.cx cI cJ (bk _))).mono I,cO _,cO _,bG,b0,bZ,by rw[e,cV];exact cw,by rw[e,cV];exact L,aq,by simpa using N,List.Perm.refl _,bB,λaE=>a8 I,λx hx=>by rw[b3];exact Q x (by simpa using hx)⟩
 clear cw L aq N bB a8 Q bA b0 bG bV bZ cB bH aQ a6 ba bW;rintro _ b5 ⟨i,ao,c',m,l,n,K,V,D,lo,hi,dd,A,B,q,M,r,rfl,g⟩;have cW:=g.nu;have bJ:=g.to.cb;refine⟨λ_=>aY ?_,λR=>?_⟩
 rotate_left
 .have:¬(i:Int)>=0:=cG R
  omega
 have aR:Ext b5 b5.drew:=cH _;obtain⟨b6,dV⟩:∃b6,b6=b5.drew:=⟨_,rfl⟩;rw[←dV]at aR⊢;have bb:=g.xQ.ext aR;have cX:=bb.cells.2.2;rw[bJ]at cX;have cY:jD (λq=>¬ao.M q) b6 ws d:=g.gZ.to (bD.ext ao aR);obtain⟨bc,b8,eW,dW,dY,_⟩:=cY.at cW;have eX:c'.left.length<=200:=by rw[g.to.left,cn];have:=g.ll;omega
 have d0:c'.made.length<=200:=by rw[g.to.made,cn];have:=g.od;omega
 obtain⟨aU,c0,ai,ak,aV,aH,aL⟩:=Bh bb (d[i]).no I;rw[bJ]at aV aH aL;have d6:∀n,(bc.add n).block=bc.block:=λn=>by unfold Addr.add;split<;>rfl
 have d7:∀q,ay c'.fV q->ao.M q:=λq F=>.inr (.inr (.inr (.inr (bb.j1 q F).1)));refine⟨ay c'.fV,_,rfl,λF=>(bb.j1 _ F).2 (by rw[bJ,aB]),c'.fV,cX,bc,b8,⟨I,I⟩,λF=>dW (d7 _ ((d6 _)▸F)),_,by rw[dm];exact dY,aY ⟨af.c7 (dE _ _),aU,c0,ai,ak,_,rfl,by rw[aB];exact aV,by rw[aB];exact aH,aY ?_⟩⟩;rw[aB,cQ];obtain⟨U,c1⟩:∃U,U=c0.setCell ⟨c.cb,2,none⟩ aU:=⟨_,rfl⟩;rw[←c1];obtain⟨ac,be⟩:=aL U c1;have b9:=c3.leave (c:=c') (c':=⟨c.cb,c'.ma,aU,c'.made,c'.left++ [(d[i]).no]⟩) (no:=(d[i]).no) be rfl (λq F=>.inl F) bJ.symm rfl rfl;have X:=(g.to.trans (c3.ext ao c' aR)).trans b9;simp only[fk,lV]at X;have c4:ao.E gD:=by rw[g.to.E];exact dS
 have b_:=(g.gD.ext aR).ag be.ag (bb.t.jY c4);have ca:=cY.to be;have bf:bF (λq=>¬(ao.cj ao.E λq=>ao.G q\/ay aU q).M q) U n K V D:=(be.b1 (lo:=0) ((g.b1.ext aR).aX λq _ R=>⟨cO _,R⟩)).aX λq _ R=>R.2;obtain⟨bN,aW⟩:∃bN,bN=ao.cj ao.E λq=>ao.G q\/ay aU q:=⟨_,rfl⟩;have bl:bN.P=ao.P:=by rw[aW];rfl
 have bd:bN.f=ao.f:=by rw[aW];rfl
 have eY:b4 bN=b4 ao:=by rw[aW];rfl
 have c5:bN.E gD:=by rw[aW];exact c4
 have c6:bN.aG=T.aG:=by rw[aW];show ao.aG=_;rw[g.to.aG,dU]
 rw[←aW]at ac be b9 X ca bf;obtain⟨a6,bK⟩:∃a6:de,a6=⟨c.cb,c'.ma,aU,c'.made,c'.left++ [(d[i]).no]⟩:=⟨_,rfl⟩;rw[←bK]at ac b9 X;have bM:a6.cb=c.cb:=by rw[bK]
 have al:a6.made.length<=200:=by rw[bK];exact d0
 have eZ:a6.left.length<=201:=by rw[bK,cn,ig];omega
 obtain⟨d8,b2,bp,d9⟩:=bx b_;have c9:=bt.len bf.keys;have c_:∀ (w':J) (v:aa),Ext U w'->(∀ {cL ba bg},cL=bN->ba=a6->bg=l++ [(d[i]).no]->((v=.tuple #[(0:Int),(0:Int),(0:Int)]/\dw=[]/\bg.Perm (m++aK)/\m.length<=2*bL.aG+3)\/
  (∃ (root h:Nat) (pages:O Nat),v=.tuple #[root,h,(0:Int)]/\ep (aF.P cL) h none none root pages dw/\(pages++bg).Perm (m++aK)/\1<=h/\h<=bL.aG+1/\m.length<=2*bL.aG+3)\/
  (∃a b:Int,v=.tuple #[a,b,(3:Int)]/\¬bL.C.D.calm 60)))->lN T c aK dw w v w':=by
  intro w' v hx hd;refine conv v w' ⟨bN,a6,m,l++ [(d[i]).no],?_,?_,hd (ba:=a6) rfl rfl rfl⟩
  .exact ac.ext hx
  .have:=(X.trans (c3.ext bN _ hx)).mono (j:=60) I
   simp only[fk]at this;exact this
 refine cz (λb w'=>(b=true↔(i=0/\n.keys=[]))/\U=w') (λZ bh=>⟨λh0=>⟨K,b2,bh _ _ ⟨?_,rfl⟩⟩,λh0=>bh _ _ ⟨?_,rfl⟩⟩) ?_
 .have h0:i=0:=by
   have:(i:Int)=0:=by simpa using h0
   omega
  rw[jH];constructor
  .intro aE
   exact⟨h0,List.eq_nil_of_length_eq_zero I⟩
  .rintro⟨_,aE⟩
   rw[aE]at c9;simp at c9;omega
 .have h0:i≠0:=by
   have:¬(i:Int)=0:=by simpa using h0
   omega
  exact⟨λh=>(by cases h),λh=>absurd h.1 h0⟩
 rintro e0 _ ⟨da,rfl⟩;refine⟨λR=>?_,λR=>?_⟩
 .obtain⟨h0,db⟩:=da.1 R
  subst h0;have bi:Ext U U.drew:=cH _;obtain⟨d_,ea,eb,ec⟩:=bx (b_.ext bi);have df:=(ac.ext bi).cells.1;rw[bM]at df;have ed:=(ac.ext bi).t.cells.2.2.2.2;obtain⟨t1,t2,t3,t4,t5,t6⟩:=Ctx.Bt (by simpa using g.ctx);have L:=g.ix;have N:=g.pp;have aq:=g.eq;have am:=lO (no:=(d[0]).no) g.acc;subst t2 t3 t4 t5 t6;rw[ke,fk]at aq;rw[fk]at N;subst aq;have dg:n.leaf=false->∃x,n.kids=[x]/\1<=bN.aG/\ep ao.P (bN.aG-1) none none x q M/\1<=bN.aG-1:=by
   intro aM;have e:d.length-0=bN.aG:=by rw[c6];omega
   rw[e]at L
   cases ht:bN.aG with
   |zero=>omega
   |succ t=>
    rw[ht]at L
    cases t with
    |zero=>
     have:=L.1.leaf;rw[aM]at this;cases this
    |succ t=>
     obtain⟨cc,ce,bj,bm,bO⟩:=L;rw[db]at bO;generalize e1:n.kids=e2 at bO
     cases bO with
     |one h=>exact⟨_,rfl,I,h.1,I⟩
  refine aY ⟨λ_=>False,id,_,d_,K,ea,V,eb,D,ec,_,rfl,id,_,df,_,rfl,id,_,ed,(pA (bf.ext bi) bN.aG I λaM=>by obtain⟨x,a1,a2,_⟩:=dg aM;exact⟨x,a1,a2⟩).use ?_⟩;rintro v w' ⟨rfl,cf⟩;have di:=bi.trans cf
  cases aM:n.leaf with
  |true=>
   rw[if_pos rfl];have dk:=L.leaf;rw[aM]at dk;have cg:d.length-0=1:=ck dk.symm;rw[cg]at L;obtain⟨cc,ce,bj,bm⟩:=L;subst bj;refine⟨_,_,_,rfl,cf,c_ w' _ di λ{cL ba bg} a1 a2 a3=>.inl ⟨rfl,?_,?_,by have:=g.od;omega⟩⟩
   .rw[bm];unfold aA.dh;rw[db];rfl
   .subst a3
    rw[mT]at am N⊢;intro x;have:=am x;have:=N x;simp only[m9,oB,oC]at*;omega
  |false=>
   rw[if_neg (by simp)];obtain⟨x,a1,a2,a3,a4⟩:=dg aM;refine⟨_,_,_,rfl,cf,c_ w' _ di λ{cL ba bg} cv bS aZ=>.inr (.inl ⟨_,_,q,rfl,?_,?_,a4,?_,by have:=g.od;omega⟩)⟩
   .subst cv
    have ee:n.kids.getD 0 0=x:=by rw[a1];rfl
    rw[ee,bl];exact a3
   .subst aZ
    rw[mT]at am N⊢;intro x;have:=am x;have:=N x;simp only[m9,oB,oC]at*;omega
   .omega
 .have a8:n.keys≠ []:=λe=>by
   rcases m8 i with h0|h0
   .have:=da.2 ⟨h0,e⟩
    rw[R]at this;cases this
   .exact g.Gt h0 e
  have e3:bN.C.D.aT<=900000050:=by
   have:=X.to.aT;rw[dT]at this;omega
  have dl:2<=b4 bN:=by
   have:=X.room;have:=g.od;omega
  have dn:∀ms:O Nat,ms.length<=3->(m++ms).length<=2*bL.aG+3:=λms h=>by rw[cn];have:=g.od;omega
  have dp:∀j,j<=10->¬bN.C.D.calm j->¬bL.C.D.calm 60:=λj e4 bA hc=>bA (X.to.calm j (fK hc I));have ch:k2 n:=g.ix.xO (λ_=>by have:=g.sz;omega) (λ_=>by have:=g.sz;omega) λ_=>a8;refine cz (λp w'=>p=(if i=0 then none else some (bc.add ((i-1)*6)))/\U=w') (λZ bh=>⟨λh0=>⟨bc,b8,?_,bh _ _ ⟨?_,rfl⟩⟩,λh0=>bh _ _ ⟨?_,rfl⟩⟩) ?_
  .have h0:(i:Int)>0:=ck h0
   rw[bw I I];omega
  .have h0:(i:Int)>0:=ck h0
   have e:(i:Int)-1=((i-1:Nat):Int):=by omega
   rw[bw I I,if_neg I,e,dm]
  .have h0:¬(i:Int)>0:=cG h0
   rw[if_pos I]
  rintro _ _ ⟨rfl,rfl⟩;refine⟨_,d8,K,b2,V,bp,D,d9,?_⟩;by_cases h0:i=0
  .subst h0
   rw[if_pos rfl];have bo:=Gj ac bf ch I dl I;rw[bM]at bo;refine bo.use ?_;rintro _ a0 ⟨a5,e,rfl,hf⟩;obtain⟨cL,ba,ms,S,H,bq,br⟩:=hf.cs;have bP:=X.trans H;simp only[fk]at bP;have ef:ba.cb=c.cb:=by rw[H.cb,bM]
   rcases br with ⟨rfl,ks,ax,aO⟩|⟨rfl,aP⟩
   .refine⟨a5,_,_,0,rfl,λh=>(by cases h),λ_=>⟨λ_=>?_,λh=>(by simp at h)⟩⟩
    obtain⟨t1,t2,t3,t4,t5,t6⟩:=Ctx.Bt (by simpa using g.ctx);have L:=g.ix;have N:=g.pp;have aq:=g.eq;have bB:=g.sz;have am:=lO (no:=(d[0]).no) g.acc;have Q:=g.Bu;subst t2 t3 t4 t5 t6;rw[ke,fk]at aq;rw[fk]at N Q;subst aq;have eg:bN.n<=1600:=ac.t.s.bp;have ci:∀z∈q,ao.P z=cL.P z:=λz ab=>by
     rw[←bl];exact((H.dX z (by rw[bd,Q z ab];rfl)).1).symm
    have eh:d.length-0=(d.length-1)+1:=by omega
    have dq:cL.aG=d.length:=by rw[H.aG,c6];omega
    rw[eh]at L;have dr:∀a7 x y,ks=[a7]->ms=[x,y]->cq a7/\x<1600/\y<1600:=λa7 x y ai ak=>by
     subst ai ak;have ds:232<bn n:=by
      rcases ax with ⟨_,z,e,_⟩|⟨h,_⟩
      .cases e
      .exact h
     obtain⟨e5,_,_,aV,_⟩:=L.fits (L.wX I) (λ_=>I) (λ_=>I) ax ci;have hx:=(H.iY x (by simp)).2;have e6:=(H.iY y (by simp)).2;exact⟨aV a7 (by simp),I,I⟩
    have dt:=Gn S aO (λ_=>I) dr (by have:=H.to.aT;omega) (by have:=H.room;have:=X.room;have:=g.od;omega) (by rw[H.made,cn];omega);rw[ef]at dt;refine dt.use ?_;rintro v e7 ei;rcases ei with ⟨x,ai,ak,rfl,aH,aL⟩|⟨a7,x,y,no,iv,fo,ai,ak,aH,aL,ej⟩
    .subst ai ak
     refine⟨_,_,_,rfl,conv _ _ ⟨cL,ba,m++ [x],l++ [(d[0]).no],aH,?_,.inr (.inl ⟨x,cL.aG,x::q,rfl,?_,?_,I,I,dn [x] (by simp)⟩)⟩⟩
     .have:=(bP.trans (c3.ext cL ba aL)).mono (j:=60) I
      simp only[fk]at this;exact this
     .rcases ax with ⟨_,z,_,e,ab⟩|⟨_,e8,e9,_,e,_⟩
      .cases e
       rw[dq,show d.length=d.length-1+1 from I];exact L.lay a8 ab ci
      .cases e
     .rw[mT]at am N⊢
      intro z;have:=am z;have:=N z;simp only[m9,oB,oC]at*;omega
    .subst ai ak
     obtain⟨a1,a2,a3⟩:=dr a7 x y rfl rfl;have az:=bP.trans aL;simp only[fk]at az;have du:=az.mono (j:=60) I;rcases ej with ⟨rfl,cl⟩|⟨rfl,cl⟩
     .have ek:∀z∈x::y::q,cL.P z=iv.P z:=λz ab=>by
       refine((aL.dX z ?_).1).symm;rw[H.f];simp only[cN]at ab;rcases ab with ab|ab|ab
       .simp[ab]
       .simp[ab]
       .rw[bd,Q z ab];simp
      obtain⟨_,pages,cv,bS⟩:=Gu L bB ax ci cl ek a2 a3;refine⟨_,_,_,rfl,conv _ _ ⟨iv,fo,m++ [x,y]++ [no],l++ [(d[0]).no],aH,du,.inr (.inl ⟨no,cL.aG+1,pages,rfl,?_,?_,I,I,by rw[cy];exact dn [x,y,no] (by simp)⟩)⟩⟩
      .rw[dq,show d.length+1=d.length-1+2 from I];exact cv
      .rw[mT]at am N bS⊢
       intro z;have:=am z;have:=N z;have:=bS z;simp only[m9,oB,oC]at*;omega
     .refine⟨_,_,_,rfl,conv _ _ ⟨iv,fo,m++ [x,y]++ [no],l++ [(d[0]).no],aH,du,.inr (.inr ⟨_,_,rfl,λhc=>cl (H.to.calm 1 (X.to.calm 3 (fK hc I)))⟩)⟩⟩
   .refine⟨a5,_,_,3,rfl,λ_=>conv _ _ ⟨cL,ba,m++ms,l++ [(d[0]).no],S,bP.mono I,.inr (.inr ⟨0,0,rfl,dp 2 I aP⟩)⟩,λh=>(by cases h)⟩
  .rw[if_neg h0]
   have dz:i-1<d.length:=by omega
   obtain⟨e_,dv,_,_,_,hu⟩:=ca.at dz;rw[b8]at dv;obtain rfl:=Option.some.inj dv;obtain⟨u,cm⟩:∃u,u=d[i-1]:=⟨_,rfl⟩;rw[←cm]at hu;have el:(d.take i).map dc.st=(d.take (i-1)).map dc.st++ [u.st]:=by
    have:d.take i=d.take (i-1)++ [d[i-1]]:=by
     have e:i-1+1=i:=by omega
     rw[←kG dz,e]
    rw[this,fG,cm];rfl
   obtain⟨dx,dy,em,dB,dC,ps,b7,cA,en,fa,fb,eo,er,dD,co⟩:=Ctx.up g.ctx el g.ix g.xQ.t.oe g.sz;have cg:d.length-i+1=d.length-(i-1):=by omega
   rw[cg]at b7 dD co;have es:=(g.xQ.t.ez _ _ en).2.is;have fc:=es.2.1.eL I;have Q:=g.Bu;have bo:=Gk ac bf hu ch.1 (by have:=g.sz;omega) (λ_=>ch) (λbQ=>by
    obtain⟨o,no,rest,cv,bS,aZ,bR,bT,dH,_⟩:=co bQ;exact⟨o,no,cv,by rw[bl];exact bS,aZ,bR,bT,dH⟩) I I dl I I
   rw[bM]at bo;refine bo.use ?_;rintro v a0 dI;have fd:0<u.n.keys.length:=List.length_pos_iff.2 eo;have eg:bN.n<=1600:=ac.t.s.bp;have cp:∀ {cL:aF}{ba:de}{ms ls:O Nat}{w':J}{et:Nat},c3 bN cL a6 ba ms ls U w' et->∀x,ao.f x=true->ao.P x=cL.P x:=λeu x hx=>by
    rw[←bl];exact((eu.dX x (by rw[bd,hx];rfl)).1).symm
   have ev:(∃ (cL:aF) (ba:de) (ms ls:O Nat) (s:ad) (a b:Int),v=.tuple #[s,a,b,(3:Int)]/\c2 a0 cL ba/\c3 bN cL a6 ba ms ls U a0 4/\¬bN.C.D.calm 4)\/
    (∃ (cL:aF) (ba:de) (ms ls rest:O Nat) (s:ad) (ap ah:Nat) (ks:O Key) (al:O Nat) (aC:O aI),v=.tuple #[s,ap,ah,(0:Int)]/\c2 a0 cL ba/\c3 bN cL a6 ba ms ls U a0 4/\ms.length<=2/\ls.length<=1/\kz (λq=>¬cL.M q) a0 s ks ms/\
      cU cL.P (d.length-(i-1)) (fz u.n ap ah ks ms) dx dy al aC/\dB++(aC++dC)=A++(M++B)/\al.Perm (ms++(rest++q))/\ps.Perm (ls++rest)/\bn (fz u.n ap ah ks ms)<=bn u.n+27/\u.n.keys.length<=(fz u.n ap ah ks ms).keys.length+1/\
      ap<=u.n.keys.length/\1<=ah/\ah<=u.n.kids.length):=by
    rcases dI with ⟨ds,s,e,rfl,hf⟩|⟨bQ,cL,ba,rfl,ai,ak,aV⟩|⟨bQ,o,no,fe,ff,fg,s,e,dJ,dK,dL,rfl,hf⟩
    .obtain⟨cL,ba,ms,S,H,bq,br⟩:=hf.cs
     rcases br with ⟨rfl,ks,ax,aO⟩|⟨rfl,aP⟩
     .obtain⟨al,aC,cv,bS,aZ,bR,bT⟩:=dD ds cL.P ks ms ax (λx hx=>cp H x (Q x (by
       rw[cA];simp only[cD,cN]at hx⊢;rcases hx with hx|hx
       .exact .inr (.inr (.inl hx))
       .exact .inl hx))) (λx hx=>by have:=(H.iY x hx).2;omega)
      exact .inr ⟨cL,ba,ms,[],ps,s,u.cC,u.cC+1,ks,al,aC,rfl,S,H.mono I,bq,cO _,aO,cv,bS,aZ,List.Perm.refl _,bR,bT,I,I,I⟩
     .exact .inl ⟨cL,ba,ms,[],s,_,_,rfl,S,H.mono I,λhc=>aP (fK hc I)⟩
    .exact .inl ⟨cL,ba,[],[],bu,0,0,rfl,ai,ak.mono I,λhc=>aV (fK hc I)⟩
    .obtain⟨fh,dM,rest,cv,bS,aZ,bR,bT,dH,dN,ew⟩:=co bQ
     rw[cv]at dJ;obtain rfl:=Option.some.inj dJ;rw[bl,bS]at dK;obtain rfl:=Option.some.inj dK;obtain⟨cL,ba,ms,S,H,bq,br⟩:=hf.cs;have az:=dL.trans H;simp only[ke,fk]at az;rcases br with ⟨rfl,ks,ax,aO⟩|⟨rfl,aP⟩
     .obtain⟨al,aC,d1,d2,d3,d4,d5⟩:=ew cL.P ks ms ax (λx hx=>cp az x (Q x (by
       rw[cA];simp only[cD,cN]at hx⊢;rcases hx with hx|hx
       .exact .inr (.inr (.inl (dN.mem_iff.2 (iJ _ hx))))
       .exact .inl hx))) (λx hx=>by have:=(az.iY x hx).2;omega)
      refine .inr ⟨cL,ba,ms,[dM],rest,s,u.cC-1,u.cC-1+2,ks,al,aC,rfl,S,az,bq,bk _,aO,d1,d2,d3,dN,d4,d5,I,I,?_⟩;rcases m8 u.cC with ex|ex<;>omega
     .exact .inl ⟨cL,ba,ms,[dM],s,_,_,rfl,S,az,λhc=>aP (dL.to.calm 2 hc)⟩
   clear dI;rcases ev with ⟨cL,ba,ms,ls,a5,a,b,rfl,S,H,aP⟩|⟨cL,ba,ms,ls,rest,a5,ap,ah,ks,al,aC,rfl,S,H,bq,fi,aO,cc,ce,bj,bm,bO,ey,eA,eB,eC⟩
   .exact⟨a5,_,_,3,rfl,λ_=>conv _ _ ⟨cL,ba,_,_,S,(X.trans H).mono I,.inr (.inr ⟨0,0,rfl,dp 4 I aP⟩)⟩,λh=>(by cases h)⟩
   .refine⟨a5,_,_,0,rfl,λh=>(by cases h),λ_=>⟨λh=>?_,λ_=>?_⟩⟩
    .have:(i:Int)=0:=by simpa using h
     omega
    have bs:=hu.to H.to;refine⟨_,rfl,_,bs.aQ,u.K,bs.a6,u.V,bs.ba,u.D,bs.fo,(pB bs.b1 aO (fr:=ap) (to:=ah) eA I eB eC I I I).use ?_⟩;rintro _ fj ⟨dj,dG,cR,rfl,eD,bv⟩;have dO:=b_.ag H.to.ag (ac.t.jY c5);have dP:=dO.ext bv;refine⟨_,dj,dG,cR,rfl,dP.cd rfl fp,rfl,cK dP (us:=dF (fz u.n ap ah ks ms) dj dG cR) rfl rfl λeE eF bz fl=>⟨⟨i-1,cL,ba,m++ms,l++ [(d[i]).no]++ls,fz u.n ap ah ks ms,dj,dG,cR,dx,dy,em,dB,dC,al,aC,ps++((d[i]).no::r),?_,?_⟩,?_⟩⟩
    .rw[bw I I];omega
    .have dQ:cL.E gD:=by rw[H.E];exact c5
     have cr:cL.M gD:=.inr (.inr (.inr (.inl dQ)));have ct:=(X.trans H).trans (c3.ext cL ba bv);simp only[fk]at ct;have eG:bD bL cL w1 eE (4*(d.length-1-i)+4+0):=ct.to.step (E:=cL.E) (G:=cL.G) bz (λq e aM=>I) (λq F=>.inl F) λq F=>.inl F;have cu:∀x,ao.f x=true->cL.f x=true:=λx hx=>by rw[H.f,bd,hx];rfl
     have bU:=ca.to H.to;refine⟨dz,(S.ext bv).Bs bz λq e=>.inl (by rw[e];exact dQ),{ct.mono (j:=4*(d.length-1-(i-1))) I with to:=eG.mono I},?_,?_,eF,?_,?_,b7.agree λx hx=>cp H x (Q x (by rw[cA];simp[hx])),cc,by rw[ce];exact g.eq,?_,h6 (lO g.acc) bj bm,I,λaE e=>?_,λx hx=>?_⟩
     .rw[cn];have:=g.od;omega
     .rw[cn,cn,ig];have:=g.ll;omega
     .refine(bF.ag eD bz λq F e=>?_).aX λq _ F dR=>?_
      .subst e
       rcases F with F|F
       .exact F cr
       .have:=dO.lt;omega
      .rcases F with F|F
       .exact F dR
       .have:=S.t.lt dR;omega
     .refine⟨(bU.own.ext bv).ag bz λq F e=>bU.oc q F (by rw[e];exact cr),bU.oc,λx hx=>bF.ag ((bU.b1 x hx).ext bv) bz λq F e=>F (by rw[e];exact cr)⟩
     .have this:aK.Perm ((d[i]'cW).no::(r++dd)):=g.pp
      rw[cA]at this;rw[←cm];exact lP this
     .have fm:=er (λb3=>by
       have:=congrArg List.length b3;rw[c8,cE,kg]at this;omega)
      rw[e,kg]at ey;omega
     .rcases cD.1 hx with hx|hx
      .have:=bj.mem_iff.1 hx
       rcases cD.1 this with hx|hx
       .rw[H.f];simp[hx]
       .rcases cD.1 hx with hx|hx
        .refine cu x (Q x ?_)
         rw[cA];have:x∈ps:=bm.mem_iff.2 (g6 _ hx);simp[this]
        .exact cu x (Q x (by simp[hx]))
      .exact cu x (Q x (by rw[cA];simp[hx]))
    .rw[bw I I]
     show((i:Int)-1+1).toNat<((i:Int)+1).toNat;omega
theorem Gw{w:J}{T:aF}{c:de}{dw:O aI}{n:aA}{K V D ws:ad}(r:ws.len=0)(h:c2 w T c)(t:bF (λq=>¬T.M q) w n K V D)(P:T.C.D.aT<=900000000)(Q:2<=b4 T)(R:c.made.length<=100)(S:c.left=[])
 (f:gr n) (g:n.keys≠ []) (u:bn n<=232) (y:n.dh=dw):
 aJ aj 187 #[.pointer (some c.cb),ws,cZ n K V D] w (lN T c [] dw w):=by
 refine okF (ae.nH (some c.cb) ws n.leaf K V D) aw.nH func187 ?_;(delta ae.nH aS Y r1 z4 av an aN aD st oZ wc fI dZ;dsimp only);refine a_ (vs:=dF n K V D) rfl λw1 z A U=>?_;obtain⟨bH,aQ,a6,ba⟩:=bx z;refine⟨_,bH,K,aQ,V,a6,D,ba,a_ (vs:=[false,(),(),()]) rfl λW i B X=>⟨i.cd rfl fp,rfl,cK i (us:=dF n K V D) rfl rfl λj E F Z=>?_⟩⟩;have d:Ext w j:=A.trans (Ext.cx B F (bk _));refine⟨λn10 w'=>n10= -1/\j=w',λ_ _=>0,⟨by rw[r];decide,rfl⟩,?_⟩;rintro _ _ ⟨rfl,rfl⟩;refine⟨λh=>by simp at h,λ_=>?_⟩;obtain⟨d0,d1,d2,d3⟩:=bx E;refine⟨_,d0,K,d1,V,d2,D,d3,(Bm (h.ext d) I I I (t.ext d) (.inl f) u).use ?_⟩;intro v w' a;obtain⟨s,e,rfl⟩:=a.out;obtain⟨ao,c',m,l,o,aa,G⟩:=(a.base d).cs;rcases G with ⟨rfl,ks,H,L⟩|⟨rfl,N⟩
 .refine⟨s,0,rfl,λh=>(by cases h),λ_=>?_⟩
  rcases H with ⟨_,x,rfl,rfl,hx⟩|⟨ab,_⟩
  .rcases L with ⟨b,p,rfl,_,e,a,_⟩|⟨b,p,ac,af,ag,rfl,e,_⟩
   .obtain rfl:x=p:=by simpa using e
    refine⟨_,rfl,⟨by decide,by show(0:Int)<((1:Nat):Int);decide⟩,_,by rw[aB,aB];exact a.cell,ao,c',[x],[],l,o.mono I,.inr (.inl ⟨x,1,[x],rfl,⟨n,hx,f,λk g=>⟨λ_ e=>(by cases e),λ_ e=>(by cases e)⟩,g,rfl,y.symm⟩,List.Perm.refl _,bk _,I,by show 1<=_;omega⟩)⟩
   .cases e
  .omega
 .exact⟨s,3,rfl,λ_=>⟨ao,c',m,[],l,o.mono I,.inr (.inr ⟨0,0,rfl,λhc=>N (fK hc I)⟩)⟩,λh=>(by cases h)⟩
def aF.mU(T:aF)(r h:Nat):aF:={T with root:=r,aG:=h}
theorem bU.Gx{w w':J}{T:aF}{r h:Nat}(ht:bU w T)(a:Var w' T.a8 (k1 (T.mU r h)) 243)(hc:af (λq=>q=T.a8) w w')(b:r<T.n)(c:h<=12):bU w' (T.mU r h)/\bD T (T.mU r h) w w' 0:=
 ⟨⟨a,ht.s.ag hc λq d e=>ht.jB (e▸d),ht.ca.ag hc λq e=>.inl e,ht.jB,ht.dA,ht.iC,ht.n,⟨b,c,ht.num.2.2⟩,ht.ez,ht.bT,ht.low⟩,
  ⟨rfl,rfl,rfl,rfl,rfl,rfl,rfl,rfl,rfl,rfl,bk _,λ_ h=>h,hc.mono λq _ e=>.inr (.inl e),λq h=>.inl h,λq h=>.inl h⟩⟩
def gj(T:aF)(pages:O Nat)(L:O aI):Prop:=(T.aG=0/\T.root=0/\pages=[]/\L=[])\/ep T.P T.aG none none T.root pages L
theorem Bv{s t:Nat->al}:∀ {n:Nat},(∀i,s i=true->t i=true)->ey s n<=ey t n
 |0,_=>bk _
 |n+1,h=>by
  have a:=Bv (n:=n) h
  show ey s n+(s n).toNat<=ey t n+(t n).toNat
  cases hs:s n with
  |false=>exact Nat.add_le_add a (cO _)
  |true=>rw[h n hs];exact Nat.add_le_add_right a _
def va(T:aF)(aK:O Nat)(dw:O aI)(w:J)(v:aa)(w':J):Prop:=
 ∃ao:aF,bU w' ao/\bD T ao w w' 60/\ao.E=T.E/\ao.G=T.G/\
  ((v=.int .i64 2/\b4 T<2*T.aG+3/\ao=T)\/
   (v=.int .i64 0/\2*T.aG+3<=b4 T/\(∃pages,b4 T<=b4 ao+(2*T.aG+3)/\gj ao pages dw/\pages.Nodup/\(∀no∈pages,no∈aK\/(T.f no||T.g no)=false)/\∀no,ao.f no=true↔(no∈pages\/(T.f no=true/\no∉aK)))/\∀no,T.g no=true->ao.P no=T.P no/\ao.C.view no=T.C.view no)\/
   (v=.int .i64 3/\¬T.C.D.calm 60/\ao.root=T.root/\ao.aG=T.aG/\ao.f=T.f/\∀no,(T.f no||T.g no)=true->ao.P no=T.P no/\ao.C.view no=T.C.view no))
theorem Bw{l:O Nat}(h:∀x,l.count x<=1):l.Nodup:=List.nodup_iff_count.2 h
theorem Gy{w:J}{T:aF}{s:ad}{aK:O Nat}{dw:O aI}{n:aA}{K V D:ad}(h:bU w T)(b8:¬T.C.D.ro)(c9:T.C.D.aT<=900000000)(A:T.aG<12)(b9:aK.Nodup)(aM:∀x∈aK,T.f x=true)(c_:aK.length<=5000)
 (b_:∀ (bE k:Nat->Prop) (w1:J) (aQ:de),c2 w1 (T.cj bE k) aQ->bD T (T.cj bE k) w w1 0->2*T.aG+3<=b4 T->aQ.made=[]->aQ.left=[]->aJ aj 187 #[.pointer (some aQ.cb),s,cZ n K V D] w1 (lN (T.cj bE k) aQ aK dw w1)):
 aJ aj 131 #[.pointer (some T.a8),s,cZ n K V D] w (va T aK dw w):=by
 have da:=h.s.bp;refine ae.Dq (some T.a8) s n.leaf K V D w _ ?_;(delta ae.qZ aD bW an av st Y aS r1 oZ gm;dsimp only);refine a_ (vs:=dF n K V D) rfl λw1 al be db=>a_ (vs:=[(0:Int)]) rfl λai bf bg dc=>aY ?_;have am:Ext ai ai.drew:=cH _;obtain⟨bh,ca⟩:∃bh,bh=ai.drew:=⟨_,rfl⟩;rw[←ca]at am⊢;have bi:=(be.trans bg).trans am;have p:=h.ext bi;obtain⟨ev,cc⟩:∃ev,ev=w1.heap.size:=⟨_,rfl⟩;rw[←cc]at bf⊢;refine⟨λ_=>False,_,rfl,id,_,p.cells.2.1,_,rfl,id,_,p.cells.2.2.2.2,(xA p.s).use ?_⟩;rintro _ aN ⟨rfl,ap⟩;have aO:=bi.trans ap;have Z:=(bf.ext am).ext ap;have cd:((T.n:Int)-ey (λi=>T.f i||T.g i) T.n)=(b4 T:Nat):=by
  have:=mO (λi=>T.f i||T.g i) T.n;unfold b4;omega
 have ce:IntKind.wrap .i64 (IntKind.wrap .i64 (2*(T.aG:Int))+3)=((2*T.aG+3:Nat):Int):=by
  rw[bw (n:=2*(T.aG:Int)) I I,bw I I];omega
 rw[cd,ce];refine⟨_,rfl,ap,λaq=>?_,λaq=>?_⟩
 .have aq:((b4 T:Nat):Int)<((2*T.aG+3:Nat):Int):=ck aq
  obtain⟨H,L⟩:=ek Z (i:=0) (by simp);have cf:=dJ aN ev 0 (2:Int);have cg:=ej Z (i:=0) (2:Int);have bj:=Ext.cx aO cf I;exact⟨H,L,aY ⟨2,cg.cell,T,h.ext bj,(bD.ext T bj).mono I,rfl,rfl,.inl ⟨rfl,I,rfl⟩⟩⟩
 have bk:2*T.aG+3<=b4 T:=by
  have:¬((b4 T:Nat):Int)<((2*T.aG+3:Nat):Int):=cG aq;omega
 refine a_ (vs:=[.pointer (some T.a8),(),()]) rfl λch bl ci dd=>a_ (vs:=[.pointer none]) rfl λbm aP bn df=>?_;obtain⟨cb,bo⟩:∃cb,cb=aN.heap.size:=⟨_,rfl⟩;obtain⟨eI,bq⟩:∃eI,eI=ch.heap.size:=⟨_,rfl⟩;rw[←bo]at bl⊢;rw[←bq]at aP⊢;obtain⟨H,L⟩:=ek aP (i:=0) (by simp);have ar:=dJ bm eI 0 (.pointer (some cb));have aR:=ej aP (i:=0) (.pointer (some cb));refine⟨H,L,aY ?_⟩;obtain⟨M,cl⟩:∃M,M=bm.setCell eI (.pointer (some cb)):=⟨_,rfl⟩;rw[←cl]at ar aR⊢;have dg:=aO.size;have dh:=ar.size;have aU:Ext aN M:=Ext.cx (ci.trans bn) ar I;have br:=aO.trans aU;have bs:=Z.ext aU;have bt:=(bl.ext bn).ag ar I;have cm:=((al.ext bg).ext am).ext (ap.trans aU);obtain⟨bE,aW⟩:∃bE,bE=λq=>T.E q\/q=ev:=⟨_,rfl⟩;obtain⟨k,aX⟩:∃k,k=λq=>T.G q\/q=cb:=⟨_,rfl⟩;have aZ:∀q,bE q->T.E q\/q=ev:=λq c=>by rw[aW]at c;exact c
 have au:∀q,k q->T.G q\/q=cb:=λq c=>by rw[aX]at c;exact c
 have bv:∀q,T.E q->bE q:=λq c=>by rw[aW];exact .inl c
 have co:∀q,T.G q->k q:=λq c=>by rw[aX];exact .inl c
 have a0:bE ev:=by rw[aW];exact .inr rfl
 have cp:k cb:=by rw[aX];exact .inr rfl
 have di:=bs.lt;have dj:=bt.lt;have bz:bU M (T.cj bE k):=h.grow (W:=λ_=>False) br (λ_ h=>h.elim) (λq c=>(aZ q c).imp id λe=>.inr ⟨I,I⟩) (λq c=>.inr ((au q c).imp id λe=>⟨I,I⟩)) λq c hg=>by
  rcases aZ q c with d|d<;>rcases au q hg with o|o
  .exact(h.dA q d).2.2 o
  .have:=h.lt (q:=q) (.inr (.inr (.inr (.inl d))));omega
  .have:=h.lt (q:=q) (.inr (.inr (.inr (.inr o))));omega
  .have:=Z.lt;omega
 have bA:bD T (T.cj bE k) w M 0:=(bD.refl T w).step (W:=λ_=>False) br (λ_ h=>h.elim) (λq c=>(aZ q c).imp id λe=>.inr I) λq c=>(au q c).imp id λe=>by omega
 have cq:c2 M (T.cj bE k) ⟨cb,bu,bu,[],[]⟩:=⟨bz,bt,aV.none _ _ _,aV.none _ _ _,cp,λq c=>(fZ q c).elim,λq c=>(fZ q c).elim,b8⟩;have cr:=b_ bE k M _ cq bA bk rfl rfl;obtain⟨bH,aQ,a6,ba⟩:=bx cm;refine⟨_,aR.cell,_,bH,K,aQ,V,a6,D,ba,cr.use ?_⟩;rintro v Q ⟨bL,z,m,l,bB,j,cs⟩;have aa:bL.E ev:=by rw[j.E];exact a0
 have aw:=bs.ag j.to.ag (bz.jY a0);have ct:¬(T.cj bE k).N eI:=by
  have dl:cb<eI:=by rw[bo,bq];omega
  rintro(c|c|c|c)
  .have:=h.lt (q:=eI) (.inl c);omega
  .have:=h.lt (q:=eI) (.inr (.inl c));omega
  .have:=h.lt (q:=eI) (.inr (.inr (.inl c)));omega
  .rcases au eI c with d|d
   .have:=h.lt (q:=eI) (.inr (.inr (.inr (.inr d))));omega
   .omega
 have bC:=aR.ag j.to.ag ct;have ax:z.cb=cb:=j.cb;have dm:bL.a8=T.a8:=j.to.a8;have ay:z.made=m:=j.made;have az:z.left=l:=j.left;have a1:eI≠ev:=by have:=Z.lt;omega
 have bF:bD T bL w Q 60:=(bA.trans j.to).mono I
 have fin:∀ (w':J) (ao:aF),bU w' ao->bD T ao w w' 60->ao.E=bE->(∀q,T.G q->ao.G q)->bU w' (ao.cj T.E T.G)/\bD T (ao.cj T.E T.G) w w' 60:=by
  intro w' ao hc ht bG bI;exact⟨hc.grow (W:=λ_=>False) (af.refl _ _) (λ_ h=>h.elim) (λq c=>.inl (by rw[bG];exact bv q c)) (λq c=>.inr (.inl (bI q c))) λq c=>(h.dA q c).2.2,
   ht.step (W:=λ_=>False) (af.refl _ _) (λ_ h=>h.elim) (λq c=>.inl (by rw[bG];exact bv q c)) λq c=>.inl (bI q c)⟩
 have bJ:∀q,T.G q->bL.G q:=λq c=>j.G q (co q c);have dn:=(be).size;have a2:∀ (w0:J) (ao:aF) (c':de) (x:Int),c2 w0 ao c'->bD T ao w w0 60->ao.E ev->c2 (w0.setCell ev x) ao c'/\bD T ao w (w0.setCell ev x) 60:=λw0 ao c' x hc ht he=>
  ⟨hc.Bs (dJ w0 ev 0 _) λq e=>.inl (by rw[e];exact he),ht.step (E:=ao.E) (G:=ao.G) (dJ w0 ev 0 _) (λq e a3=>I) (λq c=>.inl c) λq c=>.inl c⟩
 have dp:m.length<=1600:=by
  have:=j.room;have:b4 (T.cj bE k)<=T.n:=by unfold b4;exact Nat.sub_le _ _
  omega
 have cv:(∃a b:Int,v=.tuple #[a,b,(3:Int)]/\¬T.C.D.calm 60)\/(∃ (root A:Nat) (pages:O Nat),v=.tuple #[root,A,(0:Int)]/\((A=0/\root=0/\pages=[]/\dw=[])\/ep bL.P A none none root pages dw)/\(pages++l).Perm (m++aK)/\A<=12/\m.length<=2*T.aG+3):=by
  rcases cs with ⟨rfl,d,o,a4⟩|⟨root,A,pages,rfl,d,o,p,R,a4⟩|⟨a,b,rfl,a5⟩
  .exact .inr ⟨0,0,[],rfl,.inl ⟨rfl,rfl,rfl,d⟩,o,I,a4⟩
  .have R:A<=T.aG+1:=R
   exact .inr ⟨root,A,pages,rfl,.inr d,o,I,a4⟩
  .exact .inl ⟨a,b,rfl,a5⟩
 rcases cv with ⟨a,b,rfl,a5⟩|⟨root,r,pages,rfl,cw,bK,cy,dq⟩
 .
  obtain⟨H,L⟩:=ek aw (i:=0) (by simp);have B:=ej aw (i:=0) (3:Int);obtain⟨aC,aE⟩:=a2 Q bL z 3 bB bF aa;have ab:=bC.ag (dJ Q ev 0 (3:Int)) a1;refine⟨a,b,3,rfl,H,L,aY ⟨3,B.cell,λ_=>⟨3,B.cell,?_⟩,λhx=>(by cases hx)⟩⟩;obtain⟨cz,cB⟩:=ek B (i:=0) (by simp);have a7:=ej B (i:=0) (3:Int);obtain⟨bM,bO⟩:=a2 _ bL z 3 aC aE aa;have a9:=ab.ag (dJ _ ev 0 (3:Int)) a1;refine⟨cz,cB,aY (ae.zy ev eI _ _ ?_)⟩;generalize dr:(Q.setCell ev (3:Int)).setCell ev (3:Int)=bP at a7 bM a9 bO⊢;(delta ae.pt aD an r1 gm;dsimp only);have S:Ext bP bP.drew:=cH _;have u:=bM.ext S;have ac:=Bp u u.ma.src (λq c=>(u.hK q c).1) (l:=z.made) (λx hx=>by rw[ay]at hx;rw[j.f];simp[hx]) (by rw[ay];exact j.b1) (by rw[ay];omega);rw[ax]at ac;have ah:=u.cells.2.1;rw[ax]at ah;refine⟨3,a7.cell,λ_=>aY ⟨id,_,a9.drew.cell,id,_,a9.drew.cell,_,rfl,id,z.ma,ah,ac.use ?_⟩,λhx=>(by cases hx)⟩;rintro _ bQ ⟨rfl,bN,F,hg⟩;rw[ay]at hg;have cC:=(a7.ext S).ag hg.to.ag (u.t.jY aa);have cD:bD T bN w bQ 60:=((bO.trans (bD.ext bL S)).trans hg.to).mono I;obtain⟨f1,f2⟩:=fin bQ bN F.t cD (by rw[hg.E];exact j.E) λq c=>by rw[hg.G];exact bJ q c
  refine⟨rfl,3,cC.cell,_,f1,f2,rfl,rfl,.inr (.inr ⟨rfl,a5,hg.root.trans j.root,hg.aG.trans j.aG,?_,λno ak=>?_⟩)⟩
  .funext no
   show bN.f no=T.f no;rw[hg.f,j.f];by_cases y:no∈m
   .have:=(j.iY no y).1
    have e:(T.cj bE k).f no=T.f no:=rfl;rw[e]at this⊢
    cases bb:T.f no
    .simp[y]
    .rw[bb]at this;cases this
   .simp[y];rfl
  .have y:no∉m:=λy=>by
    have:=(j.iY no y).1;have e:((T.cj bE k).f no||(T.cj bE k).g no)=(T.f no||T.g no):=rfl;rw[e,ak]at this;cases this
   have d:=hg.dX no (.inl y);have o:=j.dX no ak;exact⟨d.1.trans o.1,d.2.trans o.2⟩
 .
  have X:∀x,pages.count x+l.count x=m.count x+aK.count x:=λx=>by
   have:=mT.1 bK x;simpa only[m9] using this
  have aH:∀x,m.count x+aK.count x<=1:=λx=>by
   have d:=List.nodup_iff_count.1 j.b1 x;have o:=List.nodup_iff_count.1 b9 x;rcases m8 (m.count x) with p|p
   .omega
   .rcases m8 (aK.count x) with R|R
    .omega
    .have y:=jj.1 p
     have cE:=jj.1 R;have:=(j.iY x y).1;have e:((T.cj bE k).f x||(T.cj bE k).g x)=(T.f x||T.g x):=rfl;rw[e,aM x cE]at this;cases this
  have hlen:pages.length+l.length=m.length+aK.length:=by
   have:=bK.length_eq;simpa only[cn] using this
  have cF:∀x∈l,bL.f x=true:=λx hx=>by
   have d:=jj.2 hx;have o:=X x;rw[j.f];rcases m8 (m.count x) with p|p
   .have:x∈aK:=jj.1 I
    have e:(T.cj bE k).f x=T.f x:=rfl;rw[e,aM x this];rfl
   .have:x∈m:=jj.1 p
    simp[this]
  have cI:l.Nodup:=Bw λx=>by have:=X x;have:=aH x;omega
  obtain⟨H,L⟩:=ek aw (i:=0) (by simp);have B:=ej aw (i:=0) (0:Int);obtain⟨aC,aE⟩:=a2 Q bL z 0 bB bF aa;have ab:=bC.ag (dJ Q ev 0 (0:Int)) a1;refine⟨_,_,0,rfl,H,L,aY ⟨0,B.cell,λhx=>(by cases hx),λ_=>aY ?_⟩⟩;generalize ds:Q.setCell ev (0:Int)=bR at B aC ab aE⊢;have S:Ext bR bR.drew:=cH _;have u:=aC.ext S;have ac:=Bp u u.fV.src (λq c=>(u.j1 q c).1) (l:=z.left) (λx hx=>cF x (by rw[az]at hx;exact hx)) (by rw[az];exact cI) (by rw[az];omega);rw[ax]at ac;have ah:=u.cells.2.2;rw[ax]at ah;refine⟨id,_,ab.drew.cell,id,_,ab.drew.cell,_,rfl,id,z.fV,ah,ac.use ?_⟩;rintro _ U ⟨rfl,bN,F,hg⟩;rw[az]at hg;have cJ:=(B.ext S).ag hg.to.ag (u.t.jY aa);have bS:bD T bN w U 60:=((aE.trans (bD.ext bL S)).trans hg.to).mono I;have bc:bN.a8=T.a8:=bS.a8;have bT:bN.E=bE:=by rw[hg.E];exact j.E
  have cK:bN.E ev:=by rw[bT];exact a0
  have bV:Var U T.a8 (k1 bN) 243:=by rw[←bc];exact F.t.t
  obtain⟨b7,cA⟩:=ek bV (i:=3) (by simp[k1]);have bX:=ej bV (i:=3) root;have cL:=dJ U T.a8 3 root;obtain⟨cM,cN⟩:=ek bX (i:=4) (by simp[k1]);have bY:=ej bX (i:=4) r;have cO:=dJ (U.setCell ⟨T.a8,3,none⟩ root) T.a8 4 r;refine⟨rfl,_,rfl,by rw[aB];exact b7,by rw[aB];exact cA,aY ⟨_,rfl,by rw[aB,aB];exact cM,by rw[aB,aB];exact cN,aY ?_⟩⟩;rw[aB,aB,cQ,cQ];have bd:af (λq=>q=T.a8) U ((U.setCell ⟨T.a8,3,none⟩ root).setCell ⟨T.a8,4,none⟩ r):=cL.trans cO;generalize dt:(U.setCell ⟨T.a8,3,none⟩ root).setCell ⟨T.a8,4,none⟩ r=aL at bY bd⊢;have cP:∀x∈pages,x∉l:=λx hx a3=>by
   have d:=jj.2 hx;have o:=jj.2 a3;have:=X x;have:=aH x;omega
  have bZ:(r=0/\root=0/\pages=[]/\dw=[])\/(ep bN.P r none none root pages dw/\root∈pages):=cw.imp id λcR=>cR.agree λx hx=>((hg.dX x (.inl (cP x hx))).1).symm;have cS:root<bN.n:=by
   rcases bZ with ⟨_,d,_⟩|⟨d,_⟩
   .have:=F.t.s.b2;omega
   .obtain⟨b1,_,o,_⟩:=d.ix
    exact(F.t.ez _ _ o).1
  have cT:Var aL bN.a8 (k1 (bN.mU root r)) 243:=by rw[bc];exact bY
  obtain⟨cU,cV⟩:=F.t.Gx cT (by rw[bc];exact bd) cS cy;have cW:ev≠T.a8:=λe=>by have:=h.lt (q:=T.a8) (.inr (.inl rfl));omega
  have b0:=cJ.ag bd cW;obtain⟨cX,cY⟩:=ek b0 (i:=0) (by simp);have b3:=ej b0 (i:=0) (0:Int);have b5:=dJ aL ev 0 (0:Int);refine⟨cX,cY,aY (ae.zy ev eI _ _ ?_)⟩;(delta ae.pt aD an r1 gm;dsimp only);refine⟨0,b3.cell,λhx=>(by cases hx),λ_=>⟨0,b3.cell,?_⟩⟩;have c0:bU (aL.setCell ev (0:Int)) (bN.mU root r):=cU.grow (E:=bN.E) (G:=bN.G) b5 (λq e _=>.inl (by rw[e];exact cK)) (λq c=>.inl c) (λq c=>.inr (.inl c)) λq c=>(F.t.dA q c).2.2;have c1:bD T (bN.mU root r) w (aL.setCell ev (0:Int)) 60:=((bS.trans cV).mono I).step (E:=bN.E) (G:=bN.G) b5 (λq e a3=>I) (λq c=>.inl c) λq c=>.inl c;obtain⟨f1,f2⟩:=fin _ _ c0 c1 bT λq c=>by
   show bN.G q;rw[hg.G];exact bJ q c
  refine⟨_,f1,f2,rfl,rfl,.inr (.inl ⟨rfl,bk,⟨pages,?_,?_,Bw λx=>by have:=X x;have:=aH x;omega,λno hx=>?_,λno=>?_⟩,λno ak=>?_⟩)⟩
  .have d:b4 bL+m.length=b4 T:=j.room
   have o:b4 bL<=b4 (bN.mU root r):=by
    show bL.n-_<=bN.n-ey (λi=>bN.f i||bN.g i) bN.n;rw[hg.to.n];have:=Bv (s:=λi=>bN.f i||bN.g i) (t:=λi=>bL.f i||bL.g i) (n:=bL.n) λi hi=>by
     rw[hg.f,hg.to.g]at hi;rw[ie,dk]at hi;rw[ie];exact hi.imp And.left id
    omega
   show b4 T<=b4 (bN.mU root r)+_;omega
  .rcases bZ with ⟨d,o,p,R⟩|⟨d,_⟩
   .exact .inl ⟨d,o,p,R⟩
   .exact .inr d
  .have d:=jj.2 hx
   have o:=X no;rcases m8 (aK.count no) with p|p
   .have y:no∈m:=jj.1 I
    exact .inr (j.iY no y).1
   .exact .inl (jj.1 p)
  .show bN.f no=true↔_
   rw[hg.f,j.f];have e:(T.cj bE k).f no=T.f no:=rfl;rw[e];have du:=X no;have F:=aH no;have b6:no∈m↔0<m.count no:=jj.symm;have al:no∈aK↔0<aK.count no:=jj.symm;have c3:no∈l↔0<l.count no:=jj.symm;have c4:no∈pages↔0<pages.count no:=jj.symm;have c5:0<aK.count no->T.f no=true:=λh=>aM no (al.2 h);have c6:0<m.count no->T.f no=false:=λh=>by
    have:=(j.iY no (b6.2 h)).1;have e:((T.cj bE k).f no||(T.cj bE k).g no)=(T.f no||T.g no):=rfl;rw[e]at this
    cases bb:T.f no
    .rfl
    .rw[bb]at this;cases this
   rw[dk,ie,cu,ib,kF,b6,al,c3,c4];constructor
   .rintro⟨d|d,o⟩
    .by_cases p:0<aK.count no
     .left;omega
     .exact .inr ⟨d,p⟩
    .left;omega
   .rintro(d|⟨d,o⟩)
    .refine⟨?_,I⟩
     by_cases p:0<aK.count no
     .exact .inl (c5 p)
     .right;omega
    .refine⟨.inl d,λp=>?_⟩
     have:0<m.count no:=by omega
     rw[c6 this]at d;cases d
  .have c7:(T.f no||T.g no)=true:=by rw[ak];simp
   have c8:bL.g no=true:=by rw[j.to.g];exact ak
   have d:=hg.dX no (.inr c8);have o:=j.dX no c7;exact⟨d.1.trans o.1,d.2.trans o.2⟩
theorem Bx{ks:O Key}{k:Key}{i:Nat}(hs:ks.Pairwise bz)(f:cw ks k<=i)(hi:i<ks.length)(g:ks[cw ks k]? ≠some k):bz k ks[i]:=by
 rcases nS.1 (pK hs f hi) with a|a
 .exact a
 .exfalso
  rcases ec (cw ks k) i with b|b
  .have c:cw ks k<ks.length:=by omega
   have h:=pK hs (bk _) c;have d:=kI.1 hs _ _ c hi b;rw[←a]at d;exact h d
  .have e:i=cw ks k:=by omega
   apply g;subst e;rw[dr hi,←a]
theorem xR{n:aA}(h:gr n){i:Nat}(hi:i<=n.keys.length):∃a b c d:O Key,n.keys=a++b/\n.vals=c++d/\a.length=i/\c.length=i/\b.length=d.length/\n.keys.take i=a/\n.keys.drop i=b/\n.vals.take i=c/\n.vals.drop i=d:=by
 have e:=h.len;refine⟨n.keys.take i,n.keys.drop i,n.vals.take i,n.vals.drop i,(gF i _).symm,(gF i _).symm,?_,?_,?_,rfl,rfl,rfl,rfl⟩
 .rw[cE];omega
 .rw[cE];omega
 .rw[ed,ed];omega
def jE(k v:Key):Nat:=2+k.length+v.length
theorem p3{n:aA}(h:n.leaf=true):bn n=1+(List.zipWith jE n.keys n.vals).sum:=by
 unfold bn;rw[if_pos h,kt h];rfl
theorem Gz{n:aA}{k v:Key}(h:gr n)(E:cq k)(F:v.length<=24):gr (gC n k v)/\(gC n k v).dh=fR n.dh k v/\bn (gC n k v)<=bn n+50/\(gC n k v).keys≠ []/\n.keys.length<=(gC n k v).keys.length/\(∀s∈(gC n k v).keys,s=k\/s∈n.keys):=by
 have hlen:=h.len;have G:=pJ n.keys k;have M:n.dh=n.keys.zip n.vals:=rfl;have H:=h.eE;have J:∀ (j:Nat) (m:j<n.keys.length),j<cw n.keys k->bz n.keys[j] k:=λj m p=>nU p m;have K:n.keys[cw n.keys k]? ≠some k->∀ (j:Nat) (m:j<n.keys.length),cw n.keys k<=j->bz k n.keys[j]:=λhe j m p=>Bx H p m he;rw[M,Et h.eE];unfold gC gB;generalize hi:cw n.keys k=i at G J K⊢;obtain⟨a,b,c,d,g,u,N,O,P,q,r,A,B⟩:=xR h G;have f:n.keys.zip n.vals=a.zip c++b.zip d:=by rw[g,u];exact nT I
 have w:(a.zip c).length=i:=by rw[m3];omega
 by_cases he:n.keys[i]? =some k
 .rw[if_pos (by simpa using he),if_pos he]
  have Q:∃o,b=k::o:=by
   cases b with
   |nil=>rw[g,ij I]at he;simp at he
   |cons y o=>
    rw[g,ij I,N,mX]at he;simp at he;exact⟨o,by rw[he]⟩
  obtain⟨o,rfl⟩:=Q;obtain⟨x,l,rfl⟩:∃x l,d=x::l:=by
   cases d with
   |nil=>simp at P
   |cons x l=>exact⟨x,l,rfl⟩
  have L:n.vals.set i v=c++v::l:=by
   rw[u,List.set_append_right _ _ I,O,mX];rfl
  refine⟨⟨⟨h.ok,h.eE⟩,h.leaf,by simp[hlen],h.kids,λz f=>?_⟩,?_,?_,λe=>by have e:n.keys=[]:=e;rw[e]at g;simp at g,bk _,λs hs=>.inr hs⟩
  .rcases l6 f with p|p
   .exact h.vals z p
   .rw[p];exact F
  .show n.keys.zip (n.vals.set i v)=_
   rw[L,f,g,nT I,lH w];have R:(a.zip c++(k::o).zip (x::l)).drop (i+1)=o.zip l:=by
    rw[List.zip_cons_cons,show a.zip c++(k,x)::o.zip l=(a.zip c++ [(k,x)])++o.zip l by simp];exact drop_left' (by simp only[cn,w,ig])
   rw[R];rfl
  .rw[p3 h.leaf,p3 (n:={n with vals:=n.vals.set i v}) h.leaf]
   show 1+(List.zipWith jE n.keys (n.vals.set i v)).sum<=_;rw[L,g,u,oy I,oy I,kH,kH,List.zipWith_cons_cons,List.zipWith_cons_cons,qi,qi];unfold jE;omega
 .rw[if_neg (by simpa using he),if_neg he]
  have S:=K he;refine⟨⟨⟨λz f=>?_,?_⟩,h.leaf,?_,h.kids,λz f=>?_⟩,?_,?_,λe=>?_,?_,λs hs=>?_⟩
  .have f:z∈n.keys.take i++ [k]++n.keys.drop i:=f
   simp only[cD,fi]at f;rcases f with (f|rfl)|f
   .exact h.ok z (fu f)
   .exact E
   .exact h.ok z (ft f)
  .show(n.keys.take i++ [k]++n.keys.drop i).Pairwise bz
   rw[q,r];have T:(a++b).Pairwise bz:=by rw[←g];exact H
   obtain⟨C,D,U⟩:=l4.1 T;have V:∀x∈a,bz x k:=λx hx=>by
    obtain⟨j,m,rfl⟩:=fa hx;have:=J j (by rw[g,cn];omega) I;simp only[g,m6 m]at this;exact this
   have W:∀y∈b,bz k y:=λy t=>by
    obtain⟨j,m,rfl⟩:=fa t;have:=S (i+j) (by rw[g,cn];omega) I;have e:(a++b)[i+j]'(by rw[cn];omega)=b[j]:=by
     rw[qk I];congr 1;omega
    simp only[g,e]at this;exact this
   rw[cy];refine l4.2 ⟨C,?_,λx hx y t=>?_⟩
   .exact jg.2 ⟨W,D⟩
   .rcases cN.1 t with rfl|t
    .exact V x hx
    .exact U x hx y t
  .show(n.vals.take i++ [v]++n.vals.drop i).length=(n.keys.take i++ [k]++n.keys.drop i).length
   rw[q,r,A,B];simp only[cn,ig];omega
  .have f:z∈n.vals.take i++ [v]++n.vals.drop i:=f
   simp only[cD,fi]at f;rcases f with (f|rfl)|f
   .exact h.vals z (fu f)
   .exact F
   .exact h.vals z (ft f)
  .show(n.keys.take i++ [k]++n.keys.drop i).zip (n.vals.take i++ [v]++n.vals.drop i)=_
   rw[q,r,A,B,f,lH w,drop_left' w,cy,cy,nT I];rfl
  .rw[p3 h.leaf,p3 (n:={n with keys:=n.keys.take i++ [k]++n.keys.drop i,vals:=n.vals.take i++ [v]++n.vals.drop i}) h.leaf]
   show 1+(List.zipWith jE (n.keys.take i++ [k]++n.keys.drop i) (n.vals.take i++ [v]++n.vals.drop i)).sum<=_;have C:(List.zipWith jE (a++ [k]++b) (c++ [v]++d)).sum=(List.zipWith jE a c).sum+(jE k v+(List.zipWith jE b d).sum):=by
    rw[cy,cy,oy I,kH];rfl
   have D:(List.zipWith jE (a++b) (c++d)).sum=(List.zipWith jE a c).sum+(List.zipWith jE b d).sum:=by
    rw[oy I,kH]
   rw[q,r,A,B,g,u,C,D];have:=E.2;unfold jE;omega
  .have e:n.keys.take i++ [k]++n.keys.drop i=[]:=e
   simp at e
  .show n.keys.length<=(n.keys.take i++ [k]++n.keys.drop i).length
   rw[q,r,g];simp only[cn,ig];omega
  .have hs:s∈n.keys.take i++ [k]++n.keys.drop i:=hs
   simp only[cD,fi]at hs;rcases hs with (hs|rfl)|hs
   .exact .inr (fu hs)
   .exact .inl rfl
   .exact .inr (ft hs)
def By(T:aF)(aK:O Nat)(dw:O aI)(w:J)(v:aa)(w':J):Prop:=
 ∃ao:aF,bU w' ao/\bD T ao w w' 100/\ao.E=T.E/\ao.G=T.G/\
  ((v=.int .i64 2/\b4 T<2*T.aG+3/\ao=T)\/
   (v=.int .i64 0/\2*T.aG+3<=b4 T/\(∃pages,b4 T<=b4 ao+(2*T.aG+3)/\gj ao pages dw/\pages.Nodup/\(∀no∈pages,no∈aK\/(T.f no||T.g no)=false)/\∀no,ao.f no=true↔(no∈pages\/(T.f no=true/\no∉aK)))/\∀no,T.g no=true->ao.P no=T.P no/\ao.C.view no=T.C.view no)\/
   (v=.int .i64 3/\¬T.C.D.calm 100/\ao.root=T.root/\ao.aG=T.aG/\ao.f=T.f/\∀no,(T.f no||T.g no)=true->ao.P no=T.P no/\ao.C.view no=T.C.view no))
theorem va.ag{T:aF}{aE:bO}{aK:O Nat}{dw:O aI}{w w1 w':J}{v:aa}{k:Nat}(h:va (T.bm aE T.P) aK dw w1 v w')(e:bD T (T.bm aE T.P) w w1 k)(t:k<=40)(f:∀j,aE.view j=T.C.view j)(i:2*T.aG+3<=b4 T):By T aK dw w v w':=by
 obtain⟨ao,l,m,n,o,p⟩:=h;refine⟨ao,l,(e.trans m).mono I,n,o,?_⟩;have q:b4 (T.bm aE T.P)=b4 T:=rfl;have r:(T.bm aE T.P).aG=T.aG:=rfl;rcases p with ⟨_,b,_⟩|⟨rfl,b,d,c⟩|⟨rfl,b,d,c,s,g⟩
 .rw[q,r]at b;omega
 .exact .inr (.inl ⟨rfl,i,d,λno a=>⟨(c no a).1,(c no a).2.trans (f no)⟩⟩)
 .exact .inr (.inr ⟨rfl,λhc=>b (e.calm 60 (fK hc I)),d,c,s,λno a=>⟨(g no a).1,(g no a).2.trans (f no)⟩⟩)
theorem mv(w:J)(s:ad):aJ aj 122 #[s] w (λv w'=>v=.bool (decide (1<=s.len/\s.len<=24))/\w=w'):=by
 refine okF (ae.mv s) aw.mv func122 ?_;unfold ae.mv;refine⟨?_,rfl⟩
 congr 1
 rw[fh,dk,cu,cu,cu];omega
theorem xS{T:aF}{w:J}{pages:O Nat}{L:O aI}{k:Key}(h:bU w T)(m:gj T pages L):∃steps,mS T.P k T.aG T.root steps/\
 ((steps=[]/\T.aG=0/\pages=[]/\L=[])\/(∃ (a:Nat) (b2:aA) (eR dz:au Key) (b:O (Nat×aA×Nat)) (f:O Nat) (c d:O aI),steps=b++ [(a,b2,0)]/\Ctx T.P k T.aG 1 eR dz b f c d/\T.P a=some b2/\gr b2/\b2.within eR dz/\b2.keys≠ []/\(b≠ []->2<=b2.keys.length)/\e7 eR dz k/\
   pages.Perm (a::f)/\L=c++(b2.dh++d)/\∀u,Loc k u->u L=c++(u b2.dh++d))):=by
 rcases m with ⟨i,y,n,o⟩|g
 .exact⟨[],by rw[i];rfl,.inl ⟨rfl,i,n,o⟩⟩
 .cases j:T.aG with
  |zero=>rw[j]at g;exact g.elim
  |succ t=>
   rw[j]at g;obtain⟨rest,b,a,b2,eR,dz,f,c,d,r1,aD,cl,aS,dN,p,q,r,s,l,v,x⟩:=Ctx.down (P:=T.P) (k:=k) (top:=t+1) (bB:=L) .top g (λh=>absurd rfl h) ⟨λ_ e=>(by cases e),λ_ e=>(by cases e)⟩ (by simp) (λu _=>by simp);rw[ke]at aD;rw[fk]at l;exact⟨rest,r1,.inr ⟨a,b2,eR,dz,b,f,c,d,aD,cl,aS,dN,p,q,r,s,l,v,x⟩⟩
theorem gj.low{T:aF}{pages:O Nat}{L:O aI}(h:gj T pages L)(f:L.length<4096):T.aG<12/\pages.length<=L.length:=by
 rcases h with ⟨a,_,b,_⟩|c
 .rw[a,b];exact⟨I,cO _⟩
 .obtain⟨d,g,e⟩:=c.pages
  refine⟨?_,d⟩;rcases ec T.aG 12 with h|h
  .exact h
  .have i:=e I
   have j:2^12<=2^T.aG:=rX (by decide) h;have k:(2:Nat)^12=4096:=by decide
   omega
theorem Bz{w1:J}{T:aF}{aE:bO}{pages:O Nat}{L dw:O aI}{k:Key}{steps:O (Nat×aA×Nat)}{s:ad}{a:O dc}{b2 b:aA}{K V D:ad}(h:bU w1 (T.bm aE T.P))(N:¬aE.D.ro)(Q:gj T pages L)(R:L.length<4096)(dM:pages.Nodup)(hf:∀x∈pages,T.f x=true)(m:aE.D.aT<=900000000)
 (g:a.map dc.st=steps) (o:jD (λq=>¬(T.bm aE T.P).M q) w1 s a) (S:bF (λq=>¬(T.bm aE T.P).M q) w1 b K V D) (p:gr b) (U:(steps=[]/\T.aG=0/\pages=[]/\b.keys≠ []/\bn b<=232/\b.dh=dw)\/(∃ (d:Nat) (eR dz:au Key) (c:O (Nat×aA×Nat)) (i:O Nat) (j l:O aI),steps=c++ [(d,b2,0)]/\Ctx T.P k T.aG 1 eR dz c i j l/\b.within eR dz/\(c≠ []->b.keys≠ [])/\pages.Perm (d::i)/\dw=j++(b.dh++l)/\bn b<=282)):
 aJ aj 131 #[.pointer (some T.a8),s,cZ b K V D] w1 (va (T.bm aE T.P) pages dw w1):=by
 obtain⟨r,ao⟩:=Q.low R;refine Gy h N m r dM hf I λbE t ai a6 u v W w y=>?_;have X:s.len=a.length:=by
  have:=o.own.1;rw[gu _ (mR a)]at this;omega
 have z:bF (λq=>¬((T.bm aE T.P).cj bE t).M q) ai b K V D:=(v.b1 (lo:=0) (S.aX λq _ n=>⟨cO _,n⟩)).aX λq _ n=>n.2;rcases U with ⟨Y,ap,Z,aa,ab,ac⟩|⟨d,eR,dz,c,i,j,l,C,E,ae,af,F,ag,ah⟩
 .subst Y Z
  have ak:a=[]:=by simpa using g
  exact Gw (by rw[X,ak];rfl) u z m (by
   have e:b4 ((T.bm aE T.P).cj bE t)=b4 (T.bm aE T.P):=rfl;omega) (by rw[w];simp) y p aa ab ac
 .have hlen:a.length=c.length+1:=by
   have:=congrArg List.length g;rw[C,c8,cn,ig]at this;exact this
  have aq:1+c.length=T.aG:=E.eo;have al:=o.to v;have G:(a.take (a.length-1)).map dc.st=c/\(a[a.length-1]'I).no=d:=by
   rw[C]at g;have am:(a.take (a.length-1)).map dc.st=(c++ [(d,b2,0)]).take (a.length-1):=by rw[←g,k_]
   refine⟨by rw[am];exact lH I,?_⟩;have H:(a.map dc.st)[a.length-1]? =some (d,b2,0):=by
    rw[g,ij I];have:a.length-1-c.length=0:=by omega
    rw[this];rfl
   rw[m5,dr I]at H;have an:=Option.some.inj H;exact congrArg Prod.fst an
  refine Gv (k:=k) (dd:=i) (A:=j) (B:=l) (M:=b.dh) (lo:=eR) (hi:=dz) u al z I (by show a.length=T.aG;omega) r m W (by rw[w];simp) (by rw[y];simp) ?_ ⟨p,ae,rfl,rfl⟩ ag.symm ?_ ah (λh=>af λe=>?_) λx hx=>?_
  .rw[G.1]
   have:a.length=T.aG:=by omega
   rw[this];exact E
  .rw[G.2];exact F
  .rw[e]at hlen;simp at hlen;omega
  .exact hf x (F.mem_iff.2 (iJ _ hx))
theorem jD.ext'{B C:Nat->Prop}{w w':J}{s:ad}{l:O dc}(h:jD B w s l)(hx:Ext w w')(a:∀q,B q->C q):jD C w' s l:=
 ⟨h.own.ext hx,λq b=>a q (h.oc q b),λx c=>((h.b1 x c).ext hx).aX λq _ d=>a q d⟩
theorem p4{a:O dc}{b:O (Nat×aA×Nat)}{c:Nat}{bp:aA}(d:a.map dc.st=b++ [(c,bp,0)]):∃h:0<a.length,(a[a.length-1]'I).n=bp:=by
 have hlen:a.length=b.length+1:=by
  have:=congrArg List.length d;rw[c8,cn,ig]at this;exact this
 refine⟨I,?_⟩;have e:(a.map dc.st)[a.length-1]? =some (c,bp,0):=by
  rw[d,ij I];have:a.length-1-b.length=0:=by omega
  rw[this];rfl
 rw[m5,dr I]at e;exact congrArg (λx=>x.2.1) (Option.some.inj e)
theorem GA{w:J}{T:aF}{pages:O Nat}{L:O aI}{tk cF:ad}{key val:Key}(h:bU w T)(bb:¬T.C.D.ro)(R:gj T pages L)(az:L.length<4096)(dM:pages.Nodup)(hf:∀x∈pages,T.f x=true)(b5:T.C.D.aT<=800000000)
 (S:Src 1 w tk (ax key)) (U:∀q,ay tk q->q<w.heap.size/\¬T.M q) (aB:Src 1 w cF (ax val)) (bc:∀q,ay cF q->q<w.heap.size/\¬T.M q):
 aJ aj 73 #[.pointer (some T.a8),tk,cF] w (λv w'=>(v=.int .i64 1/\¬(cq key/\val.length<=24)/\w=w')\/(cq key/\val.length<=24/\By T pages (fR L key val) w v w')):=by
 have be:=len8 S;have aC:=len8 aB;refine okF (ae.tn (some T.a8) tk cF) aw.tn func73 ?_;(delta ae.tn an b6 aD bW av dZ z4 Y aS r1 nv kR;dsimp only);refine cz (λb w'=>b= !(decide (cq key))/\w=w') (λq c=>⟨λh=>(by cases h),λ_=>(mv w tk).use ?_⟩) ?_
 .rintro _ _ ⟨rfl,rfl⟩
  refine⟨_,rfl,c _ _ ⟨?_,rfl⟩⟩;unfold cq;rw[be]
 rintro _ _ ⟨rfl,rfl⟩;refine⟨λd=>.inl ⟨rfl,λhg=>?_,rfl⟩,λd=>?_⟩
 .rw[dO hg.1,aC]at d
  have:¬(val.length:Int)>24:=by have:=hg.2;omega
  simp[this]at d
 have hg:cq key/\val.length<=24:=by
  by_cases j:cq key
  .refine⟨j,?_⟩
   rw[dO j,aC]at d;have:¬(val.length:Int)>24:=by simpa using d
   omega
  .rw[ih j]at d;simp at d
 have b7:=h.s.bp;obtain⟨b8,b9⟩:=R.low az;have aH:Ext w w.drew:=cH w;have hd:=h.ext aH;refine aY ⟨λ_=>False,_,rfl,id,_,hd.cells.2.1,_,rfl,id,_,hd.cells.2.2.2.2,(xA hd.s).use ?_⟩;rintro _ b_ ⟨rfl,aK⟩;have bf:((T.n:Int)-ey (λi=>T.f i||T.g i) T.n)=(b4 T:Nat):=by
  have:=mO (λi=>T.f i||T.g i) T.n;unfold b4;omega
 have bg:IntKind.wrap .i64 (IntKind.wrap .i64 (2*(T.aG:Int))+3)=((2*T.aG+3:Nat):Int):=by
  rw[bw (n:=2*(T.aG:Int)) I I,bw I I];omega
 rw[bf,bg];have p:=aH.trans aK;have W:=h.ext p;refine⟨_,rfl,aK,λd=>.inr ⟨hg.1,hg.2,T,W,(bD.ext T p).mono I,rfl,rfl,.inl ⟨rfl,?_,rfl⟩⟩,λd=>?_⟩
 .have d:((b4 T:Nat):Int)<((2*T.aG+3:Nat):Int):=ck d
  omega
 have bh:2*T.aG+3<=b4 T:=by
  have:¬((b4 T:Nat):Int)<((2*T.aG+3:Nat):Int):=cG d;omega
 obtain⟨steps,aL,aM⟩:=xS (k:=key) W R;refine(xJ W I (S.ext p) (λq c=>⟨e_ (U q c).1 p.size,(U q c).2⟩) aL).use ?_;rintro _ F ⟨aE,X,Z,aN,bi⟩;have z:=((bD.ext T p).trans Z).mono (l:=2*T.aG) I;rcases bi with ⟨s,a,rfl,o,aa⟩|⟨rfl,bj⟩
 rotate_left
 .refine⟨⟨none,0,0⟩,3,rfl,λ_=>.inr ⟨hg.1,hg.2,T.bm aE T.P,X,z.mono I,rfl,rfl,.inr (.inr ⟨rfl,λhc=>bj (fK hc I),rfl,rfl,rfl,λno _=>⟨rfl,aN no⟩⟩)⟩,λhx=>(by cases hx)⟩
 have ca:s.len=a.length:=by
  have:=aa.own.1;rw[gu _ (mR a)]at this;omega
 have cb:=p.size;have cc:a.length=T.aG:=by
  have:=aL.length;rw[←o,c8]at this;exact this
 refine⟨s,0,rfl,λhx=>(by cases hx),λ_=>a_ (vs:=[false,(),(),()]) rfl λce aO bo cf=>⟨aO.cd rfl (fp (b:=true) (K:=bu) (V:=bu) (D:=bu)),rfl,cK aO (us:=dF ⟨true,[],[],[]⟩ bu bu bu) rfl rfl λbq G br cg=>?_⟩⟩;have ab:Ext F bq:=Ext.cx bo br (bk _);obtain⟨gD,bs⟩:∃gD,gD=F.heap.size:=⟨_,rfl⟩;rw[←bs]at G⊢
 obtain⟨b2,m⟩:∃b2:aA,b2=(if ch:0<a.length then (a[a.length-1]'I).n else ⟨true,[],[],[]⟩):=⟨_,rfl⟩;refine kN (λr=>∃ (K V D:ad) (B:Nat->Prop),Ext F r/\Var r gD (dF b2 K V D) 169/\bF B r b2 K V D) (λq c=>⟨λac=>?_,λac=>?_⟩) ?_
 .have af:0<a.length:=by
   have:(s.len:Int)>0:=ck ac;omega
  rw[dif_pos af]at m;have e:IntKind.wrap .i64 ((s.len:Int)-1)=((a.length-1:Nat):Int):=by rw[bw I I];omega
  obtain⟨A,ar,_,_,_,hu⟩:=aa.at (i:=a.length-1) I;have H:=hu.ext ab;rw[e,dm];subst m;refine⟨A,ar,⟨I,I⟩,_,H.aQ,_,H.a6,_,H.ba,_,H.fo,G.cd rfl fp,rfl,cK G (us:=dF (a[a.length-1]'I).n (a[a.length-1]'I).K (a[a.length-1]'I).V (a[a.length-1]'I).D) rfl rfl λbv bz bA ci=>?_⟩;have aP:Ext F bv:=Ext.cx ab bA I;exact c _ ⟨_,_,_,_,aP,bz,hu.b1.ext aP⟩
 .have af:¬0<a.length:=by
   have:¬(s.len:Int)>0:=cG ac;omega
  rw[dif_neg af]at m;subst m;exact c _ ⟨bu,bu,bu,λ_=>True,ab,G,bt.none _ _,bt.none _ _,cM.none _ _⟩
 rintro r ⟨K,V,D,B,Q,bB,bC⟩;have cj:=Q.size;have cm:=Z.ag.size
 have bE:gr b2/\bn b2<=232:=by
  rcases aM with ⟨j,t,u,y⟩|⟨aR,bp,eR,dz,aU,aV,aW,aZ,aD,cl,aS,dN,a0,bG,bH,a1,a2,bI,a3⟩
  .have ah:¬0<a.length:=by
    rw[j]at o;have:a=[]:=by simpa using o
    rw[this];simp
   rw[m,dif_neg ah];exact⟨⟨⟨λ_ h=>(by cases h),List.Pairwise.nil⟩,rfl,rfl,rfl,λ_ h=>(by cases h)⟩,by decide⟩
  .rw[aD]at o
   obtain⟨ai,ak⟩:=p4 o;rw[m,dif_pos ai,ak];exact⟨dN,h.oe _ _ aS⟩
 obtain⟨al,cn⟩:=bE;have co:=(cr.eL (.inl al) I);have cp:∀q,T.N q->q<w.heap.size:=λq c=>h.lt (aF.gd c);have bJ:Src 1 r tk (ax key):=(S.ag z.ag λq c am=>(U q c).2 (aF.gd am)).ext Q;have bK:Src 1 r cF (ax val):=(aB.ag z.ag λq c am=>(bc q c).2 (aF.gd am)).ext Q;obtain⟨d0,d1,d2,d3⟩:=bx bB;refine⟨_,d0,K,d1,V,d2,D,d3,(pr bC al I bJ bK hg.1 hg.2).use ?_⟩;rintro _ bL ⟨dj,dG,cR,rfl,bM,bN⟩;refine⟨_,dj,dG,cR,true,rfl,a_ (vs:=[false,(),(),()]) rfl λcs a4 bO ct=>⟨a4.cd rfl fp,rfl,cK a4 (us:=dF (gC b2 key val) dj dG cR) rfl rfl λa5 bP bQ cu=>⟨λhx=>(by cases hx),λ_=>?_⟩⟩⟩;have a7:Ext bL a5:=Ext.cx bO bQ (bk _);have ap:=(Q.trans bN).trans a7;obtain⟨d0,d1,d2,d3⟩:=bx bP;obtain⟨bl,bd,bR,aq,bS,a9⟩:=Gz al hg.1 hg.2;have bV:aE.D.aT<=900000000:=by
  have:aE.D.aT<=T.C.D.aT+2*T.aG:=z.aT;omega
 have bX:bF (λq=>¬(T.bm aE T.P).M q) a5 (gC b2 key val) dj dG cR:=(bM.ext a7).aX λq _ c bY=>by have:=X.lt bY;omega
 have bZ:=Bz (dw:=fR L key val) (k:=key) (steps:=steps) (b2:=b2) (X.ext ap) (λe=>bb λi=>Z.bT.1▸e i) R az dM hf bV o (aa.ext' ap λq c=>c.2) bX bl (by
  rcases aM with ⟨j,t,u,y⟩|⟨aR,bp,eR,dz,aU,aV,aW,aZ,aD,cl,aS,dN,a0,bG,bH,a1,a2,bI,a3⟩
  .have ah:¬0<a.length:=by omega
   rw[dif_neg ah]at m;refine .inl ⟨j,t,u,aq,?_,?_⟩
   .have:bn b2=1:=by rw[m];rfl
    omega
   .rw[bd,m,y];rfl
  .rw[aD]at o
   obtain⟨ai,ak⟩:=p4 o;rw[dif_pos ai,ak]at m;rw[m]at bd bR aq bS a9⊢;refine .inr ⟨aR,eR,dz,aU,aV,aW,aZ,aD,cl,λs hs=>?_,λ_=>aq,a2,?_,by have:=h.oe _ _ aS;omega⟩
   .rcases a9 s hs with rfl|au
    .exact a1
    .exact a0 s au
   .rw[bd];exact a3 (λL=>fR L key val) (Ei key val))
 refine⟨_,d0,dj,d1,dG,d2,cR,d3,bZ.use ?_⟩;intro v w' b0;have b3:=b0.ag (w:=w) ((z.trans (bD.ext (T.bm aE T.P) ap)).mono (l:=40) I) (bk _) aN bh;obtain⟨ao,j,t,u,y,au⟩:=b3;rcases au with ⟨rfl,E⟩|⟨rfl,E⟩|⟨rfl,E⟩
 .exact⟨2,rfl,.inr ⟨hg.1,hg.2,ao,j,t,u,y,.inl ⟨rfl,E⟩⟩⟩
 .exact⟨0,rfl,.inr ⟨hg.1,hg.2,ao,j,t,u,y,.inr (.inl ⟨rfl,E⟩)⟩⟩
 .exact⟨3,rfl,.inr ⟨hg.1,hg.2,ao,j,t,u,y,.inr (.inr ⟨rfl,E⟩)⟩⟩
theorem BA{l:O aI}{k:Key}(h:(eu l k).length=l.length):∀p∈l,p.1≠k:=by
 intro p a;unfold eu at h;have:=(jJ (p:=λp:aI=>decide (p.1≠k))).1 (List.Sublist.eq_of_length List.filter_sublist h);exact ck (this p a)
theorem BB{L A B M:O aI}{k:Key}(b:L=A++(M++B))(hu:eu L k=A++(eu M k++B)):eJ L k=eJ M k:=by
 have g:(eu A k).length<=A.length:=m_ _ _;have h:(eu B k).length<=B.length:=m_ _ _;have c:=congrArg List.length hu;rw[b,ri,ri]at c;simp only[cn]at c;have ar:=BA (l:=A) (k:=k) I;have d:=BA (l:=B) (k:=k) I;have e:A.find? (λp=>decide (p.1=k))=none:=jh.2 λp a=>by simpa using ar p a
 have f:B.find? (λp=>decide (p.1=k))=none:=jh.2 λp a=>by simpa using d p a
 unfold eJ;rw[b,List.find?_append,List.find?_append,e,f];simp
theorem BC{n:aA}{k:Key}(h:gr n):eJ n.dh k=if gB n.keys k then n.vals[cw n.keys k]? else none:=by
 have t:=pJ n.keys k;have z:=h.eE;have u:∀ (j:Nat) (g:j<n.keys.length),j<cw n.keys k->bz n.keys[j] k:=λj g f=>nU f g;have v:n.keys[cw n.keys k]? ≠some k->∀ (j:Nat) (g:j<n.keys.length),cw n.keys k<=j->bz k n.keys[j]:=λhe j g f=>Bx z f g he;have m:n.dh=n.keys.zip n.vals:=rfl;unfold gB;rw[m];generalize cw n.keys k=i at t u v⊢;obtain⟨a,b,c,d,l,w,A,B,C,J,K,L,M⟩:=xR h t;have D:n.keys.zip n.vals=a.zip c++b.zip d:=by rw[l,w];exact nT I
 have E:(a.zip c).find? (λp:aI=>decide (p.1=k))=none:=jh.2 λp m=>by
  have r:=(qh m).1;obtain⟨j,g,s⟩:=fa r;have f:=u j (by rw[l,cn];omega) I;simp only[l,m6 g,s]at f;simpa using mB f
 unfold eJ;rw[D,List.find?_append,E];by_cases he:n.keys[i]? =some k
 .rw[if_pos (by simpa using he)]
  have F:∃o,b=k::o:=by
   cases b with
   |nil=>rw[l,ij I]at he;simp at he
   |cons y o=>
    rw[l,ij I,A,mX]at he;simp at he;exact⟨o,by rw[he]⟩
  obtain⟨o,rfl⟩:=F;obtain⟨x,q,rfl⟩:∃x q,d=x::q:=by
   cases d with
   |nil=>simp at C
   |cons x q=>exact⟨x,q,rfl⟩
  rw[w,ij I,B,mX];simp
 .rw[if_neg (by simpa using he)]
  have G:=v he;have H:(b.zip d).find? (λp:aI=>decide (p.1=k))=none:=jh.2 λp m=>by
   have r:=(qh m).1;obtain⟨j,g,s⟩:=fa r;have f:=G (i+j) (by rw[l,cn];omega) I;have e:(a++b)[i+j]'(by rw[cn];omega)=b[j]:=by
    rw[qk I];congr 1;omega
   simp only[l,e,s]at f;have:=mB f;simpa using λh=>this h.symm
  rw[H];rfl
def xT(T:aF)(L:O aI)(key:Key)(w:J)(v:aa)(w':J):Prop:=
 ∃aE:bO,bU w' (T.bm aE T.P)/\bD T (T.bm aE T.P) w w' 30/\(∀j,aE.view j=T.C.view j)/\
  ((v=.tuple #[(),false,(0:Int)]/\(cq key->eJ L key=none))\/
   (∃ (t:ad) (x:Key),v=.tuple #[t,true,(0:Int)]/\cq key/\eJ L key=some x/\bg (λq=>¬(T.bm aE T.P).M q) w' t x)\/
   (v=.tuple #[(),false,(3:Int)]/\cq key/\¬T.C.D.calm 30))
theorem xU{w:J}{T:aF}{pages:O Nat}{L:O aI}{tk:ad}{key:Key}(h:bU w T)(U:gj T pages L)(aR:T.C.D.aT<=800000000)(l:Src 1 w tk (ax key))(v:∀q,ay tk q->q<w.heap.size/\¬T.M q):
 aJ aj 64 #[.pointer (some T.a8),tk] w (xT T L key w):=by
 have W:=len8 l;have aU:=h.num.2.1;have aV:T.bm T.C T.P=T:=rfl;refine okF (ae.th (some T.a8) tk) aw.th func64 ?_;(delta ae.th an b6 dZ av aS r1 z4 Y jU aN;dsimp only);refine cz (λb w'=>b= !(decide (cq key))/\w=w') (λq m=>⟨λh=>(by cases h),λ_=>(mv w tk).use ?_⟩) ?_
 .rintro _ _ ⟨rfl,rfl⟩
  refine⟨_,rfl,m _ _ ⟨?_,rfl⟩⟩;unfold cq;rw[W]
 rintro _ _ ⟨rfl,rfl⟩;refine⟨λf=>⟨λh=>(by cases h),λ_=>?_⟩,λf=>?_⟩
 .have:¬cq key:=by simpa using f
  exact⟨T.C,h,(bD.refl T w).mono I,λ_=>rfl,.inl ⟨rfl,λhx=>absurd hx this⟩⟩
 have hg:cq key:=by simpa using f
 obtain⟨steps,x,y⟩:=xS (k:=key) h U;refine(xJ h I l v x).use ?_;rintro _ X ⟨aE,n,g,j,Z⟩;rcases Z with ⟨s,a,rfl,d,z⟩|⟨rfl,aa⟩
 rotate_left
 .exact⟨⟨none,0,0⟩,3,rfl,λ_=>⟨aE,n,g.mono I,j,.inr (.inr ⟨rfl,hg,λhc=>aa (fK hc I)⟩)⟩,λhx=>(by simp at hx)⟩
 have aW:s.len=a.length:=by
  have:=z.own.1;rw[gu _ (mR a)]at this;omega
 have aY:a.length=T.aG:=by
  have:=x.length;rw[←d,c8]at this;exact this
 refine⟨s,0,rfl,λhx=>⟨aE,n,g.mono I,j,.inl ⟨rfl,λ_=>?_⟩⟩,λhx=>?_⟩
 .have ab:a.length=0:=by
   have:(s.len:Int)=0:=by simpa using hx
   omega
  rcases y with ⟨_,_,_,ac⟩|⟨af,bp,eR,dz,ah,ai,ak,al,aD,_⟩
  .rw[ac];rfl
  .rw[aD]at d
   obtain⟨am,_⟩:=p4 d;omega
 have ab:0<a.length:=by
  have:¬(s.len:Int)=0:=by simpa using hx
  omega
 have e:IntKind.wrap .i64 ((s.len:Int)-1)=((a.length-1:Nat):Int):=by rw[bw I I];omega
 obtain⟨A,ar,_,_,_,hu⟩:=z.at (i:=a.length-1) I;rcases y with ⟨ao,_⟩|⟨af,bp,eR,dz,ah,ai,ak,al,aD,cl,aS,dN,aZ,a0,a1,a2,a3,ap,aq⟩
 .rw[ao]at d
  have:=congrArg List.length d;simp at this;omega
 have B:=d;rw[aD]at B;obtain⟨am,E⟩:=p4 B;rw[e,dm];generalize a4:(a[a.length-1]'I)=u at hu E;obtain⟨a5,un,a7,K,V,D⟩:=u;obtain rfl:un=bp:=E;refine⟨A,ar,⟨I,I⟩,_,hu.aQ,K,hu.a6,V,hu.ba,D,hu.fo,a_ (vs:=[false,(),(),()]) rfl λa9 F au bb=>⟨F.cd rfl fp,rfl,cK F (us:=dF un K V D) rfl rfl λo G az bc=>?_⟩⟩;have p:Ext X o:=Ext.cx au az (bk _);obtain⟨d0,d1,d2,d3⟩:=bx G;have bd:=(cr.eL (.inl dN) (by have:=h.oe _ _ aS;omega));have aA:Src 1 o tk (ax key):=(l.ag g.ag λq m aB=>(v q m).2 (aF.gd aB)).ext p;have H:bF (λq=>w.heap.size<=q/\¬(T.bm aE T.P).M q) o un K V D:=hu.b1.ext p;refine⟨_,d0,K,d1,V,d2,D,d3,(pn H aA dN.eE I).use ?_⟩;rintro _ aC ⟨rfl,r⟩;have N:=p.trans r;have Q:=n.ext N;have R:bD T (T.bm aE T.P) w aC 30:=(g.trans (bD.ext _ N)).mono I;have t:eJ L key=eJ un.dh key:=BB ap (aq (λL=>eu L key) (wT key));rw[BC dN]at t;refine⟨_,_,rfl,λc=>⟨aE,Q,R,j,.inl ⟨rfl,λ_=>?_⟩⟩,λc=>?_⟩
 .have c:gB un.keys key=false:=by simpa using c
  rw[t,if_neg (by rw[c];simp)]
 .have c:gB un.keys key=true:=by simpa using c
  have aH:cw un.keys key<un.keys.length:=(iI.1 (ck c)).1;have S:cw un.keys key<un.vals.length:=by rw[dN.len];exact aH
  obtain⟨f0,f1,f2,f3⟩:=bx (G.ext r);obtain⟨aK,cF,aL,aM,aO,aP,_⟩:=bt.at (H.ext r).vals S;refine⟨V,f2,aK,aL,aM,cF,aO,aE,Q,R,j,.inr (.inl ⟨cF,un.vals[cw un.keys key],rfl,hg,?_,bg.aX aP λq _ f=>f.2⟩)⟩;rw[t,if_pos c,dr S]
theorem GB{n:aA}{k:Key}(h:gr n)(A:gB n.keys k=true):gr (kZ n k)/\(kZ n k).dh=eu n.dh k/\bn (kZ n k)<=bn n/\n.keys.length=(kZ n k).keys.length+1/\(∀s∈(kZ n k).keys,s∈n.keys):=by
 have q:=pJ n.keys k;have B:=h.eE;have m:n.dh=n.keys.zip n.vals:=rfl;have he:n.keys[cw n.keys k]? =some k:=ck A;rw[m];unfold kZ;generalize cw n.keys k=i at q he⊢;obtain⟨a,b,c,d,j,o,r,C,t,D,N,E,O⟩:=xR h q;have g:n.keys.zip n.vals=a.zip c++b.zip d:=by rw[j,o];exact nT I
 have F:∃e,b=k::e:=by
  cases b with
  |nil=>rw[j,ij I]at he;simp at he
  |cons y e=>
   rw[j,ij I,r,mX]at he;simp at he;exact⟨e,by rw[he]⟩
 obtain⟨e,rfl⟩:=F;obtain⟨x,f,rfl⟩:∃x f,d=x::f:=by
  cases d with
  |nil=>simp at t
  |cons x f=>exact⟨x,f,rfl⟩
 have G:n.keys.drop (i+1)=e:=by rw[j,show a++k::e=(a++ [k])++e by simp];exact drop_left' (by simp[r])
 have H:n.vals.drop (i+1)=f:=by rw[o,show c++x::f=(c++ [x])++f by simp];exact drop_left' (by simp[C])
 rw[D,E,G,H];have J:(a++k::e).Pairwise bz:=by rw[←j];exact B
 obtain⟨K,L,u⟩:=l4.1 J;have v:=jg.1 L;have w:∀z,z∈a++e->z∈n.keys:=λz g=>by
  rw[j];simp only[cD,cN]at g⊢;rcases g with l|l
  .exact .inl l
  .exact .inr (.inr l)
 refine⟨⟨⟨λz g=>h.ok z (w z g),l4.2 ⟨K,v.2,λy M z g=>u y M z (iJ _ g)⟩⟩,h.leaf,?_,h.kids,λz g=>h.vals z ?_⟩,?_,?_,?_,w⟩
 .show(c++f).length=(a++e).length
  simp only[cn,fF]at t⊢;omega
 .rw[o]
  have g:z∈c++f:=g;simp only[cD,cN]at g⊢;rcases g with l|l
  .exact .inl l
  .exact .inr (.inr l)
 .show(a++e).zip (c++f)=_
  rw[g,nT I,ri,List.zip_cons_cons];have f1:eu (a.zip c) k=a.zip c:=rj λp m=>mB (u _ (qh m).1 k qe);have f2:eu ((k,x)::e.zip f) k=e.zip f:=by
   have:eu ((k,x)::e.zip f) k=eu (e.zip f) k:=by unfold eu;simp
   rw[this];exact rj λp m=>(mB (v.1 _ (qh m).1)).symm
  rw[f1,f2]
 .rw[p3 h.leaf,p3 (n:={n with keys:=a++e,vals:=c++f}) h.leaf]
  show 1+(List.zipWith jE (a++e) (c++f)).sum<=_;rw[j,o,oy I,oy I,kH,kH,List.zipWith_cons_cons,qi];omega
 .show n.keys.length=(a++e).length+1
  rw[j];simp only[cn,fF];omega
structure h7(T ao:aF):Prop where
 root:ao.root=T.root
 aG:ao.aG=T.aG
 f:ao.f=T.f
 dX:∀no,(T.f no||T.g no)=true->ao.P no=T.P no/\ao.C.view no=T.C.view no
theorem h7.refl(T:aF):h7 T T:=⟨rfl,rfl,rfl,λ_ _=>⟨rfl,rfl⟩⟩
theorem h7.bm{T:aF}{aE:bO}(a:∀j,aE.view j=T.C.view j):h7 T (T.bm aE T.P):=⟨rfl,rfl,rfl,λno _=>⟨rfl,a no⟩⟩
theorem h7.trans{T ao c:aF}(a:h7 T ao)(b:h7 ao c)(hg:ao.g=T.g):h7 T c:=
 ⟨b.root.trans a.root,b.aG.trans a.aG,b.f.trans a.f,λno h=>by
  have d:=a.dX no h
  have e:=b.dX no (by rw[a.f,hg];exact h)
  exact⟨e.1.trans d.1,e.2.trans d.2⟩⟩
structure BD(T ao:aF)(aK:O Nat)(dw:O aI):Prop where
 ok:∃pages,b4 T<=b4 ao+(2*T.aG+3)/\gj ao pages dw/\pages.Nodup/\(∀no∈pages,no∈aK\/(T.f no||T.g no)=false)/\∀no,ao.f no=true↔(no∈pages\/(T.f no=true/\no∉aK))
 dX:∀no,T.g no=true->ao.P no=T.P no/\ao.C.view no=T.C.view no
theorem h7.ok{T ao:aF}{pages:O Nat}{L:O aI}(h:h7 T ao)(a:gj T pages L)(hf:∀x∈pages,T.f x=true):gj ao pages L:=by
 unfold gj at a⊢;rw[h.root,h.aG];rcases a with a|b
 .exact .inl a
 .exact .inr (ep.agree b λx hx=>(h.dX x (by rw[hf x hx];rfl)).1.symm).1
def GC(T:aF)(aK:O Nat)(L:O aI)(key:Key)(w:J)(v:aa)(w':J):Prop:=
 ∃ao:aF,bU w' ao/\bD T ao w w' 100/\ao.E=T.E/\ao.G=T.G/\
  ((v=.tuple #[false,(1:Int)]/\¬cq key/\h7 T ao)\/
   (v=.tuple #[false,(0:Int)]/\cq key/\eJ L key=none/\h7 T ao)\/
   (v=.tuple #[false,(2:Int)]/\cq key/\eJ L key≠none/\b4 T<2*T.aG+3/\h7 T ao)\/
   (v=.tuple #[true,(0:Int)]/\cq key/\eJ L key≠none/\2*T.aG+3<=b4 T/\BD T ao aK (eu L key))\/
   (v=.tuple #[false,(3:Int)]/\cq key/\¬T.C.D.calm 100/\h7 T ao))
theorem GD{w:J}{T:aF}{pages:O Nat}{L:O aI}{tk:ad}{key:Key}(h:bU w T)(aL:¬T.C.D.ro)(ac:gj T pages L)(aM:L.length<4096)(dM:pages.Nodup)(hf:∀x∈pages,T.f x=true)(bn:T.C.D.aT<=800000000)
 (R:Src 1 w tk (ax key)) (af:∀q,ay tk q->q<w.heap.size/\¬T.M q):
 aJ aj 67 #[.pointer (some T.a8),tk] w (GC T pages L key w):=by
 have aN:=len8 R;have bo:=h.num.2.1;refine okF (ae.tj (some T.a8) tk) aw.tj func67 ?_;(delta ae.tj an b6 dZ av aS r1 kR z4 Y bW;dsimp only);refine cz (λb w'=>b= !(decide (cq key))/\w=w') (λq m=>⟨λh=>(by cases h),λ_=>(mv w tk).use ?_⟩) ?_
 .rintro _ _ ⟨rfl,rfl⟩
  refine⟨_,rfl,m _ _ ⟨?_,rfl⟩⟩;unfold cq;rw[aN]
 rintro _ _ ⟨rfl,rfl⟩;refine⟨λS=>⟨T,h,(bD.refl T w).mono I,rfl,rfl,.inl ⟨rfl,by simpa using S,.refl T⟩⟩,λS=>?_⟩;have hg:cq key:=by simpa using S
 obtain⟨steps,ah,ai⟩:=xS (k:=key) h ac;refine(xJ h I R af ah).use ?_;rintro _ aO ⟨aE,r,c,o,g⟩;rcases g with ⟨s,a,rfl,j,U⟩|⟨rfl,aP⟩
 rotate_left
 .exact⟨⟨none,0,0⟩,3,rfl,λ_=>⟨_,r,c.mono I,rfl,rfl,.inr (.inr (.inr (.inr ⟨rfl,hg,λhc=>aP (fK hc I),.bm o⟩)))⟩,λhx=>(by simp at hx)⟩
 have bq:s.len=a.length:=by
  have:=U.own.1;rw[gu _ (mR a)]at this;omega
 have br:a.length=T.aG:=by
  have:=ah.length;rw[←j,c8]at this;exact this
 refine⟨s,0,rfl,λhx=>⟨_,r,c.mono I,rfl,rfl,.inr (.inl ⟨rfl,hg,?_,.bm o⟩)⟩,λhx=>?_⟩
 .have aR:a.length=0:=by
   have:(s.len:Int)=0:=by simpa using hx
   omega
  rcases ai with ⟨_,_,_,t⟩|⟨ak,bp,eR,dz,al,am,ap,aq,aD,_⟩
  .rw[t];rfl
  .rw[aD]at j
   obtain⟨aU,_⟩:=p4 j;omega
 have aR:0<a.length:=by
  have:¬(s.len:Int)=0:=by simpa using hx
  omega
 have e:IntKind.wrap .i64 ((s.len:Int)-1)=((a.length-1:Nat):Int):=by rw[bw I I];omega
 obtain⟨A,ar,_,_,_,hu⟩:=U.at (i:=a.length-1) I;rcases ai with ⟨y,_⟩|⟨ak,bp,eR,dz,al,am,ap,aq,aD,cl,aS,dN,aV,bs,aW,bt,aY,aZ,au⟩
 .rw[y]at j
  have:=congrArg List.length j;simp at this;omega
 have G:=j;rw[aD]at G;obtain⟨aU,az⟩:=p4 G;rw[e,dm];generalize bv:(a[a.length-1]'I)=u at hu az;obtain⟨bz,un,bA,K,V,D⟩:=u;obtain rfl:un=bp:=az;have bB:=(cr.eL (.inl dN) (by have:=h.oe _ _ aS;omega));have a0:Src 1 aO tk (ax key):=R.ag c.ag λq m a1=>(af q m).2 (aF.gd a1);have W:eJ L key=eJ un.dh key:=BB aZ (au (λL=>eu L key) (wT key));rw[BC dN]at W;refine⟨A,ar,⟨I,I⟩,_,hu.aQ,K,hu.a6,V,hu.ba,D,hu.fo,(po (n:=un) hu.b1 dN I a0).use ?_⟩;intro v aA g;unfold pS at g;by_cases d:gB un.keys key=true
 rotate_left
 .have d:gB un.keys key=false:=by simpa using d
  rw[d,if_neg (by simp)]at g;obtain⟨rfl,H⟩:=g;refine⟨_,bu,bu,bu,false,rfl,a_ (vs:=[false,(),(),()]) rfl λa2 z X a3=>⟨z.cd rfl (fp (b:=hZ.leaf) (K:=bu) (V:=bu) (D:=bu)),rfl,cK z (us:=dF hZ bu bu bu) rfl rfl λN aB Z a4=>⟨λ_=>?_,λhx=>(by cases hx)⟩⟩⟩;have Q:Ext aA N:=Ext.cx X Z (bk _);have p:=H.trans Q;refine⟨_,r.ext p,(c.trans (bD.ext _ p)).mono I,rfl,rfl,.inr (.inl ⟨rfl,hg,?_,.bm o⟩)⟩;rw[W,if_neg (by rw[d];simp)]
 rw[if_pos d]at g;obtain⟨dj,dG,cR,rfl,a5,H⟩:=g;refine⟨_,dj,dG,cR,true,rfl,a_ (vs:=[false,(),(),()]) rfl λa2 z X a3=>⟨z.cd rfl fp,rfl,cK z (us:=dF (kZ un key) dj dG cR) rfl rfl λN aB Z a4=>⟨λhx=>(by cases hx),λ_=>?_⟩⟩⟩;have Q:Ext aA N:=Ext.cx X Z (bk _);have p:=H.trans Q;obtain⟨d0,d1,d2,d3⟩:=bx aB;obtain⟨bl,bd,bC,aC,a7⟩:=GB dN d;have a9:cw un.keys key<un.keys.length:=(iI.1 (ck d)).1;have bb:cw un.keys key<un.vals.length:=by rw[dN.len];exact a9
 have aH:eJ L key≠none:=by
  rw[W,if_pos d,dr bb];simp
 have bc:aE.D.aT<=900000000:=by
  have:aE.D.aT<=T.C.D.aT+2*T.aG:=c.aT;omega
 have bE:=H.size;have be:bF (λq=>¬(T.bm aE T.P).M q) N (kZ un key) dj dG cR:=(a5.ext Q).aX λq _ m G=>by have:=r.lt G;omega
 have bf:=Bz (dw:=eu L key) (k:=key) (steps:=steps) (b2:=un) (r.ext p) (λe=>aL λi=>c.bT.1▸e i) ac aM dM hf bc j (U.ext' p λq m=>m.2) be bl (.inr ⟨ak,eR,dz,al,am,ap,aq,aD,cl,λs hs=>aV s (a7 s hs),λhs e=>by
  have B:=aW hs;rw[e]at aC;simp at aC;omega,aY,by rw[bd];exact au (λL=>eu L key) (wT key),by have:=h.oe _ _ aS;omega⟩)
 refine⟨_,d0,dj,d1,dG,d2,cR,d3,bf.use ?_⟩;rintro v w' ⟨ao,y,bg,aa,t,bh⟩;have ab:=((c.trans (bD.ext (T.bm aE T.P) p)).trans bg).mono (l:=100) I;have bG:b4 (T.bm aE T.P)=b4 T:=rfl;have bH:(T.bm aE T.P).aG=T.aG:=rfl;rcases bh with ⟨rfl,E,F⟩|⟨rfl,E,F,B⟩|⟨rfl,E,F,B,bi,bj⟩
 .subst F
  exact⟨2,rfl,_,y,ab,aa,t,.inr (.inr (.inl ⟨rfl,hg,aH,E,.bm o⟩))⟩
 .exact⟨0,rfl,_,y,ab,aa,t,.inr (.inr (.inr (.inl ⟨rfl,hg,aH,E,F,λno aK=>⟨(B no aK).1,(B no aK).2.trans (o no)⟩⟩)))⟩
 .exact⟨3,rfl,_,y,ab,aa,t,.inr (.inr (.inr (.inr ⟨rfl,hg,λhc=>E (c.calm 60 (fK hc I)),(h7.bm o).trans ⟨F,B,bi,bj⟩ rfl⟩)))⟩
def rK(fr to:Key)(p:aI):al:=decide (dR fr p.1)&&(to.isEmpty||decide (bz p.1 to))
theorem vb(l:O aI)(fr to:Key):gq l fr to=l.filter (rK fr to):=rfl
theorem vc(a b:O aI)(fr to:Key):gq (a++b) fr to=gq a fr to++gq b fr to:=jK ..
def j3(fr to:Key)(most:Nat):O aI->O aI->al×O aI
 |acc,[]=>(true,acc)
 |acc,p::ps=>
  if to≠ []/\¬bz p.1 to then (false,acc)
  else
   let a:=if dR fr p.1 then acc++ [p] else acc
   if a.length=most then (false,a) else j3 fr to most a ps
def gU(fr to:Key)(most:Nat)(acc L:O aI)(on:al)(a:O aI):Prop:=
 (on=true/\a=acc++gq L fr to/\a.length<most)\/(on=false/\∀R,gA (L++R)->a=(acc++gq (L++R) fr to).take most)
variable {fr to:Key}{most:Nat}
theorem gU.nil{acc:O aI}(h:acc.length<most):gU fr to most acc [] true acc:=.inl ⟨rfl,by simp[gq],h⟩
theorem gU.app{acc lO h6 a7 bj:O aI}{on:al}(a:gU fr to most acc a7 true lO)(e:gU fr to most lO bj on h6):gU fr to most acc (a7++bj) on h6:=by
 rcases a with ⟨_,a,_⟩|⟨h,_⟩
 rotate_left
 .cases h
 subst a;rcases e with ⟨b,c,f⟩|⟨b,c⟩
 .exact .inl ⟨b,by rw[c,vc,cy],f⟩
 .refine .inr ⟨b,λR d=>?_⟩
  rw[cy]at d;rw[c R (rk.1 d).2.1,cy a7 bj R,vc a7,cy]
theorem gU.stop{acc lO a7 bj:O aI}(b:gU fr to most acc a7 false lO):gU fr to most acc (a7++bj) false lO:=by
 rcases b with ⟨h,_⟩|⟨_,h⟩
 .cases h
 .refine .inr ⟨rfl,λR a=>?_⟩
  rw[cy]at a⊢;exact h _ a
theorem gU.skip{acc h6 a7 bj:O aI}{on:al}(hs:gq a7 fr to=[])(d:gU fr to most acc bj on h6):gU fr to most acc (a7++bj) on h6:=by
 rcases d with ⟨a,b,e⟩|⟨a,b⟩
 .exact .inl ⟨a,by rw[b,vc,hs];rfl,e⟩
 .refine .inr ⟨a,λR c=>?_⟩
  rw[cy]at c⊢;rw[b R (rk.1 c).2.1,vc a7,hs];rfl
theorem gU.all{L acc:O aI}{on:al}(h:gU fr to most [] L on acc)(c:gA L):acc=(gq L fr to).take most:=by
 rcases h with ⟨_,a,b⟩|⟨_,a⟩
 .rw[a]at b⊢
  rw[ke]at b⊢;rw[dT I]
 .have:=a [] (by simpa using c)
  simpa using this
theorem BE:∀ {ps acc:O aI},gA ps->acc.length<most->gU fr to most acc ps (j3 fr to most acc ps).1 (j3 fr to most acc ps).2
 | [],acc,_,h=>.nil h
 |p::ps,acc,k,h=>by
  unfold j3
  by_cases d:to≠ []/\¬bz p.1 to
  .rw[if_pos d]
   refine .inr ⟨rfl,λR b=>?_⟩
   have:gq (p::ps++R) fr to=[]:=by
    rw[vb];refine m0.2 λq e=>?_;have m:dR p.1 q.1:=by
     rw[lW]at e b;rcases cN.1 e with rfl|e
     .exact zK _
     .exact g0 ((jg.1 b).1 q e)
    have c:¬bz q.1 to:=λa=>d.2 (ju m a);unfold rK;have g:to.isEmpty=false:=by simpa using d.1
    simp[g,c]
   rw[this,fk,dT I]
  .rw[if_neg d]
   have n:rK fr to p=decide (dR fr p.1):=by
    unfold rK;by_cases c:to=[]
    .simp[c]
    .have:bz p.1 to:=Decidable.byContradiction λa=>d ⟨c,a⟩
     simp[this]
   have f:∀l,gq (p::l) fr to=(if dR fr p.1 then [p] else [])++gq l fr to:=λl=>by
    rw[vb,lf,n,vb];by_cases c:dR fr p.1<;>simp[c]
   have o:(if dR fr p.1 then acc++ [p] else acc)=acc++(if dR fr p.1 then [p] else []):=by split<;>simp
   simp only[o];generalize hx:(if dR fr p.1 then [p] else [])=x at f;have s:x.length<=1:=by rw[←hx];split<;>simp
   by_cases a:(acc++x).length=most
   .rw[if_pos a]
    refine .inr ⟨rfl,λR b=>?_⟩;rw[lW,f,←cy,←a,List.take_left]
   .rw[if_neg a]
    have g:(acc++x).length<most:=by rw[cn]at a⊢;omega
    have:=BE (ps:=ps) (acc:=acc++x) (jg.1 k).2 g;rcases this with ⟨i,j,r⟩|⟨i,j⟩
    .exact .inl ⟨i,by rw[j,f,cy],r⟩
    .refine .inr ⟨i,λR b=>?_⟩
     rw[lW]at b⊢;rw[j R (jg.1 b).2,f,cy]
end Go.Proofs.YtcmgnhkpfllinaaGreat
