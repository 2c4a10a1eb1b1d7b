/- Contracts of the functions that the statement reaches, and the plain laws over them; each theorem stands with its conditions. -/
import Derived.Laws.Small
import Derived.Test.YtbjddgakboindaaGreatBLNone3
namespace Go.Proofs.YtbjddgakboindaaGreat
open Go aQ Go.Proofs.Tryz
def GB(T:a7)(c:dO)(n:aK)(w:I)(v:Y)(w':I):Prop:=
 ∃ (no:Nat) (az:a7) (c':dO),dx w' az c'/\dy T az c c' [no] [] w w' 1/\
  ((v=.tuple #[no,(0:Int)]/\az.P no=some n)\/(v=.tuple #[no,(3:Int)]/\¬T.C.D.calm 1))
theorem cV.fy{n:aK}(h:cV n)(b:bV n<=400):n.keys.length<=200/\n.vals.length<=200/\n.kids.length<=201:=by
 have:=y2 h;rcases h with h|h
 .have:=h.len
  have a:n.kids.length=0:=by rw[h.kids];rfl
  omega
 .have:=h.len
  have a:n.vals.length=0:=by rw[h.vals];rfl
  omega
theorem zz{B:Nat->Prop}{w:I}{T:a7}{c:dO}{n:aK}{K V D:ae}(h:dx w T c)(bg:T.C.D.bx<=900000100)(S:1<=cN T)(bh:c.made.length<=1000)(aD:cr B w n K V D)(hs:cV n)(aF:bV n<=232):
 aC ai 344 #[.pointer (some c.cb),dT n K V D] w (GB T c n w):=by
 obtain⟨no,U⟩:=GA S;obtain⟨r,u,_⟩:=F9 U;have F:=h.t.s.bB;have bi:=hs.fy J;refine okF (aa.yO (some c.cb) n.leaf K V D) ao.yO func344 ?_;(delta aa.yO aS ad aE aR eG ah ay j8 ap st dC aZ b4;dsimp only);refine aN (vs:=[n.leaf,K,V,D]) rfl λw1 W X bj=>?_;obtain⟨cu,bd,bo,bA⟩:=cl W;refine⟨_,cu,K,bd,V,bo,D,bA,(sM (aD.ext X) J J J).use ?_⟩;rintro _ aG ⟨aH,Z⟩;rcases aH with ⟨s,rfl,aI,aJ,_,_⟩|⟨e,rfl,he,aL⟩
 rotate_left
 .have:=aL hs;omega
 have H:=X.trans Z;have o:=h.ext H;refine⟨s,0,rfl,λhb=>(by cases hb),λ_=>⟨_,rfl,_,o.cells.1,_,rfl,_,o.t.cells.2.1,(Ga o.t.s).use ?_⟩⟩;rintro _ aM ⟨rfl,jF,ab⟩;rw[U]at jF⊢;obtain⟨aP,L⟩:=o.t.zx jF ab;have ac:dx aM (T.kk (dG T.f no true)) c:=o.of aP ab (λq a hf=>(h.t.lr q a).2 hf) rfl λ_ h=>h;refine⟨(no:Nat),0,rfl,λhb=>(by cases hb),λ_=>⟨_,rfl,_,ac.cells.2.1,?_⟩⟩;obtain⟨y,bm,aA,bk,aQ,aV,aW⟩:=Md ac no J;refine aO ⟨y,bm,aA,_,rfl,by rw[aw];exact aQ,by rw[aw];exact aV,aO ?_⟩;rw[aw];obtain⟨m,ag⟩:∃m,m=bm.setCell ⟨c.cb,0+1,none⟩ y:=⟨_,rfl⟩;rw[←ag];obtain⟨z,M⟩:=aW m ag;obtain⟨aj,bl⟩:∃aj,aj=λq=>T.G q\/aB y q:=⟨_,rfl⟩;have al:∀q,T.N q->q<w.heap.size:=λq a=>h.t.lt (a7.jq a);have bn:=H.size;have bp:=L.ak.size;have bq:=M.ak.size;have am:af T.N aG m:=L.ak.trans M.ak;have aX:Var m w.heap.size [n.leaf,K,V,D] 397:=(W.ext Z).ak am λa=>by have:=al _ a;omega
 have aY:aT 1 5 m s (ax (kg n)):=aI.ak am λq a a0=>by have:=al _ a0;have:=aJ q a;omega
 have hlen:=BY hs;have F:2<=no:=by
  have e:(T.f no||T.g no)=false:=u;have A:T.g no=false:=by cases hg:T.g no<;>simp_all
  have:=h.t.low;rcases eF no 2 with O|O
  .rcases pG no with an|an
   .rw[an,this.1]at A;cases A
   .rw[show no=1 from J,this.2]at A;cases A
  .exact O
 have Q:o9 ⟨if n.leaf then 1 else 2,T.gen,kg n⟩:=by
  refine⟨?_,?_,h.t.num.2.2,by show(kg n).length<=232;omega⟩
  .show 1<=(if n.leaf then 1 else 2);split<;>omega
  .show(if n.leaf then 1 else 2)<=4;split<;>omega
 refine cc (λn27 a1=>n27=((if n.leaf then 1 else 2:Nat):Int)/\a1=m) (λq a=>⟨n.leaf,aX.cell,λhb=>a _ _ ⟨by rw[hb];rfl,rfl⟩,λhb=>a _ _ ⟨by rw[hb];rfl,rfl⟩⟩) ?_;rintro _ _ ⟨rfl,rfl⟩;refine⟨_,rfl,_,z.cells.1,_,rfl,_,z.t.cells.2.2.1,(zb (no:=no) (p:=⟨if n.leaf then 1 else 2,T.gen,kg n⟩) aY.src J Q).use ?_⟩;rintro _ bO ⟨s2,rfl,ar,au,a2⟩;have d:=z.ext au;refine⟨s2,0,rfl,λhb=>(by cases hb),λ_=>⟨_,rfl,_,d.cells.1,_,rfl,_,d.t.cells.1,(Gr d.t.ca (by show T.C.D.bx<=999999999;omega) (no:=no) (by rw[d.t.n];exact r) F (λhs=>by have:=d.t.cy no hs;have e:(T.f no||T.g no)=false:=u;rcases this with this|this;(rw[show T.g no=true from this,Bool.or_true]at e;cases e);exact d.ns this) ar.src (vf no Q) λq a=>⟨aT.lt ar q a,λhf=>?_⟩).use ?_⟩⟩
 .have:=a2 q a
  have:=z.t.lt (q:=q) (.inl hf);omega
 rintro _ a3 ⟨aU,a4,R,a5⟩;have a6:∀j,dG T.f no true j=(T.f j||decide (j∈ [no])):=λj=>by
  unfold dG;by_cases e:j=no
  .subst e;simp
  .simp[e]
 have av:(T.f no||T.g no)=false:=u;have a8:T.n-ff (λi=>dG T.f no true i||T.g i) T.n+1=cN T:=by
  have:=zy (s:=λi=>T.f i||T.g i) (t:=λi=>dG T.f no true i||T.g i) (k:=no) u (by simp[dG]) (λi hi=>by simp[dG,hi]) r;unfold cN at S⊢;have O:=pj (λi=>T.f i||T.g i) T.n;omega
 have main:∀ (P':Nat->aq aK) (v:Y),(∀j,j≠no->P' j=T.P j)->(∀j,j≠no->aU.view j=T.C.view j)->(∀j cF,P' j=some cF->j<T.n/\iw T.gen cF.leaf j (aU.view j) cF)->
  ((v=.tuple #[no,(0:Int)]/\P' no=some n)\/(v=.tuple #[no,(3:Int)]/\¬T.C.D.calm 1))->GB T c n w v a3:=by
  intro P' v a9 gp a_ l;obtain⟨bb,bc⟩:=d.t.zw (P:=P') a4 R a_;have be:=d.of (az:=((T.kk (dG T.f no true)).cW T.E λq=>T.G q\/aB y q).cB aU P') bb R.ak (λq a=>d.t.CB a) rfl (λ_ h=>h) R.cy;refine⟨no,_,_,be,⟨?_,rfl,λq a=>.inl a,rfl,rfl,rfl,rfl,(g3 _).symm,by simp,λx hx=>?_,a6,λj b=>?_,a8⟩,l⟩
  .have:=(((cI.ext T H).trans L).trans M).trans ((cI.ext _ au).trans bc)
   exact this.mono J
  .obtain rfl:=ej.1 hx
   exact⟨av,r⟩
  .have:j≠no:=λe=>by rw[e,av]at b;cases b
   exact⟨a9 j this,gp j this⟩
 rcases a5 with ⟨rfl,l⟩|⟨rfl,bf,l⟩
 .refine⟨0,rfl,main (λj=>if j=no then some n else T.P j) _ (λj b=>if_neg b) (λj b=>(l j).trans (if_neg b)) (λj cF b=>?_) (.inl ⟨rfl,if_pos rfl⟩)⟩
  by_cases e:j=no
  .subst e
   rw[if_pos rfl]at b
   cases b;rw[l,if_pos rfl];exact⟨r,_,y7 J Q,ba _,rfl,⟨hs,rfl,aF,rfl⟩,F⟩
  .rw[if_neg e]at b
   rw[l,if_neg e];exact h.t.fZ j cF b
 .refine⟨3,rfl,main T.P _ (λ_ _=>rfl) (λj _=>l j) (λj cF b=>?_) (.inr ⟨rfl,bf⟩)⟩
  rw[l];exact h.t.fZ j cF b
theorem Me(w:I)(x:Int):Sem.run ai (Instr.buildSlice 459 1 #[(0,.agg #[(),x])]) w=
 .ok (.slice (some w.heap.size) 1 1) (w.alloc (.cells #[(),x] 467)):=by kernel_rfl
theorem Mf(w:I)(x y:Int)(t:ae):Sem.run ai (Instr.buildSlice 459 2 #[(0,.agg #[(),x]),(1,.agg #[t,y])]) w=
 .ok (.slice (some w.heap.size) 2 2) (w.alloc (.cells #[(),x,t,y] 467)):=by kernel_rfl
theorem cV.BO{n:aK}(h:cV n)(h1:1<=cK n)(d:if n.leaf then cK n<=n.keys.length-1/\1<=n.keys.length-1 else cK n<=n.keys.length-2/\1<=n.keys.length-2):cV (n.left (cK n))/\cV (n.right (cK n)):=by
 rcases h with h|h
 .have a:=h.leaf
  rw[if_pos a]at d;unfold aK.left aK.right;rw[if_pos a,if_pos a];have hlen:=h.len;refine⟨.inl ⟨⟨λk b=>h.ok k (gT b),h.du.sublist (List.take_sublist _ _)⟩,rfl,?_,rfl,λv c=>h.vals v (gT c)⟩,.inl ⟨⟨λk b=>h.ok k (gK b),h.du.sublist (List.drop_sublist _ _)⟩,rfl,?_,rfl,λv c=>h.vals v (gK c)⟩⟩
  .simp only[c9];omega
  .simp only[ek];omega
 .have a:=h.inner
  rw[if_neg (by rw[a];simp)]at d;unfold aK.left aK.right;rw[if_neg (by rw[a];simp),if_neg (by rw[a];simp)];have hlen:=h.len;refine⟨.inr ⟨⟨λk b=>h.ok k (gT b),h.du.sublist (List.take_sublist _ _)⟩,rfl,?_,?_,rfl,λv c=>h.kids v (gT c)⟩,.inr ⟨⟨λk b=>h.ok k (gK b),h.du.sublist (List.drop_sublist _ _)⟩,rfl,?_,?_,rfl,λv c=>h.kids v (gK c)⟩⟩
  .intro e
   have:=congrArg List.length e;simp only[c9,mX]at this;omega
  .simp only[c9];omega
  .intro e
   have:=congrArg List.length e;simp only[ek,mX]at this;omega
  .simp only[ek];omega
def mI(B:Nat->Prop)(w:I)(s:ae)(ks:O Key)(kids:O Nat):Prop:=
 (∃b x,s=⟨some ⟨b,0,none⟩,1,1⟩/\ks=[]/\kids=[x]/\Var w b [.slice none 0 0,.int .i64 (x:Nat)] 467/\B b)\/
 (∃b x y k t,s=⟨some ⟨b,0,none⟩,2,2⟩/\ks=[k]/\kids=[x,y]/\Var w b [.slice none 0 0,.int .i64 (x:Nat),.slice t.a t.len t.cap,.int .i64 (y:Nat)] 467/\B b/\b5 B w t k/\k≠ [])
def iQ(T:a7)(c:dO)(n:aK)(w:I)(v:Y)(w':I):Prop:=
 ∃ (az:a7) (c':dO) (m:O Nat) (s:ae),dx w' az c'/\dy T az c c' m [] w w' 2/\m.length<=2/\
  ((∃ks,v=.tuple #[s,(0:Int)]/\nW az.P n ks m/\mI (λq=>¬az.M q) w' s ks m)\/(v=.tuple #[s,(3:Int)]/\¬T.C.D.calm 2))
theorem GC{B:Nat->Prop}{w:I}{T:a7}{c:dO}{n:aK}{K V D:ae}(h:dx w T c)(m:T.C.D.bx<=900000100)(o:1<=cN T)(p:c.made.length<=1000)(q:cr B w n K V D)(hs:cV n)(g:bV n<=232):
 aC ai 329 #[.pointer (some ⟨c.cb,0,none⟩),dT n K V D] w (iQ T c n w):=by
 refine okF (aa.yJ (some ⟨c.cb,0,none⟩) n.leaf K V D) ao.yJ func329 ?_;(delta aa.yJ aS ad aE aR j8;dsimp only);refine aN (vs:=[.bool n.leaf,.slice K.a K.len K.cap,.slice V.a V.len V.cap,.slice D.a D.len D.cap]) rfl λw1 r f z=>?_;obtain⟨cu,bd,bo,bA⟩:=cl r;refine⟨_,cu,K,bd,V,bo,D,bA,(zz (h.ext f) m o p (q.ext f) hs g).use ?_⟩;rintro _ b ⟨no,az,c',i,s,u⟩;have j:∀ (e:Int),((e=0/\az.P no=some n)\/(e=3/\¬T.C.D.calm 1))->∃ (d:ae) (k:I),Sem.run ai (Instr.buildSlice 459 1 #[(0,.agg #[.slice none 0 0,.int .i64 (no:Nat)])]) b=.ok (.slice d.a d.len d.cap) k/\iQ T c n w (.tuple #[.slice d.a d.len d.cap,.int .i64 e]) k:=by
  intro e he;refine⟨⟨some ⟨b.heap.size,0,none⟩,1,1⟩,_,Me b _,?_⟩;have l:=c5 b (.cells #[.slice none 0 0,.int .i64 (no:Nat)] 467);have v:dy T az c c' [no] [] w (b.alloc (.cells #[.slice none 0 0,.int .i64 (no:Nat)] 467)) 2:=(((dy.ext T c f).trans s).trans (dy.ext az c' l)).mono J;refine⟨az,c',[no],⟨some ⟨b.heap.size,0,none⟩,1,1⟩,i.ext l,v,by simp,?_⟩;rcases he with ⟨rfl,he⟩|⟨rfl,he⟩
  .refine .inl ⟨[],rfl,.inl ⟨g,no,rfl,rfl,he⟩,.inl ⟨_,no,rfl,rfl,rfl,Var.new b [.slice none 0 0,.int .i64 (no:Nat)] 467,λhm=>?_⟩⟩
   have:=i.t.lt hm;omega
  .exact .inr ⟨rfl,λhc=>he (ig hc J)⟩
 rcases u with ⟨rfl,x⟩|⟨rfl,y⟩
 .exact⟨_,0,rfl,j 0 (.inl ⟨rfl,x⟩)⟩
 .exact⟨_,3,rfl,j 3 (.inr ⟨rfl,y⟩)⟩
theorem hG{b:aj}{K V D:ae}:∀v∈ [.bool b,.slice K.a K.len K.cap,.slice V.a V.len V.cap,.slice D.a D.len D.cap],Plain v:=by
 intro v c;simp only[cY,fC,fM]at c;rcases c with rfl|rfl|rfl|rfl<;>trivial
theorem Mg{B:Nat->Prop}{w:I}{T:a7}{c:dO}{n:aK}{K V D:ae}(h:dx w T c)(aW:T.C.D.bx<=900000090)(aX:2<=cN T)(aY:c.made.length<=900)(af:cr B w n K V D)(hs:cV n)(ag:232<bV n)(aZ:bV n<=400)(h1:1<=cK n)
 (m:if n.leaf then cK n<=n.keys.length-1/\1<=n.keys.length-1 else cK n<=n.keys.length-2/\1<=n.keys.length-2) (aj:bV (n.left (cK n))<=232) (al:bV (n.right (cK n))<=232):
 aC ai 349 #[.pointer (some ⟨c.cb,0,none⟩),dT n K V D] w (iQ T c n w):=by
 obtain⟨sl,kJ⟩:=hs.BO h1 m;have a0:=hs.fy J;have hb:cK n<n.keys.length:=by
  split at m<;>omega
 refine okF (aa.yQ (some ⟨c.cb,0,none⟩) n.leaf K V D) ao.yQ func349 ?_;(delta aa.yQ aS ad aE aR EB c0 bH ah j8;dsimp only);refine aN (vs:=[.bool n.leaf,.slice K.a K.len K.cap,.slice V.a V.len V.cap,.slice D.a D.len D.cap]) rfl λw1 am E a1=>?_;obtain⟨cu,bd,bo,bA⟩:=cl am;refine⟨_,cu,K,bd,V,bo,D,bA,(rY (af.ext E) hs J h1 m).use ?_⟩;rintro _ an ⟨fX,gB,bY,eA,eI,dD,t,rfl,ap,aq,ht,ar⟩;refine⟨_,fX,gB,bY,t,_,eA,eI,dD,true,rfl,aN (vs:=[.bool false,.slice none 0 0,.slice none 0 0,.slice none 0 0]) rfl λbJ au av a2=>aN (vs:=[.bool false,.slice none 0 0,.slice none 0 0,.slice none 0 0]) rfl λa3 aw F a4=>?_⟩;have G:=au.ext F;refine⟨G.bX rfl hG,rfl,cA G (us:=[.bool (n.left (cK n)).leaf,.slice fX.a fX.len fX.cap,.slice gB.a gB.len gB.cap,.slice bY.a bY.len bY.cap]) rfl rfl λa5 ax H a6=>?_⟩;have L:=aw.ak H J;refine⟨L.bX rfl hG,rfl,cA L (us:=[.bool (n.right (cK n)).leaf,.slice eA.a eA.len eA.cap,.slice eI.a eI.len eI.cap,.slice dD.a dD.len dD.cap]) rfl rfl λo ay O a8=>⟨λhb=>(by cases hb),λ_=>?_⟩⟩;have az:=ax.ak O J;have Q:=E.trans ar;have k:Ext an o:=Ext.bN (Ext.bN (av.trans F) H J) O J;have p:=Q.trans k;have a9:=Q.size;have a_:=k.size;obtain⟨d0,d1,d2,d3⟩:=cl az;refine⟨_,d0,fX,d1,gB,d2,bY,d3,(zz (h.ext p) J J J (ap.ext k) sl aj).use ?_⟩;rintro _ aA ⟨x,cq,R,r,b,aB⟩;have s:∀q,T.N q->q<w.heap.size:=λq d=>h.t.lt (a7.jq d);have ba:=b.to.ak.size;rcases aB with ⟨rfl,S⟩|⟨rfl,u⟩
 .have aD:=ay.ak b.to.ak λd=>by have:=s _ d;omega
  obtain⟨d0,d1,d2,d3⟩:=cl aD;have aF:cr (λq=>w1.heap.size<=q) aA (n.right (cK n)) eA eI dD:=(aq.ext k).ak b.to.ak λq d v=>by have:=s _ v;omega
  have aG:cq.C.D.bx<=900000100:=dQ b.to.bx (by clear r b S;omega);have aH:=b.room;have bb:R.made.length=c.made.length+1:=by rw[b.made,cT];rfl
  simp only[jZ]at aH;have U:=zz r aG J J aF kJ al;rw[b.cb]at U;refine⟨x,0,rfl,λhb=>(by cases hb),λ_=>⟨_,d0,eA,d1,eI,d2,dD,d3,U.use ?_⟩⟩;rintro _ g ⟨y,cD,W,X,l,aI⟩;have bc:=l.to.ak.size;have aJ:=((dy.ext T c p).trans b).trans l;have aL:n.keys.getD (cK n) []=n.keys[cK n]:=by rw[g4,eJ hb];rfl
  have aM:=ht.ext k;have aO:b5 (λq=>¬cD.M q) g t n.keys[cK n]:=by
   rw[←aL];have aP:b5 (λq=>q<o.heap.size/\w1.heap.size<=q) o t (n.keys.getD (cK n) []):=b5.bG aM λq d hb=>⟨d,hb⟩;have Y:=(b.trans l).to;refine b5.bG (b5.ak aP Y.ak λq d v=>by have:=s _ v;omega) λq _ hb hm=>?_;rcases Y.dZ q hm with Z|Z
   .have:=h.t.lt Z;omega
   .omega
  have aQ:n.keys[cK n]≠ []:=by
   have aT:dg n.keys[cK n]:=by
    rcases hs with hs|hs
    .exact hs.ok _ (c3 hb)
    .exact hs.ok _ (c3 hb)
   intro e;have:=aT.1;rw[e]at this;simp at this
  have z:=c5 g (.cells #[.slice none 0 0,.int .i64 (x:Nat),.slice t.a t.len t.cap,.int .i64 (y:Nat)] 467);have A:=(aJ.trans (dy.ext cD W z)).mono (j:=2) J;have ab:∀ (e:Int),((e=0/\cD.P y=some (n.right (cK n)))\/(e=3/\¬cq.C.D.calm 1))->∃ (i:ae) (ac:I),Sem.run ai (Instr.buildSlice 459 2 #[(0,.agg #[.slice none 0 0,.int .i64 (x:Nat)]),(1,.agg #[.slice t.a t.len t.cap,.int .i64 (y:Nat)])]) g=.ok (.slice i.a i.len i.cap) ac/\
   iQ T c n w (.tuple #[.slice i.a i.len i.cap,.int .i64 e]) ac:=by
   intro e he;refine⟨⟨some ⟨g.heap.size,0,none⟩,2,2⟩,_,Mf g _ _ t,cD,W,[x,y],⟨some ⟨g.heap.size,0,none⟩,2,2⟩,X.ext z,A,by simp,?_⟩;rcases he with ⟨rfl,he⟩|⟨rfl,he⟩
   .have aU:cD.P x=some (n.left (cK n)):=by
     rw[(l.e4 x (by rw[b.f];simp)).1,S]
    refine .inl ⟨[n.keys[cK n]],rfl,.inr ⟨ag,x,y,hb,rfl,rfl,aU,he⟩,.inr ⟨_,x,y,_,t,rfl,rfl,rfl,Var.new g [.slice none 0 0,.int .i64 (x:Nat),.slice t.a t.len t.cap,.int .i64 (y:Nat)] 467,λhm=>?_,b5.ext aO z,aQ⟩⟩;have:=X.t.lt hm;omega
   .exact .inr ⟨rfl,λhc=>he (b.to.calm 1 (ig hc J))⟩
  rcases aI with ⟨rfl,aV⟩|⟨rfl,u⟩
  .exact⟨_,0,rfl,ab 0 (.inl ⟨rfl,aV⟩)⟩
  .exact⟨_,3,rfl,ab 3 (.inr ⟨rfl,u⟩)⟩
 .have A:=((dy.ext T c p).trans b).mono (j:=2) J
  exact⟨_,3,rfl,λ_=>⟨cq,R,[x],cJ,r,A,by simp,.inr ⟨rfl,λhc=>u (ig hc J)⟩⟩,λhb=>(by cases hb)⟩
theorem zA{B:Nat->Prop}{w:I}{T:a7}{c:dO}{n:aK}{K V D:ae}(h:dx w T c)(t:T.C.D.bx<=900000090)(u:2<=cN T)(x:c.made.length<=900)(d:cr B w n K V D)(hs:cV n)(y:bV n<=400)
 (z:232<bV n->1<=cK n/\(if n.leaf then cK n<=n.keys.length-1/\1<=n.keys.length-1 else cK n<=n.keys.length-2/\1<=n.keys.length-2)/\bV (n.left (cK n))<=232/\bV (n.right (cK n))<=232):
 aC ai 342 #[.pointer (some c.cb),dT n K V D] w (iQ T c n w):=by
 have E:=hs.fy J;refine okF (aa.yN (some c.cb) n.leaf K V D) ao.yN func342 ?_;(delta aa.yN aS ad aE aR b4 ah eG;dsimp only);refine aN (vs:=[n.leaf,K,V,D]) rfl λw1 o p F=>?_;obtain⟨cu,bd,bo,bA⟩:=cl o;refine⟨_,cu,K,bd,V,bo,D,bA,(qo (d.ext p) hs J).use ?_⟩;rintro _ A ⟨rfl,q⟩;have a:=p.trans q;obtain⟨d0,d1,d2,d3⟩:=cl (o.ext q);have fin:∀ (v:Y) (w':I),iQ T c n A v w'->∃s:ae,∃e:Int,v=.tuple #[s,e]/\iQ T c n w (.tuple #[s,e]) w':=by
  rintro v w' ⟨az,c',m,s,aA,f,b,i⟩;have r:=((dy.ext T c a).trans f).mono (j:=2) J;rcases i with ⟨ks,rfl,k⟩|⟨rfl,k⟩
  .exact⟨s,0,rfl,az,c',m,s,aA,r,b,.inl ⟨ks,rfl,k⟩⟩
  .exact⟨s,3,rfl,az,c',m,s,aA,r,b,.inr ⟨rfl,k⟩⟩
 refine⟨_,rfl,λhb=>⟨_,d0,K,d1,V,d2,D,d3,?_⟩,λhb=>⟨_,d0,K,d1,V,d2,D,d3,?_⟩⟩
 .have hb:((bV n:Nat):Int)>232:=b8 hb
  obtain⟨aA,f,b,i⟩:=z J;refine(Mg (h.ext a) t u x (d.ext a) hs J y aA f b i).use ?_;rintro v w' l;obtain⟨s,e,rfl,g⟩:=fin v w' l;exact⟨s,e,rfl,g⟩
 .have hb:¬((bV n:Nat):Int)>232:=cL hb
  refine(GC (h.ext a) J J J (d.ext a) hs J).use ?_;rintro v w' l;obtain⟨s,e,rfl,g⟩:=fin v w' l;exact⟨s,e,rfl,g⟩
theorem GD{B:Nat->Prop}{w:I}{s:ae}{ls:O Key}(h:b6 B w s ls)(r:ls.length<=100000):
 aC ai 345 #[s] w (λv w'=>∃b:ae,v=b/\bQ (λq=>(B q/\q<w.heap.size)\/(w.heap.size<=q/\aB b q)) w' b ls/\Ext w w'/\fW w b):=by
 have t:=b6.len h;obtain⟨ts,aA,g,u,x,m⟩:=h;refine okF (aa.xx s) ao.xx func345 ?_;(delta aa.xx ah ap ad;dsimp only);refine⟨λd=>?_,λ_=>?_⟩
 .have d:s.a=none:=by simpa using d
  have h0:=g.nil d;have:ls=[]:=Al (by rw[←aA];have:=congrArg List.length h0;simpa using this);subst this;exact⟨⟨none,0,0⟩,rfl,bQ.none _ _,.refl _ _,λk e=>(gU k e).elim⟩
 .obtain⟨b,w',h1,j,y,l,f,_⟩:=vi.clone (df:=358) g (B4 ts) J
  refine aO ⟨b,w',h1,b,rfl,⟨ts,aA,j,λq c=>⟨.inr ⟨f q c,c⟩,j.lt q c⟩,λi n o=>?_⟩,l,f⟩;have a:=m i n o;exact⟨b5.bG (b5.ext (b5.bG (C:=λq=>B q/\q<w.heap.size) a λq c hb=>⟨hb,c⟩) l) λq _ hb=>.inl hb,λk e p=>by have:=f k p;have:=(a.2.2 k e).2;omega⟩
theorem mI.at{B:Nat->Prop}{w:I}{s:ae}{ks:O Key}{kids:O Nat}(h:mI B w s ks kids):s.len=kids.length/\kids.length=ks.length+1/\kids.length<=2/\∀ (j:Nat) (d:j<kids.length),∃ (A:av) (t:ae),s.a=some A/\w.cell? (A.add (j*2))=some (.slice t.a t.len t.cap)/\w.cell? ((A.add (j*2)).add 1)=some (.int .i64 ((kids[j]:Nat):Int))/\
 ((t.a=none/\ks.take j=ks.take (j-1))\/(t.a.isSome=true/\∃k,b5 B w t k/\ks.take j=ks.take (j-1)++ [k])):=by
 rcases h with ⟨b,x,rfl,rfl,rfl,c,hb⟩|⟨b,x,y,k,t,rfl,rfl,rfl,c,hb,ht,e⟩
 .refine⟨rfl,rfl,by simp,λj d=>?_⟩
  have:j=0:=by simp at d;omega
  subst this;exact⟨_,⟨none,0,0⟩,rfl,by rw[aw];exact c.cell,by rw[aw,aw];exact c.cell,.inl ⟨rfl,rfl⟩⟩
 .refine⟨rfl,rfl,by simp,λj d=>?_⟩
  rcases eF j 1 with h1|h1
  .have:j=0:=by omega
   subst this;exact⟨_,⟨none,0,0⟩,rfl,by rw[aw];exact c.cell,by rw[aw,aw];exact c.cell,.inl ⟨rfl,rfl⟩⟩
  .have:j=1:=by simp at d;omega
   subst this;obtain⟨A,ar⟩:=b5.some ht e;exact⟨_,t,rfl,by rw[aw];exact c.cell,by rw[aw,aw];exact c.cell,.inr ⟨by rw[ar];rfl,k,ht,rfl⟩⟩
theorem mI.ext{B:Nat->Prop}{w w':I}{s:ae}{ks:O Key}{kids:O Nat}(h:mI B w s ks kids)(hx:Ext w w'):mI B w' s ks kids:=by
 rcases h with ⟨b,x,h1,a,c,d,hb⟩|⟨b,x,y,k,t,h1,a,c,d,hb,ht,e⟩
 .exact .inl ⟨b,x,h1,a,c,d.ext hx,hb⟩
 .exact .inr ⟨b,x,y,k,t,h1,a,c,d.ext hx,hb,b5.ext ht hx,e⟩
theorem Mh{w:I}{nb o:Nat}{vs:O Y}{S t:ae}{ls:O Key}{l:Key}{B:Nat->Prop}{T:TypeId}(c:Var w nb vs T)(m:o<vs.length)(d:bQ B w S ls)(f:¬B nb)
 (ht:b5 B w t l) (hd:∀k,aB t k->¬aB S k) (D:ls.length<=100000) {K:I->Prop}
 (n:∀ (w':I) (aP:ae),Var w' nb (vs.set o aP) T->bQ (Grow B w w') w' aP (ls++ [l])->af (λq=>q=nb\/aB S q) w w'->(∀k,aB aP k->aB S k\/w.heap.size<=k)->K w'):
 an (w.alloc (.cells #[t] 31)) λcx=>∃g:ae,∃bO:I,Sem.run ai (Builtin.append_ #[358,358] 358 #[S,.slice (some w.heap.size) 1 1]) cx=.ok g bO/\
  (∃u:Y,bO.cell? (Addr.add nb o)=some u)/\bO.frozen? (Addr.add nb o)=false/\an (bO.setCell (Addr.add nb o) g) λp=>K p:=by
 have r:=bQ.bG (C:=λq=>B q\/w.heap.size<=q) d λk _ h=>.inl h;have s:=b5.bG (C:=λq=>B q\/w.heap.size<=q) ht λk _ h=>.inl h;obtain⟨b,w',aA,v,i,x⟩:=Fp r s hd J λk a=>.inr a;have E:=c.lt;have y:¬aB S nb:=λh=>by
  obtain⟨ts,_,_,z,_⟩:=d;exact f (z nb h).1
 have j:=c.ak i y;obtain⟨bd,bo⟩:=eP j m;refine aO ⟨b,w',aA,?_⟩;rw[aw,cz];have hc:=dX w' nb o b;refine⟨bd,bo,aO (n _ b (eO j _) ?_ ?_ x)⟩
 .have A:=bQ.bG (C:=Grow B w (w'.setCell ⟨nb,o,none⟩ b)) v λk a h=>by
   rcases h with h|h
   .exact .inl h
   .exact .inr ⟨h,fB a hc.size⟩
  refine bQ.ak A hc λk a e=>?_;subst e;rcases a with h|h
  .exact f h
  .omega
 .exact(i.mono λk _ a=>.inr a).trans (hc.mono λk _ a=>.inl a)
def zB(B:Nat->Prop)(n:aK)(fr to:Nat)(ks:O Key)(kids:O Nat)(w:I)(v:Y)(w':I):Prop:=
 ∃K V D:ae,v=dT (gI n fr to ks kids) K V D/\cr (λq=>B q\/w.heap.size<=q) w' (gI n fr to ks kids) K V D/\Ext w w'
structure th(B:Nat->Prop)(lo:Nat)(nb bD rb:Nat)(n:aK)(K V D:ae)(b:O Y)(w:I)(a aI:ae)(b2 bP:Nat->Prop)(ks:O Key)(ds:O Nat):Prop where
 fZ:Var w nb [n.leaf,K,V,D] 397
 r:Var w rb b 397
 o:Var w bD [false,a,(),aI] 397
 k:bQ b2 w a ks
 d:c6 bP w aI ds
 b7:∀q,b2 q->(B q/\q<lo)\/(lo<=q/\q<w.heap.size/\q≠nb/\q≠bD/\q≠rb/\¬bP q)
 bq:∀q,bP q->lo<=q/\q<w.heap.size/\q≠nb/\q≠bD/\q≠rb
 n3:∀q,aB a q->lo<=q
theorem th.ext{B:Nat->Prop}{lo nb bD rb:Nat}{n:aK}{K V D:ae}{b:O Y}{w w':I}{c aI:ae}{b2 bP:Nat->Prop}{ks:O Key}{ds:O Nat}(h:th B lo nb bD rb n K V D b w c aI b2 bP ks ds)(hx:Ext w w'):th B lo nb bD rb n K V D b w' c aI b2 bP ks ds:=by
 have e:=hx.size;exact⟨h.fZ.ext hx,h.r.ext hx,h.o.ext hx,bQ.ext h.k hx,c6.ext h.d hx,λq a=>(h.b7 q a).imp id λh=>⟨h.1,J,h.2.2⟩,λq a=>⟨(h.bq q a).1,by have:=(h.bq q a).2.1;omega,(h.bq q a).2.2⟩,h.n3⟩
theorem Mi{B:Nat->Prop}{w dv kf aX aY:I}{nb bD rb:Nat}{n:aK}{K V D s ez D0:ae}{an:O Y}{b2 bP:Nat->Prop}{ks:O Key}{kids:O Nat}{fr to:Nat}(bp:th B w.heap.size nb bD rb n K V D an dv ez D0 b2 bP (n.keys.take fr) (n.kids.take fr))(br:Ext w dv)
 (bs:cr B w n K V D) (aZ:mI B w s ks kids) (bt:an.length=4) (h1:w.heap.size<=nb) (R:w.heap.size<=bD) (F:w.heap.size<=rb) (G:nb≠bD/\nb≠rb/\bD≠rb) (t1:1<=to) (t2:to<=n.kids.length) (t3:to-1<=n.keys.length) (cw:n.keys.length<=1000) (bB:n.kids.length<=1000) (aG:kf.heap.size=nb) (aM:aX.heap.size=bD) (y:aY.heap.size=rb):
 aa.BB kf aX aY s (to:Nat) dv (zB B n fr to ks kids w):=by
 obtain⟨bS,bI,cf,bu⟩:=aZ.at;(delta aa.BB dK dj ah bl bq aR bw r1 A8 bH ad aE ap st bh al aS uB;dsimp only);rw[aG,aM,y];refine⟨λi w'=>∃ (j:Nat) (x aI:ae) (b2 bP:Nat->Prop),i=j/\j<=kids.length/\Ext w w'/\th B w.heap.size nb bD rb n K V D an w' x aI b2 bP (n.keys.take fr++ks.take (j-1)) (n.kids.take fr++kids.take j),λi _=>((kids.length:Int)-i).toNat,⟨0,ez,D0,b2,bP,rfl,c8 _,br,by simpa using bp⟩,?_⟩;rintro _ p ⟨j,x,aI,b2,bP,rfl,cg,u,h⟩;have ch:=u.size;refine⟨λaJ=>?_,λaz=>?_⟩
 .have aJ:j<kids.length:=by
   have:(j:Int)<(s.len:Int):=b8 aJ;omega
  obtain⟨A,t,ar,bd,bo,aC⟩:=(aZ.ext u).at.2.2.2 j aJ;refine⟨A,ar,⟨J,J⟩,t,by rw[d_];exact bd,_,by rw[d_];exact bo,?_⟩;have aC:(t.a=none/\ks.take j=ks.take (j-1))\/(t.a.isSome=true/\∃k,b5 (λq=>B q/\q<w.heap.size) p t k/\ks.take j=ks.take (j-1)++ [k]):=by
   obtain⟨ci,a0,a1,bv,_,bx⟩:=bu j aJ;rw[ar]at a1;cases a1;have e:=af.cell u (λh=>h) bv;rw[bd]at e;injection e with e
   obtain rfl:t=a0:=by
    cases t;cases a0;simp at e;simp[e]
   rcases bx with h|⟨h1,k,R,F⟩
   .exact .inl h
   .exact .inr ⟨h1,k,b5.ext (b5.bG R λq c hb=>⟨hb,c⟩) u,F⟩
  refine aN (vs:=[(),(0:Int)]) rfl λcj a2 bz ck=>?_;refine⟨a2.bX rfl ?_,rfl,cA a2 (us:=[t,.int .i64 ((kids[j]:Nat):Int)]) rfl rfl λaD S bA cm=>?_⟩
  .intro v a3
   simp only[cY,fC,fM]at a3;rcases a3 with rfl|rfl<;>trivial
  have ao:Ext p aD:=Ext.bN bz bA (ba _);have l:=h.ext ao;have cn:=ao.size;have a4:=u.trans ao;obtain⟨fu,bC⟩:∃fu,fu=p.heap.size:=⟨_,rfl⟩;rw[←bC]at S⊢;have co:=S.lt;refine k3 (λT=>∃ (eA:ae) (aq:Nat->Prop),th B w.heap.size nb bD rb n K V D an T eA aI aq bP (n.keys.take fr++ks.take j) (n.kids.take fr++kids.take j)/\Ext w T/\Var T fu [t,.int .i64 ((kids[j]:Nat):Int)] 467/\aD.heap.size<=T.heap.size) (λq c=>⟨t,S.cell,λhb=>?_,λhb=>?_⟩) ?_
  .rcases aC with ⟨au,_⟩|⟨_,k,ht,Z⟩
   .rw[au]at hb;cases hb
   obtain⟨ab,H,ac,L⟩:=cl (V:=⟨none,0,0⟩) l.o;have av:∀q,aB x q->b2 q:=λq c=>by
    obtain⟨ts,_,_,F,_⟩:=l.k;exact(F q c).1
   refine⟨x,H,t,S.cell,Mh (B:=λq=>b2 q\/(B q/\q<w.heap.size)) l.o (o:=1) (by simp) (bQ.bG l.k λq _ hb=>.inl hb) (λhb=>?_) (b5.bG (b5.ext ht ao) λq _ hb=>.inr hb) (λq c aF=>?_) ?_ λw' aP aA aH m bE=>c _ ⟨aP,Grow (λq=>b2 q\/(B q/\q<w.heap.size)) aD w',?_,?_,?_,m.size⟩⟩
   .rcases hb with hb|hb
    .rcases l.b7 _ hb with f|f
     .omega
     .exact f.2.2.2.1 rfl
    .omega
   .have:=(ht.2.2 q c).1.2
    have:=l.n3 q aF;omega
   .rw[cT,c9,c9];omega
   .have bF:=m.size
    have z:∀q,aB x q->q<p.heap.size/\q≠nb/\q≠bD/\q≠rb/\¬bP q:=λq c=>by
     have bJ:=h.n3 q c;rcases h.b7 q (av q c) with f|f
     .omega
     .exact f.2
    refine⟨l.fZ.ak m λc=>?_,l.r.ak m λc=>?_,aA,?_,c6.ak l.d m λq hb c=>?_,λq hb=>?_,λq hb=>⟨(l.bq q hb).1,by have:=(l.bq q hb).2.1;omega,(l.bq q hb).2.2⟩,λq c=>?_⟩
    .rcases c with e|c
     .exact G.1 e
     .exact(z _ c).2.1 rfl
    .rcases c with e|c
     .exact G.2.2 e.symm
     .exact(z _ c).2.2.2.1 rfl
    .rw[Z,←c_];exact aH
    .rcases c with e|c
     .exact(l.bq q hb).2.2.2.1 e
     .exact(z q c).2.2.2.2 hb
    .rcases hb with (hb|hb)|hb
     .exact(l.b7 q hb).imp id λf=>⟨f.1,J,f.2.2⟩
     .exact .inl hb
     .refine .inr ⟨J,hb.2,λe=>?_,λe=>?_,λe=>?_,λhd=>?_⟩
      .have:=l.fZ.lt;omega
      .have:=l.o.lt;omega
      .have:=l.r.lt;omega
      .have:=(l.bq q hd).2.1;omega
    .rcases bE q c with f|f
     .exact h.n3 q f
     .omega
   .exact Ext.ee a4 m λq c=>by
     rcases c with rfl|c
     .exact R
     .exact l.n3 q c
   .refine S.ak m λc=>?_
    rcases c with e|c
    .have:=h.o.lt;omega
    .rcases h.b7 _ (av _ c) with f|f<;>omega
  .rcases aC with ⟨_,Z⟩|⟨au,_⟩
   .refine c _ ⟨x,b2,?_,a4,S,ba _⟩
    rw[Z];exact l
   .cases a5:t.a with
    |none=>rw[a5]at au;cases au
    |some A=>rw[a5]at hb;cases hb
  rintro T ⟨eA,aq,g,a6,a7,cp⟩;have cq:=a7.lt;obtain⟨ab,H,ac,L⟩:=cl (V:=⟨none,0,0⟩) g.o;have C:∀q,aB aI q->bP q:=λq c=>(g.d.2 q c).1;have bK:∀q,aq q->¬(q=bD\/aB aI q):=λq hb c=>by
   rcases g.b7 q hb with f|f
   .rcases c with e|c
    .omega
    .have:=(g.bq q (C q c)).1;omega
   .rcases c with e|c
    .exact f.2.2.2.1 e
    .exact f.2.2.2.2.2 (C q c)
  have a8:IntKind.wrap .i64 ((j:Int)+1)=((j+1:Nat):Int):=by rw[bT J J];rfl
  refine⟨aI,L,_,by rw[aw];exact a7.cell,(FE (W:=λ_=>True) kids[j] g.o (o:=3) (by simp) g.d (λhb=>(g.bq _ hb).2.2.2.1 rfl) (by rw[cT,c9,c9];omega) λw' aP aA aH m=>⟨⟨j+1,eA,aP,aq,Grow bP T w',a8,J,?_,?_⟩,?_⟩).2⟩
  .exact Ext.ee a6 m λq c=>by
    rcases c with rfl|c
    .exact R
    .exact(g.bq q (C q c)).1
  .have bF:=m.size
   refine⟨g.fZ.ak m λc=>?_,g.r.ak m λc=>?_,aA,?_,?_,λq hb=>?_,λq hb=>?_,g.n3⟩
   .rcases c with e|c
    .exact G.1 e
    .exact(g.bq _ (C _ c)).2.2.1 rfl
   .rcases c with e|c
    .exact G.2.2 e.symm
    .exact(g.bq _ (C _ c)).2.2.2.2 rfl
   .exact bQ.ak g.k m bK
   .rw[kt aJ,←c_];exact aH
   .refine(g.b7 q hb).imp id λf=>⟨f.1,J,f.2.2.1,f.2.2.2.1,f.2.2.2.2.1,λhd=>?_⟩
    rcases hd with hd|hd
    .exact f.2.2.2.2.2 hd
    .omega
   .rcases hb with hb|hb
    .exact⟨(g.bq q hb).1,by have:=(g.bq q hb).2.1;omega,(g.bq q hb).2.2⟩
    .refine⟨by have:=a6.size;omega,hb.2,λe=>?_,λe=>?_,λe=>?_⟩
     .have:=g.fZ.lt;omega
     .have:=g.o.lt;omega
     .have:=g.r.lt;omega
  .rw[a8]
   show((kids.length:Int)-((j+1:Nat):Int)).toNat<((kids.length:Int)-(j:Int)).toNat;omega
 .have az:j=kids.length:=by
   have:¬(j:Int)<(s.len:Int):=cL az;omega
  subst az;have a9:Ext p p.drew:=b1 _;have h:=h.ext a9;have u:=u.trans a9;have Z:ks.take (kids.length-1)=ks:=ey J;rw[Z,jz]at h;obtain⟨ab,H,ac,L⟩:=cl (V:=⟨none,0,0⟩) h.o;obtain⟨lZ,js,bL,a_⟩:=cl h.fZ;have bb:cr (λq=>B q/\q<w.heap.size) w n K V D:=bs.bG λq c hb=>⟨hb,c⟩;have aL:=bb.ext u;have bc:=b6.len aL.keys;have be:=dd.len aL.kids;have bf:IntKind.wrap .i64 ((to:Int)-1)=((to-1:Nat):Int):=by rw[bT J J];omega
  have av:∀q,aB x q->b2 q:=λq c=>by
   obtain⟨ts,_,_,F,_⟩:=h.k;exact(F q c).1
  have C:∀q,aB aI q->bP q:=λq c=>(h.d.2 q c).1;have bg:=b6.sub aL.keys (lo:=to-1) (hi:=n.keys.length) t3 (ba _);have bM:(n.keys.drop (to-1)).take (n.keys.length-(to-1))=n.keys.drop (to-1):=ey (by rw[ek];exact ba _);rw[bM]at bg;obtain⟨M,ai,aG,aM,y⟩:=Ch h.k bg (λq c aF=>by have:=h.n3 q aF;omega) (by rw[cT,c9];omega) (by rw[ek];omega);have cs:p.drew.heap.size=p.heap.size:=rfl;have z:∀q,aB x q->q<p.drew.heap.size/\q≠nb/\q≠bD/\q≠rb/\¬bP q:=λq c=>by
   have bJ:=h.n3 q c;rcases h.b7 q (av q c) with f|f
   .omega
   .exact f.2
  have ct:=y.size;have bO:Ext w ai:=Ext.ee u y λq c=>h.n3 q c;have bi:=h.o.ak y λc=>(z _ c).2.2.1 rfl;have bR:=h.fZ.ak y λc=>(z _ c).2.1 rfl;have bU:=h.r.ak y λc=>(z _ c).2.2.2.1 rfl;have bV:c6 bP ai aI _:=c6.ak h.d y λq hb c=>(z q c).2.2.2.2 hb;obtain⟨bW,b9⟩:=eP bi (i:=1) (by simp);refine aO ⟨id,x,H,id,K,js,?_,M,ai,?_,by rw[aw];exact bW,by rw[aw];exact b9,?_⟩
  .rw[bf,bc];omega
  .rw[bf,d_,bc];exact aG
  rw[aw,cz];have N:=dX ai bD 1 M;have aj:=eO bi (i:=1) M;obtain⟨E,bY⟩:∃E,E=ai.setCell ⟨bD,1,none⟩ M:=⟨_,rfl⟩;rw[←bY]at N aj⊢;have cu:=N.size;have aQ:=bR.ak N (λe=>G.1 e);have aT:=bU.ak N (λe=>G.2.2 e.symm);have aU:c6 bP E aI _:=c6.ak bV N λq hb e=>(h.bq q hb).2.2.2.1 e;have am:Ext w E:=Ext.bN bO N R;have U:Ext E E.drew:=b1 _;have bj:∀q,(b2 q\/(B q/\q<w.heap.size)\/p.drew.heap.size<=q)->q≠bD:=λq c e=>by
   subst e;rcases c with c|c|c
   .rcases h.b7 _ c with f|f
    .omega
    .exact f.2.2.2.1 rfl
   .omega
   .have:=h.o.lt;omega
  have bZ:=b6.ext (b6.ak aM N bj) U;have aj:=aj.ext U;have aQ:=aQ.ext U;have aT:=aT.ext U;have aU:=c6.ext aU U;have am:=am.trans U;obtain⟨ab,H,ac,L⟩:=cl (V:=⟨none,0,0⟩) aj;obtain⟨lZ,js,bL,a_⟩:=cl aQ;have bk:=dd.sub (bb.ext am).kids (lo:=to) (hi:=n.kids.length) t2 (ba _);have b0:(n.kids.drop to).take (n.kids.length-to)=n.kids.drop to:=ey (by rw[ek];exact ba _);rw[b0]at bk;obtain⟨P,ax,f1,f2,f3⟩:=FL aU bk (by rw[cT,c9];omega) (by rw[ek];omega);have cv:E.drew.heap.size=E.heap.size:=rfl;have cx:=f3.size;have ay:∀q,aB aI q->w.heap.size<=q/\q<p.drew.heap.size/\q≠nb/\q≠bD/\q≠rb:=λq c=>h.bq q (C q c);have b3:Ext w ax:=Ext.ee am f3 λq c=>(ay q c).1;have bm:=aj.ak f3 λc=>(ay _ c).2.2.2.1 rfl;have b4:=aT.ak f3 λc=>(ay _ c).2.2.2.2 rfl;have b_:=b6.ak bZ f3 λq hb c=>by
   have cy:=ay q c;rcases hb with hb|hb|hb
   .rcases h.b7 q hb with f|f
    .omega
    .exact f.2.2.2.2.2 (C q c)
   .omega
   .omega
  obtain⟨bW,b9⟩:=eP bm (i:=3) (by simp);refine aO (aO ⟨id,aI,L,id,D,a_,?_,P,ax,?_,by rw[aw];exact bW,by rw[aw];exact b9,?_⟩)
  .rw[be];omega
  .rw[d_,be];exact f1
  rw[aw,cz];have X:=dX ax bD 3 P;have bn:=eO bm (i:=3) P;obtain⟨aV,ca⟩:∃aV,aV=ax.setCell ⟨bD,3,none⟩ P:=⟨_,rfl⟩;rw[←ca]at X bn⊢;have cB:=X.size;have cb:=b4.ak X (λe=>G.2.2 e.symm);have cc:Ext w aV:=Ext.bN b3 X R;have cd:=b6.ak b_ X bj;have ce:=dd.ak f2 X λq hb e=>by
   subst e;rcases hb with hb|hb|hb
   .exact(h.bq _ hb).2.2.2.1 rfl
   .omega
   .have:=h.o.lt;omega
  obtain⟨ab,H,ac,L⟩:=cl (V:=⟨none,0,0⟩) bn;refine aO ⟨_,ab,M,H,⟨none,0,0⟩,ac,P,L,?_⟩;refine kE false M ⟨none,0,0⟩ P cb bt (Q:=λb K V D ag=>zB B n fr to ks kids w (.agg #[b,K,V,D]) ag) λcC aW=>?_;refine⟨M,⟨none,0,0⟩,P,rfl,⟨?_,?_,?_⟩,Ext.bN cc aW F⟩
  .refine b6.bG (b6.ak cd aW λq hb e=>?_) λq _ hb=>?_
   .subst e
    rcases hb with hb|hb|hb
    .rcases h.b7 _ hb with f|f
     .omega
     .exact f.2.2.2.2.1 rfl
    .omega
    .have:=h.r.lt;omega
   .rcases hb with hb|hb|hb
    .rcases h.b7 _ hb with f|f
     .exact .inl f.1
     .exact .inr f.1
    .exact .inl hb.1
    .have:=u.size;exact .inr J
  .exact b6.none _ _
  .refine dd.bG (dd.ak ce aW λq hb e=>?_) λq _ hb=>?_
   .subst e
    rcases hb with hb|hb|hb
    .exact(h.bq _ hb).2.2.2.2 rfl
    .omega
    .have:=h.r.lt;omega
   .rcases hb with hb|hb|hb
    .exact .inr (h.bq _ hb).1
    .exact .inl hb.1
    .have:=am.size;exact .inr J
theorem CC(K D:ae)(w:I):Sem.run ai (Instr.build 397 #[(1,K),(3,D)]) w=.ok (.agg #[false,K,(),D]) w:=by kernel_rfl
theorem sJ{B:Nat->Prop}{w:I}{n:aK}{K V D s:ae}{ks:O Key}{kids:O Nat}{fr to:Nat}(Q:cr B w n K V D)(an:mI B w s ks kids)(f1:fr<=n.keys.length)(f2:fr<=n.kids.length)(t1:1<=to)(t2:to<=n.kids.length)(t3:to-1<=n.keys.length)(cw:n.keys.length<=1000)(bB:n.kids.length<=1000):
 aC ai 328 #[dT n K V D,.int .i64 (fr:Nat),.int .i64 (to:Nat),.slice s.a s.len s.cap] w (zB B n fr to ks kids w):=by
 refine okF (aa.sJ n.leaf K V D (fr:Nat) (to:Nat) s) ao.sJ func328 ?_;(delta aa.sJ c0 bC dI eU aR ad bn dK dj ah bl bq bw r1 A8 bH aE ap st bh al aS uB;dsimp only);refine aN (vs:=[.bool n.leaf,.slice K.a K.len K.cap,.slice V.a V.len V.cap,.slice D.a D.len D.cap]) rfl λw1 aq ar aG=>?_;refine aN (vs:=[.bool false,.slice none 0 0,.slice none 0 0,.slice none 0 0]) rfl λag au R aH=>aO ?_;have E:Ext ag ag.drew:=b1 _;have H:=(ar.trans R).trans E;obtain⟨d,S⟩:∃d,d=ag.drew:=⟨_,rfl⟩;have aI:d.heap.size=ag.heap.size:=by rw[S];rfl
 rw[←S]at H E⊢;have T:=(aq.ext R).ext E;have av:=au.ext E;obtain⟨cu,bd,bo,bA⟩:=cl T;have t:cr (λq=>B q/\q<w.heap.size) d n K V D:=(Q.bG λq c hb=>⟨hb,c⟩).ext H;have aL:=b6.len t.keys;have aM:=dd.len t.kids;have aP:=b6.le t.keys;have aQ:=t.kids.2.1;have L:=b6.sub t.keys (lo:=0) (hi:=fr) (c8 _) f1;have F:=dd.sub t.kids (lo:=0) (hi:=fr) (c8 _) f2;rw[kx,q_]at L F;have U:Int.toNat ((fr:Nat):Int)-0=fr:=by rw[d_];rfl
 have fin:∀ (dv M:I) (bD:Nat) (ez D0:ae),M.heap.size=bD->Ext d dv->Var dv bD [.bool false,.slice ez.a ez.len ez.cap,.slice none 0 0,.slice D0.a D0.len D0.cap] 397->d.heap.size<=bD->bQ (λq=>(B q/\q<w.heap.size)\/(d.heap.size<=q/\aB ez q)) dv ez (n.keys.take fr)->aT 1 3 dv D0 (gJ (n.kids.take fr))->
  (∀q,aB ez q->d.heap.size<=q/\q≠bD)->(∀q,aB D0 q->d.heap.size<=q/\q≠bD/\¬aB ez q)->aa.BB w M w1 s (to:Nat) dv (zB B n fr to ks kids w):=by
  intro dv M bD ez D0 aw hx ax aU W N X Y;have aV:=hx.size;have aJ:∀q,aB ez q->q<dv.heap.size:=λq c=>by
   obtain⟨ts,_,o,_,_⟩:=W;exact o.lt q c
  refine Mi (b2:=λq=>(B q/\q<w.heap.size)\/aB ez q) (bP:=λq=>aB D0 q) ⟨T.ext hx,av.ext hx,ax,bQ.bG W λq _ hb=>hb.imp id λh=>h.2,⟨N,λq c=>⟨c,aT.lt N q c⟩⟩,λq hb=>?_,λq hb=>?_,λq c=>by have:=(X q c).1;omega⟩ (H.trans hx) Q an rfl (ba _) J J ⟨J,J,J⟩ t1 t2 t3 cw bB rfl aw rfl
  .rcases hb with hb|hb
   .exact .inl hb
   .have x:=X q hb
    exact .inr ⟨J,aJ q hb,J,x.2,J,λay=>(Y q ay).2.2 hb⟩
  .have x:=Y q hb
   exact⟨J,aT.lt N q hb,J,x.2.1,J⟩
 refine⟨λ_=>False,id,K,bd,⟨J,J⟩,id,D,bA,⟨J,J⟩,?_,?_⟩
 .rw[U]
  refine(GD L (by rw[c9];omega)).use ?_;rintro _ u ⟨ez,rfl,p,f,y⟩;have az:=f.size;refine⟨ez,rfl,f,?_,?_⟩
  .refine(vn (F.1.ext f) (by rw[c9];omega)).use ?_
   rintro _ Z ⟨D0,rfl,v,G,ab⟩;have aW:=G.size;refine⟨D0,rfl,G,_,CC ez D0,aN (vs:=[.bool false,.slice none 0 0,.slice none 0 0,.slice none 0 0]) rfl λaX ac af aY=>⟨af,ac.bX rfl (hG (b:=false) (K:=ez) (V:=⟨none,0,0⟩) (D:=D0)),rfl,cA ac (us:=[.bool false,.slice ez.a ez.len ez.cap,.slice none 0 0,.slice D0.a D0.len D0.cap]) rfl rfl λg z j aj=>?_⟩⟩;have k:Ext Z g:=Ext.bN af j (ba _);have r:∀q,aB ez q->q<u.heap.size:=λq c=>by
    obtain⟨ts,_,o,_,_⟩:=p;exact o.lt q c
   exact fin g Z _ ez D0 rfl (f.trans (G.trans k)) z J (bQ.bG (bQ.ext p (G.trans k)) λq _ hb=>hb.imp (λh=>h.1) id) (v.ext k) (λq c=>⟨y q c,by have:=r q c;omega⟩) λq c=>⟨by have:=ab q c;omega,by have:=aT.lt v q c;omega,λh=>by have:=r q h;have:=ab q c;omega⟩
  .refine aN (vs:=[.bool false,.slice none 0 0,.slice none 0 0,.slice none 0 0]) rfl λam P l aA=>⟨l,(vn ((F.1.ext f).ext l) (by rw[c9];omega)).use ?_⟩
   rintro _ aD ⟨D0,rfl,v,m,i⟩;have A:=P.ext m;refine⟨D0,rfl,m,_,CC ez D0,A.bX rfl (hG (b:=false) (K:=ez) (V:=⟨none,0,0⟩) (D:=D0)),rfl,cA A (us:=[.bool false,.slice ez.a ez.len ez.cap,.slice none 0 0,.slice D0.a D0.len D0.cap]) rfl rfl λg z j aj=>?_⟩;have k:Ext u g:=Ext.bN (l.trans m) j (ba _);have r:∀q,aB ez q->q<u.heap.size:=λq c=>by
    obtain⟨ts,_,o,_,_⟩:=p;exact o.lt q c
   exact fin g u _ ez D0 rfl (f.trans k) z J (bQ.bG (bQ.ext p k) λq _ hb=>hb.imp (λh=>h.1) id) (v.ak j λq c e=>by have:=i q c;omega) (λq c=>⟨y q c,by have:=r q c;omega⟩) λq c=>⟨by have:=i q c;omega,by have:=i q c;omega,λh=>by have:=r q h;have:=i q c;omega⟩
 .rw[U]
  refine aN (vs:=[.bool false,.slice none 0 0,.slice none 0 0,.slice none 0 0]) rfl λam P l aA=>⟨l,(GD (b6.ext L l) (by rw[c9];omega)).use ?_⟩;rintro _ u ⟨ez,rfl,p,f,y⟩;have az:=f.size;refine⟨ez,rfl,f,(vn ((F.1.ext l).ext f) (by rw[c9];omega)).use ?_⟩;rintro _ aD ⟨D0,rfl,v,m,i⟩;have A:=(P.ext f).ext m;refine⟨D0,rfl,m,_,CC ez D0,A.bX rfl (hG (b:=false) (K:=ez) (V:=⟨none,0,0⟩) (D:=D0)),rfl,cA A (us:=[.bool false,.slice ez.a ez.len ez.cap,.slice none 0 0,.slice D0.a D0.len D0.cap]) rfl rfl λg z j aj=>?_⟩;have k:Ext d g:=Ext.bN ((l.trans f).trans m) j (ba _);have r:∀q,aB ez q->q<u.heap.size:=λq c=>by
   obtain⟨ts,_,o,_,_⟩:=p;exact o.lt q c
  have aF:bQ (λq=>(B q/\q<w.heap.size)\/(d.heap.size<=q/\aB ez q)) g ez (n.keys.take fr):=by
   have x:=bQ.bG (C:=λq=>(B q/\q<w.heap.size)\/(am.heap.size<=q/\aB ez q)) (bQ.ext p m) λq _ hb=>hb.imp (λh=>h.1) id;exact bQ.bG (bQ.ak x j λq hb e=>by rcases hb with hb|hb<;>omega) λq _ hb=>hb.imp id λh=>⟨J,h.2⟩
  exact fin g d _ ez D0 rfl k z (ba _) aF (v.ak j λq c e=>by have:=i q c;omega) (λq c=>⟨by have:=y q c;omega,by have:=y q c;omega⟩) λq c=>⟨by have:=i q c;omega,by have:=i q c;omega,λh=>by have:=r q h;have:=i q c;omega⟩
def ng(n:aK):Prop:=cV n/\bV n<=400/\(232<bV n->1<=cK n/\(if n.leaf then cK n<=n.keys.length-1/\1<=n.keys.length-1 else cK n<=n.keys.length-2/\1<=n.keys.length-2)/\bV (n.left (cK n))<=232/\bV (n.right (cK n))<=232)
structure nh(B:Nat->Prop)(w:I)(A:av)(u:dM):Prop where
 bd:w.cell? (A.add 1)=some (.bool u.n.leaf)
 bo:w.cell? ((A.add 1).add 1)=some (.slice u.K.a u.K.len u.K.cap)
 bA:w.cell? ((A.add 1).add 2)=some (.slice u.V.a u.V.len u.V.cap)
 fk:w.cell? ((A.add 1).add 3)=some (.slice u.D.a u.D.len u.D.cap)
 g_:w.cell? (A.add 5)=some (.int .i64 (u.c2:Nat))
 cF:cr B w u.n u.K u.V u.D
 bj:B A.block
 lt:A.block<w.heap.size
theorem nh.ext{B:Nat->Prop}{w w':I}{A:av}{u:dM}(h:nh B w A u)(hx:Ext w w'):nh B w' A u:=
 ⟨af.cell hx (λh=>h) h.bd,af.cell hx (λh=>h) h.bo,af.cell hx (λh=>h) h.bA,af.cell hx (λh=>h) h.fk,af.cell hx (λh=>h) h.g_,h.cF.ext hx,h.bj,fB h.lt hx.size⟩
theorem nh.to{w w':I}{T az:a7}{k:Nat}{A:av}{u:dM}(h:nh (λq=>¬T.M q) w A u)(ht:cI T az w w' k):nh (λq=>¬az.M q) w' A u:=by
 have hc:=ht.ak;have a:¬T.N A.block:=λb=>h.bj (a7.jq b);refine⟨af.cell hc (A:=A.add 1) a h.bd,af.cell hc (A:=(A.add 1).add 1) a h.bo,af.cell hc (A:=(A.add 1).add 2) a h.bA,af.cell hc (A:=(A.add 1).add 3) a h.fk,af.cell hc (A:=A.add 5) a h.g_,?_,λhm=>?_,fB h.lt hc.size⟩
 .have h1:=ht.cF (lo:=0) (h.cF.bG λq _ hb=>⟨c8 _,hb⟩)
  exact h1.bG λq _ hb=>hb.2
 .rcases ht.dZ _ hm with h1|h1
  .exact h.bj h1
  .have:=h.lt;omega
theorem iQ.base{T:a7}{c:dO}{n:aK}{w0 w w':I}{v:Y}(h:iQ T c n w v w')(hx:Ext w0 w):iQ T c n w0 v w':=by
 obtain⟨az,c',m,s,aA,a,b,d⟩:=h;exact⟨az,c',m,s,aA,((dy.ext T c hx).trans a).mono J,b,d⟩
theorem iQ.out{T:a7}{c:dO}{n:aK}{w w':I}{v:Y}(h:iQ T c n w v w'):∃ (s:ae) (e:Int),v=.tuple #[s,e]:=by
 obtain⟨az,c',m,s,aA,b,d,a⟩:=h;rcases a with ⟨ks,rfl,_⟩|⟨rfl,_⟩
 .exact⟨s,0,rfl⟩
 .exact⟨s,3,rfl⟩
theorem Mj{U W:Nat->Prop}{w0 dv aj jA am jn:I}{T:a7}{c:dO}{nb bD f bv:Nat}{A:av}{u:dM}{n o:aK}{K V D g i j:ae}{fr other:Nat}{Q:Y->I->Prop}(h:dx w0 T c)(hx:Ext w0 dv)(an:Var w0 nb (eW n K V D) 397)(ao:Var w0 bD (eW o g i j) 397)
 (ap:Var dv f (eW o g i j) 397) (aq:Var dv bv (eW n K V D) 397) (h1:w0.heap.size<=f) (a4:w0.heap.size<=bv) (ar:f≠bv) (au:cr U w0 n K V D) (aw:cr W w0 o g i j) (hu:nh (λq=>¬T.M q) w0 A u)
 (ax:T.C.D.bx<=900000090) (az:2<=cN T) (aA:c.made.length<=900) (kK:cV n) (bH:cV o) (bI:bV n<=400) (bJ:bV o<=400) (aB:o.leaf=n.leaf) (a5:fr<u.n.keys.length) (aC:dg u.n.keys[fr]) (m:aK) (hm:m=if u.c2<other then dW n u.n.keys[fr] o else dW o u.n.keys[fr] n) (k:ng m) (bK:fr<=1000)
 (aD:∀ (s:ae) (e:Int) (w':I),iQ T c m w0 (.tuple #[.slice s.a s.len s.cap,.int .i64 e]) w'->Q (.tuple #[.slice s.a s.len s.cap,.int .i64 (fr:Nat),.int .i64 ((fr+2:Nat):Int),.int .i64 e]) w') (aG:aj.heap.size=nb) (aM:jA.heap.size=bD) (a6:am.heap.size=f) (a8:jn.heap.size=bv):
 aa.BC aj jA am jn (some ⟨c.cb,0,none⟩) (some A) (fr:Nat) (other:Nat) dv Q:=by
 have bL:=an.lt;have bM:=ao.lt;have bO:=hx.size;have fn:=kK.fy J;have bP:=bH.fy J;(delta aa.BC cD ay r1 ah bC ad aS aE aR bH eU bl bq bw oO c0 rU eG al;dsimp only);rw[aG,aM,a6,a8];refine k3 (λl=>∃ (a b:aK) (F G H L N O:ae) (aF aH:Nat->Prop),Ext w0 l/\Var l f (eW a F G H) 397/\Var l bv (eW b L N O) 397/\cr aF w0 a F G H/\cr aH w0 b L N O/\m=dW a u.n.keys[fr] b/\cV a/\cV b/\a.leaf=b.leaf/\a.keys.length<=200/\b.keys.length<=200)
  (λq p=>⟨A,rfl,_,(hu.ext hx).g_,λhb=>?_,λhb=>p _ ⟨o,n,g,i,j,K,V,D,W,U,hx,ap,aq,aw,au,?_,bH,kK,aB,J,J⟩⟩) ?_
 .have hb:u.c2<other:=by
   have:((other:Nat):Int)>((u.c2:Nat):Int):=b8 hb;omega
  have d:=hx.trans (b1 dv);obtain⟨a9,cw,bB,a_⟩:=cl (an.ext d);obtain⟨bb,bc,bd,be⟩:=cl (ao.ext d);have aI:=ap.drew;have bf:=aq.drew;refine aO ⟨λq=>q=f,(show nb≠f from J),_,a9,K,cw,V,bB,D,a_,(show bD≠f from J),_,bb,g,bc,i,bd,j,be,aI.bX rfl hG,rfl,cA aI (us:=eW n K V D) rfl rfl λbQ bg X bR=>?_⟩;have aJ:=bf.ak X (λe=>ar e.symm);refine⟨X,aJ.bX rfl hG,rfl,cA aJ (us:=eW o g i j) rfl rfl λbS bh aL bU=>?_⟩;exact p _ ⟨n,o,K,V,D,g,i,j,U,W,Ext.bN (Ext.bN d X h1) aL a4,bg.ak aL ar,bh,au,aw,by rw[hm,if_pos hb],kK,bH,aB.symm,J,J⟩
 .have hb:¬u.c2<other:=by
   have:¬((other:Nat):Int)>((u.c2:Nat):Int):=cL hb;omega
  rw[hm,if_neg hb]
 rintro l ⟨a,b,F,G,H,L,N,O,aF,aH,bi,bj,hb,aP,aQ,Z,aT,sb,aU,la,lb⟩;have d:=bi.trans (b1 l);have bk:=bj.drew;have bm:=hb.drew;obtain⟨bn,a1,a2,a3⟩:=cl bk;obtain⟨b0,bz,cf,bp⟩:=cl bm;have aV:=hu.ext d;obtain⟨br,tk,bs,bt,bu,P,bW⟩:=b6.at aV.cF.keys a5;have aW:cV (dW a u.n.keys[fr] b):=by rw[←Z];exact k.1
 have z:=qp (aP.ext d) (aQ.ext d) P.1 (λq p=>(P.2.2 q p).2) (by have:=aC.2;omega) aT sb aU aW J J;rw[←Z]at z;have aX:IntKind.wrap .i64 (((fr:Nat):Int)+2)=((fr+2:Nat):Int):=by rw[bT J J];rfl
 obtain⟨wd,bY⟩:∃wd,wd=l.drew:=⟨_,rfl⟩;refine aO ⟨λ_=>False,id,_,bn,F,a1,G,a2,H,a3,A,rfl,id,u.K,aV.bo,br,bs,bt,id,tk,bu,id,_,b0,L,bz,N,cf,O,bp,?_,?_⟩
 .refine z.use ?_
  rintro _ bA ⟨r,t,w,rfl,ab,x⟩;refine⟨_,r,t,w,true,rfl,x,aN (vs:=[.bool false,.slice none 0 0,.slice none 0 0,.slice none 0 0]) rfl λbZ aY aZ b2=>⟨aZ,aY.bX rfl hG,rfl,cA aY (us:=eW m r t w) rfl rfl λac af R bE=>⟨λhb=>(by cases hb),λ_=>?_⟩⟩⟩;have S:Ext bA ac:=Ext.bN aZ R (ba _);have B:=(d.trans x).trans S;obtain⟨ag,m1,m2,ai⟩:=cl af;refine⟨_,ag,r,m1,t,m2,w,ai,(zA (h.ext B) ax az aA (ab.ext S) k.1 k.2.1 k.2.2).use ?_⟩;intro v w' E;obtain⟨s,e,rfl⟩:=E.out;rw[aX];exact⟨s,e,rfl,aD s e w' (E.base B)⟩
 .refine aN (vs:=[.bool false,.slice none 0 0,.slice none 0 0,.slice none 0 0]) rfl λb3 bF y b4=>⟨y,?_⟩
  have z:=qp ((aP.ext d).ext y) ((aQ.ext d).ext y) (P.1.ext y) (λq p=>fB (P.2.2 q p).2 y.size) (by have:=aC.2;omega) aT sb aU aW J J;rw[←Z]at z;refine z.use ?_;rintro _ b5 ⟨r,t,w,rfl,ab,x⟩;have a0:=bF.ext x;refine⟨_,r,t,w,true,rfl,x,a0.bX rfl hG,rfl,cA a0 (us:=eW m r t w) rfl rfl λac af R bE=>⟨λhb=>(by cases hb),λ_=>?_⟩⟩;have S:Ext l.drew ac:=Ext.bN (y.trans x) R (ba _);have B:=d.trans S;have bG:=cr.ak ab R λq p e=>by omega
  obtain⟨ag,m1,m2,ai⟩:=cl af;refine⟨_,ag,r,m1,t,m2,w,ai,(zA (h.ext B) ax az aA bG k.1 k.2.1 k.2.2).use ?_⟩;intro v w' E;obtain⟨s,e,rfl⟩:=E.out;rw[aX];exact⟨s,e,rfl,aD s e w' (E.base B)⟩
theorem dy.leave{T:a7}{c c':dO}{E G:Nat->Prop}{w w':I}{no:Nat}(h:cI T (T.cW E G) w w' 0)(a:E=T.E)(b:∀q,T.G q->G q)(h1:c'.cb=c.cb)(d:c'.made=c.made)(e:c'.left=c.left++ [no]):dy T (T.cW E G) c c' [] [no] w w' 0:=
 ⟨h,a,b,rfl,rfl,h1,by rw[d,g3],e,List.nodup_nil,λ_ h=>(by cases h),λno=>by simp[a7.cW],λ_ _=>⟨rfl,rfl⟩,by simp[cN,a7.cW]⟩
theorem Mk{w B jA:I}{T:a7}{c:dO}{nb bD:Nat}{A:av}{u:dM}{n o:aK}{K V D j k l:ae}{fr other no:Nat}{Q:Y->I->Prop}(h:dx w T c)(au:Var w nb (eW n K V D) 397)(ax:Var w bD (eW o j k l) 397)
 (az:¬T.M nb) (aC:¬T.M bD) (aD:cr (λq=>¬T.M q) w n K V D) (aF:cr (λq=>¬T.M q) w o j k l) (hu:nh (λq=>¬T.M q) w A u)
 (aH:T.C.D.bx<=900000090) (aI:2<=cN T) (aJ:c.made.length<=900) (bu:c.left.length<=900) (kK:cV n) (bH:cV o) (aL:bV n<=400) (aP:bV o<=400) (aQ:o.leaf=n.leaf) (aT:fr<u.n.keys.length) (aU:dg u.n.keys[fr]) (m:aK) (hm:m=if u.c2<other then dW n u.n.keys[fr] o else dW o u.n.keys[fr] n) (aV:ng m) (aW:fr<=1000)
 (aX:∀ (s:ae) (e:Int) (cq:a7) (bd:dO) (w1 w':I),dy T cq c bd [] [no] w w1 0->iQ cq bd m w1 (.tuple #[.slice s.a s.len s.cap,.int .i64 e]) w'->Q (.tuple #[.slice s.a s.len s.cap,.int .i64 (fr:Nat),.int .i64 ((fr+2:Nat):Int),.int .i64 e]) w') (aG:B.heap.size=nb) (aM:jA.heap.size=bD):
 aa.BD B jA (some ⟨c.cb,0,none⟩) (some A) (fr:Nat) (other:Nat) (no:Nat) 0 w Q:=by
 (delta aa.BD rW ah ay aR ap ad st bC aS aE c0 bH cD r1 eU bl bq bw oO rU eG al;dsimp only);rw[aG,aM];refine⟨λhb=>(by cases hb),λ_=>⟨_,rfl,_,h.cells.2.2,?_⟩⟩;obtain⟨d,ib,aA,bz,aY,aZ,a0⟩:=Gx h no J;refine aO ⟨d,ib,aA,_,rfl,by rw[aw];exact aY,by rw[aw];exact aZ,aO ?_⟩;rw[aw];obtain⟨f,aj⟩:∃f,f=ib.setCell ⟨c.cb,0+2,none⟩ (.slice d.a d.len d.cap):=⟨_,rfl⟩;rw[←aj];obtain⟨am,an⟩:=a0 f aj;have ao:=dy.leave (c:=c) (c':={c with hF:=d,left:=c.left++ [no]}) (no:=no) an rfl (λq F=>.inl F) rfl rfl rfl;obtain⟨cq,y⟩:∃cq,cq=T.cW T.E λq=>T.G q\/aB d q:=⟨_,rfl⟩;obtain⟨bd,H⟩:∃bd:dO,bd={c with hF:=d,left:=c.left++ [no]}:=⟨_,rfl⟩;have a1:bd.cb=c.cb:=by rw[H]
 have a2:bd.made=c.made:=by rw[H]
 have a3:cq.C.D.bx<=900000090:=by rw[y];exact aH
 have a4:2<=cN cq:=by rw[y];exact aI
 rw[←y,←H]at am ao;rw[←y]at an;have L:Ext f f.drew:=b1 _;have aq:=am.ext L;have O:dy T cq c bd [] [no] w f.drew 0:=ao.trans (dy.ext cq bd L);obtain⟨b,a5⟩:∃b,b=f.drew:=⟨_,rfl⟩;rw[←a5]at L aq O⊢;have z:=O.to;have P:∀q,¬T.M q->¬T.N q:=λq h1 R=>h1 (a7.jq R);have S:=au.ak z.ak (P _ az);have U:=ax.ak z.ak (P _ aC);have ar:∀ {m:aK}{K V D:ae},cr (λq=>¬T.M q) w m K V D->cr (λq=>¬T.M q) b m K V D:=λhm=>cr.ak hm z.ak λq F=>P q F;have a6:=ar aD;have a8:=ar aF;have a9:=hu.to z;obtain⟨a_,cw,bB,bb⟩:=cl S;obtain⟨bc,be,bf,bg⟩:=cl U;have bA:=S.lt;have bE:=U.lt;have fin:∀ (dv W jn:I) (p bv:Nat),W.heap.size=p->jn.heap.size=bv->Ext b dv->Var dv p (eW o j k l) 397->Var dv bv (eW n K V D) 397->b.heap.size<=p->b.heap.size<=bv->p≠bv->aa.BC B jA W jn (some ⟨c.cb,0,none⟩) (some A) (fr:Nat) (other:Nat) dv Q:=by
  intro dv W jn p bv bh bi hx bj hb h1 R bk;have:=Mj aq hx S U bj hb h1 R bk a6 a8 a9 a3 a4 (by rw[a2];exact aJ) kK bH aL aP aQ aT aU m hm aV aW (Q:=Q) (λs e w' hf=>aX s e cq bd b w' O hf) aG aM bh bi;rw[a1]at this;exact this
 refine aO ⟨λq=>b.heap.size<=q,(show¬b.heap.size<=bD from J),_,bc,j,be,k,bf,l,bg,(show¬b.heap.size<=nb from J),_,a_,K,cw,V,bB,D,bb,?_,?_⟩
 .refine aN (vs:=[.bool false,.slice none 0 0,.slice none 0 0,.slice none 0 0]) rfl λX bm r bn=>⟨af.bL r,aN (vs:=[.bool false,.slice none 0 0,.slice none 0 0,.slice none 0 0]) rfl λbo Z g bp=>?_⟩
  have t:=bm.ext g;refine⟨af.bL g,t.bX rfl hG,rfl,cA t (us:=eW o j k l) rfl rfl λab ac i br=>?_⟩;have v:=Z.ak i J;have ag:Ext b ab:=Ext.bN (r.trans g) i (ba _);refine⟨i.mono λq _ e=>J,v.bX rfl hG,rfl,cA v (us:=eW n K V D) rfl rfl λdt ai x bs=>?_⟩;rw[←aG,←aM];exact fin dt b X _ _ rfl rfl (Ext.bN ag x J) (ac.ak x J) ai (ba _) J J
 .refine aN (vs:=[.bool false,.slice none 0 0,.slice none 0 0,.slice none 0 0]) rfl λX bt r bn=>⟨af.bL r,aN (vs:=[.bool false,.slice none 0 0,.slice none 0 0,.slice none 0 0]) rfl λbo t g bp=>?_⟩
  have Z:=bt.ext g;refine⟨af.bL g,t.bX rfl hG,rfl,cA t (us:=eW o j k l) rfl rfl λab ac i br=>?_⟩;have v:=Z.ak i J;have ag:Ext b ab:=Ext.bN (r.trans g) i J;refine⟨i.mono λq _ e=>J,v.bX rfl hG,rfl,cA v (us:=eW n K V D) rfl rfl λdt ai x bs=>?_⟩;rw[←aG,←aM];exact fin dt X b _ _ rfl rfl (Ext.bN ag x (ba _)) (ac.ak x J) ai J (ba _) J
theorem cI.read{w w':I}{T:a7}{E:Nat->Prop}{aU:cv}{P:Nat->aq aK}{k:Nat}(h:cI (T.cW E λ_=>False) ((T.cW E λ_=>False).cB aU P) w w' k)(f:∀q,T.E q\/T.G q->E q)(i:∀q,E q->T.E q\/T.G q\/w.heap.size<=q):cI T (T.cB aU P) w w' k:=by
 refine⟨h.bE,h.sb,h.n,h.g,h.s1,h.s2,h.c,h.d,h.cd,h.gen,h.bx,h.calm,h.ak.mono λq _ a=>?_,λq a=>?_,λq a=>?_⟩
 .rcases a with a|a|a|a
  .exact .inl a
  .exact .inr (.inl a)
  .exact .inr (.inr (.inl a))
  .exact a.elim
 .have h1:((T.cW E λ_=>False).cB aU P).M q:=by
   rcases a with a|a|a|a
   .exact .inl a
   .exact .inr (.inl a)
   .exact .inr (.inr (.inl a))
   .exact .inr (.inr (.inr (.inl (f q a))))
  rcases h.dZ q h1 with b|b
  .rcases b with a|a|a|a|a
   .exact .inl (.inl a)
   .exact .inl (.inr (.inl a))
   .exact .inl (.inr (.inr (.inl a)))
   .rcases i q a with e|e|e
    .exact .inl (.inr (.inr (.inr (.inl e))))
    .exact .inl (.inr (.inr (.inr (.inr e))))
    .exact .inr e
   .exact a.elim
  .exact .inr b
 .rcases a with a|a|a|a
  .rcases h.fn q (.inl a) with b|b
   .rcases b with b|b|b|b
    .exact .inl (.inl b)
    .exact .inl (.inr (.inl b))
    .exact .inl (.inr (.inr (.inl b)))
    .exact b.elim
   .exact .inr b
  .exact .inl (.inr (.inl a))
  .exact .inl (.inr (.inr (.inl a)))
  .exact .inl (.inr (.inr (.inr a)))
theorem dy.cache{T:a7}{c:dO}{aU:cv}{w w':I}{k:Nat}(h:cI T (T.cB aU T.P) w w' k)(a:∀j,aU.view j=T.C.view j):dy T (T.cB aU T.P) c c [] [] w w' k:=
 ⟨h,rfl,λ_ h=>h,rfl,rfl,rfl,by simp,by simp,List.nodup_nil,λ_ h=>(by cases h),λno=>by simp[a7.cB],λno _=>⟨rfl,a no⟩,by simp[cN,a7.cB]⟩
theorem GF{w w1:I}{T:a7}{c:dO}{Z:Nat->Prop}{no:Nat}{o:aK}(h:dx w T c)(hx:Ext w w1)(f:∀q,Z q->w.heap.size<=q/\q<w1.heap.size)(u:T.C.D.bx<=999999999)(x:T.P no=some o):
 aC ai 297 #[.pointer (some T.bE),no,o.leaf] w1 (λv w'=>∃aU:cv,(∀j,aU.view j=T.C.view j)/\af (λq=>T.N q/\¬T.G q) w1 w'/\(∀q,(T.cB aU T.P).M q->T.M q\/w1.heap.size<=q)/\
  (∀d,af Z w' d->dx d (T.cB aU T.P) c/\dy T (T.cB aU T.P) c c [] [] w d 2)/\
  ((∃ (K V D:ae),v=.tuple #[dT o K V D,(0:Int)]/\cr (λq=>w1.heap.size<=q/\¬(T.cB aU T.P).M q) w' o K V D)\/(v=.tuple #[dT vm cJ cJ cJ,(3:Int)]/\¬T.C.D.calm 2))):=by
 obtain⟨y,g⟩:=h.t.fZ no o x;obtain⟨cp,i⟩:∃cp,cp=λq=>T.E q\/T.G q\/Z q:=⟨_,rfl⟩;have b:∀q,T.E q\/T.G q\/Z q->cp q:=λq a=>by rw[i];exact a
 have k:∀q,cp q->T.E q\/T.G q\/Z q:=λq a=>by rw[i]at a;exact a
 have l:cM w1 (T.cW cp λ_=>False):=h.t.grow (W:=λ_=>False) hx (λ_ h=>h.elim) (λq a=>(k q a).imp id (Or.imp id (f q))) (λ_ h=>h.elim) λ_ _ h=>h;have m:∀q,(T.cW cp λ_=>False).N q->T.N q/\¬T.G q:=λq a=>⟨by
  rcases a with a|a|a|a
  .exact .inl a
  .exact .inr (.inl a)
  .exact .inr (.inr (.inl a))
  .exact a.elim,λhg=>l.mG (b q (.inr (.inl hg))) a⟩
 refine(Gu l u y g.two o.leaf).mono ?_;rintro v w' ⟨aU,z,ht,n,A⟩;have L:=hx.size;have O:=ht.ak.size;have r:=(cI.ext (T.cW cp λ_=>False) hx).trans ht;rw[cz]at r;have B:cI T (T.cB aU T.P) w w' 2:=cI.read (E:=cp) r (λq a=>b q (a.imp id .inl)) λq a=>(k q a).imp id (Or.imp id λh=>(f q h).1);have s:af (λq=>T.N q/\¬T.G q) w1 w':=ht.ak.mono λq _ a=>m q a;refine⟨aU,n,s,λq a=>?_,λd hc=>?_,?_⟩
 .rcases a with a|a
  .exact(ht.fn q (.inl a)).imp (λh=>a7.jq (m q h).1) id
  .exact .inl (.inr a)
 .have F:cM d (T.cB aU T.P):=z.grow (E:=T.E) (G:=T.G) hc (λq a _=>.inl (b q (.inr (.inr a)))) (λq a=>.inl (b q (.inl a))) (λq a=>.inl (b q (.inr (.inl a)))) λq a=>(h.t.eR q a).2.2
  refine⟨(h.ext hx).of (W:=λq=>(T.N q/\¬T.G q)\/Z q) F ((s.mono λq _ a=>.inl a).trans (hc.mono λq _ a=>.inr a)) (λq hg a=>?_) rfl (λ_ h=>h) ht.cy.1,dy.cache ?_ n⟩
  .rcases a with a|a
   .exact a.2 hg
   .have:=h.t.lt (q:=q) (.inr (.inr (.inr (.inr hg))))
    have:=(f q a).1;omega
  .exact B.step (E:=T.E) (G:=T.G) hc (λq a Q=>by have:=(f q a).1;omega) (λq a=>.inl a) λq a=>.inl a
 .rcases A with ⟨bB,K,V,D,rfl,H,eY⟩|⟨e,rfl,J,R⟩
  .obtain rfl:=iw.uniq g H
   refine .inl ⟨K,V,D,rfl,eY.bG λq a hb=>⟨hb.1,λhm=>hb.2 ?_⟩⟩;rcases hm with hm|hm|hm|hm|hm
   .exact .inl hm
   .exact .inr (.inl hm)
   .exact .inr (.inr (.inl hm))
   .exact .inr (.inr (.inr (.inl (b q (.inl hm)))))
   .exact .inr (.inr (.inr (.inl (b q (.inr (.inl hm))))))
  .refine .inr ?_
   rcases J with ⟨rfl,h1⟩|h1|⟨_,_,h1⟩
   .exact⟨rfl,h1⟩
   .obtain⟨p,aA,_⟩:=g
    have h1:gA (no:Int) (T.C.view no)=.error e:=h1;rw[aA]at h1;cases h1
   .exact absurd g (h1 o)
def kL(u:dM):Nat:=if u.c2=0 then 1 else u.c2-1
def ni(u:dM)(n o:aK):aK:=if u.c2<kL u then dW n (u.n.keys.getD (u.c2-1) []) o else dW o (u.n.keys.getD (u.c2-1) []) n
def CD(T:a7)(c:dO)(n:aK)(u:dM)(w:I)(v:Y)(w':I):Prop:=
 (80<=bV n/\∃ (s:ae) (e:Int),v=.tuple #[s,u.c2,.int .i64 ((u.c2+1:Nat):Int),e]/\iQ T c n w (.tuple #[s,e]) w')\/
 (bV n<80/\∃ (cq:a7) (bd:dO),v=.tuple #[(),(0:Int),(0:Int),(3:Int)]/\dx w' cq bd/\dy T cq c bd [] [] w w' 2/\¬T.C.D.calm 2)\/
 (bV n<80/\∃ (o:aK) (no:Nat) (cq:a7) (bd:dO) (w1:I) (s:ae) (e:Int),u.n.kids[kL u]? =some no/\T.P no=some o/\dy T cq c bd [] [no] w w1 2/\
   v=.tuple #[s,.int .i64 ((u.c2-1:Nat):Int),.int .i64 ((u.c2-1+2:Nat):Int),e]/\iQ cq bd (ni u n o) w1 (.tuple #[s,e]) w')
theorem Ml{B:Nat->Prop}{w:I}{T:a7}{c:dO}{n:aK}{K V D:ae}(h:dx w T c)(j:cr B w n K V D)(d:ng n)(o:T.C.D.bx<=900000080)(k:2<=cN T)(l:c.made.length<=900):
 aC ai 326 #[.pointer (some c.cb),dT n K V D,.pointer none] w (λv w'=>∃ (s:ae) (e:Int),v=.tuple #[s,(0:Int),(0:Int),e]/\iQ T c n w (.tuple #[s,e]) w'):=by
 refine okF (aa.qm (some c.cb) n.leaf K V D none) ao.qm func326 ?_;(delta aa.qm ah aS ad aE aR b4 ay r1 al eG bl bq bw bC nJ c0 bH rW ap st cD eU oO rU;dsimp only);refine aN (vs:=eW n K V D) rfl λw1 m f p=>?_;refine cc (λb w'=>b=true/\w1=w') (λq g=>⟨λ_=>g _ _ ⟨rfl,rfl⟩,λh=>(by cases h)⟩) ?_;rintro _ _ ⟨rfl,rfl⟩;refine⟨λ_=>AQ (λa b w'=>a=0/\b=0/\w1=w') (λq g=>⟨λh=>(by cases h),λ_=>g _ _ _ ⟨rfl,rfl,rfl⟩⟩) ?_,λh=>(by cases h)⟩;rintro _ _ _ ⟨rfl,rfl,rfl⟩;obtain⟨cu,bd,bo,bA⟩:=cl m;refine⟨_,cu,K,bd,V,bo,D,bA,(zA (h.ext f) J k l (j.ext f) d.1 d.2.1 d.2.2).use ?_⟩;intro v w' i;obtain⟨s,e,rfl⟩:=i.out;exact⟨s,e,rfl,s,e,rfl,i.base f⟩
theorem Mm{w:I}{T:a7}{c:dO}{n:aK}{K V D:ae}{A:av}{u:dM}(h:dx w T c)(aq:cr (λq=>¬T.M q) w n K V D)(hu:nh (λq=>¬T.M q) w A u)(kK:cV n)(a1:bV n<=400)(ar:80<=bV n->ng n)
 (a2:bV n<80->∃ (o:aK) (no:Nat),u.n.kids[kL u]? =some no/\T.P no=some o/\o.leaf=n.leaf/\u.c2-1<u.n.keys.length/\dg (u.n.keys.getD (u.c2-1) [])/\ng (ni u n o)) (bz:u.c2<=900)
 (bB:T.C.D.bx<=900000080) (aM:2<=cN T) (aP:c.made.length<=900) (a3:c.left.length<=900):
 aC ai 326 #[.pointer (some ⟨c.cb,0,none⟩),dT n K V D,.pointer (some A)] w (CD T c n u w):=by
 have bE:=kK.fy J;refine okF (aa.qm (some ⟨c.cb,0,none⟩) n.leaf K V D (some A)) ao.qm func326 ?_;(delta aa.qm ah aS ad aE aR b4 ay r1 al eG bl bq bw bC nJ c0 bH rW ap st cD eU oO rU;dsimp only);refine aN (vs:=eW n K V D) rfl λw1 U aQ bF=>?_;obtain⟨nb,W⟩:∃nb,nb=w.heap.size:=⟨_,rfl⟩;rw[←W]at U⊢;refine cc (λb w'=>b=decide (80<=bV n)/\Ext w1 w') (λq f=>⟨λh=>(by cases h),λ_=>?_⟩) ?_
 .obtain⟨cu,bd,bo,bA⟩:=cl U
  refine⟨_,cu,K,bd,V,bo,D,bA,(qo (aq.ext aQ) kK J).use ?_⟩;rintro _ bI ⟨rfl,a4⟩;refine⟨_,rfl,f _ _ ⟨?_,a4⟩⟩;rw[fL,cX,cX];omega
 rintro _ m ⟨rfl,X⟩;have Y:=aQ.trans X;refine⟨λhb=>?_,λhb=>?_⟩
 .have hb:=b8 hb
  have H:=ar hb;refine AQ (λa b w'=>a=(u.c2:Nat)/\b=((u.c2+1:Nat):Int)/\Ext m w') (λq f=>⟨λ_=>?_,λh=>(by cases h)⟩) ?_
  .have x:Ext m m.drew:=b1 _
   have aT:=hu.ext (Y.trans x);refine aO ⟨A,rfl,id,_,aT.g_,A,rfl,id,_,aT.g_,f _ _ _ ⟨rfl,?_,x⟩⟩;rw[bT J J];rfl
  rintro _ _ bJ ⟨rfl,rfl,aV⟩;have p:=Y.trans aV;obtain⟨cu,bd,bo,bA⟩:=cl (U.ext (X.trans aV));refine⟨_,cu,K,bd,V,bo,D,bA,(zA (h.ext p) J aM aP (aq.ext p) H.1 H.2.1 H.2.2).use ?_⟩;intro v w' ab;obtain⟨s,e,rfl⟩:=ab.out;exact⟨s,e,rfl,.inl ⟨hb,s,e,rfl,ab.base p⟩⟩
 .have hb:¬80<=bV n:=cL hb
  obtain⟨o,no,au,ac,aw,aW,a5,H⟩:=a2 J;obtain⟨bK,a6⟩:=h.t.fZ no o ac;obtain⟨_,bH,bM⟩:=a6.is;have ag:=hu.ext Y;refine⟨A,rfl,_,ag.g_,((u.c2-1:Nat):Int),m,?_,?_⟩
  .rw[run_max_int2]
   congr 2
   by_cases h0:u.c2=0
   .rw[h0];rfl
   .rw[bT J J,if_neg J];omega
  refine cc (λa w'=>a=(kL u:Nat)/\m=w') (λq f=>⟨A,rfl,_,ag.g_,λh0=>f _ _ ⟨?_,rfl⟩,λh0=>f _ _ ⟨?_,rfl⟩⟩) ?_
  .have:u.c2=0:=by simpa using h0
   unfold kL;rw[if_pos this];rfl
  .have:u.c2≠0:=by simpa using h0
   unfold kL;rw[if_neg this]
  rintro _ _ ⟨rfl,rfl⟩;have a8:kL u<u.n.kids.length:=(l9.1 au).1;obtain⟨aH,a9,a_,aX⟩:=dd.at ag.cF.kids a8;have bb:u.n.kids[kL u]=no:=(l9.1 au).2;rw[bb]at aX;refine⟨A,rfl,u.D,ag.fk,aH,a9,a_,_,aX,aO ?_⟩;have x:Ext m m.drew:=b1 _;obtain⟨y,bc⟩:∃y,y=m.drew:=⟨_,rfl⟩;rw[←bc]at x⊢;have p:=Y.trans x;have ax:=h.ext p;have bO:=p.size;have bP:=(X.trans x).size;have az:=U.ext (X.trans x);have aA:∀q,T.M q->q<w.heap.size:=λq f=>h.t.lt f;have aY:u.n.keys.getD (u.c2-1) []=u.n.keys[u.c2-1]:=by rw[g4,eJ aW];rfl
  have fin:∀ (aU:cv) (jA:I) (bD:Nat) (g i k:ae) (d:I),jA.heap.size=bD->dx d (T.cB aU T.P) c->dy T (T.cB aU T.P) c c [] [] y d 2->Var d nb (eW n K V D) 397->Var d bD (eW o g i k) 397->y.heap.size<=bD->¬(T.cB aU T.P).M bD->cr (λq=>¬(T.cB aU T.P).M q) d o g i k->
   aa.BD w jA (some ⟨c.cb,0,none⟩) (some A) ((u.c2-1:Nat):Int) (kL u:Nat) (no:Nat) 0 d (λv w'=>CD T c n u w v w'):=by
   intro aU jA bD g i k d be z aj bf bg bQ bh bi;have aZ:=((dy.ext T c p).trans aj).mono (j:=2) J;have aB:=aZ.to;have bj:¬(T.cB aU T.P).M nb:=λhm=>by
    rcases aj.to.dZ nb hm with h1|h1
    .have:=aA _ h1;omega
    .omega
   have bk:cr (λq=>¬(T.cB aU T.P).M q) d n K V D:=(aB.cF (lo:=0) (aq.bG λq _ hb=>⟨c8 _,hb⟩)).bG λq _ hb=>hb.2;have bm:(T.cB aU T.P).C.D.bx<=900000090:=dQ aB.bx J;refine Mk z bf bg bj bh bk bi (hu.to aB) bm aM aP a3 kK bH a1 J aw aW (by rw[←aY];exact a5) (ni u n o) (by unfold ni;rw[aY]) H J ?_ W.symm be;intro s e cq bd bn w' bp hf;exact .inr (.inr ⟨J,o,no,cq,bd,bn,s,e,au,ac,(aZ.trans bp).mono J,rfl,hf⟩)
  have am:∀q,T.N q->q<w.heap.size:=λq f=>aA q (a7.jq f);have err:∀ (aU:cv) (d:I),dx d (T.cB aU T.P) c->dy T (T.cB aU T.P) c c [] [] y d 2->¬T.C.D.calm 2->CD T c n u w (.tuple #[.slice none 0 0,.int .i64 0,.int .i64 0,.int .i64 3]) d:=by
   intro aU d z aj L;exact .inr (.inl ⟨J,_,c,rfl,z,((dy.ext T c p).trans aj).mono J,L⟩)
  obtain⟨cu,bd,bo,bA⟩:=cl az;refine⟨λq=>T.N q/\¬T.G q,_,rfl,λf=>f.2 h.gc,_,ax.cells.1,(λf=>by have:=am _ f.1;show False;exact absurd this (by show¬nb<w.heap.size;omega)),_,cu,?_,?_⟩
  .rw[←aw]
   refine(GF (Z:=λ_=>False) ax (af.refl _ _) (λ_ h=>h.elim) J ac).use ?_;rintro _ E ⟨aU,ab,r,a0,O,aD⟩;have br:=r.size;rcases aD with ⟨g,i,k,rfl,aF⟩|⟨rfl,L⟩
   .refine⟨_,g,i,k,0,rfl,r,aN (vs:=[.bool false,.slice none 0 0,.slice none 0 0,.slice none 0 0]) rfl λbs Q R bt=>⟨af.bL R,Q.bX rfl hG,rfl,cA Q (us:=eW o g i k) rfl rfl λd S l aG=>?_⟩⟩
    have B:Ext E d:=Ext.bN R l (ba _);obtain⟨an,aI⟩:=O E (af.refl _ _);have F:=az.ak r λf=>by have:=am _ f.1;omega
    subst W;refine fin aU E _ g i k d rfl (an.ext B) ((aI.trans (dy.ext _ _ B)).mono J) (F.ext B) S J (λhm=>by have:=an.t.lt hm;omega) ?_;exact(aF.ext B).bG λq _ hb=>hb.2
   .refine⟨_,cJ,cJ,cJ,3,rfl,r,aN (vs:=[.bool false,.slice none 0 0,.slice none 0 0,.slice none 0 0]) rfl λbs Q R bt=>⟨af.bL R,Q.bX rfl hG,rfl,cA Q (us:=eW vm cJ cJ cJ) rfl rfl λd S l aG=>⟨λ_=>?_,λhb=>(by cases hb)⟩⟩⟩
    have B:Ext E d:=Ext.bN R l (ba _);obtain⟨an,aI⟩:=O E (af.refl _ _);exact err aU d (an.ext B) ((aI.trans (dy.ext _ _ B)).mono J) L
  .refine aN (vs:=[.bool false,.slice none 0 0,.slice none 0 0,.slice none 0 0]) rfl λbR bu aJ bS=>⟨af.bL aJ,?_⟩
   rw[←aw];refine(GF (Z:=λq=>q=y.heap.size) ax aJ (λq e=>⟨J,J⟩) J ac).use ?_;rintro _ E ⟨aU,ab,r,a0,O,aD⟩;have br:=r.size;have F:=bu.ak r λf=>by have:=am _ f.1;omega
   have bv:=(az.ext aJ).ak r λf=>by have:=am _ f.1;omega
   rcases aD with ⟨g,i,k,rfl,aF⟩|⟨rfl,L⟩
   .refine⟨_,g,i,k,0,rfl,F.bX rfl hG,rfl,cA F (us:=eW o g i k) rfl rfl λd S l aG=>?_⟩
    obtain⟨z,aL⟩:=O d l;subst W;refine fin aU y _ g i k d rfl z aL (bv.ak l J) S (ba _) (λhm=>?_) ?_
    .rcases a0 _ hm with h1|h1
     .have:=aA _ h1;omega
     .omega
    .refine(cr.ak aF l λq f e=>by have:=f.1;omega).bG λq _ hb=>hb.2
   .refine⟨_,cJ,cJ,cJ,3,rfl,F.bX rfl hG,rfl,cA F (us:=eW vm cJ cJ cJ) rfl rfl λd S l aG=>⟨λ_=>?_,λhb=>(by cases hb)⟩⟩
    obtain⟨z,aL⟩:=O d l;exact err aU d z aL L
structure CE(T az:a7)(l:O Nat)(w w':I):Prop where
 to:cI T az w w' 0
 E:az.E=T.E
 G:az.G=T.G
 root:az.root=T.root
 aY:az.aY=T.aY
 f:∀no,az.f no=(T.f no&& !decide (no∈l))
 e4:∀no,(no∉l\/T.g no=true)->az.P no=T.P no/\az.C.view no=T.C.view no
theorem GG{w:I}{T:a7}{c:dO}{s:ae}{l:O Nat}(h:dx w T c)(hs:Src 1 w s (gJ l))(B:∀q,aB s q->T.G q)(R:∀x∈l,T.f x=true)(eY:l.Nodup)(af:l.length<=10000):
 aC ai 309 #[.pointer (some c.cb),s] w (λv w'=>v=.tuple #[]/\∃az:a7,dx w' az c/\CE T az l w w'):=by
 have ag:s.len=l.length:=by have:=hs.len;rw[s7]at this;omega
 refine okF (aa.yD (some c.cb) s) ao.yD func309 ?_;(delta aa.yD dj ah bl bq r1 bw ay bF b4 al;dsimp only);refine⟨λi w'=>∃ (j:Nat) (az:a7),i=j/\j<=l.length/\dx w' az c/\CE T az (l.take j) w w'/\Src 1 w' s (gJ l),λi _=>((l.length:Int)-i).toNat,⟨0,T,rfl,c8 _,h,⟨.refl _ _,rfl,rfl,rfl,rfl,λno=>by simp,λ_ _=>⟨rfl,rfl⟩⟩,hs⟩,?_⟩;rintro _ aj ⟨j,cq,rfl,am,h1,hg,C⟩;refine⟨λaJ=>?_,λr=>?_⟩
 .have aJ:j<l.length:=by
   have:(j:Int)<(s.len:Int):=b8 aJ;omega
  have D:cq.f l[j]=true:=by
   rw[hg.f,R _ (c3 aJ)];have:l[j]∉l.take j:=λhm=>by
    obtain⟨i,hi,he⟩:=fi hm;rw[c9]at hi;rw[tL]at he;have:=(List.getElem_inj eY).1 he;omega
   simp[this]
  have an:l[j]<cq.n:=by
   rcases eF l[j] cq.n with a|a
   .exact a
   .have:=h1.t.s.pf _ a
    rw[D]at this;cases this
  obtain⟨A,ar,hb,hc⟩:=C.at (i:=j) (v:=.int .i64 ((l[j]:Nat):Int)) (by simp[gJ,aJ]);refine k3 (λw'=>∃cD:a7,dx w' cD c/\CE T cD (l.take (j+1)) w w'/\Src 1 w' s (gJ l)) (λq d=>⟨A,ar,hb,_,hc,_,rfl,_,h1.cells.1,_,rfl,_,h1.t.cells.2.1,(LL h1.t.s _).use ?_⟩) ?_
  .rintro _ _ ⟨rfl,rfl⟩
   refine⟨_,rfl,_,rfl,_,h1.cells.1,_,rfl,_,h1.t.cells.2.1,(Gb h1.t.s _).use ?_⟩;rintro _ F ⟨rfl,jF,u⟩;have S:ph cq.f cq.n ((l[j]:Nat):Int)=dG cq.f l[j] false:=by
    unfold ph;rw[if_pos ⟨J,J⟩,d_]
   rw[S]at jF;obtain⟨U,H⟩:=h1.t.zx jF u;have k:dx F (cq.kk (dG cq.f l[j] false)) c:=h1.of U u (λq d hf=>(h1.t.lr q d).2 hf) rfl λ_ h=>h;have K:Src 1 F s (gJ l):=C.ak u λq d hf=>(h1.t.lr q (by rw[hg.G];exact B q d)).2 hf;have V:(decide ((0:Int)<=((l[j]:Nat):Int))&&decide (((l[j]:Nat):Int)<(cq.n:Nat))&&cq.f (Int.toNat ((l[j]:Nat):Int))&& !(cq.g (Int.toNat ((l[j]:Nat):Int))))= !(cq.g l[j]):=by
    rw[d_,D,eL J,eL J];simp
   have L:∀no,dG cq.f l[j] false no=(T.f no&& !decide (no∈l.take (j+1))):=λno=>by
    rw[kt aJ];unfold dG;by_cases e:no=l[j]
    .rw[if_pos e,e,eL (cS.2 (.inr (ej.2 rfl)))]
     exact(Bool.and_false _).symm
    .rw[if_neg e,hg.f]
     have aM:decide (no∈l.take j++ [l[j]])=decide (no∈l.take j):=by
      rw[fL,cX,cX,cS,ej];exact⟨λh=>h.resolve_right e,.inl⟩
     rw[aM]
   rw[V];refine⟨_,rfl,λy=>⟨_,rfl,_,k.cells.1,_,rfl,_,k.t.cells.1,(L5 k.t.ca _).use ?_⟩,λy=>d _ ⟨_,k,⟨?_,hg.E,hg.G,hg.root,hg.aY,L,λno m=>?_⟩,K⟩⟩
   .rintro _ ap ⟨⟨b,rfl⟩,aU,W,o,M,_⟩
    have X:T.g l[j]=false:=by
     have a:cq.g=T.g:=hg.to.g;rw[a]at y;simpa using y
    obtain⟨Y,Z⟩:=k.t.zw (P:=λno=>if no=l[j] then none else cq.P no) W o (λno cF p=>by
     by_cases e:no=l[j]
     .rw[if_pos e]at p;cases p
     .rw[if_neg e]at p
      rw[M no e];exact h1.t.fZ no cF p)
    have ab:=k.of (az:=(cq.kk (dG cq.f l[j] false)).cB aU λno=>if no=l[j] then none else cq.P no) Y o.ak (λq d=>k.t.CB d) rfl (λ_ h=>h) o.cy;refine⟨b,rfl,d _ ⟨_,ab,⟨?_,hg.E,hg.G,hg.root,hg.aY,L,λno m=>?_⟩,?_⟩⟩
    .exact((hg.to.trans H).trans Z).mono J
    .have N:no≠l[j]:=λe=>by
      rcases m with a|a
      .exact a (by rw[kt aJ,e];exact cS.2 (.inr (ej.2 rfl)))
      .rw[e,X]at a;cases a
     have Q:=hg.e4 no (m.imp (λa z=>a (by rw[kt aJ];exact cS.2 (.inl z))) id);exact⟨(if_neg N).trans Q.1,(M no N).trans Q.2⟩
    .exact K.ak o.ak λq d=>k.t.CB (by show cq.G q;rw[hg.G];exact B q d)
   .exact(hg.to.trans H).mono J
   .exact hg.e4 no (m.imp (λa z=>a (by rw[kt aJ];exact cS.2 (.inl z))) id)
  .rintro aq ⟨cD,a,ac,ad⟩
   rw[bT (n:=(j:Int)+1) J J];refine⟨⟨j+1,cD,J,J,a,ac,ad⟩,?_⟩;show((l.length:Int)-((j:Int)+1)).toNat<((l.length:Int)-(j:Int)).toNat;omega
 .have r:j=l.length:=by
   have:¬(j:Int)<(s.len:Int):=cL r;omega
  subst r;rw[jz]at hg;exact⟨rfl,cq,h1,hg⟩
theorem sI{B:Nat->Prop}{w:I}{n:aK}{K V D:ae}(b:cr B w n K V D)(aY:Nat)(f:aY<=100)(c:n.leaf=false->∃x,n.kids=[x]/\1<=aY):
 aC ai 325 #[dT n K V D,aY] w (λv w'=>v=(if n.leaf then .tuple #[(0:Int),(0:Int),(0:Int)] else .tuple #[.int .i64 ((n.kids.getD 0 0:Nat):Int),.int .i64 ((aY-1:Nat):Int),(0:Int)])/\Ext w w'):=by
 refine okF (aa.sI n.leaf K V D (aY:Nat)) ao.sI func325 ?_;(delta aa.sI aS ad ah aE aR bl bq r1 bw al;dsimp only);refine aN (vs:=eW n K V D) rfl λw1 d a g=>?_;obtain⟨cu,bd,bo,bA⟩:=cl d;refine⟨_,cu,λhb=>⟨by rw[if_pos hb],a⟩,λhb=>?_⟩;obtain⟨x,hx,h1⟩:=c hb;obtain⟨A,ar,e,hc⟩:=dd.at (b.ext a).kids (i:=0) (by rw[hx];simp);refine⟨D,bA,A,ar,e,_,hc,?_,a⟩;have aG:(aY:Int)-1=((aY-1:Nat):Int):=by omega
 rw[if_neg (by rw[hb];simp),bT J J,aG];simp only[hx];rfl
def CF(T:a7)(c:dO)(ks:O Key)(kids:O Nat)(w:I)(v:Y)(w':I):Prop:=
 (∃x,ks=[]/\kids=[x]/\v=.tuple #[x,T.aY,(0:Int)]/\dx w' T c/\Ext w w')\/
 (∃ (k:Key) (x y no:Nat) (az:a7) (c':dO),ks=[k]/\kids=[x,y]/\dx w' az c'/\dy T az c c' [no] [] w w' 1/\
   ((v=.tuple #[no,.int .i64 ((T.aY+1:Nat):Int),(0:Int)]/\az.P no=some ⟨false,[k],[],[x,y]⟩)\/(v=.tuple #[no,.int .i64 ((T.aY+1:Nat):Int),(3:Int)]/\¬T.C.D.calm 1)))
theorem GH(K D:Nat)(w:I):Sem.run ai (Instr.build 397 #[(1,.slice (some K) 1 1),(3,.slice (some D) 2 2)]) w=.ok (.agg #[false,.slice (some K) 1 1,(),.slice (some D) 2 2]) w:=by kernel_rfl
theorem Var.GI{w:I}{b:Nat}{vs:O Y}{T:TypeId}(h:Var w b vs T):Src 1 w ⟨some b,vs.length,vs.length⟩ vs:=by
 refine⟨by show _=vs.length*1;omega,(λh=>by cases h),λa c=>?_⟩
 cases c;show aV w b 0 (vs.length*1)=_;rw[gd,h.rd rfl]
theorem Mn{w:I}{t:ae}{k:Key}(b:Nat)(a:Var w b [t] 31)(ht:b5 (λ_=>True) w t k):b6 (λ_=>True) w ⟨some b,1,1⟩ [k]:=by
 refine⟨[t],rfl,a.GI,ba _,λq c=>⟨trivial,?_⟩,λi h1 d=>?_⟩
 .obtain⟨A,ar,rfl⟩:=c
  cases ar;exact a.lt
 .have:i=0:=by simp at h1;omega
  subst this;exact ht
theorem Mo{w:I}{x y:Nat}(b:Nat)(a:Var w b [x,y] 3):dd (λ_=>True) w ⟨some b,2,2⟩ [x,y]:=by
 refine⟨a.GI,ba _,λq c=>⟨trivial,?_⟩⟩;obtain⟨A,ar,rfl⟩:=c
 cases ar;exact a.lt
theorem Mp{w:I}{T:a7}{c:dO}{s:ae}{ks:O Key}{kids:O Nat}(h:dx w T c)(G:mI (λq=>¬T.M q) w s ks kids)(u:kids.length=2->T.aY<12)(hs:∀k x y,ks=[k]->kids=[x,y]->dg k/\x<1600/\y<1600)
 (ar:T.C.D.bx<=900000080) (H:1<=cN T) (au:c.made.length<=900):
 aC ai 327 #[.pointer (some ⟨c.cb,0,none⟩),.slice s.a s.len s.cap] w (CF T c ks kids w):=by
 have av:=h.t.num.2.1;refine okF (aa.yI (some ⟨c.cb,0,none⟩) s) ao.yI func327 ?_;(delta aa.yI ah bl bq r1 bw ay bC eU aR e5 ad j8 al;dsimp only);have n:Ext w w.drew:=b1 w;have hd:=h.ext n;rcases G with ⟨b,x,rfl,rfl,rfl,i,hb⟩|⟨b,x,y,k,t,rfl,rfl,rfl,i,hb,ht,ax⟩
 .refine⟨λ_=>aO ⟨_,rfl,⟨by decide,by show(0:Int)<((1:Nat):Int);decide⟩,id,_,by rw[aw,aw];exact i.drew.cell,_,rfl,id,_,hd.cells.1,_,rfl,id,_,hd.t.cells.2.2.2.2,?_⟩,λh=>(by cases h)⟩
  exact .inl ⟨x,rfl,rfl,rfl,hd,n⟩
 .have u:=u rfl
  obtain⟨s1,s2,aA⟩:=hs k x y rfl rfl;refine⟨λh=>(by cases h),λ_=>⟨_,rfl,_,h.cells.1,_,rfl,_,h.t.cells.2.2.2.2,λK=>?_,λ_=>?_⟩⟩
  .have:((T.aY:Nat):Int)=12:=by simpa using K
   omega
  have L:cV ⟨false,[k],[],[x,y]⟩:=.inr ⟨⟨λaB P=>by rw[ej.1 P];exact s1,List.pairwise_singleton _ _⟩,rfl,by simp,rfl,rfl,λz A=>by
   simp only[cY,fC,fM]at A;rcases A with rfl|rfl<;>assumption⟩
  have Q:bV ⟨false,[k],[],[x,y]⟩<=232:=by
   have:=s1.2;simp[bV,cellsOf];omega
  have p:¬T.N b:=λR=>hb (a7.jq R);have fin:∀ (bm:I) (b7 bq:Nat),Ext w bm->Var bm b7 [.slice t.a t.len t.cap] 31->Var bm bq [.int .i64 (x:Nat),.int .i64 (y:Nat)] 3->
   aC ai 344 #[.pointer (some ⟨c.cb,0,none⟩),.agg #[.bool false,.slice (some ⟨b7,0,none⟩) 1 1,.slice none 0 0,.slice (some ⟨bq,0,none⟩) 2 2]] bm (λv w'=>∃n27:Int,∃n28:Int,v=.tuple #[.int .i64 n27,.int .i64 n28]/\af T.N bm w'/\
    ∀d,Ext w' d->CF T c [k] [x,y] w (.tuple #[.int .i64 n27,.int .i64 ((T.aY+1:Nat):Int),.int .i64 n28]) d/\∃az c',dx d az c'/\c'.cb=c.cb/\az.bE=T.bE/\az.aY=T.aY):=by
   intro bm b7 bq hx S U;have eY:cr (λ_=>True) bm ⟨false,[k],[],[x,y]⟩ ⟨some ⟨b7,0,none⟩,1,1⟩ ⟨none,0,0⟩ ⟨some ⟨bq,0,none⟩,2,2⟩:=by
    exact⟨Mn b7 S (b5.bG (b5.ext ht hx) λ_ _ _=>trivial),b6.none _ _,Mo bq U⟩
   refine(zz (h.ext hx) J H J eY L Q).mono ?_;rintro v w' ⟨no,az,c',o,e,V⟩;have B:=((dy.ext T c hx).trans e).mono (j:=1) J;rcases V with ⟨rfl,W⟩|⟨rfl,X⟩
   .refine⟨_,_,rfl,e.to.ak,λd f=>⟨.inr ⟨k,x,y,no,az,c',rfl,rfl,o.ext f,(B.trans (dy.ext az c' f)).mono J,.inl ⟨rfl,W⟩⟩,az,c',o.ext f,e.cb,e.to.bE,e.aY⟩⟩
   .refine⟨_,_,rfl,e.to.ak,λd f=>⟨.inr ⟨k,x,y,no,az,c',rfl,rfl,o.ext f,(B.trans (dy.ext az c' f)).mono J,.inr ⟨rfl,X⟩⟩,az,c',o.ext f,e.cb,e.to.bE,e.aY⟩⟩
  have Y:IntKind.wrap .i64 (((T.aY:Nat):Int)+1)=((T.aY+1:Nat):Int):=by rw[bT J J];rfl
  refine AQ (λa b w'=>∀d,Ext w' d->CF T c [k] [x,y] w (.tuple #[.int .i64 a,.int .i64 ((T.aY+1:Nat):Int),.int .i64 b]) d/\∃az c',dx d az c'/\c'.cb=c.cb/\az.bE=T.bE/\az.aY=T.aY) (λq E=>aO ⟨T.N,_,rfl,⟨by decide,by show(1:Int)<((2:Nat):Int);decide⟩,p,t,by rw[aw];exact i.drew.cell,_,rfl,⟨by decide,by show(0:Int)<((2:Nat):Int);decide⟩,p,_,by rw[aw,aw];exact i.drew.cell,_,rfl,⟨by decide,by show(1:Int)<((2:Nat):Int);decide⟩,p,_,by rw[aw,aw];exact i.drew.cell,?_,?_⟩) ?_
  .refine aN (vs:=[.slice t.a t.len t.cap]) rfl λr Z l ab=>⟨af.bL l,aN (vs:=[.int .i64 (x:Nat),.int .i64 (y:Nat)]) rfl λbm ac g ag=>⟨af.bL g,_,λ_=>GH _ _ _,?_⟩⟩
   refine(fin bm w.drew.heap.size r.heap.size (n.trans (l.trans g)) (Z.ext g) ac).use ?_;rintro _ w' ⟨n27,n28,rfl,hc,m⟩;exact⟨n27,n28,rfl,hc,E _ _ _ m⟩
  .refine aN (vs:=[.int .i64 (x:Nat),.int .i64 (y:Nat)]) rfl λr aj l ab=>⟨af.bL l,aN (vs:=[.slice t.a t.len t.cap]) rfl λbm am g ag=>⟨af.bL g,_,λ_=>GH _ _ _,?_⟩⟩
   refine(fin bm r.heap.size w.drew.heap.size (n.trans (l.trans g)) am (aj.ext g)).use ?_;rintro _ w' ⟨n27,n28,rfl,hc,m⟩;exact⟨n27,n28,rfl,hc,E _ _ _ m⟩
  .intro a b an m
   obtain⟨h1,az,c',F,ap,aD,aq⟩:=m _ (b1 an);have hc:=F.cells.1;rw[ap]at hc;have ht:=F.t.cells.2.2.2.2;refine aO ⟨_,rfl,id,_,hc,_,rfl,id,_,ht,?_⟩;rw[aq,Y];exact h1
theorem dk.CG{P:Nat->aq aK}{lo hi:aq Key}{h:Nat}{n:aK}{p:O Nat}{L:O bg}(a:dk P h n lo hi p L)(e:n.leaf=true->bV n<=310)(f:n.leaf=false->bV n<=335)(j:n.leaf=false->n.keys≠ []):ng n:=by
 refine⟨?_,by cases g:n.leaf;exact dQ (f g) (by decide);exact dQ (e g) (by decide),λhs=>?_⟩
 .cases h with
  |zero=>exact a.elim
  |succ h=>
   cases h with
   |zero=>exact .inl a.1
   |succ h=>
    obtain⟨aA,b,c,d,i⟩:=a;have hs:=i.sorted λ_ _ _ _ _ k=>k.in;exact .inr ⟨⟨c,hs.2.2.1⟩,aA,j aA,i.len,b,d⟩
 .obtain⟨aA,b,c,d,_⟩:=a.two (Q:=P) (x:=0) (y:=0) hs e f
  exact⟨aA,b,c,d⟩
section
variable {P:Nat->aq aK}{lo hi:aq Key}
theorem Mq{h:Nat}{d f:aK}{j z:aq Key}{i:Nat}{bS C:O Nat}{bp iH:O bg}{k:Key}(D:∀k∈d.keys,dg k)(hlen:d.kids.length=d.keys.length+1)(E:∀x n,P x=some n->bV n<=232)
 (M:1<=i) (Q:i<d.kids.length) (A:gm j z k)
 (F:fU (fF P (h+1)) lo j (d.keys.take i) (d.kids.take i) bS bp) (p:dk P (h+1) f j z C iH) (h1:bV f<80):
 ∃ (o:aK) (hb:i-1<d.kids.length) (R:i-1<d.keys.length),P d.kids[i-1]=some o/\o.leaf=f.leaf/\dg d.keys[i-1]/\ng (dW o d.keys[i-1] f):=by
 obtain⟨s,G,a6,r,ck,N,hs,rfl,q,rfl,rfl,⟨t,m,hm,u⟩,S,T⟩:=F.last (by rw[c9];omega);have U:(d.keys.take i).length=i:=by rw[c9];omega
 have V:(d.kids.take i).length=i:=by rw[c9];omega
 have q:s=d.keys[i-1]'J:=by
  rw[q,tL];congr 1;omega
 have H:(d.kids.take i)[(d.kids.take i).length-1]'J=d.kids[i-1]'J:=by
  rw[tL];congr 1;omega
 rw[H]at t hm;obtain⟨o,I,g,rfl,_,v⟩:=t.kf;rw[g]at hm;have u:2<=o.keys.length:=by rw[Option.some.inj hm];exact u
 clear hm;subst q;have w:=(show fF P (h+1) G (some (d.keys[i-1]'J)) (d.kids[i-1]'J) (d.kids[i-1]'J::I) N from⟨t,o,g,u⟩).in;obtain⟨x,hx⟩:=tJ _ w.1;have y:=D _ (c3 (l:=d.keys) (n:=i-1) J);have K:=dk.merge v p y (λc hc=>jO (lT ((w.2.2 x hx).1 c hc) ((w.2.2 x hx).2 _ rfl))) (λc hc=>jO (lT (A.1 _ rfl) (A.2 c hc)));have B:=y0 v p y (by have:=E _ _ g;omega);have L:=yZ (a:=o) (b:=f) (s:=d.keys[i-1]'J);refine⟨o,J,J,g,by rw[v.leaf,p.leaf],y,K.CG B.1 B.2 λ_ e=>?_⟩;rw[e,mX]at L;omega
theorem Mr{h:Nat}{d f:aK}{A p:aq Key}{i:Nat}{bI D:O Nat}{iH bM:O bg}{k:Key}(E:∀k∈d.keys,dg k)(hlen:d.kids.length=d.keys.length+1)(F:∀x n,P x=some n->bV n<=232)
 (g:i+1<d.kids.length) (B:gm A p k)
 (G:hC (fF P (h+1)) hi p (d.keys.drop i) (d.kids.drop (i+1)) bI bM) (q:dk P (h+1) f A p D iH) (h1:bV f<80):
 ∃ (o:aK) (hb:i+1<d.kids.length) (Q:i<d.keys.length),P d.kids[i+1]=some o/\o.leaf=f.leaf/\dg d.keys[i]/\ng (dW f d.keys[i] o):=by
 obtain⟨s,H,r,R,N,S,hs,rfl,t,rfl,rfl,⟨u,m,hm,v⟩,T⟩:=G.head (by rw[ek];omega);have t:s=d.keys[i]'J:=by rw[t,rl];rfl
 have I:(d.kids.drop (i+1))[0]'(by rw[ek];omega)=d.kids[i+1]'g:=by rw[rl]
 rw[I]at u hm;obtain⟨o,K,j,rfl,_,w⟩:=u.kf;rw[j]at hm;have v:2<=o.keys.length:=by rw[Option.some.inj hm];exact v
 clear hm;subst t;have y:=(show fF P (h+1) (some (d.keys[i]'J)) H (d.kids[i+1]'g) (d.kids[i+1]'g::K) N from⟨u,o,j,v⟩).in;obtain⟨x,hx⟩:=tJ _ y.1;have z:=E _ (c3 (l:=d.keys) (n:=i) J);have L:=dk.merge q w z (λc hc=>jO (lT (B.1 c hc) (B.2 _ rfl))) (λc hc=>jO (lT ((y.2.2 x hx).1 _ rfl) ((y.2.2 x hx).2 c hc)));have C:=y0 q w z (by have:=F _ _ j;omega);have M:=yZ (a:=f) (b:=o) (s:=d.keys[i]'J);refine⟨o,g,J,j,by rw[w.leaf,q.leaf],z,L.CG C.1 C.2 λ_ e=>?_⟩;rw[e,mX]at M;omega
inductive Ctx (P:Nat->aq aK) (k:Key) (top:Nat):Nat->aq Key->aq Key->O (Nat×aK×Nat)->O Nat->O bg->O bg->Prop
 |top:Ctx P k top top none none [] [] [] []
 |step {e1:Nat}{lo hi a b:aq Key}{st:O (Nat×aK×Nat)}{cZ:O Nat}{A B:O bg}{no:Nat}{n:aK}{bS bI:O Nat}{bp bM:O bg} (h:Ctx P k top (e1+2) lo hi st cZ A B) (c:P no=some n) (d:n.leaf=false) (e:∀k∈n.keys,dg k) (f:∀x∈n.kids,x<1600)
  (hlen:n.kids.length=n.keys.length+1) (g:n.keys≠ []) (i:st≠ []->2<=n.keys.length) (j:gm a b k) (l:fU (fF P (e1+1)) lo a (n.keys.take (fl n.keys k)) (n.kids.take (fl n.keys k)) bS bp)
  (m:hC (fF P (e1+1)) hi b (n.keys.drop (fl n.keys k)) (n.kids.drop (fl n.keys k+1)) bI bM):Ctx P k top (e1+1) a b (st++ [(no,n,fl n.keys k)]) (no::(bS++(bI++cZ))) (A++bp) (bM++B)
theorem Ctx.e1{k:Key}{top e1:Nat}{st:O (Nat×aK×Nat)}{cZ:O Nat}{A B:O bg}(h:Ctx P k top e1 lo hi st cZ A B):e1+st.length=top:=by
 induction h with
 |top=>rfl
 |step h _ _ _ _ _ _ _ _ _ _ a=>rw[cT,jZ];omega
theorem Ctx.agree{Q:Nat->aq aK}{k:Key}{top e1:Nat}{st:O (Nat×aK×Nat)}{cZ:O Nat}{A B:O bg}(h:Ctx P k top e1 lo hi st cZ A B)(a:∀x∈cZ,P x=Q x):Ctx Q k top e1 lo hi st cZ A B:=by
 induction h with
 |top=>exact .top
 | @step e1 lo hi p q st cZ A B no n bS bI bp bM h c d e f hlen g i j l m o=>
  refine .step (o λx hx=>a x (by simp[hx])) (by rw[←a no (by simp)];exact c) d e f hlen g i j (l.m9 λ_ _ _ _ _ hs b=>b.agree λx hx=>a x ?_) (m.m9 λ_ _ _ _ _ hs b=>b.agree λx hx=>a x ?_)
  .have:=hs x hx;simp[this]
  .have:=hs x hx;simp[this]
theorem Ctx.down{k:Key}{top:Nat}:∀ {e1:Nat}{lo hi:aq Key}{st:O (Nat×aK×Nat)}{cZ:O Nat}{A B M ck:O bg}{no:Nat}{p:O Nat},Ctx P k top (e1+1) lo hi st cZ A B->gz P (e1+1) lo hi no p M->(st≠ []->∃m,P no=some m/\2<=m.keys.length)->gm lo hi k->ck=A++(M++B)->(∀u,Loc k u->u ck=A++(u M++B))->
 ∃ (rest a:O (Nat×aK×Nat)) (b:Nat) (cw:aK) (c d:aq Key) (g:O Nat) (e f:O bg),po P k (e1+1) no rest/\st++rest=a++ [(b,cw,0)]/\Ctx P k top 1 c d a g e f/\P b=some cw/\jj cw/\cw.within c d/\cw.keys≠ []/\(a≠ []->2<=cw.keys.length)/\gm c d k/\
  (p++cZ).Perm (b::g)/\ck=e++(cw.gP++f)/\∀u,Loc k u->u ck=e++(u cw.gP++f)
 |0,lo,hi,st,cZ,A,B,M,ck,no,p,hc,i,j,l,o,hu=>by
  obtain⟨n,h1,h,x,y,rfl,rfl⟩:=i
  refine⟨[(no,n,0)],st,no,n,lo,hi,cZ,A,B,⟨n,[],h1,by rw[h.leaf];rfl,rfl,rfl⟩,rfl,hc,h1,h,x,y,λhs=>?_,l,List.Perm.refl _,o,hu⟩
  obtain⟨m,hm,r⟩:=j hs
  rw[h1]at hm;cases hm
  exact r
 |e1+1,lo,hi,st,cZ,A,B,M,ck,no,p,hc,i,j,l,o,hu=>by
  obtain⟨n,S,h1,rfl,h,s⟩:=i.kf
  obtain⟨T,U,bS,q,bI,bp,iH,bM,hb,rfl,rfl,t,v,z,hlen,C,D⟩:=s.at l
  obtain⟨aA,V,E,F,_⟩:=s
  have G:=Ctx.step hc h1 aA E F hlen h (λhs=>by
   obtain⟨m,hm,r⟩:=j hs
   rw[h1]at hm;cases hm
   exact r) v C D
  obtain⟨rest,a,b,cw,c,d,g,e,f,r1,aR,aS,fD,cG,dC,H,I,K,L,N,Q⟩:=Ctx.down (ck:=ck) G t.1 (λ_=>t.2) v (by rw[o];simp only[c_]) (λu w=>by rw[hu u w,z u w];simp only[c_])
  refine⟨(no,n,fl n.keys k)::rest,a,b,cw,c,d,g,e,f,⟨n,rest,h1,by rw[aA];simp,by rw[if_neg J],?_⟩,?_,aS,fD,cG,dC,H,I,K,?_,N,Q⟩
  .rw[g4,eJ hb]
   exact r1
  .rw[←aR];simp
  .refine List.Perm.trans ?_ L
   have aG:(no::(bS++(q++bI))++cZ)=no::(bS++(q++(bI++cZ))):=by simp[c_]
   rw[aG]
   have aM:(q++no::(bS++(bI++cZ))).Perm (no::(q++(bS++(bI++cZ)))):=mT
   refine List.Perm.trans ?_ aM.symm
   refine List.Perm.cons _ ?_
   have R:=(tK (l₁:=bS) (l₂:=q)).append_right (bI++cZ)
   simpa[c_] using R
end
theorem CH{α:Type}(a b c:O α):(a++(b++c)).Perm (a++c++b):=by
 rw[c_];exact(tK (l₁:=b) (l₂:=c)).append_left a
theorem Ctx.up{P:Nat->aq aK}{lo hi:aq Key}{k:Key}{top e1:Nat}{st N:O (Nat×aK×Nat)}{cZ:O Nat}{A B:O bg}{u:dM}{a:aK}{q:O Nat}{M:O bg}(hc:Ctx P k top e1 lo hi st cZ A B)(Z:st=N++ [u.st])(c:dk P e1 a lo hi q M)(G:∀x n,P x=some n->bV n<=232)(hs:bV a<=282):
 ∃ (d f:aq Key) (H:O Nat) (g j:O bg) (ps:O Nat),Ctx P k top (e1+1) d f N H g j/\cZ=u.no::(ps++H)/\P u.no=some u.n/\u.c2<u.n.kids.length/\u.n.kids.length=u.n.keys.length+1/\u.n.keys≠ []/\(N≠ []->2<=u.n.keys.length)/\
  (80<=bV a->∀ (Q:Nat->aq aK) (ks:O Key) (kids:O Nat),nW Q a ks kids->(∀x∈ps++q,P x=Q x)->(∀x∈kids,x<1600)->∃ (l:O Nat) (m:O bg),dk Q (e1+1) (gI u.n u.c2 (u.c2+1) ks kids) d f l m/\g++(m++j)=A++(M++B)/\l.Perm (kids++(ps++q))/\
    bV (gI u.n u.c2 (u.c2+1) ks kids)<=bV u.n+27/\u.n.keys.length<=(gI u.n u.c2 (u.c2+1) ks kids).keys.length+1)/\
  (bV a<80->∃ (o:aK) (no:Nat) (rest:O Nat),u.n.kids[kL u]? =some no/\P no=some o/\o.leaf=a.leaf/\u.c2-1<u.n.keys.length/\dg (u.n.keys.getD (u.c2-1) [])/\ng (ni u a o)/\ps.Perm (no::rest)/\
    ∀ (Q:Nat->aq aK) (ks:O Key) (kids:O Nat),nW Q (ni u a o) ks kids->(∀x∈rest++q,P x=Q x)->(∀x∈kids,x<1600)->∃ (l:O Nat) (m:O bg),dk Q (e1+1) (gI u.n (u.c2-1) (u.c2-1+2) ks kids) d f l m/\g++(m++j)=A++(M++B)/\l.Perm (kids++(rest++q))/\
     bV (gI u.n (u.c2-1) (u.c2-1+2) ks kids)<=bV u.n+27/\u.n.keys.length<=(gI u.n (u.c2-1) (u.c2-1+2) ks kids).keys.length+1):=by
 cases hc with
 |top=>
  have:=congrArg List.length Z;simp at this
 | @step e1 d f _ _ ap H g j aa I bS bI bp bM h af R p S hlen ab ag K r s=>
  obtain⟨rfl,ah⟩:=List.append_inj' Z rfl;have T:(aa,I,fl I.keys k)=u.st:=by simpa using ah
  have ai:aa=u.no:=congrArg Prod.fst T;have aj:I=u.n:=congrArg (λx=>x.2.1) T;have ac:fl I.keys k=u.c2:=congrArg (λx=>x.2.2) T;subst ai aj;rw[ac]at r s;have ak:=BN u.n.keys k;rw[ac]at ak;refine⟨d,f,H,g,j,bS++bI,h,by rw[c_],af,J,hlen,ab,ag,λb Q ks kids hf t v=>?_,λb=>?_⟩
  .obtain⟨w,aA,y,z,L⟩:=Kv R p S r s c b hs hf (λx hx=>t x (by
    simp only[cS]at hx⊢;rcases hx with hx|hx|hx
    .exact .inl (.inl hx)
    .exact .inr hx
    .exact .inl (.inr hx))) v
   refine⟨w,_,aA,by simp only[c_],y.trans (List.Perm.append_left kids ?_),z,J⟩;exact CH bS q bI
  .by_cases h0:u.c2=0
   .obtain⟨o,m1,m2,C,U,V,W⟩:=Mr p hlen G (i:=u.c2) (by
     have:u.n.keys.length≠0:=λe=>ab (Al e);omega) K s c b
    obtain⟨al,ad,am,an,D,X,_,Y⟩:=Kx R p S hlen G m1 K r s c b;rw[C]at D;obtain rfl:=Option.some.inj D;have aG:kL u=u.c2+1:=by unfold kL;rw[if_pos h0,h0]
    have aM:u.c2-1=u.c2:=by omega
    have E:u.n.keys.getD (u.c2-1) []=u.n.keys[u.c2]:=by rw[aM,g4,eJ m2];rfl
    have F:ni u a o=dW a u.n.keys[u.c2] o:=by unfold ni;rw[if_pos (by rw[aG];omega),E]
    refine⟨o,u.n.kids[u.c2+1],bS++ad,by rw[aG];exact eJ m1,C,U,J,by rw[E];exact V,by rw[F];exact W,?_,λQ ks kids hf t v=>?_⟩
    .exact(List.Perm.append_left bS X).trans mT
    .rw[F]at hf
     obtain⟨w,aA,y,z,L⟩:=Y Q ks kids hf (λx hx=>t x (by
      simp only[cS]at hx⊢;rcases hx with hx|hx|hx
      .exact .inl (.inl hx)
      .exact .inr hx
      .exact .inl (.inr hx))) v
     rw[aM];exact⟨w,_,aA,by simp only[c_],y.trans (List.Perm.append_left kids (CH bS q ad)),z,L⟩
   .obtain⟨o,m1,m2,C,U,V,W⟩:=Mq p hlen G (i:=u.c2) J J K r c b
    obtain⟨al,ae,am,an,D,X,_,Y⟩:=Kw R p S hlen G J J K r s c b;rw[C]at D;obtain rfl:=Option.some.inj D;have aG:kL u=u.c2-1:=by unfold kL;rw[if_neg h0]
    have E:u.n.keys.getD (u.c2-1) []=u.n.keys[u.c2-1]:=by rw[g4,eJ m2];rfl
    have F:ni u a o=dW o u.n.keys[u.c2-1] a:=by unfold ni;rw[if_neg (by rw[aG];omega),E]
    have ao:u.c2-1+2=u.c2+1:=by omega
    refine⟨o,u.n.kids[u.c2-1],ae++bI,by rw[aG];exact eJ m1,C,U,m2,by rw[E];exact V,by rw[F];exact W,?_,λQ ks kids hf t v=>?_⟩
    .exact(X.append_right bI)
    .rw[F]at hf
     obtain⟨w,aA,y,z,L⟩:=Y Q ks kids hf (λx hx=>t x (by
      simp only[cS]at hx⊢;rcases hx with hx|hx|hx
      .exact .inl (.inl hx)
      .exact .inr hx
      .exact .inl (.inr hx))) v
     rw[ao];exact⟨w,_,aA,by simp only[c_],y.trans (List.Perm.append_left kids (CH ae q bI)),z,L⟩
theorem dx.Ms{w:I}{T:a7}{c:dO}{E:Nat->Prop}(h:dx w T c)(b:∀q,E q->T.E q):dx w (T.cW E T.G) c:=
 h.of (az:=T.cW E T.G) (W:=λ_=>False) (h.t.grow (W:=λ_=>False) (af.refl _ _) (λ_ h=>h.elim) (λq a=>.inl (b q a)) (λq a=>.inr (.inl a)) λq a=>(h.t.eR q (b q a)).2.2) (af.refl _ _) (λ_ _ h=>h) rfl λ_ h=>h
theorem dy.local{T az:a7}{c c':dO}{m l:O Nat}{cp:Nat->Prop}{w w1 w':I}{k:Nat}(h:dy (T.cW cp T.G) az c c' m l w1 w' k)(hx:Ext w w1)(b:∀q,cp q->T.E q\/w.heap.size<=q)(d:∀q,T.E q->cp q):dy T (az.cW T.E az.G) c c' m l w w' k:=
 ⟨h.to.local hx b (λq a=>.inl a) (λq a=>.inl (by rw[h.E];exact d q a)) λq a=>a,rfl,h.G,h.root,h.aY,h.cb,h.made,h.left,h.cF,h.kI,h.f,h.e4,h.room⟩
theorem dx.GJ{w w':I}{T:a7}{c:dO}{W:Nat->Prop}(h:dx w T c)(hc:af W w w')(cU:∀q,W q->T.E q\/w.heap.size<=q):dx w' T c:=by
 have b:af (λq=>T.E q) w w':=de (W:=λq=>T.E q) (af.refl _ _) hc λq a d=>(cU q d).resolve_right J;exact h.of (h.t.grow (E:=T.E) (G:=T.G) b (λq a _=>.inl a) (λq a=>.inl a) (λq a=>.inr (.inl a)) λq a=>(h.t.eR q a).2.2) b (λq hg he=>(h.t.eR q he).2.2 hg) rfl λ_ h=>h
theorem lv.to{w w':I}{T az:a7}{k:Nat}{s:ae}{l:O dM}(h:lv (λq=>¬T.M q) w s l)(ht:cI T az w w' k):lv (λq=>¬az.M q) w' s l:=by
 refine⟨h.own.ak ht.ak λq a b=>h.qS q a (a7.jq b),λq a hm=>?_,λx hx=>?_⟩
 .rcases ht.dZ q hm with h1|h1
  .exact h.qS q a h1
  .have:=aT.lt h.own q a;omega
 .exact(ht.cF (lo:=0) ((h.cF x hx).bG λq _ hb=>⟨c8 _,hb⟩)).bG λq _ hb=>hb.2
theorem lv.at{B:Nat->Prop}{w:I}{s:ae}{l:O dM}(h:lv B w s l){i:Nat}(hi:i<l.length):∃A:av,s.a=some A/\s.len=l.length/\B A.block/\w.cell? (A.add (i*6))=some (.int .i64 ((l[i]).no:Nat))/\nh B w (A.add (i*6)) l[i]:=by
 have e:=h.own.1;rw[jR _ (qR l)]at e;have f:s.len=l.length:=by omega
 rcases h.own.2.2.2 with ⟨h1,n⟩|⟨b,c,hb,g,o,k⟩
 .have:=h.own.2.1
  omega
 .have d:∀j,j<6->w.cell? ⟨b,i*6+j,none⟩=((dM.c l[i]))[j]? :=λj m=>by
   rw[bc.cell g,←Cj (qR l) hi m,←k];rw[vW,if_pos J,Array.getElem?_toList]
  refine⟨b,hb,f,h.qS b ⟨_,hb,rfl⟩,?_,?_⟩
  .rw[aw,cz]
   exact d 0 (by decide)
  .rw[aw,cz]
   refine⟨?_,?_,?_,?_,?_,h.cF _ (c3 hi),h.qS b ⟨_,hb,rfl⟩,aT.lt h.own b ⟨_,hb,rfl⟩⟩
   .rw[aw];exact d 1 (by decide)
   .rw[aw,aw];exact d 2 (by decide)
   .rw[aw,aw];exact d 3 (by decide)
   .rw[aw,aw];exact d 4 (by decide)
   .rw[aw];exact d 5 (by decide)
theorem Ctx.GK{P:Nat->aq aK}{lo hi:aq Key}{k:Key}{top e1:Nat}{cZ:O Nat}{A B:O bg}(h:Ctx P k top e1 lo hi [] cZ A B):e1=top/\lo=none/\hi=none/\cZ=[]/\A=[]/\B=[]:=by
 generalize a:([]:O (Nat×aK×Nat))=st at h
 cases h with
 |top=>exact⟨rfl,rfl,rfl,rfl,rfl,rfl⟩
 |step h=>
  have:=congrArg List.length a;simp at this
def n4(T:a7)(c:dO)(a6:O Nat)(ei:O bg)(w:I)(v:Y)(w':I):Prop:=
 ∃ (az:a7) (c':dO) (m l:O Nat),dx w' az c'/\dy T az c c' m l w w' 60/\
  ((v=.tuple #[(0:Int),(0:Int),(0:Int)]/\ei=[]/\l.Perm (m++a6)/\m.length<=2*T.aY+3)\/
   (∃ (root h:Nat) (pages:O Nat),v=.tuple #[root,h,(0:Int)]/\gz az.P h none none root pages ei/\(pages++l).Perm (m++a6)/\1<=h/\h<=T.aY+1/\m.length<=2*T.aY+3)\/
   (∃a b:Int,v=.tuple #[a,b,(3:Int)]/\¬T.C.D.calm 60))
theorem n4.local{T:a7}{c:dO}{a6:O Nat}{ei:O bg}{cp:Nat->Prop}{w w1 w':I}{v:Y}(h:n4 (T.cW cp T.G) c a6 ei w1 v w')(hx:Ext w w1)(d:∀q,cp q->T.E q\/w.heap.size<=q)(a:∀q,T.E q->cp q):n4 T c a6 ei w v w':=by
 obtain⟨az,c',m,l,h1,b,e⟩:=h;exact⟨az.cW T.E az.G,c',m,l,h1.Ms λq f=>by rw[b.E];exact a q f,b.local hx d a,e⟩
structure Mt(cq:a7)(c:dO)(b:I)(a:O dM)(k:Key)(a6:O Nat)(ei:O bg)(ws:ae)(ix:Nat)(i:Nat)(w':I)(az:a7)(c':dO)(m l:O Nat)(n:aK)(K V D:ae)(lo hi:aq Key)(cZ:O Nat)(A B:O bg)(q:O Nat)(M:O bg)(r:O Nat):Prop where
 k9:i<a.length
 CI:dx w' az c'
 to:dy cq az c c' m l b w' (4*(a.length-1-i))
 qT:m.length<=2*(a.length-1-i)
 ll:l.length<=2*(a.length-1-i)
 ix:Var w' ix (eW n K V D) 397
 cF:cr (λq=>¬az.M q) w' n K V D
 jL:lv (λq=>¬az.M q) w' ws a
 ctx:Ctx az.P k a.length (a.length-i) lo hi ((a.take i).map dM.st) cZ A B
 kf:dk az.P (a.length-i) n lo hi q M
 eq:A++(M++B)=ei
 pp:a6.Perm ((a[i]).no::(r++cZ))
 acc:(q++l).Perm (m++r)
 sz:bV n<=282
 Mu:1<=i->n.keys≠ []
 GL:∀x∈q++cZ,az.f x=true
theorem cM.zC{w:I}{T:a7}(h:cM w T):∀x n,T.P x=some n->bV n<=232:=λx n hx=>(h.fZ x n hx).2.is.2.2
theorem iQ.cs{T:a7}{c:dO}{n:aK}{w w':I}{s:ae}{e:Int}(h:iQ T c n w (.tuple #[s,e]) w'):
 ∃ (az:a7) (c':dO) (m:O Nat),dx w' az c'/\dy T az c c' m [] w w' 2/\m.length<=2/\((e=0/\∃ks,nW az.P n ks m/\mI (λq=>¬az.M q) w' s ks m)\/(e=3/\¬T.C.D.calm 2)):=by
 obtain⟨az,c',m,s2,h1,d,f,g⟩:=h;refine⟨az,c',m,h1,d,f,?_⟩;rcases g with ⟨ks,a,b,i⟩|⟨a,b⟩
 .simp at a
  obtain⟨⟨a1,a2,a3⟩,rfl⟩:=a;obtain rfl:s=s2:=by cases s;cases s2;simp_all
  exact .inl ⟨rfl,ks,b,i⟩
 .simp at a
  exact .inr ⟨a.2,b⟩
theorem Mv{P Q c:Nat->aq aK}{t:Nat}{n:aK}{q:O Nat}{M:O bg}{a:Key}{x y no:Nat}(d:dk P (t+1) n none none q M)(hs:bV n<=282)(hf:nW Q n [a] [x,y])(j:∀z∈q,P z=Q z)(k:c no=some ⟨false,[a],[],[x,y]⟩)(l:∀z∈x::y::q,Q z=c z)(hx:x<1600)(o:y<1600):
 dg a/\∃pages,gz c (t+2) none none no pages M/\pages.Perm (no::x::y::q):=by
 have p:232<bV n:=by
  rcases hf with ⟨_,z,e,_⟩|⟨h,_⟩
  .cases e
  .exact h
 obtain⟨f,aA,g,i,_⟩:=d.fits (d.BR J) (λ_=>J) (λ_=>J) hf j;have m:dk Q (t+2) ⟨false,[a],[],[x,y]⟩ none none f M:=⟨rfl,rfl,i,λz b=>by
  simp only[cY,fC,fM]at b;rcases b with rfl|rfl<;>assumption,aA⟩
 refine⟨i a (by simp),no::f,m.lay (by simp) k λz b=>l z ?_,List.Perm.cons no g⟩;have:=g.mem_iff.1 b;simpa using this
theorem pq{a b:O Nat}:a.Perm b↔∀x,a.count x=b.count x:=List.perm_iff_count
theorem CJ{q l m r:O Nat}{no:Nat}(h:(q++l).Perm (m++r)):(q++(l++ [no])).Perm (m++(no::r)):=by
 rw[pq]at h⊢;intro x;have:=h x;simp only[pH,rp,rq]at this⊢;omega
theorem Mw{q l m r a ps ms ls rest:O Nat}(h:(q++l).Perm (m++r))(b:a.Perm (ms++(rest++q)))(c:ps.Perm (ls++rest)):(a++(l++ls)).Perm ((m++ms)++(ps++r)):=by
 rw[pq]at h b c⊢;intro x;have:=h x;have:=b x;have:=c x;simp only[pH,rp,rq]at*;omega
theorem Mx{a6 r ps a:O Nat}{u:Nat}(h:a6.Perm (r++(u::(ps++a)))):a6.Perm (u::((ps++r)++a)):=by
 rw[pq]at h⊢;intro x;have:=h x;simp only[pH,rp,rq]at*;omega
theorem My{w:I}{T:a7}{c:dO}{d:O dM}{k:Key}{a6 cZ:O Nat}{ei A B M:O bg}{lo hi:aq Key}{ws:ae}{n:aK}{K V D:ae}(h:dx w T c)(bR:lv (λq=>¬T.M q) w ws d)(bs:cr (λq=>¬T.M q) w n K V D)(eB:0<d.length)(hlen:d.length=T.aY)(eC:T.aY<12)
 (eD:T.C.D.bx<=900000000) (eE:2*T.aY+3<=cN T) (eF:c.made.length<=100) (eH:c.left.length<=100) (cy:Ctx T.P k d.length 1 lo hi ((d.take (d.length-1)).map dM.st) cZ A B) (L:dk T.P 1 n lo hi [] M) (an:A++(M++B)=ei)
 (N:a6.Perm ((d[d.length-1]'J).no::cZ)) (bt:bV n<=282) (aZ:2<=d.length->n.keys≠ []) (Q:∀x∈cZ,T.f x=true):
 aC ai 310 #[.pointer (some ⟨c.cb,0,none⟩),.slice ws.a ws.len ws.cap,dT n K V D] w (n4 T c a6 ei w):=by
 refine okF (aa.qk (some ⟨c.cb,0,none⟩) ws n.leaf K V D) ao.qk func310 ?_;(delta aa.qk aS ad aE aR c0 bH dj al ah bC ay eU bl bq e5 r1 bw ap st oP A4 hN eG;dsimp only);refine aN (vs:=eW n K V D) rfl λw1 cB cC eJ=>?_;obtain⟨cu,bd,bo,bA⟩:=cl cB;refine⟨_,cu,K,bd,V,bo,D,bA,aN (vs:=[.bool false,.slice none 0 0,.slice none 0 0,.slice none 0 0]) rfl λeK bU cE eL=>⟨bU.bX rfl hG,rfl,cA bU (us:=eW n K V D) rfl rfl λbu bv cG eM=>?_⟩⟩;have bY:Ext w bu:=cC.trans (Ext.bN cE cG (ba _));obtain⟨ix,cH⟩:∃ix,ix=w1.heap.size:=⟨_,rfl⟩;rw[←cH]at bv⊢;obtain⟨cp,bD⟩:∃cp,cp=λq=>T.E q\/q=ix:=⟨_,rfl⟩;have cK:∀q,T.E q->cp q:=λq F=>by rw[bD];exact .inl F
 have a0:∀q,cp q->T.E q\/q=ix:=λq F=>by rw[bD]at F;exact F
 have cM:cp ix:=by rw[bD];exact .inr rfl
 have eN:=bv.lt;have cO:dx bu (T.cW cp T.G) c:=h.of (W:=λ_=>False) (h.t.grow (W:=λ_=>False) bY (λ_ h=>h.elim) (λq F=>(a0 q F).imp id λe=>.inr ⟨J,J⟩) (λq F=>.inr (.inl F)) λq F hg=>by
  rcases a0 q F with h1|h1
  .exact(h.t.eR q h1).2.2 hg
  .have:=h.t.lt (q:=q) (.inr (.inr (.inr (.inr hg))));omega) bY (λ_ _ h=>h) rfl λ_ h=>h
 have bZ:cI T (T.cW cp T.G) w bu 0:=(cI.refl T w).step (W:=λ_=>False) bY (λ_ h=>h.elim) (λq F=>(a0 q F).imp id λe=>.inr J) λq F=>.inl F;have conv:∀ (v:Y) (w':I),n4 (T.cW cp T.G) c a6 ei w1 v w'->n4 T c a6 ei w v w':=λv w' hu=>hu.local cC (λq F=>(a0 q F).imp id λe=>J) cK;obtain⟨cq,ar⟩:∃cq,cq=T.cW cp T.G:=⟨_,rfl⟩;have b0:=bR.to bZ;have b2:cr (λq=>¬(T.cW cp T.G).M q) bu n K V D:=(bZ.cF (lo:=0) (bs.bG λq _ hb=>⟨c8 _,hb⟩)).bG λq _ hb=>hb.2;have aG:cq.P=T.P:=by rw[ar];rfl
 have aM:cq.f=T.f:=by rw[ar];rfl
 have dL:cq.E ix:=by rw[ar];exact cM
 have eO:cN cq=cN T:=by rw[ar];rfl
 have dN:cq.C=T.C:=by rw[ar];rfl
 have dP:cq.aY=T.aY:=by rw[ar];rfl
 rw[←ar]at cO b0 b2 conv;clear ar bZ bD cK a0 cM;have eP:ix=w1.heap.size:=cH;have eQ:ws.len=d.length:=by
  have:=bR.own.1;rw[jR _ (qR d)]at this;omega
 refine⟨λn10 w'=>∃ (i:Nat) (az:a7) (c':dO) (m l:O Nat) (n:aK) (K V D:ae) (lo hi:aq Key) (cZ:O Nat) (A B:O bg) (q:O Nat) (M:O bg) (r:O Nat),n10=(i:Nat)/\Mt cq c w1 d k a6 ei ws ix i w' az c' m l n K V D lo hi cZ A B q M r,λn10 _=>(n10+1).toNat,
  ⟨d.length-1,cq,c,[],[],n,K,V,D,lo,hi,cZ,A,B,[],M,[],?_,?_⟩,?_⟩
 .rw[bT J J];omega
 .have e:d.length-(d.length-1)=1:=by omega
  refine⟨J,cO,(dy.ext cq c (Ext.bN cE cG (ba _))).mono J,c8 _,c8 _,bv,b2,b0,by rw[e,aG];exact cy,by rw[e,aG];exact L,an,by simpa using N,List.Perm.refl _,bt,λh1=>aZ J,λx hx=>by rw[aM];exact Q x (by simpa using hx)⟩
 clear cy L an N bt aZ Q bs b2 bv bR b0 cB cu bd bo bA bU;rintro _ b3 ⟨i,az,c',m,l,n,K,V,D,lo,hi,cZ,A,B,q,M,r,rfl,g⟩;have cP:=g.k9;have bE:=g.to.cb;refine⟨λ_=>aO ?_,λhb=>?_⟩
 rotate_left
 .have:¬((i:Nat):Int)>=0:=cL hb
  omega
 have aP:Ext b3 b3.drew:=b1 _;obtain⟨b4,dQ⟩:∃b4,b4=b3.drew:=⟨_,rfl⟩;rw[←dQ]at aP⊢;have a5:=g.CI.ext aP;have cQ:=a5.cells.2.2;rw[bE]at cQ;have cR:lv (λq=>¬az.M q) b4 ws d:=g.jL.to (cI.ext az aP);obtain⟨a8,b5,eS,dR,dS,_⟩:=cR.at cP;have eT:c'.left.length<=200:=by rw[g.to.left,cT];have:=g.ll;omega
 have dV:c'.made.length<=200:=by rw[g.to.made,cT];have:=g.qT;omega
 obtain⟨au,cU,aA,ac,aQ,aF,aH⟩:=Gx a5 (d[i]).no J;rw[bE]at aQ aF aH;have dW:∀n,(a8.add n).block=a8.block:=λn=>by unfold Addr.add;split<;>rfl
 have dX:∀q,aB c'.hF q->az.M q:=λq F=>.inr (.inr (.inr (.inr (a5.lY q F).1)));refine⟨aB c'.hF,_,rfl,λF=>(a5.lY _ F).2 (by rw[bE,aw]),c'.hF,cQ,a8,b5,⟨J,J⟩,λF=>dR (dX _ ((dW _)▸F)),_,by rw[d_];exact dS,aO ⟨af.bL (c5 _ _),au,cU,aA,ac,_,rfl,by rw[aw];exact aQ,by rw[aw];exact aF,aO ?_⟩⟩;rw[aw,cz];obtain⟨bm,cV⟩:∃bm,bm=cU.setCell ⟨c.cb,2,none⟩ (.slice au.a au.len au.cap):=⟨_,rfl⟩;rw[←cV];obtain⟨X,a9⟩:=aH bm cV;have b7:=dy.leave (c:=c') (c':=⟨c.cb,c'.ma,au,c'.made,c'.left++ [(d[i]).no]⟩) (no:=(d[i]).no) a9 rfl (λq F=>.inl F) bE.symm rfl rfl;have S:=(g.to.trans (dy.ext az c' aP)).trans b7;simp only[g3,kT]at S;have cX:az.E ix:=by rw[g.to.E];exact dL
 have b_:=(g.ix.ext aP).ak a9.ak (a5.t.mG cX);have ca:=cR.to a9;have a_:cr (λq=>¬(az.cW az.E λq=>az.G q\/aB au q).M q) bm n K V D:=(a9.cF (lo:=0) ((g.cF.ext aP).bG λq _ hb=>⟨c8 _,hb⟩)).bG λq _ hb=>hb.2;obtain⟨cD,aT⟩:∃cD,cD=az.cW az.E λq=>az.G q\/aB au q:=⟨_,rfl⟩;have bS:cD.P=az.P:=by rw[aT];rfl
 have bI:cD.f=az.f:=by rw[aT];rfl
 have eV:cN cD=cN az:=by rw[aT];rfl
 have c1:cD.E ix:=by rw[aT];exact cX
 have c3:cD.aY=T.aY:=by rw[aT];show az.aY=_;rw[g.to.aY,dP]
 rw[←aT]at X a9 b7 S ca a_;obtain⟨bo,bF⟩:∃bo:dO,bo=⟨c.cb,c'.ma,au,c'.made,c'.left++ [(d[i]).no]⟩:=⟨_,rfl⟩;rw[←bF]at X b7 S;have js:bo.cb=c.cb:=by rw[bF]
 have ag:bo.made.length<=200:=by rw[bF];exact dV
 have eX:bo.left.length<=201:=by rw[bF,cT,jZ];omega
 obtain⟨dY,cw,bB,dZ⟩:=cl b_;have c4:=b6.len a_.keys;have c6:∀ (w':I) (v:Y),Ext bm w'->(∀ {dK bA bb},dK=cD->bA=bo->bb=l++ [(d[i]).no]->((v=.tuple #[.int .i64 0,.int .i64 0,.int .i64 0]/\ei=[]/\bb.Perm (m++a6)/\m.length<=2*cq.aY+3)\/
  (∃ (root h:Nat) (pages:O Nat),v=.tuple #[.int .i64 (root:Nat),.int .i64 (h:Nat),.int .i64 0]/\gz (a7.P dK) h none none root pages ei/\(pages++bb).Perm (m++a6)/\1<=h/\h<=cq.aY+1/\m.length<=2*cq.aY+3)\/
  (∃a b:Int,v=.tuple #[.int .i64 a,.int .i64 b,.int .i64 3]/\¬cq.C.D.calm 60)))->n4 T c a6 ei w v w':=by
  intro w' v hx hd;refine conv v w' ⟨cD,bo,m,l++ [(d[i]).no],?_,?_,hd (bA:=bo) rfl rfl rfl⟩
  .exact X.ext hx
  .have:=(S.trans (dy.ext cD _ hx)).mono (j:=60) J
   simp only[g3]at this;exact this
 refine cc (λb w'=>(b=true↔(i=0/\n.keys=[]))/\bm=w') (λZ bc=>⟨λh0=>⟨K,cw,bc _ _ ⟨?_,rfl⟩⟩,λh0=>bc _ _ ⟨?_,rfl⟩⟩) ?_
 .have h0:i=0:=by
   have:((i:Nat):Int)=0:=by simpa using h0
   omega
  rw[jy];constructor
  .intro h1
   exact⟨h0,Al J⟩
  .rintro⟨_,h1⟩
   rw[h1]at c4;simp at c4;omega
 .have h0:i≠0:=by
   have:¬((i:Nat):Int)=0:=by simpa using h0
   omega
  exact⟨λh=>(by cases h),λh=>absurd h.1 h0⟩
 rintro eY _ ⟨c7,rfl⟩;refine⟨λhb=>?_,λhb=>?_⟩
 .obtain⟨h0,da⟩:=c7.1 hb
  subst h0;have be:Ext bm bm.drew:=b1 _;obtain⟨d0,m1,m2,d6⟩:=cl (b_.ext be);have db:=(X.ext be).cells.1;rw[js]at db;have d7:=(X.ext be).t.cells.2.2.2.2;obtain⟨t1,t2,t3,t4,t5,t6⟩:=Ctx.GK (by simpa using g.ctx);have L:=g.kf;have N:=g.pp;have an:=g.eq;have aj:=CJ (no:=(d[0]).no) g.acc;subst t2 t3 t4 t5 t6;rw[kU,g3]at an;rw[g3]at N;subst an;have dc:n.leaf=false->∃x,n.kids=[x]/\1<=cD.aY/\gz az.P (cD.aY-1) none none x q M/\1<=cD.aY-1:=by
   intro aI;have e:d.length-0=cD.aY:=by rw[c3];omega
   rw[e]at L
   cases ht:cD.aY with
   |zero=>omega
   |succ t=>
    rw[ht]at L
    cases t with
    |zero=>
     have:=L.1.leaf;rw[aI]at this;cases this
    |succ t=>
     obtain⟨v1,cd,bf,bh,bJ⟩:=L;rw[da]at bJ;generalize eZ:n.kids=e0 at bJ
     cases bJ with
     |one h=>exact⟨_,rfl,J,h.1,J⟩
  refine aO ⟨λ_=>False,id,_,d0,K,m1,V,m2,D,d6,_,rfl,id,_,db,_,rfl,id,_,d7,(sI (a_.ext be) cD.aY J λaI=>by obtain⟨x,a1,a2,_⟩:=dc aI;exact⟨x,a1,a2⟩).use ?_⟩;rintro v w' ⟨rfl,ce⟩;have dd:=be.trans ce
  cases aI:n.leaf with
  |true=>
   rw[if_pos rfl];have de:=L.leaf;rw[aI]at de;have cg:d.length-0=1:=b8 de.symm;rw[cg]at L;obtain⟨v1,cd,bf,bh⟩:=L;subst bf;refine⟨_,_,_,rfl,ce,c6 w' _ dd λ{dK bA bb} a1 a2 a3=>.inl ⟨rfl,?_,?_,by have:=g.qT;omega⟩⟩
   .rw[bh];unfold aK.gP;rw[da];rfl
   .subst a3
    rw[pq]at aj N⊢;intro x;have:=aj x;have:=N x;simp only[pH,rp,rq]at*;omega
  |false=>
   rw[if_neg (by simp)];obtain⟨x,a1,a2,a3,a4⟩:=dc aI;refine⟨_,_,_,rfl,ce,c6 w' _ dd λ{dK bA bb} bz cf aU=>.inr (.inl ⟨_,_,q,rfl,?_,?_,a4,?_,by have:=g.qT;omega⟩)⟩
   .subst bz
    have d8:n.kids.getD 0 0=x:=by rw[a1];rfl
    rw[d8,bS];exact a3
   .subst aU
    rw[pq]at aj N⊢;intro x;have:=aj x;have:=N x;simp only[pH,rp,rq]at*;omega
   .omega
 .have aZ:n.keys≠ []:=λe=>by
   rcases pG i with h0|h0
   .have:=c7.2 ⟨h0,e⟩
    rw[hb]at this;cases this
   .exact g.Mu h0 e
  have e1:cD.C.D.bx<=900000050:=by
   have:=S.to.bx;rw[dN]at this;omega
  have df:2<=cN cD:=by
   have:=S.room;have:=g.qT;omega
  have dh:∀ms:O Nat,ms.length<=3->(m++ms).length<=2*cq.aY+3:=λms h=>by rw[cT];have:=g.qT;omega
  have di:∀j,j<=10->¬cD.C.D.calm j->¬cq.C.D.calm 60:=λj e2 bs hc=>bs (S.to.calm j (ig hc J));have ch:ng n:=g.kf.CG (λ_=>by have:=g.sz;omega) (λ_=>by have:=g.sz;omega) λ_=>aZ;refine cc (λp w'=>p=(if i=0 then none else some (a8.add ((i-1)*6)))/\bm=w') (λZ bc=>⟨λh0=>⟨a8,b5,?_,bc _ _ ⟨?_,rfl⟩⟩,λh0=>bc _ _ ⟨?_,rfl⟩⟩) ?_
  .have h0:((i:Nat):Int)>0:=b8 h0
   rw[bT J J];omega
  .have h0:((i:Nat):Int)>0:=b8 h0
   have e:((i:Nat):Int)-1=((i-1:Nat):Int):=by omega
   rw[bT J J,if_neg J,e,d_]
  .have h0:¬((i:Nat):Int)>0:=cL h0
   rw[if_pos J]
  rintro _ _ ⟨rfl,rfl⟩;refine⟨_,dY,K,cw,V,bB,D,dZ,?_⟩;by_cases h0:i=0
  .subst h0
   rw[if_pos rfl];have bi:=Ml X a_ ch J df J;rw[js]at bi;refine bi.use ?_;rintro _ aV ⟨aW,e,rfl,hf⟩;obtain⟨dK,bA,ms,R,H,bj,bk⟩:=hf.cs;have bK:=S.trans H;simp only[g3]at bK;have d9:bA.cb=c.cb:=by rw[H.cb,js]
   rcases bk with ⟨rfl,ks,av,aJ⟩|⟨rfl,aL⟩
   .refine⟨aW,_,_,0,rfl,λh=>(by cases h),λ_=>⟨λ_=>?_,λh=>(by simp at h)⟩⟩
    obtain⟨t1,t2,t3,t4,t5,t6⟩:=Ctx.GK (by simpa using g.ctx);have L:=g.kf;have N:=g.pp;have an:=g.eq;have bt:=g.sz;have aj:=CJ (no:=(d[0]).no) g.acc;have Q:=g.GL;subst t2 t3 t4 t5 t6;rw[kU,g3]at an;rw[g3]at N Q;subst an;have ea:cD.n<=1600:=X.t.s.bB;have ci:∀z∈q,az.P z=dK.P z:=λz U=>by
     rw[←bS];exact((H.e4 z (by rw[bI,Q z U];rfl)).1).symm
    have eb:d.length-0=(d.length-1)+1:=by omega
    have dl:dK.aY=d.length:=by rw[H.aY,c3];omega
    rw[eb]at L;have dm:∀aX x y,ks=[aX]->ms=[x,y]->dg aX/\x<1600/\y<1600:=λaX x y aA ac=>by
     subst aA ac;have dn:232<bV n:=by
      rcases av with ⟨_,z,e,_⟩|⟨h,_⟩
      .cases e
      .exact h
     obtain⟨e3,_,_,aQ,_⟩:=L.fits (L.BR J) (λ_=>J) (λ_=>J) av ci;have hx:=(H.kI x (by simp)).2;have e6:=(H.kI y (by simp)).2;exact⟨aQ aX (by simp),J,J⟩
    have dp:=Mp R aJ (λ_=>J) dm (by have:=H.to.bx;omega) (by have:=H.room;have:=S.room;have:=g.qT;omega) (by rw[H.made,cT];omega);rw[d9]at dp;refine dp.use ?_;rintro v e7 ec;rcases ec with ⟨x,aA,ac,rfl,aF,aH⟩|⟨aX,x,y,no,nM,fk,aA,ac,aF,aH,ed⟩
    .subst aA ac
     refine⟨_,_,_,rfl,conv _ _ ⟨dK,bA,m++ [x],l++ [(d[0]).no],aF,?_,.inr (.inl ⟨x,dK.aY,x::q,rfl,?_,?_,J,J,dh [x] (by simp)⟩)⟩⟩
     .have:=(bK.trans (dy.ext dK bA aH)).mono (j:=60) J
      simp only[g3]at this;exact this
     .rcases av with ⟨_,z,_,e,U⟩|⟨_,e8,e9,_,e,_⟩
      .cases e
       rw[dl,show d.length=d.length-1+1 from J];exact L.lay aZ U ci
      .cases e
     .rw[pq]at aj N⊢
      intro z;have:=aj z;have:=N z;simp only[pH,rp,rq]at*;omega
    .subst aA ac
     obtain⟨a1,a2,a3⟩:=dm aX x y rfl rfl;have ax:=bK.trans aH;simp only[g3]at ax;have dq:=ax.mono (j:=60) J;rcases ed with ⟨rfl,cj⟩|⟨rfl,cj⟩
     .have ee:∀z∈x::y::q,dK.P z=nM.P z:=λz U=>by
       refine((aH.e4 z ?_).1).symm;rw[H.f];simp only[cY]at U;rcases U with U|U|U
       .simp[U]
       .simp[U]
       .rw[bI,Q z U];simp
      obtain⟨_,pages,bz,cf⟩:=Mv L bt av ci cj ee a2 a3;refine⟨_,_,_,rfl,conv _ _ ⟨nM,fk,m++ [x,y]++ [no],l++ [(d[0]).no],aF,dq,.inr (.inl ⟨no,dK.aY+1,pages,rfl,?_,?_,J,J,by rw[c_];exact dh [x,y,no] (by simp)⟩)⟩⟩
      .rw[dl,show d.length+1=d.length-1+2 from J];exact bz
      .rw[pq]at aj N cf⊢
       intro z;have:=aj z;have:=N z;have:=cf z;simp only[pH,rp,rq]at*;omega
     .refine⟨_,_,_,rfl,conv _ _ ⟨nM,fk,m++ [x,y]++ [no],l++ [(d[0]).no],aF,dq,.inr (.inr ⟨_,_,rfl,λhc=>cj (H.to.calm 1 (S.to.calm 3 (ig hc J)))⟩)⟩⟩
   .refine⟨aW,_,_,3,rfl,λ_=>conv _ _ ⟨dK,bA,m++ms,l++ [(d[0]).no],R,bK.mono J,.inr (.inr ⟨0,0,rfl,di 2 J aL⟩)⟩,λh=>(by cases h)⟩
  .rw[if_neg h0]
   have ck:i-1<d.length:=by omega
   obtain⟨fa,dr,_,_,_,hu⟩:=ca.at ck;rw[b5]at dr;obtain rfl:=Option.some.inj dr;obtain⟨u,cm⟩:∃u,u=d[i-1]:=⟨_,rfl⟩;rw[←cm]at hu;have ef:(d.take i).map dM.st=(d.take (i-1)).map dM.st++ [u.st]:=by
    have:d.take i=d.take (i-1)++ [d[i-1]]:=by
     have e:i-1+1=i:=by omega
     rw[←kt ck,e]
    rw[this,e_,cm];rfl
   obtain⟨ds,dt,eg,du,dv,ps,bW,b9,eh,fb,fc,ej,ek,dw,cn⟩:=Ctx.up g.ctx ef g.kf g.CI.t.zC g.sz;have cg:d.length-i+1=d.length-(i-1):=by omega
   rw[cg]at bW dw cn;have el:=(g.CI.t.fZ _ _ eh).2.is;have fd:=el.2.1.fy J;have Q:=g.GL;have bi:=Mm X a_ hu ch.1 (by have:=g.sz;omega) (λ_=>ch) (λbM=>by
    obtain⟨o,no,rest,bz,cf,aU,bO,bP,dz,_⟩:=cn bM;exact⟨o,no,bz,by rw[bS];exact cf,aU,bO,bP,dz⟩) J J df J J
   rw[js]at bi;refine bi.use ?_;rintro v aV dA;have fe:0<u.n.keys.length:=List.length_pos_iff.2 ej;have ea:cD.n<=1600:=X.t.s.bB;have co:∀ {dK:a7}{bA:dO}{ms ls:O Nat}{w':I}{em:Nat},dy cD dK bo bA ms ls bm w' em->∀x,az.f x=true->az.P x=dK.P x:=λen x hx=>by
    rw[←bS];exact((en.e4 x (by rw[bI,hx];rfl)).1).symm
   have eo:(∃ (dK:a7) (bA:dO) (ms ls:O Nat) (s:ae) (a b:Int),v=.tuple #[.slice s.a s.len s.cap,.int .i64 a,.int .i64 b,.int .i64 3]/\dx aV dK bA/\dy cD dK bo bA ms ls bm aV 4/\¬cD.C.D.calm 4)\/
    (∃ (dK:a7) (bA:dO) (ms ls rest:O Nat) (s:ae) (am ab:Nat) (ks:O Key) (ag:O Nat) (aD:O bg),v=.tuple #[.slice s.a s.len s.cap,.int .i64 (am:Nat),.int .i64 (ab:Nat),.int .i64 0]/\dx aV dK bA/\dy cD dK bo bA ms ls bm aV 4/\ms.length<=2/\ls.length<=1/\mI (λq=>¬dK.M q) aV s ks ms/\
      dk dK.P (d.length-(i-1)) (gI u.n am ab ks ms) ds dt ag aD/\du++(aD++dv)=A++(M++B)/\ag.Perm (ms++(rest++q))/\ps.Perm (ls++rest)/\bV (gI u.n am ab ks ms)<=bV u.n+27/\u.n.keys.length<=(gI u.n am ab ks ms).keys.length+1/\
      am<=u.n.keys.length/\1<=ab/\ab<=u.n.kids.length):=by
    rcases dA with ⟨dn,s,e,rfl,hf⟩|⟨bM,dK,bA,rfl,aA,ac,aQ⟩|⟨bM,o,no,ff,fg,fh,s,e,dB,dC,dE,rfl,hf⟩
    .obtain⟨dK,bA,ms,R,H,bj,bk⟩:=hf.cs
     rcases bk with ⟨rfl,ks,av,aJ⟩|⟨rfl,aL⟩
     .obtain⟨ag,aD,bz,cf,aU,bO,bP⟩:=dw dn dK.P ks ms av (λx hx=>co H x (Q x (by
       rw[b9];simp only[cS,cY]at hx⊢;rcases hx with hx|hx
       .exact .inr (.inr (.inl hx))
       .exact .inl hx))) (λx hx=>by have:=(H.kI x hx).2;omega)
      exact .inr ⟨dK,bA,ms,[],ps,s,u.c2,u.c2+1,ks,ag,aD,rfl,R,H.mono J,bj,c8 _,aJ,bz,cf,aU,List.Perm.refl _,bO,bP,J,J,J⟩
     .exact .inl ⟨dK,bA,ms,[],s,_,_,rfl,R,H.mono J,λhc=>aL (ig hc J)⟩
    .exact .inl ⟨dK,bA,[],[],cJ,0,0,rfl,aA,ac.mono J,λhc=>aQ (ig hc J)⟩
    .obtain⟨fi,dF,rest,bz,cf,aU,bO,bP,dz,dG,ep⟩:=cn bM
     rw[bz]at dB;obtain rfl:=Option.some.inj dB;rw[bS,cf]at dC;obtain rfl:=Option.some.inj dC;obtain⟨dK,bA,ms,R,H,bj,bk⟩:=hf.cs;have ax:=dE.trans H;simp only[kU,g3]at ax;rcases bk with ⟨rfl,ks,av,aJ⟩|⟨rfl,aL⟩
     .obtain⟨ag,aD,d1,d2,d3,d4,d5⟩:=ep dK.P ks ms av (λx hx=>co ax x (Q x (by
       rw[b9];simp only[cS,cY]at hx⊢;rcases hx with hx|hx
       .exact .inr (.inr (.inl (dG.mem_iff.2 (lE _ hx))))
       .exact .inl hx))) (λx hx=>by have:=(ax.kI x hx).2;omega)
      refine .inr ⟨dK,bA,ms,[dF],rest,s,u.c2-1,u.c2-1+2,ks,ag,aD,rfl,R,ax,bj,ba _,aJ,d1,d2,d3,dG,d4,d5,J,J,?_⟩;rcases pG u.c2 with er|er<;>omega
     .exact .inl ⟨dK,bA,ms,[dF],s,_,_,rfl,R,ax,λhc=>aL (dE.to.calm 2 hc)⟩
   clear dA;rcases eo with ⟨dK,bA,ms,ls,aW,a,b,rfl,R,H,aL⟩|⟨dK,bA,ms,ls,rest,aW,am,ab,ks,ag,aD,rfl,R,H,bj,fj,aJ,v1,cd,bf,bh,bJ,es,et,eu,ev⟩
   .exact⟨aW,_,_,3,rfl,λ_=>conv _ _ ⟨dK,bA,_,_,R,(S.trans H).mono J,.inr (.inr ⟨0,0,rfl,di 4 J aL⟩)⟩,λh=>(by cases h)⟩
   .refine⟨aW,_,_,0,rfl,λh=>(by cases h),λ_=>⟨λh=>?_,λ_=>?_⟩⟩
    .have:((i:Nat):Int)=0:=by simpa using h
     omega
    have bn:=hu.to H.to;refine⟨_,rfl,_,bn.bd,u.K,bn.bo,u.V,bn.bA,u.D,bn.fk,(sJ bn.cF aJ (fr:=am) (to:=ab) et J eu ev J J J).use ?_⟩;rintro _ fl ⟨eA,eI,dD,rfl,ew,bp⟩;have dH:=b_.ak H.to.ak (X.t.mG c1);have dI:=dH.ext bp;refine⟨_,eA,eI,dD,rfl,dI.bX rfl hG,rfl,cA dI (us:=eW (gI u.n am ab ks ms) eA eI dD) rfl rfl λex ey br fm=>⟨⟨i-1,dK,bA,m++ms,l++ [(d[i]).no]++ls,gI u.n am ab ks ms,eA,eI,dD,ds,dt,eg,du,dv,ag,aD,ps++((d[i]).no::r),?_,?_⟩,?_⟩⟩
    .rw[bT J J];omega
    .have dJ:dK.E ix:=by rw[H.E];exact c1
     have ct:dK.M ix:=.inr (.inr (.inr (.inl dJ)));have cv:=(S.trans H).trans (dy.ext dK bA bp);simp only[g3]at cv;have ez:cI cq dK w1 ex (4*(d.length-1-i)+4+0):=cv.to.step (E:=dK.E) (G:=dK.G) br (λq e aI=>J) (λq F=>.inl F) λq F=>.inl F;have cx:∀x,az.f x=true->dK.f x=true:=λx hx=>by rw[H.f,bI,hx];rfl
     have bQ:=ca.to H.to;refine⟨ck,(R.ext bp).GJ br λq e=>.inl (by rw[e];exact dJ),{cv.mono (j:=4*(d.length-1-(i-1))) J with to:=ez.mono J},?_,?_,ey,?_,?_,bW.agree λx hx=>co H x (Q x (by rw[b9];simp[hx])),v1,by rw[cd];exact g.eq,?_,Mw (CJ g.acc) bf bh,J,λh1 e=>?_,λx hx=>?_⟩
     .rw[cT];have:=g.qT;omega
     .rw[cT,cT,jZ];have:=g.ll;omega
     .refine(cr.ak ew br λq F e=>?_).bG λq _ F hm=>?_
      .subst e
       rcases F with F|F
       .exact F ct
       .have:=dH.lt;omega
      .rcases F with F|F
       .exact F hm
       .have:=R.t.lt hm;omega
     .refine⟨(bQ.own.ext bp).ak br λq F e=>bQ.qS q F (by rw[e];exact ct),bQ.qS,λx hx=>cr.ak ((bQ.cF x hx).ext bp) br λq F e=>F (by rw[e];exact ct)⟩
     .have this:a6.Perm ((d[i]'cP).no::(r++cZ)):=g.pp
      rw[b9]at this;rw[←cm];exact Mx this
     .have fn:=ek (λaM=>by
       have:=congrArg List.length aM;rw[dU,c9,mX]at this;omega)
      rw[e,mX]at es;omega
     .rcases cS.1 hx with hx|hx
      .have:=bf.mem_iff.1 hx
       rcases cS.1 this with hx|hx
       .rw[H.f];simp[hx]
       .rcases cS.1 hx with hx|hx
        .refine cx x (Q x ?_)
         rw[b9];have:x∈ps:=bh.mem_iff.2 (jc _ hx);simp[this]
        .exact cx x (Q x (by simp[hx]))
      .exact cx x (Q x (by rw[b9];simp[hx]))
    .rw[bT J J]
     show(((i:Nat):Int)-1+1).toNat<(((i:Nat):Int)+1).toNat;omega
theorem Mz{w:I}{T:a7}{c:dO}{ei:O bg}{n:aK}{K V D ws:ae}(t:ws.len=0)(h:dx w T c)(u:cr (λq=>¬T.M q) w n K V D)(Q:T.C.D.bx<=900000000)(R:2<=cN T)(S:c.made.length<=100)(U:c.left=[])
 (g:jj n) (i:n.keys≠ []) (y:bV n<=232) (z:n.gP=ei):
 aC ai 310 #[.pointer (some ⟨c.cb,0,none⟩),.slice ws.a ws.len ws.cap,dT n K V D] w (n4 T c [] ei w):=by
 refine okF (aa.qk (some ⟨c.cb,0,none⟩) ws n.leaf K V D) ao.qk func310 ?_;(delta aa.qk aS ad aE aR c0 bH dj al ah bC ay eU bl bq e5 r1 bw ap st oP A4 hN eG;dsimp only);refine aN (vs:=eW n K V D) rfl λw1 A B W=>?_;obtain⟨cu,bd,bo,bA⟩:=cl A;refine⟨_,cu,K,bd,V,bo,D,bA,aN (vs:=[.bool false,.slice none 0 0,.slice none 0 0,.slice none 0 0]) rfl λX j E Y=>⟨j.bX rfl hG,rfl,cA j (us:=eW n K V D) rfl rfl λl F G Z=>?_⟩⟩;have f:Ext w l:=B.trans (Ext.bN E G (ba _));refine⟨λn10 w'=>n10= -1/\l=w',λ_ _=>0,⟨by rw[t];decide,rfl⟩,?_⟩;rintro _ _ ⟨rfl,rfl⟩;refine⟨λh=>by simp at h,λ_=>?_⟩;obtain⟨d0,d1,d2,d3⟩:=cl F;refine⟨_,d0,K,d1,V,d2,D,d3,(GC (h.ext f) J J J (u.ext f) (.inl g) y).use ?_⟩;intro v w' d;obtain⟨s,e,rfl⟩:=d.out;obtain⟨az,c',m,o,p,hm,H⟩:=(d.base f).cs;rcases H with ⟨rfl,ks,L,N⟩|⟨rfl,P⟩
 .refine⟨s,0,rfl,λh=>(by cases h),λ_=>?_⟩
  rcases L with ⟨_,x,rfl,rfl,hx⟩|⟨ab,_⟩
  .rcases N with ⟨b,r,rfl,_,e,d,_⟩|⟨b,r,ac,af,ag,rfl,e,_⟩
   .obtain rfl:x=r:=by simpa using e
    refine⟨_,rfl,⟨by decide,by show(0:Int)<((1:Nat):Int);decide⟩,_,by rw[aw,aw];exact d.cell,az,c',[x],[],o,p.mono J,.inr (.inl ⟨x,1,[x],rfl,⟨n,hx,g,λk i=>⟨λ_ e=>(by cases e),λ_ e=>(by cases e)⟩,i,rfl,z.symm⟩,List.Perm.refl _,ba _,J,by show 1<=_;omega⟩)⟩
   .cases e
  .omega
 .exact⟨s,3,rfl,λ_=>⟨az,c',m,[],o,p.mono J,.inr (.inr ⟨0,0,rfl,λhc=>P (ig hc J)⟩)⟩,λh=>(by cases h)⟩
def a7.pr(T:a7)(r h:Nat):a7:={T with root:=r,aY:=h}
theorem cM.MA{w w':I}{T:a7}{r h:Nat}(ht:cM w T)(a:Var w' T.bE (nf (T.pr r h)) 356)(hc:af (λq=>q=T.bE) w w')(b:r<T.n)(c:h<=12):cM w' (T.pr r h)/\cI T (T.pr r h) w w' 0:=
 ⟨⟨a,ht.s.ak hc λq d e=>ht.lq (e▸d),ht.ca.ak hc λq e=>.inl e,ht.lq,ht.eR,ht.lr,ht.n,⟨b,c,ht.num.2.2⟩,ht.fZ,ht.cy,ht.low⟩,
  ⟨rfl,rfl,rfl,rfl,rfl,rfl,rfl,rfl,rfl,rfl,ba _,λ_ h=>h,hc.mono λq _ e=>.inr (.inl e),λq h=>.inl h,λq h=>.inl h⟩⟩
def iy(T:a7)(pages:O Nat)(L:O bg):Prop:=(T.aY=0/\T.root=0/\pages=[]/\L=[])\/gz T.P T.aY none none T.root pages L
theorem GM{s t:Nat->aj}:∀ {n:Nat},(∀i,s i=true->t i=true)->ff s n<=ff t n
 |0,_=>ba _
 |n+1,h=>by
  have h1:=GM (n:=n) h
  show ff s n+(s n).toNat<=ff t n+(t n).toNat
  cases hs:s n with
  |false=>exact Nat.add_le_add h1 (c8 _)
  |true=>rw[h n hs];exact Nat.add_le_add_right h1 _
def zD(T:a7)(a6:O Nat)(ei:O bg)(w:I)(v:Y)(w':I):Prop:=
 ∃az:a7,cM w' az/\cI T az w w' 60/\az.E=T.E/\az.G=T.G/\
  ((v=.int .i64 2/\cN T<2*T.aY+3/\az=T)\/
   (v=.int .i64 0/\2*T.aY+3<=cN T/\(∃pages,cN T<=cN az+(2*T.aY+3)/\iy az pages ei/\pages.Nodup/\(∀no∈pages,no∈a6\/(T.f no||T.g no)=false)/\∀no,az.f no=true↔(no∈pages\/(T.f no=true/\no∉a6)))/\∀no,T.g no=true->az.P no=T.P no/\az.C.view no=T.C.view no)\/
   (v=.int .i64 3/\¬T.C.D.calm 60/\az.root=T.root/\az.aY=T.aY/\az.f=T.f/\∀no,(T.f no||T.g no)=true->az.P no=T.P no/\az.C.view no=T.C.view no))
theorem GN{l:O Nat}(h:∀x,l.count x<=1):l.Nodup:=List.nodup_iff_count.2 h
theorem MB{w:I}{T:a7}{s:ae}{a6:O Nat}{ei:O bg}{n:aK}{K V D:ae}(h:cM w T)(bX:¬T.C.D.ro)(c7:T.C.D.bx<=900000000)(y:T.aY<12)(bY:a6.Nodup)(aD:∀x∈a6,T.f x=true)(c8:a6.length<=5000)
 (bZ:∀ (cp j:Nat->Prop) (w1:I) (bd:dO),dx w1 (T.cW cp j) bd->cI T (T.cW cp j) w w1 0->2*T.aY+3<=cN T->bd.made=[]->bd.left=[]->aC ai 310 #[.pointer (some bd.cb),s,dT n K V D] w1 (n4 (T.cW cp j) bd a6 ei w1)):
 aC ai 289 #[.pointer (some T.bE),s,dT n K V D] w (zD T a6 ei w):=by
 have c9:=h.s.bB;refine aa.Jz (some T.bE) s n.leaf K V D w _ ?_;(delta aa.u5 bC ay e5 r1 b4 ah al st ad aS aE aR oP eM;dsimp only);refine aN (vs:=eW n K V D) rfl λw1 ab a5 c_=>aN (vs:=[(0:Int)]) rfl λag a8 a9 da=>aO ?_;have ac:Ext ag ag.drew:=b1 _;obtain⟨a_,b0⟩:∃a_,a_=ag.drew:=⟨_,rfl⟩;rw[←b0]at ac⊢;have ba:=(a5.trans a9).trans ac;have o:=h.ext ba;obtain⟨ev,b2⟩:∃ev,ev=w1.heap.size:=⟨_,rfl⟩;rw[←b2]at a8⊢;refine⟨λ_=>False,_,rfl,id,_,o.cells.2.1,_,rfl,id,_,o.cells.2.2.2.2,(Cu o.s).use ?_⟩;rintro _ aF ⟨rfl,aj⟩;have aG:=ba.trans aj;have R:=(a8.ext ac).ext aj;have b3:((T.n:Int)-ff (λi=>T.f i||T.g i) T.n)=(cN T:Nat):=by
  have:=pj (λi=>T.f i||T.g i) T.n;unfold cN;omega
 have b5:IntKind.wrap .i64 (IntKind.wrap .i64 (2*(T.aY:Int))+3)=((2*T.aY+3:Nat):Int):=by
  rw[bT (n:=2*(T.aY:Int)) J J,bT J J];omega
 rw[b3,b5];refine⟨_,rfl,aj,λhb=>?_,λhb=>?_⟩
 .have hb:((cN T:Nat):Int)<((2*T.aY+3:Nat):Int):=b8 hb
  obtain⟨aA,B⟩:=eP R (i:=0) (by simp);have b6:=dX aF ev 0 (2:Int);have b7:=eO R (i:=0) (2:Int);have bb:=Ext.bN aG b6 J;exact⟨aA,B,aO ⟨2,b7.cell,T,h.ext bb,(cI.ext T bb).mono J,rfl,rfl,.inl ⟨rfl,J,rfl⟩⟩⟩
 have bc:2*T.aY+3<=cN T:=by
  have:¬((cN T:Nat):Int)<((2*T.aY+3:Nat):Int):=cL hb;omega
 refine aN (vs:=[.pointer (some T.bE),(),()]) rfl λb_ be ca db=>aN (vs:=[.pointer none]) rfl λbf aH bh dc=>?_;obtain⟨cb,bi⟩:∃cb,cb=aF.heap.size:=⟨_,rfl⟩;obtain⟨fu,bj⟩:∃fu,fu=b_.heap.size:=⟨_,rfl⟩;rw[←bi]at be⊢;rw[←bj]at aH⊢;obtain⟨aA,B⟩:=eP aH (i:=0) (by simp);have am:=dX bf fu 0 (.pointer (some cb));have aI:=eO aH (i:=0) (.pointer (some cb));refine⟨aA,B,aO ?_⟩;obtain⟨F,cc⟩:∃F,F=bf.setCell fu (.pointer (some cb)):=⟨_,rfl⟩;rw[←cc]at am aI⊢;have dd:=aG.size;have de:=am.size;have aJ:Ext aF F:=Ext.bN (ca.trans bh) am J;have bk:=aG.trans aJ;have bl:=R.ext aJ;have bn:=(be.ext bh).ak am J;have cd:=((ab.ext a9).ext ac).ext (aj.trans aJ);obtain⟨cp,aL⟩:∃cp,cp=λq=>T.E q\/q=ev:=⟨_,rfl⟩;obtain⟨j,aM⟩:∃j,j=λq=>T.G q\/q=cb:=⟨_,rfl⟩;have aP:∀q,cp q->T.E q\/q=ev:=λq c=>by rw[aL]at c;exact c
 have an:∀q,j q->T.G q\/q=cb:=λq c=>by rw[aM]at c;exact c
 have bp:∀q,T.E q->cp q:=λq c=>by rw[aL];exact .inl c
 have ce:∀q,T.G q->j q:=λq c=>by rw[aM];exact .inl c
 have aQ:cp ev:=by rw[aL];exact .inr rfl
 have cf:j cb:=by rw[aM];exact .inr rfl
 have df:=bl.lt;have dg:=bn.lt;have bq:cM F (T.cW cp j):=h.grow (W:=λ_=>False) bk (λ_ h=>h.elim) (λq c=>(aP q c).imp id λe=>.inr ⟨J,J⟩) (λq c=>.inr ((an q c).imp id λe=>⟨J,J⟩)) λq c hg=>by
  rcases aP q c with h1|h1<;>rcases an q hg with k|k
  .exact(h.eR q h1).2.2 k
  .have:=h.lt (q:=q) (.inr (.inr (.inr (.inl h1))));omega
  .have:=h.lt (q:=q) (.inr (.inr (.inr (.inr k))));omega
  .have:=R.lt;omega
 have br:cI T (T.cW cp j) w F 0:=(cI.refl T w).step (W:=λ_=>False) bk (λ_ h=>h.elim) (λq c=>(aP q c).imp id λe=>.inr J) λq c=>(an q c).imp id λe=>by omega
 have cg:dx F (T.cW cp j) ⟨cb,cJ,cJ,[],[]⟩:=⟨bq,bn,aT.none _ _ _,aT.none _ _ _,cf,λq c=>(gU q c).elim,λq c=>(gU q c).elim,bX⟩;have ch:=bZ cp j F _ cg br bc rfl rfl;obtain⟨cu,bd,bo,bA⟩:=cl cd;refine⟨_,aI.cell,_,cu,K,bd,V,bo,D,bA,ch.use ?_⟩;rintro v bm ⟨cq,u,m,l,bs,d,ci⟩;have S:cq.E ev:=by rw[d.E];exact aQ
 have ao:=bl.ak d.to.ak (bq.mG aQ);have cj:¬(T.cW cp j).N fu:=by
  have dh:cb<fu:=by rw[bi,bj];omega
  rintro(c|c|c|c)
  .have:=h.lt (q:=fu) (.inl c);omega
  .have:=h.lt (q:=fu) (.inr (.inl c));omega
  .have:=h.lt (q:=fu) (.inr (.inr (.inl c)));omega
  .rcases an fu c with h1|h1
   .have:=h.lt (q:=fu) (.inr (.inr (.inr (.inr h1))));omega
   .omega
 have bt:=aI.ak d.to.ak cj;have ap:u.cb=cb:=d.cb;have di:cq.bE=T.bE:=d.to.bE;have aq:u.made=m:=d.made;have ar:u.left=l:=d.left;have aU:fu≠ev:=by have:=R.lt;omega
 have bu:cI T cq w bm 60:=(br.trans d.to).mono J
 have fin:∀ (w':I) (az:a7),cM w' az->cI T az w w' 60->az.E=cp->(∀q,T.G q->az.G q)->cM w' (az.cW T.E T.G)/\cI T (az.cW T.E T.G) w w' 60:=by
  intro w' az hc ht bv bw;exact⟨hc.grow (W:=λ_=>False) (af.refl _ _) (λ_ h=>h.elim) (λq c=>.inl (by rw[bv];exact bp q c)) (λq c=>.inr (.inl (bw q c))) λq c=>(h.eR q c).2.2,
   ht.step (W:=λ_=>False) (af.refl _ _) (λ_ h=>h.elim) (λq c=>.inl (by rw[bv];exact bp q c)) λq c=>.inl (bw q c)⟩
 have bz:∀q,T.G q->cq.G q:=λq c=>d.G q (ce q c);have dj:=(a5).size;have aV:∀ (w0:I) (az:a7) (c':dO) (x:Int),dx w0 az c'->cI T az w w0 60->az.E ev->dx (w0.setCell ev x) az c'/\cI T az w (w0.setCell ev x) 60:=λw0 az c' x hc ht he=>
  ⟨hc.GJ (dX w0 ev 0 _) λq e=>.inl (by rw[e];exact he),ht.step (E:=az.E) (G:=az.G) (dX w0 ev 0 _) (λq e aW=>J) (λq c=>.inl c) λq c=>.inl c⟩
 have dk:m.length<=1600:=by
  have:=d.room;have:cN (T.cW cp j)<=T.n:=by unfold cN;exact Nat.sub_le _ _
  omega
 have ck:(∃a b:Int,v=.tuple #[a,b,(3:Int)]/\¬T.C.D.calm 60)\/(∃ (root y:Nat) (pages:O Nat),v=.tuple #[root,y,(0:Int)]/\((y=0/\root=0/\pages=[]/\ei=[])\/gz cq.P y none none root pages ei)/\(pages++l).Perm (m++a6)/\y<=12/\m.length<=2*T.aY+3):=by
  rcases ci with ⟨rfl,h1,k,aX⟩|⟨root,y,pages,rfl,h1,k,o,H,aX⟩|⟨a,b,rfl,aZ⟩
  .exact .inr ⟨0,0,[],rfl,.inl ⟨rfl,rfl,rfl,h1⟩,k,J,aX⟩
  .have H:y<=T.aY+1:=H
   exact .inr ⟨root,y,pages,rfl,.inr h1,k,J,aX⟩
  .exact .inl ⟨a,b,rfl,aZ⟩
 rcases ck with ⟨a,b,rfl,aZ⟩|⟨root,p,pages,rfl,cm,bD,cn,dl⟩
 .
  obtain⟨aA,B⟩:=eP ao (i:=0) (by simp);have z:=eO ao (i:=0) (3:Int);obtain⟨au,av⟩:=aV bm cq u 3 bs bu S;have U:=bt.ak (dX bm ev 0 (3:Int)) aU;refine⟨a,b,3,rfl,aA,B,aO ⟨3,z.cell,λ_=>⟨3,z.cell,?_⟩,λhx=>(by cases hx)⟩⟩;obtain⟨co,cr⟩:=eP z (i:=0) (by simp);have a0:=eO z (i:=0) (3:Int);obtain⟨bF,bG⟩:=aV _ cq u 3 au av S;have a1:=U.ak (dX _ ev 0 (3:Int)) aU;refine⟨co,cr,aO (aa.ER ev fu _ _ ?_)⟩;generalize dm:(bm.setCell ev (3:Int)).setCell ev (3:Int)=bH at a0 bF a1 bG⊢;(delta aa.sF r1 ah ay aR eM;dsimp only);have L:Ext bH bH.drew:=b1 _;have r:=bF.ext L;have X:=GG r r.ma.src (λq c=>(r.jr q c).1) (l:=u.made) (λx hx=>by rw[aq]at hx;rw[d.f];simp[hx]) (by rw[aq];exact d.cF) (by rw[aq];omega);rw[ap]at X;have Y:=r.cells.2.1;rw[ap]at Y;refine⟨3,a0.cell,λ_=>aO ⟨id,_,a1.drew.cell,id,_,a1.drew.cell,_,rfl,id,u.ma,Y,X.use ?_⟩,λhx=>(by cases hx)⟩;rintro _ bI ⟨rfl,cD,A,hg⟩;rw[aq]at hg;have cs:=(a0.ext L).ak hg.to.ak (r.t.mG S);have ct:cI T cD w bI 60:=((bG.trans (cI.ext cq L)).trans hg.to).mono J;obtain⟨f1,f2⟩:=fin bI cD A.t ct (by rw[hg.E];exact d.E) λq c=>by rw[hg.G];exact bz q c
  refine⟨rfl,3,cs.cell,_,f1,f2,rfl,rfl,.inr (.inr ⟨rfl,aZ,hg.root.trans d.root,hg.aY.trans d.aY,?_,λno Z=>?_⟩)⟩
  .funext no
   show cD.f no=T.f no;rw[hg.f,d.f];by_cases hm:no∈m
   .have:=(d.kI no hm).1
    have e:(T.cW cp j).f no=T.f no:=rfl;rw[e]at this⊢
    cases a2:T.f no
    .simp[hm]
    .rw[a2]at this;cases this
   .simp[hm];rfl
  .have hm:no∉m:=λhm=>by
    have:=(d.kI no hm).1;have e:((T.cW cp j).f no||(T.cW cp j).g no)=(T.f no||T.g no):=rfl;rw[e,Z]at this;cases this
   have h1:=hg.e4 no (.inl hm);have k:=d.e4 no Z;exact⟨h1.1.trans k.1,h1.2.trans k.2⟩
 .
  have Q:∀x,pages.count x+l.count x=m.count x+a6.count x:=λx=>by
   have:=pq.1 bD x;simpa only[pH] using this
  have ax:∀x,m.count x+a6.count x<=1:=λx=>by
   have h1:=List.nodup_iff_count.1 d.cF x;have k:=List.nodup_iff_count.1 bY x;rcases pG (m.count x) with o|o
   .omega
   .rcases pG (a6.count x) with H|H
    .omega
    .have hm:=k0.1 o
     have cv:=k0.1 H;have:=(d.kI x hm).1;have e:((T.cW cp j).f x||(T.cW cp j).g x)=(T.f x||T.g x):=rfl;rw[e,aD x cv]at this;cases this
  have hlen:pages.length+l.length=m.length+a6.length:=by
   have:=bD.length_eq;simpa only[cT] using this
  have cx:∀x∈l,cq.f x=true:=λx hx=>by
   have h1:=k0.2 hx;have k:=Q x;rw[d.f];rcases pG (m.count x) with o|o
   .have:x∈a6:=k0.1 J
    have e:(T.cW cp j).f x=T.f x:=rfl;rw[e,aD x this];rfl
   .have:x∈m:=k0.1 o
    simp[this]
  have cy:l.Nodup:=GN λx=>by have:=Q x;have:=ax x;omega
  obtain⟨aA,B⟩:=eP ao (i:=0) (by simp);have z:=eO ao (i:=0) (0:Int);obtain⟨au,av⟩:=aV bm cq u 0 bs bu S;have U:=bt.ak (dX bm ev 0 (0:Int)) aU;refine⟨_,_,0,rfl,aA,B,aO ⟨0,z.cell,λhx=>(by cases hx),λ_=>aO ?_⟩⟩;generalize dn:bm.setCell ev (0:Int)=bJ at z au U av⊢;have L:Ext bJ bJ.drew:=b1 _;have r:=au.ext L;have X:=GG r r.hF.src (λq c=>(r.lY q c).1) (l:=u.left) (λx hx=>cx x (by rw[ar]at hx;exact hx)) (by rw[ar];exact cy) (by rw[ar];omega);rw[ap]at X;have Y:=r.cells.2.2;rw[ap]at Y;refine⟨id,_,U.drew.cell,id,_,U.drew.cell,_,rfl,id,u.hF,Y,X.use ?_⟩;rintro _ M ⟨rfl,cD,A,hg⟩;rw[ar]at hg;have cA:=(z.ext L).ak hg.to.ak (r.t.mG S);have bK:cI T cD w M 60:=((av.trans (cI.ext cq L)).trans hg.to).mono J;have a3:cD.bE=T.bE:=bK.bE;have bL:cD.E=cp:=by rw[hg.E];exact d.E
  have cB:cD.E ev:=by rw[bL];exact aQ
  have bM:Var M T.bE (nf cD) 356:=by rw[←a3];exact A.t.t
  obtain⟨bW,b9⟩:=eP bM (i:=3) (by simp[nf]);have bO:=eO bM (i:=3) root;have cC:=dX M T.bE 3 root;obtain⟨cE,cG⟩:=eP bO (i:=4) (by simp[nf]);have bP:=eO bO (i:=4) p;have cH:=dX (M.setCell ⟨T.bE,3,none⟩ root) T.bE 4 p;refine⟨rfl,_,rfl,by rw[aw];exact bW,by rw[aw];exact b9,aO ⟨_,rfl,by rw[aw,aw];exact cE,by rw[aw,aw];exact cG,aO ?_⟩⟩;rw[aw,aw,cz,cz];have a4:af (λq=>q=T.bE) M ((M.setCell ⟨T.bE,3,none⟩ root).setCell ⟨T.bE,4,none⟩ p):=cC.trans cH;generalize dp:(M.setCell ⟨T.bE,3,none⟩ root).setCell ⟨T.bE,4,none⟩ p=aB at bP a4⊢;have cK:∀x∈pages,x∉l:=λx hx aW=>by
   have h1:=k0.2 hx;have k:=k0.2 aW;have:=Q x;have:=ax x;omega
  have bQ:(p=0/\root=0/\pages=[]/\ei=[])\/(gz cD.P p none none root pages ei/\root∈pages):=cm.imp id λcO=>cO.agree λx hx=>((hg.e4 x (.inl (cK x hx))).1).symm;have cP:root<cD.n:=by
   rcases bQ with ⟨_,h1,_⟩|⟨h1,_⟩
   .have:=A.t.s.cw;omega
   .obtain⟨cF,_,k,_⟩:=h1.kf
    exact(A.t.fZ _ _ k).1
  have cQ:Var aB cD.bE (nf (cD.pr root p)) 356:=by rw[a3];exact bP
  obtain⟨cR,cS⟩:=A.t.MA cQ (by rw[a3];exact a4) cP cn;have cU:ev≠T.bE:=λe=>by have:=h.lt (q:=T.bE) (.inr (.inl rfl));omega
  have bR:=cA.ak a4 cU;obtain⟨cV,cY⟩:=eP bR (i:=0) (by simp);have bS:=eO bR (i:=0) (0:Int);have bU:=dX aB ev 0 (0:Int);refine⟨cV,cY,aO (aa.ER ev fu _ _ ?_)⟩;(delta aa.sF r1 ah ay aR eM;dsimp only);refine⟨0,bS.cell,λhx=>(by cases hx),λ_=>⟨0,bS.cell,?_⟩⟩;have cZ:cM (aB.setCell ev (0:Int)) (cD.pr root p):=cR.grow (E:=cD.E) (G:=cD.G) bU (λq e _=>.inl (by rw[e];exact cB)) (λq c=>.inl c) (λq c=>.inr (.inl c)) λq c=>(A.t.eR q c).2.2;have c0:cI T (cD.pr root p) w (aB.setCell ev (0:Int)) 60:=((bK.trans cS).mono J).step (E:=cD.E) (G:=cD.G) bU (λq e aW=>J) (λq c=>.inl c) λq c=>.inl c;obtain⟨f1,f2⟩:=fin _ _ cZ c0 bL λq c=>by
   show cD.G q;rw[hg.G];exact bz q c
  refine⟨_,f1,f2,rfl,rfl,.inr (.inl ⟨rfl,bc,⟨pages,?_,?_,GN λx=>by have:=Q x;have:=ax x;omega,λno hx=>?_,λno=>?_⟩,λno Z=>?_⟩)⟩
  .have h1:cN cq+m.length=cN T:=d.room
   have k:cN cq<=cN (cD.pr root p):=by
    show cq.n-_<=cD.n-ff (λi=>cD.f i||cD.g i) cD.n;rw[hg.to.n];have:=GM (s:=λi=>cD.f i||cD.g i) (t:=λi=>cq.f i||cq.g i) (n:=cq.n) λi hi=>by
     rw[hg.f,hg.to.g]at hi;rw[jX,dH]at hi;rw[jX];exact hi.imp And.left id
    omega
   show cN T<=cN (cD.pr root p)+_;omega
  .rcases bQ with ⟨h1,k,o,H⟩|⟨h1,_⟩
   .exact .inl ⟨h1,k,o,H⟩
   .exact .inr h1
  .have h1:=k0.2 hx
   have k:=Q no;rcases pG (a6.count no) with o|o
   .have hm:no∈m:=k0.1 J
    exact .inr (d.kI no hm).1
   .exact .inl (k0.1 o)
  .show cD.f no=true↔_
   rw[hg.f,d.f];have e:(T.cW cp j).f no=T.f no:=rfl;rw[e];have dq:=Q no;have A:=ax no;have bV:no∈m↔0<m.count no:=k0.symm;have ab:no∈a6↔0<a6.count no:=k0.symm;have c1:no∈l↔0<l.count no:=k0.symm;have c2:no∈pages↔0<pages.count no:=k0.symm;have c3:0<a6.count no->T.f no=true:=λh=>aD no (ab.2 h);have c4:0<m.count no->T.f no=false:=λh=>by
    have:=(d.kI no (bV.2 h)).1;have e:((T.cW cp j).f no||(T.cW cp j).g no)=(T.f no||T.g no):=rfl;rw[e]at this
    cases a2:T.f no
    .rfl
    .rw[a2]at this;cases this
   rw[dH,jX,cX,kr,lF,bV,ab,c1,c2];constructor
   .rintro⟨h1|h1,k⟩
    .by_cases o:0<a6.count no
     .left;omega
     .exact .inr ⟨h1,o⟩
    .left;omega
   .rintro(h1|⟨h1,k⟩)
    .refine⟨?_,J⟩
     by_cases o:0<a6.count no
     .exact .inl (c3 o)
     .right;omega
    .refine⟨.inl h1,λo=>?_⟩
     have:0<m.count no:=by omega
     rw[c4 this]at h1;cases h1
  .have c5:(T.f no||T.g no)=true:=by rw[Z];simp
   have c6:cq.g no=true:=by rw[d.to.g];exact Z
   have h1:=hg.e4 no (.inr c6);have k:=d.e4 no c5;exact⟨h1.1.trans k.1,h1.2.trans k.2⟩
theorem GO{ks:O Key}{k:Key}{i:Nat}(hs:ks.Pairwise ct)(h1:da ks k<=i)(hi:i<ks.length)(f:ks[da ks k]? ≠some k):ct k ks[i]:=by
 rcases qB.1 (s4 hs h1 hi) with a|a
 .exact a
 .exfalso
  rcases eF (da ks k) i with b|b
  .have c:da ks k<ks.length:=by omega
   have g:=s4 hs (ba _) c;have d:=mV.1 hs _ _ c hi b;rw[←a]at d;exact g d
  .have e:i=da ks k:=by omega
   apply f;subst e;rw[eJ hi,←a]
theorem GP{n:aK}(h:jj n){i:Nat}(hi:i<=n.keys.length):∃a b c d:O Key,n.keys=a++b/\n.vals=c++d/\a.length=i/\c.length=i/\b.length=d.length/\n.keys.take i=a/\n.keys.drop i=b/\n.vals.take i=c/\n.vals.drop i=d:=by
 have e:=h.len;refine⟨n.keys.take i,n.keys.drop i,n.vals.take i,n.vals.drop i,(g2 i _).symm,(g2 i _).symm,?_,?_,?_,rfl,rfl,rfl,rfl⟩
 .rw[c9];omega
 .rw[c9];omega
 .rw[ek,ek];omega
def l0(k v:Key):Nat:=2+k.length+v.length
theorem zE{n:aK}(h:n.leaf=true):bV n=1+(List.zipWith l0 n.keys n.vals).sum:=by
 unfold bV;rw[if_pos h,mC h];rfl
theorem MC{n:aK}{k v:Key}(h:jj n)(u:dg k)(w:v.length<=24):jj (iv n k v)/\(iv n k v).gP=hA n.gP k v/\bV (iv n k v)<=bV n+50/\(iv n k v).keys≠ []/\n.keys.length<=(iv n k v).keys.length/\(∀s∈(iv n k v).keys,s=k\/s∈n.keys):=by
 have hlen:=h.len;have A:=vd n.keys k;have F:n.gP=n.keys.zip n.vals:=rfl;have B:=h.du;have C:∀ (j:Nat) (g:j<n.keys.length),j<da n.keys k->ct n.keys[j] k:=λj g h1=>qD h1 g;have D:n.keys[da n.keys k]? ≠some k->∀ (j:Nat) (g:j<n.keys.length),da n.keys k<=j->ct k n.keys[j]:=λhe j g h1=>GO B h1 g he;rw[F,Kz h.du];unfold iv kF;generalize hi:da n.keys k=i at A C D⊢;obtain⟨a,b,c,d,aG,aM,G,H,I,l,m,q,r⟩:=GP h A;have f:n.keys.zip n.vals=a.zip c++b.zip d:=by rw[aG,aM];exact vc J
 have p:(a.zip c).length=i:=by rw[tI];omega
 by_cases he:n.keys[i]? =some k
 .rw[if_pos (by simpa using he),if_pos he]
  have K:∃b',b=k::b':=by
   cases b with
   |nil=>rw[aG,kY J]at he;simp at he
   |cons y b'=>
    rw[aG,kY J,G,q9]at he;simp at he;exact⟨b',by rw[he]⟩
  obtain⟨b',rfl⟩:=K;obtain⟨x,d',rfl⟩:∃x d',d=x::d':=by
   cases d with
   |nil=>simp at I
   |cons x d'=>exact⟨x,d',rfl⟩
  have E:n.vals.set i v=c++v::d':=by
   rw[aM,wc _ _ J,H,q9];rfl
  refine⟨⟨⟨h.ok,h.du⟩,h.leaf,by simp[hlen],h.kids,λz f=>?_⟩,?_,?_,λe=>by have e:n.keys=[]:=e;rw[e]at aG;simp at aG,ba _,λs hs=>.inr hs⟩
  .rcases oB f with h1|h1
   .exact h.vals z h1
   .rw[h1];exact w
  .show n.keys.zip (n.vals.set i v)=_
   rw[E,f,aG,vc J,nY p];have L:(a.zip c++(k::b').zip (x::d')).drop (i+1)=b'.zip d':=by
    rw[List.zip_cons_cons,show a.zip c++(k,x)::b'.zip d'=(a.zip c++ [(k,x)])++b'.zip d' by simp];exact drop_left' (by simp only[cT,p,jZ])
   rw[L];rfl
  .rw[zE h.leaf,zE (n:={n with vals:=n.vals.set i v}) h.leaf]
   show 1+(List.zipWith l0 n.keys (n.vals.set i v)).sum<=_;rw[E,aG,aM,v8 J,v8 J,ox,ox,List.zipWith_cons_cons,List.zipWith_cons_cons,List.sum_cons,List.sum_cons];unfold l0;omega
 .rw[if_neg (by simpa using he),if_neg he]
  have M:=D he;refine⟨⟨⟨λz f=>?_,?_⟩,h.leaf,?_,h.kids,λz f=>?_⟩,?_,?_,λe=>?_,?_,λs hs=>?_⟩
  .have f:z∈n.keys.take i++ [k]++n.keys.drop i:=f
   simp only[cS,ej]at f;rcases f with (f|rfl)|f
   .exact h.ok z (gT f)
   .exact u
   .exact h.ok z (gK f)
  .show(n.keys.take i++ [k]++n.keys.drop i).Pairwise ct
   rw[l,m];have N:(a++b).Pairwise ct:=by rw[←aG];exact B
   obtain⟨aA,t,O⟩:=pF.1 N;have P:∀x∈a,ct x k:=λx hx=>by
    obtain⟨j,g,rfl⟩:=fi hx;have:=C j (by rw[aG,cT];omega) J;simp only[aG,tM g]at this;exact this
   have Q:∀y∈b,ct k y:=λy o=>by
    obtain⟨j,g,rfl⟩:=fi o;have:=M (i+j) (by rw[aG,cT];omega) J;have e:(a++b)[i+j]'(by rw[cT];omega)=b[j]:=by
     rw[wa J];congr 1;omega
    simp only[aG,e]at this;exact this
   rw[c_];refine pF.2 ⟨aA,?_,λx hx y o=>?_⟩
   .exact mf.2 ⟨Q,t⟩
   .rcases cY.1 o with rfl|o
    .exact P x hx
    .exact O x hx y o
  .show(n.vals.take i++ [v]++n.vals.drop i).length=(n.keys.take i++ [k]++n.keys.drop i).length
   rw[l,m,q,r];simp only[cT,jZ];omega
  .have f:z∈n.vals.take i++ [v]++n.vals.drop i:=f
   simp only[cS,ej]at f;rcases f with (f|rfl)|f
   .exact h.vals z (gT f)
   .exact w
   .exact h.vals z (gK f)
  .show(n.keys.take i++ [k]++n.keys.drop i).zip (n.vals.take i++ [v]++n.vals.drop i)=_
   rw[l,m,q,r,f,nY p,drop_left' p,c_,c_,vc J];rfl
  .rw[zE h.leaf,zE (n:={n with keys:=n.keys.take i++ [k]++n.keys.drop i,vals:=n.vals.take i++ [v]++n.vals.drop i}) h.leaf]
   show 1+(List.zipWith l0 (n.keys.take i++ [k]++n.keys.drop i) (n.vals.take i++ [v]++n.vals.drop i)).sum<=_;have aA:(List.zipWith l0 (a++ [k]++b) (c++ [v]++d)).sum=(List.zipWith l0 a c).sum+(l0 k v+(List.zipWith l0 b d).sum):=by
    rw[c_,c_,v8 J,ox];rfl
   have t:(List.zipWith l0 (a++b) (c++d)).sum=(List.zipWith l0 a c).sum+(List.zipWith l0 b d).sum:=by
    rw[v8 J,ox]
   rw[l,m,q,r,aG,aM,aA,t];have:=u.2;unfold l0;omega
  .have e:n.keys.take i++ [k]++n.keys.drop i=[]:=e
   simp at e
  .show n.keys.length<=(n.keys.take i++ [k]++n.keys.drop i).length
   rw[l,m,aG];simp only[cT,jZ];omega
  .have hs:s∈n.keys.take i++ [k]++n.keys.drop i:=hs
   simp only[cS,ej]at hs;rcases hs with (hs|rfl)|hs
   .exact .inr (gT hs)
   .exact .inl rfl
   .exact .inr (gK hs)
def GQ(T:a7)(a6:O Nat)(ei:O bg)(w:I)(v:Y)(w':I):Prop:=
 ∃az:a7,cM w' az/\cI T az w w' 100/\az.E=T.E/\az.G=T.G/\
  ((v=.int .i64 2/\cN T<2*T.aY+3/\az=T)\/
   (v=.int .i64 0/\2*T.aY+3<=cN T/\(∃pages,cN T<=cN az+(2*T.aY+3)/\iy az pages ei/\pages.Nodup/\(∀no∈pages,no∈a6\/(T.f no||T.g no)=false)/\∀no,az.f no=true↔(no∈pages\/(T.f no=true/\no∉a6)))/\∀no,T.g no=true->az.P no=T.P no/\az.C.view no=T.C.view no)\/
   (v=.int .i64 3/\¬T.C.D.calm 100/\az.root=T.root/\az.aY=T.aY/\az.f=T.f/\∀no,(T.f no||T.g no)=true->az.P no=T.P no/\az.C.view no=T.C.view no))
theorem zD.ak{T:a7}{aU:cv}{a6:O Nat}{ei:O bg}{w w1 w':I}{v:Y}{k:Nat}(h:zD (T.cB aU T.P) a6 ei w1 v w')(e:cI T (T.cB aU T.P) w w1 k)(s:k<=40)(f:∀j,aU.view j=T.C.view j)(i:2*T.aY+3<=cN T):GQ T a6 ei w v w':=by
 obtain⟨az,h1,l,m,n,o⟩:=h;refine⟨az,h1,(e.trans l).mono J,m,n,?_⟩;have p:cN (T.cB aU T.P)=cN T:=rfl;have q:(T.cB aU T.P).aY=T.aY:=rfl;rcases o with ⟨_,b,_⟩|⟨rfl,b,d,c⟩|⟨rfl,b,d,c,r,g⟩
 .rw[p,q]at b;omega
 .exact .inr (.inl ⟨rfl,i,d,λno a=>⟨(c no a).1,(c no a).2.trans (f no)⟩⟩)
 .exact .inr (.inr ⟨rfl,λhc=>b (e.calm 60 (ig hc J)),d,c,r,λno a=>⟨(g no a).1,(g no a).2.trans (f no)⟩⟩)
theorem qi(w:I)(s:ae):aC ai 284 #[s] w (λv w'=>v=.bool (decide (1<=s.len/\s.len<=24))/\w=w'):=by
 refine okF (aa.qi s) ao.qi func284 ?_;unfold aa.qi;refine⟨?_,rfl⟩
 congr 1
 rw[fL,dH,cX,cX,cX];omega
theorem GR{T:a7}{w:I}{pages:O Nat}{L:O bg}{k:Key}(h:cM w T)(n:iy T pages L):∃steps,po T.P k T.aY T.root steps/\
 ((steps=[]/\T.aY=0/\pages=[]/\L=[])\/(∃ (a:Nat) (cw:aK) (b c:aq Key) (d:O (Nat×aK×Nat)) (i:O Nat) (f g:O bg),steps=d++ [(a,cw,0)]/\Ctx T.P k T.aY 1 b c d i f g/\T.P a=some cw/\jj cw/\cw.within b c/\cw.keys≠ []/\(d≠ []->2<=cw.keys.length)/\gm b c k/\
   pages.Perm (a::i)/\L=f++(cw.gP++g)/\∀u,Loc k u->u L=f++(u cw.gP++g))):=by
 rcases n with ⟨h1,y,o,p⟩|j
 .exact⟨[],by rw[h1];rfl,.inl ⟨rfl,h1,o,p⟩⟩
 .cases l:T.aY with
  |zero=>rw[l]at j;exact j.elim
  |succ t=>
   rw[l]at j;obtain⟨rest,d,a,cw,b,c,i,f,g,r1,aR,aS,fD,cG,dC,q,r,s,m,v,x⟩:=Ctx.down (P:=T.P) (k:=k) (top:=t+1) (ck:=L) .top j (λh=>absurd rfl h) ⟨λ_ e=>(by cases e),λ_ e=>(by cases e)⟩ (by simp) (λu _=>by simp);rw[kU]at aR;rw[g3]at m;exact⟨rest,r1,.inr ⟨a,cw,b,c,d,i,f,g,aR,aS,fD,cG,dC,q,r,s,m,v,x⟩⟩
theorem iy.low{T:a7}{pages:O Nat}{L:O bg}(h:iy T pages L)(d:L.length<4096):T.aY<12/\pages.length<=L.length:=by
 rcases h with ⟨h1,_,a,_⟩|b
 .rw[h1,a];exact⟨J,c8 _⟩
 .obtain⟨aA,e,c⟩:=b.pages
  refine⟨?_,aA⟩;rcases eF T.aY 12 with h|h
  .exact h
  .have f:=c J
   have g:2^12<=2^T.aY:=v7 (by decide) h;have i:(2:Nat)^12=4096:=by decide
   omega
theorem MD{w1:I}{T:a7}{aU:cv}{pages:O Nat}{L ei:O bg}{k:Key}{steps:O (Nat×aK×Nat)}{s:ae}{a:O dM}{cw b:aK}{K V D:ae}(h:cM w1 (T.cB aU T.P))(G:¬aU.D.ro)(H:iy T pages L)(N:L.length<4096)(eY:pages.Nodup)(hf:∀x∈pages,T.f x=true)(n:aU.D.bx<=900000000)
 (hm:a.map dM.st=steps) (o:lv (λq=>¬(T.cB aU T.P).M q) w1 s a) (Q:cr (λq=>¬(T.cB aU T.P).M q) w1 b K V D) (p:jj b) (R:(steps=[]/\T.aY=0/\pages=[]/\b.keys≠ []/\bV b<=232/\b.gP=ei)\/(∃ (d:Nat) (g i:aq Key) (c:O (Nat×aK×Nat)) (j:O Nat) (l m:O bg),steps=c++ [(d,cw,0)]/\Ctx T.P k T.aY 1 g i c j l m/\b.within g i/\(c≠ []->b.keys≠ [])/\pages.Perm (d::j)/\ei=l++(b.gP++m)/\bV b<=282)):
 aC ai 289 #[.pointer (some T.bE),s,dT b K V D] w1 (zD (T.cB aU T.P) pages ei w1):=by
 obtain⟨r,ak⟩:=H.low N;refine MB h G n r eY hf J λcp t ag bo u v S w y=>?_;have U:s.len=a.length:=by
  have:=o.own.1;rw[jR _ (qR a)]at this;omega
 have z:cr (λq=>¬((T.cB aU T.P).cW cp t).M q) ag b K V D:=(v.cF (lo:=0) (Q.bG λq _ hb=>⟨c8 _,hb⟩)).bG λq _ hb=>hb.2;rcases R with ⟨h1,al,W,X,Y,Z⟩|⟨d,g,i,c,j,l,m,aG,aM,aa,ab,C,ac,ad⟩
 .subst h1 W
  have af:a=[]:=by simpa using hm
  exact Mz (by rw[U,af];rfl) u z n (by
   have e:cN ((T.cB aU T.P).cW cp t)=cN (T.cB aU T.P):=rfl;omega) (by rw[w];simp) y p X Y Z
 .have hlen:a.length=c.length+1:=by
   have:=congrArg List.length hm;rw[aG,dU,cT,jZ]at this;exact this
  have am:1+c.length=T.aY:=aM.e1;have ah:=o.to v;have E:(a.take (a.length-1)).map dM.st=c/\(a[a.length-1]'J).no=d:=by
   rw[aG]at hm;have aA:(a.take (a.length-1)).map dM.st=(c++ [(d,cw,0)]).take (a.length-1):=by rw[←hm,mU]
   refine⟨by rw[aA];exact nY J,?_⟩;have F:(a.map dM.st)[a.length-1]? =some (d,cw,0):=by
    rw[hm,kY J];have:a.length-1-c.length=0:=by omega
    rw[this];rfl
   rw[oy,eJ J]at F;have aj:=Option.some.inj F;exact congrArg Prod.fst aj
  refine My (k:=k) (cZ:=j) (A:=l) (B:=m) (M:=b.gP) (lo:=g) (hi:=i) u ah z J (by show a.length=T.aY;omega) r n S (by rw[w];simp) (by rw[y];simp) ?_ ⟨p,aa,rfl,rfl⟩ ac.symm ?_ ad (λh=>ab λe=>?_) λx hx=>?_
  .rw[E.1]
   have:a.length=T.aY:=by omega
   rw[this];exact aM
  .rw[E.2];exact C
  .rw[e]at hlen;simp at hlen;omega
  .exact hf x (C.mem_iff.2 (lE _ hx))
theorem lv.ext'{B C:Nat->Prop}{w w':I}{s:ae}{l:O dM}(h:lv B w s l)(hx:Ext w w')(a:∀q,B q->C q):lv C w' s l:=
 ⟨h.own.ext hx,λq b=>a q (h.qS q b),λx hm=>((h.cF x hm).ext hx).bG λq _ hb=>a q hb⟩
theorem zF{a:O dM}{b:O (Nat×aK×Nat)}{c:Nat}{bB:aK}(hm:a.map dM.st=b++ [(c,bB,0)]):∃h:0<a.length,(a[a.length-1]'J).n=bB:=by
 have hlen:a.length=b.length+1:=by
  have:=congrArg List.length hm;rw[dU,cT,jZ]at this;exact this
 refine⟨J,?_⟩;have d:(a.map dM.st)[a.length-1]? =some (c,bB,0):=by
  rw[hm,kY J];have:a.length-1-b.length=0:=by omega
  rw[this];rfl
 rw[oy,eJ J]at d;exact congrArg (λx=>x.2.1) (Option.some.inj d)
theorem ME{w:I}{T:a7}{pages:O Nat}{L:O bg}{tk e8:ae}{key val:Key}(h:cM w T)(a5:¬T.C.D.ro)(H:iy T pages L)(aq:L.length<4096)(eY:pages.Nodup)(hf:∀x∈pages,T.f x=true)(bZ:T.C.D.bx<=800000000)
 (Q:Src 1 w tk (ax key)) (R:∀q,aB tk q->q<w.heap.size/\¬T.M q) (au:Src 1 w e8 (ax val)) (a6:∀q,aB e8 q->q<w.heap.size/\¬T.M q):
 aC ai 255 #[.pointer (some ⟨T.bE,0,none⟩),.slice tk.a tk.len tk.cap,.slice e8.a e8.len e8.cap] w (λv w'=>(v=.int .i64 1/\¬(dg key/\val.length<=24)/\w=w')\/(dg key/\val.length<=24/\GQ T pages (hA L key val) w v w')):=by
 have a8:=len8 Q;have av:=len8 au;refine okF (aa.yr (some ⟨T.bE,0,none⟩) tk e8) ao.yr func255 ?_;(delta aa.yr ah bF bC ay e5 r1 b4 al eG c0 bH ad aS aR aE oO;dsimp only);refine cc (λb w'=>b= !(decide (dg key))/\w=w') (λq d=>⟨λh=>(by cases h),λ_=>(qi w tk).use ?_⟩) ?_
 .rintro _ _ ⟨rfl,rfl⟩
  refine⟨_,rfl,d _ _ ⟨?_,rfl⟩⟩;unfold dg;rw[a8]
 rintro _ _ ⟨rfl,rfl⟩;refine⟨λhb=>.inl ⟨rfl,λhg=>?_,rfl⟩,λhb=>?_⟩
 .rw[eL hg.1,av]at hb
  have:¬((val.length:Nat):Int)>24:=by have:=hg.2;omega
  simp[this]at hb
 have hg:dg key/\val.length<=24:=by
  by_cases h1:dg key
  .refine⟨h1,?_⟩
   rw[eL h1,av]at hb;have:¬((val.length:Nat):Int)>24:=by simpa using hb
   omega
  .rw[im h1]at hb;simp at hb
 have b0:=h.s.bB;obtain⟨b2,b3⟩:=H.low aq;have aw:Ext w w.drew:=b1 w;have hd:=h.ext aw;refine aO ⟨λ_=>False,_,rfl,id,_,hd.cells.2.1,_,rfl,id,_,hd.cells.2.2.2.2,(Cu hd.s).use ?_⟩;rintro _ b5 ⟨rfl,aD⟩;have a9:((T.n:Int)-ff (λi=>T.f i||T.g i) T.n)=(cN T:Nat):=by
  have:=pj (λi=>T.f i||T.g i) T.n;unfold cN;omega
 have a_:IntKind.wrap .i64 (IntKind.wrap .i64 (2*((T.aY:Nat):Int))+3)=((2*T.aY+3:Nat):Int):=by
  rw[bT (n:=2*((T.aY:Nat):Int)) J J,bT J J];omega
 rw[a9,a_];have m:=aw.trans aD;have S:=h.ext m;refine⟨_,rfl,aD,λhb=>.inr ⟨hg.1,hg.2,T,S,(cI.ext T m).mono J,rfl,rfl,.inl ⟨rfl,?_,rfl⟩⟩,λhb=>?_⟩
 .have hb:((cN T:Nat):Int)<((2*T.aY+3:Nat):Int):=b8 hb
  omega
 have bb:2*T.aY+3<=cN T:=by
  have:¬((cN T:Nat):Int)<((2*T.aY+3:Nat):Int):=cL hb;omega
 obtain⟨steps,aF,aG⟩:=GR (k:=key) S H;refine(Gv S J (Q.ext m) (λq d=>⟨fB (R q d).1 m.size,(R q d).2⟩) aF).use ?_;rintro _ z ⟨aU,U,W,aH,bc⟩;have u:=((cI.ext T m).trans W).mono (l:=2*T.aY) J;rcases bc with ⟨s,c,rfl,hm,X⟩|⟨rfl,be⟩
 rotate_left
 .refine⟨⟨none,0,0⟩,3,rfl,λ_=>.inr ⟨hg.1,hg.2,T.cB aU T.P,U,u.mono J,rfl,rfl,.inr (.inr ⟨rfl,λhc=>be (ig hc J),rfl,rfl,rfl,λno _=>⟨rfl,aH no⟩⟩)⟩,λhx=>(by cases hx)⟩
 have b7:s.len=c.length:=by
  have:=X.own.1;rw[jR _ (qR c)]at this;omega
 have b9:=m.size;have b_:c.length=T.aY:=by
  have:=aF.length;rw[←hm,dU]at this;exact this
 refine⟨s,0,rfl,λhx=>(by cases hx),λ_=>aN (vs:=[.bool false,.slice none 0 0,.slice none 0 0,.slice none 0 0]) rfl λca aI bf cb=>⟨aI.bX rfl (hG (b:=true) (K:=cJ) (V:=cJ) (D:=cJ)),rfl,cA aI (us:=eW ⟨true,[],[],[]⟩ cJ cJ cJ) rfl rfl λbh E bi cd=>?_⟩⟩;have Y:Ext z bh:=Ext.bN bf bi (ba _);obtain⟨ix,bj⟩:∃ix,ix=z.heap.size:=⟨_,rfl⟩;rw[←bj]at E⊢
 obtain⟨cw,j⟩:∃cw:aK,cw=(if ce:0<c.length then (c[c.length-1]'J).n else ⟨true,[],[],[]⟩):=⟨_,rfl⟩;refine k3 (λo=>∃ (K V D:ae) (B:Nat->Prop),Ext z o/\Var o ix (eW cw K V D) 397/\cr B o cw K V D) (λq d=>⟨λZ=>?_,λZ=>?_⟩) ?_
 .have ab:0<c.length:=by
   have:((s.len:Nat):Int)>0:=b8 Z;omega
  rw[dif_pos ab]at j;have e:IntKind.wrap .i64 (((s.len:Nat):Int)-1)=((c.length-1:Nat):Int):=by rw[bT J J];omega
  obtain⟨A,ar,_,_,_,hu⟩:=X.at (i:=c.length-1) J;have F:=hu.ext Y;rw[e,d_];subst j;refine⟨A,ar,⟨J,J⟩,_,F.bd,_,F.bo,_,F.bA,_,F.fk,E.bX rfl hG,rfl,cA E (us:=eW (c[c.length-1]'J).n (c[c.length-1]'J).K (c[c.length-1]'J).V (c[c.length-1]'J).D) rfl rfl λbk bl bm cf=>?_⟩;have aJ:Ext z bk:=Ext.bN Y bm J;exact d _ ⟨_,_,_,_,aJ,bl,hu.cF.ext aJ⟩
 .have ab:¬0<c.length:=by
   have:¬((s.len:Nat):Int)>0:=cL Z;omega
  rw[dif_neg ab]at j;subst j;exact d _ ⟨cJ,cJ,cJ,λ_=>True,Y,E,b6.none _ _,b6.none _ _,dd.none _ _⟩
 rintro o ⟨K,V,D,B,G,bn,bp⟩;have cg:=G.size;have ch:=W.ak.size
 have bq:jj cw/\bV cw<=232:=by
  rcases aG with ⟨h1,p,r,t⟩|⟨aL,bB,aM,aP,aQ,aT,aV,aW,aR,aS,fD,cG,dC,br,bs,aX,aZ,bt,a0⟩
  .have ac:¬0<c.length:=by
    rw[h1]at hm;have:c=[]:=by simpa using hm
    rw[this];simp
   rw[j,dif_neg ac];exact⟨⟨⟨λ_ h=>(by cases h),List.Pairwise.nil⟩,rfl,rfl,rfl,λ_ h=>(by cases h)⟩,by decide⟩
  .rw[aR]at hm
   obtain⟨aA,af⟩:=zF hm;rw[j,dif_pos aA,af];exact⟨cG,h.zC _ _ fD⟩
 obtain⟨ag,ci⟩:=bq;have cj:=(cV.fy (.inl ag) J);have ck:∀q,T.N q->q<w.heap.size:=λq d=>h.lt (a7.jq d);have bu:Src 1 o tk (ax key):=(Q.ak u.ak λq d aj=>(R q d).2 (a7.jq aj)).ext G;have bv:Src 1 o e8 (ax val):=(au.ak u.ak λq d aj=>(a6 q d).2 (a7.jq aj)).ext G;obtain⟨d0,d1,d2,d3⟩:=cl bn;refine⟨_,d0,K,d1,V,d2,D,d3,(sD bp ag J bu bv hg.1 hg.2).use ?_⟩;rintro _ bw ⟨eA,eI,dD,rfl,bz,bD⟩;refine⟨_,eA,eI,dD,true,rfl,aN (vs:=[.bool false,.slice none 0 0,.slice none 0 0,.slice none 0 0]) rfl λcm a1 bJ cn=>⟨a1.bX rfl hG,rfl,cA a1 (us:=eW (iv cw key val) eA eI dD) rfl rfl λa2 bK bL co=>⟨λhx=>(by cases hx),λ_=>?_⟩⟩⟩;have a3:Ext bw a2:=Ext.bN bJ bL (ba _);have am:=(G.trans bD).trans a3;obtain⟨d0,d1,d2,d3⟩:=cl bK;obtain⟨bS,bI,bM,an,bO,a4⟩:=MC ag hg.1 hg.2;have bP:aU.D.bx<=900000000:=by
  have:aU.D.bx<=T.C.D.bx+2*T.aY:=u.bx;omega
 have bQ:cr (λq=>¬(T.cB aU T.P).M q) a2 (iv cw key val) eA eI dD:=(bz.ext a3).bG λq _ d bR=>by have:=U.lt bR;omega
 have bU:=MD (ei:=hA L key val) (k:=key) (steps:=steps) (cw:=cw) (U.ext am) (λe=>a5 λi=>W.cy.1▸e i) H aq eY hf bP hm (X.ext' am λq d=>d.2) bQ bS (by
  rcases aG with ⟨h1,p,r,t⟩|⟨aL,bB,aM,aP,aQ,aT,aV,aW,aR,aS,fD,cG,dC,br,bs,aX,aZ,bt,a0⟩
  .have ac:¬0<c.length:=by omega
   rw[dif_neg ac]at j;refine .inl ⟨h1,p,r,an,?_,?_⟩
   .have:bV cw=1:=by rw[j];rfl
    omega
   .rw[bI,j,t];rfl
  .rw[aR]at hm
   obtain⟨aA,af⟩:=zF hm;rw[dif_pos aA,af]at j;rw[j]at bI bM an bO a4⊢;refine .inr ⟨aL,aM,aP,aQ,aT,aV,aW,aR,aS,λs hs=>?_,λ_=>an,aZ,?_,by have:=h.zC _ _ fD;omega⟩
   .rcases a4 s hs with rfl|ap
    .exact aX
    .exact dC s ap
   .rw[bI];exact a0 (λL=>hA L key val) (Ko key val))
 refine⟨_,d0,eA,d1,eI,d2,dD,d3,bU.use ?_⟩;intro v w' bW;have bY:=bW.ak (w:=w) ((u.trans (cI.ext (T.cB aU T.P) am)).mono (l:=40) J) (ba _) aH bb;obtain⟨az,h1,p,r,t,ap⟩:=bY;rcases ap with ⟨rfl,y⟩|⟨rfl,y⟩|⟨rfl,y⟩
 .exact⟨2,rfl,.inr ⟨hg.1,hg.2,az,h1,p,r,t,.inl ⟨rfl,y⟩⟩⟩
 .exact⟨0,rfl,.inr ⟨hg.1,hg.2,az,h1,p,r,t,.inr (.inl ⟨rfl,y⟩)⟩⟩
 .exact⟨3,rfl,.inr ⟨hg.1,hg.2,az,h1,p,r,t,.inr (.inr ⟨rfl,y⟩)⟩⟩
theorem GS{l:O bg}{k:Key}(h:(hT l k).length=l.length):∀p∈l,p.1≠k:=by
 intro p a;unfold hT at h;have:=(nv (p:=λp:bg=>decide (p.1≠k))).1 (List.Sublist.eq_of_length List.filter_sublist h);exact b8 (this p a)
theorem MF{L A B M:O bg}{k:Key}(b:L=A++(M++B))(hu:hT L k=A++(hT M k++B)):iu L k=iu M k:=by
 have h1:(hT A k).length<=A.length:=wg _ _;have g:(hT B k).length<=B.length:=wg _ _;have c:=congrArg List.length hu;rw[b,yW,yW]at c;simp only[cT]at c;have ar:=GS (l:=A) (k:=k) J;have d:=GS (l:=B) (k:=k) J;have e:A.find? (λp=>decide (p.1=k))=none:=ky.2 λp a=>by simpa using ar p a
 have f:B.find? (λp=>decide (p.1=k))=none:=ky.2 λp a=>by simpa using d p a
 unfold iu;rw[b,List.find?_append,List.find?_append,e,f];simp
theorem MG{n:aK}{k:Key}(h:jj n):iu n.gP k=if kF n.keys k then n.vals[da n.keys k]? else none:=by
 have m:=vd n.keys k;have r:=h.du;have o:∀ (j:Nat) (f:j<n.keys.length),j<da n.keys k->ct n.keys[j] k:=λj f h1=>qD h1 f;have q:n.keys[da n.keys k]? ≠some k->∀ (j:Nat) (f:j<n.keys.length),da n.keys k<=j->ct k n.keys[j]:=λhe j f h1=>GO r h1 f he;have g:n.gP=n.keys.zip n.vals:=rfl;unfold kF;rw[g];generalize da n.keys k=i at m o q⊢;obtain⟨a,b,c,d,aG,aM,s,t,u,C,D,E,F⟩:=GP h m;have v:n.keys.zip n.vals=a.zip c++b.zip d:=by rw[aG,aM];exact vc J
 have w:(a.zip c).find? (λp:bg=>decide (p.1=k))=none:=ky.2 λp g=>by
  have hm:=(List.of_mem_zip g).1;obtain⟨j,f,l⟩:=fi hm;have h1:=o j (by rw[aG,cT];omega) J;simp only[aG,tM f,l]at h1;simpa using s0 h1
 unfold iu;rw[v,List.find?_append,w];by_cases he:n.keys[i]? =some k
 .rw[if_pos (by simpa using he)]
  have z:∃b',b=k::b':=by
   cases b with
   |nil=>rw[aG,kY J]at he;simp at he
   |cons y b'=>
    rw[aG,kY J,s,q9]at he;simp at he;exact⟨b',by rw[he]⟩
  obtain⟨b',rfl⟩:=z;obtain⟨x,d',rfl⟩:∃x d',d=x::d':=by
   cases d with
   |nil=>simp at u
   |cons x d'=>exact⟨x,d',rfl⟩
  rw[aM,kY J,t,q9];simp
 .rw[if_neg (by simpa using he)]
  have A:=q he;have B:(b.zip d).find? (λp:bg=>decide (p.1=k))=none:=ky.2 λp g=>by
   have hm:=(List.of_mem_zip g).1;obtain⟨j,f,l⟩:=fi hm;have h1:=A (i+j) (by rw[aG,cT];omega) J;have e:(a++b)[i+j]'(by rw[cT];omega)=b[j]:=by
    rw[wa J];congr 1;omega
   simp only[aG,e,l]at h1;have:=s0 h1;simpa using λh=>this h.symm
  rw[B];rfl
def CK(T:a7)(L:O bg)(key:Key)(w:I)(v:Y)(w':I):Prop:=
 ∃aU:cv,cM w' (T.cB aU T.P)/\cI T (T.cB aU T.P) w w' 30/\(∀j,aU.view j=T.C.view j)/\
  ((v=.tuple #[(),false,(0:Int)]/\(dg key->iu L key=none))\/
   (∃ (t:ae) (x:Key),v=.tuple #[t,true,(0:Int)]/\dg key/\iu L key=some x/\b5 (λq=>¬(T.cB aU T.P).M q) w' t x)\/
   (v=.tuple #[(),false,(3:Int)]/\dg key/\¬T.C.D.calm 30))
theorem GU{w:I}{T:a7}{pages:O Nat}{L:O bg}{tk:ae}{key:Key}(h:cM w T)(S:iy T pages L)(aK:T.C.D.bx<=800000000)(j:Src 1 w tk (ax key))(t:∀q,aB tk q->q<w.heap.size/\¬T.M q):
 aC ai 232 #[.pointer (some ⟨T.bE,0,none⟩),.slice tk.a tk.len tk.cap] w (CK T L key w):=by
 have U:=len8 j;have aL:=h.num.2.1;have aM:T.cB T.C T.P=T:=rfl;refine okF (aa.ym (some ⟨T.bE,0,none⟩) tk) ao.ym func232 ?_;(delta aa.ym ah bF eG al aS aR c0 bH ad aE gF bl bq bw;dsimp only);refine cc (λb w'=>b= !(decide (dg key))/\w=w') (λq l=>⟨λh=>(by cases h),λ_=>(qi w tk).use ?_⟩) ?_
 .rintro _ _ ⟨rfl,rfl⟩
  refine⟨_,rfl,l _ _ ⟨?_,rfl⟩⟩;unfold dg;rw[U]
 rintro _ _ ⟨rfl,rfl⟩;refine⟨λhb=>⟨λh=>(by cases h),λ_=>?_⟩,λhb=>?_⟩
 .have:¬dg key:=by simpa using hb
  exact⟨T.C,h,(cI.refl T w).mono J,λ_=>rfl,.inl ⟨rfl,λhx=>absurd hx this⟩⟩
 have hg:dg key:=by simpa using hb
 obtain⟨steps,v,x⟩:=GR (k:=key) h S;refine(Gv h J j t v).use ?_;rintro _ W ⟨aU,m,f,g,X⟩;rcases X with ⟨s,c,rfl,hm,y⟩|⟨rfl,Y⟩
 rotate_left
 .exact⟨⟨none,0,0⟩,3,rfl,λ_=>⟨aU,m,f.mono J,g,.inr (.inr ⟨rfl,hg,λhc=>Y (ig hc J)⟩)⟩,λhx=>(by simp at hx)⟩
 have aO:s.len=c.length:=by
  have:=y.own.1;rw[jR _ (qR c)]at this;omega
 have aP:c.length=T.aY:=by
  have:=v.length;rw[←hm,dU]at this;exact this
 refine⟨s,0,rfl,λhx=>⟨aU,m,f.mono J,g,.inl ⟨rfl,λ_=>?_⟩⟩,λhx=>?_⟩
 .have Z:c.length=0:=by
   have:((s.len:Nat):Int)=0:=by simpa using hx
   omega
  rcases x with ⟨_,_,_,ab⟩|⟨ac,bB,af,ag,aj,am,an,ap,aR,_⟩
  .rw[ab];rfl
  .rw[aR]at hm
   obtain⟨aA,_⟩:=zF hm;omega
 have Z:0<c.length:=by
  have:¬((s.len:Nat):Int)=0:=by simpa using hx
  omega
 have e:IntKind.wrap .i64 (((s.len:Nat):Int)-1)=((c.length-1:Nat):Int):=by rw[bT J J];omega
 obtain⟨A,ar,_,_,_,hu⟩:=y.at (i:=c.length-1) J;rcases x with ⟨h1,_⟩|⟨ac,bB,af,ag,aj,am,an,ap,aR,aS,fD,cG,dC,aQ,aT,aV,aW,aq,au⟩
 .rw[h1]at hm
  have:=congrArg List.length hm;simp at this;omega
 have z:=hm;rw[aR]at z;obtain⟨aA,B⟩:=zF z;rw[e,d_];generalize aX:(c[c.length-1]'J)=u at hu B;obtain⟨aZ,un,a0,K,V,D⟩:=u;obtain rfl:un=bB:=B;refine⟨A,ar,⟨J,J⟩,_,hu.bd,K,hu.bo,V,hu.bA,D,hu.fk,aN (vs:=[.bool false,.slice none 0 0,.slice none 0 0,.slice none 0 0]) rfl λa1 E av a2=>⟨E.bX rfl hG,rfl,cA E (us:=eW un K V D) rfl rfl λn F aw a3=>?_⟩⟩;have o:Ext W n:=Ext.bN av aw (ba _);obtain⟨d0,d1,d2,d3⟩:=cl F;have a4:=(cV.fy (.inl cG) (by have:=h.zC _ _ fD;omega));have ay:Src 1 n tk (ax key):=(j.ak f.ak λq l az=>(t q l).2 (a7.jq az)).ext o;have G:cr (λq=>w.heap.size<=q/\¬(T.cB aU T.P).M q) n un K V D:=hu.cF.ext o;refine⟨_,d0,K,d1,V,d2,D,d3,(sA G ay cG.du J).use ?_⟩;rintro _ bm ⟨rfl,p⟩;have H:=o.trans p;have N:=m.ext H;have Q:cI T (T.cB aU T.P) w bm 30:=(f.trans (cI.ext _ H)).mono J;have r:iu L key=iu un.gP key:=MF aq (au (λL=>hT L key) (Kp key));rw[MG cG]at r;refine⟨_,_,rfl,λd=>⟨aU,N,Q,g,.inl ⟨rfl,λ_=>?_⟩⟩,λd=>?_⟩
 .have d:kF un.keys key=false:=by simpa using d
  rw[r,if_neg (by rw[d];simp)]
 .have d:kF un.keys key=true:=by simpa using d
  have aD:da un.keys key<un.keys.length:=(l9.1 (b8 d)).1;have R:da un.keys key<un.vals.length:=by rw[cG.len];exact aD
  obtain⟨f0,f1,f2,f3⟩:=cl (F.ext p);obtain⟨aF,e8,aG,aH,aI,aJ,_⟩:=b6.at (G.ext p).vals R;refine⟨V,f2,aF,aG,aH,e8,aI,aU,N,Q,g,.inr (.inl ⟨e8,un.vals[da un.keys key],rfl,hg,?_,b5.bG aJ λq _ hb=>hb.2⟩)⟩;rw[r,if_pos d,eJ R]
structure vz(T az:a7):Prop where
 root:az.root=T.root
 aY:az.aY=T.aY
 f:az.f=T.f
 e4:∀no,(T.f no||T.g no)=true->az.P no=T.P no/\az.C.view no=T.C.view no
theorem vz.cB{T:a7}{aU:cv}(a:∀j,aU.view j=T.C.view j):vz T (T.cB aU T.P):=⟨rfl,rfl,rfl,λno _=>⟨rfl,a no⟩⟩
structure MH(T az:a7)(a6:O Nat)(ei:O bg):Prop where
 ok:∃pages,cN T<=cN az+(2*T.aY+3)/\iy az pages ei/\pages.Nodup/\(∀no∈pages,no∈a6\/(T.f no||T.g no)=false)/\∀no,az.f no=true↔(no∈pages\/(T.f no=true/\no∉a6))
 e4:∀no,T.g no=true->az.P no=T.P no/\az.C.view no=T.C.view no
theorem vz.ok{T az:a7}{pages:O Nat}{L:O bg}(h:vz T az)(a:iy T pages L)(hf:∀x∈pages,T.f x=true):iy az pages L:=by
 unfold iy at a⊢;rw[h.root,h.aY];rcases a with a|b
 .exact .inl a
 .exact .inr (gz.agree b λx hx=>(h.e4 x (by rw[hf x hx];rfl)).1.symm).1
theorem GV{w:I}{T:a7}(h:cM w T):aC ai 131 #[.pointer (some T.bE)] w (λv w'=>v=.tuple #[T.root,T.aY]/\Ext w w'):=by
 refine okF (aa.xY (some T.bE)) ao.xY func131 ?_;(delta aa.xY ah ay r1;dsimp only);have hd:=h.ext (b1 w);exact⟨λh=>(by cases h),λ_=>aO ⟨_,rfl,id,_,hd.cells.2.2.2.1,_,rfl,id,_,hd.cells.2.2.2.2,rfl,b1 w⟩⟩
theorem MI{B:Nat->Prop}{w:I}{s:ae}{ds:O Nat}(h:dd B w s ds)(no:Nat)(g:ds.length<=1000000):
 aC ai 211 #[s,no] w (λv w'=>∃n:Int,v=n/\(0<=n↔no∈ds)/\w=w'):=by
 have j:=h.len;refine okF (aa.xn s (no:Nat)) ao.xn func211 ?_;(delta aa.xn dj ah bl bq r1 bw al;dsimp only);refine⟨λn w'=>∃i:Nat,n=(i:Int)/\i<=ds.length/\no∉ds.take i/\w=w',λn _=>((ds.length:Int)-n).toNat,⟨0,rfl,c8 _,by simp,rfl⟩,?_⟩;rintro _ _ ⟨i,rfl,hi,c,rfl⟩;refine⟨λaJ=>?_,λd=>?_⟩
 .have a:i<ds.length:=by
   have:(i:Int)<(s.len:Int):=b8 aJ;omega
  obtain⟨A,ar,hb,hc⟩:=dd.at h a;refine⟨A,ar,hb,_,hc,λhe=>?_,λb=>?_⟩
  .have he:no=ds[i]:=by
    have:(no:Int)=((ds[i]:Nat):Int):=by simpa using he
    omega
   exact⟨_,rfl,⟨λ_=>by rw[he];exact c3 _,λ_=>J⟩,rfl⟩
  .have b:no≠ds[i]:=λe=>by rw[e]at b;simp at b
   have f:IntKind.wrap .i64 ((i:Int)+1)=((i+1:Nat):Int):=by rw[bT J J];omega
   rw[f];refine⟨⟨i+1,rfl,J,?_,rfl⟩,by show((ds.length:Int)-((i+1:Nat):Int)).toNat<((ds.length:Int)-(i:Int)).toNat;omega⟩;rw[kt a];intro hm;rcases cS.1 hm with hm|hm
   .exact c hm
   .exact b (ej.1 hm)
 .have a:i=ds.length:=by
   have:¬(i:Int)<(s.len:Int):=cL d;omega
  rw[a,jz]at c;exact⟨-1,rfl,⟨λh=>J,λh=>absurd h c⟩,rfl⟩
theorem MJ{B:Nat->Prop}{w:I}{s:ae}{ds:O Nat}(h:dd B w s ds)(no:Nat)(a:ds.length<=1000000):
 aC ai 138 #[s,no] w (λv w'=>v=.bool (decide (no∈ds))/\w=w'):=by
 refine okF (aa.xj s (no:Nat)) ao.xj func138 ?_;(delta aa.xj b4;dsimp only);refine(MI h no a).use ?_;rintro _ _ ⟨n,rfl,b,rfl⟩;refine⟨n,rfl,?_,rfl⟩
 congr 1
 exact decide_eq_decide.2 b
section
variable {w w':I}{T az:a7}{PE k:Nat}{s:ae}{ps:O Nat}
end
theorem pt{w:I}{s:ae}{l:O UInt8}(h:Src 1 w s (ax l)){i:Nat}(hi:i<l.length):∃A:av,s.a=some A/\((0:Int)<=(i:Int)/\(i:Int)<(s.len:Int))/\w.cell? (A.add (Int.toNat (i:Int)*1))=some (.int .u8 ((l[i].toNat:Nat):Int)):=by
 obtain⟨A,ar,hb,hc⟩:=h.at (i:=i) (v:=.int .u8 ((l[i].toNat:Nat):Int)) (by simp[ax,hi]);exact⟨A,ar,hb,hc⟩
def vA(n:Nat)(root aY:Int):Prop:=0<=aY/\aY<=12/\0<=root/\root<n/\(root=0↔aY=0)
theorem so{w:I}{C:cv}(hc:fH w C)(sb:Nat)(gen root aY:Int):
 aC ai 167 #[.pointer (some C.c),.pointer (some sb),.int .u64 gen,root,aY] w (λv w'=>
  (vA C.D.n root aY/\v=.tuple #[.pointer (some w.heap.size),(0:Int)]/\Ext w w'/\Var w' w.heap.size [.pointer (some C.c),.pointer (some sb),.int .u64 gen,root,aY] 356/\w'.heap.size=w.heap.size+1)\/
  (¬vA C.D.n root aY/\v=.tuple #[.pointer none,(1:Int)]/\w=w')):=by
 refine okF (aa.so (some C.c) (some sb) gen root aY) ao.so func167 ?_;(delta aa.so ah ay b4 aZ ad;dsimp only);refine cc (λb w'=>(b=false↔(0<=aY/\aY<=12/\0<=root/\root<C.D.n))/\w=w') (λq i=>⟨λh1=>i _ _ ⟨?_,rfl⟩,λh1=>⟨_,rfl,_,hc.cells.1,(zm hc.dev).use ?_⟩⟩) ?_
 .simp only[Option.isNone_some,nu,jX,cX]at h1
  exact⟨λh=>(by cases h),λh=>J⟩
 .rintro _ _ ⟨rfl,rfl⟩
  simp only[Option.isNone_some,nu,q8,lF]at h1;refine⟨_,rfl,i _ _ ⟨?_,rfl⟩⟩;rw[lF];omega
 rintro b _ ⟨hb,rfl⟩;refine⟨λh1=>.inr ⟨λhg=>?_,rfl,rfl⟩,λh1=>?_⟩
 .have a:=hb.2 ⟨hg.1,hg.2.1,hg.2.2.1,hg.2.2.2.1⟩
  rw[a,nu]at h1;have f:=hg.2.2.2.2;by_cases d:root=0
  .rw[d,f.1 d]at h1;simp at h1
  .have g:aY≠0:=λe=>d (f.2 e)
   have aG:(root==0)=false:=by simpa using d
   have aM:(aY==0)=false:=by simpa using g
   rw[aG,aM]at h1
   cases h1
 .rw[q8]at h1
  have a:=hb.1 h1.1;have f:root=0↔aY=0:=by
   have d:=h1.2;by_cases g:root=0<;>by_cases j:aY=0<;>simp[g,j]at d⊢
  refine aN (vs:=[.pointer (some C.c),.pointer (some sb),.int .u64 gen,root,aY]) rfl λl k hx hs=>.inl ⟨⟨a.1,a.2.1,a.2.2.1,a.2.2.2,f⟩,rfl,hx,k,hs⟩
theorem MK{w:I}{s:ae}{l:O UInt8}(hs:Src 1 w s (ax l))(hc:s.len<=s.cap)(most:Nat)(hm:most<=100000):aC ai 5 #[s,most] w (λv w'=>∃a:ae,v=a/\aT 1 5 w' a (ax (l.take most))/\Ext w w'/\∀q,aB a q->w.heap.size<=q):=by
 have hlen:=len8 hs;refine okF (aa.yS s (most:Nat)) ao.yS func5 ?_;(delta aa.yS ah ap ad;dsimp only);refine cc (λs2 w'=>w=w'/\Src 1 w s2 (ax (l.take most))/\s2.len<=most) (λq b=>⟨λh=>?_,λh=>?_⟩) ?_
 .have h:most<l.length:=by have:=b8 h;omega
  refine⟨⟨J,J⟩,b _ _ ⟨rfl,?_,by simp⟩⟩;have:=pb hs hc (lo:=0) (hi:=most) J J;simpa using this
 .have h:l.length<=most:=by have:=cL h;omega
  rw[ey h]at b;exact b _ _ ⟨rfl,hs,J⟩
 rintro s2 _ ⟨rfl,d,j⟩;obtain⟨c,e,aA,f,k,g,i,_⟩:=mz.clone (df:=31) d (ic _) J;exact aO ⟨c,e,aA,c,rfl,f,g,i⟩
instance (n:Nat) (root aY:Int):Decidable (vA n root aY):=by unfold vA;infer_instance
theorem iy.rising{T:a7}{pages:O Nat}{L:O bg}(h:iy T pages L):ke L:=by
 rcases h with ⟨_,_,_,a⟩|b
 .rw[a];exact List.Pairwise.nil
 .exact b.du.1
section
variable {w0 w w':I}{jn gH:Nat}{T az:a7}{r h k:Nat}{pages:O Nat}{L mJ:O bg}{ms:ae}
theorem cM.kM{lZ:Nat}(ht:cM w T)(a:T.E lZ)(hc:af (λq=>q=lZ) w w'):cM w' T:=
 ht.grow (E:=T.E) (G:=T.G) hc (λq e _=>.inl (by rw[e];exact a)) (λq a=>.inl a) (λq a=>.inr (.inl a)) λq a=>(ht.eR q a).2.2
end
def a7.n_(T:a7)(f g:Nat->aj)(s1 s2:ae):a7:={T with f:=f,g:=g,s1:=s1,s2:=s2}
section
variable {w0 w w':I}{jn gH:Nat}{T az:a7}{r h k:Nat}{pages:O Nat}{L mJ:O bg}{ms:ae}
theorem cM.space{f g:Nat->aj}{s1 s2:ae}(ht:cM w T)(hs:fY w' T.sb T.n f g s1 s2)(hc:af (hW T.sb T.s1 T.s2) w w')(hf:∀k,hW T.sb s1 s2 k->hW T.sb T.s1 T.s2 k\/w.heap.size<=k)(d:∀j,T.C.D.cy j=true->g j=true\/T.C.D.ro)(e:g 0=true/\g 1=true):
 cM w' (T.n_ f g s1 s2)/\∀q,(T.n_ f g s1 s2).M q->T.M q\/w.heap.size<=q:=by
 have c:∀q,T.X q->¬hW T.sb T.s1 T.s2 q->¬hW T.sb s1 s2 q:=λq hx a i=>by
  rcases hf q i with b|b
  .exact a b
  .have:=ht.lt (q:=q) (.inr hx);omega
 refine⟨⟨ht.t.ak hc ht.lq,hs,ht.ca.grow hc (λq a _=>.inr (.inl a)) λq a=>?_,c _ (.inl rfl) ht.lq,λq a=>⟨(ht.eR q a).1,c q (.inr (.inr (.inl a))) (ht.eR q a).2.1,(ht.eR q a).2.2⟩,λq a=>⟨(ht.lr q a).1,c q (.inr (.inr (.inr a))) (ht.lr q a).2⟩,ht.n,ht.num,ht.fZ,d,e⟩,λq a=>?_⟩
 .rcases a with a|a|a|a
  .exact .inl (.inl a)
  .rcases hf q a with b|b
   .exact .inl (.inr (.inl b))
   .exact .inr ⟨b,hs.lt q a⟩
  .exact .inl (.inr (.inr (.inl a)))
  .exact .inl (.inr (.inr (.inr a)))
 .rcases a with a|a|a|a|a
  .exact .inl (.inl a)
  .exact .inl (.inr (.inl a))
  .exact(hf q a).imp (λh=>.inr (.inr (.inl h))) id
  .exact .inl (.inr (.inr (.inr (.inl a))))
  .exact .inl (.inr (.inr (.inr (.inr a))))
theorem iy.agree{p:O Nat}(a:iy T p L)(b:az.root=T.root)(c:az.aY=T.aY)(d:∀x∈p,T.P x=az.P x):iy az p L:=by
 unfold iy at a⊢;rw[b,c];exact a.imp id λe=>(e.agree d).1
end
section
variable {w0 w w':I}{jn gH:Nat}{T az:a7}{r h k:Nat}{pages:O Nat}{L mJ:O bg}{ms:ae}
theorem ML{s:ae}(h:wM ai w 5 s):∃l:O UInt8,Src 1 w s (ax l):=by
 obtain⟨l,h1,_,_⟩:=h.src (c:=λc:UInt8=> [Value.int .u8 (c.toNat:Int)]) (sz:=1) (by kernel_rfl) (λ_=>True) λfuel us b=>by
  obtain⟨n,rfl,d,f⟩:=Eg b (k:=.u8) (by kernel_rfl);have i:=IE d f;refine⟨UInt8.ofNat n.toNat,?_,trivial⟩;simp only[tN]
  congr 2
  omega
 have e:∀l:O UInt8,(l.map λc:UInt8=> [Value.int .u8 (c.toNat:Int)]).flatten=ax l:=λl=>by
  unfold ax
  induction l with
  |nil=>rfl
  |cons a l g=>rw[gu,List.flatten_cons,g];rfl
 rw[e]at h1;exact⟨l,h1⟩
end
theorem pv{i:Nat}(h:i<=1000000):IntKind.wrap .i64 ((i:Int)+1)=((i+1:Nat):Int):=by rw[bT J J];omega
section
variable {w0 w w':I}{jn gH:Nat}{T az:a7}{r h k c:Nat}{pages a6:O Nat}{L mJ ck:O bg}{V:Nat->dA}{ms l:ae}
end
theorem GW:∀ {a b:O Nat},a.Nodup->(∀x∈a,x∈b)->a.length<=b.length
 | [],_,_,_=>c8 _
 |x::a,b,d,hs=>by
  obtain⟨h1,f⟩:=List.nodup_cons.1 d
  have hx:=hs x (by simp)
  have:=GW (a:=a) (b:=b.erase x) f λy c=>(List.mem_erase_of_ne (λe=>h1 (by rw[←e];exact c))).2 (hs y (lE _ c))
  rw[List.length_erase_of_mem hx]at this
  have:=List.length_pos_of_mem hx
  rw[iR];omega
theorem MM{t:Nat->aj}{l:O Nat}(n:Nat)(h:∀i,i<n->t i=true->i∈l):ff t n<=l.length:=by
 have h1:∀n,ff t n=((List.range n).filter t).length:=by
  intro n
  induction n with
  |zero=>rfl
  |succ n a=>
   rw[List.range_succ,nw,cT,ff,a,wh,List.filter_nil]
   cases t n<;>rfl
 rw[h1];refine GW (List.nodup_range.filter t) λx hx=>?_;rw[hY,jY]at hx;exact h x hx.1 hx.2
end Go.Proofs.YtbjddgakboindaaGreat
