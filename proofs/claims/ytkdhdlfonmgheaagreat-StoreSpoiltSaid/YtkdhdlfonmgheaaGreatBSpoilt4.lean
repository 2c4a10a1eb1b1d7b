/- Contracts of the functions that the statement reaches, and the plain laws over them; each theorem stands with its conditions. -/
import Derived.Laws.Small
import Derived.Test.YtkdhdlfonmgheaaGreatBSpoilt3
namespace Go.Proofs.YtkdhdlfonmgheaaGreat
open Go a_ Go.Proofs.Tryz
theorem GS(w:J)(x:Int):Sem.run ai (Instr.buildSlice 326 1 #[(0,.agg #[(),x])]) w=
 .ok (.slice (some w.heap.size) 1 1) (w.alloc (.cells #[(),x] 334)):=by kernel_rfl
theorem GU(w:J)(x y:Int)(t:U):Sem.run ai (Instr.buildSlice 326 2 #[(0,.agg #[(),x]),(1,.agg #[t,y])]) w=
 .ok (.slice (some w.heap.size) 2 2) (w.alloc (.cells #[(),x,t,y] 334)):=by kernel_rfl
theorem cF.xA{n:aB}(h:cF n)(h1:1<=ck n)(d:if n.leaf then ck n<=n.keys.length-1/\1<=n.keys.length-1 else ck n<=n.keys.length-2/\1<=n.keys.length-2):cF (n.left (ck n))/\cF (n.right (ck n)):=by
 rcases h with h|h
 .have a:=h.leaf
  rw[if_pos a]at d;unfold aB.left aB.right;rw[if_pos a,if_pos a];have hlen:=h.len;refine⟨.inl ⟨⟨λk b=>h.ok k (fe b),h.e_.sublist (List.take_sublist _ _)⟩,rfl,?_,rfl,λv c=>h.vals v (fe c)⟩,.inl ⟨⟨λk b=>h.ok k (e6 b),h.e_.sublist (List.drop_sublist _ _)⟩,rfl,?_,rfl,λv c=>h.vals v (e6 c)⟩⟩
  .simp only[cv];omega
  .simp only[c5];omega
 .have a:=h.inner
  rw[if_neg (by rw[a];simp)]at d;unfold aB.left aB.right;rw[if_neg (by rw[a];simp),if_neg (by rw[a];simp)];have hlen:=h.len;refine⟨.inr ⟨⟨λk b=>h.ok k (fe b),h.e_.sublist (List.take_sublist _ _)⟩,rfl,?_,?_,rfl,λv c=>h.kids v (fe c)⟩,.inr ⟨⟨λk b=>h.ok k (e6 b),h.e_.sublist (List.drop_sublist _ _)⟩,rfl,?_,?_,rfl,λv c=>h.kids v (e6 c)⟩⟩
  .intro e
   have:=congrArg List.length e;simp only[cv,jE]at this;omega
  .simp only[cv];omega
  .intro e
   have:=congrArg List.length e;simp only[c5,jE]at this;omega
  .simp only[c5];omega
def lg(B:Nat->Prop)(w:J)(s:U)(ks:O Key)(kids:O Nat):Prop:=
 (∃b x,s=⟨some ⟨b,0,none⟩,1,1⟩/\ks=[]/\kids=[x]/\Var w b [.slice none 0 0,.int .i64 (x:Nat)] 334/\B b)\/
 (∃b x y k t,s=⟨some ⟨b,0,none⟩,2,2⟩/\ks=[k]/\kids=[x,y]/\Var w b [.slice none 0 0,.int .i64 (x:Nat),.slice t.a t.len t.cap,.int .i64 (y:Nat)] 334/\B b/\a7 B w t k/\k≠ [])
def h7(T:aM)(c:dG)(n:aB)(w:J)(v:aa)(w':J):Prop:=
 ∃ (ao:aM) (c':dG) (m:O Nat) (s:U),dr w' ao c'/\dt T ao c c' m [] w w' 2/\m.length<=2/\
  ((∃ks,v=.tuple #[s,(0:Int)]/\mm ao.P n ks m/\lg (λq=>¬ao.M q) w' s ks m)\/(v=.tuple #[s,(3:Int)]/\¬T.C.D.calm 2))
theorem B7{B:Nat->Prop}{w:J}{T:aM}{c:dG}{n:aB}{K V D:U}(h:dr w T c)(l:T.C.D.aN<=900000100)(m:1<=cg T)(o:c.made.length<=1000)(p:bz B w n K V D)(hs:cF n)(d:bI n<=232):
 aP ai 251 #[.pointer (some c.cb),cX n K V D] w (h7 T c n w):=by
 refine okF (af.u_ (some c.cb) n.leaf K V D) ay.u_ func251 ?_;(delta af.u_ bc Y ag eI;dsimp only);refine bh (vs:=[n.leaf,K,V,D]) rfl λw1 q b z=>?_;obtain⟨bU,aA,aR,aK⟩:=bC q;refine⟨_,bU,K,aA,V,aR,D,aK,(v7 (h.ext b) l m o (p.ext b) hs d).use ?_⟩;rintro _ a ⟨no,ao,c',f,r,s⟩;have g:∀ (e:Int),((e=0/\ao.P no=some n)\/(e=3/\¬T.C.D.calm 1))->∃ (i:U) (j:J),Sem.run ai (Instr.buildSlice 326 1 #[(0,.agg #[(),no])]) a=.ok i j/\h7 T c n w (.tuple #[i,e]) j:=by
  intro e he;refine⟨⟨some a.heap.size,1,1⟩,_,GS a _,?_⟩;have k:=eB a (.cells #[(),no] 334);have u:dt T ao c c' [no] [] w (a.alloc (.cells #[(),no] 334)) 2:=(((dt.ext T c b).trans r).trans (dt.ext ao c' k)).mono I;refine⟨ao,c',[no],⟨some a.heap.size,1,1⟩,f.ext k,u,by simp,?_⟩;rcases he with ⟨rfl,he⟩|⟨rfl,he⟩
  .refine .inl ⟨[],rfl,.inl ⟨d,no,rfl,rfl,he⟩,.inl ⟨_,no,rfl,rfl,rfl,Var.new a [(),no] 334,λv=>?_⟩⟩
   have:=f.t.lt v;omega
  .exact .inr ⟨rfl,λhc=>he (ga hc I)⟩
 rcases s with ⟨rfl,x⟩|⟨rfl,y⟩
 .exact⟨_,0,rfl,g 0 (.inl ⟨rfl,x⟩)⟩
 .exact⟨_,3,rfl,g 3 (.inr ⟨rfl,y⟩)⟩
theorem fC{b:aj}{K V D:U}:∀v∈ [.bool b,.slice K.a K.len K.cap,.slice V.a V.len V.cap,.slice D.a D.len D.cap],Plain v:=by
 intro v c;simp only[cU,eV,eZ]at c;rcases c with rfl|rfl|rfl|rfl<;>trivial
theorem GV{B:Nat->Prop}{w:J}{T:aM}{c:dG}{n:aB}{K V D:U}(h:dr w T c)(a1:T.C.D.aN<=900000090)(a2:2<=cg T)(a3:c.made.length<=900)(aj:bz B w n K V D)(hs:cF n)(al:232<bI n)(a4:bI n<=400)(h1:1<=ck n)
 (l:if n.leaf then ck n<=n.keys.length-1/\1<=n.keys.length-1 else ck n<=n.keys.length-2/\1<=n.keys.length-2) (am:bI (n.left (ck n))<=232) (an:bI (n.right (ck n))<=232):
 aP ai 294 #[.pointer (some c.cb),cX n K V D] w (h7 T c n w):=by
 obtain⟨sl,ao⟩:=hs.xA h1 l;have a5:=hs.eQ I;have a:ck n<n.keys.length:=by
  split at l<;>omega
 refine okF (af.vh (some c.cb) n.leaf K V D) ay.vh func294 ?_;(delta af.vh bc Y ag pG cp ak eI;dsimp only);refine bh (vs:=[n.leaf,K,V,D]) rfl λw1 ap E a6=>?_;obtain⟨bU,aA,aR,aK⟩:=bC ap;refine⟨_,bU,K,aA,V,aR,D,aK,(p3 (aj.ext E) hs I h1 l).use ?_⟩;rintro _ aq ⟨db,dz,bd,cG,cO,cq,t,rfl,ar,au,ht,av⟩;refine⟨_,db,dz,bd,t,_,cG,cO,cq,true,rfl,bh (vs:=[false,(),(),()]) rfl λa8 aw ax a9=>bh (vs:=[false,(),(),()]) rfl λa_ az F ba=>?_⟩;have G:=aw.ext F;refine⟨G.cc rfl fC,rfl,cy G (us:=[.bool (n.left (ck n)).leaf,db,dz,bd]) rfl rfl λbb aC H be=>?_⟩;have L:=az.ad H I;refine⟨L.cc rfl fC,rfl,cy L (us:=[.bool (n.right (ck n)).leaf,cG,cO,cq]) rfl rfl λm aD O bf=>⟨λa=>(by cases a),λ_=>?_⟩⟩;have aE:=aC.ad O I;have Q:=E.trans av;have i:Ext aq m:=Ext.cu (Ext.cu (ax.trans F) H I) O I;have o:=Q.trans i;have bi:=Q.size;have bj:=i.size;obtain⟨d0,d1,d2,d3⟩:=bC aE;refine⟨_,d0,db,d1,dz,d2,bd,d3,(v7 (h.ext o) I I I (ar.ext i) sl am).use ?_⟩;rintro _ aF ⟨x,bL,R,p,b,aG⟩;have r:∀q,T.N q->q<w.heap.size:=λq d=>h.t.lt (aM.gh d);have bk:=b.to.ad.size;rcases aG with ⟨rfl,S⟩|⟨rfl,s⟩
 .have aH:=aD.ad b.to.ad λd=>by have:=r _ d;omega
  obtain⟨d0,d1,d2,d3⟩:=bC aH;have aI:bz (λq=>w1.heap.size<=q) aF (n.right (ck n)) cG cO cq:=(au.ext i).ad b.to.ad λq d u=>by have:=r _ u;omega
  have aJ:bL.C.D.aN<=900000100:=ey b.to.aN (by clear p b S;omega);have aL:=b.room;have bl:R.made.length=c.made.length+1:=by rw[b.made,cx];rfl
  simp only[iS]at aL;have W:=v7 p aJ I I aI ao an;rw[b.cb]at W;refine⟨x,0,rfl,λa=>(by cases a),λ_=>⟨_,d0,cG,d1,cO,d2,cq,d3,W.use ?_⟩⟩;rintro _ g ⟨y,bZ,X,Z,k,aO⟩;have bm:=k.to.ad.size;have aQ:=((dt.ext T c o).trans b).trans k;have aS:n.keys.getD (ck n) []=n.keys[ck n]:=by rw[eX,c_ a];rfl
  have aT:=ht.ext i;have aU:a7 (λq=>¬bZ.M q) g t n.keys[ck n]:=by
   rw[←aS];have aV:a7 (λq=>q<m.heap.size/\w1.heap.size<=q) m t (n.keys.getD (ck n) []):=a7.aW aT λq d a=>⟨d,a⟩;have aa:=(b.trans k).to;refine a7.aW (a7.ad aV aa.ad λq d u=>by have:=r _ u;omega) λq _ a v=>?_;rcases aa.c4 q v with ab|ab
   .have:=h.t.lt ab;omega
   .omega
  have aX:n.keys[ck n]≠ []:=by
   have aY:cB n.keys[ck n]:=by
    rcases hs with hs|hs
    .exact hs.ok _ (cw a)
    .exact hs.ok _ (cw a)
   intro e;have:=aY.1;rw[e]at this;simp at this
  have z:=eB g (.cells #[(),x,t,y] 334);have A:=(aQ.trans (dt.ext bZ X z)).mono (j:=2) I;have ac:∀ (e:Int),((e=0/\bZ.P y=some (n.right (ck n)))\/(e=3/\¬bL.C.D.calm 1))->∃ (ae:U) (ah:J),Sem.run ai (Instr.buildSlice 326 2 #[(0,.agg #[(),x]),(1,.agg #[t,y])]) g=.ok ae ah/\
   h7 T c n w (.tuple #[ae,e]) ah:=by
   intro e he;refine⟨⟨some g.heap.size,2,2⟩,_,GU g _ _ t,bZ,X,[x,y],⟨some g.heap.size,2,2⟩,Z.ext z,A,by simp,?_⟩;rcases he with ⟨rfl,he⟩|⟨rfl,he⟩
   .have aZ:bZ.P x=some (n.left (ck n)):=by
     rw[(k.eG x (by rw[b.f];simp)).1,S]
    refine .inl ⟨[n.keys[ck n]],rfl,.inr ⟨al,x,y,a,rfl,rfl,aZ,he⟩,.inr ⟨_,x,y,_,t,rfl,rfl,rfl,Var.new g [(),x,t,y] 334,λv=>?_,a7.ext aU z,aX⟩⟩;have:=Z.t.lt v;omega
   .exact .inr ⟨rfl,λhc=>he (b.to.calm 1 (ga hc I))⟩
  rcases aO with ⟨rfl,a0⟩|⟨rfl,s⟩
  .exact⟨_,0,rfl,ac 0 (.inl ⟨rfl,a0⟩)⟩
  .exact⟨_,3,rfl,ac 3 (.inr ⟨rfl,s⟩)⟩
 .have A:=((dt.ext T c o).trans b).mono (j:=2) I
  exact⟨_,3,rfl,λ_=>⟨bL,R,[x],bg,p,A,by simp,.inr ⟨rfl,λhc=>s (ga hc I)⟩⟩,λa=>(by cases a)⟩
theorem v8{B:Nat->Prop}{w:J}{T:aM}{c:dG}{n:aB}{K V D:U}(h:dr w T c)(u:T.C.D.aN<=900000090)(x:2<=cg T)(y:c.made.length<=900)(f:bz B w n K V D)(hs:cF n)(z:bI n<=400)
 (A:232<bI n->1<=ck n/\(if n.leaf then ck n<=n.keys.length-1/\1<=n.keys.length-1 else ck n<=n.keys.length-2/\1<=n.keys.length-2)/\bI (n.left (ck n))<=232/\bI (n.right (ck n))<=232):
 aP ai 281 #[.pointer (some c.cb),cX n K V D] w (h7 T c n w):=by
 have F:=hs.eQ I;refine okF (af.ve (some c.cb) n.leaf K V D) ay.ve func281 ?_;(delta af.ve bc Y ag aA ak b8;dsimp only);refine bh (vs:=[n.leaf,K,V,D]) rfl λw1 p q G=>?_;obtain⟨bU,aA,aR,aK⟩:=bC p;refine⟨_,bU,K,aA,V,aR,D,aK,(oo (f.ext q) hs I).use ?_⟩;rintro _ E ⟨rfl,r⟩;have a:=q.trans r;obtain⟨d0,d1,d2,d3⟩:=bC (p.ext r);have fin:∀ (v:aa) (w':J),h7 T c n E v w'->∃s:U,∃e:Int,v=.tuple #[s,e]/\h7 T c n w (.tuple #[s,e]) w':=by
  rintro v w' ⟨ao,c',m,s,au,i,d,k⟩;have t:=((dt.ext T c a).trans i).mono (j:=2) I;rcases k with ⟨ks,rfl,l⟩|⟨rfl,l⟩
  .exact⟨s,0,rfl,ao,c',m,s,au,t,d,.inl ⟨ks,rfl,l⟩⟩
  .exact⟨s,3,rfl,ao,c',m,s,au,t,d,.inr ⟨rfl,l⟩⟩
 refine⟨_,rfl,λb=>⟨_,d0,K,d1,V,d2,D,d3,?_⟩,λb=>⟨_,d0,K,d1,V,d2,D,d3,?_⟩⟩
 .have b:((bI n:Nat):Int)>232:=b2 b
  obtain⟨au,i,d,k⟩:=A I;refine(GV (h.ext a) u x y (f.ext a) hs I z au i d k).use ?_;rintro v w' o;obtain⟨s,e,rfl,g⟩:=fin v w' o;exact⟨s,e,rfl,g⟩
 .have b:¬((bI n:Nat):Int)>232:=cr b
  refine(B7 (h.ext a) I I I (f.ext a) hs I).use ?_;rintro v w' o;obtain⟨s,e,rfl,g⟩:=fin v w' o;exact⟨s,e,rfl,g⟩
theorem B8{B:Nat->Prop}{w:J}{s:U}{ls:O Key}(h:bl B w s ls)(t:ls.length<=100000):
 aP ai 284 #[s] w (λv w'=>∃b:U,v=b/\bn (λq=>(B q/\q<w.heap.size)\/(w.heap.size<=q/\az b q)) w' b ls/\Ext w w'/\gQ w b):=by
 have u:=bl.len h;obtain⟨ts,au,j,x,y,n⟩:=h;refine okF (af.tW s) ay.tW func284 ?_;delta af.tW ak Y;refine⟨λd=>?_,λ_=>?_⟩
 .have d:s.a=none:=by simpa using d
  have h0:=j.nil d;have:ls=[]:=List.eq_nil_of_length_eq_zero (by rw[←au];have:=congrArg List.length h0;simpa using this);subst this;exact⟨⟨none,0,0⟩,rfl,bn.none _ _,.refl _ _,λk e=>(gg k e).elim⟩
 .obtain⟨b,w',h1,l,z,m,f,_⟩:=qd.clone (cH:=127) j (vM ts) I
  refine aS ⟨b,w',h1,b,rfl,⟨ts,au,l,λq c=>⟨.inr ⟨f q c,c⟩,l.lt q c⟩,λi o p=>?_⟩,m,f⟩;have a:=n i o p;exact⟨a7.aW (a7.ext (a7.aW (C:=λq=>B q/\q<w.heap.size) a λq c g=>⟨g,c⟩) m) λq _ g=>.inl g,λk e r=>by have:=f k r;have:=(a.2.2 k e).2;omega⟩
theorem lg.at{B:Nat->Prop}{w:J}{s:U}{ks:O Key}{kids:O Nat}(h:lg B w s ks kids):s.len=kids.length/\kids.length=ks.length+1/\kids.length<=2/\∀ (j:Nat) (d:j<kids.length),∃ (A:ae) (t:U),s.a=some A/\w.cell? (A.add (j*2))=some (.slice t.a t.len t.cap)/\w.cell? ((A.add (j*2)).add 1)=some (.int .i64 ((kids[j]:Nat):Int))/\
 ((t.a=none/\ks.take j=ks.take (j-1))\/(t.a.isSome=true/\∃k,a7 B w t k/\ks.take j=ks.take (j-1)++ [k])):=by
 rcases h with ⟨b,x,rfl,rfl,rfl,c,e⟩|⟨b,x,y,k,t,rfl,rfl,rfl,c,e,ht,f⟩
 .refine⟨rfl,rfl,by simp,λj d=>?_⟩
  have:j=0:=by simp at d;omega
  subst this;exact⟨_,⟨none,0,0⟩,rfl,by rw[aw];exact c.cell,by rw[aw,aw];exact c.cell,.inl ⟨rfl,rfl⟩⟩
 .refine⟨rfl,rfl,by simp,λj d=>?_⟩
  rcases dH j 1 with h1|h1
  .have:j=0:=by omega
   subst this;exact⟨_,⟨none,0,0⟩,rfl,by rw[aw];exact c.cell,by rw[aw,aw];exact c.cell,.inl ⟨rfl,rfl⟩⟩
  .have:j=1:=by simp at d;omega
   subst this;obtain⟨A,ar⟩:=a7.some ht f;exact⟨_,t,rfl,by rw[aw];exact c.cell,by rw[aw,aw];exact c.cell,.inr ⟨by rw[ar];rfl,k,ht,rfl⟩⟩
theorem lg.ext{B:Nat->Prop}{w w':J}{s:U}{ks:O Key}{kids:O Nat}(h:lg B w s ks kids)(hx:Ext w w'):lg B w' s ks kids:=by
 rcases h with ⟨b,x,h1,a,c,d,e⟩|⟨b,x,y,k,t,h1,a,c,d,e,ht,f⟩
 .exact .inl ⟨b,x,h1,a,c,d.ext hx,e⟩
 .exact .inr ⟨b,x,y,k,t,h1,a,c,d.ext hx,e,a7.ext ht hx,f⟩
theorem GW{w:J}{nb o:Nat}{vs:O aa}{S t:U}{ls:O Key}{l:Key}{B:Nat->Prop}{T:TypeId}(d:Var w nb vs T)(n:o<vs.length)(f:bn B w S ls)(g:¬B nb)
 (ht:a7 B w t l) (hd:∀k,az t k->¬az S k) (F:ls.length<=100000) {K:J->Prop}
 (p:∀ (w':J) (aC:U),Var w' nb (vs.set o aC) T->bn (Grow B w w') w' aC (ls++ [l])->ab (λq=>q=nb\/az S q) w w'->(∀k,az aC k->az S k\/w.heap.size<=k)->K w'):
 al (w.alloc (.cells #[t] 48)) λr=>∃i:U,∃b:J,Sem.run ai (Builtin.append_ #[127,127] 127 #[S,.slice (some w.heap.size) 1 1]) r=.ok i b/\
  (∃u:aa,b.cell? (Addr.add nb o)=some u)/\b.frozen? (Addr.add nb o)=false/\al (b.setCell (Addr.add nb o) i) λs=>K s:=by
 have v:=bn.aW (C:=λq=>B q\/w.heap.size<=q) f λk _ h=>.inl h;have x:=a7.aW (C:=λq=>B q\/w.heap.size<=q) ht λk _ h=>.inl h;obtain⟨c,w',au,y,j,z⟩:=A8 v x hd I λk a=>.inr a;have G:=d.lt;have A:¬az S nb:=λh=>by
  obtain⟨ts,_,_,D,_⟩:=f;exact g (D nb h).1
 have m:=d.ad j A;obtain⟨aA,aR⟩:=dF m n;refine aS ⟨c,w',au,?_⟩;rw[aw,cA];have hc:=dp w' nb o c;refine⟨aA,aR,aS (p _ c (dM m _) ?_ ?_ z)⟩
 .have E:=bn.aW (C:=Grow B w (w'.setCell ⟨nb,o,none⟩ c)) y λk a h=>by
   rcases h with h|h
   .exact .inl h
   .exact .inr ⟨h,fO a hc.size⟩
  refine bn.ad E hc λk a e=>?_;subst e;rcases a with h|h
  .exact g h
  .omega
 .exact(j.mono λk _ a=>.inr a).trans (hc.mono λk _ a=>.inl a)
def v_(B:Nat->Prop)(n:aB)(fr to:Nat)(ks:O Key)(kids:O Nat)(w:J)(v:aa)(w':J):Prop:=
 ∃K V D:U,v=cX (f_ n fr to ks kids) K V D/\bz (λq=>B q\/w.heap.size<=q) w' (f_ n fr to ks kids) K V D/\Ext w w'
def yu(nb aD e:Nat)(l:U)(to:Int)(b5:J)(Q:aa->J->Prop):Prop:=
 ∃ (C:Int->J->Prop) (H:Int->J->Nat),C 0 b5/\∀ (n19:Int) (b:J),C n19 b->((decide ((n19:Int)<(l.len:Int)))=true->∃D:ae,l.a=some D/\((0:Int)<=n19/\n19<(l.len:Int))/\∃h:U,b.cell? (D.add (Int.toNat n19*2))=some (.slice h.a h.len h.cap)/\∃n23:Int,b.cell? ((D.add (Int.toNat n19*2)).add 1)=some (.int .i64 n23)/\al (b.alloc (.cells #[(),(0:Int)] 334)) λI=>bA I b.heap.size [h,n23]/\(2:Nat)=2/\al (setCells I b.heap.size 0 [h,n23]) λf=>bF (λK:J->Prop=>∃i:U,f.cell? b.heap.size=some (.slice i.a i.len i.cap)/\((!(Option.isNone i.a))=true->∃o:U,f.cell? (Addr.add aD 1)=some (.slice o.a o.len o.cap)/\∃p:U,f.cell? b.heap.size=some (.slice p.a p.len p.cap)/\al (f.alloc (.cells #[p] 48)) λS=>∃L:U,∃q:J,Sem.run ai (Builtin.append_ #[127,127] 127 #[o,.slice (some f.heap.size) 1 1]) S=.ok L q/\(∃u:aa,q.cell? (Addr.add aD 1)=some u)/\q.frozen? (Addr.add aD 1)=false/\al (q.setCell (Addr.add aD 1) L) λT=>K T)/\((!(Option.isNone i.a))=false->K f)) (λ(r:J)=>∃s:U,r.cell? (Addr.add aD 3)=some (.slice s.a s.len s.cap)/\∃n36:Int,r.cell? (Addr.add b.heap.size 1)=some (.int .i64 n36)/\al (r.alloc (.cells #[n36] 3)) λV=>∃M:U,∃t:J,Sem.run ai (Builtin.append_ #[58,58] 58 #[s,.slice (some r.heap.size) 1 1]) V=.ok M t/\(∃u:aa,t.cell? (Addr.add aD 3)=some u)/\t.frozen? (Addr.add aD 3)=false/\al (t.setCell (Addr.add aD 3) M) λN=>C (IntKind.wrap .i64 (n19+1)) N/\H (IntKind.wrap .i64 (n19+1)) N<H n19 b))/\((decide ((n19:Int)<(l.len:Int)))=false->al (b.drew) λE=>¬False/\∃v:U,E.cell? (Addr.add aD 1)=some (.slice v.a v.len v.cap)/\¬False/\∃c:U,E.cell? (Addr.add nb 1)=some (.slice c.a c.len c.cap)/\((0:Int)<=(IntKind.wrap .i64 (to-1))/\(IntKind.wrap .i64 (to-1))<=(c.len:Int))/\∃O:U,∃w:J,Sem.run ai (Builtin.append_ #[127,127] 127 #[v,.slice (aO c.a 1 (Int.toNat (IntKind.wrap .i64 (to-1))) c.cap) (c.len-(Int.toNat (IntKind.wrap .i64 (to-1)))) (c.cap-(Int.toNat (IntKind.wrap .i64 (to-1))))]) E=.ok O w/\(∃u:aa,w.cell? (Addr.add aD 1)=some u)/\w.frozen? (Addr.add aD 1)=false/\al (w.setCell (Addr.add aD 1) O) λW=>al (W.drew) λF=>¬False/\∃x:U,F.cell? (Addr.add aD 3)=some (.slice x.a x.len x.cap)/\¬False/\∃d:U,F.cell? (Addr.add nb 3)=some (.slice d.a d.len d.cap)/\((0:Int)<=to/\to<=(d.len:Int))/\∃P:U,∃y:J,Sem.run ai (Builtin.append_ #[58,58] 58 #[x,.slice (aO d.a 1 (Int.toNat to) d.cap) (d.len-(Int.toNat to)) (d.cap-(Int.toNat to))]) F=.ok P y/\(∃u:aa,y.cell? (Addr.add aD 3)=some u)/\y.frozen? (Addr.add aD 3)=false/\al (y.setCell (Addr.add aD 3) P) λg=>∃G:aj,g.cell? aD=some (.bool G)/\∃j:U,g.cell? (Addr.add aD 1)=some (.slice j.a j.len j.cap)/\∃k:U,g.cell? (Addr.add aD 2)=some (.slice k.a k.len k.cap)/\∃m:U,g.cell? (Addr.add aD 3)=some (.slice m.a m.len m.cap)/\bA g e [G,j,k,m]/\(4:Nat)=4/\al (setCells g e 0 [G,j,k,m]) λn=>∃R:aj,n.cell? e=some (.bool R)/\∃z:U,n.cell? (Addr.add e 1)=some (.slice z.a z.len z.cap)/\∃A:U,n.cell? (Addr.add e 2)=some (.slice A.a A.len A.cap)/\∃B:U,n.cell? (Addr.add e 3)=some (.slice B.a B.len B.cap)/\Q (.agg #[R,z,A,B]) n)
structure qq(B:Nat->Prop)(lo:Nat)(nb aD a:Nat)(n:aB)(K V D:U)(c:O aa)(w:J)(b ax:U)(bR bJ:Nat->Prop)(ks:O Key)(ds:O Nat):Prop where
 ep:Var w nb [n.leaf,K,V,D] 202
 r:Var w a c 202
 o:Var w aD [false,b,(),ax] 202
 k:bn bR w b ks
 d:cQ bJ w ax ds
 bj:∀q,bR q->(B q/\q<lo)\/(lo<=q/\q<w.heap.size/\q≠nb/\q≠aD/\q≠a/\¬bJ q)
 aI:∀q,bJ q->lo<=q/\q<w.heap.size/\q≠nb/\q≠aD/\q≠a
 mA:∀q,az b q->lo<=q
theorem qq.ext{B:Nat->Prop}{lo nb aD b:Nat}{n:aB}{K V D:U}{c:O aa}{w w':J}{e ax:U}{bR bJ:Nat->Prop}{ks:O Key}{ds:O Nat}(h:qq B lo nb aD b n K V D c w e ax bR bJ ks ds)(hx:Ext w w'):qq B lo nb aD b n K V D c w' e ax bR bJ ks ds:=by
 have f:=hx.size;exact⟨h.ep.ext hx,h.r.ext hx,h.o.ext hx,bn.ext h.k hx,cQ.ext h.d hx,λq a=>(h.bj q a).imp id λh=>⟨h.1,I,h.2.2⟩,λq a=>⟨(h.aI q a).1,by have:=(h.aI q a).2.1;omega,(h.aI q a).2.2⟩,h.mA⟩
theorem GX{B:Nat->Prop}{w b5:J}{nb aD x:Nat}{n:aB}{K V D s ej D0:U}{al:O aa}{bR bJ:Nat->Prop}{ks:O Key}{kids:O Nat}{fr to:Nat}(bf:qq B w.heap.size nb aD x n K V D al b5 ej D0 bR bJ (n.keys.take fr) (n.kids.take fr))(bg:Ext w b5)
 (bi:bz B w n K V D) (aQ:lg B w s ks kids) (bk:al.length=4) (h1:w.heap.size<=nb) (S:w.heap.size<=aD) (G:w.heap.size<=x) (H:nb≠aD/\nb≠x/\aD≠x) (t1:1<=to) (t2:to<=n.kids.length) (t3:to-1<=n.keys.length) (bS:n.keys.length<=1000) (bp:n.kids.length<=1000):
 yu nb aD x s (to:Nat) b5 (v_ B n fr to ks kids w):=by
 obtain⟨br,bt,b4,bm⟩:=aQ.at;unfold yu;refine⟨λi w'=>∃ (j:Nat) (z ax:U) (bR bJ:Nat->Prop),i=j/\j<=kids.length/\Ext w w'/\qq B w.heap.size nb aD x n K V D al w' z ax bR bJ (n.keys.take fr++ks.take (j-1)) (n.kids.take fr++kids.take j),λi _=>((kids.length:Int)-i).toNat,⟨0,ej,D0,bR,bJ,rfl,cE _,bg,by simpa using bf⟩,?_⟩;rintro _ u ⟨j,z,ax,bR,bJ,rfl,b7,y,h⟩;have b8:=y.size;refine⟨λaH=>?_,λay=>?_⟩
 .have aH:j<kids.length:=by
   have:(j:Int)<(s.len:Int):=b2 aH;omega
  obtain⟨A,t,ar,aA,aR,aE⟩:=(aQ.ext y).at.2.2.2 j aH;refine⟨A,ar,⟨I,I⟩,t,by rw[c8];exact aA,_,by rw[c8];exact aR,?_⟩;have aE:(t.a=none/\ks.take j=ks.take (j-1))\/(t.a.isSome=true/\∃k,a7 (λq=>B q/\q<w.heap.size) u t k/\ks.take j=ks.take (j-1)++ [k]):=by
   obtain⟨b9,aT,aU,bq,_,bs⟩:=bm j aH;rw[ar]at aU;cases aU;have e:=ab.cell y (λh=>h) bq;rw[aA]at e;injection e with e
   obtain rfl:t=aT:=by
    cases t;cases aT;simp at e;simp[e]
   rcases bs with h|⟨h1,k,S,G⟩
   .exact .inl h
   .exact .inr ⟨h1,k,a7.ext (a7.aW S λq c f=>⟨f,c⟩) y,G⟩
  refine bh (vs:=[(),(0:Int)]) rfl λb_ aV bv ca=>?_;refine⟨aV.cc rfl ?_,rfl,cy aV (us:=[t,.int .i64 ((kids[j]:Nat):Int)]) rfl rfl λaF T bw cb=>?_⟩
  .intro v aX
   simp only[cU,eV,eZ]at aX;rcases aX with rfl|rfl<;>trivial
  have am:Ext u aF:=Ext.cu bv bw (bo _);have m:=h.ext am;have cd:=am.size;have aY:=y.trans am;obtain⟨ff,bA⟩:∃ff,ff=u.heap.size:=⟨_,rfl⟩;rw[←bA]at T⊢;have ce:=T.lt;refine hL (λX=>∃ (cG:U) (an:Nat->Prop),qq B w.heap.size nb aD x n K V D al X cG ax an bJ (n.keys.take fr++ks.take j) (n.kids.take fr++kids.take j)/\Ext w X/\Var X ff [t,.int .i64 ((kids[j]:Nat):Int)] 334/\aF.heap.size<=X.heap.size) (λq c=>⟨t,T.cell,λf=>?_,λf=>?_⟩) ?_
  .rcases aE with ⟨ao,_⟩|⟨_,k,ht,ae⟩
   .rw[ao]at f;cases f
   obtain⟨af,L,ag,M⟩:=bC (V:=⟨none,0,0⟩) m.o;have ap:∀q,az z q->bR q:=λq c=>by
    obtain⟨ts,_,_,G,_⟩:=m.k;exact(G q c).1
   refine⟨z,L,t,T.cell,GW (B:=λq=>bR q\/(B q/\q<w.heap.size)) m.o (o:=1) (by simp) (bn.aW m.k λq _ f=>.inl f) (λf=>?_) (a7.aW (a7.ext ht am) λq _ f=>.inr f) (λq c aG=>?_) ?_ λw' aC au aJ p bB=>c _ ⟨aC,Grow (λq=>bR q\/(B q/\q<w.heap.size)) aF w',?_,?_,?_,p.size⟩⟩
   .rcases f with f|f
    .rcases m.bj _ f with g|g
     .omega
     .exact g.2.2.2.1 rfl
    .omega
   .have:=(ht.2.2 q c).1.2
    have:=m.mA q aG;omega
   .rw[cx,cv,cv];omega
   .have bD:=p.size
    have C:∀q,az z q->q<u.heap.size/\q≠nb/\q≠aD/\q≠x/\¬bJ q:=λq c=>by
     have bE:=h.mA q c;rcases h.bj q (ap q c) with g|g
     .omega
     .exact g.2
    refine⟨m.ep.ad p λc=>?_,m.r.ad p λc=>?_,au,?_,cQ.ad m.d p λq f c=>?_,λq f=>?_,λq f=>⟨(m.aI q f).1,by have:=(m.aI q f).2.1;omega,(m.aI q f).2.2⟩,λq c=>?_⟩
    .rcases c with e|c
     .exact H.1 e
     .exact(C _ c).2.1 rfl
    .rcases c with e|c
     .exact H.2.2 e.symm
     .exact(C _ c).2.2.2.1 rfl
    .rw[ae,←cD];exact aJ
    .rcases c with e|c
     .exact(m.aI q f).2.2.2.1 e
     .exact(C q c).2.2.2.2 f
    .rcases f with (f|f)|f
     .exact(m.bj q f).imp id λg=>⟨g.1,I,g.2.2⟩
     .exact .inl f
     .refine .inr ⟨I,f.2,λe=>?_,λe=>?_,λe=>?_,λhd=>?_⟩
      .have:=m.ep.lt;omega
      .have:=m.o.lt;omega
      .have:=m.r.lt;omega
      .have:=(m.aI q hd).2.1;omega
    .rcases bB q c with g|g
     .exact h.mA q g
     .omega
   .exact Ext.dd aY p λq c=>by
     rcases c with rfl|c
     .exact S
     .exact m.mA q c
   .refine T.ad p λc=>?_
    rcases c with e|c
    .have:=h.o.lt;omega
    .rcases h.bj _ (ap _ c) with g|g<;>omega
  .rcases aE with ⟨_,ae⟩|⟨ao,_⟩
   .refine c _ ⟨z,bR,?_,aY,T,bo _⟩
    rw[ae];exact m
   .cases aZ:t.a with
    |none=>rw[aZ]at ao;cases ao
    |some A=>rw[aZ]at f;cases f
  rintro X ⟨cG,an,l,a0,a1,cf⟩;have cg:=a1.lt;obtain⟨af,L,ag,M⟩:=bC (V:=⟨none,0,0⟩) l.o;have E:∀q,az ax q->bJ q:=λq c=>(l.d.2 q c).1;have bF:∀q,an q->¬(q=aD\/az ax q):=λq f c=>by
   rcases l.bj q f with g|g
   .rcases c with e|c
    .omega
    .have:=(l.aI q (E q c)).1;omega
   .rcases c with e|c
    .exact g.2.2.2.1 e
    .exact g.2.2.2.2.2 (E q c)
  have a2:IntKind.wrap .i64 ((j:Int)+1)=((j+1:Nat):Int):=by rw[bu I I];rfl
  refine⟨ax,M,_,by rw[aw];exact a1.cell,(Bf (W:=λ_=>True) kids[j] l.o (o:=3) (by simp) l.d (λf=>(l.aI _ f).2.2.2.1 rfl) (by rw[cx,cv,cv];omega) λw' aC au aJ p=>⟨⟨j+1,cG,aC,an,Grow bJ X w',a2,I,?_,?_⟩,?_⟩).2⟩
  .exact Ext.dd a0 p λq c=>by
    rcases c with rfl|c
    .exact S
    .exact(l.aI q (E q c)).1
  .have bD:=p.size
   refine⟨l.ep.ad p λc=>?_,l.r.ad p λc=>?_,au,?_,?_,λq f=>?_,λq f=>?_,l.mA⟩
   .rcases c with e|c
    .exact H.1 e
    .exact(l.aI _ (E _ c)).2.2.1 rfl
   .rcases c with e|c
    .exact H.2.2 e.symm
    .exact(l.aI _ (E _ c)).2.2.2.2 rfl
   .exact bn.ad l.k p bF
   .rw[iy aH,←cD];exact aJ
   .refine(l.bj q f).imp id λg=>⟨g.1,I,g.2.2.1,g.2.2.2.1,g.2.2.2.2.1,λhd=>?_⟩
    rcases hd with hd|hd
    .exact g.2.2.2.2.2 hd
    .omega
   .rcases f with f|f
    .exact⟨(l.aI q f).1,by have:=(l.aI q f).2.1;omega,(l.aI q f).2.2⟩
    .refine⟨by have:=a0.size;omega,f.2,λe=>?_,λe=>?_,λe=>?_⟩
     .have:=l.ep.lt;omega
     .have:=l.o.lt;omega
     .have:=l.r.lt;omega
  .rw[a2]
   show((kids.length:Int)-((j+1:Nat):Int)).toNat<((kids.length:Int)-(j:Int)).toNat;omega
 .have ay:j=kids.length:=by
   have:¬(j:Int)<(s.len:Int):=cr ay;omega
  subst ay;have a3:Ext u u.drew:=b6 _;have h:=h.ext a3;have y:=y.trans a3;have ae:ks.take (kids.length-1)=ks:=dI I;rw[ae,iz]at h;obtain⟨af,L,ag,M⟩:=bC (V:=⟨none,0,0⟩) h.o;obtain⟨kK,fJ,bH,a4⟩:=bC h.ep;have a5:bz (λq=>B q/\q<w.heap.size) w n K V D:=bi.aW λq c f=>⟨f,c⟩;have aK:=a5.ext y;have a6:=bl.len aK.keys;have a8:=cI.len aK.kids;have a9:IntKind.wrap .i64 ((to:Int)-1)=((to-1:Nat):Int):=by rw[bu I I];omega
  have ap:∀q,az z q->bR q:=λq c=>by
   obtain⟨ts,_,_,G,_⟩:=h.k;exact(G q c).1
  have E:∀q,az ax q->bJ q:=λq c=>(h.d.2 q c).1;have a_:=bl.sub aK.keys (lo:=to-1) (hi:=n.keys.length) t3 (bo _);have bI:(n.keys.drop (to-1)).take (n.keys.length-(to-1))=n.keys.drop (to-1):=dI (by rw[c5];exact bo _);rw[bI]at a_;obtain⟨N,ai,bK,bL,Y⟩:=x1 h.k a_ (λq c aG=>by have:=h.mA q aG;omega) (by rw[cx,cv];omega) (by rw[c5];omega);have ch:u.drew.heap.size=u.heap.size:=rfl;have C:∀q,az z q->q<u.drew.heap.size/\q≠nb/\q≠aD/\q≠x/\¬bJ q:=λq c=>by
   have bE:=h.mA q c;rcases h.bj q (ap q c) with g|g
   .omega
   .exact g.2
  have ci:=Y.size;have bM:Ext w ai:=Ext.dd y Y λq c=>h.mA q c;have ba:=h.o.ad Y λc=>(C _ c).2.2.1 rfl;have bN:=h.ep.ad Y λc=>(C _ c).2.1 rfl;have bO:=h.r.ad Y λc=>(C _ c).2.2.2.1 rfl;have bP:cQ bJ ai ax _:=cQ.ad h.d Y λq f c=>(C q c).2.2.2.2 f;obtain⟨bx,bG⟩:=dF ba (i:=1) (by simp);refine aS ⟨id,z,L,id,K,fJ,?_,N,ai,?_,by rw[aw];exact bx,by rw[aw];exact bG,?_⟩
  .rw[a9,a6];omega
  .rw[a9,c8,a6];exact bK
  rw[aw,cA];have P:=dp ai aD 1 N;have aj:=dM ba (i:=1) N;obtain⟨F,bQ⟩:∃F,F=ai.setCell ⟨aD,1,none⟩ N:=⟨_,rfl⟩;rw[←bQ]at P aj⊢;have cj:=P.size;have aL:=bN.ad P (λe=>H.1 e);have aM:=bO.ad P (λe=>H.2.2 e.symm);have aN:cQ bJ F ax _:=cQ.ad bP P λq f e=>(h.aI q f).2.2.2.1 e;have ak:Ext w F:=Ext.cu bM P S;have Z:Ext F F.drew:=b6 _;have bb:∀q,(bR q\/(B q/\q<w.heap.size)\/u.drew.heap.size<=q)->q≠aD:=λq c e=>by
   subst e;rcases c with c|c|c
   .rcases h.bj _ c with g|g
    .omega
    .exact g.2.2.2.1 rfl
   .omega
   .have:=h.o.lt;omega
  have bT:=bl.ext (bl.ad bL P bb) Z;have aj:=aj.ext Z;have aL:=aL.ext Z;have aM:=aM.ext Z;have aN:=cQ.ext aN Z;have ak:=ak.trans Z;obtain⟨af,L,ag,M⟩:=bC (V:=⟨none,0,0⟩) aj;obtain⟨kK,fJ,bH,a4⟩:=bC aL;have bc:=cI.sub (a5.ext ak).kids (lo:=to) (hi:=n.kids.length) t2 (bo _);have bU:(n.kids.drop to).take (n.kids.length-to)=n.kids.drop to:=dI (by rw[c5];exact bo _);rw[bU]at bc;obtain⟨R,aq,f1,f2,f3⟩:=Bo aN bc (by rw[cx,cv];omega) (by rw[c5];omega);have ck:F.drew.heap.size=F.heap.size:=rfl;have cl:=f3.size;have av:∀q,az ax q->w.heap.size<=q/\q<u.drew.heap.size/\q≠nb/\q≠aD/\q≠x:=λq c=>h.aI q (E q c);have bV:Ext w aq:=Ext.dd ak f3 λq c=>(av q c).1;have bd:=aj.ad f3 λc=>(av _ c).2.2.2.1 rfl;have bW:=aM.ad f3 λc=>(av _ c).2.2.2.2 rfl;have bX:=bl.ad bT f3 λq f c=>by
   have cm:=av q c;rcases f with f|f|f
   .rcases h.bj q f with g|g
    .omega
    .exact g.2.2.2.2.2 (E q c)
   .omega
   .omega
  obtain⟨bx,bG⟩:=dF bd (i:=3) (by simp);refine aS (aS ⟨id,ax,M,id,D,a4,?_,R,aq,?_,by rw[aw];exact bx,by rw[aw];exact bG,?_⟩)
  .rw[a8];omega
  .rw[c8,a8];exact f1
  rw[aw,cA];have ac:=dp aq aD 3 R;have be:=dM bd (i:=3) R;obtain⟨aO,bY⟩:∃aO,aO=aq.setCell ⟨aD,3,none⟩ R:=⟨_,rfl⟩;rw[←bY]at ac be⊢;have cn:=ac.size;have bZ:=bW.ad ac (λe=>H.2.2 e.symm);have b0:Ext w aO:=Ext.cu bV ac S;have b1:=bl.ad bX ac bb;have b3:=cI.ad f2 ac λq f e=>by
   subst e;rcases f with f|f|f
   .exact(h.aI _ f).2.2.2.1 rfl
   .omega
   .have:=h.o.lt;omega
  obtain⟨af,L,ag,M⟩:=bC (V:=⟨none,0,0⟩) be;refine aS ⟨_,af,N,L,⟨none,0,0⟩,ag,R,M,?_⟩;refine jb false N ⟨none,0,0⟩ R bZ bk (Q:=λb K V D ah=>v_ B n fr to ks kids w (.agg #[b,K,V,D]) ah) λco aP=>?_;refine⟨N,⟨none,0,0⟩,R,rfl,⟨?_,?_,?_⟩,Ext.cu b0 aP G⟩
  .refine bl.aW (bl.ad b1 aP λq f e=>?_) λq _ f=>?_
   .subst e
    rcases f with f|f|f
    .rcases h.bj _ f with g|g
     .omega
     .exact g.2.2.2.2.1 rfl
    .omega
    .have:=h.r.lt;omega
   .rcases f with f|f|f
    .rcases h.bj _ f with g|g
     .exact .inl g.1
     .exact .inr g.1
    .exact .inl f.1
    .have:=y.size;exact .inr I
  .exact bl.none _ _
  .refine cI.aW (cI.ad b3 aP λq f e=>?_) λq _ f=>?_
   .subst e
    rcases f with f|f|f
    .exact(h.aI _ f).2.2.2.2 rfl
    .omega
    .have:=h.r.lt;omega
   .rcases f with f|f|f
    .exact .inr (h.aI _ f).1
    .exact .inl f.1
    .have:=ak.size;exact .inr I
theorem yw(K D:U)(w:J):Sem.run ai (Instr.build 202 #[(1,K),(3,D)]) w=.ok (.agg #[false,K,(),D]) w:=by kernel_rfl
theorem p0{B:Nat->Prop}{w:J}{n:aB}{K V D s:U}{ks:O Key}{kids:O Nat}{fr to:Nat}(P:bz B w n K V D)(am:lg B w s ks kids)(f1:fr<=n.keys.length)(f2:fr<=n.kids.length)(t1:1<=to)(t2:to<=n.kids.length)(t3:to-1<=n.keys.length)(bS:n.keys.length<=1000)(bp:n.kids.length<=1000):
 aP ai 250 #[cX n K V D,fr,to,s] w (v_ B n fr to ks kids w):=by
 refine okF (af.p0 n.leaf K V D (fr:Nat) (to:Nat) s) ay.p0 func250 ?_;(delta af.p0 cp Y ag ba eI jJ ak aI r1 z5 tC st av bc tE;dsimp only);refine bh (vs:=[n.leaf,K,V,D]) rfl λw1 an ao aF=>?_;refine bh (vs:=[false,(),(),()]) rfl λah ap Q aG=>aS ?_;have E:Ext ah ah.drew:=b6 _;have H:=(ao.trans Q).trans E;obtain⟨d,R⟩:∃d,d=ah.drew:=⟨_,rfl⟩;have aJ:d.heap.size=ah.heap.size:=by rw[R];rfl
 rw[←R]at H E⊢;have S:=(an.ext Q).ext E;have aq:=ap.ext E;obtain⟨bU,aA,aR,aK⟩:=bC S;have t:bz (λq=>B q/\q<w.heap.size) d n K V D:=(P.aW λq a c=>⟨c,a⟩).ext H;have aL:=bl.len t.keys;have aM:=cI.len t.kids;have aN:=bl.le t.keys;have aO:=t.kids.2.1;have L:=bl.sub t.keys (lo:=0) (hi:=fr) (cE _) f1;have F:=cI.sub t.kids (lo:=0) (hi:=fr) (cE _) f2;rw[lu,o4]at L F;have T:Int.toNat (fr:Int)-0=fr:=by rw[c8];rfl
 have fin:∀ (b5:J) (aD:Nat) (ej D0:U),Ext d b5->Var b5 aD [false,ej,(),D0] 202->d.heap.size<=aD->bn (λq=>(B q/\q<w.heap.size)\/(d.heap.size<=q/\az ej q)) b5 ej (n.keys.take fr)->a8 1 3 b5 D0 (dW (n.kids.take fr))->
  (∀q,az ej q->d.heap.size<=q/\q≠aD)->(∀q,az D0 q->d.heap.size<=q/\q≠aD/\¬az ej q)->yu w.heap.size aD w1.heap.size s (to:Nat) b5 (v_ B n fr to ks kids w):=by
  intro b5 aD ej D0 hx ar aQ W M X Z;have aT:=hx.size;have aH:∀q,az ej q->q<b5.heap.size:=λq a=>by
   obtain⟨ts,_,o,_,_⟩:=W;exact o.lt q a
  refine GX (bR:=λq=>(B q/\q<w.heap.size)\/az ej q) (bJ:=λq=>az D0 q) ⟨S.ext hx,aq.ext hx,ar,bn.aW W λq _ c=>c.imp id λh=>h.2,⟨M,λq a=>⟨a,a8.lt M q a⟩⟩,λq c=>?_,λq c=>?_,λq a=>by have:=(X q a).1;omega⟩ (H.trans hx) P am rfl (bo _) I I ⟨I,I,I⟩ t1 t2 t3 bS bp
  .rcases c with c|c
   .exact .inl c
   .have x:=X q c
    exact .inr ⟨I,aH q c,I,x.2,I,λau=>(Z q au).2.2 c⟩
  .have x:=Z q c
   exact⟨I,a8.lt M q c,I,x.2.1,I⟩
 refine⟨λ_=>False,id,K,aA,⟨I,I⟩,id,D,aK,⟨I,I⟩,?_,?_⟩
 .rw[T]
  refine(B8 L (by rw[cv];omega)).use ?_;rintro _ u ⟨ej,rfl,p,f,y⟩;have aw:=f.size;refine⟨ej,rfl,f,?_,?_⟩
  .refine(r0 (F.1.ext f) (by rw[cv];omega)).use ?_
   rintro _ aa ⟨D0,rfl,v,G,ab⟩;have aU:=G.size;refine⟨D0,rfl,G,_,yw ej D0,bh (vs:=[false,(),(),()]) rfl λaV ac ae aX=>⟨ae,ac.cc rfl (fC (b:=false) (K:=ej) (V:=⟨none,0,0⟩) (D:=D0)),rfl,cy ac (us:=[false,ej,(),D0]) rfl rfl λg z j aj=>?_⟩⟩;have k:Ext aa g:=Ext.cu ae j (bo _);have r:∀q,az ej q->q<u.heap.size:=λq a=>by
    obtain⟨ts,_,o,_,_⟩:=p;exact o.lt q a
   exact fin g aa.heap.size ej D0 (f.trans (G.trans k)) z I (bn.aW (bn.ext p (G.trans k)) λq _ c=>c.imp (λh=>h.1) id) (v.ext k) (λq a=>⟨y q a,by have:=r q a;omega⟩) λq a=>⟨by have:=ab q a;omega,by have:=a8.lt v q a;omega,λh=>by have:=r q h;have:=ab q a;omega⟩
  .refine bh (vs:=[false,(),(),()]) rfl λal N l ax=>⟨l,(r0 ((F.1.ext f).ext l) (by rw[cv];omega)).use ?_⟩
   rintro _ aC ⟨D0,rfl,v,m,i⟩;have A:=N.ext m;refine⟨D0,rfl,m,_,yw ej D0,A.cc rfl (fC (b:=false) (K:=ej) (V:=⟨none,0,0⟩) (D:=D0)),rfl,cy A (us:=[false,ej,(),D0]) rfl rfl λg z j aj=>?_⟩;have k:Ext u g:=Ext.cu (l.trans m) j (bo _);have r:∀q,az ej q->q<u.heap.size:=λq a=>by
    obtain⟨ts,_,o,_,_⟩:=p;exact o.lt q a
   exact fin g u.heap.size ej D0 (f.trans k) z I (bn.aW (bn.ext p k) λq _ c=>c.imp (λh=>h.1) id) (v.ad j λq a e=>by have:=i q a;omega) (λq a=>⟨y q a,by have:=r q a;omega⟩) λq a=>⟨by have:=i q a;omega,by have:=i q a;omega,λh=>by have:=r q h;have:=i q a;omega⟩
 .rw[T]
  refine bh (vs:=[false,(),(),()]) rfl λal N l ax=>⟨l,(B8 (bl.ext L l) (by rw[cv];omega)).use ?_⟩;rintro _ u ⟨ej,rfl,p,f,y⟩;have aw:=f.size;refine⟨ej,rfl,f,(r0 ((F.1.ext l).ext f) (by rw[cv];omega)).use ?_⟩;rintro _ aC ⟨D0,rfl,v,m,i⟩;have A:=(N.ext f).ext m;refine⟨D0,rfl,m,_,yw ej D0,A.cc rfl (fC (b:=false) (K:=ej) (V:=⟨none,0,0⟩) (D:=D0)),rfl,cy A (us:=[false,ej,(),D0]) rfl rfl λg z j aj=>?_⟩;have k:Ext d g:=Ext.cu ((l.trans f).trans m) j (bo _);have r:∀q,az ej q->q<u.heap.size:=λq a=>by
   obtain⟨ts,_,o,_,_⟩:=p;exact o.lt q a
  have aE:bn (λq=>(B q/\q<w.heap.size)\/(d.heap.size<=q/\az ej q)) g ej (n.keys.take fr):=by
   have x:=bn.aW (C:=λq=>(B q/\q<w.heap.size)\/(al.heap.size<=q/\az ej q)) (bn.ext p m) λq _ c=>c.imp (λh=>h.1) id;exact bn.aW (bn.ad x j λq c e=>by rcases c with c|c<;>omega) λq _ c=>c.imp id λh=>⟨I,h.2⟩
  exact fin g d.heap.size ej D0 k z (bo _) aE (v.ad j λq a e=>by have:=i q a;omega) (λq a=>⟨by have:=y q a;omega,by have:=y q a;omega⟩) λq a=>⟨by have:=i q a;omega,by have:=i q a;omega,λh=>by have:=r q h;have:=i q a;omega⟩
def lN(n:aB):Prop:=cF n/\bI n<=400/\(232<bI n->1<=ck n/\(if n.leaf then ck n<=n.keys.length-1/\1<=n.keys.length-1 else ck n<=n.keys.length-2/\1<=n.keys.length-2)/\bI (n.left (ck n))<=232/\bI (n.right (ck n))<=232)
structure lO(B:Nat->Prop)(w:J)(A:ae)(u:dD):Prop where
 aA:w.cell? (A.add 1)=some (.bool u.n.leaf)
 aR:w.cell? ((A.add 1).add 1)=some (.slice u.K.a u.K.len u.K.cap)
 aK:w.cell? ((A.add 1).add 2)=some (.slice u.V.a u.V.len u.V.cap)
 de:w.cell? ((A.add 1).add 3)=some (.slice u.D.a u.D.len u.D.cap)
 ba:w.cell? (A.add 5)=some (.int .i64 (u.cT:Nat))
 bm:bz B w u.n u.K u.V u.D
 bN:B A.block
 lt:A.block<w.heap.size
theorem lO.ext{B:Nat->Prop}{w w':J}{A:ae}{u:dD}(h:lO B w A u)(hx:Ext w w'):lO B w' A u:=
 ⟨ab.cell hx (λh=>h) h.aA,ab.cell hx (λh=>h) h.aR,ab.cell hx (λh=>h) h.aK,ab.cell hx (λh=>h) h.de,ab.cell hx (λh=>h) h.ba,h.bm.ext hx,h.bN,fO h.lt hx.size⟩
theorem lO.to{w w':J}{T ao:aM}{k:Nat}{A:ae}{u:dD}(h:lO (λq=>¬T.M q) w A u)(ht:bO T ao w w' k):lO (λq=>¬ao.M q) w' A u:=by
 have hc:=ht.ad;have a:¬T.N A.block:=λc=>h.bN (aM.gh c);refine⟨ab.cell hc (A:=A.add 1) a h.aA,ab.cell hc (A:=(A.add 1).add 1) a h.aR,ab.cell hc (A:=(A.add 1).add 2) a h.aK,ab.cell hc (A:=(A.add 1).add 3) a h.de,ab.cell hc (A:=A.add 5) a h.ba,?_,λd=>?_,fO h.lt hc.size⟩
 .have h1:=ht.bm (lo:=0) (h.bm.aW λq _ b=>⟨cE _,b⟩)
  exact h1.aW λq _ b=>b.2
 .rcases ht.c4 _ d with h1|h1
  .exact h.bN h1
  .have:=h.lt;omega
theorem h7.base{T:aM}{c:dG}{n:aB}{w0 w w':J}{v:aa}(h:h7 T c n w v w')(hx:Ext w0 w):h7 T c n w0 v w':=by
 obtain⟨ao,c',m,s,au,a,b,d⟩:=h;exact⟨ao,c',m,s,au,((dt.ext T c hx).trans a).mono I,b,d⟩
theorem h7.out{T:aM}{c:dG}{n:aB}{w w':J}{v:aa}(h:h7 T c n w v w'):∃ (s:U) (e:Int),v=.tuple #[s,e]:=by
 obtain⟨ao,c',m,s,au,b,d,a⟩:=h;rcases a with ⟨ks,rfl,_⟩|⟨rfl,_⟩
 .exact⟨s,0,rfl⟩
 .exact⟨s,3,rfl⟩
def yx(nb aD g bv:Nat)(c up:aq ae)(n31 n36:Int)(b5:J)(Q:aa->J->Prop):Prop:=
 bF (λaf:J->Prop=>∃ag:ae,up=some ag/\∃D:Int,b5.cell? (ag.add 5)=some (.int .i64 D)/\((decide ((n36:Int)>D))=true->al (b5.drew) λd=>∃E:Nat->Prop,¬E (nb:ae).block/\∃F:aj,d.cell? nb=some (.bool F)/\∃j:U,d.cell? (Addr.add nb 1)=some (.slice j.a j.len j.cap)/\∃k:U,d.cell? (Addr.add nb 2)=some (.slice k.a k.len k.cap)/\∃l:U,d.cell? (Addr.add nb 3)=some (.slice l.a l.len l.cap)/\¬E (aD:ae).block/\∃G:aj,d.cell? aD=some (.bool G)/\∃m:U,d.cell? (Addr.add aD 1)=some (.slice m.a m.len m.cap)/\∃n:U,d.cell? (Addr.add aD 2)=some (.slice n.a n.len n.cap)/\∃o:U,d.cell? (Addr.add aD 3)=some (.slice o.a o.len o.cap)/\bA d g [F,j,k,l]/\(4:Nat)=4/\al (setCells d g 0 [F,j,k,l]) λH=>ab E d H/\bA H bv [G,m,n,o]/\(4:Nat)=4/\al (setCells H bv 0 [G,m,n,o]) λar=>af ar)/\((decide ((n36:Int)>D))=false->af b5)) (λ(au:J)=>al (au.drew) λb=>∃f:Nat->Prop,¬f (g:ae).block/\∃I:aj,b.cell? g=some (.bool I)/\∃p:U,b.cell? (Addr.add g 1)=some (.slice p.a p.len p.cap)/\∃q:U,b.cell? (Addr.add g 2)=some (.slice q.a q.len q.cap)/\∃r:U,b.cell? (Addr.add g 3)=some (.slice r.a r.len r.cap)/\∃K:ae,up=some K/\¬f ((K.add 1).add 1).block/\∃s:U,b.cell? ((K.add 1).add 1)=some (.slice s.a s.len s.cap)/\∃L:ae,s.a=some L/\((0:Int)<=n31/\n31<(s.len:Int))/\¬f (L.add (Int.toNat n31*1)).block/\∃t:U,b.cell? (L.add (Int.toNat n31*1))=some (.slice t.a t.len t.cap)/\¬f (bv:ae).block/\∃M:aj,b.cell? bv=some (.bool M)/\∃u:U,b.cell? (Addr.add bv 1)=some (.slice u.a u.len u.cap)/\∃v:U,b.cell? (Addr.add bv 2)=some (.slice v.a v.len v.cap)/\∃w:U,b.cell? (Addr.add bv 3)=some (.slice w.a w.len w.cap)/\(Calls ai 282 #[.agg #[I,p,q,r],t,.agg #[M,u,v,w]] b λav e=>∃N:aj,∃O:U,∃P:U,∃R:U,∃S:aj,av=.returned (.tuple #[.agg #[N,O,P,R],S])/\ab f b e/\al (e.alloc (.cells #[false,(),(),()] 202)) λT=>ab f e T/\bA T e.heap.size [N,O,P,R]/\(4:Nat)=4/\al (setCells T e.heap.size 0 [N,O,P,R]) λh=>((!S)=true->Q (.tuple #[(),(0:Int),(0:Int),(4:Int)]) h)/\((!S)=false->∃ah:aj,h.cell? e.heap.size=some (.bool ah)/\∃x:U,h.cell? (Addr.add e.heap.size 1)=some (.slice x.a x.len x.cap)/\∃y:U,h.cell? (Addr.add e.heap.size 2)=some (.slice y.a y.len y.cap)/\∃z:U,h.cell? (Addr.add e.heap.size 3)=some (.slice z.a z.len z.cap)/\Calls ai 281 #[.pointer c,.agg #[ah,x,y,z]] h λaw ax=>∃ak:U,∃am:Int,aw=.returned (.tuple #[ak,am])/\Q (.tuple #[ak,n31,.int .i64 (IntKind.wrap .i64 (n31+2)),am]) ax))/\(al (b.alloc (.cells #[false,(),(),()] 202)) λV=>ab f b V/\Calls ai 282 #[.agg #[I,p,q,r],t,.agg #[M,u,v,w]] V λay W=>∃X:aj,∃Y:U,∃Z:U,∃ac:U,∃ad:aj,ay=.returned (.tuple #[.agg #[X,Y,Z,ac],ad])/\ab f V W/\bA W b.heap.size [X,Y,Z,ac]/\(4:Nat)=4/\al (setCells W b.heap.size 0 [X,Y,Z,ac]) λi=>((!ad)=true->Q (.tuple #[(),(0:Int),(0:Int),(4:Int)]) i)/\((!ad)=false->∃an:aj,i.cell? b.heap.size=some (.bool an)/\∃A:U,i.cell? (Addr.add b.heap.size 1)=some (.slice A.a A.len A.cap)/\∃B:U,i.cell? (Addr.add b.heap.size 2)=some (.slice B.a B.len B.cap)/\∃C:U,i.cell? (Addr.add b.heap.size 3)=some (.slice C.a C.len C.cap)/\Calls ai 281 #[.pointer c,.agg #[an,A,B,C]] i λaz aA=>∃ao:U,∃ap:Int,az=.returned (.tuple #[ao,ap])/\Q (.tuple #[ao,n31,.int .i64 (IntKind.wrap .i64 (n31+2)),ap]) aA)))
theorem GY{X Y:Nat->Prop}{w0 b5:J}{T:aM}{c:dG}{nb aD g bv:Nat}{A:ae}{u:dD}{n o:aB}{K V D i j k:U}{fr other:Nat}{Q:aa->J->Prop}(h:dr w0 T c)(hx:Ext w0 b5)(am:Var w0 nb (dQ n K V D) 202)(an:Var w0 aD (dQ o i j k) 202)
 (ao:Var b5 g (dQ o i j k) 202) (ap:Var b5 bv (dQ n K V D) 202) (h1:w0.heap.size<=g) (aW:w0.heap.size<=bv) (aq:g≠bv) (ar:bz X w0 n K V D) (au:bz Y w0 o i j k) (hu:lO (λq=>¬T.M q) w0 A u)
 (av:T.C.D.aN<=900000090) (aw:2<=cg T) (ax:c.made.length<=900) (gi:cF n) (Z:cF o) (bw:bI n<=400) (bx:bI o<=400) (ay:o.leaf=n.leaf) (aX:fr<u.n.keys.length) (az:cB u.n.keys[fr]) (m:aB) (aA:m=if u.cT<other then dU n u.n.keys[fr] o else dU o u.n.keys[fr] n) (l:lN m) (bA:fr<=1000)
 (aC:∀ (s:U) (e:Int) (w':J),h7 T c m w0 (.tuple #[s,e]) w'->Q (.tuple #[s,fr,.int .i64 ((fr+2:Nat):Int),e]) w'):
 yx nb aD g bv (some c.cb) (some A) (fr:Nat) (other:Nat) b5 Q:=by
 have bB:=am.lt;have bD:=an.lt;have bE:=hx.size;have fn:=gi.eQ I;have bF:=Z.eQ I;unfold yx;refine hL (λp=>∃ (a b:aB) (G H L N O P:U) (aE aF:Nat->Prop),Ext w0 p/\Var p g (dQ a G H L) 202/\Var p bv (dQ b N O P) 202/\bz aE w0 a G H L/\bz aF w0 b N O P/\m=dU a u.n.keys[fr] b/\cF a/\cF b/\a.leaf=b.leaf/\a.keys.length<=200/\b.keys.length<=200)
  (λq r=>⟨A,rfl,_,(hu.ext hx).ba,λd=>?_,λd=>r _ ⟨o,n,i,j,k,K,V,D,Y,X,hx,ao,ap,au,ar,?_,Z,gi,ay,I,I⟩⟩) ?_
 .have d:u.cT<other:=by
   have:(other:Int)>(u.cT:Int):=b2 d;omega
  have f:=hx.trans (b6 b5);obtain⟨aY,bS,bp,aZ⟩:=bC (am.ext f);obtain⟨a0,a4,a5,a6⟩:=bC (an.ext f);have aG:=ao.drew;have a7:=ap.drew;refine aS ⟨λq=>q=g,(show nb≠g from I),_,aY,K,bS,V,bp,D,aZ,(show aD≠g from I),_,a0,i,a4,j,a5,k,a6,aG.cc rfl fC,rfl,cy aG (us:=dQ n K V D) rfl rfl λbG a8 ab bH=>?_⟩;have aH:=a7.ad ab (λe=>aq e.symm);refine⟨ab,aH.cc rfl fC,rfl,cy aH (us:=dQ o i j k) rfl rfl λbJ a9 aI bK=>?_⟩;exact r _ ⟨n,o,K,V,D,i,j,k,X,Y,Ext.cu (Ext.cu f ab h1) aI aW,a8.ad aI aq,a9,ar,au,by rw[aA,if_pos d],gi,Z,ay.symm,I,I⟩
 .have d:¬u.cT<other:=by
   have:¬(other:Int)>(u.cT:Int):=cr d;omega
  rw[aA,if_neg d]
 rintro p ⟨a,b,G,H,L,N,O,P,aE,aF,a_,bb,d,aJ,aK,ac,sa,sb,aL,bL,lb⟩;have f:=a_.trans (b6 p);have bc:=bb.drew;have bd:=d.drew;obtain⟨be,a1,a2,a3⟩:=bC bc;obtain⟨bf,b9,bQ,bg⟩:=bC bd;have aO:=hu.ext f;obtain⟨bi,tk,bj,bk,bn,R,bM⟩:=bl.at aO.bm.keys aX;have aP:cF (dU a u.n.keys[fr] b):=by rw[←ac];exact l.1
 have B:=oq (aJ.ext f) (aK.ext f) R.1 (λq r=>(R.2.2 q r).2) (by have:=az.2;omega) sa sb aL aP I I;rw[←ac]at B;have aQ:IntKind.wrap .i64 ((fr:Int)+2)=((fr+2:Nat):Int):=by rw[bu I I];rfl
 obtain⟨wd,bN⟩:∃wd,wd=p.drew:=⟨_,rfl⟩;refine aS ⟨λ_=>False,id,_,be,G,a1,H,a2,L,a3,A,rfl,id,u.K,aO.aR,bi,bj,bk,id,tk,bn,id,_,bf,N,b9,O,bQ,P,bg,?_,?_⟩
 .refine B.use ?_
  rintro _ bq ⟨t,w,x,rfl,af,y⟩;refine⟨_,t,w,x,true,rfl,y,bh (vs:=[false,(),(),()]) rfl λbO aT aU bP=>⟨aU,aT.cc rfl fC,rfl,cy aT (us:=dQ m t w x) rfl rfl λag ah S br=>⟨λd=>(by cases d),λ_=>?_⟩⟩⟩;have W:Ext bq ag:=Ext.cu aU S (bo _);have E:=(f.trans y).trans W;obtain⟨ai,aj,ak,al⟩:=bC ah;refine⟨_,ai,t,aj,w,ak,x,al,(v8 (h.ext E) av aw ax (af.ext W) l.1 l.2.1 l.2.2).use ?_⟩;intro v w' F;obtain⟨s,e,rfl⟩:=F.out;rw[aQ];exact⟨s,e,rfl,aC s e w' (F.base E)⟩
 .refine bh (vs:=[false,(),(),()]) rfl λbR bs z bT=>⟨z,?_⟩
  have B:=oq ((aJ.ext f).ext z) ((aK.ext f).ext z) (R.1.ext z) (λq r=>fO (R.2.2 q r).2 z.size) (by have:=az.2;omega) sa sb aL aP I I;rw[←ac]at B;refine B.use ?_;rintro _ bU ⟨t,w,x,rfl,af,y⟩;have aV:=bs.ext y;refine⟨_,t,w,x,true,rfl,y,aV.cc rfl fC,rfl,cy aV (us:=dQ m t w x) rfl rfl λag ah S br=>⟨λd=>(by cases d),λ_=>?_⟩⟩;have W:Ext p.drew ag:=Ext.cu (z.trans y) S (bo _);have E:=f.trans W;have bt:=bz.ad af S λq r e=>by omega
  obtain⟨ai,aj,ak,al⟩:=bC ah;refine⟨_,ai,t,aj,w,ak,x,al,(v8 (h.ext E) av aw ax bt l.1 l.2.1 l.2.2).use ?_⟩;intro v w' F;obtain⟨s,e,rfl⟩:=F.out;rw[aQ];exact⟨s,e,rfl,aC s e w' (F.base E)⟩
theorem dt.leave{T:aM}{c c':dG}{E G:Nat->Prop}{w w':J}{no:Nat}(h:bO T (T.cf E G) w w' 0)(a:E=T.E)(b:∀q,T.G q->G q)(h1:c'.cb=c.cb)(d:c'.made=c.made)(e:c'.left=c.left++ [no]):dt T (T.cf E G) c c' [] [no] w w' 0:=
 ⟨h,a,b,rfl,rfl,h1,by rw[d,fQ],e,List.nodup_nil,λ_ h=>(by cases h),λno=>by simp[aM.cf],λ_ _=>⟨rfl,rfl⟩,by simp[cg,aM.cf]⟩
def yy(nb aD:Nat)(c up:aq ae)(n31 n36 n41 aH:Int)(b5:J)(Q:aa->J->Prop):Prop:=
 (((aH:Int) !=0)=true->Q (.tuple #[(),(0:Int),(0:Int),aH]) b5)/\(((aH:Int) !=0)=false->∃bt:ae,c=some bt/\∃am:U,b5.cell? (bt.add 2)=some (.slice am.a am.len am.cap)/\al (b5.alloc (.cells #[n41] 3)) λbO=>∃bu:U,∃an:J,Sem.run ai (Builtin.append_ #[58,58] 58 #[am,.slice (some b5.heap.size) 1 1]) bO=.ok bu an/\∃ao:ae,c=some ao/\(∃u:aa,an.cell? (ao.add 2)=some u)/\an.frozen? (ao.add 2)=false/\al (an.setCell (ao.add 2) bu) λbP=>al (bP.drew) λb=>∃l:Nat->Prop,¬l (aD:ae).block/\∃z:aj,b.cell? aD=some (.bool z)/\∃o:U,b.cell? (Addr.add aD 1)=some (.slice o.a o.len o.cap)/\∃p:U,b.cell? (Addr.add aD 2)=some (.slice p.a p.len p.cap)/\∃q:U,b.cell? (Addr.add aD 3)=some (.slice q.a q.len q.cap)/\¬l (nb:ae).block/\∃A:aj,b.cell? nb=some (.bool A)/\∃r:U,b.cell? (Addr.add nb 1)=some (.slice r.a r.len r.cap)/\∃s:U,b.cell? (Addr.add nb 2)=some (.slice s.a s.len s.cap)/\∃t:U,b.cell? (Addr.add nb 3)=some (.slice t.a t.len t.cap)/\(al (b.alloc (.cells #[false,(),(),()] 202)) λf=>ab l b f/\al (f.alloc (.cells #[false,(),(),()] 202)) λap=>ab l f ap/\bA ap b.heap.size [z,o,p,q]/\(4:Nat)=4/\al (setCells ap b.heap.size 0 [z,o,p,q]) λaI=>ab l ap aI/\bA aI f.heap.size [A,r,s,t]/\(4:Nat)=4/\al (setCells aI f.heap.size 0 [A,r,s,t]) λaJ=>bF (λbv:J->Prop=>∃bw:ae,up=some bw/\∃aK:Int,aJ.cell? (bw.add 5)=some (.int .i64 aK)/\((decide ((n36:Int)>aK))=true->al (aJ.drew) λh=>∃aL:Nat->Prop,¬aL (nb:ae).block/\∃aM:aj,h.cell? nb=some (.bool aM)/\∃B:U,h.cell? (Addr.add nb 1)=some (.slice B.a B.len B.cap)/\∃C:U,h.cell? (Addr.add nb 2)=some (.slice C.a C.len C.cap)/\∃D:U,h.cell? (Addr.add nb 3)=some (.slice D.a D.len D.cap)/\¬aL (aD:ae).block/\∃aN:aj,h.cell? aD=some (.bool aN)/\∃E:U,h.cell? (Addr.add aD 1)=some (.slice E.a E.len E.cap)/\∃F:U,h.cell? (Addr.add aD 2)=some (.slice F.a F.len F.cap)/\∃G:U,h.cell? (Addr.add aD 3)=some (.slice G.a G.len G.cap)/\bA h b.heap.size [aM,B,C,D]/\(4:Nat)=4/\al (setCells h b.heap.size 0 [aM,B,C,D]) λaO=>ab aL h aO/\bA aO f.heap.size [aN,E,F,G]/\(4:Nat)=4/\al (setCells aO f.heap.size 0 [aN,E,F,G]) λbQ=>bv bQ)/\((decide ((n36:Int)>aK))=false->bv aJ)) (λ(bR:J)=>al (bR.drew) λd=>∃m:Nat->Prop,¬m (b.heap.size:ae).block/\∃aP:aj,d.cell? b.heap.size=some (.bool aP)/\∃H:U,d.cell? (Addr.add b.heap.size 1)=some (.slice H.a H.len H.cap)/\∃I:U,d.cell? (Addr.add b.heap.size 2)=some (.slice I.a I.len I.cap)/\∃K:U,d.cell? (Addr.add b.heap.size 3)=some (.slice K.a K.len K.cap)/\∃aQ:ae,up=some aQ/\¬m ((aQ.add 1).add 1).block/\∃L:U,d.cell? ((aQ.add 1).add 1)=some (.slice L.a L.len L.cap)/\∃aR:ae,L.a=some aR/\((0:Int)<=n31/\n31<(L.len:Int))/\¬m (aR.add (Int.toNat n31*1)).block/\∃M:U,d.cell? (aR.add (Int.toNat n31*1))=some (.slice M.a M.len M.cap)/\¬m (f.heap.size:ae).block/\∃aS:aj,d.cell? f.heap.size=some (.bool aS)/\∃N:U,d.cell? (Addr.add f.heap.size 1)=some (.slice N.a N.len N.cap)/\∃O:U,d.cell? (Addr.add f.heap.size 2)=some (.slice O.a O.len O.cap)/\∃P:U,d.cell? (Addr.add f.heap.size 3)=some (.slice P.a P.len P.cap)/\(Calls ai 282 #[.agg #[aP,H,I,K],M,.agg #[aS,N,O,P]] d λbS j=>∃aT:aj,∃aU:U,∃aV:U,∃aW:U,∃aX:aj,bS=.returned (.tuple #[.agg #[aT,aU,aV,aW],aX])/\ab m d j/\al (j.alloc (.cells #[false,(),(),()] 202)) λaY=>ab m j aY/\bA aY j.heap.size [aT,aU,aV,aW]/\(4:Nat)=4/\al (setCells aY j.heap.size 0 [aT,aU,aV,aW]) λv=>((!aX)=true->Q (.tuple #[(),(0:Int),(0:Int),(4:Int)]) v)/\((!aX)=false->∃bx:aj,v.cell? j.heap.size=some (.bool bx)/\∃ar:U,v.cell? (Addr.add j.heap.size 1)=some (.slice ar.a ar.len ar.cap)/\∃au:U,v.cell? (Addr.add j.heap.size 2)=some (.slice au.a au.len au.cap)/\∃av:U,v.cell? (Addr.add j.heap.size 3)=some (.slice av.a av.len av.cap)/\Calls ai 281 #[.pointer c,.agg #[bx,ar,au,av]] v λbT bU=>∃bz:U,∃bB:Int,bT=.returned (.tuple #[bz,bB])/\Q (.tuple #[bz,n31,.int .i64 (IntKind.wrap .i64 (n31+2)),bB]) bU))/\(al (d.alloc (.cells #[false,(),(),()] 202)) λaZ=>ab m d aZ/\Calls ai 282 #[.agg #[aP,H,I,K],M,.agg #[aS,N,O,P]] aZ λbV a0=>∃a1:aj,∃a2:U,∃a3:U,∃a4:U,∃a5:aj,bV=.returned (.tuple #[.agg #[a1,a2,a3,a4],a5])/\ab m aZ a0/\bA a0 d.heap.size [a1,a2,a3,a4]/\(4:Nat)=4/\al (setCells a0 d.heap.size 0 [a1,a2,a3,a4]) λw=>((!a5)=true->Q (.tuple #[(),(0:Int),(0:Int),(4:Int)]) w)/\((!a5)=false->∃bC:aj,w.cell? d.heap.size=some (.bool bC)/\∃aw:U,w.cell? (Addr.add d.heap.size 1)=some (.slice aw.a aw.len aw.cap)/\∃ax:U,w.cell? (Addr.add d.heap.size 2)=some (.slice ax.a ax.len ax.cap)/\∃ay:U,w.cell? (Addr.add d.heap.size 3)=some (.slice ay.a ay.len ay.cap)/\Calls ai 281 #[.pointer c,.agg #[bC,aw,ax,ay]] w λbW bX=>∃bD:U,∃bE:Int,bW=.returned (.tuple #[bD,bE])/\Q (.tuple #[bD,n31,.int .i64 (IntKind.wrap .i64 (n31+2)),bE]) bX))))/\(al (b.alloc (.cells #[false,(),(),()] 202)) λg=>ab l b g/\al (g.alloc (.cells #[false,(),(),()] 202)) λaz=>ab l g az/\bA az g.heap.size [z,o,p,q]/\(4:Nat)=4/\al (setCells az g.heap.size 0 [z,o,p,q]) λa6=>ab l az a6/\bA a6 b.heap.size [A,r,s,t]/\(4:Nat)=4/\al (setCells a6 b.heap.size 0 [A,r,s,t]) λa7=>bF (λbG:J->Prop=>∃bH:ae,up=some bH/\∃a8:Int,a7.cell? (bH.add 5)=some (.int .i64 a8)/\((decide ((n36:Int)>a8))=true->al (a7.drew) λi=>∃a9:Nat->Prop,¬a9 (nb:ae).block/\∃a_:aj,i.cell? nb=some (.bool a_)/\∃R:U,i.cell? (Addr.add nb 1)=some (.slice R.a R.len R.cap)/\∃S:U,i.cell? (Addr.add nb 2)=some (.slice S.a S.len S.cap)/\∃T:U,i.cell? (Addr.add nb 3)=some (.slice T.a T.len T.cap)/\¬a9 (aD:ae).block/\∃ba:aj,i.cell? aD=some (.bool ba)/\∃V:U,i.cell? (Addr.add aD 1)=some (.slice V.a V.len V.cap)/\∃W:U,i.cell? (Addr.add aD 2)=some (.slice W.a W.len W.cap)/\∃X:U,i.cell? (Addr.add aD 3)=some (.slice X.a X.len X.cap)/\bA i g.heap.size [a_,R,S,T]/\(4:Nat)=4/\al (setCells i g.heap.size 0 [a_,R,S,T]) λbb=>ab a9 i bb/\bA bb b.heap.size [ba,V,W,X]/\(4:Nat)=4/\al (setCells bb b.heap.size 0 [ba,V,W,X]) λbY=>bG bY)/\((decide ((n36:Int)>a8))=false->bG a7)) (λ(bZ:J)=>al (bZ.drew) λe=>∃n:Nat->Prop,¬n (g.heap.size:ae).block/\∃bc:aj,e.cell? g.heap.size=some (.bool bc)/\∃Y:U,e.cell? (Addr.add g.heap.size 1)=some (.slice Y.a Y.len Y.cap)/\∃Z:U,e.cell? (Addr.add g.heap.size 2)=some (.slice Z.a Z.len Z.cap)/\∃ac:U,e.cell? (Addr.add g.heap.size 3)=some (.slice ac.a ac.len ac.cap)/\∃bd:ae,up=some bd/\¬n ((bd.add 1).add 1).block/\∃ad:U,e.cell? ((bd.add 1).add 1)=some (.slice ad.a ad.len ad.cap)/\∃be:ae,ad.a=some be/\((0:Int)<=n31/\n31<(ad.len:Int))/\¬n (be.add (Int.toNat n31*1)).block/\∃af:U,e.cell? (be.add (Int.toNat n31*1))=some (.slice af.a af.len af.cap)/\¬n (b.heap.size:ae).block/\∃bf:aj,e.cell? b.heap.size=some (.bool bf)/\∃ag:U,e.cell? (Addr.add b.heap.size 1)=some (.slice ag.a ag.len ag.cap)/\∃ah:U,e.cell? (Addr.add b.heap.size 2)=some (.slice ah.a ah.len ah.cap)/\∃ak:U,e.cell? (Addr.add b.heap.size 3)=some (.slice ak.a ak.len ak.cap)/\(Calls ai 282 #[.agg #[bc,Y,Z,ac],af,.agg #[bf,ag,ah,ak]] e λb0 k=>∃bg:aj,∃bh:U,∃bi:U,∃bj:U,∃bk:aj,b0=.returned (.tuple #[.agg #[bg,bh,bi,bj],bk])/\ab n e k/\al (k.alloc (.cells #[false,(),(),()] 202)) λbl=>ab n k bl/\bA bl k.heap.size [bg,bh,bi,bj]/\(4:Nat)=4/\al (setCells bl k.heap.size 0 [bg,bh,bi,bj]) λx=>((!bk)=true->Q (.tuple #[(),(0:Int),(0:Int),(4:Int)]) x)/\((!bk)=false->∃bI:aj,x.cell? k.heap.size=some (.bool bI)/\∃aA:U,x.cell? (Addr.add k.heap.size 1)=some (.slice aA.a aA.len aA.cap)/\∃aB:U,x.cell? (Addr.add k.heap.size 2)=some (.slice aB.a aB.len aB.cap)/\∃aC:U,x.cell? (Addr.add k.heap.size 3)=some (.slice aC.a aC.len aC.cap)/\Calls ai 281 #[.pointer c,.agg #[bI,aA,aB,aC]] x λb1 b2=>∃bJ:U,∃bK:Int,b1=.returned (.tuple #[bJ,bK])/\Q (.tuple #[bJ,n31,.int .i64 (IntKind.wrap .i64 (n31+2)),bK]) b2))/\(al (e.alloc (.cells #[false,(),(),()] 202)) λbm=>ab n e bm/\Calls ai 282 #[.agg #[bc,Y,Z,ac],af,.agg #[bf,ag,ah,ak]] bm λb3 bn=>∃bo:aj,∃bp:U,∃bq:U,∃br:U,∃bs:aj,b3=.returned (.tuple #[.agg #[bo,bp,bq,br],bs])/\ab n bm bn/\bA bn e.heap.size [bo,bp,bq,br]/\(4:Nat)=4/\al (setCells bn e.heap.size 0 [bo,bp,bq,br]) λy=>((!bs)=true->Q (.tuple #[(),(0:Int),(0:Int),(4:Int)]) y)/\((!bs)=false->∃bL:aj,y.cell? e.heap.size=some (.bool bL)/\∃aE:U,y.cell? (Addr.add e.heap.size 1)=some (.slice aE.a aE.len aE.cap)/\∃aF:U,y.cell? (Addr.add e.heap.size 2)=some (.slice aF.a aF.len aF.cap)/\∃aG:U,y.cell? (Addr.add e.heap.size 3)=some (.slice aG.a aG.len aG.cap)/\Calls ai 281 #[.pointer c,.agg #[bL,aE,aF,aG]] y λb4 b6=>∃bM:U,∃bN:Int,b4=.returned (.tuple #[bM,bN])/\Q (.tuple #[bM,n31,.int .i64 (IntKind.wrap .i64 (n31+2)),bN]) b6)))))
theorem GZ{w:J}{T:aM}{c:dG}{nb aD:Nat}{A:ae}{u:dD}{n o:aB}{K V D g i j:U}{fr other no:Nat}{Q:aa->J->Prop}(h:dr w T c)(ap:Var w nb (dQ n K V D) 202)(aq:Var w aD (dQ o g i j) 202)
 (ar:¬T.M nb) (av:¬T.M aD) (ax:bz (λq=>¬T.M q) w n K V D) (ay:bz (λq=>¬T.M q) w o g i j) (hu:lO (λq=>¬T.M q) w A u)
 (aC:T.C.D.aN<=900000090) (aE:2<=cg T) (aF:c.made.length<=900) (bi:c.left.length<=900) (gi:cF n) (aG:cF o) (aH:bI n<=400) (aI:bI o<=400) (aJ:o.leaf=n.leaf) (aK:fr<u.n.keys.length) (aL:cB u.n.keys[fr]) (m:aB) (z:m=if u.cT<other then dU n u.n.keys[fr] o else dU o u.n.keys[fr] n) (aO:lN m) (aP:fr<=1000)
 (aQ:∀ (s:U) (e:Int) (bL:aM) (aA:dG) (w1 w':J),dt T bL c aA [] [no] w w1 0->h7 bL aA m w1 (.tuple #[s,e]) w'->Q (.tuple #[s,fr,.int .i64 ((fr+2:Nat):Int),e]) w'):
 yy nb aD (some c.cb) (some A) (fr:Nat) (other:Nat) (no:Nat) 0 w Q:=by
 unfold yy;refine⟨λB=>(by cases B),λ_=>⟨_,rfl,_,h.cells.2.2,?_⟩⟩;obtain⟨k,ai,au,bj,aR,aT,aU⟩:=B2 h no I;refine aS ⟨k,ai,au,_,rfl,by rw[aw];exact aR,by rw[aw];exact aT,aS ?_⟩;rw[aw];obtain⟨b,aj⟩:∃b,b=ai.setCell ⟨c.cb,0+2,none⟩ k:=⟨_,rfl⟩;rw[←aj];obtain⟨ak,al⟩:=aU b aj;have am:=dt.leave (c:=c) (c':={c with gC:=k,left:=c.left++ [no]}) (no:=no) al rfl (λq F=>.inl F) rfl rfl rfl;obtain⟨bL,x⟩:∃bL,bL=T.cf T.E λq=>T.G q\/az k q:=⟨_,rfl⟩;obtain⟨aA,H⟩:∃aA:dG,aA={c with gC:=k,left:=c.left++ [no]}:=⟨_,rfl⟩;have aV:aA.cb=c.cb:=by rw[H]
 have aW:aA.made=c.made:=by rw[H]
 have aX:bL.C.D.aN<=900000090:=by rw[x];exact aC
 have aY:2<=cg bL:=by rw[x];exact aE
 rw[←x,←H]at ak am;rw[←x]at al;have L:Ext b b.drew:=b6 _;have an:=ak.ext L;have O:dt T bL c aA [] [no] w b.drew 0:=am.trans (dt.ext bL aA L);obtain⟨a,aZ⟩:∃a,a=b.drew:=⟨_,rfl⟩;rw[←aZ]at L an O⊢;have y:=O.to;have P:∀q,¬T.M q->¬T.N q:=λq h1 R=>h1 (aM.gh R);have S:=ap.ad y.ad (P _ ar);have W:=aq.ad y.ad (P _ av);have ao:∀ {m:aB}{K V D:U},bz (λq=>¬T.M q) w m K V D->bz (λq=>¬T.M q) a m K V D:=λz=>bz.ad z y.ad λq F=>P q F;have a0:=ao ax;have a1:=ao ay;have a2:=hu.to y;obtain⟨a3,bS,bp,a4⟩:=bC S;obtain⟨a5,a6,a7,a8⟩:=bC W;have bk:=S.lt;have bl:=W.lt;have fin:∀ (b5:J) (l bv:Nat),Ext a b5->Var b5 l (dQ o g i j) 202->Var b5 bv (dQ n K V D) 202->a.heap.size<=l->a.heap.size<=bv->l≠bv->yx nb aD l bv (some c.cb) (some A) (fr:Nat) (other:Nat) b5 Q:=by
  intro b5 l bv hx a9 B h1 R a_;have:=GY an hx S W a9 B h1 R a_ a0 a1 a2 aX aY (by rw[aW];exact aF) gi aG aH aI aJ aK aL m z aO aP (Q:=Q) λs e w' hf=>aQ s e bL aA a w' O hf;rw[aV]at this;exact this
 refine aS ⟨λq=>a.heap.size<=q,(show¬a.heap.size<=aD from I),_,a5,g,a6,i,a7,j,a8,(show¬a.heap.size<=nb from I),_,a3,K,bS,V,bp,D,a4,?_,?_⟩
 .refine bh (vs:=[false,(),(),()]) rfl λX ba p bb=>⟨ab.cK p,bh (vs:=[false,(),(),()]) rfl λbc Y d bd=>?_⟩
  have r:=ba.ext d;refine⟨ab.cK d,r.cc rfl fC,rfl,cy r (us:=dQ o g i j) rfl rfl λZ ac f be=>?_⟩;have t:=Y.ad f I;have af:Ext a Z:=Ext.cu (p.trans d) f (bo _);refine⟨f.mono λq _ e=>I,t.cc rfl fC,rfl,cy t (us:=dQ n K V D) rfl rfl λag ah v bf=>?_⟩;exact fin ag a.heap.size X.heap.size (Ext.cu af v I) (ac.ad v I) ah (bo _) I I
 .refine bh (vs:=[false,(),(),()]) rfl λX bg p bb=>⟨ab.cK p,bh (vs:=[false,(),(),()]) rfl λbc r d bd=>?_⟩
  have Y:=bg.ext d;refine⟨ab.cK d,r.cc rfl fC,rfl,cy r (us:=dQ o g i j) rfl rfl λZ ac f be=>?_⟩;have t:=Y.ad f I;have af:Ext a Z:=Ext.cu (p.trans d) f I;refine⟨f.mono λq _ e=>I,t.cc rfl fC,rfl,cy t (us:=dQ n K V D) rfl rfl λag ah v bf=>?_⟩;exact fin ag X.heap.size a.heap.size (Ext.cu af v (bo _)) (ac.ad v I) ah I (bo _) I
theorem bO.read{w w':J}{T:aM}{E:Nat->Prop}{aE:b1}{P:Nat->aq aB}{k:Nat}(h:bO (T.cf E λ_=>False) ((T.cf E λ_=>False).bk aE P) w w' k)(f:∀q,T.E q\/T.G q->E q)(i:∀q,E q->T.E q\/T.G q\/w.heap.size<=q):bO T (T.bk aE P) w w' k:=by
 refine⟨h.aY,h.sb,h.n,h.g,h.s1,h.s2,h.c,h.d,h.aZ,h.gen,h.aN,h.calm,h.ad.mono λq _ a=>?_,λq a=>?_,λq a=>?_⟩
 .rcases a with a|a|a|a
  .exact .inl a
  .exact .inr (.inl a)
  .exact .inr (.inr (.inl a))
  .exact a.elim
 .have h1:((T.cf E λ_=>False).bk aE P).M q:=by
   rcases a with a|a|a|a
   .exact .inl a
   .exact .inr (.inl a)
   .exact .inr (.inr (.inl a))
   .exact .inr (.inr (.inr (.inl (f q a))))
  rcases h.c4 q h1 with b|b
  .rcases b with a|a|a|a|a
   .exact .inl (.inl a)
   .exact .inl (.inr (.inl a))
   .exact .inl (.inr (.inr (.inl a)))
   .rcases i q a with e|e|e
    .exact .inl (.inr (.inr (.inr (.inl e))))
    .exact .inl (.inr (.inr (.inr (.inr e))))
    .exact .inr e
   .exact a.elim
  .exact .inr b
 .rcases a with a|a|a|a
  .rcases h.fn q (.inl a) with b|b
   .rcases b with b|b|b|b
    .exact .inl (.inl b)
    .exact .inl (.inr (.inl b))
    .exact .inl (.inr (.inr (.inl b)))
    .exact b.elim
   .exact .inr b
  .exact .inl (.inr (.inl a))
  .exact .inl (.inr (.inr (.inl a)))
  .exact .inl (.inr (.inr (.inr a)))
theorem dt.cache{T:aM}{c:dG}{aE:b1}{w w':J}{k:Nat}(h:bO T (T.bk aE T.P) w w' k)(a:∀j,aE.view j=T.C.view j):dt T (T.bk aE T.P) c c [] [] w w' k:=
 ⟨h,rfl,λ_ h=>h,rfl,rfl,rfl,by simp,by simp,List.nodup_nil,λ_ h=>(by cases h),λno=>by simp[aM.bk],λno _=>⟨rfl,a no⟩,by simp[cg,aM.bk]⟩
theorem B9{w w1:J}{T:aM}{c:dG}{Z:Nat->Prop}{no:Nat}{o:aB}(h:dr w T c)(hx:Ext w w1)(g:∀q,Z q->w.heap.size<=q/\q<w1.heap.size)(y:T.C.D.aN<=999999999)(z:T.P no=some o):
 aP ai 196 #[.pointer (some T.aY),no,o.leaf] w1 (λv w'=>∃aE:b1,(∀j,aE.view j=T.C.view j)/\ab (λq=>T.N q/\¬T.G q) w1 w'/\(∀q,(T.bk aE T.P).M q->T.M q\/w1.heap.size<=q)/\
  (∀f,ab Z w' f->dr f (T.bk aE T.P) c/\dt T (T.bk aE T.P) c c [] [] w f 2)/\
  ((∃ (K V D:U),v=.tuple #[cX o K V D,(0:Int)]/\bz (λq=>w1.heap.size<=q/\¬(T.bk aE T.P).M q) w' o K V D)\/(v=.tuple #[cX g8 bg bg bg,(3:Int)]/\¬T.C.D.calm 2))):=by
 obtain⟨A,i⟩:=h.t.ep no o z;obtain⟨bV,k⟩:∃bV,bV=λq=>T.E q\/T.G q\/Z q:=⟨_,rfl⟩;have d:∀q,T.E q\/T.G q\/Z q->bV q:=λq a=>by rw[k];exact a
 have l:∀q,bV q->T.E q\/T.G q\/Z q:=λq a=>by rw[k]at a;exact a
 have m:bM w1 (T.cf bV λ_=>False):=h.t.grow (W:=λ_=>False) hx (λ_ h=>h.elim) (λq a=>(l q a).imp id (Or.imp id (g q))) (λ_ h=>h.elim) λ_ _ h=>h;have n:∀q,(T.cf bV λ_=>False).N q->T.N q/\¬T.G q:=λq a=>⟨by
  rcases a with a|a|a|a
  .exact .inl a
  .exact .inr (.inl a)
  .exact .inr (.inr (.inl a))
  .exact a.elim,λhg=>m.jd (d q (.inr (.inl hg))) a⟩
 refine(yp m y A i.two o.leaf).mono ?_;rintro v w' ⟨aE,B,ht,r,F⟩;have Q:=hx.size;have R:=ht.ad.size;have s:=(bO.ext (T.cf bV λ_=>False) hx).trans ht;rw[cA]at s;have H:bO T (T.bk aE T.P) w w' 2:=bO.read (E:=bV) s (λq a=>d q (a.imp id .inl)) λq a=>(l q a).imp id (Or.imp id λh=>(g q h).1);have u:ab (λq=>T.N q/\¬T.G q) w1 w':=ht.ad.mono λq _ a=>n q a;refine⟨aE,r,u,λq a=>?_,λf hc=>?_,?_⟩
 .rcases a with a|a
  .exact(ht.fn q (.inl a)).imp (λh=>aM.gh (n q h).1) id
  .exact .inl (.inr a)
 .have I:bM f (T.bk aE T.P):=B.grow (E:=T.E) (G:=T.G) hc (λq a _=>.inl (d q (.inr (.inr a)))) (λq a=>.inl (d q (.inl a))) (λq a=>.inl (d q (.inr (.inl a)))) λq a=>(h.t.c7 q a).2.2
  refine⟨(h.ext hx).of (W:=λq=>(T.N q/\¬T.G q)\/Z q) I ((u.mono λq _ a=>.inl a).trans (hc.mono λq _ a=>.inr a)) (λq hg a=>?_) rfl (λ_ h=>h) ht.bK.1,dt.cache ?_ r⟩
  .rcases a with a|a
   .exact a.2 hg
   .have:=h.t.lt (q:=q) (.inr (.inr (.inr (.inr hg))))
    have:=(g q a).1;omega
  .exact H.step (E:=T.E) (G:=T.G) hc (λq a S=>by have:=(g q a).1;omega) (λq a=>.inl a) λq a=>.inl a
 .rcases F with ⟨bp,K,V,D,rfl,L,c6⟩|⟨e,rfl,O,X⟩
  .obtain rfl:=gK.uniq i L
   refine .inl ⟨K,V,D,rfl,c6.aW λq a x=>⟨x.1,λb=>x.2 ?_⟩⟩;rcases b with b|b|b|b|b
   .exact .inl b
   .exact .inr (.inl b)
   .exact .inr (.inr (.inl b))
   .exact .inr (.inr (.inr (.inl (d q (.inl b)))))
   .exact .inr (.inr (.inr (.inl (d q (.inr (.inl b))))))
  .refine .inr ?_
   rcases O with ⟨rfl,h1⟩|h1|⟨_,_,h1⟩
   .exact⟨rfl,h1⟩
   .obtain⟨p,au,_⟩:=i
    have h1:da (no:Int) (T.C.view no)=.error e:=h1;rw[au]at h1;cases h1
   .exact absurd i (h1 o)
def jP(u:dD):Nat:=if u.cT=0 then 1 else u.cT-1
def lP(u:dD)(n o:aB):aB:=if u.cT<jP u then dU n (u.n.keys.getD (u.cT-1) []) o else dU o (u.n.keys.getD (u.cT-1) []) n
def yz(T:aM)(c:dG)(n:aB)(u:dD)(w:J)(v:aa)(w':J):Prop:=
 (80<=bI n/\∃ (s:U) (e:Int),v=.tuple #[s,u.cT,.int .i64 ((u.cT+1:Nat):Int),e]/\h7 T c n w (.tuple #[s,e]) w')\/
 (bI n<80/\∃ (bL:aM) (aA:dG),v=.tuple #[(),(0:Int),(0:Int),(3:Int)]/\dr w' bL aA/\dt T bL c aA [] [] w w' 2/\¬T.C.D.calm 2)\/
 (bI n<80/\∃ (o:aB) (no:Nat) (bL:aM) (aA:dG) (w1:J) (s:U) (e:Int),u.n.kids[jP u]? =some no/\T.P no=some o/\dt T bL c aA [] [no] w w1 2/\
   v=.tuple #[s,.int .i64 ((u.cT-1:Nat):Int),.int .i64 ((u.cT-1+2:Nat):Int),e]/\h7 bL aA (lP u n o) w1 (.tuple #[s,e]) w')
theorem G0{B:Nat->Prop}{w:J}{T:aM}{c:dG}{n:aB}{K V D:U}(h:dr w T c)(j:bz B w n K V D)(d:lN n)(o:T.C.D.aN<=900000080)(k:2<=cg T)(l:c.made.length<=900):
 aP ai 248 #[.pointer (some c.cb),cX n K V D,.pointer none] w (λv w'=>∃ (s:U) (e:Int),v=.tuple #[s,(0:Int),(0:Int),e]/\h7 T c n w (.tuple #[s,e]) w'):=by
 refine okF (af.oh (some c.cb) n.leaf K V D none) ay.oh func248 ?_;(delta af.oh ak bc Y ag aA r1 av b8 aI g6 cp tI st bZ rz iG tD;dsimp only);refine bh (vs:=dQ n K V D) rfl λw1 m f p=>?_;refine cm (λb w'=>b=true/\w1=w') (λq g=>⟨λ_=>g _ _ ⟨rfl,rfl⟩,λh=>(by cases h)⟩) ?_;rintro _ _ ⟨rfl,rfl⟩;refine⟨λ_=>td (λa b w'=>a=0/\b=0/\w1=w') (λq g=>⟨λh=>(by cases h),λ_=>g _ _ _ ⟨rfl,rfl,rfl⟩⟩) ?_,λh=>(by cases h)⟩;rintro _ _ _ ⟨rfl,rfl,rfl⟩;obtain⟨bU,aA,aR,aK⟩:=bC m;refine⟨_,bU,K,aA,V,aR,D,aK,(v8 (h.ext f) I k l (j.ext f) d.1 d.2.1 d.2.2).use ?_⟩;intro v w' i;obtain⟨s,e,rfl⟩:=i.out;exact⟨s,e,rfl,s,e,rfl,i.base f⟩
theorem G1{w:J}{T:aM}{c:dG}{n:aB}{K V D:U}{A:ae}{u:dD}(h:dr w T c)(aq:bz (λq=>¬T.M q) w n K V D)(hu:lO (λq=>¬T.M q) w A u)(gi:cF n)(a4:bI n<=400)(ar:80<=bI n->lN n)
 (a5:bI n<80->∃ (o:aB) (no:Nat),u.n.kids[jP u]? =some no/\T.P no=some o/\o.leaf=n.leaf/\u.cT-1<u.n.keys.length/\cB (u.n.keys.getD (u.cT-1) [])/\lN (lP u n o)) (bF:u.cT<=900)
 (bG:T.C.D.aN<=900000080) (aT:2<=cg T) (aU:c.made.length<=900) (a6:c.left.length<=900):
 aP ai 248 #[.pointer (some c.cb),cX n K V D,.pointer (some A)] w (yz T c n u w):=by
 have bH:=gi.eQ I;refine okF (af.oh (some c.cb) n.leaf K V D (some A)) ay.oh func248 ?_;(delta af.oh ak bc Y ag aA r1 av b8 aI g6 cp tI st bZ rz iG tD;dsimp only);refine bh (vs:=dQ n K V D) rfl λw1 aa aV bJ=>?_;obtain⟨nb,a7⟩:∃nb,nb=w.heap.size:=⟨_,rfl⟩;rw[←a7]at aa⊢;refine cm (λb w'=>b=decide (80<=bI n)/\Ext w1 w') (λq f=>⟨λh=>(by cases h),λ_=>?_⟩) ?_
 .obtain⟨bU,aA,aR,aK⟩:=bC aa
  refine⟨_,bU,K,aA,V,aR,D,aK,(oo (aq.ext aV) gi I).use ?_⟩;rintro _ bK ⟨rfl,a8⟩;refine⟨_,rfl,f _ _ ⟨?_,a8⟩⟩;rw[fW,cS,cS];omega
 rintro _ p ⟨rfl,ac⟩;have ah:=aV.trans ac;refine⟨λg=>?_,λg=>?_⟩
 .have g:=b2 g
  have L:=ar g;refine td (λa b w'=>a=(u.cT:Nat)/\b=((u.cT+1:Nat):Int)/\Ext p w') (λq f=>⟨λ_=>?_,λh=>(by cases h)⟩) ?_
  .have y:Ext p p.drew:=b6 _
   have aX:=hu.ext (ah.trans y);refine aS ⟨A,rfl,id,_,aX.ba,A,rfl,id,_,aX.ba,f _ _ _ ⟨rfl,?_,y⟩⟩;rw[bu I I];rfl
  rintro _ _ bM ⟨rfl,rfl,aY⟩;have r:=ah.trans aY;obtain⟨bU,aA,aR,aK⟩:=bC (aa.ext (ac.trans aY));refine⟨_,bU,K,aA,V,aR,D,aK,(v8 (h.ext r) I aT aU (aq.ext r) L.1 L.2.1 L.2.2).use ?_⟩;intro v w' aj;obtain⟨s,e,rfl⟩:=aj.out;exact⟨s,e,rfl,.inl ⟨g,s,e,rfl,aj.base r⟩⟩
 .have g:¬80<=bI n:=cr g
  obtain⟨o,no,au,al,aw,aZ,a9,L⟩:=a5 I;obtain⟨bN,a_⟩:=h.t.ep no o al;obtain⟨_,bb,bO⟩:=a_.is;have am:=hu.ext ah;refine⟨A,rfl,_,am.ba,((u.cT-1:Nat):Int),p,?_,?_⟩
  .rw[run_max_int2]
   congr 2
   by_cases h0:u.cT=0
   .rw[h0];rfl
   .rw[bu I I,if_neg I];omega
  refine cm (λa w'=>a=(jP u:Nat)/\p=w') (λq f=>⟨A,rfl,_,am.ba,λh0=>f _ _ ⟨?_,rfl⟩,λh0=>f _ _ ⟨?_,rfl⟩⟩) ?_
  .have:u.cT=0:=by simpa using h0
   unfold jP;rw[if_pos this];rfl
  .have:u.cT≠0:=by simpa using h0
   unfold jP;rw[if_neg this]
  rintro _ _ ⟨rfl,rfl⟩;have bd:jP u<u.n.kids.length:=(ib.1 au).1;obtain⟨AU,be,bf,a0⟩:=cI.at am.bm.kids bd;have bi:u.n.kids[jP u]=no:=(ib.1 au).2;rw[bi]at a0;refine⟨A,rfl,u.D,am.de,AU,be,bf,_,a0,aS ?_⟩;have y:Ext p p.drew:=b6 _;obtain⟨z,bj⟩:∃z,z=p.drew:=⟨_,rfl⟩;rw[←bj]at y⊢;have r:=ah.trans y;have ax:=h.ext r;have bP:=r.size;have bQ:=(ac.trans y).size;have az:=aa.ext (ac.trans y);have aC:∀q,T.M q->q<w.heap.size:=λq f=>h.t.lt f;have a1:u.n.keys.getD (u.cT-1) []=u.n.keys[u.cT-1]:=by rw[eX,c_ aZ];rfl
  have fin:∀ (aE:b1) (aD:Nat) (i k l:U) (d:J),dr d (T.bk aE T.P) c->dt T (T.bk aE T.P) c c [] [] z d 2->Var d nb (dQ n K V D) 202->Var d aD (dQ o i k l) 202->z.heap.size<=aD->¬(T.bk aE T.P).M aD->bz (λq=>¬(T.bk aE T.P).M q) d o i k l->
   yy nb aD (some c.cb) (some A) ((u.cT-1:Nat):Int) (jP u:Nat) (no:Nat) 0 d (λv w'=>yz T c n u w v w'):=by
   intro aE aD i k l d B an bl bn bR bp bq;have a2:=((dt.ext T c r).trans an).mono (j:=2) I;have aF:=a2.to;have br:¬(T.bk aE T.P).M nb:=λO=>by
    rcases an.to.c4 nb O with h1|h1
    .have:=aC _ h1;omega
    .omega
   have bs:bz (λq=>¬(T.bk aE T.P).M q) d n K V D:=(aF.bm (lo:=0) (aq.aW λq _ g=>⟨cE _,g⟩)).aW λq _ g=>g.2;have bt:(T.bk aE T.P).C.D.aN<=900000090:=ey aF.aN I;refine GZ B bl bn br bp bs bq (hu.to aF) bt aT aU a6 gi bb a4 I aw aZ (by rw[←a1];exact a9) (lP u n o) (by unfold lP;rw[a1]) L I ?_;intro s e bL aA bv w' bw hf;exact .inr (.inr ⟨I,o,no,bL,aA,bv,s,e,au,al,(a2.trans bw).mono I,rfl,hf⟩)
  have ao:∀q,T.N q->q<w.heap.size:=λq f=>aC q (aM.gh f);have err:∀ (aE:b1) (d:J),dr d (T.bk aE T.P) c->dt T (T.bk aE T.P) c c [] [] z d 2->¬T.C.D.calm 2->yz T c n u w (.tuple #[(),(0:Int),(0:Int),(3:Int)]) d:=by
   intro aE d B an Q;exact .inr (.inl ⟨I,_,c,rfl,B,((dt.ext T c r).trans an).mono I,Q⟩)
  obtain⟨bU,aA,aR,aK⟩:=bC az;refine⟨λq=>T.N q/\¬T.G q,_,rfl,λf=>f.2 h.gc,_,ax.cells.1,(λf=>by have:=ao _ f.1;show False;exact absurd this (by show¬nb<w.heap.size;omega)),_,bU,?_,?_⟩
  .rw[←aw]
   refine(B9 (Z:=λ_=>False) ax (ab.refl _ _) (λ_ h=>h.elim) I al).use ?_;rintro _ F ⟨aE,aj,x,a3,R,aG⟩;have bx:=x.size;rcases aG with ⟨i,k,l,rfl,aH⟩|⟨rfl,Q⟩
   .refine⟨_,i,k,l,0,rfl,x,bh (vs:=[false,(),(),()]) rfl λbA S W bB=>⟨ab.cK W,S.cc rfl fC,rfl,cy S (us:=dQ o i k l) rfl rfl λd X m aJ=>?_⟩⟩
    have E:Ext F d:=Ext.cu W m (bo _);obtain⟨ap,aL⟩:=R F (ab.refl _ _);have H:=az.ad x λf=>by have:=ao _ f.1;omega
    refine fin aE F.heap.size i k l d (ap.ext E) ((aL.trans (dt.ext _ _ E)).mono I) (H.ext E) X I (λO=>by have:=ap.t.lt O;omega) ?_;exact(aH.ext E).aW λq _ g=>g.2
   .refine⟨_,bg,bg,bg,3,rfl,x,bh (vs:=[false,(),(),()]) rfl λbA S W bB=>⟨ab.cK W,S.cc rfl fC,rfl,cy S (us:=dQ g8 bg bg bg) rfl rfl λd X m aJ=>⟨λ_=>?_,λg=>(by cases g)⟩⟩⟩
    have E:Ext F d:=Ext.cu W m (bo _);obtain⟨ap,aL⟩:=R F (ab.refl _ _);exact err aE d (ap.ext E) ((aL.trans (dt.ext _ _ E)).mono I) Q
  .refine bh (vs:=[false,(),(),()]) rfl λbS bD aO bT=>⟨ab.cK aO,?_⟩
   rw[←aw];refine(B9 (Z:=λq=>q=z.heap.size) ax aO (λq e=>⟨I,I⟩) I al).use ?_;rintro _ F ⟨aE,aj,x,a3,R,aG⟩;have bx:=x.size;have H:=bD.ad x λf=>by have:=ao _ f.1;omega
   have bE:=(az.ext aO).ad x λf=>by have:=ao _ f.1;omega
   rcases aG with ⟨i,k,l,rfl,aH⟩|⟨rfl,Q⟩
   .refine⟨_,i,k,l,0,rfl,H.cc rfl fC,rfl,cy H (us:=dQ o i k l) rfl rfl λd X m aJ=>?_⟩
    obtain⟨B,aQ⟩:=R d m;refine fin aE z.heap.size i k l d B aQ (bE.ad m I) X (bo _) (λO=>?_) ?_
    .rcases a3 _ O with h1|h1
     .have:=aC _ h1;omega
     .omega
    .refine(bz.ad aH m λq f e=>by have:=f.1;omega).aW λq _ g=>g.2
   .refine⟨_,bg,bg,bg,3,rfl,H.cc rfl fC,rfl,cy H (us:=dQ g8 bg bg bg) rfl rfl λd X m aJ=>⟨λ_=>?_,λg=>(by cases g)⟩⟩
    obtain⟨B,aQ⟩:=R d m;exact err aE d B aQ Q
structure yA(T ao:aM)(l:O Nat)(w w':J):Prop where
 to:bO T ao w w' 0
 E:ao.E=T.E
 G:ao.G=T.G
 root:ao.root=T.root
 aG:ao.aG=T.aG
 f:∀no,ao.f no=(T.f no&& !decide (no∈l))
 eG:∀no,(no∉l\/T.g no=true)->ao.P no=T.P no/\ao.C.view no=T.C.view no
theorem B_{w:J}{T:aM}{c:dG}{s:U}{l:O Nat}(h:dr w T c)(hs:Src 1 w s (dW l))(B:∀q,az s q->T.G q)(R:∀x∈l,T.f x=true)(c6:l.Nodup)(al:l.length<=10000):
 aP ai 207 #[.pointer (some c.cb),s] w (λv w'=>v=.tuple #[]/\∃ao:aM,dr w' ao c/\yA T ao l w w'):=by
 have am:s.len=l.length:=by have:=hs.len;rw[nk]at this;omega
 refine okF (af.uX (some c.cb) s) ay.uX func207 ?_;(delta af.uX ak aI r1 aK aA av;dsimp only);refine⟨λi w'=>∃ (j:Nat) (ao:aM),i=j/\j<=l.length/\dr w' ao c/\yA T ao (l.take j) w w'/\Src 1 w' s (dW l),λi _=>((l.length:Int)-i).toNat,⟨0,T,rfl,cE _,h,⟨.refl _ _,rfl,rfl,rfl,rfl,λno=>by simp,λ_ _=>⟨rfl,rfl⟩⟩,hs⟩,?_⟩;rintro _ an ⟨j,bL,rfl,ap,h1,hg,C⟩;refine⟨λaH=>?_,λr=>?_⟩
 .have aH:j<l.length:=by
   have:(j:Int)<(s.len:Int):=b2 aH;omega
  have D:bL.f l[j]=true:=by
   rw[hg.f,R _ (cw aH)];have:l[j]∉l.take j:=λS=>by
    obtain⟨i,hi,he⟩:=eY S;rw[cv]at hi;rw[mO]at he;have:=(List.getElem_inj c6).1 he;omega
   simp[this]
  have aq:l[j]<bL.n:=by
   rcases dH l[j] bL.n with a|a
   .exact a
   .have:=h1.t.s.pf _ a
    rw[D]at this;cases this
  obtain⟨A,ar,V,hc⟩:=C.at (i:=j) (v:=.int .i64 ((l[j]:Nat):Int)) (by simp[dW,aH]);refine hL (λw'=>∃bZ:aM,dr w' bZ c/\yA T bZ (l.take (j+1)) w w'/\Src 1 w' s (dW l)) (λq d=>⟨A,ar,V,_,hc,_,rfl,_,h1.cells.1,_,rfl,_,h1.t.cells.2.1,(Gw h1.t.s _).use ?_⟩) ?_
  .rintro _ _ ⟨rfl,rfl⟩
   refine⟨_,rfl,_,rfl,_,h1.cells.1,_,rfl,_,h1.t.cells.2.1,(BS h1.t.s _).use ?_⟩;rintro _ F ⟨rfl,fR,u⟩;have W:nt bL.f bL.n ((l[j]:Nat):Int)=dh bL.f l[j] false:=by
    unfold nt;rw[if_pos ⟨I,I⟩,c8]
   rw[W]at fR;obtain⟨X,H⟩:=h1.t.vZ fR u;have k:dr F (bL.iO (dh bL.f l[j] false)) c:=h1.of X u (λq d hf=>(h1.t.h5 q d).2 hf) rfl λ_ h=>h;have K:Src 1 F s (dW l):=C.ad u λq d hf=>(h1.t.h5 q (by rw[hg.G];exact B q d)).2 hf;have Y:(decide ((0:Int)<=((l[j]:Nat):Int))&&decide (((l[j]:Nat):Int)<(bL.n:Nat))&&bL.f (Int.toNat ((l[j]:Nat):Int))&& !(bL.g (Int.toNat ((l[j]:Nat):Int))))= !(bL.g l[j]):=by
    rw[c8,D,dw I,dw I];simp
   have L:∀no,dh bL.f l[j] false no=(T.f no&& !decide (no∈l.take (j+1))):=λno=>by
    rw[iy aH];unfold dh;by_cases e:no=l[j]
    .rw[if_pos e,e,dw (cR.2 (.inr (fi.2 rfl)))]
     exact(Bool.and_false _).symm
    .rw[if_neg e,hg.f]
     have Z:decide (no∈l.take j++ [l[j]])=decide (no∈l.take j):=by
      rw[fW,cS,cS,cR,fi];exact⟨λh=>h.resolve_right e,.inl⟩
     rw[Z]
   rw[Y];refine⟨_,rfl,λy=>⟨_,rfl,_,k.cells.1,_,rfl,_,k.t.cells.1,(BJ k.t.ca _).use ?_⟩,λy=>d _ ⟨_,k,⟨?_,hg.E,hg.G,hg.root,hg.aG,L,λno m=>?_⟩,K⟩⟩
   .rintro _ au ⟨⟨b,rfl⟩,aE,aa,o,M,_⟩
    have ab:T.g l[j]=false:=by
     have a:bL.g=T.g:=hg.to.g;rw[a]at y;simpa using y
    obtain⟨ac,ae⟩:=k.t.qp (P:=λno=>if no=l[j] then none else bL.P no) aa o (λno bm p=>by
     by_cases e:no=l[j]
     .rw[if_pos e]at p;cases p
     .rw[if_neg e]at p
      rw[M no e];exact h1.t.ep no bm p)
    have ag:=k.of (ao:=(bL.iO (dh bL.f l[j] false)).bk aE λno=>if no=l[j] then none else bL.P no) ac o.ad (λq d=>k.t.r_ d) rfl (λ_ h=>h) o.bK;refine⟨b,rfl,d _ ⟨_,ag,⟨?_,hg.E,hg.G,hg.root,hg.aG,L,λno m=>?_⟩,?_⟩⟩
    .exact((hg.to.trans H).trans ae).mono I
    .have N:no≠l[j]:=λe=>by
      rcases m with a|a
      .exact a (by rw[iy aH,e];exact cR.2 (.inr (fi.2 rfl)))
      .rw[e,ab]at a;cases a
     have Q:=hg.eG no (m.imp (λa z=>a (by rw[iy aH];exact cR.2 (.inl z))) id);exact⟨(if_neg N).trans Q.1,(M no N).trans Q.2⟩
    .exact K.ad o.ad λq d=>k.t.r_ (by show bL.G q;rw[hg.G];exact B q d)
   .exact(hg.to.trans H).mono I
   .exact hg.eG no (m.imp (λa z=>a (by rw[iy aH];exact cR.2 (.inl z))) id)
  .rintro aw ⟨bZ,a,ah,aj⟩
   rw[bu (n:=(j:Int)+1) I I];refine⟨⟨j+1,bZ,I,I,a,ah,aj⟩,?_⟩;show((l.length:Int)-((j:Int)+1)).toNat<((l.length:Int)-(j:Int)).toNat;omega
 .have r:j=l.length:=by
   have:¬(j:Int)<(s.len:Int):=cr r;omega
  subst r;rw[iz]at hg;exact⟨rfl,bL,h1,hg⟩
theorem pZ{B:Nat->Prop}{w:J}{n:aB}{K V D:U}(c:bz B w n K V D)(aG:Nat)(h:aG<=100)(d:n.leaf=false->∃x,n.kids=[x]/\1<=aG):
 aP ai 247 #[cX n K V D,aG] w (λv w'=>v=(if n.leaf then .tuple #[(0:Int),(0:Int),(0:Int)] else .tuple #[.int .i64 ((n.kids.getD 0 0:Nat):Int),.int .i64 ((aG-1:Nat):Int),(0:Int)])/\Ext w w'):=by
 refine okF (af.pZ n.leaf K V D (aG:Nat)) ay.pZ func247 ?_;(delta af.pZ bc Y ak ag aI r1 av;dsimp only);refine bh (vs:=dQ n K V D) rfl λw1 e b j=>?_;obtain⟨bU,aA,aR,aK⟩:=bC e;refine⟨_,bU,λa=>⟨by rw[if_pos a],b⟩,λa=>?_⟩;obtain⟨x,hx,h1⟩:=d a;obtain⟨A,ar,f,hc⟩:=cI.at (c.ext b).kids (i:=0) (by rw[hx];simp);refine⟨D,aK,A,ar,f,_,hc,?_,b⟩;have g:(aG:Int)-1=((aG-1:Nat):Int):=by omega
 rw[if_neg (by rw[a];simp),bu I I,g];simp only[hx];rfl
def yB(T:aM)(c:dG)(ks:O Key)(kids:O Nat)(w:J)(v:aa)(w':J):Prop:=
 (∃x,ks=[]/\kids=[x]/\v=.tuple #[x,T.aG,(0:Int)]/\dr w' T c/\Ext w w')\/
 (∃ (k:Key) (x y no:Nat) (ao:aM) (c':dG),ks=[k]/\kids=[x,y]/\dr w' ao c'/\dt T ao c c' [no] [] w w' 1/\
   ((v=.tuple #[no,.int .i64 ((T.aG+1:Nat):Int),(0:Int)]/\ao.P no=some ⟨false,[k],[],[x,y]⟩)\/(v=.tuple #[no,.int .i64 ((T.aG+1:Nat):Int),(3:Int)]/\¬T.C.D.calm 1)))
theorem Ca(K D:Nat)(w:J):Sem.run ai (Instr.build 202 #[(1,.slice (some K) 1 1),(3,.slice (some D) 2 2)]) w=.ok (.agg #[false,.slice (some K) 1 1,(),.slice (some D) 2 2]) w:=by kernel_rfl
theorem Var.Cb{w:J}{b:Nat}{vs:O aa}{T:TypeId}(h:Var w b vs T):Src 1 w ⟨some b,vs.length,vs.length⟩ vs:=by
 refine⟨by show _=vs.length*1;omega,(λh=>by cases h),λa c=>?_⟩
 cases c;show cL w b 0 (vs.length*1)=_;rw[fz,h.rd rfl]
theorem G2{w:J}{t:U}{k:Key}(b:Nat)(a:Var w b [t] 48)(ht:a7 (λ_=>True) w t k):bl (λ_=>True) w ⟨some b,1,1⟩ [k]:=by
 refine⟨[t],rfl,a.Cb,bo _,λq c=>⟨trivial,?_⟩,λi h1 d=>?_⟩
 .obtain⟨A,ar,rfl⟩:=c
  cases ar;exact a.lt
 .have:i=0:=by simp at h1;omega
  subst this;exact ht
theorem G3{w:J}{x y:Nat}(b:Nat)(a:Var w b [x,y] 3):cI (λ_=>True) w ⟨some b,2,2⟩ [x,y]:=by
 refine⟨a.Cb,bo _,λq c=>⟨trivial,?_⟩⟩;obtain⟨A,ar,rfl⟩:=c
 cases ar;exact a.lt
theorem G4{w:J}{T:aM}{c:dG}{s:U}{ks:O Key}{kids:O Nat}(h:dr w T c)(K:lg (λq=>¬T.M q) w s ks kids)(A:kids.length=2->T.aG<12)(hs:∀k x y,ks=[k]->kids=[x,y]->cB k/\x<1600/\y<1600)
 (ax:T.C.D.aN<=900000080) (L:1<=cg T) (az:c.made.length<=900):
 aP ai 249 #[.pointer (some ⟨c.cb,0,none⟩),.slice s.a s.len s.cap] w (yB T c ks kids w):=by
 have aA:=h.t.num.2.1;refine okF (af.u9 (some ⟨c.cb,0,none⟩) s) ay.u9 func249 ?_;(delta af.u9 ak aI r1 ag jt Y eI av;dsimp only);have o:Ext w w.drew:=b6 w;have hd:=h.ext o;rcases K with ⟨b,x,rfl,rfl,rfl,l,B⟩|⟨b,x,y,k,t,rfl,rfl,rfl,l,B,ht,aB⟩
 .refine⟨λ_=>aS ⟨_,rfl,⟨by decide,by show(0:Int)<((1:Nat):Int);decide⟩,id,_,by rw[aw,aw];exact l.drew.cell,_,rfl,id,_,hd.cells.1,_,rfl,id,_,hd.t.cells.2.2.2.2,?_⟩,λh=>(by cases h)⟩
  exact .inl ⟨x,rfl,rfl,rfl,hd,o⟩
 .have A:=A rfl
  obtain⟨s1,s2,aC⟩:=hs k x y rfl rfl;refine⟨λh=>(by cases h),λ_=>⟨_,rfl,_,h.cells.1,_,rfl,_,h.t.cells.2.2.2.2,λP=>?_,λ_=>?_⟩⟩
  .have:((T.aG:Nat):Int)=12:=by simpa using P
   omega
  have Q:cF ⟨false,[k],[],[x,y]⟩:=.inr ⟨⟨λaD R=>by rw[fi.1 R];exact s1,List.pairwise_singleton _ _⟩,rfl,by simp,rfl,rfl,λz E=>by
   simp only[cU,eV,eZ]at E;rcases E with rfl|rfl<;>assumption⟩
  have S:bI ⟨false,[k],[],[x,y]⟩<=232:=by
   have:=s1.2;simp[bI,cellsOf];omega
  have r:¬T.N b:=λV=>B (aM.gh V);have fin:∀ (d:J) (bj aI:Nat),Ext w d->Var d bj [.slice t.a t.len t.cap] 48->Var d aI [.int .i64 (x:Nat),.int .i64 (y:Nat)] 3->
   aP ai 283 #[.pointer (some ⟨c.cb,0,none⟩),.agg #[.bool false,.slice (some ⟨bj,0,none⟩) 1 1,.slice none 0 0,.slice (some ⟨aI,0,none⟩) 2 2]] d (λv w'=>∃n27:Int,∃n28:Int,v=.tuple #[.int .i64 n27,.int .i64 n28]/\ab T.N d w'/\
    ∀e,Ext w' e->yB T c [k] [x,y] w (.tuple #[.int .i64 n27,.int .i64 ((T.aG+1:Nat):Int),.int .i64 n28]) e/\∃ao c',dr e ao c'/\c'.cb=c.cb/\ao.aY=T.aY/\ao.aG=T.aG):=by
   intro d bj aI hx W X;have c6:bz (λ_=>True) d ⟨false,[k],[],[x,y]⟩ ⟨some ⟨bj,0,none⟩,1,1⟩ ⟨none,0,0⟩ ⟨some ⟨aI,0,none⟩,2,2⟩:=by
    exact⟨G2 bj W (a7.aW (a7.ext ht hx) λ_ _ _=>trivial),bl.none _ _,G3 aI X⟩
   refine(v7 (h.ext hx) I L I c6 Q S).mono ?_;rintro v w' ⟨no,ao,c',p,f,Z⟩;have F:=((dt.ext T c hx).trans f).mono (j:=1) I;rcases Z with ⟨rfl,aa⟩|⟨rfl,ac⟩
   .refine⟨_,_,rfl,f.to.ad,λe g=>⟨.inr ⟨k,x,y,no,ao,c',rfl,rfl,p.ext g,(F.trans (dt.ext ao c' g)).mono I,.inl ⟨rfl,aa⟩⟩,ao,c',p.ext g,f.cb,f.to.aY,f.aG⟩⟩
   .refine⟨_,_,rfl,f.to.ad,λe g=>⟨.inr ⟨k,x,y,no,ao,c',rfl,rfl,p.ext g,(F.trans (dt.ext ao c' g)).mono I,.inr ⟨rfl,ac⟩⟩,ao,c',p.ext g,f.cb,f.to.aY,f.aG⟩⟩
  have ae:IntKind.wrap .i64 (((T.aG:Nat):Int)+1)=((T.aG+1:Nat):Int):=by rw[bu I I];rfl
  refine td (λa b w'=>∀e,Ext w' e->yB T c [k] [x,y] w (.tuple #[.int .i64 a,.int .i64 ((T.aG+1:Nat):Int),.int .i64 b]) e/\∃ao c',dr e ao c'/\c'.cb=c.cb/\ao.aY=T.aY/\ao.aG=T.aG) (λq G=>aS ⟨T.N,_,rfl,⟨by decide,by show(1:Int)<((2:Nat):Int);decide⟩,r,t,by rw[aw];exact l.drew.cell,_,rfl,⟨by decide,by show(0:Int)<((2:Nat):Int);decide⟩,r,_,by rw[aw,aw];exact l.drew.cell,_,rfl,⟨by decide,by show(1:Int)<((2:Nat):Int);decide⟩,r,_,by rw[aw,aw];exact l.drew.cell,?_,?_⟩) ?_
  .refine bh (vs:=[.slice t.a t.len t.cap]) rfl λu ah m aj=>⟨ab.cK m,bh (vs:=[.int .i64 (x:Nat),.int .i64 (y:Nat)]) rfl λd al i am=>⟨ab.cK i,_,λ_=>Ca _ _ _,?_⟩⟩
   refine(fin d w.drew.heap.size u.heap.size (o.trans (m.trans i)) (ah.ext i) al).use ?_;rintro _ w' ⟨n27,n28,rfl,hc,n⟩;exact⟨n27,n28,rfl,hc,G _ _ _ n⟩
  .refine bh (vs:=[.int .i64 (x:Nat),.int .i64 (y:Nat)]) rfl λu an m aj=>⟨ab.cK m,bh (vs:=[.slice t.a t.len t.cap]) rfl λd ap i am=>⟨ab.cK i,_,λ_=>Ca _ _ _,?_⟩⟩
   refine(fin d u.heap.size w.drew.heap.size (o.trans (m.trans i)) ap (an.ext i)).use ?_;rintro _ w' ⟨n27,n28,rfl,hc,n⟩;exact⟨n27,n28,rfl,hc,G _ _ _ n⟩
  .intro a b aq n
   obtain⟨h1,ao,c',H,ar,aE,au⟩:=n _ (b6 aq);have hc:=H.cells.1;rw[ar]at hc;have ht:=H.t.cells.2.2.2.2;refine aS ⟨_,rfl,id,_,hc,_,rfl,id,_,ht,?_⟩;rw[au,ae];exact h1
theorem df.yC{P:Nat->aq aB}{lo hi:aq Key}{h:Nat}{n:aB}{p:O Nat}{L:O aJ}(a:df P h n lo hi p L)(e:n.leaf=true->bI n<=310)(f:n.leaf=false->bI n<=335)(j:n.leaf=false->n.keys≠ []):lN n:=by
 refine⟨?_,by cases g:n.leaf;exact ey (f g) (by decide);exact ey (e g) (by decide),λhs=>?_⟩
 .cases h with
  |zero=>exact a.elim
  |succ h=>
   cases h with
   |zero=>exact .inl a.1
   |succ h=>
    obtain⟨au,b,c,d,i⟩:=a;have hs:=i.sorted λ_ _ _ _ _ k=>k.in;exact .inr ⟨⟨c,hs.2.2.1⟩,au,j au,i.len,b,d⟩
 .obtain⟨au,b,c,d,_⟩:=a.two (Q:=P) (x:=0) (y:=0) hs e f
  exact⟨au,b,c,d⟩
section
variable {P:Nat->aq aB}{lo hi:aq Key}
theorem G5{h:Nat}{d f:aB}{p A:aq Key}{i:Nat}{br D:O Nat}{bf hT:O aJ}{k:Key}(E:∀k∈d.keys,cB k)(hlen:d.kids.length=d.keys.length+1)(F:∀x n,P x=some n->bI n<=232)
 (dK:1<=i) (Q:i<d.kids.length) (B:fk p A k)
 (G:fw (fl P (h+1)) lo p (d.keys.take i) (d.kids.take i) br bf) (q:df P (h+1) f p A D hT) (h1:bI f<80):
 ∃ (o:aB) (R:i-1<d.kids.length) (S:i-1<d.keys.length),P d.kids[i-1]=some o/\o.leaf=f.leaf/\cB d.keys[i-1]/\lN (dU o d.keys[i-1] f):=by
 obtain⟨s,H,aL,r,aX,N,hs,rfl,t,rfl,rfl,⟨u,m,g,v⟩,T,U⟩:=G.last (by rw[cv];omega);have V:(d.keys.take i).length=i:=by rw[cv];omega
 have W:(d.kids.take i).length=i:=by rw[cv];omega
 have t:s=d.keys[i-1]'I:=by
  rw[t,mO];congr 1;omega
 have J:(d.kids.take i)[(d.kids.take i).length-1]'I=d.kids[i-1]'I:=by
  rw[mO];congr 1;omega
 rw[J]at u g;obtain⟨o,K,j,rfl,_,w⟩:=u.kD;rw[j]at g;have v:2<=o.keys.length:=by rw[Option.some.inj g];exact v
 clear g;subst t;have y:=(show fl P (h+1) H (some (d.keys[i-1]'I)) (d.kids[i-1]'I) (d.kids[i-1]'I::K) N from⟨u,o,j,v⟩).in;obtain⟨x,hx⟩:=qP _ y.1;have z:=E _ (cw (l:=d.keys) (n:=i-1) I);have L:=df.merge w q z (λc hc=>iH (j5 ((y.2.2 x hx).1 c hc) ((y.2.2 x hx).2 _ rfl))) (λc hc=>iH (j5 (B.1 _ rfl) (B.2 c hc)));have C:=vy w q z (by have:=F _ _ j;omega);have M:=vx (a:=o) (b:=f) (s:=d.keys[i-1]'I);refine⟨o,I,I,j,by rw[w.leaf,q.leaf],z,L.yC C.1 C.2 λ_ e=>?_⟩;rw[e,jE]at M;omega
theorem G6{h:Nat}{d f:aB}{B q:aq Key}{i:Nat}{bt E:O Nat}{hT bB:O aJ}{k:Key}(F:∀k∈d.keys,cB k)(hlen:d.kids.length=d.keys.length+1)(G:∀x n,P x=some n->bI n<=232)
 (g:i+1<d.kids.length) (C:fk B q k)
 (H:gx (fl P (h+1)) hi q (d.keys.drop i) (d.kids.drop (i+1)) bt bB) (t:df P (h+1) f B q E hT) (h1:bI f<80):
 ∃ (o:aB) (R:i+1<d.kids.length) (S:i<d.keys.length),P d.kids[i+1]=some o/\o.leaf=f.leaf/\cB d.keys[i]/\lN (dU f d.keys[i] o):=by
 obtain⟨s,J,r,T,N,U,hs,rfl,u,rfl,rfl,⟨v,m,j,w⟩,V⟩:=H.head (by rw[c5];omega);have u:s=d.keys[i]'I:=by rw[u,nF];rfl
 have K:(d.kids.drop (i+1))[0]'(by rw[c5];omega)=d.kids[i+1]'g:=by rw[nF]
 rw[K]at v j;obtain⟨o,L,p,rfl,_,y⟩:=v.kD;rw[p]at j;have w:2<=o.keys.length:=by rw[Option.some.inj j];exact w
 clear j;subst u;have z:=(show fl P (h+1) (some (d.keys[i]'I)) J (d.kids[i+1]'g) (d.kids[i+1]'g::L) N from⟨v,o,p,w⟩).in;obtain⟨x,hx⟩:=qP _ z.1;have A:=F _ (cw (l:=d.keys) (n:=i) I);have M:=df.merge t y A (λc hc=>iH (j5 (C.1 c hc) (C.2 _ rfl))) (λc hc=>iH (j5 ((z.2.2 x hx).1 _ rfl) ((z.2.2 x hx).2 c hc)));have D:=vy t y A (by have:=G _ _ p;omega);have Q:=vx (a:=f) (b:=o) (s:=d.keys[i]'I);refine⟨o,g,I,p,by rw[y.leaf,t.leaf],A,M.yC D.1 D.2 λ_ e=>?_⟩;rw[e,jE]at Q;omega
inductive Ctx (P:Nat->aq aB) (k:Key) (top:Nat):Nat->aq Key->aq Key->O (Nat×aB×Nat)->O Nat->O aJ->O aJ->Prop
 |top:Ctx P k top top none none [] [] [] []
 |step {eK:Nat}{lo hi a b:aq Key}{st:O (Nat×aB×Nat)}{dX:O Nat}{A B:O aJ}{no:Nat}{n:aB}{br bt:O Nat}{bf bB:O aJ} (h:Ctx P k top (eK+2) lo hi st dX A B) (c:P no=some n) (d:n.leaf=false) (e:∀k∈n.keys,cB k) (f:∀x∈n.kids,x<1600)
  (hlen:n.kids.length=n.keys.length+1) (g:n.keys≠ []) (i:st≠ []->2<=n.keys.length) (j:fk a b k) (l:fw (fl P (eK+1)) lo a (n.keys.take (dn n.keys k)) (n.kids.take (dn n.keys k)) br bf)
  (m:gx (fl P (eK+1)) hi b (n.keys.drop (dn n.keys k)) (n.kids.drop (dn n.keys k+1)) bt bB):Ctx P k top (eK+1) a b (st++ [(no,n,dn n.keys k)]) (no::(br++(bt++dX))) (A++bf) (bB++B)
theorem Ctx.eK{k:Key}{top eK:Nat}{st:O (Nat×aB×Nat)}{dX:O Nat}{A B:O aJ}(h:Ctx P k top eK lo hi st dX A B):eK+st.length=top:=by
 induction h with
 |top=>rfl
 |step h _ _ _ _ _ _ _ _ _ _ a=>rw[cx,iS];omega
theorem Ctx.agree{Q:Nat->aq aB}{k:Key}{top eK:Nat}{st:O (Nat×aB×Nat)}{dX:O Nat}{A B:O aJ}(h:Ctx P k top eK lo hi st dX A B)(a:∀x∈dX,P x=Q x):Ctx Q k top eK lo hi st dX A B:=by
 induction h with
 |top=>exact .top
 | @step eK lo hi p q st dX A B no n br bt bf bB h c d e f hlen g i j l m o=>
  refine .step (o λx hx=>a x (by simp[hx])) (by rw[←a no (by simp)];exact c) d e f hlen g i j (l.lJ λ_ _ _ _ _ hs b=>b.agree λx hx=>a x ?_) (m.lJ λ_ _ _ _ _ hs b=>b.agree λx hx=>a x ?_)
  .have:=hs x hx;simp[this]
  .have:=hs x hx;simp[this]
theorem Ctx.down{k:Key}{top:Nat}:∀ {eK:Nat}{lo hi:aq Key}{st:O (Nat×aB×Nat)}{dX:O Nat}{A B M aX:O aJ}{no:Nat}{p:O Nat},Ctx P k top (eK+1) lo hi st dX A B->d_ P (eK+1) lo hi no p M->(st≠ []->∃m,P no=some m/\2<=m.keys.length)->fk lo hi k->aX=A++(M++B)->(∀u,Loc k u->u aX=A++(u M++B))->
 ∃ (rest a:O (Nat×aB×Nat)) (b:Nat) (bS:aB) (fa dK:aq Key) (f:O Nat) (c d:O aJ),nv P k (eK+1) no rest/\st++rest=a++ [(b,bS,0)]/\Ctx P k top 1 fa dK a f c d/\P b=some bS/\gP bS/\bS.within fa dK/\bS.keys≠ []/\(a≠ []->2<=bS.keys.length)/\fk fa dK k/\
  (p++dX).Perm (b::f)/\aX=c++(bS.dJ++d)/\∀u,Loc k u->u aX=c++(u bS.dJ++d)
 |0,lo,hi,st,dX,A,B,M,aX,no,p,hc,h,i,j,l,hu=>by
  obtain⟨n,h1,g,w,x,rfl,rfl⟩:=h
  refine⟨[(no,n,0)],st,no,n,lo,hi,dX,A,B,⟨n,[],h1,by rw[g.leaf];rfl,rfl,rfl⟩,rfl,hc,h1,g,w,x,λhs=>?_,j,List.Perm.refl _,l,hu⟩
  obtain⟨m,e,o⟩:=i hs
  rw[h1]at e;cases e
  exact o
 |eK+1,lo,hi,st,dX,A,B,M,aX,no,p,hc,h,i,j,l,hu=>by
  obtain⟨n,V,h1,rfl,g,r⟩:=h.kD
  obtain⟨W,X,br,q,bt,bf,hT,bB,y,rfl,rfl,s,t,z,hlen,C,D⟩:=r.at j
  obtain⟨au,Y,E,F,_⟩:=r
  have G:=Ctx.step hc h1 au E F hlen g (λhs=>by
   obtain⟨m,e,o⟩:=i hs
   rw[h1]at e;cases e
   exact o) t C D
  obtain⟨rest,a,b,bS,fa,dK,f,c,d,r1,bX,ag,bw,bc,H,J,K,L,N,Q,R⟩:=Ctx.down (aX:=aX) G s.1 (λ_=>s.2) t (by rw[l];simp only[cD]) (λu v=>by rw[hu u v,z u v];simp only[cD])
  refine⟨(no,n,dn n.keys k)::rest,a,b,bS,fa,dK,f,c,d,⟨n,rest,h1,by rw[au];simp,by rw[if_neg I],?_⟩,?_,ag,bw,bc,H,J,K,L,?_,Q,R⟩
  .rw[eX,c_ y]
   exact r1
  .rw[←bX];simp
  .refine List.Perm.trans ?_ N
   have S:(no::(br++(q++bt))++dX)=no::(br++(q++(bt++dX))):=by simp[cD]
   rw[S]
   have T:(q++no::(br++(bt++dX))).Perm (no::(q++(br++(bt++dX)))):=mK
   refine List.Perm.trans ?_ T.symm
   refine List.Perm.cons _ ?_
   have U:=(qS (l₁:=br) (l₂:=q)).append_right (bt++dX)
   simpa[cD] using U
end
theorem yD{α:Type}(a b c:O α):(a++(b++c)).Perm (a++c++b):=by
 rw[cD];exact(qS (l₁:=b) (l₂:=c)).append_left a
theorem Ctx.up{P:Nat->aq aB}{lo hi:aq Key}{k:Key}{top eK:Nat}{st T:O (Nat×aB×Nat)}{dX:O Nat}{A B:O aJ}{u:dD}{a:aB}{q:O Nat}{M:O aJ}(hc:Ctx P k top eK lo hi st dX A B)(ac:st=T++ [u.st])(c:df P eK a lo hi q M)(H:∀x n,P x=some n->bI n<=232)(hs:bI a<=282):
 ∃ (d f:aq Key) (J:O Nat) (g j:O aJ) (ps:O Nat),Ctx P k top (eK+1) d f T J g j/\dX=u.no::(ps++J)/\P u.no=some u.n/\u.cT<u.n.kids.length/\u.n.kids.length=u.n.keys.length+1/\u.n.keys≠ []/\(T≠ []->2<=u.n.keys.length)/\
  (80<=bI a->∀ (Q:Nat->aq aB) (ks:O Key) (kids:O Nat),mm Q a ks kids->(∀x∈ps++q,P x=Q x)->(∀x∈kids,x<1600)->∃ (l:O Nat) (m:O aJ),df Q (eK+1) (f_ u.n u.cT (u.cT+1) ks kids) d f l m/\g++(m++j)=A++(M++B)/\l.Perm (kids++(ps++q))/\
    bI (f_ u.n u.cT (u.cT+1) ks kids)<=bI u.n+27/\u.n.keys.length<=(f_ u.n u.cT (u.cT+1) ks kids).keys.length+1)/\
  (bI a<80->∃ (o:aB) (no:Nat) (rest:O Nat),u.n.kids[jP u]? =some no/\P no=some o/\o.leaf=a.leaf/\u.cT-1<u.n.keys.length/\cB (u.n.keys.getD (u.cT-1) [])/\lN (lP u a o)/\ps.Perm (no::rest)/\
    ∀ (Q:Nat->aq aB) (ks:O Key) (kids:O Nat),mm Q (lP u a o) ks kids->(∀x∈rest++q,P x=Q x)->(∀x∈kids,x<1600)->∃ (l:O Nat) (m:O aJ),df Q (eK+1) (f_ u.n (u.cT-1) (u.cT-1+2) ks kids) d f l m/\g++(m++j)=A++(M++B)/\l.Perm (kids++(rest++q))/\
     bI (f_ u.n (u.cT-1) (u.cT-1+2) ks kids)<=bI u.n+27/\u.n.keys.length<=(f_ u.n (u.cT-1) (u.cT-1+2) ks kids).keys.length+1):=by
 cases hc with
 |top=>
  have:=congrArg List.length ac;simp at this
 | @step eK d f _ _ ax J g j ad K br bt bf bB h aj U p V hlen ae ak L r s=>
  obtain⟨rfl,al⟩:=List.append_inj' ac rfl;have W:(ad,K,dn K.keys k)=u.st:=by simpa using al
  have am:ad=u.no:=congrArg Prod.fst W;have an:K=u.n:=congrArg (λx=>x.2.1) W;have af:dn K.keys k=u.cT:=congrArg (λx=>x.2.2) W;subst am an;rw[af]at r s;have ao:=vv u.n.keys k;rw[af]at ao;refine⟨d,f,J,g,j,br++bt,h,by rw[cD],aj,I,hlen,ae,ak,λb Q ks kids hf t v=>?_,λb=>?_⟩
  .obtain⟨w,au,y,z,N⟩:=Fe U p V r s c b hs hf (λx hx=>t x (by
    simp only[cR]at hx⊢;rcases hx with hx|hx|hx
    .exact .inl (.inl hx)
    .exact .inr hx
    .exact .inl (.inr hx))) v
   refine⟨w,_,au,by simp only[cD],y.trans (List.Perm.append_left kids ?_),z,I⟩;exact yD br q bt
  .by_cases h0:u.cT=0
   .obtain⟨o,R,S,C,X,Y,Z⟩:=G6 p hlen H (i:=u.cT) (by
     have:u.n.keys.length≠0:=λe=>ae (List.eq_nil_of_length_eq_zero e);omega) L s c b
    obtain⟨ap,ag,ar,av,D,aa,_,ab⟩:=Fg U p V hlen H R L r s c b;rw[C]at D;obtain rfl:=Option.some.inj D;have E:jP u=u.cT+1:=by unfold jP;rw[if_pos h0,h0]
    have ah:u.cT-1=u.cT:=by omega
    have F:u.n.keys.getD (u.cT-1) []=u.n.keys[u.cT]:=by rw[ah,eX,c_ S];rfl
    have G:lP u a o=dU a u.n.keys[u.cT] o:=by unfold lP;rw[if_pos (by rw[E];omega),F]
    refine⟨o,u.n.kids[u.cT+1],br++ag,by rw[E];exact c_ R,C,X,I,by rw[F];exact Y,by rw[G];exact Z,?_,λQ ks kids hf t v=>?_⟩
    .exact(List.Perm.append_left br aa).trans mK
    .rw[G]at hf
     obtain⟨w,au,y,z,N⟩:=ab Q ks kids hf (λx hx=>t x (by
      simp only[cR]at hx⊢;rcases hx with hx|hx|hx
      .exact .inl (.inl hx)
      .exact .inr hx
      .exact .inl (.inr hx))) v
     rw[ah];exact⟨w,_,au,by simp only[cD],y.trans (List.Perm.append_left kids (yD br q ag)),z,N⟩
   .obtain⟨o,R,S,C,X,Y,Z⟩:=G5 p hlen H (i:=u.cT) I I L r c b
    obtain⟨ap,ai,ar,av,D,aa,_,ab⟩:=Ff U p V hlen H I I L r s c b;rw[C]at D;obtain rfl:=Option.some.inj D;have E:jP u=u.cT-1:=by unfold jP;rw[if_neg h0]
    have F:u.n.keys.getD (u.cT-1) []=u.n.keys[u.cT-1]:=by rw[eX,c_ S];rfl
    have G:lP u a o=dU o u.n.keys[u.cT-1] a:=by unfold lP;rw[if_neg (by rw[E];omega),F]
    have aw:u.cT-1+2=u.cT+1:=by omega
    refine⟨o,u.n.kids[u.cT-1],ai++bt,by rw[E];exact c_ R,C,X,S,by rw[F];exact Y,by rw[G];exact Z,?_,λQ ks kids hf t v=>?_⟩
    .exact(aa.append_right bt)
    .rw[G]at hf
     obtain⟨w,au,y,z,N⟩:=ab Q ks kids hf (λx hx=>t x (by
      simp only[cR]at hx⊢;rcases hx with hx|hx|hx
      .exact .inl (.inl hx)
      .exact .inr hx
      .exact .inl (.inr hx))) v
     rw[aw];exact⟨w,_,au,by simp only[cD],y.trans (List.Perm.append_left kids (yD ai q bt)),z,N⟩
theorem dr.G7{w:J}{T:aM}{c:dG}{E:Nat->Prop}(h:dr w T c)(b:∀q,E q->T.E q):dr w (T.cf E T.G) c:=
 h.of (ao:=T.cf E T.G) (W:=λ_=>False) (h.t.grow (W:=λ_=>False) (ab.refl _ _) (λ_ h=>h.elim) (λq a=>.inl (b q a)) (λq a=>.inr (.inl a)) λq a=>(h.t.c7 q (b q a)).2.2) (ab.refl _ _) (λ_ _ h=>h) rfl λ_ h=>h
theorem dt.local{T ao:aM}{c c':dG}{m l:O Nat}{bV:Nat->Prop}{w w1 w':J}{k:Nat}(h:dt (T.cf bV T.G) ao c c' m l w1 w' k)(hx:Ext w w1)(b:∀q,bV q->T.E q\/w.heap.size<=q)(d:∀q,T.E q->bV q):dt T (ao.cf T.E ao.G) c c' m l w w' k:=
 ⟨h.to.local hx b (λq a=>.inl a) (λq a=>.inl (by rw[h.E];exact d q a)) λq a=>a,rfl,h.G,h.root,h.aG,h.cb,h.made,h.left,h.bm,h.jO,h.f,h.eG,h.room⟩
theorem dr.Cc{w w':J}{T:aM}{c:dG}{W:Nat->Prop}(h:dr w T c)(hc:ab W w w')(cd:∀q,W q->T.E q\/w.heap.size<=q):dr w' T c:=by
 have b:ab (λq=>T.E q) w w':=ct (W:=λq=>T.E q) (ab.refl _ _) hc λq a d=>(cd q d).resolve_right I;exact h.of (h.t.grow (E:=T.E) (G:=T.G) b (λq a _=>.inl a) (λq a=>.inl a) (λq a=>.inr (.inl a)) λq a=>(h.t.c7 q a).2.2) b (λq hg he=>(h.t.c7 q he).2.2 hg) rfl λ_ h=>h
theorem ke.to{w w':J}{T ao:aM}{k:Nat}{s:U}{l:O dD}(h:ke (λq=>¬T.M q) w s l)(ht:bO T ao w w' k):ke (λq=>¬ao.M q) w' s l:=by
 refine⟨h.own.ad ht.ad λq a c=>h.oR q a (aM.gh c),λq a d=>?_,λx hx=>?_⟩
 .rcases ht.c4 q d with h1|h1
  .exact h.oR q a h1
  .have:=a8.lt h.own q a;omega
 .exact(ht.bm (lo:=0) ((h.bm x hx).aW λq _ b=>⟨cE _,b⟩)).aW λq _ b=>b.2
theorem ke.at{B:Nat->Prop}{w:J}{s:U}{l:O dD}(h:ke B w s l){i:Nat}(hi:i<l.length):∃A:ae,s.a=some A/\s.len=l.length/\B A.block/\w.cell? (A.add (i*6))=some (.int .i64 ((l[i]).no:Nat))/\lO B w (A.add (i*6)) l[i]:=by
 have f:=h.own.1;rw[gn _ (nu l)]at f;have g:s.len=l.length:=by omega
 rcases h.own.2.2.2 with ⟨h1,o⟩|⟨b,c,e,k,p,m⟩
 .have:=h.own.2.1
  omega
 .have d:∀j,j<6->w.cell? ⟨b,i*6+j,none⟩=((dD.c l[i]))[j]? :=λj n=>by
   rw[bq.cell k,←oL (nu l) hi n,←m];rw[qM,if_pos I,Array.getElem?_toList]
  refine⟨b,e,g,h.oR b ⟨_,e,rfl⟩,?_,?_⟩
  .rw[aw,cA]
   exact d 0 (by decide)
  .rw[aw,cA]
   refine⟨?_,?_,?_,?_,?_,h.bm _ (cw hi),h.oR b ⟨_,e,rfl⟩,a8.lt h.own b ⟨_,e,rfl⟩⟩
   .rw[aw];exact d 1 (by decide)
   .rw[aw,aw];exact d 2 (by decide)
   .rw[aw,aw];exact d 3 (by decide)
   .rw[aw,aw];exact d 4 (by decide)
   .rw[aw];exact d 5 (by decide)
theorem Ctx.Cd{P:Nat->aq aB}{lo hi:aq Key}{k:Key}{top eK:Nat}{dX:O Nat}{A B:O aJ}(h:Ctx P k top eK lo hi [] dX A B):eK=top/\lo=none/\hi=none/\dX=[]/\A=[]/\B=[]:=by
 generalize a:([]:O (Nat×aB×Nat))=st at h
 cases h with
 |top=>exact⟨rfl,rfl,rfl,rfl,rfl,rfl⟩
 |step h=>
  have:=congrArg List.length a;simp at this
def mB(T:aM)(c:dG)(aL:O Nat)(dY:O aJ)(w:J)(v:aa)(w':J):Prop:=
 ∃ (ao:aM) (c':dG) (m l:O Nat),dr w' ao c'/\dt T ao c c' m l w w' 60/\
  ((v=.tuple #[(0:Int),(0:Int),(0:Int)]/\dY=[]/\l.Perm (m++aL)/\m.length<=2*T.aG+3)\/
   (∃ (root h:Nat) (pages:O Nat),v=.tuple #[root,h,(0:Int)]/\d_ ao.P h none none root pages dY/\(pages++l).Perm (m++aL)/\1<=h/\h<=T.aG+1/\m.length<=2*T.aG+3)\/
   (∃a b:Int,v=.tuple #[a,b,(3:Int)]/\¬T.C.D.calm 60))
theorem mB.local{T:aM}{c:dG}{aL:O Nat}{dY:O aJ}{bV:Nat->Prop}{w w1 w':J}{v:aa}(h:mB (T.cf bV T.G) c aL dY w1 v w')(hx:Ext w w1)(d:∀q,bV q->T.E q\/w.heap.size<=q)(a:∀q,T.E q->bV q):mB T c aL dY w v w':=by
 obtain⟨ao,c',m,l,h1,b,e⟩:=h;exact⟨ao.cf T.E ao.G,c',m,l,h1.G7 λq f=>by rw[b.E];exact a q f,b.local hx d a,e⟩
structure G8(bL:aM)(c:dG)(b:J)(a:O dD)(k:Key)(aL:O Nat)(dY:O aJ)(ws:U)(hA:Nat)(i:Nat)(w':J)(ao:aM)(c':dG)(m l:O Nat)(n:aB)(K V D:U)(lo hi:aq Key)(dX:O Nat)(A B:O aJ)(q:O Nat)(M:O aJ)(r:O Nat):Prop where
 tw:i<a.length
 yE:dr w' ao c'
 to:dt bL ao c c' m l b w' (4*(a.length-1-i))
 oS:m.length<=2*(a.length-1-i)
 ll:l.length<=2*(a.length-1-i)
 hA:Var w' hA (dQ n K V D) 202
 bm:bz (λq=>¬ao.M q) w' n K V D
 il:ke (λq=>¬ao.M q) w' ws a
 ctx:Ctx ao.P k a.length (a.length-i) lo hi ((a.take i).map dD.st) dX A B
 kD:df ao.P (a.length-i) n lo hi q M
 eq:A++(M++B)=dY
 pp:aL.Perm ((a[i]).no::(r++dX))
 acc:(q++l).Perm (m++r)
 sz:bI n<=282
 G9:1<=i->n.keys≠ []
 Ce:∀x∈q++dX,ao.f x=true
theorem bM.nw{w:J}{T:aM}(h:bM w T):∀x n,T.P x=some n->bI n<=232:=λx n hx=>(h.ep x n hx).2.is.2.2
theorem h7.cs{T:aM}{c:dG}{n:aB}{w w':J}{s:U}{e:Int}(h:h7 T c n w (.tuple #[s,e]) w'):
 ∃ (ao:aM) (c':dG) (m:O Nat),dr w' ao c'/\dt T ao c c' m [] w w' 2/\m.length<=2/\((e=0/\∃ks,mm ao.P n ks m/\lg (λq=>¬ao.M q) w' s ks m)\/(e=3/\¬T.C.D.calm 2)):=by
 obtain⟨ao,c',m,s2,h1,d,f,g⟩:=h;refine⟨ao,c',m,h1,d,f,?_⟩;rcases g with ⟨ks,a,b,i⟩|⟨a,b⟩
 .simp at a
  obtain⟨⟨a1,a2,a3⟩,rfl⟩:=a;obtain rfl:s=s2:=by cases s;cases s2;simp_all
  exact .inl ⟨rfl,ks,b,i⟩
 .simp at a
  exact .inr ⟨a.2,b⟩
theorem G_{P Q c:Nat->aq aB}{t:Nat}{n:aB}{q:O Nat}{M:O aJ}{a:Key}{x y no:Nat}(d:df P (t+1) n none none q M)(hs:bI n<=282)(hf:mm Q n [a] [x,y])(j:∀z∈q,P z=Q z)(k:c no=some ⟨false,[a],[],[x,y]⟩)(l:∀z∈x::y::q,Q z=c z)(hx:x<1600)(o:y<1600):
 cB a/\∃pages,d_ c (t+2) none none no pages M/\pages.Perm (no::x::y::q):=by
 have p:232<bI n:=by
  rcases hf with ⟨_,z,e,_⟩|⟨h,_⟩
  .cases e
  .exact h
 obtain⟨f,au,g,i,_⟩:=d.fits (d.xD I) (λ_=>I) (λ_=>I) hf j;have m:df Q (t+2) ⟨false,[a],[],[x,y]⟩ none none f M:=⟨rfl,rfl,i,λz b=>by
  simp only[cU,eV,eZ]at b;rcases b with rfl|rfl<;>assumption,au⟩
 refine⟨i a (by simp),no::f,m.lay (by simp) k λz b=>l z ?_,List.Perm.cons no g⟩;have:=g.mem_iff.1 b;simpa using this
theorem nx{a b:O Nat}:a.Perm b↔∀x,a.count x=b.count x:=List.perm_iff_count
theorem mC{q l m r:O Nat}{no:Nat}(h:(q++l).Perm (m++r)):(q++(l++ [no])).Perm (m++(no::r)):=by
 rw[nx]at h⊢;intro x;have:=h x;simp only[nK,pc,pd]at this⊢;omega
theorem jf{q l m r a ps ms ls rest:O Nat}(h:(q++l).Perm (m++r))(b:a.Perm (ms++(rest++q)))(c:ps.Perm (ls++rest)):(a++(l++ls)).Perm ((m++ms)++(ps++r)):=by
 rw[nx]at h b c⊢;intro x;have:=h x;have:=b x;have:=c x;simp only[nK,pc,pd]at*;omega
theorem mD{aL r ps a:O Nat}{u:Nat}(h:aL.Perm (r++(u::(ps++a)))):aL.Perm (u::((ps++r)++a)):=by
 rw[nx]at h⊢;intro x;have:=h x;simp only[nK,pc,pd]at*;omega
theorem Ha{w:J}{T:aM}{c:dG}{d:O dD}{k:Key}{aL dX:O Nat}{dY A B M:O aJ}{lo hi:aq Key}{ws:U}{n:aB}{K V D:U}(h:dr w T c)(bW:ke (λq=>¬T.M q) w ws d)(bA:bz (λq=>¬T.M q) w n K V D)(eF:0<d.length)(hlen:d.length=T.aG)(eH:T.aG<12)
 (eI:T.C.D.aN<=900000000) (eJ:2*T.aG+3<=cg T) (eK:c.made.length<=100) (eL:c.left.length<=100) (cH:Ctx T.P k d.length 1 lo hi ((d.take (d.length-1)).map dD.st) dX A B) (L:df T.P 1 n lo hi [] M) (ar:A++(M++B)=dY)
 (N:aL.Perm ((d[d.length-1]'I).no::dX)) (bB:bI n<=282) (a7:2<=d.length->n.keys≠ []) (Q:∀x∈dX,T.f x=true):
 aP ai 208 #[.pointer (some c.cb),ws,cX n K V D] w (mB T c aL dY w):=by
 refine okF (af.oe (some c.cb) ws n.leaf K V D) ay.oe func208 ?_;(delta af.oe bc Y ag cp av ak aI r1 st pF n0 gv b8;dsimp only);refine bh (vs:=dQ n K V D) rfl λw1 cI cJ eM=>?_;obtain⟨bU,aA,aR,aK⟩:=bC cI;refine⟨_,bU,K,aA,V,aR,D,aK,bh (vs:=[false,(),(),()]) rfl λeN bX cL eO=>⟨bX.cc rfl fC,rfl,cy bX (us:=dQ n K V D) rfl rfl λbD bE cM eP=>?_⟩⟩;have bY:Ext w bD:=cJ.trans (Ext.cu cL cM (bo _));obtain⟨hA,cN⟩:∃hA,hA=w1.heap.size:=⟨_,rfl⟩;rw[←cN]at bE⊢;obtain⟨bV,bF⟩:∃bV,bV=λq=>T.E q\/q=hA:=⟨_,rfl⟩;have cP:∀q,T.E q->bV q:=λq F=>by rw[bF];exact .inl F
 have a8:∀q,bV q->T.E q\/q=hA:=λq F=>by rw[bF]at F;exact F
 have cQ:bV hA:=by rw[bF];exact .inr rfl
 have eR:=bE.lt;have cS:dr bD (T.cf bV T.G) c:=h.of (W:=λ_=>False) (h.t.grow (W:=λ_=>False) bY (λ_ h=>h.elim) (λq F=>(a8 q F).imp id λe=>.inr ⟨I,I⟩) (λq F=>.inr (.inl F)) λq F hg=>by
  rcases a8 q F with h1|h1
  .exact(h.t.c7 q h1).2.2 hg
  .have:=h.t.lt (q:=q) (.inr (.inr (.inr (.inr hg))));omega) bY (λ_ _ h=>h) rfl λ_ h=>h
 have b0:bO T (T.cf bV T.G) w bD 0:=(bO.refl T w).step (W:=λ_=>False) bY (λ_ h=>h.elim) (λq F=>(a8 q F).imp id λe=>.inr I) λq F=>.inl F;have conv:∀ (v:aa) (w':J),mB (T.cf bV T.G) c aL dY w1 v w'->mB T c aL dY w v w':=λv w' hu=>hu.local cJ (λq F=>(a8 q F).imp id λe=>I) cP;obtain⟨bL,ax⟩:∃bL,bL=T.cf bV T.G:=⟨_,rfl⟩;have b1:=bW.to b0;have b3:bz (λq=>¬(T.cf bV T.G).M q) bD n K V D:=(b0.bm (lo:=0) (bA.aW λq _ R=>⟨cE _,R⟩)).aW λq _ R=>R.2;have cV:bL.P=T.P:=by rw[ax];rfl
 have b4:bL.f=T.f:=by rw[ax];rfl
 have dO:bL.E hA:=by rw[ax];exact cQ
 have eS:cg bL=cg T:=by rw[ax];rfl
 have dP:bL.C=T.C:=by rw[ax];rfl
 have dR:bL.aG=T.aG:=by rw[ax];rfl
 rw[←ax]at cS b1 b3 conv;clear ax b0 bF cP a8 cQ;have eT:hA=w1.heap.size:=cN;have eU:ws.len=d.length:=by
  have:=bW.own.1;rw[gn _ (nu d)]at this;omega
 refine⟨λn10 w'=>∃ (i:Nat) (ao:aM) (c':dG) (m l:O Nat) (n:aB) (K V D:U) (lo hi:aq Key) (dX:O Nat) (A B:O aJ) (q:O Nat) (M:O aJ) (r:O Nat),n10=(i:Nat)/\G8 bL c w1 d k aL dY ws hA i w' ao c' m l n K V D lo hi dX A B q M r,λn10 _=>(n10+1).toNat,
  ⟨d.length-1,bL,c,[],[],n,K,V,D,lo,hi,dX,A,B,[],M,[],?_,?_⟩,?_⟩
 .rw[bu I I];omega
 .have e:d.length-(d.length-1)=1:=by omega
  refine⟨I,cS,(dt.ext bL c (Ext.cu cL cM (bo _))).mono I,cE _,cE _,bE,b3,b1,by rw[e,cV];exact cH,by rw[e,cV];exact L,ar,by simpa using N,List.Perm.refl _,bB,λh1=>a7 I,λx hx=>by rw[b4];exact Q x (by simpa using hx)⟩
 clear cH L ar N bB a7 Q bA b3 bE bW b1 cI bU aA aR aK bX;rintro _ b5 ⟨i,ao,c',m,l,n,K,V,D,lo,hi,dX,A,B,q,M,r,rfl,g⟩;have cW:=g.tw;have bH:=g.to.cb;refine⟨λ_=>aS ?_,λR=>?_⟩
 rotate_left
 .have:¬(i:Int)>=0:=cr R
  omega
 have aU:Ext b5 b5.drew:=b6 _;obtain⟨b7,dS⟩:∃b7,b7=b5.drew:=⟨_,rfl⟩;rw[←dS]at aU⊢;have a9:=g.yE.ext aU;have cY:=a9.cells.2.2;rw[bH]at cY;have cZ:ke (λq=>¬ao.M q) b7 ws d:=g.il.to (bO.ext ao aU);obtain⟨a_,b_,eV,dT,dU,_⟩:=cZ.at cW;have eW:c'.left.length<=200:=by rw[g.to.left,cx];have:=g.ll;omega
 have dV:c'.made.length<=200:=by rw[g.to.made,cx];have:=g.oS;omega
 obtain⟨aV,c0,au,al,aX,aF,aH⟩:=B2 a9 (d[i]).no I;rw[bH]at aX aF aH;have dW:∀n,(a_.add n).block=a_.block:=λn=>by unfold Addr.add;split<;>rfl
 have dZ:∀q,az c'.gC q->ao.M q:=λq F=>.inr (.inr (.inr (.inr (a9.kJ q F).1)));refine⟨az c'.gC,_,rfl,λF=>(a9.kJ _ F).2 (by rw[bH,aw]),c'.gC,cY,a_,b_,⟨I,I⟩,λF=>dT (dZ _ ((dW _)▸F)),_,by rw[c8];exact dU,aS ⟨ab.cK (eB _ _),aV,c0,au,al,_,rfl,by rw[aw];exact aX,by rw[aw];exact aF,aS ?_⟩⟩;rw[aw,cA];obtain⟨X,c1⟩:∃X,X=c0.setCell ⟨c.cb,2,none⟩ aV:=⟨_,rfl⟩;rw[←c1];obtain⟨ah,ba⟩:=aH X c1;have ca:=dt.leave (c:=c') (c':=⟨c.cb,c'.ma,aV,c'.made,c'.left++ [(d[i]).no]⟩) (no:=(d[i]).no) ba rfl (λq F=>.inl F) bH.symm rfl rfl;have ac:=(g.to.trans (dt.ext ao c' aU)).trans ca;simp only[fQ,kk]at ac;have c2:ao.E hA:=by rw[g.to.E];exact dO
 have cd:=(g.hA.ext aU).ad ba.ad (a9.t.jd c2);have ce:=cZ.to ba;have bb:bz (λq=>¬(ao.cf ao.E λq=>ao.G q\/az aV q).M q) X n K V D:=(ba.bm (lo:=0) ((g.bm.ext aU).aW λq _ R=>⟨cE _,R⟩)).aW λq _ R=>R.2;obtain⟨bZ,aY⟩:∃bZ,bZ=ao.cf ao.E λq=>ao.G q\/az aV q:=⟨_,rfl⟩;have br:bZ.P=ao.P:=by rw[aY];rfl
 have bt:bZ.f=ao.f:=by rw[aY];rfl
 have eX:cg bZ=cg ao:=by rw[aY];rfl
 have c3:bZ.E hA:=by rw[aY];exact c2
 have c4:bZ.aG=T.aG:=by rw[aY];show ao.aG=_;rw[g.to.aG,dR]
 rw[←aY]at ah ba ca ac ce bb;obtain⟨aR,bJ⟩:∃aR:dG,aR=⟨c.cb,c'.ma,aV,c'.made,c'.left++ [(d[i]).no]⟩:=⟨_,rfl⟩;rw[←bJ]at ah ca ac;have fJ:aR.cb=c.cb:=by rw[bJ]
 have am:aR.made.length<=200:=by rw[bJ];exact dV
 have eY:aR.left.length<=201:=by rw[bJ,cx,iS];omega
 obtain⟨d0,bS,bp,d6⟩:=bC cd;have c5:=bl.len bb.keys;have c6:∀ (w':J) (v:aa),Ext X w'->(∀ {c9 aK bd},c9=bZ->aK=aR->bd=l++ [(d[i]).no]->((v=.tuple #[(0:Int),(0:Int),(0:Int)]/\dY=[]/\bd.Perm (m++aL)/\m.length<=2*bL.aG+3)\/
  (∃ (root h:Nat) (pages:O Nat),v=.tuple #[root,h,(0:Int)]/\d_ (aM.P c9) h none none root pages dY/\(pages++bd).Perm (m++aL)/\1<=h/\h<=bL.aG+1/\m.length<=2*bL.aG+3)\/
  (∃a b:Int,v=.tuple #[a,b,(3:Int)]/\¬bL.C.D.calm 60)))->mB T c aL dY w v w':=by
  intro w' v hx hd;refine conv v w' ⟨bZ,aR,m,l++ [(d[i]).no],?_,?_,hd (aK:=aR) rfl rfl rfl⟩
  .exact ah.ext hx
  .have:=(ac.trans (dt.ext bZ _ hx)).mono (j:=60) I
   simp only[fQ]at this;exact this
 refine cm (λb w'=>(b=true↔(i=0/\n.keys=[]))/\X=w') (λZ be=>⟨λh0=>⟨K,bS,be _ _ ⟨?_,rfl⟩⟩,λh0=>be _ _ ⟨?_,rfl⟩⟩) ?_
 .have h0:i=0:=by
   have:(i:Int)=0:=by simpa using h0
   omega
  rw[kU];constructor
  .intro h1
   exact⟨h0,List.eq_nil_of_length_eq_zero I⟩
  .rintro⟨_,h1⟩
   rw[h1]at c5;simp at c5;omega
 .have h0:i≠0:=by
   have:¬(i:Int)=0:=by simpa using h0
   omega
  exact⟨λh=>(by cases h),λh=>absurd h.1 h0⟩
 rintro eZ _ ⟨c_,rfl⟩;refine⟨λR=>?_,λR=>?_⟩
 .obtain⟨h0,da⟩:=c_.1 R
  subst h0;have bf:Ext X X.drew:=b6 _;obtain⟨d7,d8,d9,ea⟩:=bC (cd.ext bf);have db:=(ah.ext bf).cells.1;rw[fJ]at db;have eb:=(ah.ext bf).t.cells.2.2.2.2;obtain⟨t1,t2,t3,t4,t5,t6⟩:=Ctx.Cd (by simpa using g.ctx);have L:=g.kD;have N:=g.pp;have ar:=g.eq;have an:=mC (no:=(d[0]).no) g.acc;subst t2 t3 t4 t5 t6;rw[iR,fQ]at ar;rw[fQ]at N;subst ar;have dc:n.leaf=false->∃x,n.kids=[x]/\1<=bZ.aG/\d_ ao.P (bZ.aG-1) none none x q M/\1<=bZ.aG-1:=by
   intro aO;have e:d.length-0=bZ.aG:=by rw[c4];omega
   rw[e]at L
   cases ht:bZ.aG with
   |zero=>omega
   |succ t=>
    rw[ht]at L
    cases t with
    |zero=>
     have:=L.1.leaf;rw[aO]at this;cases this
    |succ t=>
     obtain⟨v1,ch,bi,bj,bK⟩:=L;rw[da]at bK;generalize e0:n.kids=e1 at bK
     cases bK with
     |one h=>exact⟨_,rfl,I,h.1,I⟩
  refine aS ⟨λ_=>False,id,_,d7,K,d8,V,d9,D,ea,_,rfl,id,_,db,_,rfl,id,_,eb,(pZ (bb.ext bf) bZ.aG I λaO=>by obtain⟨x,a1,a2,_⟩:=dc aO;exact⟨x,a1,a2⟩).use ?_⟩;rintro v w' ⟨rfl,ci⟩;have dd:=bf.trans ci
  cases aO:n.leaf with
  |true=>
   rw[if_pos rfl];have dg:=L.leaf;rw[aO]at dg;have cj:d.length-0=1:=b2 dg.symm;rw[cj]at L;obtain⟨v1,ch,bi,bj⟩:=L;subst bi;refine⟨_,_,_,rfl,ci,c6 w' _ dd λ{c9 aK bd} a1 a2 a3=>.inl ⟨rfl,?_,?_,by have:=g.oS;omega⟩⟩
   .rw[bj];unfold aB.dJ;rw[da];rfl
   .subst a3
    rw[nx]at an N⊢;intro x;have:=an x;have:=N x;simp only[nK,pc,pd]at*;omega
  |false=>
   rw[if_neg (by simp)];obtain⟨x,a1,a2,a3,a4⟩:=dc aO;refine⟨_,_,_,rfl,ci,c6 w' _ dd λ{c9 aK bd} b9 bQ aZ=>.inr (.inl ⟨_,_,q,rfl,?_,?_,a4,?_,by have:=g.oS;omega⟩)⟩
   .subst b9
    have ec:n.kids.getD 0 0=x:=by rw[a1];rfl
    rw[ec,br];exact a3
   .subst aZ
    rw[nx]at an N⊢;intro x;have:=an x;have:=N x;simp only[nK,pc,pd]at*;omega
   .omega
 .have a7:n.keys≠ []:=λe=>by
   rcases nJ i with h0|h0
   .have:=c_.2 ⟨h0,e⟩
    rw[R]at this;cases this
   .exact g.G9 h0 e
  have e2:bZ.C.D.aN<=900000050:=by
   have:=ac.to.aN;rw[dP]at this;omega
  have dh:2<=cg bZ:=by
   have:=ac.room;have:=g.oS;omega
  have di:∀ms:O Nat,ms.length<=3->(m++ms).length<=2*bL.aG+3:=λms h=>by rw[cx];have:=g.oS;omega
  have dj:∀j,j<=10->¬bZ.C.D.calm j->¬bL.C.D.calm 60:=λj e3 bA hc=>bA (ac.to.calm j (ga hc I));have ck:lN n:=g.kD.yC (λ_=>by have:=g.sz;omega) (λ_=>by have:=g.sz;omega) λ_=>a7;refine cm (λp w'=>p=(if i=0 then none else some (a_.add ((i-1)*6)))/\X=w') (λZ be=>⟨λh0=>⟨a_,b_,?_,be _ _ ⟨?_,rfl⟩⟩,λh0=>be _ _ ⟨?_,rfl⟩⟩) ?_
  .have h0:(i:Int)>0:=b2 h0
   rw[bu I I];omega
  .have h0:(i:Int)>0:=b2 h0
   have e:(i:Int)-1=((i-1:Nat):Int):=by omega
   rw[bu I I,if_neg I,e,c8]
  .have h0:¬(i:Int)>0:=cr h0
   rw[if_pos I]
  rintro _ _ ⟨rfl,rfl⟩;refine⟨_,d0,K,bS,V,bp,D,d6,?_⟩;by_cases h0:i=0
  .subst h0
   rw[if_pos rfl];have bk:=G0 ah bb ck I dh I;rw[fJ]at bk;refine bk.use ?_;rintro _ a0 ⟨a5,e,rfl,hf⟩;obtain⟨c9,aK,ms,S,H,bn,bq⟩:=hf.cs;have bM:=ac.trans H;simp only[fQ]at bM;have ed:aK.cb=c.cb:=by rw[H.cb,fJ]
   rcases bq with ⟨rfl,ks,aC,aQ⟩|⟨rfl,aT⟩
   .refine⟨a5,_,_,0,rfl,λh=>(by cases h),λ_=>⟨λ_=>?_,λh=>(by simp at h)⟩⟩
    obtain⟨t1,t2,t3,t4,t5,t6⟩:=Ctx.Cd (by simpa using g.ctx);have L:=g.kD;have N:=g.pp;have ar:=g.eq;have bB:=g.sz;have an:=mC (no:=(d[0]).no) g.acc;have Q:=g.Ce;subst t2 t3 t4 t5 t6;rw[iR,fQ]at ar;rw[fQ]at N Q;subst ar;have ee:bZ.n<=1600:=ah.t.s.bp;have cl:∀z∈q,ao.P z=c9.P z:=λz ae=>by
     rw[←br];exact((H.eG z (by rw[bt,Q z ae];rfl)).1).symm
    have ef:d.length-0=(d.length-1)+1:=by omega
    have dk:c9.aG=d.length:=by rw[H.aG,c4];omega
    rw[ef]at L;have dl:∀a6 x y,ks=[a6]->ms=[x,y]->cB a6/\x<1600/\y<1600:=λa6 x y au al=>by
     subst au al;have dm:232<bI n:=by
      rcases aC with ⟨_,z,e,_⟩|⟨h,_⟩
      .cases e
      .exact h
     obtain⟨e4,_,_,aX,_⟩:=L.fits (L.xD I) (λ_=>I) (λ_=>I) aC cl;have hx:=(H.jO x (by simp)).2;have e5:=(H.jO y (by simp)).2;exact⟨aX a6 (by simp),I,I⟩
    have dn:=G4 S aQ (λ_=>I) dl (by have:=H.to.aN;omega) (by have:=H.room;have:=ac.room;have:=g.oS;omega) (by rw[H.made,cx];omega);rw[ed]at dn;refine dn.use ?_;rintro v e6 eg;rcases eg with ⟨x,au,al,rfl,aF,aH⟩|⟨a6,x,y,no,jJ,de,au,al,aF,aH,eh⟩
    .subst au al
     refine⟨_,_,_,rfl,conv _ _ ⟨c9,aK,m++ [x],l++ [(d[0]).no],aF,?_,.inr (.inl ⟨x,c9.aG,x::q,rfl,?_,?_,I,I,di [x] (by simp)⟩)⟩⟩
     .have:=(bM.trans (dt.ext c9 aK aH)).mono (j:=60) I
      simp only[fQ]at this;exact this
     .rcases aC with ⟨_,z,_,e,ae⟩|⟨_,e7,e8,_,e,_⟩
      .cases e
       rw[dk,show d.length=d.length-1+1 from I];exact L.lay a7 ae cl
      .cases e
     .rw[nx]at an N⊢
      intro z;have:=an z;have:=N z;simp only[nK,pc,pd]at*;omega
    .subst au al
     obtain⟨a1,a2,a3⟩:=dl a6 x y rfl rfl;have aD:=bM.trans aH;simp only[fQ]at aD;have dp:=aD.mono (j:=60) I;rcases eh with ⟨rfl,cn⟩|⟨rfl,cn⟩
     .have ei:∀z∈x::y::q,c9.P z=jJ.P z:=λz ae=>by
       refine((aH.eG z ?_).1).symm;rw[H.f];simp only[cU]at ae;rcases ae with ae|ae|ae
       .simp[ae]
       .simp[ae]
       .rw[bt,Q z ae];simp
      obtain⟨_,pages,b9,bQ⟩:=G_ L bB aC cl cn ei a2 a3;refine⟨_,_,_,rfl,conv _ _ ⟨jJ,de,m++ [x,y]++ [no],l++ [(d[0]).no],aF,dp,.inr (.inl ⟨no,c9.aG+1,pages,rfl,?_,?_,I,I,by rw[cD];exact di [x,y,no] (by simp)⟩)⟩⟩
      .rw[dk,show d.length+1=d.length-1+2 from I];exact b9
      .rw[nx]at an N bQ⊢
       intro z;have:=an z;have:=N z;have:=bQ z;simp only[nK,pc,pd]at*;omega
     .refine⟨_,_,_,rfl,conv _ _ ⟨jJ,de,m++ [x,y]++ [no],l++ [(d[0]).no],aF,dp,.inr (.inr ⟨_,_,rfl,λhc=>cn (H.to.calm 1 (ac.to.calm 3 (ga hc I)))⟩)⟩⟩
   .refine⟨a5,_,_,3,rfl,λ_=>conv _ _ ⟨c9,aK,m++ms,l++ [(d[0]).no],S,bM.mono I,.inr (.inr ⟨0,0,rfl,dj 2 I aT⟩)⟩,λh=>(by cases h)⟩
  .rw[if_neg h0]
   have dK:i-1<d.length:=by omega
   obtain⟨e9,dq,_,_,_,hu⟩:=ce.at dK;rw[b_]at dq;obtain rfl:=Option.some.inj dq;obtain⟨u,co⟩:∃u,u=d[i-1]:=⟨_,rfl⟩;rw[←co]at hu;have ej:(d.take i).map dD.st=(d.take (i-1)).map dD.st++ [u.st]:=by
    have:d.take i=d.take (i-1)++ [d[i-1]]:=by
     have e:i-1+1=i:=by omega
     rw[←iy dK,e]
    rw[this,fP,co];rfl
   obtain⟨ds,du,ek,dv,dw,ps,bx,bG,el,e_,fa,em,en,dx,ct⟩:=Ctx.up g.ctx ej g.kD g.yE.t.nw g.sz;have cj:d.length-i+1=d.length-(i-1):=by omega
   rw[cj]at bx dx ct;have eo:=(g.yE.t.ep _ _ el).2.is;have fb:=eo.2.1.eQ I;have Q:=g.Ce;have bk:=G1 ah bb hu ck.1 (by have:=g.sz;omega) (λ_=>ck) (λbN=>by
    obtain⟨o,no,rest,b9,bQ,aZ,bP,bR,dy,_⟩:=ct bN;exact⟨o,no,b9,by rw[br];exact bQ,aZ,bP,bR,dy⟩) I I dh I I
   rw[fJ]at bk;refine bk.use ?_;rintro v a0 dz;have fc:0<u.n.keys.length:=sC.2 em;have ee:bZ.n<=1600:=ah.t.s.bp;have cw:∀ {c9:aM}{aK:dG}{ms ls:O Nat}{w':J}{er:Nat},dt bZ c9 aR aK ms ls X w' er->∀x,ao.f x=true->ao.P x=c9.P x:=λes x hx=>by
    rw[←br];exact((es.eG x (by rw[bt,hx];rfl)).1).symm
   have et:(∃ (c9:aM) (aK:dG) (ms ls:O Nat) (s:U) (a b:Int),v=.tuple #[s,a,b,(3:Int)]/\dr a0 c9 aK/\dt bZ c9 aR aK ms ls X a0 4/\¬bZ.C.D.calm 4)\/
    (∃ (c9:aM) (aK:dG) (ms ls rest:O Nat) (s:U) (ap aj:Nat) (ks:O Key) (am:O Nat) (aE:O aJ),v=.tuple #[s,ap,aj,(0:Int)]/\dr a0 c9 aK/\dt bZ c9 aR aK ms ls X a0 4/\ms.length<=2/\ls.length<=1/\lg (λq=>¬c9.M q) a0 s ks ms/\
      df c9.P (d.length-(i-1)) (f_ u.n ap aj ks ms) ds du am aE/\dv++(aE++dw)=A++(M++B)/\am.Perm (ms++(rest++q))/\ps.Perm (ls++rest)/\bI (f_ u.n ap aj ks ms)<=bI u.n+27/\u.n.keys.length<=(f_ u.n ap aj ks ms).keys.length+1/\
      ap<=u.n.keys.length/\1<=aj/\aj<=u.n.kids.length):=by
    rcases dz with ⟨dm,s,e,rfl,hf⟩|⟨bN,c9,aK,rfl,au,al,aX⟩|⟨bN,o,no,fd,fe,ff,s,e,dA,dB,dC,rfl,hf⟩
    .obtain⟨c9,aK,ms,S,H,bn,bq⟩:=hf.cs
     rcases bq with ⟨rfl,ks,aC,aQ⟩|⟨rfl,aT⟩
     .obtain⟨am,aE,b9,bQ,aZ,bP,bR⟩:=dx dm c9.P ks ms aC (λx hx=>cw H x (Q x (by
       rw[bG];simp only[cR,cU]at hx⊢;rcases hx with hx|hx
       .exact .inr (.inr (.inl hx))
       .exact .inl hx))) (λx hx=>by have:=(H.jO x hx).2;omega)
      exact .inr ⟨c9,aK,ms,[],ps,s,u.cT,u.cT+1,ks,am,aE,rfl,S,H.mono I,bn,cE _,aQ,b9,bQ,aZ,List.Perm.refl _,bP,bR,I,I,I⟩
     .exact .inl ⟨c9,aK,ms,[],s,_,_,rfl,S,H.mono I,λhc=>aT (ga hc I)⟩
    .exact .inl ⟨c9,aK,[],[],bg,0,0,rfl,au,al.mono I,λhc=>aX (ga hc I)⟩
    .obtain⟨fg,dE,rest,b9,bQ,aZ,bP,bR,dy,dF,eu⟩:=ct bN
     rw[b9]at dA;obtain rfl:=Option.some.inj dA;rw[br,bQ]at dB;obtain rfl:=Option.some.inj dB;obtain⟨c9,aK,ms,S,H,bn,bq⟩:=hf.cs;have aD:=dC.trans H;simp only[iR,fQ]at aD;rcases bq with ⟨rfl,ks,aC,aQ⟩|⟨rfl,aT⟩
     .obtain⟨am,aE,d1,d2,d3,d4,d5⟩:=eu c9.P ks ms aC (λx hx=>cw aD x (Q x (by
       rw[bG];simp only[cR,cU]at hx⊢;rcases hx with hx|hx
       .exact .inr (.inr (.inl (dF.mem_iff.2 (jV _ hx))))
       .exact .inl hx))) (λx hx=>by have:=(aD.jO x hx).2;omega)
      refine .inr ⟨c9,aK,ms,[dE],rest,s,u.cT-1,u.cT-1+2,ks,am,aE,rfl,S,aD,bn,bo _,aQ,d1,d2,d3,dF,d4,d5,I,I,?_⟩;rcases nJ u.cT with ev|ev<;>omega
     .exact .inl ⟨c9,aK,ms,[dE],s,_,_,rfl,S,aD,λhc=>aT (dC.to.calm 2 hc)⟩
   clear dz;rcases et with ⟨c9,aK,ms,ls,a5,a,b,rfl,S,H,aT⟩|⟨c9,aK,ms,ls,rest,a5,ap,aj,ks,am,aE,rfl,S,H,bn,fh,aQ,v1,ch,bi,bj,bK,ew,ex,ey,ez⟩
   .exact⟨a5,_,_,3,rfl,λ_=>conv _ _ ⟨c9,aK,_,_,S,(ac.trans H).mono I,.inr (.inr ⟨0,0,rfl,dj 4 I aT⟩)⟩,λh=>(by cases h)⟩
   .refine⟨a5,_,_,0,rfl,λh=>(by cases h),λ_=>⟨λh=>?_,λ_=>?_⟩⟩
    .have:(i:Int)=0:=by simpa using h
     omega
    have bs:=hu.to H.to;refine⟨_,rfl,_,bs.aA,u.K,bs.aR,u.V,bs.aK,u.D,bs.de,(p0 bs.bm aQ (fr:=ap) (to:=aj) ex I ey ez I I I).use ?_⟩;rintro _ fi ⟨cG,cO,cq,rfl,eA,bv⟩;have dH:=cd.ad H.to.ad (ah.t.jd c3);have dI:=dH.ext bv;refine⟨_,cG,cO,cq,rfl,dI.cc rfl fC,rfl,cy dI (us:=dQ (f_ u.n ap aj ks ms) cG cO cq) rfl rfl λeC eD bw fj=>⟨⟨i-1,c9,aK,m++ms,l++ [(d[i]).no]++ls,f_ u.n ap aj ks ms,cG,cO,cq,ds,du,ek,dv,dw,am,aE,ps++((d[i]).no::r),?_,?_⟩,?_⟩⟩
    .rw[bu I I];omega
    .have dM:c9.E hA:=by rw[H.E];exact c3
     have cz:c9.M hA:=.inr (.inr (.inr (.inl dM)));have cC:=(ac.trans H).trans (dt.ext c9 aK bv);simp only[fQ]at cC;have eE:bO bL c9 w1 eC (4*(d.length-1-i)+4+0):=cC.to.step (E:=c9.E) (G:=c9.G) bw (λq e aO=>I) (λq F=>.inl F) λq F=>.inl F;have cF:∀x,ao.f x=true->c9.f x=true:=λx hx=>by rw[H.f,bt,hx];rfl
     have bT:=ce.to H.to;refine⟨dK,(S.ext bv).Cc bw λq e=>.inl (by rw[e];exact dM),{cC.mono (j:=4*(d.length-1-(i-1))) I with to:=eE.mono I},?_,?_,eD,?_,?_,bx.agree λx hx=>cw H x (Q x (by rw[bG];simp[hx])),v1,by rw[ch];exact g.eq,?_,jf (mC g.acc) bi bj,I,λh1 e=>?_,λx hx=>?_⟩
     .rw[cx];have:=g.oS;omega
     .rw[cx,cx,iS];have:=g.ll;omega
     .refine(bz.ad eA bw λq F e=>?_).aW λq _ F dN=>?_
      .subst e
       rcases F with F|F
       .exact F cz
       .have:=dH.lt;omega
      .rcases F with F|F
       .exact F dN
       .have:=S.t.lt dN;omega
     .refine⟨(bT.own.ext bv).ad bw λq F e=>bT.oR q F (by rw[e];exact cz),bT.oR,λx hx=>bz.ad ((bT.bm x hx).ext bv) bw λq F e=>F (by rw[e];exact cz)⟩
     .have this:aL.Perm ((d[i]'cW).no::(r++dX)):=g.pp
      rw[bG]at this;rw[←co];exact mD this
     .have fk:=en (λb4=>by
       have:=congrArg List.length b4;rw[dL,cv,jE]at this;omega)
      rw[e,jE]at ew;omega
     .rcases cR.1 hx with hx|hx
      .have:=bi.mem_iff.1 hx
       rcases cR.1 this with hx|hx
       .rw[H.f];simp[hx]
       .rcases cR.1 hx with hx|hx
        .refine cF x (Q x ?_)
         rw[bG];have:x∈ps:=bj.mem_iff.2 (ie _ hx);simp[this]
        .exact cF x (Q x (by simp[hx]))
      .exact cF x (Q x (by rw[bG];simp[hx]))
    .rw[bu I I]
     show((i:Int)-1+1).toNat<((i:Int)+1).toNat;omega
theorem Hb{w:J}{T:aM}{c:dG}{dY:O aJ}{n:aB}{K V D ws:U}(t:ws.len=0)(h:dr w T c)(u:bz (λq=>¬T.M q) w n K V D)(Q:T.C.D.aN<=900000000)(R:2<=cg T)(S:c.made.length<=100)(W:c.left=[])
 (g:gP n) (i:n.keys≠ []) (y:bI n<=232) (z:n.dJ=dY):
 aP ai 208 #[.pointer (some ⟨c.cb,0,none⟩),.slice ws.a ws.len ws.cap,cX n K V D] w (mB T c [] dY w):=by
 refine okF (af.oe (some ⟨c.cb,0,none⟩) ws n.leaf K V D) ay.oe func208 ?_;(delta af.oe bc Y ag cp av ak aI r1 st pF n0 gv b8;dsimp only);refine bh (vs:=dQ n K V D) rfl λw1 A B X=>?_;obtain⟨bU,aA,aR,aK⟩:=bC A;refine⟨_,bU,K,aA,V,aR,D,aK,bh (vs:=[.bool false,.slice none 0 0,.slice none 0 0,.slice none 0 0]) rfl λZ j E aa=>⟨j.cc rfl fC,rfl,cy j (us:=dQ n K V D) rfl rfl λl F G ab=>?_⟩⟩;have f:Ext w l:=B.trans (Ext.cu E G (bo _));refine⟨λn10 w'=>n10= -1/\l=w',λ_ _=>0,⟨by rw[t];decide,rfl⟩,?_⟩;rintro _ _ ⟨rfl,rfl⟩;refine⟨λh=>by simp at h,λ_=>?_⟩;obtain⟨d0,d1,d2,d3⟩:=bC F;refine⟨_,d0,K,d1,V,d2,D,d3,(B7 (h.ext f) I I I (u.ext f) (.inl g) y).use ?_⟩;intro v w' d;obtain⟨s,e,rfl⟩:=d.out;obtain⟨ao,c',m,o,p,ac,H⟩:=(d.base f).cs;rcases H with ⟨rfl,ks,L,N⟩|⟨rfl,P⟩
 .refine⟨s,0,rfl,λh=>(by cases h),λ_=>?_⟩
  rcases L with ⟨_,x,rfl,rfl,hx⟩|⟨ad,_⟩
  .rcases N with ⟨b,r,rfl,_,e,d,_⟩|⟨b,r,ae,ah,aj,rfl,e,_⟩
   .obtain rfl:x=r:=by simpa using e
    refine⟨_,rfl,⟨by decide,by show(0:Int)<((1:Nat):Int);decide⟩,_,by rw[aw,aw];exact d.cell,ao,c',[x],[],o,p.mono I,.inr (.inl ⟨x,1,[x],rfl,⟨n,hx,g,λk i=>⟨λ_ e=>(by cases e),λ_ e=>(by cases e)⟩,i,rfl,z.symm⟩,List.Perm.refl _,bo _,I,by show 1<=_;omega⟩)⟩
   .cases e
  .omega
 .exact⟨s,3,rfl,λ_=>⟨ao,c',m,[],o,p.mono I,.inr (.inr ⟨0,0,rfl,λhc=>P (ga hc I)⟩)⟩,λh=>(by cases h)⟩
def aM.ny(T:aM)(r h:Nat):aM:={T with root:=r,aG:=h}
theorem bM.Hc{w w':J}{T:aM}{r h:Nat}(ht:bM w T)(a:Var w' T.aY (lf (T.ny r h)) 239)(hc:ab (λq=>q=T.aY) w w')(b:r<T.n)(c:h<=12):bM w' (T.ny r h)/\bO T (T.ny r h) w w' 0:=
 ⟨⟨a,ht.s.ad hc λq d e=>ht.jN (e▸d),ht.ca.ad hc λq e=>.inl e,ht.jN,ht.c7,ht.h5,ht.n,⟨b,c,ht.num.2.2⟩,ht.ep,ht.bK,ht.low⟩,
  ⟨rfl,rfl,rfl,rfl,rfl,rfl,rfl,rfl,rfl,rfl,bo _,λ_ h=>h,hc.mono λq _ e=>.inr (.inl e),λq h=>.inl h,λq h=>.inl h⟩⟩
def gj(T:aM)(pages:O Nat)(L:O aJ):Prop:=(T.aG=0/\T.root=0/\pages=[]/\L=[])\/d_ T.P T.aG none none T.root pages L
theorem Cf{s t:Nat->aj}:∀ {n:Nat},(∀i,s i=true->t i=true)->eS s n<=eS t n
 |0,_=>bo _
 |n+1,h=>by
  have h1:=Cf (n:=n) h
  show eS s n+(s n).toNat<=eS t n+(t n).toNat
  cases hs:s n with
  |false=>exact Nat.add_le_add h1 (cE _)
  |true=>rw[h n hs];exact Nat.add_le_add_right h1 _
def wa(T:aM)(aL:O Nat)(dY:O aJ)(w:J)(v:aa)(w':J):Prop:=
 ∃ao:aM,bM w' ao/\bO T ao w w' 60/\ao.E=T.E/\ao.G=T.G/\
  ((v=.int .i64 2/\cg T<2*T.aG+3/\ao=T)\/
   (v=.int .i64 0/\2*T.aG+3<=cg T/\(∃pages,cg T<=cg ao+(2*T.aG+3)/\gj ao pages dY/\pages.Nodup/\(∀no∈pages,no∈aL\/(T.f no||T.g no)=false)/\∀no,ao.f no=true↔(no∈pages\/(T.f no=true/\no∉aL)))/\∀no,T.g no=true->ao.P no=T.P no/\ao.C.view no=T.C.view no)\/
   (v=.int .i64 3/\¬T.C.D.calm 60/\ao.root=T.root/\ao.aG=T.aG/\ao.f=T.f/\∀no,(T.f no||T.g no)=true->ao.P no=T.P no/\ao.C.view no=T.C.view no))
theorem Cg{l:O Nat}(h:∀x,l.count x<=1):l.Nodup:=List.nodup_iff_count.2 h
theorem Hd{w:J}{T:aM}{s:U}{aL:O Nat}{dY:O aJ}{n:aB}{K V D:U}(h:bM w T)(b8:¬T.C.D.ro)(c6:T.C.D.aN<=900000000)(z:T.aG<12)(b9:aL.Nodup)(aI:∀x∈aL,T.f x=true)(c8:aL.length<=5000)
 (b_:∀ (bV j:Nat->Prop) (w1:J) (aA:dG),dr w1 (T.cf bV j) aA->bO T (T.cf bV j) w w1 0->2*T.aG+3<=cg T->aA.made=[]->aA.left=[]->aP ai 208 #[.pointer (some aA.cb),s,cX n K V D] w1 (mB (T.cf bV j) aA aL dY w1)):
 aP ai 150 #[.pointer (some T.aY),s,cX n K V D] w (wa T aL dY w):=by
 have c9:=h.s.bp;refine af.ED (some T.aY) s n.leaf K V D w _ ?_;(delta af.rJ r1 aA ak av st Y bc ag pF aR;dsimp only);refine bh (vs:=dQ n K V D) rfl λw1 al bb c_=>bh (vs:=[(0:Int)]) rfl λah bd be da=>aS ?_;have am:Ext ah ah.drew:=b6 _;obtain⟨bf,ca⟩:∃bf,bf=ah.drew:=⟨_,rfl⟩;rw[←ca]at am⊢;have bi:=(bb.trans be).trans am;have o:=h.ext bi;obtain⟨ev,cc⟩:∃ev,ev=w1.heap.size:=⟨_,rfl⟩;rw[←cc]at bd⊢;refine⟨λ_=>False,_,rfl,id,_,o.cells.2.1,_,rfl,id,_,o.cells.2.2.2.2,(yn o.s).use ?_⟩;rintro _ aO ⟨rfl,an⟩;have aQ:=bi.trans an;have X:=(bd.ext am).ext an;have cd:((T.n:Int)-eS (λi=>T.f i||T.g i) T.n)=(cg T:Nat):=by
  have:=my (λi=>T.f i||T.g i) T.n;unfold cg;omega
 have ce:IntKind.wrap .i64 (IntKind.wrap .i64 (2*(T.aG:Int))+3)=((2*T.aG+3:Nat):Int):=by
  rw[bu (n:=2*(T.aG:Int)) I I,bu I I];omega
 rw[cd,ce];refine⟨_,rfl,an,λap=>?_,λap=>?_⟩
 .have ap:((cg T:Nat):Int)<((2*T.aG+3:Nat):Int):=b2 ap
  obtain⟨au,F⟩:=dF X (i:=0) (by simp);have ch:=dp aO ev 0 (2:Int);have ci:=dM X (i:=0) (2:Int);have bj:=Ext.cu aQ ch I;exact⟨au,F,aS ⟨2,ci.cell,T,h.ext bj,(bO.ext T bj).mono I,rfl,rfl,.inl ⟨rfl,I,rfl⟩⟩⟩
 have bk:2*T.aG+3<=cg T:=by
  have:¬((cg T:Nat):Int)<((2*T.aG+3:Nat):Int):=cr ap;omega
 refine bh (vs:=[.pointer (some T.aY),(),()]) rfl λcj bl ck db=>bh (vs:=[.pointer none]) rfl λbn aT bo dc=>?_;obtain⟨cb,bq⟩:∃cb,cb=aO.heap.size:=⟨_,rfl⟩;obtain⟨ff,br⟩:∃ff,ff=cj.heap.size:=⟨_,rfl⟩;rw[←bq]at bl⊢;rw[←br]at aT⊢;obtain⟨au,F⟩:=dF aT (i:=0) (by simp);have aq:=dp bn ff 0 (.pointer (some cb));have aU:=dM aT (i:=0) (.pointer (some cb));refine⟨au,F,aS ?_⟩;obtain⟨H,cl⟩:∃H,H=bn.setCell ff (.pointer (some cb)):=⟨_,rfl⟩;rw[←cl]at aq aU⊢;have dd:=aQ.size;have de:=aq.size;have aV:Ext aO H:=Ext.cu (ck.trans bo) aq I;have bs:=aQ.trans aV;have bt:=X.ext aV;have bv:=(bl.ext bo).ad aq I;have cm:=((al.ext be).ext am).ext (an.trans aV);obtain⟨bV,aW⟩:∃bV,bV=λq=>T.E q\/q=ev:=⟨_,rfl⟩;obtain⟨j,aX⟩:∃j,j=λq=>T.G q\/q=cb:=⟨_,rfl⟩;have aZ:∀q,bV q->T.E q\/q=ev:=λq c=>by rw[aW]at c;exact c
 have ar:∀q,j q->T.G q\/q=cb:=λq c=>by rw[aX]at c;exact c
 have bw:∀q,T.E q->bV q:=λq c=>by rw[aW];exact .inl c
 have cn:∀q,T.G q->j q:=λq c=>by rw[aX];exact .inl c
 have a0:bV ev:=by rw[aW];exact .inr rfl
 have co:j cb:=by rw[aX];exact .inr rfl
 have df:=bt.lt;have dg:=bv.lt;have bz:bM H (T.cf bV j):=h.grow (W:=λ_=>False) bs (λ_ h=>h.elim) (λq c=>(aZ q c).imp id λe=>.inr ⟨I,I⟩) (λq c=>.inr ((ar q c).imp id λe=>⟨I,I⟩)) λq c hg=>by
  rcases aZ q c with h1|h1<;>rcases ar q hg with k|k
  .exact(h.c7 q h1).2.2 k
  .have:=h.lt (q:=q) (.inr (.inr (.inr (.inl h1))));omega
  .have:=h.lt (q:=q) (.inr (.inr (.inr (.inr k))));omega
  .have:=X.lt;omega
 have bA:bO T (T.cf bV j) w H 0:=(bO.refl T w).step (W:=λ_=>False) bs (λ_ h=>h.elim) (λq c=>(aZ q c).imp id λe=>.inr I) λq c=>(ar q c).imp id λe=>by omega
 have cp:dr H (T.cf bV j) ⟨cb,bg,bg,[],[]⟩:=⟨bz,bv,a8.none _ _ _,a8.none _ _ _,co,λq c=>(gg q c).elim,λq c=>(gg q c).elim,b8⟩;have cq:=b_ bV j H _ cp bA bk rfl rfl;obtain⟨bU,aA,aR,aK⟩:=bC cm;refine⟨_,aU.cell,_,bU,K,aA,V,aR,D,aK,cq.use ?_⟩;rintro v L ⟨bL,y,m,l,bB,d,cs⟩;have Z:bL.E ev:=by rw[d.E];exact a0
 have ax:=bt.ad d.to.ad (bz.jd a0);have ct:¬(T.cf bV j).N ff:=by
  have dh:cb<ff:=by rw[bq,br];omega
  rintro(c|c|c|c)
  .have:=h.lt (q:=ff) (.inl c);omega
  .have:=h.lt (q:=ff) (.inr (.inl c));omega
  .have:=h.lt (q:=ff) (.inr (.inr (.inl c)));omega
  .rcases ar ff c with h1|h1
   .have:=h.lt (q:=ff) (.inr (.inr (.inr (.inr h1))));omega
   .omega
 have bD:=aU.ad d.to.ad ct;have ay:y.cb=cb:=d.cb;have di:bL.aY=T.aY:=d.to.aY;have az:y.made=m:=d.made;have aC:y.left=l:=d.left;have a1:ff≠ev:=by have:=X.lt;omega
 have bE:bO T bL w L 60:=(bA.trans d.to).mono I
 have fin:∀ (w':J) (ao:aM),bM w' ao->bO T ao w w' 60->ao.E=bV->(∀q,T.G q->ao.G q)->bM w' (ao.cf T.E T.G)/\bO T (ao.cf T.E T.G) w w' 60:=by
  intro w' ao hc ht bF bH;exact⟨hc.grow (W:=λ_=>False) (ab.refl _ _) (λ_ h=>h.elim) (λq c=>.inl (by rw[bF];exact bw q c)) (λq c=>.inr (.inl (bH q c))) λq c=>(h.c7 q c).2.2,
   ht.step (W:=λ_=>False) (ab.refl _ _) (λ_ h=>h.elim) (λq c=>.inl (by rw[bF];exact bw q c)) λq c=>.inl (bH q c)⟩
 have bI:∀q,T.G q->bL.G q:=λq c=>d.G q (cn q c);have dj:=(bb).size;have a2:∀ (w0:J) (ao:aM) (c':dG) (x:Int),dr w0 ao c'->bO T ao w w0 60->ao.E ev->dr (w0.setCell ev x) ao c'/\bO T ao w (w0.setCell ev x) 60:=λw0 ao c' x hc ht he=>
  ⟨hc.Cc (dp w0 ev 0 _) λq e=>.inl (by rw[e];exact he),ht.step (E:=ao.E) (G:=ao.G) (dp w0 ev 0 _) (λq e a3=>I) (λq c=>.inl c) λq c=>.inl c⟩
 have dk:m.length<=1600:=by
  have:=d.room;have:cg (T.cf bV j)<=T.n:=by unfold cg;exact Nat.sub_le _ _
  omega
 have cv:(∃a b:Int,v=.tuple #[a,b,(3:Int)]/\¬T.C.D.calm 60)\/(∃ (root z:Nat) (pages:O Nat),v=.tuple #[root,z,(0:Int)]/\((z=0/\root=0/\pages=[]/\dY=[])\/d_ bL.P z none none root pages dY)/\(pages++l).Perm (m++aL)/\z<=12/\m.length<=2*T.aG+3):=by
  rcases cs with ⟨rfl,h1,k,a4⟩|⟨root,z,pages,rfl,h1,k,o,M,a4⟩|⟨a,b,rfl,a5⟩
  .exact .inr ⟨0,0,[],rfl,.inl ⟨rfl,rfl,rfl,h1⟩,k,I,a4⟩
  .have M:z<=T.aG+1:=M
   exact .inr ⟨root,z,pages,rfl,.inr h1,k,I,a4⟩
  .exact .inl ⟨a,b,rfl,a5⟩
 rcases cv with ⟨a,b,rfl,a5⟩|⟨root,p,pages,rfl,cw,bJ,cy,dl⟩
 .
  obtain⟨au,F⟩:=dF ax (i:=0) (by simp);have A:=dM ax (i:=0) (3:Int);obtain⟨aD,aE⟩:=a2 L bL y 3 bB bE Z;have aa:=bD.ad (dp L ev 0 (3:Int)) a1;refine⟨a,b,3,rfl,au,F,aS ⟨3,A.cell,λ_=>⟨3,A.cell,?_⟩,λhx=>(by cases hx)⟩⟩;obtain⟨cz,cB⟩:=dF A (i:=0) (by simp);have a6:=dM A (i:=0) (3:Int);obtain⟨bK,bN⟩:=a2 _ bL y 3 aD aE Z;have a7:=aa.ad (dp _ ev 0 (3:Int)) a1;refine⟨cz,cB,aS (af.AF ev ff _ _ ?_)⟩;generalize dm:(L.setCell ev (3:Int)).setCell ev (3:Int)=bP at a6 bK a7 bN⊢;(delta af.pU r1 ak ag aR;dsimp only);have Q:Ext bP bP.drew:=b6 _;have r:=bK.ext Q;have ac:=B_ r r.ma.src (λq c=>(r.fp q c).1) (l:=y.made) (λx hx=>by rw[az]at hx;rw[d.f];simp[hx]) (by rw[az];exact d.bm) (by rw[az];omega);rw[ay]at ac;have ae:=r.cells.2.1;rw[ay]at ae;refine⟨3,a6.cell,λ_=>aS ⟨id,_,a7.drew.cell,id,_,a7.drew.cell,_,rfl,id,y.ma,ae,ac.use ?_⟩,λhx=>(by cases hx)⟩;rintro _ bQ ⟨rfl,bZ,B,hg⟩;rw[az]at hg;have cC:=(a6.ext Q).ad hg.to.ad (r.t.jd Z);have cD:bO T bZ w bQ 60:=((bN.trans (bO.ext bL Q)).trans hg.to).mono I;obtain⟨f1,f2⟩:=fin bQ bZ B.t cD (by rw[hg.E];exact d.E) λq c=>by rw[hg.G];exact bI q c
  refine⟨rfl,3,cC.cell,_,f1,f2,rfl,rfl,.inr (.inr ⟨rfl,a5,hg.root.trans d.root,hg.aG.trans d.aG,?_,λno aj=>?_⟩)⟩
  .funext no
   show bZ.f no=T.f no;rw[hg.f,d.f];by_cases u:no∈m
   .have:=(d.jO no u).1
    have e:(T.cf bV j).f no=T.f no:=rfl;rw[e]at this⊢
    cases a9:T.f no
    .simp[u]
    .rw[a9]at this;cases this
   .simp[u];rfl
  .have u:no∉m:=λu=>by
    have:=(d.jO no u).1;have e:((T.cf bV j).f no||(T.cf bV j).g no)=(T.f no||T.g no):=rfl;rw[e,aj]at this;cases this
   have h1:=hg.eG no (.inl u);have k:=d.eG no aj;exact⟨h1.1.trans k.1,h1.2.trans k.2⟩
 .
  have S:∀x,pages.count x+l.count x=m.count x+aL.count x:=λx=>by
   have:=nx.1 bJ x;simpa only[nK] using this
  have aF:∀x,m.count x+aL.count x<=1:=λx=>by
   have h1:=List.nodup_iff_count.1 d.bm x;have k:=List.nodup_iff_count.1 b9 x;rcases nJ (m.count x) with o|o
   .omega
   .rcases nJ (aL.count x) with M|M
    .omega
    .have u:=jY.1 o
     have cE:=jY.1 M;have:=(d.jO x u).1;have e:((T.cf bV j).f x||(T.cf bV j).g x)=(T.f x||T.g x):=rfl;rw[e,aI x cE]at this;cases this
  have hlen:pages.length+l.length=m.length+aL.length:=by
   have:=bJ.length_eq;simpa only[cx] using this
  have cF:∀x∈l,bL.f x=true:=λx hx=>by
   have h1:=jY.2 hx;have k:=S x;rw[d.f];rcases nJ (m.count x) with o|o
   .have:x∈aL:=jY.1 I
    have e:(T.cf bV j).f x=T.f x:=rfl;rw[e,aI x this];rfl
   .have:x∈m:=jY.1 o
    simp[this]
  have cG:l.Nodup:=Cg λx=>by have:=S x;have:=aF x;omega
  obtain⟨au,F⟩:=dF ax (i:=0) (by simp);have A:=dM ax (i:=0) (0:Int);obtain⟨aD,aE⟩:=a2 L bL y 0 bB bE Z;have aa:=bD.ad (dp L ev 0 (0:Int)) a1;refine⟨_,_,0,rfl,au,F,aS ⟨0,A.cell,λhx=>(by cases hx),λ_=>aS ?_⟩⟩;generalize dn:L.setCell ev (0:Int)=bR at A aD aa aE⊢;have Q:Ext bR bR.drew:=b6 _;have r:=aD.ext Q;have ac:=B_ r r.gC.src (λq c=>(r.kJ q c).1) (l:=y.left) (λx hx=>cF x (by rw[aC]at hx;exact hx)) (by rw[aC];exact cG) (by rw[aC];omega);rw[ay]at ac;have ae:=r.cells.2.2;rw[ay]at ae;refine⟨id,_,aa.drew.cell,id,_,aa.drew.cell,_,rfl,id,y.gC,ae,ac.use ?_⟩;rintro _ R ⟨rfl,bZ,B,hg⟩;rw[aC]at hg;have cH:=(A.ext Q).ad hg.to.ad (r.t.jd Z);have bT:bO T bZ w R 60:=((aE.trans (bO.ext bL Q)).trans hg.to).mono I;have a_:bZ.aY=T.aY:=bT.aY;have bW:bZ.E=bV:=by rw[hg.E];exact d.E
  have cI:bZ.E ev:=by rw[bW];exact a0
  have bX:Var R T.aY (lf bZ) 239:=by rw[←a_];exact B.t.t
  obtain⟨bx,bG⟩:=dF bX (i:=3) (by simp[lf]);have bY:=dM bX (i:=3) root;have cJ:=dp R T.aY 3 root;obtain⟨cK,cL⟩:=dF bY (i:=4) (by simp[lf]);have b0:=dM bY (i:=4) p;have cM:=dp (R.setCell ⟨T.aY,3,none⟩ root) T.aY 4 p;refine⟨rfl,_,rfl,by rw[aw];exact bx,by rw[aw];exact bG,aS ⟨_,rfl,by rw[aw,aw];exact cK,by rw[aw,aw];exact cL,aS ?_⟩⟩;rw[aw,aw,cA,cA];have ba:ab (λq=>q=T.aY) R ((R.setCell ⟨T.aY,3,none⟩ root).setCell ⟨T.aY,4,none⟩ p):=cJ.trans cM;generalize dq:(R.setCell ⟨T.aY,3,none⟩ root).setCell ⟨T.aY,4,none⟩ p=aH at b0 ba⊢;have cN:∀x∈pages,x∉l:=λx hx a3=>by
   have h1:=jY.2 hx;have k:=jY.2 a3;have:=S x;have:=aF x;omega
  have b1:(p=0/\root=0/\pages=[]/\dY=[])\/(d_ bZ.P p none none root pages dY/\root∈pages):=cw.imp id λcO=>cO.agree λx hx=>((hg.eG x (.inl (cN x hx))).1).symm;have cP:root<bZ.n:=by
   rcases b1 with ⟨_,h1,_⟩|⟨h1,_⟩
   .have:=B.t.s.bS;omega
   .obtain⟨bm,_,k,_⟩:=h1.kD
    exact(B.t.ep _ _ k).1
  have cQ:Var aH bZ.aY (lf (bZ.ny root p)) 239:=by rw[a_];exact b0
  obtain⟨cR,cT⟩:=B.t.Hc cQ (by rw[a_];exact ba) cP cy;have cU:ev≠T.aY:=λe=>by have:=h.lt (q:=T.aY) (.inr (.inl rfl));omega
  have b3:=cH.ad ba cU;obtain⟨cV,cW⟩:=dF b3 (i:=0) (by simp);have b4:=dM b3 (i:=0) (0:Int);have b5:=dp aH ev 0 (0:Int);refine⟨cV,cW,aS (af.AF ev ff _ _ ?_)⟩;(delta af.pU r1 ak ag aR;dsimp only);refine⟨0,b4.cell,λhx=>(by cases hx),λ_=>⟨0,b4.cell,?_⟩⟩;have cY:bM (aH.setCell ev (0:Int)) (bZ.ny root p):=cR.grow (E:=bZ.E) (G:=bZ.G) b5 (λq e _=>.inl (by rw[e];exact cI)) (λq c=>.inl c) (λq c=>.inr (.inl c)) λq c=>(B.t.c7 q c).2.2;have cZ:bO T (bZ.ny root p) w (aH.setCell ev (0:Int)) 60:=((bT.trans cT).mono I).step (E:=bZ.E) (G:=bZ.G) b5 (λq e a3=>I) (λq c=>.inl c) λq c=>.inl c;obtain⟨f1,f2⟩:=fin _ _ cY cZ bW λq c=>by
   show bZ.G q;rw[hg.G];exact bI q c
  refine⟨_,f1,f2,rfl,rfl,.inr (.inl ⟨rfl,bk,⟨pages,?_,?_,Cg λx=>by have:=S x;have:=aF x;omega,λno hx=>?_,λno=>?_⟩,λno aj=>?_⟩)⟩
  .have h1:cg bL+m.length=cg T:=d.room
   have k:cg bL<=cg (bZ.ny root p):=by
    show bL.n-_<=bZ.n-eS (λi=>bZ.f i||bZ.g i) bZ.n;rw[hg.to.n];have:=Cf (s:=λi=>bZ.f i||bZ.g i) (t:=λi=>bL.f i||bL.g i) (n:=bL.n) λi hi=>by
     rw[hg.f,hg.to.g]at hi;rw[jl,ed]at hi;rw[jl];exact hi.imp And.left id
    omega
   show cg T<=cg (bZ.ny root p)+_;omega
  .rcases b1 with ⟨h1,k,o,M⟩|⟨h1,_⟩
   .exact .inl ⟨h1,k,o,M⟩
   .exact .inr h1
  .have h1:=jY.2 hx
   have k:=S no;rcases nJ (aL.count no) with o|o
   .have u:no∈m:=jY.1 I
    exact .inr (d.jO no u).1
   .exact .inl (jY.1 o)
  .show bZ.f no=true↔_
   rw[hg.f,d.f];have e:(T.cf bV j).f no=T.f no:=rfl;rw[e];have ds:=S no;have B:=aF no;have b7:no∈m↔0<m.count no:=jY.symm;have al:no∈aL↔0<aL.count no:=jY.symm;have c0:no∈l↔0<l.count no:=jY.symm;have c1:no∈pages↔0<pages.count no:=jY.symm;have c2:0<aL.count no->T.f no=true:=λh=>aI no (al.2 h);have c3:0<m.count no->T.f no=false:=λh=>by
    have:=(d.jO no (b7.2 h)).1;have e:((T.cf bV j).f no||(T.cf bV j).g no)=(T.f no||T.g no):=rfl;rw[e]at this
    cases a9:T.f no
    .rfl
    .rw[a9]at this;cases this
   rw[ed,jl,cS,ln,jA,b7,al,c0,c1];constructor
   .rintro⟨h1|h1,k⟩
    .by_cases o:0<aL.count no
     .left;omega
     .exact .inr ⟨h1,o⟩
    .left;omega
   .rintro(h1|⟨h1,k⟩)
    .refine⟨?_,I⟩
     by_cases o:0<aL.count no
     .exact .inl (c2 o)
     .right;omega
    .refine⟨.inl h1,λo=>?_⟩
     have:0<m.count no:=by omega
     rw[c3 this]at h1;cases h1
  .have c4:(T.f no||T.g no)=true:=by rw[aj];simp
   have c5:bL.g no=true:=by rw[d.to.g];exact aj
   have h1:=hg.eG no (.inr c5);have k:=d.eG no c4;exact⟨h1.1.trans k.1,h1.2.trans k.2⟩
theorem Ch{ks:O Key}{k:Key}{i:Nat}(hs:ks.Pairwise bH)(h1:cN ks k<=i)(hi:i<ks.length)(f:ks[cN ks k]? ≠some k):bH k ks[i]:=by
 rcases ow.1 (p9 hs h1 hi) with a|a
 .exact a
 .exfalso
  rcases dH (cN ks k) i with b|b
  .have c:cN ks k<ks.length:=by omega
   have g:=p9 hs (bo _) c;have d:=mP.1 hs _ _ c hi b;rw[←a]at d;exact g d
  .have e:i=cN ks k:=by omega
   apply f;subst e;rw[c_ hi,←a]
theorem yF{n:aB}(h:gP n){i:Nat}(hi:i<=n.keys.length):∃a b c d:O Key,n.keys=a++b/\n.vals=c++d/\a.length=i/\c.length=i/\b.length=d.length/\n.keys.take i=a/\n.keys.drop i=b/\n.vals.take i=c/\n.vals.drop i=d:=by
 have e:=h.len;refine⟨n.keys.take i,n.keys.drop i,n.vals.take i,n.vals.drop i,(hF i _).symm,(hF i _).symm,?_,?_,?_,rfl,rfl,rfl,rfl⟩
 .rw[cv];omega
 .rw[cv];omega
 .rw[c5,c5];omega
def kf(k v:Key):Nat:=2+k.length+v.length
theorem qs{n:aB}(h:n.leaf=true):bI n=1+(List.zipWith kf n.keys n.vals).sum:=by
 unfold bI;rw[if_pos h,k6 h];rfl
theorem He{n:aB}{k v:Key}(h:gP n)(C:cB k)(D:v.length<=24):gP (g_ n k v)/\(g_ n k v).dJ=eO n.dJ k v/\bI (g_ n k v)<=bI n+50/\(g_ n k v).keys≠ []/\n.keys.length<=(g_ n k v).keys.length/\(∀s∈(g_ n k v).keys,s=k\/s∈n.keys):=by
 have hlen:=h.len;have E:=p8 n.keys k;have K:n.dJ=n.keys.zip n.vals:=rfl;have F:=h.e_;have G:∀ (j:Nat) (m:j<n.keys.length),j<cN n.keys k->bH n.keys[j] k:=λj m h1=>oz h1 m;have H:n.keys[cN n.keys k]? ≠some k->∀ (j:Nat) (m:j<n.keys.length),cN n.keys k<=j->bH k n.keys[j]:=λhe j m h1=>Ch F h1 m he;rw[K,Fi h.e_];unfold g_ g9;generalize hi:cN n.keys k=i at E G H⊢;obtain⟨a,b,c,d,g,t,L,M,N,p,q,w,A⟩:=yF h E;have f:n.keys.zip n.vals=a.zip c++b.zip d:=by rw[g,t];exact oy I
 have u:(a.zip c).length=i:=by rw[mM];omega
 by_cases he:n.keys[i]? =some k
 .rw[if_pos (by simpa using he),if_pos he]
  have O:∃o,b=k::o:=by
   cases b with
   |nil=>rw[g,ko I]at he;simp at he
   |cons y o=>
    rw[g,ko I,L,lW]at he;simp at he;exact⟨o,by rw[he]⟩
  obtain⟨o,rfl⟩:=O;obtain⟨x,l,rfl⟩:∃x l,d=x::l:=by
   cases d with
   |nil=>simp at N
   |cons x l=>exact⟨x,l,rfl⟩
  have J:n.vals.set i v=c++v::l:=by
   rw[t,sJ _ _ I,M,lW];rfl
  refine⟨⟨⟨h.ok,h.e_⟩,h.leaf,by simp[hlen],h.kids,λz f=>?_⟩,?_,?_,λe=>by have e:n.keys=[]:=e;rw[e]at g;simp at g,bo _,λs hs=>.inr hs⟩
  .rcases lv f with h1|h1
   .exact h.vals z h1
   .rw[h1];exact D
  .show n.keys.zip (n.vals.set i v)=_
   rw[J,f,g,oy I,mo u];have P:(a.zip c++(k::o).zip (x::l)).drop (i+1)=o.zip l:=by
    rw[List.zip_cons_cons,show a.zip c++(k,x)::o.zip l=(a.zip c++ [(k,x)])++o.zip l by simp];exact drop_left' (by simp only[cx,u,iS])
   rw[P];rfl
  .rw[qs h.leaf,qs (n:={n with vals:=n.vals.set i v}) h.leaf]
   show 1+(List.zipWith kf n.keys (n.vals.set i v)).sum<=_;rw[J,g,t,o9 I,o9 I,lr,lr,List.zipWith_cons_cons,List.zipWith_cons_cons,qQ,qQ];unfold kf;omega
 .rw[if_neg (by simpa using he),if_neg he]
  have Q:=H he;refine⟨⟨⟨λz f=>?_,?_⟩,h.leaf,?_,h.kids,λz f=>?_⟩,?_,?_,λe=>?_,?_,λs hs=>?_⟩
  .have f:z∈n.keys.take i++ [k]++n.keys.drop i:=f
   simp only[cR,fi]at f;rcases f with (f|rfl)|f
   .exact h.ok z (fe f)
   .exact C
   .exact h.ok z (e6 f)
  .show(n.keys.take i++ [k]++n.keys.drop i).Pairwise bH
   rw[p,q];have R:(a++b).Pairwise bH:=by rw[←g];exact F
   obtain⟨au,B,S⟩:=mL.1 R;have T:∀x∈a,bH x k:=λx hx=>by
    obtain⟨j,m,rfl⟩:=eY hx;have:=G j (by rw[g,cx];omega) I;simp only[g,l0 m]at this;exact this
   have U:∀y∈b,bH k y:=λy r=>by
    obtain⟨j,m,rfl⟩:=eY r;have:=Q (i+j) (by rw[g,cx];omega) I;have e:(a++b)[i+j]'(by rw[cx];omega)=b[j]:=by
     rw[nH I];congr 1;omega
    simp only[g,e]at this;exact this
   rw[cD];refine mL.2 ⟨au,?_,λx hx y r=>?_⟩
   .exact jD.2 ⟨U,B⟩
   .rcases cU.1 r with rfl|r
    .exact T x hx
    .exact S x hx y r
  .show(n.vals.take i++ [v]++n.vals.drop i).length=(n.keys.take i++ [k]++n.keys.drop i).length
   rw[p,q,w,A];simp only[cx,iS];omega
  .have f:z∈n.vals.take i++ [v]++n.vals.drop i:=f
   simp only[cR,fi]at f;rcases f with (f|rfl)|f
   .exact h.vals z (fe f)
   .exact D
   .exact h.vals z (e6 f)
  .show(n.keys.take i++ [k]++n.keys.drop i).zip (n.vals.take i++ [v]++n.vals.drop i)=_
   rw[p,q,w,A,f,mo u,drop_left' u,cD,cD,oy I];rfl
  .rw[qs h.leaf,qs (n:={n with keys:=n.keys.take i++ [k]++n.keys.drop i,vals:=n.vals.take i++ [v]++n.vals.drop i}) h.leaf]
   show 1+(List.zipWith kf (n.keys.take i++ [k]++n.keys.drop i) (n.vals.take i++ [v]++n.vals.drop i)).sum<=_;have au:(List.zipWith kf (a++ [k]++b) (c++ [v]++d)).sum=(List.zipWith kf a c).sum+(kf k v+(List.zipWith kf b d).sum):=by
    rw[cD,cD,o9 I,lr];rfl
   have B:(List.zipWith kf (a++b) (c++d)).sum=(List.zipWith kf a c).sum+(List.zipWith kf b d).sum:=by
    rw[o9 I,lr]
   rw[p,q,w,A,g,t,au,B];have:=C.2;unfold kf;omega
  .have e:n.keys.take i++ [k]++n.keys.drop i=[]:=e
   simp at e
  .show n.keys.length<=(n.keys.take i++ [k]++n.keys.drop i).length
   rw[p,q,g];simp only[cx,iS];omega
  .have hs:s∈n.keys.take i++ [k]++n.keys.drop i:=hs
   simp only[cR,fi]at hs;rcases hs with (hs|rfl)|hs
   .exact .inr (fe hs)
   .exact .inl rfl
   .exact .inr (e6 hs)
def Ci(T:aM)(aL:O Nat)(dY:O aJ)(w:J)(v:aa)(w':J):Prop:=
 ∃ao:aM,bM w' ao/\bO T ao w w' 100/\ao.E=T.E/\ao.G=T.G/\
  ((v=.int .i64 2/\cg T<2*T.aG+3/\ao=T)\/
   (v=.int .i64 0/\2*T.aG+3<=cg T/\(∃pages,cg T<=cg ao+(2*T.aG+3)/\gj ao pages dY/\pages.Nodup/\(∀no∈pages,no∈aL\/(T.f no||T.g no)=false)/\∀no,ao.f no=true↔(no∈pages\/(T.f no=true/\no∉aL)))/\∀no,T.g no=true->ao.P no=T.P no/\ao.C.view no=T.C.view no)\/
   (v=.int .i64 3/\¬T.C.D.calm 100/\ao.root=T.root/\ao.aG=T.aG/\ao.f=T.f/\∀no,(T.f no||T.g no)=true->ao.P no=T.P no/\ao.C.view no=T.C.view no))
theorem wa.ad{T:aM}{aE:b1}{aL:O Nat}{dY:O aJ}{w w1 w':J}{v:aa}{k:Nat}(h:wa (T.bk aE T.P) aL dY w1 v w')(e:bO T (T.bk aE T.P) w w1 k)(s:k<=40)(f:∀j,aE.view j=T.C.view j)(i:2*T.aG+3<=cg T):Ci T aL dY w v w':=by
 obtain⟨ao,h1,l,m,n,o⟩:=h;refine⟨ao,h1,(e.trans l).mono I,m,n,?_⟩;have p:cg (T.bk aE T.P)=cg T:=rfl;have q:(T.bk aE T.P).aG=T.aG:=rfl;rcases o with ⟨_,b,_⟩|⟨rfl,b,d,c⟩|⟨rfl,b,d,c,r,g⟩
 .rw[p,q]at b;omega
 .exact .inr (.inl ⟨rfl,i,d,λno a=>⟨(c no a).1,(c no a).2.trans (f no)⟩⟩)
 .exact .inr (.inr ⟨rfl,λhc=>b (e.calm 60 (ga hc I)),d,c,r,λno a=>⟨(g no a).1,(g no a).2.trans (f no)⟩⟩)
theorem m5(w:J)(s:U):aP ai 141 #[s] w (λv w'=>v=.bool (decide (1<=s.len/\s.len<=24))/\w=w'):=by
 refine okF (af.m5 s) ay.m5 func141 ?_;unfold af.m5;refine⟨?_,rfl⟩
 congr 1
 rw[fW,ed,cS,cS,cS];omega
theorem yG{T:aM}{w:J}{pages:O Nat}{L:O aJ}{k:Key}(h:bM w T)(l:gj T pages L):∃steps,nv T.P k T.aG T.root steps/\
 ((steps=[]/\T.aG=0/\pages=[]/\L=[])\/(∃ (a:Nat) (bS:aB) (fa dK:aq Key) (b:O (Nat×aB×Nat)) (f:O Nat) (c d:O aJ),steps=b++ [(a,bS,0)]/\Ctx T.P k T.aG 1 fa dK b f c d/\T.P a=some bS/\gP bS/\bS.within fa dK/\bS.keys≠ []/\(b≠ []->2<=bS.keys.length)/\fk fa dK k/\
   pages.Perm (a::f)/\L=c++(bS.dJ++d)/\∀u,Loc k u->u L=c++(u bS.dJ++d))):=by
 rcases l with ⟨h1,x,m,n⟩|g
 .exact⟨[],by rw[h1];rfl,.inl ⟨rfl,h1,m,n⟩⟩
 .cases i:T.aG with
  |zero=>rw[i]at g;exact g.elim
  |succ t=>
   rw[i]at g;obtain⟨rest,b,a,bS,fa,dK,f,c,d,r1,bX,ag,bw,bc,o,p,q,r,j,s,v⟩:=Ctx.down (P:=T.P) (k:=k) (top:=t+1) (aX:=L) .top g (λh=>absurd rfl h) ⟨λ_ e=>(by cases e),λ_ e=>(by cases e)⟩ (by simp) (λu _=>by simp);rw[iR]at bX;rw[fQ]at j;exact⟨rest,r1,.inr ⟨a,bS,fa,dK,b,f,c,d,bX,ag,bw,bc,o,p,q,r,j,s,v⟩⟩
theorem gj.low{T:aM}{pages:O Nat}{L:O aJ}(h:gj T pages L)(d:L.length<4096):T.aG<12/\pages.length<=L.length:=by
 rcases h with ⟨h1,_,a,_⟩|b
 .rw[h1,a];exact⟨I,cE _⟩
 .obtain⟨au,e,c⟩:=b.pages
  refine⟨?_,au⟩;rcases dH T.aG 12 with h|h
  .exact h
  .have f:=c I
   have g:2^12<=2^T.aG:=sE (by decide) h;have i:(2:Nat)^12=4096:=by decide
   omega
theorem Cj{w1:J}{T:aM}{aE:b1}{pages:O Nat}{L dY:O aJ}{k:Key}{steps:O (Nat×aB×Nat)}{s:U}{a:O dD}{bS b:aB}{K V D:U}(h:bM w1 (T.bk aE T.P))(N:¬aE.D.ro)(Q:gj T pages L)(R:L.length<4096)(c6:pages.Nodup)(hf:∀x∈pages,T.f x=true)(m:aE.D.aN<=900000000)
 (g:a.map dD.st=steps) (o:ke (λq=>¬(T.bk aE T.P).M q) w1 s a) (S:bz (λq=>¬(T.bk aE T.P).M q) w1 b K V D) (p:gP b) (W:(steps=[]/\T.aG=0/\pages=[]/\b.keys≠ []/\bI b<=232/\b.dJ=dY)\/(∃ (d:Nat) (fa dK:aq Key) (c:O (Nat×aB×Nat)) (i:O Nat) (j l:O aJ),steps=c++ [(d,bS,0)]/\Ctx T.P k T.aG 1 fa dK c i j l/\b.within fa dK/\(c≠ []->b.keys≠ [])/\pages.Perm (d::i)/\dY=j++(b.dJ++l)/\bI b<=282)):
 aP ai 150 #[.pointer (some T.aY),s,cX b K V D] w1 (wa (T.bk aE T.P) pages dY w1):=by
 obtain⟨r,am⟩:=Q.low R;refine Hd h N m r c6 hf I λbV t ah aR u v X w y=>?_;have Y:s.len=a.length:=by
  have:=o.own.1;rw[gn _ (nu a)]at this;omega
 have z:bz (λq=>¬((T.bk aE T.P).cf bV t).M q) ah b K V D:=(v.bm (lo:=0) (S.aW λq _ n=>⟨cE _,n⟩)).aW λq _ n=>n.2;rcases W with ⟨h1,an,Z,aa,ab,ac⟩|⟨d,fa,dK,c,i,j,l,C,E,ad,ae,F,af,ag⟩
 .subst h1 Z
  have aj:a=[]:=by simpa using g
  exact Hb (by rw[Y,aj];rfl) u z m (by
   have e:cg ((T.bk aE T.P).cf bV t)=cg (T.bk aE T.P):=rfl;omega) (by rw[w];simp) y p aa ab ac
 .have hlen:a.length=c.length+1:=by
   have:=congrArg List.length g;rw[C,dL,cx,iS]at this;exact this
  have ao:1+c.length=T.aG:=E.eK;have ak:=o.to v;have G:(a.take (a.length-1)).map dD.st=c/\(a[a.length-1]'I).no=d:=by
   rw[C]at g;have au:(a.take (a.length-1)).map dD.st=(c++ [(d,bS,0)]).take (a.length-1):=by rw[←g,mN]
   refine⟨by rw[au];exact mo I,?_⟩;have H:(a.map dD.st)[a.length-1]? =some (d,bS,0):=by
    rw[g,ko I];have:a.length-1-c.length=0:=by omega
    rw[this];rfl
   rw[kn,c_ I]at H;have al:=Option.some.inj H;exact congrArg Prod.fst al
  refine Ha (k:=k) (dX:=i) (A:=j) (B:=l) (M:=b.dJ) (lo:=fa) (hi:=dK) u ak z I (by show a.length=T.aG;omega) r m X (by rw[w];simp) (by rw[y];simp) ?_ ⟨p,ad,rfl,rfl⟩ af.symm ?_ ag (λh=>ae λe=>?_) λx hx=>?_
  .rw[G.1]
   have:a.length=T.aG:=by omega
   rw[this];exact E
  .rw[G.2];exact F
  .rw[e]at hlen;simp at hlen;omega
  .exact hf x (F.mem_iff.2 (jV _ hx))
theorem ke.ext'{B C:Nat->Prop}{w w':J}{s:U}{l:O dD}(h:ke B w s l)(hx:Ext w w')(a:∀q,B q->C q):ke C w' s l:=
 ⟨h.own.ext hx,λq b=>a q (h.oR q b),λx c=>((h.bm x c).ext hx).aW λq _ d=>a q d⟩
theorem qt{a:O dD}{b:O (Nat×aB×Nat)}{c:Nat}{bp:aB}(d:a.map dD.st=b++ [(c,bp,0)]):∃h:0<a.length,(a[a.length-1]'I).n=bp:=by
 have hlen:a.length=b.length+1:=by
  have:=congrArg List.length d;rw[dL,cx,iS]at this;exact this
 refine⟨I,?_⟩;have e:(a.map dD.st)[a.length-1]? =some (c,bp,0):=by
  rw[d,ko I];have:a.length-1-b.length=0:=by omega
  rw[this];rfl
 rw[kn,c_ I]at e;exact congrArg (λx=>x.2.1) (Option.some.inj e)
theorem Hf{w:J}{T:aM}{pages:O Nat}{L:O aJ}{tk dg:U}{key val:Key}(h:bM w T)(a9:¬T.C.D.ro)(Q:gj T pages L)(aw:L.length<4096)(c6:pages.Nodup)(hf:∀x∈pages,T.f x=true)(b5:T.C.D.aN<=800000000)
 (R:Src 1 w tk (aF key)) (S:∀q,az tk q->q<w.heap.size/\¬T.M q) (ax:Src 1 w dg (aF val)) (a_:∀q,az dg q->q<w.heap.size/\¬T.M q):
 aP ai 85 #[.pointer (some T.aY),tk,dg] w (λv w'=>(v=.int .i64 1/\¬(cB key/\val.length<=24)/\w=w')\/(cB key/\val.length<=24/\Ci T pages (eO L key val) w v w')):=by
 have ba:=len8 R;have aC:=len8 ax;refine okF (af.ur (some T.aY) tk dg) ay.ur func85 ?_;(delta af.ur ak aK r1 aA av b8 cp Y bc ag rz iG;dsimp only);refine cm (λb w'=>b= !(decide (cB key))/\w=w') (λq c=>⟨λh=>(by cases h),λ_=>(m5 w tk).use ?_⟩) ?_
 .rintro _ _ ⟨rfl,rfl⟩
  refine⟨_,rfl,c _ _ ⟨?_,rfl⟩⟩;unfold cB;rw[ba]
 rintro _ _ ⟨rfl,rfl⟩;refine⟨λd=>.inl ⟨rfl,λhg=>?_,rfl⟩,λd=>?_⟩
 .rw[dw hg.1,aC]at d
  have:¬(val.length:Int)>24:=by have:=hg.2;omega
  simp[this]at d
 have hg:cB key/\val.length<=24:=by
  by_cases h1:cB key
  .refine⟨h1,?_⟩
   rw[dw h1,aC]at d;have:¬(val.length:Int)>24:=by simpa using d
   omega
  .rw[hG h1]at d;simp at d
 have b7:=h.s.bp;obtain⟨b9,b_⟩:=Q.low aw;have aD:Ext w w.drew:=b6 w;have hd:=h.ext aD;refine aS ⟨λ_=>False,_,rfl,id,_,hd.cells.2.1,_,rfl,id,_,hd.cells.2.2.2.2,(yn hd.s).use ?_⟩;rintro _ ca ⟨rfl,aH⟩;have bb:((T.n:Int)-eS (λi=>T.f i||T.g i) T.n)=(cg T:Nat):=by
  have:=my (λi=>T.f i||T.g i) T.n;unfold cg;omega
 have bd:IntKind.wrap .i64 (IntKind.wrap .i64 (2*(T.aG:Int))+3)=((2*T.aG+3:Nat):Int):=by
  rw[bu (n:=2*(T.aG:Int)) I I,bu I I];omega
 rw[bb,bd];have o:=aD.trans aH;have W:=h.ext o;refine⟨_,rfl,aH,λd=>.inr ⟨hg.1,hg.2,T,W,(bO.ext T o).mono I,rfl,rfl,.inl ⟨rfl,?_,rfl⟩⟩,λd=>?_⟩
 .have d:((cg T:Nat):Int)<((2*T.aG+3:Nat):Int):=b2 d
  omega
 have be:2*T.aG+3<=cg T:=by
  have:¬((cg T:Nat):Int)<((2*T.aG+3:Nat):Int):=cr d;omega
 obtain⟨steps,aI,aL⟩:=yG (k:=key) W Q;refine(yr W I (R.ext o) (λq c=>⟨fO (S q c).1 o.size,(S q c).2⟩) aI).use ?_;rintro _ E ⟨aE,X,Z,aO,bf⟩;have y:=((bO.ext T o).trans Z).mono (l:=2*T.aG) I;rcases bf with ⟨s,a,rfl,m,aa⟩|⟨rfl,bi⟩
 rotate_left
 .refine⟨⟨none,0,0⟩,3,rfl,λ_=>.inr ⟨hg.1,hg.2,T.bk aE T.P,X,y.mono I,rfl,rfl,.inr (.inr ⟨rfl,λhc=>bi (ga hc I),rfl,rfl,rfl,λno _=>⟨rfl,aO no⟩⟩)⟩,λhx=>(by cases hx)⟩
 have cb:s.len=a.length:=by
  have:=aa.own.1;rw[gn _ (nu a)]at this;omega
 have cd:=o.size;have ce:a.length=T.aG:=by
  have:=aI.length;rw[←m,dL]at this;exact this
 refine⟨s,0,rfl,λhx=>(by cases hx),λ_=>bh (vs:=[false,(),(),()]) rfl λcf aQ bj ch=>⟨aQ.cc rfl (fC (b:=true) (K:=bg) (V:=bg) (D:=bg)),rfl,cy aQ (us:=dQ ⟨true,[],[],[]⟩ bg bg bg) rfl rfl λbn F bq ci=>?_⟩⟩;have ab:Ext E bn:=Ext.cu bj bq (bo _);obtain⟨hA,bs⟩:∃hA,hA=E.heap.size:=⟨_,rfl⟩;rw[←bs]at F⊢
 obtain⟨bS,j⟩:∃bS:aB,bS=(if cj:0<a.length then (a[a.length-1]'I).n else ⟨true,[],[],[]⟩):=⟨_,rfl⟩;refine hL (λp=>∃ (K V D:U) (B:Nat->Prop),Ext E p/\Var p hA (dQ bS K V D) 202/\bz B p bS K V D) (λq c=>⟨λac=>?_,λac=>?_⟩) ?_
 .have ae:0<a.length:=by
   have:(s.len:Int)>0:=b2 ac;omega
  rw[dif_pos ae]at j;have e:IntKind.wrap .i64 ((s.len:Int)-1)=((a.length-1:Nat):Int):=by rw[bu I I];omega
  obtain⟨A,ar,_,_,_,hu⟩:=aa.at (i:=a.length-1) I;have G:=hu.ext ab;rw[e,c8];subst j;refine⟨A,ar,⟨I,I⟩,_,G.aA,_,G.aR,_,G.aK,_,G.de,F.cc rfl fC,rfl,cy F (us:=dQ (a[a.length-1]'I).n (a[a.length-1]'I).K (a[a.length-1]'I).V (a[a.length-1]'I).D) rfl rfl λbv bx bA ck=>?_⟩;have aT:Ext E bv:=Ext.cu ab bA I;exact c _ ⟨_,_,_,_,aT,bx,hu.bm.ext aT⟩
 .have ae:¬0<a.length:=by
   have:¬(s.len:Int)>0:=cr ac;omega
  rw[dif_neg ae]at j;subst j;exact c _ ⟨bg,bg,bg,λ_=>True,ab,F,bl.none _ _,bl.none _ _,cI.none _ _⟩
 rintro p ⟨K,V,D,B,H,bB,bD⟩;have cl:=H.size;have cn:=Z.ad.size
 have bE:gP bS/\bI bS<=232:=by
  rcases aL with ⟨h1,r,t,u⟩|⟨aU,bp,fa,dK,aV,aX,aZ,a0,bX,ag,bw,bc,a1,bF,bG,a2,a3,bH,a4⟩
  .have ah:¬0<a.length:=by
    rw[h1]at m;have:a=[]:=by simpa using m
    rw[this];simp
   rw[j,dif_neg ah];exact⟨⟨⟨λ_ h=>(by cases h),List.Pairwise.nil⟩,rfl,rfl,rfl,λ_ h=>(by cases h)⟩,by decide⟩
  .rw[bX]at m
   obtain⟨au,aj⟩:=qt m;rw[j,dif_pos au,aj];exact⟨bc,h.nw _ _ bw⟩
 obtain⟨al,co⟩:=bE;have cs:=(cF.eQ (.inl al) I);have ct:∀q,T.N q->q<w.heap.size:=λq c=>h.lt (aM.gh c);have bJ:Src 1 p tk (aF key):=(R.ad y.ad λq c am=>(S q c).2 (aM.gh am)).ext H;have bL:Src 1 p dg (aF val):=(ax.ad y.ad λq c am=>(a_ q c).2 (aM.gh am)).ext H;obtain⟨d0,d1,d2,d3⟩:=bC bB;refine⟨_,d0,K,d1,V,d2,D,d3,(pR bD al I bJ bL hg.1 hg.2).use ?_⟩;rintro _ bN ⟨cG,cO,cq,rfl,bP,bQ⟩;refine⟨_,cG,cO,cq,true,rfl,bh (vs:=[false,(),(),()]) rfl λcv a5 bR cw=>⟨a5.cc rfl fC,rfl,cy a5 (us:=dQ (g_ bS key val) cG cO cq) rfl rfl λa6 bT bU cx=>⟨λhx=>(by cases hx),λ_=>?_⟩⟩⟩;have a7:Ext bN a6:=Ext.cu bR bU (bo _);have an:=(H.trans bQ).trans a7;obtain⟨d0,d1,d2,d3⟩:=bC bT;obtain⟨br,bt,bV,ap,bW,a8⟩:=He al hg.1 hg.2;have bY:aE.D.aN<=900000000:=by
  have:aE.D.aN<=T.C.D.aN+2*T.aG:=y.aN;omega
 have bZ:bz (λq=>¬(T.bk aE T.P).M q) a6 (g_ bS key val) cG cO cq:=(bP.ext a7).aW λq _ c b0=>by have:=X.lt b0;omega
 have b1:=Cj (dY:=eO L key val) (k:=key) (steps:=steps) (bS:=bS) (X.ext an) (λe=>a9 λi=>Z.bK.1▸e i) Q aw c6 hf bY m (aa.ext' an λq c=>c.2) bZ br (by
  rcases aL with ⟨h1,r,t,u⟩|⟨aU,bp,fa,dK,aV,aX,aZ,a0,bX,ag,bw,bc,a1,bF,bG,a2,a3,bH,a4⟩
  .have ah:¬0<a.length:=by omega
   rw[dif_neg ah]at j;refine .inl ⟨h1,r,t,ap,?_,?_⟩
   .have:bI bS=1:=by rw[j];rfl
    omega
   .rw[bt,j,u];rfl
  .rw[bX]at m
   obtain⟨au,aj⟩:=qt m;rw[dif_pos au,aj]at j;rw[j]at bt bV ap bW a8⊢;refine .inr ⟨aU,fa,dK,aV,aX,aZ,a0,bX,ag,λs hs=>?_,λ_=>ap,a3,?_,by have:=h.nw _ _ bw;omega⟩
   .rcases a8 s hs with rfl|aq
    .exact a2
    .exact a1 s aq
   .rw[bt];exact a4 (λL=>eO L key val) (E8 key val))
 refine⟨_,d0,cG,d1,cO,d2,cq,d3,b1.use ?_⟩;intro v w' b3;have b4:=b3.ad (w:=w) ((y.trans (bO.ext (T.bk aE T.P) an)).mono (l:=40) I) (bo _) aO be;obtain⟨ao,h1,r,t,u,aq⟩:=b4;rcases aq with ⟨rfl,z⟩|⟨rfl,z⟩|⟨rfl,z⟩
 .exact⟨2,rfl,.inr ⟨hg.1,hg.2,ao,h1,r,t,u,.inl ⟨rfl,z⟩⟩⟩
 .exact⟨0,rfl,.inr ⟨hg.1,hg.2,ao,h1,r,t,u,.inr (.inl ⟨rfl,z⟩)⟩⟩
 .exact⟨3,rfl,.inr ⟨hg.1,hg.2,ao,h1,r,t,u,.inr (.inr ⟨rfl,z⟩)⟩⟩
end Go.Proofs.YtkdhdlfonmgheaaGreat
