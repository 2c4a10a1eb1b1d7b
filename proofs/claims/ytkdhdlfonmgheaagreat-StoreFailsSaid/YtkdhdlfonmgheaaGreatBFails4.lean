/- Contracts of the functions that the statement reaches, and the plain laws over them; each theorem stands with its conditions. -/
import Derived.Laws.Small
import Derived.Test.YtkdhdlfonmgheaaGreatBFails3
namespace Go.Proofs.YtkdhdlfonmgheaaGreat
open Go a7 Go.Proofs.Tryz
theorem GS(w:J)(x:Int):Sem.run aj (Instr.buildSlice 326 1 #[(0,.agg #[(),x])]) w=
 .ok (.slice (some w.heap.size) 1 1) (w.alloc (.cells #[(),x] 334)):=by kernel_rfl
theorem GU(w:J)(x y:Int)(t:Y):Sem.run aj (Instr.buildSlice 326 2 #[(0,.agg #[(),x]),(1,.agg #[t,y])]) w=
 .ok (.slice (some w.heap.size) 2 2) (w.alloc (.cells #[(),x,t,y] 334)):=by kernel_rfl
theorem cH.xo{n:aD}(h:cH n)(h1:1<=cm n)(h2:if n.leaf then cm n<=n.keys.length-1/\1<=n.keys.length-1 else cm n<=n.keys.length-2/\1<=n.keys.length-2):cH (n.left (cm n))/\cH (n.right (cm n)):=by
 rcases h with h|h
 .have a:=h.leaf
  rw[if_pos a]at h2;unfold aD.left aD.right;rw[if_pos a,if_pos a];have hlen:=h.len;refine⟨.inl ⟨⟨λk b=>h.ok k (fp b),h.fb.sublist (List.take_sublist _ _)⟩,rfl,?_,rfl,λv c=>h.vals v (fp c)⟩,.inl ⟨⟨λk b=>h.ok k (fg b),h.fb.sublist (List.drop_sublist _ _)⟩,rfl,?_,rfl,λv c=>h.vals v (fg c)⟩⟩
  .simp only[cC];omega
  .simp only[c_];omega
 .have a:=h.inner
  rw[if_neg (by rw[a];simp)]at h2;unfold aD.left aD.right;rw[if_neg (by rw[a];simp),if_neg (by rw[a];simp)];have hlen:=h.len;refine⟨.inr ⟨⟨λk b=>h.ok k (fp b),h.fb.sublist (List.take_sublist _ _)⟩,rfl,?_,?_,rfl,λv c=>h.kids v (fp c)⟩,.inr ⟨⟨λk b=>h.ok k (fg b),h.fb.sublist (List.drop_sublist _ _)⟩,rfl,?_,?_,rfl,λv c=>h.kids v (fg c)⟩⟩
  .intro e
   have:=congrArg List.length e;simp only[cC,jD]at this;omega
  .simp only[cC];omega
  .intro e
   have:=congrArg List.length e;simp only[c_,jD]at this;omega
  .simp only[c_];omega
def k8(B:Nat->Prop)(w:J)(s:Y)(ks:O Key)(kids:O Nat):Prop:=
 (∃b x,s=⟨some ⟨b,0,none⟩,1,1⟩/\ks=[]/\kids=[x]/\Var w b [.slice none 0 0,.int .i64 (x:Nat)] 334/\B b)\/
 (∃b x y k t,s=⟨some ⟨b,0,none⟩,2,2⟩/\ks=[k]/\kids=[x,y]/\Var w b [.slice none 0 0,.int .i64 (x:Nat),.slice t.a t.len t.cap,.int .i64 (y:Nat)] 334/\B b/\a6 B w t k/\k≠ [])
def h4(T:aN)(c:dI)(n:aD)(w:J)(v:aa)(w':J):Prop:=
 ∃ (ao:aN) (c':dI) (m:O Nat) (s:Y),dr w' ao c'/\dt T ao c c' m [] w w' 2/\m.length<=2/\
  ((∃ks,v=.tuple #[s,(0:Int)]/\mc ao.P n ks m/\k8 (λq=>¬ao.M q) w' s ks m)\/(v=.tuple #[s,(3:Int)]/\¬T.C.D.calm 2))
theorem B0{B:Nat->Prop}{w:J}{T:aN}{c:dI}{n:aD}{K V D:Y}(h:dr w T c)(k:T.C.D.aR<=900000100)(l:1<=cl T)(m:c.made.length<=1000)(o:bC B w n K V D)(hs:cH n)(h2:bJ n<=232):
 aQ aj 251 #[.pointer (some c.cb),c0 n K V D] w (h4 T c n w):=by
 refine okF (af.uS (some c.cb) n.leaf K V D) aA.uS func251 ?_;(delta af.uS a_ U ag eP;dsimp only);refine bj (vs:=[n.leaf,K,V,D]) rfl λw1 p b y=>?_;obtain⟨bT,aC,aU,aM⟩:=bF p;refine⟨_,bT,K,aC,V,aU,D,aM,(vL (h.ext b) k l m (o.ext b) hs h2).use ?_⟩;rintro _ a ⟨no,ao,c',d,q,r⟩;have f:∀ (e:Int),((e=0/\ao.P no=some n)\/(e=3/\¬T.C.D.calm 1))->∃ (g:Y) (i:J),Sem.run aj (Instr.buildSlice 326 1 #[(0,.agg #[(),no])]) a=.ok g i/\h4 T c n w (.tuple #[g,e]) i:=by
  intro e he;refine⟨⟨some a.heap.size,1,1⟩,_,GS a _,?_⟩;have j:=eJ a (.cells #[(),no] 334);have s:dt T ao c c' [no] [] w (a.alloc (.cells #[(),no] 334)) 2:=(((dt.ext T c b).trans q).trans (dt.ext ao c' j)).mono I;refine⟨ao,c',[no],⟨some a.heap.size,1,1⟩,d.ext j,s,by simp,?_⟩;rcases he with ⟨rfl,he⟩|⟨rfl,he⟩
  .refine .inl ⟨[],rfl,.inl ⟨h2,no,rfl,rfl,he⟩,.inl ⟨_,no,rfl,rfl,rfl,Var.new a [(),no] 334,λu=>?_⟩⟩
   have:=d.t.lt u;omega
  .exact .inr ⟨rfl,λhc=>he (fH hc I)⟩
 rcases r with ⟨rfl,v⟩|⟨rfl,x⟩
 .exact⟨_,0,rfl,f 0 (.inl ⟨rfl,v⟩)⟩
 .exact⟨_,3,rfl,f 3 (.inr ⟨rfl,x⟩)⟩
theorem fI{b:ai}{K V D:Y}:∀v∈ [.bool b,.slice K.a K.len K.cap,.slice V.a V.len V.cap,.slice D.a D.len D.cap],Plain v:=by
 intro v c;simp only[cU,eL,eO]at c;rcases c with rfl|rfl|rfl|rfl<;>trivial
theorem GV{B:Nat->Prop}{w:J}{T:aN}{c:dI}{n:aD}{K V D:Y}(h:dr w T c)(a0:T.C.D.aR<=900000090)(a1:2<=cl T)(a2:c.made.length<=900)(ai:bC B w n K V D)(hs:cH n)(h2:232<bJ n)(a3:bJ n<=400)(h1:1<=cm n)
 (l:if n.leaf then cm n<=n.keys.length-1/\1<=n.keys.length-1 else cm n<=n.keys.length-2/\1<=n.keys.length-2) (al:bJ (n.left (cm n))<=232) (am:bJ (n.right (cm n))<=232):
 aQ aj 294 #[.pointer (some c.cb),c0 n K V D] w (h4 T c n w):=by
 obtain⟨sl,an⟩:=hs.xo h1 l;have a4:=hs.eS I;have a:cm n<n.keys.length:=by
  split at l<;>omega
 refine okF (af.u0 (some c.cb) n.leaf K V D) aA.u0 func294 ?_;(delta af.u0 a_ U ag pt ct ak eP;dsimp only);refine bj (vs:=[n.leaf,K,V,D]) rfl λw1 ao E a5=>?_;obtain⟨bT,aC,aU,aM⟩:=bF ao;refine⟨_,bT,K,aC,V,aU,D,aM,(pS (ai.ext E) hs I h1 l).use ?_⟩;rintro _ ap ⟨dd,dx,bm,cI,cP,cq,t,rfl,aq,ar,ht,au⟩;refine⟨_,dd,dx,bm,t,_,cI,cP,cq,true,rfl,bj (vs:=[false,(),(),()]) rfl λa7 av aw a8=>bj (vs:=[false,(),(),()]) rfl λa9 ax F ba=>?_⟩;have G:=av.ext F;refine⟨G.cc rfl fI,rfl,cw G (us:=[.bool (n.left (cm n)).leaf,dd,dx,bm]) rfl rfl λbb ay H bc=>?_⟩;have L:=ax.ab H I;refine⟨L.cc rfl fI,rfl,cw L (us:=[.bool (n.right (cm n)).leaf,cI,cP,cq]) rfl rfl λm az O bd=>⟨λa=>(by cases a),λ_=>?_⟩⟩;have aB:=ay.ab O I;have Q:=E.trans au;have i:Ext ap m:=Ext.cn (Ext.cn (aw.trans F) H I) O I;have o:=Q.trans i;have be:=Q.size;have bf:=i.size;obtain⟨d0,d1,d2,d3⟩:=bF aB;refine⟨_,d0,dd,d1,dx,d2,bm,d3,(vL (h.ext o) I I I (aq.ext i) sl al).use ?_⟩;rintro _ aE ⟨x,bO,R,p,b,aF⟩;have r:∀q,T.N q->q<w.heap.size:=λq d=>h.t.lt (aN.gh d);have bh:=b.to.ab.size;rcases aF with ⟨rfl,S⟩|⟨rfl,s⟩
 .have aG:=az.ab b.to.ab λd=>by have:=r _ d;omega
  obtain⟨d0,d1,d2,d3⟩:=bF aG;have aH:bC (λq=>w1.heap.size<=q) aE (n.right (cm n)) cI cP cq:=(ar.ext i).ab b.to.ab λq d u=>by have:=r _ u;omega
  have aI:bO.C.D.aR<=900000100:=eD b.to.aR (by clear p b S;omega);have aJ:=b.room;have bi:R.made.length=c.made.length+1:=by rw[b.made,cz];rfl
  simp only[iU]at aJ;have W:=vL p aI I I aH an am;rw[b.cb]at W;refine⟨x,0,rfl,λa=>(by cases a),λ_=>⟨_,d0,cI,d1,cP,d2,cq,d3,W.use ?_⟩⟩;rintro _ g ⟨y,b6,X,Z,k,aK⟩;have bk:=k.to.ab.size;have aL:=((dt.ext T c o).trans b).trans k;have aO:n.keys.getD (cm n) []=n.keys[cm n]:=by rw[fq,dE a];rfl
  have aP:=ht.ext i;have aS:a6 (λq=>¬b6.M q) g t n.keys[cm n]:=by
   rw[←aO];have aT:a6 (λq=>q<m.heap.size/\w1.heap.size<=q) m t (n.keys.getD (cm n) []):=a6.aX aP λq d a=>⟨d,a⟩;have aa:=(b.trans k).to;refine a6.aX (a6.ab aT aa.ab λq d u=>by have:=r _ u;omega) λq _ a v=>?_;rcases aa.c5 q v with ac|ac
   .have:=h.t.lt ac;omega
   .omega
  have aV:n.keys[cm n]≠ []:=by
   have aW:cv n.keys[cm n]:=by
    rcases hs with hs|hs
    .exact hs.ok _ (cE a)
    .exact hs.ok _ (cE a)
   intro e;have:=aW.1;rw[e]at this;simp at this
  have z:=eJ g (.cells #[(),x,t,y] 334);have A:=(aL.trans (dt.ext b6 X z)).mono (j:=2) I;have ad:∀ (e:Int),((e=0/\b6.P y=some (n.right (cm n)))\/(e=3/\¬bO.C.D.calm 1))->∃ (ae:Y) (ah:J),Sem.run aj (Instr.buildSlice 326 2 #[(0,.agg #[(),x]),(1,.agg #[t,y])]) g=.ok ae ah/\
   h4 T c n w (.tuple #[ae,e]) ah:=by
   intro e he;refine⟨⟨some g.heap.size,2,2⟩,_,GU g _ _ t,b6,X,[x,y],⟨some g.heap.size,2,2⟩,Z.ext z,A,by simp,?_⟩;rcases he with ⟨rfl,he⟩|⟨rfl,he⟩
   .have aY:b6.P x=some (n.left (cm n)):=by
     rw[(k.eN x (by rw[b.f];simp)).1,S]
    refine .inl ⟨[n.keys[cm n]],rfl,.inr ⟨h2,x,y,a,rfl,rfl,aY,he⟩,.inr ⟨_,x,y,_,t,rfl,rfl,rfl,Var.new g [(),x,t,y] 334,λv=>?_,a6.ext aS z,aV⟩⟩;have:=Z.t.lt v;omega
   .exact .inr ⟨rfl,λhc=>he (b.to.calm 1 (fH hc I))⟩
  rcases aK with ⟨rfl,aZ⟩|⟨rfl,s⟩
  .exact⟨_,0,rfl,ad 0 (.inl ⟨rfl,aZ⟩)⟩
  .exact⟨_,3,rfl,ad 3 (.inr ⟨rfl,s⟩)⟩
 .have A:=((dt.ext T c o).trans b).mono (j:=2) I
  exact⟨_,3,rfl,λ_=>⟨bO,R,[x],bg,p,A,by simp,.inr ⟨rfl,λhc=>s (fH hc I)⟩⟩,λa=>(by cases a)⟩
theorem vM{B:Nat->Prop}{w:J}{T:aN}{c:dI}{n:aD}{K V D:Y}(h:dr w T c)(t:T.C.D.aR<=900000090)(u:2<=cl T)(x:c.made.length<=900)(f:bC B w n K V D)(hs:cH n)(y:bJ n<=400)
 (h2:232<bJ n->1<=cm n/\(if n.leaf then cm n<=n.keys.length-1/\1<=n.keys.length-1 else cm n<=n.keys.length-2/\1<=n.keys.length-2)/\bJ (n.left (cm n))<=232/\bJ (n.right (cm n))<=232):
 aQ aj 281 #[.pointer (some c.cb),c0 n K V D] w (h4 T c n w):=by
 have A:=hs.eS I;refine okF (af.uX (some c.cb) n.leaf K V D) aA.uX func281 ?_;(delta af.uX a_ U ag aC ak b_;dsimp only);refine bj (vs:=[n.leaf,K,V,D]) rfl λw1 o p E=>?_;obtain⟨bT,aC,aU,aM⟩:=bF o;refine⟨_,bT,K,aC,V,aU,D,aM,(n_ (f.ext p) hs I).use ?_⟩;rintro _ z ⟨rfl,q⟩;have a:=p.trans q;obtain⟨d0,d1,d2,d3⟩:=bF (o.ext q);have fin:∀ (v:aa) (w':J),h4 T c n z v w'->∃s:Y,∃e:Int,v=.tuple #[s,e]/\h4 T c n w (.tuple #[s,e]) w':=by
  rintro v w' ⟨ao,c',m,s,av,ax,d,i⟩;have r:=((dt.ext T c a).trans ax).mono (j:=2) I;rcases i with ⟨ks,rfl,k⟩|⟨rfl,k⟩
  .exact⟨s,0,rfl,ao,c',m,s,av,r,d,.inl ⟨ks,rfl,k⟩⟩
  .exact⟨s,3,rfl,ao,c',m,s,av,r,d,.inr ⟨rfl,k⟩⟩
 refine⟨_,rfl,λb=>⟨_,d0,K,d1,V,d2,D,d3,?_⟩,λb=>⟨_,d0,K,d1,V,d2,D,d3,?_⟩⟩
 .have b:((bJ n:Nat):Int)>232:=b1 b
  obtain⟨av,ax,d,i⟩:=h2 I;refine(GV (h.ext a) t u x (f.ext a) hs I y av ax d i).use ?_;rintro v w' l;obtain⟨s,e,rfl,g⟩:=fin v w' l;exact⟨s,e,rfl,g⟩
 .have b:¬((bJ n:Nat):Int)>232:=cu b
  refine(B0 (h.ext a) I I I (f.ext a) hs I).use ?_;rintro v w' l;obtain⟨s,e,rfl,g⟩:=fin v w' l;exact⟨s,e,rfl,g⟩
theorem B1{B:Nat->Prop}{w:J}{s:Y}{ls:O Key}(h:bo B w s ls)(p:ls.length<=100000):
 aQ aj 284 #[s] w (λv w'=>∃b:Y,v=b/\br (λq=>(B q/\q<w.heap.size)\/(w.heap.size<=q/\aB b q)) w' b ls/\Ext w w'/\gT w b):=by
 have r:=bo.len h;obtain⟨ts,av,ax,t,u,l⟩:=h;refine okF (af.tH s) aA.tH func284 ?_;delta af.tH ak U;refine⟨λd=>?_,λ_=>?_⟩
 .have d:s.a=none:=by simpa using d
  have h0:=ax.nil d;have:ls=[]:=List.eq_nil_of_length_eq_zero (by rw[←av];have:=congrArg List.length h0;simpa using this);subst this;exact⟨⟨none,0,0⟩,rfl,br.none _ _,.refl _ _,λk e=>(fZ k e).elim⟩
 .obtain⟨b,w',h1,h2,x,j,f,_⟩:=p2.clone (cK:=127) ax (vy ts) I
  refine aW ⟨b,w',h1,b,rfl,⟨ts,av,h2,λq c=>⟨.inr ⟨f q c,c⟩,h2.lt q c⟩,λi m n=>?_⟩,j,f⟩;have a:=l i m n;exact⟨a6.aX (a6.ext (a6.aX (C:=λq=>B q/\q<w.heap.size) a λq c g=>⟨g,c⟩) j) λq _ g=>.inl g,λk e o=>by have:=f k o;have:=(a.2.2 k e).2;omega⟩
theorem k8.at{B:Nat->Prop}{w:J}{s:Y}{ks:O Key}{kids:O Nat}(h:k8 B w s ks kids):s.len=kids.length/\kids.length=ks.length+1/\kids.length<=2/\∀ (j:Nat) (d:j<kids.length),∃ (A:ae) (t:Y),s.a=some A/\w.cell? (A.add (j*2))=some (.slice t.a t.len t.cap)/\w.cell? ((A.add (j*2)).add 1)=some (.int .i64 ((kids[j]:Nat):Int))/\
 ((t.a=none/\ks.take j=ks.take (j-1))\/(t.a.isSome=true/\∃k,a6 B w t k/\ks.take j=ks.take (j-1)++ [k])):=by
 rcases h with ⟨b,x,rfl,rfl,rfl,c,e⟩|⟨b,x,y,k,t,rfl,rfl,rfl,c,e,ht,f⟩
 .refine⟨rfl,rfl,by simp,λj d=>?_⟩
  have:j=0:=by simp at d;omega
  subst this;exact⟨_,⟨none,0,0⟩,rfl,by rw[aw];exact c.cell,by rw[aw,aw];exact c.cell,.inl ⟨rfl,rfl⟩⟩
 .refine⟨rfl,rfl,by simp,λj d=>?_⟩
  rcases dJ j 1 with h1|h1
  .have:j=0:=by omega
   subst this;exact⟨_,⟨none,0,0⟩,rfl,by rw[aw];exact c.cell,by rw[aw,aw];exact c.cell,.inl ⟨rfl,rfl⟩⟩
  .have:j=1:=by simp at d;omega
   subst this;obtain⟨A,ar⟩:=a6.some ht f;exact⟨_,t,rfl,by rw[aw];exact c.cell,by rw[aw,aw];exact c.cell,.inr ⟨by rw[ar];rfl,k,ht,rfl⟩⟩
theorem k8.ext{B:Nat->Prop}{w w':J}{s:Y}{ks:O Key}{kids:O Nat}(h:k8 B w s ks kids)(hx:Ext w w'):k8 B w' s ks kids:=by
 rcases h with ⟨b,x,h1,h2,a,c,d⟩|⟨b,x,y,k,t,h1,h2,a,c,d,ht,e⟩
 .exact .inl ⟨b,x,h1,h2,a,c.ext hx,d⟩
 .exact .inr ⟨b,x,y,k,t,h1,h2,a,c.ext hx,d,a6.ext ht hx,e⟩
theorem GW{w:J}{nb o:Nat}{vs:O aa}{S t:Y}{ls:O Key}{l:Key}{B:Nat->Prop}{T:TypeId}(d:Var w nb vs T)(n:o<vs.length)(f:br B w S ls)(g:¬B nb)
 (ht:a6 B w t l) (hd:∀k,aB t k->¬aB S k) (E:ls.length<=100000) {K:J->Prop}
 (p:∀ (w':J) (ay:Y),Var w' nb (vs.set o ay) T->br (Grow B w w') w' ay (ls++ [l])->ad (λq=>q=nb\/aB S q) w w'->(∀k,aB ay k->aB S k\/w.heap.size<=k)->K w'):
 al (w.alloc (.cells #[t] 48)) λr=>∃i:Y,∃b:J,Sem.run aj (Builtin.append_ #[127,127] 127 #[S,.slice (some w.heap.size) 1 1]) r=.ok i b/\
  (∃u:aa,b.cell? (Addr.add nb o)=some u)/\b.frozen? (Addr.add nb o)=false/\al (b.setCell (Addr.add nb o) i) λs=>K s:=by
 have v:=br.aX (C:=λq=>B q\/w.heap.size<=q) f λk _ h=>.inl h;have x:=a6.aX (C:=λq=>B q\/w.heap.size<=q) ht λk _ h=>.inl h;obtain⟨c,w',av,ax,j,y⟩:=AY v x hd I λk a=>.inr a;have F:=d.lt;have z:¬aB S nb:=λh=>by
  obtain⟨ts,_,_,A,_⟩:=f;exact g (A nb h).1
 have m:=d.ab j z;obtain⟨aC,aU⟩:=dP m n;refine aW ⟨c,w',av,?_⟩;rw[aw,cB];have hc:=dp w' nb o c;refine⟨aC,aU,aW (p _ c (dT m _) ?_ ?_ y)⟩
 .have D:=br.aX (C:=Grow B w (w'.setCell ⟨nb,o,none⟩ c)) ax λk a h=>by
   rcases h with h|h
   .exact .inl h
   .exact .inr ⟨h,fP a hc.size⟩
  refine br.ab D hc λk a e=>?_;subst e;rcases a with h|h
  .exact g h
  .omega
 .exact(j.mono λk _ a=>.inr a).trans (hc.mono λk _ a=>.inl a)
def vN(B:Nat->Prop)(n:aD)(fr to:Nat)(ks:O Key)(kids:O Nat)(w:J)(v:aa)(w':J):Prop:=
 ∃K V D:Y,v=c0 (ga n fr to ks kids) K V D/\bC (λq=>B q\/w.heap.size<=q) w' (ga n fr to ks kids) K V D/\Ext w w'
def yh(nb aF e:Nat)(l:Y)(to:Int)(b7:J)(Q:aa->J->Prop):Prop:=
 ∃ (C:Int->J->Prop) (H:Int->J->Nat),C 0 b7/\∀ (n19:Int) (b:J),C n19 b->((decide ((n19:Int)<(l.len:Int)))=true->∃D:ae,l.a=some D/\((0:Int)<=n19/\n19<(l.len:Int))/\∃h:Y,b.cell? (D.add (Int.toNat n19*2))=some (.slice h.a h.len h.cap)/\∃n23:Int,b.cell? ((D.add (Int.toNat n19*2)).add 1)=some (.int .i64 n23)/\al (b.alloc (.cells #[(),(0:Int)] 334)) λI=>bA I b.heap.size [h,n23]/\(2:Nat)=2/\al (setCells I b.heap.size 0 [h,n23]) λf=>bt (λK:J->Prop=>∃i:Y,f.cell? b.heap.size=some (.slice i.a i.len i.cap)/\((!(Option.isNone i.a))=true->∃o:Y,f.cell? (Addr.add aF 1)=some (.slice o.a o.len o.cap)/\∃p:Y,f.cell? b.heap.size=some (.slice p.a p.len p.cap)/\al (f.alloc (.cells #[p] 48)) λS=>∃L:Y,∃q:J,Sem.run aj (Builtin.append_ #[127,127] 127 #[o,.slice (some f.heap.size) 1 1]) S=.ok L q/\(∃u:aa,q.cell? (Addr.add aF 1)=some u)/\q.frozen? (Addr.add aF 1)=false/\al (q.setCell (Addr.add aF 1) L) λT=>K T)/\((!(Option.isNone i.a))=false->K f)) (λ(r:J)=>∃s:Y,r.cell? (Addr.add aF 3)=some (.slice s.a s.len s.cap)/\∃n36:Int,r.cell? (Addr.add b.heap.size 1)=some (.int .i64 n36)/\al (r.alloc (.cells #[n36] 3)) λU=>∃M:Y,∃t:J,Sem.run aj (Builtin.append_ #[58,58] 58 #[s,.slice (some r.heap.size) 1 1]) U=.ok M t/\(∃u:aa,t.cell? (Addr.add aF 3)=some u)/\t.frozen? (Addr.add aF 3)=false/\al (t.setCell (Addr.add aF 3) M) λN=>C (IntKind.wrap .i64 (n19+1)) N/\H (IntKind.wrap .i64 (n19+1)) N<H n19 b))/\((decide ((n19:Int)<(l.len:Int)))=false->al (b.drew) λE=>¬False/\∃v:Y,E.cell? (Addr.add aF 1)=some (.slice v.a v.len v.cap)/\¬False/\∃c:Y,E.cell? (Addr.add nb 1)=some (.slice c.a c.len c.cap)/\((0:Int)<=(IntKind.wrap .i64 (to-1))/\(IntKind.wrap .i64 (to-1))<=(c.len:Int))/\∃O:Y,∃w:J,Sem.run aj (Builtin.append_ #[127,127] 127 #[v,.slice (aO c.a 1 (Int.toNat (IntKind.wrap .i64 (to-1))) c.cap) (c.len-(Int.toNat (IntKind.wrap .i64 (to-1)))) (c.cap-(Int.toNat (IntKind.wrap .i64 (to-1))))]) E=.ok O w/\(∃u:aa,w.cell? (Addr.add aF 1)=some u)/\w.frozen? (Addr.add aF 1)=false/\al (w.setCell (Addr.add aF 1) O) λV=>al (V.drew) λF=>¬False/\∃x:Y,F.cell? (Addr.add aF 3)=some (.slice x.a x.len x.cap)/\¬False/\∃d:Y,F.cell? (Addr.add nb 3)=some (.slice d.a d.len d.cap)/\((0:Int)<=to/\to<=(d.len:Int))/\∃P:Y,∃y:J,Sem.run aj (Builtin.append_ #[58,58] 58 #[x,.slice (aO d.a 1 (Int.toNat to) d.cap) (d.len-(Int.toNat to)) (d.cap-(Int.toNat to))]) F=.ok P y/\(∃u:aa,y.cell? (Addr.add aF 3)=some u)/\y.frozen? (Addr.add aF 3)=false/\al (y.setCell (Addr.add aF 3) P) λg=>∃G:ai,g.cell? aF=some (.bool G)/\∃j:Y,g.cell? (Addr.add aF 1)=some (.slice j.a j.len j.cap)/\∃k:Y,g.cell? (Addr.add aF 2)=some (.slice k.a k.len k.cap)/\∃m:Y,g.cell? (Addr.add aF 3)=some (.slice m.a m.len m.cap)/\bA g e [G,j,k,m]/\(4:Nat)=4/\al (setCells g e 0 [G,j,k,m]) λn=>∃R:ai,n.cell? e=some (.bool R)/\∃z:Y,n.cell? (Addr.add e 1)=some (.slice z.a z.len z.cap)/\∃A:Y,n.cell? (Addr.add e 2)=some (.slice A.a A.len A.cap)/\∃B:Y,n.cell? (Addr.add e 3)=some (.slice B.a B.len B.cap)/\Q (.agg #[R,z,A,B]) n)
structure qd(B:Nat->Prop)(lo:Nat)(nb aF a:Nat)(n:aD)(K V D:Y)(c:O aa)(w:J)(b az:Y)(bU bK:Nat->Prop)(ks:O Key)(ds:O Nat):Prop where
 eA:Var w nb [n.leaf,K,V,D] 202
 r:Var w a c 202
 o:Var w aF [false,b,(),az] 202
 k:br bU w b ks
 d:cR bK w az ds
 bl:∀q,bU q->(B q/\q<lo)\/(lo<=q/\q<w.heap.size/\q≠nb/\q≠aF/\q≠a/\¬bK q)
 aL:∀q,bK q->lo<=q/\q<w.heap.size/\q≠nb/\q≠aF/\q≠a
 mq:∀q,aB b q->lo<=q
theorem qd.ext{B:Nat->Prop}{lo nb aF b:Nat}{n:aD}{K V D:Y}{c:O aa}{w w':J}{e az:Y}{bU bK:Nat->Prop}{ks:O Key}{ds:O Nat}(h:qd B lo nb aF b n K V D c w e az bU bK ks ds)(hx:Ext w w'):qd B lo nb aF b n K V D c w' e az bU bK ks ds:=by
 have f:=hx.size;exact⟨h.eA.ext hx,h.r.ext hx,h.o.ext hx,br.ext h.k hx,cR.ext h.d hx,λq a=>(h.bl q a).imp id λh=>⟨h.1,I,h.2.2⟩,λq a=>⟨(h.aL q a).1,by have:=(h.aL q a).2.1;omega,(h.aL q a).2.2⟩,h.mq⟩
theorem GX{B:Nat->Prop}{w b7:J}{nb aF x:Nat}{n:aD}{K V D s ew D0:Y}{ak:O aa}{bU bK:Nat->Prop}{ks:O Key}{kids:O Nat}{fr to:Nat}(be:qd B w.heap.size nb aF x n K V D ak b7 ew D0 bU bK (n.keys.take fr) (n.kids.take fr))(bf:Ext w b7)
 (bg:bC B w n K V D) (aP:k8 B w s ks kids) (bh:ak.length=4) (h1:w.heap.size<=nb) (h2:w.heap.size<=aF) (G:w.heap.size<=x) (H:nb≠aF/\nb≠x/\aF≠x) (t1:1<=to) (t2:to<=n.kids.length) (t3:to-1<=n.keys.length) (bW:n.keys.length<=1000) (bw:n.kids.length<=1000):
 yh nb aF x s (to:Nat) b7 (vN B n fr to ks kids w):=by
 obtain⟨bB,bq,b2,bi⟩:=aP.at;unfold yh;refine⟨λi w'=>∃ (j:Nat) (z az:Y) (bU bK:Nat->Prop),i=j/\j<=kids.length/\Ext w w'/\qd B w.heap.size nb aF x n K V D ak w' z az bU bK (n.keys.take fr++ks.take (j-1)) (n.kids.take fr++kids.take j),λi _=>((kids.length:Int)-i).toNat,⟨0,ew,D0,bU,bK,rfl,cG _,bf,by simpa using be⟩,?_⟩;rintro _ u ⟨j,z,az,bU,bK,rfl,b3,y,h⟩;have b4:=y.size;refine⟨λaK=>?_,λau=>?_⟩
 .have aK:j<kids.length:=by
   have:(j:Int)<(s.len:Int):=b1 aK;omega
  obtain⟨A,t,ar,aC,aU,aA⟩:=(aP.ext y).at.2.2.2 j aK;refine⟨A,ar,⟨I,I⟩,t,by rw[dc];exact aC,_,by rw[dc];exact aU,?_⟩;have aA:(t.a=none/\ks.take j=ks.take (j-1))\/(t.a.isSome=true/\∃k,a6 (λq=>B q/\q<w.heap.size) u t k/\ks.take j=ks.take (j-1)++ [k]):=by
   obtain⟨b5,aQ,aR,bk,_,bm⟩:=bi j aK;rw[ar]at aR;cases aR;have e:=ad.cell y (λh=>h) bk;rw[aC]at e;injection e with e
   obtain rfl:t=aQ:=by
    cases t;cases aQ;simp at e;simp[e]
   rcases bm with h|⟨h1,k,h2,G⟩
   .exact .inl h
   .exact .inr ⟨h1,k,a6.ext (a6.aX h2 λq c f=>⟨f,c⟩) y,G⟩
  refine bj (vs:=[(),(0:Int)]) rfl λb6 aS bn b8=>?_;refine⟨aS.cc rfl ?_,rfl,cw aS (us:=[t,.int .i64 ((kids[j]:Nat):Int)]) rfl rfl λaE S bs b9=>?_⟩
  .intro v aT
   simp only[cU,eL,eO]at aT;rcases aT with rfl|rfl<;>trivial
  have al:Ext u aE:=Ext.cn bn bs (bp _);have m:=h.ext al;have b_:=al.size;have aV:=y.trans al;obtain⟨fi,bt⟩:∃fi,fi=u.heap.size:=⟨_,rfl⟩;rw[←bt]at S⊢;have ca:=S.lt;refine ij (λT=>∃ (cI:Y) (am:Nat->Prop),qd B w.heap.size nb aF x n K V D ak T cI az am bK (n.keys.take fr++ks.take j) (n.kids.take fr++kids.take j)/\Ext w T/\Var T fi [t,.int .i64 ((kids[j]:Nat):Int)] 334/\aE.heap.size<=T.heap.size) (λq c=>⟨t,S.cell,λf=>?_,λf=>?_⟩) ?_
  .rcases aA with ⟨an,_⟩|⟨_,k,ht,ac⟩
   .rw[an]at f;cases f
   obtain⟨ae,L,af,M⟩:=bF (V:=⟨none,0,0⟩) m.o;have ao:∀q,aB z q->bU q:=λq c=>by
    obtain⟨ts,_,_,G,_⟩:=m.k;exact(G q c).1
   refine⟨z,L,t,S.cell,GW (B:=λq=>bU q\/(B q/\q<w.heap.size)) m.o (o:=1) (by simp) (br.aX m.k λq _ f=>.inl f) (λf=>?_) (a6.aX (a6.ext ht al) λq _ f=>.inr f) (λq c aG=>?_) ?_ λw' ay av ax p bu=>c _ ⟨ay,Grow (λq=>bU q\/(B q/\q<w.heap.size)) aE w',?_,?_,?_,p.size⟩⟩
   .rcases f with f|f
    .rcases m.bl _ f with g|g
     .omega
     .exact g.2.2.2.1 rfl
    .omega
   .have:=(ht.2.2 q c).1.2
    have:=m.mq q aG;omega
   .rw[cz,cC,cC];omega
   .have bv:=p.size
    have C:∀q,aB z q->q<u.heap.size/\q≠nb/\q≠aF/\q≠x/\¬bK q:=λq c=>by
     have bz:=h.mq q c;rcases h.bl q (ao q c) with g|g
     .omega
     .exact g.2
    refine⟨m.eA.ab p λc=>?_,m.r.ab p λc=>?_,av,?_,cR.ab m.d p λq f c=>?_,λq f=>?_,λq f=>⟨(m.aL q f).1,by have:=(m.aL q f).2.1;omega,(m.aL q f).2.2⟩,λq c=>?_⟩
    .rcases c with e|c
     .exact H.1 e
     .exact(C _ c).2.1 rfl
    .rcases c with e|c
     .exact H.2.2 e.symm
     .exact(C _ c).2.2.2.1 rfl
    .rw[ac,←cO];exact ax
    .rcases c with e|c
     .exact(m.aL q f).2.2.2.1 e
     .exact(C q c).2.2.2.2 f
    .rcases f with (f|f)|f
     .exact(m.bl q f).imp id λg=>⟨g.1,I,g.2.2⟩
     .exact .inl f
     .refine .inr ⟨I,f.2,λe=>?_,λe=>?_,λe=>?_,λhd=>?_⟩
      .have:=m.eA.lt;omega
      .have:=m.o.lt;omega
      .have:=m.r.lt;omega
      .have:=(m.aL q hd).2.1;omega
    .rcases bu q c with g|g
     .exact h.mq q g
     .omega
   .exact Ext.dy aV p λq c=>by
     rcases c with rfl|c
     .exact h2
     .exact m.mq q c
   .refine S.ab p λc=>?_
    rcases c with e|c
    .have:=h.o.lt;omega
    .rcases h.bl _ (ao _ c) with g|g<;>omega
  .rcases aA with ⟨_,ac⟩|⟨an,_⟩
   .refine c _ ⟨z,bU,?_,aV,S,bp _⟩
    rw[ac];exact m
   .cases aY:t.a with
    |none=>rw[aY]at an;cases an
    |some A=>rw[aY]at f;cases f
  rintro T ⟨cI,am,l,aZ,a0,cb⟩;have cd:=a0.lt;obtain⟨ae,L,af,M⟩:=bF (V:=⟨none,0,0⟩) l.o;have E:∀q,aB az q->bK q:=λq c=>(l.d.2 q c).1;have bA:∀q,am q->¬(q=aF\/aB az q):=λq f c=>by
   rcases l.bl q f with g|g
   .rcases c with e|c
    .omega
    .have:=(l.aL q (E q c)).1;omega
   .rcases c with e|c
    .exact g.2.2.2.1 e
    .exact g.2.2.2.2.2 (E q c)
  have a1:IntKind.wrap .i64 ((j:Int)+1)=((j+1:Nat):Int):=by rw[bx I I];rfl
  refine⟨az,M,_,by rw[aw];exact a0.cell,(A6 (W:=λ_=>True) kids[j] l.o (o:=3) (by simp) l.d (λf=>(l.aL _ f).2.2.2.1 rfl) (by rw[cz,cC,cC];omega) λw' ay av ax p=>⟨⟨j+1,cI,ay,am,Grow bK T w',a1,I,?_,?_⟩,?_⟩).2⟩
  .exact Ext.dy aZ p λq c=>by
    rcases c with rfl|c
    .exact h2
    .exact(l.aL q (E q c)).1
  .have bv:=p.size
   refine⟨l.eA.ab p λc=>?_,l.r.ab p λc=>?_,av,?_,?_,λq f=>?_,λq f=>?_,l.mq⟩
   .rcases c with e|c
    .exact H.1 e
    .exact(l.aL _ (E _ c)).2.2.1 rfl
   .rcases c with e|c
    .exact H.2.2 e.symm
    .exact(l.aL _ (E _ c)).2.2.2.2 rfl
   .exact br.ab l.k p bA
   .rw[iy aK,←cO];exact ax
   .refine(l.bl q f).imp id λg=>⟨g.1,I,g.2.2.1,g.2.2.2.1,g.2.2.2.2.1,λhd=>?_⟩
    rcases hd with hd|hd
    .exact g.2.2.2.2.2 hd
    .omega
   .rcases f with f|f
    .exact⟨(l.aL q f).1,by have:=(l.aL q f).2.1;omega,(l.aL q f).2.2⟩
    .refine⟨by have:=aZ.size;omega,f.2,λe=>?_,λe=>?_,λe=>?_⟩
     .have:=l.eA.lt;omega
     .have:=l.o.lt;omega
     .have:=l.r.lt;omega
  .rw[a1]
   show((kids.length:Int)-((j+1:Nat):Int)).toNat<((kids.length:Int)-(j:Int)).toNat;omega
 .have au:j=kids.length:=by
   have:¬(j:Int)<(s.len:Int):=cu au;omega
  subst au;have a2:Ext u u.drew:=cj _;have h:=h.ext a2;have y:=y.trans a2;have ac:ks.take (kids.length-1)=ks:=dM I;rw[ac,iz]at h;obtain⟨ae,L,af,M⟩:=bF (V:=⟨none,0,0⟩) h.o;obtain⟨iQ,fL,dH,a3⟩:=bF h.eA;have a4:bC (λq=>B q/\q<w.heap.size) w n K V D:=bg.aX λq c f=>⟨f,c⟩;have aH:=a4.ext y;have a5:=bo.len aH.keys;have a7:=cL.len aH.kids;have a8:IntKind.wrap .i64 ((to:Int)-1)=((to-1:Nat):Int):=by rw[bx I I];omega
  have ao:∀q,aB z q->bU q:=λq c=>by
   obtain⟨ts,_,_,G,_⟩:=h.k;exact(G q c).1
  have E:∀q,aB az q->bK q:=λq c=>(h.d.2 q c).1;have a9:=bo.sub aH.keys (lo:=to-1) (hi:=n.keys.length) t3 (bp _);have bD:(n.keys.drop (to-1)).take (n.keys.length-(to-1))=n.keys.drop (to-1):=dM (by rw[c_];exact bp _);rw[bD]at a9;obtain⟨N,ag,bH,bI,U⟩:=xS h.k a9 (λq c aG=>by have:=h.mq q aG;omega) (by rw[cz,cC];omega) (by rw[c_];omega);have ce:u.drew.heap.size=u.heap.size:=rfl;have C:∀q,aB z q->q<u.drew.heap.size/\q≠nb/\q≠aF/\q≠x/\¬bK q:=λq c=>by
   have bz:=h.mq q c;rcases h.bl q (ao q c) with g|g
   .omega
   .exact g.2
  have cf:=U.size;have bJ:Ext w ag:=Ext.dy y U λq c=>h.mq q c;have a_:=h.o.ab U λc=>(C _ c).2.2.1 rfl;have bL:=h.eA.ab U λc=>(C _ c).2.1 rfl;have bM:=h.r.ab U λc=>(C _ c).2.2.2.1 rfl;have bN:cR bK ag az _:=cR.ab h.d U λq f c=>(C q c).2.2.2.2 f;obtain⟨bE,bG⟩:=dP a_ (i:=1) (by simp);refine aW ⟨id,z,L,id,K,fL,?_,N,ag,?_,by rw[aw];exact bE,by rw[aw];exact bG,?_⟩
  .rw[a8,a5];omega
  .rw[a8,dc,a5];exact bH
  rw[aw,cB];have P:=dp ag aF 1 N;have ai:=dT a_ (i:=1) N;obtain⟨F,bO⟩:∃F,F=ag.setCell ⟨aF,1,none⟩ N:=⟨_,rfl⟩;rw[←bO]at P ai⊢;have cg:=P.size;have aI:=bL.ab P (λe=>H.1 e);have aJ:=bM.ab P (λe=>H.2.2 e.symm);have aM:cR bK F az _:=cR.ab bN P λq f e=>(h.aL q f).2.2.2.1 e;have aj:Ext w F:=Ext.cn bJ P h2;have X:Ext F F.drew:=cj _;have ba:∀q,(bU q\/(B q/\q<w.heap.size)\/u.drew.heap.size<=q)->q≠aF:=λq c e=>by
   subst e;rcases c with c|c|c
   .rcases h.bl _ c with g|g
    .omega
    .exact g.2.2.2.1 rfl
   .omega
   .have:=h.o.lt;omega
  have bP:=bo.ext (bo.ab bI P ba) X;have ai:=ai.ext X;have aI:=aI.ext X;have aJ:=aJ.ext X;have aM:=cR.ext aM X;have aj:=aj.trans X;obtain⟨ae,L,af,M⟩:=bF (V:=⟨none,0,0⟩) ai;obtain⟨iQ,fL,dH,a3⟩:=bF aI;have bb:=cL.sub (a4.ext aj).kids (lo:=to) (hi:=n.kids.length) t2 (bp _);have bQ:(n.kids.drop to).take (n.kids.length-to)=n.kids.drop to:=dM (by rw[c_];exact bp _);rw[bQ]at bb;obtain⟨R,ap,f1,f2,f3⟩:=Be aM bb (by rw[cz,cC];omega) (by rw[c_];omega);have ch:F.drew.heap.size=F.heap.size:=rfl;have ci:=f3.size;have aq:∀q,aB az q->w.heap.size<=q/\q<u.drew.heap.size/\q≠nb/\q≠aF/\q≠x:=λq c=>h.aL q (E q c);have bR:Ext w ap:=Ext.dy aj f3 λq c=>(aq q c).1;have bc:=ai.ab f3 λc=>(aq _ c).2.2.2.1 rfl;have bS:=aJ.ab f3 λc=>(aq _ c).2.2.2.2 rfl;have bT:=bo.ab bP f3 λq f c=>by
   have ck:=aq q c;rcases f with f|f|f
   .rcases h.bl q f with g|g
    .omega
    .exact g.2.2.2.2.2 (E q c)
   .omega
   .omega
  obtain⟨bE,bG⟩:=dP bc (i:=3) (by simp);refine aW (aW ⟨id,az,M,id,D,a3,?_,R,ap,?_,by rw[aw];exact bE,by rw[aw];exact bG,?_⟩)
  .rw[a7];omega
  .rw[dc,a7];exact f1
  rw[aw,cB];have Z:=dp ap aF 3 R;have bd:=dT bc (i:=3) R;obtain⟨aN,bV⟩:∃aN,aN=ap.setCell ⟨aF,3,none⟩ R:=⟨_,rfl⟩;rw[←bV]at Z bd⊢;have cl:=Z.size;have bX:=bS.ab Z (λe=>H.2.2 e.symm);have bY:Ext w aN:=Ext.cn bR Z h2;have bZ:=bo.ab bT Z ba;have b0:=cL.ab f2 Z λq f e=>by
   subst e;rcases f with f|f|f
   .exact(h.aL _ f).2.2.2.1 rfl
   .omega
   .have:=h.o.lt;omega
  obtain⟨ae,L,af,M⟩:=bF (V:=⟨none,0,0⟩) bd;refine aW ⟨_,ae,N,L,⟨none,0,0⟩,af,R,M,?_⟩;refine jb false N ⟨none,0,0⟩ R bX bh (Q:=λb K V D ah=>vN B n fr to ks kids w (.agg #[b,K,V,D]) ah) λcm aO=>?_;refine⟨N,⟨none,0,0⟩,R,rfl,⟨?_,?_,?_⟩,Ext.cn bY aO G⟩
  .refine bo.aX (bo.ab bZ aO λq f e=>?_) λq _ f=>?_
   .subst e
    rcases f with f|f|f
    .rcases h.bl _ f with g|g
     .omega
     .exact g.2.2.2.2.1 rfl
    .omega
    .have:=h.r.lt;omega
   .rcases f with f|f|f
    .rcases h.bl _ f with g|g
     .exact .inl g.1
     .exact .inr g.1
    .exact .inl f.1
    .have:=y.size;exact .inr I
  .exact bo.none _ _
  .refine cL.aX (cL.ab b0 aO λq f e=>?_) λq _ f=>?_
   .subst e
    rcases f with f|f|f
    .exact(h.aL _ f).2.2.2.2 rfl
    .omega
    .have:=h.r.lt;omega
   .rcases f with f|f|f
    .exact .inr (h.aL _ f).1
    .exact .inl f.1
    .have:=aj.size;exact .inr I
theorem yi(K D:Y)(w:J):Sem.run aj (Instr.build 202 #[(1,K),(3,D)]) w=.ok (.agg #[false,K,(),D]) w:=by kernel_rfl
theorem pP{B:Nat->Prop}{w:J}{n:aD}{K V D s:Y}{ks:O Key}{kids:O Nat}{fr to:Nat}(P:bC B w n K V D)(am:k8 B w s ks kids)(f1:fr<=n.keys.length)(f2:fr<=n.kids.length)(t1:1<=to)(t2:to<=n.kids.length)(t3:to-1<=n.keys.length)(bW:n.keys.length<=1000)(bw:n.kids.length<=1000):
 aQ aj 250 #[c0 n K V D,fr,to,s] w (vN B n fr to ks kids w):=by
 refine okF (af.pP n.leaf K V D (fr:Nat) (to:Nat) s) aA.pP func250 ?_;(delta af.pP ct U ag bc eP j0 ak aL r1 z5 th st au a_ tj;dsimp only);refine bj (vs:=[n.leaf,K,V,D]) rfl λw1 an ao aE=>?_;refine bj (vs:=[false,(),(),()]) rfl λah ap Q aG=>aW ?_;have E:Ext ah ah.drew:=cj _;have H:=(ao.trans Q).trans E;obtain⟨d,R⟩:∃d,d=ah.drew:=⟨_,rfl⟩;have aH:d.heap.size=ah.heap.size:=by rw[R];rfl
 rw[←R]at H E⊢;have S:=(an.ext Q).ext E;have aq:=ap.ext E;obtain⟨bT,aC,aU,aM⟩:=bF S;have t:bC (λq=>B q/\q<w.heap.size) d n K V D:=(P.aX λq a c=>⟨c,a⟩).ext H;have aI:=bo.len t.keys;have aJ:=cL.len t.kids;have aN:=bo.le t.keys;have aO:=t.kids.2.1;have L:=bo.sub t.keys (lo:=0) (hi:=fr) (cG _) f1;have F:=cL.sub t.kids (lo:=0) (hi:=fr) (cG _) f2;rw[ln,oR]at L F;have T:Int.toNat (fr:Int)-0=fr:=by rw[dc];rfl
 have fin:∀ (b7:J) (aF:Nat) (ew D0:Y),Ext d b7->Var b7 aF [false,ew,(),D0] 202->d.heap.size<=aF->br (λq=>(B q/\q<w.heap.size)\/(d.heap.size<=q/\aB ew q)) b7 ew (n.keys.take fr)->ba 1 3 b7 D0 (ef (n.kids.take fr))->
  (∀q,aB ew q->d.heap.size<=q/\q≠aF)->(∀q,aB D0 q->d.heap.size<=q/\q≠aF/\¬aB ew q)->yh w.heap.size aF w1.heap.size s (to:Nat) b7 (vN B n fr to ks kids w):=by
  intro b7 aF ew D0 hx ar aP W M X Z;have aR:=hx.size;have aK:∀q,aB ew q->q<b7.heap.size:=λq a=>by
   obtain⟨ts,_,o,_,_⟩:=W;exact o.lt q a
  refine GX (bU:=λq=>(B q/\q<w.heap.size)\/aB ew q) (bK:=λq=>aB D0 q) ⟨S.ext hx,aq.ext hx,ar,br.aX W λq _ c=>c.imp id λh=>h.2,⟨M,λq a=>⟨a,ba.lt M q a⟩⟩,λq c=>?_,λq c=>?_,λq a=>by have:=(X q a).1;omega⟩ (H.trans hx) P am rfl (bp _) I I ⟨I,I,I⟩ t1 t2 t3 bW bw
  .rcases c with c|c
   .exact .inl c
   .have x:=X q c
    exact .inr ⟨I,aK q c,I,x.2,I,λav=>(Z q av).2.2 c⟩
  .have x:=Z q c
   exact⟨I,ba.lt M q c,I,x.2.1,I⟩
 refine⟨λ_=>False,id,K,aC,⟨I,I⟩,id,D,aM,⟨I,I⟩,?_,?_⟩
 .rw[T]
  refine(B1 L (by rw[cC];omega)).use ?_;rintro _ u ⟨ew,rfl,p,f,y⟩;have aw:=f.size;refine⟨ew,rfl,f,?_,?_⟩
  .refine(rK (F.1.ext f) (by rw[cC];omega)).use ?_
   rintro _ aa ⟨D0,rfl,v,G,ac⟩;have aS:=G.size;refine⟨D0,rfl,G,_,yi ew D0,bj (vs:=[false,(),(),()]) rfl λaT ad ae aV=>⟨ae,ad.cc rfl (fI (b:=false) (K:=ew) (V:=⟨none,0,0⟩) (D:=D0)),rfl,cw ad (us:=[false,ew,(),D0]) rfl rfl λg z j ai=>?_⟩⟩;have k:Ext aa g:=Ext.cn ae j (bp _);have r:∀q,aB ew q->q<u.heap.size:=λq a=>by
    obtain⟨ts,_,o,_,_⟩:=p;exact o.lt q a
   exact fin g aa.heap.size ew D0 (f.trans (G.trans k)) z I (br.aX (br.ext p (G.trans k)) λq _ c=>c.imp (λh=>h.1) id) (v.ext k) (λq a=>⟨y q a,by have:=r q a;omega⟩) λq a=>⟨by have:=ac q a;omega,by have:=ba.lt v q a;omega,λh=>by have:=r q h;have:=ac q a;omega⟩
  .refine bj (vs:=[false,(),(),()]) rfl λal N l ax=>⟨l,(rK ((F.1.ext f).ext l) (by rw[cC];omega)).use ?_⟩
   rintro _ ay ⟨D0,rfl,v,m,i⟩;have A:=N.ext m;refine⟨D0,rfl,m,_,yi ew D0,A.cc rfl (fI (b:=false) (K:=ew) (V:=⟨none,0,0⟩) (D:=D0)),rfl,cw A (us:=[false,ew,(),D0]) rfl rfl λg z j ai=>?_⟩;have k:Ext u g:=Ext.cn (l.trans m) j (bp _);have r:∀q,aB ew q->q<u.heap.size:=λq a=>by
    obtain⟨ts,_,o,_,_⟩:=p;exact o.lt q a
   exact fin g u.heap.size ew D0 (f.trans k) z I (br.aX (br.ext p k) λq _ c=>c.imp (λh=>h.1) id) (v.ab j λq a e=>by have:=i q a;omega) (λq a=>⟨y q a,by have:=r q a;omega⟩) λq a=>⟨by have:=i q a;omega,by have:=i q a;omega,λh=>by have:=r q h;have:=i q a;omega⟩
 .rw[T]
  refine bj (vs:=[false,(),(),()]) rfl λal N l ax=>⟨l,(B1 (bo.ext L l) (by rw[cC];omega)).use ?_⟩;rintro _ u ⟨ew,rfl,p,f,y⟩;have aw:=f.size;refine⟨ew,rfl,f,(rK ((F.1.ext l).ext f) (by rw[cC];omega)).use ?_⟩;rintro _ ay ⟨D0,rfl,v,m,i⟩;have A:=(N.ext f).ext m;refine⟨D0,rfl,m,_,yi ew D0,A.cc rfl (fI (b:=false) (K:=ew) (V:=⟨none,0,0⟩) (D:=D0)),rfl,cw A (us:=[false,ew,(),D0]) rfl rfl λg z j ai=>?_⟩;have k:Ext d g:=Ext.cn ((l.trans f).trans m) j (bp _);have r:∀q,aB ew q->q<u.heap.size:=λq a=>by
   obtain⟨ts,_,o,_,_⟩:=p;exact o.lt q a
  have az:br (λq=>(B q/\q<w.heap.size)\/(d.heap.size<=q/\aB ew q)) g ew (n.keys.take fr):=by
   have x:=br.aX (C:=λq=>(B q/\q<w.heap.size)\/(al.heap.size<=q/\aB ew q)) (br.ext p m) λq _ c=>c.imp (λh=>h.1) id;exact br.aX (br.ab x j λq c e=>by rcases c with c|c<;>omega) λq _ c=>c.imp id λh=>⟨I,h.2⟩
  exact fin g d.heap.size ew D0 k z (bp _) az (v.ab j λq a e=>by have:=i q a;omega) (λq a=>⟨by have:=y q a;omega,by have:=y q a;omega⟩) λq a=>⟨by have:=i q a;omega,by have:=i q a;omega,λh=>by have:=r q h;have:=i q a;omega⟩
def lJ(n:aD):Prop:=cH n/\bJ n<=400/\(232<bJ n->1<=cm n/\(if n.leaf then cm n<=n.keys.length-1/\1<=n.keys.length-1 else cm n<=n.keys.length-2/\1<=n.keys.length-2)/\bJ (n.left (cm n))<=232/\bJ (n.right (cm n))<=232)
structure lK(B:Nat->Prop)(w:J)(A:ae)(u:dD):Prop where
 aC:w.cell? (A.add 1)=some (.bool u.n.leaf)
 aU:w.cell? ((A.add 1).add 1)=some (.slice u.K.a u.K.len u.K.cap)
 aM:w.cell? ((A.add 1).add 2)=some (.slice u.V.a u.V.len u.V.cap)
 du:w.cell? ((A.add 1).add 3)=some (.slice u.D.a u.D.len u.D.cap)
 bc:w.cell? (A.add 5)=some (.int .i64 (u.cX:Nat))
 bn:bC B w u.n u.K u.V u.D
 bP:B A.block
 lt:A.block<w.heap.size
theorem lK.ext{B:Nat->Prop}{w w':J}{A:ae}{u:dD}(h:lK B w A u)(hx:Ext w w'):lK B w' A u:=
 ⟨ad.cell hx (λh=>h) h.aC,ad.cell hx (λh=>h) h.aU,ad.cell hx (λh=>h) h.aM,ad.cell hx (λh=>h) h.du,ad.cell hx (λh=>h) h.bc,h.bn.ext hx,h.bP,fP h.lt hx.size⟩
theorem lK.to{w w':J}{T ao:aN}{k:Nat}{A:ae}{u:dD}(h:lK (λq=>¬T.M q) w A u)(ht:bN T ao w w' k):lK (λq=>¬ao.M q) w' A u:=by
 have hc:=ht.ab;have a:¬T.N A.block:=λc=>h.bP (aN.gh c);refine⟨ad.cell hc (A:=A.add 1) a h.aC,ad.cell hc (A:=(A.add 1).add 1) a h.aU,ad.cell hc (A:=(A.add 1).add 2) a h.aM,ad.cell hc (A:=(A.add 1).add 3) a h.du,ad.cell hc (A:=A.add 5) a h.bc,?_,λd=>?_,fP h.lt hc.size⟩
 .have h1:=ht.bn (lo:=0) (h.bn.aX λq _ b=>⟨cG _,b⟩)
  exact h1.aX λq _ b=>b.2
 .rcases ht.c5 _ d with h1|h1
  .exact h.bP h1
  .have:=h.lt;omega
theorem h4.base{T:aN}{c:dI}{n:aD}{w0 w w':J}{v:aa}(h:h4 T c n w v w')(hx:Ext w0 w):h4 T c n w0 v w':=by
 obtain⟨ao,c',m,s,av,ax,a,b⟩:=h;exact⟨ao,c',m,s,av,((dt.ext T c hx).trans ax).mono I,a,b⟩
theorem h4.out{T:aN}{c:dI}{n:aD}{w w':J}{v:aa}(h:h4 T c n w v w'):∃ (s:Y) (e:Int),v=.tuple #[s,e]:=by
 obtain⟨ao,c',m,s,av,ax,b,a⟩:=h;rcases a with ⟨ks,rfl,_⟩|⟨rfl,_⟩
 .exact⟨s,0,rfl⟩
 .exact⟨s,3,rfl⟩
def yj(nb aF g bv:Nat)(c up:aq ae)(n31 n36:Int)(b7:J)(Q:aa->J->Prop):Prop:=
 bt (λaf:J->Prop=>∃ag:ae,up=some ag/\∃D:Int,b7.cell? (ag.add 5)=some (.int .i64 D)/\((decide ((n36:Int)>D))=true->al (b7.drew) λd=>∃E:Nat->Prop,¬E (nb:ae).block/\∃F:ai,d.cell? nb=some (.bool F)/\∃j:Y,d.cell? (Addr.add nb 1)=some (.slice j.a j.len j.cap)/\∃k:Y,d.cell? (Addr.add nb 2)=some (.slice k.a k.len k.cap)/\∃l:Y,d.cell? (Addr.add nb 3)=some (.slice l.a l.len l.cap)/\¬E (aF:ae).block/\∃G:ai,d.cell? aF=some (.bool G)/\∃m:Y,d.cell? (Addr.add aF 1)=some (.slice m.a m.len m.cap)/\∃n:Y,d.cell? (Addr.add aF 2)=some (.slice n.a n.len n.cap)/\∃o:Y,d.cell? (Addr.add aF 3)=some (.slice o.a o.len o.cap)/\bA d g [F,j,k,l]/\(4:Nat)=4/\al (setCells d g 0 [F,j,k,l]) λH=>ad E d H/\bA H bv [G,m,n,o]/\(4:Nat)=4/\al (setCells H bv 0 [G,m,n,o]) λar=>af ar)/\((decide ((n36:Int)>D))=false->af b7)) (λ(au:J)=>al (au.drew) λb=>∃f:Nat->Prop,¬f (g:ae).block/\∃I:ai,b.cell? g=some (.bool I)/\∃p:Y,b.cell? (Addr.add g 1)=some (.slice p.a p.len p.cap)/\∃q:Y,b.cell? (Addr.add g 2)=some (.slice q.a q.len q.cap)/\∃r:Y,b.cell? (Addr.add g 3)=some (.slice r.a r.len r.cap)/\∃K:ae,up=some K/\¬f ((K.add 1).add 1).block/\∃s:Y,b.cell? ((K.add 1).add 1)=some (.slice s.a s.len s.cap)/\∃L:ae,s.a=some L/\((0:Int)<=n31/\n31<(s.len:Int))/\¬f (L.add (Int.toNat n31*1)).block/\∃t:Y,b.cell? (L.add (Int.toNat n31*1))=some (.slice t.a t.len t.cap)/\¬f (bv:ae).block/\∃M:ai,b.cell? bv=some (.bool M)/\∃u:Y,b.cell? (Addr.add bv 1)=some (.slice u.a u.len u.cap)/\∃v:Y,b.cell? (Addr.add bv 2)=some (.slice v.a v.len v.cap)/\∃w:Y,b.cell? (Addr.add bv 3)=some (.slice w.a w.len w.cap)/\(Calls aj 282 #[.agg #[I,p,q,r],t,.agg #[M,u,v,w]] b λav e=>∃N:ai,∃O:Y,∃P:Y,∃R:Y,∃S:ai,av=.returned (.tuple #[.agg #[N,O,P,R],S])/\ad f b e/\al (e.alloc (.cells #[false,(),(),()] 202)) λT=>ad f e T/\bA T e.heap.size [N,O,P,R]/\(4:Nat)=4/\al (setCells T e.heap.size 0 [N,O,P,R]) λh=>((!S)=true->Q (.tuple #[(),(0:Int),(0:Int),(4:Int)]) h)/\((!S)=false->∃ah:ai,h.cell? e.heap.size=some (.bool ah)/\∃x:Y,h.cell? (Addr.add e.heap.size 1)=some (.slice x.a x.len x.cap)/\∃y:Y,h.cell? (Addr.add e.heap.size 2)=some (.slice y.a y.len y.cap)/\∃z:Y,h.cell? (Addr.add e.heap.size 3)=some (.slice z.a z.len z.cap)/\Calls aj 281 #[.pointer c,.agg #[ah,x,y,z]] h λaw ax=>∃ak:Y,∃am:Int,aw=.returned (.tuple #[ak,am])/\Q (.tuple #[ak,n31,.int .i64 (IntKind.wrap .i64 (n31+2)),am]) ax))/\(al (b.alloc (.cells #[false,(),(),()] 202)) λU=>ad f b U/\Calls aj 282 #[.agg #[I,p,q,r],t,.agg #[M,u,v,w]] U λay V=>∃W:ai,∃X:Y,∃Z:Y,∃ab:Y,∃ac:ai,ay=.returned (.tuple #[.agg #[W,X,Z,ab],ac])/\ad f U V/\bA V b.heap.size [W,X,Z,ab]/\(4:Nat)=4/\al (setCells V b.heap.size 0 [W,X,Z,ab]) λi=>((!ac)=true->Q (.tuple #[(),(0:Int),(0:Int),(4:Int)]) i)/\((!ac)=false->∃an:ai,i.cell? b.heap.size=some (.bool an)/\∃A:Y,i.cell? (Addr.add b.heap.size 1)=some (.slice A.a A.len A.cap)/\∃B:Y,i.cell? (Addr.add b.heap.size 2)=some (.slice B.a B.len B.cap)/\∃C:Y,i.cell? (Addr.add b.heap.size 3)=some (.slice C.a C.len C.cap)/\Calls aj 281 #[.pointer c,.agg #[an,A,B,C]] i λaz aA=>∃ao:Y,∃ap:Int,az=.returned (.tuple #[ao,ap])/\Q (.tuple #[ao,n31,.int .i64 (IntKind.wrap .i64 (n31+2)),ap]) aA)))
theorem GY{W X:Nat->Prop}{w0 b7:J}{T:aN}{c:dI}{nb aF g bv:Nat}{A:ae}{u:dD}{n o:aD}{K V D i j k:Y}{fr other:Nat}{Q:aa->J->Prop}(h:dr w0 T c)(hx:Ext w0 b7)(am:Var w0 nb (dY n K V D) 202)(an:Var w0 aF (dY o i j k) 202)
 (ao:Var b7 g (dY o i j k) 202) (ap:Var b7 bv (dY n K V D) 202) (h1:w0.heap.size<=g) (h2:w0.heap.size<=bv) (aq:g≠bv) (ar:bC W w0 n K V D) (au:bC X w0 o i j k) (hu:lK (λq=>¬T.M q) w0 A u)
 (av:T.C.D.aR<=900000090) (aw:2<=cl T) (ax:c.made.length<=900) (gi:cH n) (Z:cH o) (bs:bJ n<=400) (bt:bJ o<=400) (ay:o.leaf=n.leaf) (aV:fr<u.n.keys.length) (az:cv u.n.keys[fr]) (m:aD) (aA:m=if u.cX<other then ee n u.n.keys[fr] o else ee o u.n.keys[fr] n) (l:lJ m) (bu:fr<=1000)
 (aB:∀ (s:Y) (e:Int) (w':J),h4 T c m w0 (.tuple #[s,e]) w'->Q (.tuple #[s,fr,.int .i64 ((fr+2:Nat):Int),e]) w'):
 yj nb aF g bv (some c.cb) (some A) (fr:Nat) (other:Nat) b7 Q:=by
 have bz:=am.lt;have bA:=an.lt;have bB:=hx.size;have fn:=gi.eS I;have bD:=Z.eS I;unfold yj;refine ij (λp=>∃ (a b:aD) (G H L N O P:Y) (aC aE:Nat->Prop),Ext w0 p/\Var p g (dY a G H L) 202/\Var p bv (dY b N O P) 202/\bC aC w0 a G H L/\bC aE w0 b N O P/\m=ee a u.n.keys[fr] b/\cH a/\cH b/\a.leaf=b.leaf/\a.keys.length<=200/\b.keys.length<=200)
  (λq r=>⟨A,rfl,_,(hu.ext hx).bc,λd=>?_,λd=>r _ ⟨o,n,i,j,k,K,V,D,X,W,hx,ao,ap,au,ar,?_,Z,gi,ay,I,I⟩⟩) ?_
 .have d:u.cX<other:=by
   have:(other:Int)>(u.cX:Int):=b1 d;omega
  have f:=hx.trans (cj b7);obtain⟨aX,bW,bw,aY⟩:=bF (am.ext f);obtain⟨aZ,a4,a5,a6⟩:=bF (an.ext f);have aG:=ao.drew;have a7:=ap.drew;refine aW ⟨λq=>q=g,(show nb≠g from I),_,aX,K,bW,V,bw,D,aY,(show aF≠g from I),_,aZ,i,a4,j,a5,k,a6,aG.cc rfl fI,rfl,cw aG (us:=dY n K V D) rfl rfl λbE a8 ac bG=>?_⟩;have aH:=a7.ab ac (λe=>aq e.symm);refine⟨ac,aH.cc rfl fI,rfl,cw aH (us:=dY o i j k) rfl rfl λbH a9 aI bI=>?_⟩;exact r _ ⟨n,o,K,V,D,i,j,k,W,X,Ext.cn (Ext.cn f ac h1) aI h2,a8.ab aI aq,a9,ar,au,by rw[aA,if_pos d],gi,Z,ay.symm,I,I⟩
 .have d:¬u.cX<other:=by
   have:¬(other:Int)>(u.cX:Int):=cu d;omega
  rw[aA,if_neg d]
 rintro p ⟨a,b,G,H,L,N,O,P,aC,aE,a_,ba,d,aJ,aK,ad,sa,sb,aL,bK,lb⟩;have f:=a_.trans (cj p);have bb:=ba.drew;have bd:=d.drew;obtain⟨a0,a1,a2,a3⟩:=bF bb;obtain⟨be,cf,bS,bf⟩:=bF bd;have aM:=hu.ext f;obtain⟨bg,tk,bh,bi,bk,R,bL⟩:=bo.at aM.bn.keys aV;have aO:cH (ee a u.n.keys[fr] b):=by rw[←ad];exact l.1
 have B:=oa (aJ.ext f) (aK.ext f) R.1 (λq r=>(R.2.2 q r).2) (by have:=az.2;omega) sa sb aL aO I I;rw[←ad]at B;have aP:IntKind.wrap .i64 ((fr:Int)+2)=((fr+2:Nat):Int):=by rw[bx I I];rfl
 obtain⟨wd,bM⟩:∃wd,wd=p.drew:=⟨_,rfl⟩;refine aW ⟨λ_=>False,id,_,a0,G,a1,H,a2,L,a3,A,rfl,id,u.K,aM.aU,bg,bh,bi,id,tk,bk,id,_,be,N,cf,O,bS,P,bf,?_,?_⟩
 .refine B.use ?_
  rintro _ bl ⟨t,w,x,rfl,af,y⟩;refine⟨_,t,w,x,true,rfl,y,bj (vs:=[false,(),(),()]) rfl λbN aQ aS bO=>⟨aS,aQ.cc rfl fI,rfl,cw aQ (us:=dY m t w x) rfl rfl λag ah S bm=>⟨λd=>(by cases d),λ_=>?_⟩⟩⟩;have U:Ext bl ag:=Ext.cn aS S (bp _);have E:=(f.trans y).trans U;obtain⟨ai,aj,ak,al⟩:=bF ah;refine⟨_,ai,t,aj,w,ak,x,al,(vM (h.ext E) av aw ax (af.ext U) l.1 l.2.1 l.2.2).use ?_⟩;intro v w' F;obtain⟨s,e,rfl⟩:=F.out;rw[aP];exact⟨s,e,rfl,aB s e w' (F.base E)⟩
 .refine bj (vs:=[false,(),(),()]) rfl λbP bq z bQ=>⟨z,?_⟩
  have B:=oa ((aJ.ext f).ext z) ((aK.ext f).ext z) (R.1.ext z) (λq r=>fP (R.2.2 q r).2 z.size) (by have:=az.2;omega) sa sb aL aO I I;rw[←ad]at B;refine B.use ?_;rintro _ bR ⟨t,w,x,rfl,af,y⟩;have aT:=bq.ext y;refine⟨_,t,w,x,true,rfl,y,aT.cc rfl fI,rfl,cw aT (us:=dY m t w x) rfl rfl λag ah S bm=>⟨λd=>(by cases d),λ_=>?_⟩⟩;have U:Ext p.drew ag:=Ext.cn (z.trans y) S (bp _);have E:=f.trans U;have br:=bC.ab af S λq r e=>by omega
  obtain⟨ai,aj,ak,al⟩:=bF ah;refine⟨_,ai,t,aj,w,ak,x,al,(vM (h.ext E) av aw ax br l.1 l.2.1 l.2.2).use ?_⟩;intro v w' F;obtain⟨s,e,rfl⟩:=F.out;rw[aP];exact⟨s,e,rfl,aB s e w' (F.base E)⟩
theorem dt.leave{T:aN}{c c':dI}{E G:Nat->Prop}{w w':J}{no:Nat}(h:bN T (T.ck E G) w w' 0)(a:E=T.E)(b:∀q,T.G q->G q)(h1:c'.cb=c.cb)(h2:c'.made=c.made)(d:c'.left=c.left++ [no]):dt T (T.ck E G) c c' [] [no] w w' 0:=
 ⟨h,a,b,rfl,rfl,h1,by rw[h2,fQ],d,List.nodup_nil,λ_ h=>(by cases h),λno=>by simp[aN.ck],λ_ _=>⟨rfl,rfl⟩,by simp[cl,aN.ck]⟩
def yk(nb aF:Nat)(c up:aq ae)(n31 n36 n41 aH:Int)(b7:J)(Q:aa->J->Prop):Prop:=
 (((aH:Int) !=0)=true->Q (.tuple #[(),(0:Int),(0:Int),aH]) b7)/\(((aH:Int) !=0)=false->∃bu:ae,c=some bu/\∃am:Y,b7.cell? (bu.add 2)=some (.slice am.a am.len am.cap)/\al (b7.alloc (.cells #[n41] 3)) λbO=>∃bv:Y,∃an:J,Sem.run aj (Builtin.append_ #[58,58] 58 #[am,.slice (some b7.heap.size) 1 1]) bO=.ok bv an/\∃ao:ae,c=some ao/\(∃u:aa,an.cell? (ao.add 2)=some u)/\an.frozen? (ao.add 2)=false/\al (an.setCell (ao.add 2) bv) λbP=>al (bP.drew) λb=>∃l:Nat->Prop,¬l (aF:ae).block/\∃z:ai,b.cell? aF=some (.bool z)/\∃o:Y,b.cell? (Addr.add aF 1)=some (.slice o.a o.len o.cap)/\∃p:Y,b.cell? (Addr.add aF 2)=some (.slice p.a p.len p.cap)/\∃q:Y,b.cell? (Addr.add aF 3)=some (.slice q.a q.len q.cap)/\¬l (nb:ae).block/\∃A:ai,b.cell? nb=some (.bool A)/\∃r:Y,b.cell? (Addr.add nb 1)=some (.slice r.a r.len r.cap)/\∃s:Y,b.cell? (Addr.add nb 2)=some (.slice s.a s.len s.cap)/\∃t:Y,b.cell? (Addr.add nb 3)=some (.slice t.a t.len t.cap)/\(al (b.alloc (.cells #[false,(),(),()] 202)) λf=>ad l b f/\al (f.alloc (.cells #[false,(),(),()] 202)) λap=>ad l f ap/\bA ap b.heap.size [z,o,p,q]/\(4:Nat)=4/\al (setCells ap b.heap.size 0 [z,o,p,q]) λaI=>ad l ap aI/\bA aI f.heap.size [A,r,s,t]/\(4:Nat)=4/\al (setCells aI f.heap.size 0 [A,r,s,t]) λaJ=>bt (λbw:J->Prop=>∃bx:ae,up=some bx/\∃aK:Int,aJ.cell? (bx.add 5)=some (.int .i64 aK)/\((decide ((n36:Int)>aK))=true->al (aJ.drew) λh=>∃aL:Nat->Prop,¬aL (nb:ae).block/\∃aM:ai,h.cell? nb=some (.bool aM)/\∃B:Y,h.cell? (Addr.add nb 1)=some (.slice B.a B.len B.cap)/\∃C:Y,h.cell? (Addr.add nb 2)=some (.slice C.a C.len C.cap)/\∃D:Y,h.cell? (Addr.add nb 3)=some (.slice D.a D.len D.cap)/\¬aL (aF:ae).block/\∃aN:ai,h.cell? aF=some (.bool aN)/\∃E:Y,h.cell? (Addr.add aF 1)=some (.slice E.a E.len E.cap)/\∃F:Y,h.cell? (Addr.add aF 2)=some (.slice F.a F.len F.cap)/\∃G:Y,h.cell? (Addr.add aF 3)=some (.slice G.a G.len G.cap)/\bA h b.heap.size [aM,B,C,D]/\(4:Nat)=4/\al (setCells h b.heap.size 0 [aM,B,C,D]) λaO=>ad aL h aO/\bA aO f.heap.size [aN,E,F,G]/\(4:Nat)=4/\al (setCells aO f.heap.size 0 [aN,E,F,G]) λbQ=>bw bQ)/\((decide ((n36:Int)>aK))=false->bw aJ)) (λ(bR:J)=>al (bR.drew) λd=>∃m:Nat->Prop,¬m (b.heap.size:ae).block/\∃aP:ai,d.cell? b.heap.size=some (.bool aP)/\∃H:Y,d.cell? (Addr.add b.heap.size 1)=some (.slice H.a H.len H.cap)/\∃I:Y,d.cell? (Addr.add b.heap.size 2)=some (.slice I.a I.len I.cap)/\∃K:Y,d.cell? (Addr.add b.heap.size 3)=some (.slice K.a K.len K.cap)/\∃aQ:ae,up=some aQ/\¬m ((aQ.add 1).add 1).block/\∃L:Y,d.cell? ((aQ.add 1).add 1)=some (.slice L.a L.len L.cap)/\∃aR:ae,L.a=some aR/\((0:Int)<=n31/\n31<(L.len:Int))/\¬m (aR.add (Int.toNat n31*1)).block/\∃M:Y,d.cell? (aR.add (Int.toNat n31*1))=some (.slice M.a M.len M.cap)/\¬m (f.heap.size:ae).block/\∃aS:ai,d.cell? f.heap.size=some (.bool aS)/\∃N:Y,d.cell? (Addr.add f.heap.size 1)=some (.slice N.a N.len N.cap)/\∃O:Y,d.cell? (Addr.add f.heap.size 2)=some (.slice O.a O.len O.cap)/\∃P:Y,d.cell? (Addr.add f.heap.size 3)=some (.slice P.a P.len P.cap)/\(Calls aj 282 #[.agg #[aP,H,I,K],M,.agg #[aS,N,O,P]] d λbS j=>∃aT:ai,∃aU:Y,∃aV:Y,∃aW:Y,∃aX:ai,bS=.returned (.tuple #[.agg #[aT,aU,aV,aW],aX])/\ad m d j/\al (j.alloc (.cells #[false,(),(),()] 202)) λaY=>ad m j aY/\bA aY j.heap.size [aT,aU,aV,aW]/\(4:Nat)=4/\al (setCells aY j.heap.size 0 [aT,aU,aV,aW]) λv=>((!aX)=true->Q (.tuple #[(),(0:Int),(0:Int),(4:Int)]) v)/\((!aX)=false->∃bz:ai,v.cell? j.heap.size=some (.bool bz)/\∃ar:Y,v.cell? (Addr.add j.heap.size 1)=some (.slice ar.a ar.len ar.cap)/\∃au:Y,v.cell? (Addr.add j.heap.size 2)=some (.slice au.a au.len au.cap)/\∃av:Y,v.cell? (Addr.add j.heap.size 3)=some (.slice av.a av.len av.cap)/\Calls aj 281 #[.pointer c,.agg #[bz,ar,au,av]] v λbT bU=>∃bB:Y,∃bC:Int,bT=.returned (.tuple #[bB,bC])/\Q (.tuple #[bB,n31,.int .i64 (IntKind.wrap .i64 (n31+2)),bC]) bU))/\(al (d.alloc (.cells #[false,(),(),()] 202)) λaZ=>ad m d aZ/\Calls aj 282 #[.agg #[aP,H,I,K],M,.agg #[aS,N,O,P]] aZ λbV a0=>∃a1:ai,∃a2:Y,∃a3:Y,∃a4:Y,∃a5:ai,bV=.returned (.tuple #[.agg #[a1,a2,a3,a4],a5])/\ad m aZ a0/\bA a0 d.heap.size [a1,a2,a3,a4]/\(4:Nat)=4/\al (setCells a0 d.heap.size 0 [a1,a2,a3,a4]) λw=>((!a5)=true->Q (.tuple #[(),(0:Int),(0:Int),(4:Int)]) w)/\((!a5)=false->∃bD:ai,w.cell? d.heap.size=some (.bool bD)/\∃aw:Y,w.cell? (Addr.add d.heap.size 1)=some (.slice aw.a aw.len aw.cap)/\∃ax:Y,w.cell? (Addr.add d.heap.size 2)=some (.slice ax.a ax.len ax.cap)/\∃ay:Y,w.cell? (Addr.add d.heap.size 3)=some (.slice ay.a ay.len ay.cap)/\Calls aj 281 #[.pointer c,.agg #[bD,aw,ax,ay]] w λbW bX=>∃bE:Y,∃bF:Int,bW=.returned (.tuple #[bE,bF])/\Q (.tuple #[bE,n31,.int .i64 (IntKind.wrap .i64 (n31+2)),bF]) bX))))/\(al (b.alloc (.cells #[false,(),(),()] 202)) λg=>ad l b g/\al (g.alloc (.cells #[false,(),(),()] 202)) λaz=>ad l g az/\bA az g.heap.size [z,o,p,q]/\(4:Nat)=4/\al (setCells az g.heap.size 0 [z,o,p,q]) λa6=>ad l az a6/\bA a6 b.heap.size [A,r,s,t]/\(4:Nat)=4/\al (setCells a6 b.heap.size 0 [A,r,s,t]) λa7=>bt (λbG:J->Prop=>∃bH:ae,up=some bH/\∃a8:Int,a7.cell? (bH.add 5)=some (.int .i64 a8)/\((decide ((n36:Int)>a8))=true->al (a7.drew) λi=>∃a9:Nat->Prop,¬a9 (nb:ae).block/\∃a_:ai,i.cell? nb=some (.bool a_)/\∃R:Y,i.cell? (Addr.add nb 1)=some (.slice R.a R.len R.cap)/\∃S:Y,i.cell? (Addr.add nb 2)=some (.slice S.a S.len S.cap)/\∃T:Y,i.cell? (Addr.add nb 3)=some (.slice T.a T.len T.cap)/\¬a9 (aF:ae).block/\∃ba:ai,i.cell? aF=some (.bool ba)/\∃U:Y,i.cell? (Addr.add aF 1)=some (.slice U.a U.len U.cap)/\∃V:Y,i.cell? (Addr.add aF 2)=some (.slice V.a V.len V.cap)/\∃W:Y,i.cell? (Addr.add aF 3)=some (.slice W.a W.len W.cap)/\bA i g.heap.size [a_,R,S,T]/\(4:Nat)=4/\al (setCells i g.heap.size 0 [a_,R,S,T]) λbb=>ad a9 i bb/\bA bb b.heap.size [ba,U,V,W]/\(4:Nat)=4/\al (setCells bb b.heap.size 0 [ba,U,V,W]) λbY=>bG bY)/\((decide ((n36:Int)>a8))=false->bG a7)) (λ(bZ:J)=>al (bZ.drew) λe=>∃n:Nat->Prop,¬n (g.heap.size:ae).block/\∃bc:ai,e.cell? g.heap.size=some (.bool bc)/\∃X:Y,e.cell? (Addr.add g.heap.size 1)=some (.slice X.a X.len X.cap)/\∃Z:Y,e.cell? (Addr.add g.heap.size 2)=some (.slice Z.a Z.len Z.cap)/\∃ab:Y,e.cell? (Addr.add g.heap.size 3)=some (.slice ab.a ab.len ab.cap)/\∃bd:ae,up=some bd/\¬n ((bd.add 1).add 1).block/\∃ac:Y,e.cell? ((bd.add 1).add 1)=some (.slice ac.a ac.len ac.cap)/\∃be:ae,ac.a=some be/\((0:Int)<=n31/\n31<(ac.len:Int))/\¬n (be.add (Int.toNat n31*1)).block/\∃af:Y,e.cell? (be.add (Int.toNat n31*1))=some (.slice af.a af.len af.cap)/\¬n (b.heap.size:ae).block/\∃bf:ai,e.cell? b.heap.size=some (.bool bf)/\∃ag:Y,e.cell? (Addr.add b.heap.size 1)=some (.slice ag.a ag.len ag.cap)/\∃ah:Y,e.cell? (Addr.add b.heap.size 2)=some (.slice ah.a ah.len ah.cap)/\∃ak:Y,e.cell? (Addr.add b.heap.size 3)=some (.slice ak.a ak.len ak.cap)/\(Calls aj 282 #[.agg #[bc,X,Z,ab],af,.agg #[bf,ag,ah,ak]] e λb0 k=>∃bg:ai,∃bh:Y,∃bi:Y,∃bj:Y,∃bk:ai,b0=.returned (.tuple #[.agg #[bg,bh,bi,bj],bk])/\ad n e k/\al (k.alloc (.cells #[false,(),(),()] 202)) λbl=>ad n k bl/\bA bl k.heap.size [bg,bh,bi,bj]/\(4:Nat)=4/\al (setCells bl k.heap.size 0 [bg,bh,bi,bj]) λx=>((!bk)=true->Q (.tuple #[(),(0:Int),(0:Int),(4:Int)]) x)/\((!bk)=false->∃bI:ai,x.cell? k.heap.size=some (.bool bI)/\∃aA:Y,x.cell? (Addr.add k.heap.size 1)=some (.slice aA.a aA.len aA.cap)/\∃aB:Y,x.cell? (Addr.add k.heap.size 2)=some (.slice aB.a aB.len aB.cap)/\∃aC:Y,x.cell? (Addr.add k.heap.size 3)=some (.slice aC.a aC.len aC.cap)/\Calls aj 281 #[.pointer c,.agg #[bI,aA,aB,aC]] x λb1 b2=>∃bJ:Y,∃bK:Int,b1=.returned (.tuple #[bJ,bK])/\Q (.tuple #[bJ,n31,.int .i64 (IntKind.wrap .i64 (n31+2)),bK]) b2))/\(al (e.alloc (.cells #[false,(),(),()] 202)) λbm=>ad n e bm/\Calls aj 282 #[.agg #[bc,X,Z,ab],af,.agg #[bf,ag,ah,ak]] bm λb3 bn=>∃bo:ai,∃bp:Y,∃bq:Y,∃br:Y,∃bs:ai,b3=.returned (.tuple #[.agg #[bo,bp,bq,br],bs])/\ad n bm bn/\bA bn e.heap.size [bo,bp,bq,br]/\(4:Nat)=4/\al (setCells bn e.heap.size 0 [bo,bp,bq,br]) λy=>((!bs)=true->Q (.tuple #[(),(0:Int),(0:Int),(4:Int)]) y)/\((!bs)=false->∃bL:ai,y.cell? e.heap.size=some (.bool bL)/\∃aD:Y,y.cell? (Addr.add e.heap.size 1)=some (.slice aD.a aD.len aD.cap)/\∃aE:Y,y.cell? (Addr.add e.heap.size 2)=some (.slice aE.a aE.len aE.cap)/\∃aG:Y,y.cell? (Addr.add e.heap.size 3)=some (.slice aG.a aG.len aG.cap)/\Calls aj 281 #[.pointer c,.agg #[bL,aD,aE,aG]] y λb4 b5=>∃bM:Y,∃bN:Int,b4=.returned (.tuple #[bM,bN])/\Q (.tuple #[bM,n31,.int .i64 (IntKind.wrap .i64 (n31+2)),bN]) b5)))))
theorem GZ{w:J}{T:aN}{c:dI}{nb aF:Nat}{A:ae}{u:dD}{n o:aD}{K V D g i j:Y}{fr other no:Nat}{Q:aa->J->Prop}(h:dr w T c)(ao:Var w nb (dY n K V D) 202)(ap:Var w aF (dY o g i j) 202)
 (aq:¬T.M nb) (ar:¬T.M aF) (au:bC (λq=>¬T.M q) w n K V D) (ay:bC (λq=>¬T.M q) w o g i j) (hu:lK (λq=>¬T.M q) w A u)
 (az:T.C.D.aR<=900000090) (aA:2<=cl T) (aE:c.made.length<=900) (bh:c.left.length<=900) (gi:cH n) (aG:cH o) (aH:bJ n<=400) (aI:bJ o<=400) (aJ:o.leaf=n.leaf) (aK:fr<u.n.keys.length) (aL:cv u.n.keys[fr]) (m:aD) (z:m=if u.cX<other then ee n u.n.keys[fr] o else ee o u.n.keys[fr] n) (aM:lJ m) (aO:fr<=1000)
 (aP:∀ (s:Y) (e:Int) (bO:aN) (aC:dI) (w1 w':J),dt T bO c aC [] [no] w w1 0->h4 bO aC m w1 (.tuple #[s,e]) w'->Q (.tuple #[s,fr,.int .i64 ((fr+2:Nat):Int),e]) w'):
 yk nb aF (some c.cb) (some A) (fr:Nat) (other:Nat) (no:Nat) 0 w Q:=by
 unfold yk;refine⟨λB=>(by cases B),λ_=>⟨_,rfl,_,h.cells.2.2,?_⟩⟩;obtain⟨k,ah,av,ax,aQ,aS,aT⟩:=BV h no I;refine aW ⟨k,ah,av,_,rfl,by rw[aw];exact aQ,by rw[aw];exact aS,aW ?_⟩;rw[aw];obtain⟨b,ai⟩:∃b,b=ah.setCell ⟨c.cb,0+2,none⟩ k:=⟨_,rfl⟩;rw[←ai];obtain⟨aj,ak⟩:=aT b ai;have al:=dt.leave (c:=c) (c':={c with gB:=k,left:=c.left++ [no]}) (no:=no) ak rfl (λq F=>.inl F) rfl rfl rfl;obtain⟨bO,x⟩:∃bO,bO=T.ck T.E λq=>T.G q\/aB k q:=⟨_,rfl⟩;obtain⟨aC,H⟩:∃aC:dI,aC={c with gB:=k,left:=c.left++ [no]}:=⟨_,rfl⟩;have aU:aC.cb=c.cb:=by rw[H]
 have aV:aC.made=c.made:=by rw[H]
 have aX:bO.C.D.aR<=900000090:=by rw[x];exact az
 have aY:2<=cl bO:=by rw[x];exact aA
 rw[←x,←H]at aj al;rw[←x]at ak;have L:Ext b b.drew:=cj _;have am:=aj.ext L;have O:dt T bO c aC [] [no] w b.drew 0:=al.trans (dt.ext bO aC L);obtain⟨a,aZ⟩:∃a,a=b.drew:=⟨_,rfl⟩;rw[←aZ]at L am O⊢;have y:=O.to;have P:∀q,¬T.M q->¬T.N q:=λq h1 h2=>h1 (aN.gh h2);have R:=ao.ab y.ab (P _ aq);have S:=ap.ab y.ab (P _ ar);have an:∀ {m:aD}{K V D:Y},bC (λq=>¬T.M q) w m K V D->bC (λq=>¬T.M q) a m K V D:=λz=>bC.ab z y.ab λq F=>P q F;have a0:=an au;have a1:=an ay;have a2:=hu.to y;obtain⟨a3,bW,bw,a4⟩:=bF R;obtain⟨a5,a6,a7,a8⟩:=bF S;have bi:=R.lt;have bk:=S.lt;have fin:∀ (b7:J) (l bv:Nat),Ext a b7->Var b7 l (dY o g i j) 202->Var b7 bv (dY n K V D) 202->a.heap.size<=l->a.heap.size<=bv->l≠bv->yj nb aF l bv (some c.cb) (some A) (fr:Nat) (other:Nat) b7 Q:=by
  intro b7 l bv hx a9 B h1 h2 a_;have:=GY am hx R S a9 B h1 h2 a_ a0 a1 a2 aX aY (by rw[aV];exact aE) gi aG aH aI aJ aK aL m z aM aO (Q:=Q) λs e w' hf=>aP s e bO aC a w' O hf;rw[aU]at this;exact this
 refine aW ⟨λq=>a.heap.size<=q,(show¬a.heap.size<=aF from I),_,a5,g,a6,i,a7,j,a8,(show¬a.heap.size<=nb from I),_,a3,K,bW,V,bw,D,a4,?_,?_⟩
 .refine bj (vs:=[false,(),(),()]) rfl λU ba p bb=>⟨ad.cF p,bj (vs:=[false,(),(),()]) rfl λbc W d bd=>?_⟩
  have r:=ba.ext d;refine⟨ad.cF d,r.cc rfl fI,rfl,cw r (us:=dY o g i j) rfl rfl λX Z f be=>?_⟩;have t:=W.ab f I;have ac:Ext a X:=Ext.cn (p.trans d) f (bp _);refine⟨f.mono λq _ e=>I,t.cc rfl fI,rfl,cw t (us:=dY n K V D) rfl rfl λaf ag v bf=>?_⟩;exact fin af a.heap.size U.heap.size (Ext.cn ac v I) (Z.ab v I) ag (bp _) I I
 .refine bj (vs:=[false,(),(),()]) rfl λU bg p bb=>⟨ad.cF p,bj (vs:=[false,(),(),()]) rfl λbc r d bd=>?_⟩
  have W:=bg.ext d;refine⟨ad.cF d,r.cc rfl fI,rfl,cw r (us:=dY o g i j) rfl rfl λX Z f be=>?_⟩;have t:=W.ab f I;have ac:Ext a X:=Ext.cn (p.trans d) f I;refine⟨f.mono λq _ e=>I,t.cc rfl fI,rfl,cw t (us:=dY n K V D) rfl rfl λaf ag v bf=>?_⟩;exact fin af U.heap.size a.heap.size (Ext.cn ac v (bp _)) (Z.ab v I) ag I (bp _) I
theorem bN.read{w w':J}{T:aN}{E:Nat->Prop}{aE:b4}{P:Nat->aq aD}{k:Nat}(h:bN (T.ck E λ_=>False) ((T.ck E λ_=>False).bk aE P) w w' k)(e:∀q,T.E q\/T.G q->E q)(f:∀q,E q->T.E q\/T.G q\/w.heap.size<=q):bN T (T.bk aE P) w w' k:=by
 refine⟨h.aY,h.sb,h.n,h.g,h.s1,h.s2,h.c,h.d,h.bh,h.gen,h.aR,h.calm,h.ab.mono λq _ a=>?_,λq a=>?_,λq a=>?_⟩
 .rcases a with a|a|a|a
  .exact .inl a
  .exact .inr (.inl a)
  .exact .inr (.inr (.inl a))
  .exact a.elim
 .have h1:((T.ck E λ_=>False).bk aE P).M q:=by
   rcases a with a|a|a|a
   .exact .inl a
   .exact .inr (.inl a)
   .exact .inr (.inr (.inl a))
   .exact .inr (.inr (.inr (.inl (e q a))))
  rcases h.c5 q h1 with h2|h2
  .rcases h2 with a|a|a|a|a
   .exact .inl (.inl a)
   .exact .inl (.inr (.inl a))
   .exact .inl (.inr (.inr (.inl a)))
   .rcases f q a with b|b|b
    .exact .inl (.inr (.inr (.inr (.inl b))))
    .exact .inl (.inr (.inr (.inr (.inr b))))
    .exact .inr b
   .exact a.elim
  .exact .inr h2
 .rcases a with a|a|a|a
  .rcases h.fn q (.inl a) with h2|h2
   .rcases h2 with h2|h2|h2|h2
    .exact .inl (.inl h2)
    .exact .inl (.inr (.inl h2))
    .exact .inl (.inr (.inr (.inl h2)))
    .exact h2.elim
   .exact .inr h2
  .exact .inl (.inr (.inl a))
  .exact .inl (.inr (.inr (.inl a)))
  .exact .inl (.inr (.inr (.inr a)))
theorem dt.cache{T:aN}{c:dI}{aE:b4}{w w':J}{k:Nat}(h:bN T (T.bk aE T.P) w w' k)(a:∀j,aE.view j=T.C.view j):dt T (T.bk aE T.P) c c [] [] w w' k:=
 ⟨h,rfl,λ_ h=>h,rfl,rfl,rfl,by simp,by simp,List.nodup_nil,λ_ h=>(by cases h),λno=>by simp[aN.bk],λno _=>⟨rfl,a no⟩,by simp[cl,aN.bk]⟩
theorem B2{w w1:J}{T:aN}{c:dI}{Z:Nat->Prop}{no:Nat}{o:aD}(h:dr w T c)(hx:Ext w w1)(g:∀q,Z q->w.heap.size<=q/\q<w1.heap.size)(y:T.C.D.aR<=999999999)(z:T.P no=some o):
 aQ aj 196 #[.pointer (some T.aY),no,o.leaf] w1 (λv w'=>∃aE:b4,(∀j,aE.view j=T.C.view j)/\ad (λq=>T.N q/\¬T.G q) w1 w'/\(∀q,(T.bk aE T.P).M q->T.M q\/w1.heap.size<=q)/\
  (∀f,ad Z w' f->dr f (T.bk aE T.P) c/\dt T (T.bk aE T.P) c c [] [] w f 2)/\
  ((∃ (K V D:Y),v=.tuple #[c0 o K V D,(0:Int)]/\bC (λq=>w1.heap.size<=q/\¬(T.bk aE T.P).M q) w' o K V D)\/(v=.tuple #[c0 g_ bg bg bg,(3:Int)]/\¬T.C.D.calm 2))):=by
 obtain⟨A,i⟩:=h.t.eA no o z;obtain⟨bd,k⟩:∃bd,bd=λq=>T.E q\/T.G q\/Z q:=⟨_,rfl⟩;have d:∀q,T.E q\/T.G q\/Z q->bd q:=λq a=>by rw[k];exact a
 have l:∀q,bd q->T.E q\/T.G q\/Z q:=λq a=>by rw[k]at a;exact a
 have m:bL w1 (T.ck bd λ_=>False):=h.t.grow (W:=λ_=>False) hx (λ_ h=>h.elim) (λq a=>(l q a).imp id (Or.imp id (g q))) (λ_ h=>h.elim) λ_ _ h=>h;have n:∀q,(T.ck bd λ_=>False).N q->T.N q/\¬T.G q:=λq a=>⟨by
  rcases a with a|a|a|a
  .exact .inl a
  .exact .inr (.inl a)
  .exact .inr (.inr (.inl a))
  .exact a.elim,λhg=>m.iN (d q (.inr (.inl hg))) a⟩
 refine(yd m y A i.two o.leaf).mono ?_;rintro v w' ⟨aE,B,ht,r,F⟩;have Q:=hx.size;have R:=ht.ab.size;have s:=(bN.ext (T.ck bd λ_=>False) hx).trans ht;rw[cB]at s;have H:bN T (T.bk aE T.P) w w' 2:=bN.read (E:=bd) s (λq a=>d q (a.imp id .inl)) λq a=>(l q a).imp id (Or.imp id λh=>(g q h).1);have u:ad (λq=>T.N q/\¬T.G q) w1 w':=ht.ab.mono λq _ a=>n q a;refine⟨aE,r,u,λq a=>?_,λf hc=>?_,?_⟩
 .rcases a with a|a
  .exact(ht.fn q (.inl a)).imp (λh=>aN.gh (n q h).1) id
  .exact .inl (.inr a)
 .have I:bL f (T.bk aE T.P):=B.grow (E:=T.E) (G:=T.G) hc (λq a _=>.inl (d q (.inr (.inr a)))) (λq a=>.inl (d q (.inl a))) (λq a=>.inl (d q (.inr (.inl a)))) λq a=>(h.t.c6 q a).2.2
  refine⟨(h.ext hx).of (W:=λq=>(T.N q/\¬T.G q)\/Z q) I ((u.mono λq _ a=>.inl a).trans (hc.mono λq _ a=>.inr a)) (λq hg a=>?_) rfl (λ_ h=>h) ht.bI.1,dt.cache ?_ r⟩
  .rcases a with a|a
   .exact a.2 hg
   .have:=h.t.lt (q:=q) (.inr (.inr (.inr (.inr hg))))
    have:=(g q a).1;omega
  .exact H.step (E:=T.E) (G:=T.G) hc (λq a S=>by have:=(g q a).1;omega) (λq a=>.inl a) λq a=>.inl a
 .rcases F with ⟨bw,K,V,D,rfl,L,c7⟩|⟨e,rfl,O,U⟩
  .obtain rfl:=gM.uniq i L
   refine .inl ⟨K,V,D,rfl,c7.aX λq a x=>⟨x.1,λb=>x.2 ?_⟩⟩;rcases b with b|b|b|b|b
   .exact .inl b
   .exact .inr (.inl b)
   .exact .inr (.inr (.inl b))
   .exact .inr (.inr (.inr (.inl (d q (.inl b)))))
   .exact .inr (.inr (.inr (.inl (d q (.inr (.inl b))))))
  .refine .inr ?_
   rcases O with ⟨rfl,h1⟩|h1|⟨_,_,h1⟩
   .exact⟨rfl,h1⟩
   .obtain⟨p,av,_⟩:=i
    have h1:dS (no:Int) (T.C.view no)=.error e:=h1;rw[av]at h1;cases h1
   .exact absurd i (h1 o)
def jL(u:dD):Nat:=if u.cX=0 then 1 else u.cX-1
def lL(u:dD)(n o:aD):aD:=if u.cX<jL u then ee n (u.n.keys.getD (u.cX-1) []) o else ee o (u.n.keys.getD (u.cX-1) []) n
def yl(T:aN)(c:dI)(n:aD)(u:dD)(w:J)(v:aa)(w':J):Prop:=
 (80<=bJ n/\∃ (s:Y) (e:Int),v=.tuple #[s,u.cX,.int .i64 ((u.cX+1:Nat):Int),e]/\h4 T c n w (.tuple #[s,e]) w')\/
 (bJ n<80/\∃ (bO:aN) (aC:dI),v=.tuple #[(),(0:Int),(0:Int),(3:Int)]/\dr w' bO aC/\dt T bO c aC [] [] w w' 2/\¬T.C.D.calm 2)\/
 (bJ n<80/\∃ (o:aD) (no:Nat) (bO:aN) (aC:dI) (w1:J) (s:Y) (e:Int),u.n.kids[jL u]? =some no/\T.P no=some o/\dt T bO c aC [] [no] w w1 2/\
   v=.tuple #[s,.int .i64 ((u.cX-1:Nat):Int),.int .i64 ((u.cX-1+2:Nat):Int),e]/\h4 bO aC (lL u n o) w1 (.tuple #[s,e]) w')
theorem G0{B:Nat->Prop}{w:J}{T:aN}{c:dI}{n:aD}{K V D:Y}(h:dr w T c)(j:bC B w n K V D)(d:lJ n)(o:T.C.D.aR<=900000080)(k:2<=cl T)(l:c.made.length<=900):
 aQ aj 248 #[.pointer (some c.cb),c0 n K V D,.pointer none] w (λv w'=>∃ (s:Y) (e:Int),v=.tuple #[s,(0:Int),(0:Int),e]/\h4 T c n w (.tuple #[s,e]) w'):=by
 refine okF (af.n3 (some c.cb) n.leaf K V D none) aA.n3 func248 ?_;(delta af.n3 ak a_ U ag aC r1 au b_ aL g0 ct tq st b6 ra iF ti;dsimp only);refine bj (vs:=dY n K V D) rfl λw1 m f p=>?_;refine cd (λb w'=>b=true/\w1=w') (λq g=>⟨λ_=>g _ _ ⟨rfl,rfl⟩,λh=>(by cases h)⟩) ?_;rintro _ _ ⟨rfl,rfl⟩;refine⟨λ_=>s0 (λa b w'=>a=0/\b=0/\w1=w') (λq g=>⟨λh=>(by cases h),λ_=>g _ _ _ ⟨rfl,rfl,rfl⟩⟩) ?_,λh=>(by cases h)⟩;rintro _ _ _ ⟨rfl,rfl,rfl⟩;obtain⟨bT,aC,aU,aM⟩:=bF m;refine⟨_,bT,K,aC,V,aU,D,aM,(vM (h.ext f) I k l (j.ext f) d.1 d.2.1 d.2.2).use ?_⟩;intro v w' i;obtain⟨s,e,rfl⟩:=i.out;exact⟨s,e,rfl,s,e,rfl,i.base f⟩
theorem G1{w:J}{T:aN}{c:dI}{n:aD}{K V D:Y}{A:ae}{u:dD}(h:dr w T c)(aq:bC (λq=>¬T.M q) w n K V D)(hu:lK (λq=>¬T.M q) w A u)(gi:cH n)(a4:bJ n<=400)(ar:80<=bJ n->lJ n)
 (hB:bJ n<80->∃ (o:aD) (no:Nat),u.n.kids[jL u]? =some no/\T.P no=some o/\o.leaf=n.leaf/\u.cX-1<u.n.keys.length/\cv (u.n.keys.getD (u.cX-1) [])/\lJ (lL u n o)) (bD:u.cX<=900)
 (bE:T.C.D.aR<=900000080) (aP:2<=cl T) (aS:c.made.length<=900) (a5:c.left.length<=900):
 aQ aj 248 #[.pointer (some c.cb),c0 n K V D,.pointer (some A)] w (yl T c n u w):=by
 have bG:=gi.eS I;refine okF (af.n3 (some c.cb) n.leaf K V D (some A)) aA.n3 func248 ?_;(delta af.n3 ak a_ U ag aC r1 au b_ aL g0 ct tq st b6 ra iF ti;dsimp only);refine bj (vs:=dY n K V D) rfl λw1 aa aT bH=>?_;obtain⟨nb,a6⟩:∃nb,nb=w.heap.size:=⟨_,rfl⟩;rw[←a6]at aa⊢;refine cd (λb w'=>b=decide (80<=bJ n)/\Ext w1 w') (λq f=>⟨λh=>(by cases h),λ_=>?_⟩) ?_
 .obtain⟨bT,aC,aU,aM⟩:=bF aa
  refine⟨_,bT,K,aC,V,aU,D,aM,(n_ (aq.ext aT) gi I).use ?_⟩;rintro _ bI ⟨rfl,a7⟩;refine⟨_,rfl,f _ _ ⟨?_,a7⟩⟩;rw[fV,cQ,cQ];omega
 rintro _ p ⟨rfl,ac⟩;have ah:=aT.trans ac;refine⟨λg=>?_,λg=>?_⟩
 .have g:=b1 g
  have L:=ar g;refine s0 (λa b w'=>a=(u.cX:Nat)/\b=((u.cX+1:Nat):Int)/\Ext p w') (λq f=>⟨λ_=>?_,λh=>(by cases h)⟩) ?_
  .have y:Ext p p.drew:=cj _
   have aV:=hu.ext (ah.trans y);refine aW ⟨A,rfl,id,_,aV.bc,A,rfl,id,_,aV.bc,f _ _ _ ⟨rfl,?_,y⟩⟩;rw[bx I I];rfl
  rintro _ _ bK ⟨rfl,rfl,aY⟩;have r:=ah.trans aY;obtain⟨bT,aC,aU,aM⟩:=bF (aa.ext (ac.trans aY));refine⟨_,bT,K,aC,V,aU,D,aM,(vM (h.ext r) I aP aS (aq.ext r) L.1 L.2.1 L.2.2).use ?_⟩;intro v w' ai;obtain⟨s,e,rfl⟩:=ai.out;exact⟨s,e,rfl,.inl ⟨g,s,e,rfl,ai.base r⟩⟩
 .have g:¬80<=bJ n:=cu g
  obtain⟨o,no,av,al,aw,aZ,a8,L⟩:=hB I;obtain⟨bL,a9⟩:=h.t.eA no o al;obtain⟨_,ba,bM⟩:=a9.is;have am:=hu.ext ah;refine⟨A,rfl,_,am.bc,((u.cX-1:Nat):Int),p,?_,?_⟩
  .rw[run_max_int2]
   congr 2
   by_cases h0:u.cX=0
   .rw[h0];rfl
   .rw[bx I I,if_neg I];omega
  refine cd (λa w'=>a=(jL u:Nat)/\p=w') (λq f=>⟨A,rfl,_,am.bc,λh0=>f _ _ ⟨?_,rfl⟩,λh0=>f _ _ ⟨?_,rfl⟩⟩) ?_
  .have:u.cX=0:=by simpa using h0
   unfold jL;rw[if_pos this];rfl
  .have:u.cX≠0:=by simpa using h0
   unfold jL;rw[if_neg this]
  rintro _ _ ⟨rfl,rfl⟩;have bb:jL u<u.n.kids.length:=(ix.1 av).1;obtain⟨AK,bd,be,a0⟩:=cL.at am.bn.kids bb;have bf:u.n.kids[jL u]=no:=(ix.1 av).2;rw[bf]at a0;refine⟨A,rfl,u.D,am.du,AK,bd,be,_,a0,aW ?_⟩;have y:Ext p p.drew:=cj _;obtain⟨z,bh⟩:∃z,z=p.drew:=⟨_,rfl⟩;rw[←bh]at y⊢;have r:=ah.trans y;have ax:=h.ext r;have bN:=r.size;have bP:=(ac.trans y).size;have ay:=aa.ext (ac.trans y);have az:∀q,T.M q->q<w.heap.size:=λq f=>h.t.lt f;have a1:u.n.keys.getD (u.cX-1) []=u.n.keys[u.cX-1]:=by rw[fq,dE aZ];rfl
  have fin:∀ (aE:b4) (aF:Nat) (i k l:Y) (d:J),dr d (T.bk aE T.P) c->dt T (T.bk aE T.P) c c [] [] z d 2->Var d nb (dY n K V D) 202->Var d aF (dY o i k l) 202->z.heap.size<=aF->¬(T.bk aE T.P).M aF->bC (λq=>¬(T.bk aE T.P).M q) d o i k l->
   yk nb aF (some c.cb) (some A) ((u.cX-1:Nat):Int) (jL u:Nat) (no:Nat) 0 d (λv w'=>yl T c n u w v w'):=by
   intro aE aF i k l d B an bi bl bQ bm bo;have a2:=((dt.ext T c r).trans an).mono (j:=2) I;have aB:=a2.to;have bq:¬(T.bk aE T.P).M nb:=λO=>by
    rcases an.to.c5 nb O with h1|h1
    .have:=az _ h1;omega
    .omega
   have br:bC (λq=>¬(T.bk aE T.P).M q) d n K V D:=(aB.bn (lo:=0) (aq.aX λq _ g=>⟨cG _,g⟩)).aX λq _ g=>g.2;have bs:(T.bk aE T.P).C.D.aR<=900000090:=eD aB.aR I;refine GZ B bi bl bq bm br bo (hu.to aB) bs aP aS a5 gi ba a4 I aw aZ (by rw[←a1];exact a8) (lL u n o) (by unfold lL;rw[a1]) L I ?_;intro s e bO aC bt w' bu hf;exact .inr (.inr ⟨I,o,no,bO,aC,bt,s,e,av,al,(a2.trans bu).mono I,rfl,hf⟩)
  have ao:∀q,T.N q->q<w.heap.size:=λq f=>az q (aN.gh f);have err:∀ (aE:b4) (d:J),dr d (T.bk aE T.P) c->dt T (T.bk aE T.P) c c [] [] z d 2->¬T.C.D.calm 2->yl T c n u w (.tuple #[(),(0:Int),(0:Int),(3:Int)]) d:=by
   intro aE d B an Q;exact .inr (.inl ⟨I,_,c,rfl,B,((dt.ext T c r).trans an).mono I,Q⟩)
  obtain⟨bT,aC,aU,aM⟩:=bF ay;refine⟨λq=>T.N q/\¬T.G q,_,rfl,λf=>f.2 h.gc,_,ax.cells.1,(λf=>by have:=ao _ f.1;show False;exact absurd this (by show¬nb<w.heap.size;omega)),_,bT,?_,?_⟩
  .rw[←aw]
   refine(B2 (Z:=λ_=>False) ax (ad.refl _ _) (λ_ h=>h.elim) I al).use ?_;rintro _ F ⟨aE,ai,x,a3,R,aG⟩;have bv:=x.size;rcases aG with ⟨i,k,l,rfl,aH⟩|⟨rfl,Q⟩
   .refine⟨_,i,k,l,0,rfl,x,bj (vs:=[false,(),(),()]) rfl λbw S W bz=>⟨ad.cF W,S.cc rfl fI,rfl,cw S (us:=dY o i k l) rfl rfl λd X m aI=>?_⟩⟩
    have E:Ext F d:=Ext.cn W m (bp _);obtain⟨ap,aJ⟩:=R F (ad.refl _ _);have H:=ay.ab x λf=>by have:=ao _ f.1;omega
    refine fin aE F.heap.size i k l d (ap.ext E) ((aJ.trans (dt.ext _ _ E)).mono I) (H.ext E) X I (λO=>by have:=ap.t.lt O;omega) ?_;exact(aH.ext E).aX λq _ g=>g.2
   .refine⟨_,bg,bg,bg,3,rfl,x,bj (vs:=[false,(),(),()]) rfl λbw S W bz=>⟨ad.cF W,S.cc rfl fI,rfl,cw S (us:=dY g_ bg bg bg) rfl rfl λd X m aI=>⟨λ_=>?_,λg=>(by cases g)⟩⟩⟩
    have E:Ext F d:=Ext.cn W m (bp _);obtain⟨ap,aJ⟩:=R F (ad.refl _ _);exact err aE d (ap.ext E) ((aJ.trans (dt.ext _ _ E)).mono I) Q
  .refine bj (vs:=[false,(),(),()]) rfl λbR bA aK bS=>⟨ad.cF aK,?_⟩
   rw[←aw];refine(B2 (Z:=λq=>q=z.heap.size) ax aK (λq e=>⟨I,I⟩) I al).use ?_;rintro _ F ⟨aE,ai,x,a3,R,aG⟩;have bv:=x.size;have H:=bA.ab x λf=>by have:=ao _ f.1;omega
   have bB:=(ay.ext aK).ab x λf=>by have:=ao _ f.1;omega
   rcases aG with ⟨i,k,l,rfl,aH⟩|⟨rfl,Q⟩
   .refine⟨_,i,k,l,0,rfl,H.cc rfl fI,rfl,cw H (us:=dY o i k l) rfl rfl λd X m aI=>?_⟩
    obtain⟨B,aO⟩:=R d m;refine fin aE z.heap.size i k l d B aO (bB.ab m I) X (bp _) (λO=>?_) ?_
    .rcases a3 _ O with h1|h1
     .have:=az _ h1;omega
     .omega
    .refine(bC.ab aH m λq f e=>by have:=f.1;omega).aX λq _ g=>g.2
   .refine⟨_,bg,bg,bg,3,rfl,H.cc rfl fI,rfl,cw H (us:=dY g_ bg bg bg) rfl rfl λd X m aI=>⟨λ_=>?_,λg=>(by cases g)⟩⟩
    obtain⟨B,aO⟩:=R d m;exact err aE d B aO Q
structure ym(T ao:aN)(l:O Nat)(w w':J):Prop where
 to:bN T ao w w' 0
 E:ao.E=T.E
 G:ao.G=T.G
 root:ao.root=T.root
 aH:ao.aH=T.aH
 f:∀no,ao.f no=(T.f no&& !decide (no∈l))
 eN:∀no,(no∉l\/T.g no=true)->ao.P no=T.P no/\ao.C.view no=T.C.view no
theorem B3{w:J}{T:aN}{c:dI}{s:Y}{l:O Nat}(h:dr w T c)(hs:Src 1 w s (ef l))(z:∀q,aB s q->T.G q)(Q:∀x∈l,T.f x=true)(c7:l.Nodup)(ai:l.length<=10000):
 aQ aj 207 #[.pointer (some c.cb),s] w (λv w'=>v=.tuple #[]/\∃ao:aN,dr w' ao c/\ym T ao l w w'):=by
 have al:s.len=l.length:=by have:=hs.len;rw[nc]at this;omega
 refine okF (af.uI (some c.cb) s) aA.uI func207 ?_;(delta af.uI ak aL r1 aM aC au;dsimp only);refine⟨λi w'=>∃ (j:Nat) (ao:aN),i=j/\j<=l.length/\dr w' ao c/\ym T ao (l.take j) w w'/\Src 1 w' s (ef l),λi _=>((l.length:Int)-i).toNat,⟨0,T,rfl,cG _,h,⟨.refl _ _,rfl,rfl,rfl,rfl,λno=>by simp,λ_ _=>⟨rfl,rfl⟩⟩,hs⟩,?_⟩;rintro _ am ⟨j,bO,rfl,an,h1,hg,B⟩;refine⟨λaK=>?_,λp=>?_⟩
 .have aK:j<l.length:=by
   have:(j:Int)<(s.len:Int):=b1 aK;omega
  have C:bO.f l[j]=true:=by
   rw[hg.f,Q _ (cE aK)];have:l[j]∉l.take j:=λR=>by
    obtain⟨i,hi,he⟩:=fh R;rw[cC]at hi;rw[oV]at he;have:=(List.getElem_inj c7).1 he;omega
   simp[this]
  have ap:l[j]<bO.n:=by
   rcases dJ l[j] bO.n with h2|h2
   .exact h2
   .have:=h1.t.s.pf _ h2
    rw[C]at this;cases this
  obtain⟨A,ar,S,hc⟩:=B.at (i:=j) (v:=.int .i64 ((l[j]:Nat):Int)) (by simp[ef,aK]);refine ij (λw'=>∃b6:aN,dr w' b6 c/\ym T b6 (l.take (j+1)) w w'/\Src 1 w' s (ef l)) (λq a=>⟨A,ar,S,_,hc,_,rfl,_,h1.cells.1,_,rfl,_,h1.t.cells.2.1,(Gw h1.t.s _).use ?_⟩) ?_
  .rintro _ _ ⟨rfl,rfl⟩
   refine⟨_,rfl,_,rfl,_,h1.cells.1,_,rfl,_,h1.t.cells.2.1,(BL h1.t.s _).use ?_⟩;rintro _ D ⟨rfl,gf,r⟩;have U:ni bO.f bO.n ((l[j]:Nat):Int)=dj bO.f l[j] false:=by
    unfold ni;rw[if_pos ⟨I,I⟩,dc]
   rw[U]at gf;obtain⟨V,F⟩:=h1.t.vK gf r;have d:dr D (bO.iP (dj bO.f l[j] false)) c:=h1.of V r (λq a hf=>(h1.t.hD q a).2 hf) rfl λ_ h=>h;have H:Src 1 D s (ef l):=B.ab r λq a hf=>(h1.t.hD q (by rw[hg.G];exact z q a)).2 hf;have W:(decide ((0:Int)<=((l[j]:Nat):Int))&&decide (((l[j]:Nat):Int)<(bO.n:Nat))&&bO.f (Int.toNat ((l[j]:Nat):Int))&& !(bO.g (Int.toNat ((l[j]:Nat):Int))))= !(bO.g l[j]):=by
    rw[dc,C,dK I,dK I];simp
   have K:∀no,dj bO.f l[j] false no=(T.f no&& !decide (no∈l.take (j+1))):=λno=>by
    rw[iy aK];unfold dj;by_cases e:no=l[j]
    .rw[if_pos e,e,dK (cT.2 (.inr (fo.2 rfl)))]
     exact(Bool.and_false _).symm
    .rw[if_neg e,hg.f]
     have X:decide (no∈l.take j++ [l[j]])=decide (no∈l.take j):=by
      rw[fV,cQ,cQ,cT,fo];exact⟨λh=>h.resolve_right e,.inl⟩
     rw[X]
   rw[W];refine⟨_,rfl,λu=>⟨_,rfl,_,d.cells.1,_,rfl,_,d.t.cells.1,(BC d.t.ca _).use ?_⟩,λu=>a _ ⟨_,d,⟨?_,hg.E,hg.G,hg.root,hg.aH,K,λno k=>?_⟩,H⟩⟩
   .rintro _ aq ⟨⟨b,rfl⟩,aE,Z,m,L,_⟩
    have aa:T.g l[j]=false:=by
     have h2:bO.g=T.g:=hg.to.g;rw[h2]at u;simpa using u
    obtain⟨ac,ad⟩:=d.t.qc (P:=λno=>if no=l[j] then none else bO.P no) Z m (λno bn o=>by
     by_cases e:no=l[j]
     .rw[if_pos e]at o;cases o
     .rw[if_neg e]at o
      rw[L no e];exact h1.t.eA no bn o)
    have ae:=d.of (ao:=(bO.iP (dj bO.f l[j] false)).bk aE λno=>if no=l[j] then none else bO.P no) ac m.ab (λq a=>d.t.rW a) rfl (λ_ h=>h) m.bI;refine⟨b,rfl,a _ ⟨_,ae,⟨?_,hg.E,hg.G,hg.root,hg.aH,K,λno k=>?_⟩,?_⟩⟩
    .exact((hg.to.trans F).trans ad).mono I
    .have M:no≠l[j]:=λe=>by
      rcases k with h2|h2
      .exact h2 (by rw[iy aK,e];exact cT.2 (.inr (fo.2 rfl)))
      .rw[e,aa]at h2;cases h2
     have N:=hg.eN no (k.imp (λh2 y=>h2 (by rw[iy aK];exact cT.2 (.inl y))) id);exact⟨(if_neg M).trans N.1,(L no M).trans N.2⟩
    .exact H.ab m.ab λq a=>d.t.rW (by show bO.G q;rw[hg.G];exact z q a)
   .exact(hg.to.trans F).mono I
   .exact hg.eN no (k.imp (λh2 y=>h2 (by rw[iy aK];exact cT.2 (.inl y))) id)
  .rintro av ⟨b6,h2,ag,ah⟩
   rw[bx (n:=(j:Int)+1) I I];refine⟨⟨j+1,b6,I,I,h2,ag,ah⟩,?_⟩;show((l.length:Int)-((j:Int)+1)).toNat<((l.length:Int)-(j:Int)).toNat;omega
 .have p:j=l.length:=by
   have:¬(j:Int)<(s.len:Int):=cu p;omega
  subst p;rw[iz]at hg;exact⟨rfl,bO,h1,hg⟩
theorem pO{B:Nat->Prop}{w:J}{n:aD}{K V D:Y}(c:bC B w n K V D)(aH:Nat)(h:aH<=100)(d:n.leaf=false->∃x,n.kids=[x]/\1<=aH):
 aQ aj 247 #[c0 n K V D,aH] w (λv w'=>v=(if n.leaf then .tuple #[(0:Int),(0:Int),(0:Int)] else .tuple #[.int .i64 ((n.kids.getD 0 0:Nat):Int),.int .i64 ((aH-1:Nat):Int),(0:Int)])/\Ext w w'):=by
 refine okF (af.pO n.leaf K V D (aH:Nat)) aA.pO func247 ?_;(delta af.pO a_ U ak ag aL r1 au;dsimp only);refine bj (vs:=dY n K V D) rfl λw1 e b j=>?_;obtain⟨bT,aC,aU,aM⟩:=bF e;refine⟨_,bT,λa=>⟨by rw[if_pos a],b⟩,λa=>?_⟩;obtain⟨x,hx,h1⟩:=d a;obtain⟨A,ar,f,hc⟩:=cL.at (c.ext b).kids (i:=0) (by rw[hx];simp);refine⟨D,aM,A,ar,f,_,hc,?_,b⟩;have g:(aH:Int)-1=((aH-1:Nat):Int):=by omega
 rw[if_neg (by rw[a];simp),bx I I,g];simp only[hx];rfl
def yn(T:aN)(c:dI)(ks:O Key)(kids:O Nat)(w:J)(v:aa)(w':J):Prop:=
 (∃x,ks=[]/\kids=[x]/\v=.tuple #[x,T.aH,(0:Int)]/\dr w' T c/\Ext w w')\/
 (∃ (k:Key) (x y no:Nat) (ao:aN) (c':dI),ks=[k]/\kids=[x,y]/\dr w' ao c'/\dt T ao c c' [no] [] w w' 1/\
   ((v=.tuple #[no,.int .i64 ((T.aH+1:Nat):Int),(0:Int)]/\ao.P no=some ⟨false,[k],[],[x,y]⟩)\/(v=.tuple #[no,.int .i64 ((T.aH+1:Nat):Int),(3:Int)]/\¬T.C.D.calm 1)))
theorem B4(K D:Nat)(w:J):Sem.run aj (Instr.build 202 #[(1,.slice (some K) 1 1),(3,.slice (some D) 2 2)]) w=.ok (.agg #[false,.slice (some K) 1 1,(),.slice (some D) 2 2]) w:=by kernel_rfl
theorem Var.B5{w:J}{b:Nat}{vs:O aa}{T:TypeId}(h:Var w b vs T):Src 1 w ⟨some b,vs.length,vs.length⟩ vs:=by
 refine⟨by show _=vs.length*1;omega,(λh=>by cases h),λa c=>?_⟩
 cases c;show cD w b 0 (vs.length*1)=_;rw[fF,h.rd rfl]
theorem G2{w:J}{t:Y}{k:Key}(b:Nat)(a:Var w b [t] 48)(ht:a6 (λ_=>True) w t k):bo (λ_=>True) w ⟨some b,1,1⟩ [k]:=by
 refine⟨[t],rfl,a.B5,bp _,λq c=>⟨trivial,?_⟩,λi h1 h2=>?_⟩
 .obtain⟨A,ar,rfl⟩:=c
  cases ar;exact a.lt
 .have:i=0:=by simp at h1;omega
  subst this;exact ht
theorem G3{w:J}{x y:Nat}(b:Nat)(a:Var w b [x,y] 3):cL (λ_=>True) w ⟨some b,2,2⟩ [x,y]:=by
 refine⟨a.B5,bp _,λq c=>⟨trivial,?_⟩⟩;obtain⟨A,ar,rfl⟩:=c
 cases ar;exact a.lt
theorem G4{w:J}{T:aN}{c:dI}{s:Y}{ks:O Key}{kids:O Nat}(h:dr w T c)(H:k8 (λq=>¬T.M q) w s ks kids)(A:kids.length=2->T.aH<12)(hs:∀k x y,ks=[k]->kids=[x,y]->cv k/\x<1600/\y<1600)
 (av:T.C.D.aR<=900000080) (K:1<=cl T) (ax:c.made.length<=900):
 aQ aj 249 #[.pointer (some c.cb),s] w (yn T c ks kids w):=by
 have ay:=h.t.num.2.1;refine okF (af.uR (some c.cb) s) aA.uR func249 ?_;(delta af.uR ak aL r1 ag jo U eP au;dsimp only);have o:Ext w w.drew:=cj w;have hd:=h.ext o;rcases H with ⟨b,x,rfl,rfl,rfl,l,B⟩|⟨b,x,y,k,t,rfl,rfl,rfl,l,B,ht,az⟩
 .refine⟨λ_=>aW ⟨_,rfl,⟨by decide,by show(0:Int)<((1:Nat):Int);decide⟩,id,_,by rw[aw,aw];exact l.drew.cell,_,rfl,id,_,hd.cells.1,_,rfl,id,_,hd.t.cells.2.2.2.2,?_⟩,λh=>(by cases h)⟩
  exact .inl ⟨x,rfl,rfl,rfl,hd,o⟩
 .have A:=A rfl
  obtain⟨s1,s2,aB⟩:=hs k x y rfl rfl;refine⟨λh=>(by cases h),λ_=>⟨_,rfl,_,h.cells.1,_,rfl,_,h.t.cells.2.2.2.2,λL=>?_,λ_=>?_⟩⟩
  .have:(T.aH:Int)=12:=by simpa using L
   omega
  have P:cH ⟨false,[k],[],[x,y]⟩:=.inr ⟨⟨λaC Q=>by rw[fo.1 Q];exact s1,List.pairwise_singleton _ _⟩,rfl,by simp,rfl,rfl,λz E=>by
   simp only[cU,eL,eO]at E;rcases E with rfl|rfl<;>assumption⟩
  have R:bJ ⟨false,[k],[],[x,y]⟩<=232:=by
   have:=s1.2;simp[bJ,cellsOf];omega
  have r:¬T.N b:=λS=>B (aN.gh S);have fin:∀ (d:J) (bl aL:Nat),Ext w d->Var d bl [t] 48->Var d aL [x,y] 3->
   aQ aj 283 #[.pointer (some c.cb),.agg #[false,.slice (some bl) 1 1,(),.slice (some aL) 2 2]] d (λv w'=>∃n27:Int,∃n28:Int,v=.tuple #[n27,n28]/\ad T.N d w'/\
    ∀e,Ext w' e->yn T c [k] [x,y] w (.tuple #[n27,.int .i64 ((T.aH+1:Nat):Int),n28]) e/\∃ao c',dr e ao c'/\c'.cb=c.cb/\ao.aY=T.aY/\ao.aH=T.aH):=by
   intro d bl aL hx V W;have c7:bC (λ_=>True) d ⟨false,[k],[],[x,y]⟩ ⟨some bl,1,1⟩ ⟨none,0,0⟩ ⟨some aL,2,2⟩:=by
    exact⟨G2 bl V (a6.aX (a6.ext ht hx) λ_ _ _=>trivial),bo.none _ _,G3 aL W⟩
   refine(vL (h.ext hx) I K I c7 P R).mono ?_;rintro v w' ⟨no,ao,c',p,f,X⟩;have F:=((dt.ext T c hx).trans f).mono (j:=1) I;rcases X with ⟨rfl,Z⟩|⟨rfl,aa⟩
   .refine⟨_,_,rfl,f.to.ab,λe g=>⟨.inr ⟨k,x,y,no,ao,c',rfl,rfl,p.ext g,(F.trans (dt.ext ao c' g)).mono I,.inl ⟨rfl,Z⟩⟩,ao,c',p.ext g,f.cb,f.to.aY,f.aH⟩⟩
   .refine⟨_,_,rfl,f.to.ab,λe g=>⟨.inr ⟨k,x,y,no,ao,c',rfl,rfl,p.ext g,(F.trans (dt.ext ao c' g)).mono I,.inr ⟨rfl,aa⟩⟩,ao,c',p.ext g,f.cb,f.to.aY,f.aH⟩⟩
  have ac:IntKind.wrap .i64 ((T.aH:Int)+1)=((T.aH+1:Nat):Int):=by rw[bx I I];rfl
  refine s0 (λa b w'=>∀e,Ext w' e->yn T c [k] [x,y] w (.tuple #[a,.int .i64 ((T.aH+1:Nat):Int),b]) e/\∃ao c',dr e ao c'/\c'.cb=c.cb/\ao.aY=T.aY/\ao.aH=T.aH) (λq G=>aW ⟨T.N,_,rfl,⟨by decide,by show(1:Int)<((2:Nat):Int);decide⟩,r,t,by rw[aw];exact l.drew.cell,_,rfl,⟨by decide,by show(0:Int)<((2:Nat):Int);decide⟩,r,_,by rw[aw,aw];exact l.drew.cell,_,rfl,⟨by decide,by show(1:Int)<((2:Nat):Int);decide⟩,r,_,by rw[aw,aw];exact l.drew.cell,?_,?_⟩) ?_
  .refine bj (vs:=[t]) rfl λu ae m ah=>⟨ad.cF m,bj (vs:=[x,y]) rfl λd ai i al=>⟨ad.cF i,_,λ_=>B4 _ _ _,?_⟩⟩
   refine(fin d w.drew.heap.size u.heap.size (o.trans (m.trans i)) (ae.ext i) ai).use ?_;rintro _ w' ⟨n27,n28,rfl,hc,n⟩;exact⟨n27,n28,rfl,hc,G _ _ _ n⟩
  .refine bj (vs:=[x,y]) rfl λu am m ah=>⟨ad.cF m,bj (vs:=[t]) rfl λd an i al=>⟨ad.cF i,_,λ_=>B4 _ _ _,?_⟩⟩
   refine(fin d u.heap.size w.drew.heap.size (o.trans (m.trans i)) an (am.ext i)).use ?_;rintro _ w' ⟨n27,n28,rfl,hc,n⟩;exact⟨n27,n28,rfl,hc,G _ _ _ n⟩
  .intro a b ap n
   obtain⟨h1,ao,c',h2,aq,aD,ar⟩:=n _ (cj ap);have hc:=h2.cells.1;rw[aq]at hc;have ht:=h2.t.cells.2.2.2.2;refine aW ⟨_,rfl,id,_,hc,_,rfl,id,_,ht,?_⟩;rw[ar,ac];exact h1
theorem dh.yo{P:Nat->aq aD}{lo hi:aq Key}{h:Nat}{n:aD}{p:O Nat}{L:O aI}(a:dh P h n lo hi p L)(h2:n.leaf=true->bJ n<=310)(d:n.leaf=false->bJ n<=335)(g:n.leaf=false->n.keys≠ []):lJ n:=by
 refine⟨?_,by cases e:n.leaf;exact eD (d e) (by decide);exact eD (h2 e) (by decide),λhs=>?_⟩
 .cases h with
  |zero=>exact a.elim
  |succ h=>
   cases h with
   |zero=>exact .inl a.1
   |succ h=>
    obtain⟨av,ax,b,c,f⟩:=a;have hs:=f.sorted λ_ _ _ _ _ i=>i.in;exact .inr ⟨⟨b,hs.2.2.1⟩,av,g av,f.len,ax,c⟩
 .obtain⟨av,ax,b,c,_⟩:=a.two (Q:=P) (x:=0) (y:=0) hs h2 d
  exact⟨av,ax,b,c⟩
section
variable {P:Nat->aq aD}{lo hi:aq Key}
theorem G5{h:Nat}{d f:aD}{p A:aq Key}{i:Nat}{bB D:O Nat}{bf hT:O aI}{k:Key}(E:∀k∈d.keys,cv k)(hlen:d.kids.length=d.keys.length+1)(F:∀x n,P x=some n->bJ n<=232)
 (dO:1<=i) (Q:i<d.kids.length) (B:fw p A k)
 (G:fE (fx P (h+1)) lo p (d.keys.take i) (d.kids.take i) bB bf) (q:dh P (h+1) f p A D hT) (h1:bJ f<80):
 ∃ (o:aD) (R:i-1<d.kids.length) (S:i-1<d.keys.length),P d.kids[i-1]=some o/\o.leaf=f.leaf/\cv d.keys[i-1]/\lJ (ee o d.keys[i-1] f):=by
 obtain⟨s,H,aG,r,aP,N,hs,rfl,t,rfl,rfl,⟨u,m,g,v⟩,T,U⟩:=G.last (by rw[cC];omega);have V:(d.keys.take i).length=i:=by rw[cC];omega
 have W:(d.kids.take i).length=i:=by rw[cC];omega
 have t:s=d.keys[i-1]'I:=by
  rw[t,oV];congr 1;omega
 have J:(d.kids.take i)[(d.kids.take i).length-1]'I=d.kids[i-1]'I:=by
  rw[oV];congr 1;omega
 rw[J]at u g;obtain⟨o,K,j,rfl,_,w⟩:=u.kB;rw[j]at g;have v:2<=o.keys.length:=by rw[Option.some.inj g];exact v
 clear g;subst t;have y:=(show fx P (h+1) H (some (d.keys[i-1]'I)) (d.kids[i-1]'I) (d.kids[i-1]'I::K) N from⟨u,o,j,v⟩).in;obtain⟨x,hx⟩:=qz _ y.1;have z:=E _ (cE (l:=d.keys) (n:=i-1) I);have L:=dh.merge w q z (λc hc=>iG (j3 ((y.2.2 x hx).1 c hc) ((y.2.2 x hx).2 _ rfl))) (λc hc=>iG (j3 (B.1 _ rfl) (B.2 c hc)));have C:=vi w q z (by have:=F _ _ j;omega);have M:=vh (a:=o) (b:=f) (s:=d.keys[i-1]'I);refine⟨o,I,I,j,by rw[w.leaf,q.leaf],z,L.yo C.1 C.2 λ_ e=>?_⟩;rw[e,jD]at M;omega
theorem G6{h:Nat}{d f:aD}{B q:aq Key}{i:Nat}{bq E:O Nat}{hT bz:O aI}{k:Key}(F:∀k∈d.keys,cv k)(hlen:d.kids.length=d.keys.length+1)(G:∀x n,P x=some n->bJ n<=232)
 (g:i+1<d.kids.length) (C:fw B q k)
 (H:gx (fx P (h+1)) hi q (d.keys.drop i) (d.kids.drop (i+1)) bq bz) (t:dh P (h+1) f B q E hT) (h1:bJ f<80):
 ∃ (o:aD) (R:i+1<d.kids.length) (S:i<d.keys.length),P d.kids[i+1]=some o/\o.leaf=f.leaf/\cv d.keys[i]/\lJ (ee f d.keys[i] o):=by
 obtain⟨s,J,r,T,N,U,hs,rfl,u,rfl,rfl,⟨v,m,j,w⟩,V⟩:=H.head (by rw[c_];omega);have u:s=d.keys[i]'I:=by rw[u,qE];rfl
 have K:(d.kids.drop (i+1))[0]'(by rw[c_];omega)=d.kids[i+1]'g:=by rw[qE]
 rw[K]at v j;obtain⟨o,L,p,rfl,_,y⟩:=v.kB;rw[p]at j;have w:2<=o.keys.length:=by rw[Option.some.inj j];exact w
 clear j;subst u;have z:=(show fx P (h+1) (some (d.keys[i]'I)) J (d.kids[i+1]'g) (d.kids[i+1]'g::L) N from⟨v,o,p,w⟩).in;obtain⟨x,hx⟩:=qz _ z.1;have A:=F _ (cE (l:=d.keys) (n:=i) I);have M:=dh.merge t y A (λc hc=>iG (j3 (C.1 c hc) (C.2 _ rfl))) (λc hc=>iG (j3 ((z.2.2 x hx).1 _ rfl) ((z.2.2 x hx).2 c hc)));have D:=vi t y A (by have:=G _ _ p;omega);have Q:=vh (a:=f) (b:=o) (s:=d.keys[i]'I);refine⟨o,g,I,p,by rw[y.leaf,t.leaf],A,M.yo D.1 D.2 λ_ e=>?_⟩;rw[e,jD]at Q;omega
inductive Ctx (P:Nat->aq aD) (k:Key) (top:Nat):Nat->aq Key->aq Key->O (Nat×aD×Nat)->O Nat->O aI->O aI->Prop
 |top:Ctx P k top top none none [] [] [] []
 |step {eU:Nat}{lo hi a b:aq Key}{st:O (Nat×aD×Nat)}{cJ:O Nat}{A B:O aI}{no:Nat}{n:aD}{bB bq:O Nat}{bf bz:O aI} (h:Ctx P k top (eU+2) lo hi st cJ A B) (c:P no=some n) (d:n.leaf=false) (e:∀k∈n.keys,cv k) (f:∀x∈n.kids,x<1600)
  (hlen:n.kids.length=n.keys.length+1) (g:n.keys≠ []) (i:st≠ []->2<=n.keys.length) (j:fw a b k) (l:fE (fx P (eU+1)) lo a (n.keys.take (dn n.keys k)) (n.kids.take (dn n.keys k)) bB bf)
  (m:gx (fx P (eU+1)) hi b (n.keys.drop (dn n.keys k)) (n.kids.drop (dn n.keys k+1)) bq bz):Ctx P k top (eU+1) a b (st++ [(no,n,dn n.keys k)]) (no::(bB++(bq++cJ))) (A++bf) (bz++B)
theorem Ctx.eU{k:Key}{top eU:Nat}{st:O (Nat×aD×Nat)}{cJ:O Nat}{A B:O aI}(h:Ctx P k top eU lo hi st cJ A B):eU+st.length=top:=by
 induction h with
 |top=>rfl
 |step h _ _ _ _ _ _ _ _ _ _ a=>rw[cz,iU];omega
theorem Ctx.agree{Q:Nat->aq aD}{k:Key}{top eU:Nat}{st:O (Nat×aD×Nat)}{cJ:O Nat}{A B:O aI}(h:Ctx P k top eU lo hi st cJ A B)(a:∀x∈cJ,P x=Q x):Ctx Q k top eU lo hi st cJ A B:=by
 induction h with
 |top=>exact .top
 | @step eU lo hi p q st cJ A B no n bB bq bf bz h c d e f hlen g i j l m o=>
  refine .step (o λx hx=>a x (by simp[hx])) (by rw[←a no (by simp)];exact c) d e f hlen g i j (l.lE λ_ _ _ _ _ hs b=>b.agree λx hx=>a x ?_) (m.lE λ_ _ _ _ _ hs b=>b.agree λx hx=>a x ?_)
  .have:=hs x hx;simp[this]
  .have:=hs x hx;simp[this]
theorem Ctx.down{k:Key}{top:Nat}:∀ {eU:Nat}{lo hi:aq Key}{st:O (Nat×aD×Nat)}{cJ:O Nat}{A B M aP:O aI}{no:Nat}{p:O Nat},Ctx P k top (eU+1) lo hi st cJ A B->eo P (eU+1) lo hi no p M->(st≠ []->∃m,P no=some m/\2<=m.keys.length)->fw lo hi k->aP=A++(M++B)->(∀u,Loc k u->u aP=A++(u M++B))->
 ∃ (rest a:O (Nat×aD×Nat)) (b:Nat) (bW:aD) (fc dO:aq Key) (f:O Nat) (c d:O aI),nk P k (eU+1) no rest/\st++rest=a++ [(b,bW,0)]/\Ctx P k top 1 fc dO a f c d/\P b=some bW/\gS bW/\bW.within fc dO/\bW.keys≠ []/\(a≠ []->2<=bW.keys.length)/\fw fc dO k/\
  (p++cJ).Perm (b::f)/\aP=c++(bW.dN++d)/\∀u,Loc k u->u aP=c++(u bW.dN++d)
 |0,lo,hi,st,cJ,A,B,M,aP,no,p,hc,h,h2,i,j,hu=>by
  obtain⟨n,h1,g,v,w,rfl,rfl⟩:=h
  refine⟨[(no,n,0)],st,no,n,lo,hi,cJ,A,B,⟨n,[],h1,by rw[g.leaf];rfl,rfl,rfl⟩,rfl,hc,h1,g,v,w,λhs=>?_,i,List.Perm.refl _,j,hu⟩
  obtain⟨m,e,l⟩:=h2 hs
  rw[h1]at e;cases e
  exact l
 |eU+1,lo,hi,st,cJ,A,B,M,aP,no,p,hc,h,h2,i,j,hu=>by
  obtain⟨n,U,h1,rfl,g,o⟩:=h.kB
  obtain⟨V,W,bB,q,bq,bf,hT,bz,x,rfl,rfl,r,s,y,hlen,z,C⟩:=o.at i
  obtain⟨av,ax,D,E,_⟩:=o
  have F:=Ctx.step hc h1 av D E hlen g (λhs=>by
   obtain⟨m,e,l⟩:=h2 hs
   rw[h1]at e;cases e
   exact l) s z C
  obtain⟨rest,a,b,bW,fc,dO,f,c,d,r1,b5,ag,bD,a_,G,H,J,K,L,N,Q⟩:=Ctx.down (aP:=aP) F r.1 (λ_=>r.2) s (by rw[j];simp only[cO]) (λu t=>by rw[hu u t,y u t];simp only[cO])
  refine⟨(no,n,dn n.keys k)::rest,a,b,bW,fc,dO,f,c,d,⟨n,rest,h1,by rw[av];simp,by rw[if_neg I],?_⟩,?_,ag,bD,a_,G,H,J,K,?_,N,Q⟩
  .rw[fq,dE x]
   exact r1
  .rw[←b5];simp
  .refine List.Perm.trans ?_ L
   have R:(no::(bB++(q++bq))++cJ)=no::(bB++(q++(bq++cJ))):=by simp[cO]
   rw[R]
   have S:(q++no::(bB++(bq++cJ))).Perm (no::(q++(bB++(bq++cJ)))):=mG
   refine List.Perm.trans ?_ S.symm
   refine List.Perm.cons _ ?_
   have T:=(qC (l₁:=bB) (l₂:=q)).append_right (bq++cJ)
   simpa[cO] using T
end
theorem yp{α:Type}(a b c:O α):(a++(b++c)).Perm (a++c++b):=by
 rw[cO];exact(qC (l₁:=b) (l₂:=c)).append_left a
theorem Ctx.up{P:Nat->aq aD}{lo hi:aq Key}{k:Key}{top eU:Nat}{st R:O (Nat×aD×Nat)}{cJ:O Nat}{A B:O aI}{u:dD}{a:aD}{q:O Nat}{M:O aI}(hc:Ctx P k top eU lo hi st cJ A B)(aa:st=R++ [u.st])(c:dh P eU a lo hi q M)(F:∀x n,P x=some n->bJ n<=232)(hs:bJ a<=282):
 ∃ (d f:aq Key) (G:O Nat) (g j:O aI) (ps:O Nat),Ctx P k top (eU+1) d f R G g j/\cJ=u.no::(ps++G)/\P u.no=some u.n/\u.cX<u.n.kids.length/\u.n.kids.length=u.n.keys.length+1/\u.n.keys≠ []/\(R≠ []->2<=u.n.keys.length)/\
  (80<=bJ a->∀ (Q:Nat->aq aD) (ks:O Key) (kids:O Nat),mc Q a ks kids->(∀x∈ps++q,P x=Q x)->(∀x∈kids,x<1600)->∃ (dH:O Nat) (l:O aI),dh Q (eU+1) (ga u.n u.cX (u.cX+1) ks kids) d f dH l/\g++(l++j)=A++(M++B)/\dH.Perm (kids++(ps++q))/\
    bJ (ga u.n u.cX (u.cX+1) ks kids)<=bJ u.n+27/\u.n.keys.length<=(ga u.n u.cX (u.cX+1) ks kids).keys.length+1)/\
  (bJ a<80->∃ (o:aD) (no:Nat) (rest:O Nat),u.n.kids[jL u]? =some no/\P no=some o/\o.leaf=a.leaf/\u.cX-1<u.n.keys.length/\cv (u.n.keys.getD (u.cX-1) [])/\lJ (lL u a o)/\ps.Perm (no::rest)/\
    ∀ (Q:Nat->aq aD) (ks:O Key) (kids:O Nat),mc Q (lL u a o) ks kids->(∀x∈rest++q,P x=Q x)->(∀x∈kids,x<1600)->∃ (dH:O Nat) (l:O aI),dh Q (eU+1) (ga u.n (u.cX-1) (u.cX-1+2) ks kids) d f dH l/\g++(l++j)=A++(M++B)/\dH.Perm (kids++(rest++q))/\
     bJ (ga u.n (u.cX-1) (u.cX-1+2) ks kids)<=bJ u.n+27/\u.n.keys.length<=(ga u.n (u.cX-1) (u.cX-1+2) ks kids).keys.length+1):=by
 cases hc with
 |top=>
  have:=congrArg List.length aa;simp at this
 | @step eU d f _ _ ar G g j ab H bB bq bf bz h ah S m T hlen ac ai J p r=>
  obtain⟨rfl,h2⟩:=List.append_inj' aa rfl;have U:(ab,H,dn H.keys k)=u.st:=by simpa using h2
  have aj:ab=u.no:=congrArg Prod.fst U;have ak:H=u.n:=congrArg (λx=>x.2.1) U;have ad:dn H.keys k=u.cX:=congrArg (λx=>x.2.2) U;subst aj ak;rw[ad]at p r;have al:=vf u.n.keys k;rw[ad]at al;refine⟨d,f,G,g,j,bB++bq,h,by rw[cO],ah,I,hlen,ac,ai,λb Q ks kids hf s t=>?_,λb=>?_⟩
  .obtain⟨v,av,ax,w,K⟩:=Fa S m T p r c b hs hf (λx hx=>s x (by
    simp only[cT]at hx⊢;rcases hx with hx|hx|hx
    .exact .inl (.inl hx)
    .exact .inr hx
    .exact .inl (.inr hx))) t
   refine⟨v,_,av,by simp only[cO],ax.trans (List.Perm.append_left kids ?_),w,I⟩;exact yp bB q bq
  .by_cases h0:u.cX=0
   .obtain⟨o,L,N,y,V,W,X⟩:=G6 m hlen F (i:=u.cX) (by
     have:u.n.keys.length≠0:=λe=>ac (List.eq_nil_of_length_eq_zero e);omega) J r c b
    obtain⟨am,ae,an,ao,z,Y,_,Z⟩:=Fc S m T hlen F L J p r c b;rw[y]at z;obtain rfl:=Option.some.inj z;have C:jL u=u.cX+1:=by unfold jL;rw[if_pos h0,h0]
    have af:u.cX-1=u.cX:=by omega
    have D:u.n.keys.getD (u.cX-1) []=u.n.keys[u.cX]:=by rw[af,fq,dE N];rfl
    have E:lL u a o=ee a u.n.keys[u.cX] o:=by unfold lL;rw[if_pos (by rw[C];omega),D]
    refine⟨o,u.n.kids[u.cX+1],bB++ae,by rw[C];exact dE L,y,V,I,by rw[D];exact W,by rw[E];exact X,?_,λQ ks kids hf s t=>?_⟩
    .exact(List.Perm.append_left bB Y).trans mG
    .rw[E]at hf
     obtain⟨v,av,ax,w,K⟩:=Z Q ks kids hf (λx hx=>s x (by
      simp only[cT]at hx⊢;rcases hx with hx|hx|hx
      .exact .inl (.inl hx)
      .exact .inr hx
      .exact .inl (.inr hx))) t
     rw[af];exact⟨v,_,av,by simp only[cO],ax.trans (List.Perm.append_left kids (yp bB q ae)),w,K⟩
   .obtain⟨o,L,N,y,V,W,X⟩:=G5 m hlen F (i:=u.cX) I I J p c b
    obtain⟨am,ag,an,ao,z,Y,_,Z⟩:=Fb S m T hlen F I I J p r c b;rw[y]at z;obtain rfl:=Option.some.inj z;have C:jL u=u.cX-1:=by unfold jL;rw[if_neg h0]
    have D:u.n.keys.getD (u.cX-1) []=u.n.keys[u.cX-1]:=by rw[fq,dE N];rfl
    have E:lL u a o=ee o u.n.keys[u.cX-1] a:=by unfold lL;rw[if_neg (by rw[C];omega),D]
    have ap:u.cX-1+2=u.cX+1:=by omega
    refine⟨o,u.n.kids[u.cX-1],ag++bq,by rw[C];exact dE L,y,V,N,by rw[D];exact W,by rw[E];exact X,?_,λQ ks kids hf s t=>?_⟩
    .exact(Y.append_right bq)
    .rw[E]at hf
     obtain⟨v,av,ax,w,K⟩:=Z Q ks kids hf (λx hx=>s x (by
      simp only[cT]at hx⊢;rcases hx with hx|hx|hx
      .exact .inl (.inl hx)
      .exact .inr hx
      .exact .inl (.inr hx))) t
     rw[ap];exact⟨v,_,av,by simp only[cO],ax.trans (List.Perm.append_left kids (yp ag q bq)),w,K⟩
theorem dr.G7{w:J}{T:aN}{c:dI}{E:Nat->Prop}(h:dr w T c)(b:∀q,E q->T.E q):dr w (T.ck E T.G) c:=
 h.of (ao:=T.ck E T.G) (W:=λ_=>False) (h.t.grow (W:=λ_=>False) (ad.refl _ _) (λ_ h=>h.elim) (λq a=>.inl (b q a)) (λq a=>.inr (.inl a)) λq a=>(h.t.c6 q (b q a)).2.2) (ad.refl _ _) (λ_ _ h=>h) rfl λ_ h=>h
theorem dt.local{T ao:aN}{c c':dI}{m l:O Nat}{bd:Nat->Prop}{w w1 w':J}{k:Nat}(h:dt (T.ck bd T.G) ao c c' m l w1 w' k)(hx:Ext w w1)(b:∀q,bd q->T.E q\/w.heap.size<=q)(d:∀q,T.E q->bd q):dt T (ao.ck T.E ao.G) c c' m l w w' k:=
 ⟨h.to.local hx b (λq a=>.inl a) (λq a=>.inl (by rw[h.E];exact d q a)) λq a=>a,rfl,h.G,h.root,h.aH,h.cb,h.made,h.left,h.bn,h.jK,h.f,h.eN,h.room⟩
theorem dr.B6{w w':J}{T:aN}{c:dI}{W:Nat->Prop}(h:dr w T c)(hc:ad W w w')(cg:∀q,W q->T.E q\/w.heap.size<=q):dr w' T c:=by
 have b:ad (λq=>T.E q) w w':=cy (W:=λq=>T.E q) (ad.refl _ _) hc λq a d=>(cg q d).resolve_right I;exact h.of (h.t.grow (E:=T.E) (G:=T.G) b (λq a _=>.inl a) (λq a=>.inl a) (λq a=>.inr (.inl a)) λq a=>(h.t.c6 q a).2.2) b (λq hg he=>(h.t.c6 q he).2.2 hg) rfl λ_ h=>h
theorem j_.to{w w':J}{T ao:aN}{k:Nat}{s:Y}{l:O dD}(h:j_ (λq=>¬T.M q) w s l)(ht:bN T ao w w' k):j_ (λq=>¬ao.M q) w' s l:=by
 refine⟨h.own.ab ht.ab λq a c=>h.oI q a (aN.gh c),λq a d=>?_,λx hx=>?_⟩
 .rcases ht.c5 q d with h1|h1
  .exact h.oI q a h1
  .have:=ba.lt h.own q a;omega
 .exact(ht.bn (lo:=0) ((h.bn x hx).aX λq _ b=>⟨cG _,b⟩)).aX λq _ b=>b.2
theorem j_.at{B:Nat->Prop}{w:J}{s:Y}{l:O dD}(h:j_ B w s l){i:Nat}(hi:i<l.length):∃A:ae,s.a=some A/\s.len=l.length/\B A.block/\w.cell? (A.add (i*6))=some (.int .i64 ((l[i]).no:Nat))/\lK B w (A.add (i*6)) l[i]:=by
 have f:=h.own.1;rw[gL _ (nj l)]at f;have g:s.len=l.length:=by omega
 rcases h.own.2.2.2 with ⟨h1,h2⟩|⟨b,c,e,k,o,m⟩
 .have:=h.own.2.1
  omega
 .have d:∀j,j<6->w.cell? ⟨b,i*6+j,none⟩=((dD.c l[i]))[j]? :=λj n=>by
   rw[bu.cell k,←rL (nj l) hi n,←m];rw[sj,if_pos I,Array.getElem?_toList]
  refine⟨b,e,g,h.oI b ⟨_,e,rfl⟩,?_,?_⟩
  .rw[aw,cB]
   exact d 0 (by decide)
  .rw[aw,cB]
   refine⟨?_,?_,?_,?_,?_,h.bn _ (cE hi),h.oI b ⟨_,e,rfl⟩,ba.lt h.own b ⟨_,e,rfl⟩⟩
   .rw[aw];exact d 1 (by decide)
   .rw[aw,aw];exact d 2 (by decide)
   .rw[aw,aw];exact d 3 (by decide)
   .rw[aw,aw];exact d 4 (by decide)
   .rw[aw];exact d 5 (by decide)
theorem Ctx.B7{P:Nat->aq aD}{lo hi:aq Key}{k:Key}{top eU:Nat}{cJ:O Nat}{A B:O aI}(h:Ctx P k top eU lo hi [] cJ A B):eU=top/\lo=none/\hi=none/\cJ=[]/\A=[]/\B=[]:=by
 generalize a:([]:O (Nat×aD×Nat))=st at h
 cases h with
 |top=>exact⟨rfl,rfl,rfl,rfl,rfl,rfl⟩
 |step h=>
  have:=congrArg List.length a;simp at this
def mu(T:aN)(c:dI)(aG:O Nat)(ej:O aI)(w:J)(v:aa)(w':J):Prop:=
 ∃ (ao:aN) (c':dI) (m l:O Nat),dr w' ao c'/\dt T ao c c' m l w w' 60/\
  ((v=.tuple #[(0:Int),(0:Int),(0:Int)]/\ej=[]/\l.Perm (m++aG)/\m.length<=2*T.aH+3)\/
   (∃ (root h:Nat) (pages:O Nat),v=.tuple #[root,h,(0:Int)]/\eo ao.P h none none root pages ej/\(pages++l).Perm (m++aG)/\1<=h/\h<=T.aH+1/\m.length<=2*T.aH+3)\/
   (∃a b:Int,v=.tuple #[a,b,(3:Int)]/\¬T.C.D.calm 60))
theorem mu.local{T:aN}{c:dI}{aG:O Nat}{ej:O aI}{bd:Nat->Prop}{w w1 w':J}{v:aa}(h:mu (T.ck bd T.G) c aG ej w1 v w')(hx:Ext w w1)(b:∀q,bd q->T.E q\/w.heap.size<=q)(a:∀q,T.E q->bd q):mu T c aG ej w v w':=by
 obtain⟨ao,c',m,l,h1,h2,d⟩:=h;exact⟨ao.ck T.E ao.G,c',m,l,h1.G7 λq e=>by rw[h2.E];exact a q e,h2.local hx b a,d⟩
structure G8(bO:aN)(c:dI)(b:J)(a:O dD)(k:Key)(aG:O Nat)(ej:O aI)(ws:Y)(hE:Nat)(i:Nat)(w':J)(ao:aN)(c':dI)(m l:O Nat)(n:aD)(K V D:Y)(lo hi:aq Key)(cJ:O Nat)(A B:O aI)(q:O Nat)(M:O aI)(r:O Nat):Prop where
 te:i<a.length
 yq:dr w' ao c'
 to:dt bO ao c c' m l b w' (4*(a.length-1-i))
 oJ:m.length<=2*(a.length-1-i)
 ll:l.length<=2*(a.length-1-i)
 hE:Var w' hE (dY n K V D) 202
 bn:bC (λq=>¬ao.M q) w' n K V D
 il:j_ (λq=>¬ao.M q) w' ws a
 ctx:Ctx ao.P k a.length (a.length-i) lo hi ((a.take i).map dD.st) cJ A B
 kB:dh ao.P (a.length-i) n lo hi q M
 eq:A++(M++B)=ej
 pp:aG.Perm ((a[i]).no::(r++cJ))
 acc:(q++l).Perm (m++r)
 sz:bJ n<=282
 G9:1<=i->n.keys≠ []
 B8:∀x∈q++cJ,ao.f x=true
theorem bL.nm{w:J}{T:aN}(h:bL w T):∀x n,T.P x=some n->bJ n<=232:=λx n hx=>(h.eA x n hx).2.is.2.2
theorem h4.cs{T:aN}{c:dI}{n:aD}{w w':J}{s:Y}{e:Int}(h:h4 T c n w (.tuple #[s,e]) w'):
 ∃ (ao:aN) (c':dI) (m:O Nat),dr w' ao c'/\dt T ao c c' m [] w w' 2/\m.length<=2/\((e=0/\∃ks,mc ao.P n ks m/\k8 (λq=>¬ao.M q) w' s ks m)\/(e=3/\¬T.C.D.calm 2)):=by
 obtain⟨ao,c',m,s2,h1,h2,d,f⟩:=h;refine⟨ao,c',m,h1,h2,d,?_⟩;rcases f with ⟨ks,a,b,g⟩|⟨a,b⟩
 .simp at a
  obtain⟨⟨a1,a2,a3⟩,rfl⟩:=a;obtain rfl:s=s2:=by cases s;cases s2;simp_all
  exact .inl ⟨rfl,ks,b,g⟩
 .simp at a
  exact .inr ⟨a.2,b⟩
theorem G_{P Q c:Nat->aq aD}{t:Nat}{n:aD}{q:O Nat}{M:O aI}{a:Key}{x y no:Nat}(d:dh P (t+1) n none none q M)(hs:bJ n<=282)(hf:mc Q n [a] [x,y])(i:∀z∈q,P z=Q z)(j:c no=some ⟨false,[a],[],[x,y]⟩)(k:∀z∈x::y::q,Q z=c z)(hx:x<1600)(m:y<1600):
 cv a/\∃pages,eo c (t+2) none none no pages M/\pages.Perm (no::x::y::q):=by
 have o:232<bJ n:=by
  rcases hf with ⟨_,z,e,_⟩|⟨h,_⟩
  .cases e
  .exact h
 obtain⟨f,av,ax,g,_⟩:=d.fits (d.xr I) (λ_=>I) (λ_=>I) hf i;have l:dh Q (t+2) ⟨false,[a],[],[x,y]⟩ none none f M:=⟨rfl,rfl,g,λz b=>by
  simp only[cU,eL,eO]at b;rcases b with rfl|rfl<;>assumption,av⟩
 refine⟨g a (by simp),no::f,l.lay (by simp) j λz b=>k z ?_,List.Perm.cons no ax⟩;have:=ax.mem_iff.1 b;simpa using this
theorem np{a b:O Nat}:a.Perm b↔∀x,a.count x=b.count x:=List.perm_iff_count
theorem mv{q l m r:O Nat}{no:Nat}(h:(q++l).Perm (m++r)):(q++(l++ [no])).Perm (m++(no::r)):=by
 rw[np]at h⊢;intro x;have:=h x;simp only[nB,oY,oZ]at this⊢;omega
theorem jd{q l m r dH ps ms ls rest:O Nat}(h:(q++l).Perm (m++r))(h2:dH.Perm (ms++(rest++q)))(a:ps.Perm (ls++rest)):(dH++(l++ls)).Perm ((m++ms)++(ps++r)):=by
 rw[np]at h h2 a⊢;intro x;have:=h x;have:=h2 x;have:=a x;simp only[nB,oY,oZ]at*;omega
theorem mw{aG r ps a:O Nat}{u:Nat}(h:aG.Perm (r++(u::(ps++a)))):aG.Perm (u::((ps++r)++a)):=by
 rw[np]at h⊢;intro x;have:=h x;simp only[nB,oY,oZ]at*;omega
theorem Ha{w:J}{T:aN}{c:dI}{d:O dD}{k:Key}{aG cJ:O Nat}{ej A B M:O aI}{lo hi:aq Key}{ws:Y}{n:aD}{K V D:Y}(h:dr w T c)(bU:j_ (λq=>¬T.M q) w ws d)(bu:bC (λq=>¬T.M q) w n K V D)(eD:0<d.length)(hlen:d.length=T.aH)(eE:T.aH<12)
 (eF:T.C.D.aR<=900000000) (eG:2*T.aH+3<=cl T) (eH:c.made.length<=100) (eI:c.left.length<=100) (cA:Ctx T.P k d.length 1 lo hi ((d.take (d.length-1)).map dD.st) cJ A B) (L:dh T.P 1 n lo hi [] M) (an:A++(M++B)=ej)
 (N:aG.Perm ((d[d.length-1]'I).no::cJ)) (bv:bJ n<=282) (a6:2<=d.length->n.keys≠ []) (Q:∀x∈cJ,T.f x=true):
 aQ aj 208 #[.pointer (some c.cb),ws,c0 n K V D] w (mu T c aG ej w):=by
 refine okF (af.n1 (some c.cb) ws n.leaf K V D) aA.n1 func208 ?_;(delta af.n1 a_ U ag ct au ak aL r1 st pr nR gv b_;dsimp only);refine bj (vs:=dY n K V D) rfl λw1 cD cE eK=>?_;obtain⟨bT,aC,aU,aM⟩:=bF cD;refine⟨_,bT,K,aC,V,aU,D,aM,bj (vs:=[false,(),(),()]) rfl λeL bV cH eM=>⟨bV.cc rfl fI,rfl,cw bV (us:=dY n K V D) rfl rfl λbz bA cK eO=>?_⟩⟩;have bX:Ext w bz:=cE.trans (Ext.cn cH cK (bp _));obtain⟨hE,cL⟩:∃hE,hE=w1.heap.size:=⟨_,rfl⟩;rw[←cL]at bA⊢;obtain⟨bd,bD⟩:∃bd,bd=λq=>T.E q\/q=hE:=⟨_,rfl⟩;have cM:∀q,T.E q->bd q:=λq F=>by rw[bD];exact .inl F
 have a7:∀q,bd q->T.E q\/q=hE:=λq F=>by rw[bD]at F;exact F
 have cN:bd hE:=by rw[bD];exact .inr rfl
 have eP:=bA.lt;have cQ:dr bz (T.ck bd T.G) c:=h.of (W:=λ_=>False) (h.t.grow (W:=λ_=>False) bX (λ_ h=>h.elim) (λq F=>(a7 q F).imp id λe=>.inr ⟨I,I⟩) (λq F=>.inr (.inl F)) λq F hg=>by
  rcases a7 q F with h1|h1
  .exact(h.t.c6 q h1).2.2 hg
  .have:=h.t.lt (q:=q) (.inr (.inr (.inr (.inr hg))));omega) bX (λ_ _ h=>h) rfl λ_ h=>h
 have bY:bN T (T.ck bd T.G) w bz 0:=(bN.refl T w).step (W:=λ_=>False) bX (λ_ h=>h.elim) (λq F=>(a7 q F).imp id λe=>.inr I) λq F=>.inl F;have conv:∀ (v:aa) (w':J),mu (T.ck bd T.G) c aG ej w1 v w'->mu T c aG ej w v w':=λv w' hu=>hu.local cE (λq F=>(a7 q F).imp id λe=>I) cM;obtain⟨bO,ap⟩:∃bO,bO=T.ck bd T.G:=⟨_,rfl⟩;have bZ:=bU.to bY;have b0:bC (λq=>¬(T.ck bd T.G).M q) bz n K V D:=(bY.bn (lo:=0) (bu.aX λq _ R=>⟨cG _,R⟩)).aX λq _ R=>R.2;have cR:bO.P=T.P:=by rw[ap];rfl
 have b2:bO.f=T.f:=by rw[ap];rfl
 have dM:bO.E hE:=by rw[ap];exact cN
 have eQ:cl bO=cl T:=by rw[ap];rfl
 have dP:bO.C=T.C:=by rw[ap];rfl
 have dQ:bO.aH=T.aH:=by rw[ap];rfl
 rw[←ap]at cQ bZ b0 conv;clear ap bY bD cM a7 cN;have eR:hE=w1.heap.size:=cL;have eT:ws.len=d.length:=by
  have:=bU.own.1;rw[gL _ (nj d)]at this;omega
 refine⟨λn10 w'=>∃ (i:Nat) (ao:aN) (c':dI) (m l:O Nat) (n:aD) (K V D:Y) (lo hi:aq Key) (cJ:O Nat) (A B:O aI) (q:O Nat) (M:O aI) (r:O Nat),n10=(i:Nat)/\G8 bO c w1 d k aG ej ws hE i w' ao c' m l n K V D lo hi cJ A B q M r,λn10 _=>(n10+1).toNat,
  ⟨d.length-1,bO,c,[],[],n,K,V,D,lo,hi,cJ,A,B,[],M,[],?_,?_⟩,?_⟩
 .rw[bx I I];omega
 .have e:d.length-(d.length-1)=1:=by omega
  refine⟨I,cQ,(dt.ext bO c (Ext.cn cH cK (bp _))).mono I,cG _,cG _,bA,b0,bZ,by rw[e,cR];exact cA,by rw[e,cR];exact L,an,by simpa using N,List.Perm.refl _,bv,λh1=>a6 I,λx hx=>by rw[b2];exact Q x (by simpa using hx)⟩
 clear cA L an N bv a6 Q bu b0 bA bU bZ cD bT aC aU aM bV;rintro _ b3 ⟨i,ao,c',m,l,n,K,V,D,lo,hi,cJ,A,B,q,M,r,rfl,g⟩;have cS:=g.te;have bH:=g.to.cb;refine⟨λ_=>aW ?_,λR=>?_⟩
 rotate_left
 .have:¬(i:Int)>=0:=cu R
  omega
 have aP:Ext b3 b3.drew:=cj _;obtain⟨b4,dR⟩:∃b4,b4=b3.drew:=⟨_,rfl⟩;rw[←dR]at aP⊢;have a8:=g.yq.ext aP;have cV:=a8.cells.2.2;rw[bH]at cV;have cW:j_ (λq=>¬ao.M q) b4 ws d:=g.il.to (bN.ext ao aP);obtain⟨a9,b5,eU,dS,dT,_⟩:=cW.at cS;have eV:c'.left.length<=200:=by rw[g.to.left,cz];have:=g.ll;omega
 have dU:c'.made.length<=200:=by rw[g.to.made,cz];have:=g.oJ;omega
 obtain⟨aS,cY,av,ax,aT,aE,aF⟩:=BV a8 (d[i]).no I;rw[bH]at aT aE aF;have dV:∀n,(a9.add n).block=a9.block:=λn=>by unfold Addr.add;split<;>rfl
 have dW:∀q,aB c'.gB q->ao.M q:=λq F=>.inr (.inr (.inr (.inr (a8.kG q F).1)));refine⟨aB c'.gB,_,rfl,λF=>(a8.kG _ F).2 (by rw[bH,aw]),c'.gB,cV,a9,b5,⟨I,I⟩,λF=>dS (dW _ ((dV _)▸F)),_,by rw[dc];exact dT,aW ⟨ad.cF (eJ _ _),aS,cY,av,ax,_,rfl,by rw[aw];exact aT,by rw[aw];exact aE,aW ?_⟩⟩;rw[aw,cB];obtain⟨X,cZ⟩:∃X,X=cY.setCell ⟨c.cb,2,none⟩ aS:=⟨_,rfl⟩;rw[←cZ];obtain⟨ah,ba⟩:=aF X cZ;have b7:=dt.leave (c:=c') (c':=⟨c.cb,c'.ma,aS,c'.made,c'.left++ [(d[i]).no]⟩) (no:=(d[i]).no) ba rfl (λq F=>.inl F) bH.symm rfl rfl;have ac:=(g.to.trans (dt.ext ao c' aP)).trans b7;simp only[fQ,kN]at ac;have c1:ao.E hE:=by rw[g.to.E];exact dM
 have b8:=(g.hE.ext aP).ab ba.ab (a8.t.iN c1);have b9:=cW.to ba;have bb:bC (λq=>¬(ao.ck ao.E λq=>ao.G q\/aB aS q).M q) X n K V D:=(ba.bn (lo:=0) ((g.bn.ext aP).aX λq _ R=>⟨cG _,R⟩)).aX λq _ R=>R.2;obtain⟨b6,aV⟩:∃b6,b6=ao.ck ao.E λq=>ao.G q\/aB aS q:=⟨_,rfl⟩;have bB:b6.P=ao.P:=by rw[aV];rfl
 have bq:b6.f=ao.f:=by rw[aV];rfl
 have eW:cl b6=cl ao:=by rw[aV];rfl
 have c2:b6.E hE:=by rw[aV];exact c1
 have c3:b6.aH=T.aH:=by rw[aV];show ao.aH=_;rw[g.to.aH,dQ]
 rw[←aV]at ah ba b7 ac b9 bb;obtain⟨aU,bI⟩:∃aU:dI,aU=⟨c.cb,c'.ma,aS,c'.made,c'.left++ [(d[i]).no]⟩:=⟨_,rfl⟩;rw[←bI]at ah b7 ac;have fL:aU.cb=c.cb:=by rw[bI]
 have dH:aU.made.length<=200:=by rw[bI];exact dU
 have eX:aU.left.length<=201:=by rw[bI,cz,iU];omega
 obtain⟨dX,bW,bw,dZ⟩:=bF b8;have c4:=bo.len bb.keys;have c5:∀ (w':J) (v:aa),Ext X w'->(∀ {db aM bc},db=b6->aM=aU->bc=l++ [(d[i]).no]->((v=.tuple #[(0:Int),(0:Int),(0:Int)]/\ej=[]/\bc.Perm (m++aG)/\m.length<=2*bO.aH+3)\/
  (∃ (root h:Nat) (pages:O Nat),v=.tuple #[root,h,(0:Int)]/\eo (aN.P db) h none none root pages ej/\(pages++bc).Perm (m++aG)/\1<=h/\h<=bO.aH+1/\m.length<=2*bO.aH+3)\/
  (∃a b:Int,v=.tuple #[a,b,(3:Int)]/\¬bO.C.D.calm 60)))->mu T c aG ej w v w':=by
  intro w' v hx hd;refine conv v w' ⟨b6,aU,m,l++ [(d[i]).no],?_,?_,hd (aM:=aU) rfl rfl rfl⟩
  .exact ah.ext hx
  .have:=(ac.trans (dt.ext b6 _ hx)).mono (j:=60) I
   simp only[fQ]at this;exact this
 refine cd (λb w'=>(b=true↔(i=0/\n.keys=[]))/\X=w') (λZ be=>⟨λh0=>⟨K,bW,be _ _ ⟨?_,rfl⟩⟩,λh0=>be _ _ ⟨?_,rfl⟩⟩) ?_
 .have h0:i=0:=by
   have:(i:Int)=0:=by simpa using h0
   omega
  rw[ki];constructor
  .intro h1
   exact⟨h0,List.eq_nil_of_length_eq_zero I⟩
  .rintro⟨_,h1⟩
   rw[h1]at c4;simp at c4;omega
 .have h0:i≠0:=by
   have:¬(i:Int)=0:=by simpa using h0
   omega
  exact⟨λh=>(by cases h),λh=>absurd h.1 h0⟩
 rintro eY _ ⟨c7,rfl⟩;refine⟨λR=>?_,λR=>?_⟩
 .obtain⟨h0,c8⟩:=c7.1 R
  subst h0;have bf:Ext X X.drew:=cj _;obtain⟨d0,d6,d7,d8⟩:=bF (b8.ext bf);have c9:=(ah.ext bf).cells.1;rw[fL]at c9;have d9:=(ah.ext bf).t.cells.2.2.2.2;obtain⟨t1,t2,t3,t4,t5,t6⟩:=Ctx.B7 (by simpa using g.ctx);have L:=g.kB;have N:=g.pp;have an:=g.eq;have al:=mv (no:=(d[0]).no) g.acc;subst t2 t3 t4 t5 t6;rw[iT,fQ]at an;rw[fQ]at N;subst an;have c_:n.leaf=false->∃x,n.kids=[x]/\1<=b6.aH/\eo ao.P (b6.aH-1) none none x q M/\1<=b6.aH-1:=by
   intro aJ;have e:d.length-0=b6.aH:=by rw[c3];omega
   rw[e]at L
   cases ht:b6.aH with
   |zero=>omega
   |succ t=>
    rw[ht]at L
    cases t with
    |zero=>
     have:=L.1.leaf;rw[aJ]at this;cases this
    |succ t=>
     obtain⟨v1,v2,bh,bi,bK⟩:=L;rw[c8]at bK;generalize eZ:n.kids=e0 at bK
     cases bK with
     |one h=>exact⟨_,rfl,I,h.1,I⟩
  refine aW ⟨λ_=>False,id,_,d0,K,d6,V,d7,D,d8,_,rfl,id,_,c9,_,rfl,id,_,d9,(pO (bb.ext bf) b6.aH I λaJ=>by obtain⟨x,a1,a2,_⟩:=c_ aJ;exact⟨x,a1,a2⟩).use ?_⟩;rintro v w' ⟨rfl,ca⟩;have da:=bf.trans ca
  cases aJ:n.leaf with
  |true=>
   rw[if_pos rfl];have dd:=L.leaf;rw[aJ]at dd;have ce:d.length-0=1:=b1 dd.symm;rw[ce]at L;obtain⟨v1,v2,bh,bi⟩:=L;subst bh;refine⟨_,_,_,rfl,ca,c5 w' _ da λ{db aM bc} a1 a2 a3=>.inl ⟨rfl,?_,?_,by have:=g.oJ;omega⟩⟩
   .rw[bi];unfold aD.dN;rw[c8];rfl
   .subst a3
    rw[np]at al N⊢;intro x;have:=al x;have:=N x;simp only[nB,oY,oZ]at*;omega
  |false=>
   rw[if_neg (by simp)];obtain⟨x,a1,a2,a3,a4⟩:=c_ aJ;refine⟨_,_,_,rfl,ca,c5 w' _ da λ{db aM bc} cf bS aY=>.inr (.inl ⟨_,_,q,rfl,?_,?_,a4,?_,by have:=g.oJ;omega⟩)⟩
   .subst cf
    have d_:n.kids.getD 0 0=x:=by rw[a1];rfl
    rw[d_,bB];exact a3
   .subst aY
    rw[np]at al N⊢;intro x;have:=al x;have:=N x;simp only[nB,oY,oZ]at*;omega
   .omega
 .have a6:n.keys≠ []:=λe=>by
   rcases nA i with h0|h0
   .have:=c7.2 ⟨h0,e⟩
    rw[R]at this;cases this
   .exact g.G9 h0 e
  have e1:b6.C.D.aR<=900000050:=by
   have:=ac.to.aR;rw[dP]at this;omega
  have de:2<=cl b6:=by
   have:=ac.room;have:=g.oJ;omega
  have df:∀ms:O Nat,ms.length<=3->(m++ms).length<=2*bO.aH+3:=λms h=>by rw[cz];have:=g.oJ;omega
  have dg:∀j,j<=10->¬b6.C.D.calm j->¬bO.C.D.calm 60:=λj e2 bu hc=>bu (ac.to.calm j (fH hc I));have cg:lJ n:=g.kB.yo (λ_=>by have:=g.sz;omega) (λ_=>by have:=g.sz;omega) λ_=>a6;refine cd (λp w'=>p=(if i=0 then none else some (a9.add ((i-1)*6)))/\X=w') (λZ be=>⟨λh0=>⟨a9,b5,?_,be _ _ ⟨?_,rfl⟩⟩,λh0=>be _ _ ⟨?_,rfl⟩⟩) ?_
  .have h0:(i:Int)>0:=b1 h0
   rw[bx I I];omega
  .have h0:(i:Int)>0:=b1 h0
   have e:(i:Int)-1=((i-1:Nat):Int):=by omega
   rw[bx I I,if_neg I,e,dc]
  .have h0:¬(i:Int)>0:=cu h0
   rw[if_pos I]
  rintro _ _ ⟨rfl,rfl⟩;refine⟨_,dX,K,bW,V,bw,D,dZ,?_⟩;by_cases h0:i=0
  .subst h0
   rw[if_pos rfl];have bk:=G0 ah bb cg I de I;rw[fL]at bk;refine bk.use ?_;rintro _ aZ ⟨a0,e,rfl,hf⟩;obtain⟨db,aM,ms,S,H,bl,bm⟩:=hf.cs;have bL:=ac.trans H;simp only[fQ]at bL;have ea:aM.cb=c.cb:=by rw[H.cb,fL]
   rcases bm with ⟨rfl,ks,ar,aK⟩|⟨rfl,aO⟩
   .refine⟨a0,_,_,0,rfl,λh=>(by cases h),λ_=>⟨λ_=>?_,λh=>(by simp at h)⟩⟩
    obtain⟨t1,t2,t3,t4,t5,t6⟩:=Ctx.B7 (by simpa using g.ctx);have L:=g.kB;have N:=g.pp;have an:=g.eq;have bv:=g.sz;have al:=mv (no:=(d[0]).no) g.acc;have Q:=g.B8;subst t2 t3 t4 t5 t6;rw[iT,fQ]at an;rw[fQ]at N Q;subst an;have eb:b6.n<=1600:=ah.t.s.bw;have ch:∀z∈q,ao.P z=db.P z:=λz ae=>by
     rw[←bB];exact((H.eN z (by rw[bq,Q z ae];rfl)).1).symm
    have ec:d.length-0=(d.length-1)+1:=by omega
    have di:db.aH=d.length:=by rw[H.aH,c3];omega
    rw[ec]at L;have dj:∀a5 x y,ks=[a5]->ms=[x,y]->cv a5/\x<1600/\y<1600:=λa5 x y av ax=>by
     subst av ax;have dk:232<bJ n:=by
      rcases ar with ⟨_,z,e,_⟩|⟨h,_⟩
      .cases e
      .exact h
     obtain⟨e3,_,_,aT,_⟩:=L.fits (L.xr I) (λ_=>I) (λ_=>I) ar ch;have hx:=(H.jK x (by simp)).2;have e4:=(H.jK y (by simp)).2;exact⟨aT a5 (by simp),I,I⟩
    have dl:=G4 S aK (λ_=>I) dj (by have:=H.to.aR;omega) (by have:=H.room;have:=ac.room;have:=g.oJ;omega) (by rw[H.made,cz];omega);rw[ea]at dl;refine dl.use ?_;rintro v e5 ed;rcases ed with ⟨x,av,ax,rfl,aE,aF⟩|⟨a5,x,y,no,j0,du,av,ax,aE,aF,ee⟩
    .subst av ax
     refine⟨_,_,_,rfl,conv _ _ ⟨db,aM,m++ [x],l++ [(d[0]).no],aE,?_,.inr (.inl ⟨x,db.aH,x::q,rfl,?_,?_,I,I,df [x] (by simp)⟩)⟩⟩
     .have:=(bL.trans (dt.ext db aM aF)).mono (j:=60) I
      simp only[fQ]at this;exact this
     .rcases ar with ⟨_,z,_,e,ae⟩|⟨_,e6,e7,_,e,_⟩
      .cases e
       rw[di,show d.length=d.length-1+1 from I];exact L.lay a6 ae ch
      .cases e
     .rw[np]at al N⊢
      intro z;have:=al z;have:=N z;simp only[nB,oY,oZ]at*;omega
    .subst av ax
     obtain⟨a1,a2,a3⟩:=dj a5 x y rfl rfl;have ay:=bL.trans aF;simp only[fQ]at ay;have dm:=ay.mono (j:=60) I;rcases ee with ⟨rfl,ci⟩|⟨rfl,ci⟩
     .have ef:∀z∈x::y::q,db.P z=j0.P z:=λz ae=>by
       refine((aF.eN z ?_).1).symm;rw[H.f];simp only[cU]at ae;rcases ae with ae|ae|ae
       .simp[ae]
       .simp[ae]
       .rw[bq,Q z ae];simp
      obtain⟨_,pages,cf,bS⟩:=G_ L bv ar ch ci ef a2 a3;refine⟨_,_,_,rfl,conv _ _ ⟨j0,du,m++ [x,y]++ [no],l++ [(d[0]).no],aE,dm,.inr (.inl ⟨no,db.aH+1,pages,rfl,?_,?_,I,I,by rw[cO];exact df [x,y,no] (by simp)⟩)⟩⟩
      .rw[di,show d.length+1=d.length-1+2 from I];exact cf
      .rw[np]at al N bS⊢
       intro z;have:=al z;have:=N z;have:=bS z;simp only[nB,oY,oZ]at*;omega
     .refine⟨_,_,_,rfl,conv _ _ ⟨j0,du,m++ [x,y]++ [no],l++ [(d[0]).no],aE,dm,.inr (.inr ⟨_,_,rfl,λhc=>ci (H.to.calm 1 (ac.to.calm 3 (fH hc I)))⟩)⟩⟩
   .refine⟨a0,_,_,3,rfl,λ_=>conv _ _ ⟨db,aM,m++ms,l++ [(d[0]).no],S,bL.mono I,.inr (.inr ⟨0,0,rfl,dg 2 I aO⟩)⟩,λh=>(by cases h)⟩
  .rw[if_neg h0]
   have dO:i-1<d.length:=by omega
   obtain⟨e8,dn,_,_,_,hu⟩:=b9.at dO;rw[b5]at dn;obtain rfl:=Option.some.inj dn;obtain⟨u,cm⟩:∃u,u=d[i-1]:=⟨_,rfl⟩;rw[←cm]at hu;have eg:(d.take i).map dD.st=(d.take (i-1)).map dD.st++ [u.st]:=by
    have:d.take i=d.take (i-1)++ [d[i-1]]:=by
     have e:i-1+1=i:=by omega
     rw[←iy dO,e]
    rw[this,fW,cm];rfl
   obtain⟨dp,dq,eh,ds,dv,ps,bE,bG,ei,e9,e_,ek,el,dw,co⟩:=Ctx.up g.ctx eg g.kB g.yq.t.nm g.sz;have ce:d.length-i+1=d.length-(i-1):=by omega
   rw[ce]at bE dw co;have em:=(g.yq.t.eA _ _ ei).2.is;have fa:=em.2.1.eS I;have Q:=g.B8;have bk:=G1 ah bb hu cg.1 (by have:=g.sz;omega) (λ_=>cg) (λbM=>by
    obtain⟨o,no,rest,cf,bS,aY,bP,bQ,dx,_⟩:=co bM;exact⟨o,no,cf,by rw[bB];exact bS,aY,bP,bQ,dx⟩) I I de I I
   rw[fL]at bk;refine bk.use ?_;rintro v aZ dy;have fb:0<u.n.keys.length:=sk.2 ek;have eb:b6.n<=1600:=ah.t.s.bw;have cp:∀ {db:aN}{aM:dI}{ms ls:O Nat}{w':J}{en:Nat},dt b6 db aU aM ms ls X w' en->∀x,ao.f x=true->ao.P x=db.P x:=λep x hx=>by
    rw[←bB];exact((ep.eN x (by rw[bq,hx];rfl)).1).symm
   have er:(∃ (db:aN) (aM:dI) (ms ls:O Nat) (s:Y) (a b:Int),v=.tuple #[s,a,b,(3:Int)]/\dr aZ db aM/\dt b6 db aU aM ms ls X aZ 4/\¬b6.C.D.calm 4)\/
    (∃ (db:aN) (aM:dI) (ms ls rest:O Nat) (s:Y) (am ai:Nat) (ks:O Key) (dH:O Nat) (az:O aI),v=.tuple #[s,am,ai,(0:Int)]/\dr aZ db aM/\dt b6 db aU aM ms ls X aZ 4/\ms.length<=2/\ls.length<=1/\k8 (λq=>¬db.M q) aZ s ks ms/\
      dh db.P (d.length-(i-1)) (ga u.n am ai ks ms) dp dq dH az/\ds++(az++dv)=A++(M++B)/\dH.Perm (ms++(rest++q))/\ps.Perm (ls++rest)/\bJ (ga u.n am ai ks ms)<=bJ u.n+27/\u.n.keys.length<=(ga u.n am ai ks ms).keys.length+1/\
      am<=u.n.keys.length/\1<=ai/\ai<=u.n.kids.length):=by
    rcases dy with ⟨dk,s,e,rfl,hf⟩|⟨bM,db,aM,rfl,av,ax,aT⟩|⟨bM,o,no,fc,fd,fe,s,e,dz,dA,dB,rfl,hf⟩
    .obtain⟨db,aM,ms,S,H,bl,bm⟩:=hf.cs
     rcases bm with ⟨rfl,ks,ar,aK⟩|⟨rfl,aO⟩
     .obtain⟨dH,az,cf,bS,aY,bP,bQ⟩:=dw dk db.P ks ms ar (λx hx=>cp H x (Q x (by
       rw[bG];simp only[cT,cU]at hx⊢;rcases hx with hx|hx
       .exact .inr (.inr (.inl hx))
       .exact .inl hx))) (λx hx=>by have:=(H.jK x hx).2;omega)
      exact .inr ⟨db,aM,ms,[],ps,s,u.cX,u.cX+1,ks,dH,az,rfl,S,H.mono I,bl,cG _,aK,cf,bS,aY,List.Perm.refl _,bP,bQ,I,I,I⟩
     .exact .inl ⟨db,aM,ms,[],s,_,_,rfl,S,H.mono I,λhc=>aO (fH hc I)⟩
    .exact .inl ⟨db,aM,[],[],bg,0,0,rfl,av,ax.mono I,λhc=>aT (fH hc I)⟩
    .obtain⟨ff,dC,rest,cf,bS,aY,bP,bQ,dx,dE,es⟩:=co bM
     rw[cf]at dz;obtain rfl:=Option.some.inj dz;rw[bB,bS]at dA;obtain rfl:=Option.some.inj dA;obtain⟨db,aM,ms,S,H,bl,bm⟩:=hf.cs;have ay:=dB.trans H;simp only[iT,fQ]at ay;rcases bm with ⟨rfl,ks,ar,aK⟩|⟨rfl,aO⟩
     .obtain⟨dH,az,d1,d2,d3,d4,d5⟩:=es db.P ks ms ar (λx hx=>cp ay x (Q x (by
       rw[bG];simp only[cT,cU]at hx⊢;rcases hx with hx|hx
       .exact .inr (.inr (.inl (dE.mem_iff.2 (jR _ hx))))
       .exact .inl hx))) (λx hx=>by have:=(ay.jK x hx).2;omega)
      refine .inr ⟨db,aM,ms,[dC],rest,s,u.cX-1,u.cX-1+2,ks,dH,az,rfl,S,ay,bl,bp _,aK,d1,d2,d3,dE,d4,d5,I,I,?_⟩;rcases nA u.cX with et|et<;>omega
     .exact .inl ⟨db,aM,ms,[dC],s,_,_,rfl,S,ay,λhc=>aO (dB.to.calm 2 hc)⟩
   clear dy;rcases er with ⟨db,aM,ms,ls,a0,a,b,rfl,S,H,aO⟩|⟨db,aM,ms,ls,rest,a0,am,ai,ks,dH,az,rfl,S,H,bl,fg,aK,v1,v2,bh,bi,bK,eu,ev,ew,ex⟩
   .exact⟨a0,_,_,3,rfl,λ_=>conv _ _ ⟨db,aM,_,_,S,(ac.trans H).mono I,.inr (.inr ⟨0,0,rfl,dg 4 I aO⟩)⟩,λh=>(by cases h)⟩
   .refine⟨a0,_,_,0,rfl,λh=>(by cases h),λ_=>⟨λh=>?_,λ_=>?_⟩⟩
    .have:(i:Int)=0:=by simpa using h
     omega
    have br:=hu.to H.to;refine⟨_,rfl,_,br.aC,u.K,br.aU,u.V,br.aM,u.D,br.du,(pP br.bn aK (fr:=am) (to:=ai) ev I ew ex I I I).use ?_⟩;rintro _ fh ⟨cI,cP,cq,rfl,ey,bs⟩;have dF:=b8.ab H.to.ab (ah.t.iN c2);have dG:=dF.ext bs;refine⟨_,cI,cP,cq,rfl,dG.cc rfl fI,rfl,cw dG (us:=dY (ga u.n am ai ks ms) cI cP cq) rfl rfl λez eB bt fi=>⟨⟨i-1,db,aM,m++ms,l++ [(d[i]).no]++ls,ga u.n am ai ks ms,cI,cP,cq,dp,dq,eh,ds,dv,dH,az,ps++((d[i]).no::r),?_,?_⟩,?_⟩⟩
    .rw[bx I I];omega
    .have dJ:db.E hE:=by rw[H.E];exact c2
     have cr:db.M hE:=.inr (.inr (.inr (.inl dJ)));have cx:=(ac.trans H).trans (dt.ext db aM bs);simp only[fQ]at cx;have eC:bN bO db w1 ez (4*(d.length-1-i)+4+0):=cx.to.step (E:=db.E) (G:=db.G) bt (λq e aJ=>I) (λq F=>.inl F) λq F=>.inl F;have cy:∀x,ao.f x=true->db.f x=true:=λx hx=>by rw[H.f,bq,hx];rfl
     have bR:=b9.to H.to;refine⟨dO,(S.ext bs).B6 bt λq e=>.inl (by rw[e];exact dJ),{cx.mono (j:=4*(d.length-1-(i-1))) I with to:=eC.mono I},?_,?_,eB,?_,?_,bE.agree λx hx=>cp H x (Q x (by rw[bG];simp[hx])),v1,by rw[v2];exact g.eq,?_,jd (mv g.acc) bh bi,I,λh1 e=>?_,λx hx=>?_⟩
     .rw[cz];have:=g.oJ;omega
     .rw[cz,cz,iU];have:=g.ll;omega
     .refine(bC.ab ey bt λq F e=>?_).aX λq _ F dK=>?_
      .subst e
       rcases F with F|F
       .exact F cr
       .have:=dF.lt;omega
      .rcases F with F|F
       .exact F dK
       .have:=S.t.lt dK;omega
     .refine⟨(bR.own.ext bs).ab bt λq F e=>bR.oI q F (by rw[e];exact cr),bR.oI,λx hx=>bC.ab ((bR.bn x hx).ext bs) bt λq F e=>F (by rw[e];exact cr)⟩
     .have this:aG.Perm ((d[i]'cS).no::(r++cJ)):=g.pp
      rw[bG]at this;rw[←cm];exact mw this
     .have h2:=el (λb2=>by
       have:=congrArg List.length b2;rw[dL,cC,jD]at this;omega)
      rw[e,jD]at eu;omega
     .rcases cT.1 hx with hx|hx
      .have:=bh.mem_iff.1 hx
       rcases cT.1 this with hx|hx
       .rw[H.f];simp[hx]
       .rcases cT.1 hx with hx|hx
        .refine cy x (Q x ?_)
         rw[bG];have:x∈ps:=bi.mem_iff.2 (ic _ hx);simp[this]
        .exact cy x (Q x (by simp[hx]))
      .exact cy x (Q x (by rw[bG];simp[hx]))
    .rw[bx I I]
     show((i:Int)-1+1).toNat<((i:Int)+1).toNat;omega
theorem Hb{w:J}{T:aN}{c:dI}{ej:O aI}{n:aD}{K V D ws:Y}(t:ws.len=0)(h:dr w T c)(u:bC (λq=>¬T.M q) w n K V D)(Q:T.C.D.aR<=900000000)(R:2<=cl T)(S:c.made.length<=100)(W:c.left=[])
 (g:gS n) (i:n.keys≠ []) (y:bJ n<=232) (z:n.dN=ej):
 aQ aj 208 #[.pointer (some ⟨c.cb,0,none⟩),.slice ws.a ws.len ws.cap,c0 n K V D] w (mu T c [] ej w):=by
 refine okF (af.n1 (some ⟨c.cb,0,none⟩) ws n.leaf K V D) aA.n1 func208 ?_;(delta af.n1 a_ U ag ct au ak aL r1 st pr nR gv b_;dsimp only);refine bj (vs:=dY n K V D) rfl λw1 A B X=>?_;obtain⟨bT,aC,aU,aM⟩:=bF A;refine⟨_,bT,K,aC,V,aU,D,aM,bj (vs:=[.bool false,.slice none 0 0,.slice none 0 0,.slice none 0 0]) rfl λZ j E aa=>⟨j.cc rfl fI,rfl,cw j (us:=dY n K V D) rfl rfl λl F G ab=>?_⟩⟩;have f:Ext w l:=B.trans (Ext.cn E G (bp _));refine⟨λn10 w'=>n10= -1/\l=w',λ_ _=>0,⟨by rw[t];decide,rfl⟩,?_⟩;rintro _ _ ⟨rfl,rfl⟩;refine⟨λh=>by simp at h,λ_=>?_⟩;obtain⟨d0,d1,d2,d3⟩:=bF F;refine⟨_,d0,K,d1,V,d2,D,d3,(B0 (h.ext f) I I I (u.ext f) (.inl g) y).use ?_⟩;intro v w' d;obtain⟨s,e,rfl⟩:=d.out;obtain⟨ao,c',m,o,p,ac,H⟩:=(d.base f).cs;rcases H with ⟨rfl,ks,L,N⟩|⟨rfl,P⟩
 .refine⟨s,0,rfl,λh=>(by cases h),λ_=>?_⟩
  rcases L with ⟨_,x,rfl,rfl,hx⟩|⟨ad,_⟩
  .rcases N with ⟨b,r,rfl,_,e,d,_⟩|⟨b,r,ae,ah,ai,rfl,e,_⟩
   .obtain rfl:x=r:=by simpa using e
    refine⟨_,rfl,⟨by decide,by show(0:Int)<((1:Nat):Int);decide⟩,_,by rw[aw,aw];exact d.cell,ao,c',[x],[],o,p.mono I,.inr (.inl ⟨x,1,[x],rfl,⟨n,hx,g,λk i=>⟨λ_ e=>(by cases e),λ_ e=>(by cases e)⟩,i,rfl,z.symm⟩,List.Perm.refl _,bp _,I,by show 1<=_;omega⟩)⟩
   .cases e
  .omega
 .exact⟨s,3,rfl,λ_=>⟨ao,c',m,[],o,p.mono I,.inr (.inr ⟨0,0,rfl,λhc=>P (fH hc I)⟩)⟩,λh=>(by cases h)⟩
def aN.nq(T:aN)(r h:Nat):aN:={T with root:=r,aH:=h}
theorem bL.Hc{w w':J}{T:aN}{r h:Nat}(ht:bL w T)(a:Var w' T.aY (k7 (T.nq r h)) 239)(hc:ad (λq=>q=T.aY) w w')(b:r<T.n)(c:h<=12):bL w' (T.nq r h)/\bN T (T.nq r h) w w' 0:=
 ⟨⟨a,ht.s.ab hc λq d e=>ht.js (e▸d),ht.ca.ab hc λq e=>.inl e,ht.js,ht.c6,ht.hD,ht.n,⟨b,c,ht.num.2.2⟩,ht.eA,ht.bI,ht.low⟩,
  ⟨rfl,rfl,rfl,rfl,rfl,rfl,rfl,rfl,rfl,rfl,bp _,λ_ h=>h,hc.mono λq _ e=>.inr (.inl e),λq h=>.inl h,λq h=>.inl h⟩⟩
def gj(T:aN)(pages:O Nat)(L:O aI):Prop:=(T.aH=0/\T.root=0/\pages=[]/\L=[])\/eo T.P T.aH none none T.root pages L
theorem B9{s t:Nat->ai}:∀ {n:Nat},(∀i,s i=true->t i=true)->e0 s n<=e0 t n
 |0,_=>bp _
 |n+1,h=>by
  have h1:=B9 (n:=n) h
  show e0 s n+(s n).toNat<=e0 t n+(t n).toNat
  cases hs:s n with
  |false=>exact Nat.add_le_add h1 (cG _)
  |true=>rw[h n hs];exact Nat.add_le_add_right h1 _
def vO(T:aN)(aG:O Nat)(ej:O aI)(w:J)(v:aa)(w':J):Prop:=
 ∃ao:aN,bL w' ao/\bN T ao w w' 60/\ao.E=T.E/\ao.G=T.G/\
  ((v=.int .i64 2/\cl T<2*T.aH+3/\ao=T)\/
   (v=.int .i64 0/\2*T.aH+3<=cl T/\(∃pages,cl T<=cl ao+(2*T.aH+3)/\gj ao pages ej/\pages.Nodup/\(∀no∈pages,no∈aG\/(T.f no||T.g no)=false)/\∀no,ao.f no=true↔(no∈pages\/(T.f no=true/\no∉aG)))/\∀no,T.g no=true->ao.P no=T.P no/\ao.C.view no=T.C.view no)\/
   (v=.int .i64 3/\¬T.C.D.calm 60/\ao.root=T.root/\ao.aH=T.aH/\ao.f=T.f/\∀no,(T.f no||T.g no)=true->ao.P no=T.P no/\ao.C.view no=T.C.view no))
theorem B_{l:O Nat}(h:∀x,l.count x<=1):l.Nodup:=List.nodup_iff_count.2 h
theorem Hd{w:J}{T:aN}{s:Y}{aG:O Nat}{ej:O aI}{n:aD}{K V D:Y}(h:bL w T)(b5:¬T.C.D.ro)(c5:T.C.D.aR<=900000000)(y:T.aH<12)(b7:aG.Nodup)(aJ:∀x∈aG,T.f x=true)(c7:aG.length<=5000)
 (b8:∀ (bd j:Nat->Prop) (w1:J) (aC:dI),dr w1 (T.ck bd j) aC->bN T (T.ck bd j) w w1 0->2*T.aH+3<=cl T->aC.made=[]->aC.left=[]->aQ aj 208 #[.pointer (some aC.cb),s,c0 n K V D] w1 (mu (T.ck bd j) aC aG ej w1)):
 aQ aj 150 #[.pointer (some T.aY),s,c0 n K V D] w (vO T aG ej w):=by
 have c8:=h.s.bw;refine af.EA (some T.aY) s n.leaf K V D w _ ?_;(delta af.rp r1 aC ak au st U a_ ag pr aU;dsimp only);refine bj (vs:=dY n K V D) rfl λw1 ae bb c9=>bj (vs:=[(0:Int)]) rfl λah bc be c_=>aW ?_;have ai:Ext ah ah.drew:=cj _;obtain⟨bf,b9⟩:∃bf,bf=ah.drew:=⟨_,rfl⟩;rw[←b9]at ai⊢;have bh:=(bb.trans be).trans ai;have k:=h.ext bh;obtain⟨ev,b_⟩:∃ev,ev=w1.heap.size:=⟨_,rfl⟩;rw[←b_]at bc⊢;refine⟨λ_=>False,_,rfl,id,_,k.cells.2.1,_,rfl,id,_,k.cells.2.2.2.2,(yb k.s).use ?_⟩;rintro _ aK ⟨rfl,al⟩;have aL:=bh.trans al;have R:=(bc.ext ai).ext al;have ca:((T.n:Int)-e0 (λi=>T.f i||T.g i) T.n)=(cl T:Nat):=by
  have:=mn (λi=>T.f i||T.g i) T.n;unfold cl;omega
 have cc:IntKind.wrap .i64 (IntKind.wrap .i64 (2*(T.aH:Int))+3)=((2*T.aH+3:Nat):Int):=by
  rw[bx (n:=2*(T.aH:Int)) I I,bx I I];omega
 rw[ca,cc];refine⟨_,rfl,al,λam=>?_,λam=>?_⟩
 .have am:((cl T:Nat):Int)<((2*T.aH+3:Nat):Int):=b1 am
  obtain⟨av,ax⟩:=dP R (i:=0) (by simp);have cd:=dp aK ev 0 (2:Int);have ce:=dT R (i:=0) (2:Int);have bi:=Ext.cn aL cd I;exact⟨av,ax,aW ⟨2,ce.cell,T,h.ext bi,(bN.ext T bi).mono I,rfl,rfl,.inl ⟨rfl,I,rfl⟩⟩⟩
 have bk:2*T.aH+3<=cl T:=by
  have:¬((cl T:Nat):Int)<((2*T.aH+3:Nat):Int):=cu am;omega
 refine bj (vs:=[.pointer (some T.aY),(),()]) rfl λcf bl cg da=>bj (vs:=[.pointer none]) rfl λbm aO bo db=>?_;obtain⟨cb,bp⟩:∃cb,cb=aK.heap.size:=⟨_,rfl⟩;obtain⟨fi,bq⟩:∃fi,fi=cf.heap.size:=⟨_,rfl⟩;rw[←bp]at bl⊢;rw[←bq]at aO⊢;obtain⟨av,ax⟩:=dP aO (i:=0) (by simp);have an:=dp bm fi 0 (.pointer (some cb));have aP:=dT aO (i:=0) (.pointer (some cb));refine⟨av,ax,aW ?_⟩;obtain⟨B,ch⟩:∃B,B=bm.setCell fi (.pointer (some cb)):=⟨_,rfl⟩;rw[←ch]at an aP⊢;have dc:=aL.size;have dd:=an.size;have aS:Ext aK B:=Ext.cn (cg.trans bo) an I;have br:=aL.trans aS;have bs:=R.ext aS;have bt:=(bl.ext bo).ab an I;have ci:=((ae.ext be).ext ai).ext (al.trans aS);obtain⟨bd,aT⟩:∃bd,bd=λq=>T.E q\/q=ev:=⟨_,rfl⟩;obtain⟨j,aV⟩:∃j,j=λq=>T.G q\/q=cb:=⟨_,rfl⟩;have aX:∀q,bd q->T.E q\/q=ev:=λq c=>by rw[aT]at c;exact c
 have ap:∀q,j q->T.G q\/q=cb:=λq c=>by rw[aV]at c;exact c
 have bu:∀q,T.E q->bd q:=λq c=>by rw[aT];exact .inl c
 have cm:∀q,T.G q->j q:=λq c=>by rw[aV];exact .inl c
 have aZ:bd ev:=by rw[aT];exact .inr rfl
 have co:j cb:=by rw[aV];exact .inr rfl
 have de:=bs.lt;have df:=bt.lt;have bv:bL B (T.ck bd j):=h.grow (W:=λ_=>False) br (λ_ h=>h.elim) (λq c=>(aX q c).imp id λe=>.inr ⟨I,I⟩) (λq c=>.inr ((ap q c).imp id λe=>⟨I,I⟩)) λq c hg=>by
  rcases aX q c with h1|h1<;>rcases ap q hg with h2|h2
  .exact(h.c6 q h1).2.2 h2
  .have:=h.lt (q:=q) (.inr (.inr (.inr (.inl h1))));omega
  .have:=h.lt (q:=q) (.inr (.inr (.inr (.inr h2))));omega
  .have:=R.lt;omega
 have bz:bN T (T.ck bd j) w B 0:=(bN.refl T w).step (W:=λ_=>False) br (λ_ h=>h.elim) (λq c=>(aX q c).imp id λe=>.inr I) λq c=>(ap q c).imp id λe=>by omega
 have cp:dr B (T.ck bd j) ⟨cb,bg,bg,[],[]⟩:=⟨bv,bt,ba.none _ _ _,ba.none _ _ _,co,λq c=>(fZ q c).elim,λq c=>(fZ q c).elim,b5⟩;have cq:=b8 bd j B _ cp bz bk rfl rfl;obtain⟨bT,aC,aU,aM⟩:=bF ci;refine⟨_,aP.cell,_,bT,K,aC,V,aU,D,aM,cq.use ?_⟩;rintro v F ⟨bO,u,m,l,bA,d,cr⟩;have S:bO.E ev:=by rw[d.E];exact aZ
 have aq:=bs.ab d.to.ab (bv.iN aZ);have cs:¬(T.ck bd j).N fi:=by
  have dg:cb<fi:=by rw[bp,bq];omega
  rintro(c|c|c|c)
  .have:=h.lt (q:=fi) (.inl c);omega
  .have:=h.lt (q:=fi) (.inr (.inl c));omega
  .have:=h.lt (q:=fi) (.inr (.inr (.inl c)));omega
  .rcases ap fi c with h1|h1
   .have:=h.lt (q:=fi) (.inr (.inr (.inr (.inr h1))));omega
   .omega
 have bB:=aP.ab d.to.ab cs;have ar:u.cb=cb:=d.cb;have dh:bO.aY=T.aY:=d.to.aY;have ay:u.made=m:=d.made;have az:u.left=l:=d.left;have a0:fi≠ev:=by have:=R.lt;omega
 have bC:bN T bO w F 60:=(bz.trans d.to).mono I
 have fin:∀ (w':J) (ao:aN),bL w' ao->bN T ao w w' 60->ao.E=bd->(∀q,T.G q->ao.G q)->bL w' (ao.ck T.E T.G)/\bN T (ao.ck T.E T.G) w w' 60:=by
  intro w' ao hc ht bD bH;exact⟨hc.grow (W:=λ_=>False) (ad.refl _ _) (λ_ h=>h.elim) (λq c=>.inl (by rw[bD];exact bu q c)) (λq c=>.inr (.inl (bH q c))) λq c=>(h.c6 q c).2.2,
   ht.step (W:=λ_=>False) (ad.refl _ _) (λ_ h=>h.elim) (λq c=>.inl (by rw[bD];exact bu q c)) λq c=>.inl (bH q c)⟩
 have bI:∀q,T.G q->bO.G q:=λq c=>d.G q (cm q c);have di:=(bb).size;have a1:∀ (w0:J) (ao:aN) (c':dI) (x:Int),dr w0 ao c'->bN T ao w w0 60->ao.E ev->dr (w0.setCell ev x) ao c'/\bN T ao w (w0.setCell ev x) 60:=λw0 ao c' x hc ht he=>
  ⟨hc.B6 (dp w0 ev 0 _) λq e=>.inl (by rw[e];exact he),ht.step (E:=ao.E) (G:=ao.G) (dp w0 ev 0 _) (λq e a2=>I) (λq c=>.inl c) λq c=>.inl c⟩
 have dj:m.length<=1600:=by
  have:=d.room;have:cl (T.ck bd j)<=T.n:=by unfold cl;exact Nat.sub_le _ _
  omega
 have ct:(∃a b:Int,v=.tuple #[a,b,(3:Int)]/\¬T.C.D.calm 60)\/(∃ (root y:Nat) (pages:O Nat),v=.tuple #[root,y,(0:Int)]/\((y=0/\root=0/\pages=[]/\ej=[])\/eo bO.P y none none root pages ej)/\(pages++l).Perm (m++aG)/\y<=12/\m.length<=2*T.aH+3):=by
  rcases cr with ⟨rfl,h1,h2,a3⟩|⟨root,y,pages,rfl,h1,h2,k,H,a3⟩|⟨a,b,rfl,a4⟩
  .exact .inr ⟨0,0,[],rfl,.inl ⟨rfl,rfl,rfl,h1⟩,h2,I,a3⟩
  .have H:y<=T.aH+1:=H
   exact .inr ⟨root,y,pages,rfl,.inr h1,h2,I,a3⟩
  .exact .inl ⟨a,b,rfl,a4⟩
 rcases ct with ⟨a,b,rfl,a4⟩|⟨root,o,pages,rfl,cv,bJ,cw,dk⟩
 .
  obtain⟨av,ax⟩:=dP aq (i:=0) (by simp);have z:=dT aq (i:=0) (3:Int);obtain⟨aA,aB⟩:=a1 F bO u 3 bA bC S;have X:=bB.ab (dp F ev 0 (3:Int)) a0;refine⟨a,b,3,rfl,av,ax,aW ⟨3,z.cell,λ_=>⟨3,z.cell,?_⟩,λhx=>(by cases hx)⟩⟩;obtain⟨cx,cy⟩:=dP z (i:=0) (by simp);have a5:=dT z (i:=0) (3:Int);obtain⟨bK,bM⟩:=a1 _ bO u 3 aA aB S;have a6:=X.ab (dp _ ev 0 (3:Int)) a0;refine⟨cx,cy,aW (af.Au ev fi _ _ ?_)⟩;generalize dl:(F.setCell ev (3:Int)).setCell ev (3:Int)=bP at a5 bK a6 bM⊢;(delta af.pJ r1 ak ag aU;dsimp only);have L:Ext bP bP.drew:=cj _;have p:=bK.ext L;have Z:=B3 p p.ma.src (λq c=>(p.fA q c).1) (l:=u.made) (λx hx=>by rw[ay]at hx;rw[d.f];simp[hx]) (by rw[ay];exact d.bn) (by rw[ay];omega);rw[ar]at Z;have aa:=p.cells.2.1;rw[ar]at aa;refine⟨3,a5.cell,λ_=>aW ⟨id,_,a6.drew.cell,id,_,a6.drew.cell,_,rfl,id,u.ma,aa,Z.use ?_⟩,λhx=>(by cases hx)⟩;rintro _ bQ ⟨rfl,b6,A,hg⟩;rw[ay]at hg;have cA:=(a5.ext L).ab hg.to.ab (p.t.iN S);have cC:bN T b6 w bQ 60:=((bM.trans (bN.ext bO L)).trans hg.to).mono I;obtain⟨f1,f2⟩:=fin bQ b6 A.t cC (by rw[hg.E];exact d.E) λq c=>by rw[hg.G];exact bI q c
  refine⟨rfl,3,cA.cell,_,f1,f2,rfl,rfl,.inr (.inr ⟨rfl,a4,hg.root.trans d.root,hg.aH.trans d.aH,?_,λno ac=>?_⟩)⟩
  .funext no
   show b6.f no=T.f no;rw[hg.f,d.f];by_cases r:no∈m
   .have:=(d.jK no r).1
    have e:(T.ck bd j).f no=T.f no:=rfl;rw[e]at this⊢
    cases a7:T.f no
    .simp[r]
    .rw[a7]at this;cases this
   .simp[r];rfl
  .have r:no∉m:=λr=>by
    have:=(d.jK no r).1;have e:((T.ck bd j).f no||(T.ck bd j).g no)=(T.f no||T.g no):=rfl;rw[e,ac]at this;cases this
   have h1:=hg.eN no (.inl r);have h2:=d.eN no ac;exact⟨h1.1.trans h2.1,h1.2.trans h2.2⟩
 .
  have Q:∀x,pages.count x+l.count x=m.count x+aG.count x:=λx=>by
   have:=np.1 bJ x;simpa only[nB] using this
  have aE:∀x,m.count x+aG.count x<=1:=λx=>by
   have h1:=List.nodup_iff_count.1 d.bn x;have h2:=List.nodup_iff_count.1 b7 x;rcases nA (m.count x) with k|k
   .omega
   .rcases nA (aG.count x) with H|H
    .omega
    .have r:=jU.1 k
     have cD:=jU.1 H;have:=(d.jK x r).1;have e:((T.ck bd j).f x||(T.ck bd j).g x)=(T.f x||T.g x):=rfl;rw[e,aJ x cD]at this;cases this
  have hlen:pages.length+l.length=m.length+aG.length:=by
   have:=bJ.length_eq;simpa only[cz] using this
  have cE:∀x∈l,bO.f x=true:=λx hx=>by
   have h1:=jU.2 hx;have h2:=Q x;rw[d.f];rcases nA (m.count x) with k|k
   .have:x∈aG:=jU.1 I
    have e:(T.ck bd j).f x=T.f x:=rfl;rw[e,aJ x this];rfl
   .have:x∈m:=jU.1 k
    simp[this]
  have cF:l.Nodup:=B_ λx=>by have:=Q x;have:=aE x;omega
  obtain⟨av,ax⟩:=dP aq (i:=0) (by simp);have z:=dT aq (i:=0) (0:Int);obtain⟨aA,aB⟩:=a1 F bO u 0 bA bC S;have X:=bB.ab (dp F ev 0 (0:Int)) a0;refine⟨_,_,0,rfl,av,ax,aW ⟨0,z.cell,λhx=>(by cases hx),λ_=>aW ?_⟩⟩;generalize dm:F.setCell ev (0:Int)=bR at z aA X aB⊢;have L:Ext bR bR.drew:=cj _;have p:=aA.ext L;have Z:=B3 p p.gB.src (λq c=>(p.kG q c).1) (l:=u.left) (λx hx=>cE x (by rw[az]at hx;exact hx)) (by rw[az];exact cF) (by rw[az];omega);rw[ar]at Z;have aa:=p.cells.2.2;rw[ar]at aa;refine⟨id,_,X.drew.cell,id,_,X.drew.cell,_,rfl,id,u.gB,aa,Z.use ?_⟩;rintro _ M ⟨rfl,b6,A,hg⟩;rw[az]at hg;have cG:=(z.ext L).ab hg.to.ab (p.t.iN S);have bS:bN T b6 w M 60:=((aB.trans (bN.ext bO L)).trans hg.to).mono I;have a8:b6.aY=T.aY:=bS.aY;have bU:b6.E=bd:=by rw[hg.E];exact d.E
  have cH:b6.E ev:=by rw[bU];exact aZ
  have bV:Var M T.aY (k7 b6) 239:=by rw[←a8];exact A.t.t
  obtain⟨bE,bG⟩:=dP bV (i:=3) (by simp[k7]);have bX:=dT bV (i:=3) root;have cI:=dp M T.aY 3 root;obtain⟨cJ,cK⟩:=dP bX (i:=4) (by simp[k7]);have bY:=dT bX (i:=4) o;have cL:=dp (M.setCell ⟨T.aY,3,none⟩ root) T.aY 4 o;refine⟨rfl,_,rfl,by rw[aw];exact bE,by rw[aw];exact bG,aW ⟨_,rfl,by rw[aw,aw];exact cJ,by rw[aw,aw];exact cK,aW ?_⟩⟩;rw[aw,aw,cB,cB];have a9:ad (λq=>q=T.aY) M ((M.setCell ⟨T.aY,3,none⟩ root).setCell ⟨T.aY,4,none⟩ o):=cI.trans cL;generalize dn:(M.setCell ⟨T.aY,3,none⟩ root).setCell ⟨T.aY,4,none⟩ o=aF at bY a9⊢;have cM:∀x∈pages,x∉l:=λx hx a2=>by
   have h1:=jU.2 hx;have h2:=jU.2 a2;have:=Q x;have:=aE x;omega
  have bZ:(o=0/\root=0/\pages=[]/\ej=[])\/(eo b6.P o none none root pages ej/\root∈pages):=cv.imp id λcN=>cN.agree λx hx=>((hg.eN x (.inl (cM x hx))).1).symm;have cO:root<b6.n:=by
   rcases bZ with ⟨_,h1,_⟩|⟨h1,_⟩
   .have:=A.t.s.bW;omega
   .obtain⟨bn,_,h2,_⟩:=h1.kB
    exact(A.t.eA _ _ h2).1
  have cP:Var aF b6.aY (k7 (b6.nq root o)) 239:=by rw[a8];exact bY
  obtain⟨cR,cS⟩:=A.t.Hc cP (by rw[a8];exact a9) cO cw;have cT:ev≠T.aY:=λe=>by have:=h.lt (q:=T.aY) (.inr (.inl rfl));omega
  have b0:=cG.ab a9 cT;obtain⟨cU,cV⟩:=dP b0 (i:=0) (by simp);have b2:=dT b0 (i:=0) (0:Int);have b3:=dp aF ev 0 (0:Int);refine⟨cU,cV,aW (af.Au ev fi _ _ ?_)⟩;(delta af.pJ r1 ak ag aU;dsimp only);refine⟨0,b2.cell,λhx=>(by cases hx),λ_=>⟨0,b2.cell,?_⟩⟩;have cW:bL (aF.setCell ev (0:Int)) (b6.nq root o):=cR.grow (E:=b6.E) (G:=b6.G) b3 (λq e _=>.inl (by rw[e];exact cH)) (λq c=>.inl c) (λq c=>.inr (.inl c)) λq c=>(A.t.c6 q c).2.2;have cX:bN T (b6.nq root o) w (aF.setCell ev (0:Int)) 60:=((bS.trans cS).mono I).step (E:=b6.E) (G:=b6.G) b3 (λq e a2=>I) (λq c=>.inl c) λq c=>.inl c;obtain⟨f1,f2⟩:=fin _ _ cW cX bU λq c=>by
   show b6.G q;rw[hg.G];exact bI q c
  refine⟨_,f1,f2,rfl,rfl,.inr (.inl ⟨rfl,bk,⟨pages,?_,?_,B_ λx=>by have:=Q x;have:=aE x;omega,λno hx=>?_,λno=>?_⟩,λno ac=>?_⟩)⟩
  .have h1:cl bO+m.length=cl T:=d.room
   have h2:cl bO<=cl (b6.nq root o):=by
    show bO.n-_<=b6.n-e0 (λi=>b6.f i||b6.g i) b6.n;rw[hg.to.n];have:=B9 (s:=λi=>b6.f i||b6.g i) (t:=λi=>bO.f i||bO.g i) (n:=bO.n) λi hi=>by
     rw[hg.f,hg.to.g]at hi;rw[iS,dZ]at hi;rw[iS];exact hi.imp And.left id
    omega
   show cl T<=cl (b6.nq root o)+_;omega
  .rcases bZ with ⟨h1,h2,k,H⟩|⟨h1,_⟩
   .exact .inl ⟨h1,h2,k,H⟩
   .exact .inr h1
  .have h1:=jU.2 hx
   have h2:=Q no;rcases nA (aG.count no) with k|k
   .have r:no∈m:=jU.1 I
    exact .inr (d.jK no r).1
   .exact .inl (jU.1 k)
  .show b6.f no=true↔_
   rw[hg.f,d.f];have e:(T.ck bd j).f no=T.f no:=rfl;rw[e];have dq:=Q no;have A:=aE no;have b4:no∈m↔0<m.count no:=jU.symm;have ae:no∈aG↔0<aG.count no:=jU.symm;have cY:no∈l↔0<l.count no:=jU.symm;have cZ:no∈pages↔0<pages.count no:=jU.symm;have c1:0<aG.count no->T.f no=true:=λh=>aJ no (ae.2 h);have c2:0<m.count no->T.f no=false:=λh=>by
    have:=(d.jK no (b4.2 h)).1;have e:((T.ck bd j).f no||(T.ck bd j).g no)=(T.f no||T.g no):=rfl;rw[e]at this
    cases a7:T.f no
    .rfl
    .rw[a7]at this;cases this
   rw[dZ,iS,cQ,lf,jw,b4,ae,cY,cZ];constructor
   .rintro⟨h1|h1,h2⟩
    .by_cases k:0<aG.count no
     .left;omega
     .exact .inr ⟨h1,k⟩
    .left;omega
   .rintro(h1|⟨h1,h2⟩)
    .refine⟨?_,I⟩
     by_cases k:0<aG.count no
     .exact .inl (c1 k)
     .right;omega
    .refine⟨.inl h1,λk=>?_⟩
     have:0<m.count no:=by omega
     rw[c2 this]at h1;cases h1
  .have c3:(T.f no||T.g no)=true:=by rw[ac];simp
   have c4:bO.g no=true:=by rw[d.to.g];exact ac
   have h1:=hg.eN no (.inr c4);have h2:=d.eN no c3;exact⟨h1.1.trans h2.1,h1.2.trans h2.2⟩
theorem Ca{ks:O Key}{k:Key}{i:Nat}(hs:ks.Pairwise bH)(h1:cN ks k<=i)(hi:i<ks.length)(d:ks[cN ks k]? ≠some k):bH k ks[i]:=by
 rcases oe.1 (pY hs h1 hi) with h2|h2
 .exact h2
 .exfalso
  rcases dJ (cN ks k) i with a|a
  .have b:cN ks k<ks.length:=by omega
   have f:=pY hs (bp _) b;have c:=mK.1 hs _ _ b hi a;rw[←h2]at c;exact f c
  .have e:i=cN ks k:=by omega
   apply d;subst e;rw[dE hi,←h2]
theorem yr{n:aD}(h:gS n){i:Nat}(hi:i<=n.keys.length):∃a b c d:O Key,n.keys=a++b/\n.vals=c++d/\a.length=i/\c.length=i/\b.length=d.length/\n.keys.take i=a/\n.keys.drop i=b/\n.vals.take i=c/\n.vals.drop i=d:=by
 have e:=h.len;refine⟨n.keys.take i,n.keys.drop i,n.vals.take i,n.vals.drop i,(ib i _).symm,(ib i _).symm,?_,?_,?_,rfl,rfl,rfl,rfl⟩
 .rw[cC];omega
 .rw[cC];omega
 .rw[c_,c_];omega
def kc(k v:Key):Nat:=2+k.length+v.length
theorem qe{n:aD}(h:n.leaf=true):bJ n=1+(List.zipWith kc n.keys n.vals).sum:=by
 unfold bJ;rw[if_pos h,k1 h];rfl
theorem He{n:aD}{k v:Key}(h:gS n)(B:cv k)(C:v.length<=24):gS (hC n k v)/\(hC n k v).dN=e4 n.dN k v/\bJ (hC n k v)<=bJ n+50/\(hC n k v).keys≠ []/\n.keys.length<=(hC n k v).keys.length/\(∀s∈(hC n k v).keys,s=k\/s∈n.keys):=by
 have hlen:=h.len;have D:=pX n.keys k;have J:n.dN=n.keys.zip n.vals:=rfl;have E:=h.fb;have F:∀ (j:Nat) (m:j<n.keys.length),j<cN n.keys k->bH n.keys[j] k:=λj m h1=>om h1 m;have G:n.keys[cN n.keys k]? ≠some k->∀ (j:Nat) (m:j<n.keys.length),cN n.keys k<=j->bH k n.keys[j]:=λhe j m h1=>Ca E h1 m he;rw[J,Ff h.fb];unfold hC hA;generalize hi:cN n.keys k=i at D F G⊢;obtain⟨a,b,c,d,g,t,K,L,M,p,q,w,A⟩:=yr h D;have f:n.keys.zip n.vals=a.zip c++b.zip d:=by rw[g,t];exact oh I
 have u:(a.zip c).length=i:=by rw[mI];omega
 by_cases he:n.keys[i]? =some k
 .rw[if_pos (by simpa using he),if_pos he]
  have N:∃o,b=k::o:=by
   cases b with
   |nil=>rw[g,kl I]at he;simp at he
   |cons y o=>
    rw[g,kl I,K,nx]at he;simp at he;exact⟨o,by rw[he]⟩
  obtain⟨o,rfl⟩:=N;obtain⟨x,l,rfl⟩:∃x l,d=x::l:=by
   cases d with
   |nil=>simp at M
   |cons x l=>exact⟨x,l,rfl⟩
  have H:n.vals.set i v=c++v::l:=by
   rw[t,List.set_append_right _ _ I,L,nx];rfl
  refine⟨⟨⟨h.ok,h.fb⟩,h.leaf,by simp[hlen],h.kids,λz f=>?_⟩,?_,?_,λe=>by have e:n.keys=[]:=e;rw[e]at g;simp at g,bp _,λs hs=>.inr hs⟩
  .rcases lp f with h1|h1
   .exact h.vals z h1
   .rw[h1];exact C
  .show n.keys.zip (n.vals.set i v)=_
   rw[H,f,g,oh I,mf u];have O:(a.zip c++(k::o).zip (x::l)).drop (i+1)=o.zip l:=by
    rw[List.zip_cons_cons,show a.zip c++(k,x)::o.zip l=(a.zip c++ [(k,x)])++o.zip l by simp];exact drop_left' (by simp only[cz,u,iU])
   rw[O];rfl
  .rw[qe h.leaf,qe (n:={n with vals:=n.vals.set i v}) h.leaf]
   show 1+(List.zipWith kc n.keys (n.vals.set i v)).sum<=_;rw[H,g,t,oU I,oU I,lj,lj,List.zipWith_cons_cons,List.zipWith_cons_cons,qA,qA];unfold kc;omega
 .rw[if_neg (by simpa using he),if_neg he]
  have P:=G he;refine⟨⟨⟨λz f=>?_,?_⟩,h.leaf,?_,h.kids,λz f=>?_⟩,?_,?_,λe=>?_,?_,λs hs=>?_⟩
  .have f:z∈n.keys.take i++ [k]++n.keys.drop i:=f
   simp only[cT,fo]at f;rcases f with (f|rfl)|f
   .exact h.ok z (fp f)
   .exact B
   .exact h.ok z (fg f)
  .show(n.keys.take i++ [k]++n.keys.drop i).Pairwise bH
   rw[p,q];have Q:(a++b).Pairwise bH:=by rw[←g];exact E
   obtain⟨av,ax,R⟩:=mH.1 Q;have S:∀x∈a,bH x k:=λx hx=>by
    obtain⟨j,m,rfl⟩:=fh hx;have:=F j (by rw[g,cz];omega) I;simp only[g,lU m]at this;exact this
   have T:∀y∈b,bH k y:=λy r=>by
    obtain⟨j,m,rfl⟩:=fh r;have:=P (i+j) (by rw[g,cz];omega) I;have e:(a++b)[i+j]'(by rw[cz];omega)=b[j]:=by
     rw[ny I];congr 1;omega
    simp only[g,e]at this;exact this
   rw[cO];refine mH.2 ⟨av,?_,λx hx y r=>?_⟩
   .exact jA.2 ⟨T,ax⟩
   .rcases cU.1 r with rfl|r
    .exact S x hx
    .exact R x hx y r
  .show(n.vals.take i++ [v]++n.vals.drop i).length=(n.keys.take i++ [k]++n.keys.drop i).length
   rw[p,q,w,A];simp only[cz,iU];omega
  .have f:z∈n.vals.take i++ [v]++n.vals.drop i:=f
   simp only[cT,fo]at f;rcases f with (f|rfl)|f
   .exact h.vals z (fp f)
   .exact C
   .exact h.vals z (fg f)
  .show(n.keys.take i++ [k]++n.keys.drop i).zip (n.vals.take i++ [v]++n.vals.drop i)=_
   rw[p,q,w,A,f,mf u,drop_left' u,cO,cO,oh I];rfl
  .rw[qe h.leaf,qe (n:={n with keys:=n.keys.take i++ [k]++n.keys.drop i,vals:=n.vals.take i++ [v]++n.vals.drop i}) h.leaf]
   show 1+(List.zipWith kc (n.keys.take i++ [k]++n.keys.drop i) (n.vals.take i++ [v]++n.vals.drop i)).sum<=_;have av:(List.zipWith kc (a++ [k]++b) (c++ [v]++d)).sum=(List.zipWith kc a c).sum+(kc k v+(List.zipWith kc b d).sum):=by
    rw[cO,cO,oU I,lj];rfl
   have ax:(List.zipWith kc (a++b) (c++d)).sum=(List.zipWith kc a c).sum+(List.zipWith kc b d).sum:=by
    rw[oU I,lj]
   rw[p,q,w,A,g,t,av,ax];have:=B.2;unfold kc;omega
  .have e:n.keys.take i++ [k]++n.keys.drop i=[]:=e
   simp at e
  .show n.keys.length<=(n.keys.take i++ [k]++n.keys.drop i).length
   rw[p,q,g];simp only[cz,iU];omega
  .have hs:s∈n.keys.take i++ [k]++n.keys.drop i:=hs
   simp only[cT,fo]at hs;rcases hs with (hs|rfl)|hs
   .exact .inr (fp hs)
   .exact .inl rfl
   .exact .inr (fg hs)
def Cb(T:aN)(aG:O Nat)(ej:O aI)(w:J)(v:aa)(w':J):Prop:=
 ∃ao:aN,bL w' ao/\bN T ao w w' 100/\ao.E=T.E/\ao.G=T.G/\
  ((v=.int .i64 2/\cl T<2*T.aH+3/\ao=T)\/
   (v=.int .i64 0/\2*T.aH+3<=cl T/\(∃pages,cl T<=cl ao+(2*T.aH+3)/\gj ao pages ej/\pages.Nodup/\(∀no∈pages,no∈aG\/(T.f no||T.g no)=false)/\∀no,ao.f no=true↔(no∈pages\/(T.f no=true/\no∉aG)))/\∀no,T.g no=true->ao.P no=T.P no/\ao.C.view no=T.C.view no)\/
   (v=.int .i64 3/\¬T.C.D.calm 100/\ao.root=T.root/\ao.aH=T.aH/\ao.f=T.f/\∀no,(T.f no||T.g no)=true->ao.P no=T.P no/\ao.C.view no=T.C.view no))
theorem vO.ab{T:aN}{aE:b4}{aG:O Nat}{ej:O aI}{w w1 w':J}{v:aa}{k:Nat}(h:vO (T.bk aE T.P) aG ej w1 v w')(e:bN T (T.bk aE T.P) w w1 k)(r:k<=40)(f:∀j,aE.view j=T.C.view j)(i:2*T.aH+3<=cl T):Cb T aG ej w v w':=by
 obtain⟨ao,h1,h2,l,m,n⟩:=h;refine⟨ao,h1,(e.trans h2).mono I,l,m,?_⟩;have o:cl (T.bk aE T.P)=cl T:=rfl;have p:(T.bk aE T.P).aH=T.aH:=rfl;rcases n with ⟨_,b,_⟩|⟨rfl,b,d,c⟩|⟨rfl,b,d,c,q,g⟩
 .rw[o,p]at b;omega
 .exact .inr (.inl ⟨rfl,i,d,λno a=>⟨(c no a).1,(c no a).2.trans (f no)⟩⟩)
 .exact .inr (.inr ⟨rfl,λhc=>b (e.calm 60 (fH hc I)),d,c,q,λno a=>⟨(g no a).1,(g no a).2.trans (f no)⟩⟩)
theorem mX(w:J)(s:Y):aQ aj 141 #[s] w (λv w'=>v=.bool (decide (1<=s.len/\s.len<=24))/\w=w'):=by
 refine okF (af.mX s) aA.mX func141 ?_;unfold af.mX;refine⟨?_,rfl⟩
 congr 1
 rw[fV,dZ,cQ,cQ,cQ];omega
theorem yt{T:aN}{w:J}{pages:O Nat}{L:O aI}{k:Key}(h:bL w T)(l:gj T pages L):∃steps,nk T.P k T.aH T.root steps/\
 ((steps=[]/\T.aH=0/\pages=[]/\L=[])\/(∃ (a:Nat) (bW:aD) (fc dO:aq Key) (b:O (Nat×aD×Nat)) (f:O Nat) (c d:O aI),steps=b++ [(a,bW,0)]/\Ctx T.P k T.aH 1 fc dO b f c d/\T.P a=some bW/\gS bW/\bW.within fc dO/\bW.keys≠ []/\(b≠ []->2<=bW.keys.length)/\fw fc dO k/\
   pages.Perm (a::f)/\L=c++(bW.dN++d)/\∀u,Loc k u->u L=c++(u bW.dN++d))):=by
 rcases l with ⟨h1,h2,m,n⟩|g
 .exact⟨[],by rw[h1];rfl,.inl ⟨rfl,h1,m,n⟩⟩
 .cases i:T.aH with
  |zero=>rw[i]at g;exact g.elim
  |succ t=>
   rw[i]at g;obtain⟨rest,b,a,bW,fc,dO,f,c,d,r1,b5,ag,bD,a_,o,p,q,r,j,s,v⟩:=Ctx.down (P:=T.P) (k:=k) (top:=t+1) (aP:=L) .top g (λh=>absurd rfl h) ⟨λ_ e=>(by cases e),λ_ e=>(by cases e)⟩ (by simp) (λu _=>by simp);rw[iT]at b5;rw[fQ]at j;exact⟨rest,r1,.inr ⟨a,bW,fc,dO,b,f,c,d,b5,ag,bD,a_,o,p,q,r,j,s,v⟩⟩
theorem gj.low{T:aN}{pages:O Nat}{L:O aI}(h:gj T pages L)(d:L.length<4096):T.aH<12/\pages.length<=L.length:=by
 rcases h with ⟨h1,_,a,_⟩|b
 .rw[h1,a];exact⟨I,cG _⟩
 .obtain⟨av,ax,c⟩:=b.pages
  refine⟨?_,av⟩;rcases dJ T.aH 12 with h|h
  .exact h
  .have e:=c I
   have f:2^12<=2^T.aH:=sn (by decide) h;have g:(2:Nat)^12=4096:=by decide
   omega
theorem Cc{w1:J}{T:aN}{aE:b4}{pages:O Nat}{L ej:O aI}{k:Key}{steps:O (Nat×aD×Nat)}{s:Y}{a:O dD}{bW b:aD}{K V D:Y}(h:bL w1 (T.bk aE T.P))(H:¬aE.D.ro)(N:gj T pages L)(Q:L.length<4096)(c7:pages.Nodup)(hf:∀x∈pages,T.f x=true)(m:aE.D.aR<=900000000)
 (g:a.map dD.st=steps) (o:j_ (λq=>¬(T.bk aE T.P).M q) w1 s a) (R:bC (λq=>¬(T.bk aE T.P).M q) w1 b K V D) (p:gS b) (S:(steps=[]/\T.aH=0/\pages=[]/\b.keys≠ []/\bJ b<=232/\b.dN=ej)\/(∃ (d:Nat) (fc dO:aq Key) (c:O (Nat×aD×Nat)) (i:O Nat) (j l:O aI),steps=c++ [(d,bW,0)]/\Ctx T.P k T.aH 1 fc dO c i j l/\b.within fc dO/\(c≠ []->b.keys≠ [])/\pages.Perm (d::i)/\ej=j++(b.dN++l)/\bJ b<=282)):
 aQ aj 150 #[.pointer (some T.aY),s,c0 b K V D] w1 (vO (T.bk aE T.P) pages ej w1):=by
 obtain⟨r,al⟩:=N.low Q;refine Hd h H m r c7 hf I λbd t ah aU u v U w y=>?_;have W:s.len=a.length:=by
  have:=o.own.1;rw[gL _ (nj a)]at this;omega
 have z:bC (λq=>¬((T.bk aE T.P).ck bd t).M q) ah b K V D:=(v.bn (lo:=0) (R.aX λq _ n=>⟨cG _,n⟩)).aX λq _ n=>n.2;rcases S with ⟨h1,h2,X,Z,aa,ab⟩|⟨d,fc,dO,c,i,j,l,C,E,ac,ad,F,ae,af⟩
 .subst h1 X
  have ag:a=[]:=by simpa using g
  exact Hb (by rw[W,ag];rfl) u z m (by
   have e:cl ((T.bk aE T.P).ck bd t)=cl (T.bk aE T.P):=rfl;omega) (by rw[w];simp) y p Z aa ab
 .have hlen:a.length=c.length+1:=by
   have:=congrArg List.length g;rw[C,dL,cz,iU]at this;exact this
  have am:1+c.length=T.aH:=E.eU;have ai:=o.to v;have G:(a.take (a.length-1)).map dD.st=c/\(a[a.length-1]'I).no=d:=by
   rw[C]at g;have av:(a.take (a.length-1)).map dD.st=(c++ [(d,bW,0)]).take (a.length-1):=by rw[←g,mJ]
   refine⟨by rw[av];exact mf I,?_⟩;have ax:(a.map dD.st)[a.length-1]? =some (d,bW,0):=by
    rw[g,kl I];have:a.length-1-c.length=0:=by omega
    rw[this];rfl
   rw[lk,dE I]at ax;have ak:=Option.some.inj ax;exact congrArg Prod.fst ak
  refine Ha (k:=k) (cJ:=i) (A:=j) (B:=l) (M:=b.dN) (lo:=fc) (hi:=dO) u ai z I (by show a.length=T.aH;omega) r m U (by rw[w];simp) (by rw[y];simp) ?_ ⟨p,ac,rfl,rfl⟩ ae.symm ?_ af (λh=>ad λe=>?_) λx hx=>?_
  .rw[G.1]
   have:a.length=T.aH:=by omega
   rw[this];exact E
  .rw[G.2];exact F
  .rw[e]at hlen;simp at hlen;omega
  .exact hf x (F.mem_iff.2 (jR _ hx))
theorem j_.ext'{B C:Nat->Prop}{w w':J}{s:Y}{l:O dD}(h:j_ B w s l)(hx:Ext w w')(hB:∀q,B q->C q):j_ C w' s l:=
 ⟨h.own.ext hx,λq a=>hB q (h.oI q a),λx b=>((h.bn x b).ext hx).aX λq _ c=>hB q c⟩
theorem qf{a:O dD}{b:O (Nat×aD×Nat)}{c:Nat}{bw:aD}(d:a.map dD.st=b++ [(c,bw,0)]):∃h:0<a.length,(a[a.length-1]'I).n=bw:=by
 have hlen:a.length=b.length+1:=by
  have:=congrArg List.length d;rw[dL,cz,iU]at this;exact this
 refine⟨I,?_⟩;have ax:(a.map dD.st)[a.length-1]? =some (c,bw,0):=by
  rw[d,kl I];have:a.length-1-b.length=0:=by omega
  rw[this];rfl
 rw[lk,dE I]at ax;exact congrArg (λx=>x.2.1) (Option.some.inj ax)
theorem Hf{w:J}{T:aN}{pages:O Nat}{L:O aI}{tk di:Y}{key val:Key}(h:bL w T)(a8:¬T.C.D.ro)(H:gj T pages L)(ap:L.length<4096)(c7:pages.Nodup)(hf:∀x∈pages,T.f x=true)(b3:T.C.D.aR<=800000000)
 (Q:Src 1 w tk (aJ key)) (R:∀q,aB tk q->q<w.heap.size/\¬T.M q) (aq:Src 1 w di (aJ val)) (a9:∀q,aB di q->q<w.heap.size/\¬T.M q):
 aQ aj 85 #[.pointer (some T.aY),tk,di] w (λv w'=>(v=.int .i64 1/\¬(cv key/\val.length<=24)/\w=w')\/(cv key/\val.length<=24/\Cb T pages (e4 L key val) w v w')):=by
 have ba:=len8 Q;have aw:=len8 aq;refine okF (af.tZ (some T.aY) tk di) aA.tZ func85 ?_;(delta af.tZ ak aM r1 aC au b_ ct U a_ ag ra iF;dsimp only);refine cd (λb w'=>b= !(decide (cv key))/\w=w') (λq c=>⟨λh=>(by cases h),λ_=>(mX w tk).use ?_⟩) ?_
 .rintro _ _ ⟨rfl,rfl⟩
  refine⟨_,rfl,c _ _ ⟨?_,rfl⟩⟩;unfold cv;rw[ba]
 rintro _ _ ⟨rfl,rfl⟩;refine⟨λd=>.inl ⟨rfl,λhg=>?_,rfl⟩,λd=>?_⟩
 .rw[dK hg.1,aw]at d
  have:¬(val.length:Int)>24:=by have:=hg.2;omega
  simp[this]at d
 have hg:cv key/\val.length<=24:=by
  by_cases h1:cv key
  .refine⟨h1,?_⟩
   rw[dK h1,aw]at d;have:¬(val.length:Int)>24:=by simpa using d
   omega
  .rw[iV h1]at d;simp at d
 have b4:=h.s.bw;obtain⟨b6,b7⟩:=H.low ap;have ay:Ext w w.drew:=cj w;have hd:=h.ext ay;refine aW ⟨λ_=>False,_,rfl,id,_,hd.cells.2.1,_,rfl,id,_,hd.cells.2.2.2.2,(yb hd.s).use ?_⟩;rintro _ b8 ⟨rfl,az⟩;have bb:((T.n:Int)-e0 (λi=>T.f i||T.g i) T.n)=(cl T:Nat):=by
  have:=mn (λi=>T.f i||T.g i) T.n;unfold cl;omega
 have bc:IntKind.wrap .i64 (IntKind.wrap .i64 (2*(T.aH:Int))+3)=((2*T.aH+3:Nat):Int):=by
  rw[bx (n:=2*(T.aH:Int)) I I,bx I I];omega
 rw[bb,bc];have o:=ay.trans az;have S:=h.ext o;refine⟨_,rfl,az,λd=>.inr ⟨hg.1,hg.2,T,S,(bN.ext T o).mono I,rfl,rfl,.inl ⟨rfl,?_,rfl⟩⟩,λd=>?_⟩
 .have d:((cl T:Nat):Int)<((2*T.aH+3:Nat):Int):=b1 d
  omega
 have bd:2*T.aH+3<=cl T:=by
  have:¬((cl T:Nat):Int)<((2*T.aH+3:Nat):Int):=cu d;omega
 obtain⟨steps,aF,aG⟩:=yt (k:=key) S H;refine(yf S I (Q.ext o) (λq c=>⟨fP (R q c).1 o.size,(R q c).2⟩) aF).use ?_;rintro _ z ⟨aE,W,X,aK,be⟩;have u:=((bN.ext T o).trans X).mono (l:=2*T.aH) I;rcases be with ⟨s,a,rfl,m,Z⟩|⟨rfl,bf⟩
 rotate_left
 .refine⟨⟨none,0,0⟩,3,rfl,λ_=>.inr ⟨hg.1,hg.2,T.bk aE T.P,W,u.mono I,rfl,rfl,.inr (.inr ⟨rfl,λhc=>bf (fH hc I),rfl,rfl,rfl,λno _=>⟨rfl,aK no⟩⟩)⟩,λhx=>(by cases hx)⟩
 have b9:s.len=a.length:=by
  have:=Z.own.1;rw[gL _ (nj a)]at this;omega
 have ca:=o.size;have cb:a.length=T.aH:=by
  have:=aF.length;rw[←m,dL]at this;exact this
 refine⟨s,0,rfl,λhx=>(by cases hx),λ_=>bj (vs:=[false,(),(),()]) rfl λce aL bh cf=>⟨aL.cc rfl (fI (b:=true) (K:=bg) (V:=bg) (D:=bg)),rfl,cw aL (us:=dY ⟨true,[],[],[]⟩ bg bg bg) rfl rfl λbi E bl cg=>?_⟩⟩;have aa:Ext z bi:=Ext.cn bh bl (bp _);obtain⟨hE,bm⟩:∃hE,hE=z.heap.size:=⟨_,rfl⟩;rw[←bm]at E⊢
 obtain⟨bW,j⟩:∃bW:aD,bW=(if ch:0<a.length then (a[a.length-1]'I).n else ⟨true,[],[],[]⟩):=⟨_,rfl⟩;refine ij (λp=>∃ (K V D:Y) (B:Nat->Prop),Ext z p/\Var p hE (dY bW K V D) 202/\bC B p bW K V D) (λq c=>⟨λac=>?_,λac=>?_⟩) ?_
 .have ad:0<a.length:=by
   have:(s.len:Int)>0:=b1 ac;omega
  rw[dif_pos ad]at j;have e:IntKind.wrap .i64 ((s.len:Int)-1)=((a.length-1:Nat):Int):=by rw[bx I I];omega
  obtain⟨A,ar,_,_,_,hu⟩:=Z.at (i:=a.length-1) I;have F:=hu.ext aa;rw[e,dc];subst j;refine⟨A,ar,⟨I,I⟩,_,F.aC,_,F.aU,_,F.aM,_,F.du,E.cc rfl fI,rfl,cw E (us:=dY (a[a.length-1]'I).n (a[a.length-1]'I).K (a[a.length-1]'I).V (a[a.length-1]'I).D) rfl rfl λbr bs bt ci=>?_⟩;have aO:Ext z br:=Ext.cn aa bt I;exact c _ ⟨_,_,_,_,aO,bs,hu.bn.ext aO⟩
 .have ad:¬0<a.length:=by
   have:¬(s.len:Int)>0:=cu ac;omega
  rw[dif_neg ad]at j;subst j;exact c _ ⟨bg,bg,bg,λ_=>True,aa,E,bo.none _ _,bo.none _ _,cL.none _ _⟩
 rintro p ⟨K,V,D,B,G,bu,bv⟩;have ck:=G.size;have cm:=X.ab.size
 have bz:gS bW/\bJ bW<=232:=by
  rcases aG with ⟨h1,h2,r,t⟩|⟨aP,bw,fc,dO,aS,aT,aV,aZ,b5,ag,bD,a_,a0,bA,bE,a1,a2,bG,a3⟩
  .have ae:¬0<a.length:=by
    rw[h1]at m;have:a=[]:=by simpa using m
    rw[this];simp
   rw[j,dif_neg ae];exact⟨⟨⟨λ_ h=>(by cases h),List.Pairwise.nil⟩,rfl,rfl,rfl,λ_ h=>(by cases h)⟩,by decide⟩
  .rw[b5]at m
   obtain⟨av,ax⟩:=qf m;rw[j,dif_pos av,ax];exact⟨a_,h.nm _ _ bD⟩
 obtain⟨ah,co⟩:=bz;have cp:=(cH.eS (.inl ah) I);have cr:∀q,T.N q->q<w.heap.size:=λq c=>h.lt (aN.gh c);have bH:Src 1 p tk (aJ key):=(Q.ab u.ab λq c ai=>(R q c).2 (aN.gh ai)).ext G;have bK:Src 1 p di (aJ val):=(aq.ab u.ab λq c ai=>(a9 q c).2 (aN.gh ai)).ext G;obtain⟨d0,d1,d2,d3⟩:=bF bu;refine⟨_,d0,K,d1,V,d2,D,d3,(pG bv ah I bH bK hg.1 hg.2).use ?_⟩;rintro _ bM ⟨cI,cP,cq,rfl,bO,bP⟩;refine⟨_,cI,cP,cq,true,rfl,bj (vs:=[false,(),(),()]) rfl λcs a4 bQ cx=>⟨a4.cc rfl fI,rfl,cw a4 (us:=dY (hC bW key val) cI cP cq) rfl rfl λa5 bR bS cy=>⟨λhx=>(by cases hx),λ_=>?_⟩⟩⟩;have a6:Ext bM a5:=Ext.cn bQ bS (bp _);have al:=(G.trans bP).trans a6;obtain⟨d0,d1,d2,d3⟩:=bF bR;obtain⟨bB,bq,bT,am,bU,a7⟩:=He ah hg.1 hg.2;have bV:aE.D.aR<=900000000:=by
  have:aE.D.aR<=T.C.D.aR+2*T.aH:=u.aR;omega
 have bX:bC (λq=>¬(T.bk aE T.P).M q) a5 (hC bW key val) cI cP cq:=(bO.ext a6).aX λq _ c bY=>by have:=W.lt bY;omega
 have bZ:=Cc (ej:=e4 L key val) (k:=key) (steps:=steps) (bW:=bW) (W.ext al) (λe=>a8 λi=>X.bI.1▸e i) H ap c7 hf bV m (Z.ext' al λq c=>c.2) bX bB (by
  rcases aG with ⟨h1,h2,r,t⟩|⟨aP,bw,fc,dO,aS,aT,aV,aZ,b5,ag,bD,a_,a0,bA,bE,a1,a2,bG,a3⟩
  .have ae:¬0<a.length:=by omega
   rw[dif_neg ae]at j;refine .inl ⟨h1,h2,r,am,?_,?_⟩
   .have:bJ bW=1:=by rw[j];rfl
    omega
   .rw[bq,j,t];rfl
  .rw[b5]at m
   obtain⟨av,ax⟩:=qf m;rw[dif_pos av,ax]at j;rw[j]at bq bT am bU a7⊢;refine .inr ⟨aP,fc,dO,aS,aT,aV,aZ,b5,ag,λs hs=>?_,λ_=>am,a2,?_,by have:=h.nm _ _ bD;omega⟩
   .rcases a7 s hs with rfl|an
    .exact a1
    .exact a0 s an
   .rw[bq];exact a3 (λL=>e4 L key val) (E5 key val))
 refine⟨_,d0,cI,d1,cP,d2,cq,d3,bZ.use ?_⟩;intro v w' b0;have b2:=b0.ab (w:=w) ((u.trans (bN.ext (T.bk aE T.P) al)).mono (l:=40) I) (bp _) aK bd;obtain⟨ao,h1,h2,r,t,an⟩:=b2;rcases an with ⟨rfl,y⟩|⟨rfl,y⟩|⟨rfl,y⟩
 .exact⟨2,rfl,.inr ⟨hg.1,hg.2,ao,h1,h2,r,t,.inl ⟨rfl,y⟩⟩⟩
 .exact⟨0,rfl,.inr ⟨hg.1,hg.2,ao,h1,h2,r,t,.inr (.inl ⟨rfl,y⟩)⟩⟩
 .exact⟨3,rfl,.inr ⟨hg.1,hg.2,ao,h1,h2,r,t,.inr (.inr ⟨rfl,y⟩)⟩⟩
end Go.Proofs.YtkdhdlfonmgheaaGreat
