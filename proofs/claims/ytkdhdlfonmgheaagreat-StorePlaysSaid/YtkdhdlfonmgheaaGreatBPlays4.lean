/- Contracts of the functions that the statement reaches, and the plain laws over them; each theorem stands with its conditions. -/
import Derived.Laws.Small
import Derived.Test.YtkdhdlfonmgheaaGreatBPlays3
namespace Go.Proofs.YtkdhdlfonmgheaaGreat
open Go a6 Go.Proofs.Tryz
theorem GI(w:J)(x:Int):Sem.run aj (Instr.buildSlice 326 1 #[(0,.agg #[(),x])]) w=
 .ok (.slice (some w.heap.size) 1 1) (w.alloc (.cells #[(),x] 334)):=by kernel_rfl
theorem GJ(w:J)(x y:Int)(t:Y):Sem.run aj (Instr.buildSlice 326 2 #[(0,.agg #[(),x]),(1,.agg #[t,y])]) w=
 .ok (.slice (some w.heap.size) 2 2) (w.alloc (.cells #[(),x,t,y] 334)):=by kernel_rfl
theorem cC.xp{n:aB}(h:cC n)(h1:1<=cf n)(h2:if n.leaf then cf n<=n.keys.length-1/\1<=n.keys.length-1 else cf n<=n.keys.length-2/\1<=n.keys.length-2):cC (n.left (cf n))/\cC (n.right (cf n)):=by
 rcases h with h|h
 .have a:=h.leaf
  rw[if_pos a]at h2;unfold aB.left aB.right;rw[if_pos a,if_pos a];have hlen:=h.len;refine⟨.inl ⟨⟨λk b=>h.ok k (fa b),h.e4.sublist (List.take_sublist _ _)⟩,rfl,?_,rfl,λv c=>h.vals v (fa c)⟩,.inl ⟨⟨λk b=>h.ok k (e_ b),h.e4.sublist (List.drop_sublist _ _)⟩,rfl,?_,rfl,λv c=>h.vals v (e_ c)⟩⟩
  .simp only[cy];omega
  .simp only[c5];omega
 .have a:=h.inner
  rw[if_neg (by rw[a];simp)]at h2;unfold aB.left aB.right;rw[if_neg (by rw[a];simp),if_neg (by rw[a];simp)];have hlen:=h.len;refine⟨.inr ⟨⟨λk b=>h.ok k (fa b),h.e4.sublist (List.take_sublist _ _)⟩,rfl,?_,?_,rfl,λv c=>h.kids v (fa c)⟩,.inr ⟨⟨λk b=>h.ok k (e_ b),h.e4.sublist (List.drop_sublist _ _)⟩,rfl,?_,?_,rfl,λv c=>h.kids v (e_ c)⟩⟩
  .intro e
   have:=congrArg List.length e;simp only[cy,jw]at this;omega
  .simp only[cy];omega
  .intro e
   have:=congrArg List.length e;simp only[c5,jw]at this;omega
  .simp only[c5];omega
def k6(B:Nat->Prop)(w:J)(s:Y)(ks:O Key)(kids:O Nat):Prop:=
 (∃b x,s=⟨some ⟨b,0,none⟩,1,1⟩/\ks=[]/\kids=[x]/\Var w b [.slice none 0 0,.int .i64 (x:Nat)] 334/\B b)\/
 (∃b x y k t,s=⟨some ⟨b,0,none⟩,2,2⟩/\ks=[k]/\kids=[x,y]/\Var w b [.slice none 0 0,.int .i64 (x:Nat),.slice t.a t.len t.cap,.int .i64 (y:Nat)] 334/\B b/\aY B w t k/\k≠ [])
def hW(T:aL)(c:dB)(n:aB)(w:J)(v:aa)(w':J):Prop:=
 ∃ (an:aL) (c':dB) (m:O Nat) (s:Y),dj w' an c'/\dk T an c c' m [] w w' 2/\m.length<=2/\
  ((∃ks,v=.tuple #[s,(0:Int)]/\l_ an.P n ks m/\k6 (λq=>¬an.M q) w' s ks m)\/(v=.tuple #[s,(3:Int)]/\¬T.C.D.calm 2))
theorem BY{B:Nat->Prop}{w:J}{T:aL}{c:dB}{n:aB}{K V D:Y}(h:dj w T c)(k:T.C.D.aO<=900000100)(l:1<=cc T)(m:c.made.length<=1000)(o:bz B w n K V D)(hs:cC n)(h2:bF n<=232):
 aN aj 251 #[.pointer (some c.cb),cW n K V D] w (hW T c n w):=by
 refine okF (I7.uT (some c.cb) n.leaf K V D) I6.uT func251 ?_;(delta I7.uT a7 U af eH;dsimp only);refine bd (vs:=[n.leaf,K,V,D]) rfl λw1 p b y=>?_;obtain⟨bS,ay,aR,aF⟩:=bC p;refine⟨_,bS,K,ay,V,aR,D,aF,(vN (h.ext b) k l m (o.ext b) hs h2).use ?_⟩;rintro _ a ⟨no,an,c',d,q,r⟩;have f:∀ (e:Int),((e=0/\an.P no=some n)\/(e=3/\¬T.C.D.calm 1))->∃ (g:Y) (i:J),Sem.run aj (Instr.buildSlice 326 1 #[(0,.agg #[(),no])]) a=.ok g i/\hW T c n w (.tuple #[g,e]) i:=by
  intro e he;refine⟨⟨some a.heap.size,1,1⟩,_,GI a _,?_⟩;have j:=eA a (.cells #[(),no] 334);have s:dk T an c c' [no] [] w (a.alloc (.cells #[(),no] 334)) 2:=(((dk.ext T c b).trans q).trans (dk.ext an c' j)).mono I;refine⟨an,c',[no],⟨some a.heap.size,1,1⟩,d.ext j,s,by simp,?_⟩;rcases he with ⟨rfl,he⟩|⟨rfl,he⟩
  .refine .inl ⟨[],rfl,.inl ⟨h2,no,rfl,rfl,he⟩,.inl ⟨_,no,rfl,rfl,rfl,Var.new a [(),no] 334,λu=>?_⟩⟩
   have:=d.t.lt u;omega
  .exact .inr ⟨rfl,λhc=>he (f_ hc I)⟩
 rcases r with ⟨rfl,v⟩|⟨rfl,x⟩
 .exact⟨_,0,rfl,f 0 (.inl ⟨rfl,v⟩)⟩
 .exact⟨_,3,rfl,f 3 (.inr ⟨rfl,x⟩)⟩
theorem fD{b:ah}{K V D:Y}:∀v∈ [.bool b,.slice K.a K.len K.cap,.slice V.a V.len V.cap,.slice D.a D.len D.cap],Plain v:=by
 intro v c;simp only[cS,eS,eW]at c;rcases c with rfl|rfl|rfl|rfl<;>trivial
theorem GK{B:Nat->Prop}{w:J}{T:aL}{c:dB}{n:aB}{K V D:Y}(h:dj w T c)(aZ:T.C.D.aO<=900000090)(a0:2<=cc T)(a1:c.made.length<=900)(ah:bz B w n K V D)(hs:cC n)(h2:232<bF n)(a2:bF n<=400)(h1:1<=cf n)
 (l:if n.leaf then cf n<=n.keys.length-1/\1<=n.keys.length-1 else cf n<=n.keys.length-2/\1<=n.keys.length-2) (ak:bF (n.left (cf n))<=232) (al:bF (n.right (cf n))<=232):
 aN aj 294 #[.pointer (some c.cb),cW n K V D] w (hW T c n w):=by
 obtain⟨sl,am⟩:=hs.xp h1 l;have a3:=hs.eG I;have a:cf n<n.keys.length:=by
  split at l<;>omega
 refine okF (I7.u3 (some c.cb) n.leaf K V D) I6.u3 func294 ?_;(delta I7.u3 a7 U af pq cl ai eH;dsimp only);refine bd (vs:=[n.leaf,K,V,D]) rfl λw1 an E a4=>?_;obtain⟨bS,ay,aR,aF⟩:=bC an;refine⟨_,bS,K,ay,V,aR,D,aF,(pQ (ah.ext E) hs I h1 l).use ?_⟩;rintro _ ao ⟨c7,dt,bm,cD,cN,cn,t,rfl,ap,aq,ht,ar⟩;refine⟨_,c7,dt,bm,t,_,cD,cN,cn,true,rfl,bd (vs:=[false,(),(),()]) rfl λa5 au av a6=>bd (vs:=[false,(),(),()]) rfl λa8 aw F a9=>?_⟩;have G:=au.ext F;refine⟨G.b9 rfl fD,rfl,cu G (us:=[.bool (n.left (cf n)).leaf,c7,dt,bm]) rfl rfl λa_ ax H ba=>?_⟩;have L:=aw.ae H I;refine⟨L.b9 rfl fD,rfl,cu L (us:=[.bool (n.right (cf n)).leaf,cD,cN,cn]) rfl rfl λm az O bb=>⟨λa=>(by cases a),λ_=>?_⟩⟩;have aA:=ax.ae O I;have Q:=E.trans ar;have i:Ext ao m:=Ext.cm (Ext.cm (av.trans F) H I) O I;have o:=Q.trans i;have be:=Q.size;have bf:=i.size;obtain⟨d0,d1,d2,d3⟩:=bC aA;refine⟨_,d0,c7,d1,dt,d2,bm,d3,(vN (h.ext o) I I I (ap.ext i) sl ak).use ?_⟩;rintro _ aC ⟨x,bE,R,p,b,aD⟩;have r:∀q,T.N q->q<w.heap.size:=λq d=>h.t.lt (aL.gh d);have bg:=b.to.ae.size;rcases aD with ⟨rfl,S⟩|⟨rfl,s⟩
 .have aE:=az.ae b.to.ae λd=>by have:=r _ d;omega
  obtain⟨d0,d1,d2,d3⟩:=bC aE;have aG:bz (λq=>w1.heap.size<=q) aC (n.right (cf n)) cD cN cn:=(aq.ext i).ae b.to.ae λq d u=>by have:=r _ u;omega
  have aH:bE.C.D.aO<=900000100:=ew b.to.aO (by clear p b S;omega);have aI:=b.room;have bh:R.made.length=c.made.length+1:=by rw[b.made,ct];rfl
  simp only[iN]at aI;have W:=vN p aH I I aG am al;rw[b.cb]at W;refine⟨x,0,rfl,λa=>(by cases a),λ_=>⟨_,d0,cD,d1,cN,d2,cn,d3,W.use ?_⟩⟩;rintro _ g ⟨y,bX,X,Z,k,aJ⟩;have bi:=k.to.ae.size;have aK:=((dk.ext T c o).trans b).trans k;have aM:n.keys.getD (cf n) []=n.keys[cf n]:=by rw[ft,du a];rfl
  have aP:=ht.ext i;have aQ:aY (λq=>¬bX.M q) g t n.keys[cf n]:=by
   rw[←aM];have aS:aY (λq=>q<m.heap.size/\w1.heap.size<=q) m t (n.keys.getD (cf n) []):=aY.aW aP λq d a=>⟨d,a⟩;have aa:=(b.trans k).to;refine aY.aW (aY.ae aS aa.ae λq d u=>by have:=r _ u;omega) λq _ a v=>?_;rcases aa.cZ q v with ab|ab
   .have:=h.t.lt ab;omega
   .omega
  have aT:n.keys[cf n]≠ []:=by
   have aU:cz n.keys[cf n]:=by
    rcases hs with hs|hs
    .exact hs.ok _ (cA a)
    .exact hs.ok _ (cA a)
   intro e;have:=aU.1;rw[e]at this;simp at this
  have z:=eA g (.cells #[(),x,t,y] 334);have A:=(aK.trans (dk.ext bX X z)).mono (j:=2) I;have ac:∀ (e:Int),((e=0/\bX.P y=some (n.right (cf n)))\/(e=3/\¬bE.C.D.calm 1))->∃ (ad:Y) (ag:J),Sem.run aj (Instr.buildSlice 326 2 #[(0,.agg #[(),x]),(1,.agg #[t,y])]) g=.ok ad ag/\
   hW T c n w (.tuple #[ad,e]) ag:=by
   intro e he;refine⟨⟨some g.heap.size,2,2⟩,_,GJ g _ _ t,bX,X,[x,y],⟨some g.heap.size,2,2⟩,Z.ext z,A,by simp,?_⟩;rcases he with ⟨rfl,he⟩|⟨rfl,he⟩
   .have aV:bX.P x=some (n.left (cf n)):=by
     rw[(k.eF x (by rw[b.f];simp)).1,S]
    refine .inl ⟨[n.keys[cf n]],rfl,.inr ⟨h2,x,y,a,rfl,rfl,aV,he⟩,.inr ⟨_,x,y,_,t,rfl,rfl,rfl,Var.new g [(),x,t,y] 334,λv=>?_,aY.ext aQ z,aT⟩⟩;have:=Z.t.lt v;omega
   .exact .inr ⟨rfl,λhc=>he (b.to.calm 1 (f_ hc I))⟩
  rcases aJ with ⟨rfl,aX⟩|⟨rfl,s⟩
  .exact⟨_,0,rfl,ac 0 (.inl ⟨rfl,aX⟩)⟩
  .exact⟨_,3,rfl,ac 3 (.inr ⟨rfl,s⟩)⟩
 .have A:=((dk.ext T c o).trans b).mono (j:=2) I
  exact⟨_,3,rfl,λ_=>⟨bE,R,[x],bc,p,A,by simp,.inr ⟨rfl,λhc=>s (f_ hc I)⟩⟩,λa=>(by cases a)⟩
theorem vO{B:Nat->Prop}{w:J}{T:aL}{c:dB}{n:aB}{K V D:Y}(h:dj w T c)(t:T.C.D.aO<=900000090)(u:2<=cc T)(x:c.made.length<=900)(f:bz B w n K V D)(hs:cC n)(y:bF n<=400)
 (h2:232<bF n->1<=cf n/\(if n.leaf then cf n<=n.keys.length-1/\1<=n.keys.length-1 else cf n<=n.keys.length-2/\1<=n.keys.length-2)/\bF (n.left (cf n))<=232/\bF (n.right (cf n))<=232):
 aN aj 281 #[.pointer (some c.cb),cW n K V D] w (hW T c n w):=by
 have A:=hs.eG I;refine okF (I7.uY (some c.cb) n.leaf K V D) I6.uY func281 ?_;(delta I7.uY a7 U af ay ai b6;dsimp only);refine bd (vs:=[n.leaf,K,V,D]) rfl λw1 o p E=>?_;obtain⟨bS,ay,aR,aF⟩:=bC o;refine⟨_,bS,K,ay,V,aR,D,aF,(n0 (f.ext p) hs I).use ?_⟩;rintro _ z ⟨rfl,q⟩;have a:=p.trans q;obtain⟨d0,d1,d2,d3⟩:=bC (o.ext q);have fin:∀ (v:aa) (w':J),hW T c n z v w'->∃s:Y,∃e:Int,v=.tuple #[s,e]/\hW T c n w (.tuple #[s,e]) w':=by
  rintro v w' ⟨an,c',m,s,au,aw,d,i⟩;have r:=((dk.ext T c a).trans aw).mono (j:=2) I;rcases i with ⟨ks,rfl,k⟩|⟨rfl,k⟩
  .exact⟨s,0,rfl,an,c',m,s,au,r,d,.inl ⟨ks,rfl,k⟩⟩
  .exact⟨s,3,rfl,an,c',m,s,au,r,d,.inr ⟨rfl,k⟩⟩
 refine⟨_,rfl,λb=>⟨_,d0,K,d1,V,d2,D,d3,?_⟩,λb=>⟨_,d0,K,d1,V,d2,D,d3,?_⟩⟩
 .have b:((bF n:Nat):Int)>232:=b1 b
  obtain⟨au,aw,d,i⟩:=h2 I;refine(GK (h.ext a) t u x (f.ext a) hs I y au aw d i).use ?_;rintro v w' l;obtain⟨s,e,rfl,g⟩:=fin v w' l;exact⟨s,e,rfl,g⟩
 .have b:¬((bF n:Nat):Int)>232:=cp b
  refine(BY (h.ext a) I I I (f.ext a) hs I).use ?_;rintro v w' l;obtain⟨s,e,rfl,g⟩:=fin v w' l;exact⟨s,e,rfl,g⟩
theorem BZ{B:Nat->Prop}{w:J}{s:Y}{ls:O Key}(h:bj B w s ls)(p:ls.length<=100000):
 aN aj 284 #[s] w (λv w'=>∃b:Y,v=b/\bp (λq=>(B q/\q<w.heap.size)\/(w.heap.size<=q/\az b q)) w' b ls/\Ext w w'/\gR w b):=by
 have r:=bj.len h;obtain⟨ts,au,aw,t,u,l⟩:=h;refine okF (I7.tG s) I6.tG func284 ?_;delta I7.tG ai U;refine⟨λd=>?_,λ_=>?_⟩
 .have d:s.a=none:=by simpa using d
  have h0:=aw.nil d;have:ls=[]:=List.eq_nil_of_length_eq_zero (by rw[←au];have:=congrArg List.length h0;simpa using this);subst this;exact⟨⟨none,0,0⟩,rfl,bp.none _ _,.refl _ _,λk e=>(gf k e).elim⟩
 .obtain⟨b,w',h1,h2,x,j,f,_⟩:=p0.clone (cG:=127) aw (vz ts) I
  refine aS ⟨b,w',h1,b,rfl,⟨ts,au,h2,λq c=>⟨.inr ⟨f q c,c⟩,h2.lt q c⟩,λi m n=>?_⟩,j,f⟩;have a:=l i m n;exact⟨aY.aW (aY.ext (aY.aW (C:=λq=>B q/\q<w.heap.size) a λq c g=>⟨g,c⟩) j) λq _ g=>.inl g,λk e o=>by have:=f k o;have:=(a.2.2 k e).2;omega⟩
theorem k6.at{B:Nat->Prop}{w:J}{s:Y}{ks:O Key}{kids:O Nat}(h:k6 B w s ks kids):s.len=kids.length/\kids.length=ks.length+1/\kids.length<=2/\∀ (j:Nat) (d:j<kids.length),∃ (A:ab) (t:Y),s.a=some A/\w.cell? (A.add (j*2))=some (.slice t.a t.len t.cap)/\w.cell? ((A.add (j*2)).add 1)=some (.int .i64 ((kids[j]:Nat):Int))/\
 ((t.a=none/\ks.take j=ks.take (j-1))\/(t.a.isSome=true/\∃k,aY B w t k/\ks.take j=ks.take (j-1)++ [k])):=by
 rcases h with ⟨b,x,rfl,rfl,rfl,c,e⟩|⟨b,x,y,k,t,rfl,rfl,rfl,c,e,ht,f⟩
 .refine⟨rfl,rfl,by simp,λj d=>?_⟩
  have:j=0:=by simp at d;omega
  subst this;exact⟨_,⟨none,0,0⟩,rfl,by rw[av];exact c.cell,by rw[av,av];exact c.cell,.inl ⟨rfl,rfl⟩⟩
 .refine⟨rfl,rfl,by simp,λj d=>?_⟩
  rcases dC j 1 with h1|h1
  .have:j=0:=by omega
   subst this;exact⟨_,⟨none,0,0⟩,rfl,by rw[av];exact c.cell,by rw[av,av];exact c.cell,.inl ⟨rfl,rfl⟩⟩
  .have:j=1:=by simp at d;omega
   subst this;obtain⟨A,aq⟩:=aY.some ht f;exact⟨_,t,rfl,by rw[av];exact c.cell,by rw[av,av];exact c.cell,.inr ⟨by rw[aq];rfl,k,ht,rfl⟩⟩
theorem k6.ext{B:Nat->Prop}{w w':J}{s:Y}{ks:O Key}{kids:O Nat}(h:k6 B w s ks kids)(hx:Ext w w'):k6 B w' s ks kids:=by
 rcases h with ⟨b,x,h1,h2,a,c,d⟩|⟨b,x,y,k,t,h1,h2,a,c,d,ht,e⟩
 .exact .inl ⟨b,x,h1,h2,a,c.ext hx,d⟩
 .exact .inr ⟨b,x,y,k,t,h1,h2,a,c.ext hx,d,aY.ext ht hx,e⟩
theorem GL{w:J}{nb o:Nat}{vs:O aa}{S t:Y}{ls:O Key}{l:Key}{B:Nat->Prop}{T:TypeId}(d:Var w nb vs T)(n:o<vs.length)(f:bp B w S ls)(g:¬B nb)
 (ht:aY B w t l) (hd:∀k,az t k->¬az S k) (E:ls.length<=100000) {K:J->Prop}
 (p:∀ (w':J) (aA:Y),Var w' nb (vs.set o aA) T->bp (Grow B w w') w' aA (ls++ [l])->ad (λq=>q=nb\/az S q) w w'->(∀k,az aA k->az S k\/w.heap.size<=k)->K w'):
 ak (w.alloc (.cells #[t] 48)) λr=>∃i:Y,∃b:J,Sem.run aj (Builtin.append_ #[127,127] 127 #[S,.slice (some w.heap.size) 1 1]) r=.ok i b/\
  (∃u:aa,b.cell? (Addr.add nb o)=some u)/\b.frozen? (Addr.add nb o)=false/\ak (b.setCell (Addr.add nb o) i) λs=>K s:=by
 have v:=bp.aW (C:=λq=>B q\/w.heap.size<=q) f λk _ h=>.inl h;have x:=aY.aW (C:=λq=>B q\/w.heap.size<=q) ht λk _ h=>.inl h;obtain⟨c,w',au,aw,j,y⟩:=AX v x hd I λk a=>.inr a;have F:=d.lt;have z:¬az S nb:=λh=>by
  obtain⟨ts,_,_,A,_⟩:=f;exact g (A nb h).1
 have m:=d.ae j z;obtain⟨ay,aR⟩:=dH m n;refine aS ⟨c,w',au,?_⟩;rw[av,cx];have hc:=dn w' nb o c;refine⟨ay,aR,aS (p _ c (dJ m _) ?_ ?_ y)⟩
 .have D:=bp.aW (C:=Grow B w (w'.setCell ⟨nb,o,none⟩ c)) aw λk a h=>by
   rcases h with h|h
   .exact .inl h
   .exact .inr ⟨h,fN a hc.size⟩
  refine bp.ae D hc λk a e=>?_;subst e;rcases a with h|h
  .exact g h
  .omega
 .exact(j.mono λk _ a=>.inr a).trans (hc.mono λk _ a=>.inl a)
def vP(B:Nat->Prop)(n:aB)(fr to:Nat)(ks:O Key)(kids:O Nat)(w:J)(v:aa)(w':J):Prop:=
 ∃K V D:Y,v=cW (fZ n fr to ks kids) K V D/\bz (λq=>B q\/w.heap.size<=q) w' (fZ n fr to ks kids) K V D/\Ext w w'
def yi(nb aC e:Nat)(l:Y)(to:Int)(bV:J)(Q:aa->J->Prop):Prop:=
 ∃ (C:Int->J->Prop) (H:Int->J->Nat),C 0 bV/\∀ (n19:Int) (b:J),C n19 b->((decide ((n19:Int)<(l.len:Int)))=true->∃D:ab,l.a=some D/\((0:Int)<=n19/\n19<(l.len:Int))/\∃h:Y,b.cell? (D.add (Int.toNat n19*2))=some (.slice h.a h.len h.cap)/\∃n23:Int,b.cell? ((D.add (Int.toNat n19*2)).add 1)=some (.int .i64 n23)/\ak (b.alloc (.cells #[(),(0:Int)] 334)) λI=>bx I b.heap.size [h,n23]/\(2:Nat)=2/\ak (setCells I b.heap.size 0 [h,n23]) λf=>bo (λK:J->Prop=>∃i:Y,f.cell? b.heap.size=some (.slice i.a i.len i.cap)/\((!(Option.isNone i.a))=true->∃o:Y,f.cell? (Addr.add aC 1)=some (.slice o.a o.len o.cap)/\∃p:Y,f.cell? b.heap.size=some (.slice p.a p.len p.cap)/\ak (f.alloc (.cells #[p] 48)) λS=>∃L:Y,∃q:J,Sem.run aj (Builtin.append_ #[127,127] 127 #[o,.slice (some f.heap.size) 1 1]) S=.ok L q/\(∃u:aa,q.cell? (Addr.add aC 1)=some u)/\q.frozen? (Addr.add aC 1)=false/\ak (q.setCell (Addr.add aC 1) L) λT=>K T)/\((!(Option.isNone i.a))=false->K f)) (λ(r:J)=>∃s:Y,r.cell? (Addr.add aC 3)=some (.slice s.a s.len s.cap)/\∃n36:Int,r.cell? (Addr.add b.heap.size 1)=some (.int .i64 n36)/\ak (r.alloc (.cells #[n36] 3)) λU=>∃M:Y,∃t:J,Sem.run aj (Builtin.append_ #[58,58] 58 #[s,.slice (some r.heap.size) 1 1]) U=.ok M t/\(∃u:aa,t.cell? (Addr.add aC 3)=some u)/\t.frozen? (Addr.add aC 3)=false/\ak (t.setCell (Addr.add aC 3) M) λN=>C (IntKind.wrap .i64 (n19+1)) N/\H (IntKind.wrap .i64 (n19+1)) N<H n19 b))/\((decide ((n19:Int)<(l.len:Int)))=false->ak (b.drew) λE=>¬False/\∃v:Y,E.cell? (Addr.add aC 1)=some (.slice v.a v.len v.cap)/\¬False/\∃c:Y,E.cell? (Addr.add nb 1)=some (.slice c.a c.len c.cap)/\((0:Int)<=(IntKind.wrap .i64 (to-1))/\(IntKind.wrap .i64 (to-1))<=(c.len:Int))/\∃O:Y,∃w:J,Sem.run aj (Builtin.append_ #[127,127] 127 #[v,.slice (aM c.a 1 (Int.toNat (IntKind.wrap .i64 (to-1))) c.cap) (c.len-(Int.toNat (IntKind.wrap .i64 (to-1)))) (c.cap-(Int.toNat (IntKind.wrap .i64 (to-1))))]) E=.ok O w/\(∃u:aa,w.cell? (Addr.add aC 1)=some u)/\w.frozen? (Addr.add aC 1)=false/\ak (w.setCell (Addr.add aC 1) O) λV=>ak (V.drew) λF=>¬False/\∃x:Y,F.cell? (Addr.add aC 3)=some (.slice x.a x.len x.cap)/\¬False/\∃d:Y,F.cell? (Addr.add nb 3)=some (.slice d.a d.len d.cap)/\((0:Int)<=to/\to<=(d.len:Int))/\∃P:Y,∃y:J,Sem.run aj (Builtin.append_ #[58,58] 58 #[x,.slice (aM d.a 1 (Int.toNat to) d.cap) (d.len-(Int.toNat to)) (d.cap-(Int.toNat to))]) F=.ok P y/\(∃u:aa,y.cell? (Addr.add aC 3)=some u)/\y.frozen? (Addr.add aC 3)=false/\ak (y.setCell (Addr.add aC 3) P) λg=>∃G:ah,g.cell? aC=some (.bool G)/\∃j:Y,g.cell? (Addr.add aC 1)=some (.slice j.a j.len j.cap)/\∃k:Y,g.cell? (Addr.add aC 2)=some (.slice k.a k.len k.cap)/\∃m:Y,g.cell? (Addr.add aC 3)=some (.slice m.a m.len m.cap)/\bx g e [G,j,k,m]/\(4:Nat)=4/\ak (setCells g e 0 [G,j,k,m]) λn=>∃R:ah,n.cell? e=some (.bool R)/\∃z:Y,n.cell? (Addr.add e 1)=some (.slice z.a z.len z.cap)/\∃A:Y,n.cell? (Addr.add e 2)=some (.slice A.a A.len A.cap)/\∃B:Y,n.cell? (Addr.add e 3)=some (.slice B.a B.len B.cap)/\Q (.agg #[R,z,A,B]) n)
structure qb(B:Nat->Prop)(lo:Nat)(nb aC a:Nat)(n:aB)(K V D:Y)(c:O aa)(w:J)(b ax:Y)(bP bG:Nat->Prop)(ks:O Key)(ds:O Nat):Prop where
 ek:Var w nb [n.leaf,K,V,D] 202
 r:Var w a c 202
 o:Var w aC [false,b,(),ax] 202
 k:bp bP w b ks
 d:cO bG w ax ds
 bf:∀q,bP q->(B q/\q<lo)\/(lo<=q/\q<w.heap.size/\q≠nb/\q≠aC/\q≠a/\¬bG q)
 aK:∀q,bG q->lo<=q/\q<w.heap.size/\q≠nb/\q≠aC/\q≠a
 mm:∀q,az b q->lo<=q
theorem qb.ext{B:Nat->Prop}{lo nb aC b:Nat}{n:aB}{K V D:Y}{c:O aa}{w w':J}{e ax:Y}{bP bG:Nat->Prop}{ks:O Key}{ds:O Nat}(h:qb B lo nb aC b n K V D c w e ax bP bG ks ds)(hx:Ext w w'):qb B lo nb aC b n K V D c w' e ax bP bG ks ds:=by
 have f:=hx.size;exact⟨h.ek.ext hx,h.r.ext hx,h.o.ext hx,bp.ext h.k hx,cO.ext h.d hx,λq a=>(h.bf q a).imp id λh=>⟨h.1,I,h.2.2⟩,λq a=>⟨(h.aK q a).1,by have:=(h.aK q a).2.1;omega,(h.aK q a).2.2⟩,h.mm⟩
theorem GM{B:Nat->Prop}{w bV:J}{nb aC x:Nat}{n:aB}{K V D s ee D0:Y}{ak:O aa}{bP bG:Nat->Prop}{ks:O Key}{kids:O Nat}{fr to:Nat}(bg:qb B w.heap.size nb aC x n K V D ak bV ee D0 bP bG (n.keys.take fr) (n.kids.take fr))(bh:Ext w bV)
 (bi:bz B w n K V D) (aP:k6 B w s ks kids) (bk:ak.length=4) (h1:w.heap.size<=nb) (h2:w.heap.size<=aC) (G:w.heap.size<=x) (H:nb≠aC/\nb≠x/\aC≠x) (t1:1<=to) (t2:to<=n.kids.length) (t3:to-1<=n.keys.length) (bR:n.keys.length<=1000) (bq:n.kids.length<=1000):
 yi nb aC x s (to:Nat) bV (vP B n fr to ks kids w):=by
 obtain⟨bw,br,b3,bl⟩:=aP.at;unfold yi;refine⟨λi w'=>∃ (j:Nat) (z ax:Y) (bP bG:Nat->Prop),i=j/\j<=kids.length/\Ext w w'/\qb B w.heap.size nb aC x n K V D ak w' z ax bP bG (n.keys.take fr++ks.take (j-1)) (n.kids.take fr++kids.take j),λi _=>((kids.length:Int)-i).toNat,⟨0,ee,D0,bP,bG,rfl,cE _,bh,by simpa using bg⟩,?_⟩;rintro _ u ⟨j,z,ax,bP,bG,rfl,b5,y,h⟩;have b6:=y.size;refine⟨λaJ=>?_,λaD=>?_⟩
 .have aJ:j<kids.length:=by
   have:(j:Int)<(s.len:Int):=b1 aJ;omega
  obtain⟨A,t,aq,ay,aR,aE⟩:=(aP.ext y).at.2.2.2 j aJ;refine⟨A,aq,⟨I,I⟩,t,by rw[c8];exact ay,_,by rw[c8];exact aR,?_⟩;have aE:(t.a=none/\ks.take j=ks.take (j-1))\/(t.a.isSome=true/\∃k,aY (λq=>B q/\q<w.heap.size) u t k/\ks.take j=ks.take (j-1)++ [k]):=by
   obtain⟨b7,aQ,aT,bm,_,bo⟩:=bl j aJ;rw[aq]at aT;cases aT;have e:=ad.cell y (λh=>h) bm;rw[ay]at e;injection e with e
   obtain rfl:t=aQ:=by
    cases t;cases aQ;simp at e;simp[e]
   rcases bo with h|⟨h1,k,h2,G⟩
   .exact .inl h
   .exact .inr ⟨h1,k,aY.ext (aY.aW h2 λq c f=>⟨f,c⟩) y,G⟩
  refine bd (vs:=[(),(0:Int)]) rfl λb8 aU bs b_=>?_;refine⟨aU.b9 rfl ?_,rfl,cu aU (us:=[t,.int .i64 ((kids[j]:Nat):Int)]) rfl rfl λaF S bt ca=>?_⟩
  .intro v aV
   simp only[cS,eS,eW]at aV;rcases aV with rfl|rfl<;>trivial
  have al:Ext u aF:=Ext.cm bs bt (bn _);have m:=h.ext al;have cb:=al.size;have aX:=y.trans al;obtain⟨fc,bv⟩:∃fc,fc=u.heap.size:=⟨_,rfl⟩;rw[←bv]at S⊢;have cc:=S.lt;refine hF (λT=>∃ (cD:Y) (am:Nat->Prop),qb B w.heap.size nb aC x n K V D ak T cD ax am bG (n.keys.take fr++ks.take j) (n.kids.take fr++kids.take j)/\Ext w T/\Var T fc [t,.int .i64 ((kids[j]:Nat):Int)] 334/\aF.heap.size<=T.heap.size) (λq c=>⟨t,S.cell,λf=>?_,λf=>?_⟩) ?_
  .rcases aE with ⟨an,_⟩|⟨_,k,ht,ab⟩
   .rw[an]at f;cases f
   obtain⟨ac,L,af,M⟩:=bC (V:=⟨none,0,0⟩) m.o;have ao:∀q,az z q->bP q:=λq c=>by
    obtain⟨ts,_,_,G,_⟩:=m.k;exact(G q c).1
   refine⟨z,L,t,S.cell,GL (B:=λq=>bP q\/(B q/\q<w.heap.size)) m.o (o:=1) (by simp) (bp.aW m.k λq _ f=>.inl f) (λf=>?_) (aY.aW (aY.ext ht al) λq _ f=>.inr f) (λq c aG=>?_) ?_ λw' aA au aw p bx=>c _ ⟨aA,Grow (λq=>bP q\/(B q/\q<w.heap.size)) aF w',?_,?_,?_,p.size⟩⟩
   .rcases f with f|f
    .rcases m.bf _ f with g|g
     .omega
     .exact g.2.2.2.1 rfl
    .omega
   .have:=(ht.2.2 q c).1.2
    have:=m.mm q aG;omega
   .rw[ct,cy,cy];omega
   .have bB:=p.size
    have C:∀q,az z q->q<u.heap.size/\q≠nb/\q≠aC/\q≠x/\¬bG q:=λq c=>by
     have bD:=h.mm q c;rcases h.bf q (ao q c) with g|g
     .omega
     .exact g.2
    refine⟨m.ek.ae p λc=>?_,m.r.ae p λc=>?_,au,?_,cO.ae m.d p λq f c=>?_,λq f=>?_,λq f=>⟨(m.aK q f).1,by have:=(m.aK q f).2.1;omega,(m.aK q f).2.2⟩,λq c=>?_⟩
    .rcases c with e|c
     .exact H.1 e
     .exact(C _ c).2.1 rfl
    .rcases c with e|c
     .exact H.2.2 e.symm
     .exact(C _ c).2.2.2.1 rfl
    .rw[ab,←cM];exact aw
    .rcases c with e|c
     .exact(m.aK q f).2.2.2.1 e
     .exact(C q c).2.2.2.2 f
    .rcases f with (f|f)|f
     .exact(m.bf q f).imp id λg=>⟨g.1,I,g.2.2⟩
     .exact .inl f
     .refine .inr ⟨I,f.2,λe=>?_,λe=>?_,λe=>?_,λhd=>?_⟩
      .have:=m.ek.lt;omega
      .have:=m.o.lt;omega
      .have:=m.r.lt;omega
      .have:=(m.aK q hd).2.1;omega
    .rcases bx q c with g|g
     .exact h.mm q g
     .omega
   .exact Ext.dr aX p λq c=>by
     rcases c with rfl|c
     .exact h2
     .exact m.mm q c
   .refine S.ae p λc=>?_
    rcases c with e|c
    .have:=h.o.lt;omega
    .rcases h.bf _ (ao _ c) with g|g<;>omega
  .rcases aE with ⟨_,ab⟩|⟨an,_⟩
   .refine c _ ⟨z,bP,?_,aX,S,bn _⟩
    rw[ab];exact m
   .cases aZ:t.a with
    |none=>rw[aZ]at an;cases an
    |some A=>rw[aZ]at f;cases f
  rintro T ⟨cD,am,l,a0,a1,cd⟩;have ce:=a1.lt;obtain⟨ac,L,af,M⟩:=bC (V:=⟨none,0,0⟩) l.o;have E:∀q,az ax q->bG q:=λq c=>(l.d.2 q c).1;have bE:∀q,am q->¬(q=aC\/az ax q):=λq f c=>by
   rcases l.bf q f with g|g
   .rcases c with e|c
    .omega
    .have:=(l.aK q (E q c)).1;omega
   .rcases c with e|c
    .exact g.2.2.2.1 e
    .exact g.2.2.2.2.2 (E q c)
  have a2:IntKind.wrap .i64 ((j:Int)+1)=((j+1:Nat):Int):=by rw[bu I I];rfl
  refine⟨ax,M,_,by rw[av];exact a1.cell,(A5 (W:=λ_=>True) kids[j] l.o (o:=3) (by simp) l.d (λf=>(l.aK _ f).2.2.2.1 rfl) (by rw[ct,cy,cy];omega) λw' aA au aw p=>⟨⟨j+1,cD,aA,am,Grow bG T w',a2,I,?_,?_⟩,?_⟩).2⟩
  .exact Ext.dr a0 p λq c=>by
    rcases c with rfl|c
    .exact h2
    .exact(l.aK q (E q c)).1
  .have bB:=p.size
   refine⟨l.ek.ae p λc=>?_,l.r.ae p λc=>?_,au,?_,?_,λq f=>?_,λq f=>?_,l.mm⟩
   .rcases c with e|c
    .exact H.1 e
    .exact(l.aK _ (E _ c)).2.2.1 rfl
   .rcases c with e|c
    .exact H.2.2 e.symm
    .exact(l.aK _ (E _ c)).2.2.2.2 rfl
   .exact bp.ae l.k p bE
   .rw[iq aJ,←cM];exact aw
   .refine(l.bf q f).imp id λg=>⟨g.1,I,g.2.2.1,g.2.2.2.1,g.2.2.2.2.1,λhd=>?_⟩
    rcases hd with hd|hd
    .exact g.2.2.2.2.2 hd
    .omega
   .rcases f with f|f
    .exact⟨(l.aK q f).1,by have:=(l.aK q f).2.1;omega,(l.aK q f).2.2⟩
    .refine⟨by have:=a0.size;omega,f.2,λe=>?_,λe=>?_,λe=>?_⟩
     .have:=l.ek.lt;omega
     .have:=l.o.lt;omega
     .have:=l.r.lt;omega
  .rw[a2]
   show((kids.length:Int)-((j+1:Nat):Int)).toNat<((kids.length:Int)-(j:Int)).toNat;omega
 .have aD:j=kids.length:=by
   have:¬(j:Int)<(s.len:Int):=cp aD;omega
  subst aD;have a3:Ext u u.drew:=b4 _;have h:=h.ext a3;have y:=y.trans a3;have ab:ks.take (kids.length-1)=ks:=dD I;rw[ab,ir]at h;obtain⟨ac,L,af,M⟩:=bC (V:=⟨none,0,0⟩) h.o;obtain⟨ky,fH,dA,a4⟩:=bC h.ek;have a5:bz (λq=>B q/\q<w.heap.size) w n K V D:=bi.aW λq c f=>⟨f,c⟩;have aH:=a5.ext y;have a6:=bj.len aH.keys;have a7:=cH.len aH.kids;have a8:IntKind.wrap .i64 ((to:Int)-1)=((to-1:Nat):Int):=by rw[bu I I];omega
  have ao:∀q,az z q->bP q:=λq c=>by
   obtain⟨ts,_,_,G,_⟩:=h.k;exact(G q c).1
  have E:∀q,az ax q->bG q:=λq c=>(h.d.2 q c).1;have a9:=bj.sub aH.keys (lo:=to-1) (hi:=n.keys.length) t3 (bn _);have bF:(n.keys.drop (to-1)).take (n.keys.length-(to-1))=n.keys.drop (to-1):=dD (by rw[c5];exact bn _);rw[bF]at a9;obtain⟨N,ah,bH,bI,U⟩:=xT h.k a9 (λq c aG=>by have:=h.mm q aG;omega) (by rw[ct,cy];omega) (by rw[c5];omega);have cf:u.drew.heap.size=u.heap.size:=rfl;have C:∀q,az z q->q<u.drew.heap.size/\q≠nb/\q≠aC/\q≠x/\¬bG q:=λq c=>by
   have bD:=h.mm q c;rcases h.bf q (ao q c) with g|g
   .omega
   .exact g.2
  have cg:=U.size;have bJ:Ext w ah:=Ext.dr y U λq c=>h.mm q c;have a_:=h.o.ae U λc=>(C _ c).2.2.1 rfl;have bK:=h.ek.ae U λc=>(C _ c).2.1 rfl;have bL:=h.r.ae U λc=>(C _ c).2.2.2.1 rfl;have bM:cO bG ah ax _:=cO.ae h.d U λq f c=>(C q c).2.2.2.2 f;obtain⟨bA,bO⟩:=dH a_ (i:=1) (by simp);refine aS ⟨id,z,L,id,K,fH,?_,N,ah,?_,by rw[av];exact bA,by rw[av];exact bO,?_⟩
  .rw[a8,a6];omega
  .rw[a8,c8,a6];exact bH
  rw[av,cx];have P:=dn ah aC 1 N;have ai:=dJ a_ (i:=1) N;obtain⟨F,bN⟩:∃F,F=ah.setCell ⟨aC,1,none⟩ N:=⟨_,rfl⟩;rw[←bN]at P ai⊢;have ch:=P.size;have aI:=bK.ae P (λe=>H.1 e);have aL:=bL.ae P (λe=>H.2.2 e.symm);have aM:cO bG F ax _:=cO.ae bM P λq f e=>(h.aK q f).2.2.2.1 e;have aj:Ext w F:=Ext.cm bJ P h2;have X:Ext F F.drew:=b4 _;have ba:∀q,(bP q\/(B q/\q<w.heap.size)\/u.drew.heap.size<=q)->q≠aC:=λq c e=>by
   subst e;rcases c with c|c|c
   .rcases h.bf _ c with g|g
    .omega
    .exact g.2.2.2.1 rfl
   .omega
   .have:=h.o.lt;omega
  have bQ:=bj.ext (bj.ae bI P ba) X;have ai:=ai.ext X;have aI:=aI.ext X;have aL:=aL.ext X;have aM:=cO.ext aM X;have aj:=aj.trans X;obtain⟨ac,L,af,M⟩:=bC (V:=⟨none,0,0⟩) ai;obtain⟨ky,fH,dA,a4⟩:=bC aI;have bb:=cH.sub (a5.ext aj).kids (lo:=to) (hi:=n.kids.length) t2 (bn _);have bS:(n.kids.drop to).take (n.kids.length-to)=n.kids.drop to:=dD (by rw[c5];exact bn _);rw[bS]at bb;obtain⟨R,ap,f1,f2,f3⟩:=Bd aM bb (by rw[ct,cy];omega) (by rw[c5];omega);have ci:F.drew.heap.size=F.heap.size:=rfl;have cj:=f3.size;have ar:∀q,az ax q->w.heap.size<=q/\q<u.drew.heap.size/\q≠nb/\q≠aC/\q≠x:=λq c=>h.aK q (E q c);have bT:Ext w ap:=Ext.dr aj f3 λq c=>(ar q c).1;have bc:=ai.ae f3 λc=>(ar _ c).2.2.2.1 rfl;have bU:=aL.ae f3 λc=>(ar _ c).2.2.2.2 rfl;have bW:=bj.ae bQ f3 λq f c=>by
   have ck:=ar q c;rcases f with f|f|f
   .rcases h.bf q f with g|g
    .omega
    .exact g.2.2.2.2.2 (E q c)
   .omega
   .omega
  obtain⟨bA,bO⟩:=dH bc (i:=3) (by simp);refine aS (aS ⟨id,ax,M,id,D,a4,?_,R,ap,?_,by rw[av];exact bA,by rw[av];exact bO,?_⟩)
  .rw[a7];omega
  .rw[c8,a7];exact f1
  rw[av,cx];have Z:=dn ap aC 3 R;have be:=dJ bc (i:=3) R;obtain⟨aN,bX⟩:∃aN,aN=ap.setCell ⟨aC,3,none⟩ R:=⟨_,rfl⟩;rw[←bX]at Z be⊢;have cl:=Z.size;have bY:=bU.ae Z (λe=>H.2.2 e.symm);have bZ:Ext w aN:=Ext.cm bT Z h2;have b0:=bj.ae bW Z ba;have b2:=cH.ae f2 Z λq f e=>by
   subst e;rcases f with f|f|f
   .exact(h.aK _ f).2.2.2.1 rfl
   .omega
   .have:=h.o.lt;omega
  obtain⟨ac,L,af,M⟩:=bC (V:=⟨none,0,0⟩) be;refine aS ⟨_,ac,N,L,⟨none,0,0⟩,af,R,M,?_⟩;refine iW false N ⟨none,0,0⟩ R bY bk (Q:=λb K V D ag=>vP B n fr to ks kids w (.agg #[b,K,V,D]) ag) λcn aO=>?_;refine⟨N,⟨none,0,0⟩,R,rfl,⟨?_,?_,?_⟩,Ext.cm bZ aO G⟩
  .refine bj.aW (bj.ae b0 aO λq f e=>?_) λq _ f=>?_
   .subst e
    rcases f with f|f|f
    .rcases h.bf _ f with g|g
     .omega
     .exact g.2.2.2.2.1 rfl
    .omega
    .have:=h.r.lt;omega
   .rcases f with f|f|f
    .rcases h.bf _ f with g|g
     .exact .inl g.1
     .exact .inr g.1
    .exact .inl f.1
    .have:=y.size;exact .inr I
  .exact bj.none _ _
  .refine cH.aW (cH.ae b2 aO λq f e=>?_) λq _ f=>?_
   .subst e
    rcases f with f|f|f
    .exact(h.aK _ f).2.2.2.2 rfl
    .omega
    .have:=h.r.lt;omega
   .rcases f with f|f|f
    .exact .inr (h.aK _ f).1
    .exact .inl f.1
    .have:=aj.size;exact .inr I
theorem yj(K D:Y)(w:J):Sem.run aj (Instr.build 202 #[(1,K),(3,D)]) w=.ok (.agg #[false,K,(),D]) w:=by kernel_rfl
theorem pN{B:Nat->Prop}{w:J}{n:aB}{K V D s:Y}{ks:O Key}{kids:O Nat}{fr to:Nat}(P:bz B w n K V D)(al:k6 B w s ks kids)(f1:fr<=n.keys.length)(f2:fr<=n.kids.length)(t1:1<=to)(t2:to<=n.kids.length)(t3:to-1<=n.keys.length)(bR:n.keys.length<=1000)(bq:n.kids.length<=1000):
 aN aj 250 #[cW n K V D,fr,to,s] w (vP B n fr to ks kids w):=by
 refine okF (I7.pN n.leaf K V D (fr:Nat) (to:Nat) s) I6.pN func250 ?_;(delta I7.pN cl U af aZ eH jW ai aK r1 z5 tg st ar a7 ti;dsimp only);refine bd (vs:=[n.leaf,K,V,D]) rfl λw1 am an aD=>?_;refine bd (vs:=[false,(),(),()]) rfl λag ao Q aE=>aS ?_;have E:Ext ag ag.drew:=b4 _;have H:=(an.trans Q).trans E;obtain⟨d,R⟩:∃d,d=ag.drew:=⟨_,rfl⟩;have aG:d.heap.size=ag.heap.size:=by rw[R];rfl
 rw[←R]at H E⊢;have S:=(am.ext Q).ext E;have ap:=ao.ext E;obtain⟨bS,ay,aR,aF⟩:=bC S;have t:bz (λq=>B q/\q<w.heap.size) d n K V D:=(P.aW λq a c=>⟨c,a⟩).ext H;have aH:=bj.len t.keys;have aI:=cH.len t.kids;have aL:=bj.le t.keys;have aM:=t.kids.2.1;have L:=bj.sub t.keys (lo:=0) (hi:=fr) (cE _) f1;have F:=cH.sub t.kids (lo:=0) (hi:=fr) (cE _) f2;rw[lh,oP]at L F;have T:Int.toNat (fr:Int)-0=fr:=by rw[c8];rfl
 have fin:∀ (bV:J) (aC:Nat) (ee D0:Y),Ext d bV->Var bV aC [false,ee,(),D0] 202->d.heap.size<=aC->bp (λq=>(B q/\q<w.heap.size)\/(d.heap.size<=q/\az ee q)) bV ee (n.keys.take fr)->a8 1 3 bV D0 (dR (n.kids.take fr))->
  (∀q,az ee q->d.heap.size<=q/\q≠aC)->(∀q,az D0 q->d.heap.size<=q/\q≠aC/\¬az ee q)->yi w.heap.size aC w1.heap.size s (to:Nat) bV (vP B n fr to ks kids w):=by
  intro bV aC ee D0 hx aq aO W M X Z;have aP:=hx.size;have aJ:∀q,az ee q->q<bV.heap.size:=λq a=>by
   obtain⟨ts,_,o,_,_⟩:=W;exact o.lt q a
  refine GM (bP:=λq=>(B q/\q<w.heap.size)\/az ee q) (bG:=λq=>az D0 q) ⟨S.ext hx,ap.ext hx,aq,bp.aW W λq _ c=>c.imp id λh=>h.2,⟨M,λq a=>⟨a,a8.lt M q a⟩⟩,λq c=>?_,λq c=>?_,λq a=>by have:=(X q a).1;omega⟩ (H.trans hx) P al rfl (bn _) I I ⟨I,I,I⟩ t1 t2 t3 bR bq
  .rcases c with c|c
   .exact .inl c
   .have x:=X q c
    exact .inr ⟨I,aJ q c,I,x.2,I,λau=>(Z q au).2.2 c⟩
  .have x:=Z q c
   exact⟨I,a8.lt M q c,I,x.2.1,I⟩
 refine⟨λ_=>False,id,K,ay,⟨I,I⟩,id,D,aF,⟨I,I⟩,?_,?_⟩
 .rw[T]
  refine(BZ L (by rw[cy];omega)).use ?_;rintro _ u ⟨ee,rfl,p,f,y⟩;have av:=f.size;refine⟨ee,rfl,f,?_,?_⟩
  .refine(rH (F.1.ext f) (by rw[cy];omega)).use ?_
   rintro _ aa ⟨D0,rfl,v,G,ab⟩;have aQ:=G.size;refine⟨D0,rfl,G,_,yj ee D0,bd (vs:=[false,(),(),()]) rfl λaT ac ad aU=>⟨ad,ac.b9 rfl (fD (b:=false) (K:=ee) (V:=⟨none,0,0⟩) (D:=D0)),rfl,cu ac (us:=[false,ee,(),D0]) rfl rfl λg z j ah=>?_⟩⟩;have k:Ext aa g:=Ext.cm ad j (bn _);have r:∀q,az ee q->q<u.heap.size:=λq a=>by
    obtain⟨ts,_,o,_,_⟩:=p;exact o.lt q a
   exact fin g aa.heap.size ee D0 (f.trans (G.trans k)) z I (bp.aW (bp.ext p (G.trans k)) λq _ c=>c.imp (λh=>h.1) id) (v.ext k) (λq a=>⟨y q a,by have:=r q a;omega⟩) λq a=>⟨by have:=ab q a;omega,by have:=a8.lt v q a;omega,λh=>by have:=r q h;have:=ab q a;omega⟩
  .refine bd (vs:=[false,(),(),()]) rfl λak N l aw=>⟨l,(rH ((F.1.ext f).ext l) (by rw[cy];omega)).use ?_⟩
   rintro _ ax ⟨D0,rfl,v,m,i⟩;have A:=N.ext m;refine⟨D0,rfl,m,_,yj ee D0,A.b9 rfl (fD (b:=false) (K:=ee) (V:=⟨none,0,0⟩) (D:=D0)),rfl,cu A (us:=[false,ee,(),D0]) rfl rfl λg z j ah=>?_⟩;have k:Ext u g:=Ext.cm (l.trans m) j (bn _);have r:∀q,az ee q->q<u.heap.size:=λq a=>by
    obtain⟨ts,_,o,_,_⟩:=p;exact o.lt q a
   exact fin g u.heap.size ee D0 (f.trans k) z I (bp.aW (bp.ext p k) λq _ c=>c.imp (λh=>h.1) id) (v.ae j λq a e=>by have:=i q a;omega) (λq a=>⟨y q a,by have:=r q a;omega⟩) λq a=>⟨by have:=i q a;omega,by have:=i q a;omega,λh=>by have:=r q h;have:=i q a;omega⟩
 .rw[T]
  refine bd (vs:=[false,(),(),()]) rfl λak N l aw=>⟨l,(BZ (bj.ext L l) (by rw[cy];omega)).use ?_⟩;rintro _ u ⟨ee,rfl,p,f,y⟩;have av:=f.size;refine⟨ee,rfl,f,(rH ((F.1.ext l).ext f) (by rw[cy];omega)).use ?_⟩;rintro _ ax ⟨D0,rfl,v,m,i⟩;have A:=(N.ext f).ext m;refine⟨D0,rfl,m,_,yj ee D0,A.b9 rfl (fD (b:=false) (K:=ee) (V:=⟨none,0,0⟩) (D:=D0)),rfl,cu A (us:=[false,ee,(),D0]) rfl rfl λg z j ah=>?_⟩;have k:Ext d g:=Ext.cm ((l.trans f).trans m) j (bn _);have r:∀q,az ee q->q<u.heap.size:=λq a=>by
   obtain⟨ts,_,o,_,_⟩:=p;exact o.lt q a
  have aA:bp (λq=>(B q/\q<w.heap.size)\/(d.heap.size<=q/\az ee q)) g ee (n.keys.take fr):=by
   have x:=bp.aW (C:=λq=>(B q/\q<w.heap.size)\/(ak.heap.size<=q/\az ee q)) (bp.ext p m) λq _ c=>c.imp (λh=>h.1) id;exact bp.aW (bp.ae x j λq c e=>by rcases c with c|c<;>omega) λq _ c=>c.imp id λh=>⟨I,h.2⟩
  exact fin g d.heap.size ee D0 k z (bn _) aA (v.ae j λq a e=>by have:=i q a;omega) (λq a=>⟨by have:=y q a;omega,by have:=y q a;omega⟩) λq a=>⟨by have:=i q a;omega,by have:=i q a;omega,λh=>by have:=r q h;have:=i q a;omega⟩
def lH(n:aB):Prop:=cC n/\bF n<=400/\(232<bF n->1<=cf n/\(if n.leaf then cf n<=n.keys.length-1/\1<=n.keys.length-1 else cf n<=n.keys.length-2/\1<=n.keys.length-2)/\bF (n.left (cf n))<=232/\bF (n.right (cf n))<=232)
structure lI(B:Nat->Prop)(w:J)(A:ab)(u:dx):Prop where
 ay:w.cell? (A.add 1)=some (.bool u.n.leaf)
 aR:w.cell? ((A.add 1).add 1)=some (.slice u.K.a u.K.len u.K.cap)
 aF:w.cell? ((A.add 1).add 2)=some (.slice u.V.a u.V.len u.V.cap)
 c9:w.cell? ((A.add 1).add 3)=some (.slice u.D.a u.D.len u.D.cap)
 aZ:w.cell? (A.add 5)=some (.int .i64 (u.cR:Nat))
 bk:bz B w u.n u.K u.V u.D
 bN:B A.block
 lt:A.block<w.heap.size
theorem lI.ext{B:Nat->Prop}{w w':J}{A:ab}{u:dx}(h:lI B w A u)(hx:Ext w w'):lI B w' A u:=
 ⟨ad.cell hx (λh=>h) h.ay,ad.cell hx (λh=>h) h.aR,ad.cell hx (λh=>h) h.aF,ad.cell hx (λh=>h) h.c9,ad.cell hx (λh=>h) h.aZ,h.bk.ext hx,h.bN,fN h.lt hx.size⟩
theorem lI.to{w w':J}{T an:aL}{k:Nat}{A:ab}{u:dx}(h:lI (λq=>¬T.M q) w A u)(ht:bL T an w w' k):lI (λq=>¬an.M q) w' A u:=by
 have hc:=ht.ae;have a:¬T.N A.block:=λc=>h.bN (aL.gh c);refine⟨ad.cell hc (A:=A.add 1) a h.ay,ad.cell hc (A:=(A.add 1).add 1) a h.aR,ad.cell hc (A:=(A.add 1).add 2) a h.aF,ad.cell hc (A:=(A.add 1).add 3) a h.c9,ad.cell hc (A:=A.add 5) a h.aZ,?_,λd=>?_,fN h.lt hc.size⟩
 .have h1:=ht.bk (lo:=0) (h.bk.aW λq _ b=>⟨cE _,b⟩)
  exact h1.aW λq _ b=>b.2
 .rcases ht.cZ _ d with h1|h1
  .exact h.bN h1
  .have:=h.lt;omega
theorem hW.base{T:aL}{c:dB}{n:aB}{w0 w w':J}{v:aa}(h:hW T c n w v w')(hx:Ext w0 w):hW T c n w0 v w':=by
 obtain⟨an,c',m,s,au,aw,a,b⟩:=h;exact⟨an,c',m,s,au,((dk.ext T c hx).trans aw).mono I,a,b⟩
theorem hW.out{T:aL}{c:dB}{n:aB}{w w':J}{v:aa}(h:hW T c n w v w'):∃ (s:Y) (e:Int),v=.tuple #[s,e]:=by
 obtain⟨an,c',m,s,au,aw,b,a⟩:=h;rcases a with ⟨ks,rfl,_⟩|⟨rfl,_⟩
 .exact⟨s,0,rfl⟩
 .exact⟨s,3,rfl⟩
def yk(nb aC g bv:Nat)(c up:ao ab)(n31 n36:Int)(bV:J)(Q:aa->J->Prop):Prop:=
 bo (λaf:J->Prop=>∃ag:ab,up=some ag/\∃D:Int,bV.cell? (ag.add 5)=some (.int .i64 D)/\((decide ((n36:Int)>D))=true->ak (bV.drew) λd=>∃E:Nat->Prop,¬E (nb:ab).block/\∃F:ah,d.cell? nb=some (.bool F)/\∃j:Y,d.cell? (Addr.add nb 1)=some (.slice j.a j.len j.cap)/\∃k:Y,d.cell? (Addr.add nb 2)=some (.slice k.a k.len k.cap)/\∃l:Y,d.cell? (Addr.add nb 3)=some (.slice l.a l.len l.cap)/\¬E (aC:ab).block/\∃G:ah,d.cell? aC=some (.bool G)/\∃m:Y,d.cell? (Addr.add aC 1)=some (.slice m.a m.len m.cap)/\∃n:Y,d.cell? (Addr.add aC 2)=some (.slice n.a n.len n.cap)/\∃o:Y,d.cell? (Addr.add aC 3)=some (.slice o.a o.len o.cap)/\bx d g [F,j,k,l]/\(4:Nat)=4/\ak (setCells d g 0 [F,j,k,l]) λH=>ad E d H/\bx H bv [G,m,n,o]/\(4:Nat)=4/\ak (setCells H bv 0 [G,m,n,o]) λar=>af ar)/\((decide ((n36:Int)>D))=false->af bV)) (λ(au:J)=>ak (au.drew) λb=>∃f:Nat->Prop,¬f (g:ab).block/\∃I:ah,b.cell? g=some (.bool I)/\∃p:Y,b.cell? (Addr.add g 1)=some (.slice p.a p.len p.cap)/\∃q:Y,b.cell? (Addr.add g 2)=some (.slice q.a q.len q.cap)/\∃r:Y,b.cell? (Addr.add g 3)=some (.slice r.a r.len r.cap)/\∃K:ab,up=some K/\¬f ((K.add 1).add 1).block/\∃s:Y,b.cell? ((K.add 1).add 1)=some (.slice s.a s.len s.cap)/\∃L:ab,s.a=some L/\((0:Int)<=n31/\n31<(s.len:Int))/\¬f (L.add (Int.toNat n31*1)).block/\∃t:Y,b.cell? (L.add (Int.toNat n31*1))=some (.slice t.a t.len t.cap)/\¬f (bv:ab).block/\∃M:ah,b.cell? bv=some (.bool M)/\∃u:Y,b.cell? (Addr.add bv 1)=some (.slice u.a u.len u.cap)/\∃v:Y,b.cell? (Addr.add bv 2)=some (.slice v.a v.len v.cap)/\∃w:Y,b.cell? (Addr.add bv 3)=some (.slice w.a w.len w.cap)/\(Calls aj 282 #[.agg #[I,p,q,r],t,.agg #[M,u,v,w]] b λav e=>∃N:ah,∃O:Y,∃P:Y,∃R:Y,∃S:ah,av=.returned (.tuple #[.agg #[N,O,P,R],S])/\ad f b e/\ak (e.alloc (.cells #[false,(),(),()] 202)) λT=>ad f e T/\bx T e.heap.size [N,O,P,R]/\(4:Nat)=4/\ak (setCells T e.heap.size 0 [N,O,P,R]) λh=>((!S)=true->Q (.tuple #[(),(0:Int),(0:Int),(4:Int)]) h)/\((!S)=false->∃ai:ah,h.cell? e.heap.size=some (.bool ai)/\∃x:Y,h.cell? (Addr.add e.heap.size 1)=some (.slice x.a x.len x.cap)/\∃y:Y,h.cell? (Addr.add e.heap.size 2)=some (.slice y.a y.len y.cap)/\∃z:Y,h.cell? (Addr.add e.heap.size 3)=some (.slice z.a z.len z.cap)/\Calls aj 281 #[.pointer c,.agg #[ai,x,y,z]] h λaw ax=>∃al:Y,∃am:Int,aw=.returned (.tuple #[al,am])/\Q (.tuple #[al,n31,.int .i64 (IntKind.wrap .i64 (n31+2)),am]) ax))/\(ak (b.alloc (.cells #[false,(),(),()] 202)) λU=>ad f b U/\Calls aj 282 #[.agg #[I,p,q,r],t,.agg #[M,u,v,w]] U λay V=>∃W:ah,∃X:Y,∃Z:Y,∃ac:Y,∃ae:ah,ay=.returned (.tuple #[.agg #[W,X,Z,ac],ae])/\ad f U V/\bx V b.heap.size [W,X,Z,ac]/\(4:Nat)=4/\ak (setCells V b.heap.size 0 [W,X,Z,ac]) λi=>((!ae)=true->Q (.tuple #[(),(0:Int),(0:Int),(4:Int)]) i)/\((!ae)=false->∃an:ah,i.cell? b.heap.size=some (.bool an)/\∃A:Y,i.cell? (Addr.add b.heap.size 1)=some (.slice A.a A.len A.cap)/\∃B:Y,i.cell? (Addr.add b.heap.size 2)=some (.slice B.a B.len B.cap)/\∃C:Y,i.cell? (Addr.add b.heap.size 3)=some (.slice C.a C.len C.cap)/\Calls aj 281 #[.pointer c,.agg #[an,A,B,C]] i λaz aA=>∃ap:Y,∃aq:Int,az=.returned (.tuple #[ap,aq])/\Q (.tuple #[ap,n31,.int .i64 (IntKind.wrap .i64 (n31+2)),aq]) aA)))
theorem GN{W X:Nat->Prop}{w0 bV:J}{T:aL}{c:dB}{nb aC g bv:Nat}{A:ab}{u:dx}{n o:aB}{K V D i j k:Y}{fr other:Nat}{Q:aa->J->Prop}(h:dj w0 T c)(hx:Ext w0 bV)(am:Var w0 nb (dM n K V D) 202)(an:Var w0 aC (dM o i j k) 202)
 (ao:Var bV g (dM o i j k) 202) (ap:Var bV bv (dM n K V D) 202) (h1:w0.heap.size<=g) (h2:w0.heap.size<=bv) (aq:g≠bv) (ar:bz W w0 n K V D) (au:bz X w0 o i j k) (hu:lI (λq=>¬T.M q) w0 A u)
 (av:T.C.D.aO<=900000090) (aw:2<=cc T) (ax:c.made.length<=900) (fp:cC n) (Z:cC o) (bt:bF n<=400) (bw:bF o<=400) (ay:o.leaf=n.leaf) (aW:fr<u.n.keys.length) (az:cz u.n.keys[fr]) (m:aB) (aA:m=if u.cR<other then dQ n u.n.keys[fr] o else dQ o u.n.keys[fr] n) (l:lH m) (bx:fr<=1000)
 (aD:∀ (s:Y) (e:Int) (w':J),hW T c m w0 (.tuple #[s,e]) w'->Q (.tuple #[s,fr,.int .i64 ((fr+2:Nat):Int),e]) w'):
 yk nb aC g bv (some c.cb) (some A) (fr:Nat) (other:Nat) bV Q:=by
 have bA:=am.lt;have bB:=an.lt;have bD:=hx.size;have fn:=fp.eG I;have bE:=Z.eG I;unfold yk;refine hF (λp=>∃ (a b:aB) (G H L N O P:Y) (aE aF:Nat->Prop),Ext w0 p/\Var p g (dM a G H L) 202/\Var p bv (dM b N O P) 202/\bz aE w0 a G H L/\bz aF w0 b N O P/\m=dQ a u.n.keys[fr] b/\cC a/\cC b/\a.leaf=b.leaf/\a.keys.length<=200/\b.keys.length<=200)
  (λq r=>⟨A,rfl,_,(hu.ext hx).aZ,λd=>?_,λd=>r _ ⟨o,n,i,j,k,K,V,D,X,W,hx,ao,ap,au,ar,?_,Z,fp,ay,I,I⟩⟩) ?_
 .have d:u.cR<other:=by
   have:(other:Int)>(u.cR:Int):=b1 d;omega
  have f:=hx.trans (b4 bV);obtain⟨aX,bR,bq,aY⟩:=bC (am.ext f);obtain⟨a4,a5,a6,a7⟩:=bC (an.ext f);have aG:=ao.drew;have a8:=ap.drew;refine aS ⟨λq=>q=g,(show nb≠g from I),_,aX,K,bR,V,bq,D,aY,(show aC≠g from I),_,a4,i,a5,j,a6,k,a7,aG.b9 rfl fD,rfl,cu aG (us:=dM n K V D) rfl rfl λbG a9 ac bH=>?_⟩;have aH:=a8.ae ac (λe=>aq e.symm);refine⟨ac,aH.b9 rfl fD,rfl,cu aH (us:=dM o i j k) rfl rfl λbI a_ aI bJ=>?_⟩;exact r _ ⟨n,o,K,V,D,i,j,k,W,X,Ext.cm (Ext.cm f ac h1) aI h2,a9.ae aI aq,a_,ar,au,by rw[aA,if_pos d],fp,Z,ay.symm,I,I⟩
 .have d:¬u.cR<other:=by
   have:¬(other:Int)>(u.cR:Int):=cp d;omega
  rw[aA,if_neg d]
 rintro p ⟨a,b,G,H,L,N,O,P,aE,aF,ba,bb,d,aJ,aK,ad,sa,sb,aM,bK,lb⟩;have f:=ba.trans (b4 p);have bc:=bb.drew;have be:=d.drew;obtain⟨a0,a1,a2,a3⟩:=bC bc;obtain⟨bf,b5,bM,bg⟩:=bC be;have aN:=hu.ext f;obtain⟨bh,tk,bi,bl,bm,R,bL⟩:=bj.at aN.bk.keys aW;have aP:cC (dQ a u.n.keys[fr] b):=by rw[←ad];exact l.1
 have B:=n1 (aJ.ext f) (aK.ext f) R.1 (λq r=>(R.2.2 q r).2) (by have:=az.2;omega) sa sb aM aP I I;rw[←ad]at B;have aQ:IntKind.wrap .i64 ((fr:Int)+2)=((fr+2:Nat):Int):=by rw[bu I I];rfl
 obtain⟨wd,bN⟩:∃wd,wd=p.drew:=⟨_,rfl⟩;refine aS ⟨λ_=>False,id,_,a0,G,a1,H,a2,L,a3,A,rfl,id,u.K,aN.aR,bh,bi,bl,id,tk,bm,id,_,bf,N,b5,O,bM,P,bg,?_,?_⟩
 .refine B.use ?_
  rintro _ bo ⟨t,w,x,rfl,af,y⟩;refine⟨_,t,w,x,true,rfl,y,bd (vs:=[false,(),(),()]) rfl λbO aT aU bP=>⟨aU,aT.b9 rfl fD,rfl,cu aT (us:=dM m t w x) rfl rfl λag ah S bp=>⟨λd=>(by cases d),λ_=>?_⟩⟩⟩;have U:Ext bo ag:=Ext.cm aU S (bn _);have E:=(f.trans y).trans U;obtain⟨ai,aj,ak,al⟩:=bC ah;refine⟨_,ai,t,aj,w,ak,x,al,(vO (h.ext E) av aw ax (af.ext U) l.1 l.2.1 l.2.2).use ?_⟩;intro v w' F;obtain⟨s,e,rfl⟩:=F.out;rw[aQ];exact⟨s,e,rfl,aD s e w' (F.base E)⟩
 .refine bd (vs:=[false,(),(),()]) rfl λbQ br z bS=>⟨z,?_⟩
  have B:=n1 ((aJ.ext f).ext z) ((aK.ext f).ext z) (R.1.ext z) (λq r=>fN (R.2.2 q r).2 z.size) (by have:=az.2;omega) sa sb aM aP I I;rw[←ad]at B;refine B.use ?_;rintro _ bT ⟨t,w,x,rfl,af,y⟩;have aV:=br.ext y;refine⟨_,t,w,x,true,rfl,y,aV.b9 rfl fD,rfl,cu aV (us:=dM m t w x) rfl rfl λag ah S bp=>⟨λd=>(by cases d),λ_=>?_⟩⟩;have U:Ext p.drew ag:=Ext.cm (z.trans y) S (bn _);have E:=f.trans U;have bs:=bz.ae af S λq r e=>by omega
  obtain⟨ai,aj,ak,al⟩:=bC ah;refine⟨_,ai,t,aj,w,ak,x,al,(vO (h.ext E) av aw ax bs l.1 l.2.1 l.2.2).use ?_⟩;intro v w' F;obtain⟨s,e,rfl⟩:=F.out;rw[aQ];exact⟨s,e,rfl,aD s e w' (F.base E)⟩
theorem dk.leave{T:aL}{c c':dB}{E G:Nat->Prop}{w w':J}{no:Nat}(h:bL T (T.b_ E G) w w' 0)(a:E=T.E)(b:∀q,T.G q->G q)(h1:c'.cb=c.cb)(h2:c'.made=c.made)(d:c'.left=c.left++ [no]):dk T (T.b_ E G) c c' [] [no] w w' 0:=
 ⟨h,a,b,rfl,rfl,h1,by rw[h2,fO],d,List.nodup_nil,λ_ h=>(by cases h),λno=>by simp[aL.b_],λ_ _=>⟨rfl,rfl⟩,by simp[cc,aL.b_]⟩
def yl(nb aC:Nat)(c up:ao ab)(n31 n36 n41 aH:Int)(bV:J)(Q:aa->J->Prop):Prop:=
 (((aH:Int) !=0)=true->Q (.tuple #[(),(0:Int),(0:Int),aH]) bV)/\(((aH:Int) !=0)=false->∃bu:ab,c=some bu/\∃am:Y,bV.cell? (bu.add 2)=some (.slice am.a am.len am.cap)/\ak (bV.alloc (.cells #[n41] 3)) λbO=>∃bv:Y,∃an:J,Sem.run aj (Builtin.append_ #[58,58] 58 #[am,.slice (some bV.heap.size) 1 1]) bO=.ok bv an/\∃ap:ab,c=some ap/\(∃u:aa,an.cell? (ap.add 2)=some u)/\an.frozen? (ap.add 2)=false/\ak (an.setCell (ap.add 2) bv) λbP=>ak (bP.drew) λb=>∃l:Nat->Prop,¬l (aC:ab).block/\∃z:ah,b.cell? aC=some (.bool z)/\∃o:Y,b.cell? (Addr.add aC 1)=some (.slice o.a o.len o.cap)/\∃p:Y,b.cell? (Addr.add aC 2)=some (.slice p.a p.len p.cap)/\∃q:Y,b.cell? (Addr.add aC 3)=some (.slice q.a q.len q.cap)/\¬l (nb:ab).block/\∃A:ah,b.cell? nb=some (.bool A)/\∃r:Y,b.cell? (Addr.add nb 1)=some (.slice r.a r.len r.cap)/\∃s:Y,b.cell? (Addr.add nb 2)=some (.slice s.a s.len s.cap)/\∃t:Y,b.cell? (Addr.add nb 3)=some (.slice t.a t.len t.cap)/\(ak (b.alloc (.cells #[false,(),(),()] 202)) λf=>ad l b f/\ak (f.alloc (.cells #[false,(),(),()] 202)) λaq=>ad l f aq/\bx aq b.heap.size [z,o,p,q]/\(4:Nat)=4/\ak (setCells aq b.heap.size 0 [z,o,p,q]) λaI=>ad l aq aI/\bx aI f.heap.size [A,r,s,t]/\(4:Nat)=4/\ak (setCells aI f.heap.size 0 [A,r,s,t]) λaJ=>bo (λbw:J->Prop=>∃bz:ab,up=some bz/\∃aK:Int,aJ.cell? (bz.add 5)=some (.int .i64 aK)/\((decide ((n36:Int)>aK))=true->ak (aJ.drew) λh=>∃aL:Nat->Prop,¬aL (nb:ab).block/\∃aM:ah,h.cell? nb=some (.bool aM)/\∃B:Y,h.cell? (Addr.add nb 1)=some (.slice B.a B.len B.cap)/\∃C:Y,h.cell? (Addr.add nb 2)=some (.slice C.a C.len C.cap)/\∃D:Y,h.cell? (Addr.add nb 3)=some (.slice D.a D.len D.cap)/\¬aL (aC:ab).block/\∃aN:ah,h.cell? aC=some (.bool aN)/\∃E:Y,h.cell? (Addr.add aC 1)=some (.slice E.a E.len E.cap)/\∃F:Y,h.cell? (Addr.add aC 2)=some (.slice F.a F.len F.cap)/\∃G:Y,h.cell? (Addr.add aC 3)=some (.slice G.a G.len G.cap)/\bx h b.heap.size [aM,B,C,D]/\(4:Nat)=4/\ak (setCells h b.heap.size 0 [aM,B,C,D]) λaO=>ad aL h aO/\bx aO f.heap.size [aN,E,F,G]/\(4:Nat)=4/\ak (setCells aO f.heap.size 0 [aN,E,F,G]) λbQ=>bw bQ)/\((decide ((n36:Int)>aK))=false->bw aJ)) (λ(bR:J)=>ak (bR.drew) λd=>∃m:Nat->Prop,¬m (b.heap.size:ab).block/\∃aP:ah,d.cell? b.heap.size=some (.bool aP)/\∃H:Y,d.cell? (Addr.add b.heap.size 1)=some (.slice H.a H.len H.cap)/\∃I:Y,d.cell? (Addr.add b.heap.size 2)=some (.slice I.a I.len I.cap)/\∃K:Y,d.cell? (Addr.add b.heap.size 3)=some (.slice K.a K.len K.cap)/\∃aQ:ab,up=some aQ/\¬m ((aQ.add 1).add 1).block/\∃L:Y,d.cell? ((aQ.add 1).add 1)=some (.slice L.a L.len L.cap)/\∃aR:ab,L.a=some aR/\((0:Int)<=n31/\n31<(L.len:Int))/\¬m (aR.add (Int.toNat n31*1)).block/\∃M:Y,d.cell? (aR.add (Int.toNat n31*1))=some (.slice M.a M.len M.cap)/\¬m (f.heap.size:ab).block/\∃aS:ah,d.cell? f.heap.size=some (.bool aS)/\∃N:Y,d.cell? (Addr.add f.heap.size 1)=some (.slice N.a N.len N.cap)/\∃O:Y,d.cell? (Addr.add f.heap.size 2)=some (.slice O.a O.len O.cap)/\∃P:Y,d.cell? (Addr.add f.heap.size 3)=some (.slice P.a P.len P.cap)/\(Calls aj 282 #[.agg #[aP,H,I,K],M,.agg #[aS,N,O,P]] d λbS j=>∃aT:ah,∃aU:Y,∃aV:Y,∃aW:Y,∃aX:ah,bS=.returned (.tuple #[.agg #[aT,aU,aV,aW],aX])/\ad m d j/\ak (j.alloc (.cells #[false,(),(),()] 202)) λaY=>ad m j aY/\bx aY j.heap.size [aT,aU,aV,aW]/\(4:Nat)=4/\ak (setCells aY j.heap.size 0 [aT,aU,aV,aW]) λv=>((!aX)=true->Q (.tuple #[(),(0:Int),(0:Int),(4:Int)]) v)/\((!aX)=false->∃bA:ah,v.cell? j.heap.size=some (.bool bA)/\∃ar:Y,v.cell? (Addr.add j.heap.size 1)=some (.slice ar.a ar.len ar.cap)/\∃au:Y,v.cell? (Addr.add j.heap.size 2)=some (.slice au.a au.len au.cap)/\∃av:Y,v.cell? (Addr.add j.heap.size 3)=some (.slice av.a av.len av.cap)/\Calls aj 281 #[.pointer c,.agg #[bA,ar,au,av]] v λbT bU=>∃bB:Y,∃bC:Int,bT=.returned (.tuple #[bB,bC])/\Q (.tuple #[bB,n31,.int .i64 (IntKind.wrap .i64 (n31+2)),bC]) bU))/\(ak (d.alloc (.cells #[false,(),(),()] 202)) λaZ=>ad m d aZ/\Calls aj 282 #[.agg #[aP,H,I,K],M,.agg #[aS,N,O,P]] aZ λbW a0=>∃a1:ah,∃a2:Y,∃a3:Y,∃a4:Y,∃a5:ah,bW=.returned (.tuple #[.agg #[a1,a2,a3,a4],a5])/\ad m aZ a0/\bx a0 d.heap.size [a1,a2,a3,a4]/\(4:Nat)=4/\ak (setCells a0 d.heap.size 0 [a1,a2,a3,a4]) λw=>((!a5)=true->Q (.tuple #[(),(0:Int),(0:Int),(4:Int)]) w)/\((!a5)=false->∃bD:ah,w.cell? d.heap.size=some (.bool bD)/\∃aw:Y,w.cell? (Addr.add d.heap.size 1)=some (.slice aw.a aw.len aw.cap)/\∃ax:Y,w.cell? (Addr.add d.heap.size 2)=some (.slice ax.a ax.len ax.cap)/\∃ay:Y,w.cell? (Addr.add d.heap.size 3)=some (.slice ay.a ay.len ay.cap)/\Calls aj 281 #[.pointer c,.agg #[bD,aw,ax,ay]] w λbX bY=>∃bE:Y,∃bF:Int,bX=.returned (.tuple #[bE,bF])/\Q (.tuple #[bE,n31,.int .i64 (IntKind.wrap .i64 (n31+2)),bF]) bY))))/\(ak (b.alloc (.cells #[false,(),(),()] 202)) λg=>ad l b g/\ak (g.alloc (.cells #[false,(),(),()] 202)) λaz=>ad l g az/\bx az g.heap.size [z,o,p,q]/\(4:Nat)=4/\ak (setCells az g.heap.size 0 [z,o,p,q]) λa6=>ad l az a6/\bx a6 b.heap.size [A,r,s,t]/\(4:Nat)=4/\ak (setCells a6 b.heap.size 0 [A,r,s,t]) λa7=>bo (λbG:J->Prop=>∃bH:ab,up=some bH/\∃a8:Int,a7.cell? (bH.add 5)=some (.int .i64 a8)/\((decide ((n36:Int)>a8))=true->ak (a7.drew) λi=>∃a9:Nat->Prop,¬a9 (nb:ab).block/\∃a_:ah,i.cell? nb=some (.bool a_)/\∃R:Y,i.cell? (Addr.add nb 1)=some (.slice R.a R.len R.cap)/\∃S:Y,i.cell? (Addr.add nb 2)=some (.slice S.a S.len S.cap)/\∃T:Y,i.cell? (Addr.add nb 3)=some (.slice T.a T.len T.cap)/\¬a9 (aC:ab).block/\∃ba:ah,i.cell? aC=some (.bool ba)/\∃U:Y,i.cell? (Addr.add aC 1)=some (.slice U.a U.len U.cap)/\∃V:Y,i.cell? (Addr.add aC 2)=some (.slice V.a V.len V.cap)/\∃W:Y,i.cell? (Addr.add aC 3)=some (.slice W.a W.len W.cap)/\bx i g.heap.size [a_,R,S,T]/\(4:Nat)=4/\ak (setCells i g.heap.size 0 [a_,R,S,T]) λbb=>ad a9 i bb/\bx bb b.heap.size [ba,U,V,W]/\(4:Nat)=4/\ak (setCells bb b.heap.size 0 [ba,U,V,W]) λbZ=>bG bZ)/\((decide ((n36:Int)>a8))=false->bG a7)) (λ(b0:J)=>ak (b0.drew) λe=>∃n:Nat->Prop,¬n (g.heap.size:ab).block/\∃bc:ah,e.cell? g.heap.size=some (.bool bc)/\∃X:Y,e.cell? (Addr.add g.heap.size 1)=some (.slice X.a X.len X.cap)/\∃Z:Y,e.cell? (Addr.add g.heap.size 2)=some (.slice Z.a Z.len Z.cap)/\∃ac:Y,e.cell? (Addr.add g.heap.size 3)=some (.slice ac.a ac.len ac.cap)/\∃bd:ab,up=some bd/\¬n ((bd.add 1).add 1).block/\∃ae:Y,e.cell? ((bd.add 1).add 1)=some (.slice ae.a ae.len ae.cap)/\∃be:ab,ae.a=some be/\((0:Int)<=n31/\n31<(ae.len:Int))/\¬n (be.add (Int.toNat n31*1)).block/\∃af:Y,e.cell? (be.add (Int.toNat n31*1))=some (.slice af.a af.len af.cap)/\¬n (b.heap.size:ab).block/\∃bf:ah,e.cell? b.heap.size=some (.bool bf)/\∃ag:Y,e.cell? (Addr.add b.heap.size 1)=some (.slice ag.a ag.len ag.cap)/\∃ai:Y,e.cell? (Addr.add b.heap.size 2)=some (.slice ai.a ai.len ai.cap)/\∃al:Y,e.cell? (Addr.add b.heap.size 3)=some (.slice al.a al.len al.cap)/\(Calls aj 282 #[.agg #[bc,X,Z,ac],af,.agg #[bf,ag,ai,al]] e λb1 k=>∃bg:ah,∃bh:Y,∃bi:Y,∃bj:Y,∃bk:ah,b1=.returned (.tuple #[.agg #[bg,bh,bi,bj],bk])/\ad n e k/\ak (k.alloc (.cells #[false,(),(),()] 202)) λbl=>ad n k bl/\bx bl k.heap.size [bg,bh,bi,bj]/\(4:Nat)=4/\ak (setCells bl k.heap.size 0 [bg,bh,bi,bj]) λx=>((!bk)=true->Q (.tuple #[(),(0:Int),(0:Int),(4:Int)]) x)/\((!bk)=false->∃bI:ah,x.cell? k.heap.size=some (.bool bI)/\∃aA:Y,x.cell? (Addr.add k.heap.size 1)=some (.slice aA.a aA.len aA.cap)/\∃aB:Y,x.cell? (Addr.add k.heap.size 2)=some (.slice aB.a aB.len aB.cap)/\∃aD:Y,x.cell? (Addr.add k.heap.size 3)=some (.slice aD.a aD.len aD.cap)/\Calls aj 281 #[.pointer c,.agg #[bI,aA,aB,aD]] x λb2 b3=>∃bJ:Y,∃bK:Int,b2=.returned (.tuple #[bJ,bK])/\Q (.tuple #[bJ,n31,.int .i64 (IntKind.wrap .i64 (n31+2)),bK]) b3))/\(ak (e.alloc (.cells #[false,(),(),()] 202)) λbm=>ad n e bm/\Calls aj 282 #[.agg #[bc,X,Z,ac],af,.agg #[bf,ag,ai,al]] bm λb4 bn=>∃bp:ah,∃bq:Y,∃br:Y,∃bs:Y,∃bt:ah,b4=.returned (.tuple #[.agg #[bp,bq,br,bs],bt])/\ad n bm bn/\bx bn e.heap.size [bp,bq,br,bs]/\(4:Nat)=4/\ak (setCells bn e.heap.size 0 [bp,bq,br,bs]) λy=>((!bt)=true->Q (.tuple #[(),(0:Int),(0:Int),(4:Int)]) y)/\((!bt)=false->∃bL:ah,y.cell? e.heap.size=some (.bool bL)/\∃aE:Y,y.cell? (Addr.add e.heap.size 1)=some (.slice aE.a aE.len aE.cap)/\∃aF:Y,y.cell? (Addr.add e.heap.size 2)=some (.slice aF.a aF.len aF.cap)/\∃aG:Y,y.cell? (Addr.add e.heap.size 3)=some (.slice aG.a aG.len aG.cap)/\Calls aj 281 #[.pointer c,.agg #[bL,aE,aF,aG]] y λb5 b6=>∃bM:Y,∃bN:Int,b5=.returned (.tuple #[bM,bN])/\Q (.tuple #[bM,n31,.int .i64 (IntKind.wrap .i64 (n31+2)),bN]) b6)))))
theorem GO{w:J}{T:aL}{c:dB}{nb aC:Nat}{A:ab}{u:dx}{n o:aB}{K V D g i j:Y}{fr other no:Nat}{Q:aa->J->Prop}(h:dj w T c)(ao:Var w nb (dM n K V D) 202)(ap:Var w aC (dM o g i j) 202)
 (aq:¬T.M nb) (ar:¬T.M aC) (ax:bz (λq=>¬T.M q) w n K V D) (aA:bz (λq=>¬T.M q) w o g i j) (hu:lI (λq=>¬T.M q) w A u)
 (aD:T.C.D.aO<=900000090) (aE:2<=cc T) (aF:c.made.length<=900) (bi:c.left.length<=900) (fp:cC n) (aG:cC o) (aH:bF n<=400) (aI:bF o<=400) (aJ:o.leaf=n.leaf) (aK:fr<u.n.keys.length) (aM:cz u.n.keys[fr]) (m:aB) (z:m=if u.cR<other then dQ n u.n.keys[fr] o else dQ o u.n.keys[fr] n) (aN:lH m) (aP:fr<=1000)
 (aQ:∀ (s:Y) (e:Int) (bE:aL) (ay:dB) (w1 w':J),dk T bE c ay [] [no] w w1 0->hW bE ay m w1 (.tuple #[s,e]) w'->Q (.tuple #[s,fr,.int .i64 ((fr+2:Nat):Int),e]) w'):
 yl nb aC (some c.cb) (some A) (fr:Nat) (other:Nat) (no:Nat) 0 w Q:=by
 unfold yl;refine⟨λB=>(by cases B),λ_=>⟨_,rfl,_,h.cells.2.2,?_⟩⟩;obtain⟨k,ah,au,aw,aR,aT,aU⟩:=BT h no I;refine aS ⟨k,ah,au,_,rfl,by rw[av];exact aR,by rw[av];exact aT,aS ?_⟩;rw[av];obtain⟨b,ai⟩:∃b,b=ah.setCell ⟨c.cb,0+2,none⟩ k:=⟨_,rfl⟩;rw[←ai];obtain⟨aj,ak⟩:=aU b ai;have al:=dk.leave (c:=c) (c':={c with gA:=k,left:=c.left++ [no]}) (no:=no) ak rfl (λq F=>.inl F) rfl rfl rfl;obtain⟨bE,x⟩:∃bE,bE=T.b_ T.E λq=>T.G q\/az k q:=⟨_,rfl⟩;obtain⟨ay,H⟩:∃ay:dB,ay={c with gA:=k,left:=c.left++ [no]}:=⟨_,rfl⟩;have aV:ay.cb=c.cb:=by rw[H]
 have aW:ay.made=c.made:=by rw[H]
 have aX:bE.C.D.aO<=900000090:=by rw[x];exact aD
 have aY:2<=cc bE:=by rw[x];exact aE
 rw[←x,←H]at aj al;rw[←x]at ak;have L:Ext b b.drew:=b4 _;have am:=aj.ext L;have O:dk T bE c ay [] [no] w b.drew 0:=al.trans (dk.ext bE ay L);obtain⟨a,aZ⟩:∃a,a=b.drew:=⟨_,rfl⟩;rw[←aZ]at L am O⊢;have y:=O.to;have P:∀q,¬T.M q->¬T.N q:=λq h1 h2=>h1 (aL.gh h2);have R:=ao.ae y.ae (P _ aq);have S:=ap.ae y.ae (P _ ar);have an:∀ {m:aB}{K V D:Y},bz (λq=>¬T.M q) w m K V D->bz (λq=>¬T.M q) a m K V D:=λz=>bz.ae z y.ae λq F=>P q F;have a0:=an ax;have a1:=an aA;have a2:=hu.to y;obtain⟨a3,bR,bq,a4⟩:=bC R;obtain⟨a5,a6,a7,a8⟩:=bC S;have bj:=R.lt;have bk:=S.lt;have fin:∀ (bV:J) (l bv:Nat),Ext a bV->Var bV l (dM o g i j) 202->Var bV bv (dM n K V D) 202->a.heap.size<=l->a.heap.size<=bv->l≠bv->yk nb aC l bv (some c.cb) (some A) (fr:Nat) (other:Nat) bV Q:=by
  intro bV l bv hx a9 B h1 h2 a_;have:=GN am hx R S a9 B h1 h2 a_ a0 a1 a2 aX aY (by rw[aW];exact aF) fp aG aH aI aJ aK aM m z aN aP (Q:=Q) λs e w' hf=>aQ s e bE ay a w' O hf;rw[aV]at this;exact this
 refine aS ⟨λq=>a.heap.size<=q,(show¬a.heap.size<=aC from I),_,a5,g,a6,i,a7,j,a8,(show¬a.heap.size<=nb from I),_,a3,K,bR,V,bq,D,a4,?_,?_⟩
 .refine bd (vs:=[false,(),(),()]) rfl λU ba p bb=>⟨ad.cF p,bd (vs:=[false,(),(),()]) rfl λbc W d be=>?_⟩
  have r:=ba.ext d;refine⟨ad.cF d,r.b9 rfl fD,rfl,cu r (us:=dM o g i j) rfl rfl λX Z f bf=>?_⟩;have t:=W.ae f I;have ac:Ext a X:=Ext.cm (p.trans d) f (bn _);refine⟨f.mono λq _ e=>I,t.b9 rfl fD,rfl,cu t (us:=dM n K V D) rfl rfl λaf ag v bg=>?_⟩;exact fin af a.heap.size U.heap.size (Ext.cm ac v I) (Z.ae v I) ag (bn _) I I
 .refine bd (vs:=[false,(),(),()]) rfl λU bh p bb=>⟨ad.cF p,bd (vs:=[false,(),(),()]) rfl λbc r d be=>?_⟩
  have W:=bh.ext d;refine⟨ad.cF d,r.b9 rfl fD,rfl,cu r (us:=dM o g i j) rfl rfl λX Z f bf=>?_⟩;have t:=W.ae f I;have ac:Ext a X:=Ext.cm (p.trans d) f I;refine⟨f.mono λq _ e=>I,t.b9 rfl fD,rfl,cu t (us:=dM n K V D) rfl rfl λaf ag v bg=>?_⟩;exact fin af U.heap.size a.heap.size (Ext.cm ac v (bn _)) (Z.ae v I) ag I (bn _) I
theorem bL.read{w w':J}{T:aL}{E:Nat->Prop}{aD:bZ}{P:Nat->ao aB}{k:Nat}(h:bL (T.b_ E λ_=>False) ((T.b_ E λ_=>False).bg aD P) w w' k)(e:∀q,T.E q\/T.G q->E q)(f:∀q,E q->T.E q\/T.G q\/w.heap.size<=q):bL T (T.bg aD P) w w' k:=by
 refine⟨h.aX,h.sb,h.n,h.g,h.s1,h.s2,h.c,h.d,h.bh,h.gen,h.aO,h.calm,h.ae.mono λq _ a=>?_,λq a=>?_,λq a=>?_⟩
 .rcases a with a|a|a|a
  .exact .inl a
  .exact .inr (.inl a)
  .exact .inr (.inr (.inl a))
  .exact a.elim
 .have h1:((T.b_ E λ_=>False).bg aD P).M q:=by
   rcases a with a|a|a|a
   .exact .inl a
   .exact .inr (.inl a)
   .exact .inr (.inr (.inl a))
   .exact .inr (.inr (.inr (.inl (e q a))))
  rcases h.cZ q h1 with h2|h2
  .rcases h2 with a|a|a|a|a
   .exact .inl (.inl a)
   .exact .inl (.inr (.inl a))
   .exact .inl (.inr (.inr (.inl a)))
   .rcases f q a with b|b|b
    .exact .inl (.inr (.inr (.inr (.inl b))))
    .exact .inl (.inr (.inr (.inr (.inr b))))
    .exact .inr b
   .exact a.elim
  .exact .inr h2
 .rcases a with a|a|a|a
  .rcases h.fn q (.inl a) with h2|h2
   .rcases h2 with h2|h2|h2|h2
    .exact .inl (.inl h2)
    .exact .inl (.inr (.inl h2))
    .exact .inl (.inr (.inr (.inl h2)))
    .exact h2.elim
   .exact .inr h2
  .exact .inl (.inr (.inl a))
  .exact .inl (.inr (.inr (.inl a)))
  .exact .inl (.inr (.inr (.inr a)))
theorem dk.cache{T:aL}{c:dB}{aD:bZ}{w w':J}{k:Nat}(h:bL T (T.bg aD T.P) w w' k)(a:∀j,aD.view j=T.C.view j):dk T (T.bg aD T.P) c c [] [] w w' k:=
 ⟨h,rfl,λ_ h=>h,rfl,rfl,rfl,by simp,by simp,List.nodup_nil,λ_ h=>(by cases h),λno=>by simp[aL.bg],λno _=>⟨rfl,a no⟩,by simp[cc,aL.bg]⟩
theorem B0{w w1:J}{T:aL}{c:dB}{Z:Nat->Prop}{no:Nat}{o:aB}(h:dj w T c)(hx:Ext w w1)(g:∀q,Z q->w.heap.size<=q/\q<w1.heap.size)(y:T.C.D.aO<=999999999)(z:T.P no=some o):
 aN aj 196 #[.pointer (some T.aX),no,o.leaf] w1 (λv w'=>∃aD:bZ,(∀j,aD.view j=T.C.view j)/\ad (λq=>T.N q/\¬T.G q) w1 w'/\(∀q,(T.bg aD T.P).M q->T.M q\/w1.heap.size<=q)/\
  (∀f,ad Z w' f->dj f (T.bg aD T.P) c/\dk T (T.bg aD T.P) c c [] [] w f 2)/\
  ((∃ (K V D:Y),v=.tuple #[cW o K V D,(0:Int)]/\bz (λq=>w1.heap.size<=q/\¬(T.bg aD T.P).M q) w' o K V D)\/(v=.tuple #[cW g8 bc bc bc,(3:Int)]/\¬T.C.D.calm 2))):=by
 obtain⟨A,i⟩:=h.t.ek no o z;obtain⟨bU,k⟩:∃bU,bU=λq=>T.E q\/T.G q\/Z q:=⟨_,rfl⟩;have d:∀q,T.E q\/T.G q\/Z q->bU q:=λq a=>by rw[k];exact a
 have l:∀q,bU q->T.E q\/T.G q\/Z q:=λq a=>by rw[k]at a;exact a
 have m:bJ w1 (T.b_ bU λ_=>False):=h.t.grow (W:=λ_=>False) hx (λ_ h=>h.elim) (λq a=>(l q a).imp id (Or.imp id (g q))) (λ_ h=>h.elim) λ_ _ h=>h;have n:∀q,(T.b_ bU λ_=>False).N q->T.N q/\¬T.G q:=λq a=>⟨by
  rcases a with a|a|a|a
  .exact .inl a
  .exact .inr (.inl a)
  .exact .inr (.inr (.inl a))
  .exact a.elim,λhg=>m.jC (d q (.inr (.inl hg))) a⟩
 refine(ye m y A i.two o.leaf).mono ?_;rintro v w' ⟨aD,B,ht,r,F⟩;have Q:=hx.size;have R:=ht.ae.size;have s:=(bL.ext (T.b_ bU λ_=>False) hx).trans ht;rw[cx]at s;have H:bL T (T.bg aD T.P) w w' 2:=bL.read (E:=bU) s (λq a=>d q (a.imp id .inl)) λq a=>(l q a).imp id (Or.imp id λh=>(g q h).1);have u:ad (λq=>T.N q/\¬T.G q) w1 w':=ht.ae.mono λq _ a=>n q a;refine⟨aD,r,u,λq a=>?_,λf hc=>?_,?_⟩
 .rcases a with a|a
  .exact(ht.fn q (.inl a)).imp (λh=>aL.gh (n q h).1) id
  .exact .inl (.inr a)
 .have I:bJ f (T.bg aD T.P):=B.grow (E:=T.E) (G:=T.G) hc (λq a _=>.inl (d q (.inr (.inr a)))) (λq a=>.inl (d q (.inl a))) (λq a=>.inl (d q (.inr (.inl a)))) λq a=>(h.t.c2 q a).2.2
  refine⟨(h.ext hx).of (W:=λq=>(T.N q/\¬T.G q)\/Z q) I ((u.mono λq _ a=>.inl a).trans (hc.mono λq _ a=>.inr a)) (λq hg a=>?_) rfl (λ_ h=>h) ht.bI.1,dk.cache ?_ r⟩
  .rcases a with a|a
   .exact a.2 hg
   .have:=h.t.lt (q:=q) (.inr (.inr (.inr (.inr hg))))
    have:=(g q a).1;omega
  .exact H.step (E:=T.E) (G:=T.G) hc (λq a S=>by have:=(g q a).1;omega) (λq a=>.inl a) λq a=>.inl a
 .rcases F with ⟨bq,K,V,D,rfl,L,c1⟩|⟨e,rfl,O,U⟩
  .obtain rfl:=gL.uniq i L
   refine .inl ⟨K,V,D,rfl,c1.aW λq a x=>⟨x.1,λb=>x.2 ?_⟩⟩;rcases b with b|b|b|b|b
   .exact .inl b
   .exact .inr (.inl b)
   .exact .inr (.inr (.inl b))
   .exact .inr (.inr (.inr (.inl (d q (.inl b)))))
   .exact .inr (.inr (.inr (.inl (d q (.inr (.inl b))))))
  .refine .inr ?_
   rcases O with ⟨rfl,h1⟩|h1|⟨_,_,h1⟩
   .exact⟨rfl,h1⟩
   .obtain⟨p,au,_⟩:=i
    have h1:dI (no:Int) (T.C.view no)=.error e:=h1;rw[au]at h1;cases h1
   .exact absurd i (h1 o)
def jH(u:dx):Nat:=if u.cR=0 then 1 else u.cR-1
def lJ(u:dx)(n o:aB):aB:=if u.cR<jH u then dQ n (u.n.keys.getD (u.cR-1) []) o else dQ o (u.n.keys.getD (u.cR-1) []) n
def ym(T:aL)(c:dB)(n:aB)(u:dx)(w:J)(v:aa)(w':J):Prop:=
 (80<=bF n/\∃ (s:Y) (e:Int),v=.tuple #[s,u.cR,.int .i64 ((u.cR+1:Nat):Int),e]/\hW T c n w (.tuple #[s,e]) w')\/
 (bF n<80/\∃ (bE:aL) (ay:dB),v=.tuple #[(),(0:Int),(0:Int),(3:Int)]/\dj w' bE ay/\dk T bE c ay [] [] w w' 2/\¬T.C.D.calm 2)\/
 (bF n<80/\∃ (o:aB) (no:Nat) (bE:aL) (ay:dB) (w1:J) (s:Y) (e:Int),u.n.kids[jH u]? =some no/\T.P no=some o/\dk T bE c ay [] [no] w w1 2/\
   v=.tuple #[s,.int .i64 ((u.cR-1:Nat):Int),.int .i64 ((u.cR-1+2:Nat):Int),e]/\hW bE ay (lJ u n o) w1 (.tuple #[s,e]) w')
theorem GP{B:Nat->Prop}{w:J}{T:aL}{c:dB}{n:aB}{K V D:Y}(h:dj w T c)(j:bz B w n K V D)(d:lH n)(o:T.C.D.aO<=900000080)(k:2<=cc T)(l:c.made.length<=900):
 aN aj 248 #[.pointer (some c.cb),cW n K V D,.pointer none] w (λv w'=>∃ (s:Y) (e:Int),v=.tuple #[s,(0:Int),(0:Int),e]/\hW T c n w (.tuple #[s,e]) w'):=by
 refine okF (I7.nY (some c.cb) n.leaf K V D none) I6.nY func248 ?_;(delta I7.nY ai a7 U af ay r1 ar b6 aK gY cl tp st bX q8 iA th;dsimp only);refine bd (vs:=dM n K V D) rfl λw1 m f p=>?_;refine cj (λb w'=>b=true/\w1=w') (λq g=>⟨λ_=>g _ _ ⟨rfl,rfl⟩,λh=>(by cases h)⟩) ?_;rintro _ _ ⟨rfl,rfl⟩;refine⟨λ_=>sY (λa b w'=>a=0/\b=0/\w1=w') (λq g=>⟨λh=>(by cases h),λ_=>g _ _ _ ⟨rfl,rfl,rfl⟩⟩) ?_,λh=>(by cases h)⟩;rintro _ _ _ ⟨rfl,rfl,rfl⟩;obtain⟨bS,ay,aR,aF⟩:=bC m;refine⟨_,bS,K,ay,V,aR,D,aF,(vO (h.ext f) I k l (j.ext f) d.1 d.2.1 d.2.2).use ?_⟩;intro v w' i;obtain⟨s,e,rfl⟩:=i.out;exact⟨s,e,rfl,s,e,rfl,i.base f⟩
theorem GQ{w:J}{T:aL}{c:dB}{n:aB}{K V D:Y}{A:ab}{u:dx}(h:dj w T c)(ap:bz (λq=>¬T.M q) w n K V D)(hu:lI (λq=>¬T.M q) w A u)(fp:cC n)(a3:bF n<=400)(aq:80<=bF n->lH n)
 (a4:bF n<80->∃ (o:aB) (no:Nat),u.n.kids[jH u]? =some no/\T.P no=some o/\o.leaf=n.leaf/\u.cR-1<u.n.keys.length/\cz (u.n.keys.getD (u.cR-1) [])/\lH (lJ u n o)) (bD:u.cR<=900)
 (bG:T.C.D.aO<=900000080) (aP:2<=cc T) (aQ:c.made.length<=900) (a5:c.left.length<=900):
 aN aj 248 #[.pointer (some c.cb),cW n K V D,.pointer (some A)] w (ym T c n u w):=by
 have bH:=fp.eG I;refine okF (I7.nY (some c.cb) n.leaf K V D (some A)) I6.nY func248 ?_;(delta I7.nY ai a7 U af ay r1 ar b6 aK gY cl tp st bX q8 iA th;dsimp only);refine bd (vs:=dM n K V D) rfl λw1 aa aT bI=>?_;obtain⟨nb,a6⟩:∃nb,nb=w.heap.size:=⟨_,rfl⟩;rw[←a6]at aa⊢;refine cj (λb w'=>b=decide (80<=bF n)/\Ext w1 w') (λq f=>⟨λh=>(by cases h),λ_=>?_⟩) ?_
 .obtain⟨bS,ay,aR,aF⟩:=bC aa
  refine⟨_,bS,K,ay,V,aR,D,aF,(n0 (ap.ext aT) fp I).use ?_⟩;rintro _ bJ ⟨rfl,a8⟩;refine⟨_,rfl,f _ _ ⟨?_,a8⟩⟩;rw[fU,cQ,cQ];omega
 rintro _ p ⟨rfl,ac⟩;have ag:=aT.trans ac;refine⟨λg=>?_,λg=>?_⟩
 .have g:=b1 g
  have L:=aq g;refine sY (λa b w'=>a=(u.cR:Nat)/\b=((u.cR+1:Nat):Int)/\Ext p w') (λq f=>⟨λ_=>?_,λh=>(by cases h)⟩) ?_
  .have y:Ext p p.drew:=b4 _
   have aU:=hu.ext (ag.trans y);refine aS ⟨A,rfl,id,_,aU.aZ,A,rfl,id,_,aU.aZ,f _ _ _ ⟨rfl,?_,y⟩⟩;rw[bu I I];rfl
  rintro _ _ bK ⟨rfl,rfl,aV⟩;have r:=ag.trans aV;obtain⟨bS,ay,aR,aF⟩:=bC (aa.ext (ac.trans aV));refine⟨_,bS,K,ay,V,aR,D,aF,(vO (h.ext r) I aP aQ (ap.ext r) L.1 L.2.1 L.2.2).use ?_⟩;intro v w' ah;obtain⟨s,e,rfl⟩:=ah.out;exact⟨s,e,rfl,.inl ⟨g,s,e,rfl,ah.base r⟩⟩
 .have g:¬80<=bF n:=cp g
  obtain⟨o,no,au,ak,av,aX,a9,L⟩:=a4 I;obtain⟨bL,a_⟩:=h.t.ek no o ak;obtain⟨_,ba,bM⟩:=a_.is;have al:=hu.ext ag;refine⟨A,rfl,_,al.aZ,((u.cR-1:Nat):Int),p,?_,?_⟩
  .rw[run_max_int2]
   congr 2
   by_cases h0:u.cR=0
   .rw[h0];rfl
   .rw[bu I I,if_neg I];omega
  refine cj (λa w'=>a=(jH u:Nat)/\p=w') (λq f=>⟨A,rfl,_,al.aZ,λh0=>f _ _ ⟨?_,rfl⟩,λh0=>f _ _ ⟨?_,rfl⟩⟩) ?_
  .have:u.cR=0:=by simpa using h0
   unfold jH;rw[if_pos this];rfl
  .have:u.cR≠0:=by simpa using h0
   unfold jH;rw[if_neg this]
  rintro _ _ ⟨rfl,rfl⟩;have bb:jH u<u.n.kids.length:=(im.1 au).1;obtain⟨AJ,be,bf,aY⟩:=cH.at al.bk.kids bb;have bh:u.n.kids[jH u]=no:=(im.1 au).2;rw[bh]at aY;refine⟨A,rfl,u.D,al.c9,AJ,be,bf,_,aY,aS ?_⟩;have y:Ext p p.drew:=b4 _;obtain⟨z,bi⟩:∃z,z=p.drew:=⟨_,rfl⟩;rw[←bi]at y⊢;have r:=ag.trans y;have aw:=h.ext r;have bN:=r.size;have bO:=(ac.trans y).size;have ax:=aa.ext (ac.trans y);have az:∀q,T.M q->q<w.heap.size:=λq f=>h.t.lt f;have a0:u.n.keys.getD (u.cR-1) []=u.n.keys[u.cR-1]:=by rw[ft,du aX];rfl
  have fin:∀ (aD:bZ) (aC:Nat) (i k l:Y) (d:J),dj d (T.bg aD T.P) c->dk T (T.bg aD T.P) c c [] [] z d 2->Var d nb (dM n K V D) 202->Var d aC (dM o i k l) 202->z.heap.size<=aC->¬(T.bg aD T.P).M aC->bz (λq=>¬(T.bg aD T.P).M q) d o i k l->
   yl nb aC (some c.cb) (some A) ((u.cR-1:Nat):Int) (jH u:Nat) (no:Nat) 0 d (λv w'=>ym T c n u w v w'):=by
   intro aD aC i k l d B am bj bl bP bm bo;have a1:=((dk.ext T c r).trans am).mono (j:=2) I;have aA:=a1.to;have bp:¬(T.bg aD T.P).M nb:=λO=>by
    rcases am.to.cZ nb O with h1|h1
    .have:=az _ h1;omega
    .omega
   have bq:bz (λq=>¬(T.bg aD T.P).M q) d n K V D:=(aA.bk (lo:=0) (ap.aW λq _ g=>⟨cE _,g⟩)).aW λq _ g=>g.2;have br:(T.bg aD T.P).C.D.aO<=900000090:=ew aA.aO I;refine GO B bj bl bp bm bq bo (hu.to aA) br aP aQ a5 fp ba a3 I av aX (by rw[←a0];exact a9) (lJ u n o) (by unfold lJ;rw[a0]) L I ?_;intro s e bE ay bs w' bt hf;exact .inr (.inr ⟨I,o,no,bE,ay,bs,s,e,au,ak,(a1.trans bt).mono I,rfl,hf⟩)
  have an:∀q,T.N q->q<w.heap.size:=λq f=>az q (aL.gh f);have err:∀ (aD:bZ) (d:J),dj d (T.bg aD T.P) c->dk T (T.bg aD T.P) c c [] [] z d 2->¬T.C.D.calm 2->ym T c n u w (.tuple #[(),(0:Int),(0:Int),(3:Int)]) d:=by
   intro aD d B am Q;exact .inr (.inl ⟨I,_,c,rfl,B,((dk.ext T c r).trans am).mono I,Q⟩)
  obtain⟨bS,ay,aR,aF⟩:=bC ax;refine⟨λq=>T.N q/\¬T.G q,_,rfl,λf=>f.2 h.gc,_,aw.cells.1,(λf=>by have:=an _ f.1;show False;exact absurd this (by show¬nb<w.heap.size;omega)),_,bS,?_,?_⟩
  .rw[←av]
   refine(B0 (Z:=λ_=>False) aw (ad.refl _ _) (λ_ h=>h.elim) I ak).use ?_;rintro _ F ⟨aD,ah,x,a2,R,aE⟩;have bv:=x.size;rcases aE with ⟨i,k,l,rfl,aG⟩|⟨rfl,Q⟩
   .refine⟨_,i,k,l,0,rfl,x,bd (vs:=[false,(),(),()]) rfl λbw S W bx=>⟨ad.cF W,S.b9 rfl fD,rfl,cu S (us:=dM o i k l) rfl rfl λd X m aH=>?_⟩⟩
    have E:Ext F d:=Ext.cm W m (bn _);obtain⟨ao,aI⟩:=R F (ad.refl _ _);have H:=ax.ae x λf=>by have:=an _ f.1;omega
    refine fin aD F.heap.size i k l d (ao.ext E) ((aI.trans (dk.ext _ _ E)).mono I) (H.ext E) X I (λO=>by have:=ao.t.lt O;omega) ?_;exact(aG.ext E).aW λq _ g=>g.2
   .refine⟨_,bc,bc,bc,3,rfl,x,bd (vs:=[false,(),(),()]) rfl λbw S W bx=>⟨ad.cF W,S.b9 rfl fD,rfl,cu S (us:=dM g8 bc bc bc) rfl rfl λd X m aH=>⟨λ_=>?_,λg=>(by cases g)⟩⟩⟩
    have E:Ext F d:=Ext.cm W m (bn _);obtain⟨ao,aI⟩:=R F (ad.refl _ _);exact err aD d (ao.ext E) ((aI.trans (dk.ext _ _ E)).mono I) Q
  .refine bd (vs:=[false,(),(),()]) rfl λbQ bA aJ bR=>⟨ad.cF aJ,?_⟩
   rw[←av];refine(B0 (Z:=λq=>q=z.heap.size) aw aJ (λq e=>⟨I,I⟩) I ak).use ?_;rintro _ F ⟨aD,ah,x,a2,R,aE⟩;have bv:=x.size;have H:=bA.ae x λf=>by have:=an _ f.1;omega
   have bB:=(ax.ext aJ).ae x λf=>by have:=an _ f.1;omega
   rcases aE with ⟨i,k,l,rfl,aG⟩|⟨rfl,Q⟩
   .refine⟨_,i,k,l,0,rfl,H.b9 rfl fD,rfl,cu H (us:=dM o i k l) rfl rfl λd X m aH=>?_⟩
    obtain⟨B,aM⟩:=R d m;refine fin aD z.heap.size i k l d B aM (bB.ae m I) X (bn _) (λO=>?_) ?_
    .rcases a2 _ O with h1|h1
     .have:=az _ h1;omega
     .omega
    .refine(bz.ae aG m λq f e=>by have:=f.1;omega).aW λq _ g=>g.2
   .refine⟨_,bc,bc,bc,3,rfl,H.b9 rfl fD,rfl,cu H (us:=dM g8 bc bc bc) rfl rfl λd X m aH=>⟨λ_=>?_,λg=>(by cases g)⟩⟩
    obtain⟨B,aM⟩:=R d m;exact err aD d B aM Q
structure yn(T an:aL)(l:O Nat)(w w':J):Prop where
 to:bL T an w w' 0
 E:an.E=T.E
 G:an.G=T.G
 root:an.root=T.root
 aE:an.aE=T.aE
 f:∀no,an.f no=(T.f no&& !decide (no∈l))
 eF:∀no,(no∉l\/T.g no=true)->an.P no=T.P no/\an.C.view no=T.C.view no
theorem B1{w:J}{T:aL}{c:dB}{s:Y}{l:O Nat}(h:dj w T c)(hs:Src 1 w s (dR l))(z:∀q,az s q->T.G q)(Q:∀x∈l,T.f x=true)(c1:l.Nodup)(ah:l.length<=10000):
 aN aj 207 #[.pointer (some c.cb),s] w (λv w'=>v=.tuple #[]/\∃an:aL,dj w' an c/\yn T an l w w'):=by
 have ak:s.len=l.length:=by have:=hs.len;rw[m_]at this;omega
 refine okF (I7.uJ (some c.cb) s) I6.uJ func207 ?_;(delta I7.uJ ai aK r1 aF ay ar;dsimp only);refine⟨λi w'=>∃ (j:Nat) (an:aL),i=j/\j<=l.length/\dj w' an c/\yn T an (l.take j) w w'/\Src 1 w' s (dR l),λi _=>((l.length:Int)-i).toNat,⟨0,T,rfl,cE _,h,⟨.refl _ _,rfl,rfl,rfl,rfl,λno=>by simp,λ_ _=>⟨rfl,rfl⟩⟩,hs⟩,?_⟩;rintro _ al ⟨j,bE,rfl,am,h1,hg,B⟩;refine⟨λaJ=>?_,λp=>?_⟩
 .have aJ:j<l.length:=by
   have:(j:Int)<(s.len:Int):=b1 aJ;omega
  have C:bE.f l[j]=true:=by
   rw[hg.f,Q _ (cA aJ)];have:l[j]∉l.take j:=λR=>by
    obtain⟨i,hi,he⟩:=fb R;rw[cy]at hi;rw[oT]at he;have:=(List.getElem_inj c1).1 he;omega
   simp[this]
  have ao:l[j]<bE.n:=by
   rcases dC l[j] bE.n with h2|h2
   .exact h2
   .have:=h1.t.s.pf _ h2
    rw[C]at this;cases this
  obtain⟨A,aq,S,hc⟩:=B.at (i:=j) (v:=.int .i64 ((l[j]:Nat):Int)) (by simp[dR,aJ]);refine hF (λw'=>∃bX:aL,dj w' bX c/\yn T bX (l.take (j+1)) w w'/\Src 1 w' s (dR l)) (λq a=>⟨A,aq,S,_,hc,_,rfl,_,h1.cells.1,_,rfl,_,h1.t.cells.2.1,(Gl h1.t.s _).use ?_⟩) ?_
  .rintro _ _ ⟨rfl,rfl⟩
   refine⟨_,rfl,_,rfl,_,h1.cells.1,_,rfl,_,h1.t.cells.2.1,(BJ h1.t.s _).use ?_⟩;rintro _ D ⟨rfl,gd,r⟩;have U:ng bE.f bE.n ((l[j]:Nat):Int)=df bE.f l[j] false:=by
    unfold ng;rw[if_pos ⟨I,I⟩,c8]
   rw[U]at gd;obtain⟨V,F⟩:=h1.t.vM gd r;have d:dj D (bE.iJ (df bE.f l[j] false)) c:=h1.of V r (λq a hf=>(h1.t.hV q a).2 hf) rfl λ_ h=>h;have H:Src 1 D s (dR l):=B.ae r λq a hf=>(h1.t.hV q (by rw[hg.G];exact z q a)).2 hf;have W:(decide ((0:Int)<=((l[j]:Nat):Int))&&decide (((l[j]:Nat):Int)<(bE.n:Nat))&&bE.f (Int.toNat ((l[j]:Nat):Int))&& !(bE.g (Int.toNat ((l[j]:Nat):Int))))= !(bE.g l[j]):=by
    rw[c8,C,dm I,dm I];simp
   have K:∀no,df bE.f l[j] false no=(T.f no&& !decide (no∈l.take (j+1))):=λno=>by
    rw[iq aJ];unfold df;by_cases e:no=l[j]
    .rw[if_pos e,e,dm (cP.2 (.inr (fh.2 rfl)))]
     exact(Bool.and_false _).symm
    .rw[if_neg e,hg.f]
     have X:decide (no∈l.take j++ [l[j]])=decide (no∈l.take j):=by
      rw[fU,cQ,cQ,cP,fh];exact⟨λh=>h.resolve_right e,.inl⟩
     rw[X]
   rw[W];refine⟨_,rfl,λu=>⟨_,rfl,_,d.cells.1,_,rfl,_,d.t.cells.1,(BA d.t.ca _).use ?_⟩,λu=>a _ ⟨_,d,⟨?_,hg.E,hg.G,hg.root,hg.aE,K,λno k=>?_⟩,H⟩⟩
   .rintro _ ap ⟨⟨b,rfl⟩,aD,Z,m,L,_⟩
    have aa:T.g l[j]=false:=by
     have h2:bE.g=T.g:=hg.to.g;rw[h2]at u;simpa using u
    obtain⟨ab,ac⟩:=d.t.qa (P:=λno=>if no=l[j] then none else bE.P no) Z m (λno bk o=>by
     by_cases e:no=l[j]
     .rw[if_pos e]at o;cases o
     .rw[if_neg e]at o
      rw[L no e];exact h1.t.ek no bk o)
    have ad:=d.of (an:=(bE.iJ (df bE.f l[j] false)).bg aD λno=>if no=l[j] then none else bE.P no) ab m.ae (λq a=>d.t.rS a) rfl (λ_ h=>h) m.bI;refine⟨b,rfl,a _ ⟨_,ad,⟨?_,hg.E,hg.G,hg.root,hg.aE,K,λno k=>?_⟩,?_⟩⟩
    .exact((hg.to.trans F).trans ac).mono I
    .have M:no≠l[j]:=λe=>by
      rcases k with h2|h2
      .exact h2 (by rw[iq aJ,e];exact cP.2 (.inr (fh.2 rfl)))
      .rw[e,aa]at h2;cases h2
     have N:=hg.eF no (k.imp (λh2 y=>h2 (by rw[iq aJ];exact cP.2 (.inl y))) id);exact⟨(if_neg M).trans N.1,(L no M).trans N.2⟩
    .exact H.ae m.ae λq a=>d.t.rS (by show bE.G q;rw[hg.G];exact z q a)
   .exact(hg.to.trans F).mono I
   .exact hg.eF no (k.imp (λh2 y=>h2 (by rw[iq aJ];exact cP.2 (.inl y))) id)
  .rintro au ⟨bX,h2,af,ag⟩
   rw[bu (n:=(j:Int)+1) I I];refine⟨⟨j+1,bX,I,I,h2,af,ag⟩,?_⟩;show((l.length:Int)-((j:Int)+1)).toNat<((l.length:Int)-(j:Int)).toNat;omega
 .have p:j=l.length:=by
   have:¬(j:Int)<(s.len:Int):=cp p;omega
  subst p;rw[ir]at hg;exact⟨rfl,bE,h1,hg⟩
theorem pM{B:Nat->Prop}{w:J}{n:aB}{K V D:Y}(c:bz B w n K V D)(aE:Nat)(h:aE<=100)(d:n.leaf=false->∃x,n.kids=[x]/\1<=aE):
 aN aj 247 #[cW n K V D,aE] w (λv w'=>v=(if n.leaf then .tuple #[(0:Int),(0:Int),(0:Int)] else .tuple #[.int .i64 ((n.kids.getD 0 0:Nat):Int),.int .i64 ((aE-1:Nat):Int),(0:Int)])/\Ext w w'):=by
 refine okF (I7.pM n.leaf K V D (aE:Nat)) I6.pM func247 ?_;(delta I7.pM a7 U ai af aK r1 ar;dsimp only);refine bd (vs:=dM n K V D) rfl λw1 e b j=>?_;obtain⟨bS,ay,aR,aF⟩:=bC e;refine⟨_,bS,λa=>⟨by rw[if_pos a],b⟩,λa=>?_⟩;obtain⟨x,hx,h1⟩:=d a;obtain⟨A,aq,f,hc⟩:=cH.at (c.ext b).kids (i:=0) (by rw[hx];simp);refine⟨D,aF,A,aq,f,_,hc,?_,b⟩;have g:(aE:Int)-1=((aE-1:Nat):Int):=by omega
 rw[if_neg (by rw[a];simp),bu I I,g];simp only[hx];rfl
def yo(T:aL)(c:dB)(ks:O Key)(kids:O Nat)(w:J)(v:aa)(w':J):Prop:=
 (∃x,ks=[]/\kids=[x]/\v=.tuple #[x,T.aE,(0:Int)]/\dj w' T c/\Ext w w')\/
 (∃ (k:Key) (x y no:Nat) (an:aL) (c':dB),ks=[k]/\kids=[x,y]/\dj w' an c'/\dk T an c c' [no] [] w w' 1/\
   ((v=.tuple #[no,.int .i64 ((T.aE+1:Nat):Int),(0:Int)]/\an.P no=some ⟨false,[k],[],[x,y]⟩)\/(v=.tuple #[no,.int .i64 ((T.aE+1:Nat):Int),(3:Int)]/\¬T.C.D.calm 1)))
theorem B2(K D:Nat)(w:J):Sem.run aj (Instr.build 202 #[(1,.slice (some K) 1 1),(3,.slice (some D) 2 2)]) w=.ok (.agg #[false,.slice (some K) 1 1,(),.slice (some D) 2 2]) w:=by kernel_rfl
theorem Var.B3{w:J}{b:Nat}{vs:O aa}{T:TypeId}(h:Var w b vs T):Src 1 w ⟨some b,vs.length,vs.length⟩ vs:=by
 refine⟨by show _=vs.length*1;omega,(λh=>by cases h),λa c=>?_⟩
 cases c;show cJ w b 0 (vs.length*1)=_;rw[fF,h.rd rfl]
theorem GR{w:J}{t:Y}{k:Key}(b:Nat)(a:Var w b [t] 48)(ht:aY (λ_=>True) w t k):bj (λ_=>True) w ⟨some b,1,1⟩ [k]:=by
 refine⟨[t],rfl,a.B3,bn _,λq c=>⟨trivial,?_⟩,λi h1 h2=>?_⟩
 .obtain⟨A,aq,rfl⟩:=c
  cases aq;exact a.lt
 .have:i=0:=by simp at h1;omega
  subst this;exact ht
theorem GS{w:J}{x y:Nat}(b:Nat)(a:Var w b [x,y] 3):cH (λ_=>True) w ⟨some b,2,2⟩ [x,y]:=by
 refine⟨a.B3,bn _,λq c=>⟨trivial,?_⟩⟩;obtain⟨A,aq,rfl⟩:=c
 cases aq;exact a.lt
theorem GU{w:J}{T:aL}{c:dB}{s:Y}{ks:O Key}{kids:O Nat}(h:dj w T c)(H:k6 (λq=>¬T.M q) w s ks kids)(A:kids.length=2->T.aE<12)(hs:∀k x y,ks=[k]->kids=[x,y]->cz k/\x<1600/\y<1600)
 (au:T.C.D.aO<=900000080) (K:1<=cc T) (aw:c.made.length<=900):
 aN aj 249 #[.pointer (some ⟨c.cb,0,none⟩),.slice s.a s.len s.cap] w (yo T c ks kids w):=by
 have ax:=h.t.num.2.1;refine okF (I7.uS (some ⟨c.cb,0,none⟩) s) I6.uS func249 ?_;(delta I7.uS ai aK r1 af ji U eH ar;dsimp only);have o:Ext w w.drew:=b4 w;have hd:=h.ext o;rcases H with ⟨b,x,rfl,rfl,rfl,l,B⟩|⟨b,x,y,k,t,rfl,rfl,rfl,l,B,ht,ay⟩
 .refine⟨λ_=>aS ⟨_,rfl,⟨by decide,by show(0:Int)<((1:Nat):Int);decide⟩,id,_,by rw[av,av];exact l.drew.cell,_,rfl,id,_,hd.cells.1,_,rfl,id,_,hd.t.cells.2.2.2.2,?_⟩,λh=>(by cases h)⟩
  exact .inl ⟨x,rfl,rfl,rfl,hd,o⟩
 .have A:=A rfl
  obtain⟨s1,s2,az⟩:=hs k x y rfl rfl;refine⟨λh=>(by cases h),λ_=>⟨_,rfl,_,h.cells.1,_,rfl,_,h.t.cells.2.2.2.2,λL=>?_,λ_=>?_⟩⟩
  .have:((T.aE:Nat):Int)=12:=by simpa using L
   omega
  have P:cC ⟨false,[k],[],[x,y]⟩:=.inr ⟨⟨λaA Q=>by rw[fh.1 Q];exact s1,List.pairwise_singleton _ _⟩,rfl,by simp,rfl,rfl,λz E=>by
   simp only[cS,eS,eW]at E;rcases E with rfl|rfl<;>assumption⟩
  have R:bF ⟨false,[k],[],[x,y]⟩<=232:=by
   have:=s1.2;simp[bF,cellsOf];omega
  have r:¬T.N b:=λS=>B (aL.gh S);have fin:∀ (d:J) (bf aK:Nat),Ext w d->Var d bf [.slice t.a t.len t.cap] 48->Var d aK [.int .i64 (x:Nat),.int .i64 (y:Nat)] 3->
   aN aj 283 #[.pointer (some ⟨c.cb,0,none⟩),.agg #[.bool false,.slice (some ⟨bf,0,none⟩) 1 1,.slice none 0 0,.slice (some ⟨aK,0,none⟩) 2 2]] d (λv w'=>∃n27:Int,∃n28:Int,v=.tuple #[.int .i64 n27,.int .i64 n28]/\ad T.N d w'/\
    ∀e,Ext w' e->yo T c [k] [x,y] w (.tuple #[.int .i64 n27,.int .i64 ((T.aE+1:Nat):Int),.int .i64 n28]) e/\∃an c',dj e an c'/\c'.cb=c.cb/\an.aX=T.aX/\an.aE=T.aE):=by
   intro d bf aK hx V W;have c1:bz (λ_=>True) d ⟨false,[k],[],[x,y]⟩ ⟨some ⟨bf,0,none⟩,1,1⟩ ⟨none,0,0⟩ ⟨some ⟨aK,0,none⟩,2,2⟩:=by
    exact⟨GR bf V (aY.aW (aY.ext ht hx) λ_ _ _=>trivial),bj.none _ _,GS aK W⟩
   refine(vN (h.ext hx) I K I c1 P R).mono ?_;rintro v w' ⟨no,an,c',p,f,X⟩;have F:=((dk.ext T c hx).trans f).mono (j:=1) I;rcases X with ⟨rfl,Z⟩|⟨rfl,aa⟩
   .refine⟨_,_,rfl,f.to.ae,λe g=>⟨.inr ⟨k,x,y,no,an,c',rfl,rfl,p.ext g,(F.trans (dk.ext an c' g)).mono I,.inl ⟨rfl,Z⟩⟩,an,c',p.ext g,f.cb,f.to.aX,f.aE⟩⟩
   .refine⟨_,_,rfl,f.to.ae,λe g=>⟨.inr ⟨k,x,y,no,an,c',rfl,rfl,p.ext g,(F.trans (dk.ext an c' g)).mono I,.inr ⟨rfl,aa⟩⟩,an,c',p.ext g,f.cb,f.to.aX,f.aE⟩⟩
  have ab:IntKind.wrap .i64 (((T.aE:Nat):Int)+1)=((T.aE+1:Nat):Int):=by rw[bu I I];rfl
  refine sY (λa b w'=>∀e,Ext w' e->yo T c [k] [x,y] w (.tuple #[.int .i64 a,.int .i64 ((T.aE+1:Nat):Int),.int .i64 b]) e/\∃an c',dj e an c'/\c'.cb=c.cb/\an.aX=T.aX/\an.aE=T.aE) (λq G=>aS ⟨T.N,_,rfl,⟨by decide,by show(1:Int)<((2:Nat):Int);decide⟩,r,t,by rw[av];exact l.drew.cell,_,rfl,⟨by decide,by show(0:Int)<((2:Nat):Int);decide⟩,r,_,by rw[av,av];exact l.drew.cell,_,rfl,⟨by decide,by show(1:Int)<((2:Nat):Int);decide⟩,r,_,by rw[av,av];exact l.drew.cell,?_,?_⟩) ?_
  .refine bd (vs:=[.slice t.a t.len t.cap]) rfl λu ac m ag=>⟨ad.cF m,bd (vs:=[.int .i64 (x:Nat),.int .i64 (y:Nat)]) rfl λd ah i ak=>⟨ad.cF i,_,λ_=>B2 _ _ _,?_⟩⟩
   refine(fin d w.drew.heap.size u.heap.size (o.trans (m.trans i)) (ac.ext i) ah).use ?_;rintro _ w' ⟨n27,n28,rfl,hc,n⟩;exact⟨n27,n28,rfl,hc,G _ _ _ n⟩
  .refine bd (vs:=[.int .i64 (x:Nat),.int .i64 (y:Nat)]) rfl λu al m ag=>⟨ad.cF m,bd (vs:=[.slice t.a t.len t.cap]) rfl λd am i ak=>⟨ad.cF i,_,λ_=>B2 _ _ _,?_⟩⟩
   refine(fin d u.heap.size w.drew.heap.size (o.trans (m.trans i)) am (al.ext i)).use ?_;rintro _ w' ⟨n27,n28,rfl,hc,n⟩;exact⟨n27,n28,rfl,hc,G _ _ _ n⟩
  .intro a b ao n
   obtain⟨h1,an,c',h2,ap,aB,aq⟩:=n _ (b4 ao);have hc:=h2.cells.1;rw[ap]at hc;have ht:=h2.t.cells.2.2.2.2;refine aS ⟨_,rfl,id,_,hc,_,rfl,id,_,ht,?_⟩;rw[aq,ab];exact h1
theorem dd.yp{P:Nat->ao aB}{lo hi:ao Key}{h:Nat}{n:aB}{p:O Nat}{L:O aH}(a:dd P h n lo hi p L)(h2:n.leaf=true->bF n<=310)(d:n.leaf=false->bF n<=335)(g:n.leaf=false->n.keys≠ []):lH n:=by
 refine⟨?_,by cases e:n.leaf;exact ew (d e) (by decide);exact ew (h2 e) (by decide),λhs=>?_⟩
 .cases h with
  |zero=>exact a.elim
  |succ h=>
   cases h with
   |zero=>exact .inl a.1
   |succ h=>
    obtain⟨au,aw,b,c,f⟩:=a;have hs:=f.sorted λ_ _ _ _ _ i=>i.in;exact .inr ⟨⟨b,hs.2.2.1⟩,au,g au,f.len,aw,c⟩
 .obtain⟨au,aw,b,c,_⟩:=a.two (Q:=P) (x:=0) (y:=0) hs h2 d
  exact⟨au,aw,b,c⟩
section
variable {P:Nat->ao aB}{lo hi:ao Key}
theorem GV{h:Nat}{d f:aB}{p A:ao Key}{i:Nat}{bw D:O Nat}{ba hK:O aH}{k:Key}(E:∀k∈d.keys,cz k)(hlen:d.kids.length=d.keys.length+1)(F:∀x n,P x=some n->bF n<=232)
 (dG:1<=i) (Q:i<d.kids.length) (B:fj p A k)
 (G:fx (fk P (h+1)) lo p (d.keys.take i) (d.kids.take i) bw ba) (q:dd P (h+1) f p A D hK) (h1:bF f<80):
 ∃ (o:aB) (R:i-1<d.kids.length) (S:i-1<d.keys.length),P d.kids[i-1]=some o/\o.leaf=f.leaf/\cz d.keys[i-1]/\lH (dQ o d.keys[i-1] f):=by
 obtain⟨s,H,aI,r,aT,N,hs,rfl,t,rfl,rfl,⟨u,m,g,v⟩,T,U⟩:=G.last (by rw[cy];omega);have V:(d.keys.take i).length=i:=by rw[cy];omega
 have W:(d.kids.take i).length=i:=by rw[cy];omega
 have t:s=d.keys[i-1]'I:=by
  rw[t,oT];congr 1;omega
 have J:(d.kids.take i)[(d.kids.take i).length-1]'I=d.kids[i-1]'I:=by
  rw[oT];congr 1;omega
 rw[J]at u g;obtain⟨o,K,j,rfl,_,w⟩:=u.kq;rw[j]at g;have v:2<=o.keys.length:=by rw[Option.some.inj g];exact v
 clear g;subst t;have y:=(show fk P (h+1) H (some (d.keys[i-1]'I)) (d.kids[i-1]'I) (d.kids[i-1]'I::K) N from⟨u,o,j,v⟩).in;obtain⟨x,hx⟩:=qy _ y.1;have z:=E _ (cA (l:=d.keys) (n:=i-1) I);have L:=dd.merge w q z (λc hc=>iB (jZ ((y.2.2 x hx).1 c hc) ((y.2.2 x hx).2 _ rfl))) (λc hc=>iB (jZ (B.1 _ rfl) (B.2 c hc)));have C:=vj w q z (by have:=F _ _ j;omega);have M:=vi (a:=o) (b:=f) (s:=d.keys[i-1]'I);refine⟨o,I,I,j,by rw[w.leaf,q.leaf],z,L.yp C.1 C.2 λ_ e=>?_⟩;rw[e,jw]at M;omega
theorem GW{h:Nat}{d f:aB}{B q:ao Key}{i:Nat}{br E:O Nat}{hK bB:O aH}{k:Key}(F:∀k∈d.keys,cz k)(hlen:d.kids.length=d.keys.length+1)(G:∀x n,P x=some n->bF n<=232)
 (g:i+1<d.kids.length) (C:fj B q k)
 (H:gw (fk P (h+1)) hi q (d.keys.drop i) (d.kids.drop (i+1)) br bB) (t:dd P (h+1) f B q E hK) (h1:bF f<80):
 ∃ (o:aB) (R:i+1<d.kids.length) (S:i<d.keys.length),P d.kids[i+1]=some o/\o.leaf=f.leaf/\cz d.keys[i]/\lH (dQ f d.keys[i] o):=by
 obtain⟨s,J,r,T,N,U,hs,rfl,u,rfl,rfl,⟨v,m,j,w⟩,V⟩:=H.head (by rw[c5];omega);have u:s=d.keys[i]'I:=by rw[u,qD];rfl
 have K:(d.kids.drop (i+1))[0]'(by rw[c5];omega)=d.kids[i+1]'g:=by rw[qD]
 rw[K]at v j;obtain⟨o,L,p,rfl,_,y⟩:=v.kq;rw[p]at j;have w:2<=o.keys.length:=by rw[Option.some.inj j];exact w
 clear j;subst u;have z:=(show fk P (h+1) (some (d.keys[i]'I)) J (d.kids[i+1]'g) (d.kids[i+1]'g::L) N from⟨v,o,p,w⟩).in;obtain⟨x,hx⟩:=qy _ z.1;have A:=F _ (cA (l:=d.keys) (n:=i) I);have M:=dd.merge t y A (λc hc=>iB (jZ (C.1 c hc) (C.2 _ rfl))) (λc hc=>iB (jZ ((z.2.2 x hx).1 _ rfl) ((z.2.2 x hx).2 c hc)));have D:=vj t y A (by have:=G _ _ p;omega);have Q:=vi (a:=f) (b:=o) (s:=d.keys[i]'I);refine⟨o,g,I,p,by rw[y.leaf,t.leaf],A,M.yp D.1 D.2 λ_ e=>?_⟩;rw[e,jw]at Q;omega
inductive Ctx (P:Nat->ao aB) (k:Key) (top:Nat):Nat->ao Key->ao Key->O (Nat×aB×Nat)->O Nat->O aH->O aH->Prop
 |top:Ctx P k top top none none [] [] [] []
 |step {eK:Nat}{lo hi a b:ao Key}{st:O (Nat×aB×Nat)}{dS:O Nat}{A B:O aH}{no:Nat}{n:aB}{bw br:O Nat}{ba bB:O aH} (h:Ctx P k top (eK+2) lo hi st dS A B) (c:P no=some n) (d:n.leaf=false) (e:∀k∈n.keys,cz k) (f:∀x∈n.kids,x<1600)
  (hlen:n.kids.length=n.keys.length+1) (g:n.keys≠ []) (i:st≠ []->2<=n.keys.length) (j:fj a b k) (l:fx (fk P (eK+1)) lo a (n.keys.take (di n.keys k)) (n.kids.take (di n.keys k)) bw ba)
  (m:gw (fk P (eK+1)) hi b (n.keys.drop (di n.keys k)) (n.kids.drop (di n.keys k+1)) br bB):Ctx P k top (eK+1) a b (st++ [(no,n,di n.keys k)]) (no::(bw++(br++dS))) (A++ba) (bB++B)
theorem Ctx.eK{k:Key}{top eK:Nat}{st:O (Nat×aB×Nat)}{dS:O Nat}{A B:O aH}(h:Ctx P k top eK lo hi st dS A B):eK+st.length=top:=by
 induction h with
 |top=>rfl
 |step h _ _ _ _ _ _ _ _ _ _ a=>rw[ct,iN];omega
theorem Ctx.agree{Q:Nat->ao aB}{k:Key}{top eK:Nat}{st:O (Nat×aB×Nat)}{dS:O Nat}{A B:O aH}(h:Ctx P k top eK lo hi st dS A B)(a:∀x∈dS,P x=Q x):Ctx Q k top eK lo hi st dS A B:=by
 induction h with
 |top=>exact .top
 | @step eK lo hi p q st dS A B no n bw br ba bB h c d e f hlen g i j l m o=>
  refine .step (o λx hx=>a x (by simp[hx])) (by rw[←a no (by simp)];exact c) d e f hlen g i j (l.lC λ_ _ _ _ _ hs b=>b.agree λx hx=>a x ?_) (m.lC λ_ _ _ _ _ hs b=>b.agree λx hx=>a x ?_)
  .have:=hs x hx;simp[this]
  .have:=hs x hx;simp[this]
theorem Ctx.down{k:Key}{top:Nat}:∀ {eK:Nat}{lo hi:ao Key}{st:O (Nat×aB×Nat)}{dS:O Nat}{A B M aT:O aH}{no:Nat}{p:O Nat},Ctx P k top (eK+1) lo hi st dS A B->dV P (eK+1) lo hi no p M->(st≠ []->∃m,P no=some m/\2<=m.keys.length)->fj lo hi k->aT=A++(M++B)->(∀u,Loc k u->u aT=A++(u M++B))->
 ∃ (rest a:O (Nat×aB×Nat)) (b:Nat) (bR:aB) (e5 dG:ao Key) (f:O Nat) (c d:O aH),ni P k (eK+1) no rest/\st++rest=a++ [(b,bR,0)]/\Ctx P k top 1 e5 dG a f c d/\P b=some bR/\gQ bR/\bR.within e5 dG/\bR.keys≠ []/\(a≠ []->2<=bR.keys.length)/\fj e5 dG k/\
  (p++dS).Perm (b::f)/\aT=c++(bR.dF++d)/\∀u,Loc k u->u aT=c++(u bR.dF++d)
 |0,lo,hi,st,dS,A,B,M,aT,no,p,hc,h,h2,i,j,hu=>by
  obtain⟨n,h1,g,v,w,rfl,rfl⟩:=h
  refine⟨[(no,n,0)],st,no,n,lo,hi,dS,A,B,⟨n,[],h1,by rw[g.leaf];rfl,rfl,rfl⟩,rfl,hc,h1,g,v,w,λhs=>?_,i,List.Perm.refl _,j,hu⟩
  obtain⟨m,e,l⟩:=h2 hs
  rw[h1]at e;cases e
  exact l
 |eK+1,lo,hi,st,dS,A,B,M,aT,no,p,hc,h,h2,i,j,hu=>by
  obtain⟨n,U,h1,rfl,g,o⟩:=h.kq
  obtain⟨V,W,bw,q,br,ba,hK,bB,x,rfl,rfl,r,s,y,hlen,z,C⟩:=o.at i
  obtain⟨au,aw,D,E,_⟩:=o
  have F:=Ctx.step hc h1 au D E hlen g (λhs=>by
   obtain⟨m,e,l⟩:=h2 hs
   rw[h1]at e;cases e
   exact l) s z C
  obtain⟨rest,a,b,bR,e5,dG,f,c,d,r1,bY,af,bl,a7,G,H,J,K,L,N,Q⟩:=Ctx.down (aT:=aT) F r.1 (λ_=>r.2) s (by rw[j];simp only[cM]) (λu t=>by rw[hu u t,y u t];simp only[cM])
  refine⟨(no,n,di n.keys k)::rest,a,b,bR,e5,dG,f,c,d,⟨n,rest,h1,by rw[au];simp,by rw[if_neg I],?_⟩,?_,af,bl,a7,G,H,J,K,?_,N,Q⟩
  .rw[ft,du x]
   exact r1
  .rw[←bY];simp
  .refine List.Perm.trans ?_ L
   have R:(no::(bw++(q++br))++dS)=no::(bw++(q++(br++dS))):=by simp[cM]
   rw[R]
   have S:(q++no::(bw++(br++dS))).Perm (no::(q++(bw++(br++dS)))):=mE
   refine List.Perm.trans ?_ S.symm
   refine List.Perm.cons _ ?_
   have T:=(qB (l₁:=bw) (l₂:=q)).append_right (br++dS)
   simpa[cM] using T
end
theorem yq{α:Type}(a b c:O α):(a++(b++c)).Perm (a++c++b):=by
 rw[cM];exact(qB (l₁:=b) (l₂:=c)).append_left a
theorem Ctx.up{P:Nat->ao aB}{lo hi:ao Key}{k:Key}{top eK:Nat}{st R:O (Nat×aB×Nat)}{dS:O Nat}{A B:O aH}{u:dx}{a:aB}{q:O Nat}{M:O aH}(hc:Ctx P k top eK lo hi st dS A B)(aa:st=R++ [u.st])(c:dd P eK a lo hi q M)(F:∀x n,P x=some n->bF n<=232)(hs:bF a<=282):
 ∃ (d f:ao Key) (G:O Nat) (g j:O aH) (ps:O Nat),Ctx P k top (eK+1) d f R G g j/\dS=u.no::(ps++G)/\P u.no=some u.n/\u.cR<u.n.kids.length/\u.n.kids.length=u.n.keys.length+1/\u.n.keys≠ []/\(R≠ []->2<=u.n.keys.length)/\
  (80<=bF a->∀ (Q:Nat->ao aB) (ks:O Key) (kids:O Nat),l_ Q a ks kids->(∀x∈ps++q,P x=Q x)->(∀x∈kids,x<1600)->∃ (dA:O Nat) (l:O aH),dd Q (eK+1) (fZ u.n u.cR (u.cR+1) ks kids) d f dA l/\g++(l++j)=A++(M++B)/\dA.Perm (kids++(ps++q))/\
    bF (fZ u.n u.cR (u.cR+1) ks kids)<=bF u.n+27/\u.n.keys.length<=(fZ u.n u.cR (u.cR+1) ks kids).keys.length+1)/\
  (bF a<80->∃ (o:aB) (no:Nat) (rest:O Nat),u.n.kids[jH u]? =some no/\P no=some o/\o.leaf=a.leaf/\u.cR-1<u.n.keys.length/\cz (u.n.keys.getD (u.cR-1) [])/\lH (lJ u a o)/\ps.Perm (no::rest)/\
    ∀ (Q:Nat->ao aB) (ks:O Key) (kids:O Nat),l_ Q (lJ u a o) ks kids->(∀x∈rest++q,P x=Q x)->(∀x∈kids,x<1600)->∃ (dA:O Nat) (l:O aH),dd Q (eK+1) (fZ u.n (u.cR-1) (u.cR-1+2) ks kids) d f dA l/\g++(l++j)=A++(M++B)/\dA.Perm (kids++(rest++q))/\
     bF (fZ u.n (u.cR-1) (u.cR-1+2) ks kids)<=bF u.n+27/\u.n.keys.length<=(fZ u.n (u.cR-1) (u.cR-1+2) ks kids).keys.length+1):=by
 cases hc with
 |top=>
  have:=congrArg List.length aa;simp at this
 | @step eK d f _ _ ar G g j ab H bw br ba bB h ah S m T hlen ac ai J p r=>
  obtain⟨rfl,h2⟩:=List.append_inj' aa rfl;have U:(ab,H,di H.keys k)=u.st:=by simpa using h2
  have aj:ab=u.no:=congrArg Prod.fst U;have ak:H=u.n:=congrArg (λx=>x.2.1) U;have ad:di H.keys k=u.cR:=congrArg (λx=>x.2.2) U;subst aj ak;rw[ad]at p r;have al:=vg u.n.keys k;rw[ad]at al;refine⟨d,f,G,g,j,bw++br,h,by rw[cM],ah,I,hlen,ac,ai,λb Q ks kids hf s t=>?_,λb=>?_⟩
  .obtain⟨v,au,aw,w,K⟩:=E1 S m T p r c b hs hf (λx hx=>s x (by
    simp only[cP]at hx⊢;rcases hx with hx|hx|hx
    .exact .inl (.inl hx)
    .exact .inr hx
    .exact .inl (.inr hx))) t
   refine⟨v,_,au,by simp only[cM],aw.trans (List.Perm.append_left kids ?_),w,I⟩;exact yq bw q br
  .by_cases h0:u.cR=0
   .obtain⟨o,L,N,y,V,W,X⟩:=GW m hlen F (i:=u.cR) (by
     have:u.n.keys.length≠0:=λe=>ac (List.eq_nil_of_length_eq_zero e);omega) J r c b
    obtain⟨am,ae,an,ap,z,Y,_,Z⟩:=E3 S m T hlen F L J p r c b;rw[y]at z;obtain rfl:=Option.some.inj z;have C:jH u=u.cR+1:=by unfold jH;rw[if_pos h0,h0]
    have af:u.cR-1=u.cR:=by omega
    have D:u.n.keys.getD (u.cR-1) []=u.n.keys[u.cR]:=by rw[af,ft,du N];rfl
    have E:lJ u a o=dQ a u.n.keys[u.cR] o:=by unfold lJ;rw[if_pos (by rw[C];omega),D]
    refine⟨o,u.n.kids[u.cR+1],bw++ae,by rw[C];exact du L,y,V,I,by rw[D];exact W,by rw[E];exact X,?_,λQ ks kids hf s t=>?_⟩
    .exact(List.Perm.append_left bw Y).trans mE
    .rw[E]at hf
     obtain⟨v,au,aw,w,K⟩:=Z Q ks kids hf (λx hx=>s x (by
      simp only[cP]at hx⊢;rcases hx with hx|hx|hx
      .exact .inl (.inl hx)
      .exact .inr hx
      .exact .inl (.inr hx))) t
     rw[af];exact⟨v,_,au,by simp only[cM],aw.trans (List.Perm.append_left kids (yq bw q ae)),w,K⟩
   .obtain⟨o,L,N,y,V,W,X⟩:=GV m hlen F (i:=u.cR) I I J p c b
    obtain⟨am,ag,an,ap,z,Y,_,Z⟩:=E2 S m T hlen F I I J p r c b;rw[y]at z;obtain rfl:=Option.some.inj z;have C:jH u=u.cR-1:=by unfold jH;rw[if_neg h0]
    have D:u.n.keys.getD (u.cR-1) []=u.n.keys[u.cR-1]:=by rw[ft,du N];rfl
    have E:lJ u a o=dQ o u.n.keys[u.cR-1] a:=by unfold lJ;rw[if_neg (by rw[C];omega),D]
    have aq:u.cR-1+2=u.cR+1:=by omega
    refine⟨o,u.n.kids[u.cR-1],ag++br,by rw[C];exact du L,y,V,N,by rw[D];exact W,by rw[E];exact X,?_,λQ ks kids hf s t=>?_⟩
    .exact(Y.append_right br)
    .rw[E]at hf
     obtain⟨v,au,aw,w,K⟩:=Z Q ks kids hf (λx hx=>s x (by
      simp only[cP]at hx⊢;rcases hx with hx|hx|hx
      .exact .inl (.inl hx)
      .exact .inr hx
      .exact .inl (.inr hx))) t
     rw[aq];exact⟨v,_,au,by simp only[cM],aw.trans (List.Perm.append_left kids (yq ag q br)),w,K⟩
theorem dj.GX{w:J}{T:aL}{c:dB}{E:Nat->Prop}(h:dj w T c)(b:∀q,E q->T.E q):dj w (T.b_ E T.G) c:=
 h.of (an:=T.b_ E T.G) (W:=λ_=>False) (h.t.grow (W:=λ_=>False) (ad.refl _ _) (λ_ h=>h.elim) (λq a=>.inl (b q a)) (λq a=>.inr (.inl a)) λq a=>(h.t.c2 q (b q a)).2.2) (ad.refl _ _) (λ_ _ h=>h) rfl λ_ h=>h
theorem dk.local{T an:aL}{c c':dB}{m l:O Nat}{bU:Nat->Prop}{w w1 w':J}{k:Nat}(h:dk (T.b_ bU T.G) an c c' m l w1 w' k)(hx:Ext w w1)(b:∀q,bU q->T.E q\/w.heap.size<=q)(d:∀q,T.E q->bU q):dk T (an.b_ T.E an.G) c c' m l w w' k:=
 ⟨h.to.local hx b (λq a=>.inl a) (λq a=>.inl (by rw[h.E];exact d q a)) λq a=>a,rfl,h.G,h.root,h.aE,h.cb,h.made,h.left,h.bk,h.jG,h.f,h.eF,h.room⟩
theorem dj.B4{w w':J}{T:aL}{c:dB}{W:Nat->Prop}(h:dj w T c)(hc:ad W w w')(b8:∀q,W q->T.E q\/w.heap.size<=q):dj w' T c:=by
 have b:ad (λq=>T.E q) w w':=cr (W:=λq=>T.E q) (ad.refl _ _) hc λq a d=>(b8 q d).resolve_right I;exact h.of (h.t.grow (E:=T.E) (G:=T.G) b (λq a _=>.inl a) (λq a=>.inl a) (λq a=>.inr (.inl a)) λq a=>(h.t.c2 q a).2.2) b (λq hg he=>(h.t.c2 q he).2.2 hg) rfl λ_ h=>h
theorem j6.to{w w':J}{T an:aL}{k:Nat}{s:Y}{l:O dx}(h:j6 (λq=>¬T.M q) w s l)(ht:bL T an w w' k):j6 (λq=>¬an.M q) w' s l:=by
 refine⟨h.own.ae ht.ae λq a c=>h.oD q a (aL.gh c),λq a d=>?_,λx hx=>?_⟩
 .rcases ht.cZ q d with h1|h1
  .exact h.oD q a h1
  .have:=a8.lt h.own q a;omega
 .exact(ht.bk (lo:=0) ((h.bk x hx).aW λq _ b=>⟨cE _,b⟩)).aW λq _ b=>b.2
theorem j6.at{B:Nat->Prop}{w:J}{s:Y}{l:O dx}(h:j6 B w s l){i:Nat}(hi:i<l.length):∃A:ab,s.a=some A/\s.len=l.length/\B A.block/\w.cell? (A.add (i*6))=some (.int .i64 ((l[i]).no:Nat))/\lI B w (A.add (i*6)) l[i]:=by
 have f:=h.own.1;rw[gK _ (nh l)]at f;have g:s.len=l.length:=by omega
 rcases h.own.2.2.2 with ⟨h1,h2⟩|⟨b,c,e,k,o,m⟩
 .have:=h.own.2.1
  omega
 .have d:∀j,j<6->w.cell? ⟨b,i*6+j,none⟩=((dx.c l[i]))[j]? :=λj n=>by
   rw[bt.cell k,←rI (nh l) hi n,←m];rw[si,if_pos I,Array.getElem?_toList]
  refine⟨b,e,g,h.oD b ⟨_,e,rfl⟩,?_,?_⟩
  .rw[av,cx]
   exact d 0 (by decide)
  .rw[av,cx]
   refine⟨?_,?_,?_,?_,?_,h.bk _ (cA hi),h.oD b ⟨_,e,rfl⟩,a8.lt h.own b ⟨_,e,rfl⟩⟩
   .rw[av];exact d 1 (by decide)
   .rw[av,av];exact d 2 (by decide)
   .rw[av,av];exact d 3 (by decide)
   .rw[av,av];exact d 4 (by decide)
   .rw[av];exact d 5 (by decide)
theorem Ctx.B5{P:Nat->ao aB}{lo hi:ao Key}{k:Key}{top eK:Nat}{dS:O Nat}{A B:O aH}(h:Ctx P k top eK lo hi [] dS A B):eK=top/\lo=none/\hi=none/\dS=[]/\A=[]/\B=[]:=by
 generalize a:([]:O (Nat×aB×Nat))=st at h
 cases h with
 |top=>exact⟨rfl,rfl,rfl,rfl,rfl,rfl⟩
 |step h=>
  have:=congrArg List.length a;simp at this
def mn(T:aL)(c:dB)(aI:O Nat)(dT:O aH)(w:J)(v:aa)(w':J):Prop:=
 ∃ (an:aL) (c':dB) (m l:O Nat),dj w' an c'/\dk T an c c' m l w w' 60/\
  ((v=.tuple #[(0:Int),(0:Int),(0:Int)]/\dT=[]/\l.Perm (m++aI)/\m.length<=2*T.aE+3)\/
   (∃ (root h:Nat) (pages:O Nat),v=.tuple #[root,h,(0:Int)]/\dV an.P h none none root pages dT/\(pages++l).Perm (m++aI)/\1<=h/\h<=T.aE+1/\m.length<=2*T.aE+3)\/
   (∃a b:Int,v=.tuple #[a,b,(3:Int)]/\¬T.C.D.calm 60))
theorem mn.local{T:aL}{c:dB}{aI:O Nat}{dT:O aH}{bU:Nat->Prop}{w w1 w':J}{v:aa}(h:mn (T.b_ bU T.G) c aI dT w1 v w')(hx:Ext w w1)(b:∀q,bU q->T.E q\/w.heap.size<=q)(a:∀q,T.E q->bU q):mn T c aI dT w v w':=by
 obtain⟨an,c',m,l,h1,h2,d⟩:=h;exact⟨an.b_ T.E an.G,c',m,l,h1.GX λq e=>by rw[h2.E];exact a q e,h2.local hx b a,d⟩
structure GY(bE:aL)(c:dB)(b:J)(a:O dx)(k:Key)(aI:O Nat)(dT:O aH)(ws:Y)(hA:Nat)(i:Nat)(w':J)(an:aL)(c':dB)(m l:O Nat)(n:aB)(K V D:Y)(lo hi:ao Key)(dS:O Nat)(A B:O aH)(q:O Nat)(M:O aH)(r:O Nat):Prop where
 tc:i<a.length
 yr:dj w' an c'
 to:dk bE an c c' m l b w' (4*(a.length-1-i))
 oE:m.length<=2*(a.length-1-i)
 ll:l.length<=2*(a.length-1-i)
 hA:Var w' hA (dM n K V D) 202
 bk:bz (λq=>¬an.M q) w' n K V D
 ic:j6 (λq=>¬an.M q) w' ws a
 ctx:Ctx an.P k a.length (a.length-i) lo hi ((a.take i).map dx.st) dS A B
 kq:dd an.P (a.length-i) n lo hi q M
 eq:A++(M++B)=dT
 pp:aI.Perm ((a[i]).no::(r++dS))
 acc:(q++l).Perm (m++r)
 sz:bF n<=282
 GZ:1<=i->n.keys≠ []
 B6:∀x∈q++dS,an.f x=true
theorem bJ.nj{w:J}{T:aL}(h:bJ w T):∀x n,T.P x=some n->bF n<=232:=λx n hx=>(h.ek x n hx).2.is.2.2
theorem hW.cs{T:aL}{c:dB}{n:aB}{w w':J}{s:Y}{e:Int}(h:hW T c n w (.tuple #[s,e]) w'):
 ∃ (an:aL) (c':dB) (m:O Nat),dj w' an c'/\dk T an c c' m [] w w' 2/\m.length<=2/\((e=0/\∃ks,l_ an.P n ks m/\k6 (λq=>¬an.M q) w' s ks m)\/(e=3/\¬T.C.D.calm 2)):=by
 obtain⟨an,c',m,s2,h1,h2,d,f⟩:=h;refine⟨an,c',m,h1,h2,d,?_⟩;rcases f with ⟨ks,a,b,g⟩|⟨a,b⟩
 .simp at a
  obtain⟨⟨a1,a2,a3⟩,rfl⟩:=a;obtain rfl:s=s2:=by cases s;cases s2;simp_all
  exact .inl ⟨rfl,ks,b,g⟩
 .simp at a
  exact .inr ⟨a.2,b⟩
theorem G0{P Q c:Nat->ao aB}{t:Nat}{n:aB}{q:O Nat}{M:O aH}{a:Key}{x y no:Nat}(d:dd P (t+1) n none none q M)(hs:bF n<=282)(hf:l_ Q n [a] [x,y])(i:∀z∈q,P z=Q z)(j:c no=some ⟨false,[a],[],[x,y]⟩)(k:∀z∈x::y::q,Q z=c z)(hx:x<1600)(m:y<1600):
 cz a/\∃pages,dV c (t+2) none none no pages M/\pages.Perm (no::x::y::q):=by
 have o:232<bF n:=by
  rcases hf with ⟨_,z,e,_⟩|⟨h,_⟩
  .cases e
  .exact h
 obtain⟨f,au,aw,g,_⟩:=d.fits (d.xt I) (λ_=>I) (λ_=>I) hf i;have l:dd Q (t+2) ⟨false,[a],[],[x,y]⟩ none none f M:=⟨rfl,rfl,g,λz b=>by
  simp only[cS,eS,eW]at b;rcases b with rfl|rfl<;>assumption,au⟩
 refine⟨g a (by simp),no::f,l.lay (by simp) j λz b=>k z ?_,List.Perm.cons no aw⟩;have:=aw.mem_iff.1 b;simpa using this
theorem nk{a b:O Nat}:a.Perm b↔∀x,a.count x=b.count x:=List.perm_iff_count
theorem mo{q l m r:O Nat}{no:Nat}(h:(q++l).Perm (m++r)):(q++(l++ [no])).Perm (m++(no::r)):=by
 rw[nk]at h⊢;intro x;have:=h x;simp only[nx,oW,oX]at this⊢;omega
theorem iX{q l m r dA ps ms ls rest:O Nat}(h:(q++l).Perm (m++r))(h2:dA.Perm (ms++(rest++q)))(a:ps.Perm (ls++rest)):(dA++(l++ls)).Perm ((m++ms)++(ps++r)):=by
 rw[nk]at h h2 a⊢;intro x;have:=h x;have:=h2 x;have:=a x;simp only[nx,oW,oX]at*;omega
theorem mq{aI r ps a:O Nat}{u:Nat}(h:aI.Perm (r++(u::(ps++a)))):aI.Perm (u::((ps++r)++a)):=by
 rw[nk]at h⊢;intro x;have:=h x;simp only[nx,oW,oX]at*;omega
theorem G1{w:J}{T:aL}{c:dB}{d:O dx}{k:Key}{aI dS:O Nat}{dT A B M:O aH}{lo hi:ao Key}{ws:Y}{n:aB}{K V D:Y}(h:dj w T c)(bQ:j6 (λq=>¬T.M q) w ws d)(bs:bz (λq=>¬T.M q) w n K V D)(eC:0<d.length)(hlen:d.length=T.aE)(eD:T.aE<12)
 (eE:T.C.D.aO<=900000000) (eH:2*T.aE+3<=cc T) (eI:c.made.length<=100) (eJ:c.left.length<=100) (cA:Ctx T.P k d.length 1 lo hi ((d.take (d.length-1)).map dx.st) dS A B) (L:dd T.P 1 n lo hi [] M) (am:A++(M++B)=dT)
 (N:aI.Perm ((d[d.length-1]'I).no::dS)) (bt:bF n<=282) (a0:2<=d.length->n.keys≠ []) (Q:∀x∈dS,T.f x=true):
 aN aj 208 #[.pointer (some c.cb),ws,cW n K V D] w (mn T c aI dT w):=by
 refine okF (I7.nW (some c.cb) ws n.leaf K V D) I6.nW func208 ?_;(delta I7.nW a7 U af cl ar ai aK r1 st po nN gu b6;dsimp only);refine bd (vs:=dM n K V D) rfl λw1 cB cC eK=>?_;obtain⟨bS,ay,aR,aF⟩:=bC cB;refine⟨_,bS,K,ay,V,aR,D,aF,bd (vs:=[false,(),(),()]) rfl λeL bT cG eM=>⟨bT.b9 rfl fD,rfl,cu bT (us:=dM n K V D) rfl rfl λbv bx cH eN=>?_⟩⟩;have bV:Ext w bv:=cC.trans (Ext.cm cG cH (bn _));obtain⟨hA,cI⟩:∃hA,hA=w1.heap.size:=⟨_,rfl⟩;rw[←cI]at bx⊢;obtain⟨bU,bB⟩:∃bU,bU=λq=>T.E q\/q=hA:=⟨_,rfl⟩;have cJ:∀q,T.E q->bU q:=λq F=>by rw[bB];exact .inl F
 have a5:∀q,bU q->T.E q\/q=hA:=λq F=>by rw[bB]at F;exact F
 have cK:bU hA:=by rw[bB];exact .inr rfl
 have eO:=bx.lt;have cL:dj bv (T.b_ bU T.G) c:=h.of (W:=λ_=>False) (h.t.grow (W:=λ_=>False) bV (λ_ h=>h.elim) (λq F=>(a5 q F).imp id λe=>.inr ⟨I,I⟩) (λq F=>.inr (.inl F)) λq F hg=>by
  rcases a5 q F with h1|h1
  .exact(h.t.c2 q h1).2.2 hg
  .have:=h.t.lt (q:=q) (.inr (.inr (.inr (.inr hg))));omega) bV (λ_ _ h=>h) rfl λ_ h=>h
 have bW:bL T (T.b_ bU T.G) w bv 0:=(bL.refl T w).step (W:=λ_=>False) bV (λ_ h=>h.elim) (λq F=>(a5 q F).imp id λe=>.inr I) λq F=>.inl F;have conv:∀ (v:aa) (w':J),mn (T.b_ bU T.G) c aI dT w1 v w'->mn T c aI dT w v w':=λv w' hu=>hu.local cC (λq F=>(a5 q F).imp id λe=>I) cJ;obtain⟨bE,ap⟩:∃bE,bE=T.b_ bU T.G:=⟨_,rfl⟩;have bY:=bQ.to bW;have bZ:bz (λq=>¬(T.b_ bU T.G).M q) bv n K V D:=(bW.bk (lo:=0) (bs.aW λq _ R=>⟨cE _,R⟩)).aW λq _ R=>R.2;have cO:bE.P=T.P:=by rw[ap];rfl
 have b0:bE.f=T.f:=by rw[ap];rfl
 have dK:bE.E hA:=by rw[ap];exact cK
 have eP:cc bE=cc T:=by rw[ap];rfl
 have dL:bE.C=T.C:=by rw[ap];rfl
 have dO:bE.aE=T.aE:=by rw[ap];rfl
 rw[←ap]at cL bY bZ conv;clear ap bW bB cJ a5 cK;have eQ:hA=w1.heap.size:=cI;have eR:ws.len=d.length:=by
  have:=bQ.own.1;rw[gK _ (nh d)]at this;omega
 refine⟨λn10 w'=>∃ (i:Nat) (an:aL) (c':dB) (m l:O Nat) (n:aB) (K V D:Y) (lo hi:ao Key) (dS:O Nat) (A B:O aH) (q:O Nat) (M:O aH) (r:O Nat),n10=(i:Nat)/\GY bE c w1 d k aI dT ws hA i w' an c' m l n K V D lo hi dS A B q M r,λn10 _=>(n10+1).toNat,
  ⟨d.length-1,bE,c,[],[],n,K,V,D,lo,hi,dS,A,B,[],M,[],?_,?_⟩,?_⟩
 .rw[bu I I];omega
 .have e:d.length-(d.length-1)=1:=by omega
  refine⟨I,cL,(dk.ext bE c (Ext.cm cG cH (bn _))).mono I,cE _,cE _,bx,bZ,bY,by rw[e,cO];exact cA,by rw[e,cO];exact L,am,by simpa using N,List.Perm.refl _,bt,λh1=>a0 I,λx hx=>by rw[b0];exact Q x (by simpa using hx)⟩
 clear cA L am N bt a0 Q bs bZ bx bQ bY cB bS ay aR aF bT;rintro _ b2 ⟨i,an,c',m,l,n,K,V,D,lo,hi,dS,A,B,q,M,r,rfl,g⟩;have cQ:=g.tc;have bD:=g.to.cb;refine⟨λ_=>aS ?_,λR=>?_⟩
 rotate_left
 .have:¬(i:Int)>=0:=cp R
  omega
 have aP:Ext b2 b2.drew:=b4 _;obtain⟨b3,dP⟩:∃b3,b3=b2.drew:=⟨_,rfl⟩;rw[←dP]at aP⊢;have a6:=g.yr.ext aP;have cT:=a6.cells.2.2;rw[bD]at cT;have cU:j6 (λq=>¬an.M q) b3 ws d:=g.ic.to (bL.ext an aP);obtain⟨a8,b7,eS,dQ,dR,_⟩:=cU.at cQ;have eT:c'.left.length<=200:=by rw[g.to.left,ct];have:=g.ll;omega
 have dU:c'.made.length<=200:=by rw[g.to.made,ct];have:=g.oE;omega
 obtain⟨aQ,cV,au,aw,aT,aC,aD⟩:=BT a6 (d[i]).no I;rw[bD]at aT aC aD;have dW:∀n,(a8.add n).block=a8.block:=λn=>by unfold Addr.add;split<;>rfl
 have dX:∀q,az c'.gA q->an.M q:=λq F=>.inr (.inr (.inr (.inr (a6.kx q F).1)));refine⟨az c'.gA,_,rfl,λF=>(a6.kx _ F).2 (by rw[bD,av]),c'.gA,cT,a8,b7,⟨I,I⟩,λF=>dQ (dX _ ((dW _)▸F)),_,by rw[c8];exact dR,aS ⟨ad.cF (eA _ _),aQ,cV,au,aw,_,rfl,by rw[av];exact aT,by rw[av];exact aC,aS ?_⟩⟩;rw[av,cx];obtain⟨X,cX⟩:∃X,X=cV.setCell ⟨c.cb,2,none⟩ aQ:=⟨_,rfl⟩;rw[←cX];obtain⟨ag,a9⟩:=aD X cX;have b8:=dk.leave (c:=c') (c':=⟨c.cb,c'.ma,aQ,c'.made,c'.left++ [(d[i]).no]⟩) (no:=(d[i]).no) a9 rfl (λq F=>.inl F) bD.symm rfl rfl;have ab:=(g.to.trans (dk.ext an c' aP)).trans b8;simp only[fO,kF]at ab;have cY:an.E hA:=by rw[g.to.E];exact dK
 have ca:=(g.hA.ext aP).ae a9.ae (a6.t.jC cY);have cd:=cU.to a9;have a_:bz (λq=>¬(an.b_ an.E λq=>an.G q\/az aQ q).M q) X n K V D:=(a9.bk (lo:=0) ((g.bk.ext aP).aW λq _ R=>⟨cE _,R⟩)).aW λq _ R=>R.2;obtain⟨bX,aU⟩:∃bX,bX=an.b_ an.E λq=>an.G q\/az aQ q:=⟨_,rfl⟩;have bw:bX.P=an.P:=by rw[aU];rfl
 have br:bX.f=an.f:=by rw[aU];rfl
 have eU:cc bX=cc an:=by rw[aU];rfl
 have cZ:bX.E hA:=by rw[aU];exact cY
 have c0:bX.aE=T.aE:=by rw[aU];show an.aE=_;rw[g.to.aE,dO]
 rw[←aU]at ag a9 b8 ab cd a_;obtain⟨aR,bG⟩:∃aR:dB,aR=⟨c.cb,c'.ma,aQ,c'.made,c'.left++ [(d[i]).no]⟩:=⟨_,rfl⟩;rw[←bG]at ag b8 ab;have fH:aR.cb=c.cb:=by rw[bG]
 have dA:aR.made.length<=200:=by rw[bG];exact dU
 have eV:aR.left.length<=201:=by rw[bG,ct,iN];omega
 obtain⟨dY,bR,bq,dZ⟩:=bC ca;have c1:=bj.len a_.keys;have c3:∀ (w':J) (v:aa),Ext X w'->(∀ {c6 aF ba},c6=bX->aF=aR->ba=l++ [(d[i]).no]->((v=.tuple #[(0:Int),(0:Int),(0:Int)]/\dT=[]/\ba.Perm (m++aI)/\m.length<=2*bE.aE+3)\/
  (∃ (root h:Nat) (pages:O Nat),v=.tuple #[root,h,(0:Int)]/\dV (aL.P c6) h none none root pages dT/\(pages++ba).Perm (m++aI)/\1<=h/\h<=bE.aE+1/\m.length<=2*bE.aE+3)\/
  (∃a b:Int,v=.tuple #[a,b,(3:Int)]/\¬bE.C.D.calm 60)))->mn T c aI dT w v w':=by
  intro w' v hx hd;refine conv v w' ⟨bX,aR,m,l++ [(d[i]).no],?_,?_,hd (aF:=aR) rfl rfl rfl⟩
  .exact ag.ext hx
  .have:=(ab.trans (dk.ext bX _ hx)).mono (j:=60) I
   simp only[fO]at this;exact this
 refine cj (λb w'=>(b=true↔(i=0/\n.keys=[]))/\X=w') (λZ bb=>⟨λh0=>⟨K,bR,bb _ _ ⟨?_,rfl⟩⟩,λh0=>bb _ _ ⟨?_,rfl⟩⟩) ?_
 .have h0:i=0:=by
   have:(i:Int)=0:=by simpa using h0
   omega
  rw[kJ];constructor
  .intro h1
   exact⟨h0,List.eq_nil_of_length_eq_zero I⟩
  .rintro⟨_,h1⟩
   rw[h1]at c1;simp at c1;omega
 .have h0:i≠0:=by
   have:¬(i:Int)=0:=by simpa using h0
   omega
  exact⟨λh=>(by cases h),λh=>absurd h.1 h0⟩
 rintro eW _ ⟨c4,rfl⟩;refine⟨λR=>?_,λR=>?_⟩
 .obtain⟨h0,c5⟩:=c4.1 R
  subst h0;have be:Ext X X.drew:=b4 _;obtain⟨d0,d6,d7,d8⟩:=bC (ca.ext be);have c7:=(ag.ext be).cells.1;rw[fH]at c7;have d9:=(ag.ext be).t.cells.2.2.2.2;obtain⟨t1,t2,t3,t4,t5,t6⟩:=Ctx.B5 (by simpa using g.ctx);have L:=g.kq;have N:=g.pp;have am:=g.eq;have ak:=mo (no:=(d[0]).no) g.acc;subst t2 t3 t4 t5 t6;rw[iM,fO]at am;rw[fO]at N;subst am;have c_:n.leaf=false->∃x,n.kids=[x]/\1<=bX.aE/\dV an.P (bX.aE-1) none none x q M/\1<=bX.aE-1:=by
   intro aG;have e:d.length-0=bX.aE:=by rw[c0];omega
   rw[e]at L
   cases ht:bX.aE with
   |zero=>omega
   |succ t=>
    rw[ht]at L
    cases t with
    |zero=>
     have:=L.1.leaf;rw[aG]at this;cases this
    |succ t=>
     obtain⟨v1,v2,bf,bg,bH⟩:=L;rw[c5]at bH;generalize eX:n.kids=eY at bH
     cases bH with
     |one h=>exact⟨_,rfl,I,h.1,I⟩
  refine aS ⟨λ_=>False,id,_,d0,K,d6,V,d7,D,d8,_,rfl,id,_,c7,_,rfl,id,_,d9,(pM (a_.ext be) bX.aE I λaG=>by obtain⟨x,a1,a2,_⟩:=c_ aG;exact⟨x,a1,a2⟩).use ?_⟩;rintro v w' ⟨rfl,ce⟩;have da:=be.trans ce
  cases aG:n.leaf with
  |true=>
   rw[if_pos rfl];have db:=L.leaf;rw[aG]at db;have cf:d.length-0=1:=b1 db.symm;rw[cf]at L;obtain⟨v1,v2,bf,bg⟩:=L;subst bf;refine⟨_,_,_,rfl,ce,c3 w' _ da λ{c6 aF ba} a1 a2 a3=>.inl ⟨rfl,?_,?_,by have:=g.oE;omega⟩⟩
   .rw[bg];unfold aB.dF;rw[c5];rfl
   .subst a3
    rw[nk]at ak N⊢;intro x;have:=ak x;have:=N x;simp only[nx,oW,oX]at*;omega
  |false=>
   rw[if_neg (by simp)];obtain⟨x,a1,a2,a3,a4⟩:=c_ aG;refine⟨_,_,_,rfl,ce,c3 w' _ da λ{c6 aF ba} b5 bM aV=>.inr (.inl ⟨_,_,q,rfl,?_,?_,a4,?_,by have:=g.oE;omega⟩)⟩
   .subst b5
    have d_:n.kids.getD 0 0=x:=by rw[a1];rfl
    rw[d_,bw];exact a3
   .subst aV
    rw[nk]at ak N⊢;intro x;have:=ak x;have:=N x;simp only[nx,oW,oX]at*;omega
   .omega
 .have a0:n.keys≠ []:=λe=>by
   rcases nw i with h0|h0
   .have:=c4.2 ⟨h0,e⟩
    rw[R]at this;cases this
   .exact g.GZ h0 e
  have eZ:bX.C.D.aO<=900000050:=by
   have:=ab.to.aO;rw[dL]at this;omega
  have dc:2<=cc bX:=by
   have:=ab.room;have:=g.oE;omega
  have de:∀ms:O Nat,ms.length<=3->(m++ms).length<=2*bE.aE+3:=λms h=>by rw[ct];have:=g.oE;omega
  have df:∀j,j<=10->¬bX.C.D.calm j->¬bE.C.D.calm 60:=λj e0 bs hc=>bs (ab.to.calm j (f_ hc I));have cg:lH n:=g.kq.yp (λ_=>by have:=g.sz;omega) (λ_=>by have:=g.sz;omega) λ_=>a0;refine cj (λp w'=>p=(if i=0 then none else some (a8.add ((i-1)*6)))/\X=w') (λZ bb=>⟨λh0=>⟨a8,b7,?_,bb _ _ ⟨?_,rfl⟩⟩,λh0=>bb _ _ ⟨?_,rfl⟩⟩) ?_
  .have h0:(i:Int)>0:=b1 h0
   rw[bu I I];omega
  .have h0:(i:Int)>0:=b1 h0
   have e:(i:Int)-1=((i-1:Nat):Int):=by omega
   rw[bu I I,if_neg I,e,c8]
  .have h0:¬(i:Int)>0:=cp h0
   rw[if_pos I]
  rintro _ _ ⟨rfl,rfl⟩;refine⟨_,dY,K,bR,V,bq,D,dZ,?_⟩;by_cases h0:i=0
  .subst h0
   rw[if_pos rfl];have bh:=GP ag a_ cg I dc I;rw[fH]at bh;refine bh.use ?_;rintro _ aX ⟨aY,e,rfl,hf⟩;obtain⟨c6,aF,ms,S,H,bi,bl⟩:=hf.cs;have bI:=ab.trans H;simp only[fO]at bI;have ea:aF.cb=c.cb:=by rw[H.cb,fH]
   rcases bl with ⟨rfl,ks,aq,aJ⟩|⟨rfl,aM⟩
   .refine⟨aY,_,_,0,rfl,λh=>(by cases h),λ_=>⟨λ_=>?_,λh=>(by simp at h)⟩⟩
    obtain⟨t1,t2,t3,t4,t5,t6⟩:=Ctx.B5 (by simpa using g.ctx);have L:=g.kq;have N:=g.pp;have am:=g.eq;have bt:=g.sz;have ak:=mo (no:=(d[0]).no) g.acc;have Q:=g.B6;subst t2 t3 t4 t5 t6;rw[iM,fO]at am;rw[fO]at N Q;subst am;have eb:bX.n<=1600:=ag.t.s.bq;have ch:∀z∈q,an.P z=c6.P z:=λz ac=>by
     rw[←bw];exact((H.eF z (by rw[br,Q z ac];rfl)).1).symm
    have ec:d.length-0=(d.length-1)+1:=by omega
    have dg:c6.aE=d.length:=by rw[H.aE,c0];omega
    rw[ec]at L;have dh:∀aZ x y,ks=[aZ]->ms=[x,y]->cz aZ/\x<1600/\y<1600:=λaZ x y au aw=>by
     subst au aw;have di:232<bF n:=by
      rcases aq with ⟨_,z,e,_⟩|⟨h,_⟩
      .cases e
      .exact h
     obtain⟨e1,_,_,aT,_⟩:=L.fits (L.xt I) (λ_=>I) (λ_=>I) aq ch;have hx:=(H.jG x (by simp)).2;have e2:=(H.jG y (by simp)).2;exact⟨aT aZ (by simp),I,I⟩
    have dl:=GU S aJ (λ_=>I) dh (by have:=H.to.aO;omega) (by have:=H.room;have:=ab.room;have:=g.oE;omega) (by rw[H.made,ct];omega);rw[ea]at dl;refine dl.use ?_;rintro v e3 ed;rcases ed with ⟨x,au,aw,rfl,aC,aD⟩|⟨aZ,x,y,no,jW,c9,au,aw,aC,aD,ee⟩
    .subst au aw
     refine⟨_,_,_,rfl,conv _ _ ⟨c6,aF,m++ [x],l++ [(d[0]).no],aC,?_,.inr (.inl ⟨x,c6.aE,x::q,rfl,?_,?_,I,I,de [x] (by simp)⟩)⟩⟩
     .have:=(bI.trans (dk.ext c6 aF aD)).mono (j:=60) I
      simp only[fO]at this;exact this
     .rcases aq with ⟨_,z,_,e,ac⟩|⟨_,e4,e5,_,e,_⟩
      .cases e
       rw[dg,show d.length=d.length-1+1 from I];exact L.lay a0 ac ch
      .cases e
     .rw[nk]at ak N⊢
      intro z;have:=ak z;have:=N z;simp only[nx,oW,oX]at*;omega
    .subst au aw
     obtain⟨a1,a2,a3⟩:=dh aZ x y rfl rfl;have ax:=bI.trans aD;simp only[fO]at ax;have dm:=ax.mono (j:=60) I;rcases ee with ⟨rfl,ci⟩|⟨rfl,ci⟩
     .have ef:∀z∈x::y::q,c6.P z=jW.P z:=λz ac=>by
       refine((aD.eF z ?_).1).symm;rw[H.f];simp only[cS]at ac;rcases ac with ac|ac|ac
       .simp[ac]
       .simp[ac]
       .rw[br,Q z ac];simp
      obtain⟨_,pages,b5,bM⟩:=G0 L bt aq ch ci ef a2 a3;refine⟨_,_,_,rfl,conv _ _ ⟨jW,c9,m++ [x,y]++ [no],l++ [(d[0]).no],aC,dm,.inr (.inl ⟨no,c6.aE+1,pages,rfl,?_,?_,I,I,by rw[cM];exact de [x,y,no] (by simp)⟩)⟩⟩
      .rw[dg,show d.length+1=d.length-1+2 from I];exact b5
      .rw[nk]at ak N bM⊢
       intro z;have:=ak z;have:=N z;have:=bM z;simp only[nx,oW,oX]at*;omega
     .refine⟨_,_,_,rfl,conv _ _ ⟨jW,c9,m++ [x,y]++ [no],l++ [(d[0]).no],aC,dm,.inr (.inr ⟨_,_,rfl,λhc=>ci (H.to.calm 1 (ab.to.calm 3 (f_ hc I)))⟩)⟩⟩
   .refine⟨aY,_,_,3,rfl,λ_=>conv _ _ ⟨c6,aF,m++ms,l++ [(d[0]).no],S,bI.mono I,.inr (.inr ⟨0,0,rfl,df 2 I aM⟩)⟩,λh=>(by cases h)⟩
  .rw[if_neg h0]
   have dG:i-1<d.length:=by omega
   obtain⟨e6,dn,_,_,_,hu⟩:=cd.at dG;rw[b7]at dn;obtain rfl:=Option.some.inj dn;obtain⟨u,ck⟩:∃u,u=d[i-1]:=⟨_,rfl⟩;rw[←ck]at hu;have eg:(d.take i).map dx.st=(d.take (i-1)).map dx.st++ [u.st]:=by
    have:d.take i=d.take (i-1)++ [d[i-1]]:=by
     have e:i-1+1=i:=by omega
     rw[←iq dG,e]
    rw[this,fV,ck];rfl
   obtain⟨dp,dq,eh,dr,ds,ps,bA,bO,ei,e7,e8,ej,el,dt,co⟩:=Ctx.up g.ctx eg g.kq g.yr.t.nj g.sz;have cf:d.length-i+1=d.length-(i-1):=by omega
   rw[cf]at bA dt co;have em:=(g.yr.t.ek _ _ ei).2.is;have e9:=em.2.1.eG I;have Q:=g.B6;have bh:=GQ ag a_ hu cg.1 (by have:=g.sz;omega) (λ_=>cg) (λbJ=>by
    obtain⟨o,no,rest,b5,bM,aV,bK,bN,du,_⟩:=co bJ;exact⟨o,no,b5,by rw[bw];exact bM,aV,bK,bN,du⟩) I I dc I I
   rw[fH]at bh;refine bh.use ?_;rintro v aX dv;have e_:0<u.n.keys.length:=sj.2 ej;have eb:bX.n<=1600:=ag.t.s.bq;have cq:∀ {c6:aL}{aF:dB}{ms ls:O Nat}{w':J}{en:Nat},dk bX c6 aR aF ms ls X w' en->∀x,an.f x=true->an.P x=c6.P x:=λeo x hx=>by
    rw[←bw];exact((eo.eF x (by rw[br,hx];rfl)).1).symm
   have ep:(∃ (c6:aL) (aF:dB) (ms ls:O Nat) (s:Y) (a b:Int),v=.tuple #[s,a,b,(3:Int)]/\dj aX c6 aF/\dk bX c6 aR aF ms ls X aX 4/\¬bX.C.D.calm 4)\/
    (∃ (c6:aL) (aF:dB) (ms ls rest:O Nat) (s:Y) (al ah:Nat) (ks:O Key) (dA:O Nat) (aA:O aH),v=.tuple #[s,al,ah,(0:Int)]/\dj aX c6 aF/\dk bX c6 aR aF ms ls X aX 4/\ms.length<=2/\ls.length<=1/\k6 (λq=>¬c6.M q) aX s ks ms/\
      dd c6.P (d.length-(i-1)) (fZ u.n al ah ks ms) dp dq dA aA/\dr++(aA++ds)=A++(M++B)/\dA.Perm (ms++(rest++q))/\ps.Perm (ls++rest)/\bF (fZ u.n al ah ks ms)<=bF u.n+27/\u.n.keys.length<=(fZ u.n al ah ks ms).keys.length+1/\
      al<=u.n.keys.length/\1<=ah/\ah<=u.n.kids.length):=by
    rcases dv with ⟨di,s,e,rfl,hf⟩|⟨bJ,c6,aF,rfl,au,aw,aT⟩|⟨bJ,o,no,fa,fb,fc,s,e,dw,dy,dz,rfl,hf⟩
    .obtain⟨c6,aF,ms,S,H,bi,bl⟩:=hf.cs
     rcases bl with ⟨rfl,ks,aq,aJ⟩|⟨rfl,aM⟩
     .obtain⟨dA,aA,b5,bM,aV,bK,bN⟩:=dt di c6.P ks ms aq (λx hx=>cq H x (Q x (by
       rw[bO];simp only[cP,cS]at hx⊢;rcases hx with hx|hx
       .exact .inr (.inr (.inl hx))
       .exact .inl hx))) (λx hx=>by have:=(H.jG x hx).2;omega)
      exact .inr ⟨c6,aF,ms,[],ps,s,u.cR,u.cR+1,ks,dA,aA,rfl,S,H.mono I,bi,cE _,aJ,b5,bM,aV,List.Perm.refl _,bK,bN,I,I,I⟩
     .exact .inl ⟨c6,aF,ms,[],s,_,_,rfl,S,H.mono I,λhc=>aM (f_ hc I)⟩
    .exact .inl ⟨c6,aF,[],[],bc,0,0,rfl,au,aw.mono I,λhc=>aT (f_ hc I)⟩
    .obtain⟨fd,dC,rest,b5,bM,aV,bK,bN,du,dD,er⟩:=co bJ
     rw[b5]at dw;obtain rfl:=Option.some.inj dw;rw[bw,bM]at dy;obtain rfl:=Option.some.inj dy;obtain⟨c6,aF,ms,S,H,bi,bl⟩:=hf.cs;have ax:=dz.trans H;simp only[iM,fO]at ax;rcases bl with ⟨rfl,ks,aq,aJ⟩|⟨rfl,aM⟩
     .obtain⟨dA,aA,d1,d2,d3,d4,d5⟩:=er c6.P ks ms aq (λx hx=>cq ax x (Q x (by
       rw[bO];simp only[cP,cS]at hx⊢;rcases hx with hx|hx
       .exact .inr (.inr (.inl (dD.mem_iff.2 (jO _ hx))))
       .exact .inl hx))) (λx hx=>by have:=(ax.jG x hx).2;omega)
      refine .inr ⟨c6,aF,ms,[dC],rest,s,u.cR-1,u.cR-1+2,ks,dA,aA,rfl,S,ax,bi,bn _,aJ,d1,d2,d3,dD,d4,d5,I,I,?_⟩;rcases nw u.cR with es|es<;>omega
     .exact .inl ⟨c6,aF,ms,[dC],s,_,_,rfl,S,ax,λhc=>aM (dz.to.calm 2 hc)⟩
   clear dv;rcases ep with ⟨c6,aF,ms,ls,aY,a,b,rfl,S,H,aM⟩|⟨c6,aF,ms,ls,rest,aY,al,ah,ks,dA,aA,rfl,S,H,bi,fe,aJ,v1,v2,bf,bg,bH,et,eu,ev,ew⟩
   .exact⟨aY,_,_,3,rfl,λ_=>conv _ _ ⟨c6,aF,_,_,S,(ab.trans H).mono I,.inr (.inr ⟨0,0,rfl,df 4 I aM⟩)⟩,λh=>(by cases h)⟩
   .refine⟨aY,_,_,0,rfl,λh=>(by cases h),λ_=>⟨λh=>?_,λ_=>?_⟩⟩
    .have:(i:Int)=0:=by simpa using h
     omega
    have bm:=hu.to H.to;refine⟨_,rfl,_,bm.ay,u.K,bm.aR,u.V,bm.aF,u.D,bm.c9,(pN bm.bk aJ (fr:=al) (to:=ah) eu I ev ew I I I).use ?_⟩;rintro _ ff ⟨cD,cN,cn,rfl,ex,bo⟩;have dE:=ca.ae H.to.ae (ag.t.jC cZ);have dH:=dE.ext bo;refine⟨_,cD,cN,cn,rfl,dH.b9 rfl fD,rfl,cu dH (us:=dM (fZ u.n al ah ks ms) cD cN cn) rfl rfl λey ez bp fg=>⟨⟨i-1,c6,aF,m++ms,l++ [(d[i]).no]++ls,fZ u.n al ah ks ms,cD,cN,cn,dp,dq,eh,dr,ds,dA,aA,ps++((d[i]).no::r),?_,?_⟩,?_⟩⟩
    .rw[bu I I];omega
    .have dI:c6.E hA:=by rw[H.E];exact cZ
     have cr:c6.M hA:=.inr (.inr (.inr (.inl dI)));have cv:=(ab.trans H).trans (dk.ext c6 aF bo);simp only[fO]at cv;have eB:bL bE c6 w1 ey (4*(d.length-1-i)+4+0):=cv.to.step (E:=c6.E) (G:=c6.G) bp (λq e aG=>I) (λq F=>.inl F) λq F=>.inl F;have cw:∀x,an.f x=true->c6.f x=true:=λx hx=>by rw[H.f,br,hx];rfl
     have bP:=cd.to H.to;refine⟨dG,(S.ext bo).B4 bp λq e=>.inl (by rw[e];exact dI),{cv.mono (j:=4*(d.length-1-(i-1))) I with to:=eB.mono I},?_,?_,ez,?_,?_,bA.agree λx hx=>cq H x (Q x (by rw[bO];simp[hx])),v1,by rw[v2];exact g.eq,?_,iX (mo g.acc) bf bg,I,λh1 e=>?_,λx hx=>?_⟩
     .rw[ct];have:=g.oE;omega
     .rw[ct,ct,iN];have:=g.ll;omega
     .refine(bz.ae ex bp λq F e=>?_).aW λq _ F dJ=>?_
      .subst e
       rcases F with F|F
       .exact F cr
       .have:=dE.lt;omega
      .rcases F with F|F
       .exact F dJ
       .have:=S.t.lt dJ;omega
     .refine⟨(bP.own.ext bo).ae bp λq F e=>bP.oD q F (by rw[e];exact cr),bP.oD,λx hx=>bz.ae ((bP.bk x hx).ext bo) bp λq F e=>F (by rw[e];exact cr)⟩
     .have this:aI.Perm ((d[i]'cQ).no::(r++dS)):=g.pp
      rw[bO]at this;rw[←ck];exact mq this
     .have h2:=el (λb0=>by
       have:=congrArg List.length b0;rw[dN,cy,jw]at this;omega)
      rw[e,jw]at et;omega
     .rcases cP.1 hx with hx|hx
      .have:=bf.mem_iff.1 hx
       rcases cP.1 this with hx|hx
       .rw[H.f];simp[hx]
       .rcases cP.1 hx with hx|hx
        .refine cw x (Q x ?_)
         rw[bO];have:x∈ps:=bg.mem_iff.2 (h4 _ hx);simp[this]
        .exact cw x (Q x (by simp[hx]))
      .exact cw x (Q x (by rw[bO];simp[hx]))
    .rw[bu I I]
     show((i:Int)-1+1).toNat<((i:Int)+1).toNat;omega
theorem G2{w:J}{T:aL}{c:dB}{dT:O aH}{n:aB}{K V D ws:Y}(t:ws.len=0)(h:dj w T c)(u:bz (λq=>¬T.M q) w n K V D)(Q:T.C.D.aO<=900000000)(R:2<=cc T)(S:c.made.length<=100)(W:c.left=[])
 (g:gQ n) (i:n.keys≠ []) (y:bF n<=232) (z:n.dF=dT):
 aN aj 208 #[.pointer (some ⟨c.cb,0,none⟩),.slice ws.a ws.len ws.cap,cW n K V D] w (mn T c [] dT w):=by
 refine okF (I7.nW (some ⟨c.cb,0,none⟩) ws n.leaf K V D) I6.nW func208 ?_;(delta I7.nW a7 U af cl ar ai aK r1 st po nN gu b6;dsimp only);refine bd (vs:=dM n K V D) rfl λw1 A B X=>?_;obtain⟨bS,ay,aR,aF⟩:=bC A;refine⟨_,bS,K,ay,V,aR,D,aF,bd (vs:=[.bool false,.slice none 0 0,.slice none 0 0,.slice none 0 0]) rfl λZ j E aa=>⟨j.b9 rfl fD,rfl,cu j (us:=dM n K V D) rfl rfl λl F G ab=>?_⟩⟩;have f:Ext w l:=B.trans (Ext.cm E G (bn _));refine⟨λn10 w'=>n10= -1/\l=w',λ_ _=>0,⟨by rw[t];decide,rfl⟩,?_⟩;rintro _ _ ⟨rfl,rfl⟩;refine⟨λh=>by simp at h,λ_=>?_⟩;obtain⟨d0,d1,d2,d3⟩:=bC F;refine⟨_,d0,K,d1,V,d2,D,d3,(BY (h.ext f) I I I (u.ext f) (.inl g) y).use ?_⟩;intro v w' d;obtain⟨s,e,rfl⟩:=d.out;obtain⟨an,c',m,o,p,ac,H⟩:=(d.base f).cs;rcases H with ⟨rfl,ks,L,N⟩|⟨rfl,P⟩
 .refine⟨s,0,rfl,λh=>(by cases h),λ_=>?_⟩
  rcases L with ⟨_,x,rfl,rfl,hx⟩|⟨ad,_⟩
  .rcases N with ⟨b,r,rfl,_,e,d,_⟩|⟨b,r,ae,ag,ah,rfl,e,_⟩
   .obtain rfl:x=r:=by simpa using e
    refine⟨_,rfl,⟨by decide,by show(0:Int)<((1:Nat):Int);decide⟩,_,by rw[av,av];exact d.cell,an,c',[x],[],o,p.mono I,.inr (.inl ⟨x,1,[x],rfl,⟨n,hx,g,λk i=>⟨λ_ e=>(by cases e),λ_ e=>(by cases e)⟩,i,rfl,z.symm⟩,List.Perm.refl _,bn _,I,by show 1<=_;omega⟩)⟩
   .cases e
  .omega
 .exact⟨s,3,rfl,λ_=>⟨an,c',m,[],o,p.mono I,.inr (.inr ⟨0,0,rfl,λhc=>P (f_ hc I)⟩)⟩,λh=>(by cases h)⟩
def aL.nm(T:aL)(r h:Nat):aL:={T with root:=r,aE:=h}
theorem bJ.G3{w w':J}{T:aL}{r h:Nat}(ht:bJ w T)(a:Var w' T.aX (k5 (T.nm r h)) 239)(hc:ad (λq=>q=T.aX) w w')(b:r<T.n)(c:h<=12):bJ w' (T.nm r h)/\bL T (T.nm r h) w w' 0:=
 ⟨⟨a,ht.s.ae hc λq d e=>ht.jF (e▸d),ht.ca.ae hc λq e=>.inl e,ht.jF,ht.c2,ht.hV,ht.n,⟨b,c,ht.num.2.2⟩,ht.ek,ht.bI,ht.low⟩,
  ⟨rfl,rfl,rfl,rfl,rfl,rfl,rfl,rfl,rfl,rfl,bn _,λ_ h=>h,hc.mono λq _ e=>.inr (.inl e),λq h=>.inl h,λq h=>.inl h⟩⟩
def ga(T:aL)(pages:O Nat)(L:O aH):Prop:=(T.aE=0/\T.root=0/\pages=[]/\L=[])\/dV T.P T.aE none none T.root pages L
theorem B7{s t:Nat->ah}:∀ {n:Nat},(∀i,s i=true->t i=true)->eQ s n<=eQ t n
 |0,_=>bn _
 |n+1,h=>by
  have h1:=B7 (n:=n) h
  show eQ s n+(s n).toNat<=eQ t n+(t n).toNat
  cases hs:s n with
  |false=>exact Nat.add_le_add h1 (cE _)
  |true=>rw[h n hs];exact Nat.add_le_add_right h1 _
def vQ(T:aL)(aI:O Nat)(dT:O aH)(w:J)(v:aa)(w':J):Prop:=
 ∃an:aL,bJ w' an/\bL T an w w' 60/\an.E=T.E/\an.G=T.G/\
  ((v=.int .i64 2/\cc T<2*T.aE+3/\an=T)\/
   (v=.int .i64 0/\2*T.aE+3<=cc T/\(∃pages,cc T<=cc an+(2*T.aE+3)/\ga an pages dT/\pages.Nodup/\(∀no∈pages,no∈aI\/(T.f no||T.g no)=false)/\∀no,an.f no=true↔(no∈pages\/(T.f no=true/\no∉aI)))/\∀no,T.g no=true->an.P no=T.P no/\an.C.view no=T.C.view no)\/
   (v=.int .i64 3/\¬T.C.D.calm 60/\an.root=T.root/\an.aE=T.aE/\an.f=T.f/\∀no,(T.f no||T.g no)=true->an.P no=T.P no/\an.C.view no=T.C.view no))
theorem B8{l:O Nat}(h:∀x,l.count x<=1):l.Nodup:=List.nodup_iff_count.2 h
theorem G4{w:J}{T:aL}{s:Y}{aI:O Nat}{dT:O aH}{n:aB}{K V D:Y}(h:bJ w T)(b6:¬T.C.D.ro)(c5:T.C.D.aO<=900000000)(y:T.aE<12)(b7:aI.Nodup)(aJ:∀x∈aI,T.f x=true)(c6:aI.length<=5000)
 (b8:∀ (bU j:Nat->Prop) (w1:J) (ay:dB),dj w1 (T.b_ bU j) ay->bL T (T.b_ bU j) w w1 0->2*T.aE+3<=cc T->ay.made=[]->ay.left=[]->aN aj 208 #[.pointer (some ay.cb),s,cW n K V D] w1 (mn (T.b_ bU j) ay aI dT w1)):
 aN aj 150 #[.pointer (some T.aX),s,cW n K V D] w (vQ T aI dT w):=by
 have c7:=h.s.bq;refine I7.Eo (some T.aX) s n.leaf K V D w _ ?_;(delta I7.rl r1 ay ai ar st U a7 af po aR;dsimp only);refine bd (vs:=dM n K V D) rfl λw1 ac ba c8=>bd (vs:=[(0:Int)]) rfl λag bb be c9=>aS ?_;have ah:Ext ag ag.drew:=b4 _;obtain⟨bf,b9⟩:∃bf,bf=ag.drew:=⟨_,rfl⟩;rw[←b9]at ah⊢;have bg:=(ba.trans be).trans ah;have k:=h.ext bg;obtain⟨ev,ca⟩:∃ev,ev=w1.heap.size:=⟨_,rfl⟩;rw[←ca]at bb⊢;refine⟨λ_=>False,_,rfl,id,_,k.cells.2.1,_,rfl,id,_,k.cells.2.2.2.2,(yc k.s).use ?_⟩;rintro _ aK ⟨rfl,ak⟩;have aM:=bg.trans ak;have R:=(bb.ext ah).ext ak;have cd:((T.n:Int)-eQ (λi=>T.f i||T.g i) T.n)=(cc T:Nat):=by
  have:=mj (λi=>T.f i||T.g i) T.n;unfold cc;omega
 have ce:IntKind.wrap .i64 (IntKind.wrap .i64 (2*(T.aE:Int))+3)=((2*T.aE+3:Nat):Int):=by
  rw[bu (n:=2*(T.aE:Int)) I I,bu I I];omega
 rw[cd,ce];refine⟨_,rfl,ak,λal=>?_,λal=>?_⟩
 .have al:((cc T:Nat):Int)<((2*T.aE+3:Nat):Int):=b1 al
  obtain⟨au,aw⟩:=dH R (i:=0) (by simp);have cf:=dn aK ev 0 (2:Int);have cg:=dJ R (i:=0) (2:Int);have bh:=Ext.cm aM cf I;exact⟨au,aw,aS ⟨2,cg.cell,T,h.ext bh,(bL.ext T bh).mono I,rfl,rfl,.inl ⟨rfl,I,rfl⟩⟩⟩
 have bi:2*T.aE+3<=cc T:=by
  have:¬((cc T:Nat):Int)<((2*T.aE+3:Nat):Int):=cp al;omega
 refine bd (vs:=[.pointer (some T.aX),(),()]) rfl λch bj ci c_=>bd (vs:=[.pointer none]) rfl λbl aP bm da=>?_;obtain⟨cb,bn⟩:∃cb,cb=aK.heap.size:=⟨_,rfl⟩;obtain⟨fc,bo⟩:∃fc,fc=ch.heap.size:=⟨_,rfl⟩;rw[←bn]at bj⊢;rw[←bo]at aP⊢;obtain⟨au,aw⟩:=dH aP (i:=0) (by simp);have am:=dn bl fc 0 (.pointer (some cb));have aQ:=dJ aP (i:=0) (.pointer (some cb));refine⟨au,aw,aS ?_⟩;obtain⟨B,cj⟩:∃B,B=bl.setCell fc (.pointer (some cb)):=⟨_,rfl⟩;rw[←cj]at am aQ⊢;have db:=aM.size;have dc:=am.size;have aT:Ext aK B:=Ext.cm (ci.trans bm) am I;have bp:=aM.trans aT;have br:=R.ext aT;have bs:=(bj.ext bm).ae am I;have ck:=((ac.ext be).ext ah).ext (ak.trans aT);obtain⟨bU,aU⟩:∃bU,bU=λq=>T.E q\/q=ev:=⟨_,rfl⟩;obtain⟨j,aV⟩:∃j,j=λq=>T.G q\/q=cb:=⟨_,rfl⟩;have aW:∀q,bU q->T.E q\/q=ev:=λq c=>by rw[aU]at c;exact c
 have ao:∀q,j q->T.G q\/q=cb:=λq c=>by rw[aV]at c;exact c
 have bt:∀q,T.E q->bU q:=λq c=>by rw[aU];exact .inl c
 have cl:∀q,T.G q->j q:=λq c=>by rw[aV];exact .inl c
 have aY:bU ev:=by rw[aU];exact .inr rfl
 have cn:j cb:=by rw[aV];exact .inr rfl
 have dd:=br.lt;have de:=bs.lt;have bv:bJ B (T.b_ bU j):=h.grow (W:=λ_=>False) bp (λ_ h=>h.elim) (λq c=>(aW q c).imp id λe=>.inr ⟨I,I⟩) (λq c=>.inr ((ao q c).imp id λe=>⟨I,I⟩)) λq c hg=>by
  rcases aW q c with h1|h1<;>rcases ao q hg with h2|h2
  .exact(h.c2 q h1).2.2 h2
  .have:=h.lt (q:=q) (.inr (.inr (.inr (.inl h1))));omega
  .have:=h.lt (q:=q) (.inr (.inr (.inr (.inr h2))));omega
  .have:=R.lt;omega
 have bw:bL T (T.b_ bU j) w B 0:=(bL.refl T w).step (W:=λ_=>False) bp (λ_ h=>h.elim) (λq c=>(aW q c).imp id λe=>.inr I) λq c=>(ao q c).imp id λe=>by omega
 have co:dj B (T.b_ bU j) ⟨cb,bc,bc,[],[]⟩:=⟨bv,bs,a8.none _ _ _,a8.none _ _ _,cn,λq c=>(gf q c).elim,λq c=>(gf q c).elim,b6⟩;have cq:=b8 bU j B _ co bw bi rfl rfl;obtain⟨bS,ay,aR,aF⟩:=bC ck;refine⟨_,aQ.cell,_,bS,K,ay,V,aR,D,aF,cq.use ?_⟩;rintro v F ⟨bE,u,m,l,bx,d,cr⟩;have S:bE.E ev:=by rw[d.E];exact aY
 have ap:=br.ae d.to.ae (bv.jC aY);have cs:¬(T.b_ bU j).N fc:=by
  have df:cb<fc:=by rw[bn,bo];omega
  rintro(c|c|c|c)
  .have:=h.lt (q:=fc) (.inl c);omega
  .have:=h.lt (q:=fc) (.inr (.inl c));omega
  .have:=h.lt (q:=fc) (.inr (.inr (.inl c)));omega
  .rcases ao fc c with h1|h1
   .have:=h.lt (q:=fc) (.inr (.inr (.inr (.inr h1))));omega
   .omega
 have bz:=aQ.ae d.to.ae cs;have aq:u.cb=cb:=d.cb;have dg:bE.aX=T.aX:=d.to.aX;have ax:u.made=m:=d.made;have az:u.left=l:=d.left;have aZ:fc≠ev:=by have:=R.lt;omega
 have bB:bL T bE w F 60:=(bw.trans d.to).mono I
 have fin:∀ (w':J) (an:aL),bJ w' an->bL T an w w' 60->an.E=bU->(∀q,T.G q->an.G q)->bJ w' (an.b_ T.E T.G)/\bL T (an.b_ T.E T.G) w w' 60:=by
  intro w' an hc ht bD bF;exact⟨hc.grow (W:=λ_=>False) (ad.refl _ _) (λ_ h=>h.elim) (λq c=>.inl (by rw[bD];exact bt q c)) (λq c=>.inr (.inl (bF q c))) λq c=>(h.c2 q c).2.2,
   ht.step (W:=λ_=>False) (ad.refl _ _) (λ_ h=>h.elim) (λq c=>.inl (by rw[bD];exact bt q c)) λq c=>.inl (bF q c)⟩
 have bG:∀q,T.G q->bE.G q:=λq c=>d.G q (cl q c);have dh:=(ba).size;have a0:∀ (w0:J) (an:aL) (c':dB) (x:Int),dj w0 an c'->bL T an w w0 60->an.E ev->dj (w0.setCell ev x) an c'/\bL T an w (w0.setCell ev x) 60:=λw0 an c' x hc ht he=>
  ⟨hc.B4 (dn w0 ev 0 _) λq e=>.inl (by rw[e];exact he),ht.step (E:=an.E) (G:=an.G) (dn w0 ev 0 _) (λq e a1=>I) (λq c=>.inl c) λq c=>.inl c⟩
 have di:m.length<=1600:=by
  have:=d.room;have:cc (T.b_ bU j)<=T.n:=by unfold cc;exact Nat.sub_le _ _
  omega
 have cu:(∃a b:Int,v=.tuple #[a,b,(3:Int)]/\¬T.C.D.calm 60)\/(∃ (root y:Nat) (pages:O Nat),v=.tuple #[root,y,(0:Int)]/\((y=0/\root=0/\pages=[]/\dT=[])\/dV bE.P y none none root pages dT)/\(pages++l).Perm (m++aI)/\y<=12/\m.length<=2*T.aE+3):=by
  rcases cr with ⟨rfl,h1,h2,a2⟩|⟨root,y,pages,rfl,h1,h2,k,H,a2⟩|⟨a,b,rfl,a3⟩
  .exact .inr ⟨0,0,[],rfl,.inl ⟨rfl,rfl,rfl,h1⟩,h2,I,a2⟩
  .have H:y<=T.aE+1:=H
   exact .inr ⟨root,y,pages,rfl,.inr h1,h2,I,a2⟩
  .exact .inl ⟨a,b,rfl,a3⟩
 rcases cu with ⟨a,b,rfl,a3⟩|⟨root,o,pages,rfl,cv,bH,cw,dk⟩
 .
  obtain⟨au,aw⟩:=dH ap (i:=0) (by simp);have z:=dJ ap (i:=0) (3:Int);obtain⟨aA,aC⟩:=a0 F bE u 3 bx bB S;have X:=bz.ae (dn F ev 0 (3:Int)) aZ;refine⟨a,b,3,rfl,au,aw,aS ⟨3,z.cell,λ_=>⟨3,z.cell,?_⟩,λhx=>(by cases hx)⟩⟩;obtain⟨cy,cz⟩:=dH z (i:=0) (by simp);have a4:=dJ z (i:=0) (3:Int);obtain⟨bI,bK⟩:=a0 _ bE u 3 aA aC S;have a5:=X.ae (dn _ ev 0 (3:Int)) aZ;refine⟨cy,cz,aS (I7.As ev fc _ _ ?_)⟩;generalize dl:(F.setCell ev (3:Int)).setCell ev (3:Int)=bM at a4 bI a5 bK⊢;(delta I7.pH r1 ai af aR;dsimp only);have L:Ext bM bM.drew:=b4 _;have p:=bI.ext L;have Z:=B1 p p.ma.src (λq c=>(p.fo q c).1) (l:=u.made) (λx hx=>by rw[ax]at hx;rw[d.f];simp[hx]) (by rw[ax];exact d.bk) (by rw[ax];omega);rw[aq]at Z;have aa:=p.cells.2.1;rw[aq]at aa;refine⟨3,a4.cell,λ_=>aS ⟨id,_,a5.drew.cell,id,_,a5.drew.cell,_,rfl,id,u.ma,aa,Z.use ?_⟩,λhx=>(by cases hx)⟩;rintro _ bN ⟨rfl,bX,A,hg⟩;rw[ax]at hg;have cA:=(a4.ext L).ae hg.to.ae (p.t.jC S);have cB:bL T bX w bN 60:=((bK.trans (bL.ext bE L)).trans hg.to).mono I;obtain⟨f1,f2⟩:=fin bN bX A.t cB (by rw[hg.E];exact d.E) λq c=>by rw[hg.G];exact bG q c
  refine⟨rfl,3,cA.cell,_,f1,f2,rfl,rfl,.inr (.inr ⟨rfl,a3,hg.root.trans d.root,hg.aE.trans d.aE,?_,λno ab=>?_⟩)⟩
  .funext no
   show bX.f no=T.f no;rw[hg.f,d.f];by_cases r:no∈m
   .have:=(d.jG no r).1
    have e:(T.b_ bU j).f no=T.f no:=rfl;rw[e]at this⊢
    cases a6:T.f no
    .simp[r]
    .rw[a6]at this;cases this
   .simp[r];rfl
  .have r:no∉m:=λr=>by
    have:=(d.jG no r).1;have e:((T.b_ bU j).f no||(T.b_ bU j).g no)=(T.f no||T.g no):=rfl;rw[e,ab]at this;cases this
   have h1:=hg.eF no (.inl r);have h2:=d.eF no ab;exact⟨h1.1.trans h2.1,h1.2.trans h2.2⟩
 .
  have Q:∀x,pages.count x+l.count x=m.count x+aI.count x:=λx=>by
   have:=nk.1 bH x;simpa only[nx] using this
  have aD:∀x,m.count x+aI.count x<=1:=λx=>by
   have h1:=List.nodup_iff_count.1 d.bk x;have h2:=List.nodup_iff_count.1 b7 x;rcases nw (m.count x) with k|k
   .omega
   .rcases nw (aI.count x) with H|H
    .omega
    .have r:=jR.1 k
     have cC:=jR.1 H;have:=(d.jG x r).1;have e:((T.b_ bU j).f x||(T.b_ bU j).g x)=(T.f x||T.g x):=rfl;rw[e,aJ x cC]at this;cases this
  have hlen:pages.length+l.length=m.length+aI.length:=by
   have:=bH.length_eq;simpa only[ct] using this
  have cD:∀x∈l,bE.f x=true:=λx hx=>by
   have h1:=jR.2 hx;have h2:=Q x;rw[d.f];rcases nw (m.count x) with k|k
   .have:x∈aI:=jR.1 I
    have e:(T.b_ bU j).f x=T.f x:=rfl;rw[e,aJ x this];rfl
   .have:x∈m:=jR.1 k
    simp[this]
  have cE:l.Nodup:=B8 λx=>by have:=Q x;have:=aD x;omega
  obtain⟨au,aw⟩:=dH ap (i:=0) (by simp);have z:=dJ ap (i:=0) (0:Int);obtain⟨aA,aC⟩:=a0 F bE u 0 bx bB S;have X:=bz.ae (dn F ev 0 (0:Int)) aZ;refine⟨_,_,0,rfl,au,aw,aS ⟨0,z.cell,λhx=>(by cases hx),λ_=>aS ?_⟩⟩;generalize dm:F.setCell ev (0:Int)=bP at z aA X aC⊢;have L:Ext bP bP.drew:=b4 _;have p:=aA.ext L;have Z:=B1 p p.gA.src (λq c=>(p.kx q c).1) (l:=u.left) (λx hx=>cD x (by rw[az]at hx;exact hx)) (by rw[az];exact cE) (by rw[az];omega);rw[aq]at Z;have aa:=p.cells.2.2;rw[aq]at aa;refine⟨id,_,X.drew.cell,id,_,X.drew.cell,_,rfl,id,u.gA,aa,Z.use ?_⟩;rintro _ M ⟨rfl,bX,A,hg⟩;rw[az]at hg;have cF:=(z.ext L).ae hg.to.ae (p.t.jC S);have bQ:bL T bX w M 60:=((aC.trans (bL.ext bE L)).trans hg.to).mono I;have a9:bX.aX=T.aX:=bQ.aX;have bT:bX.E=bU:=by rw[hg.E];exact d.E
  have cG:bX.E ev:=by rw[bT];exact aY
  have bV:Var M T.aX (k5 bX) 239:=by rw[←a9];exact A.t.t
  obtain⟨bA,bO⟩:=dH bV (i:=3) (by simp[k5]);have bW:=dJ bV (i:=3) root;have cH:=dn M T.aX 3 root;obtain⟨cI,cJ⟩:=dH bW (i:=4) (by simp[k5]);have bY:=dJ bW (i:=4) o;have cK:=dn (M.setCell ⟨T.aX,3,none⟩ root) T.aX 4 o;refine⟨rfl,_,rfl,by rw[av];exact bA,by rw[av];exact bO,aS ⟨_,rfl,by rw[av,av];exact cI,by rw[av,av];exact cJ,aS ?_⟩⟩;rw[av,av,cx,cx];have a_:ad (λq=>q=T.aX) M ((M.setCell ⟨T.aX,3,none⟩ root).setCell ⟨T.aX,4,none⟩ o):=cH.trans cK;generalize dp:(M.setCell ⟨T.aX,3,none⟩ root).setCell ⟨T.aX,4,none⟩ o=aG at bY a_⊢;have cL:∀x∈pages,x∉l:=λx hx a1=>by
   have h1:=jR.2 hx;have h2:=jR.2 a1;have:=Q x;have:=aD x;omega
  have bZ:(o=0/\root=0/\pages=[]/\dT=[])\/(dV bX.P o none none root pages dT/\root∈pages):=cv.imp id λcM=>cM.agree λx hx=>((hg.eF x (.inl (cL x hx))).1).symm;have cN:root<bX.n:=by
   rcases bZ with ⟨_,h1,_⟩|⟨h1,_⟩
   .have:=A.t.s.bR;omega
   .obtain⟨bk,_,h2,_⟩:=h1.kq
    exact(A.t.ek _ _ h2).1
  have cO:Var aG bX.aX (k5 (bX.nm root o)) 239:=by rw[a9];exact bY
  obtain⟨cP,cR⟩:=A.t.G3 cO (by rw[a9];exact a_) cN cw;have cS:ev≠T.aX:=λe=>by have:=h.lt (q:=T.aX) (.inr (.inl rfl));omega
  have b0:=cF.ae a_ cS;obtain⟨cT,cU⟩:=dH b0 (i:=0) (by simp);have b2:=dJ b0 (i:=0) (0:Int);have b3:=dn aG ev 0 (0:Int);refine⟨cT,cU,aS (I7.As ev fc _ _ ?_)⟩;(delta I7.pH r1 ai af aR;dsimp only);refine⟨0,b2.cell,λhx=>(by cases hx),λ_=>⟨0,b2.cell,?_⟩⟩;have cV:bJ (aG.setCell ev (0:Int)) (bX.nm root o):=cP.grow (E:=bX.E) (G:=bX.G) b3 (λq e _=>.inl (by rw[e];exact cG)) (λq c=>.inl c) (λq c=>.inr (.inl c)) λq c=>(A.t.c2 q c).2.2;have cX:bL T (bX.nm root o) w (aG.setCell ev (0:Int)) 60:=((bQ.trans cR).mono I).step (E:=bX.E) (G:=bX.G) b3 (λq e a1=>I) (λq c=>.inl c) λq c=>.inl c;obtain⟨f1,f2⟩:=fin _ _ cV cX bT λq c=>by
   show bX.G q;rw[hg.G];exact bG q c
  refine⟨_,f1,f2,rfl,rfl,.inr (.inl ⟨rfl,bi,⟨pages,?_,?_,B8 λx=>by have:=Q x;have:=aD x;omega,λno hx=>?_,λno=>?_⟩,λno ab=>?_⟩)⟩
  .have h1:cc bE+m.length=cc T:=d.room
   have h2:cc bE<=cc (bX.nm root o):=by
    show bE.n-_<=bX.n-eQ (λi=>bX.f i||bX.g i) bX.n;rw[hg.to.n];have:=B7 (s:=λi=>bX.f i||bX.g i) (t:=λi=>bE.f i||bE.g i) (n:=bE.n) λi hi=>by
     rw[hg.f,hg.to.g]at hi;rw[jc,dX]at hi;rw[jc];exact hi.imp And.left id
    omega
   show cc T<=cc (bX.nm root o)+_;omega
  .rcases bZ with ⟨h1,h2,k,H⟩|⟨h1,_⟩
   .exact .inl ⟨h1,h2,k,H⟩
   .exact .inr h1
  .have h1:=jR.2 hx
   have h2:=Q no;rcases nw (aI.count no) with k|k
   .have r:no∈m:=jR.1 I
    exact .inr (d.jG no r).1
   .exact .inl (jR.1 k)
  .show bX.f no=true↔_
   rw[hg.f,d.f];have e:(T.b_ bU j).f no=T.f no:=rfl;rw[e];have dq:=Q no;have A:=aD no;have b5:no∈m↔0<m.count no:=jR.symm;have ac:no∈aI↔0<aI.count no:=jR.symm;have cY:no∈l↔0<l.count no:=jR.symm;have cZ:no∈pages↔0<pages.count no:=jR.symm;have c0:0<aI.count no->T.f no=true:=λh=>aJ no (ac.2 h);have c1:0<m.count no->T.f no=false:=λh=>by
    have:=(d.jG no (b5.2 h)).1;have e:((T.b_ bU j).f no||(T.b_ bU j).g no)=(T.f no||T.g no):=rfl;rw[e]at this
    cases a6:T.f no
    .rfl
    .rw[a6]at this;cases this
   rw[dX,jc,cQ,k9,jP,b5,ac,cY,cZ];constructor
   .rintro⟨h1|h1,h2⟩
    .by_cases k:0<aI.count no
     .left;omega
     .exact .inr ⟨h1,k⟩
    .left;omega
   .rintro(h1|⟨h1,h2⟩)
    .refine⟨?_,I⟩
     by_cases k:0<aI.count no
     .exact .inl (c0 k)
     .right;omega
    .refine⟨.inl h1,λk=>?_⟩
     have:0<m.count no:=by omega
     rw[c1 this]at h1;cases h1
  .have c3:(T.f no||T.g no)=true:=by rw[ab];simp
   have c4:bE.g no=true:=by rw[d.to.g];exact ab
   have h1:=hg.eF no (.inr c4);have h2:=d.eF no c3;exact⟨h1.1.trans h2.1,h1.2.trans h2.2⟩
theorem B9{ks:O Key}{k:Key}{i:Nat}(hs:ks.Pairwise bD)(h1:cL ks k<=i)(hi:i<ks.length)(d:ks[cL ks k]? ≠some k):bD k ks[i]:=by
 rcases oa.1 (pW hs h1 hi) with h2|h2
 .exact h2
 .exfalso
  rcases dC (cL ks k) i with a|a
  .have b:cL ks k<ks.length:=by omega
   have f:=pW hs (bn _) b;have c:=mI.1 hs _ _ b hi a;rw[←h2]at c;exact f c
  .have e:i=cL ks k:=by omega
   apply d;subst e;rw[du hi,←h2]
theorem yt{n:aB}(h:gQ n){i:Nat}(hi:i<=n.keys.length):∃a b c d:O Key,n.keys=a++b/\n.vals=c++d/\a.length=i/\c.length=i/\b.length=d.length/\n.keys.take i=a/\n.keys.drop i=b/\n.vals.take i=c/\n.vals.drop i=d:=by
 have e:=h.len;refine⟨n.keys.take i,n.keys.drop i,n.vals.take i,n.vals.drop i,(hZ i _).symm,(hZ i _).symm,?_,?_,?_,rfl,rfl,rfl,rfl⟩
 .rw[cy];omega
 .rw[cy];omega
 .rw[c5,c5];omega
def j7(k v:Key):Nat:=2+k.length+v.length
theorem qc{n:aB}(h:n.leaf=true):bF n=1+(List.zipWith j7 n.keys n.vals).sum:=by
 unfold bF;rw[if_pos h,kX h];rfl
theorem G5{n:aB}{k v:Key}(h:gQ n)(B:cz k)(C:v.length<=24):gQ (g_ n k v)/\(g_ n k v).dF=eN n.dF k v/\bF (g_ n k v)<=bF n+50/\(g_ n k v).keys≠ []/\n.keys.length<=(g_ n k v).keys.length/\(∀s∈(g_ n k v).keys,s=k\/s∈n.keys):=by
 have hlen:=h.len;have D:=pV n.keys k;have J:n.dF=n.keys.zip n.vals:=rfl;have E:=h.e4;have F:∀ (j:Nat) (m:j<n.keys.length),j<cL n.keys k->bD n.keys[j] k:=λj m h1=>od h1 m;have G:n.keys[cL n.keys k]? ≠some k->∀ (j:Nat) (m:j<n.keys.length),cL n.keys k<=j->bD k n.keys[j]:=λhe j m h1=>B9 E h1 m he;rw[J,E5 h.e4];unfold g_ g9;generalize hi:cL n.keys k=i at D F G⊢;obtain⟨a,b,c,d,g,t,K,L,M,p,q,w,A⟩:=yt h D;have f:n.keys.zip n.vals=a.zip c++b.zip d:=by rw[g,t];exact oc I
 have u:(a.zip c).length=i:=by rw[mG];omega
 by_cases he:n.keys[i]? =some k
 .rw[if_pos (by simpa using he),if_pos he]
  have N:∃o,b=k::o:=by
   cases b with
   |nil=>rw[g,kL I]at he;simp at he
   |cons y o=>
    rw[g,kL I,K,nt]at he;simp at he;exact⟨o,by rw[he]⟩
  obtain⟨o,rfl⟩:=N;obtain⟨x,l,rfl⟩:∃x l,d=x::l:=by
   cases d with
   |nil=>simp at M
   |cons x l=>exact⟨x,l,rfl⟩
  have H:n.vals.set i v=c++v::l:=by
   rw[t,List.set_append_right _ _ I,L,nt];rfl
  refine⟨⟨⟨h.ok,h.e4⟩,h.leaf,by simp[hlen],h.kids,λz f=>?_⟩,?_,?_,λe=>by have e:n.keys=[]:=e;rw[e]at g;simp at g,bn _,λs hs=>.inr hs⟩
  .rcases lU f with h1|h1
   .exact h.vals z h1
   .rw[h1];exact C
  .show n.keys.zip (n.vals.set i v)=_
   rw[H,f,g,oc I,mc u];have O:(a.zip c++(k::o).zip (x::l)).drop (i+1)=o.zip l:=by
    rw[List.zip_cons_cons,show a.zip c++(k,x)::o.zip l=(a.zip c++ [(k,x)])++o.zip l by simp];exact drop_left' (by simp only[ct,u,iN])
   rw[O];rfl
  .rw[qc h.leaf,qc (n:={n with vals:=n.vals.set i v}) h.leaf]
   show 1+(List.zipWith j7 n.keys (n.vals.set i v)).sum<=_;rw[H,g,t,oS I,oS I,lf,lf,List.zipWith_cons_cons,List.zipWith_cons_cons,qz,qz];unfold j7;omega
 .rw[if_neg (by simpa using he),if_neg he]
  have P:=G he;refine⟨⟨⟨λz f=>?_,?_⟩,h.leaf,?_,h.kids,λz f=>?_⟩,?_,?_,λe=>?_,?_,λs hs=>?_⟩
  .have f:z∈n.keys.take i++ [k]++n.keys.drop i:=f
   simp only[cP,fh]at f;rcases f with (f|rfl)|f
   .exact h.ok z (fa f)
   .exact B
   .exact h.ok z (e_ f)
  .show(n.keys.take i++ [k]++n.keys.drop i).Pairwise bD
   rw[p,q];have Q:(a++b).Pairwise bD:=by rw[←g];exact E
   obtain⟨au,aw,R⟩:=mF.1 Q;have S:∀x∈a,bD x k:=λx hx=>by
    obtain⟨j,m,rfl⟩:=fb hx;have:=F j (by rw[g,ct];omega) I;simp only[g,lS m]at this;exact this
   have T:∀y∈b,bD k y:=λy r=>by
    obtain⟨j,m,rfl⟩:=fb r;have:=P (i+j) (by rw[g,ct];omega) I;have e:(a++b)[i+j]'(by rw[ct];omega)=b[j]:=by
     rw[nu I];congr 1;omega
    simp only[g,e]at this;exact this
   rw[cM];refine mF.2 ⟨au,?_,λx hx y r=>?_⟩
   .exact jt.2 ⟨T,aw⟩
   .rcases cS.1 r with rfl|r
    .exact S x hx
    .exact R x hx y r
  .show(n.vals.take i++ [v]++n.vals.drop i).length=(n.keys.take i++ [k]++n.keys.drop i).length
   rw[p,q,w,A];simp only[ct,iN];omega
  .have f:z∈n.vals.take i++ [v]++n.vals.drop i:=f
   simp only[cP,fh]at f;rcases f with (f|rfl)|f
   .exact h.vals z (fa f)
   .exact C
   .exact h.vals z (e_ f)
  .show(n.keys.take i++ [k]++n.keys.drop i).zip (n.vals.take i++ [v]++n.vals.drop i)=_
   rw[p,q,w,A,f,mc u,drop_left' u,cM,cM,oc I];rfl
  .rw[qc h.leaf,qc (n:={n with keys:=n.keys.take i++ [k]++n.keys.drop i,vals:=n.vals.take i++ [v]++n.vals.drop i}) h.leaf]
   show 1+(List.zipWith j7 (n.keys.take i++ [k]++n.keys.drop i) (n.vals.take i++ [v]++n.vals.drop i)).sum<=_;have au:(List.zipWith j7 (a++ [k]++b) (c++ [v]++d)).sum=(List.zipWith j7 a c).sum+(j7 k v+(List.zipWith j7 b d).sum):=by
    rw[cM,cM,oS I,lf];rfl
   have aw:(List.zipWith j7 (a++b) (c++d)).sum=(List.zipWith j7 a c).sum+(List.zipWith j7 b d).sum:=by
    rw[oS I,lf]
   rw[p,q,w,A,g,t,au,aw];have:=B.2;unfold j7;omega
  .have e:n.keys.take i++ [k]++n.keys.drop i=[]:=e
   simp at e
  .show n.keys.length<=(n.keys.take i++ [k]++n.keys.drop i).length
   rw[p,q,g];simp only[ct,iN];omega
  .have hs:s∈n.keys.take i++ [k]++n.keys.drop i:=hs
   simp only[cP,fh]at hs;rcases hs with (hs|rfl)|hs
   .exact .inr (fa hs)
   .exact .inl rfl
   .exact .inr (e_ hs)
def B_(T:aL)(aI:O Nat)(dT:O aH)(w:J)(v:aa)(w':J):Prop:=
 ∃an:aL,bJ w' an/\bL T an w w' 100/\an.E=T.E/\an.G=T.G/\
  ((v=.int .i64 2/\cc T<2*T.aE+3/\an=T)\/
   (v=.int .i64 0/\2*T.aE+3<=cc T/\(∃pages,cc T<=cc an+(2*T.aE+3)/\ga an pages dT/\pages.Nodup/\(∀no∈pages,no∈aI\/(T.f no||T.g no)=false)/\∀no,an.f no=true↔(no∈pages\/(T.f no=true/\no∉aI)))/\∀no,T.g no=true->an.P no=T.P no/\an.C.view no=T.C.view no)\/
   (v=.int .i64 3/\¬T.C.D.calm 100/\an.root=T.root/\an.aE=T.aE/\an.f=T.f/\∀no,(T.f no||T.g no)=true->an.P no=T.P no/\an.C.view no=T.C.view no))
theorem vQ.ae{T:aL}{aD:bZ}{aI:O Nat}{dT:O aH}{w w1 w':J}{v:aa}{k:Nat}(h:vQ (T.bg aD T.P) aI dT w1 v w')(e:bL T (T.bg aD T.P) w w1 k)(r:k<=40)(f:∀j,aD.view j=T.C.view j)(i:2*T.aE+3<=cc T):B_ T aI dT w v w':=by
 obtain⟨an,h1,h2,l,m,n⟩:=h;refine⟨an,h1,(e.trans h2).mono I,l,m,?_⟩;have o:cc (T.bg aD T.P)=cc T:=rfl;have p:(T.bg aD T.P).aE=T.aE:=rfl;rcases n with ⟨_,b,_⟩|⟨rfl,b,d,c⟩|⟨rfl,b,d,c,q,g⟩
 .rw[o,p]at b;omega
 .exact .inr (.inl ⟨rfl,i,d,λno a=>⟨(c no a).1,(c no a).2.trans (f no)⟩⟩)
 .exact .inr (.inr ⟨rfl,λhc=>b (e.calm 60 (f_ hc I)),d,c,q,λno a=>⟨(g no a).1,(g no a).2.trans (f no)⟩⟩)
theorem mV(w:J)(s:Y):aN aj 141 #[s] w (λv w'=>v=.bool (decide (1<=s.len/\s.len<=24))/\w=w'):=by
 refine okF (I7.mV s) I6.mV func141 ?_;unfold I7.mV;refine⟨?_,rfl⟩
 congr 1
 rw[fU,dX,cQ,cQ,cQ];omega
theorem yu{T:aL}{w:J}{pages:O Nat}{L:O aH}{k:Key}(h:bJ w T)(l:ga T pages L):∃steps,ni T.P k T.aE T.root steps/\
 ((steps=[]/\T.aE=0/\pages=[]/\L=[])\/(∃ (a:Nat) (bR:aB) (e5 dG:ao Key) (b:O (Nat×aB×Nat)) (f:O Nat) (c d:O aH),steps=b++ [(a,bR,0)]/\Ctx T.P k T.aE 1 e5 dG b f c d/\T.P a=some bR/\gQ bR/\bR.within e5 dG/\bR.keys≠ []/\(b≠ []->2<=bR.keys.length)/\fj e5 dG k/\
   pages.Perm (a::f)/\L=c++(bR.dF++d)/\∀u,Loc k u->u L=c++(u bR.dF++d))):=by
 rcases l with ⟨h1,h2,m,n⟩|g
 .exact⟨[],by rw[h1];rfl,.inl ⟨rfl,h1,m,n⟩⟩
 .cases i:T.aE with
  |zero=>rw[i]at g;exact g.elim
  |succ t=>
   rw[i]at g;obtain⟨rest,b,a,bR,e5,dG,f,c,d,r1,bY,af,bl,a7,o,p,q,r,j,s,v⟩:=Ctx.down (P:=T.P) (k:=k) (top:=t+1) (aT:=L) .top g (λh=>absurd rfl h) ⟨λ_ e=>(by cases e),λ_ e=>(by cases e)⟩ (by simp) (λu _=>by simp);rw[iM]at bY;rw[fO]at j;exact⟨rest,r1,.inr ⟨a,bR,e5,dG,b,f,c,d,bY,af,bl,a7,o,p,q,r,j,s,v⟩⟩
theorem ga.low{T:aL}{pages:O Nat}{L:O aH}(h:ga T pages L)(d:L.length<4096):T.aE<12/\pages.length<=L.length:=by
 rcases h with ⟨h1,_,a,_⟩|b
 .rw[h1,a];exact⟨I,cE _⟩
 .obtain⟨au,aw,c⟩:=b.pages
  refine⟨?_,au⟩;rcases dC T.aE 12 with h|h
  .exact h
  .have e:=c I
   have f:2^12<=2^T.aE:=sm (by decide) h;have g:(2:Nat)^12=4096:=by decide
   omega
theorem Ca{w1:J}{T:aL}{aD:bZ}{pages:O Nat}{L dT:O aH}{k:Key}{steps:O (Nat×aB×Nat)}{s:Y}{a:O dx}{bR b:aB}{K V D:Y}(h:bJ w1 (T.bg aD T.P))(H:¬aD.D.ro)(N:ga T pages L)(Q:L.length<4096)(c1:pages.Nodup)(hf:∀x∈pages,T.f x=true)(m:aD.D.aO<=900000000)
 (g:a.map dx.st=steps) (o:j6 (λq=>¬(T.bg aD T.P).M q) w1 s a) (R:bz (λq=>¬(T.bg aD T.P).M q) w1 b K V D) (p:gQ b) (S:(steps=[]/\T.aE=0/\pages=[]/\b.keys≠ []/\bF b<=232/\b.dF=dT)\/(∃ (d:Nat) (e5 dG:ao Key) (c:O (Nat×aB×Nat)) (i:O Nat) (j l:O aH),steps=c++ [(d,bR,0)]/\Ctx T.P k T.aE 1 e5 dG c i j l/\b.within e5 dG/\(c≠ []->b.keys≠ [])/\pages.Perm (d::i)/\dT=j++(b.dF++l)/\bF b<=282)):
 aN aj 150 #[.pointer (some T.aX),s,cW b K V D] w1 (vQ (T.bg aD T.P) pages dT w1):=by
 obtain⟨r,al⟩:=N.low Q;refine G4 h H m r c1 hf I λbU t ag aR u v U w y=>?_;have W:s.len=a.length:=by
  have:=o.own.1;rw[gK _ (nh a)]at this;omega
 have z:bz (λq=>¬((T.bg aD T.P).b_ bU t).M q) ag b K V D:=(v.bk (lo:=0) (R.aW λq _ n=>⟨cE _,n⟩)).aW λq _ n=>n.2;rcases S with ⟨h1,h2,X,Z,aa,ab⟩|⟨d,e5,dG,c,i,j,l,C,E,ac,ad,F,ae,af⟩
 .subst h1 X
  have ah:a=[]:=by simpa using g
  exact G2 (by rw[W,ah];rfl) u z m (by
   have e:cc ((T.bg aD T.P).b_ bU t)=cc (T.bg aD T.P):=rfl;omega) (by rw[w];simp) y p Z aa ab
 .have hlen:a.length=c.length+1:=by
   have:=congrArg List.length g;rw[C,dN,ct,iN]at this;exact this
  have am:1+c.length=T.aE:=E.eK;have ai:=o.to v;have G:(a.take (a.length-1)).map dx.st=c/\(a[a.length-1]'I).no=d:=by
   rw[C]at g;have au:(a.take (a.length-1)).map dx.st=(c++ [(d,bR,0)]).take (a.length-1):=by rw[←g,mH]
   refine⟨by rw[au];exact mc I,?_⟩;have aw:(a.map dx.st)[a.length-1]? =some (d,bR,0):=by
    rw[g,kL I];have:a.length-1-c.length=0:=by omega
    rw[this];rfl
   rw[lg,du I]at aw;have ak:=Option.some.inj aw;exact congrArg Prod.fst ak
  refine G1 (k:=k) (dS:=i) (A:=j) (B:=l) (M:=b.dF) (lo:=e5) (hi:=dG) u ai z I (by show a.length=T.aE;omega) r m U (by rw[w];simp) (by rw[y];simp) ?_ ⟨p,ac,rfl,rfl⟩ ae.symm ?_ af (λh=>ad λe=>?_) λx hx=>?_
  .rw[G.1]
   have:a.length=T.aE:=by omega
   rw[this];exact E
  .rw[G.2];exact F
  .rw[e]at hlen;simp at hlen;omega
  .exact hf x (F.mem_iff.2 (jO _ hx))
theorem j6.ext'{B C:Nat->Prop}{w w':J}{s:Y}{l:O dx}(h:j6 B w s l)(hx:Ext w w')(a:∀q,B q->C q):j6 C w' s l:=
 ⟨h.own.ext hx,λq b=>a q (h.oD q b),λx c=>((h.bk x c).ext hx).aW λq _ d=>a q d⟩
theorem qd{a:O dx}{b:O (Nat×aB×Nat)}{c:Nat}{bq:aB}(d:a.map dx.st=b++ [(c,bq,0)]):∃h:0<a.length,(a[a.length-1]'I).n=bq:=by
 have hlen:a.length=b.length+1:=by
  have:=congrArg List.length d;rw[dN,ct,iN]at this;exact this
 refine⟨I,?_⟩;have aw:(a.map dx.st)[a.length-1]? =some (c,bq,0):=by
  rw[d,kL I];have:a.length-1-b.length=0:=by omega
  rw[this];rfl
 rw[lg,du I]at aw;exact congrArg (λx=>x.2.1) (Option.some.inj aw)
theorem G6{w:J}{T:aL}{pages:O Nat}{L:O aH}{tk de:Y}{key val:Key}(h:bJ w T)(a6:¬T.C.D.ro)(H:ga T pages L)(ao:L.length<4096)(c1:pages.Nodup)(hf:∀x∈pages,T.f x=true)(b2:T.C.D.aO<=800000000)
 (Q:Src 1 w tk (aG key)) (R:∀q,az tk q->q<w.heap.size/\¬T.M q) (ap:Src 1 w de (aG val)) (a8:∀q,az de q->q<w.heap.size/\¬T.M q):
 aN aj 85 #[.pointer (some T.aX),tk,de] w (λv w'=>(v=.int .i64 1/\¬(cz key/\val.length<=24)/\w=w')\/(cz key/\val.length<=24/\B_ T pages (eN L key val) w v w')):=by
 have a9:=len8 Q;have av:=len8 ap;refine okF (I7.t_ (some T.aX) tk de) I6.t_ func85 ?_;(delta I7.t_ ai aF r1 ay ar b6 cl U a7 af q8 iA;dsimp only);refine cj (λb w'=>b= !(decide (cz key))/\w=w') (λq c=>⟨λh=>(by cases h),λ_=>(mV w tk).use ?_⟩) ?_
 .rintro _ _ ⟨rfl,rfl⟩
  refine⟨_,rfl,c _ _ ⟨?_,rfl⟩⟩;unfold cz;rw[a9]
 rintro _ _ ⟨rfl,rfl⟩;refine⟨λd=>.inl ⟨rfl,λhg=>?_,rfl⟩,λd=>?_⟩
 .rw[dm hg.1,av]at d
  have:¬(val.length:Int)>24:=by have:=hg.2;omega
  simp[this]at d
 have hg:cz key/\val.length<=24:=by
  by_cases h1:cz key
  .refine⟨h1,?_⟩
   rw[dm h1,av]at d;have:¬(val.length:Int)>24:=by simpa using d
   omega
  .rw[hD h1]at d;simp at d
 have b3:=h.s.bq;obtain⟨b5,b7⟩:=H.low ao;have ax:Ext w w.drew:=b4 w;have hd:=h.ext ax;refine aS ⟨λ_=>False,_,rfl,id,_,hd.cells.2.1,_,rfl,id,_,hd.cells.2.2.2.2,(yc hd.s).use ?_⟩;rintro _ b8 ⟨rfl,aA⟩;have a_:((T.n:Int)-eQ (λi=>T.f i||T.g i) T.n)=(cc T:Nat):=by
  have:=mj (λi=>T.f i||T.g i) T.n;unfold cc;omega
 have ba:IntKind.wrap .i64 (IntKind.wrap .i64 (2*(T.aE:Int))+3)=((2*T.aE+3:Nat):Int):=by
  rw[bu (n:=2*(T.aE:Int)) I I,bu I I];omega
 rw[a_,ba];have o:=ax.trans aA;have S:=h.ext o;refine⟨_,rfl,aA,λd=>.inr ⟨hg.1,hg.2,T,S,(bL.ext T o).mono I,rfl,rfl,.inl ⟨rfl,?_,rfl⟩⟩,λd=>?_⟩
 .have d:((cc T:Nat):Int)<((2*T.aE+3:Nat):Int):=b1 d
  omega
 have bb:2*T.aE+3<=cc T:=by
  have:¬((cc T:Nat):Int)<((2*T.aE+3:Nat):Int):=cp d;omega
 obtain⟨steps,aC,aI⟩:=yu (k:=key) S H;refine(yg S I (Q.ext o) (λq c=>⟨fN (R q c).1 o.size,(R q c).2⟩) aC).use ?_;rintro _ z ⟨aD,W,X,aJ,be⟩;have u:=((bL.ext T o).trans X).mono (l:=2*T.aE) I;rcases be with ⟨s,a,rfl,m,Z⟩|⟨rfl,bf⟩
 rotate_left
 .refine⟨⟨none,0,0⟩,3,rfl,λ_=>.inr ⟨hg.1,hg.2,T.bg aD T.P,W,u.mono I,rfl,rfl,.inr (.inr ⟨rfl,λhc=>bf (f_ hc I),rfl,rfl,rfl,λno _=>⟨rfl,aJ no⟩⟩)⟩,λhx=>(by cases hx)⟩
 have b_:s.len=a.length:=by
  have:=Z.own.1;rw[gK _ (nh a)]at this;omega
 have ca:=o.size;have cb:a.length=T.aE:=by
  have:=aC.length;rw[←m,dN]at this;exact this
 refine⟨s,0,rfl,λhx=>(by cases hx),λ_=>bd (vs:=[false,(),(),()]) rfl λcd aK bh ce=>⟨aK.b9 rfl (fD (b:=true) (K:=bc) (V:=bc) (D:=bc)),rfl,cu aK (us:=dM ⟨true,[],[],[]⟩ bc bc bc) rfl rfl λbi E bm cf=>?_⟩⟩;have aa:Ext z bi:=Ext.cm bh bm (bn _);obtain⟨hA,bo⟩:∃hA,hA=z.heap.size:=⟨_,rfl⟩;rw[←bo]at E⊢
 obtain⟨bR,j⟩:∃bR:aB,bR=(if cg:0<a.length then (a[a.length-1]'I).n else ⟨true,[],[],[]⟩):=⟨_,rfl⟩;refine hF (λp=>∃ (K V D:Y) (B:Nat->Prop),Ext z p/\Var p hA (dM bR K V D) 202/\bz B p bR K V D) (λq c=>⟨λab=>?_,λab=>?_⟩) ?_
 .have ac:0<a.length:=by
   have:(s.len:Int)>0:=b1 ab;omega
  rw[dif_pos ac]at j;have e:IntKind.wrap .i64 ((s.len:Int)-1)=((a.length-1:Nat):Int):=by rw[bu I I];omega
  obtain⟨A,aq,_,_,_,hu⟩:=Z.at (i:=a.length-1) I;have F:=hu.ext aa;rw[e,c8];subst j;refine⟨A,aq,⟨I,I⟩,_,F.ay,_,F.aR,_,F.aF,_,F.c9,E.b9 rfl fD,rfl,cu E (us:=dM (a[a.length-1]'I).n (a[a.length-1]'I).K (a[a.length-1]'I).V (a[a.length-1]'I).D) rfl rfl λbp bs bt ch=>?_⟩;have aM:Ext z bp:=Ext.cm aa bt I;exact c _ ⟨_,_,_,_,aM,bs,hu.bk.ext aM⟩
 .have ac:¬0<a.length:=by
   have:¬(s.len:Int)>0:=cp ab;omega
  rw[dif_neg ac]at j;subst j;exact c _ ⟨bc,bc,bc,λ_=>True,aa,E,bj.none _ _,bj.none _ _,cH.none _ _⟩
 rintro p ⟨K,V,D,B,G,bv,bx⟩;have ci:=G.size;have ck:=X.ae.size
 have bA:gQ bR/\bF bR<=232:=by
  rcases aI with ⟨h1,h2,r,t⟩|⟨aP,bq,e5,dG,aQ,aT,aU,aV,bY,af,bl,a7,aY,bB,bD,aZ,a0,bE,a1⟩
  .have ad:¬0<a.length:=by
    rw[h1]at m;have:a=[]:=by simpa using m
    rw[this];simp
   rw[j,dif_neg ad];exact⟨⟨⟨λ_ h=>(by cases h),List.Pairwise.nil⟩,rfl,rfl,rfl,λ_ h=>(by cases h)⟩,by decide⟩
  .rw[bY]at m
   obtain⟨au,aw⟩:=qd m;rw[j,dif_pos au,aw];exact⟨a7,h.nj _ _ bl⟩
 obtain⟨ag,co⟩:=bA;have cq:=(cC.eG (.inl ag) I);have cr:∀q,T.N q->q<w.heap.size:=λq c=>h.lt (aL.gh c);have bG:Src 1 p tk (aG key):=(Q.ae u.ae λq c ah=>(R q c).2 (aL.gh ah)).ext G;have bH:Src 1 p de (aG val):=(ap.ae u.ae λq c ah=>(a8 q c).2 (aL.gh ah)).ext G;obtain⟨d0,d1,d2,d3⟩:=bC bv;refine⟨_,d0,K,d1,V,d2,D,d3,(pE bx ag I bG bH hg.1 hg.2).use ?_⟩;rintro _ bK ⟨cD,cN,cn,rfl,bM,bN⟩;refine⟨_,cD,cN,cn,true,rfl,bd (vs:=[false,(),(),()]) rfl λcs a2 bO ct=>⟨a2.b9 rfl fD,rfl,cu a2 (us:=dM (g_ bR key val) cD cN cn) rfl rfl λa3 bP bQ cv=>⟨λhx=>(by cases hx),λ_=>?_⟩⟩⟩;have a4:Ext bK a3:=Ext.cm bO bQ (bn _);have ak:=(G.trans bN).trans a4;obtain⟨d0,d1,d2,d3⟩:=bC bP;obtain⟨bw,br,bS,al,bT,a5⟩:=G5 ag hg.1 hg.2;have bU:aD.D.aO<=900000000:=by
  have:aD.D.aO<=T.C.D.aO+2*T.aE:=u.aO;omega
 have bV:bz (λq=>¬(T.bg aD T.P).M q) a3 (g_ bR key val) cD cN cn:=(bM.ext a4).aW λq _ c bW=>by have:=W.lt bW;omega
 have bX:=Ca (dT:=eN L key val) (k:=key) (steps:=steps) (bR:=bR) (W.ext ak) (λe=>a6 λi=>X.bI.1▸e i) H ao c1 hf bU m (Z.ext' ak λq c=>c.2) bV bw (by
  rcases aI with ⟨h1,h2,r,t⟩|⟨aP,bq,e5,dG,aQ,aT,aU,aV,bY,af,bl,a7,aY,bB,bD,aZ,a0,bE,a1⟩
  .have ad:¬0<a.length:=by omega
   rw[dif_neg ad]at j;refine .inl ⟨h1,h2,r,al,?_,?_⟩
   .have:bF bR=1:=by rw[j];rfl
    omega
   .rw[br,j,t];rfl
  .rw[bY]at m
   obtain⟨au,aw⟩:=qd m;rw[dif_pos au,aw]at j;rw[j]at br bS al bT a5⊢;refine .inr ⟨aP,e5,dG,aQ,aT,aU,aV,bY,af,λs hs=>?_,λ_=>al,a0,?_,by have:=h.nj _ _ bl;omega⟩
   .rcases a5 s hs with rfl|am
    .exact aZ
    .exact aY s am
   .rw[br];exact a1 (λL=>eN L key val) (EV key val))
 refine⟨_,d0,cD,d1,cN,d2,cn,d3,bX.use ?_⟩;intro v w' bZ;have b0:=bZ.ae (w:=w) ((u.trans (bL.ext (T.bg aD T.P) ak)).mono (l:=40) I) (bn _) aJ bb;obtain⟨an,h1,h2,r,t,am⟩:=b0;rcases am with ⟨rfl,y⟩|⟨rfl,y⟩|⟨rfl,y⟩
 .exact⟨2,rfl,.inr ⟨hg.1,hg.2,an,h1,h2,r,t,.inl ⟨rfl,y⟩⟩⟩
 .exact⟨0,rfl,.inr ⟨hg.1,hg.2,an,h1,h2,r,t,.inr (.inl ⟨rfl,y⟩)⟩⟩
 .exact⟨3,rfl,.inr ⟨hg.1,hg.2,an,h1,h2,r,t,.inr (.inr ⟨rfl,y⟩)⟩⟩
end Go.Proofs.YtkdhdlfonmgheaaGreat
