/- Contracts of the functions that the statement reaches, and the plain laws over them; each theorem stands with its conditions. -/
import Derived.Laws.Small
import Derived.Test.YtkdhdlfonmgheaaGreatBRoom3
namespace Go.Proofs.YtkdhdlfonmgheaaGreat
open Go a6 Go.Proofs.Tryz
theorem EE(w:J)(x:Int):Sem.run ak (Instr.buildSlice 326 1 #[(0,.agg #[(),x])]) w=
 .ok (.slice (some w.heap.size) 1 1) (w.alloc (.cells #[(),x] 334)):=by kernel_rfl
theorem EF(w:J)(x y:Int)(t:Y):Sem.run ak (Instr.buildSlice 326 2 #[(0,.agg #[(),x]),(1,.agg #[t,y])]) w=
 .ok (.slice (some w.heap.size) 2 2) (w.alloc (.cells #[(),x,t,y] 334)):=by kernel_rfl
theorem cv.vA{n:aA}(h:cv n)(h1:1<=b4 n)(h2:if n.leaf then b4 n<=n.keys.length-1/\1<=n.keys.length-1 else b4 n<=n.keys.length-2/\1<=n.keys.length-2):cv (n.left (b4 n))/\cv (n.right (b4 n)):=by
 rcases h with h|h
 .have a:=h.leaf
  rw[if_pos a]at h2;unfold aA.left aA.right;rw[if_pos a,if_pos a];have hlen:=h.len;refine⟨.inl ⟨⟨λk b=>h.ok k (eS b),h.e_.sublist (List.take_sublist _ _)⟩,rfl,?_,rfl,λv c=>h.vals v (eS c)⟩,.inl ⟨⟨λk b=>h.ok k (eJ b),h.e_.sublist (List.drop_sublist _ _)⟩,rfl,?_,rfl,λv c=>h.vals v (eJ c)⟩⟩
  .simp only[cC];omega
  .simp only[cX];omega
 .have a:=h.inner
  rw[if_neg (by rw[a];simp)]at h2;unfold aA.left aA.right;rw[if_neg (by rw[a];simp),if_neg (by rw[a];simp)];have hlen:=h.len;refine⟨.inr ⟨⟨λk b=>h.ok k (eS b),h.e_.sublist (List.take_sublist _ _)⟩,rfl,?_,?_,rfl,λv c=>h.kids v (eS c)⟩,.inr ⟨⟨λk b=>h.ok k (eJ b),h.e_.sublist (List.drop_sublist _ _)⟩,rfl,?_,?_,rfl,λv c=>h.kids v (eJ c)⟩⟩
  .intro e
   have:=congrArg List.length e;simp only[cC,jQ]at this;omega
  .simp only[cC];omega
  .intro e
   have:=congrArg List.length e;simp only[cX,jQ]at this;omega
  .simp only[cX];omega
def j9(B:Nat->Prop)(w:J)(s:Y)(ks:O Key)(kids:O Nat):Prop:=
 (∃b x,s=⟨some ⟨b,0,none⟩,1,1⟩/\ks=[]/\kids=[x]/\Var w b [.slice none 0 0,.int .i64 (x:Nat)] 334/\B b)\/
 (∃b x y k t,s=⟨some ⟨b,0,none⟩,2,2⟩/\ks=[k]/\kids=[x,y]/\Var w b [.slice none 0 0,.int .i64 (x:Nat),.slice t.a t.len t.cap,.int .i64 (y:Nat)] 334/\B b/\bk B w t k/\k≠ [])
def gS(T:aL)(c:dh)(n:aA)(w:J)(v:aa)(w':J):Prop:=
 ∃ (ao:aL) (c':dh) (m:O Nat) (s:Y),c4 w' ao c'/\c5 T ao c c' m [] w w' 2/\m.length<=2/\
  ((∃ks,v=.tuple #[s,(0:Int)]/\k7 ao.P n ks m/\j9 (λq=>¬ao.M q) w' s ks m)\/(v=.tuple #[s,(3:Int)]/\¬T.C.D.calm 2))
theorem Ag{B:Nat->Prop}{w:J}{T:aL}{c:dh}{n:aA}{K V D:Y}(h:c4 w T c)(k:T.C.D.aM<=900000100)(l:1<=b3 T)(m:c.made.length<=1000)(o:br B w n K V D)(hs:cv n)(h2:bz n<=232):
 aP ak 251 #[.pointer (some c.cb),cQ n K V D] w (gS T c n w):=by
 refine okF (af.th (some c.cb) n.leaf K V D) az.th func251 ?_;(delta af.th a8 U ag e2;dsimp only);refine bl (vs:=[n.leaf,K,V,D]) rfl λw1 p b y=>?_;obtain⟨bI,aB,aT,aH⟩:=bw p;refine⟨_,bI,K,aB,V,aT,D,aH,(uf (h.ext b) k l m (o.ext b) hs h2).use ?_⟩;rintro _ a ⟨no,ao,c',d,q,r⟩;have f:∀ (e:Int),((e=0/\ao.P no=some n)\/(e=3/\¬T.C.D.calm 1))->∃ (g:Y) (i:J),Sem.run ak (Instr.buildSlice 326 1 #[(0,.agg #[(),no])]) a=.ok g i/\gS T c n w (.tuple #[g,e]) i:=by
  intro e he;refine⟨⟨some a.heap.size,1,1⟩,_,EE a _,?_⟩;have j:=eu a (.cells #[(),no] 334);have s:c5 T ao c c' [no] [] w (a.alloc (.cells #[(),no] 334)) 2:=(((c5.ext T c b).trans q).trans (c5.ext ao c' j)).mono I;refine⟨ao,c',[no],⟨some a.heap.size,1,1⟩,d.ext j,s,by simp,?_⟩;rcases he with ⟨rfl,he⟩|⟨rfl,he⟩
  .refine .inl ⟨[],rfl,.inl ⟨h2,no,rfl,rfl,he⟩,.inl ⟨_,no,rfl,rfl,rfl,Var.new a [(),no] 334,λu=>?_⟩⟩
   have:=d.t.lt u;omega
  .exact .inr ⟨rfl,λhc=>he (fJ hc I)⟩
 rcases r with ⟨rfl,v⟩|⟨rfl,x⟩
 .exact⟨_,0,rfl,f 0 (.inl ⟨rfl,v⟩)⟩
 .exact⟨_,3,rfl,f 3 (.inr ⟨rfl,x⟩)⟩
theorem fj{b:ai}{K V D:Y}:∀v∈ [.bool b,.slice K.a K.len K.cap,.slice V.a V.len V.cap,.slice D.a D.len D.cap],Plain v:=by
 intro v c;simp only[cP,eE,eL]at c;rcases c with rfl|rfl|rfl|rfl<;>trivial
theorem EG{B:Nat->Prop}{w:J}{T:aL}{c:dh}{n:aA}{K V D:Y}(h:c4 w T c)(a0:T.C.D.aM<=900000090)(a1:2<=b3 T)(a2:c.made.length<=900)(ai:br B w n K V D)(hs:cv n)(h2:232<bz n)(a3:bz n<=400)(h1:1<=b4 n)
 (l:if n.leaf then b4 n<=n.keys.length-1/\1<=n.keys.length-1 else b4 n<=n.keys.length-2/\1<=n.keys.length-2) (aj:bz (n.left (b4 n))<=232) (am:bz (n.right (b4 n))<=232):
 aP ak 294 #[.pointer (some c.cb),cQ n K V D] w (gS T c n w):=by
 obtain⟨sl,an⟩:=hs.vA h1 l;have a4:=hs.fH I;have a:b4 n<n.keys.length:=by
  split at l<;>omega
 refine okF (af.tr (some c.cb) n.leaf K V D) az.tr func294 ?_;(delta af.tr a8 U ag n_ cc al e2;dsimp only);refine bl (vs:=[n.leaf,K,V,D]) rfl λw1 ao E a5=>?_;obtain⟨bI,aB,aT,aH⟩:=bw ao;refine⟨_,bI,K,aB,V,aT,D,aH,(oH (ai.ext E) hs I h1 l).use ?_⟩;rintro _ ap ⟨cU,c8,bd,cq,cy,b9,t,rfl,aq,ar,ht,au⟩;refine⟨_,cU,c8,bd,t,_,cq,cy,b9,true,rfl,bl (vs:=[false,(),(),()]) rfl λa6 av aw a7=>bl (vs:=[false,(),(),()]) rfl λa9 ax F a_=>?_⟩;have G:=av.ext F;refine⟨G.b2 rfl fj,rfl,cp G (us:=[.bool (n.left (b4 n)).leaf,cU,c8,bd]) rfl rfl λba ay H bb=>?_⟩;have L:=ax.ab H I;refine⟨L.b2 rfl fj,rfl,cp L (us:=[.bool (n.right (b4 n)).leaf,cq,cy,b9]) rfl rfl λm aC O bc=>⟨λa=>(by cases a),λ_=>?_⟩⟩;have aD:=ay.ab O I;have Q:=E.trans au;have i:Ext ap m:=Ext.ck (Ext.ck (aw.trans F) H I) O I;have o:=Q.trans i;have be:=Q.size;have bf:=i.size;obtain⟨d0,d1,d2,d3⟩:=bw aD;refine⟨_,d0,cU,d1,c8,d2,bd,d3,(uf (h.ext o) I I I (aq.ext i) sl aj).use ?_⟩;rintro _ aE ⟨x,bK,R,p,b,aF⟩;have r:∀q,T.N q->q<w.heap.size:=λq d=>h.t.lt (aL.gm d);have bg:=b.to.ab.size;rcases aF with ⟨rfl,S⟩|⟨rfl,s⟩
 .have aG:=aC.ab b.to.ab λd=>by have:=r _ d;omega
  obtain⟨d0,d1,d2,d3⟩:=bw aG;have aI:br (λq=>w1.heap.size<=q) aE (n.right (b4 n)) cq cy b9:=(ar.ext i).ab b.to.ab λq d u=>by have:=r _ u;omega
  have aJ:bK.C.D.aM<=900000100:=eI b.to.aM (by clear p b S;omega);have aK:=b.room;have bh:R.made.length=c.made.length+1:=by rw[b.made,cF];rfl
  simp only[ie]at aK;have W:=uf p aJ I I aI an am;rw[b.cb]at W;refine⟨x,0,rfl,λa=>(by cases a),λ_=>⟨_,d0,cq,d1,cy,d2,b9,d3,W.use ?_⟩⟩;rintro _ g ⟨y,b7,X,Z,k,aN⟩;have bi:=k.to.ab.size;have aO:=((c5.ext T c o).trans b).trans k;have aQ:n.keys.getD (b4 n) []=n.keys[b4 n]:=by rw[fg,dE a];rfl
  have aR:=ht.ext i;have aS:bk (λq=>¬b7.M q) g t n.keys[b4 n]:=by
   rw[←aQ];have aU:bk (λq=>q<m.heap.size/\w1.heap.size<=q) m t (n.keys.getD (b4 n) []):=bk.aV aR λq d a=>⟨d,a⟩;have aa:=(b.trans k).to;refine bk.aV (bk.ab aU aa.ab λq d u=>by have:=r _ u;omega) λq _ a v=>?_;rcases aa.cS q v with ac|ac
   .have:=h.t.lt ac;omega
   .omega
  have aW:n.keys[b4 n]≠ []:=by
   have aX:cD n.keys[b4 n]:=by
    rcases hs with hs|hs
    .exact hs.ok _ (cr a)
    .exact hs.ok _ (cr a)
   intro e;have:=aX.1;rw[e]at this;simp at this
  have z:=eu g (.cells #[(),x,t,y] 334);have A:=(aO.trans (c5.ext b7 X z)).mono (j:=2) I;have ad:∀ (e:Int),((e=0/\b7.P y=some (n.right (b4 n)))\/(e=3/\¬bK.C.D.calm 1))->∃ (ae:Y) (ah:J),Sem.run ak (Instr.buildSlice 326 2 #[(0,.agg #[(),x]),(1,.agg #[t,y])]) g=.ok ae ah/\
   gS T c n w (.tuple #[ae,e]) ah:=by
   intro e he;refine⟨⟨some g.heap.size,2,2⟩,_,EF g _ _ t,b7,X,[x,y],⟨some g.heap.size,2,2⟩,Z.ext z,A,by simp,?_⟩;rcases he with ⟨rfl,he⟩|⟨rfl,he⟩
   .have aY:b7.P x=some (n.left (b4 n)):=by
     rw[(k.ee x (by rw[b.f];simp)).1,S]
    refine .inl ⟨[n.keys[b4 n]],rfl,.inr ⟨h2,x,y,a,rfl,rfl,aY,he⟩,.inr ⟨_,x,y,_,t,rfl,rfl,rfl,Var.new g [(),x,t,y] 334,λv=>?_,bk.ext aS z,aW⟩⟩;have:=Z.t.lt v;omega
   .exact .inr ⟨rfl,λhc=>he (b.to.calm 1 (fJ hc I))⟩
  rcases aN with ⟨rfl,aZ⟩|⟨rfl,s⟩
  .exact⟨_,0,rfl,ad 0 (.inl ⟨rfl,aZ⟩)⟩
  .exact⟨_,3,rfl,ad 3 (.inr ⟨rfl,s⟩)⟩
 .have A:=((c5.ext T c o).trans b).mono (j:=2) I
  exact⟨_,3,rfl,λ_=>⟨bK,R,[x],bn,p,A,by simp,.inr ⟨rfl,λhc=>s (fJ hc I)⟩⟩,λa=>(by cases a)⟩
theorem ug{B:Nat->Prop}{w:J}{T:aL}{c:dh}{n:aA}{K V D:Y}(h:c4 w T c)(t:T.C.D.aM<=900000090)(u:2<=b3 T)(x:c.made.length<=900)(f:br B w n K V D)(hs:cv n)(y:bz n<=400)
 (h2:232<bz n->1<=b4 n/\(if n.leaf then b4 n<=n.keys.length-1/\1<=n.keys.length-1 else b4 n<=n.keys.length-2/\1<=n.keys.length-2)/\bz (n.left (b4 n))<=232/\bz (n.right (b4 n))<=232):
 aP ak 281 #[.pointer (some c.cb),cQ n K V D] w (gS T c n w):=by
 have A:=hs.fH I;refine okF (af.tn (some c.cb) n.leaf K V D) az.tn func281 ?_;(delta af.tn a8 U ag aB al b8;dsimp only);refine bl (vs:=[n.leaf,K,V,D]) rfl λw1 o p E=>?_;obtain⟨bI,aB,aT,aH⟩:=bw o;refine⟨_,bI,K,aB,V,aT,D,aH,(mV (f.ext p) hs I).use ?_⟩;rintro _ z ⟨rfl,q⟩;have a:=p.trans q;obtain⟨d0,d1,d2,d3⟩:=bw (o.ext q);have fin:∀ (v:aa) (w':J),gS T c n z v w'->∃s:Y,∃e:Int,v=.tuple #[s,e]/\gS T c n w (.tuple #[s,e]) w':=by
  rintro v w' ⟨ao,c',m,s,av,ax,d,i⟩;have r:=((c5.ext T c a).trans ax).mono (j:=2) I;rcases i with ⟨ks,rfl,k⟩|⟨rfl,k⟩
  .exact⟨s,0,rfl,ao,c',m,s,av,r,d,.inl ⟨ks,rfl,k⟩⟩
  .exact⟨s,3,rfl,ao,c',m,s,av,r,d,.inr ⟨rfl,k⟩⟩
 refine⟨_,rfl,λb=>⟨_,d0,K,d1,V,d2,D,d3,?_⟩,λb=>⟨_,d0,K,d1,V,d2,D,d3,?_⟩⟩
 .have b:((bz n:Nat):Int)>232:=b_ b
  obtain⟨av,ax,d,i⟩:=h2 I;refine(EG (h.ext a) t u x (f.ext a) hs I y av ax d i).use ?_;rintro v w' l;obtain⟨s,e,rfl,g⟩:=fin v w' l;exact⟨s,e,rfl,g⟩
 .have b:¬((bz n:Nat):Int)>232:=cG b
  refine(Ag (h.ext a) I I I (f.ext a) hs I).use ?_;rintro v w' l;obtain⟨s,e,rfl,g⟩:=fin v w' l;exact⟨s,e,rfl,g⟩
theorem Ah{B:Nat->Prop}{w:J}{s:Y}{ls:O Key}(h:bf B w s ls)(p:ls.length<=100000):
 aP ak 284 #[s] w (λv w'=>∃b:Y,v=b/\bh (λq=>(B q/\q<w.heap.size)\/(w.heap.size<=q/\aC b q)) w' b ls/\Ext w w'/\gl w b):=by
 have r:=bf.len h;obtain⟨ts,av,ax,t,u,l⟩:=h;refine okF (af.si s) az.si func284 ?_;delta af.si al U;refine⟨λd=>?_,λ_=>?_⟩
 .have d:s.a=none:=by simpa using d
  have h0:=ax.nil d;have:ls=[]:=List.eq_nil_of_length_eq_zero (by rw[←av];have:=congrArg List.length h0;simpa using this);subst this;exact⟨⟨none,0,0⟩,rfl,bh.none _ _,.refl _ _,λk e=>(gu k e).elim⟩
 .obtain⟨b,w',h1,h2,x,j,f,_⟩:=oP.clone (dG:=127) ax (tO ts) I
  refine aY ⟨b,w',h1,b,rfl,⟨ts,av,h2,λq c=>⟨.inr ⟨f q c,c⟩,h2.lt q c⟩,λi m n=>?_⟩,j,f⟩;have a:=l i m n;exact⟨bk.aV (bk.ext (bk.aV (C:=λq=>B q/\q<w.heap.size) a λq c g=>⟨g,c⟩) j) λq _ g=>.inl g,λk e o=>by have:=f k o;have:=(a.2.2 k e).2;omega⟩
theorem j9.at{B:Nat->Prop}{w:J}{s:Y}{ks:O Key}{kids:O Nat}(h:j9 B w s ks kids):s.len=kids.length/\kids.length=ks.length+1/\kids.length<=2/\∀ (j:Nat) (d:j<kids.length),∃ (A:ae) (t:Y),s.a=some A/\w.cell? (A.add (j*2))=some (.slice t.a t.len t.cap)/\w.cell? ((A.add (j*2)).add 1)=some (.int .i64 ((kids[j]:Nat):Int))/\
 ((t.a=none/\ks.take j=ks.take (j-1))\/(t.a.isSome=true/\∃k,bk B w t k/\ks.take j=ks.take (j-1)++ [k])):=by
 rcases h with ⟨b,x,rfl,rfl,rfl,c,e⟩|⟨b,x,y,k,t,rfl,rfl,rfl,c,e,ht,f⟩
 .refine⟨rfl,rfl,by simp,λj d=>?_⟩
  have:j=0:=by simp at d;omega
  subst this;exact⟨_,⟨none,0,0⟩,rfl,by rw[ay];exact c.cell,by rw[ay,ay];exact c.cell,.inl ⟨rfl,rfl⟩⟩
 .refine⟨rfl,rfl,by simp,λj d=>?_⟩
  rcases dR j 1 with h1|h1
  .have:j=0:=by omega
   subst this;exact⟨_,⟨none,0,0⟩,rfl,by rw[ay];exact c.cell,by rw[ay,ay];exact c.cell,.inl ⟨rfl,rfl⟩⟩
  .have:j=1:=by simp at d;omega
   subst this;obtain⟨A,ar⟩:=bk.some ht f;exact⟨_,t,rfl,by rw[ay];exact c.cell,by rw[ay,ay];exact c.cell,.inr ⟨by rw[ar];rfl,k,ht,rfl⟩⟩
theorem j9.ext{B:Nat->Prop}{w w':J}{s:Y}{ks:O Key}{kids:O Nat}(h:j9 B w s ks kids)(hx:Ext w w'):j9 B w' s ks kids:=by
 rcases h with ⟨b,x,h1,h2,a,c,d⟩|⟨b,x,y,k,t,h1,h2,a,c,d,ht,e⟩
 .exact .inl ⟨b,x,h1,h2,a,c.ext hx,d⟩
 .exact .inr ⟨b,x,y,k,t,h1,h2,a,c.ext hx,d,bk.ext ht hx,e⟩
theorem EH{w:J}{nb o:Nat}{vs:O aa}{S t:Y}{ls:O Key}{l:Key}{B:Nat->Prop}{T:TypeId}(d:Var w nb vs T)(n:o<vs.length)(f:bh B w S ls)(g:¬B nb)
 (ht:bk B w t l) (hd:∀k,aC t k->¬aC S k) (E:ls.length<=100000) {K:J->Prop}
 (p:∀ (w':J) (aJ:Y),Var w' nb (vs.set o aJ) T->bh (Grow B w w') w' aJ (ls++ [l])->ad (λq=>q=nb\/aC S q) w w'->(∀k,aC aJ k->aC S k\/w.heap.size<=k)->K w'):
 an (w.alloc (.cells #[t] 48)) λr=>∃i:Y,∃b:J,Sem.run ak (Builtin.append_ #[127,127] 127 #[S,.slice (some w.heap.size) 1 1]) r=.ok i b/\
  (∃u:aa,b.cell? (Addr.add nb o)=some u)/\b.frozen? (Addr.add nb o)=false/\an (b.setCell (Addr.add nb o) i) λs=>K s:=by
 have v:=bh.aV (C:=λq=>B q\/w.heap.size<=q) f λk _ h=>.inl h;have x:=bk.aV (C:=λq=>B q\/w.heap.size<=q) ht λk _ h=>.inl h;obtain⟨c,w',av,ax,j,y⟩:=y8 v x hd I λk a=>.inr a;have F:=d.lt;have z:¬aC S nb:=λh=>by
  obtain⟨ts,_,_,A,_⟩:=f;exact g (A nb h).1
 have m:=d.ab j z;obtain⟨aB,aT⟩:=dB m n;refine aY ⟨c,w',av,?_⟩;rw[ay,cE];have hc:=dg w' nb o c;refine⟨aB,aT,aY (p _ c (dI m _) ?_ ?_ y)⟩
 .have D:=bh.aV (C:=Grow B w (w'.setCell ⟨nb,o,none⟩ c)) ax λk a h=>by
   rcases h with h|h
   .exact .inl h
   .exact .inr ⟨h,fl a hc.size⟩
  refine bh.ab D hc λk a e=>?_;subst e;rcases a with h|h
  .exact g h
  .omega
 .exact(j.mono λk _ a=>.inr a).trans (hc.mono λk _ a=>.inl a)
def uh(B:Nat->Prop)(n:aA)(fr to:Nat)(ks:O Key)(kids:O Nat)(w:J)(v:aa)(w':J):Prop:=
 ∃K V D:Y,v=cQ (ft n fr to ks kids) K V D/\br (λq=>B q\/w.heap.size<=q) w' (ft n fr to ks kids) K V D/\Ext w w'
def wJ(nb aG e:Nat)(l:Y)(to:Int)(bY:J)(Q:aa->J->Prop):Prop:=
 ∃ (C:Int->J->Prop) (H:Int->J->Nat),C 0 bY/\∀ (n19:Int) (b:J),C n19 b->((decide ((n19:Int)<(l.len:Int)))=true->∃D:ae,l.a=some D/\((0:Int)<=n19/\n19<(l.len:Int))/\∃h:Y,b.cell? (D.add (Int.toNat n19*2))=some (.slice h.a h.len h.cap)/\∃n23:Int,b.cell? ((D.add (Int.toNat n19*2)).add 1)=some (.int .i64 n23)/\an (b.alloc (.cells #[(),(0:Int)] 334)) λI=>bt I b.heap.size [h,n23]/\(2:Nat)=2/\an (setCells I b.heap.size 0 [h,n23]) λf=>bL (λK:J->Prop=>∃i:Y,f.cell? b.heap.size=some (.slice i.a i.len i.cap)/\((!(Option.isNone i.a))=true->∃o:Y,f.cell? (Addr.add aG 1)=some (.slice o.a o.len o.cap)/\∃p:Y,f.cell? b.heap.size=some (.slice p.a p.len p.cap)/\an (f.alloc (.cells #[p] 48)) λS=>∃L:Y,∃q:J,Sem.run ak (Builtin.append_ #[127,127] 127 #[o,.slice (some f.heap.size) 1 1]) S=.ok L q/\(∃u:aa,q.cell? (Addr.add aG 1)=some u)/\q.frozen? (Addr.add aG 1)=false/\an (q.setCell (Addr.add aG 1) L) λT=>K T)/\((!(Option.isNone i.a))=false->K f)) (λ(r:J)=>∃s:Y,r.cell? (Addr.add aG 3)=some (.slice s.a s.len s.cap)/\∃n36:Int,r.cell? (Addr.add b.heap.size 1)=some (.int .i64 n36)/\an (r.alloc (.cells #[n36] 3)) λU=>∃M:Y,∃t:J,Sem.run ak (Builtin.append_ #[58,58] 58 #[s,.slice (some r.heap.size) 1 1]) U=.ok M t/\(∃u:aa,t.cell? (Addr.add aG 3)=some u)/\t.frozen? (Addr.add aG 3)=false/\an (t.setCell (Addr.add aG 3) M) λN=>C (IntKind.wrap .i64 (n19+1)) N/\H (IntKind.wrap .i64 (n19+1)) N<H n19 b))/\((decide ((n19:Int)<(l.len:Int)))=false->an (b.drew) λE=>¬False/\∃v:Y,E.cell? (Addr.add aG 1)=some (.slice v.a v.len v.cap)/\¬False/\∃c:Y,E.cell? (Addr.add nb 1)=some (.slice c.a c.len c.cap)/\((0:Int)<=(IntKind.wrap .i64 (to-1))/\(IntKind.wrap .i64 (to-1))<=(c.len:Int))/\∃O:Y,∃w:J,Sem.run ak (Builtin.append_ #[127,127] 127 #[v,.slice (aO c.a 1 (Int.toNat (IntKind.wrap .i64 (to-1))) c.cap) (c.len-(Int.toNat (IntKind.wrap .i64 (to-1)))) (c.cap-(Int.toNat (IntKind.wrap .i64 (to-1))))]) E=.ok O w/\(∃u:aa,w.cell? (Addr.add aG 1)=some u)/\w.frozen? (Addr.add aG 1)=false/\an (w.setCell (Addr.add aG 1) O) λV=>an (V.drew) λF=>¬False/\∃x:Y,F.cell? (Addr.add aG 3)=some (.slice x.a x.len x.cap)/\¬False/\∃d:Y,F.cell? (Addr.add nb 3)=some (.slice d.a d.len d.cap)/\((0:Int)<=to/\to<=(d.len:Int))/\∃P:Y,∃y:J,Sem.run ak (Builtin.append_ #[58,58] 58 #[x,.slice (aO d.a 1 (Int.toNat to) d.cap) (d.len-(Int.toNat to)) (d.cap-(Int.toNat to))]) F=.ok P y/\(∃u:aa,y.cell? (Addr.add aG 3)=some u)/\y.frozen? (Addr.add aG 3)=false/\an (y.setCell (Addr.add aG 3) P) λg=>∃G:ai,g.cell? aG=some (.bool G)/\∃j:Y,g.cell? (Addr.add aG 1)=some (.slice j.a j.len j.cap)/\∃k:Y,g.cell? (Addr.add aG 2)=some (.slice k.a k.len k.cap)/\∃m:Y,g.cell? (Addr.add aG 3)=some (.slice m.a m.len m.cap)/\bt g e [G,j,k,m]/\(4:Nat)=4/\an (setCells g e 0 [G,j,k,m]) λn=>∃R:ai,n.cell? e=some (.bool R)/\∃z:Y,n.cell? (Addr.add e 1)=some (.slice z.a z.len z.cap)/\∃A:Y,n.cell? (Addr.add e 2)=some (.slice A.a A.len A.cap)/\∃B:Y,n.cell? (Addr.add e 3)=some (.slice B.a B.len B.cap)/\Q (.agg #[R,z,A,B]) n)
structure o0(B:Nat->Prop)(lo:Nat)(nb aG a:Nat)(n:aA)(K V D:Y)(c:O aa)(w:J)(b aw:Y)(bD bA:Nat->Prop)(ks:O Key)(ds:O Nat):Prop where
 dQ:Var w nb [n.leaf,K,V,D] 202
 r:Var w a c 202
 o:Var w aG [false,b,(),aw] 202
 k:bh bD w b ks
 d:cB bA w aw ds
 ba:∀q,bD q->(B q/\q<lo)\/(lo<=q/\q<w.heap.size/\q≠nb/\q≠aG/\q≠a/\¬bA q)
 aI:∀q,bA q->lo<=q/\q<w.heap.size/\q≠nb/\q≠aG/\q≠a
 ln:∀q,aC b q->lo<=q
theorem o0.ext{B:Nat->Prop}{lo nb aG b:Nat}{n:aA}{K V D:Y}{c:O aa}{w w':J}{e aw:Y}{bD bA:Nat->Prop}{ks:O Key}{ds:O Nat}(h:o0 B lo nb aG b n K V D c w e aw bD bA ks ds)(hx:Ext w w'):o0 B lo nb aG b n K V D c w' e aw bD bA ks ds:=by
 have f:=hx.size;exact⟨h.dQ.ext hx,h.r.ext hx,h.o.ext hx,bh.ext h.k hx,cB.ext h.d hx,λq a=>(h.ba q a).imp id λh=>⟨h.1,I,h.2.2⟩,λq a=>⟨(h.aI q a).1,by have:=(h.aI q a).2.1;omega,(h.aI q a).2.2⟩,h.ln⟩
theorem EI{B:Nat->Prop}{w bY:J}{nb aG x:Nat}{n:aA}{K V D s dM D0:Y}{ak:O aa}{bD bA:Nat->Prop}{ks:O Key}{kids:O Nat}{fr to:Nat}(be:o0 B w.heap.size nb aG x n K V D ak bY dM D0 bD bA (n.keys.take fr) (n.kids.take fr))(bg:Ext w bY)
 (bi:br B w n K V D) (aP:j9 B w s ks kids) (bj:ak.length=4) (h1:w.heap.size<=nb) (h2:w.heap.size<=aG) (G:w.heap.size<=x) (H:nb≠aG/\nb≠x/\aG≠x) (t1:1<=to) (t2:to<=n.kids.length) (t3:to-1<=n.keys.length) (bJ:n.keys.length<=1000) (bp:n.kids.length<=1000):
 wJ nb aG x s (to:Nat) bY (uh B n fr to ks kids w):=by
 obtain⟨bB,bx,b3,bm⟩:=aP.at;unfold wJ;refine⟨λi w'=>∃ (j:Nat) (z aw:Y) (bD bA:Nat->Prop),i=j/\j<=kids.length/\Ext w w'/\o0 B w.heap.size nb aG x n K V D ak w' z aw bD bA (n.keys.take fr++ks.take (j-1)) (n.kids.take fr++kids.take j),λi _=>((kids.length:Int)-i).toNat,⟨0,dM,D0,bD,bA,rfl,cN _,bg,by simpa using be⟩,?_⟩;rintro _ u ⟨j,z,aw,bD,bA,rfl,b4,y,h⟩;have b5:=y.size;refine⟨λaK=>?_,λau=>?_⟩
 .have aK:j<kids.length:=by
   have:(j:Int)<(s.len:Int):=b_ aK;omega
  obtain⟨A,t,ar,aB,aT,az⟩:=(aP.ext y).at.2.2.2 j aK;refine⟨A,ar,⟨I,I⟩,t,by rw[di];exact aB,_,by rw[di];exact aT,?_⟩;have az:(t.a=none/\ks.take j=ks.take (j-1))\/(t.a.isSome=true/\∃k,bk (λq=>B q/\q<w.heap.size) u t k/\ks.take j=ks.take (j-1)++ [k]):=by
   obtain⟨b6,aQ,aR,bn,_,bq⟩:=bm j aK;rw[ar]at aR;cases aR;have e:=ad.cell y (λh=>h) bn;rw[aB]at e;injection e with e
   obtain rfl:t=aQ:=by
    cases t;cases aQ;simp at e;simp[e]
   rcases bq with h|⟨h1,k,h2,G⟩
   .exact .inl h
   .exact .inr ⟨h1,k,bk.ext (bk.aV h2 λq c f=>⟨f,c⟩) y,G⟩
  refine bl (vs:=[(),(0:Int)]) rfl λb7 aS bs b8=>?_;refine⟨aS.b2 rfl ?_,rfl,cp aS (us:=[t,.int .i64 ((kids[j]:Nat):Int)]) rfl rfl λaD S bt b9=>?_⟩
  .intro v aU
   simp only[cP,eE,eL]at aU;rcases aU with rfl|rfl<;>trivial
  have al:Ext u aD:=Ext.ck bs bt (bo _);have m:=h.ext al;have ca:=al.size;have aW:=y.trans al;obtain⟨eM,bv⟩:∃eM,eM=u.heap.size:=⟨_,rfl⟩;rw[←bv]at S⊢;have cb:=S.lt;refine jd (λT=>∃ (cq:Y) (am:Nat->Prop),o0 B w.heap.size nb aG x n K V D ak T cq aw am bA (n.keys.take fr++ks.take j) (n.kids.take fr++kids.take j)/\Ext w T/\Var T eM [t,.int .i64 ((kids[j]:Nat):Int)] 334/\aD.heap.size<=T.heap.size) (λq c=>⟨t,S.cell,λf=>?_,λf=>?_⟩) ?_
  .rcases az with ⟨an,_⟩|⟨_,k,ht,ac⟩
   .rw[an]at f;cases f
   obtain⟨ae,L,af,M⟩:=bw (V:=⟨none,0,0⟩) m.o;have ao:∀q,aC z q->bD q:=λq c=>by
    obtain⟨ts,_,_,G,_⟩:=m.k;exact(G q c).1
   refine⟨z,L,t,S.cell,EH (B:=λq=>bD q\/(B q/\q<w.heap.size)) m.o (o:=1) (by simp) (bh.aV m.k λq _ f=>.inl f) (λf=>?_) (bk.aV (bk.ext ht al) λq _ f=>.inr f) (λq c aE=>?_) ?_ λw' aJ av ax p bz=>c _ ⟨aJ,Grow (λq=>bD q\/(B q/\q<w.heap.size)) aD w',?_,?_,?_,p.size⟩⟩
   .rcases f with f|f
    .rcases m.ba _ f with g|g
     .omega
     .exact g.2.2.2.1 rfl
    .omega
   .have:=(ht.2.2 q c).1.2
    have:=m.ln q aE;omega
   .rw[cF,cC,cC];omega
   .have bC:=p.size
    have C:∀q,aC z q->q<u.heap.size/\q≠nb/\q≠aG/\q≠x/\¬bA q:=λq c=>by
     have bE:=h.ln q c;rcases h.ba q (ao q c) with g|g
     .omega
     .exact g.2
    refine⟨m.dQ.ab p λc=>?_,m.r.ab p λc=>?_,av,?_,cB.ab m.d p λq f c=>?_,λq f=>?_,λq f=>⟨(m.aI q f).1,by have:=(m.aI q f).2.1;omega,(m.aI q f).2.2⟩,λq c=>?_⟩
    .rcases c with e|c
     .exact H.1 e
     .exact(C _ c).2.1 rfl
    .rcases c with e|c
     .exact H.2.2 e.symm
     .exact(C _ c).2.2.2.1 rfl
    .rw[ac,←cV];exact ax
    .rcases c with e|c
     .exact(m.aI q f).2.2.2.1 e
     .exact(C q c).2.2.2.2 f
    .rcases f with (f|f)|f
     .exact(m.ba q f).imp id λg=>⟨g.1,I,g.2.2⟩
     .exact .inl f
     .refine .inr ⟨I,f.2,λe=>?_,λe=>?_,λe=>?_,λhd=>?_⟩
      .have:=m.dQ.lt;omega
      .have:=m.o.lt;omega
      .have:=m.r.lt;omega
      .have:=(m.aI q hd).2.1;omega
    .rcases bz q c with g|g
     .exact h.ln q g
     .omega
   .exact Ext.dc aW p λq c=>by
     rcases c with rfl|c
     .exact h2
     .exact m.ln q c
   .refine S.ab p λc=>?_
    rcases c with e|c
    .have:=h.o.lt;omega
    .rcases h.ba _ (ao _ c) with g|g<;>omega
  .rcases az with ⟨_,ac⟩|⟨an,_⟩
   .refine c _ ⟨z,bD,?_,aW,S,bo _⟩
    rw[ac];exact m
   .cases aX:t.a with
    |none=>rw[aX]at an;cases an
    |some A=>rw[aX]at f;cases f
  rintro T ⟨cq,am,l,aZ,a0,cc⟩;have cd:=a0.lt;obtain⟨ae,L,af,M⟩:=bw (V:=⟨none,0,0⟩) l.o;have E:∀q,aC aw q->bA q:=λq c=>(l.d.2 q c).1;have bF:∀q,am q->¬(q=aG\/aC aw q):=λq f c=>by
   rcases l.ba q f with g|g
   .rcases c with e|c
    .omega
    .have:=(l.aI q (E q c)).1;omega
   .rcases c with e|c
    .exact g.2.2.2.1 e
    .exact g.2.2.2.2.2 (E q c)
  have a1:IntKind.wrap .i64 ((j:Int)+1)=((j+1:Nat):Int):=by rw[bu I I];rfl
  refine⟨aw,M,_,by rw[ay];exact a0.cell,(zf (W:=λ_=>True) kids[j] l.o (o:=3) (by simp) l.d (λf=>(l.aI _ f).2.2.2.1 rfl) (by rw[cF,cC,cC];omega) λw' aJ av ax p=>⟨⟨j+1,cq,aJ,am,Grow bA T w',a1,I,?_,?_⟩,?_⟩).2⟩
  .exact Ext.dc aZ p λq c=>by
    rcases c with rfl|c
    .exact h2
    .exact(l.aI q (E q c)).1
  .have bC:=p.size
   refine⟨l.dQ.ab p λc=>?_,l.r.ab p λc=>?_,av,?_,?_,λq f=>?_,λq f=>?_,l.ln⟩
   .rcases c with e|c
    .exact H.1 e
    .exact(l.aI _ (E _ c)).2.2.1 rfl
   .rcases c with e|c
    .exact H.2.2 e.symm
    .exact(l.aI _ (E _ c)).2.2.2.2 rfl
   .exact bh.ab l.k p bF
   .rw[iW aK,←cV];exact ax
   .refine(l.ba q f).imp id λg=>⟨g.1,I,g.2.2.1,g.2.2.2.1,g.2.2.2.2.1,λhd=>?_⟩
    rcases hd with hd|hd
    .exact g.2.2.2.2.2 hd
    .omega
   .rcases f with f|f
    .exact⟨(l.aI q f).1,by have:=(l.aI q f).2.1;omega,(l.aI q f).2.2⟩
    .refine⟨by have:=aZ.size;omega,f.2,λe=>?_,λe=>?_,λe=>?_⟩
     .have:=l.dQ.lt;omega
     .have:=l.o.lt;omega
     .have:=l.r.lt;omega
  .rw[a1]
   show((kids.length:Int)-((j+1:Nat):Int)).toNat<((kids.length:Int)-(j:Int)).toNat;omega
 .have au:j=kids.length:=by
   have:¬(j:Int)<(s.len:Int):=cG au;omega
  subst au;have a2:Ext u u.drew:=cw _;have h:=h.ext a2;have y:=y.trans a2;have ac:ks.take (kids.length-1)=ks:=dP I;rw[ac,iB]at h;obtain⟨ae,L,af,M⟩:=bw (V:=⟨none,0,0⟩) h.o;obtain⟨qG,gG,dZ,a3⟩:=bw h.dQ;have a4:br (λq=>B q/\q<w.heap.size) w n K V D:=bi.aV λq c f=>⟨f,c⟩;have aF:=a4.ext y;have a5:=bf.len aF.keys;have a6:=cx.len aF.kids;have a7:IntKind.wrap .i64 ((to:Int)-1)=((to-1:Nat):Int):=by rw[bu I I];omega
  have ao:∀q,aC z q->bD q:=λq c=>by
   obtain⟨ts,_,_,G,_⟩:=h.k;exact(G q c).1
  have E:∀q,aC aw q->bA q:=λq c=>(h.d.2 q c).1;have a8:=bf.sub aF.keys (lo:=to-1) (hi:=n.keys.length) t3 (bo _);have bG:(n.keys.drop (to-1)).take (n.keys.length-(to-1))=n.keys.drop (to-1):=dP (by rw[cX];exact bo _);rw[bG]at a8;obtain⟨N,ag,bH,bI,U⟩:=wc h.k a8 (λq c aE=>by have:=h.ln q aE;omega) (by rw[cF,cC];omega) (by rw[cX];omega);have ce:u.drew.heap.size=u.heap.size:=rfl;have C:∀q,aC z q->q<u.drew.heap.size/\q≠nb/\q≠aG/\q≠x/\¬bA q:=λq c=>by
   have bE:=h.ln q c;rcases h.ba q (ao q c) with g|g
   .omega
   .exact g.2
  have cf:=U.size;have bK:Ext w ag:=Ext.dc y U λq c=>h.ln q c;have a9:=h.o.ab U λc=>(C _ c).2.2.1 rfl;have bL:=h.dQ.ab U λc=>(C _ c).2.1 rfl;have bM:=h.r.ab U λc=>(C _ c).2.2.2.1 rfl;have bO:cB bA ag aw _:=cB.ab h.d U λq f c=>(C q c).2.2.2.2 f;obtain⟨bN,bZ⟩:=dB a9 (i:=1) (by simp);refine aY ⟨id,z,L,id,K,gG,?_,N,ag,?_,by rw[ay];exact bN,by rw[ay];exact bZ,?_⟩
  .rw[a7,a5];omega
  .rw[a7,di,a5];exact bH
  rw[ay,cE];have P:=dg ag aG 1 N;have ai:=dI a9 (i:=1) N;obtain⟨F,bP⟩:∃F,F=ag.setCell ⟨aG,1,none⟩ N:=⟨_,rfl⟩;rw[←bP]at P ai⊢;have cg:=P.size;have aH:=bL.ab P (λe=>H.1 e);have aL:=bM.ab P (λe=>H.2.2 e.symm);have aM:cB bA F aw _:=cB.ab bO P λq f e=>(h.aI q f).2.2.2.1 e;have aj:Ext w F:=Ext.ck bK P h2;have X:Ext F F.drew:=cw _;have a_:∀q,(bD q\/(B q/\q<w.heap.size)\/u.drew.heap.size<=q)->q≠aG:=λq c e=>by
   subst e;rcases c with c|c|c
   .rcases h.ba _ c with g|g
    .omega
    .exact g.2.2.2.1 rfl
   .omega
   .have:=h.o.lt;omega
  have bQ:=bf.ext (bf.ab bI P a_) X;have ai:=ai.ext X;have aH:=aH.ext X;have aL:=aL.ext X;have aM:=cB.ext aM X;have aj:=aj.trans X;obtain⟨ae,L,af,M⟩:=bw (V:=⟨none,0,0⟩) ai;obtain⟨qG,gG,dZ,a3⟩:=bw aH;have bb:=cx.sub (a4.ext aj).kids (lo:=to) (hi:=n.kids.length) t2 (bo _);have bR:(n.kids.drop to).take (n.kids.length-to)=n.kids.drop to:=dP (by rw[cX];exact bo _);rw[bR]at bb;obtain⟨R,ap,f1,f2,f3⟩:=zo aM bb (by rw[cF,cC];omega) (by rw[cX];omega);have ch:F.drew.heap.size=F.heap.size:=rfl;have ci:=f3.size;have aq:∀q,aC aw q->w.heap.size<=q/\q<u.drew.heap.size/\q≠nb/\q≠aG/\q≠x:=λq c=>h.aI q (E q c);have bS:Ext w ap:=Ext.dc aj f3 λq c=>(aq q c).1;have bc:=ai.ab f3 λc=>(aq _ c).2.2.2.1 rfl;have bT:=aL.ab f3 λc=>(aq _ c).2.2.2.2 rfl;have bU:=bf.ab bQ f3 λq f c=>by
   have cj:=aq q c;rcases f with f|f|f
   .rcases h.ba q f with g|g
    .omega
    .exact g.2.2.2.2.2 (E q c)
   .omega
   .omega
  obtain⟨bN,bZ⟩:=dB bc (i:=3) (by simp);refine aY (aY ⟨id,aw,M,id,D,a3,?_,R,ap,?_,by rw[ay];exact bN,by rw[ay];exact bZ,?_⟩)
  .rw[a6];omega
  .rw[di,a6];exact f1
  rw[ay,cE];have Z:=dg ap aG 3 R;have bd:=dI bc (i:=3) R;obtain⟨aN,bV⟩:∃aN,aN=ap.setCell ⟨aG,3,none⟩ R:=⟨_,rfl⟩;rw[←bV]at Z bd⊢;have cl:=Z.size;have bW:=bT.ab Z (λe=>H.2.2 e.symm);have bX:Ext w aN:=Ext.ck bS Z h2;have b0:=bf.ab bU Z a_;have b1:=cx.ab f2 Z λq f e=>by
   subst e;rcases f with f|f|f
   .exact(h.aI _ f).2.2.2.1 rfl
   .omega
   .have:=h.o.lt;omega
  obtain⟨ae,L,af,M⟩:=bw (V:=⟨none,0,0⟩) bd;refine aY ⟨_,ae,N,L,⟨none,0,0⟩,af,R,M,?_⟩;refine h7 false N ⟨none,0,0⟩ R bW bj (Q:=λb K V D ah=>uh B n fr to ks kids w (.agg #[b,K,V,D]) ah) λcm aO=>?_;refine⟨N,⟨none,0,0⟩,R,rfl,⟨?_,?_,?_⟩,Ext.ck bX aO G⟩
  .refine bf.aV (bf.ab b0 aO λq f e=>?_) λq _ f=>?_
   .subst e
    rcases f with f|f|f
    .rcases h.ba _ f with g|g
     .omega
     .exact g.2.2.2.2.1 rfl
    .omega
    .have:=h.r.lt;omega
   .rcases f with f|f|f
    .rcases h.ba _ f with g|g
     .exact .inl g.1
     .exact .inr g.1
    .exact .inl f.1
    .have:=y.size;exact .inr I
  .exact bf.none _ _
  .refine cx.aV (cx.ab b1 aO λq f e=>?_) λq _ f=>?_
   .subst e
    rcases f with f|f|f
    .exact(h.aI _ f).2.2.2.2 rfl
    .omega
    .have:=h.r.lt;omega
   .rcases f with f|f|f
    .exact .inr (h.aI _ f).1
    .exact .inl f.1
    .have:=aj.size;exact .inr I
theorem wK(K D:Y)(w:J):Sem.run ak (Instr.build 202 #[(1,K),(3,D)]) w=.ok (.agg #[false,K,(),D]) w:=by kernel_rfl
theorem oE{B:Nat->Prop}{w:J}{n:aA}{K V D s:Y}{ks:O Key}{kids:O Nat}{fr to:Nat}(P:br B w n K V D)(am:j9 B w s ks kids)(f1:fr<=n.keys.length)(f2:fr<=n.kids.length)(t1:1<=to)(t2:to<=n.kids.length)(t3:to-1<=n.keys.length)(bJ:n.keys.length<=1000)(bp:n.kids.length<=1000):
 aP ak 250 #[cQ n K V D,fr,to,s] w (uh B n fr to ks kids w):=by
 refine okF (af.oE n.leaf K V D (fr:Nat) (to:Nat) s) az.oE func250 ?_;(delta af.oE cc U ag aW e2 lR al aI r1 z5 rX st au a8 rZ;dsimp only);refine bl (vs:=[n.leaf,K,V,D]) rfl λw1 an ao aE=>?_;refine bl (vs:=[false,(),(),()]) rfl λah ap Q aF=>aY ?_;have E:Ext ah ah.drew:=cw _;have H:=(ao.trans Q).trans E;obtain⟨d,R⟩:∃d,d=ah.drew:=⟨_,rfl⟩;have aJ:d.heap.size=ah.heap.size:=by rw[R];rfl
 rw[←R]at H E⊢;have S:=(an.ext Q).ext E;have aq:=ap.ext E;obtain⟨bI,aB,aT,aH⟩:=bw S;have t:br (λq=>B q/\q<w.heap.size) d n K V D:=(P.aV λq a c=>⟨c,a⟩).ext H;have aL:=bf.len t.keys;have aM:=cx.len t.kids;have aN:=bf.le t.keys;have aO:=t.kids.2.1;have L:=bf.sub t.keys (lo:=0) (hi:=fr) (cN _) f1;have F:=cx.sub t.kids (lo:=0) (hi:=fr) (cN _) f2;rw[lG,nC]at L F;have T:Int.toNat (fr:Int)-0=fr:=by rw[di];rfl
 have fin:∀ (bY:J) (aG:Nat) (dM D0:Y),Ext d bY->Var bY aG [false,dM,(),D0] 202->d.heap.size<=aG->bh (λq=>(B q/\q<w.heap.size)\/(d.heap.size<=q/\aC dM q)) bY dM (n.keys.take fr)->a7 1 3 bY D0 (dv (n.kids.take fr))->
  (∀q,aC dM q->d.heap.size<=q/\q≠aG)->(∀q,aC D0 q->d.heap.size<=q/\q≠aG/\¬aC dM q)->wJ w.heap.size aG w1.heap.size s (to:Nat) bY (uh B n fr to ks kids w):=by
  intro bY aG dM D0 hx ar aQ W M X Z;have aR:=hx.size;have aK:∀q,aC dM q->q<bY.heap.size:=λq a=>by
   obtain⟨ts,_,o,_,_⟩:=W;exact o.lt q a
  refine EI (bD:=λq=>(B q/\q<w.heap.size)\/aC dM q) (bA:=λq=>aC D0 q) ⟨S.ext hx,aq.ext hx,ar,bh.aV W λq _ c=>c.imp id λh=>h.2,⟨M,λq a=>⟨a,a7.lt M q a⟩⟩,λq c=>?_,λq c=>?_,λq a=>by have:=(X q a).1;omega⟩ (H.trans hx) P am rfl (bo _) I I ⟨I,I,I⟩ t1 t2 t3 bJ bp
  .rcases c with c|c
   .exact .inl c
   .have x:=X q c
    exact .inr ⟨I,aK q c,I,x.2,I,λav=>(Z q av).2.2 c⟩
  .have x:=Z q c
   exact⟨I,a7.lt M q c,I,x.2.1,I⟩
 refine⟨λ_=>False,id,K,aB,⟨I,I⟩,id,D,aH,⟨I,I⟩,?_,?_⟩
 .rw[T]
  refine(Ah L (by rw[cC];omega)).use ?_;rintro _ u ⟨dM,rfl,p,f,y⟩;have aw:=f.size;refine⟨dM,rfl,f,?_,?_⟩
  .refine(qu (F.1.ext f) (by rw[cC];omega)).use ?_
   rintro _ aa ⟨D0,rfl,v,G,ac⟩;have aS:=G.size;refine⟨D0,rfl,G,_,wK dM D0,bl (vs:=[false,(),(),()]) rfl λaU ad ae aX=>⟨ae,ad.b2 rfl (fj (b:=false) (K:=dM) (V:=⟨none,0,0⟩) (D:=D0)),rfl,cp ad (us:=[false,dM,(),D0]) rfl rfl λg z j ai=>?_⟩⟩;have k:Ext aa g:=Ext.ck ae j (bo _);have r:∀q,aC dM q->q<u.heap.size:=λq a=>by
    obtain⟨ts,_,o,_,_⟩:=p;exact o.lt q a
   exact fin g aa.heap.size dM D0 (f.trans (G.trans k)) z I (bh.aV (bh.ext p (G.trans k)) λq _ c=>c.imp (λh=>h.1) id) (v.ext k) (λq a=>⟨y q a,by have:=r q a;omega⟩) λq a=>⟨by have:=ac q a;omega,by have:=a7.lt v q a;omega,λh=>by have:=r q h;have:=ac q a;omega⟩
  .refine bl (vs:=[false,(),(),()]) rfl λaj N l ax=>⟨l,(qu ((F.1.ext f).ext l) (by rw[cC];omega)).use ?_⟩
   rintro _ ay ⟨D0,rfl,v,m,i⟩;have A:=N.ext m;refine⟨D0,rfl,m,_,wK dM D0,A.b2 rfl (fj (b:=false) (K:=dM) (V:=⟨none,0,0⟩) (D:=D0)),rfl,cp A (us:=[false,dM,(),D0]) rfl rfl λg z j ai=>?_⟩;have k:Ext u g:=Ext.ck (l.trans m) j (bo _);have r:∀q,aC dM q->q<u.heap.size:=λq a=>by
    obtain⟨ts,_,o,_,_⟩:=p;exact o.lt q a
   exact fin g u.heap.size dM D0 (f.trans k) z I (bh.aV (bh.ext p k) λq _ c=>c.imp (λh=>h.1) id) (v.ab j λq a e=>by have:=i q a;omega) (λq a=>⟨y q a,by have:=r q a;omega⟩) λq a=>⟨by have:=i q a;omega,by have:=i q a;omega,λh=>by have:=r q h;have:=i q a;omega⟩
 .rw[T]
  refine bl (vs:=[false,(),(),()]) rfl λaj N l ax=>⟨l,(Ah (bf.ext L l) (by rw[cC];omega)).use ?_⟩;rintro _ u ⟨dM,rfl,p,f,y⟩;have aw:=f.size;refine⟨dM,rfl,f,(qu ((F.1.ext l).ext f) (by rw[cC];omega)).use ?_⟩;rintro _ ay ⟨D0,rfl,v,m,i⟩;have A:=(N.ext f).ext m;refine⟨D0,rfl,m,_,wK dM D0,A.b2 rfl (fj (b:=false) (K:=dM) (V:=⟨none,0,0⟩) (D:=D0)),rfl,cp A (us:=[false,dM,(),D0]) rfl rfl λg z j ai=>?_⟩;have k:Ext d g:=Ext.ck ((l.trans f).trans m) j (bo _);have r:∀q,aC dM q->q<u.heap.size:=λq a=>by
   obtain⟨ts,_,o,_,_⟩:=p;exact o.lt q a
  have aD:bh (λq=>(B q/\q<w.heap.size)\/(d.heap.size<=q/\aC dM q)) g dM (n.keys.take fr):=by
   have x:=bh.aV (C:=λq=>(B q/\q<w.heap.size)\/(aj.heap.size<=q/\aC dM q)) (bh.ext p m) λq _ c=>c.imp (λh=>h.1) id;exact bh.aV (bh.ab x j λq c e=>by rcases c with c|c<;>omega) λq _ c=>c.imp id λh=>⟨I,h.2⟩
  exact fin g d.heap.size dM D0 k z (bo _) aD (v.ab j λq a e=>by have:=i q a;omega) (λq a=>⟨by have:=y q a;omega,by have:=y q a;omega⟩) λq a=>⟨by have:=i q a;omega,by have:=i q a;omega,λh=>by have:=r q h;have:=i q a;omega⟩
def kD(n:aA):Prop:=cv n/\bz n<=400/\(232<bz n->1<=b4 n/\(if n.leaf then b4 n<=n.keys.length-1/\1<=n.keys.length-1 else b4 n<=n.keys.length-2/\1<=n.keys.length-2)/\bz (n.left (b4 n))<=232/\bz (n.right (b4 n))<=232)
structure kE(B:Nat->Prop)(w:J)(A:ae)(u:da):Prop where
 aB:w.cell? (A.add 1)=some (.bool u.n.leaf)
 aT:w.cell? ((A.add 1).add 1)=some (.slice u.K.a u.K.len u.K.cap)
 aH:w.cell? ((A.add 1).add 2)=some (.slice u.V.a u.V.len u.V.cap)
 dj:w.cell? ((A.add 1).add 3)=some (.slice u.D.a u.D.len u.D.cap)
 aW:w.cell? (A.add 5)=some (.int .i64 (u.cJ:Nat))
 bj:br B w u.n u.K u.V u.D
 bR:B A.block
 lt:A.block<w.heap.size
theorem kE.ext{B:Nat->Prop}{w w':J}{A:ae}{u:da}(h:kE B w A u)(hx:Ext w w'):kE B w' A u:=
 ⟨ad.cell hx (λh=>h) h.aB,ad.cell hx (λh=>h) h.aT,ad.cell hx (λh=>h) h.aH,ad.cell hx (λh=>h) h.dj,ad.cell hx (λh=>h) h.aW,h.bj.ext hx,h.bR,fl h.lt hx.size⟩
theorem kE.to{w w':J}{T ao:aL}{k:Nat}{A:ae}{u:da}(h:kE (λq=>¬T.M q) w A u)(ht:bO T ao w w' k):kE (λq=>¬ao.M q) w' A u:=by
 have hc:=ht.ab;have a:¬T.N A.block:=λc=>h.bR (aL.gm c);refine⟨ad.cell hc (A:=A.add 1) a h.aB,ad.cell hc (A:=(A.add 1).add 1) a h.aT,ad.cell hc (A:=(A.add 1).add 2) a h.aH,ad.cell hc (A:=(A.add 1).add 3) a h.dj,ad.cell hc (A:=A.add 5) a h.aW,?_,λd=>?_,fl h.lt hc.size⟩
 .have h1:=ht.bj (lo:=0) (h.bj.aV λq _ b=>⟨cN _,b⟩)
  exact h1.aV λq _ b=>b.2
 .rcases ht.cS _ d with h1|h1
  .exact h.bR h1
  .have:=h.lt;omega
theorem gS.base{T:aL}{c:dh}{n:aA}{w0 w w':J}{v:aa}(h:gS T c n w v w')(hx:Ext w0 w):gS T c n w0 v w':=by
 obtain⟨ao,c',m,s,av,ax,a,b⟩:=h;exact⟨ao,c',m,s,av,((c5.ext T c hx).trans ax).mono I,a,b⟩
theorem gS.out{T:aL}{c:dh}{n:aA}{w w':J}{v:aa}(h:gS T c n w v w'):∃ (s:Y) (e:Int),v=.tuple #[s,e]:=by
 obtain⟨ao,c',m,s,av,ax,b,a⟩:=h;rcases a with ⟨ks,rfl,_⟩|⟨rfl,_⟩
 .exact⟨s,0,rfl⟩
 .exact⟨s,3,rfl⟩
def wL(nb aG g bv:Nat)(c up:aq ae)(n31 n36:Int)(bY:J)(Q:aa->J->Prop):Prop:=
 bL (λaf:J->Prop=>∃ag:ae,up=some ag/\∃D:Int,bY.cell? (ag.add 5)=some (.int .i64 D)/\((decide ((n36:Int)>D))=true->an (bY.drew) λd=>∃E:Nat->Prop,¬E (nb:ae).block/\∃F:ai,d.cell? nb=some (.bool F)/\∃j:Y,d.cell? (Addr.add nb 1)=some (.slice j.a j.len j.cap)/\∃k:Y,d.cell? (Addr.add nb 2)=some (.slice k.a k.len k.cap)/\∃l:Y,d.cell? (Addr.add nb 3)=some (.slice l.a l.len l.cap)/\¬E (aG:ae).block/\∃G:ai,d.cell? aG=some (.bool G)/\∃m:Y,d.cell? (Addr.add aG 1)=some (.slice m.a m.len m.cap)/\∃n:Y,d.cell? (Addr.add aG 2)=some (.slice n.a n.len n.cap)/\∃o:Y,d.cell? (Addr.add aG 3)=some (.slice o.a o.len o.cap)/\bt d g [F,j,k,l]/\(4:Nat)=4/\an (setCells d g 0 [F,j,k,l]) λH=>ad E d H/\bt H bv [G,m,n,o]/\(4:Nat)=4/\an (setCells H bv 0 [G,m,n,o]) λar=>af ar)/\((decide ((n36:Int)>D))=false->af bY)) (λ(au:J)=>an (au.drew) λb=>∃f:Nat->Prop,¬f (g:ae).block/\∃I:ai,b.cell? g=some (.bool I)/\∃p:Y,b.cell? (Addr.add g 1)=some (.slice p.a p.len p.cap)/\∃q:Y,b.cell? (Addr.add g 2)=some (.slice q.a q.len q.cap)/\∃r:Y,b.cell? (Addr.add g 3)=some (.slice r.a r.len r.cap)/\∃K:ae,up=some K/\¬f ((K.add 1).add 1).block/\∃s:Y,b.cell? ((K.add 1).add 1)=some (.slice s.a s.len s.cap)/\∃L:ae,s.a=some L/\((0:Int)<=n31/\n31<(s.len:Int))/\¬f (L.add (Int.toNat n31*1)).block/\∃t:Y,b.cell? (L.add (Int.toNat n31*1))=some (.slice t.a t.len t.cap)/\¬f (bv:ae).block/\∃M:ai,b.cell? bv=some (.bool M)/\∃u:Y,b.cell? (Addr.add bv 1)=some (.slice u.a u.len u.cap)/\∃v:Y,b.cell? (Addr.add bv 2)=some (.slice v.a v.len v.cap)/\∃w:Y,b.cell? (Addr.add bv 3)=some (.slice w.a w.len w.cap)/\(Calls ak 282 #[.agg #[I,p,q,r],t,.agg #[M,u,v,w]] b λav e=>∃N:ai,∃O:Y,∃P:Y,∃R:Y,∃S:ai,av=.returned (.tuple #[.agg #[N,O,P,R],S])/\ad f b e/\an (e.alloc (.cells #[false,(),(),()] 202)) λT=>ad f e T/\bt T e.heap.size [N,O,P,R]/\(4:Nat)=4/\an (setCells T e.heap.size 0 [N,O,P,R]) λh=>((!S)=true->Q (.tuple #[(),(0:Int),(0:Int),(4:Int)]) h)/\((!S)=false->∃ah:ai,h.cell? e.heap.size=some (.bool ah)/\∃x:Y,h.cell? (Addr.add e.heap.size 1)=some (.slice x.a x.len x.cap)/\∃y:Y,h.cell? (Addr.add e.heap.size 2)=some (.slice y.a y.len y.cap)/\∃z:Y,h.cell? (Addr.add e.heap.size 3)=some (.slice z.a z.len z.cap)/\Calls ak 281 #[.pointer c,.agg #[ah,x,y,z]] h λaw ax=>∃aj:Y,∃al:Int,aw=.returned (.tuple #[aj,al])/\Q (.tuple #[aj,n31,.int .i64 (IntKind.wrap .i64 (n31+2)),al]) ax))/\(an (b.alloc (.cells #[false,(),(),()] 202)) λU=>ad f b U/\Calls ak 282 #[.agg #[I,p,q,r],t,.agg #[M,u,v,w]] U λay V=>∃W:ai,∃X:Y,∃Z:Y,∃ab:Y,∃ac:ai,ay=.returned (.tuple #[.agg #[W,X,Z,ab],ac])/\ad f U V/\bt V b.heap.size [W,X,Z,ab]/\(4:Nat)=4/\an (setCells V b.heap.size 0 [W,X,Z,ab]) λi=>((!ac)=true->Q (.tuple #[(),(0:Int),(0:Int),(4:Int)]) i)/\((!ac)=false->∃am:ai,i.cell? b.heap.size=some (.bool am)/\∃A:Y,i.cell? (Addr.add b.heap.size 1)=some (.slice A.a A.len A.cap)/\∃B:Y,i.cell? (Addr.add b.heap.size 2)=some (.slice B.a B.len B.cap)/\∃C:Y,i.cell? (Addr.add b.heap.size 3)=some (.slice C.a C.len C.cap)/\Calls ak 281 #[.pointer c,.agg #[am,A,B,C]] i λaz aA=>∃ao:Y,∃ap:Int,az=.returned (.tuple #[ao,ap])/\Q (.tuple #[ao,n31,.int .i64 (IntKind.wrap .i64 (n31+2)),ap]) aA)))
theorem EJ{W X:Nat->Prop}{w0 bY:J}{T:aL}{c:dh}{nb aG g bv:Nat}{A:ae}{u:da}{n o:aA}{K V D i j k:Y}{fr other:Nat}{Q:aa->J->Prop}(h:c4 w0 T c)(hx:Ext w0 bY)(am:Var w0 nb (dO n K V D) 202)(an:Var w0 aG (dO o i j k) 202)
 (ao:Var bY g (dO o i j k) 202) (ap:Var bY bv (dO n K V D) 202) (h1:w0.heap.size<=g) (h2:w0.heap.size<=bv) (aq:g≠bv) (ar:br W w0 n K V D) (au:br X w0 o i j k) (hu:kE (λq=>¬T.M q) w0 A u)
 (av:T.C.D.aM<=900000090) (aw:2<=b3 T) (ax:c.made.length<=900) (ir:cv n) (Z:cv o) (bx:bz n<=400) (bA:bz o<=400) (ay:o.leaf=n.leaf) (aV:fr<u.n.keys.length) (az:cD u.n.keys[fr]) (m:aA) (aB:m=if u.cJ<other then du n u.n.keys[fr] o else du o u.n.keys[fr] n) (l:kD m) (bB:fr<=1000)
 (aC:∀ (s:Y) (e:Int) (w':J),gS T c m w0 (.tuple #[s,e]) w'->Q (.tuple #[s,fr,.int .i64 ((fr+2:Nat):Int),e]) w'):
 wL nb aG g bv (some c.cb) (some A) (fr:Nat) (other:Nat) bY Q:=by
 have bC:=am.lt;have bD:=an.lt;have bE:=hx.size;have fn:=ir.fH I;have bF:=Z.fH I;unfold wL;refine jd (λp=>∃ (a b:aA) (G H L N O P:Y) (aD aE:Nat->Prop),Ext w0 p/\Var p g (dO a G H L) 202/\Var p bv (dO b N O P) 202/\br aD w0 a G H L/\br aE w0 b N O P/\m=du a u.n.keys[fr] b/\cv a/\cv b/\a.leaf=b.leaf/\a.keys.length<=200/\b.keys.length<=200)
  (λq r=>⟨A,rfl,_,(hu.ext hx).aW,λd=>?_,λd=>r _ ⟨o,n,i,j,k,K,V,D,X,W,hx,ao,ap,au,ar,?_,Z,ir,ay,I,I⟩⟩) ?_
 .have d:u.cJ<other:=by
   have:(other:Int)>(u.cJ:Int):=b_ d;omega
  have f:=hx.trans (cw bY);obtain⟨aX,bJ,bp,aZ⟩:=bw (am.ext f);obtain⟨a4,a5,a6,a7⟩:=bw (an.ext f);have aF:=ao.drew;have a8:=ap.drew;refine aY ⟨λq=>q=g,(show nb≠g from I),_,aX,K,bJ,V,bp,D,aZ,(show aG≠g from I),_,a4,i,a5,j,a6,k,a7,aF.b2 rfl fj,rfl,cp aF (us:=dO n K V D) rfl rfl λbG a9 ac bH=>?_⟩;have aH:=a8.ab ac (λe=>aq e.symm);refine⟨ac,aH.b2 rfl fj,rfl,cp aH (us:=dO o i j k) rfl rfl λbI a_ aI bK=>?_⟩;exact r _ ⟨n,o,K,V,D,i,j,k,W,X,Ext.ck (Ext.ck f ac h1) aI h2,a9.ab aI aq,a_,ar,au,by rw[aB,if_pos d],ir,Z,ay.symm,I,I⟩
 .have d:¬u.cJ<other:=by
   have:¬(other:Int)>(u.cJ:Int):=cG d;omega
  rw[aB,if_neg d]
 rintro p ⟨a,b,G,H,L,N,O,P,aD,aE,ba,bb,d,aJ,aK,ad,sa,sb,aN,bL,lb⟩;have f:=ba.trans (cw p);have bc:=bb.drew;have bd:=d.drew;obtain⟨a0,a1,a2,a3⟩:=bw bc;obtain⟨be,cd,bQ,bg⟩:=bw bd;have aO:=hu.ext f;obtain⟨bh,tk,bi,bk,bm,R,bM⟩:=bf.at aO.bj.keys aV;have aP:cv (du a u.n.keys[fr] b):=by rw[←ad];exact l.1
 have B:=mW (aJ.ext f) (aK.ext f) R.1 (λq r=>(R.2.2 q r).2) (by have:=az.2;omega) sa sb aN aP I I;rw[←ad]at B;have aQ:IntKind.wrap .i64 ((fr:Int)+2)=((fr+2:Nat):Int):=by rw[bu I I];rfl
 obtain⟨wd,bN⟩:∃wd,wd=p.drew:=⟨_,rfl⟩;refine aY ⟨λ_=>False,id,_,a0,G,a1,H,a2,L,a3,A,rfl,id,u.K,aO.aT,bh,bi,bk,id,tk,bm,id,_,be,N,cd,O,bQ,P,bg,?_,?_⟩
 .refine B.use ?_
  rintro _ bn ⟨t,w,x,rfl,af,y⟩;refine⟨_,t,w,x,true,rfl,y,bl (vs:=[false,(),(),()]) rfl λbO aR aS bP=>⟨aS,aR.b2 rfl fj,rfl,cp aR (us:=dO m t w x) rfl rfl λag ah S bq=>⟨λd=>(by cases d),λ_=>?_⟩⟩⟩;have U:Ext bn ag:=Ext.ck aS S (bo _);have E:=(f.trans y).trans U;obtain⟨ai,aj,ak,al⟩:=bw ah;refine⟨_,ai,t,aj,w,ak,x,al,(ug (h.ext E) av aw ax (af.ext U) l.1 l.2.1 l.2.2).use ?_⟩;intro v w' F;obtain⟨s,e,rfl⟩:=F.out;rw[aQ];exact⟨s,e,rfl,aC s e w' (F.base E)⟩
 .refine bl (vs:=[false,(),(),()]) rfl λbR bs z bS=>⟨z,?_⟩
  have B:=mW ((aJ.ext f).ext z) ((aK.ext f).ext z) (R.1.ext z) (λq r=>fl (R.2.2 q r).2 z.size) (by have:=az.2;omega) sa sb aN aP I I;rw[←ad]at B;refine B.use ?_;rintro _ bT ⟨t,w,x,rfl,af,y⟩;have aU:=bs.ext y;refine⟨_,t,w,x,true,rfl,y,aU.b2 rfl fj,rfl,cp aU (us:=dO m t w x) rfl rfl λag ah S bq=>⟨λd=>(by cases d),λ_=>?_⟩⟩;have U:Ext p.drew ag:=Ext.ck (z.trans y) S (bo _);have E:=f.trans U;have bt:=br.ab af S λq r e=>by omega
  obtain⟨ai,aj,ak,al⟩:=bw ah;refine⟨_,ai,t,aj,w,ak,x,al,(ug (h.ext E) av aw ax bt l.1 l.2.1 l.2.2).use ?_⟩;intro v w' F;obtain⟨s,e,rfl⟩:=F.out;rw[aQ];exact⟨s,e,rfl,aC s e w' (F.base E)⟩
theorem c5.leave{T:aL}{c c':dh}{E G:Nat->Prop}{w w':J}{no:Nat}(h:bO T (T.cg E G) w w' 0)(a:E=T.E)(b:∀q,T.G q->G q)(h1:c'.cb=c.cb)(h2:c'.made=c.made)(d:c'.left=c.left++ [no]):c5 T (T.cg E G) c c' [] [no] w w' 0:=
 ⟨h,a,b,rfl,rfl,h1,by rw[h2,gi],d,List.nodup_nil,λ_ h=>(by cases h),λno=>by simp[aL.cg],λ_ _=>⟨rfl,rfl⟩,by simp[b3,aL.cg]⟩
def wM(nb aG:Nat)(c up:aq ae)(n31 n36 n41 aH:Int)(bY:J)(Q:aa->J->Prop):Prop:=
 (((aH:Int) !=0)=true->Q (.tuple #[(),(0:Int),(0:Int),aH]) bY)/\(((aH:Int) !=0)=false->∃bu:ae,c=some bu/\∃al:Y,bY.cell? (bu.add 2)=some (.slice al.a al.len al.cap)/\an (bY.alloc (.cells #[n41] 3)) λbO=>∃bv:Y,∃am:J,Sem.run ak (Builtin.append_ #[58,58] 58 #[al,.slice (some bY.heap.size) 1 1]) bO=.ok bv am/\∃ao:ae,c=some ao/\(∃u:aa,am.cell? (ao.add 2)=some u)/\am.frozen? (ao.add 2)=false/\an (am.setCell (ao.add 2) bv) λbP=>an (bP.drew) λb=>∃l:Nat->Prop,¬l (aG:ae).block/\∃z:ai,b.cell? aG=some (.bool z)/\∃o:Y,b.cell? (Addr.add aG 1)=some (.slice o.a o.len o.cap)/\∃p:Y,b.cell? (Addr.add aG 2)=some (.slice p.a p.len p.cap)/\∃q:Y,b.cell? (Addr.add aG 3)=some (.slice q.a q.len q.cap)/\¬l (nb:ae).block/\∃A:ai,b.cell? nb=some (.bool A)/\∃r:Y,b.cell? (Addr.add nb 1)=some (.slice r.a r.len r.cap)/\∃s:Y,b.cell? (Addr.add nb 2)=some (.slice s.a s.len s.cap)/\∃t:Y,b.cell? (Addr.add nb 3)=some (.slice t.a t.len t.cap)/\(an (b.alloc (.cells #[false,(),(),()] 202)) λf=>ad l b f/\an (f.alloc (.cells #[false,(),(),()] 202)) λap=>ad l f ap/\bt ap b.heap.size [z,o,p,q]/\(4:Nat)=4/\an (setCells ap b.heap.size 0 [z,o,p,q]) λaI=>ad l ap aI/\bt aI f.heap.size [A,r,s,t]/\(4:Nat)=4/\an (setCells aI f.heap.size 0 [A,r,s,t]) λaJ=>bL (λbw:J->Prop=>∃bx:ae,up=some bx/\∃aK:Int,aJ.cell? (bx.add 5)=some (.int .i64 aK)/\((decide ((n36:Int)>aK))=true->an (aJ.drew) λh=>∃aL:Nat->Prop,¬aL (nb:ae).block/\∃aM:ai,h.cell? nb=some (.bool aM)/\∃B:Y,h.cell? (Addr.add nb 1)=some (.slice B.a B.len B.cap)/\∃C:Y,h.cell? (Addr.add nb 2)=some (.slice C.a C.len C.cap)/\∃D:Y,h.cell? (Addr.add nb 3)=some (.slice D.a D.len D.cap)/\¬aL (aG:ae).block/\∃aN:ai,h.cell? aG=some (.bool aN)/\∃E:Y,h.cell? (Addr.add aG 1)=some (.slice E.a E.len E.cap)/\∃F:Y,h.cell? (Addr.add aG 2)=some (.slice F.a F.len F.cap)/\∃G:Y,h.cell? (Addr.add aG 3)=some (.slice G.a G.len G.cap)/\bt h b.heap.size [aM,B,C,D]/\(4:Nat)=4/\an (setCells h b.heap.size 0 [aM,B,C,D]) λaO=>ad aL h aO/\bt aO f.heap.size [aN,E,F,G]/\(4:Nat)=4/\an (setCells aO f.heap.size 0 [aN,E,F,G]) λbQ=>bw bQ)/\((decide ((n36:Int)>aK))=false->bw aJ)) (λ(bR:J)=>an (bR.drew) λd=>∃m:Nat->Prop,¬m (b.heap.size:ae).block/\∃aP:ai,d.cell? b.heap.size=some (.bool aP)/\∃H:Y,d.cell? (Addr.add b.heap.size 1)=some (.slice H.a H.len H.cap)/\∃I:Y,d.cell? (Addr.add b.heap.size 2)=some (.slice I.a I.len I.cap)/\∃K:Y,d.cell? (Addr.add b.heap.size 3)=some (.slice K.a K.len K.cap)/\∃aQ:ae,up=some aQ/\¬m ((aQ.add 1).add 1).block/\∃L:Y,d.cell? ((aQ.add 1).add 1)=some (.slice L.a L.len L.cap)/\∃aR:ae,L.a=some aR/\((0:Int)<=n31/\n31<(L.len:Int))/\¬m (aR.add (Int.toNat n31*1)).block/\∃M:Y,d.cell? (aR.add (Int.toNat n31*1))=some (.slice M.a M.len M.cap)/\¬m (f.heap.size:ae).block/\∃aS:ai,d.cell? f.heap.size=some (.bool aS)/\∃N:Y,d.cell? (Addr.add f.heap.size 1)=some (.slice N.a N.len N.cap)/\∃O:Y,d.cell? (Addr.add f.heap.size 2)=some (.slice O.a O.len O.cap)/\∃P:Y,d.cell? (Addr.add f.heap.size 3)=some (.slice P.a P.len P.cap)/\(Calls ak 282 #[.agg #[aP,H,I,K],M,.agg #[aS,N,O,P]] d λbS j=>∃aT:ai,∃aU:Y,∃aV:Y,∃aW:Y,∃aX:ai,bS=.returned (.tuple #[.agg #[aT,aU,aV,aW],aX])/\ad m d j/\an (j.alloc (.cells #[false,(),(),()] 202)) λaY=>ad m j aY/\bt aY j.heap.size [aT,aU,aV,aW]/\(4:Nat)=4/\an (setCells aY j.heap.size 0 [aT,aU,aV,aW]) λv=>((!aX)=true->Q (.tuple #[(),(0:Int),(0:Int),(4:Int)]) v)/\((!aX)=false->∃bz:ai,v.cell? j.heap.size=some (.bool bz)/\∃ar:Y,v.cell? (Addr.add j.heap.size 1)=some (.slice ar.a ar.len ar.cap)/\∃au:Y,v.cell? (Addr.add j.heap.size 2)=some (.slice au.a au.len au.cap)/\∃av:Y,v.cell? (Addr.add j.heap.size 3)=some (.slice av.a av.len av.cap)/\Calls ak 281 #[.pointer c,.agg #[bz,ar,au,av]] v λbT bU=>∃bA:Y,∃bB:Int,bT=.returned (.tuple #[bA,bB])/\Q (.tuple #[bA,n31,.int .i64 (IntKind.wrap .i64 (n31+2)),bB]) bU))/\(an (d.alloc (.cells #[false,(),(),()] 202)) λaZ=>ad m d aZ/\Calls ak 282 #[.agg #[aP,H,I,K],M,.agg #[aS,N,O,P]] aZ λbV a0=>∃a1:ai,∃a2:Y,∃a3:Y,∃a4:Y,∃a5:ai,bV=.returned (.tuple #[.agg #[a1,a2,a3,a4],a5])/\ad m aZ a0/\bt a0 d.heap.size [a1,a2,a3,a4]/\(4:Nat)=4/\an (setCells a0 d.heap.size 0 [a1,a2,a3,a4]) λw=>((!a5)=true->Q (.tuple #[(),(0:Int),(0:Int),(4:Int)]) w)/\((!a5)=false->∃bC:ai,w.cell? d.heap.size=some (.bool bC)/\∃aw:Y,w.cell? (Addr.add d.heap.size 1)=some (.slice aw.a aw.len aw.cap)/\∃ax:Y,w.cell? (Addr.add d.heap.size 2)=some (.slice ax.a ax.len ax.cap)/\∃ay:Y,w.cell? (Addr.add d.heap.size 3)=some (.slice ay.a ay.len ay.cap)/\Calls ak 281 #[.pointer c,.agg #[bC,aw,ax,ay]] w λbW bX=>∃bD:Y,∃bE:Int,bW=.returned (.tuple #[bD,bE])/\Q (.tuple #[bD,n31,.int .i64 (IntKind.wrap .i64 (n31+2)),bE]) bX))))/\(an (b.alloc (.cells #[false,(),(),()] 202)) λg=>ad l b g/\an (g.alloc (.cells #[false,(),(),()] 202)) λaz=>ad l g az/\bt az g.heap.size [z,o,p,q]/\(4:Nat)=4/\an (setCells az g.heap.size 0 [z,o,p,q]) λa6=>ad l az a6/\bt a6 b.heap.size [A,r,s,t]/\(4:Nat)=4/\an (setCells a6 b.heap.size 0 [A,r,s,t]) λa7=>bL (λbF:J->Prop=>∃bG:ae,up=some bG/\∃a8:Int,a7.cell? (bG.add 5)=some (.int .i64 a8)/\((decide ((n36:Int)>a8))=true->an (a7.drew) λi=>∃a9:Nat->Prop,¬a9 (nb:ae).block/\∃a_:ai,i.cell? nb=some (.bool a_)/\∃R:Y,i.cell? (Addr.add nb 1)=some (.slice R.a R.len R.cap)/\∃S:Y,i.cell? (Addr.add nb 2)=some (.slice S.a S.len S.cap)/\∃T:Y,i.cell? (Addr.add nb 3)=some (.slice T.a T.len T.cap)/\¬a9 (aG:ae).block/\∃ba:ai,i.cell? aG=some (.bool ba)/\∃U:Y,i.cell? (Addr.add aG 1)=some (.slice U.a U.len U.cap)/\∃V:Y,i.cell? (Addr.add aG 2)=some (.slice V.a V.len V.cap)/\∃W:Y,i.cell? (Addr.add aG 3)=some (.slice W.a W.len W.cap)/\bt i g.heap.size [a_,R,S,T]/\(4:Nat)=4/\an (setCells i g.heap.size 0 [a_,R,S,T]) λbb=>ad a9 i bb/\bt bb b.heap.size [ba,U,V,W]/\(4:Nat)=4/\an (setCells bb b.heap.size 0 [ba,U,V,W]) λbZ=>bF bZ)/\((decide ((n36:Int)>a8))=false->bF a7)) (λ(b0:J)=>an (b0.drew) λe=>∃n:Nat->Prop,¬n (g.heap.size:ae).block/\∃bc:ai,e.cell? g.heap.size=some (.bool bc)/\∃X:Y,e.cell? (Addr.add g.heap.size 1)=some (.slice X.a X.len X.cap)/\∃Z:Y,e.cell? (Addr.add g.heap.size 2)=some (.slice Z.a Z.len Z.cap)/\∃ab:Y,e.cell? (Addr.add g.heap.size 3)=some (.slice ab.a ab.len ab.cap)/\∃bd:ae,up=some bd/\¬n ((bd.add 1).add 1).block/\∃ac:Y,e.cell? ((bd.add 1).add 1)=some (.slice ac.a ac.len ac.cap)/\∃be:ae,ac.a=some be/\((0:Int)<=n31/\n31<(ac.len:Int))/\¬n (be.add (Int.toNat n31*1)).block/\∃af:Y,e.cell? (be.add (Int.toNat n31*1))=some (.slice af.a af.len af.cap)/\¬n (b.heap.size:ae).block/\∃bf:ai,e.cell? b.heap.size=some (.bool bf)/\∃ag:Y,e.cell? (Addr.add b.heap.size 1)=some (.slice ag.a ag.len ag.cap)/\∃ah:Y,e.cell? (Addr.add b.heap.size 2)=some (.slice ah.a ah.len ah.cap)/\∃aj:Y,e.cell? (Addr.add b.heap.size 3)=some (.slice aj.a aj.len aj.cap)/\(Calls ak 282 #[.agg #[bc,X,Z,ab],af,.agg #[bf,ag,ah,aj]] e λb1 k=>∃bg:ai,∃bh:Y,∃bi:Y,∃bj:Y,∃bk:ai,b1=.returned (.tuple #[.agg #[bg,bh,bi,bj],bk])/\ad n e k/\an (k.alloc (.cells #[false,(),(),()] 202)) λbl=>ad n k bl/\bt bl k.heap.size [bg,bh,bi,bj]/\(4:Nat)=4/\an (setCells bl k.heap.size 0 [bg,bh,bi,bj]) λx=>((!bk)=true->Q (.tuple #[(),(0:Int),(0:Int),(4:Int)]) x)/\((!bk)=false->∃bH:ai,x.cell? k.heap.size=some (.bool bH)/\∃aA:Y,x.cell? (Addr.add k.heap.size 1)=some (.slice aA.a aA.len aA.cap)/\∃aB:Y,x.cell? (Addr.add k.heap.size 2)=some (.slice aB.a aB.len aB.cap)/\∃aC:Y,x.cell? (Addr.add k.heap.size 3)=some (.slice aC.a aC.len aC.cap)/\Calls ak 281 #[.pointer c,.agg #[bH,aA,aB,aC]] x λb2 b3=>∃bI:Y,∃bJ:Int,b2=.returned (.tuple #[bI,bJ])/\Q (.tuple #[bI,n31,.int .i64 (IntKind.wrap .i64 (n31+2)),bJ]) b3))/\(an (e.alloc (.cells #[false,(),(),()] 202)) λbm=>ad n e bm/\Calls ak 282 #[.agg #[bc,X,Z,ab],af,.agg #[bf,ag,ah,aj]] bm λb4 bn=>∃bo:ai,∃bp:Y,∃bq:Y,∃br:Y,∃bs:ai,b4=.returned (.tuple #[.agg #[bo,bp,bq,br],bs])/\ad n bm bn/\bt bn e.heap.size [bo,bp,bq,br]/\(4:Nat)=4/\an (setCells bn e.heap.size 0 [bo,bp,bq,br]) λy=>((!bs)=true->Q (.tuple #[(),(0:Int),(0:Int),(4:Int)]) y)/\((!bs)=false->∃bK:ai,y.cell? e.heap.size=some (.bool bK)/\∃aD:Y,y.cell? (Addr.add e.heap.size 1)=some (.slice aD.a aD.len aD.cap)/\∃aE:Y,y.cell? (Addr.add e.heap.size 2)=some (.slice aE.a aE.len aE.cap)/\∃aF:Y,y.cell? (Addr.add e.heap.size 3)=some (.slice aF.a aF.len aF.cap)/\Calls ak 281 #[.pointer c,.agg #[bK,aD,aE,aF]] y λb5 b6=>∃bM:Y,∃bN:Int,b5=.returned (.tuple #[bM,bN])/\Q (.tuple #[bM,n31,.int .i64 (IntKind.wrap .i64 (n31+2)),bN]) b6)))))
theorem EK{w:J}{T:aL}{c:dh}{nb aG:Nat}{A:ae}{u:da}{n o:aA}{K V D g i j:Y}{fr other no:Nat}{Q:aa->J->Prop}(h:c4 w T c)(ao:Var w nb (dO n K V D) 202)(ap:Var w aG (dO o g i j) 202)
 (aq:¬T.M nb) (ar:¬T.M aG) (au:br (λq=>¬T.M q) w n K V D) (aw:br (λq=>¬T.M q) w o g i j) (hu:kE (λq=>¬T.M q) w A u)
 (az:T.C.D.aM<=900000090) (aD:2<=b3 T) (aE:c.made.length<=900) (bh:c.left.length<=900) (ir:cv n) (aF:cv o) (aH:bz n<=400) (aI:bz o<=400) (aJ:o.leaf=n.leaf) (aK:fr<u.n.keys.length) (aN:cD u.n.keys[fr]) (m:aA) (z:m=if u.cJ<other then du n u.n.keys[fr] o else du o u.n.keys[fr] n) (aO:kD m) (aP:fr<=1000)
 (aQ:∀ (s:Y) (e:Int) (bK:aL) (aB:dh) (w1 w':J),c5 T bK c aB [] [no] w w1 0->gS bK aB m w1 (.tuple #[s,e]) w'->Q (.tuple #[s,fr,.int .i64 ((fr+2:Nat):Int),e]) w'):
 wM nb aG (some c.cb) (some A) (fr:Nat) (other:Nat) (no:Nat) 0 w Q:=by
 unfold wM;refine⟨λB=>(by cases B),λ_=>⟨_,rfl,_,h.cells.2.2,?_⟩⟩;obtain⟨k,ah,av,ax,aR,aS,aT⟩:=Ab h no I;refine aY ⟨k,ah,av,_,rfl,by rw[ay];exact aR,by rw[ay];exact aS,aY ?_⟩;rw[ay];obtain⟨b,ai⟩:∃b,b=ah.setCell ⟨c.cb,0+2,none⟩ k:=⟨_,rfl⟩;rw[←ai];obtain⟨aj,ak⟩:=aT b ai;have al:=c5.leave (c:=c) (c':={c with fT:=k,left:=c.left++ [no]}) (no:=no) ak rfl (λq F=>.inl F) rfl rfl rfl;obtain⟨bK,x⟩:∃bK,bK=T.cg T.E λq=>T.G q\/aC k q:=⟨_,rfl⟩;obtain⟨aB,H⟩:∃aB:dh,aB={c with fT:=k,left:=c.left++ [no]}:=⟨_,rfl⟩;have aU:aB.cb=c.cb:=by rw[H]
 have aV:aB.made=c.made:=by rw[H]
 have aW:bK.C.D.aM<=900000090:=by rw[x];exact az
 have aX:2<=b3 bK:=by rw[x];exact aD
 rw[←x,←H]at aj al;rw[←x]at ak;have L:Ext b b.drew:=cw _;have am:=aj.ext L;have O:c5 T bK c aB [] [no] w b.drew 0:=al.trans (c5.ext bK aB L);obtain⟨a,aZ⟩:∃a,a=b.drew:=⟨_,rfl⟩;rw[←aZ]at L am O⊢;have y:=O.to;have P:∀q,¬T.M q->¬T.N q:=λq h1 h2=>h1 (aL.gm h2);have R:=ao.ab y.ab (P _ aq);have S:=ap.ab y.ab (P _ ar);have an:∀ {m:aA}{K V D:Y},br (λq=>¬T.M q) w m K V D->br (λq=>¬T.M q) a m K V D:=λz=>br.ab z y.ab λq F=>P q F;have a0:=an au;have a1:=an aw;have a2:=hu.to y;obtain⟨a3,bJ,bp,a4⟩:=bw R;obtain⟨a5,a6,a7,a8⟩:=bw S;have bi:=R.lt;have bj:=S.lt;have fin:∀ (bY:J) (l bv:Nat),Ext a bY->Var bY l (dO o g i j) 202->Var bY bv (dO n K V D) 202->a.heap.size<=l->a.heap.size<=bv->l≠bv->wL nb aG l bv (some c.cb) (some A) (fr:Nat) (other:Nat) bY Q:=by
  intro bY l bv hx a9 B h1 h2 a_;have:=EJ am hx R S a9 B h1 h2 a_ a0 a1 a2 aW aX (by rw[aV];exact aE) ir aF aH aI aJ aK aN m z aO aP (Q:=Q) λs e w' hf=>aQ s e bK aB a w' O hf;rw[aU]at this;exact this
 refine aY ⟨λq=>a.heap.size<=q,(show¬a.heap.size<=aG from I),_,a5,g,a6,i,a7,j,a8,(show¬a.heap.size<=nb from I),_,a3,K,bJ,V,bp,D,a4,?_,?_⟩
 .refine bl (vs:=[false,(),(),()]) rfl λU ba p bb=>⟨ad.cK p,bl (vs:=[false,(),(),()]) rfl λbc W d bd=>?_⟩
  have r:=ba.ext d;refine⟨ad.cK d,r.b2 rfl fj,rfl,cp r (us:=dO o g i j) rfl rfl λX Z f be=>?_⟩;have t:=W.ab f I;have ac:Ext a X:=Ext.ck (p.trans d) f (bo _);refine⟨f.mono λq _ e=>I,t.b2 rfl fj,rfl,cp t (us:=dO n K V D) rfl rfl λaf ag v bf=>?_⟩;exact fin af a.heap.size U.heap.size (Ext.ck ac v I) (Z.ab v I) ag (bo _) I I
 .refine bl (vs:=[false,(),(),()]) rfl λU bg p bb=>⟨ad.cK p,bl (vs:=[false,(),(),()]) rfl λbc r d bd=>?_⟩
  have W:=bg.ext d;refine⟨ad.cK d,r.b2 rfl fj,rfl,cp r (us:=dO o g i j) rfl rfl λX Z f be=>?_⟩;have t:=W.ab f I;have ac:Ext a X:=Ext.ck (p.trans d) f I;refine⟨f.mono λq _ e=>I,t.b2 rfl fj,rfl,cp t (us:=dO n K V D) rfl rfl λaf ag v bf=>?_⟩;exact fin af U.heap.size a.heap.size (Ext.ck ac v (bo _)) (Z.ab v I) ag I (bo _) I
theorem bO.read{w w':J}{T:aL}{E:Nat->Prop}{aD:bT}{P:Nat->aq aA}{k:Nat}(h:bO (T.cg E λ_=>False) ((T.cg E λ_=>False).bg aD P) w w' k)(e:∀q,T.E q\/T.G q->E q)(f:∀q,E q->T.E q\/T.G q\/w.heap.size<=q):bO T (T.bg aD P) w w' k:=by
 refine⟨h.a_,h.sb,h.n,h.g,h.s1,h.s2,h.c,h.d,h.bc,h.gen,h.aM,h.calm,h.ab.mono λq _ a=>?_,λq a=>?_,λq a=>?_⟩
 .rcases a with a|a|a|a
  .exact .inl a
  .exact .inr (.inl a)
  .exact .inr (.inr (.inl a))
  .exact a.elim
 .have h1:((T.cg E λ_=>False).bg aD P).M q:=by
   rcases a with a|a|a|a
   .exact .inl a
   .exact .inr (.inl a)
   .exact .inr (.inr (.inl a))
   .exact .inr (.inr (.inr (.inl (e q a))))
  rcases h.cS q h1 with h2|h2
  .rcases h2 with a|a|a|a|a
   .exact .inl (.inl a)
   .exact .inl (.inr (.inl a))
   .exact .inl (.inr (.inr (.inl a)))
   .rcases f q a with b|b|b
    .exact .inl (.inr (.inr (.inr (.inl b))))
    .exact .inl (.inr (.inr (.inr (.inr b))))
    .exact .inr b
   .exact a.elim
  .exact .inr h2
 .rcases a with a|a|a|a
  .rcases h.fn q (.inl a) with h2|h2
   .rcases h2 with h2|h2|h2|h2
    .exact .inl (.inl h2)
    .exact .inl (.inr (.inl h2))
    .exact .inl (.inr (.inr (.inl h2)))
    .exact h2.elim
   .exact .inr h2
  .exact .inl (.inr (.inl a))
  .exact .inl (.inr (.inr (.inl a)))
  .exact .inl (.inr (.inr (.inr a)))
theorem c5.cache{T:aL}{c:dh}{aD:bT}{w w':J}{k:Nat}(h:bO T (T.bg aD T.P) w w' k)(a:∀j,aD.view j=T.C.view j):c5 T (T.bg aD T.P) c c [] [] w w' k:=
 ⟨h,rfl,λ_ h=>h,rfl,rfl,rfl,by simp,by simp,List.nodup_nil,λ_ h=>(by cases h),λno=>by simp[aL.bg],λno _=>⟨rfl,a no⟩,by simp[b3,aL.bg]⟩
theorem Ai{w w1:J}{T:aL}{c:dh}{Z:Nat->Prop}{no:Nat}{o:aA}(h:c4 w T c)(hx:Ext w w1)(g:∀q,Z q->w.heap.size<=q/\q<w1.heap.size)(y:T.C.D.aM<=999999999)(z:T.P no=some o):
 aP ak 196 #[.pointer (some T.a_),no,o.leaf] w1 (λv w'=>∃aD:bT,(∀j,aD.view j=T.C.view j)/\ad (λq=>T.N q/\¬T.G q) w1 w'/\(∀q,(T.bg aD T.P).M q->T.M q\/w1.heap.size<=q)/\
  (∀f,ad Z w' f->c4 f (T.bg aD T.P) c/\c5 T (T.bg aD T.P) c c [] [] w f 2)/\
  ((∃ (K V D:Y),v=.tuple #[cQ o K V D,(0:Int)]/\br (λq=>w1.heap.size<=q/\¬(T.bg aD T.P).M q) w' o K V D)\/(v=.tuple #[cQ iL bn bn bn,(3:Int)]/\¬T.C.D.calm 2))):=by
 obtain⟨A,i⟩:=h.t.dQ no o z;obtain⟨bV,k⟩:∃bV,bV=λq=>T.E q\/T.G q\/Z q:=⟨_,rfl⟩;have d:∀q,T.E q\/T.G q\/Z q->bV q:=λq a=>by rw[k];exact a
 have l:∀q,bV q->T.E q\/T.G q\/Z q:=λq a=>by rw[k]at a;exact a
 have m:bH w1 (T.cg bV λ_=>False):=h.t.grow (W:=λ_=>False) hx (λ_ h=>h.elim) (λq a=>(l q a).imp id (Or.imp id (g q))) (λ_ h=>h.elim) λ_ _ h=>h;have n:∀q,(T.cg bV λ_=>False).N q->T.N q/\¬T.G q:=λq a=>⟨by
  rcases a with a|a|a|a
  .exact .inl a
  .exact .inr (.inl a)
  .exact .inr (.inr (.inl a))
  .exact a.elim,λhg=>m.iM (d q (.inr (.inl hg))) a⟩
 refine(wG m y A i.two o.leaf).mono ?_;rintro v w' ⟨aD,B,ht,r,F⟩;have Q:=hx.size;have R:=ht.ab.size;have s:=(bO.ext (T.cg bV λ_=>False) hx).trans ht;rw[cE]at s;have H:bO T (T.bg aD T.P) w w' 2:=bO.read (E:=bV) s (λq a=>d q (a.imp id .inl)) λq a=>(l q a).imp id (Or.imp id λh=>(g q h).1);have u:ad (λq=>T.N q/\¬T.G q) w1 w':=ht.ab.mono λq _ a=>n q a;refine⟨aD,r,u,λq a=>?_,λf hc=>?_,?_⟩
 .rcases a with a|a
  .exact(ht.fn q (.inl a)).imp (λh=>aL.gm (n q h).1) id
  .exact .inl (.inr a)
 .have I:bH f (T.bg aD T.P):=B.grow (E:=T.E) (G:=T.G) hc (λq a _=>.inl (d q (.inr (.inr a)))) (λq a=>.inl (d q (.inl a))) (λq a=>.inl (d q (.inr (.inl a)))) λq a=>(h.t.c3 q a).2.2
  refine⟨(h.ext hx).of (W:=λq=>(T.N q/\¬T.G q)\/Z q) I ((u.mono λq _ a=>.inl a).trans (hc.mono λq _ a=>.inr a)) (λq hg a=>?_) rfl (λ_ h=>h) ht.bC.1,c5.cache ?_ r⟩
  .rcases a with a|a
   .exact a.2 hg
   .have:=h.t.lt (q:=q) (.inr (.inr (.inr (.inr hg))))
    have:=(g q a).1;omega
  .exact H.step (E:=T.E) (G:=T.G) hc (λq a S=>by have:=(g q a).1;omega) (λq a=>.inl a) λq a=>.inl a
 .rcases F with ⟨bp,K,V,D,rfl,L,cT⟩|⟨e,rfl,O,U⟩
  .obtain rfl:=gg.uniq i L
   refine .inl ⟨K,V,D,rfl,cT.aV λq a x=>⟨x.1,λb=>x.2 ?_⟩⟩;rcases b with b|b|b|b|b
   .exact .inl b
   .exact .inr (.inl b)
   .exact .inr (.inr (.inl b))
   .exact .inr (.inr (.inr (.inl (d q (.inl b)))))
   .exact .inr (.inr (.inr (.inl (d q (.inr (.inl b))))))
  .refine .inr ?_
   rcases O with ⟨rfl,h1⟩|h1|⟨_,_,h1⟩
   .exact⟨rfl,h1⟩
   .obtain⟨p,av,_⟩:=i
    have h1:dk (no:Int) (T.C.view no)=.error e:=h1;rw[av]at h1;cases h1
   .exact absurd i (h1 o)
def iR(u:da):Nat:=if u.cJ=0 then 1 else u.cJ-1
def kF(u:da)(n o:aA):aA:=if u.cJ<iR u then du n (u.n.keys.getD (u.cJ-1) []) o else du o (u.n.keys.getD (u.cJ-1) []) n
def wN(T:aL)(c:dh)(n:aA)(u:da)(w:J)(v:aa)(w':J):Prop:=
 (80<=bz n/\∃ (s:Y) (e:Int),v=.tuple #[s,u.cJ,.int .i64 ((u.cJ+1:Nat):Int),e]/\gS T c n w (.tuple #[s,e]) w')\/
 (bz n<80/\∃ (bK:aL) (aB:dh),v=.tuple #[(),(0:Int),(0:Int),(3:Int)]/\c4 w' bK aB/\c5 T bK c aB [] [] w w' 2/\¬T.C.D.calm 2)\/
 (bz n<80/\∃ (o:aA) (no:Nat) (bK:aL) (aB:dh) (w1:J) (s:Y) (e:Int),u.n.kids[iR u]? =some no/\T.P no=some o/\c5 T bK c aB [] [no] w w1 2/\
   v=.tuple #[s,.int .i64 ((u.cJ-1:Nat):Int),.int .i64 ((u.cJ-1+2:Nat):Int),e]/\gS bK aB (kF u n o) w1 (.tuple #[s,e]) w')
theorem EL{B:Nat->Prop}{w:J}{T:aL}{c:dh}{n:aA}{K V D:Y}(h:c4 w T c)(j:br B w n K V D)(d:kD n)(o:T.C.D.aM<=900000080)(k:2<=b3 T)(l:c.made.length<=900):
 aP ak 248 #[.pointer (some c.cb),cQ n K V D,.pointer none] w (λv w'=>∃ (s:Y) (e:Int),v=.tuple #[s,(0:Int),(0:Int),e]/\gS T c n w (.tuple #[s,e]) w'):=by
 refine okF (af.mT (some c.cb) n.leaf K V D none) az.mT func248 ?_;(delta af.mT al a8 U ag aB r1 au b8 aI jX cc r2 st b7 p2 lQ rY;dsimp only);refine bl (vs:=dO n K V D) rfl λw1 m f p=>?_;refine ct (λb w'=>b=true/\w1=w') (λq g=>⟨λ_=>g _ _ ⟨rfl,rfl⟩,λh=>(by cases h)⟩) ?_;rintro _ _ ⟨rfl,rfl⟩;refine⟨λ_=>rE (λa b w'=>a=0/\b=0/\w1=w') (λq g=>⟨λh=>(by cases h),λ_=>g _ _ _ ⟨rfl,rfl,rfl⟩⟩) ?_,λh=>(by cases h)⟩;rintro _ _ _ ⟨rfl,rfl,rfl⟩;obtain⟨bI,aB,aT,aH⟩:=bw m;refine⟨_,bI,K,aB,V,aT,D,aH,(ug (h.ext f) I k l (j.ext f) d.1 d.2.1 d.2.2).use ?_⟩;intro v w' i;obtain⟨s,e,rfl⟩:=i.out;exact⟨s,e,rfl,s,e,rfl,i.base f⟩
theorem EM{w:J}{T:aL}{c:dh}{n:aA}{K V D:Y}{A:ae}{u:da}(h:c4 w T c)(aq:br (λq=>¬T.M q) w n K V D)(hu:kE (λq=>¬T.M q) w A u)(ir:cv n)(a5:bz n<=400)(ar:80<=bz n->kD n)
 (a6:bz n<80->∃ (o:aA) (no:Nat),u.n.kids[iR u]? =some no/\T.P no=some o/\o.leaf=n.leaf/\u.cJ-1<u.n.keys.length/\cD (u.n.keys.getD (u.cJ-1) [])/\kD (kF u n o)) (bG:u.cJ<=900)
 (bH:T.C.D.aM<=900000080) (aR:2<=b3 T) (aS:c.made.length<=900) (a7:c.left.length<=900):
 aP ak 248 #[.pointer (some c.cb),cQ n K V D,.pointer (some A)] w (wN T c n u w):=by
 have bJ:=ir.fH I;refine okF (af.mT (some c.cb) n.leaf K V D (some A)) az.mT func248 ?_;(delta af.mT al a8 U ag aB r1 au b8 aI jX cc r2 st b7 p2 lQ rY;dsimp only);refine bl (vs:=dO n K V D) rfl λw1 aa aU bL=>?_;obtain⟨nb,a9⟩:∃nb,nb=w.heap.size:=⟨_,rfl⟩;rw[←a9]at aa⊢;refine ct (λb w'=>b=decide (80<=bz n)/\Ext w1 w') (λq f=>⟨λh=>(by cases h),λ_=>?_⟩) ?_
 .obtain⟨bI,aB,aT,aH⟩:=bw aa
  refine⟨_,bI,K,aB,V,aT,D,aH,(mV (aq.ext aU) ir I).use ?_⟩;rintro _ bM ⟨rfl,a_⟩;refine⟨_,rfl,f _ _ ⟨?_,a_⟩⟩;rw[fD,cR,cR];omega
 rintro _ p ⟨rfl,ac⟩;have ah:=aU.trans ac;refine⟨λg=>?_,λg=>?_⟩
 .have g:=b_ g
  have L:=ar g;refine rE (λa b w'=>a=(u.cJ:Nat)/\b=((u.cJ+1:Nat):Int)/\Ext p w') (λq f=>⟨λ_=>?_,λh=>(by cases h)⟩) ?_
  .have y:Ext p p.drew:=cw _
   have aX:=hu.ext (ah.trans y);refine aY ⟨A,rfl,id,_,aX.aW,A,rfl,id,_,aX.aW,f _ _ _ ⟨rfl,?_,y⟩⟩;rw[bu I I];rfl
  rintro _ _ bN ⟨rfl,rfl,aZ⟩;have r:=ah.trans aZ;obtain⟨bI,aB,aT,aH⟩:=bw (aa.ext (ac.trans aZ));refine⟨_,bI,K,aB,V,aT,D,aH,(ug (h.ext r) I aR aS (aq.ext r) L.1 L.2.1 L.2.2).use ?_⟩;intro v w' ai;obtain⟨s,e,rfl⟩:=ai.out;exact⟨s,e,rfl,.inl ⟨g,s,e,rfl,ai.base r⟩⟩
 .have g:¬80<=bz n:=cG g
  obtain⟨o,no,av,aj,aw,a0,ba,L⟩:=a6 I;obtain⟨bO,bb⟩:=h.t.dQ no o aj;obtain⟨_,bc,bP⟩:=bb.is;have am:=hu.ext ah;refine⟨A,rfl,_,am.aW,((u.cJ-1:Nat):Int),p,?_,?_⟩
  .rw[run_max_int2]
   congr 2
   by_cases h0:u.cJ=0
   .rw[h0];rfl
   .rw[bu I I,if_neg I];omega
  refine ct (λa w'=>a=(iR u:Nat)/\p=w') (λq f=>⟨A,rfl,_,am.aW,λh0=>f _ _ ⟨?_,rfl⟩,λh0=>f _ _ ⟨?_,rfl⟩⟩) ?_
  .have:u.cJ=0:=by simpa using h0
   unfold iR;rw[if_pos this];rfl
  .have:u.cJ≠0:=by simpa using h0
   unfold iR;rw[if_neg this]
  rintro _ _ ⟨rfl,rfl⟩;have bd:iR u<u.n.kids.length:=(iy.1 av).1;obtain⟨yV,be,bf,a1⟩:=cx.at am.bj.kids bd;have bh:u.n.kids[iR u]=no:=(iy.1 av).2;rw[bh]at a1;refine⟨A,rfl,u.D,am.dj,yV,be,bf,_,a1,aY ?_⟩;have y:Ext p p.drew:=cw _;obtain⟨z,bi⟩:∃z,z=p.drew:=⟨_,rfl⟩;rw[←bi]at y⊢;have r:=ah.trans y;have ax:=h.ext r;have bQ:=r.size;have bR:=(ac.trans y).size;have ay:=aa.ext (ac.trans y);have aC:∀q,T.M q->q<w.heap.size:=λq f=>h.t.lt f;have a2:u.n.keys.getD (u.cJ-1) []=u.n.keys[u.cJ-1]:=by rw[fg,dE a0];rfl
  have fin:∀ (aD:bT) (aG:Nat) (i k l:Y) (d:J),c4 d (T.bg aD T.P) c->c5 T (T.bg aD T.P) c c [] [] z d 2->Var d nb (dO n K V D) 202->Var d aG (dO o i k l) 202->z.heap.size<=aG->¬(T.bg aD T.P).M aG->br (λq=>¬(T.bg aD T.P).M q) d o i k l->
   wM nb aG (some c.cb) (some A) ((u.cJ-1:Nat):Int) (iR u:Nat) (no:Nat) 0 d (λv w'=>wN T c n u w v w'):=by
   intro aD aG i k l d B an bk bm bS bp bq;have a3:=((c5.ext T c r).trans an).mono (j:=2) I;have aE:=a3.to;have bs:¬(T.bg aD T.P).M nb:=λO=>by
    rcases an.to.cS nb O with h1|h1
    .have:=aC _ h1;omega
    .omega
   have bt:br (λq=>¬(T.bg aD T.P).M q) d n K V D:=(aE.bj (lo:=0) (aq.aV λq _ g=>⟨cN _,g⟩)).aV λq _ g=>g.2;have bv:(T.bg aD T.P).C.D.aM<=900000090:=eI aE.aM I;refine EK B bk bm bs bp bt bq (hu.to aE) bv aR aS a7 ir bc a5 I aw a0 (by rw[←a2];exact ba) (kF u n o) (by unfold kF;rw[a2]) L I ?_;intro s e bK aB bx w' bA hf;exact .inr (.inr ⟨I,o,no,bK,aB,bx,s,e,av,aj,(a3.trans bA).mono I,rfl,hf⟩)
  have ao:∀q,T.N q->q<w.heap.size:=λq f=>aC q (aL.gm f);have err:∀ (aD:bT) (d:J),c4 d (T.bg aD T.P) c->c5 T (T.bg aD T.P) c c [] [] z d 2->¬T.C.D.calm 2->wN T c n u w (.tuple #[(),(0:Int),(0:Int),(3:Int)]) d:=by
   intro aD d B an Q;exact .inr (.inl ⟨I,_,c,rfl,B,((c5.ext T c r).trans an).mono I,Q⟩)
  obtain⟨bI,aB,aT,aH⟩:=bw ay;refine⟨λq=>T.N q/\¬T.G q,_,rfl,λf=>f.2 h.gc,_,ax.cells.1,(λf=>by have:=ao _ f.1;show False;exact absurd this (by show¬nb<w.heap.size;omega)),_,bI,?_,?_⟩
  .rw[←aw]
   refine(Ai (Z:=λ_=>False) ax (ad.refl _ _) (λ_ h=>h.elim) I aj).use ?_;rintro _ F ⟨aD,ai,x,a4,R,aF⟩;have bB:=x.size;rcases aF with ⟨i,k,l,rfl,aJ⟩|⟨rfl,Q⟩
   .refine⟨_,i,k,l,0,rfl,x,bl (vs:=[false,(),(),()]) rfl λbC S W bD=>⟨ad.cK W,S.b2 rfl fj,rfl,cp S (us:=dO o i k l) rfl rfl λd X m aK=>?_⟩⟩
    have E:Ext F d:=Ext.ck W m (bo _);obtain⟨ap,aN⟩:=R F (ad.refl _ _);have H:=ay.ab x λf=>by have:=ao _ f.1;omega
    refine fin aD F.heap.size i k l d (ap.ext E) ((aN.trans (c5.ext _ _ E)).mono I) (H.ext E) X I (λO=>by have:=ap.t.lt O;omega) ?_;exact(aJ.ext E).aV λq _ g=>g.2
   .refine⟨_,bn,bn,bn,3,rfl,x,bl (vs:=[false,(),(),()]) rfl λbC S W bD=>⟨ad.cK W,S.b2 rfl fj,rfl,cp S (us:=dO iL bn bn bn) rfl rfl λd X m aK=>⟨λ_=>?_,λg=>(by cases g)⟩⟩⟩
    have E:Ext F d:=Ext.ck W m (bo _);obtain⟨ap,aN⟩:=R F (ad.refl _ _);exact err aD d (ap.ext E) ((aN.trans (c5.ext _ _ E)).mono I) Q
  .refine bl (vs:=[false,(),(),()]) rfl λbU bE aO bV=>⟨ad.cK aO,?_⟩
   rw[←aw];refine(Ai (Z:=λq=>q=z.heap.size) ax aO (λq e=>⟨I,I⟩) I aj).use ?_;rintro _ F ⟨aD,ai,x,a4,R,aF⟩;have bB:=x.size;have H:=bE.ab x λf=>by have:=ao _ f.1;omega
   have bF:=(ay.ext aO).ab x λf=>by have:=ao _ f.1;omega
   rcases aF with ⟨i,k,l,rfl,aJ⟩|⟨rfl,Q⟩
   .refine⟨_,i,k,l,0,rfl,H.b2 rfl fj,rfl,cp H (us:=dO o i k l) rfl rfl λd X m aK=>?_⟩
    obtain⟨B,aQ⟩:=R d m;refine fin aD z.heap.size i k l d B aQ (bF.ab m I) X (bo _) (λO=>?_) ?_
    .rcases a4 _ O with h1|h1
     .have:=aC _ h1;omega
     .omega
    .refine(br.ab aJ m λq f e=>by have:=f.1;omega).aV λq _ g=>g.2
   .refine⟨_,bn,bn,bn,3,rfl,H.b2 rfl fj,rfl,cp H (us:=dO iL bn bn bn) rfl rfl λd X m aK=>⟨λ_=>?_,λg=>(by cases g)⟩⟩
    obtain⟨B,aQ⟩:=R d m;exact err aD d B aQ Q
structure wO(T ao:aL)(l:O Nat)(w w':J):Prop where
 to:bO T ao w w' 0
 E:ao.E=T.E
 G:ao.G=T.G
 root:ao.root=T.root
 aE:ao.aE=T.aE
 f:∀no,ao.f no=(T.f no&& !decide (no∈l))
 ee:∀no,(no∉l\/T.g no=true)->ao.P no=T.P no/\ao.C.view no=T.C.view no
theorem Aj{w:J}{T:aL}{c:dh}{s:Y}{l:O Nat}(h:c4 w T c)(hs:Src 1 w s (dv l))(z:∀q,aC s q->T.G q)(Q:∀x∈l,T.f x=true)(cT:l.Nodup)(ai:l.length<=10000):
 aP ak 207 #[.pointer (some c.cb),s] w (λv w'=>v=.tuple #[]/\∃ao:aL,c4 w' ao c/\wO T ao l w w'):=by
 have aj:s.len=l.length:=by have:=hs.len;rw[l6]at this;omega
 refine okF (af.s8 (some c.cb) s) az.s8 func207 ?_;(delta af.s8 al aI r1 aH aB au;dsimp only);refine⟨λi w'=>∃ (j:Nat) (ao:aL),i=j/\j<=l.length/\c4 w' ao c/\wO T ao (l.take j) w w'/\Src 1 w' s (dv l),λi _=>((l.length:Int)-i).toNat,⟨0,T,rfl,cN _,h,⟨.refl _ _,rfl,rfl,rfl,rfl,λno=>by simp,λ_ _=>⟨rfl,rfl⟩⟩,hs⟩,?_⟩;rintro _ am ⟨j,bK,rfl,an,h1,hg,B⟩;refine⟨λaK=>?_,λp=>?_⟩
 .have aK:j<l.length:=by
   have:(j:Int)<(s.len:Int):=b_ aK;omega
  have C:bK.f l[j]=true:=by
   rw[hg.f,Q _ (cr aK)];have:l[j]∉l.take j:=λR=>by
    obtain⟨i,hi,he⟩:=eK R;rw[cC]at hi;rw[pt]at he;have:=(List.getElem_inj cT).1 he;omega
   simp[this]
  have ap:l[j]<bK.n:=by
   rcases dR l[j] bK.n with h2|h2
   .exact h2
   .have:=h1.t.s.pf _ h2
    rw[C]at this;cases this
  obtain⟨A,ar,S,hc⟩:=B.at (i:=j) (v:=.int .i64 ((l[j]:Nat):Int)) (by simp[dv,aK]);refine jd (λw'=>∃b7:aL,c4 w' b7 c/\wO T b7 (l.take (j+1)) w w'/\Src 1 w' s (dv l)) (λq a=>⟨A,ar,S,_,hc,_,rfl,_,h1.cells.1,_,rfl,_,h1.t.cells.2.1,(Ei h1.t.s _).use ?_⟩) ?_
  .rintro _ _ ⟨rfl,rfl⟩
   refine⟨_,rfl,_,rfl,_,h1.cells.1,_,rfl,_,h1.t.cells.2.1,(zW h1.t.s _).use ?_⟩;rintro _ D ⟨rfl,fA,r⟩;have U:l_ bK.f bK.n ((l[j]:Nat):Int)=c0 bK.f l[j] false:=by
    unfold l_;rw[if_pos ⟨I,I⟩,di]
   rw[U]at fA;obtain⟨V,F⟩:=h1.t.ue fA r;have d:c4 D (bK.hM (c0 bK.f l[j] false)) c:=h1.of V r (λq a hf=>(h1.t.hL q a).2 hf) rfl λ_ h=>h;have H:Src 1 D s (dv l):=B.ab r λq a hf=>(h1.t.hL q (by rw[hg.G];exact z q a)).2 hf;have W:(decide ((0:Int)<=((l[j]:Nat):Int))&&decide (((l[j]:Nat):Int)<(bK.n:Nat))&&bK.f (Int.toNat ((l[j]:Nat):Int))&& !(bK.g (Int.toNat ((l[j]:Nat):Int))))= !(bK.g l[j]):=by
    rw[di,C,dL I,dL I];simp
   have K:∀no,c0 bK.f l[j] false no=(T.f no&& !decide (no∈l.take (j+1))):=λno=>by
    rw[iW aK];unfold c0;by_cases e:no=l[j]
    .rw[if_pos e,e,dL (cH.2 (.inr (e0.2 rfl)))]
     exact(Bool.and_false _).symm
    .rw[if_neg e,hg.f]
     have X:decide (no∈l.take j++ [l[j]])=decide (no∈l.take j):=by
      rw[fD,cR,cR,cH,e0];exact⟨λh=>h.resolve_right e,.inl⟩
     rw[X]
   rw[W];refine⟨_,rfl,λu=>⟨_,rfl,_,d.cells.1,_,rfl,_,d.t.cells.1,(zN d.t.ca _).use ?_⟩,λu=>a _ ⟨_,d,⟨?_,hg.E,hg.G,hg.root,hg.aE,K,λno k=>?_⟩,H⟩⟩
   .rintro _ aq ⟨⟨b,rfl⟩,aD,Z,m,L,_⟩
    have aa:T.g l[j]=false:=by
     have h2:bK.g=T.g:=hg.to.g;rw[h2]at u;simpa using u
    obtain⟨ac,ad⟩:=d.t.oZ (P:=λno=>if no=l[j] then none else bK.P no) Z m (λno bj o=>by
     by_cases e:no=l[j]
     .rw[if_pos e]at o;cases o
     .rw[if_neg e]at o
      rw[L no e];exact h1.t.dQ no bj o)
    have ae:=d.of (ao:=(bK.hM (c0 bK.f l[j] false)).bg aD λno=>if no=l[j] then none else bK.P no) ac m.ab (λq a=>d.t.ud a) rfl (λ_ h=>h) m.bC;refine⟨b,rfl,a _ ⟨_,ae,⟨?_,hg.E,hg.G,hg.root,hg.aE,K,λno k=>?_⟩,?_⟩⟩
    .exact((hg.to.trans F).trans ad).mono I
    .have M:no≠l[j]:=λe=>by
      rcases k with h2|h2
      .exact h2 (by rw[iW aK,e];exact cH.2 (.inr (e0.2 rfl)))
      .rw[e,aa]at h2;cases h2
     have N:=hg.ee no (k.imp (λh2 y=>h2 (by rw[iW aK];exact cH.2 (.inl y))) id);exact⟨(if_neg M).trans N.1,(L no M).trans N.2⟩
    .exact H.ab m.ab λq a=>d.t.ud (by show bK.G q;rw[hg.G];exact z q a)
   .exact(hg.to.trans F).mono I
   .exact hg.ee no (k.imp (λh2 y=>h2 (by rw[iW aK];exact cH.2 (.inl y))) id)
  .rintro av ⟨b7,h2,ag,ah⟩
   rw[bu (n:=(j:Int)+1) I I];refine⟨⟨j+1,b7,I,I,h2,ag,ah⟩,?_⟩;show((l.length:Int)-((j:Int)+1)).toNat<((l.length:Int)-(j:Int)).toNat;omega
 .have p:j=l.length:=by
   have:¬(j:Int)<(s.len:Int):=cG p;omega
  subst p;rw[iB]at hg;exact⟨rfl,bK,h1,hg⟩
theorem oD{B:Nat->Prop}{w:J}{n:aA}{K V D:Y}(c:br B w n K V D)(aE:Nat)(h:aE<=100)(d:n.leaf=false->∃x,n.kids=[x]/\1<=aE):
 aP ak 247 #[cQ n K V D,aE] w (λv w'=>v=(if n.leaf then .tuple #[(0:Int),(0:Int),(0:Int)] else .tuple #[.int .i64 ((n.kids.getD 0 0:Nat):Int),.int .i64 ((aE-1:Nat):Int),(0:Int)])/\Ext w w'):=by
 refine okF (af.oD n.leaf K V D (aE:Nat)) az.oD func247 ?_;(delta af.oD a8 U al ag aI r1 au;dsimp only);refine bl (vs:=dO n K V D) rfl λw1 e b j=>?_;obtain⟨bI,aB,aT,aH⟩:=bw e;refine⟨_,bI,λa=>⟨by rw[if_pos a],b⟩,λa=>?_⟩;obtain⟨x,hx,h1⟩:=d a;obtain⟨A,ar,f,hc⟩:=cx.at (c.ext b).kids (i:=0) (by rw[hx];simp);refine⟨D,aH,A,ar,f,_,hc,?_,b⟩;have g:(aE:Int)-1=((aE-1:Nat):Int):=by omega
 rw[if_neg (by rw[a];simp),bu I I,g];simp only[hx];rfl
def wP(T:aL)(c:dh)(ks:O Key)(kids:O Nat)(w:J)(v:aa)(w':J):Prop:=
 (∃x,ks=[]/\kids=[x]/\v=.tuple #[x,T.aE,(0:Int)]/\c4 w' T c/\Ext w w')\/
 (∃ (k:Key) (x y no:Nat) (ao:aL) (c':dh),ks=[k]/\kids=[x,y]/\c4 w' ao c'/\c5 T ao c c' [no] [] w w' 1/\
   ((v=.tuple #[no,.int .i64 ((T.aE+1:Nat):Int),(0:Int)]/\ao.P no=some ⟨false,[k],[],[x,y]⟩)\/(v=.tuple #[no,.int .i64 ((T.aE+1:Nat):Int),(3:Int)]/\¬T.C.D.calm 1)))
theorem Ak(K D:Nat)(w:J):Sem.run ak (Instr.build 202 #[(1,.slice (some K) 1 1),(3,.slice (some D) 2 2)]) w=.ok (.agg #[false,.slice (some K) 1 1,(),.slice (some D) 2 2]) w:=by kernel_rfl
theorem Var.Al{w:J}{b:Nat}{vs:O aa}{T:TypeId}(h:Var w b vs T):Src 1 w ⟨some b,vs.length,vs.length⟩ vs:=by
 refine⟨by show _=vs.length*1;omega,(λh=>by cases h),λa c=>?_⟩
 cases c;show cz w b 0 (vs.length*1)=_;rw[fz,h.rd rfl]
theorem EN{w:J}{t:Y}{k:Key}(b:Nat)(a:Var w b [t] 48)(ht:bk (λ_=>True) w t k):bf (λ_=>True) w ⟨some b,1,1⟩ [k]:=by
 refine⟨[t],rfl,a.Al,bo _,λq c=>⟨trivial,?_⟩,λi h1 h2=>?_⟩
 .obtain⟨A,ar,rfl⟩:=c
  cases ar;exact a.lt
 .have:i=0:=by simp at h1;omega
  subst this;exact ht
theorem EO{w:J}{x y:Nat}(b:Nat)(a:Var w b [x,y] 3):cx (λ_=>True) w ⟨some b,2,2⟩ [x,y]:=by
 refine⟨a.Al,bo _,λq c=>⟨trivial,?_⟩⟩;obtain⟨A,ar,rfl⟩:=c
 cases ar;exact a.lt
theorem EP{w:J}{T:aL}{c:dh}{s:Y}{ks:O Key}{kids:O Nat}(h:c4 w T c)(H:j9 (λq=>¬T.M q) w s ks kids)(A:kids.length=2->T.aE<12)(hs:∀k x y,ks=[k]->kids=[x,y]->cD k/\x<1600/\y<1600)
 (av:T.C.D.aM<=900000080) (K:1<=b3 T) (aw:c.made.length<=900):
 aP ak 249 #[.pointer (some ⟨c.cb,0,none⟩),.slice s.a s.len s.cap] w (wP T c ks kids w):=by
 have ax:=h.t.num.2.1;refine okF (af.tg (some ⟨c.cb,0,none⟩) s) az.tg func249 ?_;(delta af.tg al aI r1 ag il U e2 au;dsimp only);have o:Ext w w.drew:=cw w;have hd:=h.ext o;rcases H with ⟨b,x,rfl,rfl,rfl,l,B⟩|⟨b,x,y,k,t,rfl,rfl,rfl,l,B,ht,aA⟩
 .refine⟨λ_=>aY ⟨_,rfl,⟨by decide,by show(0:Int)<((1:Nat):Int);decide⟩,id,_,by rw[ay,ay];exact l.drew.cell,_,rfl,id,_,hd.cells.1,_,rfl,id,_,hd.t.cells.2.2.2.2,?_⟩,λh=>(by cases h)⟩
  exact .inl ⟨x,rfl,rfl,rfl,hd,o⟩
 .have A:=A rfl
  obtain⟨s1,s2,aB⟩:=hs k x y rfl rfl;refine⟨λh=>(by cases h),λ_=>⟨_,rfl,_,h.cells.1,_,rfl,_,h.t.cells.2.2.2.2,λL=>?_,λ_=>?_⟩⟩
  .have:((T.aE:Nat):Int)=12:=by simpa using L
   omega
  have P:cv ⟨false,[k],[],[x,y]⟩:=.inr ⟨⟨λaC Q=>by rw[e0.1 Q];exact s1,List.pairwise_singleton _ _⟩,rfl,by simp,rfl,rfl,λz E=>by
   simp only[cP,eE,eL]at E;rcases E with rfl|rfl<;>assumption⟩
  have R:bz ⟨false,[k],[],[x,y]⟩<=232:=by
   have:=s1.2;simp[bz,cellsOf];omega
  have r:¬T.N b:=λS=>B (aL.gm S);have fin:∀ (d:J) (ba aI:Nat),Ext w d->Var d ba [.slice t.a t.len t.cap] 48->Var d aI [.int .i64 (x:Nat),.int .i64 (y:Nat)] 3->
   aP ak 283 #[.pointer (some ⟨c.cb,0,none⟩),.agg #[.bool false,.slice (some ⟨ba,0,none⟩) 1 1,.slice none 0 0,.slice (some ⟨aI,0,none⟩) 2 2]] d (λv w'=>∃n27:Int,∃n28:Int,v=.tuple #[.int .i64 n27,.int .i64 n28]/\ad T.N d w'/\
    ∀e,Ext w' e->wP T c [k] [x,y] w (.tuple #[.int .i64 n27,.int .i64 ((T.aE+1:Nat):Int),.int .i64 n28]) e/\∃ao c',c4 e ao c'/\c'.cb=c.cb/\ao.a_=T.a_/\ao.aE=T.aE):=by
   intro d ba aI hx V W;have cT:br (λ_=>True) d ⟨false,[k],[],[x,y]⟩ ⟨some ⟨ba,0,none⟩,1,1⟩ ⟨none,0,0⟩ ⟨some ⟨aI,0,none⟩,2,2⟩:=by
    exact⟨EN ba V (bk.aV (bk.ext ht hx) λ_ _ _=>trivial),bf.none _ _,EO aI W⟩
   refine(uf (h.ext hx) I K I cT P R).mono ?_;rintro v w' ⟨no,ao,c',p,f,X⟩;have F:=((c5.ext T c hx).trans f).mono (j:=1) I;rcases X with ⟨rfl,Z⟩|⟨rfl,aa⟩
   .refine⟨_,_,rfl,f.to.ab,λe g=>⟨.inr ⟨k,x,y,no,ao,c',rfl,rfl,p.ext g,(F.trans (c5.ext ao c' g)).mono I,.inl ⟨rfl,Z⟩⟩,ao,c',p.ext g,f.cb,f.to.a_,f.aE⟩⟩
   .refine⟨_,_,rfl,f.to.ab,λe g=>⟨.inr ⟨k,x,y,no,ao,c',rfl,rfl,p.ext g,(F.trans (c5.ext ao c' g)).mono I,.inr ⟨rfl,aa⟩⟩,ao,c',p.ext g,f.cb,f.to.a_,f.aE⟩⟩
  have ac:IntKind.wrap .i64 (((T.aE:Nat):Int)+1)=((T.aE+1:Nat):Int):=by rw[bu I I];rfl
  refine rE (λa b w'=>∀e,Ext w' e->wP T c [k] [x,y] w (.tuple #[.int .i64 a,.int .i64 ((T.aE+1:Nat):Int),.int .i64 b]) e/\∃ao c',c4 e ao c'/\c'.cb=c.cb/\ao.a_=T.a_/\ao.aE=T.aE) (λq G=>aY ⟨T.N,_,rfl,⟨by decide,by show(1:Int)<((2:Nat):Int);decide⟩,r,t,by rw[ay];exact l.drew.cell,_,rfl,⟨by decide,by show(0:Int)<((2:Nat):Int);decide⟩,r,_,by rw[ay,ay];exact l.drew.cell,_,rfl,⟨by decide,by show(1:Int)<((2:Nat):Int);decide⟩,r,_,by rw[ay,ay];exact l.drew.cell,?_,?_⟩) ?_
  .refine bl (vs:=[.slice t.a t.len t.cap]) rfl λu ae m ah=>⟨ad.cK m,bl (vs:=[.int .i64 (x:Nat),.int .i64 (y:Nat)]) rfl λd ai i aj=>⟨ad.cK i,_,λ_=>Ak _ _ _,?_⟩⟩
   refine(fin d w.drew.heap.size u.heap.size (o.trans (m.trans i)) (ae.ext i) ai).use ?_;rintro _ w' ⟨n27,n28,rfl,hc,n⟩;exact⟨n27,n28,rfl,hc,G _ _ _ n⟩
  .refine bl (vs:=[.int .i64 (x:Nat),.int .i64 (y:Nat)]) rfl λu am m ah=>⟨ad.cK m,bl (vs:=[.slice t.a t.len t.cap]) rfl λd an i aj=>⟨ad.cK i,_,λ_=>Ak _ _ _,?_⟩⟩
   refine(fin d u.heap.size w.drew.heap.size (o.trans (m.trans i)) an (am.ext i)).use ?_;rintro _ w' ⟨n27,n28,rfl,hc,n⟩;exact⟨n27,n28,rfl,hc,G _ _ _ n⟩
  .intro a b ap n
   obtain⟨h1,ao,c',h2,aq,aD,ar⟩:=n _ (cw ap);have hc:=h2.cells.1;rw[aq]at hc;have ht:=h2.t.cells.2.2.2.2;refine aY ⟨_,rfl,id,_,hc,_,rfl,id,_,ht,?_⟩;rw[ar,ac];exact h1
theorem cZ.wQ{P:Nat->aq aA}{lo hi:aq Key}{h:Nat}{n:aA}{p:O Nat}{L:O aR}(a:cZ P h n lo hi p L)(h2:n.leaf=true->bz n<=310)(d:n.leaf=false->bz n<=335)(g:n.leaf=false->n.keys≠ []):kD n:=by
 refine⟨?_,by cases e:n.leaf;exact eI (d e) (by decide);exact eI (h2 e) (by decide),λhs=>?_⟩
 .cases h with
  |zero=>exact a.elim
  |succ h=>
   cases h with
   |zero=>exact .inl a.1
   |succ h=>
    obtain⟨av,ax,b,c,f⟩:=a;have hs:=f.sorted λ_ _ _ _ _ i=>i.in;exact .inr ⟨⟨b,hs.2.2.1⟩,av,g av,f.len,ax,c⟩
 .obtain⟨av,ax,b,c,_⟩:=a.two (Q:=P) (x:=0) (y:=0) hs h2 d
  exact⟨av,ax,b,c⟩
section
variable {P:Nat->aq aA}{lo hi:aq Key}
theorem ER{h:Nat}{d f:aA}{p A:aq Key}{i:Nat}{bB D:O Nat}{bq gL:O aR}{k:Key}(E:∀k∈d.keys,cD k)(hlen:d.kids.length=d.keys.length+1)(F:∀x n,P x=some n->bz n<=232)
 (Q:1<=i) (R:i<d.kids.length) (B:e4 p A k)
 (G:e6 (eW P (h+1)) lo p (d.keys.take i) (d.kids.take i) bB bq) (q:cZ P (h+1) f p A D gL) (h1:bz f<80):
 ∃ (o:aA) (S:i-1<d.kids.length) (T:i-1<d.keys.length),P d.kids[i-1]=some o/\o.leaf=f.leaf/\cD d.keys[i-1]/\kD (du o d.keys[i-1] f):=by
 obtain⟨s,H,aN,r,aZ,N,hs,rfl,t,rfl,rfl,⟨u,m,g,v⟩,U,V⟩:=G.last (by rw[cC];omega);have W:(d.keys.take i).length=i:=by rw[cC];omega
 have X:(d.kids.take i).length=i:=by rw[cC];omega
 have t:s=d.keys[i-1]'I:=by
  rw[t,pt];congr 1;omega
 have J:(d.kids.take i)[(d.kids.take i).length-1]'I=d.kids[i-1]'I:=by
  rw[pt];congr 1;omega
 rw[J]at u g;obtain⟨o,K,j,rfl,_,w⟩:=u.jC;rw[j]at g;have v:2<=o.keys.length:=by rw[Option.some.inj g];exact v
 clear g;subst t;have y:=(show eW P (h+1) H (some (d.keys[i-1]'I)) (d.kids[i-1]'I) (d.kids[i-1]'I::K) N from⟨u,o,j,v⟩).in;obtain⟨x,hx⟩:=po _ y.1;have z:=E _ (cr (l:=d.keys) (n:=i-1) I);have L:=cZ.merge w q z (λc hc=>hZ (jA ((y.2.2 x hx).1 c hc) ((y.2.2 x hx).2 _ rfl))) (λc hc=>hZ (jA (B.1 _ rfl) (B.2 c hc)));have C:=tz w q z (by have:=F _ _ j;omega);have M:=tx (a:=o) (b:=f) (s:=d.keys[i-1]'I);refine⟨o,I,I,j,by rw[w.leaf,q.leaf],z,L.wQ C.1 C.2 λ_ e=>?_⟩;rw[e,jQ]at M;omega
theorem ES{h:Nat}{d f:aA}{B q:aq Key}{i:Nat}{bx E:O Nat}{gL bM:O aR}{k:Key}(F:∀k∈d.keys,cD k)(hlen:d.kids.length=d.keys.length+1)(G:∀x n,P x=some n->bz n<=232)
 (g:i+1<d.kids.length) (C:e4 B q k)
 (H:fQ (eW P (h+1)) hi q (d.keys.drop i) (d.kids.drop (i+1)) bx bM) (t:cZ P (h+1) f B q E gL) (h1:bz f<80):
 ∃ (o:aA) (R:i+1<d.kids.length) (S:i<d.keys.length),P d.kids[i+1]=some o/\o.leaf=f.leaf/\cD d.keys[i]/\kD (du f d.keys[i] o):=by
 obtain⟨s,J,r,T,N,U,hs,rfl,u,rfl,rfl,⟨v,m,j,w⟩,V⟩:=H.head (by rw[cX];omega);have u:s=d.keys[i]'I:=by rw[u,qX];rfl
 have K:(d.kids.drop (i+1))[0]'(by rw[cX];omega)=d.kids[i+1]'g:=by rw[qX]
 rw[K]at v j;obtain⟨o,L,p,rfl,_,y⟩:=v.jC;rw[p]at j;have w:2<=o.keys.length:=by rw[Option.some.inj j];exact w
 clear j;subst u;have z:=(show eW P (h+1) (some (d.keys[i]'I)) J (d.kids[i+1]'g) (d.kids[i+1]'g::L) N from⟨v,o,p,w⟩).in;obtain⟨x,hx⟩:=po _ z.1;have A:=F _ (cr (l:=d.keys) (n:=i) I);have M:=cZ.merge t y A (λc hc=>hZ (jA (C.1 c hc) (C.2 _ rfl))) (λc hc=>hZ (jA ((z.2.2 x hx).1 _ rfl) ((z.2.2 x hx).2 c hc)));have D:=tz t y A (by have:=G _ _ p;omega);have Q:=tx (a:=f) (b:=o) (s:=d.keys[i]'I);refine⟨o,g,I,p,by rw[y.leaf,t.leaf],A,M.wQ D.1 D.2 λ_ e=>?_⟩;rw[e,jQ]at Q;omega
inductive Ctx (P:Nat->aq aA) (k:Key) (top:Nat):Nat->aq Key->aq Key->O (Nat×aA×Nat)->O Nat->O aR->O aR->Prop
 |top:Ctx P k top top none none [] [] [] []
 |step {ej:Nat}{lo hi a b:aq Key}{st:O (Nat×aA×Nat)}{dw:O Nat}{A B:O aR}{no:Nat}{n:aA}{bB bx:O Nat}{bq bM:O aR} (h:Ctx P k top (ej+2) lo hi st dw A B) (c:P no=some n) (d:n.leaf=false) (e:∀k∈n.keys,cD k) (f:∀x∈n.kids,x<1600)
  (hlen:n.kids.length=n.keys.length+1) (g:n.keys≠ []) (i:st≠ []->2<=n.keys.length) (j:e4 a b k) (l:e6 (eW P (ej+1)) lo a (n.keys.take (eB n.keys k)) (n.kids.take (eB n.keys k)) bB bq)
  (m:fQ (eW P (ej+1)) hi b (n.keys.drop (eB n.keys k)) (n.kids.drop (eB n.keys k+1)) bx bM):Ctx P k top (ej+1) a b (st++ [(no,n,eB n.keys k)]) (no::(bB++(bx++dw))) (A++bq) (bM++B)
theorem Ctx.ej{k:Key}{top ej:Nat}{st:O (Nat×aA×Nat)}{dw:O Nat}{A B:O aR}(h:Ctx P k top ej lo hi st dw A B):ej+st.length=top:=by
 induction h with
 |top=>rfl
 |step h _ _ _ _ _ _ _ _ _ _ a=>rw[cF,ie];omega
theorem Ctx.agree{Q:Nat->aq aA}{k:Key}{top ej:Nat}{st:O (Nat×aA×Nat)}{dw:O Nat}{A B:O aR}(h:Ctx P k top ej lo hi st dw A B)(a:∀x∈dw,P x=Q x):Ctx Q k top ej lo hi st dw A B:=by
 induction h with
 |top=>exact .top
 | @step ej lo hi p q st dw A B no n bB bx bq bM h c d e f hlen g i j l m o=>
  refine .step (o λx hx=>a x (by simp[hx])) (by rw[←a no (by simp)];exact c) d e f hlen g i j (l.kz λ_ _ _ _ _ hs b=>b.agree λx hx=>a x ?_) (m.kz λ_ _ _ _ _ hs b=>b.agree λx hx=>a x ?_)
  .have:=hs x hx;simp[this]
  .have:=hs x hx;simp[this]
theorem Ctx.down{k:Key}{top:Nat}:∀ {ej:Nat}{lo hi:aq Key}{st:O (Nat×aA×Nat)}{dw:O Nat}{A B M aZ:O aR}{no:Nat}{p:O Nat},Ctx P k top (ej+1) lo hi st dw A B->en P (ej+1) lo hi no p M->(st≠ []->∃m,P no=some m/\2<=m.keys.length)->e4 lo hi k->aZ=A++(M++B)->(∀u,Loc k u->u aZ=A++(u M++B))->
 ∃ (rest a:O (Nat×aA×Nat)) (b:Nat) (bJ:aA) (c d:aq Key) (h:O Nat) (e f:O aR),mc P k (ej+1) no rest/\st++rest=a++ [(b,bJ,0)]/\Ctx P k top 1 c d a h e f/\P b=some bJ/\gw bJ/\bJ.within c d/\bJ.keys≠ []/\(a≠ []->2<=bJ.keys.length)/\e4 c d k/\
  (p++dw).Perm (b::h)/\aZ=e++(bJ.e5++f)/\∀u,Loc k u->u aZ=e++(u bJ.e5++f)
 |0,lo,hi,st,dw,A,B,M,aZ,no,p,hc,j,h2,l,o,hu=>by
  obtain⟨n,h1,i,x,y,rfl,rfl⟩:=j
  refine⟨[(no,n,0)],st,no,n,lo,hi,dw,A,B,⟨n,[],h1,by rw[i.leaf];rfl,rfl,rfl⟩,rfl,hc,h1,i,x,y,λhs=>?_,l,List.Perm.refl _,o,hu⟩
  obtain⟨m,g,r⟩:=h2 hs
  rw[h1]at g;cases g
  exact r
 |ej+1,lo,hi,st,dw,A,B,M,aZ,no,p,hc,j,h2,l,o,hu=>by
  obtain⟨n,W,h1,rfl,i,s⟩:=j.jC
  obtain⟨X,Y,bB,q,bx,bq,gL,bM,z,rfl,rfl,t,v,C,hlen,D,E⟩:=s.at l
  obtain⟨av,ax,F,G,_⟩:=s
  have H:=Ctx.step hc h1 av F G hlen i (λhs=>by
   obtain⟨m,g,r⟩:=h2 hs
   rw[h1]at g;cases g
   exact r) v D E
  obtain⟨rest,a,b,bJ,c,d,h,e,f,r1,bW,ag,bF,a8,J,K,L,N,Q,R,S⟩:=Ctx.down (aZ:=aZ) H t.1 (λ_=>t.2) v (by rw[o];simp only[cV]) (λu w=>by rw[hu u w,C u w];simp only[cV])
  refine⟨(no,n,eB n.keys k)::rest,a,b,bJ,c,d,h,e,f,⟨n,rest,h1,by rw[av];simp,by rw[if_neg I],?_⟩,?_,ag,bF,a8,J,K,L,N,?_,R,S⟩
  .rw[fg,dE z]
   exact r1
  .rw[←bW];simp
  .refine List.Perm.trans ?_ Q
   have T:(no::(bB++(q++bx))++dw)=no::(bB++(q++(bx++dw))):=by simp[cV]
   rw[T]
   have U:(q++no::(bB++(bx++dw))).Perm (no::(q++(bB++(bx++dw)))):=lD
   refine List.Perm.trans ?_ U.symm
   refine List.Perm.cons _ ?_
   have V:=(pr (l₁:=bB) (l₂:=q)).append_right (bx++dw)
   simpa[cV] using V
end
theorem wR{α:Type}(a b c:O α):(a++(b++c)).Perm (a++c++b):=by
 rw[cV];exact(pr (l₁:=b) (l₂:=c)).append_left a
theorem Ctx.up{P:Nat->aq aA}{lo hi:aq Key}{k:Key}{top ej:Nat}{st R:O (Nat×aA×Nat)}{dw:O Nat}{A B:O aR}{u:da}{a:aA}{q:O Nat}{M:O aR}(hc:Ctx P k top ej lo hi st dw A B)(aa:st=R++ [u.st])(c:cZ P ej a lo hi q M)(F:∀x n,P x=some n->bz n<=232)(hs:bz a<=282):
 ∃ (d f:aq Key) (G:O Nat) (g j:O aR) (ps:O Nat),Ctx P k top (ej+1) d f R G g j/\dw=u.no::(ps++G)/\P u.no=some u.n/\u.cJ<u.n.kids.length/\u.n.kids.length=u.n.keys.length+1/\u.n.keys≠ []/\(R≠ []->2<=u.n.keys.length)/\
  (80<=bz a->∀ (Q:Nat->aq aA) (ks:O Key) (kids:O Nat),k7 Q a ks kids->(∀x∈ps++q,P x=Q x)->(∀x∈kids,x<1600)->∃ (dZ:O Nat) (l:O aR),cZ Q (ej+1) (ft u.n u.cJ (u.cJ+1) ks kids) d f dZ l/\g++(l++j)=A++(M++B)/\dZ.Perm (kids++(ps++q))/\
    bz (ft u.n u.cJ (u.cJ+1) ks kids)<=bz u.n+27/\u.n.keys.length<=(ft u.n u.cJ (u.cJ+1) ks kids).keys.length+1)/\
  (bz a<80->∃ (o:aA) (no:Nat) (rest:O Nat),u.n.kids[iR u]? =some no/\P no=some o/\o.leaf=a.leaf/\u.cJ-1<u.n.keys.length/\cD (u.n.keys.getD (u.cJ-1) [])/\kD (kF u a o)/\ps.Perm (no::rest)/\
    ∀ (Q:Nat->aq aA) (ks:O Key) (kids:O Nat),k7 Q (kF u a o) ks kids->(∀x∈rest++q,P x=Q x)->(∀x∈kids,x<1600)->∃ (dZ:O Nat) (l:O aR),cZ Q (ej+1) (ft u.n (u.cJ-1) (u.cJ-1+2) ks kids) d f dZ l/\g++(l++j)=A++(M++B)/\dZ.Perm (kids++(rest++q))/\
     bz (ft u.n (u.cJ-1) (u.cJ-1+2) ks kids)<=bz u.n+27/\u.n.keys.length<=(ft u.n (u.cJ-1) (u.cJ-1+2) ks kids).keys.length+1):=by
 cases hc with
 |top=>
  have:=congrArg List.length aa;simp at this
 | @step ej d f _ _ ar G g j ab H bB bx bq bM h ah S m T hlen ac ai J p r=>
  obtain⟨rfl,h2⟩:=List.append_inj' aa rfl;have U:(ab,H,eB H.keys k)=u.st:=by simpa using h2
  have aj:ab=u.no:=congrArg Prod.fst U;have ak:H=u.n:=congrArg (λx=>x.2.1) U;have ad:eB H.keys k=u.cJ:=congrArg (λx=>x.2.2) U;subst aj ak;rw[ad]at p r;have al:=vy u.n.keys k;rw[ad]at al;refine⟨d,f,G,g,j,bB++bx,h,by rw[cV],ah,I,hlen,ac,ai,λb Q ks kids hf s t=>?_,λb=>?_⟩
  .obtain⟨v,av,ax,w,K⟩:=C0 S m T p r c b hs hf (λx hx=>s x (by
    simp only[cH]at hx⊢;rcases hx with hx|hx|hx
    .exact .inl (.inl hx)
    .exact .inr hx
    .exact .inl (.inr hx))) t
   refine⟨v,_,av,by simp only[cV],ax.trans (List.Perm.append_left kids ?_),w,I⟩;exact wR bB q bx
  .by_cases h0:u.cJ=0
   .obtain⟨o,L,N,y,V,W,X⟩:=ES m hlen F (i:=u.cJ) (by
     have:u.n.keys.length≠0:=λe=>ac (List.eq_nil_of_length_eq_zero e);omega) J r c b
    obtain⟨am,ae,an,ao,z,Y,_,Z⟩:=C2 S m T hlen F L J p r c b;rw[y]at z;obtain rfl:=Option.some.inj z;have C:iR u=u.cJ+1:=by unfold iR;rw[if_pos h0,h0]
    have af:u.cJ-1=u.cJ:=by omega
    have D:u.n.keys.getD (u.cJ-1) []=u.n.keys[u.cJ]:=by rw[af,fg,dE N];rfl
    have E:kF u a o=du a u.n.keys[u.cJ] o:=by unfold kF;rw[if_pos (by rw[C];omega),D]
    refine⟨o,u.n.kids[u.cJ+1],bB++ae,by rw[C];exact dE L,y,V,I,by rw[D];exact W,by rw[E];exact X,?_,λQ ks kids hf s t=>?_⟩
    .exact(List.Perm.append_left bB Y).trans lD
    .rw[E]at hf
     obtain⟨v,av,ax,w,K⟩:=Z Q ks kids hf (λx hx=>s x (by
      simp only[cH]at hx⊢;rcases hx with hx|hx|hx
      .exact .inl (.inl hx)
      .exact .inr hx
      .exact .inl (.inr hx))) t
     rw[af];exact⟨v,_,av,by simp only[cV],ax.trans (List.Perm.append_left kids (wR bB q ae)),w,K⟩
   .obtain⟨o,L,N,y,V,W,X⟩:=ER m hlen F (i:=u.cJ) I I J p c b
    obtain⟨am,ag,an,ao,z,Y,_,Z⟩:=C1 S m T hlen F I I J p r c b;rw[y]at z;obtain rfl:=Option.some.inj z;have C:iR u=u.cJ-1:=by unfold iR;rw[if_neg h0]
    have D:u.n.keys.getD (u.cJ-1) []=u.n.keys[u.cJ-1]:=by rw[fg,dE N];rfl
    have E:kF u a o=du o u.n.keys[u.cJ-1] a:=by unfold kF;rw[if_neg (by rw[C];omega),D]
    have ap:u.cJ-1+2=u.cJ+1:=by omega
    refine⟨o,u.n.kids[u.cJ-1],ag++bx,by rw[C];exact dE L,y,V,N,by rw[D];exact W,by rw[E];exact X,?_,λQ ks kids hf s t=>?_⟩
    .exact(Y.append_right bx)
    .rw[E]at hf
     obtain⟨v,av,ax,w,K⟩:=Z Q ks kids hf (λx hx=>s x (by
      simp only[cH]at hx⊢;rcases hx with hx|hx|hx
      .exact .inl (.inl hx)
      .exact .inr hx
      .exact .inl (.inr hx))) t
     rw[ap];exact⟨v,_,av,by simp only[cV],ax.trans (List.Perm.append_left kids (wR ag q bx)),w,K⟩
theorem c4.ET{w:J}{T:aL}{c:dh}{E:Nat->Prop}(h:c4 w T c)(b:∀q,E q->T.E q):c4 w (T.cg E T.G) c:=
 h.of (ao:=T.cg E T.G) (W:=λ_=>False) (h.t.grow (W:=λ_=>False) (ad.refl _ _) (λ_ h=>h.elim) (λq a=>.inl (b q a)) (λq a=>.inr (.inl a)) λq a=>(h.t.c3 q (b q a)).2.2) (ad.refl _ _) (λ_ _ h=>h) rfl λ_ h=>h
theorem c5.local{T ao:aL}{c c':dh}{m l:O Nat}{bV:Nat->Prop}{w w1 w':J}{k:Nat}(h:c5 (T.cg bV T.G) ao c c' m l w1 w' k)(hx:Ext w w1)(b:∀q,bV q->T.E q\/w.heap.size<=q)(d:∀q,T.E q->bV q):c5 T (ao.cg T.E ao.G) c c' m l w w' k:=
 ⟨h.to.local hx b (λq a=>.inl a) (λq a=>.inl (by rw[h.E];exact d q a)) λq a=>a,rfl,h.G,h.root,h.aE,h.cb,h.made,h.left,h.bj,h.iQ,h.f,h.ee,h.room⟩
theorem c4.Am{w w':J}{T:aL}{c:dh}{W:Nat->Prop}(h:c4 w T c)(hc:ad W w w')(cj:∀q,W q->T.E q\/w.heap.size<=q):c4 w' T c:=by
 have b:ad (λq=>T.E q) w w':=cm (W:=λq=>T.E q) (ad.refl _ _) hc λq a d=>(cj q d).resolve_right I;exact h.of (h.t.grow (E:=T.E) (G:=T.G) b (λq a _=>.inl a) (λq a=>.inl a) (λq a=>.inr (.inl a)) λq a=>(h.t.c3 q a).2.2) b (λq hg he=>(h.t.c3 q he).2.2 hg) rfl λ_ h=>h
theorem jm.to{w w':J}{T ao:aL}{k:Nat}{s:Y}{l:O da}(h:jm (λq=>¬T.M q) w s l)(ht:bO T ao w w' k):jm (λq=>¬ao.M q) w' s l:=by
 refine⟨h.own.ab ht.ab λq a c=>h.nn q a (aL.gm c),λq a d=>?_,λx hx=>?_⟩
 .rcases ht.cS q d with h1|h1
  .exact h.nn q a h1
  .have:=a7.lt h.own q a;omega
 .exact(ht.bj (lo:=0) ((h.bj x hx).aV λq _ b=>⟨cN _,b⟩)).aV λq _ b=>b.2
theorem jm.at{B:Nat->Prop}{w:J}{s:Y}{l:O da}(h:jm B w s l){i:Nat}(hi:i<l.length):∃A:ae,s.a=some A/\s.len=l.length/\B A.block/\w.cell? (A.add (i*6))=some (.int .i64 ((l[i]).no:Nat))/\kE B w (A.add (i*6)) l[i]:=by
 have f:=h.own.1;rw[gQ _ (mb l)]at f;have g:s.len=l.length:=by omega
 rcases h.own.2.2.2 with ⟨h1,h2⟩|⟨b,c,e,k,o,m⟩
 .have:=h.own.2.1
  omega
 .have d:∀j,j<6->w.cell? ⟨b,i*6+j,none⟩=((da.c l[i]))[j]? :=λj n=>by
   rw[bm.cell k,←tT (mb l) hi n,←m];rw[qV,if_pos I,Array.getElem?_toList]
  refine⟨b,e,g,h.nn b ⟨_,e,rfl⟩,?_,?_⟩
  .rw[ay,cE]
   exact d 0 (by decide)
  .rw[ay,cE]
   refine⟨?_,?_,?_,?_,?_,h.bj _ (cr hi),h.nn b ⟨_,e,rfl⟩,a7.lt h.own b ⟨_,e,rfl⟩⟩
   .rw[ay];exact d 1 (by decide)
   .rw[ay,ay];exact d 2 (by decide)
   .rw[ay,ay];exact d 3 (by decide)
   .rw[ay,ay];exact d 4 (by decide)
   .rw[ay];exact d 5 (by decide)
theorem Ctx.An{P:Nat->aq aA}{lo hi:aq Key}{k:Key}{top ej:Nat}{dw:O Nat}{A B:O aR}(h:Ctx P k top ej lo hi [] dw A B):ej=top/\lo=none/\hi=none/\dw=[]/\A=[]/\B=[]:=by
 generalize a:([]:O (Nat×aA×Nat))=st at h
 cases h with
 |top=>exact⟨rfl,rfl,rfl,rfl,rfl,rfl⟩
 |step h=>
  have:=congrArg List.length a;simp at this
def lp(T:aL)(c:dh)(aN:O Nat)(dx:O aR)(w:J)(v:aa)(w':J):Prop:=
 ∃ (ao:aL) (c':dh) (m l:O Nat),c4 w' ao c'/\c5 T ao c c' m l w w' 60/\
  ((v=.tuple #[(0:Int),(0:Int),(0:Int)]/\dx=[]/\l.Perm (m++aN)/\m.length<=2*T.aE+3)\/
   (∃ (root h:Nat) (pages:O Nat),v=.tuple #[root,h,(0:Int)]/\en ao.P h none none root pages dx/\(pages++l).Perm (m++aN)/\1<=h/\h<=T.aE+1/\m.length<=2*T.aE+3)\/
   (∃a b:Int,v=.tuple #[a,b,(3:Int)]/\¬T.C.D.calm 60))
theorem lp.local{T:aL}{c:dh}{aN:O Nat}{dx:O aR}{bV:Nat->Prop}{w w1 w':J}{v:aa}(h:lp (T.cg bV T.G) c aN dx w1 v w')(hx:Ext w w1)(b:∀q,bV q->T.E q\/w.heap.size<=q)(a:∀q,T.E q->bV q):lp T c aN dx w v w':=by
 obtain⟨ao,c',m,l,h1,h2,d⟩:=h;exact⟨ao.cg T.E ao.G,c',m,l,h1.ET λq e=>by rw[h2.E];exact a q e,h2.local hx b a,d⟩
structure EU(bK:aL)(c:dh)(b:J)(a:O da)(k:Key)(aN:O Nat)(dx:O aR)(ws:Y)(gH:Nat)(i:Nat)(w':J)(ao:aL)(c':dh)(m l:O Nat)(n:aA)(K V D:Y)(lo hi:aq Key)(dw:O Nat)(A B:O aR)(q:O Nat)(M:O aR)(r:O Nat):Prop where
 rT:i<a.length
 wS:c4 w' ao c'
 to:c5 bK ao c c' m l b w' (4*(a.length-1-i))
 np:m.length<=2*(a.length-1-i)
 Ao:l.length<=2*(a.length-1-i)
 gH:Var w' gH (dO n K V D) 202
 bj:br (λq=>¬ao.M q) w' n K V D
 g2:jm (λq=>¬ao.M q) w' ws a
 ctx:Ctx ao.P k a.length (a.length-i) lo hi ((a.take i).map da.st) dw A B
 jC:cZ ao.P (a.length-i) n lo hi q M
 eq:A++(M++B)=dx
 pp:aN.Perm ((a[i]).no::(r++dw))
 acc:(q++l).Perm (m++r)
 sz:bz n<=282
 EV:1<=i->n.keys≠ []
 Ap:∀x∈q++dw,ao.f x=true
theorem bH.nq{w:J}{T:aL}(h:bH w T):∀x n,T.P x=some n->bz n<=232:=λx n hx=>(h.dQ x n hx).2.is.2.2
theorem gS.cs{T:aL}{c:dh}{n:aA}{w w':J}{s:Y}{e:Int}(h:gS T c n w (.tuple #[s,e]) w'):
 ∃ (ao:aL) (c':dh) (m:O Nat),c4 w' ao c'/\c5 T ao c c' m [] w w' 2/\m.length<=2/\((e=0/\∃ks,k7 ao.P n ks m/\j9 (λq=>¬ao.M q) w' s ks m)\/(e=3/\¬T.C.D.calm 2)):=by
 obtain⟨ao,c',m,s2,h1,h2,d,f⟩:=h;refine⟨ao,c',m,h1,h2,d,?_⟩;rcases f with ⟨ks,a,b,g⟩|⟨a,b⟩
 .simp at a
  obtain⟨⟨a1,a2,a3⟩,rfl⟩:=a;obtain rfl:s=s2:=by cases s;cases s2;simp_all
  exact .inl ⟨rfl,ks,b,g⟩
 .simp at a
  exact .inr ⟨a.2,b⟩
theorem EW{P Q c:Nat->aq aA}{t:Nat}{n:aA}{q:O Nat}{M:O aR}{a:Key}{x y no:Nat}(d:cZ P (t+1) n none none q M)(hs:bz n<=282)(hf:k7 Q n [a] [x,y])(i:∀z∈q,P z=Q z)(j:c no=some ⟨false,[a],[],[x,y]⟩)(k:∀z∈x::y::q,Q z=c z)(hx:x<1600)(m:y<1600):
 cD a/\∃pages,en c (t+2) none none no pages M/\pages.Perm (no::x::y::q):=by
 have o:232<bz n:=by
  rcases hf with ⟨_,z,e,_⟩|⟨h,_⟩
  .cases e
  .exact h
 obtain⟨f,av,ax,g,_⟩:=d.fits (d.vD I) (λ_=>I) (λ_=>I) hf i;have l:cZ Q (t+2) ⟨false,[a],[],[x,y]⟩ none none f M:=⟨rfl,rfl,g,λz b=>by
  simp only[cP,eE,eL]at b;rcases b with rfl|rfl<;>assumption,av⟩
 refine⟨g a (by simp),no::f,l.lay (by simp) j λz b=>k z ?_,List.Perm.cons no ax⟩;have:=ax.mem_iff.1 b;simpa using this
theorem me{a b:O Nat}:a.Perm b↔∀x,a.count x=b.count x:=List.perm_iff_count
theorem wT{q l m r:O Nat}{no:Nat}(h:(q++l).Perm (m++r)):(q++(l++ [no])).Perm (m++(no::r)):=by
 rw[me]at h⊢;intro x;have:=h x;simp only[mo,nK,nL]at this⊢;omega
theorem EX{q l m r dZ ps ms ls rest:O Nat}(h:(q++l).Perm (m++r))(h2:dZ.Perm (ms++(rest++q)))(a:ps.Perm (ls++rest)):(dZ++(l++ls)).Perm ((m++ms)++(ps++r)):=by
 rw[me]at h h2 a⊢;intro x;have:=h x;have:=h2 x;have:=a x;simp only[mo,nK,nL]at*;omega
theorem EY{aN r ps a:O Nat}{u:Nat}(h:aN.Perm (r++(u::(ps++a)))):aN.Perm (u::((ps++r)++a)):=by
 rw[me]at h⊢;intro x;have:=h x;simp only[mo,nK,nL]at*;omega
theorem EZ{w:J}{T:aL}{c:dh}{d:O da}{k:Key}{aN dw:O Nat}{dx A B M:O aR}{lo hi:aq Key}{ws:Y}{n:aA}{K V D:Y}(h:c4 w T c)(bT:jm (λq=>¬T.M q) w ws d)(bv:br (λq=>¬T.M q) w n K V D)(eE:0<d.length)(hlen:d.length=T.aE)(eF:T.aE<12)
 (eG:T.C.D.aM<=900000000) (eH:2*T.aE+3<=b3 T) (eI:c.made.length<=100) (eJ:c.left.length<=100) (cA:Ctx T.P k d.length 1 lo hi ((d.take (d.length-1)).map da.st) dw A B) (L:cZ T.P 1 n lo hi [] M) (an:A++(M++B)=dx)
 (N:aN.Perm ((d[d.length-1]'I).no::dw)) (bA:bz n<=282) (a6:2<=d.length->n.keys≠ []) (Q:∀x∈dw,T.f x=true):
 aP ak 208 #[.pointer (some c.cb),ws,cQ n K V D] w (lp T c aN dx w):=by
 refine okF (af.mR (some c.cb) ws n.leaf K V D) az.mR func208 ?_;(delta af.mR a8 U ag cc au al aI r1 st n3 mJ fO b8;dsimp only);refine bl (vs:=dO n K V D) rfl λw1 cB cI eK=>?_;obtain⟨bI,aB,aT,aH⟩:=bw cB;refine⟨_,bI,K,aB,V,aT,D,aH,bl (vs:=[false,(),(),()]) rfl λeL bU cL eM=>⟨bU.b2 rfl fj,rfl,cp bU (us:=dO n K V D) rfl rfl λbC bD cM eN=>?_⟩⟩;have bW:Ext w bC:=cI.trans (Ext.ck cL cM (bo _));obtain⟨gH,cO⟩:∃gH,gH=w1.heap.size:=⟨_,rfl⟩;rw[←cO]at bD⊢;obtain⟨bV,bE⟩:∃bV,bV=λq=>T.E q\/q=gH:=⟨_,rfl⟩;have cR:∀q,T.E q->bV q:=λq F=>by rw[bE];exact .inl F
 have a7:∀q,bV q->T.E q\/q=gH:=λq F=>by rw[bE]at F;exact F
 have cS:bV gH:=by rw[bE];exact .inr rfl
 have eO:=bD.lt;have cT:c4 bC (T.cg bV T.G) c:=h.of (W:=λ_=>False) (h.t.grow (W:=λ_=>False) bW (λ_ h=>h.elim) (λq F=>(a7 q F).imp id λe=>.inr ⟨I,I⟩) (λq F=>.inr (.inl F)) λq F hg=>by
  rcases a7 q F with h1|h1
  .exact(h.t.c3 q h1).2.2 hg
  .have:=h.t.lt (q:=q) (.inr (.inr (.inr (.inr hg))));omega) bW (λ_ _ h=>h) rfl λ_ h=>h
 have bX:bO T (T.cg bV T.G) w bC 0:=(bO.refl T w).step (W:=λ_=>False) bW (λ_ h=>h.elim) (λq F=>(a7 q F).imp id λe=>.inr I) λq F=>.inl F;have conv:∀ (v:aa) (w':J),lp (T.cg bV T.G) c aN dx w1 v w'->lp T c aN dx w v w':=λv w' hu=>hu.local cI (λq F=>(a7 q F).imp id λe=>I) cR;obtain⟨bK,ap⟩:∃bK,bK=T.cg bV T.G:=⟨_,rfl⟩;have bY:=bT.to bX;have b0:br (λq=>¬(T.cg bV T.G).M q) bC n K V D:=(bX.bj (lo:=0) (bv.aV λq _ R=>⟨cN _,R⟩)).aV λq _ R=>R.2;have cU:bK.P=T.P:=by rw[ap];rfl
 have b1:bK.f=T.f:=by rw[ap];rfl
 have dN:bK.E gH:=by rw[ap];exact cS
 have eP:b3 bK=b3 T:=by rw[ap];rfl
 have dP:bK.C=T.C:=by rw[ap];rfl
 have dR:bK.aE=T.aE:=by rw[ap];rfl
 rw[←ap]at cT bY b0 conv;clear ap bX bE cR a7 cS;have eQ:gH=w1.heap.size:=cO;have eR:ws.len=d.length:=by
  have:=bT.own.1;rw[gQ _ (mb d)]at this;omega
 refine⟨λn10 w'=>∃ (i:Nat) (ao:aL) (c':dh) (m l:O Nat) (n:aA) (K V D:Y) (lo hi:aq Key) (dw:O Nat) (A B:O aR) (q:O Nat) (M:O aR) (r:O Nat),n10=(i:Nat)/\EU bK c w1 d k aN dx ws gH i w' ao c' m l n K V D lo hi dw A B q M r,λn10 _=>(n10+1).toNat,
  ⟨d.length-1,bK,c,[],[],n,K,V,D,lo,hi,dw,A,B,[],M,[],?_,?_⟩,?_⟩
 .rw[bu I I];omega
 .have e:d.length-(d.length-1)=1:=by omega
  refine⟨I,cT,(c5.ext bK c (Ext.ck cL cM (bo _))).mono I,cN _,cN _,bD,b0,bY,by rw[e,cU];exact cA,by rw[e,cU];exact L,an,by simpa using N,List.Perm.refl _,bA,λh1=>a6 I,λx hx=>by rw[b1];exact Q x (by simpa using hx)⟩
 clear cA L an N bA a6 Q bv b0 bD bT bY cB bI aB aT aH bU;rintro _ b4 ⟨i,ao,c',m,l,n,K,V,D,lo,hi,dw,A,B,q,M,r,rfl,g⟩;have cW:=g.rT;have bF:=g.to.cb;refine⟨λ_=>aY ?_,λR=>?_⟩
 rotate_left
 .have:¬(i:Int)>=0:=cG R
  omega
 have aQ:Ext b4 b4.drew:=cw _;obtain⟨b5,dS⟩:∃b5,b5=b4.drew:=⟨_,rfl⟩;rw[←dS]at aQ⊢;have a9:=g.wS.ext aQ;have cX:=a9.cells.2.2;rw[bF]at cX;have cY:jm (λq=>¬ao.M q) b5 ws d:=g.g2.to (bO.ext ao aQ);obtain⟨a_,b6,eS,dT,dU,_⟩:=cY.at cW;have eT:c'.left.length<=200:=by rw[g.to.left,cF];have:=g.Ao;omega
 have dV:c'.made.length<=200:=by rw[g.to.made,cF];have:=g.np;omega
 obtain⟨aS,c0,av,ax,aU,aF,aG⟩:=Ab a9 (d[i]).no I;rw[bF]at aU aF aG;have dW:∀n,(a_.add n).block=a_.block:=λn=>by unfold Addr.add;split<;>rfl
 have dX:∀q,aC c'.fT q->ao.M q:=λq F=>.inr (.inr (.inr (.inr (a9.jH q F).1)));refine⟨aC c'.fT,_,rfl,λF=>(a9.jH _ F).2 (by rw[bF,ay]),c'.fT,cX,a_,b6,⟨I,I⟩,λF=>dT (dX _ ((dW _)▸F)),_,by rw[di];exact dU,aY ⟨ad.cK (eu _ _),aS,c0,av,ax,_,rfl,by rw[ay];exact aU,by rw[ay];exact aF,aY ?_⟩⟩;rw[ay,cE];obtain⟨X,c1⟩:∃X,X=c0.setCell ⟨c.cb,2,none⟩ aS:=⟨_,rfl⟩;rw[←c1];obtain⟨ah,ba⟩:=aG X c1;have ca:=c5.leave (c:=c') (c':=⟨c.cb,c'.ma,aS,c'.made,c'.left++ [(d[i]).no]⟩) (no:=(d[i]).no) ba rfl (λq F=>.inl F) bF.symm rfl rfl;have ac:=(g.to.trans (c5.ext ao c' aQ)).trans ca;simp only[gi,mj]at ac;have c2:ao.E gH:=by rw[g.to.E];exact dN
 have ce:=(g.gH.ext aQ).ab ba.ab (a9.t.iM c2);have cf:=cY.to ba;have bb:br (λq=>¬(ao.cg ao.E λq=>ao.G q\/aC aS q).M q) X n K V D:=(ba.bj (lo:=0) ((g.bj.ext aQ).aV λq _ R=>⟨cN _,R⟩)).aV λq _ R=>R.2;obtain⟨b7,aW⟩:∃b7,b7=ao.cg ao.E λq=>ao.G q\/aC aS q:=⟨_,rfl⟩;have bB:b7.P=ao.P:=by rw[aW];rfl
 have bx:b7.f=ao.f:=by rw[aW];rfl
 have eU:b3 b7=b3 ao:=by rw[aW];rfl
 have c6:b7.E gH:=by rw[aW];exact c2
 have c7:b7.aE=T.aE:=by rw[aW];show ao.aE=_;rw[g.to.aE,dR]
 rw[←aW]at ah ba ca ac cf bb;obtain⟨aT,bG⟩:∃aT:dh,aT=⟨c.cb,c'.ma,aS,c'.made,c'.left++ [(d[i]).no]⟩:=⟨_,rfl⟩;rw[←bG]at ah ca ac;have gG:aT.cb=c.cb:=by rw[bG]
 have dZ:aT.made.length<=200:=by rw[bG];exact dV
 have eV:aT.left.length<=201:=by rw[bG,cF,ie];omega
 obtain⟨dY,bJ,bp,d0⟩:=bw ce;have c8:=bf.len bb.keys;have c9:∀ (w':J) (v:aa),Ext X w'->(∀ {df aH bc},df=b7->aH=aT->bc=l++ [(d[i]).no]->((v=.tuple #[(0:Int),(0:Int),(0:Int)]/\dx=[]/\bc.Perm (m++aN)/\m.length<=2*bK.aE+3)\/
  (∃ (root h:Nat) (pages:O Nat),v=.tuple #[root,h,(0:Int)]/\en (aL.P df) h none none root pages dx/\(pages++bc).Perm (m++aN)/\1<=h/\h<=bK.aE+1/\m.length<=2*bK.aE+3)\/
  (∃a b:Int,v=.tuple #[a,b,(3:Int)]/\¬bK.C.D.calm 60)))->lp T c aN dx w v w':=by
  intro w' v hx hd;refine conv v w' ⟨b7,aT,m,l++ [(d[i]).no],?_,?_,hd (aH:=aT) rfl rfl rfl⟩
  .exact ah.ext hx
  .have:=(ac.trans (c5.ext b7 _ hx)).mono (j:=60) I
   simp only[gi]at this;exact this
 refine ct (λb w'=>(b=true↔(i=0/\n.keys=[]))/\X=w') (λZ bd=>⟨λh0=>⟨K,bJ,bd _ _ ⟨?_,rfl⟩⟩,λh0=>bd _ _ ⟨?_,rfl⟩⟩) ?_
 .have h0:i=0:=by
   have:(i:Int)=0:=by simpa using h0
   omega
  rw[jO];constructor
  .intro h1
   exact⟨h0,List.eq_nil_of_length_eq_zero I⟩
  .rintro⟨_,h1⟩
   rw[h1]at c8;simp at c8;omega
 .have h0:i≠0:=by
   have:¬(i:Int)=0:=by simpa using h0
   omega
  exact⟨λh=>(by cases h),λh=>absurd h.1 h0⟩
 rintro eW _ ⟨c_,rfl⟩;refine⟨λR=>?_,λR=>?_⟩
 .obtain⟨h0,db⟩:=c_.1 R
  subst h0;have be:Ext X X.drew:=cw _;obtain⟨d6,d7,d8,d9⟩:=bw (ce.ext be);have dc:=(ah.ext be).cells.1;rw[gG]at dc;have d_:=(ah.ext be).t.cells.2.2.2.2;obtain⟨t1,t2,t3,t4,t5,t6⟩:=Ctx.An (by simpa using g.ctx);have L:=g.jC;have N:=g.pp;have an:=g.eq;have aj:=wT (no:=(d[0]).no) g.acc;subst t2 t3 t4 t5 t6;rw[ki,gi]at an;rw[gi]at N;subst an;have dd:n.leaf=false->∃x,n.kids=[x]/\1<=b7.aE/\en ao.P (b7.aE-1) none none x q M/\1<=b7.aE-1:=by
   intro aJ;have e:d.length-0=b7.aE:=by rw[c7];omega
   rw[e]at L
   cases ht:b7.aE with
   |zero=>omega
   |succ t=>
    rw[ht]at L
    cases t with
    |zero=>
     have:=L.1.leaf;rw[aJ]at this;cases this
    |succ t=>
     obtain⟨v1,v2,bg,bh,bH⟩:=L;rw[db]at bH;generalize eX:n.kids=eY at bH
     cases bH with
     |one h=>exact⟨_,rfl,I,h.1,I⟩
  refine aY ⟨λ_=>False,id,_,d6,K,d7,V,d8,D,d9,_,rfl,id,_,dc,_,rfl,id,_,d_,(oD (bb.ext be) b7.aE I λaJ=>by obtain⟨x,a1,a2,_⟩:=dd aJ;exact⟨x,a1,a2⟩).use ?_⟩;rintro v w' ⟨rfl,ch⟩;have de:=be.trans ch
  cases aJ:n.leaf with
  |true=>
   rw[if_pos rfl];have dg:=L.leaf;rw[aJ]at dg;have ci:d.length-0=1:=b_ dg.symm;rw[ci]at L;obtain⟨v1,v2,bg,bh⟩:=L;subst bg;refine⟨_,_,_,rfl,ch,c9 w' _ de λ{df aH bc} a1 a2 a3=>.inl ⟨rfl,?_,?_,by have:=g.np;omega⟩⟩
   .rw[bh];unfold aA.e5;rw[db];rfl
   .subst a3
    rw[me]at aj N⊢;intro x;have:=aj x;have:=N x;simp only[mo,nK,nL]at*;omega
  |false=>
   rw[if_neg (by simp)];obtain⟨x,a1,a2,a3,a4⟩:=dd aJ;refine⟨_,_,_,rfl,ch,c9 w' _ de λ{df aH bc} cd bQ aX=>.inr (.inl ⟨_,_,q,rfl,?_,?_,a4,?_,by have:=g.np;omega⟩)⟩
   .subst cd
    have ea:n.kids.getD 0 0=x:=by rw[a1];rfl
    rw[ea,bB];exact a3
   .subst aX
    rw[me]at aj N⊢;intro x;have:=aj x;have:=N x;simp only[mo,nK,nL]at*;omega
   .omega
 .have a6:n.keys≠ []:=λe=>by
   rcases mn i with h0|h0
   .have:=c_.2 ⟨h0,e⟩
    rw[R]at this;cases this
   .exact g.EV h0 e
  have eZ:b7.C.D.aM<=900000050:=by
   have:=ac.to.aM;rw[dP]at this;omega
  have dk:2<=b3 b7:=by
   have:=ac.room;have:=g.np;omega
  have dl:∀ms:O Nat,ms.length<=3->(m++ms).length<=2*bK.aE+3:=λms h=>by rw[cF];have:=g.np;omega
  have dm:∀j,j<=10->¬b7.C.D.calm j->¬bK.C.D.calm 60:=λj e0 bv hc=>bv (ac.to.calm j (fJ hc I));have cj:kD n:=g.jC.wQ (λ_=>by have:=g.sz;omega) (λ_=>by have:=g.sz;omega) λ_=>a6;refine ct (λp w'=>p=(if i=0 then none else some (a_.add ((i-1)*6)))/\X=w') (λZ bd=>⟨λh0=>⟨a_,b6,?_,bd _ _ ⟨?_,rfl⟩⟩,λh0=>bd _ _ ⟨?_,rfl⟩⟩) ?_
  .have h0:(i:Int)>0:=b_ h0
   rw[bu I I];omega
  .have h0:(i:Int)>0:=b_ h0
   have e:(i:Int)-1=((i-1:Nat):Int):=by omega
   rw[bu I I,if_neg I,e,di]
  .have h0:¬(i:Int)>0:=cG h0
   rw[if_pos I]
  rintro _ _ ⟨rfl,rfl⟩;refine⟨_,dY,K,bJ,V,bp,D,d0,?_⟩;by_cases h0:i=0
  .subst h0
   rw[if_pos rfl];have bi:=EL ah bb cj I dk I;rw[gG]at bi;refine bi.use ?_;rintro _ aZ ⟨a0,e,rfl,hf⟩;obtain⟨df,aH,ms,S,H,bk,bm⟩:=hf.cs;have bL:=ac.trans H;simp only[gi]at bL;have eb:aH.cb=c.cb:=by rw[H.cb,gG]
   rcases bm with ⟨rfl,ks,ar,aK⟩|⟨rfl,aO⟩
   .refine⟨a0,_,_,0,rfl,λh=>(by cases h),λ_=>⟨λ_=>?_,λh=>(by simp at h)⟩⟩
    obtain⟨t1,t2,t3,t4,t5,t6⟩:=Ctx.An (by simpa using g.ctx);have L:=g.jC;have N:=g.pp;have an:=g.eq;have bA:=g.sz;have aj:=wT (no:=(d[0]).no) g.acc;have Q:=g.Ap;subst t2 t3 t4 t5 t6;rw[ki,gi]at an;rw[gi]at N Q;subst an;have ec:b7.n<=1600:=ah.t.s.bp;have cl:∀z∈q,ao.P z=df.P z:=λz ae=>by
     rw[←bB];exact((H.ee z (by rw[bx,Q z ae];rfl)).1).symm
    have ed:d.length-0=(d.length-1)+1:=by omega
    have dn:df.aE=d.length:=by rw[H.aE,c7];omega
    rw[ed]at L;have dp:∀a5 x y,ks=[a5]->ms=[x,y]->cD a5/\x<1600/\y<1600:=λa5 x y av ax=>by
     subst av ax;have dq:232<bz n:=by
      rcases ar with ⟨_,z,e,_⟩|⟨h,_⟩
      .cases e
      .exact h
     obtain⟨e1,_,_,aU,_⟩:=L.fits (L.vD I) (λ_=>I) (λ_=>I) ar cl;have hx:=(H.iQ x (by simp)).2;have e2:=(H.iQ y (by simp)).2;exact⟨aU a5 (by simp),I,I⟩
    have ds:=EP S aK (λ_=>I) dp (by have:=H.to.aM;omega) (by have:=H.room;have:=ac.room;have:=g.np;omega) (by rw[H.made,cF];omega);rw[eb]at ds;refine ds.use ?_;rintro v e3 ef;rcases ef with ⟨x,av,ax,rfl,aF,aG⟩|⟨a5,x,y,no,lR,dj,av,ax,aF,aG,eg⟩
    .subst av ax
     refine⟨_,_,_,rfl,conv _ _ ⟨df,aH,m++ [x],l++ [(d[0]).no],aF,?_,.inr (.inl ⟨x,df.aE,x::q,rfl,?_,?_,I,I,dl [x] (by simp)⟩)⟩⟩
     .have:=(bL.trans (c5.ext df aH aG)).mono (j:=60) I
      simp only[gi]at this;exact this
     .rcases ar with ⟨_,z,_,e,ae⟩|⟨_,e4,e6,_,e,_⟩
      .cases e
       rw[dn,show d.length=d.length-1+1 from I];exact L.lay a6 ae cl
      .cases e
     .rw[me]at aj N⊢
      intro z;have:=aj z;have:=N z;simp only[mo,nK,nL]at*;omega
    .subst av ax
     obtain⟨a1,a2,a3⟩:=dp a5 x y rfl rfl;have aw:=bL.trans aG;simp only[gi]at aw;have dt:=aw.mono (j:=60) I;rcases eg with ⟨rfl,cm⟩|⟨rfl,cm⟩
     .have eh:∀z∈x::y::q,df.P z=lR.P z:=λz ae=>by
       refine((aG.ee z ?_).1).symm;rw[H.f];simp only[cP]at ae;rcases ae with ae|ae|ae
       .simp[ae]
       .simp[ae]
       .rw[bx,Q z ae];simp
      obtain⟨_,pages,cd,bQ⟩:=EW L bA ar cl cm eh a2 a3;refine⟨_,_,_,rfl,conv _ _ ⟨lR,dj,m++ [x,y]++ [no],l++ [(d[0]).no],aF,dt,.inr (.inl ⟨no,df.aE+1,pages,rfl,?_,?_,I,I,by rw[cV];exact dl [x,y,no] (by simp)⟩)⟩⟩
      .rw[dn,show d.length+1=d.length-1+2 from I];exact cd
      .rw[me]at aj N bQ⊢
       intro z;have:=aj z;have:=N z;have:=bQ z;simp only[mo,nK,nL]at*;omega
     .refine⟨_,_,_,rfl,conv _ _ ⟨lR,dj,m++ [x,y]++ [no],l++ [(d[0]).no],aF,dt,.inr (.inr ⟨_,_,rfl,λhc=>cm (H.to.calm 1 (ac.to.calm 3 (fJ hc I)))⟩)⟩⟩
   .refine⟨a0,_,_,3,rfl,λ_=>conv _ _ ⟨df,aH,m++ms,l++ [(d[0]).no],S,bL.mono I,.inr (.inr ⟨0,0,rfl,dm 2 I aO⟩)⟩,λh=>(by cases h)⟩
  .rw[if_neg h0]
   have cn:i-1<d.length:=by omega
   obtain⟨e7,du,_,_,_,hu⟩:=cf.at cn;rw[b6]at du;obtain rfl:=Option.some.inj du;obtain⟨u,co⟩:∃u,u=d[i-1]:=⟨_,rfl⟩;rw[←co]at hu;have ei:(d.take i).map da.st=(d.take (i-1)).map da.st++ [u.st]:=by
    have:d.take i=d.take (i-1)++ [d[i-1]]:=by
     have e:i-1+1=i:=by omega
     rw[←iW cn,e]
    rw[this,fm,co];rfl
   obtain⟨dv,dy,ej,dz,dA,ps,bN,bZ,ek,e8,e9,el,em,dB,cr⟩:=Ctx.up g.ctx ei g.jC g.wS.t.nq g.sz;have ci:d.length-i+1=d.length-(i-1):=by omega
   rw[ci]at bN dB cr;have eo:=(g.wS.t.dQ _ _ ek).2.is;have e_:=eo.2.1.fH I;have Q:=g.Ap;have bi:=EM ah bb hu cj.1 (by have:=g.sz;omega) (λ_=>cj) (λbM=>by
    obtain⟨o,no,rest,cd,bQ,aX,bP,bR,dC,_⟩:=cr bM;exact⟨o,no,cd,by rw[bB];exact bQ,aX,bP,bR,dC⟩) I I dk I I
   rw[gG]at bi;refine bi.use ?_;rintro v aZ dD;have fa:0<u.n.keys.length:=qW.2 el;have ec:b7.n<=1600:=ah.t.s.bp;have cu:∀ {df:aL}{aH:dh}{ms ls:O Nat}{w':J}{ep:Nat},c5 b7 df aT aH ms ls X w' ep->∀x,ao.f x=true->ao.P x=df.P x:=λer x hx=>by
    rw[←bB];exact((er.ee x (by rw[bx,hx];rfl)).1).symm
   have es:(∃ (df:aL) (aH:dh) (ms ls:O Nat) (s:Y) (a b:Int),v=.tuple #[s,a,b,(3:Int)]/\c4 aZ df aH/\c5 b7 df aT aH ms ls X aZ 4/\¬b7.C.D.calm 4)\/
    (∃ (df:aL) (aH:dh) (ms ls rest:O Nat) (s:Y) (am ai:Nat) (ks:O Key) (dZ:O Nat) (aD:O aR),v=.tuple #[s,am,ai,(0:Int)]/\c4 aZ df aH/\c5 b7 df aT aH ms ls X aZ 4/\ms.length<=2/\ls.length<=1/\j9 (λq=>¬df.M q) aZ s ks ms/\
      cZ df.P (d.length-(i-1)) (ft u.n am ai ks ms) dv dy dZ aD/\dz++(aD++dA)=A++(M++B)/\dZ.Perm (ms++(rest++q))/\ps.Perm (ls++rest)/\bz (ft u.n am ai ks ms)<=bz u.n+27/\u.n.keys.length<=(ft u.n am ai ks ms).keys.length+1/\
      am<=u.n.keys.length/\1<=ai/\ai<=u.n.kids.length):=by
    rcases dD with ⟨dq,s,e,rfl,hf⟩|⟨bM,df,aH,rfl,av,ax,aU⟩|⟨bM,o,no,fb,fc,fd,s,e,dE,dF,dG,rfl,hf⟩
    .obtain⟨df,aH,ms,S,H,bk,bm⟩:=hf.cs
     rcases bm with ⟨rfl,ks,ar,aK⟩|⟨rfl,aO⟩
     .obtain⟨dZ,aD,cd,bQ,aX,bP,bR⟩:=dB dq df.P ks ms ar (λx hx=>cu H x (Q x (by
       rw[bZ];simp only[cH,cP]at hx⊢;rcases hx with hx|hx
       .exact .inr (.inr (.inl hx))
       .exact .inl hx))) (λx hx=>by have:=(H.iQ x hx).2;omega)
      exact .inr ⟨df,aH,ms,[],ps,s,u.cJ,u.cJ+1,ks,dZ,aD,rfl,S,H.mono I,bk,cN _,aK,cd,bQ,aX,List.Perm.refl _,bP,bR,I,I,I⟩
     .exact .inl ⟨df,aH,ms,[],s,_,_,rfl,S,H.mono I,λhc=>aO (fJ hc I)⟩
    .exact .inl ⟨df,aH,[],[],bn,0,0,rfl,av,ax.mono I,λhc=>aU (fJ hc I)⟩
    .obtain⟨fe,dH,rest,cd,bQ,aX,bP,bR,dC,dI,et⟩:=cr bM
     rw[cd]at dE;obtain rfl:=Option.some.inj dE;rw[bB,bQ]at dF;obtain rfl:=Option.some.inj dF;obtain⟨df,aH,ms,S,H,bk,bm⟩:=hf.cs;have aw:=dG.trans H;simp only[ki,gi]at aw;rcases bm with ⟨rfl,ks,ar,aK⟩|⟨rfl,aO⟩
     .obtain⟨dZ,aD,d1,d2,d3,d4,d5⟩:=et df.P ks ms ar (λx hx=>cu aw x (Q x (by
       rw[bZ];simp only[cH,cP]at hx⊢;rcases hx with hx|hx
       .exact .inr (.inr (.inl (dI.mem_iff.2 (iV _ hx))))
       .exact .inl hx))) (λx hx=>by have:=(aw.iQ x hx).2;omega)
      refine .inr ⟨df,aH,ms,[dH],rest,s,u.cJ-1,u.cJ-1+2,ks,dZ,aD,rfl,S,aw,bk,bo _,aK,d1,d2,d3,dI,d4,d5,I,I,?_⟩;rcases mn u.cJ with ev|ev<;>omega
     .exact .inl ⟨df,aH,ms,[dH],s,_,_,rfl,S,aw,λhc=>aO (dG.to.calm 2 hc)⟩
   clear dD;rcases es with ⟨df,aH,ms,ls,a0,a,b,rfl,S,H,aO⟩|⟨df,aH,ms,ls,rest,a0,am,ai,ks,dZ,aD,rfl,S,H,bk,ff,aK,v1,v2,bg,bh,bH,ew,ex,ey,ez⟩
   .exact⟨a0,_,_,3,rfl,λ_=>conv _ _ ⟨df,aH,_,_,S,(ac.trans H).mono I,.inr (.inr ⟨0,0,rfl,dm 4 I aO⟩)⟩,λh=>(by cases h)⟩
   .refine⟨a0,_,_,0,rfl,λh=>(by cases h),λ_=>⟨λh=>?_,λ_=>?_⟩⟩
    .have:(i:Int)=0:=by simpa using h
     omega
    have bq:=hu.to H.to;refine⟨_,rfl,_,bq.aB,u.K,bq.aT,u.V,bq.aH,u.D,bq.dj,(oE bq.bj aK (fr:=am) (to:=ai) ex I ey ez I I I).use ?_⟩;rintro _ fg ⟨cq,cy,b9,rfl,eA,bs⟩;have dJ:=ce.ab H.to.ab (ah.t.iM c6);have dK:=dJ.ext bs;refine⟨_,cq,cy,b9,rfl,dK.b2 rfl fj,rfl,cp dK (us:=dO (ft u.n am ai ks ms) cq cy b9) rfl rfl λeB eC bt fh=>⟨⟨i-1,df,aH,m++ms,l++ [(d[i]).no]++ls,ft u.n am ai ks ms,cq,cy,b9,dv,dy,ej,dz,dA,dZ,aD,ps++((d[i]).no::r),?_,?_⟩,?_⟩⟩
    .rw[bu I I];omega
    .have dL:df.E gH:=by rw[H.E];exact c6
     have cv:df.M gH:=.inr (.inr (.inr (.inl dL)));have cx:=(ac.trans H).trans (c5.ext df aH bs);simp only[gi]at cx;have eD:bO bK df w1 eB (4*(d.length-1-i)+4+0):=cx.to.step (E:=df.E) (G:=df.G) bt (λq e aJ=>I) (λq F=>.inl F) λq F=>.inl F;have cz:∀x,ao.f x=true->df.f x=true:=λx hx=>by rw[H.f,bx,hx];rfl
     have bS:=cf.to H.to;refine⟨cn,(S.ext bs).Am bt λq e=>.inl (by rw[e];exact dL),{cx.mono (j:=4*(d.length-1-(i-1))) I with to:=eD.mono I},?_,?_,eC,?_,?_,bN.agree λx hx=>cu H x (Q x (by rw[bZ];simp[hx])),v1,by rw[v2];exact g.eq,?_,EX (wT g.acc) bg bh,I,λh1 e=>?_,λx hx=>?_⟩
     .rw[cF];have:=g.np;omega
     .rw[cF,cF,ie];have:=g.Ao;omega
     .refine(br.ab eA bt λq F e=>?_).aV λq _ F dM=>?_
      .subst e
       rcases F with F|F
       .exact F cv
       .have:=dJ.lt;omega
      .rcases F with F|F
       .exact F dM
       .have:=S.t.lt dM;omega
     .refine⟨(bS.own.ext bs).ab bt λq F e=>bS.nn q F (by rw[e];exact cv),bS.nn,λx hx=>br.ab ((bS.bj x hx).ext bs) bt λq F e=>F (by rw[e];exact cv)⟩
     .have this:aN.Perm ((d[i]'cW).no::(r++dw)):=g.pp
      rw[bZ]at this;rw[←co];exact EY this
     .have h2:=em (λb1=>by
       have:=congrArg List.length b1;rw[dr,cC,jQ]at this;omega)
      rw[e,jQ]at ew;omega
     .rcases cH.1 hx with hx|hx
      .have:=bg.mem_iff.1 hx
       rcases cH.1 this with hx|hx
       .rw[H.f];simp[hx]
       .rcases cH.1 hx with hx|hx
        .refine cz x (Q x ?_)
         rw[bZ];have:x∈ps:=bh.mem_iff.2 (gV _ hx);simp[this]
        .exact cz x (Q x (by simp[hx]))
      .exact cz x (Q x (by rw[bZ];simp[hx]))
    .rw[bu I I]
     show((i:Int)-1+1).toNat<((i:Int)+1).toNat;omega
theorem E0{w:J}{T:aL}{c:dh}{dx:O aR}{n:aA}{K V D ws:Y}(t:ws.len=0)(h:c4 w T c)(u:br (λq=>¬T.M q) w n K V D)(Q:T.C.D.aM<=900000000)(R:2<=b3 T)(S:c.made.length<=100)(W:c.left=[])
 (g:gw n) (i:n.keys≠ []) (y:bz n<=232) (z:n.e5=dx):
 aP ak 208 #[.pointer (some ⟨c.cb,0,none⟩),.slice ws.a ws.len ws.cap,cQ n K V D] w (lp T c [] dx w):=by
 refine okF (af.mR (some ⟨c.cb,0,none⟩) ws n.leaf K V D) az.mR func208 ?_;(delta af.mR a8 U ag cc au al aI r1 st n3 mJ fO b8;dsimp only);refine bl (vs:=dO n K V D) rfl λw1 A B X=>?_;obtain⟨bI,aB,aT,aH⟩:=bw A;refine⟨_,bI,K,aB,V,aT,D,aH,bl (vs:=[.bool false,.slice none 0 0,.slice none 0 0,.slice none 0 0]) rfl λZ j E aa=>⟨j.b2 rfl fj,rfl,cp j (us:=dO n K V D) rfl rfl λl F G ab=>?_⟩⟩;have f:Ext w l:=B.trans (Ext.ck E G (bo _));refine⟨λn10 w'=>n10= -1/\l=w',λ_ _=>0,⟨by rw[t];decide,rfl⟩,?_⟩;rintro _ _ ⟨rfl,rfl⟩;refine⟨λh=>by simp at h,λ_=>?_⟩;obtain⟨d0,d1,d2,d3⟩:=bw F;refine⟨_,d0,K,d1,V,d2,D,d3,(Ag (h.ext f) I I I (u.ext f) (.inl g) y).use ?_⟩;intro v w' d;obtain⟨s,e,rfl⟩:=d.out;obtain⟨ao,c',m,o,p,ac,H⟩:=(d.base f).cs;rcases H with ⟨rfl,ks,L,N⟩|⟨rfl,P⟩
 .refine⟨s,0,rfl,λh=>(by cases h),λ_=>?_⟩
  rcases L with ⟨_,x,rfl,rfl,hx⟩|⟨ad,_⟩
  .rcases N with ⟨b,r,rfl,_,e,d,_⟩|⟨b,r,ae,ah,ai,rfl,e,_⟩
   .obtain rfl:x=r:=by simpa using e
    refine⟨_,rfl,⟨by decide,by show(0:Int)<((1:Nat):Int);decide⟩,_,by rw[ay,ay];exact d.cell,ao,c',[x],[],o,p.mono I,.inr (.inl ⟨x,1,[x],rfl,⟨n,hx,g,λk i=>⟨λ_ e=>(by cases e),λ_ e=>(by cases e)⟩,i,rfl,z.symm⟩,List.Perm.refl _,bo _,I,by show 1<=_;omega⟩)⟩
   .cases e
  .omega
 .exact⟨s,3,rfl,λ_=>⟨ao,c',m,[],o,p.mono I,.inr (.inr ⟨0,0,rfl,λhc=>P (fJ hc I)⟩)⟩,λh=>(by cases h)⟩
def aL.lq(T:aL)(r h:Nat):aL:={T with root:=r,aE:=h}
theorem bH.E1{w w':J}{T:aL}{r h:Nat}(ht:bH w T)(a:Var w' T.a_ (j8 (T.lq r h)) 239)(hc:ad (λq=>q=T.a_) w w')(b:r<T.n)(c:h<=12):bH w' (T.lq r h)/\bO T (T.lq r h) w w' 0:=
 ⟨⟨a,ht.s.ab hc λq d e=>ht.iP (e▸d),ht.ca.ab hc λq e=>.inl e,ht.iP,ht.c3,ht.hL,ht.n,⟨b,c,ht.num.2.2⟩,ht.dQ,ht.bC,ht.low⟩,
  ⟨rfl,rfl,rfl,rfl,rfl,rfl,rfl,rfl,rfl,rfl,bo _,λ_ h=>h,hc.mono λq _ e=>.inr (.inl e),λq h=>.inl h,λq h=>.inl h⟩⟩
def fu(T:aL)(pages:O Nat)(L:O aR):Prop:=(T.aE=0/\T.root=0/\pages=[]/\L=[])\/en T.P T.aE none none T.root pages L
theorem Aq{s t:Nat->ai}:∀ {n:Nat},(∀i,s i=true->t i=true)->ep s n<=ep t n
 |0,_=>bo _
 |n+1,h=>by
  have h1:=Aq (n:=n) h
  show ep s n+(s n).toNat<=ep t n+(t n).toNat
  cases hs:s n with
  |false=>exact Nat.add_le_add h1 (cN _)
  |true=>rw[h n hs];exact Nat.add_le_add_right h1 _
def ui(T:aL)(aN:O Nat)(dx:O aR)(w:J)(v:aa)(w':J):Prop:=
 ∃ao:aL,bH w' ao/\bO T ao w w' 60/\ao.E=T.E/\ao.G=T.G/\
  ((v=.int .i64 2/\b3 T<2*T.aE+3/\ao=T)\/
   (v=.int .i64 0/\2*T.aE+3<=b3 T/\(∃pages,b3 T<=b3 ao+(2*T.aE+3)/\fu ao pages dx/\pages.Nodup/\(∀no∈pages,no∈aN\/(T.f no||T.g no)=false)/\∀no,ao.f no=true↔(no∈pages\/(T.f no=true/\no∉aN)))/\∀no,T.g no=true->ao.P no=T.P no/\ao.C.view no=T.C.view no)\/
   (v=.int .i64 3/\¬T.C.D.calm 60/\ao.root=T.root/\ao.aE=T.aE/\ao.f=T.f/\∀no,(T.f no||T.g no)=true->ao.P no=T.P no/\ao.C.view no=T.C.view no))
theorem Ar{l:O Nat}(h:∀x,l.count x<=1):l.Nodup:=List.nodup_iff_count.2 h
theorem E2{w:J}{T:aL}{s:Y}{aN:O Nat}{dx:O aR}{n:aA}{K V D:Y}(h:bH w T)(b5:¬T.C.D.ro)(c7:T.C.D.aM<=900000000)(y:T.aE<12)(b6:aN.Nodup)(aI:∀x∈aN,T.f x=true)(c8:aN.length<=5000)
 (b8:∀ (bV j:Nat->Prop) (w1:J) (aB:dh),c4 w1 (T.cg bV j) aB->bO T (T.cg bV j) w w1 0->2*T.aE+3<=b3 T->aB.made=[]->aB.left=[]->aP ak 208 #[.pointer (some aB.cb),s,cQ n K V D] w1 (lp (T.cg bV j) aB aN dx w1)):
 aP ak 150 #[.pointer (some T.a_),s,cQ n K V D] w (ui T aN dx w):=by
 have c9:=h.s.bp;refine af.Co (some T.a_) s n.leaf K V D w _ ?_;(delta af.qa r1 aB al au st U a8 ag n3 aT;dsimp only);refine bl (vs:=dO n K V D) rfl λw1 ae bb c_=>bl (vs:=[(0:Int)]) rfl λah bc bd da=>aY ?_;have ai:Ext ah ah.drew:=cw _;obtain⟨be,b9⟩:∃be,be=ah.drew:=⟨_,rfl⟩;rw[←b9]at ai⊢;have bf:=(bb.trans bd).trans ai;have k:=h.ext bf;obtain⟨ev,ca⟩:∃ev,ev=w1.heap.size:=⟨_,rfl⟩;rw[←ca]at bc⊢;refine⟨λ_=>False,_,rfl,id,_,k.cells.2.1,_,rfl,id,_,k.cells.2.2.2.2,(wE k.s).use ?_⟩;rintro _ aJ ⟨rfl,aj⟩;have aK:=bf.trans aj;have R:=(bc.ext ai).ext aj;have cc:((T.n:Int)-ep (λi=>T.f i||T.g i) T.n)=(b3 T:Nat):=by
  have:=lk (λi=>T.f i||T.g i) T.n;unfold b3;omega
 have cd:IntKind.wrap .i64 (IntKind.wrap .i64 (2*(T.aE:Int))+3)=((2*T.aE+3:Nat):Int):=by
  rw[bu (n:=2*(T.aE:Int)) I I,bu I I];omega
 rw[cc,cd];refine⟨_,rfl,aj,λam=>?_,λam=>?_⟩
 .have am:((b3 T:Nat):Int)<((2*T.aE+3:Nat):Int):=b_ am
  obtain⟨av,ax⟩:=dB R (i:=0) (by simp);have ce:=dg aJ ev 0 (2:Int);have cf:=dI R (i:=0) (2:Int);have bg:=Ext.ck aK ce I;exact⟨av,ax,aY ⟨2,cf.cell,T,h.ext bg,(bO.ext T bg).mono I,rfl,rfl,.inl ⟨rfl,I,rfl⟩⟩⟩
 have bh:2*T.aE+3<=b3 T:=by
  have:¬((b3 T:Nat):Int)<((2*T.aE+3:Nat):Int):=cG am;omega
 refine bl (vs:=[.pointer (some T.a_),(),()]) rfl λch bi ci db=>bl (vs:=[.pointer none]) rfl λbk aO bm dc=>?_;obtain⟨cb,bo⟩:∃cb,cb=aJ.heap.size:=⟨_,rfl⟩;obtain⟨eM,bq⟩:∃eM,eM=ch.heap.size:=⟨_,rfl⟩;rw[←bo]at bi⊢;rw[←bq]at aO⊢;obtain⟨av,ax⟩:=dB aO (i:=0) (by simp);have an:=dg bk eM 0 (.pointer (some cb));have aQ:=dI aO (i:=0) (.pointer (some cb));refine⟨av,ax,aY ?_⟩;obtain⟨B,cj⟩:∃B,B=bk.setCell eM (.pointer (some cb)):=⟨_,rfl⟩;rw[←cj]at an aQ⊢;have dd:=aK.size;have de:=an.size;have aS:Ext aJ B:=Ext.ck (ci.trans bm) an I;have br:=aK.trans aS;have bs:=R.ext aS;have bt:=(bi.ext bm).ab an I;have cl:=((ae.ext bd).ext ai).ext (aj.trans aS);obtain⟨bV,aU⟩:∃bV,bV=λq=>T.E q\/q=ev:=⟨_,rfl⟩;obtain⟨j,aV⟩:∃j,j=λq=>T.G q\/q=cb:=⟨_,rfl⟩;have aW:∀q,bV q->T.E q\/q=ev:=λq c=>by rw[aU]at c;exact c
 have ap:∀q,j q->T.G q\/q=cb:=λq c=>by rw[aV]at c;exact c
 have bv:∀q,T.E q->bV q:=λq c=>by rw[aU];exact .inl c
 have cm:∀q,T.G q->j q:=λq c=>by rw[aV];exact .inl c
 have aX:bV ev:=by rw[aU];exact .inr rfl
 have cn:j cb:=by rw[aV];exact .inr rfl
 have df:=bs.lt;have di:=bt.lt;have bx:bH B (T.cg bV j):=h.grow (W:=λ_=>False) br (λ_ h=>h.elim) (λq c=>(aW q c).imp id λe=>.inr ⟨I,I⟩) (λq c=>.inr ((ap q c).imp id λe=>⟨I,I⟩)) λq c hg=>by
  rcases aW q c with h1|h1<;>rcases ap q hg with h2|h2
  .exact(h.c3 q h1).2.2 h2
  .have:=h.lt (q:=q) (.inr (.inr (.inr (.inl h1))));omega
  .have:=h.lt (q:=q) (.inr (.inr (.inr (.inr h2))));omega
  .have:=R.lt;omega
 have bz:bO T (T.cg bV j) w B 0:=(bO.refl T w).step (W:=λ_=>False) br (λ_ h=>h.elim) (λq c=>(aW q c).imp id λe=>.inr I) λq c=>(ap q c).imp id λe=>by omega
 have co:c4 B (T.cg bV j) ⟨cb,bn,bn,[],[]⟩:=⟨bx,bt,a7.none _ _ _,a7.none _ _ _,cn,λq c=>(gu q c).elim,λq c=>(gu q c).elim,b5⟩;have cp:=b8 bV j B _ co bz bh rfl rfl;obtain⟨bI,aB,aT,aH⟩:=bw cl;refine⟨_,aQ.cell,_,bI,K,aB,V,aT,D,aH,cp.use ?_⟩;rintro v F ⟨bK,u,m,l,bA,d,cq⟩;have S:bK.E ev:=by rw[d.E];exact aX
 have aq:=bs.ab d.to.ab (bx.iM aX);have cr:¬(T.cg bV j).N eM:=by
  have dj:cb<eM:=by rw[bo,bq];omega
  rintro(c|c|c|c)
  .have:=h.lt (q:=eM) (.inl c);omega
  .have:=h.lt (q:=eM) (.inr (.inl c));omega
  .have:=h.lt (q:=eM) (.inr (.inr (.inl c)));omega
  .rcases ap eM c with h1|h1
   .have:=h.lt (q:=eM) (.inr (.inr (.inr (.inr h1))));omega
   .omega
 have bB:=aQ.ab d.to.ab cr;have ar:u.cb=cb:=d.cb;have dk:bK.a_=T.a_:=d.to.a_;have aw:u.made=m:=d.made;have az:u.left=l:=d.left;have aZ:eM≠ev:=by have:=R.lt;omega
 have bC:bO T bK w F 60:=(bz.trans d.to).mono I
 have fin:∀ (w':J) (ao:aL),bH w' ao->bO T ao w w' 60->ao.E=bV->(∀q,T.G q->ao.G q)->bH w' (ao.cg T.E T.G)/\bO T (ao.cg T.E T.G) w w' 60:=by
  intro w' ao hc ht bD bE;exact⟨hc.grow (W:=λ_=>False) (ad.refl _ _) (λ_ h=>h.elim) (λq c=>.inl (by rw[bD];exact bv q c)) (λq c=>.inr (.inl (bE q c))) λq c=>(h.c3 q c).2.2,
   ht.step (W:=λ_=>False) (ad.refl _ _) (λ_ h=>h.elim) (λq c=>.inl (by rw[bD];exact bv q c)) λq c=>.inl (bE q c)⟩
 have bF:∀q,T.G q->bK.G q:=λq c=>d.G q (cm q c);have dl:=(bb).size;have a0:∀ (w0:J) (ao:aL) (c':dh) (x:Int),c4 w0 ao c'->bO T ao w w0 60->ao.E ev->c4 (w0.setCell ev x) ao c'/\bO T ao w (w0.setCell ev x) 60:=λw0 ao c' x hc ht he=>
  ⟨hc.Am (dg w0 ev 0 _) λq e=>.inl (by rw[e];exact he),ht.step (E:=ao.E) (G:=ao.G) (dg w0 ev 0 _) (λq e a1=>I) (λq c=>.inl c) λq c=>.inl c⟩
 have dm:m.length<=1600:=by
  have:=d.room;have:b3 (T.cg bV j)<=T.n:=by unfold b3;exact Nat.sub_le _ _
  omega
 have cs:(∃a b:Int,v=.tuple #[a,b,(3:Int)]/\¬T.C.D.calm 60)\/(∃ (root y:Nat) (pages:O Nat),v=.tuple #[root,y,(0:Int)]/\((y=0/\root=0/\pages=[]/\dx=[])\/en bK.P y none none root pages dx)/\(pages++l).Perm (m++aN)/\y<=12/\m.length<=2*T.aE+3):=by
  rcases cq with ⟨rfl,h1,h2,a2⟩|⟨root,y,pages,rfl,h1,h2,k,H,a2⟩|⟨a,b,rfl,a3⟩
  .exact .inr ⟨0,0,[],rfl,.inl ⟨rfl,rfl,rfl,h1⟩,h2,I,a2⟩
  .have H:y<=T.aE+1:=H
   exact .inr ⟨root,y,pages,rfl,.inr h1,h2,I,a2⟩
  .exact .inl ⟨a,b,rfl,a3⟩
 rcases cs with ⟨a,b,rfl,a3⟩|⟨root,o,pages,rfl,ct,bG,cu,dn⟩
 .
  obtain⟨av,ax⟩:=dB aq (i:=0) (by simp);have z:=dI aq (i:=0) (3:Int);obtain⟨aC,aD⟩:=a0 F bK u 3 bA bC S;have X:=bB.ab (dg F ev 0 (3:Int)) aZ;refine⟨a,b,3,rfl,av,ax,aY ⟨3,z.cell,λ_=>⟨3,z.cell,?_⟩,λhx=>(by cases hx)⟩⟩;obtain⟨cv,cx⟩:=dB z (i:=0) (by simp);have a4:=dI z (i:=0) (3:Int);obtain⟨bL,bM⟩:=a0 _ bK u 3 aC aD S;have a5:=X.ab (dg _ ev 0 (3:Int)) aZ;refine⟨cv,cx,aY (af.yI ev eM _ _ ?_)⟩;generalize dp:(F.setCell ev (3:Int)).setCell ev (3:Int)=bP at a4 bL a5 bM⊢;(delta af.oy r1 al ag aT;dsimp only);have L:Ext bP bP.drew:=cw _;have p:=bL.ext L;have Z:=Aj p p.ma.src (λq c=>(p.eZ q c).1) (l:=u.made) (λx hx=>by rw[aw]at hx;rw[d.f];simp[hx]) (by rw[aw];exact d.bj) (by rw[aw];omega);rw[ar]at Z;have aa:=p.cells.2.1;rw[ar]at aa;refine⟨3,a4.cell,λ_=>aY ⟨id,_,a5.drew.cell,id,_,a5.drew.cell,_,rfl,id,u.ma,aa,Z.use ?_⟩,λhx=>(by cases hx)⟩;rintro _ bQ ⟨rfl,b7,A,hg⟩;rw[aw]at hg;have cy:=(a4.ext L).ab hg.to.ab (p.t.iM S);have cz:bO T b7 w bQ 60:=((bM.trans (bO.ext bK L)).trans hg.to).mono I;obtain⟨f1,f2⟩:=fin bQ b7 A.t cz (by rw[hg.E];exact d.E) λq c=>by rw[hg.G];exact bF q c
  refine⟨rfl,3,cy.cell,_,f1,f2,rfl,rfl,.inr (.inr ⟨rfl,a3,hg.root.trans d.root,hg.aE.trans d.aE,?_,λno ac=>?_⟩)⟩
  .funext no
   show b7.f no=T.f no;rw[hg.f,d.f];by_cases r:no∈m
   .have:=(d.iQ no r).1
    have e:(T.cg bV j).f no=T.f no:=rfl;rw[e]at this⊢
    cases a6:T.f no
    .simp[r]
    .rw[a6]at this;cases this
   .simp[r];rfl
  .have r:no∉m:=λr=>by
    have:=(d.iQ no r).1;have e:((T.cg bV j).f no||(T.cg bV j).g no)=(T.f no||T.g no):=rfl;rw[e,ac]at this;cases this
   have h1:=hg.ee no (.inl r);have h2:=d.ee no ac;exact⟨h1.1.trans h2.1,h1.2.trans h2.2⟩
 .
  have Q:∀x,pages.count x+l.count x=m.count x+aN.count x:=λx=>by
   have:=me.1 bG x;simpa only[mo] using this
  have aF:∀x,m.count x+aN.count x<=1:=λx=>by
   have h1:=List.nodup_iff_count.1 d.bj x;have h2:=List.nodup_iff_count.1 b6 x;rcases mn (m.count x) with k|k
   .omega
   .rcases mn (aN.count x) with H|H
    .omega
    .have r:=iZ.1 k
     have cA:=iZ.1 H;have:=(d.iQ x r).1;have e:((T.cg bV j).f x||(T.cg bV j).g x)=(T.f x||T.g x):=rfl;rw[e,aI x cA]at this;cases this
  have hlen:pages.length+l.length=m.length+aN.length:=by
   have:=bG.length_eq;simpa only[cF] using this
  have cB:∀x∈l,bK.f x=true:=λx hx=>by
   have h1:=iZ.2 hx;have h2:=Q x;rw[d.f];rcases mn (m.count x) with k|k
   .have:x∈aN:=iZ.1 I
    have e:(T.cg bV j).f x=T.f x:=rfl;rw[e,aI x this];rfl
   .have:x∈m:=iZ.1 k
    simp[this]
  have cC:l.Nodup:=Ar λx=>by have:=Q x;have:=aF x;omega
  obtain⟨av,ax⟩:=dB aq (i:=0) (by simp);have z:=dI aq (i:=0) (0:Int);obtain⟨aC,aD⟩:=a0 F bK u 0 bA bC S;have X:=bB.ab (dg F ev 0 (0:Int)) aZ;refine⟨_,_,0,rfl,av,ax,aY ⟨0,z.cell,λhx=>(by cases hx),λ_=>aY ?_⟩⟩;generalize dq:F.setCell ev (0:Int)=bR at z aC X aD⊢;have L:Ext bR bR.drew:=cw _;have p:=aC.ext L;have Z:=Aj p p.fT.src (λq c=>(p.jH q c).1) (l:=u.left) (λx hx=>cB x (by rw[az]at hx;exact hx)) (by rw[az];exact cC) (by rw[az];omega);rw[ar]at Z;have aa:=p.cells.2.2;rw[ar]at aa;refine⟨id,_,X.drew.cell,id,_,X.drew.cell,_,rfl,id,u.fT,aa,Z.use ?_⟩;rintro _ M ⟨rfl,b7,A,hg⟩;rw[az]at hg;have cD:=(z.ext L).ab hg.to.ab (p.t.iM S);have bS:bO T b7 w M 60:=((aD.trans (bO.ext bK L)).trans hg.to).mono I;have a9:b7.a_=T.a_:=bS.a_;have bT:b7.E=bV:=by rw[hg.E];exact d.E
  have cH:b7.E ev:=by rw[bT];exact aX
  have bU:Var M T.a_ (j8 b7) 239:=by rw[←a9];exact A.t.t
  obtain⟨bN,bZ⟩:=dB bU (i:=3) (by simp[j8]);have bW:=dI bU (i:=3) root;have cI:=dg M T.a_ 3 root;obtain⟨cJ,cK⟩:=dB bW (i:=4) (by simp[j8]);have bX:=dI bW (i:=4) o;have cL:=dg (M.setCell ⟨T.a_,3,none⟩ root) T.a_ 4 o;refine⟨rfl,_,rfl,by rw[ay];exact bN,by rw[ay];exact bZ,aY ⟨_,rfl,by rw[ay,ay];exact cJ,by rw[ay,ay];exact cK,aY ?_⟩⟩;rw[ay,ay,cE,cE];have ba:ad (λq=>q=T.a_) M ((M.setCell ⟨T.a_,3,none⟩ root).setCell ⟨T.a_,4,none⟩ o):=cI.trans cL;generalize dr:(M.setCell ⟨T.a_,3,none⟩ root).setCell ⟨T.a_,4,none⟩ o=aG at bX ba⊢;have cM:∀x∈pages,x∉l:=λx hx a1=>by
   have h1:=iZ.2 hx;have h2:=iZ.2 a1;have:=Q x;have:=aF x;omega
  have bY:(o=0/\root=0/\pages=[]/\dx=[])\/(en b7.P o none none root pages dx/\root∈pages):=ct.imp id λcN=>cN.agree λx hx=>((hg.ee x (.inl (cM x hx))).1).symm;have cO:root<b7.n:=by
   rcases bY with ⟨_,h1,_⟩|⟨h1,_⟩
   .have:=A.t.s.bJ;omega
   .obtain⟨bj,_,h2,_⟩:=h1.jC
    exact(A.t.dQ _ _ h2).1
  have cP:Var aG b7.a_ (j8 (b7.lq root o)) 239:=by rw[a9];exact bX
  obtain⟨cS,cT⟩:=A.t.E1 cP (by rw[a9];exact ba) cO cu;have cU:ev≠T.a_:=λe=>by have:=h.lt (q:=T.a_) (.inr (.inl rfl));omega
  have b0:=cD.ab ba cU;obtain⟨cV,cW⟩:=dB b0 (i:=0) (by simp);have b1:=dI b0 (i:=0) (0:Int);have b2:=dg aG ev 0 (0:Int);refine⟨cV,cW,aY (af.yI ev eM _ _ ?_)⟩;(delta af.oy r1 al ag aT;dsimp only);refine⟨0,b1.cell,λhx=>(by cases hx),λ_=>⟨0,b1.cell,?_⟩⟩;have cX:bH (aG.setCell ev (0:Int)) (b7.lq root o):=cS.grow (E:=b7.E) (G:=b7.G) b2 (λq e _=>.inl (by rw[e];exact cH)) (λq c=>.inl c) (λq c=>.inr (.inl c)) λq c=>(A.t.c3 q c).2.2;have cY:bO T (b7.lq root o) w (aG.setCell ev (0:Int)) 60:=((bS.trans cT).mono I).step (E:=b7.E) (G:=b7.G) b2 (λq e a1=>I) (λq c=>.inl c) λq c=>.inl c;obtain⟨f1,f2⟩:=fin _ _ cX cY bT λq c=>by
   show b7.G q;rw[hg.G];exact bF q c
  refine⟨_,f1,f2,rfl,rfl,.inr (.inl ⟨rfl,bh,⟨pages,?_,?_,Ar λx=>by have:=Q x;have:=aF x;omega,λno hx=>?_,λno=>?_⟩,λno ac=>?_⟩)⟩
  .have h1:b3 bK+m.length=b3 T:=d.room
   have h2:b3 bK<=b3 (b7.lq root o):=by
    show bK.n-_<=b7.n-ep (λi=>b7.f i||b7.g i) b7.n;rw[hg.to.n];have:=Aq (s:=λi=>b7.f i||b7.g i) (t:=λi=>bK.f i||bK.g i) (n:=bK.n) λi hi=>by
     rw[hg.f,hg.to.g]at hi;rw[ic,dT]at hi;rw[ic];exact hi.imp And.left id
    omega
   show b3 T<=b3 (b7.lq root o)+_;omega
  .rcases bY with ⟨h1,h2,k,H⟩|⟨h1,_⟩
   .exact .inl ⟨h1,h2,k,H⟩
   .exact .inr h1
  .have h1:=iZ.2 hx
   have h2:=Q no;rcases mn (aN.count no) with k|k
   .have r:no∈m:=iZ.1 I
    exact .inr (d.iQ no r).1
   .exact .inl (iZ.1 k)
  .show b7.f no=true↔_
   rw[hg.f,d.f];have e:(T.cg bV j).f no=T.f no:=rfl;rw[e];have ds:=Q no;have A:=aF no;have b4:no∈m↔0<m.count no:=iZ.symm;have ae:no∈aN↔0<aN.count no:=iZ.symm;have cZ:no∈l↔0<l.count no:=iZ.symm;have c0:no∈pages↔0<pages.count no:=iZ.symm;have c1:0<aN.count no->T.f no=true:=λh=>aI no (ae.2 h);have c2:0<m.count no->T.f no=false:=λh=>by
    have:=(d.iQ no (b4.2 h)).1;have e:((T.cg bV j).f no||(T.cg bV j).g no)=(T.f no||T.g no):=rfl;rw[e]at this
    cases a6:T.f no
    .rfl
    .rw[a6]at this;cases this
   rw[dT,ic,cR,kg,kh,b4,ae,cZ,c0];constructor
   .rintro⟨h1|h1,h2⟩
    .by_cases k:0<aN.count no
     .left;omega
     .exact .inr ⟨h1,k⟩
    .left;omega
   .rintro(h1|⟨h1,h2⟩)
    .refine⟨?_,I⟩
     by_cases k:0<aN.count no
     .exact .inl (c1 k)
     .right;omega
    .refine⟨.inl h1,λk=>?_⟩
     have:0<m.count no:=by omega
     rw[c2 this]at h1;cases h1
  .have c5:(T.f no||T.g no)=true:=by rw[ac];simp
   have c6:bK.g no=true:=by rw[d.to.g];exact ac
   have h1:=hg.ee no (.inr c6);have h2:=d.ee no c5;exact⟨h1.1.trans h2.1,h1.2.trans h2.2⟩
theorem As{ks:O Key}{k:Key}{i:Nat}(hs:ks.Pairwise bX)(h1:cu ks k<=i)(hi:i<ks.length)(d:ks[cu ks k]? ≠some k):bX k ks[i]:=by
 rcases mZ.1 (oL hs h1 hi) with h2|h2
 .exact h2
 .exfalso
  rcases dR (cu ks k) i with a|a
  .have b:cu ks k<ks.length:=by omega
   have f:=oL hs (bo _) b;have c:=lF.1 hs _ _ b hi a;rw[←h2]at c;exact f c
  .have e:i=cu ks k:=by omega
   apply d;subst e;rw[dE hi,←h2]
theorem wU{n:aA}(h:gw n){i:Nat}(hi:i<=n.keys.length):∃a b c d:O Key,n.keys=a++b/\n.vals=c++d/\a.length=i/\c.length=i/\b.length=d.length/\n.keys.take i=a/\n.keys.drop i=b/\n.vals.take i=c/\n.vals.drop i=d:=by
 have e:=h.len;refine⟨n.keys.take i,n.keys.drop i,n.vals.take i,n.vals.drop i,(hO i _).symm,(hO i _).symm,?_,?_,?_,rfl,rfl,rfl,rfl⟩
 .rw[cC];omega
 .rw[cC];omega
 .rw[cX,cX];omega
def jn(k v:Key):Nat:=2+k.length+v.length
theorem o1{n:aA}(h:n.leaf=true):bz n=1+(List.zipWith jn n.keys n.vals).sum:=by
 unfold bz;rw[if_pos h,j2 h];rfl
theorem E3{n:aA}{k v:Key}(h:gw n)(B:cD k)(C:v.length<=24):gw (gF n k v)/\(gF n k v).e5=gd n.e5 k v/\bz (gF n k v)<=bz n+50/\(gF n k v).keys≠ []/\n.keys.length<=(gF n k v).keys.length/\(∀s∈(gF n k v).keys,s=k\/s∈n.keys):=by
 have hlen:=h.len;have D:=oK n.keys k;have J:n.e5=n.keys.zip n.vals:=rfl;have E:=h.e_;have F:∀ (j:Nat) (m:j<n.keys.length),j<cu n.keys k->bX n.keys[j] k:=λj m h1=>m4 h1 m;have G:n.keys[cu n.keys k]? ≠some k->∀ (j:Nat) (m:j<n.keys.length),cu n.keys k<=j->bX k n.keys[j]:=λhe j m h1=>As E h1 m he;rw[J,C4 h.e_];unfold gF gE;generalize hi:cu n.keys k=i at D F G⊢;obtain⟨a,b,c,d,g,t,K,L,M,p,q,w,A⟩:=wU h D;have f:n.keys.zip n.vals=a.zip c++b.zip d:=by rw[g,t];exact m3 I
 have u:(a.zip c).length=i:=by rw[nF];omega
 by_cases he:n.keys[i]? =some k
 .rw[if_pos (by simpa using he),if_pos he]
  have N:∃o,b=k::o:=by
   cases b with
   |nil=>rw[g,jP I]at he;simp at he
   |cons y o=>
    rw[g,jP I,K,ml]at he;simp at he;exact⟨o,by rw[he]⟩
  obtain⟨o,rfl⟩:=N;obtain⟨x,l,rfl⟩:∃x l,d=x::l:=by
   cases d with
   |nil=>simp at M
   |cons x l=>exact⟨x,l,rfl⟩
  have H:n.vals.set i v=c++v::l:=by
   rw[t,List.set_append_right _ _ I,L,ml];rfl
  refine⟨⟨⟨h.ok,h.e_⟩,h.leaf,by simp[hlen],h.kids,λz f=>?_⟩,?_,?_,λe=>by have e:n.keys=[]:=e;rw[e]at g;simp at g,bo _,λs hs=>.inr hs⟩
  .rcases kR f with h1|h1
   .exact h.vals z h1
   .rw[h1];exact C
  .show n.keys.zip (n.vals.set i v)=_
   rw[H,f,g,m3 I,k_ u];have O:(a.zip c++(k::o).zip (x::l)).drop (i+1)=o.zip l:=by
    rw[List.zip_cons_cons,show a.zip c++(k,x)::o.zip l=(a.zip c++ [(k,x)])++o.zip l by simp];exact drop_left' (by simp only[cF,u,ie])
   rw[O];rfl
  .rw[o1 h.leaf,o1 (n:={n with vals:=n.vals.set i v}) h.leaf]
   show 1+(List.zipWith jn n.keys (n.vals.set i v)).sum<=_;rw[H,g,t,nH I,nH I,kl,kl,List.zipWith_cons_cons,List.zipWith_cons_cons,pq,pq];unfold jn;omega
 .rw[if_neg (by simpa using he),if_neg he]
  have P:=G he;refine⟨⟨⟨λz f=>?_,?_⟩,h.leaf,?_,h.kids,λz f=>?_⟩,?_,?_,λe=>?_,?_,λs hs=>?_⟩
  .have f:z∈n.keys.take i++ [k]++n.keys.drop i:=f
   simp only[cH,e0]at f;rcases f with (f|rfl)|f
   .exact h.ok z (eS f)
   .exact B
   .exact h.ok z (eJ f)
  .show(n.keys.take i++ [k]++n.keys.drop i).Pairwise bX
   rw[p,q];have Q:(a++b).Pairwise bX:=by rw[←g];exact E
   obtain⟨av,ax,R⟩:=lE.1 Q;have S:∀x∈a,bX x k:=λx hx=>by
    obtain⟨j,m,rfl⟩:=eK hx;have:=F j (by rw[g,cF];omega) I;simp only[g,px m]at this;exact this
   have T:∀y∈b,bX k y:=λy r=>by
    obtain⟨j,m,rfl⟩:=eK r;have:=P (i+j) (by rw[g,cF];omega) I;have e:(a++b)[i+j]'(by rw[cF];omega)=b[j]:=by
     rw[q2 I];congr 1;omega
    simp only[g,e]at this;exact this
   rw[cV];refine lE.2 ⟨av,?_,λx hx y r=>?_⟩
   .exact kk.2 ⟨T,ax⟩
   .rcases cP.1 r with rfl|r
    .exact S x hx
    .exact R x hx y r
  .show(n.vals.take i++ [v]++n.vals.drop i).length=(n.keys.take i++ [k]++n.keys.drop i).length
   rw[p,q,w,A];simp only[cF,ie];omega
  .have f:z∈n.vals.take i++ [v]++n.vals.drop i:=f
   simp only[cH,e0]at f;rcases f with (f|rfl)|f
   .exact h.vals z (eS f)
   .exact C
   .exact h.vals z (eJ f)
  .show(n.keys.take i++ [k]++n.keys.drop i).zip (n.vals.take i++ [v]++n.vals.drop i)=_
   rw[p,q,w,A,f,k_ u,drop_left' u,cV,cV,m3 I];rfl
  .rw[o1 h.leaf,o1 (n:={n with keys:=n.keys.take i++ [k]++n.keys.drop i,vals:=n.vals.take i++ [v]++n.vals.drop i}) h.leaf]
   show 1+(List.zipWith jn (n.keys.take i++ [k]++n.keys.drop i) (n.vals.take i++ [v]++n.vals.drop i)).sum<=_;have av:(List.zipWith jn (a++ [k]++b) (c++ [v]++d)).sum=(List.zipWith jn a c).sum+(jn k v+(List.zipWith jn b d).sum):=by
    rw[cV,cV,nH I,kl];rfl
   have ax:(List.zipWith jn (a++b) (c++d)).sum=(List.zipWith jn a c).sum+(List.zipWith jn b d).sum:=by
    rw[nH I,kl]
   rw[p,q,w,A,g,t,av,ax];have:=B.2;unfold jn;omega
  .have e:n.keys.take i++ [k]++n.keys.drop i=[]:=e
   simp at e
  .show n.keys.length<=(n.keys.take i++ [k]++n.keys.drop i).length
   rw[p,q,g];simp only[cF,ie];omega
  .have hs:s∈n.keys.take i++ [k]++n.keys.drop i:=hs
   simp only[cH,e0]at hs;rcases hs with (hs|rfl)|hs
   .exact .inr (eS hs)
   .exact .inl rfl
   .exact .inr (eJ hs)
def Au(T:aL)(aN:O Nat)(dx:O aR)(w:J)(v:aa)(w':J):Prop:=
 ∃ao:aL,bH w' ao/\bO T ao w w' 100/\ao.E=T.E/\ao.G=T.G/\
  ((v=.int .i64 2/\b3 T<2*T.aE+3/\ao=T)\/
   (v=.int .i64 0/\2*T.aE+3<=b3 T/\(∃pages,b3 T<=b3 ao+(2*T.aE+3)/\fu ao pages dx/\pages.Nodup/\(∀no∈pages,no∈aN\/(T.f no||T.g no)=false)/\∀no,ao.f no=true↔(no∈pages\/(T.f no=true/\no∉aN)))/\∀no,T.g no=true->ao.P no=T.P no/\ao.C.view no=T.C.view no)\/
   (v=.int .i64 3/\¬T.C.D.calm 100/\ao.root=T.root/\ao.aE=T.aE/\ao.f=T.f/\∀no,(T.f no||T.g no)=true->ao.P no=T.P no/\ao.C.view no=T.C.view no))
theorem ui.ab{T:aL}{aD:bT}{aN:O Nat}{dx:O aR}{w w1 w':J}{v:aa}{k:Nat}(h:ui (T.bg aD T.P) aN dx w1 v w')(e:bO T (T.bg aD T.P) w w1 k)(r:k<=40)(f:∀j,aD.view j=T.C.view j)(i:2*T.aE+3<=b3 T):Au T aN dx w v w':=by
 obtain⟨ao,h1,h2,l,m,n⟩:=h;refine⟨ao,h1,(e.trans h2).mono I,l,m,?_⟩;have o:b3 (T.bg aD T.P)=b3 T:=rfl;have p:(T.bg aD T.P).aE=T.aE:=rfl;rcases n with ⟨_,b,_⟩|⟨rfl,b,d,c⟩|⟨rfl,b,d,c,q,g⟩
 .rw[o,p]at b;omega
 .exact .inr (.inl ⟨rfl,i,d,λno a=>⟨(c no a).1,(c no a).2.trans (f no)⟩⟩)
 .exact .inr (.inr ⟨rfl,λhc=>b (e.calm 60 (fJ hc I)),d,c,q,λno a=>⟨(g no a).1,(g no a).2.trans (f no)⟩⟩)
theorem lU(w:J)(s:Y):aP ak 141 #[s] w (λv w'=>v=.bool (decide (1<=s.len/\s.len<=24))/\w=w'):=by
 refine okF (af.lU s) az.lU func141 ?_;unfold af.lU;refine⟨?_,rfl⟩
 congr 1
 rw[fD,dT,cR,cR,cR];omega
theorem wV{T:aL}{w:J}{pages:O Nat}{L:O aR}{k:Key}(h:bH w T)(n:fu T pages L):∃steps,mc T.P k T.aE T.root steps/\
 ((steps=[]/\T.aE=0/\pages=[]/\L=[])\/(∃ (a:Nat) (bJ:aA) (b c:aq Key) (d:O (Nat×aA×Nat)) (i:O Nat) (f g:O aR),steps=d++ [(a,bJ,0)]/\Ctx T.P k T.aE 1 b c d i f g/\T.P a=some bJ/\gw bJ/\bJ.within b c/\bJ.keys≠ []/\(d≠ []->2<=bJ.keys.length)/\e4 b c k/\
   pages.Perm (a::i)/\L=f++(bJ.e5++g)/\∀u,Loc k u->u L=f++(u bJ.e5++g))):=by
 rcases n with ⟨h1,h2,o,p⟩|j
 .exact⟨[],by rw[h1];rfl,.inl ⟨rfl,h1,o,p⟩⟩
 .cases l:T.aE with
  |zero=>rw[l]at j;exact j.elim
  |succ t=>
   rw[l]at j;obtain⟨rest,d,a,bJ,b,c,i,f,g,r1,bW,ag,bF,a8,q,r,s,v,m,x,y⟩:=Ctx.down (P:=T.P) (k:=k) (top:=t+1) (aZ:=L) .top j (λh=>absurd rfl h) ⟨λ_ e=>(by cases e),λ_ e=>(by cases e)⟩ (by simp) (λu _=>by simp);rw[ki]at bW;rw[gi]at m;exact⟨rest,r1,.inr ⟨a,bJ,b,c,d,i,f,g,bW,ag,bF,a8,q,r,s,v,m,x,y⟩⟩
theorem fu.low{T:aL}{pages:O Nat}{L:O aR}(h:fu T pages L)(d:L.length<4096):T.aE<12/\pages.length<=L.length:=by
 rcases h with ⟨h1,_,a,_⟩|b
 .rw[h1,a];exact⟨I,cN _⟩
 .obtain⟨av,ax,c⟩:=b.pages
  refine⟨?_,av⟩;rcases dR T.aE 12 with h|h
  .exact h
  .have e:=c I
   have f:2^12<=2^T.aE:=qY (by decide) h;have g:(2:Nat)^12=4096:=by decide
   omega
theorem Av{w1:J}{T:aL}{aD:bT}{pages:O Nat}{L dx:O aR}{k:Key}{steps:O (Nat×aA×Nat)}{s:Y}{a:O da}{bJ b:aA}{K V D:Y}(h:bH w1 (T.bg aD T.P))(Q:¬aD.D.ro)(R:fu T pages L)(S:L.length<4096)(cT:pages.Nodup)(hf:∀x∈pages,T.f x=true)(o:aD.D.aM<=900000000)
 (g:a.map da.st=steps) (r:jm (λq=>¬(T.bg aD T.P).M q) w1 s a) (U:br (λq=>¬(T.bg aD T.P).M q) w1 b K V D) (t:gw b) (W:(steps=[]/\T.aE=0/\pages=[]/\b.keys≠ []/\bz b<=232/\b.e5=dx)\/(∃ (d:Nat) (i j:aq Key) (c:O (Nat×aA×Nat)) (l:O Nat) (m n:O aR),steps=c++ [(d,bJ,0)]/\Ctx T.P k T.aE 1 i j c l m n/\b.within i j/\(c≠ []->b.keys≠ [])/\pages.Perm (d::l)/\dx=m++(b.e5++n)/\bz b<=282)):
 aP ak 150 #[.pointer (some T.a_),s,cQ b K V D] w1 (ui (T.bg aD T.P) pages dx w1):=by
 obtain⟨u,an⟩:=R.low S;refine E2 h Q o u cT hf I λbV v ah aT w y X z C=>?_;have Z:s.len=a.length:=by
  have:=r.own.1;rw[gQ _ (mb a)]at this;omega
 have E:br (λq=>¬((T.bg aD T.P).cg bV v).M q) ah b K V D:=(y.bj (lo:=0) (U.aV λq _ p=>⟨cN _,p⟩)).aV λq _ p=>p.2;rcases W with ⟨h1,h2,aa,ab,ac,ad⟩|⟨d,i,j,c,l,m,n,F,G,ae,af,H,ag,ai⟩
 .subst h1 aa
  have aj:a=[]:=by simpa using g
  exact E0 (by rw[Z,aj];rfl) w E o (by
   have e:b3 ((T.bg aD T.P).cg bV v)=b3 (T.bg aD T.P):=rfl;omega) (by rw[z];simp) C t ab ac ad
 .have hlen:a.length=c.length+1:=by
   have:=congrArg List.length g;rw[F,dr,cF,ie]at this;exact this
  have ao:1+c.length=T.aE:=G.ej;have al:=r.to y;have N:(a.take (a.length-1)).map da.st=c/\(a[a.length-1]'I).no=d:=by
   rw[F]at g;have av:(a.take (a.length-1)).map da.st=(c++ [(d,bJ,0)]).take (a.length-1):=by rw[←g,mm]
   refine⟨by rw[av];exact k_ I,?_⟩;have ax:(a.map da.st)[a.length-1]? =some (d,bJ,0):=by
    rw[g,jP I];have:a.length-1-c.length=0:=by omega
    rw[this];rfl
   rw[km,dE I]at ax;have am:=Option.some.inj ax;exact congrArg Prod.fst am
  refine EZ (k:=k) (dw:=l) (A:=m) (B:=n) (M:=b.e5) (lo:=i) (hi:=j) w al E I (by show a.length=T.aE;omega) u o X (by rw[z];simp) (by rw[C];simp) ?_ ⟨t,ae,rfl,rfl⟩ ag.symm ?_ ai (λh=>af λe=>?_) λx hx=>?_
  .rw[N.1]
   have:a.length=T.aE:=by omega
   rw[this];exact G
  .rw[N.2];exact H
  .rw[e]at hlen;simp at hlen;omega
  .exact hf x (H.mem_iff.2 (iV _ hx))
theorem jm.ext'{B C:Nat->Prop}{w w':J}{s:Y}{l:O da}(h:jm B w s l)(hx:Ext w w')(a:∀q,B q->C q):jm C w' s l:=
 ⟨h.own.ext hx,λq b=>a q (h.nn q b),λx c=>((h.bj x c).ext hx).aV λq _ d=>a q d⟩
theorem o2{a:O da}{b:O (Nat×aA×Nat)}{c:Nat}{bp:aA}(d:a.map da.st=b++ [(c,bp,0)]):∃h:0<a.length,(a[a.length-1]'I).n=bp:=by
 have hlen:a.length=b.length+1:=by
  have:=congrArg List.length d;rw[dr,cF,ie]at this;exact this
 refine⟨I,?_⟩;have ax:(a.map da.st)[a.length-1]? =some (c,bp,0):=by
  rw[d,jP I];have:a.length-1-b.length=0:=by omega
  rw[this];rfl
 rw[km,dE I]at ax;exact congrArg (λx=>x.2.1) (Option.some.inj ax)
theorem E4{w:J}{T:aL}{pages:O Nat}{L:O aR}{tk dC:Y}{key val:Key}(h:bH w T)(ba:¬T.C.D.ro)(H:fu T pages L)(ap:L.length<4096)(cT:pages.Nodup)(hf:∀x∈pages,T.f x=true)(b7:T.C.D.aM<=800000000)
 (Q:Src 1 w tk (aF key)) (R:∀q,aC tk q->q<w.heap.size/\¬T.M q) (aq:Src 1 w dC (aF val)) (bb:∀q,aC dC q->q<w.heap.size/\¬T.M q):
 aP ak 85 #[.pointer (some T.a_),tk,dC] w (λv w'=>(v=.int .i64 1/\¬(cD key/\val.length<=24)/\w=w')\/(cD key/\val.length<=24/\Au T pages (gd L key val) w v w')):=by
 have bc:=len8 Q;have aw:=len8 aq;refine okF (af.sF (some T.a_) tk dC) az.sF func85 ?_;(delta af.sF al aH r1 aB au b8 cc U a8 ag p2 lQ;dsimp only);refine ct (λb w'=>b= !(decide (cD key))/\w=w') (λq c=>⟨λh=>(by cases h),λ_=>(lU w tk).use ?_⟩) ?_
 .rintro _ _ ⟨rfl,rfl⟩
  refine⟨_,rfl,c _ _ ⟨?_,rfl⟩⟩;unfold cD;rw[bc]
 rintro _ _ ⟨rfl,rfl⟩;refine⟨λd=>.inl ⟨rfl,λhg=>?_,rfl⟩,λd=>?_⟩
 .rw[dL hg.1,aw]at d
  have:¬(val.length:Int)>24:=by have:=hg.2;omega
  simp[this]at d
 have hg:cD key/\val.length<=24:=by
  by_cases h1:cD key
  .refine⟨h1,?_⟩
   rw[dL h1,aw]at d;have:¬(val.length:Int)>24:=by simpa using d
   omega
  .rw[ig h1]at d;simp at d
 have ca:=h.s.bp;obtain⟨cb,cd⟩:=H.low ap;have ay:Ext w w.drew:=cw w;have hd:=h.ext ay;refine aY ⟨λ_=>False,_,rfl,id,_,hd.cells.2.1,_,rfl,id,_,hd.cells.2.2.2.2,(wE hd.s).use ?_⟩;rintro _ ce ⟨rfl,aG⟩;have bd:((T.n:Int)-ep (λi=>T.f i||T.g i) T.n)=(b3 T:Nat):=by
  have:=lk (λi=>T.f i||T.g i) T.n;unfold b3;omega
 have be:IntKind.wrap .i64 (IntKind.wrap .i64 (2*(T.aE:Int))+3)=((2*T.aE+3:Nat):Int):=by
  rw[bu (n:=2*(T.aE:Int)) I I,bu I I];omega
 rw[bd,be];have o:=ay.trans aG;have S:=h.ext o;refine⟨_,rfl,aG,λd=>.inr ⟨hg.1,hg.2,T,S,(bO.ext T o).mono I,rfl,rfl,.inl ⟨rfl,?_,rfl⟩⟩,λd=>?_⟩
 .have d:((b3 T:Nat):Int)<((2*T.aE+3:Nat):Int):=b_ d
  omega
 have bh:2*T.aE+3<=b3 T:=by
  have:¬((b3 T:Nat):Int)<((2*T.aE+3:Nat):Int):=cG d;omega
 obtain⟨steps,aI,aJ⟩:=wV (k:=key) S H;refine(wH S I (Q.ext o) (λq c=>⟨fl (R q c).1 o.size,(R q c).2⟩) aI).use ?_;rintro _ z ⟨aD,W,X,aK,bi⟩;have u:=((bO.ext T o).trans X).mono (l:=2*T.aE) I;rcases bi with ⟨s,a,rfl,m,Z⟩|⟨rfl,bk⟩
 rotate_left
 .refine⟨⟨none,0,0⟩,3,rfl,λ_=>.inr ⟨hg.1,hg.2,T.bg aD T.P,W,u.mono I,rfl,rfl,.inr (.inr ⟨rfl,λhc=>bk (fJ hc I),rfl,rfl,rfl,λno _=>⟨rfl,aK no⟩⟩)⟩,λhx=>(by cases hx)⟩
 have cf:s.len=a.length:=by
  have:=Z.own.1;rw[gQ _ (mb a)]at this;omega
 have cg:=o.size;have ch:a.length=T.aE:=by
  have:=aI.length;rw[←m,dr]at this;exact this
 refine⟨s,0,rfl,λhx=>(by cases hx),λ_=>bl (vs:=[false,(),(),()]) rfl λci aN bm cj=>⟨aN.b2 rfl (fj (b:=true) (K:=bn) (V:=bn) (D:=bn)),rfl,cp aN (us:=dO ⟨true,[],[],[]⟩ bn bn bn) rfl rfl λbq E bs cl=>?_⟩⟩;have aa:Ext z bq:=Ext.ck bm bs (bo _);obtain⟨gH,bt⟩:∃gH,gH=z.heap.size:=⟨_,rfl⟩;rw[←bt]at E⊢
 obtain⟨bJ,j⟩:∃bJ:aA,bJ=(if cm:0<a.length then (a[a.length-1]'I).n else ⟨true,[],[],[]⟩):=⟨_,rfl⟩;refine jd (λp=>∃ (K V D:Y) (B:Nat->Prop),Ext z p/\Var p gH (dO bJ K V D) 202/\br B p bJ K V D) (λq c=>⟨λac=>?_,λac=>?_⟩) ?_
 .have ad:0<a.length:=by
   have:(s.len:Int)>0:=b_ ac;omega
  rw[dif_pos ad]at j;have e:IntKind.wrap .i64 ((s.len:Int)-1)=((a.length-1:Nat):Int):=by rw[bu I I];omega
  obtain⟨A,ar,_,_,_,hu⟩:=Z.at (i:=a.length-1) I;have F:=hu.ext aa;rw[e,di];subst j;refine⟨A,ar,⟨I,I⟩,_,F.aB,_,F.aT,_,F.aH,_,F.dj,E.b2 rfl fj,rfl,cp E (us:=dO (a[a.length-1]'I).n (a[a.length-1]'I).K (a[a.length-1]'I).V (a[a.length-1]'I).D) rfl rfl λbv bA bD cn=>?_⟩;have aO:Ext z bv:=Ext.ck aa bD I;exact c _ ⟨_,_,_,_,aO,bA,hu.bj.ext aO⟩
 .have ad:¬0<a.length:=by
   have:¬(s.len:Int)>0:=cG ac;omega
  rw[dif_neg ad]at j;subst j;exact c _ ⟨bn,bn,bn,λ_=>True,aa,E,bf.none _ _,bf.none _ _,cx.none _ _⟩
 rintro p ⟨K,V,D,B,G,bE,bG⟩;have co:=G.size;have cr:=X.ab.size
 have bI:gw bJ/\bz bJ<=232:=by
  rcases aJ with ⟨h1,h2,r,t⟩|⟨aQ,bp,aS,aU,aW,aX,aZ,a0,bW,ag,bF,a8,a1,bK,bL,a2,a3,bM,a4⟩
  .have ae:¬0<a.length:=by
    rw[h1]at m;have:a=[]:=by simpa using m
    rw[this];simp
   rw[j,dif_neg ae];exact⟨⟨⟨λ_ h=>(by cases h),List.Pairwise.nil⟩,rfl,rfl,rfl,λ_ h=>(by cases h)⟩,by decide⟩
  .rw[bW]at m
   obtain⟨av,ax⟩:=o2 m;rw[j,dif_pos av,ax];exact⟨a8,h.nq _ _ bF⟩
 obtain⟨ah,cs⟩:=bI;have cu:=(cv.fH (.inl ah) I);have cz:∀q,T.N q->q<w.heap.size:=λq c=>h.lt (aL.gm c);have bN:Src 1 p tk (aF key):=(Q.ab u.ab λq c ai=>(R q c).2 (aL.gm ai)).ext G;have bP:Src 1 p dC (aF val):=(aq.ab u.ab λq c ai=>(bb q c).2 (aL.gm ai)).ext G;obtain⟨d0,d1,d2,d3⟩:=bw bE;refine⟨_,d0,K,d1,V,d2,D,d3,(ou bG ah I bN bP hg.1 hg.2).use ?_⟩;rintro _ bQ ⟨cq,cy,b9,rfl,bR,bS⟩;refine⟨_,cq,cy,b9,true,rfl,bl (vs:=[false,(),(),()]) rfl λcA a5 bT cB=>⟨a5.b2 rfl fj,rfl,cp a5 (us:=dO (gF bJ key val) cq cy b9) rfl rfl λa6 bU bV cC=>⟨λhx=>(by cases hx),λ_=>?_⟩⟩⟩;have a7:Ext bQ a6:=Ext.ck bT bV (bo _);have aj:=(G.trans bS).trans a7;obtain⟨d0,d1,d2,d3⟩:=bw bU;obtain⟨bB,bx,bX,am,bY,a9⟩:=E3 ah hg.1 hg.2;have bZ:aD.D.aM<=900000000:=by
  have:aD.D.aM<=T.C.D.aM+2*T.aE:=u.aM;omega
 have b0:br (λq=>¬(T.bg aD T.P).M q) a6 (gF bJ key val) cq cy b9:=(bR.ext a7).aV λq _ c b1=>by have:=W.lt b1;omega
 have b4:=Av (dx:=gd L key val) (k:=key) (steps:=steps) (bJ:=bJ) (W.ext aj) (λe=>ba λi=>X.bC.1▸e i) H ap cT hf bZ m (Z.ext' aj λq c=>c.2) b0 bB (by
  rcases aJ with ⟨h1,h2,r,t⟩|⟨aQ,bp,aS,aU,aW,aX,aZ,a0,bW,ag,bF,a8,a1,bK,bL,a2,a3,bM,a4⟩
  .have ae:¬0<a.length:=by omega
   rw[dif_neg ae]at j;refine .inl ⟨h1,h2,r,am,?_,?_⟩
   .have:bz bJ=1:=by rw[j];rfl
    omega
   .rw[bx,j,t];rfl
  .rw[bW]at m
   obtain⟨av,ax⟩:=o2 m;rw[dif_pos av,ax]at j;rw[j]at bx bX am bY a9⊢;refine .inr ⟨aQ,aS,aU,aW,aX,aZ,a0,bW,ag,λs hs=>?_,λ_=>am,a3,?_,by have:=h.nq _ _ bF;omega⟩
   .rcases a9 s hs with rfl|an
    .exact a2
    .exact a1 s an
   .rw[bx];exact a4 (λL=>gd L key val) (CU key val))
 refine⟨_,d0,cq,d1,cy,d2,b9,d3,b4.use ?_⟩;intro v w' b5;have b6:=b5.ab (w:=w) ((u.trans (bO.ext (T.bg aD T.P) aj)).mono (l:=40) I) (bo _) aK bh;obtain⟨ao,h1,h2,r,t,an⟩:=b6;rcases an with ⟨rfl,y⟩|⟨rfl,y⟩|⟨rfl,y⟩
 .exact⟨2,rfl,.inr ⟨hg.1,hg.2,ao,h1,h2,r,t,.inl ⟨rfl,y⟩⟩⟩
 .exact⟨0,rfl,.inr ⟨hg.1,hg.2,ao,h1,h2,r,t,.inr (.inl ⟨rfl,y⟩)⟩⟩
 .exact⟨3,rfl,.inr ⟨hg.1,hg.2,ao,h1,h2,r,t,.inr (.inr ⟨rfl,y⟩)⟩⟩
end Go.Proofs.YtkdhdlfonmgheaaGreat
