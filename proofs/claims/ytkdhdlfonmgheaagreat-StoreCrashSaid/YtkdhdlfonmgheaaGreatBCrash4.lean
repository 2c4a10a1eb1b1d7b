/- Contracts of the functions that the statement reaches, and the plain laws over them; each theorem stands with its conditions. -/
import Derived.Laws.Small
import Derived.Test.YtkdhdlfonmgheaaGreatBCrash3
namespace Go.Proofs.YtkdhdlfonmgheaaGreat
open Go a8 Go.Proofs.Tryz
theorem GS(w:J)(x:Int):Sem.run aj (Instr.buildSlice 326 1 #[(0,.agg #[(),x])]) w=
 .ok (.slice (some w.heap.size) 1 1) (w.alloc (.cells #[(),x] 334)):=by kernel_rfl
theorem GU(w:J)(x y:Int)(t:Y):Sem.run aj (Instr.buildSlice 326 2 #[(0,.agg #[(),x]),(1,.agg #[t,y])]) w=
 .ok (.slice (some w.heap.size) 2 2) (w.alloc (.cells #[(),x,t,y] 334)):=by kernel_rfl
theorem cH.xr{n:aD}(h:cH n)(h1:1<=cm n)(h2:if n.leaf then cm n<=n.keys.length-1/\1<=n.keys.length-1 else cm n<=n.keys.length-2/\1<=n.keys.length-2):cH (n.left (cm n))/\cH (n.right (cm n)):=by
 rcases h with h|h
 .have a:=h.leaf
  rw[if_pos a]at h2;unfold aD.left aD.right;rw[if_pos a,if_pos a];have hlen:=h.len;refine⟨.inl ⟨⟨λk b=>h.ok k (fh b),h.fb.sublist (List.take_sublist _ _)⟩,rfl,?_,rfl,λv c=>h.vals v (fh c)⟩,.inl ⟨⟨λk b=>h.ok k (fg b),h.fb.sublist (List.drop_sublist _ _)⟩,rfl,?_,rfl,λv c=>h.vals v (fg c)⟩⟩
  .simp only[cG];omega
  .simp only[da];omega
 .have a:=h.inner
  rw[if_neg (by rw[a];simp)]at h2;unfold aD.left aD.right;rw[if_neg (by rw[a];simp),if_neg (by rw[a];simp)];have hlen:=h.len;refine⟨.inr ⟨⟨λk b=>h.ok k (fh b),h.fb.sublist (List.take_sublist _ _)⟩,rfl,?_,?_,rfl,λv c=>h.kids v (fh c)⟩,.inr ⟨⟨λk b=>h.ok k (fg b),h.fb.sublist (List.drop_sublist _ _)⟩,rfl,?_,?_,rfl,λv c=>h.kids v (fg c)⟩⟩
  .intro e
   have:=congrArg List.length e;simp only[cG,jJ]at this;omega
  .simp only[cG];omega
  .intro e
   have:=congrArg List.length e;simp only[da,jJ]at this;omega
  .simp only[da];omega
def ld(B:Nat->Prop)(w:J)(s:Y)(ks:O Key)(kids:O Nat):Prop:=
 (∃b x,s=⟨some ⟨b,0,none⟩,1,1⟩/\ks=[]/\kids=[x]/\Var w b [.slice none 0 0,.int .i64 (x:Nat)] 334/\B b)\/
 (∃b x y k t,s=⟨some ⟨b,0,none⟩,2,2⟩/\ks=[k]/\kids=[x,y]/\Var w b [.slice none 0 0,.int .i64 (x:Nat),.slice t.a t.len t.cap,.int .i64 (y:Nat)] 334/\B b/\a_ B w t k/\k≠ [])
def h4(T:aN)(c:dJ)(n:aD)(w:J)(v:aa)(w':J):Prop:=
 ∃ (ao:aN) (c':dJ) (m:O Nat) (s:Y),du w' ao c'/\dv T ao c c' m [] w w' 2/\m.length<=2/\
  ((∃ks,v=.tuple #[s,(0:Int)]/\mb ao.P n ks m/\ld (λq=>¬ao.M q) w' s ks m)\/(v=.tuple #[s,(3:Int)]/\¬T.C.D.calm 2))
theorem B5{B:Nat->Prop}{w:J}{T:aN}{c:dJ}{n:aD}{K V D:Y}(h:du w T c)(k:T.C.D.aQ<=900000100)(l:1<=cl T)(m:c.made.length<=1000)(o:bF B w n K V D)(hs:cH n)(h2:bM n<=232):
 aR aj 251 #[.pointer (some c.cb),c2 n K V D] w (h4 T c n w):=by
 refine okF (af.uW (some c.cb) n.leaf K V D) aA.uW func251 ?_;(delta af.uW bc U ag eP;dsimp only);refine bh (vs:=[n.leaf,K,V,D]) rfl λw1 p b y=>?_;obtain⟨bX,aC,aU,aO⟩:=bH p;refine⟨_,bX,K,aC,V,aU,D,aO,(vO (h.ext b) k l m (o.ext b) hs h2).use ?_⟩;rintro _ a ⟨no,ao,c',d,q,r⟩;have f:∀ (e:Int),((e=0/\ao.P no=some n)\/(e=3/\¬T.C.D.calm 1))->∃ (g:Y) (i:J),Sem.run aj (Instr.buildSlice 326 1 #[(0,.agg #[(),no])]) a=.ok g i/\h4 T c n w (.tuple #[g,e]) i:=by
  intro e he;refine⟨⟨some a.heap.size,1,1⟩,_,GS a _,?_⟩;have j:=eS a (.cells #[(),no] 334);have s:dv T ao c c' [no] [] w (a.alloc (.cells #[(),no] 334)) 2:=(((dv.ext T c b).trans q).trans (dv.ext ao c' j)).mono I;refine⟨ao,c',[no],⟨some a.heap.size,1,1⟩,d.ext j,s,by simp,?_⟩;rcases he with ⟨rfl,he⟩|⟨rfl,he⟩
  .refine .inl ⟨[],rfl,.inl ⟨h2,no,rfl,rfl,he⟩,.inl ⟨_,no,rfl,rfl,rfl,Var.new a [(),no] 334,λu=>?_⟩⟩
   have:=d.t.lt u;omega
  .exact .inr ⟨rfl,λhc=>he (gg hc I)⟩
 rcases r with ⟨rfl,v⟩|⟨rfl,x⟩
 .exact⟨_,0,rfl,f 0 (.inl ⟨rfl,v⟩)⟩
 .exact⟨_,3,rfl,f 3 (.inr ⟨rfl,x⟩)⟩
theorem fK{b:ai}{K V D:Y}:∀v∈ [.bool b,.slice K.a K.len K.cap,.slice V.a V.len V.cap,.slice D.a D.len D.cap],Plain v:=by
 intro v c;simp only[cU,eL,eO]at c;rcases c with rfl|rfl|rfl|rfl<;>trivial
theorem GV{B:Nat->Prop}{w:J}{T:aN}{c:dJ}{n:aD}{K V D:Y}(h:du w T c)(a0:T.C.D.aQ<=900000090)(a1:2<=cl T)(a2:c.made.length<=900)(ai:bF B w n K V D)(hs:cH n)(h2:232<bM n)(a3:bM n<=400)(h1:1<=cm n)
 (l:if n.leaf then cm n<=n.keys.length-1/\1<=n.keys.length-1 else cm n<=n.keys.length-2/\1<=n.keys.length-2) (al:bM (n.left (cm n))<=232) (am:bM (n.right (cm n))<=232):
 aR aj 294 #[.pointer (some c.cb),c2 n K V D] w (h4 T c n w):=by
 obtain⟨sl,an⟩:=hs.xr h1 l;have a4:=hs.eB I;have a:cm n<n.keys.length:=by
  split at l<;>omega
 refine okF (af.u6 (some c.cb) n.leaf K V D) aA.u6 func294 ?_;(delta af.u6 bc U ag pr cj ak eP;dsimp only);refine bh (vs:=[n.leaf,K,V,D]) rfl λw1 ao E a5=>?_;obtain⟨bX,aC,aU,aO⟩:=bH ao;refine⟨_,bX,K,aC,V,aU,D,aO,(pT (ai.ext E) hs I h1 l).use ?_⟩;rintro _ ap ⟨de,dz,bt,cI,cQ,ct,t,rfl,aq,ar,ht,au⟩;refine⟨_,de,dz,bt,t,_,cI,cQ,ct,true,rfl,bh (vs:=[false,(),(),()]) rfl λa6 av aw a7=>bh (vs:=[false,(),(),()]) rfl λa8 ax F a9=>?_⟩;have G:=av.ext F;refine⟨G.b9 rfl fK,rfl,cr G (us:=[.bool (n.left (cm n)).leaf,de,dz,bt]) rfl rfl λba ay H bb=>?_⟩;have L:=ax.ab H I;refine⟨L.b9 rfl fK,rfl,cr L (us:=[.bool (n.right (cm n)).leaf,cI,cQ,ct]) rfl rfl λm az O bd=>⟨λa=>(by cases a),λ_=>?_⟩⟩;have aB:=ay.ab O I;have Q:=E.trans au;have i:Ext ap m:=Ext.cn (Ext.cn (aw.trans F) H I) O I;have o:=Q.trans i;have be:=Q.size;have bf:=i.size;obtain⟨d0,d1,d2,d3⟩:=bH aB;refine⟨_,d0,de,d1,dz,d2,bt,d3,(vO (h.ext o) I I I (aq.ext i) sl al).use ?_⟩;rintro _ aE ⟨x,bP,R,p,b,aF⟩;have r:∀q,T.N q->q<w.heap.size:=λq d=>h.t.lt (aN.gl d);have bg:=b.to.ab.size;rcases aF with ⟨rfl,S⟩|⟨rfl,s⟩
 .have aG:=az.ab b.to.ab λd=>by have:=r _ d;omega
  obtain⟨d0,d1,d2,d3⟩:=bH aG;have aH:bF (λq=>w1.heap.size<=q) aE (n.right (cm n)) cI cQ ct:=(ar.ext i).ab b.to.ab λq d u=>by have:=r _ u;omega
  have aI:bP.C.D.aQ<=900000100:=eK b.to.aQ (by clear p b S;omega);have aJ:=b.room;have bi:R.made.length=c.made.length+1:=by rw[b.made,cz];rfl
  simp only[jn]at aJ;have W:=vO p aI I I aH an am;rw[b.cb]at W;refine⟨x,0,rfl,λa=>(by cases a),λ_=>⟨_,d0,cI,d1,cQ,d2,ct,d3,W.use ?_⟩⟩;rintro _ g ⟨y,b4,X,Z,k,aK⟩;have bj:=k.to.ab.size;have aL:=((dv.ext T c o).trans b).trans k;have aM:n.keys.getD (cm n) []=n.keys[cm n]:=by rw[fC,dE a];rfl
  have aP:=ht.ext i;have aS:a_ (λq=>¬b4.M q) g t n.keys[cm n]:=by
   rw[←aM];have aT:a_ (λq=>q<m.heap.size/\w1.heap.size<=q) m t (n.keys.getD (cm n) []):=a_.aY aP λq d a=>⟨d,a⟩;have aa:=(b.trans k).to;refine a_.aY (a_.ab aT aa.ab λq d u=>by have:=r _ u;omega) λq _ a v=>?_;rcases aa.c7 q v with ac|ac
   .have:=h.t.lt ac;omega
   .omega
  have aV:n.keys[cm n]≠ []:=by
   have aW:cw n.keys[cm n]:=by
    rcases hs with hs|hs
    .exact hs.ok _ (cF a)
    .exact hs.ok _ (cF a)
   intro e;have:=aW.1;rw[e]at this;simp at this
  have z:=eS g (.cells #[(),x,t,y] 334);have A:=(aL.trans (dv.ext b4 X z)).mono (j:=2) I;have ad:∀ (e:Int),((e=0/\b4.P y=some (n.right (cm n)))\/(e=3/\¬bP.C.D.calm 1))->∃ (ae:Y) (ah:J),Sem.run aj (Instr.buildSlice 326 2 #[(0,.agg #[(),x]),(1,.agg #[t,y])]) g=.ok ae ah/\
   h4 T c n w (.tuple #[ae,e]) ah:=by
   intro e he;refine⟨⟨some g.heap.size,2,2⟩,_,GU g _ _ t,b4,X,[x,y],⟨some g.heap.size,2,2⟩,Z.ext z,A,by simp,?_⟩;rcases he with ⟨rfl,he⟩|⟨rfl,he⟩
   .have aX:b4.P x=some (n.left (cm n)):=by
     rw[(k.eN x (by rw[b.f];simp)).1,S]
    refine .inl ⟨[n.keys[cm n]],rfl,.inr ⟨h2,x,y,a,rfl,rfl,aX,he⟩,.inr ⟨_,x,y,_,t,rfl,rfl,rfl,Var.new g [(),x,t,y] 334,λv=>?_,a_.ext aS z,aV⟩⟩;have:=Z.t.lt v;omega
   .exact .inr ⟨rfl,λhc=>he (b.to.calm 1 (gg hc I))⟩
  rcases aK with ⟨rfl,aZ⟩|⟨rfl,s⟩
  .exact⟨_,0,rfl,ad 0 (.inl ⟨rfl,aZ⟩)⟩
  .exact⟨_,3,rfl,ad 3 (.inr ⟨rfl,s⟩)⟩
 .have A:=((dv.ext T c o).trans b).mono (j:=2) I
  exact⟨_,3,rfl,λ_=>⟨bP,R,[x],bk,p,A,by simp,.inr ⟨rfl,λhc=>s (gg hc I)⟩⟩,λa=>(by cases a)⟩
theorem vP{B:Nat->Prop}{w:J}{T:aN}{c:dJ}{n:aD}{K V D:Y}(h:du w T c)(t:T.C.D.aQ<=900000090)(u:2<=cl T)(x:c.made.length<=900)(f:bF B w n K V D)(hs:cH n)(y:bM n<=400)
 (h2:232<bM n->1<=cm n/\(if n.leaf then cm n<=n.keys.length-1/\1<=n.keys.length-1 else cm n<=n.keys.length-2/\1<=n.keys.length-2)/\bM (n.left (cm n))<=232/\bM (n.right (cm n))<=232):
 aR aj 281 #[.pointer (some c.cb),c2 n K V D] w (h4 T c n w):=by
 have A:=hs.eB I;refine okF (af.u3 (some c.cb) n.leaf K V D) aA.u3 func281 ?_;(delta af.u3 bc U ag aC ak cc;dsimp only);refine bh (vs:=[n.leaf,K,V,D]) rfl λw1 o p E=>?_;obtain⟨bX,aC,aU,aO⟩:=bH o;refine⟨_,bX,K,aC,V,aU,D,aO,(n4 (f.ext p) hs I).use ?_⟩;rintro _ z ⟨rfl,q⟩;have a:=p.trans q;obtain⟨d0,d1,d2,d3⟩:=bH (o.ext q);have fin:∀ (v:aa) (w':J),h4 T c n z v w'->∃s:Y,∃e:Int,v=.tuple #[s,e]/\h4 T c n w (.tuple #[s,e]) w':=by
  rintro v w' ⟨ao,c',m,s,au,ay,d,i⟩;have r:=((dv.ext T c a).trans ay).mono (j:=2) I;rcases i with ⟨ks,rfl,k⟩|⟨rfl,k⟩
  .exact⟨s,0,rfl,ao,c',m,s,au,r,d,.inl ⟨ks,rfl,k⟩⟩
  .exact⟨s,3,rfl,ao,c',m,s,au,r,d,.inr ⟨rfl,k⟩⟩
 refine⟨_,rfl,λb=>⟨_,d0,K,d1,V,d2,D,d3,?_⟩,λb=>⟨_,d0,K,d1,V,d2,D,d3,?_⟩⟩
 .have b:((bM n:Nat):Int)>232:=b8 b
  obtain⟨au,ay,d,i⟩:=h2 I;refine(GV (h.ext a) t u x (f.ext a) hs I y au ay d i).use ?_;rintro v w' l;obtain⟨s,e,rfl,g⟩:=fin v w' l;exact⟨s,e,rfl,g⟩
 .have b:¬((bM n:Nat):Int)>232:=cv b
  refine(B5 (h.ext a) I I I (f.ext a) hs I).use ?_;rintro v w' l;obtain⟨s,e,rfl,g⟩:=fin v w' l;exact⟨s,e,rfl,g⟩
theorem B6{B:Nat->Prop}{w:J}{s:Y}{ls:O Key}(h:bq B w s ls)(p:ls.length<=100000):
 aR aj 284 #[s] w (λv w'=>∃b:Y,v=b/\bu (λq=>(B q/\q<w.heap.size)\/(w.heap.size<=q/\aB b q)) w' b ls/\Ext w w'/\gU w b):=by
 have r:=bq.len h;obtain⟨ts,au,ay,t,u,l⟩:=h;refine okF (af.tJ s) aA.tJ func284 ?_;delta af.tJ ak U;refine⟨λd=>?_,λ_=>?_⟩
 .have d:s.a=none:=by simpa using d
  have h0:=ay.nil d;have:ls=[]:=List.eq_nil_of_length_eq_zero (by rw[←au];have:=congrArg List.length h0;simpa using this);subst this;exact⟨⟨none,0,0⟩,rfl,bu.none _ _,.refl _ _,λk e=>(gk k e).elim⟩
 .obtain⟨b,w',h1,h2,x,j,f,_⟩:=p5.clone (cM:=127) ay (vB ts) I
  refine aW ⟨b,w',h1,b,rfl,⟨ts,au,h2,λq c=>⟨.inr ⟨f q c,c⟩,h2.lt q c⟩,λi m n=>?_⟩,j,f⟩;have a:=l i m n;exact⟨a_.aY (a_.ext (a_.aY (C:=λq=>B q/\q<w.heap.size) a λq c g=>⟨g,c⟩) j) λq _ g=>.inl g,λk e o=>by have:=f k o;have:=(a.2.2 k e).2;omega⟩
theorem ld.at{B:Nat->Prop}{w:J}{s:Y}{ks:O Key}{kids:O Nat}(h:ld B w s ks kids):s.len=kids.length/\kids.length=ks.length+1/\kids.length<=2/\∀ (j:Nat) (d:j<kids.length),∃ (A:ae) (t:Y),s.a=some A/\w.cell? (A.add (j*2))=some (.slice t.a t.len t.cap)/\w.cell? ((A.add (j*2)).add 1)=some (.int .i64 ((kids[j]:Nat):Int))/\
 ((t.a=none/\ks.take j=ks.take (j-1))\/(t.a.isSome=true/\∃k,a_ B w t k/\ks.take j=ks.take (j-1)++ [k])):=by
 rcases h with ⟨b,x,rfl,rfl,rfl,c,e⟩|⟨b,x,y,k,t,rfl,rfl,rfl,c,e,ht,f⟩
 .refine⟨rfl,rfl,by simp,λj d=>?_⟩
  have:j=0:=by simp at d;omega
  subst this;exact⟨_,⟨none,0,0⟩,rfl,by rw[aw];exact c.cell,by rw[aw,aw];exact c.cell,.inl ⟨rfl,rfl⟩⟩
 .refine⟨rfl,rfl,by simp,λj d=>?_⟩
  rcases dO j 1 with h1|h1
  .have:j=0:=by omega
   subst this;exact⟨_,⟨none,0,0⟩,rfl,by rw[aw];exact c.cell,by rw[aw,aw];exact c.cell,.inl ⟨rfl,rfl⟩⟩
  .have:j=1:=by simp at d;omega
   subst this;obtain⟨A,ar⟩:=a_.some ht f;exact⟨_,t,rfl,by rw[aw];exact c.cell,by rw[aw,aw];exact c.cell,.inr ⟨by rw[ar];rfl,k,ht,rfl⟩⟩
theorem ld.ext{B:Nat->Prop}{w w':J}{s:Y}{ks:O Key}{kids:O Nat}(h:ld B w s ks kids)(hx:Ext w w'):ld B w' s ks kids:=by
 rcases h with ⟨b,x,h1,h2,a,c,d⟩|⟨b,x,y,k,t,h1,h2,a,c,d,ht,e⟩
 .exact .inl ⟨b,x,h1,h2,a,c.ext hx,d⟩
 .exact .inr ⟨b,x,y,k,t,h1,h2,a,c.ext hx,d,a_.ext ht hx,e⟩
theorem GW{w:J}{nb o:Nat}{vs:O aa}{S t:Y}{ls:O Key}{l:Key}{B:Nat->Prop}{T:TypeId}(d:Var w nb vs T)(n:o<vs.length)(f:bu B w S ls)(g:¬B nb)
 (ht:a_ B w t l) (hd:∀k,aB t k->¬aB S k) (E:ls.length<=100000) {K:J->Prop}
 (p:∀ (w':J) (ax:Y),Var w' nb (vs.set o ax) T->bu (Grow B w w') w' ax (ls++ [l])->ad (λq=>q=nb\/aB S q) w w'->(∀k,aB ax k->aB S k\/w.heap.size<=k)->K w'):
 al (w.alloc (.cells #[t] 48)) λr=>∃i:Y,∃b:J,Sem.run aj (Builtin.append_ #[127,127] 127 #[S,.slice (some w.heap.size) 1 1]) r=.ok i b/\
  (∃u:aa,b.cell? (Addr.add nb o)=some u)/\b.frozen? (Addr.add nb o)=false/\al (b.setCell (Addr.add nb o) i) λs=>K s:=by
 have v:=bu.aY (C:=λq=>B q\/w.heap.size<=q) f λk _ h=>.inl h;have x:=a_.aY (C:=λq=>B q\/w.heap.size<=q) ht λk _ h=>.inl h;obtain⟨c,w',au,ay,j,y⟩:=A4 v x hd I λk a=>.inr a;have F:=d.lt;have z:¬aB S nb:=λh=>by
  obtain⟨ts,_,_,A,_⟩:=f;exact g (A nb h).1
 have m:=d.ab j z;obtain⟨aC,aU⟩:=dI m n;refine aW ⟨c,w',au,?_⟩;rw[aw,cy];have hc:=dk w' nb o c;refine⟨aC,aU,aW (p _ c (dN m _) ?_ ?_ y)⟩
 .have D:=bu.aY (C:=Grow B w (w'.setCell ⟨nb,o,none⟩ c)) ay λk a h=>by
   rcases h with h|h
   .exact .inl h
   .exact .inr ⟨h,fU a hc.size⟩
  refine bu.ab D hc λk a e=>?_;subst e;rcases a with h|h
  .exact g h
  .omega
 .exact(j.mono λk _ a=>.inr a).trans (hc.mono λk _ a=>.inl a)
def vQ(B:Nat->Prop)(n:aD)(fr to:Nat)(ks:O Key)(kids:O Nat)(w:J)(v:aa)(w':J):Prop:=
 ∃K V D:Y,v=c2 (gf n fr to ks kids) K V D/\bF (λq=>B q\/w.heap.size<=q) w' (gf n fr to ks kids) K V D/\Ext w w'
def yk(nb aE e:Nat)(l:Y)(to:Int)(b1:J)(Q:aa->J->Prop):Prop:=
 ∃ (C:Int->J->Prop) (H:Int->J->Nat),C 0 b1/\∀ (n19:Int) (b:J),C n19 b->((decide ((n19:Int)<(l.len:Int)))=true->∃D:ae,l.a=some D/\((0:Int)<=n19/\n19<(l.len:Int))/\∃h:Y,b.cell? (D.add (Int.toNat n19*2))=some (.slice h.a h.len h.cap)/\∃n23:Int,b.cell? ((D.add (Int.toNat n19*2)).add 1)=some (.int .i64 n23)/\al (b.alloc (.cells #[(),(0:Int)] 334)) λI=>bx I b.heap.size [h,n23]/\(2:Nat)=2/\al (setCells I b.heap.size 0 [h,n23]) λf=>bE (λK:J->Prop=>∃i:Y,f.cell? b.heap.size=some (.slice i.a i.len i.cap)/\((!(Option.isNone i.a))=true->∃o:Y,f.cell? (Addr.add aE 1)=some (.slice o.a o.len o.cap)/\∃p:Y,f.cell? b.heap.size=some (.slice p.a p.len p.cap)/\al (f.alloc (.cells #[p] 48)) λS=>∃L:Y,∃q:J,Sem.run aj (Builtin.append_ #[127,127] 127 #[o,.slice (some f.heap.size) 1 1]) S=.ok L q/\(∃u:aa,q.cell? (Addr.add aE 1)=some u)/\q.frozen? (Addr.add aE 1)=false/\al (q.setCell (Addr.add aE 1) L) λT=>K T)/\((!(Option.isNone i.a))=false->K f)) (λ(r:J)=>∃s:Y,r.cell? (Addr.add aE 3)=some (.slice s.a s.len s.cap)/\∃n36:Int,r.cell? (Addr.add b.heap.size 1)=some (.int .i64 n36)/\al (r.alloc (.cells #[n36] 3)) λU=>∃M:Y,∃t:J,Sem.run aj (Builtin.append_ #[58,58] 58 #[s,.slice (some r.heap.size) 1 1]) U=.ok M t/\(∃u:aa,t.cell? (Addr.add aE 3)=some u)/\t.frozen? (Addr.add aE 3)=false/\al (t.setCell (Addr.add aE 3) M) λN=>C (IntKind.wrap .i64 (n19+1)) N/\H (IntKind.wrap .i64 (n19+1)) N<H n19 b))/\((decide ((n19:Int)<(l.len:Int)))=false->al (b.drew) λE=>¬False/\∃v:Y,E.cell? (Addr.add aE 1)=some (.slice v.a v.len v.cap)/\¬False/\∃c:Y,E.cell? (Addr.add nb 1)=some (.slice c.a c.len c.cap)/\((0:Int)<=(IntKind.wrap .i64 (to-1))/\(IntKind.wrap .i64 (to-1))<=(c.len:Int))/\∃O:Y,∃w:J,Sem.run aj (Builtin.append_ #[127,127] 127 #[v,.slice (aP c.a 1 (Int.toNat (IntKind.wrap .i64 (to-1))) c.cap) (c.len-(Int.toNat (IntKind.wrap .i64 (to-1)))) (c.cap-(Int.toNat (IntKind.wrap .i64 (to-1))))]) E=.ok O w/\(∃u:aa,w.cell? (Addr.add aE 1)=some u)/\w.frozen? (Addr.add aE 1)=false/\al (w.setCell (Addr.add aE 1) O) λV=>al (V.drew) λF=>¬False/\∃x:Y,F.cell? (Addr.add aE 3)=some (.slice x.a x.len x.cap)/\¬False/\∃d:Y,F.cell? (Addr.add nb 3)=some (.slice d.a d.len d.cap)/\((0:Int)<=to/\to<=(d.len:Int))/\∃P:Y,∃y:J,Sem.run aj (Builtin.append_ #[58,58] 58 #[x,.slice (aP d.a 1 (Int.toNat to) d.cap) (d.len-(Int.toNat to)) (d.cap-(Int.toNat to))]) F=.ok P y/\(∃u:aa,y.cell? (Addr.add aE 3)=some u)/\y.frozen? (Addr.add aE 3)=false/\al (y.setCell (Addr.add aE 3) P) λg=>∃G:ai,g.cell? aE=some (.bool G)/\∃j:Y,g.cell? (Addr.add aE 1)=some (.slice j.a j.len j.cap)/\∃k:Y,g.cell? (Addr.add aE 2)=some (.slice k.a k.len k.cap)/\∃m:Y,g.cell? (Addr.add aE 3)=some (.slice m.a m.len m.cap)/\bx g e [G,j,k,m]/\(4:Nat)=4/\al (setCells g e 0 [G,j,k,m]) λn=>∃R:ai,n.cell? e=some (.bool R)/\∃z:Y,n.cell? (Addr.add e 1)=some (.slice z.a z.len z.cap)/\∃A:Y,n.cell? (Addr.add e 2)=some (.slice A.a A.len A.cap)/\∃B:Y,n.cell? (Addr.add e 3)=some (.slice B.a B.len B.cap)/\Q (.agg #[R,z,A,B]) n)
structure qg(B:Nat->Prop)(lo:Nat)(nb aE a:Nat)(n:aD)(K V D:Y)(c:O aa)(w:J)(b az:Y)(bT bN:Nat->Prop)(ks:O Key)(ds:O Nat):Prop where
 eo:Var w nb [n.leaf,K,V,D] 202
 r:Var w a c 202
 o:Var w aE [false,b,(),az] 202
 k:bu bT w b ks
 d:cR bN w az ds
 bo:∀q,bT q->(B q/\q<lo)\/(lo<=q/\q<w.heap.size/\q≠nb/\q≠aE/\q≠a/\¬bN q)
 aL:∀q,bN q->lo<=q/\q<w.heap.size/\q≠nb/\q≠aE/\q≠a
 mq:∀q,aB b q->lo<=q
theorem qg.ext{B:Nat->Prop}{lo nb aE b:Nat}{n:aD}{K V D:Y}{c:O aa}{w w':J}{e az:Y}{bT bN:Nat->Prop}{ks:O Key}{ds:O Nat}(h:qg B lo nb aE b n K V D c w e az bT bN ks ds)(hx:Ext w w'):qg B lo nb aE b n K V D c w' e az bT bN ks ds:=by
 have f:=hx.size;exact⟨h.eo.ext hx,h.r.ext hx,h.o.ext hx,bu.ext h.k hx,cR.ext h.d hx,λq a=>(h.bo q a).imp id λh=>⟨h.1,I,h.2.2⟩,λq a=>⟨(h.aL q a).1,by have:=(h.aL q a).2.1;omega,(h.aL q a).2.2⟩,h.mq⟩
theorem GX{B:Nat->Prop}{w b1:J}{nb aE x:Nat}{n:aD}{K V D s eu D0:Y}{ak:O aa}{bT bN:Nat->Prop}{ks:O Key}{kids:O Nat}{fr to:Nat}(be:qg B w.heap.size nb aE x n K V D ak b1 eu D0 bT bN (n.keys.take fr) (n.kids.take fr))(bf:Ext w b1)
 (bg:bF B w n K V D) (aP:ld B w s ks kids) (bi:ak.length=4) (h1:w.heap.size<=nb) (h2:w.heap.size<=aE) (G:w.heap.size<=x) (H:nb≠aE/\nb≠x/\aE≠x) (t1:1<=to) (t2:to<=n.kids.length) (t3:to-1<=n.keys.length) (bW:n.keys.length<=1000) (bC:n.kids.length<=1000):
 yk nb aE x s (to:Nat) b1 (vQ B n fr to ks kids w):=by
 obtain⟨bn,bp,b2,bj⟩:=aP.at;unfold yk;refine⟨λi w'=>∃ (j:Nat) (z az:Y) (bT bN:Nat->Prop),i=j/\j<=kids.length/\Ext w w'/\qg B w.heap.size nb aE x n K V D ak w' z az bT bN (n.keys.take fr++ks.take (j-1)) (n.kids.take fr++kids.take j),λi _=>((kids.length:Int)-i).toNat,⟨0,eu,D0,bT,bN,rfl,cL _,bf,by simpa using be⟩,?_⟩;rintro _ u ⟨j,z,az,bT,bN,rfl,b3,y,h⟩;have b4:=y.size;refine⟨λaK=>?_,λav=>?_⟩
 .have aK:j<kids.length:=by
   have:(j:Int)<(s.len:Int):=b8 aK;omega
  obtain⟨A,t,ar,aC,aU,aA⟩:=(aP.ext y).at.2.2.2 j aK;refine⟨A,ar,⟨I,I⟩,t,by rw[dd];exact aC,_,by rw[dd];exact aU,?_⟩;have aA:(t.a=none/\ks.take j=ks.take (j-1))\/(t.a.isSome=true/\∃k,a_ (λq=>B q/\q<w.heap.size) u t k/\ks.take j=ks.take (j-1)++ [k]):=by
   obtain⟨b5,aQ,aR,bk,_,bm⟩:=bj j aK;rw[ar]at aR;cases aR;have e:=ad.cell y (λh=>h) bk;rw[aC]at e;injection e with e
   obtain rfl:t=aQ:=by
    cases t;cases aQ;simp at e;simp[e]
   rcases bm with h|⟨h1,k,h2,G⟩
   .exact .inl h
   .exact .inr ⟨h1,k,a_.ext (a_.aY h2 λq c f=>⟨f,c⟩) y,G⟩
  refine bh (vs:=[(),(0:Int)]) rfl λb6 aS br b7=>?_;refine⟨aS.b9 rfl ?_,rfl,cr aS (us:=[t,.int .i64 ((kids[j]:Nat):Int)]) rfl rfl λaF S bs b_=>?_⟩
  .intro v aT
   simp only[cU,eL,eO]at aT;rcases aT with rfl|rfl<;>trivial
  have al:Ext u aF:=Ext.cn br bs (bl _);have m:=h.ext al;have ca:=al.size;have aV:=y.trans al;obtain⟨fj,bt⟩:∃fj,fj=u.heap.size:=⟨_,rfl⟩;rw[←bt]at S⊢;have cb:=S.lt;refine iE (λT=>∃ (cI:Y) (am:Nat->Prop),qg B w.heap.size nb aE x n K V D ak T cI az am bN (n.keys.take fr++ks.take j) (n.kids.take fr++kids.take j)/\Ext w T/\Var T fj [t,.int .i64 ((kids[j]:Nat):Int)] 334/\aF.heap.size<=T.heap.size) (λq c=>⟨t,S.cell,λf=>?_,λf=>?_⟩) ?_
  .rcases aA with ⟨an,_⟩|⟨_,k,ht,ac⟩
   .rw[an]at f;cases f
   obtain⟨ae,L,af,M⟩:=bH (V:=⟨none,0,0⟩) m.o;have ao:∀q,aB z q->bT q:=λq c=>by
    obtain⟨ts,_,_,G,_⟩:=m.k;exact(G q c).1
   refine⟨z,L,t,S.cell,GW (B:=λq=>bT q\/(B q/\q<w.heap.size)) m.o (o:=1) (by simp) (bu.aY m.k λq _ f=>.inl f) (λf=>?_) (a_.aY (a_.ext ht al) λq _ f=>.inr f) (λq c aG=>?_) ?_ λw' ax au ay p bv=>c _ ⟨ax,Grow (λq=>bT q\/(B q/\q<w.heap.size)) aF w',?_,?_,?_,p.size⟩⟩
   .rcases f with f|f
    .rcases m.bo _ f with g|g
     .omega
     .exact g.2.2.2.1 rfl
    .omega
   .have:=(ht.2.2 q c).1.2
    have:=m.mq q aG;omega
   .rw[cz,cG,cG];omega
   .have bw:=p.size
    have C:∀q,aB z q->q<u.heap.size/\q≠nb/\q≠aE/\q≠x/\¬bN q:=λq c=>by
     have bx:=h.mq q c;rcases h.bo q (ao q c) with g|g
     .omega
     .exact g.2
    refine⟨m.eo.ab p λc=>?_,m.r.ab p λc=>?_,au,?_,cR.ab m.d p λq f c=>?_,λq f=>?_,λq f=>⟨(m.aL q f).1,by have:=(m.aL q f).2.1;omega,(m.aL q f).2.2⟩,λq c=>?_⟩
    .rcases c with e|c
     .exact H.1 e
     .exact(C _ c).2.1 rfl
    .rcases c with e|c
     .exact H.2.2 e.symm
     .exact(C _ c).2.2.2.1 rfl
    .rw[ac,←cP];exact ay
    .rcases c with e|c
     .exact(m.aL q f).2.2.2.1 e
     .exact(C q c).2.2.2.2 f
    .rcases f with (f|f)|f
     .exact(m.bo q f).imp id λg=>⟨g.1,I,g.2.2⟩
     .exact .inl f
     .refine .inr ⟨I,f.2,λe=>?_,λe=>?_,λe=>?_,λhd=>?_⟩
      .have:=m.eo.lt;omega
      .have:=m.o.lt;omega
      .have:=m.r.lt;omega
      .have:=(m.aL q hd).2.1;omega
    .rcases bv q c with g|g
     .exact h.mq q g
     .omega
   .exact Ext.dy aV p λq c=>by
     rcases c with rfl|c
     .exact h2
     .exact m.mq q c
   .refine S.ab p λc=>?_
    rcases c with e|c
    .have:=h.o.lt;omega
    .rcases h.bo _ (ao _ c) with g|g<;>omega
  .rcases aA with ⟨_,ac⟩|⟨an,_⟩
   .refine c _ ⟨z,bT,?_,aV,S,bl _⟩
    rw[ac];exact m
   .cases aX:t.a with
    |none=>rw[aX]at an;cases an
    |some A=>rw[aX]at f;cases f
  rintro T ⟨cI,am,l,aZ,a0,cc⟩;have cd:=a0.lt;obtain⟨ae,L,af,M⟩:=bH (V:=⟨none,0,0⟩) l.o;have E:∀q,aB az q->bN q:=λq c=>(l.d.2 q c).1;have bz:∀q,am q->¬(q=aE\/aB az q):=λq f c=>by
   rcases l.bo q f with g|g
   .rcases c with e|c
    .omega
    .have:=(l.aL q (E q c)).1;omega
   .rcases c with e|c
    .exact g.2.2.2.1 e
    .exact g.2.2.2.2.2 (E q c)
  have a1:IntKind.wrap .i64 ((j:Int)+1)=((j+1:Nat):Int):=by rw[bA I I];rfl
  refine⟨az,M,_,by rw[aw];exact a0.cell,(Bb (W:=λ_=>True) kids[j] l.o (o:=3) (by simp) l.d (λf=>(l.aL _ f).2.2.2.1 rfl) (by rw[cz,cG,cG];omega) λw' ax au ay p=>⟨⟨j+1,cI,ax,am,Grow bN T w',a1,I,?_,?_⟩,?_⟩).2⟩
  .exact Ext.dy aZ p λq c=>by
    rcases c with rfl|c
    .exact h2
    .exact(l.aL q (E q c)).1
  .have bw:=p.size
   refine⟨l.eo.ab p λc=>?_,l.r.ab p λc=>?_,au,?_,?_,λq f=>?_,λq f=>?_,l.mq⟩
   .rcases c with e|c
    .exact H.1 e
    .exact(l.aL _ (E _ c)).2.2.1 rfl
   .rcases c with e|c
    .exact H.2.2 e.symm
    .exact(l.aL _ (E _ c)).2.2.2.2 rfl
   .exact bu.ab l.k p bz
   .rw[iU aK,←cP];exact ay
   .refine(l.bo q f).imp id λg=>⟨g.1,I,g.2.2.1,g.2.2.2.1,g.2.2.2.2.1,λhd=>?_⟩
    rcases hd with hd|hd
    .exact g.2.2.2.2.2 hd
    .omega
   .rcases f with f|f
    .exact⟨(l.aL q f).1,by have:=(l.aL q f).2.1;omega,(l.aL q f).2.2⟩
    .refine⟨by have:=aZ.size;omega,f.2,λe=>?_,λe=>?_,λe=>?_⟩
     .have:=l.eo.lt;omega
     .have:=l.o.lt;omega
     .have:=l.r.lt;omega
  .rw[a1]
   show((kids.length:Int)-((j+1:Nat):Int)).toNat<((kids.length:Int)-(j:Int)).toNat;omega
 .have av:j=kids.length:=by
   have:¬(j:Int)<(s.len:Int):=cv av;omega
  subst av;have a2:Ext u u.drew:=cf _;have h:=h.ext a2;have y:=y.trans a2;have ac:ks.take (kids.length-1)=ks:=dV I;rw[ac,iV]at h;obtain⟨ae,L,af,M⟩:=bH (V:=⟨none,0,0⟩) h.o;obtain⟨iQ,fN,dG,a3⟩:=bH h.eo;have a4:bF (λq=>B q/\q<w.heap.size) w n K V D:=bg.aY λq c f=>⟨f,c⟩;have aH:=a4.ext y;have a5:=bq.len aH.keys;have a6:=cK.len aH.kids;have a7:IntKind.wrap .i64 ((to:Int)-1)=((to-1:Nat):Int):=by rw[bA I I];omega
  have ao:∀q,aB z q->bT q:=λq c=>by
   obtain⟨ts,_,_,G,_⟩:=h.k;exact(G q c).1
  have E:∀q,aB az q->bN q:=λq c=>(h.d.2 q c).1;have a8:=bq.sub aH.keys (lo:=to-1) (hi:=n.keys.length) t3 (bl _);have bB:(n.keys.drop (to-1)).take (n.keys.length-(to-1))=n.keys.drop (to-1):=dV (by rw[da];exact bl _);rw[bB]at a8;obtain⟨N,ag,bD,bE,U⟩:=xV h.k a8 (λq c aG=>by have:=h.mq q aG;omega) (by rw[cz,cG];omega) (by rw[da];omega);have ce:u.drew.heap.size=u.heap.size:=rfl;have C:∀q,aB z q->q<u.drew.heap.size/\q≠nb/\q≠aE/\q≠x/\¬bN q:=λq c=>by
   have bx:=h.mq q c;rcases h.bo q (ao q c) with g|g
   .omega
   .exact g.2
  have cg:=U.size;have bJ:Ext w ag:=Ext.dy y U λq c=>h.mq q c;have a9:=h.o.ab U λc=>(C _ c).2.2.1 rfl;have bK:=h.eo.ab U λc=>(C _ c).2.1 rfl;have bL:=h.r.ab U λc=>(C _ c).2.2.2.1 rfl;have bM:cR bN ag az _:=cR.ab h.d U λq f c=>(C q c).2.2.2.2 f;obtain⟨bG,bI⟩:=dI a9 (i:=1) (by simp);refine aW ⟨id,z,L,id,K,fN,?_,N,ag,?_,by rw[aw];exact bG,by rw[aw];exact bI,?_⟩
  .rw[a7,a5];omega
  .rw[a7,dd,a5];exact bD
  rw[aw,cy];have P:=dk ag aE 1 N;have ai:=dN a9 (i:=1) N;obtain⟨F,bO⟩:∃F,F=ag.setCell ⟨aE,1,none⟩ N:=⟨_,rfl⟩;rw[←bO]at P ai⊢;have ch:=P.size;have aI:=bK.ab P (λe=>H.1 e);have aJ:=bL.ab P (λe=>H.2.2 e.symm);have aM:cR bN F az _:=cR.ab bM P λq f e=>(h.aL q f).2.2.2.1 e;have aj:Ext w F:=Ext.cn bJ P h2;have X:Ext F F.drew:=cf _;have ba:∀q,(bT q\/(B q/\q<w.heap.size)\/u.drew.heap.size<=q)->q≠aE:=λq c e=>by
   subst e;rcases c with c|c|c
   .rcases h.bo _ c with g|g
    .omega
    .exact g.2.2.2.1 rfl
   .omega
   .have:=h.o.lt;omega
  have bP:=bq.ext (bq.ab bE P ba) X;have ai:=ai.ext X;have aI:=aI.ext X;have aJ:=aJ.ext X;have aM:=cR.ext aM X;have aj:=aj.trans X;obtain⟨ae,L,af,M⟩:=bH (V:=⟨none,0,0⟩) ai;obtain⟨iQ,fN,dG,a3⟩:=bH aI;have bb:=cK.sub (a4.ext aj).kids (lo:=to) (hi:=n.kids.length) t2 (bl _);have bQ:(n.kids.drop to).take (n.kids.length-to)=n.kids.drop to:=dV (by rw[da];exact bl _);rw[bQ]at bb;obtain⟨R,ap,f1,f2,f3⟩:=Bk aM bb (by rw[cz,cG];omega) (by rw[da];omega);have ci:F.drew.heap.size=F.heap.size:=rfl;have cj:=f3.size;have aq:∀q,aB az q->w.heap.size<=q/\q<u.drew.heap.size/\q≠nb/\q≠aE/\q≠x:=λq c=>h.aL q (E q c);have bR:Ext w ap:=Ext.dy aj f3 λq c=>(aq q c).1;have bc:=ai.ab f3 λc=>(aq _ c).2.2.2.1 rfl;have bS:=aJ.ab f3 λc=>(aq _ c).2.2.2.2 rfl;have bU:=bq.ab bP f3 λq f c=>by
   have ck:=aq q c;rcases f with f|f|f
   .rcases h.bo q f with g|g
    .omega
    .exact g.2.2.2.2.2 (E q c)
   .omega
   .omega
  obtain⟨bG,bI⟩:=dI bc (i:=3) (by simp);refine aW (aW ⟨id,az,M,id,D,a3,?_,R,ap,?_,by rw[aw];exact bG,by rw[aw];exact bI,?_⟩)
  .rw[a6];omega
  .rw[dd,a6];exact f1
  rw[aw,cy];have Z:=dk ap aE 3 R;have bd:=dN bc (i:=3) R;obtain⟨aN,bV⟩:∃aN,aN=ap.setCell ⟨aE,3,none⟩ R:=⟨_,rfl⟩;rw[←bV]at Z bd⊢;have cl:=Z.size;have bX:=bS.ab Z (λe=>H.2.2 e.symm);have bY:Ext w aN:=Ext.cn bR Z h2;have bZ:=bq.ab bU Z ba;have b0:=cK.ab f2 Z λq f e=>by
   subst e;rcases f with f|f|f
   .exact(h.aL _ f).2.2.2.1 rfl
   .omega
   .have:=h.o.lt;omega
  obtain⟨ae,L,af,M⟩:=bH (V:=⟨none,0,0⟩) bd;refine aW ⟨_,ae,N,L,⟨none,0,0⟩,af,R,M,?_⟩;refine je false N ⟨none,0,0⟩ R bX bi (Q:=λb K V D ah=>vQ B n fr to ks kids w (.agg #[b,K,V,D]) ah) λcm aO=>?_;refine⟨N,⟨none,0,0⟩,R,rfl,⟨?_,?_,?_⟩,Ext.cn bY aO G⟩
  .refine bq.aY (bq.ab bZ aO λq f e=>?_) λq _ f=>?_
   .subst e
    rcases f with f|f|f
    .rcases h.bo _ f with g|g
     .omega
     .exact g.2.2.2.2.1 rfl
    .omega
    .have:=h.r.lt;omega
   .rcases f with f|f|f
    .rcases h.bo _ f with g|g
     .exact .inl g.1
     .exact .inr g.1
    .exact .inl f.1
    .have:=y.size;exact .inr I
  .exact bq.none _ _
  .refine cK.aY (cK.ab b0 aO λq f e=>?_) λq _ f=>?_
   .subst e
    rcases f with f|f|f
    .exact(h.aL _ f).2.2.2.2 rfl
    .omega
    .have:=h.r.lt;omega
   .rcases f with f|f|f
    .exact .inr (h.aL _ f).1
    .exact .inl f.1
    .have:=aj.size;exact .inr I
theorem yl(K D:Y)(w:J):Sem.run aj (Instr.build 202 #[(1,K),(3,D)]) w=.ok (.agg #[false,K,(),D]) w:=by kernel_rfl
theorem pQ{B:Nat->Prop}{w:J}{n:aD}{K V D s:Y}{ks:O Key}{kids:O Nat}{fr to:Nat}(P:bF B w n K V D)(am:ld B w s ks kids)(f1:fr<=n.keys.length)(f2:fr<=n.kids.length)(t1:1<=to)(t2:to<=n.kids.length)(t3:to-1<=n.keys.length)(bW:n.keys.length<=1000)(bC:n.kids.length<=1000):
 aR aj 250 #[c2 n K V D,fr,to,s] w (vQ B n fr to ks kids w):=by
 refine okF (af.pQ n.leaf K V D (fr:Nat) (to:Nat) s) aA.pQ func250 ?_;(delta af.pQ cj U ag ba eP i_ ak aL r1 z5 tj st av bc tn;dsimp only);refine bh (vs:=[n.leaf,K,V,D]) rfl λw1 an ao aF=>?_;refine bh (vs:=[false,(),(),()]) rfl λah ap Q aG=>aW ?_;have E:Ext ah ah.drew:=cf _;have H:=(ao.trans Q).trans E;obtain⟨d,R⟩:∃d,d=ah.drew:=⟨_,rfl⟩;have aH:d.heap.size=ah.heap.size:=by rw[R];rfl
 rw[←R]at H E⊢;have S:=(an.ext Q).ext E;have aq:=ap.ext E;obtain⟨bX,aC,aU,aO⟩:=bH S;have t:bF (λq=>B q/\q<w.heap.size) d n K V D:=(P.aY λq a c=>⟨c,a⟩).ext H;have aI:=bq.len t.keys;have aJ:=cK.len t.kids;have aM:=bq.le t.keys;have aN:=t.kids.2.1;have L:=bq.sub t.keys (lo:=0) (hi:=fr) (cL _) f1;have F:=cK.sub t.kids (lo:=0) (hi:=fr) (cL _) f2;rw[lv,oP]at L F;have T:Int.toNat (fr:Int)-0=fr:=by rw[dd];rfl
 have fin:∀ (b1:J) (aE:Nat) (eu D0:Y),Ext d b1->Var b1 aE [false,eu,(),D0] 202->d.heap.size<=aE->bu (λq=>(B q/\q<w.heap.size)\/(d.heap.size<=q/\aB eu q)) b1 eu (n.keys.take fr)->bd 1 3 b1 D0 (ee (n.kids.take fr))->
  (∀q,aB eu q->d.heap.size<=q/\q≠aE)->(∀q,aB D0 q->d.heap.size<=q/\q≠aE/\¬aB eu q)->yk w.heap.size aE w1.heap.size s (to:Nat) b1 (vQ B n fr to ks kids w):=by
  intro b1 aE eu D0 hx ar aP W M X Z;have aQ:=hx.size;have aK:∀q,aB eu q->q<b1.heap.size:=λq a=>by
   obtain⟨ts,_,o,_,_⟩:=W;exact o.lt q a
  refine GX (bT:=λq=>(B q/\q<w.heap.size)\/aB eu q) (bN:=λq=>aB D0 q) ⟨S.ext hx,aq.ext hx,ar,bu.aY W λq _ c=>c.imp id λh=>h.2,⟨M,λq a=>⟨a,bd.lt M q a⟩⟩,λq c=>?_,λq c=>?_,λq a=>by have:=(X q a).1;omega⟩ (H.trans hx) P am rfl (bl _) I I ⟨I,I,I⟩ t1 t2 t3 bW bC
  .rcases c with c|c
   .exact .inl c
   .have x:=X q c
    exact .inr ⟨I,aK q c,I,x.2,I,λau=>(Z q au).2.2 c⟩
  .have x:=Z q c
   exact⟨I,bd.lt M q c,I,x.2.1,I⟩
 refine⟨λ_=>False,id,K,aC,⟨I,I⟩,id,D,aO,⟨I,I⟩,?_,?_⟩
 .rw[T]
  refine(B6 L (by rw[cG];omega)).use ?_;rintro _ u ⟨eu,rfl,p,f,y⟩;have aw:=f.size;refine⟨eu,rfl,f,?_,?_⟩
  .refine(rK (F.1.ext f) (by rw[cG];omega)).use ?_
   rintro _ aa ⟨D0,rfl,v,G,ac⟩;have aS:=G.size;refine⟨D0,rfl,G,_,yl eu D0,bh (vs:=[false,(),(),()]) rfl λaT ad ae aV=>⟨ae,ad.b9 rfl (fK (b:=false) (K:=eu) (V:=⟨none,0,0⟩) (D:=D0)),rfl,cr ad (us:=[false,eu,(),D0]) rfl rfl λg z j ai=>?_⟩⟩;have k:Ext aa g:=Ext.cn ae j (bl _);have r:∀q,aB eu q->q<u.heap.size:=λq a=>by
    obtain⟨ts,_,o,_,_⟩:=p;exact o.lt q a
   exact fin g aa.heap.size eu D0 (f.trans (G.trans k)) z I (bu.aY (bu.ext p (G.trans k)) λq _ c=>c.imp (λh=>h.1) id) (v.ext k) (λq a=>⟨y q a,by have:=r q a;omega⟩) λq a=>⟨by have:=ac q a;omega,by have:=bd.lt v q a;omega,λh=>by have:=r q h;have:=ac q a;omega⟩
  .refine bh (vs:=[false,(),(),()]) rfl λal N l ax=>⟨l,(rK ((F.1.ext f).ext l) (by rw[cG];omega)).use ?_⟩
   rintro _ ay ⟨D0,rfl,v,m,i⟩;have A:=N.ext m;refine⟨D0,rfl,m,_,yl eu D0,A.b9 rfl (fK (b:=false) (K:=eu) (V:=⟨none,0,0⟩) (D:=D0)),rfl,cr A (us:=[false,eu,(),D0]) rfl rfl λg z j ai=>?_⟩;have k:Ext u g:=Ext.cn (l.trans m) j (bl _);have r:∀q,aB eu q->q<u.heap.size:=λq a=>by
    obtain⟨ts,_,o,_,_⟩:=p;exact o.lt q a
   exact fin g u.heap.size eu D0 (f.trans k) z I (bu.aY (bu.ext p k) λq _ c=>c.imp (λh=>h.1) id) (v.ab j λq a e=>by have:=i q a;omega) (λq a=>⟨y q a,by have:=r q a;omega⟩) λq a=>⟨by have:=i q a;omega,by have:=i q a;omega,λh=>by have:=r q h;have:=i q a;omega⟩
 .rw[T]
  refine bh (vs:=[false,(),(),()]) rfl λal N l ax=>⟨l,(B6 (bq.ext L l) (by rw[cG];omega)).use ?_⟩;rintro _ u ⟨eu,rfl,p,f,y⟩;have aw:=f.size;refine⟨eu,rfl,f,(rK ((F.1.ext l).ext f) (by rw[cG];omega)).use ?_⟩;rintro _ ay ⟨D0,rfl,v,m,i⟩;have A:=(N.ext f).ext m;refine⟨D0,rfl,m,_,yl eu D0,A.b9 rfl (fK (b:=false) (K:=eu) (V:=⟨none,0,0⟩) (D:=D0)),rfl,cr A (us:=[false,eu,(),D0]) rfl rfl λg z j ai=>?_⟩;have k:Ext d g:=Ext.cn ((l.trans f).trans m) j (bl _);have r:∀q,aB eu q->q<u.heap.size:=λq a=>by
   obtain⟨ts,_,o,_,_⟩:=p;exact o.lt q a
  have az:bu (λq=>(B q/\q<w.heap.size)\/(d.heap.size<=q/\aB eu q)) g eu (n.keys.take fr):=by
   have x:=bu.aY (C:=λq=>(B q/\q<w.heap.size)\/(al.heap.size<=q/\aB eu q)) (bu.ext p m) λq _ c=>c.imp (λh=>h.1) id;exact bu.aY (bu.ab x j λq c e=>by rcases c with c|c<;>omega) λq _ c=>c.imp id λh=>⟨I,h.2⟩
  exact fin g d.heap.size eu D0 k z (bl _) az (v.ab j λq a e=>by have:=i q a;omega) (λq a=>⟨by have:=y q a;omega,by have:=y q a;omega⟩) λq a=>⟨by have:=i q a;omega,by have:=i q a;omega,λh=>by have:=r q h;have:=i q a;omega⟩
def lN(n:aD):Prop:=cH n/\bM n<=400/\(232<bM n->1<=cm n/\(if n.leaf then cm n<=n.keys.length-1/\1<=n.keys.length-1 else cm n<=n.keys.length-2/\1<=n.keys.length-2)/\bM (n.left (cm n))<=232/\bM (n.right (cm n))<=232)
structure lO(B:Nat->Prop)(w:J)(A:ae)(u:dD):Prop where
 aC:w.cell? (A.add 1)=some (.bool u.n.leaf)
 aU:w.cell? ((A.add 1).add 1)=some (.slice u.K.a u.K.len u.K.cap)
 aO:w.cell? ((A.add 1).add 2)=some (.slice u.V.a u.V.len u.V.cap)
 dg:w.cell? ((A.add 1).add 3)=some (.slice u.D.a u.D.len u.D.cap)
 ba:w.cell? (A.add 5)=some (.int .i64 (u.cY:Nat))
 bj:bF B w u.n u.K u.V u.D
 bS:B A.block
 lt:A.block<w.heap.size
theorem lO.ext{B:Nat->Prop}{w w':J}{A:ae}{u:dD}(h:lO B w A u)(hx:Ext w w'):lO B w' A u:=
 ⟨ad.cell hx (λh=>h) h.aC,ad.cell hx (λh=>h) h.aU,ad.cell hx (λh=>h) h.aO,ad.cell hx (λh=>h) h.dg,ad.cell hx (λh=>h) h.ba,h.bj.ext hx,h.bS,fU h.lt hx.size⟩
theorem lO.to{w w':J}{T ao:aN}{k:Nat}{A:ae}{u:dD}(h:lO (λq=>¬T.M q) w A u)(ht:bQ T ao w w' k):lO (λq=>¬ao.M q) w' A u:=by
 have hc:=ht.ab;have a:¬T.N A.block:=λc=>h.bS (aN.gl c);refine⟨ad.cell hc (A:=A.add 1) a h.aC,ad.cell hc (A:=(A.add 1).add 1) a h.aU,ad.cell hc (A:=(A.add 1).add 2) a h.aO,ad.cell hc (A:=(A.add 1).add 3) a h.dg,ad.cell hc (A:=A.add 5) a h.ba,?_,λd=>?_,fU h.lt hc.size⟩
 .have h1:=ht.bj (lo:=0) (h.bj.aY λq _ b=>⟨cL _,b⟩)
  exact h1.aY λq _ b=>b.2
 .rcases ht.c7 _ d with h1|h1
  .exact h.bS h1
  .have:=h.lt;omega
theorem h4.base{T:aN}{c:dJ}{n:aD}{w0 w w':J}{v:aa}(h:h4 T c n w v w')(hx:Ext w0 w):h4 T c n w0 v w':=by
 obtain⟨ao,c',m,s,au,ay,a,b⟩:=h;exact⟨ao,c',m,s,au,((dv.ext T c hx).trans ay).mono I,a,b⟩
theorem h4.out{T:aN}{c:dJ}{n:aD}{w w':J}{v:aa}(h:h4 T c n w v w'):∃ (s:Y) (e:Int),v=.tuple #[s,e]:=by
 obtain⟨ao,c',m,s,au,ay,b,a⟩:=h;rcases a with ⟨ks,rfl,_⟩|⟨rfl,_⟩
 .exact⟨s,0,rfl⟩
 .exact⟨s,3,rfl⟩
def ym(nb aE g bv:Nat)(c up:aq ae)(n31 n36:Int)(b1:J)(Q:aa->J->Prop):Prop:=
 bE (λaf:J->Prop=>∃ag:ae,up=some ag/\∃D:Int,b1.cell? (ag.add 5)=some (.int .i64 D)/\((decide ((n36:Int)>D))=true->al (b1.drew) λd=>∃E:Nat->Prop,¬E (nb:ae).block/\∃F:ai,d.cell? nb=some (.bool F)/\∃j:Y,d.cell? (Addr.add nb 1)=some (.slice j.a j.len j.cap)/\∃k:Y,d.cell? (Addr.add nb 2)=some (.slice k.a k.len k.cap)/\∃l:Y,d.cell? (Addr.add nb 3)=some (.slice l.a l.len l.cap)/\¬E (aE:ae).block/\∃G:ai,d.cell? aE=some (.bool G)/\∃m:Y,d.cell? (Addr.add aE 1)=some (.slice m.a m.len m.cap)/\∃n:Y,d.cell? (Addr.add aE 2)=some (.slice n.a n.len n.cap)/\∃o:Y,d.cell? (Addr.add aE 3)=some (.slice o.a o.len o.cap)/\bx d g [F,j,k,l]/\(4:Nat)=4/\al (setCells d g 0 [F,j,k,l]) λH=>ad E d H/\bx H bv [G,m,n,o]/\(4:Nat)=4/\al (setCells H bv 0 [G,m,n,o]) λar=>af ar)/\((decide ((n36:Int)>D))=false->af b1)) (λ(au:J)=>al (au.drew) λb=>∃f:Nat->Prop,¬f (g:ae).block/\∃I:ai,b.cell? g=some (.bool I)/\∃p:Y,b.cell? (Addr.add g 1)=some (.slice p.a p.len p.cap)/\∃q:Y,b.cell? (Addr.add g 2)=some (.slice q.a q.len q.cap)/\∃r:Y,b.cell? (Addr.add g 3)=some (.slice r.a r.len r.cap)/\∃K:ae,up=some K/\¬f ((K.add 1).add 1).block/\∃s:Y,b.cell? ((K.add 1).add 1)=some (.slice s.a s.len s.cap)/\∃L:ae,s.a=some L/\((0:Int)<=n31/\n31<(s.len:Int))/\¬f (L.add (Int.toNat n31*1)).block/\∃t:Y,b.cell? (L.add (Int.toNat n31*1))=some (.slice t.a t.len t.cap)/\¬f (bv:ae).block/\∃M:ai,b.cell? bv=some (.bool M)/\∃u:Y,b.cell? (Addr.add bv 1)=some (.slice u.a u.len u.cap)/\∃v:Y,b.cell? (Addr.add bv 2)=some (.slice v.a v.len v.cap)/\∃w:Y,b.cell? (Addr.add bv 3)=some (.slice w.a w.len w.cap)/\(Calls aj 282 #[.agg #[I,p,q,r],t,.agg #[M,u,v,w]] b λav e=>∃N:ai,∃O:Y,∃P:Y,∃R:Y,∃S:ai,av=.returned (.tuple #[.agg #[N,O,P,R],S])/\ad f b e/\al (e.alloc (.cells #[false,(),(),()] 202)) λT=>ad f e T/\bx T e.heap.size [N,O,P,R]/\(4:Nat)=4/\al (setCells T e.heap.size 0 [N,O,P,R]) λh=>((!S)=true->Q (.tuple #[(),(0:Int),(0:Int),(4:Int)]) h)/\((!S)=false->∃ah:ai,h.cell? e.heap.size=some (.bool ah)/\∃x:Y,h.cell? (Addr.add e.heap.size 1)=some (.slice x.a x.len x.cap)/\∃y:Y,h.cell? (Addr.add e.heap.size 2)=some (.slice y.a y.len y.cap)/\∃z:Y,h.cell? (Addr.add e.heap.size 3)=some (.slice z.a z.len z.cap)/\Calls aj 281 #[.pointer c,.agg #[ah,x,y,z]] h λaw ax=>∃ak:Y,∃am:Int,aw=.returned (.tuple #[ak,am])/\Q (.tuple #[ak,n31,.int .i64 (IntKind.wrap .i64 (n31+2)),am]) ax))/\(al (b.alloc (.cells #[false,(),(),()] 202)) λU=>ad f b U/\Calls aj 282 #[.agg #[I,p,q,r],t,.agg #[M,u,v,w]] U λay V=>∃W:ai,∃X:Y,∃Z:Y,∃ab:Y,∃ac:ai,ay=.returned (.tuple #[.agg #[W,X,Z,ab],ac])/\ad f U V/\bx V b.heap.size [W,X,Z,ab]/\(4:Nat)=4/\al (setCells V b.heap.size 0 [W,X,Z,ab]) λi=>((!ac)=true->Q (.tuple #[(),(0:Int),(0:Int),(4:Int)]) i)/\((!ac)=false->∃an:ai,i.cell? b.heap.size=some (.bool an)/\∃A:Y,i.cell? (Addr.add b.heap.size 1)=some (.slice A.a A.len A.cap)/\∃B:Y,i.cell? (Addr.add b.heap.size 2)=some (.slice B.a B.len B.cap)/\∃C:Y,i.cell? (Addr.add b.heap.size 3)=some (.slice C.a C.len C.cap)/\Calls aj 281 #[.pointer c,.agg #[an,A,B,C]] i λaz aA=>∃ao:Y,∃ap:Int,az=.returned (.tuple #[ao,ap])/\Q (.tuple #[ao,n31,.int .i64 (IntKind.wrap .i64 (n31+2)),ap]) aA)))
theorem GY{W X:Nat->Prop}{w0 b1:J}{T:aN}{c:dJ}{nb aE g bv:Nat}{A:ae}{u:dD}{n o:aD}{K V D i j k:Y}{fr other:Nat}{Q:aa->J->Prop}(h:du w0 T c)(hx:Ext w0 b1)(am:Var w0 nb (dZ n K V D) 202)(an:Var w0 aE (dZ o i j k) 202)
 (ao:Var b1 g (dZ o i j k) 202) (ap:Var b1 bv (dZ n K V D) 202) (h1:w0.heap.size<=g) (h2:w0.heap.size<=bv) (aq:g≠bv) (ar:bF W w0 n K V D) (au:bF X w0 o i j k) (hu:lO (λq=>¬T.M q) w0 A u)
 (av:T.C.D.aQ<=900000090) (aw:2<=cl T) (ax:c.made.length<=900) (fO:cH n) (Z:cH o) (bs:bM n<=400) (bt:bM o<=400) (ay:o.leaf=n.leaf) (aV:fr<u.n.keys.length) (az:cw u.n.keys[fr]) (m:aD) (aA:m=if u.cY<other then ed n u.n.keys[fr] o else ed o u.n.keys[fr] n) (l:lN m) (bu:fr<=1000)
 (aB:∀ (s:Y) (e:Int) (w':J),h4 T c m w0 (.tuple #[s,e]) w'->Q (.tuple #[s,fr,.int .i64 ((fr+2:Nat):Int),e]) w'):
 ym nb aE g bv (some c.cb) (some A) (fr:Nat) (other:Nat) b1 Q:=by
 have bw:=am.lt;have bx:=an.lt;have bz:=hx.size;have fn:=fO.eB I;have bB:=Z.eB I;unfold ym;refine iE (λp=>∃ (a b:aD) (G H L N O P:Y) (aC aF:Nat->Prop),Ext w0 p/\Var p g (dZ a G H L) 202/\Var p bv (dZ b N O P) 202/\bF aC w0 a G H L/\bF aF w0 b N O P/\m=ed a u.n.keys[fr] b/\cH a/\cH b/\a.leaf=b.leaf/\a.keys.length<=200/\b.keys.length<=200)
  (λq r=>⟨A,rfl,_,(hu.ext hx).ba,λd=>?_,λd=>r _ ⟨o,n,i,j,k,K,V,D,X,W,hx,ao,ap,au,ar,?_,Z,fO,ay,I,I⟩⟩) ?_
 .have d:u.cY<other:=by
   have:(other:Int)>(u.cY:Int):=b8 d;omega
  have f:=hx.trans (cf b1);obtain⟨aX,bW,bC,aY⟩:=bH (am.ext f);obtain⟨aZ,a4,a5,a6⟩:=bH (an.ext f);have aG:=ao.drew;have a7:=ap.drew;refine aW ⟨λq=>q=g,(show nb≠g from I),_,aX,K,bW,V,bC,D,aY,(show aE≠g from I),_,aZ,i,a4,j,a5,k,a6,aG.b9 rfl fK,rfl,cr aG (us:=dZ n K V D) rfl rfl λbD a8 ac bE=>?_⟩;have aH:=a7.ab ac (λe=>aq e.symm);refine⟨ac,aH.b9 rfl fK,rfl,cr aH (us:=dZ o i j k) rfl rfl λbG a9 aI bI=>?_⟩;exact r _ ⟨n,o,K,V,D,i,j,k,W,X,Ext.cn (Ext.cn f ac h1) aI h2,a8.ab aI aq,a9,ar,au,by rw[aA,if_pos d],fO,Z,ay.symm,I,I⟩
 .have d:¬u.cY<other:=by
   have:¬(other:Int)>(u.cY:Int):=cv d;omega
  rw[aA,if_neg d]
 rintro p ⟨a,b,G,H,L,N,O,P,aC,aF,a_,bb,d,aJ,aK,ad,sa,sb,aL,bJ,lb⟩;have f:=a_.trans (cf p);have bc:=bb.drew;have bd:=d.drew;obtain⟨a0,a1,a2,a3⟩:=bH bc;obtain⟨be,b_,bO,bf⟩:=bH bd;have aM:=hu.ext f;obtain⟨bg,tk,bi,bk,bm,R,bK⟩:=bq.at aM.bj.keys aV;have aO:cH (ed a u.n.keys[fr] b):=by rw[←ad];exact l.1
 have B:=n_ (aJ.ext f) (aK.ext f) R.1 (λq r=>(R.2.2 q r).2) (by have:=az.2;omega) sa sb aL aO I I;rw[←ad]at B;have aP:IntKind.wrap .i64 ((fr:Int)+2)=((fr+2:Nat):Int):=by rw[bA I I];rfl
 obtain⟨wd,bL⟩:∃wd,wd=p.drew:=⟨_,rfl⟩;refine aW ⟨λ_=>False,id,_,a0,G,a1,H,a2,L,a3,A,rfl,id,u.K,aM.aU,bg,bi,bk,id,tk,bm,id,_,be,N,b_,O,bO,P,bf,?_,?_⟩
 .refine B.use ?_
  rintro _ bn ⟨t,w,x,rfl,af,y⟩;refine⟨_,t,w,x,true,rfl,y,bh (vs:=[false,(),(),()]) rfl λbN aR aS bP=>⟨aS,aR.b9 rfl fK,rfl,cr aR (us:=dZ m t w x) rfl rfl λag ah S bo=>⟨λd=>(by cases d),λ_=>?_⟩⟩⟩;have U:Ext bn ag:=Ext.cn aS S (bl _);have E:=(f.trans y).trans U;obtain⟨ai,aj,ak,al⟩:=bH ah;refine⟨_,ai,t,aj,w,ak,x,al,(vP (h.ext E) av aw ax (af.ext U) l.1 l.2.1 l.2.2).use ?_⟩;intro v w' F;obtain⟨s,e,rfl⟩:=F.out;rw[aP];exact⟨s,e,rfl,aB s e w' (F.base E)⟩
 .refine bh (vs:=[false,(),(),()]) rfl λbQ bp z bR=>⟨z,?_⟩
  have B:=n_ ((aJ.ext f).ext z) ((aK.ext f).ext z) (R.1.ext z) (λq r=>fU (R.2.2 q r).2 z.size) (by have:=az.2;omega) sa sb aL aO I I;rw[←ad]at B;refine B.use ?_;rintro _ bS ⟨t,w,x,rfl,af,y⟩;have aT:=bp.ext y;refine⟨_,t,w,x,true,rfl,y,aT.b9 rfl fK,rfl,cr aT (us:=dZ m t w x) rfl rfl λag ah S bo=>⟨λd=>(by cases d),λ_=>?_⟩⟩;have U:Ext p.drew ag:=Ext.cn (z.trans y) S (bl _);have E:=f.trans U;have br:=bF.ab af S λq r e=>by omega
  obtain⟨ai,aj,ak,al⟩:=bH ah;refine⟨_,ai,t,aj,w,ak,x,al,(vP (h.ext E) av aw ax br l.1 l.2.1 l.2.2).use ?_⟩;intro v w' F;obtain⟨s,e,rfl⟩:=F.out;rw[aP];exact⟨s,e,rfl,aB s e w' (F.base E)⟩
theorem dv.leave{T:aN}{c c':dJ}{E G:Nat->Prop}{w w':J}{no:Nat}(h:bQ T (T.ck E G) w w' 0)(a:E=T.E)(b:∀q,T.G q->G q)(h1:c'.cb=c.cb)(h2:c'.made=c.made)(d:c'.left=c.left++ [no]):dv T (T.ck E G) c c' [] [no] w w' 0:=
 ⟨h,a,b,rfl,rfl,h1,by rw[h2,f_],d,List.nodup_nil,λ_ h=>(by cases h),λno=>by simp[aN.ck],λ_ _=>⟨rfl,rfl⟩,by simp[cl,aN.ck]⟩
def yn(nb aE:Nat)(c up:aq ae)(n31 n36 n41 aH:Int)(b1:J)(Q:aa->J->Prop):Prop:=
 (((aH:Int) !=0)=true->Q (.tuple #[(),(0:Int),(0:Int),aH]) b1)/\(((aH:Int) !=0)=false->∃bt:ae,c=some bt/\∃am:Y,b1.cell? (bt.add 2)=some (.slice am.a am.len am.cap)/\al (b1.alloc (.cells #[n41] 3)) λbO=>∃bu:Y,∃an:J,Sem.run aj (Builtin.append_ #[58,58] 58 #[am,.slice (some b1.heap.size) 1 1]) bO=.ok bu an/\∃ao:ae,c=some ao/\(∃u:aa,an.cell? (ao.add 2)=some u)/\an.frozen? (ao.add 2)=false/\al (an.setCell (ao.add 2) bu) λbP=>al (bP.drew) λb=>∃l:Nat->Prop,¬l (aE:ae).block/\∃z:ai,b.cell? aE=some (.bool z)/\∃o:Y,b.cell? (Addr.add aE 1)=some (.slice o.a o.len o.cap)/\∃p:Y,b.cell? (Addr.add aE 2)=some (.slice p.a p.len p.cap)/\∃q:Y,b.cell? (Addr.add aE 3)=some (.slice q.a q.len q.cap)/\¬l (nb:ae).block/\∃A:ai,b.cell? nb=some (.bool A)/\∃r:Y,b.cell? (Addr.add nb 1)=some (.slice r.a r.len r.cap)/\∃s:Y,b.cell? (Addr.add nb 2)=some (.slice s.a s.len s.cap)/\∃t:Y,b.cell? (Addr.add nb 3)=some (.slice t.a t.len t.cap)/\(al (b.alloc (.cells #[false,(),(),()] 202)) λf=>ad l b f/\al (f.alloc (.cells #[false,(),(),()] 202)) λap=>ad l f ap/\bx ap b.heap.size [z,o,p,q]/\(4:Nat)=4/\al (setCells ap b.heap.size 0 [z,o,p,q]) λaI=>ad l ap aI/\bx aI f.heap.size [A,r,s,t]/\(4:Nat)=4/\al (setCells aI f.heap.size 0 [A,r,s,t]) λaJ=>bE (λbv:J->Prop=>∃bw:ae,up=some bw/\∃aK:Int,aJ.cell? (bw.add 5)=some (.int .i64 aK)/\((decide ((n36:Int)>aK))=true->al (aJ.drew) λh=>∃aL:Nat->Prop,¬aL (nb:ae).block/\∃aM:ai,h.cell? nb=some (.bool aM)/\∃B:Y,h.cell? (Addr.add nb 1)=some (.slice B.a B.len B.cap)/\∃C:Y,h.cell? (Addr.add nb 2)=some (.slice C.a C.len C.cap)/\∃D:Y,h.cell? (Addr.add nb 3)=some (.slice D.a D.len D.cap)/\¬aL (aE:ae).block/\∃aN:ai,h.cell? aE=some (.bool aN)/\∃E:Y,h.cell? (Addr.add aE 1)=some (.slice E.a E.len E.cap)/\∃F:Y,h.cell? (Addr.add aE 2)=some (.slice F.a F.len F.cap)/\∃G:Y,h.cell? (Addr.add aE 3)=some (.slice G.a G.len G.cap)/\bx h b.heap.size [aM,B,C,D]/\(4:Nat)=4/\al (setCells h b.heap.size 0 [aM,B,C,D]) λaO=>ad aL h aO/\bx aO f.heap.size [aN,E,F,G]/\(4:Nat)=4/\al (setCells aO f.heap.size 0 [aN,E,F,G]) λbQ=>bv bQ)/\((decide ((n36:Int)>aK))=false->bv aJ)) (λ(bR:J)=>al (bR.drew) λd=>∃m:Nat->Prop,¬m (b.heap.size:ae).block/\∃aP:ai,d.cell? b.heap.size=some (.bool aP)/\∃H:Y,d.cell? (Addr.add b.heap.size 1)=some (.slice H.a H.len H.cap)/\∃I:Y,d.cell? (Addr.add b.heap.size 2)=some (.slice I.a I.len I.cap)/\∃K:Y,d.cell? (Addr.add b.heap.size 3)=some (.slice K.a K.len K.cap)/\∃aQ:ae,up=some aQ/\¬m ((aQ.add 1).add 1).block/\∃L:Y,d.cell? ((aQ.add 1).add 1)=some (.slice L.a L.len L.cap)/\∃aR:ae,L.a=some aR/\((0:Int)<=n31/\n31<(L.len:Int))/\¬m (aR.add (Int.toNat n31*1)).block/\∃M:Y,d.cell? (aR.add (Int.toNat n31*1))=some (.slice M.a M.len M.cap)/\¬m (f.heap.size:ae).block/\∃aS:ai,d.cell? f.heap.size=some (.bool aS)/\∃N:Y,d.cell? (Addr.add f.heap.size 1)=some (.slice N.a N.len N.cap)/\∃O:Y,d.cell? (Addr.add f.heap.size 2)=some (.slice O.a O.len O.cap)/\∃P:Y,d.cell? (Addr.add f.heap.size 3)=some (.slice P.a P.len P.cap)/\(Calls aj 282 #[.agg #[aP,H,I,K],M,.agg #[aS,N,O,P]] d λbS j=>∃aT:ai,∃aU:Y,∃aV:Y,∃aW:Y,∃aX:ai,bS=.returned (.tuple #[.agg #[aT,aU,aV,aW],aX])/\ad m d j/\al (j.alloc (.cells #[false,(),(),()] 202)) λaY=>ad m j aY/\bx aY j.heap.size [aT,aU,aV,aW]/\(4:Nat)=4/\al (setCells aY j.heap.size 0 [aT,aU,aV,aW]) λv=>((!aX)=true->Q (.tuple #[(),(0:Int),(0:Int),(4:Int)]) v)/\((!aX)=false->∃bz:ai,v.cell? j.heap.size=some (.bool bz)/\∃ar:Y,v.cell? (Addr.add j.heap.size 1)=some (.slice ar.a ar.len ar.cap)/\∃au:Y,v.cell? (Addr.add j.heap.size 2)=some (.slice au.a au.len au.cap)/\∃av:Y,v.cell? (Addr.add j.heap.size 3)=some (.slice av.a av.len av.cap)/\Calls aj 281 #[.pointer c,.agg #[bz,ar,au,av]] v λbT bU=>∃bA:Y,∃bB:Int,bT=.returned (.tuple #[bA,bB])/\Q (.tuple #[bA,n31,.int .i64 (IntKind.wrap .i64 (n31+2)),bB]) bU))/\(al (d.alloc (.cells #[false,(),(),()] 202)) λaZ=>ad m d aZ/\Calls aj 282 #[.agg #[aP,H,I,K],M,.agg #[aS,N,O,P]] aZ λbV a0=>∃a1:ai,∃a2:Y,∃a3:Y,∃a4:Y,∃a5:ai,bV=.returned (.tuple #[.agg #[a1,a2,a3,a4],a5])/\ad m aZ a0/\bx a0 d.heap.size [a1,a2,a3,a4]/\(4:Nat)=4/\al (setCells a0 d.heap.size 0 [a1,a2,a3,a4]) λw=>((!a5)=true->Q (.tuple #[(),(0:Int),(0:Int),(4:Int)]) w)/\((!a5)=false->∃bC:ai,w.cell? d.heap.size=some (.bool bC)/\∃aw:Y,w.cell? (Addr.add d.heap.size 1)=some (.slice aw.a aw.len aw.cap)/\∃ax:Y,w.cell? (Addr.add d.heap.size 2)=some (.slice ax.a ax.len ax.cap)/\∃ay:Y,w.cell? (Addr.add d.heap.size 3)=some (.slice ay.a ay.len ay.cap)/\Calls aj 281 #[.pointer c,.agg #[bC,aw,ax,ay]] w λbW bX=>∃bD:Y,∃bF:Int,bW=.returned (.tuple #[bD,bF])/\Q (.tuple #[bD,n31,.int .i64 (IntKind.wrap .i64 (n31+2)),bF]) bX))))/\(al (b.alloc (.cells #[false,(),(),()] 202)) λg=>ad l b g/\al (g.alloc (.cells #[false,(),(),()] 202)) λaz=>ad l g az/\bx az g.heap.size [z,o,p,q]/\(4:Nat)=4/\al (setCells az g.heap.size 0 [z,o,p,q]) λa6=>ad l az a6/\bx a6 b.heap.size [A,r,s,t]/\(4:Nat)=4/\al (setCells a6 b.heap.size 0 [A,r,s,t]) λa7=>bE (λbG:J->Prop=>∃bH:ae,up=some bH/\∃a8:Int,a7.cell? (bH.add 5)=some (.int .i64 a8)/\((decide ((n36:Int)>a8))=true->al (a7.drew) λi=>∃a9:Nat->Prop,¬a9 (nb:ae).block/\∃a_:ai,i.cell? nb=some (.bool a_)/\∃R:Y,i.cell? (Addr.add nb 1)=some (.slice R.a R.len R.cap)/\∃S:Y,i.cell? (Addr.add nb 2)=some (.slice S.a S.len S.cap)/\∃T:Y,i.cell? (Addr.add nb 3)=some (.slice T.a T.len T.cap)/\¬a9 (aE:ae).block/\∃ba:ai,i.cell? aE=some (.bool ba)/\∃U:Y,i.cell? (Addr.add aE 1)=some (.slice U.a U.len U.cap)/\∃V:Y,i.cell? (Addr.add aE 2)=some (.slice V.a V.len V.cap)/\∃W:Y,i.cell? (Addr.add aE 3)=some (.slice W.a W.len W.cap)/\bx i g.heap.size [a_,R,S,T]/\(4:Nat)=4/\al (setCells i g.heap.size 0 [a_,R,S,T]) λbb=>ad a9 i bb/\bx bb b.heap.size [ba,U,V,W]/\(4:Nat)=4/\al (setCells bb b.heap.size 0 [ba,U,V,W]) λbY=>bG bY)/\((decide ((n36:Int)>a8))=false->bG a7)) (λ(bZ:J)=>al (bZ.drew) λe=>∃n:Nat->Prop,¬n (g.heap.size:ae).block/\∃bc:ai,e.cell? g.heap.size=some (.bool bc)/\∃X:Y,e.cell? (Addr.add g.heap.size 1)=some (.slice X.a X.len X.cap)/\∃Z:Y,e.cell? (Addr.add g.heap.size 2)=some (.slice Z.a Z.len Z.cap)/\∃ab:Y,e.cell? (Addr.add g.heap.size 3)=some (.slice ab.a ab.len ab.cap)/\∃bd:ae,up=some bd/\¬n ((bd.add 1).add 1).block/\∃ac:Y,e.cell? ((bd.add 1).add 1)=some (.slice ac.a ac.len ac.cap)/\∃be:ae,ac.a=some be/\((0:Int)<=n31/\n31<(ac.len:Int))/\¬n (be.add (Int.toNat n31*1)).block/\∃af:Y,e.cell? (be.add (Int.toNat n31*1))=some (.slice af.a af.len af.cap)/\¬n (b.heap.size:ae).block/\∃bf:ai,e.cell? b.heap.size=some (.bool bf)/\∃ag:Y,e.cell? (Addr.add b.heap.size 1)=some (.slice ag.a ag.len ag.cap)/\∃ah:Y,e.cell? (Addr.add b.heap.size 2)=some (.slice ah.a ah.len ah.cap)/\∃ak:Y,e.cell? (Addr.add b.heap.size 3)=some (.slice ak.a ak.len ak.cap)/\(Calls aj 282 #[.agg #[bc,X,Z,ab],af,.agg #[bf,ag,ah,ak]] e λb0 k=>∃bg:ai,∃bh:Y,∃bi:Y,∃bj:Y,∃bk:ai,b0=.returned (.tuple #[.agg #[bg,bh,bi,bj],bk])/\ad n e k/\al (k.alloc (.cells #[false,(),(),()] 202)) λbl=>ad n k bl/\bx bl k.heap.size [bg,bh,bi,bj]/\(4:Nat)=4/\al (setCells bl k.heap.size 0 [bg,bh,bi,bj]) λx=>((!bk)=true->Q (.tuple #[(),(0:Int),(0:Int),(4:Int)]) x)/\((!bk)=false->∃bI:ai,x.cell? k.heap.size=some (.bool bI)/\∃aA:Y,x.cell? (Addr.add k.heap.size 1)=some (.slice aA.a aA.len aA.cap)/\∃aB:Y,x.cell? (Addr.add k.heap.size 2)=some (.slice aB.a aB.len aB.cap)/\∃aC:Y,x.cell? (Addr.add k.heap.size 3)=some (.slice aC.a aC.len aC.cap)/\Calls aj 281 #[.pointer c,.agg #[bI,aA,aB,aC]] x λb2 b3=>∃bJ:Y,∃bK:Int,b2=.returned (.tuple #[bJ,bK])/\Q (.tuple #[bJ,n31,.int .i64 (IntKind.wrap .i64 (n31+2)),bK]) b3))/\(al (e.alloc (.cells #[false,(),(),()] 202)) λbm=>ad n e bm/\Calls aj 282 #[.agg #[bc,X,Z,ab],af,.agg #[bf,ag,ah,ak]] bm λb4 bn=>∃bo:ai,∃bp:Y,∃bq:Y,∃br:Y,∃bs:ai,b4=.returned (.tuple #[.agg #[bo,bp,bq,br],bs])/\ad n bm bn/\bx bn e.heap.size [bo,bp,bq,br]/\(4:Nat)=4/\al (setCells bn e.heap.size 0 [bo,bp,bq,br]) λy=>((!bs)=true->Q (.tuple #[(),(0:Int),(0:Int),(4:Int)]) y)/\((!bs)=false->∃bL:ai,y.cell? e.heap.size=some (.bool bL)/\∃aD:Y,y.cell? (Addr.add e.heap.size 1)=some (.slice aD.a aD.len aD.cap)/\∃aF:Y,y.cell? (Addr.add e.heap.size 2)=some (.slice aF.a aF.len aF.cap)/\∃aG:Y,y.cell? (Addr.add e.heap.size 3)=some (.slice aG.a aG.len aG.cap)/\Calls aj 281 #[.pointer c,.agg #[bL,aD,aF,aG]] y λb5 b6=>∃bM:Y,∃bN:Int,b5=.returned (.tuple #[bM,bN])/\Q (.tuple #[bM,n31,.int .i64 (IntKind.wrap .i64 (n31+2)),bN]) b6)))))
theorem GZ{w:J}{T:aN}{c:dJ}{nb aE:Nat}{A:ae}{u:dD}{n o:aD}{K V D g i j:Y}{fr other no:Nat}{Q:aa->J->Prop}(h:du w T c)(ao:Var w nb (dZ n K V D) 202)(ap:Var w aE (dZ o g i j) 202)
 (aq:¬T.M nb) (ar:¬T.M aE) (av:bF (λq=>¬T.M q) w n K V D) (ax:bF (λq=>¬T.M q) w o g i j) (hu:lO (λq=>¬T.M q) w A u)
 (az:T.C.D.aQ<=900000090) (aA:2<=cl T) (aF:c.made.length<=900) (bi:c.left.length<=900) (fO:cH n) (aG:cH o) (aH:bM n<=400) (aI:bM o<=400) (aJ:o.leaf=n.leaf) (aK:fr<u.n.keys.length) (aL:cw u.n.keys[fr]) (m:aD) (z:m=if u.cY<other then ed n u.n.keys[fr] o else ed o u.n.keys[fr] n) (aM:lN m) (aO:fr<=1000)
 (aP:∀ (s:Y) (e:Int) (bP:aN) (aC:dJ) (w1 w':J),dv T bP c aC [] [no] w w1 0->h4 bP aC m w1 (.tuple #[s,e]) w'->Q (.tuple #[s,fr,.int .i64 ((fr+2:Nat):Int),e]) w'):
 yn nb aE (some c.cb) (some A) (fr:Nat) (other:Nat) (no:Nat) 0 w Q:=by
 unfold yn;refine⟨λB=>(by cases B),λ_=>⟨_,rfl,_,h.cells.2.2,?_⟩⟩;obtain⟨k,ah,au,ay,aR,aS,aT⟩:=B0 h no I;refine aW ⟨k,ah,au,_,rfl,by rw[aw];exact aR,by rw[aw];exact aS,aW ?_⟩;rw[aw];obtain⟨b,ai⟩:∃b,b=ah.setCell ⟨c.cb,0+2,none⟩ k:=⟨_,rfl⟩;rw[←ai];obtain⟨aj,ak⟩:=aT b ai;have al:=dv.leave (c:=c) (c':={c with gD:=k,left:=c.left++ [no]}) (no:=no) ak rfl (λq F=>.inl F) rfl rfl rfl;obtain⟨bP,x⟩:∃bP,bP=T.ck T.E λq=>T.G q\/aB k q:=⟨_,rfl⟩;obtain⟨aC,H⟩:∃aC:dJ,aC={c with gD:=k,left:=c.left++ [no]}:=⟨_,rfl⟩;have aU:aC.cb=c.cb:=by rw[H]
 have aV:aC.made=c.made:=by rw[H]
 have aX:bP.C.D.aQ<=900000090:=by rw[x];exact az
 have aY:2<=cl bP:=by rw[x];exact aA
 rw[←x,←H]at aj al;rw[←x]at ak;have L:Ext b b.drew:=cf _;have am:=aj.ext L;have O:dv T bP c aC [] [no] w b.drew 0:=al.trans (dv.ext bP aC L);obtain⟨a,aZ⟩:∃a,a=b.drew:=⟨_,rfl⟩;rw[←aZ]at L am O⊢;have y:=O.to;have P:∀q,¬T.M q->¬T.N q:=λq h1 h2=>h1 (aN.gl h2);have R:=ao.ab y.ab (P _ aq);have S:=ap.ab y.ab (P _ ar);have an:∀ {m:aD}{K V D:Y},bF (λq=>¬T.M q) w m K V D->bF (λq=>¬T.M q) a m K V D:=λz=>bF.ab z y.ab λq F=>P q F;have a0:=an av;have a1:=an ax;have a2:=hu.to y;obtain⟨a3,bW,bC,a4⟩:=bH R;obtain⟨a5,a6,a7,a8⟩:=bH S;have bj:=R.lt;have bk:=S.lt;have fin:∀ (b1:J) (l bv:Nat),Ext a b1->Var b1 l (dZ o g i j) 202->Var b1 bv (dZ n K V D) 202->a.heap.size<=l->a.heap.size<=bv->l≠bv->ym nb aE l bv (some c.cb) (some A) (fr:Nat) (other:Nat) b1 Q:=by
  intro b1 l bv hx a9 B h1 h2 a_;have:=GY am hx R S a9 B h1 h2 a_ a0 a1 a2 aX aY (by rw[aV];exact aF) fO aG aH aI aJ aK aL m z aM aO (Q:=Q) λs e w' hf=>aP s e bP aC a w' O hf;rw[aU]at this;exact this
 refine aW ⟨λq=>a.heap.size<=q,(show¬a.heap.size<=aE from I),_,a5,g,a6,i,a7,j,a8,(show¬a.heap.size<=nb from I),_,a3,K,bW,V,bC,D,a4,?_,?_⟩
 .refine bh (vs:=[false,(),(),()]) rfl λU ba p bb=>⟨ad.cJ p,bh (vs:=[false,(),(),()]) rfl λbc W d bd=>?_⟩
  have r:=ba.ext d;refine⟨ad.cJ d,r.b9 rfl fK,rfl,cr r (us:=dZ o g i j) rfl rfl λX Z f be=>?_⟩;have t:=W.ab f I;have ac:Ext a X:=Ext.cn (p.trans d) f (bl _);refine⟨f.mono λq _ e=>I,t.b9 rfl fK,rfl,cr t (us:=dZ n K V D) rfl rfl λaf ag v bf=>?_⟩;exact fin af a.heap.size U.heap.size (Ext.cn ac v I) (Z.ab v I) ag (bl _) I I
 .refine bh (vs:=[false,(),(),()]) rfl λU bg p bb=>⟨ad.cJ p,bh (vs:=[false,(),(),()]) rfl λbc r d bd=>?_⟩
  have W:=bg.ext d;refine⟨ad.cJ d,r.b9 rfl fK,rfl,cr r (us:=dZ o g i j) rfl rfl λX Z f be=>?_⟩;have t:=W.ab f I;have ac:Ext a X:=Ext.cn (p.trans d) f I;refine⟨f.mono λq _ e=>I,t.b9 rfl fK,rfl,cr t (us:=dZ n K V D) rfl rfl λaf ag v bf=>?_⟩;exact fin af U.heap.size a.heap.size (Ext.cn ac v (bl _)) (Z.ab v I) ag I (bl _) I
theorem bQ.read{w w':J}{T:aN}{E:Nat->Prop}{aF:b5}{P:Nat->aq aD}{k:Nat}(h:bQ (T.ck E λ_=>False) ((T.ck E λ_=>False).bm aF P) w w' k)(e:∀q,T.E q\/T.G q->E q)(f:∀q,E q->T.E q\/T.G q\/w.heap.size<=q):bQ T (T.bm aF P) w w' k:=by
 refine⟨h.aZ,h.sb,h.n,h.g,h.s1,h.s2,h.c,h.d,h.bg,h.gen,h.aQ,h.calm,h.ab.mono λq _ a=>?_,λq a=>?_,λq a=>?_⟩
 .rcases a with a|a|a|a
  .exact .inl a
  .exact .inr (.inl a)
  .exact .inr (.inr (.inl a))
  .exact a.elim
 .have h1:((T.ck E λ_=>False).bm aF P).M q:=by
   rcases a with a|a|a|a
   .exact .inl a
   .exact .inr (.inl a)
   .exact .inr (.inr (.inl a))
   .exact .inr (.inr (.inr (.inl (e q a))))
  rcases h.c7 q h1 with h2|h2
  .rcases h2 with a|a|a|a|a
   .exact .inl (.inl a)
   .exact .inl (.inr (.inl a))
   .exact .inl (.inr (.inr (.inl a)))
   .rcases f q a with b|b|b
    .exact .inl (.inr (.inr (.inr (.inl b))))
    .exact .inl (.inr (.inr (.inr (.inr b))))
    .exact .inr b
   .exact a.elim
  .exact .inr h2
 .rcases a with a|a|a|a
  .rcases h.fn q (.inl a) with h2|h2
   .rcases h2 with h2|h2|h2|h2
    .exact .inl (.inl h2)
    .exact .inl (.inr (.inl h2))
    .exact .inl (.inr (.inr (.inl h2)))
    .exact h2.elim
   .exact .inr h2
  .exact .inl (.inr (.inl a))
  .exact .inl (.inr (.inr (.inl a)))
  .exact .inl (.inr (.inr (.inr a)))
theorem dv.cache{T:aN}{c:dJ}{aF:b5}{w w':J}{k:Nat}(h:bQ T (T.bm aF T.P) w w' k)(a:∀j,aF.view j=T.C.view j):dv T (T.bm aF T.P) c c [] [] w w' k:=
 ⟨h,rfl,λ_ h=>h,rfl,rfl,rfl,by simp,by simp,List.nodup_nil,λ_ h=>(by cases h),λno=>by simp[aN.bm],λno _=>⟨rfl,a no⟩,by simp[cl,aN.bm]⟩
theorem B7{w w1:J}{T:aN}{c:dJ}{Z:Nat->Prop}{no:Nat}{o:aD}(h:du w T c)(hx:Ext w w1)(g:∀q,Z q->w.heap.size<=q/\q<w1.heap.size)(y:T.C.D.aQ<=999999999)(z:T.P no=some o):
 aR aj 196 #[.pointer (some T.aZ),no,o.leaf] w1 (λv w'=>∃aF:b5,(∀j,aF.view j=T.C.view j)/\ad (λq=>T.N q/\¬T.G q) w1 w'/\(∀q,(T.bm aF T.P).M q->T.M q\/w1.heap.size<=q)/\
  (∀f,ad Z w' f->du f (T.bm aF T.P) c/\dv T (T.bm aF T.P) c c [] [] w f 2)/\
  ((∃ (K V D:Y),v=.tuple #[c2 o K V D,(0:Int)]/\bF (λq=>w1.heap.size<=q/\¬(T.bm aF T.P).M q) w' o K V D)\/(v=.tuple #[c2 g_ bk bk bk,(3:Int)]/\¬T.C.D.calm 2))):=by
 obtain⟨A,i⟩:=h.t.eo no o z;obtain⟨bf,k⟩:∃bf,bf=λq=>T.E q\/T.G q\/Z q:=⟨_,rfl⟩;have d:∀q,T.E q\/T.G q\/Z q->bf q:=λq a=>by rw[k];exact a
 have l:∀q,bf q->T.E q\/T.G q\/Z q:=λq a=>by rw[k]at a;exact a
 have m:bJ w1 (T.ck bf λ_=>False):=h.t.grow (W:=λ_=>False) hx (λ_ h=>h.elim) (λq a=>(l q a).imp id (Or.imp id (g q))) (λ_ h=>h.elim) λ_ _ h=>h;have n:∀q,(T.ck bf λ_=>False).N q->T.N q/\¬T.G q:=λq a=>⟨by
  rcases a with a|a|a|a
  .exact .inl a
  .exact .inr (.inl a)
  .exact .inr (.inr (.inl a))
  .exact a.elim,λhg=>m.jf (d q (.inr (.inl hg))) a⟩
 refine(yg m y A i.two o.leaf).mono ?_;rintro v w' ⟨aF,B,ht,r,F⟩;have Q:=hx.size;have R:=ht.ab.size;have s:=(bQ.ext (T.ck bf λ_=>False) hx).trans ht;rw[cy]at s;have H:bQ T (T.bm aF T.P) w w' 2:=bQ.read (E:=bf) s (λq a=>d q (a.imp id .inl)) λq a=>(l q a).imp id (Or.imp id λh=>(g q h).1);have u:ad (λq=>T.N q/\¬T.G q) w1 w':=ht.ab.mono λq _ a=>n q a;refine⟨aF,r,u,λq a=>?_,λf hc=>?_,?_⟩
 .rcases a with a|a
  .exact(ht.fn q (.inl a)).imp (λh=>aN.gl (n q h).1) id
  .exact .inl (.inr a)
 .have I:bJ f (T.bm aF T.P):=B.grow (E:=T.E) (G:=T.G) hc (λq a _=>.inl (d q (.inr (.inr a)))) (λq a=>.inl (d q (.inl a))) (λq a=>.inl (d q (.inr (.inl a)))) λq a=>(h.t.c8 q a).2.2
  refine⟨(h.ext hx).of (W:=λq=>(T.N q/\¬T.G q)\/Z q) I ((u.mono λq _ a=>.inl a).trans (hc.mono λq _ a=>.inr a)) (λq hg a=>?_) rfl (λ_ h=>h) ht.bL.1,dv.cache ?_ r⟩
  .rcases a with a|a
   .exact a.2 hg
   .have:=h.t.lt (q:=q) (.inr (.inr (.inr (.inr hg))))
    have:=(g q a).1;omega
  .exact H.step (E:=T.E) (G:=T.G) hc (λq a S=>by have:=(g q a).1;omega) (λq a=>.inl a) λq a=>.inl a
 .rcases F with ⟨bC,K,V,D,rfl,L,c9⟩|⟨e,rfl,O,U⟩
  .obtain rfl:=gN.uniq i L
   refine .inl ⟨K,V,D,rfl,c9.aY λq a x=>⟨x.1,λb=>x.2 ?_⟩⟩;rcases b with b|b|b|b|b
   .exact .inl b
   .exact .inr (.inl b)
   .exact .inr (.inr (.inl b))
   .exact .inr (.inr (.inr (.inl (d q (.inl b)))))
   .exact .inr (.inr (.inr (.inl (d q (.inr (.inl b))))))
  .refine .inr ?_
   rcases O with ⟨rfl,h1⟩|h1|⟨_,_,h1⟩
   .exact⟨rfl,h1⟩
   .obtain⟨p,au,_⟩:=i
    have h1:dQ (no:Int) (T.C.view no)=.error e:=h1;rw[au]at h1;cases h1
   .exact absurd i (h1 o)
def jR(u:dD):Nat:=if u.cY=0 then 1 else u.cY-1
def lP(u:dD)(n o:aD):aD:=if u.cY<jR u then ed n (u.n.keys.getD (u.cY-1) []) o else ed o (u.n.keys.getD (u.cY-1) []) n
def yo(T:aN)(c:dJ)(n:aD)(u:dD)(w:J)(v:aa)(w':J):Prop:=
 (80<=bM n/\∃ (s:Y) (e:Int),v=.tuple #[s,u.cY,.int .i64 ((u.cY+1:Nat):Int),e]/\h4 T c n w (.tuple #[s,e]) w')\/
 (bM n<80/\∃ (bP:aN) (aC:dJ),v=.tuple #[(),(0:Int),(0:Int),(3:Int)]/\du w' bP aC/\dv T bP c aC [] [] w w' 2/\¬T.C.D.calm 2)\/
 (bM n<80/\∃ (o:aD) (no:Nat) (bP:aN) (aC:dJ) (w1:J) (s:Y) (e:Int),u.n.kids[jR u]? =some no/\T.P no=some o/\dv T bP c aC [] [no] w w1 2/\
   v=.tuple #[s,.int .i64 ((u.cY-1:Nat):Int),.int .i64 ((u.cY-1+2:Nat):Int),e]/\h4 bP aC (lP u n o) w1 (.tuple #[s,e]) w')
theorem G0{B:Nat->Prop}{w:J}{T:aN}{c:dJ}{n:aD}{K V D:Y}(h:du w T c)(j:bF B w n K V D)(d:lN n)(o:T.C.D.aQ<=900000080)(k:2<=cl T)(l:c.made.length<=900):
 aR aj 248 #[.pointer (some c.cb),c2 n K V D,.pointer none] w (λv w'=>∃ (s:Y) (e:Int),v=.tuple #[s,(0:Int),(0:Int),e]/\h4 T c n w (.tuple #[s,e]) w'):=by
 refine okF (af.n2 (some c.cb) n.leaf K V D none) aA.n2 func248 ?_;(delta af.n2 ak bc U ag aC r1 av cc aL g1 cj tu st b4 ra iG tm;dsimp only);refine bh (vs:=dZ n K V D) rfl λw1 m f p=>?_;refine cq (λb w'=>b=true/\w1=w') (λq g=>⟨λ_=>g _ _ ⟨rfl,rfl⟩,λh=>(by cases h)⟩) ?_;rintro _ _ ⟨rfl,rfl⟩;refine⟨λ_=>s3 (λa b w'=>a=0/\b=0/\w1=w') (λq g=>⟨λh=>(by cases h),λ_=>g _ _ _ ⟨rfl,rfl,rfl⟩⟩) ?_,λh=>(by cases h)⟩;rintro _ _ _ ⟨rfl,rfl,rfl⟩;obtain⟨bX,aC,aU,aO⟩:=bH m;refine⟨_,bX,K,aC,V,aU,D,aO,(vP (h.ext f) I k l (j.ext f) d.1 d.2.1 d.2.2).use ?_⟩;intro v w' i;obtain⟨s,e,rfl⟩:=i.out;exact⟨s,e,rfl,s,e,rfl,i.base f⟩
theorem G1{w:J}{T:aN}{c:dJ}{n:aD}{K V D:Y}{A:ae}{u:dD}(h:du w T c)(aq:bF (λq=>¬T.M q) w n K V D)(hu:lO (λq=>¬T.M q) w A u)(fO:cH n)(a4:bM n<=400)(ar:80<=bM n->lN n)
 (a5:bM n<80->∃ (o:aD) (no:Nat),u.n.kids[jR u]? =some no/\T.P no=some o/\o.leaf=n.leaf/\u.cY-1<u.n.keys.length/\cw (u.n.keys.getD (u.cY-1) [])/\lN (lP u n o)) (bD:u.cY<=900)
 (bE:T.C.D.aQ<=900000080) (aP:2<=cl T) (aS:c.made.length<=900) (a6:c.left.length<=900):
 aR aj 248 #[.pointer (some c.cb),c2 n K V D,.pointer (some A)] w (yo T c n u w):=by
 have bG:=fO.eB I;refine okF (af.n2 (some c.cb) n.leaf K V D (some A)) aA.n2 func248 ?_;(delta af.n2 ak bc U ag aC r1 av cc aL g1 cj tu st b4 ra iG tm;dsimp only);refine bh (vs:=dZ n K V D) rfl λw1 aa aT bI=>?_;obtain⟨nb,a7⟩:∃nb,nb=w.heap.size:=⟨_,rfl⟩;rw[←a7]at aa⊢;refine cq (λb w'=>b=decide (80<=bM n)/\Ext w1 w') (λq f=>⟨λh=>(by cases h),λ_=>?_⟩) ?_
 .obtain⟨bX,aC,aU,aO⟩:=bH aa
  refine⟨_,bX,K,aC,V,aU,D,aO,(n4 (aq.ext aT) fO I).use ?_⟩;rintro _ bJ ⟨rfl,a8⟩;refine⟨_,rfl,f _ _ ⟨?_,a8⟩⟩;rw[fY,cS,cS];omega
 rintro _ p ⟨rfl,ac⟩;have ah:=aT.trans ac;refine⟨λg=>?_,λg=>?_⟩
 .have g:=b8 g
  have L:=ar g;refine s3 (λa b w'=>a=(u.cY:Nat)/\b=((u.cY+1:Nat):Int)/\Ext p w') (λq f=>⟨λ_=>?_,λh=>(by cases h)⟩) ?_
  .have y:Ext p p.drew:=cf _
   have aV:=hu.ext (ah.trans y);refine aW ⟨A,rfl,id,_,aV.ba,A,rfl,id,_,aV.ba,f _ _ _ ⟨rfl,?_,y⟩⟩;rw[bA I I];rfl
  rintro _ _ bK ⟨rfl,rfl,aX⟩;have r:=ah.trans aX;obtain⟨bX,aC,aU,aO⟩:=bH (aa.ext (ac.trans aX));refine⟨_,bX,K,aC,V,aU,D,aO,(vP (h.ext r) I aP aS (aq.ext r) L.1 L.2.1 L.2.2).use ?_⟩;intro v w' ai;obtain⟨s,e,rfl⟩:=ai.out;exact⟨s,e,rfl,.inl ⟨g,s,e,rfl,ai.base r⟩⟩
 .have g:¬80<=bM n:=cv g
  obtain⟨o,no,au,al,aw,aZ,a9,L⟩:=a5 I;obtain⟨bL,a_⟩:=h.t.eo no o al;obtain⟨_,bb,bN⟩:=a_.is;have am:=hu.ext ah;refine⟨A,rfl,_,am.ba,((u.cY-1:Nat):Int),p,?_,?_⟩
  .rw[run_max_int2]
   congr 2
   by_cases h0:u.cY=0
   .rw[h0];rfl
   .rw[bA I I,if_neg I];omega
  refine cq (λa w'=>a=(jR u:Nat)/\p=w') (λq f=>⟨A,rfl,_,am.ba,λh0=>f _ _ ⟨?_,rfl⟩,λh0=>f _ _ ⟨?_,rfl⟩⟩) ?_
  .have:u.cY=0:=by simpa using h0
   unfold jR;rw[if_pos this];rfl
  .have:u.cY≠0:=by simpa using h0
   unfold jR;rw[if_neg this]
  rintro _ _ ⟨rfl,rfl⟩;have bd:jR u<u.n.kids.length:=(iy.1 au).1;obtain⟨AQ,be,bf,a0⟩:=cK.at am.bj.kids bd;have bg:u.n.kids[jR u]=no:=(iy.1 au).2;rw[bg]at a0;refine⟨A,rfl,u.D,am.dg,AQ,be,bf,_,a0,aW ?_⟩;have y:Ext p p.drew:=cf _;obtain⟨z,bi⟩:∃z,z=p.drew:=⟨_,rfl⟩;rw[←bi]at y⊢;have r:=ah.trans y;have ax:=h.ext r;have bO:=r.size;have bQ:=(ac.trans y).size;have ay:=aa.ext (ac.trans y);have az:∀q,T.M q->q<w.heap.size:=λq f=>h.t.lt f;have a1:u.n.keys.getD (u.cY-1) []=u.n.keys[u.cY-1]:=by rw[fC,dE aZ];rfl
  have fin:∀ (aF:b5) (aE:Nat) (i k l:Y) (d:J),du d (T.bm aF T.P) c->dv T (T.bm aF T.P) c c [] [] z d 2->Var d nb (dZ n K V D) 202->Var d aE (dZ o i k l) 202->z.heap.size<=aE->¬(T.bm aF T.P).M aE->bF (λq=>¬(T.bm aF T.P).M q) d o i k l->
   yn nb aE (some c.cb) (some A) ((u.cY-1:Nat):Int) (jR u:Nat) (no:Nat) 0 d (λv w'=>yo T c n u w v w'):=by
   intro aF aE i k l d B an bn bo bR bp bq;have a2:=((dv.ext T c r).trans an).mono (j:=2) I;have aB:=a2.to;have br:¬(T.bm aF T.P).M nb:=λO=>by
    rcases an.to.c7 nb O with h1|h1
    .have:=az _ h1;omega
    .omega
   have bs:bF (λq=>¬(T.bm aF T.P).M q) d n K V D:=(aB.bj (lo:=0) (aq.aY λq _ g=>⟨cL _,g⟩)).aY λq _ g=>g.2;have bt:(T.bm aF T.P).C.D.aQ<=900000090:=eK aB.aQ I;refine GZ B bn bo br bp bs bq (hu.to aB) bt aP aS a6 fO bb a4 I aw aZ (by rw[←a1];exact a9) (lP u n o) (by unfold lP;rw[a1]) L I ?_;intro s e bP aC bu w' bv hf;exact .inr (.inr ⟨I,o,no,bP,aC,bu,s,e,au,al,(a2.trans bv).mono I,rfl,hf⟩)
  have ao:∀q,T.N q->q<w.heap.size:=λq f=>az q (aN.gl f);have err:∀ (aF:b5) (d:J),du d (T.bm aF T.P) c->dv T (T.bm aF T.P) c c [] [] z d 2->¬T.C.D.calm 2->yo T c n u w (.tuple #[(),(0:Int),(0:Int),(3:Int)]) d:=by
   intro aF d B an Q;exact .inr (.inl ⟨I,_,c,rfl,B,((dv.ext T c r).trans an).mono I,Q⟩)
  obtain⟨bX,aC,aU,aO⟩:=bH ay;refine⟨λq=>T.N q/\¬T.G q,_,rfl,λf=>f.2 h.gc,_,ax.cells.1,(λf=>by have:=ao _ f.1;show False;exact absurd this (by show¬nb<w.heap.size;omega)),_,bX,?_,?_⟩
  .rw[←aw]
   refine(B7 (Z:=λ_=>False) ax (ad.refl _ _) (λ_ h=>h.elim) I al).use ?_;rintro _ F ⟨aF,ai,x,a3,R,aG⟩;have bw:=x.size;rcases aG with ⟨i,k,l,rfl,aH⟩|⟨rfl,Q⟩
   .refine⟨_,i,k,l,0,rfl,x,bh (vs:=[false,(),(),()]) rfl λbx S W bz=>⟨ad.cJ W,S.b9 rfl fK,rfl,cr S (us:=dZ o i k l) rfl rfl λd X m aI=>?_⟩⟩
    have E:Ext F d:=Ext.cn W m (bl _);obtain⟨ap,aJ⟩:=R F (ad.refl _ _);have H:=ay.ab x λf=>by have:=ao _ f.1;omega
    refine fin aF F.heap.size i k l d (ap.ext E) ((aJ.trans (dv.ext _ _ E)).mono I) (H.ext E) X I (λO=>by have:=ap.t.lt O;omega) ?_;exact(aH.ext E).aY λq _ g=>g.2
   .refine⟨_,bk,bk,bk,3,rfl,x,bh (vs:=[false,(),(),()]) rfl λbx S W bz=>⟨ad.cJ W,S.b9 rfl fK,rfl,cr S (us:=dZ g_ bk bk bk) rfl rfl λd X m aI=>⟨λ_=>?_,λg=>(by cases g)⟩⟩⟩
    have E:Ext F d:=Ext.cn W m (bl _);obtain⟨ap,aJ⟩:=R F (ad.refl _ _);exact err aF d (ap.ext E) ((aJ.trans (dv.ext _ _ E)).mono I) Q
  .refine bh (vs:=[false,(),(),()]) rfl λbS bB aK bT=>⟨ad.cJ aK,?_⟩
   rw[←aw];refine(B7 (Z:=λq=>q=z.heap.size) ax aK (λq e=>⟨I,I⟩) I al).use ?_;rintro _ F ⟨aF,ai,x,a3,R,aG⟩;have bw:=x.size;have H:=bB.ab x λf=>by have:=ao _ f.1;omega
   have bC:=(ay.ext aK).ab x λf=>by have:=ao _ f.1;omega
   rcases aG with ⟨i,k,l,rfl,aH⟩|⟨rfl,Q⟩
   .refine⟨_,i,k,l,0,rfl,H.b9 rfl fK,rfl,cr H (us:=dZ o i k l) rfl rfl λd X m aI=>?_⟩
    obtain⟨B,aM⟩:=R d m;refine fin aF z.heap.size i k l d B aM (bC.ab m I) X (bl _) (λO=>?_) ?_
    .rcases a3 _ O with h1|h1
     .have:=az _ h1;omega
     .omega
    .refine(bF.ab aH m λq f e=>by have:=f.1;omega).aY λq _ g=>g.2
   .refine⟨_,bk,bk,bk,3,rfl,H.b9 rfl fK,rfl,cr H (us:=dZ g_ bk bk bk) rfl rfl λd X m aI=>⟨λ_=>?_,λg=>(by cases g)⟩⟩
    obtain⟨B,aM⟩:=R d m;exact err aF d B aM Q
structure yp(T ao:aN)(l:O Nat)(w w':J):Prop where
 to:bQ T ao w w' 0
 E:ao.E=T.E
 G:ao.G=T.G
 root:ao.root=T.root
 aI:ao.aI=T.aI
 f:∀no,ao.f no=(T.f no&& !decide (no∈l))
 eN:∀no,(no∉l\/T.g no=true)->ao.P no=T.P no/\ao.C.view no=T.C.view no
theorem B8{w:J}{T:aN}{c:dJ}{s:Y}{l:O Nat}(h:du w T c)(hs:Src 1 w s (ee l))(z:∀q,aB s q->T.G q)(Q:∀x∈l,T.f x=true)(c9:l.Nodup)(ai:l.length<=10000):
 aR aj 207 #[.pointer (some c.cb),s] w (λv w'=>v=.tuple #[]/\∃ao:aN,du w' ao c/\yp T ao l w w'):=by
 have al:s.len=l.length:=by have:=hs.len;rw[nc]at this;omega
 refine okF (af.uM (some c.cb) s) aA.uM func207 ?_;(delta af.uM ak aL r1 aO aC av;dsimp only);refine⟨λi w'=>∃ (j:Nat) (ao:aN),i=j/\j<=l.length/\du w' ao c/\yp T ao (l.take j) w w'/\Src 1 w' s (ee l),λi _=>((l.length:Int)-i).toNat,⟨0,T,rfl,cL _,h,⟨.refl _ _,rfl,rfl,rfl,rfl,λno=>by simp,λ_ _=>⟨rfl,rfl⟩⟩,hs⟩,?_⟩;rintro _ am ⟨j,bP,rfl,an,h1,hg,B⟩;refine⟨λaK=>?_,λp=>?_⟩
 .have aK:j<l.length:=by
   have:(j:Int)<(s.len:Int):=b8 aK;omega
  have C:bP.f l[j]=true:=by
   rw[hg.f,Q _ (cF aK)];have:l[j]∉l.take j:=λR=>by
    obtain⟨i,hi,he⟩:=fi R;rw[cG]at hi;rw[oT]at he;have:=(List.getElem_inj c9).1 he;omega
   simp[this]
  have ap:l[j]<bP.n:=by
   rcases dO l[j] bP.n with h2|h2
   .exact h2
   .have:=h1.t.s.pf _ h2
    rw[C]at this;cases this
  obtain⟨A,ar,S,hc⟩:=B.at (i:=j) (v:=.int .i64 ((l[j]:Nat):Int)) (by simp[ee,aK]);refine iE (λw'=>∃b4:aN,du w' b4 c/\yp T b4 (l.take (j+1)) w w'/\Src 1 w' s (ee l)) (λq a=>⟨A,ar,S,_,hc,_,rfl,_,h1.cells.1,_,rfl,_,h1.t.cells.2.1,(Gw h1.t.s _).use ?_⟩) ?_
  .rintro _ _ ⟨rfl,rfl⟩
   refine⟨_,rfl,_,rfl,_,h1.cells.1,_,rfl,_,h1.t.cells.2.1,(BQ h1.t.s _).use ?_⟩;rintro _ D ⟨rfl,gj,r⟩;have U:ni bP.f bP.n ((l[j]:Nat):Int)=dn bP.f l[j] false:=by
    unfold ni;rw[if_pos ⟨I,I⟩,dd]
   rw[U]at gj;obtain⟨V,F⟩:=h1.t.vN gj r;have d:du D (bP.iP (dn bP.f l[j] false)) c:=h1.of V r (λq a hf=>(h1.t.hD q a).2 hf) rfl λ_ h=>h;have H:Src 1 D s (ee l):=B.ab r λq a hf=>(h1.t.hD q (by rw[hg.G];exact z q a)).2 hf;have W:(decide ((0:Int)<=((l[j]:Nat):Int))&&decide (((l[j]:Nat):Int)<(bP.n:Nat))&&bP.f (Int.toNat ((l[j]:Nat):Int))&& !(bP.g (Int.toNat ((l[j]:Nat):Int))))= !(bP.g l[j]):=by
    rw[dd,C,dP I,dP I];simp
   have K:∀no,dn bP.f l[j] false no=(T.f no&& !decide (no∈l.take (j+1))):=λno=>by
    rw[iU aK];unfold dn;by_cases e:no=l[j]
    .rw[if_pos e,e,dP (cT.2 (.inr (ff.2 rfl)))]
     exact(Bool.and_false _).symm
    .rw[if_neg e,hg.f]
     have X:decide (no∈l.take j++ [l[j]])=decide (no∈l.take j):=by
      rw[fY,cS,cS,cT,ff];exact⟨λh=>h.resolve_right e,.inl⟩
     rw[X]
   rw[W];refine⟨_,rfl,λu=>⟨_,rfl,_,d.cells.1,_,rfl,_,d.t.cells.1,(BH d.t.ca _).use ?_⟩,λu=>a _ ⟨_,d,⟨?_,hg.E,hg.G,hg.root,hg.aI,K,λno k=>?_⟩,H⟩⟩
   .rintro _ aq ⟨⟨b,rfl⟩,aF,Z,m,L,_⟩
    have aa:T.g l[j]=false:=by
     have h2:bP.g=T.g:=hg.to.g;rw[h2]at u;simpa using u
    obtain⟨ac,ad⟩:=d.t.qf (P:=λno=>if no=l[j] then none else bP.P no) Z m (λno bj o=>by
     by_cases e:no=l[j]
     .rw[if_pos e]at o;cases o
     .rw[if_neg e]at o
      rw[L no e];exact h1.t.eo no bj o)
    have ae:=d.of (ao:=(bP.iP (dn bP.f l[j] false)).bm aF λno=>if no=l[j] then none else bP.P no) ac m.ab (λq a=>d.t.rX a) rfl (λ_ h=>h) m.bL;refine⟨b,rfl,a _ ⟨_,ae,⟨?_,hg.E,hg.G,hg.root,hg.aI,K,λno k=>?_⟩,?_⟩⟩
    .exact((hg.to.trans F).trans ad).mono I
    .have M:no≠l[j]:=λe=>by
      rcases k with h2|h2
      .exact h2 (by rw[iU aK,e];exact cT.2 (.inr (ff.2 rfl)))
      .rw[e,aa]at h2;cases h2
     have N:=hg.eN no (k.imp (λh2 y=>h2 (by rw[iU aK];exact cT.2 (.inl y))) id);exact⟨(if_neg M).trans N.1,(L no M).trans N.2⟩
    .exact H.ab m.ab λq a=>d.t.rX (by show bP.G q;rw[hg.G];exact z q a)
   .exact(hg.to.trans F).mono I
   .exact hg.eN no (k.imp (λh2 y=>h2 (by rw[iU aK];exact cT.2 (.inl y))) id)
  .rintro au ⟨b4,h2,ag,ah⟩
   rw[bA (n:=(j:Int)+1) I I];refine⟨⟨j+1,b4,I,I,h2,ag,ah⟩,?_⟩;show((l.length:Int)-((j:Int)+1)).toNat<((l.length:Int)-(j:Int)).toNat;omega
 .have p:j=l.length:=by
   have:¬(j:Int)<(s.len:Int):=cv p;omega
  subst p;rw[iV]at hg;exact⟨rfl,bP,h1,hg⟩
theorem pP{B:Nat->Prop}{w:J}{n:aD}{K V D:Y}(c:bF B w n K V D)(aI:Nat)(h:aI<=100)(d:n.leaf=false->∃x,n.kids=[x]/\1<=aI):
 aR aj 247 #[c2 n K V D,aI] w (λv w'=>v=(if n.leaf then .tuple #[(0:Int),(0:Int),(0:Int)] else .tuple #[.int .i64 ((n.kids.getD 0 0:Nat):Int),.int .i64 ((aI-1:Nat):Int),(0:Int)])/\Ext w w'):=by
 refine okF (af.pP n.leaf K V D (aI:Nat)) aA.pP func247 ?_;(delta af.pP bc U ak ag aL r1 av;dsimp only);refine bh (vs:=dZ n K V D) rfl λw1 e b j=>?_;obtain⟨bX,aC,aU,aO⟩:=bH e;refine⟨_,bX,λa=>⟨by rw[if_pos a],b⟩,λa=>?_⟩;obtain⟨x,hx,h1⟩:=d a;obtain⟨A,ar,f,hc⟩:=cK.at (c.ext b).kids (i:=0) (by rw[hx];simp);refine⟨D,aO,A,ar,f,_,hc,?_,b⟩;have g:(aI:Int)-1=((aI-1:Nat):Int):=by omega
 rw[if_neg (by rw[a];simp),bA I I,g];simp only[hx];rfl
def yq(T:aN)(c:dJ)(ks:O Key)(kids:O Nat)(w:J)(v:aa)(w':J):Prop:=
 (∃x,ks=[]/\kids=[x]/\v=.tuple #[x,T.aI,(0:Int)]/\du w' T c/\Ext w w')\/
 (∃ (k:Key) (x y no:Nat) (ao:aN) (c':dJ),ks=[k]/\kids=[x,y]/\du w' ao c'/\dv T ao c c' [no] [] w w' 1/\
   ((v=.tuple #[no,.int .i64 ((T.aI+1:Nat):Int),(0:Int)]/\ao.P no=some ⟨false,[k],[],[x,y]⟩)\/(v=.tuple #[no,.int .i64 ((T.aI+1:Nat):Int),(3:Int)]/\¬T.C.D.calm 1)))
theorem B9(K D:Nat)(w:J):Sem.run aj (Instr.build 202 #[(1,.slice (some K) 1 1),(3,.slice (some D) 2 2)]) w=.ok (.agg #[false,.slice (some K) 1 1,(),.slice (some D) 2 2]) w:=by kernel_rfl
theorem Var.B_{w:J}{b:Nat}{vs:O aa}{T:TypeId}(h:Var w b vs T):Src 1 w ⟨some b,vs.length,vs.length⟩ vs:=by
 refine⟨by show _=vs.length*1;omega,(λh=>by cases h),λa c=>?_⟩
 cases c;show cA w b 0 (vs.length*1)=_;rw[fG,h.rd rfl]
theorem G2{w:J}{t:Y}{k:Key}(b:Nat)(a:Var w b [t] 48)(ht:a_ (λ_=>True) w t k):bq (λ_=>True) w ⟨some b,1,1⟩ [k]:=by
 refine⟨[t],rfl,a.B_,bl _,λq c=>⟨trivial,?_⟩,λi h1 h2=>?_⟩
 .obtain⟨A,ar,rfl⟩:=c
  cases ar;exact a.lt
 .have:i=0:=by simp at h1;omega
  subst this;exact ht
theorem G3{w:J}{x y:Nat}(b:Nat)(a:Var w b [x,y] 3):cK (λ_=>True) w ⟨some b,2,2⟩ [x,y]:=by
 refine⟨a.B_,bl _,λq c=>⟨trivial,?_⟩⟩;obtain⟨A,ar,rfl⟩:=c
 cases ar;exact a.lt
theorem G4{w:J}{T:aN}{c:dJ}{s:Y}{ks:O Key}{kids:O Nat}(h:du w T c)(H:ld (λq=>¬T.M q) w s ks kids)(A:kids.length=2->T.aI<12)(hs:∀k x y,ks=[k]->kids=[x,y]->cw k/\x<1600/\y<1600)
 (au:T.C.D.aQ<=900000080) (K:1<=cl T) (ax:c.made.length<=900):
 aR aj 249 #[.pointer (some c.cb),s] w (yq T c ks kids w):=by
 have ay:=h.t.num.2.1;refine okF (af.uV (some c.cb) s) aA.uV func249 ?_;(delta af.uV ak aL r1 ag ju U eP pt av;dsimp only);have o:Ext w w.drew:=cf w;have hd:=h.ext o;rcases H with ⟨b,x,rfl,rfl,rfl,l,B⟩|⟨b,x,y,k,t,rfl,rfl,rfl,l,B,ht,az⟩
 .refine⟨λ_=>aW ⟨_,rfl,⟨by decide,by show(0:Int)<((1:Nat):Int);decide⟩,id,_,by rw[aw,aw];exact l.drew.cell,_,rfl,id,_,hd.cells.1,_,rfl,id,_,hd.t.cells.2.2.2.2,?_⟩,λh=>(by cases h)⟩
  exact .inl ⟨x,rfl,rfl,rfl,hd,o⟩
 .have A:=A rfl
  obtain⟨s1,s2,aB⟩:=hs k x y rfl rfl;refine⟨λh=>(by cases h),λ_=>⟨_,rfl,_,h.cells.1,_,rfl,_,h.t.cells.2.2.2.2,λL=>?_,λ_=>?_⟩⟩
  .have:(T.aI:Int)=12:=by simpa using L
   omega
  have P:cH ⟨false,[k],[],[x,y]⟩:=.inr ⟨⟨λaC Q=>by rw[ff.1 Q];exact s1,List.pairwise_singleton _ _⟩,rfl,by simp,rfl,rfl,λz E=>by
   simp only[cU,eL,eO]at E;rcases E with rfl|rfl<;>assumption⟩
  have R:bM ⟨false,[k],[],[x,y]⟩<=232:=by
   have:=s1.2;simp[bM,cellsOf];omega
  have r:¬T.N b:=λS=>B (aN.gl S);have fin:∀ (d:J) (bo aL:Nat),Ext w d->Var d bo [t] 48->Var d aL [x,y] 3->
   aR aj 283 #[.pointer (some c.cb),.agg #[false,.slice (some bo) 1 1,(),.slice (some aL) 2 2]] d (λv w'=>∃n27:Int,∃n28:Int,v=.tuple #[n27,n28]/\ad T.N d w'/\
    ∀e,Ext w' e->yq T c [k] [x,y] w (.tuple #[n27,.int .i64 ((T.aI+1:Nat):Int),n28]) e/\∃ao c',du e ao c'/\c'.cb=c.cb/\ao.aZ=T.aZ/\ao.aI=T.aI):=by
   intro d bo aL hx V W;have c9:bF (λ_=>True) d ⟨false,[k],[],[x,y]⟩ ⟨some bo,1,1⟩ ⟨none,0,0⟩ ⟨some aL,2,2⟩:=by
    exact⟨G2 bo V (a_.aY (a_.ext ht hx) λ_ _ _=>trivial),bq.none _ _,G3 aL W⟩
   refine(vO (h.ext hx) I K I c9 P R).mono ?_;rintro v w' ⟨no,ao,c',p,f,X⟩;have F:=((dv.ext T c hx).trans f).mono (j:=1) I;rcases X with ⟨rfl,Z⟩|⟨rfl,aa⟩
   .refine⟨_,_,rfl,f.to.ab,λe g=>⟨.inr ⟨k,x,y,no,ao,c',rfl,rfl,p.ext g,(F.trans (dv.ext ao c' g)).mono I,.inl ⟨rfl,Z⟩⟩,ao,c',p.ext g,f.cb,f.to.aZ,f.aI⟩⟩
   .refine⟨_,_,rfl,f.to.ab,λe g=>⟨.inr ⟨k,x,y,no,ao,c',rfl,rfl,p.ext g,(F.trans (dv.ext ao c' g)).mono I,.inr ⟨rfl,aa⟩⟩,ao,c',p.ext g,f.cb,f.to.aZ,f.aI⟩⟩
  have ac:IntKind.wrap .i64 ((T.aI:Int)+1)=((T.aI+1:Nat):Int):=by rw[bA I I];rfl
  refine s3 (λa b w'=>∀e,Ext w' e->yq T c [k] [x,y] w (.tuple #[a,.int .i64 ((T.aI+1:Nat):Int),b]) e/\∃ao c',du e ao c'/\c'.cb=c.cb/\ao.aZ=T.aZ/\ao.aI=T.aI) (λq G=>aW ⟨T.N,_,rfl,⟨by decide,by show(1:Int)<((2:Nat):Int);decide⟩,r,t,by rw[aw];exact l.drew.cell,_,rfl,⟨by decide,by show(0:Int)<((2:Nat):Int);decide⟩,r,_,by rw[aw,aw];exact l.drew.cell,_,rfl,⟨by decide,by show(1:Int)<((2:Nat):Int);decide⟩,r,_,by rw[aw,aw];exact l.drew.cell,?_,?_⟩) ?_
  .refine bh (vs:=[t]) rfl λu ae m ah=>⟨ad.cJ m,bh (vs:=[x,y]) rfl λd ai i al=>⟨ad.cJ i,_,λ_=>B9 _ _ _,?_⟩⟩
   refine(fin d w.drew.heap.size u.heap.size (o.trans (m.trans i)) (ae.ext i) ai).use ?_;rintro _ w' ⟨n27,n28,rfl,hc,n⟩;exact⟨n27,n28,rfl,hc,G _ _ _ n⟩
  .refine bh (vs:=[x,y]) rfl λu am m ah=>⟨ad.cJ m,bh (vs:=[t]) rfl λd an i al=>⟨ad.cJ i,_,λ_=>B9 _ _ _,?_⟩⟩
   refine(fin d u.heap.size w.drew.heap.size (o.trans (m.trans i)) an (am.ext i)).use ?_;rintro _ w' ⟨n27,n28,rfl,hc,n⟩;exact⟨n27,n28,rfl,hc,G _ _ _ n⟩
  .intro a b ap n
   obtain⟨h1,ao,c',h2,aq,aD,ar⟩:=n _ (cf ap);have hc:=h2.cells.1;rw[aq]at hc;have ht:=h2.t.cells.2.2.2.2;refine aW ⟨_,rfl,id,_,hc,_,rfl,id,_,ht,?_⟩;rw[ar,ac];exact h1
theorem dj.yr{P:Nat->aq aD}{lo hi:aq Key}{h:Nat}{n:aD}{p:O Nat}{L:O aH}(a:dj P h n lo hi p L)(h2:n.leaf=true->bM n<=310)(d:n.leaf=false->bM n<=335)(g:n.leaf=false->n.keys≠ []):lN n:=by
 refine⟨?_,by cases e:n.leaf;exact eK (d e) (by decide);exact eK (h2 e) (by decide),λhs=>?_⟩
 .cases h with
  |zero=>exact a.elim
  |succ h=>
   cases h with
   |zero=>exact .inl a.1
   |succ h=>
    obtain⟨au,ay,b,c,f⟩:=a;have hs:=f.sorted λ_ _ _ _ _ i=>i.in;exact .inr ⟨⟨b,hs.2.2.1⟩,au,g au,f.len,ay,c⟩
 .obtain⟨au,ay,b,c,_⟩:=a.two (Q:=P) (x:=0) (y:=0) hs h2 d
  exact⟨au,ay,b,c⟩
section
variable {P:Nat->aq aD}{lo hi:aq Key}
theorem G5{h:Nat}{d f:aD}{p A:aq Key}{i:Nat}{bn D:O Nat}{a7 hT:O aH}{k:Key}(E:∀k∈d.keys,cw k)(hlen:d.kids.length=d.keys.length+1)(F:∀x n,P x=some n->bM n<=232)
 (dM:1<=i) (Q:i<d.kids.length) (B:fu p A k)
 (G:fE (fw P (h+1)) lo p (d.keys.take i) (d.kids.take i) bn a7) (q:dj P (h+1) f p A D hT) (h1:bM f<80):
 ∃ (o:aD) (R:i-1<d.kids.length) (S:i-1<d.keys.length),P d.kids[i-1]=some o/\o.leaf=f.leaf/\cw d.keys[i-1]/\lN (ed o d.keys[i-1] f):=by
 obtain⟨s,H,aG,r,aM,N,hs,rfl,t,rfl,rfl,⟨u,m,g,v⟩,T,U⟩:=G.last (by rw[cG];omega);have V:(d.keys.take i).length=i:=by rw[cG];omega
 have W:(d.kids.take i).length=i:=by rw[cG];omega
 have t:s=d.keys[i-1]'I:=by
  rw[t,oT];congr 1;omega
 have J:(d.kids.take i)[(d.kids.take i).length-1]'I=d.kids[i-1]'I:=by
  rw[oT];congr 1;omega
 rw[J]at u g;obtain⟨o,K,j,rfl,_,w⟩:=u.kE;rw[j]at g;have v:2<=o.keys.length:=by rw[Option.some.inj g];exact v
 clear g;subst t;have y:=(show fw P (h+1) H (some (d.keys[i-1]'I)) (d.kids[i-1]'I) (d.kids[i-1]'I::K) N from⟨u,o,j,v⟩).in;obtain⟨x,hx⟩:=qB _ y.1;have z:=E _ (cF (l:=d.keys) (n:=i-1) I);have L:=dj.merge w q z (λc hc=>iH (j7 ((y.2.2 x hx).1 c hc) ((y.2.2 x hx).2 _ rfl))) (λc hc=>iH (j7 (B.1 _ rfl) (B.2 c hc)));have C:=vl w q z (by have:=F _ _ j;omega);have M:=vk (a:=o) (b:=f) (s:=d.keys[i-1]'I);refine⟨o,I,I,j,by rw[w.leaf,q.leaf],z,L.yr C.1 C.2 λ_ e=>?_⟩;rw[e,jJ]at M;omega
theorem G6{h:Nat}{d f:aD}{B q:aq Key}{i:Nat}{bp E:O Nat}{hT bB:O aH}{k:Key}(F:∀k∈d.keys,cw k)(hlen:d.kids.length=d.keys.length+1)(G:∀x n,P x=some n->bM n<=232)
 (g:i+1<d.kids.length) (C:fu B q k)
 (H:gz (fw P (h+1)) hi q (d.keys.drop i) (d.kids.drop (i+1)) bp bB) (t:dj P (h+1) f B q E hT) (h1:bM f<80):
 ∃ (o:aD) (R:i+1<d.kids.length) (S:i<d.keys.length),P d.kids[i+1]=some o/\o.leaf=f.leaf/\cw d.keys[i]/\lN (ed f d.keys[i] o):=by
 obtain⟨s,J,r,T,N,U,hs,rfl,u,rfl,rfl,⟨v,m,j,w⟩,V⟩:=H.head (by rw[da];omega);have u:s=d.keys[i]'I:=by rw[u,qG];rfl
 have K:(d.kids.drop (i+1))[0]'(by rw[da];omega)=d.kids[i+1]'g:=by rw[qG]
 rw[K]at v j;obtain⟨o,L,p,rfl,_,y⟩:=v.kE;rw[p]at j;have w:2<=o.keys.length:=by rw[Option.some.inj j];exact w
 clear j;subst u;have z:=(show fw P (h+1) (some (d.keys[i]'I)) J (d.kids[i+1]'g) (d.kids[i+1]'g::L) N from⟨v,o,p,w⟩).in;obtain⟨x,hx⟩:=qB _ z.1;have A:=F _ (cF (l:=d.keys) (n:=i) I);have M:=dj.merge t y A (λc hc=>iH (j7 (C.1 c hc) (C.2 _ rfl))) (λc hc=>iH (j7 ((z.2.2 x hx).1 _ rfl) ((z.2.2 x hx).2 c hc)));have D:=vl t y A (by have:=G _ _ p;omega);have Q:=vk (a:=f) (b:=o) (s:=d.keys[i]'I);refine⟨o,g,I,p,by rw[y.leaf,t.leaf],A,M.yr D.1 D.2 λ_ e=>?_⟩;rw[e,jJ]at Q;omega
inductive Ctx (P:Nat->aq aD) (k:Key) (top:Nat):Nat->aq Key->aq Key->O (Nat×aD×Nat)->O Nat->O aH->O aH->Prop
 |top:Ctx P k top top none none [] [] [] []
 |step {eT:Nat}{lo hi a b:aq Key}{st:O (Nat×aD×Nat)}{cD:O Nat}{A B:O aH}{no:Nat}{n:aD}{bn bp:O Nat}{a7 bB:O aH} (h:Ctx P k top (eT+2) lo hi st cD A B) (c:P no=some n) (d:n.leaf=false) (e:∀k∈n.keys,cw k) (f:∀x∈n.kids,x<1600)
  (hlen:n.kids.length=n.keys.length+1) (g:n.keys≠ []) (i:st≠ []->2<=n.keys.length) (j:fu a b k) (l:fE (fw P (eT+1)) lo a (n.keys.take (dt n.keys k)) (n.kids.take (dt n.keys k)) bn a7)
  (m:gz (fw P (eT+1)) hi b (n.keys.drop (dt n.keys k)) (n.kids.drop (dt n.keys k+1)) bp bB):Ctx P k top (eT+1) a b (st++ [(no,n,dt n.keys k)]) (no::(bn++(bp++cD))) (A++a7) (bB++B)
theorem Ctx.eT{k:Key}{top eT:Nat}{st:O (Nat×aD×Nat)}{cD:O Nat}{A B:O aH}(h:Ctx P k top eT lo hi st cD A B):eT+st.length=top:=by
 induction h with
 |top=>rfl
 |step h _ _ _ _ _ _ _ _ _ _ a=>rw[cz,jn];omega
theorem Ctx.agree{Q:Nat->aq aD}{k:Key}{top eT:Nat}{st:O (Nat×aD×Nat)}{cD:O Nat}{A B:O aH}(h:Ctx P k top eT lo hi st cD A B)(a:∀x∈cD,P x=Q x):Ctx Q k top eT lo hi st cD A B:=by
 induction h with
 |top=>exact .top
 | @step eT lo hi p q st cD A B no n bn bp a7 bB h c d e f hlen g i j l m o=>
  refine .step (o λx hx=>a x (by simp[hx])) (by rw[←a no (by simp)];exact c) d e f hlen g i j (l.lJ λ_ _ _ _ _ hs b=>b.agree λx hx=>a x ?_) (m.lJ λ_ _ _ _ _ hs b=>b.agree λx hx=>a x ?_)
  .have:=hs x hx;simp[this]
  .have:=hs x hx;simp[this]
theorem Ctx.down{k:Key}{top:Nat}:∀ {eT:Nat}{lo hi:aq Key}{st:O (Nat×aD×Nat)}{cD:O Nat}{A B M aM:O aH}{no:Nat}{p:O Nat},Ctx P k top (eT+1) lo hi st cD A B->ej P (eT+1) lo hi no p M->(st≠ []->∃m,P no=some m/\2<=m.keys.length)->fu lo hi k->aM=A++(M++B)->(∀u,Loc k u->u aM=A++(u M++B))->
 ∃ (rest a:O (Nat×aD×Nat)) (b:Nat) (bW:aD) (fc dM:aq Key) (f:O Nat) (c d:O aH),nk P k (eT+1) no rest/\st++rest=a++ [(b,bW,0)]/\Ctx P k top 1 fc dM a f c d/\P b=some bW/\gT bW/\bW.within fc dM/\bW.keys≠ []/\(a≠ []->2<=bW.keys.length)/\fu fc dM k/\
  (p++cD).Perm (b::f)/\aM=c++(bW.dL++d)/\∀u,Loc k u->u aM=c++(u bW.dL++d)
 |0,lo,hi,st,cD,A,B,M,aM,no,p,hc,h,h2,i,j,hu=>by
  obtain⟨n,h1,g,v,w,rfl,rfl⟩:=h
  refine⟨[(no,n,0)],st,no,n,lo,hi,cD,A,B,⟨n,[],h1,by rw[g.leaf];rfl,rfl,rfl⟩,rfl,hc,h1,g,v,w,λhs=>?_,i,List.Perm.refl _,j,hu⟩
  obtain⟨m,e,l⟩:=h2 hs
  rw[h1]at e;cases e
  exact l
 |eT+1,lo,hi,st,cD,A,B,M,aM,no,p,hc,h,h2,i,j,hu=>by
  obtain⟨n,U,h1,rfl,g,o⟩:=h.kE
  obtain⟨V,W,bn,q,bp,a7,hT,bB,x,rfl,rfl,r,s,y,hlen,z,C⟩:=o.at i
  obtain⟨au,ay,D,E,_⟩:=o
  have F:=Ctx.step hc h1 au D E hlen g (λhs=>by
   obtain⟨m,e,l⟩:=h2 hs
   rw[h1]at e;cases e
   exact l) s z C
  obtain⟨rest,a,b,bW,fc,dM,f,c,d,r1,b3,ag,br,bc,G,H,J,K,L,N,Q⟩:=Ctx.down (aM:=aM) F r.1 (λ_=>r.2) s (by rw[j];simp only[cP]) (λu t=>by rw[hu u t,y u t];simp only[cP])
  refine⟨(no,n,dt n.keys k)::rest,a,b,bW,fc,dM,f,c,d,⟨n,rest,h1,by rw[au];simp,by rw[if_neg I],?_⟩,?_,ag,br,bc,G,H,J,K,?_,N,Q⟩
  .rw[fC,dE x]
   exact r1
  .rw[←b3];simp
  .refine List.Perm.trans ?_ L
   have R:(no::(bn++(q++bp))++cD)=no::(bn++(q++(bp++cD))):=by simp[cP]
   rw[R]
   have S:(q++no::(bn++(bp++cD))).Perm (no::(q++(bn++(bp++cD)))):=mG
   refine List.Perm.trans ?_ S.symm
   refine List.Perm.cons _ ?_
   have T:=(qE (l₁:=bn) (l₂:=q)).append_right (bp++cD)
   simpa[cP] using T
end
theorem yt{α:Type}(a b c:O α):(a++(b++c)).Perm (a++c++b):=by
 rw[cP];exact(qE (l₁:=b) (l₂:=c)).append_left a
theorem Ctx.up{P:Nat->aq aD}{lo hi:aq Key}{k:Key}{top eT:Nat}{st R:O (Nat×aD×Nat)}{cD:O Nat}{A B:O aH}{u:dD}{a:aD}{q:O Nat}{M:O aH}(hc:Ctx P k top eT lo hi st cD A B)(aa:st=R++ [u.st])(c:dj P eT a lo hi q M)(F:∀x n,P x=some n->bM n<=232)(hs:bM a<=282):
 ∃ (d f:aq Key) (G:O Nat) (g j:O aH) (ps:O Nat),Ctx P k top (eT+1) d f R G g j/\cD=u.no::(ps++G)/\P u.no=some u.n/\u.cY<u.n.kids.length/\u.n.kids.length=u.n.keys.length+1/\u.n.keys≠ []/\(R≠ []->2<=u.n.keys.length)/\
  (80<=bM a->∀ (Q:Nat->aq aD) (ks:O Key) (kids:O Nat),mb Q a ks kids->(∀x∈ps++q,P x=Q x)->(∀x∈kids,x<1600)->∃ (dG:O Nat) (l:O aH),dj Q (eT+1) (gf u.n u.cY (u.cY+1) ks kids) d f dG l/\g++(l++j)=A++(M++B)/\dG.Perm (kids++(ps++q))/\
    bM (gf u.n u.cY (u.cY+1) ks kids)<=bM u.n+27/\u.n.keys.length<=(gf u.n u.cY (u.cY+1) ks kids).keys.length+1)/\
  (bM a<80->∃ (o:aD) (no:Nat) (rest:O Nat),u.n.kids[jR u]? =some no/\P no=some o/\o.leaf=a.leaf/\u.cY-1<u.n.keys.length/\cw (u.n.keys.getD (u.cY-1) [])/\lN (lP u a o)/\ps.Perm (no::rest)/\
    ∀ (Q:Nat->aq aD) (ks:O Key) (kids:O Nat),mb Q (lP u a o) ks kids->(∀x∈rest++q,P x=Q x)->(∀x∈kids,x<1600)->∃ (dG:O Nat) (l:O aH),dj Q (eT+1) (gf u.n (u.cY-1) (u.cY-1+2) ks kids) d f dG l/\g++(l++j)=A++(M++B)/\dG.Perm (kids++(rest++q))/\
     bM (gf u.n (u.cY-1) (u.cY-1+2) ks kids)<=bM u.n+27/\u.n.keys.length<=(gf u.n (u.cY-1) (u.cY-1+2) ks kids).keys.length+1):=by
 cases hc with
 |top=>
  have:=congrArg List.length aa;simp at this
 | @step eT d f _ _ ar G g j ab H bn bp a7 bB h ah S m T hlen ac ai J p r=>
  obtain⟨rfl,h2⟩:=List.append_inj' aa rfl;have U:(ab,H,dt H.keys k)=u.st:=by simpa using h2
  have aj:ab=u.no:=congrArg Prod.fst U;have ak:H=u.n:=congrArg (λx=>x.2.1) U;have ad:dt H.keys k=u.cY:=congrArg (λx=>x.2.2) U;subst aj ak;rw[ad]at p r;have al:=vi u.n.keys k;rw[ad]at al;refine⟨d,f,G,g,j,bn++bp,h,by rw[cP],ah,I,hlen,ac,ai,λb Q ks kids hf s t=>?_,λb=>?_⟩
  .obtain⟨v,au,ay,w,K⟩:=Fa S m T p r c b hs hf (λx hx=>s x (by
    simp only[cT]at hx⊢;rcases hx with hx|hx|hx
    .exact .inl (.inl hx)
    .exact .inr hx
    .exact .inl (.inr hx))) t
   refine⟨v,_,au,by simp only[cP],ay.trans (List.Perm.append_left kids ?_),w,I⟩;exact yt bn q bp
  .by_cases h0:u.cY=0
   .obtain⟨o,L,N,y,V,W,X⟩:=G6 m hlen F (i:=u.cY) (by
     have:u.n.keys.length≠0:=λe=>ac (List.eq_nil_of_length_eq_zero e);omega) J r c b
    obtain⟨am,ae,an,ao,z,Y,_,Z⟩:=Fc S m T hlen F L J p r c b;rw[y]at z;obtain rfl:=Option.some.inj z;have C:jR u=u.cY+1:=by unfold jR;rw[if_pos h0,h0]
    have af:u.cY-1=u.cY:=by omega
    have D:u.n.keys.getD (u.cY-1) []=u.n.keys[u.cY]:=by rw[af,fC,dE N];rfl
    have E:lP u a o=ed a u.n.keys[u.cY] o:=by unfold lP;rw[if_pos (by rw[C];omega),D]
    refine⟨o,u.n.kids[u.cY+1],bn++ae,by rw[C];exact dE L,y,V,I,by rw[D];exact W,by rw[E];exact X,?_,λQ ks kids hf s t=>?_⟩
    .exact(List.Perm.append_left bn Y).trans mG
    .rw[E]at hf
     obtain⟨v,au,ay,w,K⟩:=Z Q ks kids hf (λx hx=>s x (by
      simp only[cT]at hx⊢;rcases hx with hx|hx|hx
      .exact .inl (.inl hx)
      .exact .inr hx
      .exact .inl (.inr hx))) t
     rw[af];exact⟨v,_,au,by simp only[cP],ay.trans (List.Perm.append_left kids (yt bn q ae)),w,K⟩
   .obtain⟨o,L,N,y,V,W,X⟩:=G5 m hlen F (i:=u.cY) I I J p c b
    obtain⟨am,ag,an,ao,z,Y,_,Z⟩:=Fb S m T hlen F I I J p r c b;rw[y]at z;obtain rfl:=Option.some.inj z;have C:jR u=u.cY-1:=by unfold jR;rw[if_neg h0]
    have D:u.n.keys.getD (u.cY-1) []=u.n.keys[u.cY-1]:=by rw[fC,dE N];rfl
    have E:lP u a o=ed o u.n.keys[u.cY-1] a:=by unfold lP;rw[if_neg (by rw[C];omega),D]
    have ap:u.cY-1+2=u.cY+1:=by omega
    refine⟨o,u.n.kids[u.cY-1],ag++bp,by rw[C];exact dE L,y,V,N,by rw[D];exact W,by rw[E];exact X,?_,λQ ks kids hf s t=>?_⟩
    .exact(Y.append_right bp)
    .rw[E]at hf
     obtain⟨v,au,ay,w,K⟩:=Z Q ks kids hf (λx hx=>s x (by
      simp only[cT]at hx⊢;rcases hx with hx|hx|hx
      .exact .inl (.inl hx)
      .exact .inr hx
      .exact .inl (.inr hx))) t
     rw[ap];exact⟨v,_,au,by simp only[cP],ay.trans (List.Perm.append_left kids (yt ag q bp)),w,K⟩
theorem du.G7{w:J}{T:aN}{c:dJ}{E:Nat->Prop}(h:du w T c)(b:∀q,E q->T.E q):du w (T.ck E T.G) c:=
 h.of (ao:=T.ck E T.G) (W:=λ_=>False) (h.t.grow (W:=λ_=>False) (ad.refl _ _) (λ_ h=>h.elim) (λq a=>.inl (b q a)) (λq a=>.inr (.inl a)) λq a=>(h.t.c8 q (b q a)).2.2) (ad.refl _ _) (λ_ _ h=>h) rfl λ_ h=>h
theorem dv.local{T ao:aN}{c c':dJ}{m l:O Nat}{bf:Nat->Prop}{w w1 w':J}{k:Nat}(h:dv (T.ck bf T.G) ao c c' m l w1 w' k)(hx:Ext w w1)(b:∀q,bf q->T.E q\/w.heap.size<=q)(d:∀q,T.E q->bf q):dv T (ao.ck T.E ao.G) c c' m l w w' k:=
 ⟨h.to.local hx b (λq a=>.inl a) (λq a=>.inl (by rw[h.E];exact d q a)) λq a=>a,rfl,h.G,h.root,h.aI,h.cb,h.made,h.left,h.bj,h.jQ,h.f,h.eN,h.room⟩
theorem du.Ca{w w':J}{T:aN}{c:dJ}{W:Nat->Prop}(h:du w T c)(hc:ad W w w')(cd:∀q,W q->T.E q\/w.heap.size<=q):du w' T c:=by
 have b:ad (λq=>T.E q) w w':=cu (W:=λq=>T.E q) (ad.refl _ _) hc λq a d=>(cd q d).resolve_right I;exact h.of (h.t.grow (E:=T.E) (G:=T.G) b (λq a _=>.inl a) (λq a=>.inl a) (λq a=>.inr (.inl a)) λq a=>(h.t.c8 q a).2.2) b (λq hg he=>(h.t.c8 q he).2.2 hg) rfl λ_ h=>h
theorem ki.to{w w':J}{T ao:aN}{k:Nat}{s:Y}{l:O dD}(h:ki (λq=>¬T.M q) w s l)(ht:bQ T ao w w' k):ki (λq=>¬ao.M q) w' s l:=by
 refine⟨h.own.ab ht.ab λq a c=>h.oG q a (aN.gl c),λq a d=>?_,λx hx=>?_⟩
 .rcases ht.c7 q d with h1|h1
  .exact h.oG q a h1
  .have:=bd.lt h.own q a;omega
 .exact(ht.bj (lo:=0) ((h.bj x hx).aY λq _ b=>⟨cL _,b⟩)).aY λq _ b=>b.2
theorem ki.at{B:Nat->Prop}{w:J}{s:Y}{l:O dD}(h:ki B w s l){i:Nat}(hi:i<l.length):∃A:ae,s.a=some A/\s.len=l.length/\B A.block/\w.cell? (A.add (i*6))=some (.int .i64 ((l[i]).no:Nat))/\lO B w (A.add (i*6)) l[i]:=by
 have f:=h.own.1;rw[gM _ (nj l)]at f;have g:s.len=l.length:=by omega
 rcases h.own.2.2.2 with ⟨h1,h2⟩|⟨b,c,e,k,o,m⟩
 .have:=h.own.2.1
  omega
 .have d:∀j,j<6->w.cell? ⟨b,i*6+j,none⟩=((dD.c l[i]))[j]? :=λj n=>by
   rw[bz.cell k,←rL (nj l) hi n,←m];rw[sk,if_pos I,Array.getElem?_toList]
  refine⟨b,e,g,h.oG b ⟨_,e,rfl⟩,?_,?_⟩
  .rw[aw,cy]
   exact d 0 (by decide)
  .rw[aw,cy]
   refine⟨?_,?_,?_,?_,?_,h.bj _ (cF hi),h.oG b ⟨_,e,rfl⟩,bd.lt h.own b ⟨_,e,rfl⟩⟩
   .rw[aw];exact d 1 (by decide)
   .rw[aw,aw];exact d 2 (by decide)
   .rw[aw,aw];exact d 3 (by decide)
   .rw[aw,aw];exact d 4 (by decide)
   .rw[aw];exact d 5 (by decide)
theorem Ctx.Cb{P:Nat->aq aD}{lo hi:aq Key}{k:Key}{top eT:Nat}{cD:O Nat}{A B:O aH}(h:Ctx P k top eT lo hi [] cD A B):eT=top/\lo=none/\hi=none/\cD=[]/\A=[]/\B=[]:=by
 generalize a:([]:O (Nat×aD×Nat))=st at h
 cases h with
 |top=>exact⟨rfl,rfl,rfl,rfl,rfl,rfl⟩
 |step h=>
  have:=congrArg List.length a;simp at this
def mu(T:aN)(c:dJ)(aG:O Nat)(ef:O aH)(w:J)(v:aa)(w':J):Prop:=
 ∃ (ao:aN) (c':dJ) (m l:O Nat),du w' ao c'/\dv T ao c c' m l w w' 60/\
  ((v=.tuple #[(0:Int),(0:Int),(0:Int)]/\ef=[]/\l.Perm (m++aG)/\m.length<=2*T.aI+3)\/
   (∃ (root h:Nat) (pages:O Nat),v=.tuple #[root,h,(0:Int)]/\ej ao.P h none none root pages ef/\(pages++l).Perm (m++aG)/\1<=h/\h<=T.aI+1/\m.length<=2*T.aI+3)\/
   (∃a b:Int,v=.tuple #[a,b,(3:Int)]/\¬T.C.D.calm 60))
theorem mu.local{T:aN}{c:dJ}{aG:O Nat}{ef:O aH}{bf:Nat->Prop}{w w1 w':J}{v:aa}(h:mu (T.ck bf T.G) c aG ef w1 v w')(hx:Ext w w1)(b:∀q,bf q->T.E q\/w.heap.size<=q)(a:∀q,T.E q->bf q):mu T c aG ef w v w':=by
 obtain⟨ao,c',m,l,h1,h2,d⟩:=h;exact⟨ao.ck T.E ao.G,c',m,l,h1.G7 λq e=>by rw[h2.E];exact a q e,h2.local hx b a,d⟩
structure G8(bP:aN)(c:dJ)(b:J)(a:O dD)(k:Key)(aG:O Nat)(ef:O aH)(ws:Y)(hE:Nat)(i:Nat)(w':J)(ao:aN)(c':dJ)(m l:O Nat)(n:aD)(K V D:Y)(lo hi:aq Key)(cD:O Nat)(A B:O aH)(q:O Nat)(M:O aH)(r:O Nat):Prop where
 tf:i<a.length
 yu:du w' ao c'
 to:dv bP ao c c' m l b w' (4*(a.length-1-i))
 oH:m.length<=2*(a.length-1-i)
 ll:l.length<=2*(a.length-1-i)
 hE:Var w' hE (dZ n K V D) 202
 bj:bF (λq=>¬ao.M q) w' n K V D
 im:ki (λq=>¬ao.M q) w' ws a
 ctx:Ctx ao.P k a.length (a.length-i) lo hi ((a.take i).map dD.st) cD A B
 kE:dj ao.P (a.length-i) n lo hi q M
 eq:A++(M++B)=ef
 pp:aG.Perm ((a[i]).no::(r++cD))
 acc:(q++l).Perm (m++r)
 sz:bM n<=282
 G9:1<=i->n.keys≠ []
 Cc:∀x∈q++cD,ao.f x=true
theorem bJ.nm{w:J}{T:aN}(h:bJ w T):∀x n,T.P x=some n->bM n<=232:=λx n hx=>(h.eo x n hx).2.is.2.2
theorem h4.cs{T:aN}{c:dJ}{n:aD}{w w':J}{s:Y}{e:Int}(h:h4 T c n w (.tuple #[s,e]) w'):
 ∃ (ao:aN) (c':dJ) (m:O Nat),du w' ao c'/\dv T ao c c' m [] w w' 2/\m.length<=2/\((e=0/\∃ks,mb ao.P n ks m/\ld (λq=>¬ao.M q) w' s ks m)\/(e=3/\¬T.C.D.calm 2)):=by
 obtain⟨ao,c',m,s2,h1,h2,d,f⟩:=h;refine⟨ao,c',m,h1,h2,d,?_⟩;rcases f with ⟨ks,a,b,g⟩|⟨a,b⟩
 .simp at a
  obtain⟨⟨a1,a2,a3⟩,rfl⟩:=a;obtain rfl:s=s2:=by cases s;cases s2;simp_all
  exact .inl ⟨rfl,ks,b,g⟩
 .simp at a
  exact .inr ⟨a.2,b⟩
theorem G_{P Q c:Nat->aq aD}{t:Nat}{n:aD}{q:O Nat}{M:O aH}{a:Key}{x y no:Nat}(d:dj P (t+1) n none none q M)(hs:bM n<=282)(hf:mb Q n [a] [x,y])(i:∀z∈q,P z=Q z)(j:c no=some ⟨false,[a],[],[x,y]⟩)(k:∀z∈x::y::q,Q z=c z)(hx:x<1600)(m:y<1600):
 cw a/\∃pages,ej c (t+2) none none no pages M/\pages.Perm (no::x::y::q):=by
 have o:232<bM n:=by
  rcases hf with ⟨_,z,e,_⟩|⟨h,_⟩
  .cases e
  .exact h
 obtain⟨f,au,ay,g,_⟩:=d.fits (d.xv I) (λ_=>I) (λ_=>I) hf i;have l:dj Q (t+2) ⟨false,[a],[],[x,y]⟩ none none f M:=⟨rfl,rfl,g,λz b=>by
  simp only[cU,eL,eO]at b;rcases b with rfl|rfl<;>assumption,au⟩
 refine⟨g a (by simp),no::f,l.lay (by simp) j λz b=>k z ?_,List.Perm.cons no ay⟩;have:=ay.mem_iff.1 b;simpa using this
theorem np{a b:O Nat}:a.Perm b↔∀x,a.count x=b.count x:=List.perm_iff_count
theorem mv{q l m r:O Nat}{no:Nat}(h:(q++l).Perm (m++r)):(q++(l++ [no])).Perm (m++(no::r)):=by
 rw[np]at h⊢;intro x;have:=h x;simp only[nz,oY,oZ]at this⊢;omega
theorem jg{q l m r dG ps ms ls rest:O Nat}(h:(q++l).Perm (m++r))(h2:dG.Perm (ms++(rest++q)))(a:ps.Perm (ls++rest)):(dG++(l++ls)).Perm ((m++ms)++(ps++r)):=by
 rw[np]at h h2 a⊢;intro x;have:=h x;have:=h2 x;have:=a x;simp only[nz,oY,oZ]at*;omega
theorem mw{aG r ps a:O Nat}{u:Nat}(h:aG.Perm (r++(u::(ps++a)))):aG.Perm (u::((ps++r)++a)):=by
 rw[np]at h⊢;intro x;have:=h x;simp only[nz,oY,oZ]at*;omega
theorem Ha{w:J}{T:aN}{c:dJ}{d:O dD}{k:Key}{aG cD:O Nat}{ef A B M:O aH}{lo hi:aq Key}{ws:Y}{n:aD}{K V D:Y}(h:du w T c)(bT:ki (λq=>¬T.M q) w ws d)(bv:bF (λq=>¬T.M q) w n K V D)(eE:0<d.length)(hlen:d.length=T.aI)(eF:T.aI<12)
 (eG:T.C.D.aQ<=900000000) (eH:2*T.aI+3<=cl T) (eI:c.made.length<=100) (eJ:c.left.length<=100) (cB:Ctx T.P k d.length 1 lo hi ((d.take (d.length-1)).map dD.st) cD A B) (L:dj T.P 1 n lo hi [] M) (an:A++(M++B)=ef)
 (N:aG.Perm ((d[d.length-1]'I).no::cD)) (bw:bM n<=282) (a6:2<=d.length->n.keys≠ []) (Q:∀x∈cD,T.f x=true):
 aR aj 208 #[.pointer (some c.cb),ws,c2 n K V D] w (mu T c aG ef w):=by
 refine okF (af.n0 (some c.cb) ws n.leaf K V D) aA.n0 func208 ?_;(delta af.n0 bc U ag cj av ak aL r1 st pq nQ fI cc;dsimp only);refine bh (vs:=dZ n K V D) rfl λw1 cC cE eK=>?_;obtain⟨bX,aC,aU,aO⟩:=bH cC;refine⟨_,bX,K,aC,V,aU,D,aO,bh (vs:=[false,(),(),()]) rfl λeL bU cF eM=>⟨bU.b9 rfl fK,rfl,cr bU (us:=dZ n K V D) rfl rfl λbx bz cH eO=>?_⟩⟩;have bV:Ext w bx:=cE.trans (Ext.cn cF cH (bl _));obtain⟨hE,cK⟩:∃hE,hE=w1.heap.size:=⟨_,rfl⟩;rw[←cK]at bz⊢;obtain⟨bf,bB⟩:∃bf,bf=λq=>T.E q\/q=hE:=⟨_,rfl⟩;have cM:∀q,T.E q->bf q:=λq F=>by rw[bB];exact .inl F
 have a7:∀q,bf q->T.E q\/q=hE:=λq F=>by rw[bB]at F;exact F
 have cN:bf hE:=by rw[bB];exact .inr rfl
 have eP:=bz.lt;have cO:du bx (T.ck bf T.G) c:=h.of (W:=λ_=>False) (h.t.grow (W:=λ_=>False) bV (λ_ h=>h.elim) (λq F=>(a7 q F).imp id λe=>.inr ⟨I,I⟩) (λq F=>.inr (.inl F)) λq F hg=>by
  rcases a7 q F with h1|h1
  .exact(h.t.c8 q h1).2.2 hg
  .have:=h.t.lt (q:=q) (.inr (.inr (.inr (.inr hg))));omega) bV (λ_ _ h=>h) rfl λ_ h=>h
 have bY:bQ T (T.ck bf T.G) w bx 0:=(bQ.refl T w).step (W:=λ_=>False) bV (λ_ h=>h.elim) (λq F=>(a7 q F).imp id λe=>.inr I) λq F=>.inl F;have conv:∀ (v:aa) (w':J),mu (T.ck bf T.G) c aG ef w1 v w'->mu T c aG ef w v w':=λv w' hu=>hu.local cE (λq F=>(a7 q F).imp id λe=>I) cM;obtain⟨bP,ap⟩:∃bP,bP=T.ck bf T.G:=⟨_,rfl⟩;have bZ:=bT.to bY;have b0:bF (λq=>¬(T.ck bf T.G).M q) bx n K V D:=(bY.bj (lo:=0) (bv.aY λq _ R=>⟨cL _,R⟩)).aY λq _ R=>R.2;have cR:bP.P=T.P:=by rw[ap];rfl
 have b1:bP.f=T.f:=by rw[ap];rfl
 have dN:bP.E hE:=by rw[ap];exact cN
 have eQ:cl bP=cl T:=by rw[ap];rfl
 have dO:bP.C=T.C:=by rw[ap];rfl
 have dP:bP.aI=T.aI:=by rw[ap];rfl
 rw[←ap]at cO bZ b0 conv;clear ap bY bB cM a7 cN;have eR:hE=w1.heap.size:=cK;have eT:ws.len=d.length:=by
  have:=bT.own.1;rw[gM _ (nj d)]at this;omega
 refine⟨λn10 w'=>∃ (i:Nat) (ao:aN) (c':dJ) (m l:O Nat) (n:aD) (K V D:Y) (lo hi:aq Key) (cD:O Nat) (A B:O aH) (q:O Nat) (M:O aH) (r:O Nat),n10=(i:Nat)/\G8 bP c w1 d k aG ef ws hE i w' ao c' m l n K V D lo hi cD A B q M r,λn10 _=>(n10+1).toNat,
  ⟨d.length-1,bP,c,[],[],n,K,V,D,lo,hi,cD,A,B,[],M,[],?_,?_⟩,?_⟩
 .rw[bA I I];omega
 .have e:d.length-(d.length-1)=1:=by omega
  refine⟨I,cO,(dv.ext bP c (Ext.cn cF cH (bl _))).mono I,cL _,cL _,bz,b0,bZ,by rw[e,cR];exact cB,by rw[e,cR];exact L,an,by simpa using N,List.Perm.refl _,bw,λh1=>a6 I,λx hx=>by rw[b1];exact Q x (by simpa using hx)⟩
 clear cB L an N bw a6 Q bv b0 bz bT bZ cC bX aC aU aO bU;rintro _ b2 ⟨i,ao,c',m,l,n,K,V,D,lo,hi,cD,A,B,q,M,r,rfl,g⟩;have cS:=g.tf;have bD:=g.to.cb;refine⟨λ_=>aW ?_,λR=>?_⟩
 rotate_left
 .have:¬(i:Int)>=0:=cv R
  omega
 have aP:Ext b2 b2.drew:=cf _;obtain⟨b3,dQ⟩:∃b3,b3=b2.drew:=⟨_,rfl⟩;rw[←dQ]at aP⊢;have a8:=g.yu.ext aP;have cV:=a8.cells.2.2;rw[bD]at cV;have cW:ki (λq=>¬ao.M q) b3 ws d:=g.im.to (bQ.ext ao aP);obtain⟨a9,b5,eU,dR,dS,_⟩:=cW.at cS;have eV:c'.left.length<=200:=by rw[g.to.left,cz];have:=g.ll;omega
 have dT:c'.made.length<=200:=by rw[g.to.made,cz];have:=g.oH;omega
 obtain⟨aS,cX,au,ay,aT,aE,aF⟩:=B0 a8 (d[i]).no I;rw[bD]at aT aE aF;have dV:∀n,(a9.add n).block=a9.block:=λn=>by unfold Addr.add;split<;>rfl
 have dW:∀q,aB c'.gD q->ao.M q:=λq F=>.inr (.inr (.inr (.inr (a8.kI q F).1)));refine⟨aB c'.gD,_,rfl,λF=>(a8.kI _ F).2 (by rw[bD,aw]),c'.gD,cV,a9,b5,⟨I,I⟩,λF=>dR (dW _ ((dV _)▸F)),_,by rw[dd];exact dS,aW ⟨ad.cJ (eS _ _),aS,cX,au,ay,_,rfl,by rw[aw];exact aT,by rw[aw];exact aE,aW ?_⟩⟩;rw[aw,cy];obtain⟨X,cZ⟩:∃X,X=cX.setCell ⟨c.cb,2,none⟩ aS:=⟨_,rfl⟩;rw[←cZ];obtain⟨ah,a_⟩:=aF X cZ;have b6:=dv.leave (c:=c') (c':=⟨c.cb,c'.ma,aS,c'.made,c'.left++ [(d[i]).no]⟩) (no:=(d[i]).no) a_ rfl (λq F=>.inl F) bD.symm rfl rfl;have ac:=(g.to.trans (dv.ext ao c' aP)).trans b6;simp only[f_,kO]at ac;have c0:ao.E hE:=by rw[g.to.E];exact dN
 have b7:=(g.hE.ext aP).ab a_.ab (a8.t.jf c0);have ca:=cW.to a_;have ba:bF (λq=>¬(ao.ck ao.E λq=>ao.G q\/aB aS q).M q) X n K V D:=(a_.bj (lo:=0) ((g.bj.ext aP).aY λq _ R=>⟨cL _,R⟩)).aY λq _ R=>R.2;obtain⟨b4,aV⟩:∃b4,b4=ao.ck ao.E λq=>ao.G q\/aB aS q:=⟨_,rfl⟩;have bn:b4.P=ao.P:=by rw[aV];rfl
 have bp:b4.f=ao.f:=by rw[aV];rfl
 have eW:cl b4=cl ao:=by rw[aV];rfl
 have c1:b4.E hE:=by rw[aV];exact c0
 have c3:b4.aI=T.aI:=by rw[aV];show ao.aI=_;rw[g.to.aI,dP]
 rw[←aV]at ah a_ b6 ac ca ba;obtain⟨aU,bE⟩:∃aU:dJ,aU=⟨c.cb,c'.ma,aS,c'.made,c'.left++ [(d[i]).no]⟩:=⟨_,rfl⟩;rw[←bE]at ah b6 ac;have fN:aU.cb=c.cb:=by rw[bE]
 have dG:aU.made.length<=200:=by rw[bE];exact dT
 have eX:aU.left.length<=201:=by rw[bE,cz,jn];omega
 obtain⟨dX,bW,bC,dY⟩:=bH b7;have c4:=bq.len ba.keys;have c5:∀ (w':J) (v:aa),Ext X w'->(∀ {dc aO bb},dc=b4->aO=aU->bb=l++ [(d[i]).no]->((v=.tuple #[(0:Int),(0:Int),(0:Int)]/\ef=[]/\bb.Perm (m++aG)/\m.length<=2*bP.aI+3)\/
  (∃ (root h:Nat) (pages:O Nat),v=.tuple #[root,h,(0:Int)]/\ej (aN.P dc) h none none root pages ef/\(pages++bb).Perm (m++aG)/\1<=h/\h<=bP.aI+1/\m.length<=2*bP.aI+3)\/
  (∃a b:Int,v=.tuple #[a,b,(3:Int)]/\¬bP.C.D.calm 60)))->mu T c aG ef w v w':=by
  intro w' v hx hd;refine conv v w' ⟨b4,aU,m,l++ [(d[i]).no],?_,?_,hd (aO:=aU) rfl rfl rfl⟩
  .exact ah.ext hx
  .have:=(ac.trans (dv.ext b4 _ hx)).mono (j:=60) I
   simp only[f_]at this;exact this
 refine cq (λb w'=>(b=true↔(i=0/\n.keys=[]))/\X=w') (λZ bd=>⟨λh0=>⟨K,bW,bd _ _ ⟨?_,rfl⟩⟩,λh0=>bd _ _ ⟨?_,rfl⟩⟩) ?_
 .have h0:i=0:=by
   have:(i:Int)=0:=by simpa using h0
   omega
  rw[kn];constructor
  .intro h1
   exact⟨h0,List.eq_nil_of_length_eq_zero I⟩
  .rintro⟨_,h1⟩
   rw[h1]at c4;simp at c4;omega
 .have h0:i≠0:=by
   have:¬(i:Int)=0:=by simpa using h0
   omega
  exact⟨λh=>(by cases h),λh=>absurd h.1 h0⟩
 rintro eY _ ⟨c6,rfl⟩;refine⟨λR=>?_,λR=>?_⟩
 .obtain⟨h0,c7⟩:=c6.1 R
  subst h0;have be:Ext X X.drew:=cf _;obtain⟨d0,d6,d7,d8⟩:=bH (b7.ext be);have c9:=(ah.ext be).cells.1;rw[fN]at c9;have d9:=(ah.ext be).t.cells.2.2.2.2;obtain⟨t1,t2,t3,t4,t5,t6⟩:=Ctx.Cb (by simpa using g.ctx);have L:=g.kE;have N:=g.pp;have an:=g.eq;have al:=mv (no:=(d[0]).no) g.acc;subst t2 t3 t4 t5 t6;rw[iW,f_]at an;rw[f_]at N;subst an;have c_:n.leaf=false->∃x,n.kids=[x]/\1<=b4.aI/\ej ao.P (b4.aI-1) none none x q M/\1<=b4.aI-1:=by
   intro aJ;have e:d.length-0=b4.aI:=by rw[c3];omega
   rw[e]at L
   cases ht:b4.aI with
   |zero=>omega
   |succ t=>
    rw[ht]at L
    cases t with
    |zero=>
     have:=L.1.leaf;rw[aJ]at this;cases this
    |succ t=>
     obtain⟨v1,v2,bg,bi,bJ⟩:=L;rw[c7]at bJ;generalize eZ:n.kids=e0 at bJ
     cases bJ with
     |one h=>exact⟨_,rfl,I,h.1,I⟩
  refine aW ⟨λ_=>False,id,_,d0,K,d6,V,d7,D,d8,_,rfl,id,_,c9,_,rfl,id,_,d9,(pP (ba.ext be) b4.aI I λaJ=>by obtain⟨x,a1,a2,_⟩:=c_ aJ;exact⟨x,a1,a2⟩).use ?_⟩;rintro v w' ⟨rfl,cd⟩;have da:=be.trans cd
  cases aJ:n.leaf with
  |true=>
   rw[if_pos rfl];have db:=L.leaf;rw[aJ]at db;have ce:d.length-0=1:=b8 db.symm;rw[ce]at L;obtain⟨v1,v2,bg,bi⟩:=L;subst bg;refine⟨_,_,_,rfl,cd,c5 w' _ da λ{dc aO bb} a1 a2 a3=>.inl ⟨rfl,?_,?_,by have:=g.oH;omega⟩⟩
   .rw[bi];unfold aD.dL;rw[c7];rfl
   .subst a3
    rw[np]at al N⊢;intro x;have:=al x;have:=N x;simp only[nz,oY,oZ]at*;omega
  |false=>
   rw[if_neg (by simp)];obtain⟨x,a1,a2,a3,a4⟩:=c_ aJ;refine⟨_,_,_,rfl,cd,c5 w' _ da λ{dc aO bb} b_ bO aX=>.inr (.inl ⟨_,_,q,rfl,?_,?_,a4,?_,by have:=g.oH;omega⟩)⟩
   .subst b_
    have d_:n.kids.getD 0 0=x:=by rw[a1];rfl
    rw[d_,bn];exact a3
   .subst aX
    rw[np]at al N⊢;intro x;have:=al x;have:=N x;simp only[nz,oY,oZ]at*;omega
   .omega
 .have a6:n.keys≠ []:=λe=>by
   rcases ny i with h0|h0
   .have:=c6.2 ⟨h0,e⟩
    rw[R]at this;cases this
   .exact g.G9 h0 e
  have e1:b4.C.D.aQ<=900000050:=by
   have:=ac.to.aQ;rw[dO]at this;omega
  have de:2<=cl b4:=by
   have:=ac.room;have:=g.oH;omega
  have df:∀ms:O Nat,ms.length<=3->(m++ms).length<=2*bP.aI+3:=λms h=>by rw[cz];have:=g.oH;omega
  have dh:∀j,j<=10->¬b4.C.D.calm j->¬bP.C.D.calm 60:=λj e2 bv hc=>bv (ac.to.calm j (gg hc I));have cg:lN n:=g.kE.yr (λ_=>by have:=g.sz;omega) (λ_=>by have:=g.sz;omega) λ_=>a6;refine cq (λp w'=>p=(if i=0 then none else some (a9.add ((i-1)*6)))/\X=w') (λZ bd=>⟨λh0=>⟨a9,b5,?_,bd _ _ ⟨?_,rfl⟩⟩,λh0=>bd _ _ ⟨?_,rfl⟩⟩) ?_
  .have h0:(i:Int)>0:=b8 h0
   rw[bA I I];omega
  .have h0:(i:Int)>0:=b8 h0
   have e:(i:Int)-1=((i-1:Nat):Int):=by omega
   rw[bA I I,if_neg I,e,dd]
  .have h0:¬(i:Int)>0:=cv h0
   rw[if_pos I]
  rintro _ _ ⟨rfl,rfl⟩;refine⟨_,dX,K,bW,V,bC,D,dY,?_⟩;by_cases h0:i=0
  .subst h0
   rw[if_pos rfl];have bm:=G0 ah ba cg I de I;rw[fN]at bm;refine bm.use ?_;rintro _ aZ ⟨a0,e,rfl,hf⟩;obtain⟨dc,aO,ms,S,H,bo,br⟩:=hf.cs;have bK:=ac.trans H;simp only[f_]at bK;have ea:aO.cb=c.cb:=by rw[H.cb,fN]
   rcases br with ⟨rfl,ks,ar,aK⟩|⟨rfl,aM⟩
   .refine⟨a0,_,_,0,rfl,λh=>(by cases h),λ_=>⟨λ_=>?_,λh=>(by simp at h)⟩⟩
    obtain⟨t1,t2,t3,t4,t5,t6⟩:=Ctx.Cb (by simpa using g.ctx);have L:=g.kE;have N:=g.pp;have an:=g.eq;have bw:=g.sz;have al:=mv (no:=(d[0]).no) g.acc;have Q:=g.Cc;subst t2 t3 t4 t5 t6;rw[iW,f_]at an;rw[f_]at N Q;subst an;have eb:b4.n<=1600:=ah.t.s.bC;have ch:∀z∈q,ao.P z=dc.P z:=λz ae=>by
     rw[←bn];exact((H.eN z (by rw[bp,Q z ae];rfl)).1).symm
    have ec:d.length-0=(d.length-1)+1:=by omega
    have di:dc.aI=d.length:=by rw[H.aI,c3];omega
    rw[ec]at L;have dk:∀a5 x y,ks=[a5]->ms=[x,y]->cw a5/\x<1600/\y<1600:=λa5 x y au ay=>by
     subst au ay;have dl:232<bM n:=by
      rcases ar with ⟨_,z,e,_⟩|⟨h,_⟩
      .cases e
      .exact h
     obtain⟨e3,_,_,aT,_⟩:=L.fits (L.xv I) (λ_=>I) (λ_=>I) ar ch;have hx:=(H.jQ x (by simp)).2;have e4:=(H.jQ y (by simp)).2;exact⟨aT a5 (by simp),I,I⟩
    have dm:=G4 S aK (λ_=>I) dk (by have:=H.to.aQ;omega) (by have:=H.room;have:=ac.room;have:=g.oH;omega) (by rw[H.made,cz];omega);rw[ea]at dm;refine dm.use ?_;rintro v e5 ed;rcases ed with ⟨x,au,ay,rfl,aE,aF⟩|⟨a5,x,y,no,i_,dg,au,ay,aE,aF,ee⟩
    .subst au ay
     refine⟨_,_,_,rfl,conv _ _ ⟨dc,aO,m++ [x],l++ [(d[0]).no],aE,?_,.inr (.inl ⟨x,dc.aI,x::q,rfl,?_,?_,I,I,df [x] (by simp)⟩)⟩⟩
     .have:=(bK.trans (dv.ext dc aO aF)).mono (j:=60) I
      simp only[f_]at this;exact this
     .rcases ar with ⟨_,z,_,e,ae⟩|⟨_,e6,e7,_,e,_⟩
      .cases e
       rw[di,show d.length=d.length-1+1 from I];exact L.lay a6 ae ch
      .cases e
     .rw[np]at al N⊢
      intro z;have:=al z;have:=N z;simp only[nz,oY,oZ]at*;omega
    .subst au ay
     obtain⟨a1,a2,a3⟩:=dk a5 x y rfl rfl;have ax:=bK.trans aF;simp only[f_]at ax;have dn:=ax.mono (j:=60) I;rcases ee with ⟨rfl,ci⟩|⟨rfl,ci⟩
     .have eg:∀z∈x::y::q,dc.P z=i_.P z:=λz ae=>by
       refine((aF.eN z ?_).1).symm;rw[H.f];simp only[cU]at ae;rcases ae with ae|ae|ae
       .simp[ae]
       .simp[ae]
       .rw[bp,Q z ae];simp
      obtain⟨_,pages,b_,bO⟩:=G_ L bw ar ch ci eg a2 a3;refine⟨_,_,_,rfl,conv _ _ ⟨i_,dg,m++ [x,y]++ [no],l++ [(d[0]).no],aE,dn,.inr (.inl ⟨no,dc.aI+1,pages,rfl,?_,?_,I,I,by rw[cP];exact df [x,y,no] (by simp)⟩)⟩⟩
      .rw[di,show d.length+1=d.length-1+2 from I];exact b_
      .rw[np]at al N bO⊢
       intro z;have:=al z;have:=N z;have:=bO z;simp only[nz,oY,oZ]at*;omega
     .refine⟨_,_,_,rfl,conv _ _ ⟨i_,dg,m++ [x,y]++ [no],l++ [(d[0]).no],aE,dn,.inr (.inr ⟨_,_,rfl,λhc=>ci (H.to.calm 1 (ac.to.calm 3 (gg hc I)))⟩)⟩⟩
   .refine⟨a0,_,_,3,rfl,λ_=>conv _ _ ⟨dc,aO,m++ms,l++ [(d[0]).no],S,bK.mono I,.inr (.inr ⟨0,0,rfl,dh 2 I aM⟩)⟩,λh=>(by cases h)⟩
  .rw[if_neg h0]
   have dM:i-1<d.length:=by omega
   obtain⟨e8,dp,_,_,_,hu⟩:=ca.at dM;rw[b5]at dp;obtain rfl:=Option.some.inj dp;obtain⟨u,cm⟩:∃u,u=d[i-1]:=⟨_,rfl⟩;rw[←cm]at hu;have eh:(d.take i).map dD.st=(d.take (i-1)).map dD.st++ [u.st]:=by
    have:d.take i=d.take (i-1)++ [d[i-1]]:=by
     have e:i-1+1=i:=by omega
     rw[←iU dM,e]
    rw[this,fZ,cm];rfl
   obtain⟨dq,dr,ei,ds,dt,ps,bG,bI,ek,e9,e_,el,em,dw,co⟩:=Ctx.up g.ctx eh g.kE g.yu.t.nm g.sz;have ce:d.length-i+1=d.length-(i-1):=by omega
   rw[ce]at bG dw co;have en:=(g.yu.t.eo _ _ ek).2.is;have fa:=en.2.1.eB I;have Q:=g.Cc;have bm:=G1 ah ba hu cg.1 (by have:=g.sz;omega) (λ_=>cg) (λbL=>by
    obtain⟨o,no,rest,b_,bO,aX,bN,bR,dx,_⟩:=co bL;exact⟨o,no,b_,by rw[bn];exact bO,aX,bN,bR,dx⟩) I I de I I
   rw[fN]at bm;refine bm.use ?_;rintro v aZ dy;have fb:0<u.n.keys.length:=sm.2 el;have eb:b4.n<=1600:=ah.t.s.bC;have cp:∀ {dc:aN}{aO:dJ}{ms ls:O Nat}{w':J}{ep:Nat},dv b4 dc aU aO ms ls X w' ep->∀x,ao.f x=true->ao.P x=dc.P x:=λer x hx=>by
    rw[←bn];exact((er.eN x (by rw[bp,hx];rfl)).1).symm
   have es:(∃ (dc:aN) (aO:dJ) (ms ls:O Nat) (s:Y) (a b:Int),v=.tuple #[s,a,b,(3:Int)]/\du aZ dc aO/\dv b4 dc aU aO ms ls X aZ 4/\¬b4.C.D.calm 4)\/
    (∃ (dc:aN) (aO:dJ) (ms ls rest:O Nat) (s:Y) (am ai:Nat) (ks:O Key) (dG:O Nat) (az:O aH),v=.tuple #[s,am,ai,(0:Int)]/\du aZ dc aO/\dv b4 dc aU aO ms ls X aZ 4/\ms.length<=2/\ls.length<=1/\ld (λq=>¬dc.M q) aZ s ks ms/\
      dj dc.P (d.length-(i-1)) (gf u.n am ai ks ms) dq dr dG az/\ds++(az++dt)=A++(M++B)/\dG.Perm (ms++(rest++q))/\ps.Perm (ls++rest)/\bM (gf u.n am ai ks ms)<=bM u.n+27/\u.n.keys.length<=(gf u.n am ai ks ms).keys.length+1/\
      am<=u.n.keys.length/\1<=ai/\ai<=u.n.kids.length):=by
    rcases dy with ⟨dl,s,e,rfl,hf⟩|⟨bL,dc,aO,rfl,au,ay,aT⟩|⟨bL,o,no,fc,fd,fe,s,e,dz,dA,dB,rfl,hf⟩
    .obtain⟨dc,aO,ms,S,H,bo,br⟩:=hf.cs
     rcases br with ⟨rfl,ks,ar,aK⟩|⟨rfl,aM⟩
     .obtain⟨dG,az,b_,bO,aX,bN,bR⟩:=dw dl dc.P ks ms ar (λx hx=>cp H x (Q x (by
       rw[bI];simp only[cT,cU]at hx⊢;rcases hx with hx|hx
       .exact .inr (.inr (.inl hx))
       .exact .inl hx))) (λx hx=>by have:=(H.jQ x hx).2;omega)
      exact .inr ⟨dc,aO,ms,[],ps,s,u.cY,u.cY+1,ks,dG,az,rfl,S,H.mono I,bo,cL _,aK,b_,bO,aX,List.Perm.refl _,bN,bR,I,I,I⟩
     .exact .inl ⟨dc,aO,ms,[],s,_,_,rfl,S,H.mono I,λhc=>aM (gg hc I)⟩
    .exact .inl ⟨dc,aO,[],[],bk,0,0,rfl,au,ay.mono I,λhc=>aT (gg hc I)⟩
    .obtain⟨ff,dC,rest,b_,bO,aX,bN,bR,dx,dE,et⟩:=co bL
     rw[b_]at dz;obtain rfl:=Option.some.inj dz;rw[bn,bO]at dA;obtain rfl:=Option.some.inj dA;obtain⟨dc,aO,ms,S,H,bo,br⟩:=hf.cs;have ax:=dB.trans H;simp only[iW,f_]at ax;rcases br with ⟨rfl,ks,ar,aK⟩|⟨rfl,aM⟩
     .obtain⟨dG,az,d1,d2,d3,d4,d5⟩:=et dc.P ks ms ar (λx hx=>cp ax x (Q x (by
       rw[bI];simp only[cT,cU]at hx⊢;rcases hx with hx|hx
       .exact .inr (.inr (.inl (dE.mem_iff.2 (jW _ hx))))
       .exact .inl hx))) (λx hx=>by have:=(ax.jQ x hx).2;omega)
      refine .inr ⟨dc,aO,ms,[dC],rest,s,u.cY-1,u.cY-1+2,ks,dG,az,rfl,S,ax,bo,bl _,aK,d1,d2,d3,dE,d4,d5,I,I,?_⟩;rcases ny u.cY with eu|eu<;>omega
     .exact .inl ⟨dc,aO,ms,[dC],s,_,_,rfl,S,ax,λhc=>aM (dB.to.calm 2 hc)⟩
   clear dy;rcases es with ⟨dc,aO,ms,ls,a0,a,b,rfl,S,H,aM⟩|⟨dc,aO,ms,ls,rest,a0,am,ai,ks,dG,az,rfl,S,H,bo,fg,aK,v1,v2,bg,bi,bJ,ev,ew,ex,ey⟩
   .exact⟨a0,_,_,3,rfl,λ_=>conv _ _ ⟨dc,aO,_,_,S,(ac.trans H).mono I,.inr (.inr ⟨0,0,rfl,dh 4 I aM⟩)⟩,λh=>(by cases h)⟩
   .refine⟨a0,_,_,0,rfl,λh=>(by cases h),λ_=>⟨λh=>?_,λ_=>?_⟩⟩
    .have:(i:Int)=0:=by simpa using h
     omega
    have bs:=hu.to H.to;refine⟨_,rfl,_,bs.aC,u.K,bs.aU,u.V,bs.aO,u.D,bs.dg,(pQ bs.bj aK (fr:=am) (to:=ai) ew I ex ey I I I).use ?_⟩;rintro _ fh ⟨cI,cQ,ct,rfl,ez,bt⟩;have dF:=b7.ab H.to.ab (ah.t.jf c1);have dH:=dF.ext bt;refine⟨_,cI,cQ,ct,rfl,dH.b9 rfl fK,rfl,cr dH (us:=dZ (gf u.n am ai ks ms) cI cQ ct) rfl rfl λeA eC bu fi=>⟨⟨i-1,dc,aO,m++ms,l++ [(d[i]).no]++ls,gf u.n am ai ks ms,cI,cQ,ct,dq,dr,ei,ds,dt,dG,az,ps++((d[i]).no::r),?_,?_⟩,?_⟩⟩
    .rw[bA I I];omega
    .have dI:dc.E hE:=by rw[H.E];exact c1
     have cu:dc.M hE:=.inr (.inr (.inr (.inl dI)));have cx:=(ac.trans H).trans (dv.ext dc aO bt);simp only[f_]at cx;have eD:bQ bP dc w1 eA (4*(d.length-1-i)+4+0):=cx.to.step (E:=dc.E) (G:=dc.G) bu (λq e aJ=>I) (λq F=>.inl F) λq F=>.inl F;have cA:∀x,ao.f x=true->dc.f x=true:=λx hx=>by rw[H.f,bp,hx];rfl
     have bS:=ca.to H.to;refine⟨dM,(S.ext bt).Ca bu λq e=>.inl (by rw[e];exact dI),{cx.mono (j:=4*(d.length-1-(i-1))) I with to:=eD.mono I},?_,?_,eC,?_,?_,bG.agree λx hx=>cp H x (Q x (by rw[bI];simp[hx])),v1,by rw[v2];exact g.eq,?_,jg (mv g.acc) bg bi,I,λh1 e=>?_,λx hx=>?_⟩
     .rw[cz];have:=g.oH;omega
     .rw[cz,cz,jn];have:=g.ll;omega
     .refine(bF.ab ez bu λq F e=>?_).aY λq _ F dK=>?_
      .subst e
       rcases F with F|F
       .exact F cu
       .have:=dF.lt;omega
      .rcases F with F|F
       .exact F dK
       .have:=S.t.lt dK;omega
     .refine⟨(bS.own.ext bt).ab bu λq F e=>bS.oG q F (by rw[e];exact cu),bS.oG,λx hx=>bF.ab ((bS.bj x hx).ext bt) bu λq F e=>F (by rw[e];exact cu)⟩
     .have this:aG.Perm ((d[i]'cS).no::(r++cD)):=g.pp
      rw[bI]at this;rw[←cm];exact mw this
     .have h2:=em (λb1=>by
       have:=congrArg List.length b1;rw[dU,cG,jJ]at this;omega)
      rw[e,jJ]at ev;omega
     .rcases cT.1 hx with hx|hx
      .have:=bg.mem_iff.1 hx
       rcases cT.1 this with hx|hx
       .rw[H.f];simp[hx]
       .rcases cT.1 hx with hx|hx
        .refine cA x (Q x ?_)
         rw[bI];have:x∈ps:=bi.mem_iff.2 (ie _ hx);simp[this]
        .exact cA x (Q x (by simp[hx]))
      .exact cA x (Q x (by rw[bI];simp[hx]))
    .rw[bA I I]
     show((i:Int)-1+1).toNat<((i:Int)+1).toNat;omega
theorem Hb{w:J}{T:aN}{c:dJ}{ef:O aH}{n:aD}{K V D ws:Y}(t:ws.len=0)(h:du w T c)(u:bF (λq=>¬T.M q) w n K V D)(Q:T.C.D.aQ<=900000000)(R:2<=cl T)(S:c.made.length<=100)(W:c.left=[])
 (g:gT n) (i:n.keys≠ []) (y:bM n<=232) (z:n.dL=ef):
 aR aj 208 #[.pointer (some ⟨c.cb,0,none⟩),.slice ws.a ws.len ws.cap,c2 n K V D] w (mu T c [] ef w):=by
 refine okF (af.n0 (some ⟨c.cb,0,none⟩) ws n.leaf K V D) aA.n0 func208 ?_;(delta af.n0 bc U ag cj av ak aL r1 st pq nQ fI cc;dsimp only);refine bh (vs:=dZ n K V D) rfl λw1 A B X=>?_;obtain⟨bX,aC,aU,aO⟩:=bH A;refine⟨_,bX,K,aC,V,aU,D,aO,bh (vs:=[.bool false,.slice none 0 0,.slice none 0 0,.slice none 0 0]) rfl λZ j E aa=>⟨j.b9 rfl fK,rfl,cr j (us:=dZ n K V D) rfl rfl λl F G ab=>?_⟩⟩;have f:Ext w l:=B.trans (Ext.cn E G (bl _));refine⟨λn10 w'=>n10= -1/\l=w',λ_ _=>0,⟨by rw[t];decide,rfl⟩,?_⟩;rintro _ _ ⟨rfl,rfl⟩;refine⟨λh=>by simp at h,λ_=>?_⟩;obtain⟨d0,d1,d2,d3⟩:=bH F;refine⟨_,d0,K,d1,V,d2,D,d3,(B5 (h.ext f) I I I (u.ext f) (.inl g) y).use ?_⟩;intro v w' d;obtain⟨s,e,rfl⟩:=d.out;obtain⟨ao,c',m,o,p,ac,H⟩:=(d.base f).cs;rcases H with ⟨rfl,ks,L,N⟩|⟨rfl,P⟩
 .refine⟨s,0,rfl,λh=>(by cases h),λ_=>?_⟩
  rcases L with ⟨_,x,rfl,rfl,hx⟩|⟨ad,_⟩
  .rcases N with ⟨b,r,rfl,_,e,d,_⟩|⟨b,r,ae,ah,ai,rfl,e,_⟩
   .obtain rfl:x=r:=by simpa using e
    refine⟨_,rfl,⟨by decide,by show(0:Int)<((1:Nat):Int);decide⟩,_,by rw[aw,aw];exact d.cell,ao,c',[x],[],o,p.mono I,.inr (.inl ⟨x,1,[x],rfl,⟨n,hx,g,λk i=>⟨λ_ e=>(by cases e),λ_ e=>(by cases e)⟩,i,rfl,z.symm⟩,List.Perm.refl _,bl _,I,by show 1<=_;omega⟩)⟩
   .cases e
  .omega
 .exact⟨s,3,rfl,λ_=>⟨ao,c',m,[],o,p.mono I,.inr (.inr ⟨0,0,rfl,λhc=>P (gg hc I)⟩)⟩,λh=>(by cases h)⟩
def aN.nq(T:aN)(r h:Nat):aN:={T with root:=r,aI:=h}
theorem bJ.Hc{w w':J}{T:aN}{r h:Nat}(ht:bJ w T)(a:Var w' T.aZ (k_ (T.nq r h)) 239)(hc:ad (λq=>q=T.aZ) w w')(b:r<T.n)(c:h<=12):bJ w' (T.nq r h)/\bQ T (T.nq r h) w w' 0:=
 ⟨⟨a,ht.s.ab hc λq d e=>ht.jx (e▸d),ht.ca.ab hc λq e=>.inl e,ht.jx,ht.c8,ht.hD,ht.n,⟨b,c,ht.num.2.2⟩,ht.eo,ht.bL,ht.low⟩,
  ⟨rfl,rfl,rfl,rfl,rfl,rfl,rfl,rfl,rfl,rfl,bl _,λ_ h=>h,hc.mono λq _ e=>.inr (.inl e),λq h=>.inl h,λq h=>.inl h⟩⟩
def gh(T:aN)(pages:O Nat)(L:O aH):Prop:=(T.aI=0/\T.root=0/\pages=[]/\L=[])\/ej T.P T.aI none none T.root pages L
theorem Cd{s t:Nat->ai}:∀ {n:Nat},(∀i,s i=true->t i=true)->eY s n<=eY t n
 |0,_=>bl _
 |n+1,h=>by
  have h1:=Cd (n:=n) h
  show eY s n+(s n).toNat<=eY t n+(t n).toNat
  cases hs:s n with
  |false=>exact Nat.add_le_add h1 (cL _)
  |true=>rw[h n hs];exact Nat.add_le_add_right h1 _
def vR(T:aN)(aG:O Nat)(ef:O aH)(w:J)(v:aa)(w':J):Prop:=
 ∃ao:aN,bJ w' ao/\bQ T ao w w' 60/\ao.E=T.E/\ao.G=T.G/\
  ((v=.int .i64 2/\cl T<2*T.aI+3/\ao=T)\/
   (v=.int .i64 0/\2*T.aI+3<=cl T/\(∃pages,cl T<=cl ao+(2*T.aI+3)/\gh ao pages ef/\pages.Nodup/\(∀no∈pages,no∈aG\/(T.f no||T.g no)=false)/\∀no,ao.f no=true↔(no∈pages\/(T.f no=true/\no∉aG)))/\∀no,T.g no=true->ao.P no=T.P no/\ao.C.view no=T.C.view no)\/
   (v=.int .i64 3/\¬T.C.D.calm 60/\ao.root=T.root/\ao.aI=T.aI/\ao.f=T.f/\∀no,(T.f no||T.g no)=true->ao.P no=T.P no/\ao.C.view no=T.C.view no))
theorem Ce{l:O Nat}(h:∀x,l.count x<=1):l.Nodup:=List.nodup_iff_count.2 h
theorem Hd{w:J}{T:aN}{s:Y}{aG:O Nat}{ef:O aH}{n:aD}{K V D:Y}(h:bJ w T)(b5:¬T.C.D.ro)(c5:T.C.D.aQ<=900000000)(y:T.aI<12)(b6:aG.Nodup)(aJ:∀x∈aG,T.f x=true)(c6:aG.length<=5000)
 (b7:∀ (bf j:Nat->Prop) (w1:J) (aC:dJ),du w1 (T.ck bf j) aC->bQ T (T.ck bf j) w w1 0->2*T.aI+3<=cl T->aC.made=[]->aC.left=[]->aR aj 208 #[.pointer (some aC.cb),s,c2 n K V D] w1 (mu (T.ck bf j) aC aG ef w1)):
 aR aj 150 #[.pointer (some T.aZ),s,c2 n K V D] w (vR T aG ef w):=by
 have c7:=h.s.bC;refine af.EA (some T.aZ) s n.leaf K V D w _ ?_;(delta af.rp r1 aC ak av st U bc ag pq aU;dsimp only);refine bh (vs:=dZ n K V D) rfl λw1 ae a_ c9=>bh (vs:=[(0:Int)]) rfl λah ba bb c_=>aW ?_;have ai:Ext ah ah.drew:=cf _;obtain⟨be,b9⟩:∃be,be=ah.drew:=⟨_,rfl⟩;rw[←b9]at ai⊢;have bg:=(a_.trans bb).trans ai;have k:=h.ext bg;obtain⟨ev,b_⟩:∃ev,ev=w1.heap.size:=⟨_,rfl⟩;rw[←b_]at ba⊢;refine⟨λ_=>False,_,rfl,id,_,k.cells.2.1,_,rfl,id,_,k.cells.2.2.2.2,(ye k.s).use ?_⟩;rintro _ aK ⟨rfl,al⟩;have aL:=bg.trans al;have R:=(ba.ext ai).ext al;have ca:((T.n:Int)-eY (λi=>T.f i||T.g i) T.n)=(cl T:Nat):=by
  have:=mn (λi=>T.f i||T.g i) T.n;unfold cl;omega
 have cc:IntKind.wrap .i64 (IntKind.wrap .i64 (2*(T.aI:Int))+3)=((2*T.aI+3:Nat):Int):=by
  rw[bA (n:=2*(T.aI:Int)) I I,bA I I];omega
 rw[ca,cc];refine⟨_,rfl,al,λam=>?_,λam=>?_⟩
 .have am:((cl T:Nat):Int)<((2*T.aI+3:Nat):Int):=b8 am
  obtain⟨au,ay⟩:=dI R (i:=0) (by simp);have cd:=dk aK ev 0 (2:Int);have ce:=dN R (i:=0) (2:Int);have bi:=Ext.cn aL cd I;exact⟨au,ay,aW ⟨2,ce.cell,T,h.ext bi,(bQ.ext T bi).mono I,rfl,rfl,.inl ⟨rfl,I,rfl⟩⟩⟩
 have bl:2*T.aI+3<=cl T:=by
  have:¬((cl T:Nat):Int)<((2*T.aI+3:Nat):Int):=cv am;omega
 refine bh (vs:=[.pointer (some T.aZ),(),()]) rfl λcg bm ch da=>bh (vs:=[.pointer none]) rfl λbn aM bo db=>?_;obtain⟨cb,bp⟩:∃cb,cb=aK.heap.size:=⟨_,rfl⟩;obtain⟨fj,bq⟩:∃fj,fj=cg.heap.size:=⟨_,rfl⟩;rw[←bp]at bm⊢;rw[←bq]at aM⊢;obtain⟨au,ay⟩:=dI aM (i:=0) (by simp);have an:=dk bn fj 0 (.pointer (some cb));have aP:=dN aM (i:=0) (.pointer (some cb));refine⟨au,ay,aW ?_⟩;obtain⟨B,ci⟩:∃B,B=bn.setCell fj (.pointer (some cb)):=⟨_,rfl⟩;rw[←ci]at an aP⊢;have dc:=aL.size;have dd:=an.size;have aS:Ext aK B:=Ext.cn (ch.trans bo) an I;have br:=aL.trans aS;have bs:=R.ext aS;have bt:=(bm.ext bo).ab an I;have cj:=((ae.ext bb).ext ai).ext (al.trans aS);obtain⟨bf,aT⟩:∃bf,bf=λq=>T.E q\/q=ev:=⟨_,rfl⟩;obtain⟨j,aV⟩:∃j,j=λq=>T.G q\/q=cb:=⟨_,rfl⟩;have aX:∀q,bf q->T.E q\/q=ev:=λq c=>by rw[aT]at c;exact c
 have ap:∀q,j q->T.G q\/q=cb:=λq c=>by rw[aV]at c;exact c
 have bu:∀q,T.E q->bf q:=λq c=>by rw[aT];exact .inl c
 have cm:∀q,T.G q->j q:=λq c=>by rw[aV];exact .inl c
 have aY:bf ev:=by rw[aT];exact .inr rfl
 have co:j cb:=by rw[aV];exact .inr rfl
 have de:=bs.lt;have df:=bt.lt;have bv:bJ B (T.ck bf j):=h.grow (W:=λ_=>False) br (λ_ h=>h.elim) (λq c=>(aX q c).imp id λe=>.inr ⟨I,I⟩) (λq c=>.inr ((ap q c).imp id λe=>⟨I,I⟩)) λq c hg=>by
  rcases aX q c with h1|h1<;>rcases ap q hg with h2|h2
  .exact(h.c8 q h1).2.2 h2
  .have:=h.lt (q:=q) (.inr (.inr (.inr (.inl h1))));omega
  .have:=h.lt (q:=q) (.inr (.inr (.inr (.inr h2))));omega
  .have:=R.lt;omega
 have bw:bQ T (T.ck bf j) w B 0:=(bQ.refl T w).step (W:=λ_=>False) br (λ_ h=>h.elim) (λq c=>(aX q c).imp id λe=>.inr I) λq c=>(ap q c).imp id λe=>by omega
 have cp:du B (T.ck bf j) ⟨cb,bk,bk,[],[]⟩:=⟨bv,bt,bd.none _ _ _,bd.none _ _ _,co,λq c=>(gk q c).elim,λq c=>(gk q c).elim,b5⟩;have cq:=b7 bf j B _ cp bw bl rfl rfl;obtain⟨bX,aC,aU,aO⟩:=bH cj;refine⟨_,aP.cell,_,bX,K,aC,V,aU,D,aO,cq.use ?_⟩;rintro v F ⟨bP,u,m,l,bx,d,cr⟩;have S:bP.E ev:=by rw[d.E];exact aY
 have aq:=bs.ab d.to.ab (bv.jf aY);have cs:¬(T.ck bf j).N fj:=by
  have dg:cb<fj:=by rw[bp,bq];omega
  rintro(c|c|c|c)
  .have:=h.lt (q:=fj) (.inl c);omega
  .have:=h.lt (q:=fj) (.inr (.inl c));omega
  .have:=h.lt (q:=fj) (.inr (.inr (.inl c)));omega
  .rcases ap fj c with h1|h1
   .have:=h.lt (q:=fj) (.inr (.inr (.inr (.inr h1))));omega
   .omega
 have bz:=aP.ab d.to.ab cs;have ar:u.cb=cb:=d.cb;have dh:bP.aZ=T.aZ:=d.to.aZ;have ax:u.made=m:=d.made;have az:u.left=l:=d.left;have a0:fj≠ev:=by have:=R.lt;omega
 have bB:bQ T bP w F 60:=(bw.trans d.to).mono I
 have fin:∀ (w':J) (ao:aN),bJ w' ao->bQ T ao w w' 60->ao.E=bf->(∀q,T.G q->ao.G q)->bJ w' (ao.ck T.E T.G)/\bQ T (ao.ck T.E T.G) w w' 60:=by
  intro w' ao hc ht bD bE;exact⟨hc.grow (W:=λ_=>False) (ad.refl _ _) (λ_ h=>h.elim) (λq c=>.inl (by rw[bD];exact bu q c)) (λq c=>.inr (.inl (bE q c))) λq c=>(h.c8 q c).2.2,
   ht.step (W:=λ_=>False) (ad.refl _ _) (λ_ h=>h.elim) (λq c=>.inl (by rw[bD];exact bu q c)) λq c=>.inl (bE q c)⟩
 have bF:∀q,T.G q->bP.G q:=λq c=>d.G q (cm q c);have di:=(a_).size;have a1:∀ (w0:J) (ao:aN) (c':dJ) (x:Int),du w0 ao c'->bQ T ao w w0 60->ao.E ev->du (w0.setCell ev x) ao c'/\bQ T ao w (w0.setCell ev x) 60:=λw0 ao c' x hc ht he=>
  ⟨hc.Ca (dk w0 ev 0 _) λq e=>.inl (by rw[e];exact he),ht.step (E:=ao.E) (G:=ao.G) (dk w0 ev 0 _) (λq e a2=>I) (λq c=>.inl c) λq c=>.inl c⟩
 have dj:m.length<=1600:=by
  have:=d.room;have:cl (T.ck bf j)<=T.n:=by unfold cl;exact Nat.sub_le _ _
  omega
 have ct:(∃a b:Int,v=.tuple #[a,b,(3:Int)]/\¬T.C.D.calm 60)\/(∃ (root y:Nat) (pages:O Nat),v=.tuple #[root,y,(0:Int)]/\((y=0/\root=0/\pages=[]/\ef=[])\/ej bP.P y none none root pages ef)/\(pages++l).Perm (m++aG)/\y<=12/\m.length<=2*T.aI+3):=by
  rcases cr with ⟨rfl,h1,h2,a3⟩|⟨root,y,pages,rfl,h1,h2,k,H,a3⟩|⟨a,b,rfl,a4⟩
  .exact .inr ⟨0,0,[],rfl,.inl ⟨rfl,rfl,rfl,h1⟩,h2,I,a3⟩
  .have H:y<=T.aI+1:=H
   exact .inr ⟨root,y,pages,rfl,.inr h1,h2,I,a3⟩
  .exact .inl ⟨a,b,rfl,a4⟩
 rcases ct with ⟨a,b,rfl,a4⟩|⟨root,o,pages,rfl,cu,bK,cw,dl⟩
 .
  obtain⟨au,ay⟩:=dI aq (i:=0) (by simp);have z:=dN aq (i:=0) (3:Int);obtain⟨aA,aB⟩:=a1 F bP u 3 bx bB S;have X:=bz.ab (dk F ev 0 (3:Int)) a0;refine⟨a,b,3,rfl,au,ay,aW ⟨3,z.cell,λ_=>⟨3,z.cell,?_⟩,λhx=>(by cases hx)⟩⟩;obtain⟨cx,cA⟩:=dI z (i:=0) (by simp);have a5:=dN z (i:=0) (3:Int);obtain⟨bL,bM⟩:=a1 _ bP u 3 aA aB S;have a6:=X.ab (dk _ ev 0 (3:Int)) a0;refine⟨cx,cA,aW (af.AA ev fj _ _ ?_)⟩;generalize dm:(F.setCell ev (3:Int)).setCell ev (3:Int)=bN at a5 bL a6 bM⊢;(delta af.pK r1 ak ag aU;dsimp only);have L:Ext bN bN.drew:=cf _;have p:=bL.ext L;have Z:=B8 p p.ma.src (λq c=>(p.fz q c).1) (l:=u.made) (λx hx=>by rw[ax]at hx;rw[d.f];simp[hx]) (by rw[ax];exact d.bj) (by rw[ax];omega);rw[ar]at Z;have aa:=p.cells.2.1;rw[ar]at aa;refine⟨3,a5.cell,λ_=>aW ⟨id,_,a6.drew.cell,id,_,a6.drew.cell,_,rfl,id,u.ma,aa,Z.use ?_⟩,λhx=>(by cases hx)⟩;rintro _ bO ⟨rfl,b4,A,hg⟩;rw[ax]at hg;have cB:=(a5.ext L).ab hg.to.ab (p.t.jf S);have cC:bQ T b4 w bO 60:=((bM.trans (bQ.ext bP L)).trans hg.to).mono I;obtain⟨f1,f2⟩:=fin bO b4 A.t cC (by rw[hg.E];exact d.E) λq c=>by rw[hg.G];exact bF q c
  refine⟨rfl,3,cB.cell,_,f1,f2,rfl,rfl,.inr (.inr ⟨rfl,a4,hg.root.trans d.root,hg.aI.trans d.aI,?_,λno ac=>?_⟩)⟩
  .funext no
   show b4.f no=T.f no;rw[hg.f,d.f];by_cases r:no∈m
   .have:=(d.jQ no r).1
    have e:(T.ck bf j).f no=T.f no:=rfl;rw[e]at this⊢
    cases a7:T.f no
    .simp[r]
    .rw[a7]at this;cases this
   .simp[r];rfl
  .have r:no∉m:=λr=>by
    have:=(d.jQ no r).1;have e:((T.ck bf j).f no||(T.ck bf j).g no)=(T.f no||T.g no):=rfl;rw[e,ac]at this;cases this
   have h1:=hg.eN no (.inl r);have h2:=d.eN no ac;exact⟨h1.1.trans h2.1,h1.2.trans h2.2⟩
 .
  have Q:∀x,pages.count x+l.count x=m.count x+aG.count x:=λx=>by
   have:=np.1 bK x;simpa only[nz] using this
  have aE:∀x,m.count x+aG.count x<=1:=λx=>by
   have h1:=List.nodup_iff_count.1 d.bj x;have h2:=List.nodup_iff_count.1 b6 x;rcases ny (m.count x) with k|k
   .omega
   .rcases ny (aG.count x) with H|H
    .omega
    .have r:=j0.1 k
     have cD:=j0.1 H;have:=(d.jQ x r).1;have e:((T.ck bf j).f x||(T.ck bf j).g x)=(T.f x||T.g x):=rfl;rw[e,aJ x cD]at this;cases this
  have hlen:pages.length+l.length=m.length+aG.length:=by
   have:=bK.length_eq;simpa only[cz] using this
  have cE:∀x∈l,bP.f x=true:=λx hx=>by
   have h1:=j0.2 hx;have h2:=Q x;rw[d.f];rcases ny (m.count x) with k|k
   .have:x∈aG:=j0.1 I
    have e:(T.ck bf j).f x=T.f x:=rfl;rw[e,aJ x this];rfl
   .have:x∈m:=j0.1 k
    simp[this]
  have cF:l.Nodup:=Ce λx=>by have:=Q x;have:=aE x;omega
  obtain⟨au,ay⟩:=dI aq (i:=0) (by simp);have z:=dN aq (i:=0) (0:Int);obtain⟨aA,aB⟩:=a1 F bP u 0 bx bB S;have X:=bz.ab (dk F ev 0 (0:Int)) a0;refine⟨_,_,0,rfl,au,ay,aW ⟨0,z.cell,λhx=>(by cases hx),λ_=>aW ?_⟩⟩;generalize dn:F.setCell ev (0:Int)=bR at z aA X aB⊢;have L:Ext bR bR.drew:=cf _;have p:=aA.ext L;have Z:=B8 p p.gD.src (λq c=>(p.kI q c).1) (l:=u.left) (λx hx=>cE x (by rw[az]at hx;exact hx)) (by rw[az];exact cF) (by rw[az];omega);rw[ar]at Z;have aa:=p.cells.2.2;rw[ar]at aa;refine⟨id,_,X.drew.cell,id,_,X.drew.cell,_,rfl,id,u.gD,aa,Z.use ?_⟩;rintro _ M ⟨rfl,b4,A,hg⟩;rw[az]at hg;have cG:=(z.ext L).ab hg.to.ab (p.t.jf S);have bS:bQ T b4 w M 60:=((aB.trans (bQ.ext bP L)).trans hg.to).mono I;have a8:b4.aZ=T.aZ:=bS.aZ;have bT:b4.E=bf:=by rw[hg.E];exact d.E
  have cH:b4.E ev:=by rw[bT];exact aY
  have bU:Var M T.aZ (k_ b4) 239:=by rw[←a8];exact A.t.t
  obtain⟨bG,bI⟩:=dI bU (i:=3) (by simp[k_]);have bV:=dN bU (i:=3) root;have cI:=dk M T.aZ 3 root;obtain⟨cJ,cK⟩:=dI bV (i:=4) (by simp[k_]);have bY:=dN bV (i:=4) o;have cL:=dk (M.setCell ⟨T.aZ,3,none⟩ root) T.aZ 4 o;refine⟨rfl,_,rfl,by rw[aw];exact bG,by rw[aw];exact bI,aW ⟨_,rfl,by rw[aw,aw];exact cJ,by rw[aw,aw];exact cK,aW ?_⟩⟩;rw[aw,aw,cy,cy];have a9:ad (λq=>q=T.aZ) M ((M.setCell ⟨T.aZ,3,none⟩ root).setCell ⟨T.aZ,4,none⟩ o):=cI.trans cL;generalize dp:(M.setCell ⟨T.aZ,3,none⟩ root).setCell ⟨T.aZ,4,none⟩ o=aF at bY a9⊢;have cM:∀x∈pages,x∉l:=λx hx a2=>by
   have h1:=j0.2 hx;have h2:=j0.2 a2;have:=Q x;have:=aE x;omega
  have bZ:(o=0/\root=0/\pages=[]/\ef=[])\/(ej b4.P o none none root pages ef/\root∈pages):=cu.imp id λcN=>cN.agree λx hx=>((hg.eN x (.inl (cM x hx))).1).symm;have cO:root<b4.n:=by
   rcases bZ with ⟨_,h1,_⟩|⟨h1,_⟩
   .have:=A.t.s.bW;omega
   .obtain⟨bj,_,h2,_⟩:=h1.kE
    exact(A.t.eo _ _ h2).1
  have cP:Var aF b4.aZ (k_ (b4.nq root o)) 239:=by rw[a8];exact bY
  obtain⟨cQ,cR⟩:=A.t.Hc cP (by rw[a8];exact a9) cO cw;have cT:ev≠T.aZ:=λe=>by have:=h.lt (q:=T.aZ) (.inr (.inl rfl));omega
  have b0:=cG.ab a9 cT;obtain⟨cU,cV⟩:=dI b0 (i:=0) (by simp);have b1:=dN b0 (i:=0) (0:Int);have b2:=dk aF ev 0 (0:Int);refine⟨cU,cV,aW (af.AA ev fj _ _ ?_)⟩;(delta af.pK r1 ak ag aU;dsimp only);refine⟨0,b1.cell,λhx=>(by cases hx),λ_=>⟨0,b1.cell,?_⟩⟩;have cW:bJ (aF.setCell ev (0:Int)) (b4.nq root o):=cQ.grow (E:=b4.E) (G:=b4.G) b2 (λq e _=>.inl (by rw[e];exact cH)) (λq c=>.inl c) (λq c=>.inr (.inl c)) λq c=>(A.t.c8 q c).2.2;have cX:bQ T (b4.nq root o) w (aF.setCell ev (0:Int)) 60:=((bS.trans cR).mono I).step (E:=b4.E) (G:=b4.G) b2 (λq e a2=>I) (λq c=>.inl c) λq c=>.inl c;obtain⟨f1,f2⟩:=fin _ _ cW cX bT λq c=>by
   show b4.G q;rw[hg.G];exact bF q c
  refine⟨_,f1,f2,rfl,rfl,.inr (.inl ⟨rfl,bl,⟨pages,?_,?_,Ce λx=>by have:=Q x;have:=aE x;omega,λno hx=>?_,λno=>?_⟩,λno ac=>?_⟩)⟩
  .have h1:cl bP+m.length=cl T:=d.room
   have h2:cl bP<=cl (b4.nq root o):=by
    show bP.n-_<=b4.n-eY (λi=>b4.f i||b4.g i) b4.n;rw[hg.to.n];have:=Cd (s:=λi=>b4.f i||b4.g i) (t:=λi=>bP.f i||bP.g i) (n:=bP.n) λi hi=>by
     rw[hg.f,hg.to.g]at hi;rw[iT,er]at hi;rw[iT];exact hi.imp And.left id
    omega
   show cl T<=cl (b4.nq root o)+_;omega
  .rcases bZ with ⟨h1,h2,k,H⟩|⟨h1,_⟩
   .exact .inl ⟨h1,h2,k,H⟩
   .exact .inr h1
  .have h1:=j0.2 hx
   have h2:=Q no;rcases ny (aG.count no) with k|k
   .have r:no∈m:=j0.1 I
    exact .inr (d.jQ no r).1
   .exact .inl (j0.1 k)
  .show b4.f no=true↔_
   rw[hg.f,d.f];have e:(T.ck bf j).f no=T.f no:=rfl;rw[e];have dq:=Q no;have A:=aE no;have b3:no∈m↔0<m.count no:=j0.symm;have ae:no∈aG↔0<aG.count no:=j0.symm;have cY:no∈l↔0<l.count no:=j0.symm;have cZ:no∈pages↔0<pages.count no:=j0.symm;have c0:0<aG.count no->T.f no=true:=λh=>aJ no (ae.2 h);have c1:0<m.count no->T.f no=false:=λh=>by
    have:=(d.jQ no (b3.2 h)).1;have e:((T.ck bf j).f no||(T.ck bf j).g no)=(T.f no||T.g no):=rfl;rw[e]at this
    cases a7:T.f no
    .rfl
    .rw[a7]at this;cases this
   rw[er,iT,cS,lk,jY,b3,ae,cY,cZ];constructor
   .rintro⟨h1|h1,h2⟩
    .by_cases k:0<aG.count no
     .left;omega
     .exact .inr ⟨h1,k⟩
    .left;omega
   .rintro(h1|⟨h1,h2⟩)
    .refine⟨?_,I⟩
     by_cases k:0<aG.count no
     .exact .inl (c0 k)
     .right;omega
    .refine⟨.inl h1,λk=>?_⟩
     have:0<m.count no:=by omega
     rw[c1 this]at h1;cases h1
  .have c3:(T.f no||T.g no)=true:=by rw[ac];simp
   have c4:bP.g no=true:=by rw[d.to.g];exact ac
   have h1:=hg.eN no (.inr c4);have h2:=d.eN no c3;exact⟨h1.1.trans h2.1,h1.2.trans h2.2⟩
theorem Cf{ks:O Key}{k:Key}{i:Nat}(hs:ks.Pairwise bK)(h1:cO ks k<=i)(hi:i<ks.length)(d:ks[cO ks k]? ≠some k):bK k ks[i]:=by
 rcases od.1 (p1 hs h1 hi) with h2|h2
 .exact h2
 .exfalso
  rcases dO (cO ks k) i with a|a
  .have b:cO ks k<ks.length:=by omega
   have f:=p1 hs (bl _) b;have c:=mK.1 hs _ _ b hi a;rw[←h2]at c;exact f c
  .have e:i=cO ks k:=by omega
   apply d;subst e;rw[dE hi,←h2]
theorem yw{n:aD}(h:gT n){i:Nat}(hi:i<=n.keys.length):∃a b c d:O Key,n.keys=a++b/\n.vals=c++d/\a.length=i/\c.length=i/\b.length=d.length/\n.keys.take i=a/\n.keys.drop i=b/\n.vals.take i=c/\n.vals.drop i=d:=by
 have e:=h.len;refine⟨n.keys.take i,n.keys.drop i,n.vals.take i,n.vals.drop i,(ic i _).symm,(ic i _).symm,?_,?_,?_,rfl,rfl,rfl,rfl⟩
 .rw[cG];omega
 .rw[cG];omega
 .rw[da,da];omega
def kj(k v:Key):Nat:=2+k.length+v.length
theorem qh{n:aD}(h:n.leaf=true):bM n=1+(List.zipWith kj n.keys n.vals).sum:=by
 unfold bM;rw[if_pos h,k4 h];rfl
theorem He{n:aD}{k v:Key}(h:gT n)(B:cw k)(C:v.length<=24):gT (hC n k v)/\(hC n k v).dL=e3 n.dL k v/\bM (hC n k v)<=bM n+50/\(hC n k v).keys≠ []/\n.keys.length<=(hC n k v).keys.length/\(∀s∈(hC n k v).keys,s=k\/s∈n.keys):=by
 have hlen:=h.len;have D:=p0 n.keys k;have J:n.dL=n.keys.zip n.vals:=rfl;have E:=h.fb;have F:∀ (j:Nat) (m:j<n.keys.length),j<cO n.keys k->bK n.keys[j] k:=λj m h1=>oh h1 m;have G:n.keys[cO n.keys k]? ≠some k->∀ (j:Nat) (m:j<n.keys.length),cO n.keys k<=j->bK k n.keys[j]:=λhe j m h1=>Cf E h1 m he;rw[J,Ff h.fb];unfold hC hA;generalize hi:cO n.keys k=i at D F G⊢;obtain⟨a,b,c,d,g,t,K,L,M,p,q,w,A⟩:=yw h D;have f:n.keys.zip n.vals=a.zip c++b.zip d:=by rw[g,t];exact og I
 have u:(a.zip c).length=i:=by rw[mI];omega
 by_cases he:n.keys[i]? =some k
 .rw[if_pos (by simpa using he),if_pos he]
  have N:∃o,b=k::o:=by
   cases b with
   |nil=>rw[g,kR I]at he;simp at he
   |cons y o=>
    rw[g,kR I,K,nw]at he;simp at he;exact⟨o,by rw[he]⟩
  obtain⟨o,rfl⟩:=N;obtain⟨x,l,rfl⟩:∃x l,d=x::l:=by
   cases d with
   |nil=>simp at M
   |cons x l=>exact⟨x,l,rfl⟩
  have H:n.vals.set i v=c++v::l:=by
   rw[t,List.set_append_right _ _ I,L,nw];rfl
  refine⟨⟨⟨h.ok,h.fb⟩,h.leaf,by simp[hlen],h.kids,λz f=>?_⟩,?_,?_,λe=>by have e:n.keys=[]:=e;rw[e]at g;simp at g,bl _,λs hs=>.inr hs⟩
  .rcases ly f with h1|h1
   .exact h.vals z h1
   .rw[h1];exact C
  .show n.keys.zip (n.vals.set i v)=_
   rw[H,f,g,og I,me u];have O:(a.zip c++(k::o).zip (x::l)).drop (i+1)=o.zip l:=by
    rw[List.zip_cons_cons,show a.zip c++(k,x)::o.zip l=(a.zip c++ [(k,x)])++o.zip l by simp];exact drop_left' (by simp only[cz,u,jn])
   rw[O];rfl
  .rw[qh h.leaf,qh (n:={n with vals:=n.vals.set i v}) h.leaf]
   show 1+(List.zipWith kj n.keys (n.vals.set i v)).sum<=_;rw[H,g,t,oS I,oS I,lr,lr,List.zipWith_cons_cons,List.zipWith_cons_cons,qC,qC];unfold kj;omega
 .rw[if_neg (by simpa using he),if_neg he]
  have P:=G he;refine⟨⟨⟨λz f=>?_,?_⟩,h.leaf,?_,h.kids,λz f=>?_⟩,?_,?_,λe=>?_,?_,λs hs=>?_⟩
  .have f:z∈n.keys.take i++ [k]++n.keys.drop i:=f
   simp only[cT,ff]at f;rcases f with (f|rfl)|f
   .exact h.ok z (fh f)
   .exact B
   .exact h.ok z (fg f)
  .show(n.keys.take i++ [k]++n.keys.drop i).Pairwise bK
   rw[p,q];have Q:(a++b).Pairwise bK:=by rw[←g];exact E
   obtain⟨au,ay,R⟩:=mH.1 Q;have S:∀x∈a,bK x k:=λx hx=>by
    obtain⟨j,m,rfl⟩:=fi hx;have:=F j (by rw[g,cz];omega) I;simp only[g,lW m]at this;exact this
   have T:∀y∈b,bK k y:=λy r=>by
    obtain⟨j,m,rfl⟩:=fi r;have:=P (i+j) (by rw[g,cz];omega) I;have e:(a++b)[i+j]'(by rw[cz];omega)=b[j]:=by
     rw[nx I];congr 1;omega
    simp only[g,e]at this;exact this
   rw[cP];refine mH.2 ⟨au,?_,λx hx y r=>?_⟩
   .exact jF.2 ⟨T,ay⟩
   .rcases cU.1 r with rfl|r
    .exact S x hx
    .exact R x hx y r
  .show(n.vals.take i++ [v]++n.vals.drop i).length=(n.keys.take i++ [k]++n.keys.drop i).length
   rw[p,q,w,A];simp only[cz,jn];omega
  .have f:z∈n.vals.take i++ [v]++n.vals.drop i:=f
   simp only[cT,ff]at f;rcases f with (f|rfl)|f
   .exact h.vals z (fh f)
   .exact C
   .exact h.vals z (fg f)
  .show(n.keys.take i++ [k]++n.keys.drop i).zip (n.vals.take i++ [v]++n.vals.drop i)=_
   rw[p,q,w,A,f,me u,drop_left' u,cP,cP,og I];rfl
  .rw[qh h.leaf,qh (n:={n with keys:=n.keys.take i++ [k]++n.keys.drop i,vals:=n.vals.take i++ [v]++n.vals.drop i}) h.leaf]
   show 1+(List.zipWith kj (n.keys.take i++ [k]++n.keys.drop i) (n.vals.take i++ [v]++n.vals.drop i)).sum<=_;have au:(List.zipWith kj (a++ [k]++b) (c++ [v]++d)).sum=(List.zipWith kj a c).sum+(kj k v+(List.zipWith kj b d).sum):=by
    rw[cP,cP,oS I,lr];rfl
   have ay:(List.zipWith kj (a++b) (c++d)).sum=(List.zipWith kj a c).sum+(List.zipWith kj b d).sum:=by
    rw[oS I,lr]
   rw[p,q,w,A,g,t,au,ay];have:=B.2;unfold kj;omega
  .have e:n.keys.take i++ [k]++n.keys.drop i=[]:=e
   simp at e
  .show n.keys.length<=(n.keys.take i++ [k]++n.keys.drop i).length
   rw[p,q,g];simp only[cz,jn];omega
  .have hs:s∈n.keys.take i++ [k]++n.keys.drop i:=hs
   simp only[cT,ff]at hs;rcases hs with (hs|rfl)|hs
   .exact .inr (fh hs)
   .exact .inl rfl
   .exact .inr (fg hs)
def Cg(T:aN)(aG:O Nat)(ef:O aH)(w:J)(v:aa)(w':J):Prop:=
 ∃ao:aN,bJ w' ao/\bQ T ao w w' 100/\ao.E=T.E/\ao.G=T.G/\
  ((v=.int .i64 2/\cl T<2*T.aI+3/\ao=T)\/
   (v=.int .i64 0/\2*T.aI+3<=cl T/\(∃pages,cl T<=cl ao+(2*T.aI+3)/\gh ao pages ef/\pages.Nodup/\(∀no∈pages,no∈aG\/(T.f no||T.g no)=false)/\∀no,ao.f no=true↔(no∈pages\/(T.f no=true/\no∉aG)))/\∀no,T.g no=true->ao.P no=T.P no/\ao.C.view no=T.C.view no)\/
   (v=.int .i64 3/\¬T.C.D.calm 100/\ao.root=T.root/\ao.aI=T.aI/\ao.f=T.f/\∀no,(T.f no||T.g no)=true->ao.P no=T.P no/\ao.C.view no=T.C.view no))
theorem vR.ab{T:aN}{aF:b5}{aG:O Nat}{ef:O aH}{w w1 w':J}{v:aa}{k:Nat}(h:vR (T.bm aF T.P) aG ef w1 v w')(e:bQ T (T.bm aF T.P) w w1 k)(r:k<=40)(f:∀j,aF.view j=T.C.view j)(i:2*T.aI+3<=cl T):Cg T aG ef w v w':=by
 obtain⟨ao,h1,h2,l,m,n⟩:=h;refine⟨ao,h1,(e.trans h2).mono I,l,m,?_⟩;have o:cl (T.bm aF T.P)=cl T:=rfl;have p:(T.bm aF T.P).aI=T.aI:=rfl;rcases n with ⟨_,b,_⟩|⟨rfl,b,d,c⟩|⟨rfl,b,d,c,q,g⟩
 .rw[o,p]at b;omega
 .exact .inr (.inl ⟨rfl,i,d,λno a=>⟨(c no a).1,(c no a).2.trans (f no)⟩⟩)
 .exact .inr (.inr ⟨rfl,λhc=>b (e.calm 60 (gg hc I)),d,c,q,λno a=>⟨(g no a).1,(g no a).2.trans (f no)⟩⟩)
theorem mY(w:J)(s:Y):aR aj 141 #[s] w (λv w'=>v=.bool (decide (1<=s.len/\s.len<=24))/\w=w'):=by
 refine okF (af.mY s) aA.mY func141 ?_;unfold af.mY;refine⟨?_,rfl⟩
 congr 1
 rw[fY,er,cS,cS,cS];omega
theorem yx{T:aN}{w:J}{pages:O Nat}{L:O aH}{k:Key}(h:bJ w T)(l:gh T pages L):∃steps,nk T.P k T.aI T.root steps/\
 ((steps=[]/\T.aI=0/\pages=[]/\L=[])\/(∃ (a:Nat) (bW:aD) (fc dM:aq Key) (b:O (Nat×aD×Nat)) (f:O Nat) (c d:O aH),steps=b++ [(a,bW,0)]/\Ctx T.P k T.aI 1 fc dM b f c d/\T.P a=some bW/\gT bW/\bW.within fc dM/\bW.keys≠ []/\(b≠ []->2<=bW.keys.length)/\fu fc dM k/\
   pages.Perm (a::f)/\L=c++(bW.dL++d)/\∀u,Loc k u->u L=c++(u bW.dL++d))):=by
 rcases l with ⟨h1,h2,m,n⟩|g
 .exact⟨[],by rw[h1];rfl,.inl ⟨rfl,h1,m,n⟩⟩
 .cases i:T.aI with
  |zero=>rw[i]at g;exact g.elim
  |succ t=>
   rw[i]at g;obtain⟨rest,b,a,bW,fc,dM,f,c,d,r1,b3,ag,br,bc,o,p,q,r,j,s,v⟩:=Ctx.down (P:=T.P) (k:=k) (top:=t+1) (aM:=L) .top g (λh=>absurd rfl h) ⟨λ_ e=>(by cases e),λ_ e=>(by cases e)⟩ (by simp) (λu _=>by simp);rw[iW]at b3;rw[f_]at j;exact⟨rest,r1,.inr ⟨a,bW,fc,dM,b,f,c,d,b3,ag,br,bc,o,p,q,r,j,s,v⟩⟩
theorem gh.low{T:aN}{pages:O Nat}{L:O aH}(h:gh T pages L)(d:L.length<4096):T.aI<12/\pages.length<=L.length:=by
 rcases h with ⟨h1,_,a,_⟩|b
 .rw[h1,a];exact⟨I,cL _⟩
 .obtain⟨au,ay,c⟩:=b.pages
  refine⟨?_,au⟩;rcases dO T.aI 12 with h|h
  .exact h
  .have e:=c I
   have f:2^12<=2^T.aI:=so (by decide) h;have g:(2:Nat)^12=4096:=by decide
   omega
theorem Ch{w1:J}{T:aN}{aF:b5}{pages:O Nat}{L ef:O aH}{k:Key}{steps:O (Nat×aD×Nat)}{s:Y}{a:O dD}{bW b:aD}{K V D:Y}(h:bJ w1 (T.bm aF T.P))(H:¬aF.D.ro)(N:gh T pages L)(Q:L.length<4096)(c9:pages.Nodup)(hf:∀x∈pages,T.f x=true)(m:aF.D.aQ<=900000000)
 (g:a.map dD.st=steps) (o:ki (λq=>¬(T.bm aF T.P).M q) w1 s a) (R:bF (λq=>¬(T.bm aF T.P).M q) w1 b K V D) (p:gT b) (S:(steps=[]/\T.aI=0/\pages=[]/\b.keys≠ []/\bM b<=232/\b.dL=ef)\/(∃ (d:Nat) (fc dM:aq Key) (c:O (Nat×aD×Nat)) (i:O Nat) (j l:O aH),steps=c++ [(d,bW,0)]/\Ctx T.P k T.aI 1 fc dM c i j l/\b.within fc dM/\(c≠ []->b.keys≠ [])/\pages.Perm (d::i)/\ef=j++(b.dL++l)/\bM b<=282)):
 aR aj 150 #[.pointer (some T.aZ),s,c2 b K V D] w1 (vR (T.bm aF T.P) pages ef w1):=by
 obtain⟨r,al⟩:=N.low Q;refine Hd h H m r c9 hf I λbf t ah aU u v U w y=>?_;have W:s.len=a.length:=by
  have:=o.own.1;rw[gM _ (nj a)]at this;omega
 have z:bF (λq=>¬((T.bm aF T.P).ck bf t).M q) ah b K V D:=(v.bj (lo:=0) (R.aY λq _ n=>⟨cL _,n⟩)).aY λq _ n=>n.2;rcases S with ⟨h1,h2,X,Z,aa,ab⟩|⟨d,fc,dM,c,i,j,l,C,E,ac,ad,F,ae,af⟩
 .subst h1 X
  have ag:a=[]:=by simpa using g
  exact Hb (by rw[W,ag];rfl) u z m (by
   have e:cl ((T.bm aF T.P).ck bf t)=cl (T.bm aF T.P):=rfl;omega) (by rw[w];simp) y p Z aa ab
 .have hlen:a.length=c.length+1:=by
   have:=congrArg List.length g;rw[C,dU,cz,jn]at this;exact this
  have am:1+c.length=T.aI:=E.eT;have ai:=o.to v;have G:(a.take (a.length-1)).map dD.st=c/\(a[a.length-1]'I).no=d:=by
   rw[C]at g;have au:(a.take (a.length-1)).map dD.st=(c++ [(d,bW,0)]).take (a.length-1):=by rw[←g,mJ]
   refine⟨by rw[au];exact me I,?_⟩;have ay:(a.map dD.st)[a.length-1]? =some (d,bW,0):=by
    rw[g,kR I];have:a.length-1-c.length=0:=by omega
    rw[this];rfl
   rw[lu,dE I]at ay;have ak:=Option.some.inj ay;exact congrArg Prod.fst ak
  refine Ha (k:=k) (cD:=i) (A:=j) (B:=l) (M:=b.dL) (lo:=fc) (hi:=dM) u ai z I (by show a.length=T.aI;omega) r m U (by rw[w];simp) (by rw[y];simp) ?_ ⟨p,ac,rfl,rfl⟩ ae.symm ?_ af (λh=>ad λe=>?_) λx hx=>?_
  .rw[G.1]
   have:a.length=T.aI:=by omega
   rw[this];exact E
  .rw[G.2];exact F
  .rw[e]at hlen;simp at hlen;omega
  .exact hf x (F.mem_iff.2 (jW _ hx))
theorem ki.ext'{B C:Nat->Prop}{w w':J}{s:Y}{l:O dD}(h:ki B w s l)(hx:Ext w w')(a:∀q,B q->C q):ki C w' s l:=
 ⟨h.own.ext hx,λq b=>a q (h.oG q b),λx c=>((h.bj x c).ext hx).aY λq _ d=>a q d⟩
theorem qi{a:O dD}{b:O (Nat×aD×Nat)}{c:Nat}{bC:aD}(d:a.map dD.st=b++ [(c,bC,0)]):∃h:0<a.length,(a[a.length-1]'I).n=bC:=by
 have hlen:a.length=b.length+1:=by
  have:=congrArg List.length d;rw[dU,cz,jn]at this;exact this
 refine⟨I,?_⟩;have ay:(a.map dD.st)[a.length-1]? =some (c,bC,0):=by
  rw[d,kR I];have:a.length-1-b.length=0:=by omega
  rw[this];rfl
 rw[lu,dE I]at ay;exact congrArg (λx=>x.2.1) (Option.some.inj ay)
theorem Hf{w:J}{T:aN}{pages:O Nat}{L:O aH}{tk dm:Y}{key val:Key}(h:bJ w T)(a8:¬T.C.D.ro)(H:gh T pages L)(ap:L.length<4096)(c9:pages.Nodup)(hf:∀x∈pages,T.f x=true)(b2:T.C.D.aQ<=800000000)
 (Q:Src 1 w tk (aJ key)) (R:∀q,aB tk q->q<w.heap.size/\¬T.M q) (aq:Src 1 w dm (aJ val)) (a9:∀q,aB dm q->q<w.heap.size/\¬T.M q):
 aR aj 85 #[.pointer (some T.aZ),tk,dm] w (λv w'=>(v=.int .i64 1/\¬(cw key/\val.length<=24)/\w=w')\/(cw key/\val.length<=24/\Cg T pages (e3 L key val) w v w')):=by
 have a_:=len8 Q;have aw:=len8 aq;refine okF (af.ud (some T.aZ) tk dm) aA.ud func85 ?_;(delta af.ud ak aO r1 aC av cc cj U bc ag ra iG;dsimp only);refine cq (λb w'=>b= !(decide (cw key))/\w=w') (λq c=>⟨λh=>(by cases h),λ_=>(mY w tk).use ?_⟩) ?_
 .rintro _ _ ⟨rfl,rfl⟩
  refine⟨_,rfl,c _ _ ⟨?_,rfl⟩⟩;unfold cw;rw[a_]
 rintro _ _ ⟨rfl,rfl⟩;refine⟨λd=>.inl ⟨rfl,λhg=>?_,rfl⟩,λd=>?_⟩
 .rw[dP hg.1,aw]at d
  have:¬(val.length:Int)>24:=by have:=hg.2;omega
  simp[this]at d
 have hg:cw key/\val.length<=24:=by
  by_cases h1:cw key
  .refine⟨h1,?_⟩
   rw[dP h1,aw]at d;have:¬(val.length:Int)>24:=by simpa using d
   omega
  .rw[jq h1]at d;simp at d
 have b4:=h.s.bC;obtain⟨b5,b6⟩:=H.low ap;have ax:Ext w w.drew:=cf w;have hd:=h.ext ax;refine aW ⟨λ_=>False,_,rfl,id,_,hd.cells.2.1,_,rfl,id,_,hd.cells.2.2.2.2,(ye hd.s).use ?_⟩;rintro _ b7 ⟨rfl,az⟩;have ba:((T.n:Int)-eY (λi=>T.f i||T.g i) T.n)=(cl T:Nat):=by
  have:=mn (λi=>T.f i||T.g i) T.n;unfold cl;omega
 have bb:IntKind.wrap .i64 (IntKind.wrap .i64 (2*(T.aI:Int))+3)=((2*T.aI+3:Nat):Int):=by
  rw[bA (n:=2*(T.aI:Int)) I I,bA I I];omega
 rw[ba,bb];have o:=ax.trans az;have S:=h.ext o;refine⟨_,rfl,az,λd=>.inr ⟨hg.1,hg.2,T,S,(bQ.ext T o).mono I,rfl,rfl,.inl ⟨rfl,?_,rfl⟩⟩,λd=>?_⟩
 .have d:((cl T:Nat):Int)<((2*T.aI+3:Nat):Int):=b8 d
  omega
 have bd:2*T.aI+3<=cl T:=by
  have:¬((cl T:Nat):Int)<((2*T.aI+3:Nat):Int):=cv d;omega
 obtain⟨steps,aE,aG⟩:=yx (k:=key) S H;refine(yi S I (Q.ext o) (λq c=>⟨fU (R q c).1 o.size,(R q c).2⟩) aE).use ?_;rintro _ z ⟨aF,W,X,aK,be⟩;have u:=((bQ.ext T o).trans X).mono (l:=2*T.aI) I;rcases be with ⟨s,a,rfl,m,Z⟩|⟨rfl,bf⟩
 rotate_left
 .refine⟨⟨none,0,0⟩,3,rfl,λ_=>.inr ⟨hg.1,hg.2,T.bm aF T.P,W,u.mono I,rfl,rfl,.inr (.inr ⟨rfl,λhc=>bf (gg hc I),rfl,rfl,rfl,λno _=>⟨rfl,aK no⟩⟩)⟩,λhx=>(by cases hx)⟩
 have b_:s.len=a.length:=by
  have:=Z.own.1;rw[gM _ (nj a)]at this;omega
 have ca:=o.size;have cb:a.length=T.aI:=by
  have:=aE.length;rw[←m,dU]at this;exact this
 refine⟨s,0,rfl,λhx=>(by cases hx),λ_=>bh (vs:=[false,(),(),()]) rfl λcd aL bg ce=>⟨aL.b9 rfl (fK (b:=true) (K:=bk) (V:=bk) (D:=bk)),rfl,cr aL (us:=dZ ⟨true,[],[],[]⟩ bk bk bk) rfl rfl λbi E bo cg=>?_⟩⟩;have aa:Ext z bi:=Ext.cn bg bo (bl _);obtain⟨hE,bs⟩:∃hE,hE=z.heap.size:=⟨_,rfl⟩;rw[←bs]at E⊢
 obtain⟨bW,j⟩:∃bW:aD,bW=(if ch:0<a.length then (a[a.length-1]'I).n else ⟨true,[],[],[]⟩):=⟨_,rfl⟩;refine iE (λp=>∃ (K V D:Y) (B:Nat->Prop),Ext z p/\Var p hE (dZ bW K V D) 202/\bF B p bW K V D) (λq c=>⟨λac=>?_,λac=>?_⟩) ?_
 .have ad:0<a.length:=by
   have:(s.len:Int)>0:=b8 ac;omega
  rw[dif_pos ad]at j;have e:IntKind.wrap .i64 ((s.len:Int)-1)=((a.length-1:Nat):Int):=by rw[bA I I];omega
  obtain⟨A,ar,_,_,_,hu⟩:=Z.at (i:=a.length-1) I;have F:=hu.ext aa;rw[e,dd];subst j;refine⟨A,ar,⟨I,I⟩,_,F.aC,_,F.aU,_,F.aO,_,F.dg,E.b9 rfl fK,rfl,cr E (us:=dZ (a[a.length-1]'I).n (a[a.length-1]'I).K (a[a.length-1]'I).V (a[a.length-1]'I).D) rfl rfl λbt bu bv ci=>?_⟩;have aM:Ext z bt:=Ext.cn aa bv I;exact c _ ⟨_,_,_,_,aM,bu,hu.bj.ext aM⟩
 .have ad:¬0<a.length:=by
   have:¬(s.len:Int)>0:=cv ac;omega
  rw[dif_neg ad]at j;subst j;exact c _ ⟨bk,bk,bk,λ_=>True,aa,E,bq.none _ _,bq.none _ _,cK.none _ _⟩
 rintro p ⟨K,V,D,B,G,bw,bx⟩;have ck:=G.size;have cm:=X.ab.size
 have bz:gT bW/\bM bW<=232:=by
  rcases aG with ⟨h1,h2,r,t⟩|⟨aP,bC,fc,dM,aS,aT,aV,aX,b3,ag,br,bc,a0,bB,bD,a1,a2,bE,a3⟩
  .have ae:¬0<a.length:=by
    rw[h1]at m;have:a=[]:=by simpa using m
    rw[this];simp
   rw[j,dif_neg ae];exact⟨⟨⟨λ_ h=>(by cases h),List.Pairwise.nil⟩,rfl,rfl,rfl,λ_ h=>(by cases h)⟩,by decide⟩
  .rw[b3]at m
   obtain⟨au,ay⟩:=qi m;rw[j,dif_pos au,ay];exact⟨bc,h.nm _ _ br⟩
 obtain⟨ah,co⟩:=bz;have cp:=(cH.eB (.inl ah) I);have cs:∀q,T.N q->q<w.heap.size:=λq c=>h.lt (aN.gl c);have bG:Src 1 p tk (aJ key):=(Q.ab u.ab λq c ai=>(R q c).2 (aN.gl ai)).ext G;have bI:Src 1 p dm (aJ val):=(aq.ab u.ab λq c ai=>(a9 q c).2 (aN.gl ai)).ext G;obtain⟨d0,d1,d2,d3⟩:=bH bw;refine⟨_,d0,K,d1,V,d2,D,d3,(pH bx ah I bG bI hg.1 hg.2).use ?_⟩;rintro _ bK ⟨cI,cQ,ct,rfl,bN,bO⟩;refine⟨_,cI,cQ,ct,true,rfl,bh (vs:=[false,(),(),()]) rfl λcu a4 bP cx=>⟨a4.b9 rfl fK,rfl,cr a4 (us:=dZ (hC bW key val) cI cQ ct) rfl rfl λa5 bR bS cy=>⟨λhx=>(by cases hx),λ_=>?_⟩⟩⟩;have a6:Ext bK a5:=Ext.cn bP bS (bl _);have al:=(G.trans bO).trans a6;obtain⟨d0,d1,d2,d3⟩:=bH bR;obtain⟨bn,bp,bT,am,bU,a7⟩:=He ah hg.1 hg.2;have bV:aF.D.aQ<=900000000:=by
  have:aF.D.aQ<=T.C.D.aQ+2*T.aI:=u.aQ;omega
 have bX:bF (λq=>¬(T.bm aF T.P).M q) a5 (hC bW key val) cI cQ ct:=(bN.ext a6).aY λq _ c bY=>by have:=W.lt bY;omega
 have bZ:=Ch (ef:=e3 L key val) (k:=key) (steps:=steps) (bW:=bW) (W.ext al) (λe=>a8 λi=>X.bL.1▸e i) H ap c9 hf bV m (Z.ext' al λq c=>c.2) bX bn (by
  rcases aG with ⟨h1,h2,r,t⟩|⟨aP,bC,fc,dM,aS,aT,aV,aX,b3,ag,br,bc,a0,bB,bD,a1,a2,bE,a3⟩
  .have ae:¬0<a.length:=by omega
   rw[dif_neg ae]at j;refine .inl ⟨h1,h2,r,am,?_,?_⟩
   .have:bM bW=1:=by rw[j];rfl
    omega
   .rw[bp,j,t];rfl
  .rw[b3]at m
   obtain⟨au,ay⟩:=qi m;rw[dif_pos au,ay]at j;rw[j]at bp bT am bU a7⊢;refine .inr ⟨aP,fc,dM,aS,aT,aV,aX,b3,ag,λs hs=>?_,λ_=>am,a2,?_,by have:=h.nm _ _ br;omega⟩
   .rcases a7 s hs with rfl|an
    .exact a1
    .exact a0 s an
   .rw[bp];exact a3 (λL=>e3 L key val) (E5 key val))
 refine⟨_,d0,cI,d1,cQ,d2,ct,d3,bZ.use ?_⟩;intro v w' b0;have b1:=b0.ab (w:=w) ((u.trans (bQ.ext (T.bm aF T.P) al)).mono (l:=40) I) (bl _) aK bd;obtain⟨ao,h1,h2,r,t,an⟩:=b1;rcases an with ⟨rfl,y⟩|⟨rfl,y⟩|⟨rfl,y⟩
 .exact⟨2,rfl,.inr ⟨hg.1,hg.2,ao,h1,h2,r,t,.inl ⟨rfl,y⟩⟩⟩
 .exact⟨0,rfl,.inr ⟨hg.1,hg.2,ao,h1,h2,r,t,.inr (.inl ⟨rfl,y⟩)⟩⟩
 .exact⟨3,rfl,.inr ⟨hg.1,hg.2,ao,h1,h2,r,t,.inr (.inr ⟨rfl,y⟩)⟩⟩
end Go.Proofs.YtkdhdlfonmgheaaGreat
