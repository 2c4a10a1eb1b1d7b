/- Contracts of the functions that the statement reaches, and the plain laws over them; each theorem stands with its conditions. -/
import Derived.Test.YtcmgnhkpfllinaaGreatBALasts4
namespace Go.Proofs.YtcmgnhkpfllinaaGreat
open Go aS Go.Proofs.Tryz
variable{w w':J}{h k i no m:Nat}{s K V D tk t:ad}{ek L acc bn bK:O aP}{n:aG}{ks:O Key}{aM:cn}{pages p seen:O Nat}{B C W:U1}{key to fr:Key}{on:ao}{lo hi o:au Key}{P:Nat->au aG}{α:Type}
def aN.o2(T:aN)(r h:Nat):aN:={T with root:=r,aK:=h}
theorem b5.LG{T:aN}{r:Nat}(ht:b5 w T)(a:Var w' T.bd (mS (T.o2 r h)) 243)(hc:ag (λq=>q=T.bd) w w')(b:r<T.n)(c:h<=12):b5 w' (T.o2 r h)/\bY T (T.o2 r h) w w' 0:=
 ⟨⟨a,ht.s.ah hc λq d e=>ht.ld (e▸d),ht.ca.ah hc λq e=>.inl e,ht.ld,ht.dv,ht.jy,ht.n,⟨b,c,ht.num.2.2⟩,ht.eS,ht.cl,ht.low⟩,
  ⟨rfl,rfl,rfl,rfl,rfl,rfl,rfl,rfl,rfl,rfl,bk _,λ_ h=>h,hc.mono λq _ e=>.inr (.inl e),λq h=>.inl h,λq h=>.inl h⟩⟩
def gN(T:aN)(pages:O Nat)(L:O aP):Prop:=(T.aK=0/\T.root=0/\pages=[]/\L=[])\/er T.P T.aK none none T.root pages L
theorem FB{s t:Nat->ao}:∀ {n:Nat},(∀i,s i=true->t i=true)->e1 s n<=e1 t n
 |0,_=>bk _
 |n+1,h=>by
  have h1:=FB (n:=n) h
  show e1 s n+(s n).toNat<=e1 t n+(t n).toNat
  cases hs:s n with
  |false=>exact Nat.add_le_add h1 (cI _)
  |true=>rw[h n hs];exact Nat.add_le_add_right h1 _
def yJ(T:aN)(aL:O Nat)(ek:O aP)(w:J)(v:aa)(w':J):Prop:=
 ∃aq:aN,b5 w' aq/\bY T aq w w' 60/\aq.E=T.E/\aq.G=T.G/\
  ((v=.int .i64 2/\cy T<2*T.aK+3/\aq=T)\/
   (v=.int .i64 0/\2*T.aK+3<=cy T/\(∃pages,cy T<=cy aq+(2*T.aK+3)/\gN aq pages ek/\pages.Nodup/\(∀no∈pages,no∈aL\/(T.f no||T.g no)=false)/\∀no,aq.f no=true↔(no∈pages\/(T.f no=true/\no∉aL)))/\∀no,T.g no=true->aq.P no=T.P no/\aq.C.view no=T.C.view no)\/
   (v=.int .i64 3/\¬T.C.D.calm 60/\aq.root=T.root/\aq.aK=T.aK/\aq.f=T.f/\∀no,(T.f no||T.g no)=true->aq.P no=T.P no/\aq.C.view no=T.C.view no))
theorem FC{l:O Nat}(h:∀x,l.count x<=1):l.Nodup:=List.nodup_iff_count.2 h
theorem LH{T:aN}{aL:O Nat}(h:b5 w T)(b0:¬T.C.D.ro)(c5:T.C.D.aX<=900000000)(y:T.aK<12)(b3:aL.Nodup)(aE:∀x∈aL,T.f x=true)(c6:aL.length<=5000)
 (b4:∀ (bU j:U1) (w1:J) (aZ:dQ),dE w1 (T.cx bU j) aZ->bY T (T.cx bU j) w w1 0->2*T.aK+3<=cy T->aZ.made=[]->aZ.left=[]->aH aj 187 #[.pointer (some aZ.cb),s,dz n K V D] w1 (nK (T.cx bU j) aZ aL ek w1)):
 aH aj 131 #[.pointer (some T.bd),s,dz n K V D] w (yJ T aL ek w):=by
 have c7:=h.s.bx;refine ae.Ib (some T.bd) s n.leaf K V D w _ ?_;(delta ae.tI r1 bB ak ar st Y aW al rh fI;dsimp only);refine a6 (vs:=ee n K V D) rfl λw1 ab a_ c8=>a6 (vs:=[U8]) rfl λai ba bb c9=>aT ?_;have ac:Ext ai ai.drew:=cw _;obtain⟨bc,b7⟩:=U6 ai.drew;rw[←b7]at ac⊢;have be:=(a_.trans bb).trans ac;have k:=h.ext be;obtain⟨ev,b_⟩:=U6 w1.heap.size;rw[←b_]at ba⊢;refine⟨λ_=>False,_,rfl,id,_,k.cells.2.1,_,rfl,id,_,k.cells.2.2.2.2,(Bh k.s).use ?_⟩;rintro _ aF ⟨rfl,af⟩;have aI:=be.trans af;have R:=(ba.ext ac).ext af;have ca:((T.n:Int)-e1 (λi=>T.f i||T.g i) T.n)=(cy T:Nat):=by
  have:=nF (λi=>T.f i||T.g i) T.n;unfold cy;omega
 have cc:IntKind.wrap .i64 (IntKind.wrap .i64 (2*(T.aK:Int))+3)=((2*T.aK+3:Nat):Int):=by
  rw[bq (n:=2*(T.aK:Int)) I I,bq I I];omega
 rw[ca,cc];refine⟨_,rfl,af,λam=>?_,λam=>?_⟩
 .have am:((cy T:Nat):Int)<((2*T.aK+3:Nat):Int):=b2 am
  obtain⟨ay,az⟩:=ez R (i:=0) U9;have cd:=dU aF ev 0 (2:Int);have ce:=eE R (i:=0) (2:Int);have bf:=Ext.cp aI cd I;exact⟨ay,az,aT ⟨2,ce.cell,T,h.ext bf,(bY.ext T bf).mono I,rfl,rfl,.inl ⟨rfl,I,rfl⟩⟩⟩
 have bg:2*T.aK+3<=cy T:=by
  have:¬((cy T:Nat):Int)<((2*T.aK+3:Nat):Int):=cr am;omega
 refine a6 (vs:=[.pointer (some T.bd),(),()]) rfl λch bh ci c_=>a6 (vs:=[.pointer none]) rfl λbi aJ bj da=>?_;obtain⟨cb,bk⟩:=U6 aF.heap.size;obtain⟨fj,bl⟩:=U6 ch.heap.size;rw[←bk]at bh⊢;rw[←bl]at aJ⊢;obtain⟨ay,az⟩:=ez aJ (i:=0) U9;have an:=dU bi fj 0 (.pointer (some cb));have aM:=eE aJ (i:=0) (.pointer (some cb));refine⟨ay,az,aT ?_⟩;obtain⟨B,cj⟩:=U6 (bi.setCell fj (.pointer (some cb)));rw[←cj]at an aM⊢;have db:=aI.size;have dc:=an.size;have aO:Ext aF B:=Ext.cp (ci.trans bj) an I;have bm:=aI.trans aO;have bn:=R.ext aO;have bp:=(bh.ext bj).ah an I;have ck:=((ab.ext bb).ext ac).ext (af.trans aO);obtain⟨bU,aQ⟩:=U6 (λq=>T.E q\/q=ev);obtain⟨j,aS⟩:=U6 (λq=>T.G q\/q=cb);have aU:∀q,bU q->T.E q\/q=ev:=λq c=>by rw[aQ]at c;exact c
 have ao:∀q,j q->T.G q\/q=cb:=λq c=>by rw[aS]at c;exact c
 have br:∀q,T.E q->bU q:=λq c=>by rw[aQ];exact .inl c
 have cl:∀q,T.G q->j q:=λq c=>by rw[aS];exact .inl c
 have aV:bU ev:=by rw[aQ];exact .inr rfl
 have cm:j cb:=by rw[aS];exact .inr rfl
 have dd:=bn.lt;have de:=bp.lt;have bs:b5 B (T.cx bU j):=h.grow (W:=λ_=>False) bm (λ_ h=>h.elim) (λq c=>(aU q c).imp id λe=>.inr ⟨I,I⟩) (λq c=>.inr ((ao q c).imp id λe=>⟨I,I⟩)) λq c hg=>by
  rcases aU q c with h1|h1<;>rcases ao q hg with h2|h2
  .exact(h.dv q h1).2.2 h2
  .have:=h.lt (q:=q) (.inr (.inr (.inr (.inl h1))));omega
  .have:=h.lt (q:=q) (.inr (.inr (.inr (.inr h2))));omega
  .have:=R.lt;omega
 have bu:bY T (T.cx bU j) w B 0:=(bY.refl T w).step (W:=λ_=>False) bm (λ_ h=>h.elim) (λq c=>(aU q c).imp id λe=>.inr I) λq c=>(ao q c).imp id λe=>by omega
 have cn:dE B (T.cx bU j) ⟨cb,bM,bM,[],[]⟩:=⟨bs,bp,aR.none _ _ _,aR.none _ _ _,cm,λq c=>(fH q c).elim,λq c=>(fH q c).elim,b0⟩;have co:=b4 bU j B _ cn bu bg rfl rfl;obtain⟨b9,aZ,bo,bt⟩:=bT ck;refine⟨_,aM.cell,_,b9,K,aZ,V,bo,D,bt,co.use ?_⟩;rintro v F ⟨bw,u,m,l,bv,d,cq⟩;have S:bw.E ev:=by rw[d.E];exact aV
 have ap:=bn.ah d.to.ah (bs.j_ aV);have cs:¬(T.cx bU j).N fj:=by
  have df:cb<fj:=by rw[bk,bl];omega
  rintro(c|c|c|c)
  .have:=h.lt (q:=fj) (.inl c);omega
  .have:=h.lt (q:=fj) (.inr (.inl c));omega
  .have:=h.lt (q:=fj) (.inr (.inr (.inl c)));omega
  .rcases ao fj c with h1|h1
   .have:=h.lt (q:=fj) (.inr (.inr (.inr (.inr h1))));omega
   .omega
 have bz:=aM.ah d.to.ah cs;have au:u.cb=cb:=d.cb;have dh:bw.bd=T.bd:=d.to.bd;have av:u.made=m:=d.made;have aw:u.left=l:=d.left;have aY:fj≠ev:=U4 R.lt
 have bA:bY T bw w F 60:=(bu.trans d.to).mono I
 have fin:∀ (w':J) (aq:aN),b5 w' aq->bY T aq w w' 60->aq.E=bU->(∀q,T.G q->aq.G q)->b5 w' (aq.cx T.E T.G)/\bY T (aq.cx T.E T.G) w w' 60:=by
  intro w' aq hc ht bC bD;exact⟨hc.grow (W:=λ_=>False) (ag.refl _ _) (λ_ h=>h.elim) (λq c=>.inl (by rw[bC];exact br q c)) (λq c=>.inr (.inl (bD q c))) λq c=>(h.dv q c).2.2,
   ht.step (W:=λ_=>False) (ag.refl _ _) (λ_ h=>h.elim) (λq c=>.inl (by rw[bC];exact br q c)) λq c=>.inl (bD q c)⟩
 have bE:∀q,T.G q->bw.G q:=λq c=>d.G q (cl q c);have di:=(a_).size;have a0:∀ (w0:J) (aq:aN) (c':dQ) (x:Int),dE w0 aq c'->bY T aq w w0 60->aq.E ev->dE (w0.setCell ev x) aq c'/\bY T aq w (w0.setCell ev x) 60:=λw0 aq c' x hc ht he=>
  ⟨hc.Fy (dU w0 ev 0 _) λq e=>.inl (e▸he),ht.step (E:=aq.E) (G:=aq.G) (dU w0 ev 0 _) (λq e a1=>I) (λq c=>.inl c) λq c=>.inl c⟩
 have dj:m.length<=1600:=by
  have:=d.room;have:cy (T.cx bU j)<=T.n:=by unfold cy;exact Nat.sub_le _ _
  omega
 have ct:(∃a b:Int,v=.tuple #[a,b,(3:Int)]/\¬T.C.D.calm 60)\/(∃ (root y:Nat) (pages:O Nat),v=.tuple #[root,y,U8]/\((y=0/\root=0/\pages=[]/\ek=[])\/er bw.P y none none root pages ek)/\(pages++l).Perm (m++aL)/\y<=12/\m.length<=2*T.aK+3):=by
  obtain⟨rfl,h1,h2,a2⟩|⟨root,y,pages,rfl,h1,h2,k,H,a2⟩|⟨a,b,rfl,a3⟩:=cq
  .exact .inr ⟨0,0,[],rfl,.inl ⟨rfl,rfl,rfl,h1⟩,h2,I,a2⟩
  .have H:y<=T.aK+1:=H
   exact .inr ⟨root,y,pages,rfl,.inr h1,h2,I,a2⟩
  .exact .inl ⟨a,b,rfl,a3⟩
 obtain⟨a,b,rfl,a3⟩|⟨root,o,pages,rfl,cu,bF,cv,dk⟩:=ct
 .
  obtain⟨ay,az⟩:=ez ap (i:=0) U9;have z:=eE ap (i:=0) (3:Int);obtain⟨ax,aB⟩:=a0 F bw u 3 bv bA S;have U:=bz.ah (dU F ev 0 (3:Int)) aY;refine⟨a,b,3,rfl,ay,az,aT ⟨3,z.cell,λ_=>⟨3,z.cell,?_⟩,nofun⟩⟩;obtain⟨cB,cC⟩:=ez z (i:=0) U9;have a4:=eE z (i:=0) (3:Int);obtain⟨bG,bH⟩:=a0 _ bw u 3 ax aB S;have a5:=U.ah (dU _ ev 0 (3:Int)) aY;refine⟨cB,cC,aT (ae.Dz ev fj _ _ ?_)⟩;generalize dl:(F.setCell ev (3:Int)).setCell ev (3:Int)=bI at a4 bG a5 bH⊢;(delta ae.rL r1 ak al fI;dsimp only);have L:Ext bI bI.drew:=cw _;have p:=bG.ext L;have X:=Fv p p.ma.src (λq c=>(p.fE q c).1) (l:=u.made) (λx hx=>by rw[av]at hx;rw[d.f];simp[hx]) (av▸d.bN) (by rw[av];omega);rw[au]at X;have Z:=p.cells.2.1;rw[au]at Z;refine⟨3,a4.cell,λ_=>aT ⟨id,_,a5.drew.cell,id,_,a5.drew.cell,_,rfl,id,u.ma,Z,X.use ?_⟩,nofun⟩;rintro _ bJ ⟨rfl,cg,A,hg⟩;rw[av]at hg;have cD:=(a4.ext L).ah hg.to.ah (p.t.j_ S);have cE:bY T cg w bJ 60:=((bH.trans (bY.ext bw L)).trans hg.to).mono I;obtain⟨f1,f2⟩:=fin bJ cg A.t cE (hg.E▸d.E) λq c=>by rw[hg.G];exact bE q c
  refine⟨rfl,3,cD.cell,_,f1,f2,rfl,rfl,.inr (.inr ⟨rfl,a3,hg.root.trans d.root,hg.aK.trans d.aK,?_,λno aa=>?_⟩)⟩
  .funext no
   show cg.f no=T.f no;rw[hg.f,d.f];by_cases r:no∈m
   .have:=(d.kL no r).1
    have e:(T.cx bU j).f no=T.f no:=rfl;rw[e]at this⊢
    cases a7:T.f no
    .simp[r]
    .rw[a7]at this;cases this
   .simp[r];rfl
  .have r:no∉m:=λr=>by
    have:=(d.kL no r).1;have e:((T.cx bU j).f no||(T.cx bU j).g no)=(T.f no||T.g no):=rfl;rw[e,aa]at this;cases this
   have h1:=hg.eU no (.inl r);have h2:=d.eU no aa;exact⟨h1.1.trans h2.1,h1.2.trans h2.2⟩
 .
  have Q:∀x,pages.count x+l.count x=m.count x+aL.count x:=λx=>by
   have:=o1.1 bF x;simpa only[ph] using this
  have aC:∀x,m.count x+aL.count x<=1:=λx=>by
   have h1:=List.nodup_iff_count.1 d.bN x;have h2:=List.nodup_iff_count.1 b3 x;rcases pg (m.count x) with k|k
   .omega
   .rcases pg (aL.count x) with H|H
    .omega
    .have r:=kT.1 k
     have cF:=kT.1 H;have:=(d.kL x r).1;have e:((T.cx bU j).f x||(T.cx bU j).g x)=(T.f x||T.g x):=rfl;rw[e,aE x cF]at this;cases this
  have hlen:pages.length+l.length=m.length+aL.length:=by
   have:=bF.length_eq;simpa only[cz] using this
  have cG:∀x∈l,bw.f x=true:=λx hx=>by
   have h1:=kT.2 hx;have h2:=Q x;rw[d.f];rcases pg (m.count x) with k|k
   .have:x∈aL:=kT.1 I
    have e:(T.cx bU j).f x=T.f x:=rfl;rw[e,aE x this];rfl
   .have:x∈m:=kT.1 k
    simp[this]
  have cH:l.Nodup:=FC λx=>U5 (Q x) (aC x)
  obtain⟨ay,az⟩:=ez ap (i:=0) U9;have z:=eE ap (i:=0) (0:Int);obtain⟨ax,aB⟩:=a0 F bw u 0 bv bA S;have U:=bz.ah (dU F ev 0 (0:Int)) aY;refine⟨_,_,0,rfl,ay,az,aT ⟨0,z.cell,nofun,λ_=>aT ?_⟩⟩;generalize dm:F.setCell ev (0:Int)=bK at z ax U aB⊢;have L:Ext bK bK.drew:=cw _;have p:=ax.ext L;have X:=Fv p p.g4.src (λq c=>(p.lM q c).1) (l:=u.left) (λx hx=>cG x (by rw[aw]at hx;exact hx)) (aw▸cH) (by rw[aw];omega);rw[au]at X;have Z:=p.cells.2.2;rw[au]at Z;refine⟨id,_,U.drew.cell,id,_,U.drew.cell,_,rfl,id,u.g4,Z,X.use ?_⟩;rintro _ M ⟨rfl,cg,A,hg⟩;rw[aw]at hg;have cI:=(z.ext L).ah hg.to.ah (p.t.j_ S);have bL:bY T cg w M 60:=((aB.trans (bY.ext bw L)).trans hg.to).mono I;have a8:cg.bd=T.bd:=bL.bd;have bO:cg.E=bU:=by rw[hg.E];exact d.E
  have cJ:cg.E ev:=by rw[bO];exact aV
  have bP:Var M T.bd (mS cg) 243:=by rw[←a8];exact A.t.t
  obtain⟨b1,cf⟩:=ez bP (i:=3) (by simp[mS]);have bQ:=eE bP (i:=3) root;have cK:=dU M T.bd 3 root;obtain⟨cL,cM⟩:=ez bQ (i:=4) (by simp[mS]);have bR:=eE bQ (i:=4) o;have cN:=dU (M.setCell ⟨T.bd,3,none⟩ root) T.bd 4 o;refine⟨rfl,_,rfl,b1,cf,aT ⟨_,rfl,by rw[aA,aA];exact cL,by rw[aA,aA];exact cM,aT ?_⟩⟩;rw[aA,aA,cA,cA];have a9:ag (λq=>q=T.bd) M ((M.setCell ⟨T.bd,3,none⟩ root).setCell ⟨T.bd,4,none⟩ o):=cK.trans cN;generalize dn:(M.setCell ⟨T.bd,3,none⟩ root).setCell ⟨T.bd,4,none⟩ o=aD at bR a9⊢;have cO:∀x∈pages,x∉l:=λx hx a1=>by
   have h1:=kT.2 hx;have h2:=kT.2 a1;have:=Q x;have:=aC x;omega
  have bS:(o=0/\root=0/\pages=[]/\ek=[])\/(er cg.P o none none root pages ek/\root∈pages):=cu.imp id λcP=>cP.agree λx hx=>((hg.eU x (.inl (cO x hx))).1).symm;have cQ:root<cg.n:=by
   obtain⟨_,h1,_⟩|⟨h1,_⟩:=bS
   .have:=A.t.s.b6;omega
   .obtain⟨bN,_,h2,_⟩:=h1.j6
    exact(A.t.eS _ _ h2).1
  have cR:Var aD cg.bd (mS (cg.o2 root o)) 243:=by rw[a8];exact bR
  obtain⟨cS,cT⟩:=A.t.LG cR (a8▸a9) cQ cv;have cU:ev≠T.bd:=λe=>U4 (h.lt (q:=T.bd) (.inr (.inl rfl)))
  have bV:=cI.ah a9 cU;obtain⟨cV,cW⟩:=ez bV (i:=0) U9;have bW:=eE bV (i:=0) (0:Int);have bX:=dU aD ev 0 (0:Int);refine⟨cV,cW,aT (ae.Dz ev fj _ _ ?_)⟩;(delta ae.rL r1 ak al fI;dsimp only);refine⟨0,bW.cell,nofun,λ_=>⟨0,bW.cell,?_⟩⟩;have cX:b5 (aD.setCell ev (0:Int)) (cg.o2 root o):=cS.grow (E:=cg.E) (G:=cg.G) bX (λq e _=>.inl (e▸cJ)) (λq c=>.inl c) (λq c=>.inr (.inl c)) λq c=>(A.t.dv q c).2.2;have cY:bY T (cg.o2 root o) w (aD.setCell ev (0:Int)) 60:=((bL.trans cT).mono I).step (E:=cg.E) (G:=cg.G) bX (λq e a1=>I) (λq c=>.inl c) λq c=>.inl c;obtain⟨f1,f2⟩:=fin _ _ cX cY bO λq c=>by
   show cg.G q;rw[hg.G];exact bE q c
  refine⟨_,f1,f2,rfl,rfl,.inr (.inl ⟨rfl,bg,⟨pages,?_,?_,FC λx=>U5 (Q x) (aC x),λno hx=>?_,λno=>?_⟩,λno aa=>?_⟩)⟩
  .have h1:cy bw+m.length=cy T:=d.room
   have h2:cy bw<=cy (cg.o2 root o):=by
    show bw.n-_<=cg.n-e1 (λi=>cg.f i||cg.g i) cg.n;rw[hg.to.n];have:=FB (s:=λi=>cg.f i||cg.g i) (t:=λi=>bw.f i||bw.g i) (n:=bw.n) λi hi=>by
     rw[hg.f,hg.to.g]at hi;rw[jE,dg]at hi;rw[jE];exact hi.imp And.left id
    omega
   show cy T<=cy (cg.o2 root o)+_;omega
  .obtain⟨h1,h2,k,H⟩|⟨h1,_⟩:=bS
   .exact .inl ⟨h1,h2,k,H⟩
   .exact .inr h1
  .have h1:=kT.2 hx
   have h2:=Q no;rcases pg (aL.count no) with k|k
   .have r:no∈m:=kT.1 I
    exact .inr (d.kL no r).1
   .exact .inl (kT.1 k)
  .show cg.f no=true↔_
   rw[hg.f,d.f];have e:(T.cx bU j).f no=T.f no:=rfl;rw[e];have dp:=Q no;have A:=aC no;have bZ:no∈m↔0<m.count no:=kT.symm;have ab:no∈aL↔0<aL.count no:=kT.symm;have cZ:no∈l↔0<l.count no:=kT.symm;have c0:no∈pages↔0<pages.count no:=kT.symm;have c1:0<aL.count no->T.f no=true:=λh=>aE no (ab.2 h);have c2:0<m.count no->T.f no=false:=λh=>by
    have:=(d.kL no (bZ.2 h)).1;have e:((T.cx bU j).f no||(T.cx bU j).g no)=(T.f no||T.g no):=rfl;rw[e]at this
    cases a7:T.f no
    .rfl
    .rw[a7]at this;cases this
   rw[dg,jE,b8,jD,ko,bZ,ab,cZ,c0];constructor
   .rintro⟨h1|h1,h2⟩
    .by_cases k:0<aL.count no
     .left;omega
     .exact .inr ⟨h1,k⟩
    .left;omega
   .rintro(h1|⟨h1,h2⟩)
    .refine⟨?_,I⟩
     by_cases k:0<aL.count no
     .exact .inl (c1 k)
     .right;omega
    .refine⟨.inl h1,λk=>?_⟩
     have:0<m.count no:=I
     rw[c2 this]at h1;cases h1
  .have c3:(T.f no||T.g no)=true:=by rw[aa];simp
   have c4:bw.g no=true:=by rw[d.to.g];exact aa
   have h1:=hg.eU no (.inr c4);have h2:=d.eU no c3;exact⟨h1.1.trans h2.1,h1.2.trans h2.2⟩
theorem FD{k:Key}(hs:ks.Pairwise bF)(h1:cT ks k<=i)(hi:i<ks.length)(d:ks[cT ks k]? ≠some k):bF k ks[i]:=by
 rcases qa.1 (r8 hs h1 hi) with h2|h2
 .exact h2
 .exfalso
  rcases dV (cT ks k) i with a|a
  .have b:cT ks k<ks.length:=I
   have f:=r8 hs (bk _) b;have c:=lV.1 hs _ _ b hi a;rw[←h2]at c;exact f c
  .have e:i=cT ks k:=I
   apply d;subst e;rw[dR hi,←h2]
theorem BA(h:hT n)(hi:i<=n.keys.length):∃a b c d:O Key,n.keys=a++b/\n.vals=c++d/\a.length=i/\c.length=i/\b.length=d.length/\n.keys.take i=a/\n.keys.drop i=b/\n.vals.take i=c/\n.vals.drop i=d:=by
 have e:=h.len;refine⟨n.keys.take i,n.keys.drop i,n.vals.take i,n.vals.drop i,(ga i _).symm,(ga i _).symm,?_,?_,?_,rfl,rfl,rfl,rfl⟩
 .rw[cF];omega
 .rw[cF];omega
 .rw[eH,eH];omega
def lh(k v:Key):Nat:=2+k.length+v.length
theorem su(h:n.leaf=true):bS n=1+(List.zipWith lh n.keys n.vals).sum:=by
 unfold bS;rw[if_pos h,l8 h];rfl
theorem LI{k v:Key}(h:hT n)(B:cK k)(C:v.length<=24):hT (ir n k v)/\(ir n k v).dT=gX n.dT k v/\bS (ir n k v)<=bS n+50/\(ir n k v).keys≠ []/\n.keys.length<=(ir n k v).keys.length/\(∀s∈(ir n k v).keys,s=k\/s∈n.keys):=by
 have hlen:=h.len;have D:=r7 n.keys k;have J:n.dT=n.keys.zip n.vals:=rfl;have E:=h.fg;have F:∀ (j:Nat) (m:j<n.keys.length),j<cT n.keys k->bF n.keys[j] k:=λj m h1=>qc h1 m;have G:n.keys[cT n.keys k]? ≠some k->∀ (j:Nat) (m:j<n.keys.length),cT n.keys k<=j->bF k n.keys[j]:=λhe j m h1=>FD E h1 m he;rw[J,JE h.fg];unfold ir iq;generalize hi:cT n.keys k=i at D F G⊢;obtain⟨a,b,c,d,g,t,K,L,M,p,q,w,A⟩:=BA h D;have f:n.keys.zip n.vals=a.zip c++b.zip d:=by rw[g,t];exact qb I
 have u:(a.zip c).length=i:=by rw[n2];omega
 by_cases he:n.keys[i]? =some k
 .rw[if_pos (by simpa using he),if_pos he]
  have N:∃o,b=k::o:=by
   cases b with
   |nil=>rw[g,hL I]at he;simp at he
   |cons y o=>
    rw[g,hL I,K,o5]at he;simp at he;exact⟨o,by rw[he]⟩
  obtain⟨o,rfl⟩:=N;obtain⟨x,l,rfl⟩:∃x l,d=x::l:=by
   cases d with
   |nil=>simp at M
   |cons x l=>exact⟨x,l,rfl⟩
  have H:n.vals.set i v=c++v::l:=by
   rw[t,uZ _ _ I,L,o5];rfl
  refine⟨⟨⟨h.ok,h.fg⟩,h.leaf,by simp[hlen],h.kids,λz f=>?_⟩,?_,?_,λe=>by have e:n.keys=[]:=e;rw[e]at g;simp at g,bk _,λs hs=>.inr hs⟩
  .rcases m_ f with h1|h1
   .exact h.vals z h1
   .rw[h1];exact C
  .show n.keys.zip (n.vals.set i v)=_
   rw[H,f,g,qb I,nB u];have O:(a.zip c++(k::o).zip (x::l)).drop (i+1)=o.zip l:=by
    rw[List.zip_cons_cons,show a.zip c++(k,x)::o.zip l=(a.zip c++ [(k,x)])++o.zip l by simp];exact drop_left' (by simp only[cz,u,jW])
   rw[O];rfl
  .rw[su h.leaf,su (n:={n with vals:=n.vals.set i v}) h.leaf]
   show 1+(List.zipWith lh n.keys (n.vals.set i v)).sum<=_;rw[H,g,t,qN I,qN I,my,my,List.zipWith_cons_cons,List.zipWith_cons_cons,sP,sP];unfold lh;omega
 .rw[if_neg (by simpa using he),if_neg he]
  have P:=G he;refine⟨⟨⟨λz f=>?_,?_⟩,h.leaf,?_,h.kids,λz f=>?_⟩,?_,?_,λe=>?_,?_,λs hs=>?_⟩
  .have f:z∈n.keys.take i++ [k]++n.keys.drop i:=f
   simp only[cR,e8]at f;rcases f with (f|rfl)|f
   .exact h.ok z (fq f)
   .exact B
   .exact h.ok z (fZ f)
  .show(n.keys.take i++ [k]++n.keys.drop i).Pairwise bF
   rw[p,q];have Q:(a++b).Pairwise bF:=by rw[←g];exact E
   obtain⟨ay,az,R⟩:=mx.1 Q;have S:∀x∈a,bF x k:=λx hx=>by
    obtain⟨j,m,rfl⟩:=fe hx;have:=F j (by rw[g,cz];omega) I;simp only[g,pd m]at this;exact this
   have T:∀y∈b,bF k y:=λy r=>by
    obtain⟨j,m,rfl⟩:=fe r;have:=P (i+j) (by rw[g,cz];omega) I;have e:(a++b)[i+j]'(by rw[cz];omega)=b[j]:=by
     rw[qL I];congr 1;omega
    simp only[g,e]at this;exact this
   rw[cO];refine mx.2 ⟨ay,?_,λx hx y r=>?_⟩
   .exact jV.2 ⟨T,az⟩
   .rcases cZ.1 r with rfl|r
    .exact S x hx
    .exact R x hx y r
  .show(n.vals.take i++ [v]++n.vals.drop i).length=(n.keys.take i++ [k]++n.keys.drop i).length
   rw[p,q,w,A];simp only[cz,jW];omega
  .have f:z∈n.vals.take i++ [v]++n.vals.drop i:=f
   simp only[cR,e8]at f;rcases f with (f|rfl)|f
   .exact h.vals z (fq f)
   .exact C
   .exact h.vals z (fZ f)
  .show(n.keys.take i++ [k]++n.keys.drop i).zip (n.vals.take i++ [v]++n.vals.drop i)=_
   rw[p,q,w,A,f,nB u,drop_left' u,cO,cO,qb I];rfl
  .rw[su h.leaf,su (n:={n with keys:=n.keys.take i++ [k]++n.keys.drop i,vals:=n.vals.take i++ [v]++n.vals.drop i}) h.leaf]
   show 1+(List.zipWith lh (n.keys.take i++ [k]++n.keys.drop i) (n.vals.take i++ [v]++n.vals.drop i)).sum<=_;have ay:(List.zipWith lh (a++ [k]++b) (c++ [v]++d)).sum=(List.zipWith lh a c).sum+(lh k v+(List.zipWith lh b d).sum):=by
    rw[cO,cO,qN I,my];rfl
   have az:(List.zipWith lh (a++b) (c++d)).sum=(List.zipWith lh a c).sum+(List.zipWith lh b d).sum:=by
    rw[qN I,my]
   rw[p,q,w,A,g,t,ay,az];have:=B.2;unfold lh;omega
  .have e:n.keys.take i++ [k]++n.keys.drop i=[]:=e
   simp at e
  .show n.keys.length<=(n.keys.take i++ [k]++n.keys.drop i).length
   rw[p,q,g];simp only[cz,jW];omega
  .have hs:s∈n.keys.take i++ [k]++n.keys.drop i:=hs
   simp only[cR,e8]at hs;rcases hs with (hs|rfl)|hs
   .exact .inr (fq hs)
   .exact .inl rfl
   .exact .inr (fZ hs)
def FE(T:aN)(aL:O Nat)(ek:O aP)(w:J)(v:aa)(w':J):Prop:=
 ∃aq:aN,b5 w' aq/\bY T aq w w' 100/\aq.E=T.E/\aq.G=T.G/\
  ((v=.int .i64 2/\cy T<2*T.aK+3/\aq=T)\/
   (v=.int .i64 0/\2*T.aK+3<=cy T/\(∃pages,cy T<=cy aq+(2*T.aK+3)/\gN aq pages ek/\pages.Nodup/\(∀no∈pages,no∈aL\/(T.f no||T.g no)=false)/\∀no,aq.f no=true↔(no∈pages\/(T.f no=true/\no∉aL)))/\∀no,T.g no=true->aq.P no=T.P no/\aq.C.view no=T.C.view no)\/
   (v=.int .i64 3/\¬T.C.D.calm 100/\aq.root=T.root/\aq.aK=T.aK/\aq.f=T.f/\∀no,(T.f no||T.g no)=true->aq.P no=T.P no/\aq.C.view no=T.C.view no))
theorem yJ.ah{T:aN}{aL:O Nat}{w1:J}{v:aa}(h:yJ (T.bC aM T.P) aL ek w1 v w')(e:bY T (T.bC aM T.P) w w1 k)(r:k<=40)(f:∀j,aM.view j=T.C.view j)(i:2*T.aK+3<=cy T):FE T aL ek w v w':=by
 obtain⟨aq,h1,h2,l,m,n⟩:=h;refine⟨aq,h1,(e.trans h2).mono I,l,m,?_⟩;have o:cy (T.bC aM T.P)=cy T:=rfl;have p:(T.bC aM T.P).aK=T.aK:=rfl;obtain⟨_,b,_⟩|⟨rfl,b,d,c⟩|⟨rfl,b,d,c,q,g⟩:=n
 .rw[o,p]at b;omega
 .exact .inr (.inl ⟨rfl,i,d,λno a=>⟨(c no a).1,(c no a).2.trans (f no)⟩⟩)
 .exact .inr (.inr ⟨rfl,λhc=>b (e.calm 60 (gq hc I)),d,c,q,λno a=>⟨(g no a).1,(g no a).2.trans (f no)⟩⟩)
theorem oz(w:J)(s:ad):aH aj 122 #[s] w (λv w'=>v=.bool (decide (1<=s.len/\s.len<=24))/\w=w'):=by
 refine okF (ae.oz s) ax.oz func122 ?_;unfold ae.oz;refine⟨?_,rfl⟩
 congr 1
 rw[eG,dg,b8,b8,b8];omega
theorem BB{T:aN}{k:Key}(h:b5 w T)(l:gN T pages L):∃steps,oZ T.P k T.aK T.root steps/\
 ((steps=[]/\T.aK=0/\pages=[]/\L=[])\/(∃ (a:Nat) (b6:aG) (fA dW:au Key) (b:O (Nat×aG×Nat)) (f:O Nat) (c d:O aP),steps=b++ [(a,b6,0)]/\Ctx T.P k T.aK 1 fA dW b f c d/\T.P a=some b6/\hT b6/\b6.within fA dW/\b6.keys≠ []/\(b≠ []->2<=b6.keys.length)/\fy fA dW k/\
   pages.Perm (a::f)/\L=c++(b6.dT++d)/\∀u,Loc k u->u L=c++(u b6.dT++d))):=by
 obtain⟨h1,h2,m,n⟩|g:=l
 .exact⟨[],by rw[h1];rfl,.inl ⟨rfl,h1,m,n⟩⟩
 .cases i:T.aK with
  |zero=>rw[i]at g;exact g.elim
  |succ t=>
   rw[i]at g;obtain⟨rest,b,a,b6,fA,dW,f,c,d,r1,cq,al,bO,aW,o,p,q,r,j,s,v⟩:=Ctx.down (P:=T.P) (k:=k) (top:=t+1) (bG:=L) .top g (λh=>absurd rfl h) ⟨λ_ e=>(by cases e),λ_ e=>(by cases e)⟩ U9 (λu _=>by simp);rw[hK]at cq;rw[fp]at j;exact⟨rest,r1,.inr ⟨a,b6,fA,dW,b,f,c,d,cq,al,bO,aW,o,p,q,r,j,s,v⟩⟩
theorem gN.low{T:aN}(h:gN T pages L)(d:L.length<4096):T.aK<12/\pages.length<=L.length:=by
 obtain⟨h1,_,a,_⟩|b:=h
 .rw[h1,a];exact⟨I,cI _⟩
 .obtain⟨ay,az,c⟩:=b.pages
  refine⟨?_,ay⟩;rcases dV T.aK 12 with h|h
  .exact h
  .have e:=c I
   have f:2^12<=2^T.aK:=u3 (by decide) h;have g:(2:Nat)^12=4096:=by decide
   omega
theorem FF{w1:J}{T:aN}{k:Key}{steps:O (Nat×aG×Nat)}{a:O dN}{b6 b:aG}(h:b5 w1 (T.bC aM T.P))(H:¬aM.D.ro)(N:gN T pages L)(Q:L.length<4096)(dd:pages.Nodup)(hf:∀x∈pages,T.f x=true)(m:aM.D.aX<=900000000)
 (g:a.map dN.st=steps) (o:lg (λq=>¬(T.bC aM T.P).M q) w1 s a) (R:b7 (λq=>¬(T.bC aM T.P).M q) w1 b K V D) (p:hT b) (S:(steps=[]/\T.aK=0/\pages=[]/\b.keys≠ []/\bS b<=232/\b.dT=ek)\/(∃ (d:Nat) (fA dW:au Key) (c:O (Nat×aG×Nat)) (i:O Nat) (j l:O aP),steps=c++ [(d,b6,0)]/\Ctx T.P k T.aK 1 fA dW c i j l/\b.within fA dW/\(c≠ []->b.keys≠ [])/\pages.Perm (d::i)/\ek=j++(b.dT++l)/\bS b<=282)):
 aH aj 131 #[.pointer (some T.bd),s,dz b K V D] w1 (yJ (T.bC aM T.P) pages ek w1):=by
 obtain⟨r,al⟩:=N.low Q;refine LH h H m r dd hf I λbU t ai bo u v U w y=>?_;have W:s.len=a.length:=by
  have:=o.own.1;rw[e5 _ (oY a)]at this;omega
 have z:b7 (λq=>¬((T.bC aM T.P).cx bU t).M q) ai b K V D:=(v.bN (lo:=0) (R.bg λq _ n=>⟨cI _,n⟩)).bg λq _ n=>n.2;obtain⟨h1,h2,X,Y,Z,aa⟩|⟨d,fA,dW,c,i,j,l,C,E,ab,ac,F,ae,af⟩:=S
 .subst h1 X
  have ag:a=[]:=by simpa using g
  exact LF (by rw[W,ag];rfl) u z m (by
   have e:cy ((T.bC aM T.P).cx bU t)=cy (T.bC aM T.P):=rfl;omega) (by rw[w];simp) y p Y Z aa
 .have hlen:a.length=c.length+1:=by
   have:=congrArg List.length g;rw[C,cU,cz,jW]at this;exact this
  have am:1+c.length=T.aK:=E.eZ;have ah:=o.to v;have G:(a.take (a.length-1)).map dN.st=c/\(a[a.length-1]'I).no=d:=by
   rw[C]at g;have ay:(a.take (a.length-1)).map dN.st=(c++ [(d,b6,0)]).take (a.length-1):=by rw[←g,mu]
   refine⟨by rw[ay];exact nB I,?_⟩;have az:(a.map dN.st)[a.length-1]? =some (d,b6,0):=by
    rw[g,hL I];have:a.length-1-c.length=0:=I
    rw[this];rfl
   rw[mz,dR I]at az;have ak:=Option.some.inj az;exact congrArg Prod.fst ak
  refine LD (k:=k) (c0:=i) (A:=j) (B:=l) (M:=b.dT) (lo:=fA) (hi:=dW) u ah z I (by show a.length=T.aK;omega) r m U (by rw[w];simp) (by rw[y];simp) ?_ ⟨p,ab,rfl,rfl⟩ ae.symm ?_ af (λh=>ac λe=>?_) λx hx=>?_
  .rw[G.1]
   have:a.length=T.aK:=I
   rw[this];exact E
  .rw[G.2];exact F
  .rw[e]at hlen;simp at hlen;omega
  .exact hf x (F.mem_iff.2 (jQ _ hx))
theorem lg.ext'{l:O dN}(h:lg B w s l)(hx:Ext w w')(a:∀q,B q->C q):lg C w' s l:=
 ⟨h.own.ext hx,λq b=>a q (h.qy q b),λx c=>((h.bN x c).ext hx).bg λq _ d=>a q d⟩
theorem sw{a:O dN}{b:O (Nat×aG×Nat)}{c:Nat}{bx:aG}(d:a.map dN.st=b++ [(c,bx,0)]):∃h:0<a.length,(a[a.length-1]'I).n=bx:=by
 have hlen:a.length=b.length+1:=by
  have:=congrArg List.length d;rw[cU,cz,jW]at this;exact this
 refine⟨I,?_⟩;have az:(a.map dN.st)[a.length-1]? =some (c,bx,0):=by
  rw[d,hL I];have:a.length-1-b.length=0:=I
  rw[this];rfl
 rw[mz,dR I]at az;exact congrArg (λx=>x.2.1) (Option.some.inj az)
theorem LJ{T:aN}{cY:ad}{val:Key}(h:b5 w T)(a5:¬T.C.D.ro)(H:gN T pages L)(ao:L.length<4096)(dd:pages.Nodup)(hf:∀x∈pages,T.f x=true)(b0:T.C.D.aX<=800000000)
 (Q:Src 1 w tk (aC key)) (R:∀q,aD tk q->q<w/\¬T.M q) (ap:Src 1 w cY (aC val)) (a7:∀q,aD cY q->q<w/\¬T.M q):
 aH aj 73 #[.pointer (some T.bd),tk,cY] w (λv w'=>(v=.int .i64 1/\¬(cK key/\val.length<=24)/\w=w')\/(cK key/\val.length<=24/\FE T pages (gX L key val) w v w')):=by
 have a8:=len8 Q;have au:=len8 ap;refine okF (ae.w2 (some T.bd) tk cY) ax.w2 func73 ?_;(delta ae.w2 ak bP r1 bB ar dH z5 Y aW al pH mH;dsimp only);refine cc (λb w'=>b= !(decide (cK key))/\w=w') (λq c=>⟨nofun,λ_=>(oz w tk).use ?_⟩) ?_
 .rintro _ _ ⟨rfl,rfl⟩
  refine⟨_,rfl,c _ _ ⟨?_,rfl⟩⟩;unfold cK;rw[a8]
 rintro _ _ ⟨rfl,rfl⟩;refine⟨λd=>.inl ⟨rfl,λhg=>?_,rfl⟩,λd=>?_⟩
 .rw[dh hg.1,au]at d
  have:¬(val.length:Int)>24:=U4 hg.2
  simp[this]at d
 have hg:cK key/\val.length<=24:=by
  by_cases h1:cK key
  .refine⟨h1,?_⟩
   rw[dh h1,au]at d;have:¬(val.length:Int)>24:=by simpa using d
   omega
  .rw[gS h1]at d;simp at d
 have b1:=h.s.bx;obtain⟨b3,b4⟩:=H.low ao;have aw:Ext w w.drew:=cw w;have hd:=h.ext aw;refine aT ⟨λ_=>False,_,rfl,id,_,hd.cells.2.1,_,rfl,id,_,hd.cells.2.2.2.2,(Bh hd.s).use ?_⟩;rintro _ b8 ⟨rfl,aA⟩;have a9:((T.n:Int)-e1 (λi=>T.f i||T.g i) T.n)=(cy T:Nat):=by
  have:=nF (λi=>T.f i||T.g i) T.n;unfold cy;omega
 have a_:IntKind.wrap .i64 (IntKind.wrap .i64 (2*(T.aK:Int))+3)=((2*T.aK+3:Nat):Int):=by
  rw[bq (n:=2*(T.aK:Int)) I I,bq I I];omega
 rw[a9,a_];have o:=aw.trans aA;have S:=h.ext o;refine⟨_,rfl,aA,λd=>.inr ⟨hg.1,hg.2,T,S,(bY.ext T o).mono I,rfl,rfl,.inl ⟨rfl,?_,rfl⟩⟩,λd=>?_⟩
 .have d:((cy T:Nat):Int)<((2*T.aK+3:Nat):Int):=b2 d
  omega
 have ba:2*T.aK+3<=cy T:=by
  have:¬((cy T:Nat):Int)<((2*T.aK+3:Nat):Int):=cr d;omega
 obtain⟨steps,aB,aE⟩:=BB (k:=key) S H;refine(Br S I (Q.ext o) (λq c=>⟨fO (R q c).1 o.size,(R q c).2⟩) aB).use ?_;rintro _ z ⟨aM,U,W,aF,bb⟩;have u:=((bY.ext T o).trans W).mono (l:=2*T.aK) I;obtain⟨s,a,rfl,m,X⟩|⟨rfl,bc⟩:=bb
 rotate_left
 .refine⟨⟨none,0,0⟩,3,rfl,λ_=>.inr ⟨hg.1,hg.2,T.bC aM T.P,U,u.mono I,rfl,rfl,.inr (.inr ⟨rfl,λhc=>bc (gq hc I),rfl,rfl,rfl,λno _=>⟨rfl,aF no⟩⟩)⟩,nofun⟩
 have b9:s.len=a.length:=by
  have:=X.own.1;rw[e5 _ (oY a)]at this;omega
 have b_:=o.size;have ca:a.length=T.aK:=by
  have:=aB.length;rw[←m,cU]at this;exact this
 refine⟨s,0,rfl,nofun,λ_=>a6 (vs:=[false,(),(),()]) rfl λcb aI be cd=>⟨aI.ct rfl (fV (b:=true) (K:=bM) (V:=bM) (D:=bM)),rfl,cP aI (us:=ee ⟨true,[],[],[]⟩ bM bM bM) rfl rfl λbf E bi ce=>?_⟩⟩;have Z:Ext z bf:=Ext.cp be bi (bk _);obtain⟨iu,bl⟩:=U6 z.heap.size;rw[←bl]at E⊢
 obtain⟨b6,j⟩:=U6 ((if cf:0<a.length then (a[a.length-1]'I).n else ⟨true,[],[],[]⟩):aG);refine j2 (λp=>∃ (K V D:ad) (B:U1),Ext z p/\Var p iu (ee b6 K V D) 169/\b7 B p b6 K V D) (λq c=>⟨λaa=>?_,λaa=>?_⟩) ?_
 .have ab:0<a.length:=by
   have:(s.len:Int)>0:=b2 aa;omega
  rw[dif_pos ab]at j;have e:IntKind.wrap .i64 ((s.len:Int)-1)=((a.length-1:Nat):Int):=by rw[bq I I];omega
  obtain⟨A,av,_,_,_,hu⟩:=X.at (i:=a.length-1) I;have F:=hu.ext Z;rw[e,c2];subst j;refine⟨A,av,⟨I,I⟩,_,F.aZ,_,F.bo,_,F.bt,_,F.e3,E.ct rfl fV,rfl,cP E (us:=ee (a[a.length-1]'I).n (a[a.length-1]'I).K (a[a.length-1]'I).V (a[a.length-1]'I).D) rfl rfl λbm bn bp cg=>?_⟩;have aJ:Ext z bm:=Ext.cp Z bp I;exact c _ ⟨_,_,_,_,aJ,bn,hu.bN.ext aJ⟩
 .have ab:¬0<a.length:=by
   have:¬(s.len:Int)>0:=cr aa;omega
  rw[dif_neg ab]at j;subst j;exact c _ ⟨bM,bM,bM,λ_=>True,Z,E,bW.none _ _,bW.none _ _,c9.none _ _⟩
 rintro p ⟨K,V,D,B,G,br,bs⟩;have ch:=G.size;have ci:=W.ah.size
 have bu:hT b6/\bS b6<=232:=by
  obtain⟨h1,h2,r,t⟩|⟨aL,bx,fA,dW,aO,aQ,aR,aS,cq,al,bO,aW,aU,bv,bw,aV,aY,bz,a0⟩:=aE
  .have ac:¬0<a.length:=by
    rw[h1]at m;have:a=[]:=by simpa using m
    rw[this];simp
   rw[j,dif_neg ac];exact⟨⟨⟨λ_ h=>(by cases h),List.Pairwise.nil⟩,rfl,rfl,rfl,λ_ h=>(by cases h)⟩,by decide⟩
  .rw[cq]at m
   obtain⟨ay,az⟩:=sw m;rw[j,dif_pos ay,az];exact⟨aW,h.o0 _ _ bO⟩
 obtain⟨af,cj⟩:=bu;have ck:=(cM.eB (.inl af) I);have cm:∀q,T.N q->q<w:=λq c=>h.lt (aN.gD c);have bA:Src 1 p tk (aC key):=(Q.ah u.ah λq c ag=>(R q c).2 (aN.gD ag)).ext G;have bD:Src 1 p cY (aC val):=(ap.ah u.ah λq c ag=>(a7 q c).2 (aN.gD ag)).ext G;obtain⟨d0,d1,d2,d3⟩:=bT br;refine⟨_,d0,K,d1,V,d2,D,d3,(rK bs af I bA bD hg.1 hg.2).use ?_⟩;rintro _ bE ⟨dY,eA,dn,rfl,bF,bG⟩;refine⟨_,dY,eA,dn,true,rfl,a6 (vs:=[false,(),(),()]) rfl λcn a1 bH co=>⟨a1.ct rfl fV,rfl,cP a1 (us:=ee (ir b6 key val) dY eA dn) rfl rfl λa2 bI bJ cs=>⟨nofun,λ_=>?_⟩⟩⟩;have a3:Ext bE a2:=Ext.cp bH bJ (bk _);have ai:=(G.trans bG).trans a3;obtain⟨d0,d1,d2,d3⟩:=bT bI;obtain⟨bh,bj,bK,am,bL,a4⟩:=LI af hg.1 hg.2;have bQ:aM.D.aX<=900000000:=by
  have:aM.D.aX<=T.C.D.aX+2*T.aK:=u.aX;omega
 have bR:b7 (λq=>¬(T.bC aM T.P).M q) a2 (ir b6 key val) dY eA dn:=(bF.ext a3).bg λq _ c bU=>U4 (U.lt bU)
 have bV:=FF (ek:=gX L key val) (k:=key) (steps:=steps) (b6:=b6) (U.ext ai) (λe=>a5 λi=>W.cl.1▸e i) H ao dd hf bQ m (X.ext' ai λq c=>c.2) bR bh (by
  obtain⟨h1,h2,r,t⟩|⟨aL,bx,fA,dW,aO,aQ,aR,aS,cq,al,bO,aW,aU,bv,bw,aV,aY,bz,a0⟩:=aE
  .have ac:¬0<a.length:=I
   rw[dif_neg ac]at j;refine .inl ⟨h1,h2,r,am,?_,?_⟩
   .have:bS b6=1:=by rw[j];rfl
    omega
   .rw[bj,j,t];rfl
  .rw[cq]at m
   obtain⟨ay,az⟩:=sw m;rw[dif_pos ay,az]at j;rw[j]at bj bK am bL a4⊢;refine .inr ⟨aL,fA,dW,aO,aQ,aR,aS,cq,al,λs hs=>?_,λ_=>am,aY,?_,U4 (h.o0 _ _ bO)⟩
   .rcases a4 s hs with rfl|an
    .exact aV
    .exact aU s an
   .rw[bj];exact a0 (λL=>gX L key val) (Ju key val))
 refine⟨_,d0,dY,d1,eA,d2,dn,d3,bV.use ?_⟩;intro v w' bX;have bZ:=bX.ah (w:=w) ((u.trans (bY.ext (T.bC aM T.P) ai)).mono (l:=40) I) (bk _) aF ba;obtain⟨aq,h1,h2,r,t,an⟩:=bZ;obtain⟨rfl,y⟩|⟨rfl,y⟩|⟨rfl,y⟩:=an
 .exact⟨2,rfl,.inr ⟨hg.1,hg.2,aq,h1,h2,r,t,.inl ⟨rfl,y⟩⟩⟩
 .exact⟨0,rfl,.inr ⟨hg.1,hg.2,aq,h1,h2,r,t,.inr (.inl ⟨rfl,y⟩)⟩⟩
 .exact⟨3,rfl,.inr ⟨hg.1,hg.2,aq,h1,h2,r,t,.inr (.inr ⟨rfl,y⟩)⟩⟩
theorem FG{l:O aP}{k:Key}(h:(e4 l k).length=l.length):∀p∈l,p.1≠k:=by
 intro p a;unfold e4 at h;have:=(jU (p:=λp:aP=>decide (p.1≠k))).1 (List.Sublist.eq_of_length List.filter_sublist h);exact b2 (this p a)
theorem FH{A B M:O aP}{k:Key}(b:L=A++(M++B))(hu:e4 L k=A++(e4 M k++B)):fl L k=fl M k:=by
 have h1:(e4 A k).length<=A.length:=jF _ _;have h2:(e4 B k).length<=B.length:=jF _ _;have c:=congrArg List.length hu;rw[b,ua,ua]at c;simp only[cz]at c;have av:=FG (l:=A) (k:=k) I;have d:=FG (l:=B) (k:=k) I;have e:A.find? (λp=>decide (p.1=k))=none:=jX.2 λp a=>by simpa using av p a
 have f:B.find? (λp=>decide (p.1=k))=none:=jX.2 λp a=>by simpa using d p a
 unfold fl;rw[b,List.find?_append,List.find?_append,e,f];simp
theorem FI{k:Key}(h:hT n):fl n.dT k=if iq n.keys k then n.vals[cT n.keys k]? else none:=by
 have s:=r7 n.keys k;have w:=h.fg;have t:∀ (j:Nat) (f:j<n.keys.length),j<cT n.keys k->bF n.keys[j] k:=λj f h1=>qc h1 f;have u:n.keys[cT n.keys k]? ≠some k->∀ (j:Nat) (f:j<n.keys.length),cT n.keys k<=j->bF k n.keys[j]:=λhe j f h1=>FD w h1 f he;have l:n.dT=n.keys.zip n.vals:=rfl;unfold iq;rw[l];generalize cT n.keys k=i at s t u⊢;obtain⟨a,b,c,d,g,v,z,A,B,H,J,K,L⟩:=BA h s;have C:n.keys.zip n.vals=a.zip c++b.zip d:=by rw[g,v];exact qb I
 have D:(a.zip c).find? (λp:aP=>decide (p.1=k))=none:=jX.2 λp l=>by
  have q:=(sO l).1;obtain⟨j,f,r⟩:=fe q;have h1:=t j (by rw[g,cz];omega) I;simp only[g,pd f,r]at h1;simpa using oJ h1
 unfold fl;rw[C,List.find?_append,D];by_cases he:n.keys[i]? =some k
 .rw[if_pos (by simpa using he)]
  have E:∃m,b=k::m:=by
   cases b with
   |nil=>rw[g,hL I]at he;simp at he
   |cons y m=>
    rw[g,hL I,z,o5]at he;simp at he;exact⟨m,by rw[he]⟩
  obtain⟨m,rfl⟩:=E;obtain⟨x,o,rfl⟩:∃x o,d=x::o:=by
   cases d with
   |nil=>simp at B
   |cons x o=>exact⟨x,o,rfl⟩
  rw[v,hL I,A,o5];simp
 .rw[if_neg (by simpa using he)]
  have F:=u he;have G:(b.zip d).find? (λp:aP=>decide (p.1=k))=none:=jX.2 λp l=>by
   have q:=(sO l).1;obtain⟨j,f,r⟩:=fe q;have h1:=F (i+j) (by rw[g,cz];omega) I;have e:(a++b)[i+j]'(by rw[cz];omega)=b[j]:=by
    rw[qL I];congr 1;omega
   simp only[g,e,r]at h1;have:=oJ h1;simpa using λh=>this h.symm
  rw[G];rfl
def BC(T:aN)(L:O aP)(key:Key)(w:J)(v:aa)(w':J):Prop:=
 ∃aM:cn,b5 w' (T.bC aM T.P)/\bY T (T.bC aM T.P) w w' 30/\(∀j,aM.view j=T.C.view j)/\
  ((v=.tuple #[(),false,U8]/\(cK key->fl L key=none))\/
   (∃ (t:ad) (x:Key),v=.tuple #[t,true,U8]/\cK key/\fl L key=some x/\bI (λq=>¬(T.bC aM T.P).M q) w' t x)\/
   (v=.tuple #[(),false,(3:Int)]/\cK key/\¬T.C.D.calm 30))
theorem BD{T:aN}(h:b5 w T)(S:gN T pages L)(aL:T.C.D.aX<=800000000)(l:Src 1 w tk (aC key))(v:∀q,aD tk q->q<w/\¬T.M q):
 aH aj 64 #[.pointer (some T.bd),tk] w (BC T L key w):=by
 have U:=len8 l;have aQ:=h.num.2.1;have aR:T.bC T.C T.P=T:=rfl;refine okF (ae.wU (some T.bd) tk) ax.wU func64 ?_;(delta ae.wU ak bP dH ar aW al z5 Y lG aO;dsimp only);refine cc (λb w'=>b= !(decide (cK key))/\w=w') (λq m=>⟨nofun,λ_=>(oz w tk).use ?_⟩) ?_
 .rintro _ _ ⟨rfl,rfl⟩
  refine⟨_,rfl,m _ _ ⟨?_,rfl⟩⟩;unfold cK;rw[U]
 rintro _ _ ⟨rfl,rfl⟩;refine⟨λf=>⟨nofun,λ_=>?_⟩,λf=>?_⟩
 .have:¬cK key:=by simpa using f
  exact⟨T.C,h,(bY.refl T w).mono I,λ_=>rfl,.inl ⟨rfl,λhx=>absurd hx this⟩⟩
 have hg:cK key:=by simpa using f
 obtain⟨steps,x,y⟩:=BB (k:=key) h S;refine(Br h I l v x).use ?_;rintro _ W ⟨aM,n,g,j,X⟩;obtain⟨s,a,rfl,d,z⟩|⟨rfl,Z⟩:=X
 rotate_left
 .exact⟨⟨none,0,0⟩,3,rfl,λ_=>⟨aM,n,g.mono I,j,.inr (.inr ⟨rfl,hg,λhc=>Z (gq hc I)⟩)⟩,λhx=>(by simp at hx)⟩
 have aS:s.len=a.length:=by
  have:=z.own.1;rw[e5 _ (oY a)]at this;omega
 have aT:a.length=T.aK:=by
  have:=x.length;rw[←d,cU]at this;exact this
 refine⟨s,0,rfl,λhx=>⟨aM,n,g.mono I,j,.inl ⟨rfl,λ_=>?_⟩⟩,λhx=>?_⟩
 .have aa:a.length=0:=by
   have:(s.len:Int)=0:=by simpa using hx
   omega
  obtain⟨_,_,_,ab⟩|⟨ac,bx,fA,dW,af,ag,ai,am,cq,_⟩:=y
  .rw[ab];rfl
  .rw[cq]at d
   obtain⟨ay,_⟩:=sw d;omega
 have aa:0<a.length:=by
  have:¬(s.len:Int)=0:=by simpa using hx
  omega
 have e:IntKind.wrap .i64 ((s.len:Int)-1)=((a.length-1:Nat):Int):=by rw[bq I I];omega
 obtain⟨A,av,_,_,_,hu⟩:=z.at (i:=a.length-1) I;obtain⟨h1,_⟩|⟨ac,bx,fA,dW,af,ag,ai,am,cq,al,bO,aW,aU,aV,aY,a0,a1,an,ao⟩:=y
 .rw[h1]at d
  have:=congrArg List.length d;simp at this;omega
 have B:=d;rw[cq]at B;obtain⟨ay,az⟩:=sw B;rw[e,c2];generalize a2:(a[a.length-1]'I)=u at hu az;obtain⟨a3,un,a4,K,V,D⟩:=u;obtain rfl:un=bx:=az;refine⟨A,av,⟨I,I⟩,_,hu.aZ,K,hu.bo,V,hu.bt,D,hu.e3,a6 (vs:=[false,(),(),()]) rfl λa5 E ap a7=>⟨E.ct rfl fV,rfl,cP E (us:=ee un K V D) rfl rfl λo F aq a8=>?_⟩⟩;have p:Ext W o:=Ext.cp ap aq (bk _);obtain⟨d0,d1,d2,d3⟩:=bT F;have a9:=(cM.eB (.inl aW) (U4 (h.o0 _ _ bO)));have au:Src 1 o tk (aC key):=(l.ah g.ah λq m aw=>(v q m).2 (aN.gD aw)).ext p;have G:b7 (λq=>w<=q/\¬(T.bC aM T.P).M q) o un K V D:=hu.bN.ext p;refine⟨_,d0,K,d1,V,d2,D,d3,(rG G au aW.fg I).use ?_⟩;rintro _ aA ⟨rfl,r⟩;have H:=p.trans r;have N:=n.ext H;have Q:bY T (T.bC aM T.P) w aA 30:=(g.trans (bY.ext _ H)).mono I;have t:fl L key=fl un.dT key:=FH an (ao (λL=>e4 L key) (Aw key));rw[FI aW]at t;refine⟨_,_,rfl,λc=>⟨aM,N,Q,j,.inl ⟨rfl,λ_=>?_⟩⟩,λc=>?_⟩
 .have c:iq un.keys key=false:=by simpa using c
  rw[t,if_neg (by rw[c];simp)]
 .have c:iq un.keys key=true:=by simpa using c
  have aB:cT un.keys key<un.keys.length:=(kn.1 (b2 c)).1;have R:cT un.keys key<un.vals.length:=by rw[aW.len];exact aB
  obtain⟨f0,f1,f2,f3⟩:=bT (F.ext r);obtain⟨aE,cY,aF,aG,aI,aJ,_⟩:=bW.at (G.ext r).vals R;refine⟨V,f2,aE,aF,aG,cY,aI,aM,N,Q,j,.inr (.inl ⟨cY,un.vals[cT un.keys key],rfl,hg,?_,bI.bg aJ λq _ f=>f.2⟩)⟩;rw[t,if_pos c,dR R]
theorem LK{k:Key}(h:hT n)(w:iq n.keys k=true):hT (mQ n k)/\(mQ n k).dT=e4 n.dT k/\bS (mQ n k)<=bS n/\n.keys.length=(mQ n k).keys.length+1/\(∀s∈(mQ n k).keys,s∈n.keys):=by
 have o:=r7 n.keys k;have A:=h.fg;have l:n.dT=n.keys.zip n.vals:=rfl;have he:n.keys[cT n.keys k]? =some k:=b2 w;rw[l];unfold mQ;generalize cT n.keys k=i at o he⊢;obtain⟨a,b,c,d,j,m,q,B,r,C,H,D,J⟩:=BA h o;have g:n.keys.zip n.vals=a.zip c++b.zip d:=by rw[j,m];exact qb I
 have E:∃e,b=k::e:=by
  cases b with
  |nil=>rw[j,hL I]at he;simp at he
  |cons y e=>
   rw[j,hL I,q,o5]at he;simp at he;exact⟨e,by rw[he]⟩
 obtain⟨e,rfl⟩:=E;obtain⟨x,f,rfl⟩:∃x f,d=x::f:=by
  cases d with
  |nil=>simp at r
  |cons x f=>exact⟨x,f,rfl⟩
 have ay:n.keys.drop (i+1)=e:=by rw[j,show a++k::e=(a++ [k])++e by simp];exact drop_left' (by simp[q])
 have az:n.vals.drop (i+1)=f:=by rw[m,show c++x::f=(c++ [x])++f by simp];exact drop_left' (by simp[B])
 rw[C,D,ay,az];have F:(a++k::e).Pairwise bF:=by rw[←j];exact A
 obtain⟨iN,eM,t⟩:=mx.1 F;have u:=jV.1 eM;have v:∀z,z∈a++e->z∈n.keys:=λz g=>by
  rw[j];simp only[cR,cZ]at g⊢;obtain h1|h1:=g
  .exact .inl h1
  .exact .inr (.inr h1)
 refine⟨⟨⟨λz g=>h.ok z (v z g),mx.2 ⟨iN,u.2,λy G z g=>t y G z (jQ _ g)⟩⟩,h.leaf,?_,h.kids,λz g=>h.vals z ?_⟩,?_,?_,?_,v⟩
 .show(c++f).length=(a++e).length
  simp only[cz,fi]at r⊢;omega
 .rw[m]
  have g:z∈c++f:=g;simp only[cR,cZ]at g⊢;obtain h1|h1:=g
  .exact .inl h1
  .exact .inr (.inr h1)
 .show(a++e).zip (c++f)=_
  rw[g,qb I,ua,List.zip_cons_cons];have f1:e4 (a.zip c) k=a.zip c:=uc λp l=>oJ (t _ (sO l).1 k o9);have f2:e4 ((k,x)::e.zip f) k=e.zip f:=by
   have:e4 ((k,x)::e.zip f) k=e4 (e.zip f) k:=by unfold e4;simp
   rw[this];exact uc λp l=>(oJ (u.1 _ (sO l).1)).symm
  rw[f1,f2]
 .rw[su h.leaf,su (n:={n with keys:=a++e,vals:=c++f}) h.leaf]
  show 1+(List.zipWith lh (a++e) (c++f)).sum<=_;rw[j,m,qN I,qN I,my,my,List.zipWith_cons_cons,sP];omega
 .show n.keys.length=(a++e).length+1
  rw[j];simp only[cz,fi];omega
structure jO(T aq:aN):Prop where
 root:aq.root=T.root
 aK:aq.aK=T.aK
 f:aq.f=T.f
 eU:∀no,(T.f no||T.g no)=true->aq.P no=T.P no/\aq.C.view no=T.C.view no
theorem jO.refl(T:aN):jO T T:=⟨rfl,rfl,rfl,λ_ _=>⟨rfl,rfl⟩⟩
theorem jO.bC{T:aN}(a:∀j,aM.view j=T.C.view j):jO T (T.bC aM T.P):=⟨rfl,rfl,rfl,λno _=>⟨rfl,a no⟩⟩
theorem jO.trans{T aq a:aN}(h1:jO T aq)(h2:jO aq a)(hg:aq.g=T.g):jO T a:=
 ⟨h2.root.trans h1.root,h2.aK.trans h1.aK,h2.f.trans h1.f,λno h=>by
  have b:=h1.eU no h
  have c:=h2.eU no (by rw[h1.f,hg];exact h)
  exact⟨c.1.trans b.1,c.2.trans b.2⟩⟩
structure FJ(T aq:aN)(aL:O Nat)(ek:O aP):Prop where
 ok:∃pages,cy T<=cy aq+(2*T.aK+3)/\gN aq pages ek/\pages.Nodup/\(∀no∈pages,no∈aL\/(T.f no||T.g no)=false)/\∀no,aq.f no=true↔(no∈pages\/(T.f no=true/\no∉aL))
 eU:∀no,T.g no=true->aq.P no=T.P no/\aq.C.view no=T.C.view no
theorem jO.ok{T aq:aN}(h:jO T aq)(a:gN T pages L)(hf:∀x∈pages,T.f x=true):gN aq pages L:=by
 unfold gN at a⊢;rw[h.root,h.aK];obtain a|b:=a
 .exact .inl a
 .exact .inr (er.agree b λx hx=>(h.eU x (by rw[hf x hx];rfl)).1.symm).1
def LL(T:aN)(aL:O Nat)(L:O aP)(key:Key)(w:J)(v:aa)(w':J):Prop:=
 ∃aq:aN,b5 w' aq/\bY T aq w w' 100/\aq.E=T.E/\aq.G=T.G/\
  ((v=.tuple #[false,(1:Int)]/\¬cK key/\jO T aq)\/
   (v=.tuple #[false,U8]/\cK key/\fl L key=none/\jO T aq)\/
   (v=.tuple #[false,(2:Int)]/\cK key/\fl L key≠none/\cy T<2*T.aK+3/\jO T aq)\/
   (v=.tuple #[true,U8]/\cK key/\fl L key≠none/\2*T.aK+3<=cy T/\FJ T aq aL (e4 L key))\/
   (v=.tuple #[false,(3:Int)]/\cK key/\¬T.C.D.calm 100/\jO T aq))
theorem LM{T:aN}(h:b5 w T)(aG:¬T.C.D.ro)(ab:gN T pages L)(aI:L.length<4096)(dd:pages.Nodup)(hf:∀x∈pages,T.f x=true)(be:T.C.D.aX<=800000000)
 (Q:Src 1 w tk (aC key)) (ac:∀q,aD tk q->q<w/\¬T.M q):
 aH aj 67 #[.pointer (some T.bd),tk] w (LL T pages L key w):=by
 have aJ:=len8 Q;have bf:=h.num.2.1;refine okF (ae.wW (some T.bd) tk) ax.wW func67 ?_;(delta ae.wW ak bP dH ar aW al mH z5 Y bB;dsimp only);refine cc (λb w'=>b= !(decide (cK key))/\w=w') (λq m=>⟨nofun,λ_=>(oz w tk).use ?_⟩) ?_
 .rintro _ _ ⟨rfl,rfl⟩
  refine⟨_,rfl,m _ _ ⟨?_,rfl⟩⟩;unfold cK;rw[aJ]
 rintro _ _ ⟨rfl,rfl⟩;refine⟨λR=>⟨T,h,(bY.refl T w).mono I,rfl,rfl,.inl ⟨rfl,by simpa using R,.refl T⟩⟩,λR=>?_⟩;have hg:cK key:=by simpa using R
 obtain⟨steps,af,ag⟩:=BB (k:=key) h ab;refine(Br h I Q ac af).use ?_;rintro _ aL ⟨aM,r,c,o,g⟩;obtain⟨s,a,rfl,j,S⟩|⟨rfl,aO⟩:=g
 rotate_left
 .exact⟨⟨none,0,0⟩,3,rfl,λ_=>⟨_,r,c.mono I,rfl,rfl,.inr (.inr (.inr (.inr ⟨rfl,hg,λhc=>aO (gq hc I),.bC o⟩)))⟩,λhx=>(by simp at hx)⟩
 have bi:s.len=a.length:=by
  have:=S.own.1;rw[e5 _ (oY a)]at this;omega
 have bl:a.length=T.aK:=by
  have:=af.length;rw[←j,cU]at this;exact this
 refine⟨s,0,rfl,λhx=>⟨_,r,c.mono I,rfl,rfl,.inr (.inl ⟨rfl,hg,?_,.bC o⟩)⟩,λhx=>?_⟩
 .have aQ:a.length=0:=by
   have:(s.len:Int)=0:=by simpa using hx
   omega
  obtain⟨_,_,_,t⟩|⟨ai,bx,fA,dW,am,an,ao,ap,cq,_⟩:=ag
  .rw[t];rfl
  .rw[cq]at j
   obtain⟨ay,_⟩:=sw j;omega
 have aQ:0<a.length:=by
  have:¬(s.len:Int)=0:=by simpa using hx
  omega
 have e:IntKind.wrap .i64 ((s.len:Int)-1)=((a.length-1:Nat):Int):=by rw[bq I I];omega
 obtain⟨A,av,_,_,_,hu⟩:=S.at (i:=a.length-1) I;obtain⟨h1,_⟩|⟨ai,bx,fA,dW,am,an,ao,ap,cq,al,bO,aW,aR,bm,aS,bn,aT,aU,au⟩:=ag
 .rw[h1]at j
  have:=congrArg List.length j;simp at this;omega
 have F:=j;rw[cq]at F;obtain⟨ay,az⟩:=sw F;rw[e,c2];generalize bp:(a[a.length-1]'I)=u at hu az;obtain⟨br,un,bs,K,V,D⟩:=u;obtain rfl:un=bx:=az;have bu:=(cM.eB (.inl aW) (U4 (h.o0 _ _ bO)));have aV:Src 1 aL tk (aC key):=Q.ah c.ah λq m aY=>(ac q m).2 (aN.gD aY);have U:fl L key=fl un.dT key:=FH aU (au (λL=>e4 L key) (Aw key));rw[FI aW]at U;refine⟨A,av,⟨I,I⟩,_,hu.aZ,K,hu.bo,V,hu.bt,D,hu.e3,(rH (n:=un) hu.bN aW I aV).use ?_⟩;intro v aw g;unfold sh at g;by_cases d:iq un.keys key=true
 rotate_left
 .have d:iq un.keys key=false:=by simpa using d
  rw[d,if_neg U9]at g;obtain⟨rfl,G⟩:=g;refine⟨_,bM,bM,bM,false,rfl,a6 (vs:=[false,(),(),()]) rfl λa0 y W a1=>⟨y.ct rfl (fV (b:=im.leaf) (K:=bM) (V:=bM) (D:=bM)),rfl,cP y (us:=ee im bM bM bM) rfl rfl λH aA X a2=>⟨λ_=>?_,nofun⟩⟩⟩;have N:Ext aw H:=Ext.cp W X (bk _);have p:=G.trans N;refine⟨_,r.ext p,(c.trans (bY.ext _ p)).mono I,rfl,rfl,.inr (.inl ⟨rfl,hg,?_,.bC o⟩)⟩;rw[U,if_neg (by rw[d];simp)]
 rw[if_pos d]at g;obtain⟨dY,eA,dn,rfl,a3,G⟩:=g;refine⟨_,dY,eA,dn,true,rfl,a6 (vs:=[false,(),(),()]) rfl λa0 y W a1=>⟨y.ct rfl fV,rfl,cP y (us:=ee (mQ un key) dY eA dn) rfl rfl λH aA X a2=>⟨nofun,λ_=>?_⟩⟩⟩;have N:Ext aw H:=Ext.cp W X (bk _);have p:=G.trans N;obtain⟨d0,d1,d2,d3⟩:=bT aA;obtain⟨bh,bj,bv,aB,a4⟩:=LK aW d;have a5:cT un.keys key<un.keys.length:=(kn.1 (b2 d)).1;have a7:cT un.keys key<un.vals.length:=by rw[aW.len];exact a5
 have aE:fl L key≠none:=by
  rw[U,if_pos d,dR a7];simp
 have a8:aM.D.aX<=900000000:=by
  have:aM.D.aX<=T.C.D.aX+2*T.aK:=c.aX;omega
 have bw:=G.size;have a9:b7 (λq=>¬(T.bC aM T.P).M q) H (mQ un key) dY eA dn:=(a3.ext N).bg λq _ m F=>U4 (r.lt F)
 have a_:=FF (ek:=e4 L key) (k:=key) (steps:=steps) (b6:=un) (r.ext p) (λe=>aG λi=>c.cl.1▸e i) ab aI dd hf a8 j (S.ext' p λq m=>m.2) a9 bh (.inr ⟨ai,fA,dW,am,an,ao,ap,cq,al,λs hs=>aR s (a4 s hs),λhs e=>by
  have z:=aS hs;rw[e]at aB;simp at aB;omega,aT,by rw[bj];exact au (λL=>e4 L key) (Aw key),U4 (h.o0 _ _ bO)⟩)
 refine⟨_,d0,dY,d1,eA,d2,dn,d3,a_.use ?_⟩;rintro v w' ⟨aq,h1,h2,Z,t,ba⟩;have aa:=((c.trans (bY.ext (T.bC aM T.P) p)).trans h2).mono (l:=100) I;have bz:cy (T.bC aM T.P)=cy T:=rfl;have bA:(T.bC aM T.P).aK=T.aK:=rfl;obtain⟨rfl,B,E⟩|⟨rfl,B,E,z⟩|⟨rfl,B,E,z,bb,bc⟩:=ba
 .subst E
  exact⟨2,rfl,_,h1,aa,Z,t,.inr (.inr (.inl ⟨rfl,hg,aE,B,.bC o⟩))⟩
 .exact⟨0,rfl,_,h1,aa,Z,t,.inr (.inr (.inr (.inl ⟨rfl,hg,aE,B,E,λno aF=>⟨(z no aF).1,(z no aF).2.trans (o no)⟩⟩)))⟩
 .exact⟨3,rfl,_,h1,aa,Z,t,.inr (.inr (.inr (.inr ⟨rfl,hg,λhc=>B (c.calm 60 (gq hc I)),(jO.bC o).trans ⟨E,z,bb,bc⟩ rfl⟩)))⟩
def uA(fr to:Key)(p:aP):ao:=decide (dL fr p.1)&&(to.isEmpty||decide (bF p.1 to))
theorem yK(l:O aP)(fr to:Key):hC l fr to=l.filter (uA fr to):=rfl
theorem yL(a b:O aP)(fr to:Key):hC (a++b) fr to=hC a fr to++hC b fr to:=gE ..
def lO(fr to:Key)(most:Nat):O aP->O aP->ao×O aP
 |acc,[]=>(true,acc)
 |acc,p::ps=>
  if to≠ []/\¬bF p.1 to then (false,acc)
  else
   let a:=if dL fr p.1 then acc++ [p] else acc
   if a.length=most then (false,a) else lO fr to most a ps
def iO(fr to:Key)(most:Nat)(acc L:O aP)(on:ao)(a:O aP):Prop:=
 (on=true/\a=acc++hC L fr to/\a.length<most)\/(on=false/\∀R,il (L++R)->a=(acc++hC (L++R) fr to).take most)
variable {fr to:Key}{most:Nat}
theorem iO.nil(h:acc.length<most):iO fr to most acc [] true acc:=.inl ⟨rfl,by simp[hC],h⟩
theorem iO.app{nL jN:O aP}(h1:iO fr to most acc bn true nL)(h2:iO fr to most nL bK on jN):iO fr to most acc (bn++bK) on jN:=by
 obtain⟨_,h1,_⟩|⟨h,_⟩:=h1
 rotate_left
 .cases h
 subst h1;obtain⟨a,b,d⟩|⟨a,b⟩:=h2
 .exact .inl ⟨a,by rw[b,yL,cO],d⟩
 .refine .inr ⟨a,λR c=>?_⟩
  rw[cO]at c;rw[b R (ud.1 c).2.1,cO bn bK R,yL bn,cO]
theorem iO.stop{nL:O aP}(h1:iO fr to most acc bn false nL):iO fr to most acc (bn++bK) false nL:=by
 obtain⟨h,_⟩|⟨_,h⟩:=h1
 .cases h
 .refine .inr ⟨rfl,λR a=>?_⟩
  rw[cO]at a⊢;exact h _ a
theorem iO.skip{jN:O aP}(hs:hC bn fr to=[])(h2:iO fr to most acc bK on jN):iO fr to most acc (bn++bK) on jN:=by
 obtain⟨a,b,d⟩|⟨a,b⟩:=h2
 .exact .inl ⟨a,by rw[b,yL,hs];rfl,d⟩
 .refine .inr ⟨a,λR c=>?_⟩
  rw[cO]at c⊢;rw[b R (ud.1 c).2.1,yL bn,hs];rfl
theorem iO.all(h:iO fr to most [] L on acc)(a:il L):acc=(hC L fr to).take most:=by
 obtain⟨_,h1,h2⟩|⟨_,h1⟩:=h
 .rw[h1]at h2⊢
  rw[hK]at h2⊢;rw[dO I]
 .have:=h1 [] (by simpa using a)
  simpa using this
theorem FK:∀ {ps acc:O aP},il ps->acc.length<most->iO fr to most acc ps (lO fr to most acc ps).1 (lO fr to most acc ps).2
 | [],acc,_,h=>.nil h
 |p::ps,acc,i,h=>by
  unfold lO
  by_cases h1:to≠ []/\¬bF p.1 to
  .rw[if_pos h1]
   refine .inr ⟨rfl,λR b=>?_⟩
   have:hC (p::ps++R) fr to=[]:=by
    rw[yK];refine m6.2 λq c=>?_;have j:dL p.1 q.1:=by
     rw[m0]at c b;rcases cZ.1 c with rfl|c
     .exact DQ _
     .exact je ((jV.1 b).1 q c)
    have h2:¬bF q.1 to:=λa=>h1.2 (k2 j a);unfold uA;have e:to.isEmpty=false:=by simpa using h1.1
    simp[e,h2]
   rw[this,fp,dO I]
  .rw[if_neg h1]
   have k:uA fr to p=decide (dL fr p.1):=by
    unfold uA;by_cases h2:to=[]
    .simp[h2]
    .have:bF p.1 to:=qO λa=>h1 ⟨h2,a⟩
     simp[this]
   have d:∀l,hC (p::l) fr to=(if dL fr p.1 then [p] else [])++hC l fr to:=λl=>by
    rw[yK,ie,k,yK];by_cases h2:dL fr p.1<;>simp[h2]
   have m:(if dL fr p.1 then acc++ [p] else acc)=acc++(if dL fr p.1 then [p] else []):=by split<;>simp
   simp only[m];generalize hx:(if dL fr p.1 then [p] else [])=x at d;have o:x.length<=1:=by rw[←hx];split<;>simp
   by_cases a:(acc++x).length=most
   .rw[if_pos a]
    refine .inr ⟨rfl,λR b=>?_⟩;rw[m0,d,←cO,←a,List.take_left]
   .rw[if_neg a]
    have e:(acc++x).length<most:=by rw[cz]at a⊢;omega
    have:=FK (ps:=ps) (acc:=acc++x) (jV.1 i).2 e;obtain⟨f,g,n⟩|⟨f,g⟩:=this
    .exact .inl ⟨f,by rw[g,d,cO],n⟩
    .refine .inr ⟨f,λR b=>?_⟩
     rw[m0]at b⊢;rw[g R (jV.1 b).2,d,cO]
def kh(p:ad×ad):O aa:=[p.1,p.2]
theorem qA(l:O (ad×ad)):∀x∈l,(kh x).length=2:=λ_ _=>rfl
theorem LN(p:ad×ad):∀v∈kh p,Plain v:=by
 intro v a;unfold kh at a;simp only[cZ,e2,e_]at a;rcases a with rfl|rfl<;>trivial
def jz(B:U1)(w:J)(ps:O (ad×ad))(L:O aP):Prop:=ps.length=L.length/\∀i (h1:i<ps.length) (h2:i<L.length),bI B w ps[i].1 L[i].1/\bI B w ps[i].2 L[i].2
def lP(B:U1)(w:J)(s:ad)(L:O aP):Prop:=∃ps,aR 2 198 w s (bl kh ps)/\jz B w ps L
def fF(B:U1)(w:J)(s:ad)(L:O aP):Prop:=∃ps,Src 2 w s (bl kh ps)/\s.len<=s.cap/\In B w s/\jz B w ps L
section
variable {B C W:U1}{w w':J}{s:ad}{ps:O (ad×ad)}{L:O aP}
theorem jz.ah(h:jz B w ps L)(hc:ag W w w')(d:∀k,B k->k<w->¬W k):jz B w' ps L:=
 ⟨h.1,λi h1 h2=>by
  obtain⟨a,b⟩:=h.2 i h1 h2
  exact⟨bI.k3 a hc λk c=>d k (a.2.2 k c).1 (a.2.2 k c).2,bI.k3 b hc λk c=>d k (b.2.2 k c).1 (b.2.2 k c).2⟩⟩
theorem jz.bg(h:jz B w ps L)(a:∀k,k<w.heap.size->B k->C k):jz C w ps L:=⟨h.1,λi h1 h2=>⟨bI.bg (h.2 i h1 h2).1 a,bI.bg (h.2 i h1 h2).2 a⟩⟩
theorem jz.push{p:ad×ad}{kv:aP}(h:jz B w ps L)(h1:bI B w p.1 kv.1)(h2:bI B w p.2 kv.2):jz B w (ps++ [p]) (L++ [kv]):=by
 refine⟨by simp[h.1],λi ay az=>?_⟩;rcases dV i ps.length with g|g
 .have g':i<L.length:=U4 h.1
  simp only[pd g,pd g'];exact h.2 i g g'
 .have e:i=ps.length:=by simp at ay;omega
  subst e;have a:(ps++ [p])[ps.length]'ay=p:=by simp
  have b:(L++ [kv])[ps.length]'az=kv:=by rw[qL (by rw[h.1];exact bk _)];simp
  rw[a,b];exact⟨h1,h2⟩
theorem lP.len(h:lP B w s L):s.len=L.length:=by
 obtain⟨ps,h1,h2⟩:=h;have:=h1.1;rw[e5 _ (qA ps)]at this;have:=h2.1;omega
theorem lP.bg(h:lP B w s L)(a:∀k,k<w.heap.size->B k->C k):lP C w s L:=by
 obtain⟨ps,h1,h2⟩:=h;exact⟨ps,h1,h2.bg a⟩
theorem lP.none(B:U1)(w:J):lP B w ⟨.none,0,0⟩ []:=⟨[],aR.none _ _ _,rfl,λi h=>by simp at h⟩
theorem lP.r(h:lP B w s L)(hs:∀k,aD s k->B k):fF B w s L:=by
 obtain⟨ps,h1,h2⟩:=h;exact⟨ps,h1.src,h1.2.1,λk a=>⟨hs k a,h1.lt k a⟩,h2⟩
theorem fF.len(h:fF B w s L):s.len=L.length:=by
 obtain⟨ps,h1,_,_,h2⟩:=h;have:=h1.len;rw[e5 _ (qA ps)]at this;have:=h2.1;omega
theorem fF.ah(h:fF B w s L)(hc:ag W w w')(b:∀k,B k->k<w->¬W k):fF B w' s L:=by
 obtain⟨ps,h1,h2,a,d⟩:=h;exact⟨ps,h1.ah hc λk c=>b k (a k c).1 (a k c).2,h2,In.ah a hc,d.ah hc b⟩
theorem fF.ext(h:fF B w s L)(hc:Ext w w'):fF B w' s L:=h.ah hc λ_ _ _ h=>h
theorem fF.bg(h:fF B w s L)(a:∀k,k<w.heap.size->B k->C k):fF C w s L:=by
 obtain⟨ps,h1,h2,b,c⟩:=h;exact⟨ps,h1,h2,In.bg b a,c.bg a⟩
theorem fF.at(h:fF B w s L)(hi:i<L.length):∃ (A:af) (tk cY:ad),s.a=some A/\B A.block/\((0:Int)<=(i:Int)/\(i:Int)<(s.len:Int))/\w.cell? (A.add (i*2))=some (.slice tk.a tk.len tk.cap)/\w.cell? ((A.add (i*2)).add 1)=some (.slice cY.a cY.len cY.cap)/\
 bI B w tk L[i].1/\bI B w cY L[i].2:=by
 have o:=h.len;obtain⟨ps,h1,h2,k,c⟩:=h;have d:i<ps.length:=U4 c.1
 cases b:s.a with
 |none=>
  have:=h1.nil b;have e:=e5 ps (qA ps);rw[this]at e;simp at e;omega
 |some A=>
  have l:=h1.rd A b;have hg:∀j v,(kh ps[i])[j]? =some v->w.cell? (A.add (i*2+j))=some v:=λj v f=>by
   have m:j<2:=(kn.1 f).1;have g:=nj l (j:=i*2+j) (v:=v) (by rw[yq (qA ps) d m];exact f);rw[cA]at g;exact g
  obtain⟨t1,t2⟩:=c.2 i d hi;have n:(A.add (i*2)).add 1=A.add (i*2+1):=add_add A _ _;refine⟨A,ps[i].1,ps[i].2,rfl,(k A.block ⟨A,b,rfl⟩).1,⟨I,I⟩,?_,?_,t1,t2⟩
  .exact hg 0 _ rfl
  .rw[n]
   exact hg 1 _ rfl
end
theorem LO:ij aj 193 198 2 48:=⟨by kernel_rfl⟩
theorem LP(w:J)(cs:Array aa)(h:cs.size=2):Sem.run aj (Instr.buildSlice 193 1 #[(0,.agg cs)]) w=.ok (.slice (some w) 1 1) (w.alloc (.cells cs 198)):=by
 have h0:((Tryz.prog.info? 198).bind (·.zero)).isSome=true:=by kernel_rfl
 obtain⟨z,a⟩:=nU.1 h0;obtain⟨i,hi,b⟩:=uo a;have h1:(Tryz.prog.underlying 198).isSome=true:=by kernel_rfl
 obtain⟨d,hd⟩:=nU.1 h1;exact A9 (sz:=2) w U3 hd U3 hi b h (by decide) (by decide)
structure da(T aq:aN)(w w':J)(k:Nat):Prop where
 to:bY T aq w w' k
 E:aq.E=T.E
 G:∀q,T.G q->aq.G q
 root:aq.root=T.root
 aK:aq.aK=T.aK
 f:aq.f=T.f
 P:aq.P=T.P
 view:∀j,aq.C.view j=T.C.view j
theorem da.refl(T:aN)(w:J):da T T w w 0:=⟨.refl _ _,rfl,λ_ h=>h,rfl,rfl,rfl,rfl,λ_=>rfl⟩
theorem da.ext(T:aN)(h:Ext w w'):da T T w w' 0:=⟨.ext T h,rfl,λ_ h=>h,rfl,rfl,rfl,rfl,λ_=>rfl⟩
theorem da.trans{T aq a:aN}{b:J}{l:Nat}(h1:da T aq w w' k)(h2:da aq a w' b l):da T a w b (k+l):=
 ⟨h1.to.trans h2.to,h2.E.trans h1.E,λq h=>h2.G q (h1.G q h),h2.root.trans h1.root,h2.aK.trans h1.aK,h2.f.trans h1.f,h2.P.trans h1.P,λj=>(h2.view j).trans (h1.view j)⟩
theorem da.mono{T aq:aN}{l:Nat}(h:da T aq w w' k)(a:k<=l):da T aq w w' l:=⟨h.to.mono a,h.E,h.G,h.root,h.aK,h.f,h.P,h.view⟩
theorem da.bC{T:aN}(h:bY T (T.bC aM T.P) w w' k)(a:∀j,aM.view j=T.C.view j):da T (T.bC aM T.P) w w' k:=⟨h,rfl,λ_ h=>h,rfl,rfl,rfl,rfl,a⟩
theorem bY.out{T aq:aN}{q:Nat}(h:bY T aq w w' k)(a:q<w)(b:¬T.M q):¬aq.M q/\q<w':=by
 refine⟨λh1=>?_,fO a h.ah.size⟩;rcases h.c1 q h1 with h2|h2
 .exact b h2
 .omega
theorem bY.FL{T aq:aN}{ps:O (ad×ad)}(h:bY T aq w w' k)(c:jz (λq=>¬T.M q) w ps L):jz (λq=>¬aq.M q) w' ps L:=by
 have h1:jz (λq=>q<w/\¬T.M q) w ps L:=c.bg λq b a=>⟨b,a⟩;exact(h1.ah h.ah λq b _ d=>b.2 (aN.gD d)).bg λq _ a=>(h.out a.1 a.2).1
structure jA(lo:Nat)(w:J)(T:aN)(aV:Nat)(s:ad)(L:O aP):Prop where
 t:b5 w T
 v:Var w aV [s] 193
 own:lP (λq=>¬T.M q) w s L
 go:T.G aV
 gs:∀q,aD s q->T.G q/\q≠aV/\lo<=q
section
variable {w w':J}{T aq:aN}{lo aV:Nat}{s:ad}{L:O aP}
theorem jA.of(h:jA lo w T aV s L)(d:b5 w' aq)(ht:bY T aq w w' k)(b:∀q,T.G q->aq.G q)(c:ag W w w')(cv:∀q,T.G q->¬W q):jA lo w' aq aV s L:=by
 obtain⟨ps,h1,h2⟩:=h.own;exact⟨d,h.v.ah c (cv _ h.go),⟨ps,h1.ah c λq a=>cv q (h.gs q a).1,ht.FL h2⟩,b _ h.go,λq a=>⟨b q (h.gs q a).1,(h.gs q a).2⟩⟩
theorem jA.ext(h:jA lo w T aV s L)(hx:Ext w w'):jA lo w' T aV s L:=h.of (h.t.ext hx) (bY.ext T hx) (λ_ h=>h) hx λ_ _ h=>h
theorem LQ{k v:Key}{cY:ad}(h:jA lo w T aV s L)(B:lo<=w)(p:bI (λq=>¬T.M q) w tk k)(r:bI (λq=>¬T.M q) w cY v)(C:L.length<=100000):
 ∃ (b:ad) (ai:J),Sem.run aj (Builtin.append_ #[193,193] 193 #[s,.slice (some w) 1 1]) (w.alloc (.cells (kh (tk,cY)).toArray 198))=.ok b ai/\
  (∃u:aa,ai.cell? aV=some u)/\ai.frozen? aV=false/\
  ∀d,d=ai.setCell aV b->jA lo d (T.cx T.E λq=>T.G q\/aD b q) aV b (L++ [(k,v)])/\da T (T.cx T.E λq=>T.G q\/aD b q) w d 0:=by
 have D:=h.own.len;obtain⟨ps,x,y⟩:=h.own;obtain⟨b,ai,ay,az,F,f,c⟩:=LO.push (cB:=193) (w:=w) (s:=s) (xs:=kh (tk,cY)) rfl x (LN _) I;have cv:∀q,aD s q->T.G q:=λq a=>(h.gs q a).1;have H:=f.size;have j:=h.v.ah f λa=>(h.gs _ a).2.1 rfl;obtain⟨b1,cf⟩:=ez j (i:=0) U9;refine⟨b,ai,ay,b1,cf,?_⟩;rintro _ rfl;have g:=dU ai aV 0 b;have z:=eE j (i:=0) b;have l:ag T.G w (ai.setCell aV b):=cE (f.mono λq _ a=>cv q a) g λq _ e=>by rw[e];exact h.go
 have aI:∀q,aD b q->q<ai:=λq a=>aR.lt az q a;have m:∀q,aD b q->T.G q\/(w<=q/\q<(ai.setCell aV b).heap.size):=λq a=>by
  rcases c q a with h1|h1
  .exact .inl (cv q h1)
  .exact .inr ⟨h1,U5 (aI q a) g.size⟩
 have n:∀q,aD b q->q≠aV:=λq a e=>by
  rcases c q a with h1|h1
  .exact(h.gs q h1).2.1 e
  .have:=h.v.lt;omega
 have A:=h.t.grow (E:=T.E) (G:=λq=>T.G q\/aD b q) l (λq a _=>.inr a) (λq a=>.inl a) (λq a=>by
  obtain a|a:=a
  .exact .inr (.inl a)
  .exact .inr (m q a)) λq a hg=>by
  obtain hg|hg:=hg
  .exact(h.t.dv q a).2.2 hg
  .rcases c q hg with h1|h1
   .exact(h.t.dv q a).2.2 (cv q h1)
   .have:=h.t.lt (q:=q) (.inr (.inr (.inr (.inl a))));omega
 have o:bY T (T.cx T.E λq=>T.G q\/aD b q) w (ai.setCell aV b) 0:=by
  have h0:bY T T w w 0:=.refl _ _;exact h0.step l (λq a _=>.inr (.inr (.inr a))) (λq a=>.inl a) λq a=>by
   obtain a|a:=a
   .exact .inl a
   .exact(m q a).imp id λe=>e.1
 refine⟨⟨A,z,⟨ps++ [(tk,cY)],?_,o.FL (y.push (kv:=(k,v)) p r)⟩,.inl h.go,λq a=>⟨.inr a,n q a,?_⟩⟩,o,rfl,λ_ h=>.inl h,rfl,rfl,rfl,rfl,λ_=>rfl⟩
 .have e:bl kh (ps++ [(tk,cY)])=bl kh ps++kh (tk,cY):=by rw[ke];simp[bl]
  rw[e];exact az.ah g λq a e=>n q a e
 .rcases c q a with h1|h1
  .exact(h.gs q h1).2.2
  .omega
end
structure sx(w:J)(T:aN)(bd aU aQ:Nat)(fW gd:ad)(to fr:Key)(most:Int):Prop where
 yM:Var w bd [fW] 39
 yN:Var w aU [gd] 39
 j0:Var w aQ [most] 3
 FM:¬T.M bd
 FN:¬T.M aU
 FO:¬T.M aQ
 st:Src 1 w fW (aC to)
 BE:Src 1 w gd (aC fr)
 uB:∀q,aD fW q->q<w/\¬T.M q
 uC:∀q,aD gd q->q<w/\¬T.M q
 lt:to.length<=9000000000000000000
section
variable {w w':J}{T aq:aN}{bd aU aQ:Nat}{fW gd:ad}{to fr:Key}{most:Int}
theorem sx.go(h:sx w T bd aU aQ fW gd to fr most)(ht:bY T aq w w' k):sx w' aq bd aU aQ fW gd to fr most:=by
 have b:∀q,¬T.M q->¬T.N q:=λq a b=>a (aN.gD b);exact⟨h.yM.ah ht.ah (b _ h.FM),h.yN.ah ht.ah (b _ h.FN),h.j0.ah ht.ah (b _ h.FO),(ht.out h.yM.lt h.FM).1,(ht.out h.yN.lt h.FN).1,(ht.out h.j0.lt h.FO).1,
  h.st.ah ht.ah λq a=>b _ (h.uB q a).2,h.BE.ah ht.ah λq a=>b _ (h.uC q a).2,λq a=>⟨(ht.out (h.uB q a).1 (h.uB q a).2).2,(ht.out (h.uB q a).1 (h.uB q a).2).1⟩,λq a=>⟨(ht.out (h.uC q a).1 (h.uC q a).2).2,(ht.out (h.uC q a).1 (h.uC q a).2).1⟩,h.lt⟩
end
def kN(fr to:Key)(most:Nat)(n:aG)(acc ps:O aP):ao×O aP:=if n.leaf then lO fr to most acc ps else (true,acc)
def LR(lo aV:Nat)(T:aN)(a:ao×O aP)(w:J)(v:aa)(w':J):Prop:=
 ∃ (aq:aN) (b:ad),v=a.1/\jA lo w' aq aV b a.2/\da T aq w w' 0
theorem bY.im{T aq:aN}(h:bY T aq w w' k)(b:b7 (λq=>¬T.M q) w n K V D):b7 (λq=>¬aq.M q) w' n K V D:=
 (h.bN (lo:=0) (b.bg λ_ _ a=>⟨cI _,a⟩)).bg λ_ _ a=>a.2
theorem FP{a b:Key}:(decide ((ey a b:Int)>=0))=decide (dL b a):=by
 unfold dL;by_cases h:ey a b<0
 .have h1:¬ey a b>=0:=I
  simp[h,h1]
 .have h1:ey a b>=0:=I
  simp[h,h1]
theorem LS{T:aN}{lo aV bd aU aQ:Nat}{fW gd:ad}{most:Int}(no:Int)(h:jA lo w T aV s L)(a7:lo<=w)(hf:sx w T bd aU aQ fW gd to fr most)
 (U:b7 (λq=>¬T.M q) w n K V D) (hs:cM n) (a8:n.keys.length<=1000) (aA:(L.length:Int)<most) (a9:L.length<=50000):
 aH aj 218 #[no,dz n K V D,.pointer (some bd),.pointer (some aU),.pointer (some aV),.pointer (some aQ)] w (LR lo aV T (kN fr to most.toNat n L n.dT) w):=by
 have a_:=bW.len U.keys;refine okF (ae.xD no n.leaf K V D bd aU aV aQ) ax.xD func218 ?_;(delta ae.xD al Y ak aO bB aW r1 ar;dsimp only);refine a6 (vs:=ee n K V D) rfl λw1 N m ba=>?_;obtain⟨nb,aB⟩:=U6 w.heap.size;rw[←aB]at N⊢;have h1:=h.ext m;have aC:=hf.go (bY.ext T m);have aD:=U.ext m;have W:¬T.M nb:=λP=>U4 (h.t.lt P)
 obtain⟨b9,aZ,bo,bt⟩:=bT N;refine⟨K,aZ,λi d=>∃ (C:Nat) (aq:aN) (y:ad) (acc:O aP),i=(C:Int)/\C<=n.keys.length/\jA lo d aq aV y acc/\da T aq w1 d 0/\(acc.length:Int)<most/\acc.length<=L.length+C/\kN fr to most.toNat n acc (n.dT.drop C)=kN fr to most.toNat n L n.dT,
  λi _=>((n.keys.length:Int)-i).toNat,⟨0,T,s,L,rfl,cI _,h1,.refl _ _,aA,I,by rw[iV]⟩,?_⟩
 rintro _ d ⟨i,aq,y,acc,rfl,hi,E,k,bb,bc,f⟩;have be:=m.size;have bf:=k.to.ah.size;have o:=aC.go k.to;have X:=k.to.im aD;have Z:=N.ah k.to.ah λP=>W (aN.gD P);have bg:=(k.to.out I W).1;refine⟨λaI=>?_,λaE=>?_⟩
 rotate_left
 .have aa:i=n.keys.length:=by
   have:¬(i:Int)<(K.len:Int):=cr aE;omega
  have hd:n.dT.drop i=[]:=by
   refine sT ?_;unfold aG.dT;rw[n2];omega
  rw[hd]at f;have e:kN fr to most.toNat n acc []=(true,acc):=by unfold kN lO;split<;>rfl
  rw[e]at f;exact⟨aq,y,by rw[←f],by rw[←f];exact E,((da.ext T m).trans k)⟩
 .have aa:i<n.keys.length:=by
   have:(i:Int)<(K.len:Int):=b2 aI;omega
  obtain⟨A,tk,av,aF,hc,F,_⟩:=bW.at X.keys aa;have Q:IntKind.wrap .i64 ((i:Int)+1)=((i+1:Nat):Int):=by rw[bq I I];omega
  have aJ:∀w':J,((n.keys.length:Int)-IntKind.wrap .i64 ((i:Int)+1)).toNat<((n.keys.length:Int)-(i:Int)).toNat:=λ_=>by rw[Q];omega
  obtain⟨key,ab⟩:=U6 (n.keys[i]);rw[←ab]at F;have ac:=len8 o.st;refine⟨A,av,aF,tk,hc,fW,o.yM.cell,cc (λb w'=>b=decide (to≠ []/\¬bF key to)/\d=w') (λq l=>⟨λc=>⟨fW,o.yM.cell,(lH F.1 o.st).use ?_⟩,λc=>l _ _ ⟨?_,rfl⟩⟩) ?_⟩
  .rintro _ _ ⟨rfl,rfl⟩
   refine⟨_,rfl,l _ _ ⟨?_,rfl⟩⟩;have h2:to≠ []:=λe=>by
    rw[e]at ac;have:(fW.len:Int)>0:=b2 c;simp at ac;omega
   rw[FP];simp only[h2,ne_eq,not_false_eq_true,true_and];rfl
  .have h2:to=[]:=by
    have:¬(fW.len:Int)>0:=cr c;exact mo.1 I
   simp[h2]
  rintro aK _ ⟨af,rfl⟩;have d0:d.cell? nb=some (.bool n.leaf):=(bT Z).1;refine cc (λb w'=>b=(aK&&n.leaf)/\d=w') (λq l=>⟨λc=>⟨_,d0,l _ _ ⟨by rw[c];rfl,rfl⟩⟩,λc=>l _ _ ⟨by rw[c];rfl,rfl⟩⟩) ?_;rintro bh _ ⟨ag,rfl⟩;have G:n.leaf=true->∃x:Key,(∃j:i<n.vals.length,x=n.vals[i])/\n.dT.drop i=(key,x)::n.dT.drop (i+1):=λa=>by
   have bi:n.vals.length=n.keys.length:=by
    obtain h2|h2:=hs
    .exact h2.len
    .have:=h2.inner;rw[a]at this;cases this
   have j:i<n.vals.length:=I
   refine⟨n.vals[i],⟨j,rfl⟩,?_⟩;have aL:i<n.dT.length:=by unfold aG.dT;rw[n2];omega
   rw[kp aL];have e:n.dT[i]=(key,n.vals[i]):=by
    rw[ab];exact u7
   rw[e]
  refine⟨λc=>?_,λc=>?_⟩
  .
   rw[ag,dg]at c;obtain⟨x,_,z⟩:=G c.2;have aM:to≠ []/\¬bF key to:=by
    rw[af]at c;exact b2 c.1
   have e:kN fr to most.toNat n acc (n.dT.drop i)=(false,acc):=by
    unfold kN;rw[if_pos c.2,z];unfold lO;rw[if_pos aM]
   rw[e]at f;exact⟨aq,y,by rw[←f],by rw[←f];exact E,((da.ext T m).trans k)⟩
  .have ai:n.leaf=true->¬(to≠ []/\¬bF key to):=λa h2=>by
    rw[ag,af,a,dh h2]at c
    cases c
   refine j2 (λH=>∃ (cg:aN) (s2:ad) (jN:O aP),jN=(if n.leaf=true/\dL fr key then acc++ [(key,n.vals.getD i [])] else acc)/\jA lo H cg aV s2 jN/\da aq cg d H 0) (λq l=>⟨n.leaf,d0,?_⟩) ?_
   .refine cc (λb w'=>b=decide (n.leaf=true/\dL fr key)/\d=w') (λr am=>⟨λa=>⟨gd,o.yN.cell,(lH F.1 o.BE).use ?_⟩,λa=>am _ _ ⟨by simp[a],rfl⟩⟩) ?_
    .rintro _ _ ⟨rfl,rfl⟩
     refine⟨_,rfl,am _ _ ⟨?_,rfl⟩⟩;rw[FP,a];simp
    .rintro bj _ ⟨an,rfl⟩
     refine⟨λg=>aT ?_,λg=>?_⟩
     .rw[an]at g
      have g:=b2 g;obtain⟨x,⟨j,hx⟩,z⟩:=G g.1;have B:Ext d d.drew:=cw _;have p:=E.ext B;obtain⟨aR,cY,aS,aX,aY,ao,bk⟩:=bW.at (X.ext B).vals j;rw[←hx]at ao;have a0:=bI.ext F B;have bl:=B.size;obtain⟨ap,a1,ay,az,a2,a3⟩:=LQ p I a0 ao I;refine⟨λ_=>False,id,y,p.v.cell,id,V,(bT (Z.ext B)).2.2.1,aR,aS,aX,id,cY,aY,(kh (tk,cY)).toArray,λbm=>?_,⟨some d.drew.heap.size,1,1⟩,_,LP _ _ rfl,c5 _ _,ap,a1,ay,az,a2,aT (l _ ?_)⟩
      .kernel_rfl
      .obtain⟨b1,cf⟩:=a3 _ rfl
       refine⟨_,ap,_,?_,b1,((da.ext aq B).trans cf)⟩;rw[if_pos g,ft,dR j,←hx];rfl
     .rw[an]at g
      have g:=cr g;exact l _ ⟨aq,y,acc,by rw[if_neg g],E,.refl _ _⟩
   .rintro H ⟨cg,s2,jN,u,p,au⟩
    have a4:=o.go au.to;have a5:=p.own.len;have aw:=k.trans au;have bn:jN.length<=acc.length+1:=by rw[u];split<;>simp
    have bp:(0:Int)<=most:=I
    refine⟨s2,p.v.cell,most,a4.j0.cell,λc=>?_,λc=>?_⟩
    .have he:(s2.len:Int)=most:=by simpa using c
     by_cases a:n.leaf=true
     .obtain⟨x,⟨j,hx⟩,z⟩:=G a
      have R:n.vals.getD i []=x:=by rw[ft,dR j,hx];rfl
      have e:kN fr to most.toNat n acc (n.dT.drop i)=(false,jN):=by
       unfold kN;rw[if_pos a,z];unfold lO;rw[if_neg (ai a)];have S:(if dL fr key then acc++ [(key,x)] else acc)=jN:=by rw[u,R];simp[a]
       simp only[S];rw[if_pos I]
      rw[e]at f;exact⟨cg,s2,by rw[←f],by rw[←f];exact p,((da.ext T m).trans aw)⟩
     .exfalso
      rw[if_neg (λh2=>a h2.1)]at u;rw[u]at a5;omega
    .have he:¬(s2.len:Int)=most:=by simpa using c
     rw[Q];refine⟨⟨i+1,cg,s2,jN,rfl,I,p,aw,I,I,?_⟩,?_⟩
     .rw[←f]
      unfold kN;by_cases a:n.leaf=true
      .obtain⟨x,⟨j,hx⟩,z⟩:=G a
       have R:n.vals.getD i []=x:=by rw[ft,dR j,hx];rfl
       rw[if_pos a,if_pos a,z]
       conv=>rhs;unfold lO
       rw[if_neg (ai a)];have S:(if dL fr key then acc++ [(key,x)] else acc)=jN:=by rw[u,R];simp[a]
       simp only[S];rw[if_neg I]
      .rw[if_neg a,if_neg a]
       rw[if_neg (λh2=>a h2.1)]at u;rw[u]
     .have:=aJ H
      rw[Q]at this;exact this
inductive Kids (W:Below):O Nat->O Nat->O aP->Prop
 |nil:Kids W [] [] []
 |cons {lo hi:au Key}{k:Nat}{kids bh bj:O Nat}{bn bK:O aP} (h:W lo hi k bh bn) (t:Kids W kids bj bK):Kids W (k::kids) (bh++bj) (bn++bK)
theorem dP.kids{W:Below}{kids:O Nat}(h:dP W lo hi ks kids p L):Kids W kids p L:=by
 induction h with
 |one h=>
  have:=Kids.cons h .nil;rwa[fp,fp]at this
 |cons h _ a=>exact .cons h a
theorem LU(s:Key)(ks:O Key)(k:Key):dD (s::ks) k=if bF k s then 0 else dD ks k+1:=by
 unfold dD;rw[List.findIdx_cons];by_cases h:bF k s<;>simp[h]
theorem dP.from{W:Below}(cv:∀lo hi k p L,W lo hi k p L->∀q∈L,fy lo hi q.1){kids:O Nat}(h:dP W lo hi ks kids p L)(k:Key):
 ∃ (bh bj:O Nat) (bn bK:O aP),p=bh++bj/\L=bn++bK/\(∀q∈bn,bF q.1 k)/\Kids W (kids.drop (dD ks k)) bj bK:=by
 induction h with
 |one h=>exact⟨[],_,[],_,rfl,rfl,λ_ h=>(by cases h),(dP.one h).kids⟩
 | @cons lo hi s f bh bj bn bK ks kids h t c=>
  rw[LU];by_cases b:bF k s
  .rw[if_pos b]
   exact⟨[],_,[],_,rfl,rfl,λ_ h=>(by cases h),(dP.cons h t).kids⟩
  .rw[if_neg b,List.drop_succ_cons]
   obtain⟨a1,a2,cH,ck,rfl,rfl,d,e⟩:=c;refine⟨bh++a1,a2,bn++cH,ck,by rw[cO],by rw[cO],λq a=>?_,e⟩;rcases cR.1 a with a|a
   .exact oI ((cv _ _ _ _ _ h q a).2 s rfl) b
   .exact d q a
theorem FQ(h:∀q∈L,bF q.1 fr):hC L fr to=[]:=by
 rw[yK];refine m6.2 λq a=>?_;unfold uA;have:¬dL fr q.1:=λh2=>h2 (h q a);simp[this]
def lj(T:aN)(no:Nat):Prop:=(no<T.n/\2<=no)/\∃e,dX (no:Int) (T.C.view no)=.error e
theorem FR{T:aN}{o:aG}(h:b5 w T)(s:T.C.D.aX<=999999999)(d:T.P no=some o\/lj T no):
 aH aj 175 #[.pointer (some T.bd),no,o.leaf] w (λv w'=>∃aM:cn,da T (T.bC aM T.P) w w' 2/\b5 w' (T.bC aM T.P)/\ag (λq=>T.N q/\¬T.G q) w w'/\
  ((∃ (K V D:ad),v=.tuple #[dz o K V D,U8]/\T.P no=some o/\b7 (λq=>w<=q/\¬(T.bC aM T.P).M q) w' o K V D)\/(∃e:Int,v=.tuple #[dz im bM bM bM,e]/\e≠0/\((e=3/\¬T.C.D.calm 2)\/lj T no)))):=by
 have f:no<T.n:=d.elim (λh1=>(h.eS no o h1).1) λh1=>h1.1.1;have g:2<=no:=d.elim (λh1=>(h.eS no o h1).2.two) λh1=>h1.1.2;obtain⟨bU,i⟩:=U6 (λq=>T.E q\/T.G q);have c:∀q,T.E q\/T.G q->bU q:=λq a=>by rw[i];exact a
 have j:∀q,bU q->T.E q\/T.G q:=λq a=>by rw[i]at a;exact a
 have k:b5 w (T.cx bU λ_=>False):=h.grow (W:=λ_=>False) (ag.refl _ _) (λ_ h=>h.elim) (λq a=>(j q a).imp id .inl) (λ_ h=>h.elim) λ_ _ h=>h;have t:∀q,(T.cx bU λ_=>False).N q->T.N q/\¬T.G q:=λq a=>⟨by
  obtain a|a|a|a:=a
  .exact .inl a
  .exact .inr (.inl a)
  .exact .inr (.inr (.inl a))
  .exact a.elim,λhg=>k.j_ (c q (.inr hg)) a⟩
 refine(Bp k s f g o.leaf).mono ?_;rintro v w' ⟨aM,u,ht,x,y⟩;have z:bY T (T.bC aM T.P) w w' 2:=bY.read (E:=bU) ht c λq a=>(j q a).imp id .inl;have A:ag (λq=>T.N q/\¬T.G q) w w':=ht.ah.mono λq _ a=>t q a;refine⟨aM,.bC z x,?_,A,?_⟩
 .exact u.grow (E:=T.E) (G:=T.G) (W:=λ_=>False) (ag.refl _ _) (λ_ h=>h.elim) (λq a=>.inl (c q (.inl a))) (λq a=>.inl (c q (.inr a))) λq a=>(h.dv q a).2.2
 .obtain⟨bx,K,V,D,rfl,l,dd⟩|⟨e,rfl,B,F⟩:=y
  .have m:T.P no=some o:=d.resolve_right λ⟨_,e,h1⟩=>by
    obtain⟨p,ay,_⟩:=l;have h1:dX (no:Int) (T.C.view no)=.error e:=h1;have ay:dX (no:Int) (T.C.view no)=.ok p:=ay;rw[h1]at ay;cases ay
   obtain rfl:=hV.uniq (h.eS no o m).2 l;refine .inl ⟨K,V,D,rfl,m,dd.bg λq a r=>⟨r.1,λb=>r.2 ?_⟩⟩;obtain b|b|b|b|b:=b
   .exact .inl b
   .exact .inr (.inl b)
   .exact .inr (.inr (.inl b))
   .exact .inr (.inr (.inr (.inl (c q (.inl b)))))
   .exact .inr (.inr (.inr (.inl (c q (.inr b)))))
  .refine .inr ⟨e,rfl,F,?_⟩
   obtain h1|h1|⟨_,_,h1⟩:=B
   .exact .inl h1
   .exact .inr ⟨⟨f,g⟩,e,h1⟩
   .exact d.elim (λh2=>absurd (h.eS no o h2).2 (h1 o)) .inr
theorem LV{T:aN}{o:aG}(h:b5 w T)(f:T.C.D.aX<=999999999)(c:T.P no=some o):
 aH aj 175 #[.pointer (some T.bd),no,o.leaf] w (λv w'=>∃aM:cn,da T (T.bC aM T.P) w w' 2/\b5 w' (T.bC aM T.P)/\ag (λq=>T.N q/\¬T.G q) w w'/\
  ((∃ (K V D:ad),v=.tuple #[dz o K V D,U8]/\b7 (λq=>w<=q/\¬(T.bC aM T.P).M q) w' o K V D)\/(v=.tuple #[dz im bM bM bM,(3:Int)]/\¬T.C.D.calm 2))):=by
 refine(FR h f (.inl c)).mono ?_;rintro v w' ⟨aM,h1,h2,d,⟨K,V,D,b,_,a⟩|⟨e,b,_,⟨rfl,a⟩|⟨_,g,a⟩⟩⟩
 .exact⟨aM,h1,h2,d,.inl ⟨K,V,D,b,a⟩⟩
 .exact⟨aM,h1,h2,d,.inr ⟨b,a⟩⟩
 .obtain⟨p,ay,_⟩:=(h.eS no o c).2
  rw[a]at ay;cases ay
def LW(lo aV:Nat)(T:aN)(fr to:Key)(most:Int)(acc L:O aP)(a:Nat)(w:J)(v:aa)(w':J):Prop:=
 ∃ (aq:aN) (c:ad) (b:O aP),da T aq w w' (2*a)/\jA lo w' aq aV c b/\
  ((∃on:ao,v=.tuple #[on,U8]/\iO fr to most.toNat acc L on b)\/(v=.tuple #[false,(3:Int)]/\¬T.C.D.calm (2*a)))
theorem LX:hY aj 218:=⟨Tryz.f218,func218,by kernel_rfl,by kernel_rfl⟩
theorem er.top(b:er P (h+1) lo hi no p L):∃ (n:aG) (a:O Nat),P no=some n/\n.leaf=decide (h=0)/\cM n/\p=no::a/\
 ((h=0/\hT n/\a=[]/\L=n.dT)\/(∃g,h=g+1/\x1 n/\Kids (λlo hi k p L=>er P h lo hi k p L) n.kids a L/\∀k:Key,∃ (bh bj:O Nat) (bn bK:O aP),a=bh++bj/\L=bn++bK/\(∀q∈bn,bF q.1 k)/\Kids (λlo hi k p L=>er P h lo hi k p L) (n.kids.drop (dD n.keys k)) bj bK)):=by
 match h,b with
 |0,⟨n,h1,h2,f,e,d,c⟩=>exact⟨n,[],h1,h2.leaf,.inl h2,d,.inl ⟨rfl,h2,rfl,c⟩⟩
 |h+1,⟨n,a,h1,h2,f,e,d⟩=>
  have c:=d.mono (V:=λlo hi k p L=>er P (h+1) lo hi k p L) λ_ _ _ _ _ _ b=>b.1;refine⟨n,a,h1,by rw[h2.inner];simp,.inr h2,e,.inr ⟨h,rfl,h2,c.kids,λk=>c.from (λ_ _ _ _ _ b=>(er.fg b).2) k⟩⟩
theorem iO.len{most:Nat}{a:O aP}(h:iO fr to most acc L on a)(b:il L):a.length<=acc.length+L.length:=by
 have c:(hC L fr to).length<=L.length:=jF _ _;obtain⟨_,h1,_⟩|⟨_,h1⟩:=h
 .rw[h1,cz];omega
 .have:=h1 [] (by simpa using b)
  rw[this,fp,cF,cz];omega
theorem LY{A:af}{c:Nat}(h:i<c):a7 (some A) 1 i c=some (A.add i):=by
 unfold a7;rw[f_];split
 .rename_i h2;omega
 .rfl
theorem LZ(h:Nat):∀ {w:J}{T:aN}{lo aV bd aU aQ:Nat}{s fW gd:ad}{acc L:O aP}{to fr:Key}{most:Int}{fA dW:au Key}{no:Nat}{p:O Nat},jA lo w T aV s acc->lo<=w->sx w T bd aU aQ fW gd to fr most->h<=12->er T.P h fA dW no p L->(acc.length:Int)<most->acc.length+L.length<=40000->T.C.D.aX+2*p.length<=999999999->
 aH aj 217 #[.pointer (some T.bd),no,h,gd,.func (.func 218) #[] #[.pointer (some bd),.pointer (some aU),.pointer (some aV),.pointer (some aQ)]] w (LW lo aV T fr to most acc L p.length w):=by
 induction h with
 |zero=>intro w T lo aV bd aU aQ s fW gd acc L to fr most fA dW no p _ _ _ _ z;exact z.elim
 |succ h a_=>
  intro w T lo aV bd aU aQ s fW gd acc L to fr most fA dW no p ay b6 hf b8 z ba bb bc;obtain⟨n,b_,az,be,aA,rfl,bf⟩:=z.top;have bh:=z.fg.1;have aB:=ay.t;have ca:=cM.eB aA (U4 (aB.o0 _ _ az));refine okF (ae.xC (some T.bd) (no:Nat) ((h+1:Nat):Int) gd ⟨218,#[],#[.pointer (some bd),.pointer (some aU),.pointer (some aV),.pointer (some aQ)]⟩) ax.xC func217 ?_;(delta ae.xC kX z5 Y ak aW al bB r1 kD ar;dsimp only);rw[Bq be];refine(LV aB I az).use ?_;rintro _ w1 ⟨aM,B,aC,aD,bi⟩;have cb:=aD.size;have aE:jA lo w1 (T.bC aM T.P) aV s acc:=ay.of aC B.to (λ_ h=>h) aD λq bj bl=>bl.2 bj;have bm:=hf.go B.to;obtain⟨K,V,D,rfl,dd⟩|⟨rfl,U⟩:=bi
  rotate_left
  .refine⟨_,bM,bM,bM,3,rfl,a6 (vs:=[false,(),(),()]) rfl λbp v W br=>⟨v.ct rfl (fV (b:=im.leaf) (K:=bM) (V:=bM) (D:=bM)),rfl,cP v (us:=ee im bM bM bM) rfl rfl λE F X bs=>⟨λ_=>?_,λhx=>(by simp at hx)⟩⟩⟩
   have f:Ext w1 E:=Ext.cp W X (bk _);refine⟨_,s,acc,((B.trans (da.ext _ f)).mono (by simp only[fi];omega)),aE.ext f,.inr ⟨rfl,λhc=>U (gq hc (by simp only[fi];omega))⟩⟩
  refine⟨_,K,V,D,0,rfl,a6 (vs:=[false,(),(),()]) rfl λbp v W br=>⟨v.ct rfl fV,rfl,cP v (us:=ee n K V D) rfl rfl λE F X bs=>⟨nofun,λ_=>?_⟩⟩⟩;have f:Ext w1 E:=Ext.cp W X (bk _);obtain⟨nb,bu⟩:=U6 w1.heap.size;rw[←bu]at F⊢;have aF:¬(T.bC aM T.P).M nb:=λZ=>U4 (aC.lt Z)
  have bv:=aE.ext f;have aG:=bm.go (bY.ext _ f);have aJ:b7 (λq=>¬(T.bC aM T.P).M q) E n K V D:=(dd.ext f).bg λq _ c=>c.2;have cc:=f.size;obtain⟨b9,aZ,bo,bt⟩:=bT F;refine⟨_,b9,K,aZ,V,bo,D,bt,LX,?_⟩;refine(LS (no:Nat) bv I aG aJ aA I ba I).use ?_;rintro _ G ⟨cg,s2,rfl,x,l⟩;have aa:=(B.trans (da.ext _ f)).trans l;have aK:=aG.go l.to;have cd:=l.to.ah.size;have aL:acc.length<most.toNat:=I
  obtain⟨rfl,aO,rfl,rfl⟩|⟨g,rfl,ab,_,bw⟩:=bf
  .
   have y:n.leaf=true:=aO.leaf;have e:kN fr to most.toNat n acc n.dT=lO fr to most.toNat acc n.dT:=by unfold kN;rw[if_pos y]
   have d:=FK (fr:=fr) (to:=to) aO.dT.1 aL;rw[e]at x⊢;refine⟨_,rfl,λc=>?_,λc=>⟨λ_=>?_,λhx=>?_⟩⟩
   .have c:(lO fr to most.toNat acc n.dT).1=false:=by simpa using c
    refine⟨cg,s2,_,aa.mono U9,x,.inl ⟨false,rfl,?_⟩⟩;rw[c]at d;exact d
   .have c:(lO fr to most.toNat acc n.dT).1=true:=by simpa using c
    refine⟨cg,s2,_,aa.mono U9,x,.inl ⟨true,rfl,?_⟩⟩;rw[c]at d;exact d
   .rw[y]at hx;cases hx
  .
   have y:n.leaf=false:=ab.inner;have e:kN fr to most.toNat n acc n.dT=(true,acc):=by unfold kN;rw[y];rfl
   rw[e]at x⊢;refine⟨true,rfl,nofun,λ_=>⟨λc=>(by rw[y]at c;cases c),λ_=>aT ?_⟩⟩;have ac:Ext G G.drew:=cw _;have aR:Var G.drew nb (ee n K V D) 169:=(F.ah l.to.ah λZ=>aF (aN.gD Z)).drew;have ce:=(l.to.out (q:=nb) I aF).1;have af:b7 (λq=>¬cg.M q) G.drew n K V D:=(l.to.im aJ).ext ac;have bx:=aK.go (bY.ext cg ac);obtain⟨d0,d1,d2,d3⟩:=bT aR;refine⟨λ_=>False,id,D,d3,id,_,d0,K,d1,V,d2,D,d3,(pS af bx.BE ab.fg I).use ?_⟩;rintro _ bz ⟨rfl,H⟩;have cf:=x2 n.keys fr;have ch:=af.kids.len;have ci:=ab.len;obtain⟨iN,eM,bn,bK,rfl,rfl,aS,bA⟩:=bw fr;have N:=ac.trans H;have bD:=aa.trans (da.ext cg N);have bE:=x.ext N;have bF:=aK.go (bY.ext cg N);have ag:=af.ext H;have cj:=aR.ext H;have ck:=N.size;have cl:n.kids.length<=100000:=I
   have cm:dD n.keys fr<D.len:=I
   obtain⟨A,av,cn⟩:∃A,D.a=some A/\D.len<=D.cap:=by
    obtain⟨A,av,_⟩:=c9.at ag.kids (i:=0) I;exact⟨A,av,ag.kids.2.1⟩
   refine⟨_,rfl,H,⟨I,I⟩,λi w'=>∃ (j:Nat) (db:aN) (Q:ad) (nM:O aP) (m qr:O Nat) (o ai:O aP),i=(j:Int)/\j<=D.len-dD n.keys fr/\jA lo w' db aV Q nM/\da T db w w' (2+2*m.length)/\da cg db bz w' (2*m.length)/\Kids (λlo hi k p L=>er T.P (g+1) lo hi k p L) (n.kids.drop (dD n.keys fr+j)) qr ai/\eM=m++qr/\bK=o++ai/\iO fr to most.toNat acc o true nM,
    λi _=>((D.len:Int)-i).toNat,⟨0,cg,s2,acc,[],eM,[],bK,rfl,cI _,bE,bD.mono U9,.refl _ _,bA,rfl,rfl,.nil aL⟩,?_⟩
   rintro _ aY ⟨j,db,Q,nM,m,qr,o,ai,rfl,co,a0,r,R,S,rfl,rfl,d⟩;have bG:(((dD n.keys fr:Nat):Int)).toNat=dD n.keys fr:=c2 _;rw[bG];refine⟨λaI=>?_,λbH=>?_⟩
   rotate_left
   .
    have bI:j=D.len-dD n.keys fr:=by
     have:¬(j:Int)<((D.len-dD n.keys fr:Nat):Int):=cr bH;omega
    have hd:n.kids.drop (dD n.keys fr+j)=[]:=sT I;rw[hd]at S
    cases S;refine⟨db,Q,nM,r.mono (by simp only[cz,fi,lv];omega),a0,.inl ⟨true,rfl,.skip (FQ aS) ?_⟩⟩;rw[fp];exact d
   .have bI:j<D.len-dD n.keys fr:=by
     have:(j:Int)<((D.len-dD n.keys fr:Nat):Int):=b2 aI;omega
    have a1:dD n.keys fr+j<n.kids.length:=I
    have bJ:=R.to.im ag;have bL:=bF.go R.to;have cq:=R.to.ah.size;obtain⟨cs,a2,c,am⟩:=c9.at bJ.kids a1;rw[av]at a2
    cases a2;obtain⟨u,a3⟩:=U6 (n.kids[dD n.keys fr+j]);rw[←a3]at am;have bN:n.kids.drop (dD n.keys fr+j)=u::n.kids.drop (dD n.keys fr+j+1):=by rw[kp a1,a3]
    rw[bN]at S
    cases S with
    | @cons bO bP _ _ an bQ a4 bR bS bU=>
    have bV:db.P=T.P:=r.P;have bW:aY.cell? ((A.add (dD n.keys fr)).add (Int.toNat (j:Int)*1))=some (.int .i64 (u:Int)):=by
     rw[c2,f_,add_add];rw[c2,f_]at am;exact am
    have bX:IntKind.wrap .i64 (((g+1+1:Nat):Int)-1)=((g+1:Nat):Int):=by rw[bq I I];omega
    have bZ:IntKind.wrap .i64 ((j:Int)+1)=((j+1:Nat):Int):=by rw[bq I I];omega
    have b0:db.bd=T.bd:=r.to.bd;simp only[fi,cz]at bc bb;have b1:(nM.length:Int)<most/\nM.length<=acc.length+o.length:=by
     have b3:il o:=(ud.1 (ud.1 bh).2.1).1;refine⟨?_,d.len b3⟩;obtain⟨_,_,a5⟩|⟨a5,_⟩:=d
     .omega
     .cases a5
    have cu:=r.to.aX;have a7:=a_ (w:=aY) (T:=db) (lo:=lo) (aV:=aV) (bd:=bd) (aU:=aU) (aQ:=aQ) (s:=Q) (fW:=fW) (gd:=gd) (acc:=nM) (L:=a4) (to:=to) (fr:=fr) (most:=most) (fA:=bO) (dW:=bP) (no:=u) (p:=an) a0 I bL I (bV▸bS) b1.1 I I;rw[b0]at a7;refine⟨A.add (dD n.keys fr),by rw[av];exact LY I,⟨I,I⟩,u,bW,?_⟩;rw[bX,bZ];refine a7.use ?_;rintro _ b4 ⟨j4,ao,ap,a8,aq,b5⟩;have aw:da T j4 w b4 (2+2*(m.length+an.length)):=(r.trans a8).mono I;obtain⟨on,rfl,a9⟩|⟨rfl,U⟩:=b5
    .refine⟨on,0,rfl,λc=>?_,λc=>?_⟩
     .have c:on=false:=by simpa using c
      subst c;refine⟨j4,ao,ap,aw.mono (by simp only[cz,fi];omega),aq,.inl ⟨false,rfl,.skip (FQ aS) ?_⟩⟩;rw[←cO];exact(d.app a9).stop
     .have c:on=true:=by simpa using c
      subst c;refine⟨⟨j+1,j4,ao,ap,m++an,bQ,o++a4,bR,rfl,I,aq,?_,?_,?_,by rw[cO],by rw[cO],d.app a9⟩,?_⟩
      .rw[cz];exact aw
      .rw[cz];exact(R.trans a8).mono I
      .rw[←Nat.add_assoc];exact bU
      .show((D.len:Int)-((j+1:Nat):Int)).toNat<((D.len:Int)-(j:Int)).toNat
       omega
    .refine⟨false,3,rfl,λ_=>?_,λc=>(by simp at c)⟩
     refine⟨j4,ao,ap,aw.mono (by simp only[cz,fi];omega),aq,.inr ⟨rfl,λhc=>U (r.to.calm _ (gq hc (by simp only[cz,fi];omega)))⟩⟩
def L0(T:aN)(L:O aP)(fr to:Key)(most:Int)(a:Nat)(w:J)(v:aa)(w':J):Prop:=
 ∃aq:aN,b5 w' aq/\da T aq w w' (2*a)/\aq.G=T.G/\
  ((∃s:ad,v=.tuple #[s,U8]/\fF (λq=>¬aq.M q) w' s ((hC L fr to).take most.toNat))\/(v=.tuple #[(),(3:Int)]/\¬T.C.D.calm (2*a)))
theorem fF.none(B:U1)(w:J):fF B w ⟨.none,0,0⟩ []:=(lP.none B w).r λq a=>(fH q a).elim
theorem da.back{T aq:aN}(ht:b5 w T)(h:da T aq w w' k)(b:b5 w' aq):b5 w' (aq.cx T.E T.G)/\da T (aq.cx T.E T.G) w w' k:=
 ⟨b.grow (W:=λ_=>False) (ag.refl _ _) (λ_ h=>h.elim) (λq a=>.inl (h.E▸a)) (λq a=>.inr (.inl (h.G q a))) λq a=>(ht.dv q a).2.2,
  h.to.step (W:=λ_=>False) (ag.refl _ _) (λ_ h=>h.elim) (λq a=>.inl (h.E▸a)) (λq a=>.inl (h.G q a)),rfl,λ_ h=>h,h.root,h.aK,h.f,h.P,h.view⟩
theorem L1{T:aN}{gd fW:ad}{most:Int}(h:b5 w T)(H:gN T pages L)(aS:L.length<=30000)(ao:T.C.D.aX+2*pages.length<=999999999)
 (hf:Src 1 w gd (aC fr)) (u:∀q,aD gd q->q<w/\¬T.M q) (ht:Src 1 w fW (aC to)) (x:∀q,aD fW q->q<w/\¬T.M q) (aW:to.length<=1000000):
 aH aj 169 #[.pointer (some T.bd),gd,fW,most] w (L0 T L fr to most pages.length w):=by
 have ap:=h.num.2.1;refine okF (ae.xp (some T.bd) gd fW most) ax.xp func169 ?_;(delta ae.xp ak r1 Y al kD;dsimp only);refine a6 (vs:=[gd]) rfl λw1 K N aY=>a6 (vs:=[fW]) rfl λai Q y aZ=>a6 (vs:=[most]) rfl λR z o a0=>⟨nofun,λ_=>?_⟩;have A:=(N.trans y).trans o;have S:=h.ext A;refine⟨_,rfl,_,S.cells.2.2.2.2,cc (λb w'=>b=decide (T.aK=0\/most<1)/\R=w') (λq c=>⟨λd=>c _ _ ⟨?_,rfl⟩,λd=>⟨_,z.cell,c _ _ ⟨?_,rfl⟩⟩⟩) ?_⟩
 .have:T.aK=0:=by simpa using d
  simp[this]
 .have:T.aK≠0:=by simpa using d
  simp[this]
 rintro _ _ ⟨rfl,rfl⟩;refine⟨λd=>?_,λd=>?_⟩
 .have d:=b2 d
  have e:(hC L fr to).take most.toNat=[]:=by
   obtain d|d:=d
   .obtain⟨_,_,_,ar⟩|g:=H
    .rw[ar];simp[hC]
    .rw[d]at g;exact g.elim
   .have:most.toNat=0:=I
    rw[this,List.take_zero]
  refine⟨T,S,(da.ext T A).mono I,rfl,.inl ⟨⟨none,0,0⟩,rfl,?_⟩⟩;rw[e];exact fF.none _ _
 have d:=cr d;have g:er T.P T.aK none none T.root pages L:=by
  obtain⟨au,_⟩|g:=H
  .exact absurd (.inl au) d
  .exact g
 refine a6 (vs:=[()]) rfl λB U l a1=>aT ?_;have i:Ext B B.drew:=cw _;obtain⟨k,av⟩:=U6 B.drew;rw[←av]at i⊢;obtain⟨aV,V⟩:=U6 R.heap.size;obtain⟨aU,X⟩:=U6 w.heap.size;obtain⟨bd,Z⟩:=U6 w1.heap.size;obtain⟨aQ,aa⟩:=U6 ai.heap.size;rw[←V]at U;rw[←X]at K;rw[←Z]at Q;rw[←aa]at z;rw[←V,←X,←Z,←aa];have m:=(A.trans l).trans i;have a2:=N.size;have a3:=y.size;have a4:=o.size;have a5:=l.size;have a7:=i.size;have ab:=U.ext i;have a8:=ab.lt;have F:∀q,w.heap.size<=q->¬T.M q:=λq c a=>U4 (h.lt a)
 obtain⟨bw,j⟩:=U6 (T.cx T.E λq=>T.G q\/q=aV);have aw:b5 k bw:=by
  rw[j];refine h.grow (W:=λ_=>False) m (λ_ h=>h.elim) (λq c=>.inl c) (λq c=>.inr (c.imp id λe=>⟨I,I⟩)) λq c hg=>?_;obtain hg|hg:=hg
  .exact(h.dv q c).2.2 hg
  .have:=h.lt (q:=q) (.inr (.inr (.inr (.inl c))));omega
 have aA:da T bw w k 0:=by
  rw[j];exact⟨(bY.refl T w).step (W:=λ_=>False) m (λ_ h=>h.elim) (λq c=>.inl c) λq c=>c.imp id λe=>I,rfl,λ_ h=>.inl h,rfl,rfl,rfl,rfl,λ_=>rfl⟩
 have n:∀q,¬T.M q->q≠aV->¬bw.M q:=λq c aB a=>by
  rw[j]at a;obtain a|a|a|a|a:=a
  .exact c (.inl a)
  .exact c (.inr (.inl a))
  .exact c (.inr (.inr (.inl a)))
  .exact c (.inr (.inr (.inr (.inl a))))
  .obtain a|a:=a
   .exact c (.inr (.inr (.inr (.inr a))))
   .exact aB a
 have aE:bw.bd=T.bd:=by rw[j];rfl
 have ac:bw.C=T.C:=by rw[j];rfl
 have aF:bw.P=T.P:=by rw[j];rfl
 have aG:jA w k bw aV ⟨none,0,0⟩ []:=⟨aw,ab,lP.none _ _,by rw[j];exact .inr rfl,λq c=>(fH q c).elim⟩;have af:sx k bw bd aU aQ fW gd to fr most:=⟨(((Q.ext o).ext l).ext i),((((K.ext y).ext o).ext l).ext i),((z.ext l).ext i),n _ (F _ I) I,n _ (F _ I) I,n _ (F _ I) I,
  ht.ext m,hf.ext m,λq c=>⟨U4 ((x q c).1),n q (x q c).2 (U4 ((x q c).1))⟩,λq c=>⟨U4 ((u q c).1),n q (u q c).2 (U4 ((u q c).1))⟩,I⟩
 have ah:=LZ T.aK (acc:=[]) (no:=T.root) (L:=L) (p:=pages) (fA:=none) (dW:=none) aG I af ap (aF▸g) (by show(((([]:O aP).length:Nat)):Int)<most;simp only[lv];omega) (by simp only[lv];omega) (ac▸ao);rw[aE]at ah;have am:=h.ext m;refine⟨λ_=>False,_,rfl,id,_,am.cells.2.2.2.1,_,rfl,id,_,am.cells.2.2.2.2,id,_,af.yN.cell,ag.refl _ _,ah.use ?_⟩;rintro _ aI ⟨aq,an,a9,aJ,f,aL⟩;have s:da T aq w aI (2*pages.length):=(aA.trans aJ).mono I;obtain⟨cH,ck⟩:=s.back h f.t;obtain⟨on,rfl,aM⟩|⟨rfl,aO⟩:=aL
 .refine⟨on,0,rfl,nofun,λ_=>⟨an,f.v.cell,_,cH,ck,rfl,.inl ⟨an,rfl,?_⟩⟩⟩
  have he:=aM.all g.fg.1;rw[←he];have aR:∀q,¬aq.M q->¬(aq.cx T.E T.G).M q:=λq c a=>c (by
   obtain a|a|a|a|a:=a
   .exact .inl a
   .exact .inr (.inl a)
   .exact .inr (.inr (.inl a))
   .exact .inr (.inr (.inr (.inl (s.E▸a))))
   .exact .inr (.inr (.inr (.inr (s.G q a)))))
  refine(f.own.bg λq _ c=>aR q c).r λq c a=>?_;obtain⟨ay,az,a_⟩:=f.gs q c;obtain a|a|a|a|a:=a
  .exact f.t.uy ay a
  .exact(f.t.jy q ay).1 a
  .exact(f.t.jy q ay).2 a
  .exact(f.t.dv q (s.E▸a)).2.2 ay
  .have:=h.lt (q:=q) (.inr (.inr (.inr (.inr a))));omega
 .exact⟨false,3,rfl,λ_=>⟨_,cH,ck,rfl,.inr ⟨rfl,by rw[←ac];exact aO⟩⟩,λhx=>(by simp at hx)⟩
theorem FT{T:aN}(h:b5 w T):aH aj 128 #[.pointer (some T.bd)] w (λv w'=>v=.tuple #[T.root,T.aK]/\Ext w w'):=by
 refine okF (ae.xj (some T.bd)) ax.xj func128 ?_;(delta ae.xj ak r1;dsimp only);have hd:=h.ext (cw w);exact⟨nofun,λ_=>aT ⟨_,rfl,id,_,hd.cells.2.2.2.1,_,rfl,id,_,hd.cells.2.2.2.2,rfl,cw w⟩⟩
theorem L2{ds:O Nat}(h:c9 B w s ds)(no:Nat)(k:ds.length<=1000000):
 aH aj 154 #[s,no] w (λv w'=>∃n:Int,v=n/\(0<=n↔no∈ds)/\w=w'):=by
 have l:=h.len;refine okF (ae.wv s (no:Nat)) ax.wv func154 ?_;(delta ae.wv ak aO r1 ar;dsimp only);refine⟨λn w'=>∃i:Nat,n=(i:Int)/\i<=ds.length/\no∉ds.take i/\w=w',λn _=>((ds.length:Int)-n).toNat,⟨0,rfl,cI _,by simp,rfl⟩,?_⟩;rintro _ _ ⟨i,rfl,hi,d,rfl⟩;refine⟨λaI=>?_,λf=>?_⟩
 .have b:i<ds.length:=by
   have:(i:Int)<(s.len:Int):=b2 aI;omega
  obtain⟨A,av,g,hc⟩:=c9.at h b;refine⟨A,av,g,_,hc,λhe=>?_,λc=>?_⟩
  .have he:no=ds[i]:=by
    have:(no:Int)=((ds[i]:Nat):Int):=by simpa using he
    omega
   exact⟨_,rfl,⟨λ_=>by rw[he];exact cJ _,λ_=>I⟩,rfl⟩
  .have c:no≠ds[i]:=λe=>by rw[e]at c;simp at c
   have j:IntKind.wrap .i64 ((i:Int)+1)=((i+1:Nat):Int):=by rw[bq I I];omega
   rw[j];refine⟨⟨i+1,rfl,I,?_,rfl⟩,by show((ds.length:Int)-((i+1:Nat):Int)).toNat<((ds.length:Int)-(i:Int)).toNat;omega⟩;rw[ib b];intro a;rcases cR.1 a with a|a
   .exact d a
   .exact c (e8.1 a)
 .have b:i=ds.length:=by
   have:¬(i:Int)<(s.len:Int):=cr f;omega
  rw[b,ic]at d;exact⟨-1,rfl,⟨λh=>I,λh=>absurd h d⟩,rfl⟩
theorem L3{ds:O Nat}(h:c9 B w s ds)(no:Nat)(a:ds.length<=1000000):
 aH aj 79 #[s,no] w (λv w'=>v=.bool (decide (no∈ds))/\w=w'):=by
 refine okF (ae.wm s (no:Nat)) ax.wm func79 ?_;delta ae.wm bB;refine(L2 h no a).use ?_;rintro _ _ ⟨n,rfl,b,rfl⟩;refine⟨n,rfl,?_,rfl⟩
 congr 1
 exact decide_eq_decide.2 b
def ji(B:U1)(w:J)(t:ad):au Key->Prop
 |none=>t.a=none
 |some k=>k≠ []/\bI B w t k
theorem ji.ah(h:ji B w t o)(hc:ag W w w')(b:∀q,B q->q<w->¬W q):ji B w' t o:=by
 cases o with
 |none=>exact h
 |some k=>exact⟨h.1,bI.k3 h.2 hc λq a=>b q (h.2.2.2 q a).1 (h.2.2.2 q a).2⟩
theorem ji.bg(h:ji B w t o)(a:∀q,q<w.heap.size->B q->C q):ji C w t o:=by
 cases o with
 |none=>exact h
 |some k=>exact⟨h.1,bI.bg h.2 a⟩
theorem ji.nil(h:ji B w t o):(!(Option.isNone t.a))=o.isSome:=by
 cases o with
 |none=>rw[show t.a=none from h];rfl
 |some k=>
  obtain⟨A,av⟩:=bI.some h.2 h.1;rw[av];rfl
theorem rU{D:U1}{l mW mX:ad}(z:b7 B w n K V l)(S:n.keys.length<=100000)(L:ji C w mW lo)(M:ji D w mX hi):
 aH aj 236 #[dz n K V l,mW,mX] w (λv w'=>∃b:ao,v=b/\(b=true↔n.within lo hi)/\Ext w w'):=by
 have T:=bW.len z.keys;refine okF (ae.rU n.leaf K V l mW mX) ax.rU func236 ?_;(delta ae.rU al Y ak aO bB ar;dsimp only);refine a6 (vs:=ee n K V l) rfl λw1 N f U=>?_;obtain⟨b9,aZ,bo,bt⟩:=bT N;have O:=z.ext f;have o:=L.ah (W:=λ_=>False) f λ_ _ _ h=>h;have p:=M.ah (W:=λ_=>False) f λ_ _ _ h=>h;refine⟨K,aZ,λi w'=>∃s:Nat,i=(s:Int)/\s<=n.keys.length/\(∀k∈n.keys.take s,fy lo hi k)/\w1=w',λi _=>((n.keys.length:Int)-i).toNat,⟨0,rfl,cI _,by simp,rfl⟩,?_⟩;rintro _ _ ⟨i,rfl,X,t,rfl⟩;refine⟨λaI=>?_,λP=>?_⟩
 rotate_left
 .have m:i=n.keys.length:=by
   have:¬(i:Int)<(K.len:Int):=cr P;omega
  rw[m,ic]at t;exact⟨true,rfl,⟨λ_=>t,λ_=>rfl⟩,f⟩
 have m:i<n.keys.length:=by
  have:(i:Int)<(K.len:Int):=b2 aI;omega
 obtain⟨A,tk,av,g,hc,u,_⟩:=bW.at O.keys m;obtain⟨key,x⟩:=U6 (n.keys[i]);rw[←x]at u;refine⟨A,av,g,tk,hc,cc (λb w'=>(b=true↔¬∀a,lo=some a->dL a key)/\w1=w') (λq j=>⟨λc=>?_,λc=>?_⟩) ?_⟩
 .rw[o.nil]at c
  cases lo with
  |none=>cases c
  |some a=>
   refine(lH u.1 o.2.1).use ?_;rintro _ _ ⟨rfl,rfl⟩;refine⟨_,rfl,j _ _ ⟨?_,rfl⟩⟩;rw[b8];constructor
   .exact λh h2=>h2 a rfl h
   .exact λh=>qO λh2=>h λb g=>by cases g;exact h2
 .rw[o.nil]at c
  cases lo with
  |none=>exact j _ _ ⟨⟨nofun,λh=>absurd (λa e=>(by cases e)) h⟩,rfl⟩
  |some a=>cases c
 rintro Z _ ⟨E,rfl⟩;refine cc (λb w'=>(b=true↔¬fy lo hi key)/\w1=w') (λq j=>⟨λc=>j _ _ ⟨⟨λ_ h=>(E.1 c) h.1,λ_=>rfl⟩,rfl⟩,λc=>?_⟩) ?_
 .have Q:∀a,lo=some a->dL a key:=Classical.byContradiction λh2=>by rw[E.2 h2]at c;cases c
  refine cc (λb w'=>(b=true↔¬∀a,hi=some a->bF key a)/\w1=w') (λr F=>⟨λh2=>?_,λh2=>?_⟩) ?_
  .rw[p.nil]at h2
   cases hi with
   |none=>cases h2
   |some a=>
    refine(lH u.1 p.2.1).use ?_;rintro _ _ ⟨rfl,rfl⟩;refine⟨_,rfl,F _ _ ⟨?_,rfl⟩⟩;rw[b8];constructor
    .exact λh h2=>by
      have:ey key a<0:=h2 a rfl;omega
    .exact λh=>qO λh2=>h λb g=>by cases g;show ey key a<0;omega
  .rw[p.nil]at h2
   cases hi with
   |none=>exact F _ _ ⟨⟨nofun,λh=>absurd (λa e=>(by cases e)) h⟩,rfl⟩
   |some a=>cases h2
  .rintro aa _ ⟨G,rfl⟩
   exact j _ _ ⟨⟨λh y=>G.1 h y.2,λh=>G.2 λy=>h ⟨Q,y⟩⟩,rfl⟩
 .rintro ab _ ⟨H,rfl⟩
  have R:IntKind.wrap .i64 ((i:Int)+1)=((i+1:Nat):Int):=by rw[bq I I];omega
  refine⟨λc=>⟨false,rfl,⟨nofun,λh=>absurd (h key (by rw[x];exact cJ _)) (H.1 c)⟩,f⟩,λc=>?_⟩;rw[R];refine⟨⟨i+1,rfl,I,λk d=>?_,rfl⟩,by show((n.keys.length:Int)-((i+1:Nat):Int)).toNat<((n.keys.length:Int)-(i:Int)).toNat;omega⟩;rw[ib m]at d;rcases cR.1 d with d|d
  .exact t k d
  .rw[e8.1 d,←x]
   exact Classical.byContradiction λh=>by rw[H.2 h]at c;cases c
theorem dP.each{W:Below}{kids:O Nat}(h:dP W lo hi ks kids p L):
 ∃ (ps:O (O Nat)) (a:O (O aP)),ps.length=kids.length/\a.length=kids.length/\p=ps.flatten/\L=a.flatten/\
  ∀ (i:Nat) (h1:i<kids.length) (h2:i<ps.length) (b:i<a.length),W (if i=0 then lo else ks[i-1]?) (if i<ks.length then ks[i]? else hi) kids[i] ps[i] a[i]:=by
 induction h with
 | @one lo hi k p L h=>
  refine⟨[p],[L],rfl,rfl,by simp,by simp,λi h1 h2 b=>?_⟩;have:i=0:=by simpa using h1
  subst this;exact h
 | @cons lo hi s k bh bj bn bK ks kids h t c=>
  obtain⟨ps,a,ay,az,rfl,rfl,d⟩:=c;have e:=t.len;refine⟨bh::ps,bn::a,by simp[ay],by simp[az],by simp,by simp,λi h1 h2 b=>?_⟩
  cases i with
  |zero=>simpa using h
  |succ i=>
   have:=d i (by simpa using h1) (by simpa using h2) (by simpa using b);simp only[List.getElem_cons_succ,fi,Nat.add_lt_add_iff_right,o6,Nat.add_one_ne_zero,if_false,Nat.add_sub_cancel]
   cases i with
   |zero=>simpa using this
   |succ i=>simpa using this
structure iP(w:J)(T:aN)(dZ:Nat)(s:ad)(ps:O Nat)(k:Nat):Prop where
 t:b5 w T
 v:Var w dZ [.pointer (some T.bd),s,k] 294
 own:aR 1 3 w s (ej ps)
 sy:T.G dZ
 gs:∀q,aD s q->T.G q/\q≠dZ
section
variable {w w':J}{T aq:aN}{dZ k:Nat}{s:ad}{ps:O Nat}
theorem iP.of(h:iP w T dZ s ps k)(d:b5 w' aq)(e:aq.bd=T.bd)(b:∀q,T.G q->aq.G q)(c:ag W w w')(cv:∀q,T.G q->¬W q):iP w' aq dZ s ps k:=
 ⟨d,by rw[e];exact h.v.ah c (cv _ h.sy),h.own.ah c λq a=>cv q (h.gs q a).1,b _ h.sy,λq a=>⟨b q (h.gs q a).1,(h.gs q a).2⟩⟩
theorem iP.ext(h:iP w T dZ s ps k)(hx:Ext w w'):iP w' T dZ s ps k:=h.of (h.t.ext hx) rfl (λ_ h=>h) hx λ_ _ h=>h
theorem iP.cells(h:iP w T dZ s ps k):w.cell? dZ=some (.pointer (some T.bd))/\w.cell? (Addr.add dZ 1)=some (.slice s.a s.len s.cap)/\w.cell? (Addr.add dZ 2)=some (.int .i64 (k:Nat)):=by
 rw[aA,aA];exact⟨h.v.cell,h.v.cell,h.v.cell⟩
theorem L4(h:iP w T dZ s ps k)(no:Nat)(r:ps.length<=100000):
 ∃ (b:ad) (ai:J),Sem.run aj (Builtin.append_ #[72,72] 72 #[s,.slice (some w) 1 1]) (w.alloc (.cells #[no] 3))=.ok b ai/\
  (∃u:aa,ai.cell? ⟨dZ,1,none⟩=some u)/\ai.frozen? ⟨dZ,1,none⟩=false/\
  ∀c,c=ai.setCell ⟨dZ,1,none⟩ b->iP c (T.cx T.E λq=>T.G q\/aD b q) dZ b (ps++ [no]) k/\da T (T.cx T.E λq=>T.G q\/aD b q) w c 0:=by
 obtain⟨b,ai,ay,az,d,f,x⟩:=Bs no h.own I;have cv:∀q,aD s q->T.G q:=λq a=>(h.gs q a).1;have y:=d.size;have j:=h.v.ah d λa=>(h.gs _ a).2 rfl;obtain⟨b1,cf⟩:=ez j (i:=1) U9;refine⟨b,ai,ay,b1,cf,?_⟩;rintro _ rfl;have g:=dU ai dZ 1 b;have o:=eE j (i:=1) b;have l:ag T.G w (ai.setCell ⟨dZ,1,none⟩ b):=cE (d.mono λq _ a=>cv q a) g λq _ e=>by rw[e];exact h.sy
 have m:∀q,aD b q->T.G q\/(w<=q/\q<(ai.setCell ⟨dZ,1,none⟩ b).heap.size):=λq a=>by
  rcases f q a with h1|h1
  .exact .inl (cv q h1)
  .exact .inr ⟨h1,U5 (aR.lt az q a) g.size⟩
 have n:∀q,aD b q->q≠dZ:=λq a e=>by
  rcases f q a with h1|h1
  .exact(h.gs q h1).2 e
  .have:=h.v.lt;omega
 have p:=h.t.grow (E:=T.E) (G:=λq=>T.G q\/aD b q) l (λq a _=>.inr a) (λq a=>.inl a) (λq a=>by
  obtain a|a:=a
  .exact .inr (.inl a)
  .exact .inr (m q a)) λq a hg=>by
  obtain hg|hg:=hg
  .exact(h.t.dv q a).2.2 hg
  .rcases f q hg with h1|h1
   .exact(h.t.dv q a).2.2 (cv q h1)
   .have:=h.t.lt (q:=q) (.inr (.inr (.inr (.inl a))));omega
 refine⟨⟨p,o,az.ah g λq a e=>n q a e,.inl h.sy,λq a=>⟨.inr a,n q a⟩⟩,?_,rfl,λ_ h=>.inl h,rfl,rfl,rfl,rfl,λ_=>rfl⟩;exact(bY.refl T w).step l (λq a _=>.inr (.inr (.inr a))) (λq a=>.inl a) λq a=>by
  obtain a|a:=a
  .exact .inl a
  .exact(m q a).imp id λe=>e.1
theorem L5(h:iP w T dZ s ps k)(m:Nat):(∃u:aa,w.cell? (Addr.add dZ 2)=some u)/\w.frozen? (Addr.add dZ 2)=false/\
 iP (w.setCell (Addr.add dZ 2) m) T dZ s ps m/\da T T w (w.setCell (Addr.add dZ 2) m) 0:=by
 rw[aA];obtain⟨b1,cf⟩:=ez h.v (i:=2) U9;have b:=dU w dZ 2 m;have hc:ag T.G w (w.setCell ⟨dZ,2,none⟩ m):=b.mono λq _ e=>by rw[e];exact h.sy
 refine⟨b1,cf,⟨?_,eE h.v (i:=2) _,h.own.ah b λq a e=>(h.gs q a).2 e,h.sy,h.gs⟩,?_,rfl,λ_ h=>h,rfl,rfl,rfl,rfl,λ_=>rfl⟩
 .exact h.t.grow (E:=T.E) (G:=T.G) hc (λq a _=>.inr a) (λq a=>.inl a) (λq a=>.inr (.inl a)) λq a=>(h.t.dv q a).2.2
 .exact(bY.refl T w).step (E:=T.E) (G:=T.G) hc (λq a _=>.inr (.inr (.inr a))) (λq a=>.inl a) λq a=>.inl a
end
theorem bY.aO{T aq:aN}(h:bY T aq w w' k)(a:ji (λq=>¬T.M q) w t o):ji (λq=>¬aq.M q) w' t o:=by
 have h1:ji (λq=>q<w/\¬T.M q) w t o:=a.bg λq b a=>⟨b,a⟩;exact(h1.ah h.ah λq b _ c=>b.2 (aN.gD c)).bg λq _ a=>(h.out a.1 a.2).1
theorem da.bad{T aq:aN}{x:Nat}(h:da T aq w w' k)(a:lj aq x):lj T x:=by
 obtain⟨h1,e,h2⟩:=a;exact⟨by rw[←h.to.n];exact h1,e,by rw[←h.view];exact h2⟩
theorem da.L6{T aq:aN}{x:Nat}(h:da T aq w w' k)(a:lj T x):lj aq x:=by
 obtain⟨h1,e,h2⟩:=a;exact⟨by rw[h.to.n];exact h1,e,by rw[h.view];exact h2⟩
theorem er.FU(d:er P (h+1) lo hi no p L):∃ (n:aG) (a:O Nat),P no=some n/\n.leaf=decide (h=0)/\cM n/\p=no::a/\n.within lo hi/\
 ((h=0/\hT n/\a=[]/\L.length=n.keys.length)\/(x1 n/\∃ (ps:O (O Nat)) (b:O (O aP)),ps.length=n.kids.length/\b.length=n.kids.length/\a=ps.flatten/\L=b.flatten/\
   ∀ (i:Nat) (h1:i<n.kids.length) (h2:i<ps.length) (c:i<b.length),er P h (if i=0 then lo else n.keys[i-1]?) (if i<n.keys.length then n.keys[i]? else hi) n.kids[i] ps[i] b[i])):=by
 match h,d with
 |0,⟨n,h1,h2,c,g,e,f⟩=>
  refine⟨n,[],h1,h2.leaf,.inl h2,e,c,.inl ⟨rfl,h2,rfl,?_⟩⟩;rw[f];unfold aG.dT;rw[n2,h2.len,Nat.min_self]
 |h+1,⟨n,a,h1,h2,c,g,e⟩=>
  have f:=e.mono (V:=λlo hi k p L=>er P (h+1) lo hi k p L) λ_ _ _ _ _ _ d=>d.1;exact⟨n,a,h1,by rw[h2.inner];simp,.inr h2,g,c,.inr ⟨h2,f.each⟩⟩
def L7(T:aN)(dZ:Nat)(ps:O Nat)(keys:Nat)(fM:Nat->au aG)(p:O Nat)(b:Nat)(w:J)(v:aa)(w':J):Prop:=
 ∃aq:aN,da T aq w w' (2*p.length)/\
  ((v=.int .i64 0/\(∃a,iP w' aq dZ a (ps++p) (keys+b))/\∀x∈p,T.P x=fM x)\/
   (∃e:Int,v=e/\e≠0/\(∃ (a:ad) (c:O Nat) (d:Nat),iP w' aq dZ a c d)/\((e=3/\¬T.C.D.calm (2*p.length))\/∃x∈p,lj T x)))
theorem uD{l:O (O α)}(h:i<l.length):(l.take (i+1)).flatten=(l.take i).flatten++l[i]:=by
 rw[ib h,u_];simp
theorem BF{l:O (O α)}(h:i<l.length):l.flatten=(l.take i).flatten++(l[i]++(l.drop (i+1)).flatten):=by
 conv=>lhs;rw[←ga i l,kp h]
 rw[u_,vb]
theorem FV{l:O (O α)}(h:i<l.length):(l.take i).flatten.length+l[i].length<=l.flatten.length:=by
 have:=congrArg List.length (BF h);rw[cz,cz]at this;omega
theorem L8(h:Nat):∀ {w:J}{T:aN}{dZ keys:Nat}{s mW mX:ad}{ps p:O Nat}{fM:Nat->au aG}{L:O aP}{lo hi:au Key}{no:Nat},iP w T dZ s ps keys->h<=12->er fM h lo hi no p L->(∀x∈p,T.f x=true/\x<T.n)->(∀x∈p,∀bN,fM x=some bN->T.P x=some bN\/lj T x)->(ps++p).Nodup->
   ji (λq=>¬T.M q) w mW lo->ji (λq=>¬T.M q) w mX hi->ps.length+p.length<=10000->keys+L.length<=100000->T.C.D.aX+2*p.length<=999999999->
   aH aj 195 #[.pointer (some dZ),no,h,mW,mX] w (L7 T dZ ps keys fM p L.length w):=by
 induction h with
 |zero=>intro w T dZ keys s mW mX ps p fM L lo hi no _ _ ag;exact ag.elim
 |succ h bi=>
   intro w T dZ keys s mW mX ps p fM L lo hi no ai cq ag aY aZ dd a0 a1 bj cs bl
   obtain⟨n,cu,am,bm,bn,rfl,bo,bp⟩:=ag.FU
   have a2:=ai.t
   have br:=aZ no U9 n am
   have bs:=aY no U9
   simp only[fi]at bj bl
   refine okF (ae.xx (some dZ) (no:Nat) ((h+1:Nat):Int) mW mX) ax.xx func195 ?_
   (delta ae.xx kX z5 Y ak al bP aW st r1 ar aO bB;dsimp only)
   rw[Bq bm]
   refine⟨_,rfl,_,ai.cells.1,(FR a2 I br).use ?_⟩
   rintro _ S ⟨aM,U,a3,bt,an⟩
   have a4:iP S (T.bC aM T.P) dZ s ps keys:=ai.of a3 rfl (λ_ h=>h) bt λq g bu=>bu.2 g
   obtain⟨K,V,D,rfl,ao,bv⟩|⟨e,rfl,z,ap⟩:=an
   rotate_left
   · refine⟨_,bM,bM,bM,e,rfl,a6 (vs:=[false,(),(),()]) rfl λbw F aq bx=>⟨F.ct rfl (fV (b:=im.leaf) (K:=bM) (V:=bM) (D:=bM)),rfl,cP F (us:=ee im bM bM bM) rfl rfl λbz cv bA cy=>⟨λ_=>?_,λhx=>(by simp at hx;exact absurd hx z)⟩⟩⟩
     have a5:Ext S bz:=Ext.cp aq bA (bk _)
     refine⟨_,(U.trans (da.ext _ a5)).mono (by simp only[fi];omega),.inr ⟨e,rfl,z,⟨s,ps,keys,a4.ext a5⟩,?_⟩⟩
     obtain⟨rfl,bD⟩|bE:=ap
     · exact .inl ⟨rfl,λhc=>bD (gq hc (by simp only[fi];omega))⟩
     · exact .inr ⟨no,by simp,bE⟩
   have cB:=cM.eB bn (U4 (a2.o0 _ _ ao))
   refine⟨_,K,V,D,0,rfl,a6 (vs:=[false,(),(),()]) rfl λbw F aq bx=>⟨F.ct rfl fV,rfl,cP F (us:=ee n K V D) rfl rfl λW X bF cC=>⟨nofun,λ_=>?_⟩⟩⟩
   have u:Ext S W:=Ext.cp aq bF (bk _)
   obtain⟨nb,bG⟩:=U6 S.heap.size
   rw[←bG]at X⊢
   have a7:¬(T.bC aM T.P).M nb:=λo=>U4 (a3.lt o)
   have l:=a4.ext u
   have Z:b7 (λq=>¬(T.bC aM T.P).M q) W n K V D:=(bv.ext u).bg λq _ c=>c.2
   have cD:=u.size
   have bH:=bW.len Z.keys
   have cE:=c9.len Z.kids
   obtain⟨d0,d1,d2,d3⟩:=bT X
   have bI:no∉ps:=λo=>by
     rw[o8]at dd
     exact dd.2.2 no o no U9 rfl
   refine⟨_,rfl,s,l.cells.2.1,(L3 (B:=λ_=>True) ⟨l.own.src,l.own.2.1,λq g=>⟨trivial,l.own.lt q g⟩⟩ no I).use ?_⟩
   rintro _ _ ⟨rfl,rfl⟩
   refine⟨_,rfl,cc (λb w'=>b=false/\W=w') (λq g=>⟨λc=>absurd (b2 c) bI,λ_=>⟨_,rfl,_,l.cells.1,_,rfl,_,l.t.cells.2.1,(KR l.t.s (no:Nat)).use ?_⟩⟩) ?_⟩
   · rintro _ _ ⟨rfl,rfl⟩
     refine⟨_,rfl,g _ _ ⟨?_,rfl⟩⟩
     have a8:(T.bC aM T.P).f=T.f:=rfl
     have a9:(T.bC aM T.P).n=T.n:=rfl
     rw[a8,a9,c2,bs.1]
     have:(0:Int)<=(no:Int)/\(no:Int)<(T.n:Int):=⟨I,I⟩
     simp[this.2]
   rintro _ _ ⟨rfl,rfl⟩
   have bJ:=(U.to.trans (bY.ext _ u)).aO a0
   have bK:=(U.to.trans (bY.ext _ u)).aO a1
   refine cc (λb w'=>b=false/\Ext W w') (λq g=>⟨nofun,λ_=>⟨_,d0,K,d1,V,d2,D,d3,(rU Z I bJ bK).use ?_⟩⟩) ?_
   · rintro _ cF ⟨b,rfl,c,bL⟩
     exact⟨b,rfl,g _ _ ⟨by rw[c.2 bo];rfl,bL⟩⟩
   rintro _ cG ⟨rfl,H⟩
   refine⟨nofun,λ_=>?_⟩
   have a_:=l.ext H
   obtain⟨N,ba,ay,az,bO,bQ⟩:=L4 a_ no I
   refine⟨_,rfl,s,a_.cells.2.1,aT ⟨N,ba,ay,_,rfl,?_⟩⟩
   rw[aA,cA]
   refine⟨az,bO,aT ?_⟩
   obtain⟨aa,r⟩:=bQ _ rfl
   generalize cH:ba.setCell ⟨dZ,1,none⟩ N=v at aa r⊢
   obtain⟨g_,bR⟩:=U6 ((T.bC aM T.P).cx (T.bC aM T.P).E λq=>(T.bC aM T.P).G q\/aD N q)
   rw[←bR]at aa r
   have aw:da T g_ w v 2:=((U.trans (da.ext _ (u.trans H))).trans r).mono I
   have cK:=X.lt
   have cL:=H.size
   have aB:=(X.ext H).ah r.to.ah λo=>a7 (aN.gD o)
   have bS:=r.to.out (q:=nb) I a7
   have bU:=r.to.im (Z.ext H)
   have cN:=r.to.ah.size
   have cO:=aw.to.ah.size
   obtain⟨rfl,bV,rfl,bX⟩|⟨aC,d,aE,a8,a9,rfl,rfl,bZ⟩:=bp
   ·
     have aF:n.leaf=true:=bV.leaf
     refine⟨λ_=>aT ?_,λhx=>(by rw[aF]at hx;cases hx)⟩
     have bb:=aa.ext (cw v)
     have b0:=aB.ext (cw v)
     have b3:IntKind.wrap .i64 ((keys:Int)+(K.len:Int))=((keys+K.len:Nat):Int):=by rw[bq I I];omega
     obtain⟨b1,cf,b4,b5⟩:=L5 bb (keys+K.len)
     refine⟨_,rfl,id,_,bb.cells.2.2,id,K,(bT b0).2.1,_,rfl,b1,cf,?_⟩
     rw[b3]
     refine aT ⟨g_,((aw.trans (da.ext g_ (cw v))).trans b5).mono U9,.inl ⟨rfl,⟨N,?_⟩,λx hx=>?_⟩⟩
     · rw[bX,←bH];exact b4
     · rw[e8.1 hx,ao,am]
   · have aF:n.leaf=false:=aC.inner
     refine⟨λhx=>(by rw[aF]at hx;cases hx),λ_=>?_⟩
     have cQ:=aC.len
     refine⟨D,(bT aB).2.2.2,λaJ w'=>∃ (i:Nat) (iE:aN) (aK:ad),aJ=(i:Int)/\i<=n.kids.length/\iP w' iE dZ aK (ps++no::(d.take i).flatten) (keys+(aE.take i).flatten.length)/\da T iE w w' (2+2*(d.take i).flatten.length)/\da g_ iE v w' (2*(d.take i).flatten.length)/\∀x∈(d.take i).flatten,T.P x=fM x,
       λaJ _=>((n.kids.length:Int)-aJ).toNat,⟨0,g_,N,rfl,cI _,by simpa using aa,by simpa using aw,by simpa using da.refl g_ v,by simp⟩,?_⟩
     rintro _ y ⟨i,iE,aK,rfl,cS,ab,k,aL,aQ⟩
     refine⟨λaI=>?_,λb6=>?_⟩
     rotate_left
     · have aR:i=n.kids.length:=by
         have:¬(i:Int)<(D.len:Int):=cr b6
         omega
       rw[dO I]at ab k aQ
       rw[dO I]at ab
       refine⟨iE,k.mono (by simp only[fi];omega),.inl ⟨rfl,⟨aK,ab⟩,λx hx=>?_⟩⟩
       rcases cZ.1 hx with rfl|hx
       · rw[ao,am]
       · exact aQ x hx
     have aR:i<n.kids.length:=by
       have:(i:Int)<(D.len:Int):=b2 aI
       omega
     have m:i<d.length:=I
     have aS:i<aE.length:=I
     have bc:=aL.to.im bU
     have aU:=aB.ah aL.to.ah λo=>bS.1 (aN.gD o)
     have b8:=k.to.aO a0
     have b9:=k.to.aO a1
     obtain⟨A,av,b_,ca⟩:=c9.at bc.kids aR
     have cT:=FV m
     have cU:=FV aS
     have be:∀ (j:Nat) (ac:j<n.keys.length),∃ (a:af) (t:ad),K.a=some a/\((0:Int)<=(j:Int)/\(j:Int)<(K.len:Int))/\y.cell? (a.add (Int.toNat (j:Int)*1))=some (.slice t.a t.len t.cap)/\ji (λq=>¬iE.M q) y t n.keys[j]? :=λj ac=>by
       obtain⟨a,t,h1,h2,Q,R,_⟩:=bW.at bc.keys ac
       refine⟨a,t,h1,h2,Q,?_⟩
       rw[dR ac]
       refine⟨λe=>?_,R⟩
       have:=(aC.ok _ (cJ ac)).1
       rw[e]at this;simp at this
     refine⟨A,av,b_,_,ca,cc (λt w'=>ji (λq=>¬iE.M q) y t (if i=0 then lo else n.keys[i-1]?)/\y=w') (λq g=>⟨λc=>?_,λc=>?_⟩) ?_⟩
     · have c:0<i:=by
         have:(i:Int)>0:=b2 c
         omega
       have cb:IntKind.wrap .i64 ((i:Int)-1)=((i-1:Nat):Int):=by rw[bq I I];omega
       obtain⟨a,t,h1,h2,Q,R⟩:=be (i-1) I
       rw[cb]
       refine⟨K,(bT aU).2.1,a,h1,h2,t,Q,g _ _ ⟨?_,rfl⟩⟩
       rw[if_neg I];exact R
     · have c:i=0:=by
         have:¬(i:Int)>0:=cr c
         omega
       refine g _ _ ⟨?_,rfl⟩
       rw[if_pos c];exact b8
     rintro cV _ ⟨cd,rfl⟩
     refine cc (λt w'=>ji (λq=>¬iE.M q) y t (if i<n.keys.length then n.keys[i]? else hi)/\y=w') (λq g=>⟨K,(bT aU).2.1,λc=>?_,λc=>?_⟩) ?_
     · have c:i<n.keys.length:=by
         have:(i:Int)<(K.len:Int):=b2 c
         omega
       obtain⟨a,t,h1,h2,Q,R⟩:=be i c
       refine⟨K,(bT aU).2.1,a,h1,h2,t,Q,g _ _ ⟨?_,rfl⟩⟩
       rw[if_pos c];exact R
     · have c:¬i<n.keys.length:=by
         have:¬(i:Int)<(K.len:Int):=cr c
         omega
       refine g _ _ ⟨?_,rfl⟩
       rw[if_neg c];exact b9
     rintro bd _ ⟨ce,rfl⟩
     have cg:IntKind.wrap .i64 (((h+1:Nat):Int)-1)=(h:Int):=by rw[bq I I];omega
     have ch:IntKind.wrap .i64 ((i:Int)+1)=((i+1:Nat):Int):=by rw[bq I I];omega
     have ci:iE.n=T.n:=k.to.n
     have cW:=k.to.aX
     have aV:∀x∈d[i],x∈no::d.flatten:=λx hx=>by
       rw[BF m]
       exact jQ _ (iy _ (kt _ hx))
     have cj:=bi (p:=d[i]) (fM:=fM) (L:=aE[i]) (no:=n.kids[i]) ab I (bZ i aR m aS) (λx hx=>by rw[k.f,ci];exact aY x (aV x hx)) (λx hx bN h1=>by
       rw[k.P]
       exact(aZ x (aV x hx) bN h1).imp id k.L6) (by
       rw[BF m]at dd
       have e:ps++no::((d.take i).flatten++(d[i]++(d.drop (i+1)).flatten))=((ps++no::(d.take i).flatten)++d[i])++(d.drop (i+1)).flatten:=by simp
       rw[e]at dd
       exact(o8.1 dd).1) cd ce (by simp only[cz,fi];omega) I I
     rw[cg,ch]
     refine cj.use ?_
     rintro _ ck ⟨l3,bf,an⟩
     have bh:da T l3 w ck (2+2*((d.take i).flatten.length+d[i].length)):=(k.trans bf).mono I
     obtain⟨rfl,⟨cl,cm⟩,cn⟩|⟨e,rfl,z,co,ap⟩:=an
     · refine⟨0,rfl,nofun,λ_=>⟨⟨i+1,l3,cl,rfl,I,?_,?_,?_,?_⟩,?_⟩⟩
       · rw[uD m,uD aS,cz,←Nat.add_assoc]
         have e:ps++no::((d.take i).flatten++d[i])=(ps++no::(d.take i).flatten)++d[i]:=by simp
         rw[e];exact cm
       · rw[uD m,cz];exact bh
       · rw[uD m,cz];exact(aL.trans bf).mono I
       · intro x hx
         rw[uD m]at hx
         rcases cR.1 hx with hx|hx
         · exact aQ x hx
         · rw[←k.P];exact cn x hx
       · show((n.kids.length:Int)-((i+1:Nat):Int)).toNat<((n.kids.length:Int)-(i:Int)).toNat
         omega
     · refine⟨e,rfl,λ_=>⟨l3,bh.mono (by simp only[fi];omega),.inr ⟨e,rfl,z,co,?_⟩⟩,λhx=>(by simp at hx;exact absurd hx z)⟩
       obtain⟨h1,h2⟩|⟨x,hx,c⟩:=ap
       · exact .inl ⟨h1,λhc=>h2 (k.to.calm _ (gq hc (by simp only[fi];omega)))⟩
       · exact .inr ⟨x,aV x hx,k.bad c⟩
def L9(T:aN)(fM:Nat->au aG)(pages:O Nat)(c:Nat)(w:J)(v:aa)(w':J):Prop:=
 ∃aq:aN,b5 w' aq/\da T aq w w' (2*pages.length)/\aq.G=T.G/\
  ((∃ (s:ad) (es:O Nat),v=.tuple #[s,c,U8]/\aR 1 3 w' s (ej es)/\es.Perm pages/\(es.Pairwise λa b=>a<=b)/\(∀q,aD s q->(T.N q\/w<=q)/\¬aq.M q)/\(∀x∈pages,T.P x=fM x)/\b5 w' (aq.cx T.E λq=>T.G q\/aD s q))\/
   (∃e:Int,v=.tuple #[(),U8,e]/\e≠0/\((e=3/\¬T.C.D.calm (2*pages.length))\/∃x∈pages,lj T x)))
theorem L_{T:aN}{fM:Nat->au aG}(h:b5 w T)(ab:gN (T.bC T.C fM) pages L)(av:∀x∈pages,T.f x=true/\x<T.n)(aw:∀x∈pages,∀bN,fM x=some bN->T.P x=some bN\/lj T x)(dd:pages.Nodup)(a2:L.length<=9000)(a3:pages.length<=9000)(az:T.C.D.aX+2*pages.length<=999999999):
 aH aj 139 #[.pointer (some T.bd)] w (L9 T fM pages L.length w):=by
 have aB:=h.num.2.1;refine okF (ae.xl (some T.bd)) ax.xl func139 ?_;(delta ae.xl ak r1 bB Y al fI;dsimp only);refine⟨nofun,λ_=>a6 (vs:=[.pointer (some T.bd),(),U8]) rfl λw1 R ac a4=>?_⟩;obtain⟨dZ,aC⟩:=U6 w.heap.size;rw[←aC]at R⊢;obtain⟨bU,af⟩:=U6 (λq=>T.E q\/T.G q);have A:∀q,T.E q\/T.G q->bU q:=λq a=>by rw[af];exact a
 have S:∀q,bU q->T.E q\/T.G q:=λq a=>by rw[af]at a;exact a
 have a5:=R.lt;have h1:b5 w1 (T.cx bU λq=>q=dZ):=h.grow (W:=λ_=>False) ac (λ_ h=>h.elim) (λq a=>(S q a).imp id .inl) (λq e=>.inr (.inr ⟨I,I⟩)) λq a e=>by
  rcases S q a with h2|h2
  .have:=h.lt (q:=q) (.inr (.inr (.inr (.inl h2))));omega
  .have:=h.lt (q:=q) (.inr (.inr (.inr (.inr h2))));omega
 obtain⟨bw,k⟩:=U6 (T.cx bU λq=>q=dZ);rw[←k]at h1;have U:bw.bd=T.bd:=by rw[k];rfl
 have ai:bw.E=bU:=by rw[k];rfl
 have K:bw.C=T.C:=by rw[k];rfl
 have V:bw.P=T.P:=by rw[k];rfl
 have am:iP w1 bw dZ ⟨none,0,0⟩ [] 0:=⟨h1,by rw[U];exact R,aR.none _ _ _,by rw[k];rfl,λq a=>(fH q a).elim⟩;have i:bY T bw w w1 0:=by
  rw[k];exact(bY.refl T w).step (W:=λ_=>False) ac (λ_ h=>h.elim) (λq a=>(S q a).imp id .inl) λq e=>.inr I
 have fin:∀ (w':J) (aq:aN),b5 w' aq->da bw aq w1 w' (2*pages.length)->b5 w' (aq.cx T.E T.G)/\da T (aq.cx T.E T.G) w w' (2*pages.length):=λw' aq aE b=>by
  have u:aq.E=bU:=b.E.trans ai;refine⟨aE.grow (E:=T.E) (G:=T.G) (W:=λ_=>False) (ag.refl _ _) (λ_ h=>h.elim) (λq a=>.inl (by rw[u];exact A q (.inl a))) (λq a=>.inl (by rw[u];exact A q (.inr a))) λq a=>(h.dv q a).2.2,?_,rfl,λ_ h=>h,?_,?_,?_,?_,λj=>?_⟩
  .refine⟨b.to.bd.trans i.bd,b.to.sb.trans i.sb,b.to.n.trans i.n,b.to.g.trans i.g,b.to.s1.trans i.s1,b.to.s2.trans i.s2,b.to.c.trans i.c,b.to.d.trans i.d,b.to.bJ.trans i.bJ,b.to.gen.trans i.gen,by have:=b.to.aX;rw[K]at this;exact this,λm o=>b.to.calm m (K▸o),?_,λq a=>?_,λq a=>?_⟩
   .exact(cE i.ah b.to.ah λq a aF=>by
     rcases i.fn q aF with h2|h2
     .exact h2
     .omega)
   .obtain a|a|a|a|a:=a
    .exact((i.trans b.to).c1 q (.inl a))
    .exact((i.trans b.to).c1 q (.inr (.inl a)))
    .exact((i.trans b.to).c1 q (.inr (.inr (.inl a))))
    .exact .inl (.inr (.inr (.inr (.inl a))))
    .exact .inl (.inr (.inr (.inr (.inr a))))
   .obtain a|a|a|a:=a
    .exact((i.trans b.to).fn q (.inl a))
    .exact((i.trans b.to).fn q (.inr (.inl a)))
    .exact((i.trans b.to).fn q (.inr (.inr (.inl a))))
    .exact .inl (.inr (.inr (.inr a)))
  .show aq.root=T.root;rw[b.root,k];rfl
  .show aq.aK=T.aK;rw[b.aK,k];rfl
  .show aq.f=T.f;rw[b.f,k];rfl
  .show aq.P=T.P;rw[b.P,V]
  .show aq.C.view j=T.C.view j;rw[b.view,K]
 refine j2 (λM=>∃ (aq:aN) (s:ad) (ps:O Nat),iP M aq dZ s ps L.length/\ps=pages/\da bw aq w1 M (2*pages.length)/\∀x∈pages,T.P x=fM x) (λq a=>⟨_,rfl,_,by have:=h1.cells.2.2.2.2;rw[U]at this;exact this,λy=>aT ?_,λy=>?_⟩) ?_
 .have B:=am.ext (cw w1)
  have an:bw.aK=T.aK:=by rw[k];rfl
  have aI:bw.root=T.root:=by rw[k];rfl
  have y:T.aK≠0:=by
   rw[an]at y;have:(T.aK:Int)>0:=b2 y;omega
  have F:er fM T.aK none none T.root pages L:=by
   obtain⟨aJ,_⟩|F:=ab
   .exact absurd aJ y
   .exact F
  have e3:=B.t.cells.2.2.2.1;have gg:=B.t.cells.2.2.2.2;rw[U]at e3 gg;rw[an]at gg;rw[aI]at e3;have aL:=L8 T.aK (mW:=bM) (mX:=bM) (fM:=fM) (L:=L) (p:=pages) (lo:=none) (hi:=none) (no:=T.root) B aB F (λx hx=>by rw[k];exact av x hx) (λx hx bN h2=>by
   rw[V];refine(aw x hx bN h2).imp id λH=>?_;rw[k];exact H) (by simpa using dd) rfl rfl (by simp only[lv];omega) I (K▸az)
  refine⟨_,rfl,id,_,e3,_,rfl,id,_,gg,aL.use ?_⟩;rintro _ ao ⟨aq,X,aM⟩;have ap:da bw aq w1 ao (2*pages.length):=((da.ext bw (cw w1)).trans X).mono I;obtain⟨rfl,⟨s,r⟩,Z⟩|⟨e,rfl,ar,⟨s,a7,a8,r⟩,aO⟩:=aM
  .refine⟨0,rfl,nofun,λ_=>a _ ⟨aq,s,pages,?_,rfl,ap,λx hx=>by rw[←V];exact Z x hx⟩⟩
   rw[hK,cA]at r;exact r
  .obtain⟨f1,f2⟩:=fin ao aq r.t ap
   refine⟨e,rfl,λ_=>⟨_,f1,f2,rfl,.inr ⟨e,rfl,ar,?_⟩⟩,λhx=>(by simp at hx;exact absurd hx ar)⟩;obtain⟨h2,H⟩|⟨x,hx,H⟩:=aO
   .exact .inl ⟨h2,by rw[←K];exact H⟩
   .refine .inr ⟨x,hx,?_⟩
    rw[k]at H;exact H
 .have y:T.aK=0:=by
   have:¬(bw.aK:Int)>0:=cr y;rw[k]at this;have:¬(T.aK:Int)>0:=this;omega
  obtain⟨_,_,aQ,aS⟩|F:=ab
  .subst aQ aS
   exact a _ ⟨bw,⟨none,0,0⟩,[],am,rfl,da.refl _ _,λx hx=>(by cases hx)⟩
  .have e:(T.bC T.C fM).aK=T.aK:=rfl
   rw[e,y]at F;exact F.elim
 rintro M ⟨aq,s,ps,r,aU,X,Z⟩;rw[aU]at r;refine⟨_,rfl,s,r.cells.2.1,(EP r.own I).use ?_⟩;rintro _ N ⟨rfl,aa,es,aV,aW,aY⟩;have cv:∀q,aD s q->aq.G q:=λq a=>(r.gs q a).1;have aZ:=r.v.ah aa λa=>(r.gs _ a).2 rfl;have z:b5 N aq:=by
  have:=r.t.grow (E:=aq.E) (G:=aq.G) aa (λq a _=>.inr (cv q a)) (λq a=>.inl a) (λq a=>.inr (.inl a)) λq a=>(r.t.dv q a).2.2;exact this
 have a0:da aq aq M N 0:=⟨(bY.refl aq M).step (E:=aq.E) (G:=aq.G) aa (λq a _=>.inr (.inr (.inr (cv q a)))) (λq a=>.inl a) λq a=>.inl a,rfl,λ_ h=>h,rfl,rfl,rfl,rfl,λ_=>rfl⟩;have Q:=cw N;have b:=((X.trans a0).trans (da.ext aq Q)).mono (l:=2*pages.length) I;obtain⟨f1,f2⟩:=fin N.drew aq (z.ext Q) b;have B:=aZ.ext Q;have u:aq.E=bU:=b.E.trans ai;have a1:b5 N.drew (aq.cx T.E λq=>T.G q\/aD s q):=(z.ext Q).grow (E:=T.E) (G:=λq=>T.G q\/aD s q) (W:=λ_=>False) (ag.refl _ _) (λ_ h=>h.elim) (λq a=>.inl (by rw[u];exact A q (.inl a))) (λq a=>a.elim (λa=>.inl (by rw[u];exact A q (.inr a))) λa=>.inr (.inl (cv q a))) λq a hg=>by
  obtain hg|hg:=hg
  .exact(h.dv q a).2.2 hg
  .exact(z.dv q (by rw[u];exact A q (.inl a))).2.2 (cv q hg)
 refine⟨rfl,aT ⟨_,rfl,id,s,B.cell,_,rfl,id,_,B.cell,_,f1,f2,rfl,.inl ⟨s,es,rfl,aV.ext Q,aW,aY,λq a=>⟨?_,λo=>?_⟩,Z,a1⟩⟩⟩
 .exact(i.trans b.to).fn q (.inr (.inr (.inr (cv q a))))
 .have ay:=cv q a
  obtain o|o|o|o|o:=o
  .exact z.uy ay o
  .exact(z.jy q ay).1 o
  .exact(z.jy q ay).2 o
  .exact(z.dv q (by rw[u];exact A q (.inl o))).2.2 ay
  .exact(z.dv q (by rw[u];exact A q (.inr o))).2.2 ay
theorem yO{l:O UInt8}(h:Src 1 w s (aC l))(hi:i<l.length):∃A:af,s.a=some A/\((0:Int)<=(i:Int)/\(i:Int)<(s.len:Int))/\w.cell? (A.add (Int.toNat (i:Int)*1))=some (.int .u8 ((l[i].toNat:Nat):Int)):=by
 obtain⟨A,av,b,hc⟩:=h.at (i:=i) (v:=.int .u8 ((l[i].toNat:Nat):Int)) (by simp[aC,hi]);exact⟨A,av,b,hc⟩
theorem p3{a b:Key}(hs:Src 1 w s (aC a))(ht:Src 1 w t (aC b))(M:a.length<=1000000)(N:b.length<=1000000):
 aH aj 100 #[s,t] w (λv w'=>∃n:Int,v=n/\(n<0↔bF a b)/\Ext w w'):=by
 have h1:=len8 hs;have h2:=len8 ht;refine okF (ae.p3 s t) ax.p3 func100 ?_;(delta ae.p3 ak aO cq ar;dsimp only);refine⟨λn w'=>∃i:Nat,n=(i:Int)/\i<=a.length/\i<=b.length/\ey a b=ey (a.drop i) (b.drop i)/\Ext w w',λn _=>((a.length:Int)-n).toNat,⟨0,rfl,cI _,cI _,rfl,.refl _ _⟩,?_⟩;rintro _ l ⟨i,rfl,O,P,hc,hx⟩;refine⟨λaI=>?_,λm=>?_⟩
 .rw[dg,b8,b8]at aI
  have d:i<a.length:=I
  have f:i<b.length:=I
  have c:=Ext.trans hx (cw l);obtain⟨A,av,o,p⟩:=yO (hs.ext c) d;obtain⟨B,q,r,u⟩:=yO (ht.ext c) f;rw[kp d,kp f]at hc;have Q:=mv a[i];have R:=mv b[i];refine aT ⟨A,av,o,id,_,p,B,q,r,id,_,u,λg=>?_,λx=>?_⟩
  .have g:a[i].toNat≠b[i].toNat:=λe=>by rw[e]at g;simp at g
   have j:=Ext.trans c (cw _);obtain⟨y,z,C,D⟩:=yO (hs.ext j) d;obtain⟨E,F,G,H⟩:=yO (ht.ext j) f;refine aT ⟨y,z,C,id,_,D,E,F,G,id,_,H,_,rfl,?_,j⟩;rw[bq (n:=((a[i].toNat:Nat):Int)) I I,bq (n:=((b[i].toNat:Nat):Int)) I I,bq I I];unfold bF;rw[hc];unfold ey;rcases dV a[i].toNat b[i].toNat with h|h
   .rw[if_pos h]
    exact⟨λ_=>by decide,λ_=>I⟩
   .rw[if_neg I,if_pos I]
    exact⟨λ_=>I,λh=>absurd h (by decide)⟩
  .have he:a[i]=b[i]:=by
    have:((a[i].toNat:Nat):Int)=((b[i].toNat:Nat):Int):=by simpa using x
    exact qK.1 I
   have K:IntKind.wrap .i64 ((i:Int)+1)=((i+1:Nat):Int):=by rw[bq I I];omega
   rw[K];refine⟨⟨i+1,rfl,I,I,?_,c⟩,by show((a.length:Int)-((i+1:Nat):Int)).toNat<((a.length:Int)-(i:Int)).toNat;omega⟩;rw[hc]
   conv=>lhs;unfold ey
   rw[he,if_neg U9,if_neg U9]
 .have S:a.length=i\/b.length=i:=by
   rw[Bool.and_eq_false_iff,ko,ko]at m;omega
  rw[bq I I];refine⟨_,rfl,?_,hx⟩;unfold bF;rw[hc];rcases dV i a.length with h|h
  .rw[kp h,sT (show b.length<=i from I)]
   exact⟨λL=>by exfalso;omega,λh=>absurd h (show¬((1:Int)<0) by decide)⟩
  .rw[sT (show a.length<=i from I)]
   rcases dV i b.length with k|k
   .rw[kp k]
    exact⟨λ_=>show((-1:Int)<0) by decide,λ_=>I⟩
   .rw[sT (show b.length<=i from I)]
    exact⟨λL=>by exfalso;omega,λh=>absurd h (show¬((0:Int)<0) by decide)⟩
theorem uE{c:α->O aa}{sz:Nat}:∀ (l:O α) (i:Nat),(∀x∈l,(c x).length=sz)->(bl c l).take (i*sz)=bl c (l.take i)/\(bl c l).drop (i*sz)=bl c (l.drop i)
 |l,0,_=>by simp[bl]
 | [],i+1,_=>by simp[bl]
 |x::l,i+1,h=>by
  obtain⟨h1,h2⟩:=uE l i λy a=>h y (by simp[a])
  have hx:=h x U9
  have e:(i+1)*sz=(c x).length+i*sz:=by rw[jT,hx];omega
  rw[si,e,List.take_length_add_append,List.drop_length_add_append,h1,h2]
  exact⟨rfl,rfl⟩
theorem Ma(l:O (ad×ad)):(bl kh l).length=l.length*2:=e5 _ (qA l)
section
variable {B C W:U1}{w w':J}{s:ad}{ps NU:O (ad×ad)}{L M:O aP}
theorem jz.take(h:jz B w ps L)(i:Nat):jz B w (ps.take i) (L.take i):=by
 refine⟨by simp[h.1],λj ay az=>?_⟩;simp only[pb];exact h.2 _ (by rw[cF]at ay;omega) (by rw[cF]at az;omega)
variable {NV:O aa}{NW:TypeId}{aQ:Nat}{key val:Key}{tk cY:ad}
theorem FW(h:fF B w s L)(hi:i<L.length):∃ (A:af) (tk cY:ad),s.a=some A/\((0:Int)<=(i:Int)/\(i:Int)<(s.len:Int))/\w.cell? (A.add (Int.toNat (i:Int)*2))=some (.slice tk.a tk.len tk.cap)/\w.cell? ((A.add (Int.toNat (i:Int)*2)).add 1)=some (.slice cY.a cY.len cY.cap)/\
 bI B w tk L[i].1/\bI B w cY L[i].2:=by
 obtain⟨A,tk,cY,h1,_,b,c,d,e,f⟩:=h.at hi;rw[c2];exact⟨A,tk,cY,h1,b,c,d,e,f⟩
theorem Src.Mb(h:Src 2 w s (bl kh ps))(hc:s.len<=s.cap){lo hi:Nat}(h1:lo<=hi)(h2:hi<=ps.length):Src 2 w ⟨a7 s.a 2 lo s.cap,hi-lo,s.cap-lo⟩ (bl kh ((ps.drop lo).take (hi-lo))):=by
 have b:=h.len;rw[Ma]at b;have:=Src.cut h hc h1 (hi:=hi) I;rw[(uE ps lo (qA ps)).2,(uE (ps.drop lo) (hi-lo) (qA _)).1]at this;exact this
end
def uF(n:Nat)(root aK:Int):Prop:=0<=aK/\aK<=12/\0<=root/\root<n/\(root=0↔aK=0)
theorem rF{C:cn}(hc:fC w C)(sb:Nat)(gen root aK:Int):
 aH aj 121 #[.pointer (some C.c),.pointer (some sb),.int .u64 gen,root,aK] w (λv w'=>
  (uF C.D.n root aK/\v=.tuple #[.pointer (some w),U8]/\Ext w w'/\Var w' w [.pointer (some C.c),.pointer (some sb),.int .u64 gen,root,aK] 243/\w'.heap.size=w+1)\/
  (¬uF C.D.n root aK/\v=.tuple #[.pointer none,(1:Int)]/\w=w')):=by
 refine okF (ae.rF (some C.c) (some sb) gen root aK) ax.rF func121 ?_;delta ae.rF ak bB Y;refine cc (λb w'=>(b=false↔(0<=aK/\aK<=12/\0<=root/\root<C.D.n))/\w=w') (λq g=>⟨λh1=>g _ _ ⟨?_,rfl⟩,λh1=>⟨_,rfl,_,hc.cells.1,(sj hc.dev).use ?_⟩⟩) ?_
 .simp only[Option.isNone_some,jR,jE,b8]at h1
  exact⟨nofun,λh=>I⟩
 .rintro _ _ ⟨rfl,rfl⟩
  simp only[Option.isNone_some,jR,qH,ko]at h1;refine⟨_,rfl,g _ _ ⟨?_,rfl⟩⟩;rw[ko];omega
 rintro b _ ⟨i,rfl⟩;refine⟨λh1=>.inr ⟨λhg=>?_,rfl,rfl⟩,λh1=>?_⟩
 .have h2:=i.2 ⟨hg.1,hg.2.1,hg.2.2.1,hg.2.2.2.1⟩
  rw[h2,jR]at h1;have d:=hg.2.2.2.2;by_cases a:root=0
  .rw[a,d.1 a]at h1;simp at h1
  .have f:aK≠0:=λe=>a (d.2 e)
   have j:(root==0)=false:=by simpa using a
   have k:(aK==0)=false:=by simpa using f
   rw[j,k]at h1
   cases h1
 .rw[qH]at h1
  have h2:=i.1 h1.1;have d:root=0↔aK=0:=by
   have a:=h1.2;by_cases f:root=0<;>by_cases l:aK=0<;>simp[f,l]at a⊢
  refine a6 (vs:=[.pointer (some C.c),.pointer (some sb),.int .u64 gen,root,aK]) rfl λo m hx hs=>.inl ⟨⟨h2.1,h2.2.1,h2.2.2.1,h2.2.2.2,d⟩,rfl,hx,m,hs⟩
theorem FX{l:O UInt8}(hs:Src 1 w s (aC l))(hc:s.len<=s.cap)(most:Nat)(g:most<=100000):aH aj 62 #[s,most] w (λv w'=>∃a:ad,v=a/\aR 1 5 w' a (aC (l.take most))/\Ext w w'/\∀q,aD a q->w<=q):=by
 have hlen:=len8 hs;refine okF (ae.xV s (most:Nat)) ax.xV func62 ?_;delta ae.xV ak Y;refine cc (λs2 w'=>w=w'/\Src 1 w s2 (aC (l.take most))/\s2.len<=most) (λq b=>⟨λh=>?_,λh=>?_⟩) ?_
 .have h:most<l.length:=U4 (b2 h)
  refine⟨⟨I,I⟩,b _ _ ⟨rfl,?_,by simp⟩⟩;have:=oP hs hc (lo:=0) (hi:=most) I I;simpa using this
 .have h:l.length<=most:=U4 (cr h)
  rw[dO h]at b;exact b _ _ ⟨rfl,hs,I⟩
 rintro s2 _ ⟨rfl,h2,i⟩;obtain⟨c,d,ay,az,j,e,f,_⟩:=l6.clone (cB:=39) h2 (jd _) I;exact aT ⟨c,d,ay,c,rfl,az,e,f⟩
instance (n:Nat) (root aK:Int):Decidable (uF n root aK):=by unfold uF;infer_instance
theorem gN.rising{T:aN}(h:gN T pages L):il L:=by
 obtain⟨_,_,_,a⟩|b:=h
 .rw[a];exact List.Pairwise.nil
 .exact b.fg.1
section
variable {w0 w w':J}{kc aQ:Nat}{T aq:aN}{r h k:Nat}{pages:O Nat}{L lQ:O aP}{ms:ad}
theorem b5.lk{lN:Nat}(ht:b5 w T)(a:T.E lN)(hc:ag (λq=>q=lN) w w'):b5 w' T:=
 ht.grow (E:=T.E) (G:=T.G) hc (λq e _=>.inl (e▸a)) (λq a=>.inl a) (λq a=>.inr (.inl a)) λq a=>(ht.dv q a).2.2
end
def aN.BG(T:aN)(f g:Nat->ao)(s1 s2:ad):aN:={T with f:=f,g:=g,s1:=s1,s2:=s2}
section
variable {w0 w w':J}{kc aQ:Nat}{T aq:aN}{r h k:Nat}{pages:O Nat}{L lQ:O aP}{ms:ad}
theorem b5.space{f g:Nat->ao}{s1 s2:ad}(ht:b5 w T)(hs:fc w' T.sb T.n f g s1 s2)(hc:ag (gr T.sb T.s1 T.s2) w w')(hf:∀k,gr T.sb s1 s2 k->gr T.sb T.s1 T.s2 k\/w<=k)(d:∀j,T.C.D.cl j=true->g j=true\/T.C.D.ro)(e:g 0=true/\g 1=true):
 b5 w' (T.BG f g s1 s2)/\∀q,(T.BG f g s1 s2).M q->T.M q\/w<=q:=by
 have c:∀q,T.X q->¬gr T.sb T.s1 T.s2 q->¬gr T.sb s1 s2 q:=λq hx a h2=>by
  rcases hf q h2 with b|b
  .exact a b
  .have:=ht.lt (q:=q) (.inr hx);omega
 refine⟨⟨ht.t.ah hc ht.ld,hs,ht.ca.grow hc (λq a _=>.inr (.inl a)) λq a=>?_,c _ (.inl rfl) ht.ld,λq a=>⟨(ht.dv q a).1,c q (.inr (.inr (.inl a))) (ht.dv q a).2.1,(ht.dv q a).2.2⟩,λq a=>⟨(ht.jy q a).1,c q (.inr (.inr (.inr a))) (ht.jy q a).2⟩,ht.n,ht.num,ht.eS,d,e⟩,λq a=>?_⟩
 .obtain a|a|a|a:=a
  .exact .inl (.inl a)
  .rcases hf q a with b|b
   .exact .inl (.inr (.inl b))
   .exact .inr ⟨b,hs.lt q a⟩
  .exact .inl (.inr (.inr (.inl a)))
  .exact .inl (.inr (.inr (.inr a)))
 .obtain a|a|a|a|a:=a
  .exact .inl (.inl a)
  .exact .inl (.inr (.inl a))
  .exact(hf q a).imp (λh=>.inr (.inr (.inl h))) id
  .exact .inl (.inr (.inr (.inr (.inl a))))
  .exact .inl (.inr (.inr (.inr (.inr a))))
theorem gN.agree(a:gN T p L)(b:aq.root=T.root)(c:aq.aK=T.aK)(d:∀x∈p,T.P x=aq.P x):gN aq p L:=by
 unfold gN at a⊢;rw[b,c];exact a.imp id λe=>(e.agree d).1
end
theorem er.node:∀ (h:Nat) {lo hi:au Key}{no:Nat}{p:O Nat}{L:O aP},er P h lo hi no p L->∀x∈p,∃bN,P x=some bN
 |0,_,_,_,_,_,a=>a.elim
 |h+1,_,_,no,p,_,a=>by
  obtain⟨n,d,h1,_,_,rfl,_,hc⟩:=a.FU
  intro x hx
  rcases cZ.1 hx with rfl|hx
  .exact⟨n,h1⟩
  .obtain⟨_,_,rfl,_⟩|⟨_,ps,e,f,g,rfl,_,he⟩:=hc
   .cases hx
   .obtain⟨l,b,c⟩:=List.mem_flatten.1 hx
    obtain⟨i,hi,rfl⟩:=fe b
    exact er.node h (he i I hi I) x c
theorem BH(f:Nat->ao):∀ (n:Nat) (x:Int),x∈kK f n↔∃k:Nat,x=(k:Int)/\k<n/\f k=true
 |0,x=>by simp[kK]
 |n+1,x=>by
  rw[kK,cR,BH f n x]
  constructor
  .rintro(⟨k,h1,h2,a⟩|h)
   .exact⟨k,h1,I,a⟩
   .split at h
    .exact⟨n,e8.1 h,I,by assumption⟩
    .cases h
  .rintro⟨k,h1,h2,a⟩
   rcases dV k n with b|b
   .exact .inl ⟨k,h1,b,a⟩
   .have:k=n:=I
    subst this
    right
    rw[if_pos a,h1];simp
theorem BI(f:Nat->ao):∀n,(kK f n).Pairwise λa b=>a<b
 |0=>List.Pairwise.nil
 |n+1=>by
  rw[kK]
  refine mx.2 ⟨BI f n,by split<;>simp,λa d b c=>?_⟩
  obtain⟨k,h1,h2,_⟩:=(BH f n a).1 d
  split at c
  .have:=e8.1 c;omega
  .cases c
theorem Mc{f:Nat->ao}{n:Nat}{es:O Nat}(h1:es.Pairwise λa b=>a<b)(h2:∀x,x∈es↔x<n/\f x=true):ej es=nG f n:=by
 have e:(es.map λd=>((d:Nat):Int)).Perm (kK f n):=by
  refine(List.perm_ext_iff_of_nodup ?_ ?_).2 λx=>?_
  .exact List.Pairwise.map _ (λa b g=>by show((a:Nat):Int)≠((b:Nat):Int);omega) h1
  .exact(BI f n).imp λh=>by omega
  .rw[BH,eJ]
   constructor
   .rintro⟨k,c,rfl⟩
    exact⟨k,rfl,(h2 k).1 c⟩
   .rintro⟨k,rfl,c⟩
    exact⟨k,(h2 k).2 c,rfl⟩
 have he:(es.map λd=>((d:Nat):Int))=kK f n:=by
  refine e.eq_of_pairwise (le:=λx y=>x<=y) (λx y _ _ h1 h2=>I) ?_ ((BI f n).imp λh=>I);exact List.Pairwise.map _ (λa b g=>by show((a:Nat):Int)<=((b:Nat):Int);omega) h1
 rw[Bb,he];rfl
section
variable {w0 w w':J}{kc aQ:Nat}{T aq:aN}{r h k:Nat}{pages:O Nat}{L lQ:O aP}{ms:ad}
theorem Md(h:oe aj w 5 s):∃l:O UInt8,Src 1 w s (aC l):=by
 obtain⟨l,h1,_,_⟩:=h.src (c:=λc:UInt8=> [Value.int .u8 (c.toNat:Int)]) (sz:=1) U3 (λ_=>True) λfuel us b=>by
  obtain⟨n,rfl,h2,d⟩:=tf b (k:=.u8) U3;have g:=vG h2 d;refine⟨UInt8.ofNat n.toNat,?_,trivial⟩;simp only[n3]
  congr 2
  omega
 have e:∀l:O UInt8,(l.map λc:UInt8=> [Value.int .u8 (c.toNat:Int)]).flatten=aC l:=λl=>by
  unfold aC
  induction l with
  |nil=>rfl
  |cons a l f=>rw[hJ,vb,f];rfl
 rw[e]at h1;exact⟨l,h1⟩
end
theorem Me{n:Nat}{a:Nat}(b:n=a)(h:(decide ((i:Int)<(n:Int))&&decide ((i:Int)<(m:Int)))=true):i<a/\i<m:=by
 rw[dg,b8,b8]at h;omega
theorem mf(h:i<=1000000):IntKind.wrap .i64 ((i:Int)+1)=((i+1:Nat):Int):=by rw[bq I I];omega
section
variable {w0 w w':J}{kc aQ:Nat}{T aq:aN}{r h k c:Nat}{pages aL:O Nat}{L lQ bG:O aP}{V:Nat->c7}{ms l:ad}
end
section
variable {w0 w w':J}{kc aQ:Nat}{T aq:aN}{r h k c:Nat}{pages aL:O Nat}{L lQ bG:O aP}{V:Nat->c7}{ms l:ad}
theorem Mf(w:J):Src 1 w bM (aC []):=(aR.none 1 5 w).src
end
theorem FY:∀ {a b:O Nat},a.Nodup->(∀x∈a,x∈b)->a.length<=b.length
 | [],_,_,_=>cI _
 |x::a,b,d,hs=>by
  obtain⟨h1,h2⟩:=List.nodup_cons.1 d
  have hx:=hs x U9
  have:=FY (a:=a) (b:=b.erase x) h2 λy c=>(List.mem_erase_of_ne (λe=>h1 (by rw[←e];exact c))).2 (hs y (jQ _ c))
  rw[List.length_erase_of_mem hx]at this
  have:=List.length_pos_of_mem hx
  rw[fi];omega
theorem Mg{t:Nat->ao}{l:O Nat}(n:Nat)(h:∀i,i<n->t i=true->i∈l):e1 t n<=l.length:=by
 have h1:∀n,e1 t n=((List.range n).filter t).length:=by
  intro n
  induction n with
  |zero=>rfl
  |succ n a=>
   rw[List.range_succ,gE,cz,e1,a,ie,pj]
   cases t n<;>rfl
 rw[h1];refine FY (List.nodup_range.filter t) λx hx=>?_;rw[gw,jS]at hx;exact h x hx.1 hx.2
section
variable {α:Type}{P:Program}{w w':J}{iB fv T:TypeId}{enc:α->aa}{r m:Nat}{L:O (α×aa×Nat)}{seen:O Nat}
structure lR(w:J)(r m:Nat)(enc:α->aa)(L:O (α×aa×Nat))(seen:O Nat):Prop where
 it:∃a:Nat,w.heap[r]? =some (.mapIter (some m) a seen.toArray a)/\w.heap[m]? =some (.map (L.map (ec enc)).toArray a)/\∀x∈L,x.2.2<a
 bN:(L.map (·.2.2)).Nodup
def gO(L:O (α×aa×Nat))(seen:O Nat):O (α×aa×Nat):=L.filter λx=> !seen.contains x.2.2
theorem FZ(P:Program){n:Nat}(b:1<=n)(w:J):∃ (i:Nat) (w':J),i<n/\(choose (.mapNext n)).run P w=.ok i w'/\(w'=w\/w'=w.drew):=by
 by_cases h:n<=1
 .refine⟨0,w,I,?_,.inl rfl⟩
  show Sem.run P (.choose (.mapNext n) .pure) w=_;have a:(Question.mapNext n).forced=true:=by simp[Question.forced,h]
  simp only[Sem.run,a,if_true]
 .refine⟨(Question.mapNext n).cut (w.tape w.drawn (.mapNext n)),w.drew,hG _ I,?_,.inr rfl⟩
  show Sem.run P (.choose (.mapNext n) .pure) w=_;have a:(Question.mapNext n).forced=false:=by simp[Question.forced,h]
  simp only[Sem.run,a,gv,if_false];rfl
theorem BJ{a:au Nat}{b d:Nat}{c:Array Nat}(h:w.heap[r]? =some (.mapIter a b c d)):(getObj r).run P w=.ok (.mapIter a b c d) w:=by simp[getObj,Sem.run,h]
theorem Mh{a:au Nat}{b d:Nat}{c:Array Nat}(h:w.heap[r]? =some (.mapIter a b c d))(e:Obj):(setObj r e).run P w=.ok () (js w r e):=by simp[setObj,Sem.run,h,js]
theorem lR.begin{M:O (α×aa)}(h:eK w m enc M){T:TypeId}{iB fv:TypeId}(b:P.underlying T=some (.map iB fv)):∃ (L:O (α×aa×Nat)) (w1:J),(L.map mE).Perm M/\(Instr.range T (.map (some m))).run P w=.ok (.pointer (some w)) w1/\lR w1 w m enc L []/\Ext w w1/\w1.heap.size=w+1:=by
 have aI:=h.lt;obtain⟨L,a,h1,h2,e,c,d⟩:=h;refine⟨L,w.alloc (.mapIter (some m) a #[] a),h2,?_,⟨⟨a,?_,?_,d⟩,c⟩,ag.alloc (.refl _ _) _,by simp⟩
 .simp only[Instr.range,Sem.run_bind,di b,Result.andThen,nn h1,Sem.run_pure,newObj,Sem.run]
  rfl
 .show(w.heap.push _)[w.heap.size]? =_
  simp
 .show(w.heap.push _)[m]? =_
  rw[Array.getElem?_push_lt aI];exact(Array.getElem?_eq_getElem aI).symm.trans h1
theorem lR.next(h:lR w r m enc L seen)(E:r≠m)(T:TypeId):
 (gO L seen=[]/\∃w1,(Instr.next (.pointer (some r)) false T).run P w=.ok (.tuple #[false]) w1/\Ext w w1/\w1.heap=w.heap)\/
 (∃x∈gO L seen,∃w1,(Instr.next (.pointer (some r)) false T).run P w=.ok (.tuple #[true,enc x.1,x.2.1]) w1/\lR w1 r m enc L (seen++ [x.2.2])/\ag (λq=>q=r) w w1/\w1.heap.size=w/\(Instr.entry (.pointer (some r))).run P w1=.ok (.tuple #[enc x.1,x.2.1]) w1):=by
 obtain⟨⟨a,h1,h2,d⟩,j⟩:=h;have k:(!seen.toArray.isEmpty&& !((L.map (ec enc)).toArray).isEmpty&&((L.map (ec enc)).toArray).all λe=>decide (e.born>=a))=false:=by
  cases L with
  |nil=>simp
  |cons x L=>
   have:¬a<=x.2.2:=by have:=d x U9;omega
   simp[ec,this]
 have f:((L.map (ec enc)).toArray.filter λe=> !seen.toArray.contains e.born)=((gO L seen).map (ec enc)).toArray:=by
  rw[List.filter_toArray,List.filter_map]
  congr 1
  unfold gO
  congr 1
  apply pk;intro x _;simp only[Function.comp,ec,List.contains_toArray]
 have aI:∀x∈gO L seen,x.2.2<a:=λx hx=>d x (gw.1 hx).1;have hold:(((gO L seen).map (ec enc)).toArray.filter λe=>decide (e.born<a))=((gO L seen).map (ec enc)).toArray:=by
  rw[List.filter_toArray,jU.2];intro e he;obtain⟨x,hx,rfl⟩:=eJ.1 he;exact dh (aI x hx)
 have g:(((gO L seen).map (ec enc)).toArray.filter λe=>decide (e.born>=a))= #[]:=by
  rw[List.filter_toArray,m6.2];intro e he;obtain⟨x,hx,rfl⟩:=eJ.1 he;have:=aI x hx;have F:¬a<=x.2.2:=by omega
  simp[ec,F]
 cases b:gO L seen with
 |nil=>
  rw[b]at f hold g;obtain⟨i,w1,hi,hc,c⟩:=FZ P (n:=1) (bk _) w;have G:i=0:=by omega
  subst G;refine .inl ⟨rfl,w1,?_,?_,?_⟩
  .simp only[Instr.next,Sem.run_bind,BJ h1,Result.andThen,nn h2,k,gv,if_false,f,hold,g]
   simp only[List.map_nil,Array.isEmpty,ve,lv,decide_true,if_true];have e:(#[none]++((#[]:Array MapEntry)++ #[]).map some:Array (au MapEntry)).size=1:=by simp
   have o:((#[none]++((#[]:Array MapEntry)++ #[]).map some:Array (au MapEntry)))[0]? =some none:=by simp
   simp only[e,Sem.run_bind,hc,Result.andThen,o,Sem.run_pure,Sem.run_pure]
  .rcases c with rfl|rfl
   .exact .refl _ _
   .exact ag.drew (.refl _ _)
  .rcases c with rfl|rfl<;>rfl
 |cons y l=>
  right;rw[←b];have v:1<=(gO L seen).length:=by rw[b];simp
  obtain⟨i,w1,hi,hc,c⟩:=FZ P (n:=(gO L seen).length) v w;have p:w1.heap=w.heap:=by rcases c with rfl|rfl<;>rfl
  obtain⟨x,hx⟩:=U6 ((gO L seen)[i]);have s:x∈gO L seen:=by rw[hx];exact cJ _
  have A:x∈L:=(gw.1 s).1;have B:w1.heap[r]? =some (.mapIter (some m) a seen.toArray a):=by rw[p];exact h1
  have H:r<w1:=(mn.1 B).1;have t:(js w1 r (.mapIter (some m) a (seen.toArray.push x.2.2) a)).heap[r]? =some (.mapIter (some m) a (seen++ [x.2.2]).toArray a):=by
   rw[vN H];simp
  have u:(js w1 r (.mapIter (some m) a (seen.toArray.push x.2.2) a)).heap[m]? =some (.map (L.map (ec enc)).toArray a):=by
   have C:w1.heap[m]? =some (.map (L.map (ec enc)).toArray a):=by rw[p];exact h2
   rw[(tm w1 r _).block m (mn.1 C).1 (λe=>E e.symm)];exact C
  refine⟨x,s,js w1 r (.mapIter (some m) a (seen.toArray.push x.2.2) a),?_,⟨⟨a,t,u,d⟩,j⟩,?_,?_,?_⟩
  .simp only[Instr.next,Sem.run_bind,BJ h1,Result.andThen,nn h2,k,gv,if_false,f,hold,g]
   have I:((gO L seen).map (ec enc)).toArray.isEmpty=false:=by rw[b];rfl
   have e:((#[]:Array (au MapEntry))++(((gO L seen).map (ec enc)).toArray++ #[]).map some).size=(gO L seen).length:=by simp
   have o:((#[]:Array (au MapEntry))++(((gO L seen).map (ec enc)).toArray++ #[]).map some)[i]? =some (some (ec enc x)):=by
    simp[hi,hx]
   simp only[I,gv,if_false,e,Sem.run_bind,hc,Result.andThen,o,Mh B,Sem.run_pure,ec]
  .have J:ag (λq=>q=r) w w1:=by
    rcases c with rfl|rfl
    .exact .refl _ _
    .exact ag.drew (.refl _ _)
   exact J.trans (tm _ _ _)
  .rw[vM,p]
  .have K:(seen++ [x.2.2]).toArray.back? =some x.2.2:=by simp
   have hf:((L.map (ec enc)).toArray.find? λe=>e.born==x.2.2)=some (ec enc x):=by
    rw[List.find?_toArray,List.find?_map];have:L.find? ((λe:MapEntry=>e.born==x.2.2)∘ec enc)=some x:=by
     clear b v hi hc s hx t u f hold g aI k h2 d
     induction L with
     |nil=>cases A
     |cons z L M=>
      rw[hJ]at j;obtain⟨b6,bx⟩:=List.nodup_cons.1 j;rw[List.find?_cons];rcases cZ.1 A with rfl|D
      .simp[ec]
      .have N:z.2.2≠x.2.2:=λe=>b6 (by rw[e];exact eJ.2 ⟨x,D,rfl⟩)
       have:((λe:MapEntry=>e.born==x.2.2)∘ec enc) z=false:=by simp[ec,N]
       rw[this];exact M bx D
    rw[this];rfl
   have O:(a !=a)=false:=by simp
   simp only[Instr.entry,Sem.run_bind,BJ t,Result.andThen,K,nn u,O,gv,if_false,hf,Sem.run_pure,ec]
theorem eK.clear{M:O (α×aa)}(h:eK w m enc M){o:TypeId}(b:P.underlying T=some (.map iB fv)):∃w1,(Builtin.clear_ #[T] o #[.map (some m)]).run P w=.ok (.tuple #[]) w1/\eK w1 m enc ([]:O (α×aa))/\ag (λq=>q=m) w w1/\w1.heap.size=w:=by
 have aI:=h.lt;obtain⟨L,a,h1,h2,c,d,e⟩:=h;refine⟨js w m (.map #[] a),?_,⟨[],a,vN aI _,by simp,by simp,by simp,by simp⟩,tm _ _ _,vM _ _ _⟩;unfold Builtin.clear_;simp only[sL,nX,Sem.run_bind,di b,Result.andThen,nn h1,zH h1,Sem.run_pure]
end
theorem F0{lb:Nat}{ls:O c7}{T:TypeId}(h:bu w lb (bl aC ls).toArray T)(hs:∀x∈ls,x.length=256)(hi:i<ls.length){x:c7}(hx:x.length=256):
 bp w ⟨lb,i*256,none⟩ (aC x)/\bu (setCells w ⟨lb,i*256,none⟩ 0 (aC x)) lb (bl aC (ls.set i x)).toArray T/\ag (λq=>q=lb) w (setCells w ⟨lb,i*256,none⟩ 0 (aC x)):=by
 have a:∀x∈ls,(aC x).length=256:=λx hx=>by rw[de];exact hs x hx
 have f:=e5 (c:=aC) ls a;have b:(aC x).length=256:=by rw[de];exact hx
 have d:i*256+(aC x).length<=(bl aC ls).toArray.size:=by
  rw[ve,f,b];omega
 refine⟨bu.ct h _ _ d (jd _),?_,ag.kA (.refl _ _) _ 0⟩;have h0:=bu.kB (o:=i*256) h (aC x);have h1:=l1 (aC x) (bl aC ls).toArray (i*256) d;have h2:=Ey a hi x;rw[b]at h1;have g:(gV (bl aC ls).toArray (i*256) (aC x)).toList=bl aC (ls.set i x):=h1.trans h2;have e:gV (bl aC ls).toArray (i*256) (aC x)=(bl aC (ls.set i x)).toArray:=by rw[←g]
 rw[e]at h0;exact h0
theorem Mi{L:O (α×aa×Nat)}{x:α×aa×Nat}(h:x∈gO L seen):(gO L (seen++ [x.2.2])).length<(gO L seen).length:=by
 have e:gO L (seen++ [x.2.2])=(gO L seen).filter λy=> !(y.2.2==x.2.2):=by
  unfold gO;rw[List.filter_filter];apply pk;intro y _;rw[eG];simp only[jD,dg,List.contains_eq_mem,ko,cR,e8,beq_eq_false_iff_ne];constructor
  .exact λh=>⟨λh2=>h (.inr h2),λh2=>h (.inl h2)⟩
  .rintro⟨h1,h2⟩ (a|a)
   .exact h2 a
   .exact h1 a
 rw[e];exact List.length_filter_lt_length_iff_exists.2 ⟨x,h,by simp⟩
def BK(L:O (α×aa×Nat))(r:Nat)(w:J):Nat:=match w.heap[r]? with
 |some (.mapIter _ _ seen _)=>(gO L seen.toList).length
 |_=>0
theorem lR.left{r:Nat}{enc:α->aa}{L:O (α×aa×Nat)}(h:lR w r m enc L seen):BK L r w=(gO L seen).length:=by
 obtain⟨⟨a,h1,_⟩,_⟩:=h;unfold BK;rw[h1]
theorem lR.ah{r:Nat}{enc:α->aa}{L:O (α×aa×Nat)}(h:lR w r m enc L seen)(hc:ag W w w')(a:¬W r)(b:¬W m):lR w' r m enc L seen:=by
 obtain⟨⟨c,h1,h2,d⟩,e⟩:=h;exact⟨⟨c,by rw[hc.block r (mn.1 h1).1 a];exact h1,by rw[hc.block m (mn.1 h2).1 b];exact h2,d⟩,e⟩
def a8.jP(D:a8):a8:={D with bJ:=(List.range D.n).map D.now,waits:=[]}
theorem uG(D:a8):D.jP.n=D.n:=by simp[a8.jP,a8.n]
theorem BL(D:a8)(hi:i<D.n):D.jP.now i=D.now i:=by
 show((List.range D.n).map D.now).getD i []=_;rw[fB (by simp;exact hi)];simp
def Mj(D:a8)(w:J)(v:aa)(w':J):Prop:=
 (D.gh 3=true/\v=.int .i64 3/\cL w' (D.cN 3)/\ag (λq=>q=D.d) w w')\/
 (D.gh 3=false/\v=.int .i64 0/\cL w' (D.cN 3).jP/\ag (b4 D) w w')
theorem BM{D:a8}(h:cL w D)(bq:D.aX<=1000000000):aH aj 59 #[.pointer (some D.d)] w (Mj D w):=by
 refine okF (ae.wT (some D.d)) ax.wT func59 ?_;(delta ae.wT ak bP zS al l2 aO z2;dsimp only);refine⟨nofun,λ_=>⟨_,rfl,(A6 h (k:=3) (by decide)).use ?_⟩⟩;rintro _ ai ⟨rfl,f,ad,br⟩;obtain⟨bZ,p⟩:=U6 (D.cN 3);have aJ:bZ.d=D.d:=by rw[p];rfl
 have bs:bZ.lb=D.lb:=by rw[p];rfl
 have aK:bZ.mr=D.mr:=by rw[p];rfl
 have aL:bZ.n=D.n:=by rw[p];rfl
 have aM:b4 bZ=b4 D:=by rw[p];rfl
 have bt:bZ.aX=D.aX:=by rw[p];rfl
 rw[←p]at f;refine⟨_,rfl,λC=>.inl ⟨C,rfl,by rw[←p];exact f,ad⟩,λC=>?_⟩;rw[←aJ];have af:=f.bx;obtain⟨L,am,an,ao,ap,aq,bv⟩:=lR.begin (P:=aj) f.m mR;obtain⟨r,aN⟩:=U6 ai.heap.size;rw[←aN]at ao ap;have aP:r≠bZ.mr:=by have:=f.m.lt;omega
 have ar:∀q,b4 bZ q->q≠r:=λq E e=>by have:=f.lt E;omega
 have aQ:∀x∈L,∃y∈bZ.waits,x.1=(y.i:Int):=λx hx=>by
  have:=an.mem_iff.1 (eJ.2 ⟨x,hx,rfl⟩);obtain⟨y,t,e⟩:=eJ.1 this;refine⟨y,t,?_⟩;have:=congrArg Prod.fst e;exact this.symm
 have aR:∀y∈bZ.waits,∃x∈L,x.1=(y.i:Int):=λy t=>by
  have:y.e∈L.map mE:=an.mem_iff.2 (eJ.2 ⟨y,t,rfl⟩);obtain⟨x,hx,e⟩:=eJ.1 this;exact⟨x,hx,congrArg Prod.fst e⟩
 refine⟨_,rfl,some bZ.mr,f.gg,_,am,ao,λw'=>∃ (seen:O Nat) (ls:O c7),lR w' r bZ.mr encZ L seen/\cL w' {bZ with bJ:=ls}/\ls.length=bZ.n/\(∀ (j:Nat) (F:j<ls.length),ls[j]=if ∃x∈L,x.2.2∈seen/\x.1=(j:Int) then bZ.now j else bZ.bJ.getD j [])/\ag (λq=>b4 bZ q) ai w'/\am.heap.size<=w'.heap.size,
  BK L r,⟨[],bZ.bJ,ap,f.ext aq,rfl,λj F=>?_,ag.cX aq,bk _⟩,?_⟩
 .rw[if_neg (by rintro⟨x,_,h1,_⟩;cases h1),fB F]
 rintro au ⟨seen,ls,R,u,A,ih,H,bw⟩;have S:∀s∈ls,s.length=256:=u.sl;have bz:r<au.heap.size:=by omega
 have aS:bZ.lb≠r:=ar _ (.inr (.inl rfl));rcases R.next (P:=aj) aP 0 with ⟨aU,aV,T,aw,bA⟩|⟨x,hx,K,T,aW,ay,bB,aY⟩
 .
  refine .inr ⟨aV,T,nofun,λ_=>?_⟩;have M:=u.ext aw;obtain⟨aZ,a0,a4,U,bC⟩:=eK.clear (P:=aj) (o:=0) M.m mR;refine⟨_,rfl,some bZ.mr,M.gg,_,aZ,a0,.inr ⟨C,rfl,?_,?_⟩⟩
  .have a5:∀x∈L,x.2.2∈seen:=λx hx=>by
    have:=m6.1 aU x hx;simpa using this
   have a6:ls=(List.range D.n).map D.now:=by
    refine mw (by simp[A,aL]) λj h1 h2=>?_;rw[ih j h1,vf,List.getElem_range];have V:D.now j=bZ.now j:=by rw[p];rfl
    rw[V];split
    .rfl
    .rename_i a7
     unfold a8.now
     cases hf:bZ.waits.find? λx=>x.i==j with
     |some y=>
      exfalso;have t:=jY hf;have a9:y.i=j:=by simpa using kR hf
      obtain⟨x,hx,e⟩:=aR y t;exact a7 ⟨x,hx,a5 x hx,by rw[e,a9]⟩
     |none=>rfl
   have W:bZ.d≠bZ.mr:=f.a1.2.1;have a_:bZ.lb≠bZ.mr:=f.a1.2.2;have e:(D.cN 3).jP={bZ with bJ:=ls,waits:=[]}:=by
    rw[a6,p];rfl
   rw[e];refine⟨M.v.ah U W,bu.ah M.l U a_,a4,λx hx=>(by cases hx),λx hx=>(by cases hx),S,λx hx=>(by cases hx),?_,?_,u.f4,u.fr,u.a1,λx hx=>(by cases hx),λx hx=>(by cases hx),u.r⟩
   .show 16<=ls.length;rw[A];exact f.b6
   .show ls.length<=1600;rw[A];exact af
  .have ba:b4 D D.d:=.inl rfl
   have hc:ag (λq=>b4 D q) w ai:=ad.mono λq _ e=>by rw[e];exact ba
   have H:ag (λq=>b4 D q) ai au:=by rw[←aM];exact H
   have bb:=cE hc H λq _ h=>h;have bc:=cE bb aw λq _ h=>h.elim;exact cE bc U λq _ bd=>by rw[bd,aK];exact .inr (.inr (.inl rfl))
 .
  have X:x∈L:=(gw.1 hx).1;have bD:x.2.2∉seen:=by
   have:=(gw.1 hx).2;simpa using this
  obtain⟨y,t,Y⟩:=aQ x X;have be:=u.ah ay λq E=>ar q E;have hi:y.i<bZ.n:=(f.wn y t).2.1;have bf:y.i<ls.length:=by omega
  refine .inl ⟨_,_,K,T,λ_=>⟨(y.i:Int),x.2.1,K,?_,?_⟩,nofun⟩
  .rw[aY]
   have e:encZ x.1=y.i:=by rw[Y]
   rw[e]
  have az:=cw K;have Z:=be.ext az;have bg:({bZ with bJ:=ls}:a8).n=bZ.n:=A;refine aT ⟨λ_=>False,_,rfl,id,⟨some bZ.lb,ls.length,ls.length⟩,Z.e3,(EB (i:=y.i) Z (by rw[bg];exact hi) (by show bZ.aX<=_;omega)).use ?_⟩;rintro _ N ⟨rfl,aa⟩;have g:=Z.ext aa;have V:({bZ with bJ:=ls}:a8).now y.i=bZ.now y.i:=by
   unfold a8.now
   cases hf:bZ.waits.find? λx=>x.i==y.i with
   |some z=>rfl
   |none=>
    have:=jX.1 hf y t;simp at this
  have ab:(bZ.now y.i).length=256:=f.qm hi;rw[V];have av:Addr.add bZ.lb (Int.toNat (y.i:Int)*256)=⟨bZ.lb,y.i*256,none⟩:=by rw[c2,aA,cA]
  obtain⟨b1,cf,bh⟩:=F0 g.l S bf ab;refine⟨_,rfl,aa,_,rfl,⟨I,by show(y.i:Int)<(ls.length:Int);omega⟩,by rw[av];exact b1,by simp[de,ab],?_⟩;rw[av];refine aT ?_;show _/\_;have aB:bu (setCells N ⟨bZ.lb,y.i*256,none⟩ 0 (aC (bZ.now y.i)).toArray.toList) bZ.lb (bl aC (ls.set y.i (bZ.now y.i))).toArray 151:=cf;have B:ag (λq=>q=bZ.lb) N (setCells N ⟨bZ.lb,y.i*256,none⟩ 0 (aC (bZ.now y.i)).toArray.toList):=bh;generalize setCells N ⟨bZ.lb,y.i*256,none⟩ 0 (aC (bZ.now y.i)).toArray.toList=aD at aB B;have ac:=Ext.trans az aa;have aE:=(aW.ah ac id id).ah B (λe=>aS e.symm) λe=>f.a1.2.2 e.symm;have bi:ag (λq=>b4 bZ q) ai aD:=by
   have h1:ag (λq=>b4 bZ q) ai K:=cE H ay λq E e=>by omega
   have h2:=cE h1 ac λq _ h=>h.elim;exact cE h2 B λq _ e=>by rw[e];exact .inr (.inl rfl)
  have bE:=ac.size;have bF:=B.size;have bj:cL aD {bZ with bJ:=ls.set y.i (bZ.now y.i)}:=by
   have W:bZ.d≠bZ.lb:=f.a1.1;refine⟨?_,aB,g.m.ah B λe=>f.a1.2.2 e.symm,λx hx=>(g.ws x hx).ah B λq E e=>(g.a2 x hx).2.1 (by rw[←e];exact E),?_,λs hs=>?_,g.lK,?_,?_,g.f4,g.fr,g.a1,g.a2,g.a3,g.r⟩
   .have h1:=g.v.ah B W
    have e:({bZ with bJ:=ls.set y.i (bZ.now y.i)}:a8).c=({bZ with bJ:=ls}:a8).c:=by unfold a8.c;simp
    rw[e];exact h1
   .intro z bm
    have:=g.wn z bm;refine⟨this.1,?_,this.2.2⟩;show z.i<(ls.set y.i (bZ.now y.i)).length;rw[dp];exact this.2.1
   .rcases m_ hs with h1|rfl
    .exact S s h1
    .exact ab
   .show 16<=(ls.set y.i (bZ.now y.i)).length;rw[dp,A];exact f.b6
   .show(ls.set y.i (bZ.now y.i)).length<=1600;rw[dp,A];exact af
  refine⟨⟨seen++ [x.2.2],_,aE,bj,by rw[dp];exact A,λj F=>?_,bi,I⟩,?_⟩
  .rw[dp]at F
   rw[o_];split
   .rename_i e
    subst e;rw[if_pos ⟨x,X,by simp,Y⟩]
   .rename_i bn
    rw[ih j F];have:(∃G∈L,G.2.2∈seen/\G.1=(j:Int))↔∃G∈L,G.2.2∈seen++ [x.2.2]/\G.1=(j:Int):=by
     constructor
     .rintro⟨z,h1,h2,Q⟩
      exact⟨z,h1,kt _ h2,Q⟩
     .rintro⟨z,h1,h2,Q⟩
      rcases cR.1 h2 with h2|h2
      .exact⟨z,h1,h2,Q⟩
      .have bo:z=x:=by
        have aF:=R.bN;obtain⟨a,aG,rfl⟩:=fe h1;obtain⟨b,C,rfl⟩:=fe X;have aI:=e8.1 h2;have bp:a=b:=by
         rcases Nat.lt_trichotomy a b with h|h|h
         .have:=lV.1 aF a b (by simpa using aG) (by simpa using C) h
          simp at this;exact absurd aI this
         .exact h
         .have:=lV.1 aF b a (by simpa using C) (by simpa using aG) h
          simp at this;exact absurd aI.symm this
        subst bp;rfl
       rw[bo,Y]at Q;exact absurd I bn
    simp only[this]
  .rw[aE.left,R.left]
   exact Mi hx
structure e0 where
 aw:Nat
 batch:Nat
 h5:Nat
def e0.c(l:e0):O aa:=[l.aw,l.batch,.int .u64 (l.h5:Nat)]
def mY(f b d:Int):Prop:=8<=f/\f<=64/\1<=b/\b<=1000/\1<=d/\d<=1048576
instance NX(f b d:Int):Decidable (mY f b d):=by unfold mY;infer_instance
section
variable {w w':J}{D:a8}
theorem pN(w:J)(p:au af)(f b d:Int):aH aj 53 #[.pointer p,.agg #[f,b,.int .u64 d]] w (λv w'=>v=.bool (!(Option.isNone p)&&decide (mY f b d))/\Ext w w'):=by
 refine okF (ae.pN p f b d) ax.pN func53 ?_;(delta ae.pN ak r1 Y bO;dsimp only);refine a6 (vs:=[f,b,.int .u64 d]) rfl λw1 c hx hs=>?_;refine cc (λx w'=>x=(!(Option.isNone p)&&decide (8<=f))/\w1=w') (λq a=>⟨λh=>⟨f,c.cell,a _ _ ⟨by rw[h,hX],rfl⟩⟩,λh=>a _ _ ⟨by rw[h,kS],rfl⟩⟩) ?_;rintro e _ ⟨h1,rfl⟩;refine cc (λx w'=>x=(e&&decide (f<=64))/\w1=w') (λq a=>⟨λh=>⟨f,c.cell,a _ _ ⟨by rw[h,hX],rfl⟩⟩,λh=>a _ _ ⟨by rw[h,kS],rfl⟩⟩) ?_;rintro g _ ⟨h2,rfl⟩;refine cc (λx w'=>x=(g&&decide (1<=b))/\w1=w') (λq a=>⟨λh=>⟨b,c.cell,a _ _ ⟨by rw[h,hX],rfl⟩⟩,λh=>a _ _ ⟨by rw[h,kS],rfl⟩⟩) ?_;rintro i _ ⟨j,rfl⟩;refine cc (λx w'=>x=(i&&decide (b<=1000))/\w1=w') (λq a=>⟨λh=>⟨b,c.cell,a _ _ ⟨by rw[h,hX],rfl⟩⟩,λh=>a _ _ ⟨by rw[h,kS],rfl⟩⟩) ?_;rintro k _ ⟨l,rfl⟩;refine cc (λx w'=>x=(k&&decide (1<=d))/\w1=w') (λq a=>⟨λh=>⟨d,c.cell,a _ _ ⟨by rw[h,hX],rfl⟩⟩,λh=>a _ _ ⟨by rw[h,kS],rfl⟩⟩) ?_;rintro m _ ⟨n,rfl⟩;refine cc (λx w'=>x=(m&&decide (d<=1048576))/\w1=w') (λq a=>⟨λh=>⟨d,c.cell,a _ _ ⟨by rw[h,hX],rfl⟩⟩,λh=>a _ _ ⟨by rw[h,kS],rfl⟩⟩) ?_;rintro r _ ⟨o,rfl⟩;refine⟨?_,hx⟩;rw[o,n,l,j,h2,h1,Value.bool.injEq,eG];simp only[dg,b8,and_assoc];exact Iff.rfl
theorem yP{D:a8}{l:c7}{N:Nat}(a:∀q,aD s q->b4 D q\/N<=q):∀q,b4 (D.put no s l) q->b4 D q\/N<=q:=by
 rintro q (e|e|e|⟨x,hx,e⟩)
 .exact .inl (.inl e)
 .exact .inl (.inr (.inl e))
 .exact .inl (.inr (.inr (.inl e)))
 .rcases cZ.1 hx with rfl|hx
  .exact a q e
  .exact .inl (.inr (.inr (.inr ⟨x,(gw.1 hx).1,e⟩)))
def Mk(D:a8)(u:c_)(gen:Nat)(w:J)(v:aa)(w':J):Prop:=
 ag (b4 D) w w'/\((D.gh 2=true/\v=.int .i64 3/\cL w' (D.cN 2))\/
 (D.gh 2=false/\∃s:ad,(∀q,aD s q->b4 D q\/w<=q)/\∃bZ:a8,bZ=D.put (gen%2) s (eX (gen%2) (kJ u D.n gen))/\
   ((bZ.gh 3=true/\v=.int .i64 3/\cL w' (bZ.cN 3))\/(bZ.gh 3=false/\v=.int .i64 0/\cL w' (bZ.cN 3).jP))))
theorem ow(h:cL w D)(P:D.aX<=999999999){u:c_}(hu:oT u){gen:Nat}(hg:gen<18446744073709551616):
 aH aj 60 #[.pointer (some D.d),.agg u.c.toArray,.int .u64 (gen:Nat)] w (Mk D u gen w):=by
 have Q:=h.b6;have R:=h.bx;refine ae.H2 _ (u.root:Nat) (u.aK:Nat) (u.map:Nat) (u.clock:Nat) (u.dc:Nat) (u.keys:Nat) (gen:Nat) w _ ?_;(delta ae.ow Y r1 bO bB bH dH ar ak;dsimp only);have A:IntKind.wrap .i64 (Int.tmod (gen:Int) 2)=((gen%2:Nat):Int):=by
  rw[o7 I,bq I I];omega
 refine a6 (vs:=u.c) rfl λw1 B j S=>⟨by decide,?_⟩;have a:=cw w1;have C:=B.ext a;have E:=h.ext (j.trans a);refine aT ⟨λ_=>False,id,hE C ((sj E).use ?_)⟩;rintro _ _ ⟨rfl,rfl⟩;refine⟨_,rfl,ag.refl _ _,(rD hu (n:=D.n) I).use ?_⟩;rintro _ F ⟨k,rfl,G,t,T⟩;rw[A];refine⟨k,rfl,λ_=>False,#[(3:Int),.int .u64 (gen:Nat),k],λU=>by kernel_rfl,(yf (s:=k) (p:=kJ u D.n gen) G.src I (A_ hg)).use ?_⟩;rintro _ V ⟨H,rfl,J,v,K⟩;have b:=(j.trans a).trans (Ext.trans t v);have L:=h.ext b;have W:=b.size;have M:(eX (gen%2) (kJ u D.n gen)).length=256:=uf _ (A_ hg);have X:w.heap.size<=F.heap.size:=by have:=(j.trans a).size;have:=t.size;omega
 refine⟨H,0,rfl,v,nofun,λ_=>(yu L (i:=gen%2) I I J.src M λq f hf=>by have:=K q f;have:=h.lt hf;omega).use ?_⟩;rintro _ N (⟨g,rfl,hd,hc⟩|⟨g,rfl,s,hd,hc,x⟩)
 .exact⟨3,rfl,λ_=>⟨cE (b.mono λ_ _ h=>h.elim) hc λq _ e=>by rw[e];exact .inl rfl,.inl ⟨g,rfl,hd⟩⟩,nofun⟩
 .have y:ag (b4 D) w N:=cE (b.mono λ_ _ h=>h.elim) hc λq _ e=>e
  have O:=yP (no:=gen%2) (l:=eX (gen%2) (kJ u D.n gen)) x;refine⟨0,rfl,nofun,λ_=>(BM hd (by show D.aX+1<=_;omega)).use ?_⟩;have z:∀q,aD s q->b4 D q\/w.heap.size<=q:=λq f=>(x q f).imp id λh=>by omega
  rintro _ Z (⟨m,rfl,o,r⟩|⟨m,rfl,o,r⟩)
  .exact⟨3,rfl,cE y r λq _ e=>by rw[e];exact .inl rfl,.inr ⟨g,s,z,_,rfl,.inl ⟨m,rfl,o⟩⟩⟩
  .exact⟨0,rfl,cE y r λq f e=>(O q e).resolve_right I,.inr ⟨g,s,z,_,rfl,.inr ⟨m,rfl,o⟩⟩⟩
end
section
variable {w w':J}{C:cn}{X:U1}
def Fr.iv(f:Fr):ao:=f.full&&f.gM
theorem Ml:hY aj 179:=⟨Tryz.f179,func179,by kernel_rfl,by kernel_rfl⟩
theorem Mm(f:Fr)(w:J):aH aj 179 #[.agg #[f.full,f.gM,f.used,f.no,f.pins,f.b]] w (λv w'=>v=f.iv/\Ext w w'):=by
 refine okF (ae.xu f.full f.gM f.used f.no f.pins f.b) ax.xu func179 ?_;(delta ae.xu aW Y ak;dsimp only);refine a6 (vs:=f.c) rfl λw1 a hx hs=>⟨f.full,a.cell,cc (λb w'=>b=f.iv/\w1=w') (λq d=>⟨λh=>⟨f.gM,a.cell,d _ _ ⟨by unfold Fr.iv;rw[h];rfl,rfl⟩⟩,λh=>d _ _ ⟨by unfold Fr.iv;rw[h];rfl,rfl⟩⟩) ?_⟩;rintro _ _ ⟨rfl,rfl⟩;exact⟨rfl,hx⟩
def ln(fs:O Fr):O Int:=(fs.filter Fr.iv).map Fr.no
theorem Mn(h:fC w C):aH aj 126 #[.pointer (some C.c)] w (λv w'=>∃ (s:ad) (zs:O Int),v=s/\aR 1 3 w' s (zs.map encZ)/\zs.Perm (ln C.aw)/\Ext w w'/\∀q,aD s q->w<=q):=by
 obtain⟨b9,aZ,bo⟩:=h.cells
 have W:=h.cf
 refine okF (ae.xh (some C.c)) ax.xh func126 ?_
 delta ae.xh bH
 refine Calls.mono (ae.Ip (some C.c) ⟨179,#[],#[]⟩ w (λv w'=>∃ (s:ad) (zs:O Int),v=s/\aR 1 3 w' s (zs.map encZ)/\zs.Perm (ln C.aw)/\Ext w w'/\∀q,aD s q->w<=q) ?_) ?_
 · (delta ae.tP ak al aO aW r1 Y wi ar fI;dsimp only)
   refine⟨nofun,λ_=>⟨_,rfl,⟨some C.aU,C.aw.length,C.aw.length⟩,aZ,λs n w'=>∃i:Nat,n=(i:Int)/\i<=C.aw.length/\aR 1 3 w' s ((ln (C.aw.take i)).map encZ)/\Ext w w'/\∀q,aD s q->w<=q,λ_ n _=>((C.aw.length:Int)-n).toNat,⟨0,rfl,cI _,by simpa[ln] using aR.none 1 3 w,.refl _ _,λq e=>(fH q e).elim⟩,?_⟩⟩
   rintro s _ p ⟨i,rfl,hi,a,hx,g⟩
   have A:=h.ext hx
   refine⟨λaI=>?_,λB=>?_⟩
   · have r:i<C.aw.length:=by
       have:(i:Int)<(C.aw.length:Int):=b2 aI
       omega
     obtain⟨f,hf⟩:=U6 (C.aw[i])
     have X:(ln (C.aw.take i)).length<=64:=by
       unfold ln
       rw[cU]
       have:=jF Fr.iv (C.aw.take i)
       rw[cF]at this;omega
     have t:ln (C.aw.take (i+1))=ln (C.aw.take i)++(if f.iv then [f.no] else []):=by
       unfold ln
       rw[ib r,gE,fP,←hf,ie,pj]
       congr 1
       split<;>rfl
     refine cc (λs w'=>aR 1 3 w' s ((ln (C.aw.take (i+1))).map encZ)/\Ext w w'/\∀q,aD s q->w<=q) (λq e=>?_) ?_
     · have hc:∀j,j<6->p.cell? ⟨C.aU,i*6+j,none⟩=(f.c)[j]? :=λj D=>by rw[hf];exact k_ A.f r D
       refine⟨_,rfl,⟨I,by show(i:Int)<(C.aw.length:Int);omega⟩,?_⟩
       rw[uu]
       refine⟨f.full,hc 0 (by decide),f.gM,by rw[aA];exact hc 1 (by decide),f.used,by rw[aA];exact hc 2 (by decide),f.no,by rw[aA];exact hc 3 (by decide),f.pins,by rw[aA];exact hc 4 (by decide),f.b,by rw[aA];exact hc 5 (by decide),?_⟩
       refine a6 (vs:=[false,false,false,U8,U8,()]) rfl λZ u E aa=>⟨u.ct rfl (λv l=>?_),rfl,cP u (us:=f.c) rfl rfl λy d F ab=>?_⟩
       · simp only[cZ,e2,e_]at l
         rcases l with rfl|rfl|rfl|rfl|rfl|rfl<;>trivial
       have G:Ext p y:=Ext.cp E F (bk _)
       refine⟨f.full,d.cell,f.gM,by rw[aA];exact d.cell,f.used,by rw[aA];exact d.cell,f.no,by rw[aA];exact d.cell,f.pins,by rw[aA];exact d.cell,f.b,by rw[aA];exact d.cell,Ml,(Mm f y).use ?_⟩
       rintro _ m ⟨rfl,z⟩
       have k:=Ext.trans G z
       have H:=d.ext z
       refine⟨_,rfl,λhd=>⟨f.no,by rw[aA];exact H.cell,aT ?_⟩,λhd=>e _ _ ⟨?_,Ext.trans hx k,g⟩⟩
       · have o:Ext m (m.alloc (.cells #[encZ f.no] 3)):=c5 _ _
         obtain⟨J,K,ay,az,_,L,M⟩:=qf.append (cB:=72) (x:=⟨some m.heap.size,1,1⟩) (Src.new (T:=3) m [encZ f.no] 1 rfl) ((a.ext k).ext o) (λv l=>by rw[e8.1 l];trivial) (by
           have:s.len=(ln (C.aw.take i)).length:=by
             have:=a.1
             rw[cU]at this;omega
           show(2*(s.len+1)+1000)*8<=_;omega)
         refine⟨J,K,ay,e _ _ ⟨?_,?_,λq e=>?_⟩⟩
         · rw[t,hd,if_pos rfl,fP];exact az
         · exact Ext.d_ (Ext.trans (Ext.trans hx k) o) L g
         · rcases M q e with h1|h1
           · exact g q h1
           · have:=(Ext.trans hx k).size
             have:=o.size;omega
       · rw[t,hd]
         simp only[gv,if_false,fp]
         exact a.ext k
     · rintro ac af ⟨h1,h2,N⟩
       have P:IntKind.wrap .i64 ((i:Int)+1)=((i+1:Nat):Int):=by rw[bq I I];omega
       rw[P]
       exact⟨⟨i+1,rfl,I,h1,h2,N⟩,by show((C.aw.length:Int)-((i+1:Nat):Int)).toNat<((C.aw.length:Int)-(i:Int)).toNat;omega⟩
   · have Q:i=C.aw.length:=by
       have:¬(i:Int)<(C.aw.length:Int):=cr B
       omega
     rw[Q,ic]at a
     refine(EO a (by
       unfold ln
       rw[cU]
       have:=jF Fr.iv C.aw;omega)).use ?_
     rintro _ ag ⟨rfl,R,zs,S,U⟩
     exact⟨rfl,s,zs,rfl,S,U.1,Ext.d_ hx R g,g⟩
 · rintro _ w1 ⟨_,rfl,s,zs,rfl,a,V,hx,hf⟩
   exact⟨s,rfl,s,zs,rfl,a,V,hx,hf⟩
end
end Go.Proofs.YtcmgnhkpfllinaaGreat
