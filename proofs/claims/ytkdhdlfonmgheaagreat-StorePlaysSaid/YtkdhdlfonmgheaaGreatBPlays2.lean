/- Contracts of the functions that the statement reaches, and the plain laws over them; each theorem stands with its conditions. -/
import Derived.Test.YtkdhdlfonmgheaaGreatBPlays1
namespace Go.Proofs.YtkdhdlfonmgheaaGreat
open Go a6 Go.Proofs.Tryz
def g8:aB:=⟨false,[],[],[]⟩
def bc:Y:=⟨none,0,0⟩
def xO(leaf:ah)(l:O UInt8)(w w':J)(v:aa):Prop:=
 (∃ (n:aB) (K V D:Y),v=.tuple #[cW n K V D,(0:Int)]/\lD leaf l n/\bz (λq=>w.heap.size<=q) w' n K V D)\/
 (v=.tuple #[cW g8 bc bc bc,(4:Int)]/\∀n,¬lD leaf l n)
theorem iW{w':J}{h:Nat}{vs:O aa}(b:ah)(K V D:Y)(c:Var w' h vs 202)(g:vs.length=4){Q:ah->Y->Y->Y->J->Prop}(j:∀ag,ad (λq=>q=h) w' ag->Q b K V D ag):
 bx w' h [b,K,V,D]/\(4:Nat)=4/\ak (setCells w' h 0 [b,K,V,D]) λag=>
  ∃i:ah,ag.cell? h=some (.bool i)/\∃d:Y,ag.cell? (Addr.add h 1)=some (.slice d.a d.len d.cap)/\∃e:Y,ag.cell? (Addr.add h 2)=some (.slice e.a e.len e.cap)/\
   ∃f:Y,ag.cell? (Addr.add h 3)=some (.slice f.a f.len f.cap)/\Q i d e f ag:=by
 refine⟨c.b9 (by rw[g];rfl) ?_,rfl,cu c (us:=[b,K,V,D]) (by rw[g];rfl) rfl λag k hc _=>?_⟩
 .intro v c
  simp only[cS,eS,eW]at c;rcases c with rfl|rfl|rfl|rfl<;>trivial
 .obtain⟨bS,ay,aR,aF⟩:=bC k
  exact⟨b,bS,K,ay,V,aR,D,aF,j ag hc⟩
theorem pK{w:J}{s:Y}{l:O UInt8}(hs:Src 1 w s (aG l))(hc:s.len<=s.cap)(T:∀k,az s k->k<w.heap.size)(am:l.length<=100000)(leaf:ah):
 aN aj 233 #[leaf,s] w (λv w'=>xO leaf l w w' v/\Ext w w'):=by
 refine okF (I7.pK leaf s) I6.pK func233 ?_;(delta I7.pK cl U ay ai w7 af st aZ ar a7 b6 aF q9;dsimp only);refine bd (vs:=[false,(),(),()]) rfl λw1 aS an bJ=>?_;refine bd (vs:=[s,true]) rfl λag aT W bK=>?_;refine bd (vs:=[false,(),(),()]) rfl λbL ao F bM=>?_;refine⟨ao.b9 rfl (by
  intro v ap;simp only[cS,eS,eW]at ap;rcases ap with rfl|rfl|rfl|rfl<;>trivial),rfl,cu ao (us:=[leaf,(),(),()]) rfl rfl λm aU G bN=>?_⟩
 obtain⟨lo,bO⟩:∃lo,lo=m.heap.size:=⟨_,rfl⟩;obtain⟨r,aq⟩:∃r,r=w1.heap.size:=⟨_,rfl⟩;obtain⟨nb,aA⟩:∃nb,nb=ag.heap.size:=⟨_,rfl⟩;have aV:Ext w m:=Ext.cm (an.trans (W.trans F)) G I;have aX:jk m w1.heap.size s (l,true):=by
  refine⟨(aT.ext F).ae G I,(hs.ext (an.trans (W.trans F))).ae G λk c e=>?_,hc,λk c=>?_⟩
  .have:=T k c;omega
  .have:=T k c;omega
 refine(xM aX 1 (by decide) am).use ?_;rintro _ aB ⟨aC,rfl,aY,X,a0⟩;have bQ:(rdNum (l,true) 1).1<256:=xN _ 1;have bR:=X.size;have aD:j0 lo aB r nb aC (⟨leaf,[],[],[]⟩,(rdNum (l,true) 1).2) bc bc bc (λ_=>False) (λ_=>False) (λ_=>False):=by
  refine⟨by rw[aA];exact aU.ae X I,by rw[aq];exact aY,bp.none _ _,bp.none _ _,cO.none _ _,λq h=>h.elim,λq h=>h.elim,λq h=>h.elim,λq a=>?_,I,I,I,ew (vC _ 1) am⟩;have:=T q (a0 q a);exact⟨I,I⟩
 have aE:ad (ou lo r nb) m aB:=X.mono λk _ c=>.inl I;rw[←aq,←aA];refine⟨_,rfl,hF (λw'=>∃ (u D:Y) (bG:Nat->Prop),j0 lo w' r nb u (mb leaf (rdNum (l,true) 1).2) bc bc D (λ_=>False) (λ_=>False) bG/\ad (ou lo r nb) m w'/\lo<=w'.heap.size) (λq a=>⟨λd=>?_,λd=>a _ ⟨aC,bc,λ_=>False,?_,aE,I⟩⟩) ?_⟩
 .have d:leaf=false:=by simpa using d
  subst d;refine A8 aD I (by simp) λw' ax u a1 h1 h2 o=>a _ ⟨u,ax,a1,?_,aE.trans h2,o⟩;have:mb false (rdNum (l,true) 1).2=(⟨false,[],[],[]++ [(rdNum (rdNum (l,true) 1).2 2).1]⟩,(rdNum (rdNum (l,true) 1).2 2).2):=by simp[mb]
  rw[this];exact h1
 .have d:leaf=true:=by simpa using d
  subst d;exact aD
 rintro bT ⟨a2,a3,a4,aH,a5,a6⟩;obtain⟨f,H⟩:∃f,f=mb leaf (rdNum (l,true) 1).2:=⟨_,rfl⟩;rw[←H]at aH;have a9:f.1.leaf=leaf:=by rw[H];unfold mb;cases leaf<;>rfl
 have bU:f.1.keys.length=0/\f.1.vals.length<=1/\f.1.kids.length<=1:=by rw[H];unfold mb;cases leaf<;>simp
 refine⟨λi w'=>∃ (j:Nat) (u K V D:Y) (bP b2 bG:Nat->Prop),i=j/\j<=(rdNum (l,true) 1).1/\j0 lo w' r nb u (ie f j) K V D bP b2 bG/\ad (ou lo r nb) m w'/\lo<=w'.heap.size,λi _=>(((rdNum (l,true) 1).1:Int)-i).toNat,⟨0,a2,bc,bc,a3,_,_,a4,rfl,cE _,aH,a5,a6⟩,?_⟩;rintro _ aI ⟨j,bV,K,V,D,bP,b2,bG,rfl,bW,g,L,a_⟩;obtain⟨ba,bb,be⟩:=A7 f j;have x:=A6 f j a9;refine⟨λaJ=>?_,λZ=>?_⟩
 .have aJ:j<(rdNum (l,true) 1).1:=by have:=b1 aJ;omega
  rw[bu (n:=(j:Int)+1) I I];refine hF (λw'=>∃ (u K V D:Y) (bP b2 bG:Nat->Prop),j0 lo w' r nb u (ie f (j+1)) K V D bP b2 bG/\ad (ou lo r nb) m w'/\lo<=w'.heap.size) (λq a=>?_) ?_
  .refine FA g a_ I λy M aL N P R S=>⟨λd=>?_,λd=>?_⟩
   .refine FB P S (by show(ie f j).1.vals.length<=_;omega) λaa bg ab bh B p ac=>a _ ⟨ab,M,bg,D,N,bh,bG,?_,L.trans (R.trans p),ac⟩
    rw[ie];unfold om;rw[x,d,if_pos rfl];rw[x,d]at B;exact B
   .refine A8 P S (by show(ie f j).1.kids.length<=_;omega) λaa bi ab bk B p ac=>a _ ⟨ab,M,V,bi,N,b2,bk,?_,L.trans (R.trans p),ac⟩
    rw[ie];unfold om;rw[x,d,if_neg (by simp)];rw[x,d]at B;exact B
  .rintro y ⟨aL,M,bl,bm,N,bo,bq,P,R,S⟩
   refine⟨⟨j+1,aL,M,bl,bm,N,bo,bq,I,I,P,R,S⟩,?_⟩;show(((rdNum (l,true) 1).1:Int)-((j:Int)+1)).toNat<(((rdNum (l,true) 1).1:Int)-(j:Int)).toNat;omega
 .have Z:j=(rdNum (l,true) 1).1:=by have:=cp Z;omega
  have br:ie f j=iE leaf l:=by rw[Z,H];rfl
  rw[br]at g ba bb be x;obtain⟨bS,ay,aR,aF⟩:=bC g.v;have c1:bz (λq=>lo<=q) aI (iE leaf l).1 K V D:=⟨bj.aW (bp.iH g.keys) λq _ a=>(g.bf q a).1,bj.aW (bp.iH g.vals) λq _ a=>(g.bv q a).1,cH.aW (cO.pZ g.kids) λq _ a=>(g.aK q a).1⟩;have bs:Ext w aI:=Ext.dr aV L λk c=>by
   rcases c with c|c|c<;>omega
  refine⟨_,bS,K,ay,V,aR,D,aF,(nZ c1 I I I).use ?_⟩;rintro bt y ⟨bw,C⟩;have ak:=bs.trans C;have bx:=g.v.ext C;have bA:=g.rd.ext C;have aM:Var y w.heap.size [false,(),(),()] 202:=by
   refine(Var.ae (w:=m) ?_ L ?_).ext C
   .exact(((aS.ext W).ext F).ae G I)
   .rintro(c|c|c)<;>omega
  have bB:=c1.ext C;obtain⟨d0,d1,d2,d3⟩:=bC bx;have bD:∃ (z:Y) (e:Int),bt=Value.tuple #[z,e]/\(e=0->a8 1 5 y z (aG (jj (iE leaf l).1))/\cC (iE leaf l).1/\bF (iE leaf l).1<=232)/\(e≠0->cC (iE leaf l).1->232<bF (iE leaf l).1):=by
   rcases bw with ⟨z,rfl,h1,h2,o,A⟩|⟨e,rfl,h1,h2⟩
   .exact⟨z,0,rfl,λ_=>⟨h1,o,A⟩,λh=>absurd rfl h⟩
   .exact⟨bc,e,rfl,λh=>absurd h h1,λ_=>h2⟩
  obtain⟨z,e,rfl,bE,aO⟩:=bD;have bH:Src 1 y s (aG l):=hs.ext ak
  have aP:∀n,lD leaf l n->iE leaf l=(n,([],true)):=by
   rintro n ⟨h1,h2,o,A⟩;have:=xG h1 o;rw[h2,A]at this;exact this
  refine⟨z,e,rfl,_,rfl,(iE leaf l).2.2,by rw[av];exact bA.v.cell,cj (λb w'=>y=w'/\(b=true->∀n,¬lD leaf l n)/\(b=false->lD leaf l (iE leaf l).1)) (λq a=>⟨λh1=>a _ _ ⟨rfl,λ_ n E=>?_,λh=>(by cases h)⟩,λh1=>?_⟩) ?_⟩
  .have hu:=aP n E
   obtain⟨h2,o,A,aQ⟩:=E;rw[hu]at h1 aO;have h1:(e !=0)=true:=by simpa using h1
   have bX:232<bF n:=aO (by simpa using h1) h2;omega
  .have bI:(iE leaf l).2.2=true/\e=0:=by
    simp only[oO,sr,bne_eq_false_iff_eq]at h1;exact h1
   obtain⟨h2,rfl⟩:=bI;obtain⟨o,A,aQ⟩:=bE rfl;refine(pt o.src bH).use ?_;rintro _ _ ⟨rfl,rfl⟩;refine⟨_,rfl,a _ _ ⟨rfl,λt n E=>?_,λt=>?_⟩⟩
   .have hu:=aP n E
    have t:¬jj (iE leaf l).1=l:=by simpa using t
    rw[hu]at t;exact t E.2.2.2
   .have t:jj (iE leaf l).1=l:=by simpa using t
    exact⟨A,x,aQ,t⟩
  rintro b w' ⟨rfl,au,aw⟩;refine⟨λal=>?_,λal=>⟨_,d0,K,d1,V,d2,D,d3,?_⟩⟩
  .refine iW false bc bc bc aM rfl (Q:=λb K V D ag=>(λv w'=>xO leaf l w w' v/\Ext w w') (.tuple #[.agg #[b,K,V,D],(4:Int)]) ag) λaa p=>⟨.inr ⟨rfl,au al⟩,Ext.cm ak p (bn _)⟩
  .refine iW (iE leaf l).1.leaf K V D aM rfl (Q:=λb K V D ag=>(λv w'=>xO leaf l w w' v/\Ext w w') (.tuple #[.agg #[b,K,V,D],(0:Int)]) ag) λaa p=>⟨.inl ⟨(iE leaf l).1,K,V,D,rfl,aw al,?_⟩,Ext.cm ak p (bn _)⟩
   exact(bB.ae p λk c e=>I).aW λk _ c=>by omega
theorem FC{s v:Y}{vs xs:O aa}{i lZ:Nat}{mN:Array aa}{ak:TypeId}{w:J}(H:a8 1 48 w s vs)(N:Src 1 w v xs)(g:v.len=1)(al:v.a=some ⟨lZ,0,none⟩)(T:bt w lZ mN ak)(am:¬az s lZ)
 (U:∀u∈xs,Plain u) (aK:∀u∈vs,Plain u) (hi:i<=s.len) (a7:s.len<=1000000):
 aN aj 210 #[s,.int .i64 (i:Int),v] w (λu w'=>∃z:Y,u=z/\a8 1 48 w' z (vs.take (i*1)++xs++vs.drop (i*1))/\z.len=s.len+1/\ad (az s) w w'/\(∀k,az z k->az s k\/w.heap.size<=k)):=by
 obtain⟨h1,a9,a_,h2,an,aL,aO,E,ao,aP⟩:=(p0).out;obtain⟨d0,K⟩:=jT _ an;refine okF (I7.tB s i v) I6.tB func210 ?_;(delta I7.tB ai ar aR;dsimp only);have ba:=H.2.1;have bb:=H.2.2.1;have bc:maxLen=9223372036854775807:=rfl;have p:xs.length=1:=by have:=N.len;rw[g]at this;omega
 have V:=H.1;refine⟨⟨I,I⟩,λh=>by rw[g]at h;simp at h,λ_=>⟨λh=>?_,λh=>?_⟩⟩
 .have aQ:i=s.len:=by have:=eq_of_beq h;omega
  subst aQ;obtain⟨z,w',au,aw,X,Q,F⟩:=(p0).append (cG:=127) N H U (by rw[g];omega);refine⟨z,w',au,z,rfl,?_,by rw[X,g],Q,F⟩;rwa[dD I,List.drop_of_length_le I,fO]
 have aJ:i<s.len:=by
  have h:¬((i:Int)=(s.len:Int)):=λe=>by rw[e]at h;simp at h
  omega
 rcases H.2.2.2 with ⟨_,hc⟩|⟨b,c,r,G,ap,av⟩
 .omega
 have aT:b≠lZ:=λe=>am ⟨_,r,e⟩;have aU:IntKind.wrap .i64 ((s.len:Int)+(v.len:Int))=((s.len+1:Nat):Int):=by rw[g,bu I I];rfl
 have aV:IntKind.wrap .i64 ((i:Int)+(v.len:Int))=((i+1:Nat):Int):=by rw[g,bu I I];rfl
 have aW:IntKind.wrap .i64 (((s.len+1:Nat):Int)-(i:Int))=((s.len+1-i:Nat):Int):=by rw[bu I I];omega
 have bd:c.toList.length=s.cap*1:=by simpa using ap
 have ax:∀k,k<=s.len->vs.take (k*1)=c.toList.take (k*1):=λk d=>by rw[←av,qC,je I]
 have ay:vs.drop (i*1)=(c.toList.drop (i*1)).take ((s.len-i)*1):=by rw[←av,List.drop_take,show s.len*1-i*1=(s.len-i)*1 from I]
 have aA:∀u∈vs.drop (i*1),Plain u:=λu hu=>aK u (e_ hu);have B:(vs.drop (i*1)).length=(s.len-i)*1:=by rw[c5,V];omega
 have L:∀ (Z o l m:Nat),l<m->aM (some (Addr.mk Z o none)) 1 l m=some ⟨Z,o+l*1,none⟩:=λZ o l m be=>s3 I;simp only[aU,aV,aW,c8,oP,w2];refine⟨λhg=>?_,λhg=>?_⟩
 .have bf:s.cap<s.len+1:=by have:=b1 hg;omega
  have aX:Src 1 w ⟨some b,i,s.cap⟩ (vs.take (i*1)):=by
   have:=G.q3 (sz:=1) (o:=0) (n:=i) (cap:=s.cap) I;rw[lh]at this;rwa[ax i I]
  obtain⟨j,zs,rest,au,aw,X,Q,F⟩:=D7 (P:=aj) (gq:= #[127,3]) (cG:=127) (kk:=3) (k:=.i64) (s:=⟨some b,i,s.cap⟩) (n:=s.len+1-i) rfl rfl h1 (by kernel_rfl) h2 an aL aO E (by rw[ao];exact aP) aX (by show s.cap<i+_;omega) (by rw[ao];show(2*(i+_)+1000)*_<=_;omega);have aY:i+(s.len+1-i)=s.len+1:=by omega
  simp only[aY]at au Q F;obtain⟨C,ab⟩:∃C,C=(vs.take (i*1)++zs++rest).toArray:=⟨_,rfl⟩;rw[←ab]at F;obtain⟨D,ac⟩:∃D,D=w.drew.alloc (.cells C 48):=⟨_,rfl⟩;rw[←ac]at F;have aB:bt D w.heap.size C 48:=by rw[ac];exact bt.new w.drew _ _
  have aC:Ext w D:=by rw[ac];exact ad.alloc (ad.drew (.refl _ _)) _
  have f:(vs.take (i*1)).length=i*1:=by rw[cy,V];omega
  have aD:C.size=j*1:=by rw[ab];simp[f,X,Q];omega
  have bg:C.toList.length=j*1:=by simpa using aD
  have M:=s6 (P:=aj) (l5:=127) (cK:=127) (ty:=3) (A:=⟨w.heap.size,0+i*1,none⟩) (dl:=s.len+1-i) (nL:=j-i) (n:=1) h1 K E (x:=v) (by rw[g];exact je I) (xs:=xs) (by have:=N.ext aC;have e:(⟨v.a,1,v.cap⟩:Y)=v:=(by rw[←g]);rw[e];exact this) (by rw[cx];exact aB.b9 _ _ I U);obtain⟨t,af⟩:∃t,t=setCells D ⟨w.heap.size,0+i*1,none⟩ 0 xs:=⟨_,rfl⟩;rw[←af]at M;have aE:bt t w.heap.size (gE C (i*1) xs) 48:=by rw[af,cx];exact aB.jV xs
  have aZ:Ext w t:=by rw[af];exact Ext.dr aC (ad.kR (.refl _ _) xs 0) (λk d=>by subst d;exact bn _)
  have a0:Ext t t.drew:=ad.drew (.refl _ _);have aF:=Ext.trans aZ a0;have ag:=s6 (P:=aj) (w:=t.drew) (l5:=127) (cK:=127) (ty:=3) (A:=⟨w.heap.size,0+(i+1)*1,none⟩) (dl:=s.len+1-(i+1)) (nL:=j-(i+1)) (n:=s.len-i) h1 K E (x:=⟨some ⟨b,0+i*1,none⟩,s.len-i,s.cap-i⟩) (je (by show s.len-i<=_;omega)) (xs:=vs.drop (i*1))
   (by have:=(G.ext aF).q3 (sz:=1) (o:=i*1) (n:=s.len-i) (cap:=s.cap-i) I;rw[ay,cx];exact this) (by rw[cx];exact bt.b9 (bt.drew aE) _ _ (by rw[iR];omega) aA)
  have R:aM (some (Addr.mk w.heap.size 0 none)) 1 i j=some ⟨w.heap.size,0+i*1,none⟩:=L _ _ _ _ I;have S:aM (some (Addr.mk w.heap.size 0 none)) 1 (i+1) j=some ⟨w.heap.size,0+(i+1)*1,none⟩:=L _ _ _ _ I;have a1:aM s.a 1 i s.cap=some ⟨b,0+i*1,none⟩:=by rw[r];exact L _ _ _ _ I
  have a2:Sem.run aj (Builtin.append_ #[127,3] 127 #[.slice s.a i s.cap,.int .i64 ((s.len+1-i:Nat):Int)]) w=.ok (.slice (some w.heap.size) (s.len+1) j) D:=by rw[r];exact F
  refine⟨⟨I,I⟩,⟨some w.heap.size,s.len+1,j⟩,D,a2,⟨I,by show(i:Int)<=((s.len+1:Nat):Int);omega⟩,_,t,by rw[R];exact M,aS ⟨⟨I,by show((i+1:Nat):Int)<=((s.len+1:Nat):Int);omega⟩,⟨I,I⟩,_,_,by rw[S,a1];exact ag,⟨some w.heap.size,s.len+1,j⟩,rfl,?_,rfl,?_,?_⟩⟩
  .refine a8.mk' ((bt.drew aE).jV (o:=0+(i+1)*1) _) (by simp[f,p,B];omega) I I (by rw[iR,iR,aD]) ?_
   rw[lu _ _ _ (by rw[iR];omega),lu _ _ _ I];have t1:C.toList.take (i*1)=vs.take (i*1):=by rw[ab,qE,cM];exact List.take_left' f
   have t2:(C.toList.take (i*1)++xs++C.toList.drop (i*1+xs.length)).take (0+(i+1)*1)=vs.take (i*1)++xs:=by
    rw[t1,nv (by simp[f,p];omega),dD (by simp[f,p];omega)]
   rw[t2,nv (by simp[f,p,B];omega),dD (by simp[f,p,B];omega)]
  .exact ad.cF (Ext.dr aF (ad.kR (.refl _ _) _ 0) (λk d=>by subst d;exact bn _))
  .rintro k ⟨A,aq,d⟩
   cases aq;exact .inr (Nat.le_of_eq d)
 .have bh:s.len+1<=s.cap:=by have:=cp hg;omega
  have R:aM s.a 1 (i+1) s.cap=some ⟨b,0+(i+1)*1,none⟩:=by rw[r];exact L _ _ _ _ I
  have S:aM s.a 1 i s.cap=some ⟨b,0+i*1,none⟩:=by rw[r];exact L _ _ _ _ I
  have a3:Sem.run aj (callFunc 252 #[v,.slice (some ⟨b,0+(i+1)*1,none⟩) (s.len+1-(i+1)) (s.cap-(i+1))]) w=.ok (.value false) w:=by
   rw[al,run_callFunc_extern (e:=Extern.SlicesOverlaps.overlaps #[127,127] #[4]) func252 (by kernel_rfl) (by kernel_rfl) (by kernel_rfl) (by kernel_rfl)];have:=Lib.run_overlaps_apart (P:=aj) w 127 4 48 h1 1 (λw=>by have:=iw (w:=w) K;rwa[E]at this) lZ ⟨b,0+(i+1)*1,none⟩ v.len v.cap (s.len+1-(i+1)) (s.cap-(i+1)) (λe=>aT e.symm) ak 48 mN.size c.size
    (by have:=T;unfold bt at this;simp[World.shape?,this]) (by have:=G;unfold bt at this;simp[World.shape?,this]) I (T.frozen _ rfl) (T.frozen _ rfl)
   rw[this];rfl
  have M:=s6 (P:=aj) (w:=w.drew) (l5:=127) (cK:=127) (ty:=3) (A:=⟨b,0+(i+1)*1,none⟩) (dl:=s.len+1-(i+1)) (nL:=s.cap-(i+1)) (n:=s.len-i) h1 K E (x:=⟨some ⟨b,0+i*1,none⟩,s.len+1-i,s.cap-i⟩) ((Nat.min_eq_right (by show _<=s.len+1-i;omega)).trans I) (xs:=vs.drop (i*1))
   (by have:=(bt.drew G).q3 (sz:=1) (o:=i*1) (n:=s.len-i) (cap:=s.cap-i) I;rw[ay,cx];exact this) (by rw[cx];exact bt.b9 (bt.drew G) _ _ I aA)
  obtain⟨y,ah⟩:∃y,y=setCells w.drew ⟨b,0+(i+1)*1,none⟩ 0 (vs.drop (i*1)):=⟨_,rfl⟩;rw[←ah]at M;have aG:bt y b (gE c ((i+1)*1) (vs.drop (i*1))) 48:=by rw[ah,cx];exact(bt.drew G).jV _
  have aH:ad (az s) w y:=by
   rw[ah];exact ad.mono (W:=λq=>q=b) (ad.kR (ad.drew (.refl _ _)) _ 0) (λk _ d=>⟨_,r,d.symm⟩)
  have a4:Src 1 y v xs:=N.ae aH (λk d a5=>by obtain⟨A,aq,rfl⟩:=d;rw[al]at aq;cases aq;exact am a5);have ag:=s6 (P:=aj) (w:=y) (l5:=127) (cK:=127) (ty:=3) (A:=⟨b,0+i*1,none⟩) (dl:=s.len+1-i) (nL:=s.cap-i) (n:=1) h1 K E (x:=v) (by rw[g];exact je I) (xs:=xs) (by have e:(⟨v.a,1,v.cap⟩:Y)=v:=(by rw[←g]);rw[e];exact a4) (by rw[cx];exact aG.b9 _ _ (by rw[iR];omega) U);refine⟨⟨I,I⟩,⟨I,I⟩,false,w,by rw[R];exact a3,λ_=>aS ⟨⟨I,I⟩,⟨I,I⟩,_,y,by rw[R,S];exact M,⟨I,I⟩,_,_,by rw[S];exact ag,⟨s.a,s.len+1,s.cap⟩,rfl,?_,rfl,?_,λk d=>.inl d⟩,λh=>by simp at h⟩
  .have aI:a8 1 48 (setCells y ⟨b,0+i*1,none⟩ 0 xs) ⟨some b,s.len+1,s.cap⟩ (vs.take (i*1)++xs++vs.drop (i*1)):=by
    have f:(vs.take (i*1)).length=i*1:=by rw[cy,V];omega
    refine a8.mk' (aG.jV (o:=0+i*1) _) (by simp[f,p,B];omega) I I (by rw[iR,iR,ap]) ?_;rw[lu _ _ _ (by rw[iR];omega),lu _ _ _ I];have t1:(c.toList.take ((i+1)*1)++vs.drop (i*1)++c.toList.drop ((i+1)*1+(vs.drop (i*1)).length)).take (0+i*1)=vs.take (i*1):=by
     rw[cx,nv (by simp[B];omega),nv (by simp;omega),qC,ax i I,je I]
    have t2:(c.toList.take ((i+1)*1)++vs.drop (i*1)++c.toList.drop ((i+1)*1+(vs.drop (i*1)).length)).drop (0+i*1+xs.length)=vs.drop (i*1)++c.toList.drop ((i+1)*1+(vs.drop (i*1)).length):=by
     have a6:(c.toList.take ((i+1)*1)).length=0+i*1+xs.length:=by simp;omega
     rw[cM,←a6,List.drop_left]
    rw[t1,t2,←cM,nv (by simp[f,p,B];omega),dD (by simp[f,p,B];omega)]
   rw[←r]at aI;exact aI
  .exact aH.trans (ad.mono (W:=λq=>q=b) (ad.kR (.refl _ _) _ 0) (λk _ d=>⟨_,r,d.symm⟩))
theorem FD{s:Y}{vs:O aa}{i:Nat}{w:J}(m:a8 1 48 w s vs)(M:∀u∈vs,Plain u)(N:∀z,(Tryz.prog.info? 48).bind (·.zero)=some z->∀u∈z.cells.toList,Plain u)(hi:i<s.len)(am:s.len<=1000000):
 aN aj 205 #[s,.int .i64 (i:Int),.int .i64 ((i+1:Nat):Int)] w (λu w'=>∃p:Y,u=p/\a8 1 48 w' p (vs.take (i*1)++vs.drop ((i+1)*1))/\p.len=s.len-1/\p.a=s.a/\ad (az s) w w'):=by
 obtain⟨h1,an,d,h2,Q,C,D,R,ao,ap⟩:=(p0).out;obtain⟨d0,S⟩:=jT _ Q;refine okF (I7.tA s i ((i+1:Nat):Int)) I6.tA func205 ?_;(delta I7.tA ai bl;dsimp only);have aq:=m.2.1;have U:=m.2.2.1;have E:=m.1;rcases m.2.2.2 with ⟨_,hc⟩|⟨b,c,f,V,F,G⟩
 .omega
 have ar:c.toList.length=s.cap*1:=by simpa using F
 simp only[c8,oP,w2];have X:vs.drop ((i+1)*1)=(c.toList.drop ((i+1)*1)).take ((s.len-(i+1))*1):=by rw[←G,List.drop_take,show s.len*1-(i+1)*1=(s.len-(i+1))*1 from I]
 have e:(vs.drop ((i+1)*1)).length=(s.len-(i+1))*1:=by rw[c5,E];omega
 have Z:vs.take (i*1)=c.toList.take (i*1):=by rw[←G,qC,je I]
 have l:(vs.take (i*1)).length=i*1:=by rw[cy,E];omega
 have ab:∀u∈vs.drop ((i+1)*1),Plain u:=λu hu=>M u (e_ hu);have t:bt w.drew b c 48:=bt.drew V;have ac:Src 1 w.drew ⟨aM s.a 1 (i+1) s.cap,s.len-(i+1),s.cap-(i+1)⟩ (vs.drop ((i+1)*1)):=by
  by_cases he:i+1=s.cap
  .have v:s.len-(i+1)=0:=by omega
   refine⟨by rw[e],λ_=>kH.1 (by rw[e,v,Nat.zero_mul]),λa _=>?_⟩;have:vs.drop ((i+1)*1)=[]:=kH.1 (by rw[e,v,Nat.zero_mul]);rw[this];show cJ _ _ 0 ((s.len-(i+1))*1)=_;rw[v,Nat.zero_mul];rfl
  .rw[f,s3 I,X,cx]
   exact t.q3 I
 have x:=wR (P:=aj) (gq:= #[127,127]) (cG:=127) (s:=⟨s.a,i,s.cap⟩) rfl rfl h1 h1 S R ac (by show i+(s.len-(i+1))<=s.cap;omega) (λa r=>by
  have r:s.a=some a:=r;rw[f]at r;cases r;rw[av,cx];exact t.b9 _ _ (by show i*1+_<=_;omega) ab)
 have ae:i+(s.len-(i+1))=s.len-1:=by omega
 simp only[f,av,cx,ae]at x;obtain⟨g,y⟩:∃g,g=setCells w.drew ⟨b,i*1,none⟩ 0 (vs.drop ((i+1)*1)):=⟨_,rfl⟩;rw[←y]at x;have H:bt g b (gE c (i*1) (vs.drop ((i+1)*1))) 48:=by rw[y];exact t.jV _
 have af:ad (az s) w g:=by
  rw[y];exact ad.mono (W:=λq=>q=b) (ad.kR (ad.drew (.refl _ _)) _ 0) (λk _ B=>⟨_,f,B.symm⟩)
 obtain⟨zs,au,ag⟩:=D8 (P:=aj) (w:=g) (T:=127) (o:=0) (n:=1) (c:=s.cap-(s.len-1)) (A:=⟨b,(s.len-1)*1,none⟩) h1 h2 C D (by decide) (λzs K=>by
  refine H.b9 _ _ (by rw[K,iR];simp[Builtin.zeroCells,D];omega) λu hu=>?_;rw[K]at hu;simp only[Builtin.zeroCells,Array.toList_map,ep]at hu;obtain⟨j,L,rfl⟩:=hu;have L:j<1*d.cells.size:=by simpa using L
  have ah:j%d.cells.size<d.cells.size:=g6 _ I;have hg:d.cells[j%d.cells.size]! =d.cells[j%d.cells.size]:=getElem!_pos d.cells (j%d.cells.size) ah;rw[hg];exact N d (by rw[h2];exact C) _ (by simp))
 have ak:aM (some (Addr.mk b 0 none)) 1 (s.len-1) s.cap=some ⟨b,(s.len-1)*1,none⟩:=by rw[s3 I,cx]
 have al:s.len-(s.len-1)=1:=by omega
 refine⟨⟨I,I⟩,⟨I,I⟩,⟨I,I⟩,λh=>?_,λ_=>aS ⟨⟨I,I⟩,⟨I,I⟩,⟨some b,s.len-1,s.cap⟩,g,by rw[f];exact x,⟨I,by show(s.len:Int)<=(s.cap:Int);omega⟩,⟨I,by show((s.len-1:Nat):Int)<=(s.len:Int);omega⟩,_,_,by rw[al,ak];exact ag,⟨some b,s.len-1,s.cap⟩,rfl,?_,rfl,f.symm,?_⟩⟩
 .have:=eq_of_beq h;omega
 .refine a8.mk' (H.jV _) (by simp[l,e];omega) I U (by rw[iR,iR,F]) ?_
  rw[lu _ _ _ (by rw[iR];omega),lu _ _ _ I];have t1:(c.toList.take (i*1)++vs.drop ((i+1)*1)++c.toList.drop (i*1+(vs.drop ((i+1)*1)).length)).take ((s.len-1)*1)=vs.take (i*1)++vs.drop ((i+1)*1):=by
   rw[←Z,nv (by simp[l,e];omega),dD (by simp[l,e];omega)]
  rw[t1,cM,nv (by simp[l,e];omega),dD (by simp[l,e];omega)]
 .exact af.trans (ad.mono (W:=λq=>q=b) (ad.kR (.refl _ _) _ 0) (λk _ B=>⟨_,f,B.symm⟩))
theorem rH{w:J}{s:Y}{ds:O Nat}(h:Src 1 w s (dR ds))(g:ds.length<=1000000):
 aN aj 245 #[s] w (λv w'=>∃b:Y,v=b/\a8 1 3 w' b (dR ds)/\Ext w w'/\gR w b):=by
 have i:s.len=ds.length:=by have:=h.len;rw[m_]at this;omega
 refine okF (I7.tF s) I6.tF func245 ?_;delta I7.tF ai U;refine⟨λc=>?_,λ_=>?_⟩
 .have c:s.a=none:=by simpa using c
  rw[h.nil c];exact⟨⟨none,0,0⟩,rfl,a8.none _ _ _,.refl _ _,λk d=>(gf k d).elim⟩
 .obtain⟨b,w',h1,h2,j,e,f,_⟩:=p1.clone (cG:=58) h (xK ds) I
  exact aS ⟨b,w',h1,b,rfl,h2,e,f⟩
theorem FE{ks:O Key}{k:Key}{a:Nat}(d:a<=ks.length)(h1:∀ (j:Nat) (h:j<ks.length),j<a->bD ks[j] k)(h2:∀ (j:Nat) (h:j<ks.length),a<=j->¬bD ks[j] k):cL ks k=a:=by
 unfold cL;rcases dC a ks.length with h|h
 .exact(List.findIdx_eq h).2 ⟨dm (h2 a h (bn _)),λj b=>hD λc=>c (h1 j I b)⟩
 .have:a=ks.length:=by omega
  subst this;refine List.findIdx_eq_length_of_false λx hx=>?_;obtain⟨j,b,rfl⟩:=fb hx;exact hD λc=>c (h1 j b b)
def g9(ks:O Key)(k:Key):ah:=decide (ks[cL ks k]? =some k)
theorem FF{B C:Nat->Prop}{s t:Y}{ks:O Key}{key:Key}{w:J}(hs:bj B w s ks)(ht:Src 1 w t (aG key))(x:ks.Pairwise bD)(N:ks.length<=100000):
 aN aj 240 #[s,t,.func (.func 176) #[] #[]] w (λv w'=>v=.tuple #[.int .i64 ((cL ks key:Nat):Int),.bool (g9 ks key)]/\w=w'):=by
 refine okF (I7.tC s t ⟨176,#[],#[]⟩) I6.tC func240 ?_;(delta I7.tC ai ar af aK;dsimp only);have y:=bj.len hs;have o:ix aj 176:=⟨_,(Option.some_get (show(Tryz.prog.funcs[176]?).isSome=true by kernel_rfl)).symm,by kernel_rfl,by kernel_rfl⟩;have aJ:=λ{i j:Nat} (hi:i<j) (e:j<ks.length)=>mI.1 x i j I e hi;refine⟨λlo hi w'=>∃a b:Nat,lo=a/\hi=b/\a<=b/\b<=ks.length/\w=w'/\(∀ (j:Nat) (h:j<ks.length),j<a->bD ks[j] key)/\(∀ (j:Nat) (h:j<ks.length),b<=j->¬bD ks[j] key),λlo hi _=>(hi-lo).toNat,
  ⟨0,ks.length,rfl,by rw[y],cE _,bn _,rfl,λj _ h=>I,λj h h2=>I⟩,?_⟩
 rintro _ _ _ ⟨a,b,rfl,rfl,P,p,rfl,h1,h2⟩;have z:=D9 (a:=a) (b:=b) I;refine⟨λh=>?_,λh=>?_⟩
 .have D:(a:Int)<(b:Int):=b1 h
  rw[z];obtain⟨m,E⟩:∃m,m=(a+b)/2:=⟨_,rfl⟩;rw[←E];have F:a<=m:=by omega
  have Q:m<b:=by omega
  obtain⟨A,t2,aq,f,g,k,_⟩:=bj.at hs (i:=m) I;refine⟨by decide,A,aq,f,t2,g,o,(kn k.1 ht).use ?_⟩;rintro _ _ ⟨rfl,rfl⟩;have G:IntKind.wrap .i64 ((m:Int)+1)=((m+1:Nat):Int):=by rw[bu I I];rfl
  refine⟨_,rfl,λhc=>?_,λhc=>?_⟩
  .have hc:bD ks[m] key:=b1 hc
   rw[G];have l:((b:Int)-((m+1:Nat):Int)).toNat<((b:Int)-(a:Int)).toNat:=by omega
   refine⟨⟨m+1,b,rfl,rfl,I,p,rfl,λj e H=>?_,h2⟩,l⟩;rcases dC j m with d|d
   .exact lA (aJ d I) hc
   .have:j=m:=by omega
    subst this;exact hc
  .have hc:¬bD ks[m] key:=cp hc
   have l:((m:Int)-(a:Int)).toNat<((b:Int)-(a:Int)).toNat:=by omega
   refine⟨⟨a,m,rfl,rfl,F,I,rfl,h1,λj e H=>?_⟩,l⟩;rcases dC m j with d|d
   .exact λK=>hc (lA (aJ d e) K)
   .have:j=m:=by omega
    subst this;exact hc
 .have L:¬(a:Int)<(b:Int):=cp h
  have M:b=a:=by omega
  subst M;have n:cL ks key=b:=FE p h1 h2;refine cj (λc w'=>w=w'/\c=g9 ks key) (λq r=>⟨λh=>?_,λh=>?_⟩) ?_
  .have D:(b:Int)<(s.len:Int):=b1 h
   have u:b<ks.length:=by omega
   obtain⟨A,t2,aq,f,g,k,_⟩:=bj.at hs u;refine⟨A,aq,f,t2,g,o,(kn k.1 ht).use ?_⟩;rintro _ _ ⟨rfl,rfl⟩;refine⟨_,rfl,r _ _ ⟨rfl,?_⟩⟩;unfold g9;rw[n,fU,cQ,kJ,du u,EK];exact⟨λh=>by rw[h],λh=>Option.some.inj h⟩
  .have L:¬(b:Int)<(s.len:Int):=cp h
   refine r _ _ ⟨rfl,?_⟩;unfold g9;rw[n,ke I];simp
  .rintro _ _ ⟨rfl,rfl⟩
   exact⟨by rw[n],rfl⟩
theorem l6{B:Nat->Prop}{w:J}{n:aB}{K V D t:Y}{key:Key}(h:bz B w n K V D)(ht:Src 1 w t (aG key))(b:n.keys.Pairwise bD)(c:n.keys.length<=100000):
 aN aj 198 #[cW n K V D,t] w (λv w'=>v=.tuple #[.int .i64 ((cL n.keys key:Nat):Int),.bool (g9 n.keys key)]/\Ext w w'):=by
 refine okF (I7.l6 n.leaf K V D t) I6.l6 func198 ?_;(delta I7.l6 af U gX;dsimp only);refine bd (vs:=[n.leaf,K,V,D]) rfl λw1 d a _=>?_;obtain⟨bS,ay,aR,aF⟩:=bC d;refine⟨K,ay,(FF (B:=B) (C:=B) (h.keys.ext a) (ht.ext a) b c).use ?_⟩;rintro _ _ ⟨rfl,rfl⟩;exact⟨_,_,rfl,rfl,a⟩
theorem pC{B:Nat->Prop}{w:J}{n:aB}{K V D t:Y}{key:Key}(h:bz B w n K V D)(ht:Src 1 w t (aG key))(b:n.keys.Pairwise bD)(c:n.keys.length<=100000):
 aN aj 143 #[cW n K V D,t] w (λv w'=>v=.tuple #[.int .i64 ((cL n.keys key:Nat):Int),.bool (g9 n.keys key)]/\Ext w w'):=by
 refine okF (I7.pC n.leaf K V D t) I6.pC func143 ?_;(delta I7.pC a7 U af gX;dsimp only);refine bd (vs:=[n.leaf,K,V,D]) rfl λw1 d a _=>?_;obtain⟨bS,ay,aR,aF⟩:=bC d;refine⟨_,bS,K,ay,V,aR,D,aF,(l6 (h.ext a) (ht.ext a) b c).use ?_⟩;rintro _ _ ⟨rfl,e⟩;exact⟨_,_,rfl,rfl,a.trans e⟩
theorem FG{ks:O Key}(e:ks.Pairwise bD)(k:Key):di ks k=if g9 ks k then cL ks k+1 else cL ks k:=by
 have f:=pV ks k;have key:∀a,a<=ks.length->(∀ (j:Nat) (h:j<ks.length),j<a->¬bD k ks[j])->(∀h:a<ks.length,bD k ks[a])->di ks k=a:=by
  intro a g h1 h2;unfold di;rcases dC a ks.length with h|h
  .exact(List.findIdx_eq h).2 ⟨dm (h2 h),λj b=>hD (h1 j I b)⟩
  .have:a=ks.length:=by omega
   subst this;refine List.findIdx_eq_length_of_false λx hx=>?_;obtain⟨j,b,rfl⟩:=fb hx;exact hD (h1 j b b)
 split
 .rename_i c
  have c:ks[cL ks k]? =some k:=b1 c;obtain⟨aJ,he⟩:=im.1 c;refine key _ aJ (λj b h=>?_) λh=>?_
  .rcases dC j (cL ks k) with d|d
   .exact jY (od d b)
   .have:j=cL ks k:=by omega
    subst this;rw[he];exact l9 _
  .have:=mI.1 e _ _ aJ h (Nat.lt_succ_self _)
   rwa[he]at this
 .rename_i c
  have c:¬ks[cL ks k]? =some k:=λh=>c (dm h);refine key _ f (λj b h=>jY (od h b)) λh=>?_;rcases oa.1 (pW e (bn _) h) with d|d
  .exact d
  .exact absurd ((du h).trans (congrArg some d.symm)) c
theorem nV{B:Nat->Prop}{w:J}{n:aB}{K V D t:Y}{key:Key}(h:bz B w n K V D)(ht:Src 1 w t (aG key))(b:n.keys.Pairwise bD)(e:n.keys.length<=100000):
 aN aj 197 #[cW n K V D,t] w (λv w'=>v=.int .i64 ((di n.keys key:Nat):Int)/\Ext w w'):=by
 refine okF (I7.nV n.leaf K V D t) I6.nV func197 ?_;(delta I7.nV a7 U af gX ai ar;dsimp only);refine bd (vs:=[n.leaf,K,V,D]) rfl λw1 f a _=>?_;obtain⟨bS,ay,aR,aF⟩:=bC f;have i:=pV n.keys key;refine⟨_,bS,K,ay,V,aR,D,aF,(l6 (h.ext a) (ht.ext a) b e).use ?_⟩;rintro _ ag ⟨rfl,g⟩;rw[FG b];refine⟨_,_,rfl,cj (λc w'=>ag=w'/\c=((if g9 n.keys key then cL n.keys key+1 else cL n.keys key:Nat):Int)) (λq d=>⟨λh=>d _ _ ⟨rfl,?_⟩,λh=>d _ _ ⟨rfl,?_⟩⟩) ?_⟩
 .rw[if_pos h,bu I I];rfl
 .rw[if_neg (by simp[h])]
 .rintro _ _ ⟨rfl,rfl⟩
  exact⟨rfl,a.trans g⟩
structure hT(lo:Nat)(w:J)(aC:Nat)(n:aB)(K V D:Y)(bP b2 bG:Nat->Prop):Prop where
 v:Var w aC [n.leaf,K,V,D] 202
 keys:bp bP w K n.keys
 vals:bp b2 w V n.vals
 kids:cO bG w D n.kids
 bf:∀q,bP q->lo<=q/\q<w.heap.size/\q≠aC/\¬b2 q/\¬bG q
 bv:∀q,b2 q->lo<=q/\q<w.heap.size/\q≠aC/\¬bG q
 aK:∀q,bG q->lo<=q/\q<w.heap.size/\q≠aC
 mf:lo<=aC
structure e0(lo:Nat)(w:J)(n:aB)(K V D:Y)(bP b2 bG:Nat->Prop):Prop where
 keys:bp bP w K n.keys
 vals:bp b2 w V n.vals
 kids:cO bG w D n.kids
 bf:∀q,bP q->lo<=q/\q<w.heap.size/\¬b2 q/\¬bG q
 bv:∀q,b2 q->lo<=q/\q<w.heap.size/\¬bG q
 aK:∀q,bG q->lo<=q/\q<w.heap.size
section
variable {lo:Nat}{w w':J}{aC:Nat}{n:aB}{K V D:Y}{bP b2 bG:Nat->Prop}
theorem hT.mem(h:hT lo w aC n K V D bP b2 bG):e0 lo w n K V D bP b2 bG:=⟨h.keys,h.vals,h.kids,λq a=>⟨(h.bf q a).1,(h.bf q a).2.1,(h.bf q a).2.2.2⟩,λq a=>⟨(h.bv q a).1,(h.bv q a).2.1,(h.bv q a).2.2.2⟩,λq a=>⟨(h.aK q a).1,(h.aK q a).2.1⟩⟩
theorem e0.ae{W:Nat->Prop}(h:e0 lo w n K V D bP b2 bG)(hc:ad W w w')(b8:∀q,lo<=q->q<w.heap.size->bP q\/b2 q\/bG q->¬W q):e0 lo w' n K V D bP b2 bG:=by
 have hs:=hc.size;refine⟨bp.ae h.keys hc λq a=>b8 q (h.bf q a).1 (h.bf q a).2.1 (.inl a),bp.ae h.vals hc λq a=>b8 q (h.bv q a).1 (h.bv q a).2.1 (.inr (.inl a)),cO.ae h.kids hc λq a=>b8 q (h.aK q a).1 (h.aK q a).2 (.inr (.inr a)),λq a=>?_,λq a=>?_,λq a=>?_⟩
 .have:=h.bf q a;exact⟨this.1,I,this.2.2⟩
 .have:=h.bv q a;exact⟨this.1,I,this.2.2⟩
 .have:=h.aK q a;exact⟨this.1,I⟩
theorem e0.ext(h:e0 lo w n K V D bP b2 bG)(hc:Ext w w'):e0 lo w' n K V D bP b2 bG:=h.ae hc λ_ _ _ _ h=>h
theorem hT.ext(h:hT lo w aC n K V D bP b2 bG)(hx:Ext w w'):hT lo w' aC n K V D bP b2 bG:=
 ⟨h.v.ext hx,bp.ext h.keys hx,bp.ext h.vals hx,cO.ext h.kids hx,λq a=>⟨(h.bf q a).1,fN (h.bf q a).2.1 hx.size,(h.bf q a).2.2⟩,λq a=>⟨(h.bv q a).1,fN (h.bv q a).2.1 hx.size,(h.bv q a).2.2⟩,λq a=>⟨(h.aK q a).1,fN (h.aK q a).2.1 hx.size,(h.aK q a).2.2⟩,h.mf⟩
theorem e0.at(h:e0 lo w n K V D bP b2 bG):bz (λq=>lo<=q) w n K V D:=
 ⟨bj.aW (bp.iH h.keys) λq _ a=>(h.bf q a).1,bj.aW (bp.iH h.vals) λq _ a=>(h.bv q a).1,cH.aW (cO.pZ h.kids) λq _ a=>(h.aK q a).1⟩
theorem e0.low{c:Nat}(h:e0 lo w n K V D bP b2 bG)(b:c<=lo):e0 c w n K V D bP b2 bG:=
 ⟨h.keys,h.vals,h.kids,λq a=>⟨ew b (h.bf q a).1,(h.bf q a).2⟩,λq a=>⟨ew b (h.bv q a).1,(h.bv q a).2⟩,λq a=>⟨ew b (h.aK q a).1,(h.aK q a).2⟩⟩
end
theorem xP{lo:Nat}{w:J}{aC:Nat}{n:aB}{K V D t:Y}{l:Key}{bP b2 bG:Nat->Prop}(h:hT lo w aC n K V D bP b2 bG)(ht:Src 1 w t (aG l))(U:l.length<=100000)(E:n.keys.length<=100000){R:J->Prop}
 (F:∀ (w':J) (G:Y) (x:Nat->Prop),hT lo w' aC {n with keys:=n.keys++ [l]} G V D x b2 bG->ad (λq=>q=aC\/bP q) w w'->(∀q,x q->bP q\/w.heap.size<=q)->R w'):
 ak w.drew λj=>∃m:Nat->Prop,¬m (Addr.add aC 1).block/\∃g:Y,j.cell? (Addr.add aC 1)=some (.slice g.a g.len g.cap)/\
  Calls aj 135 #[t] j λH d=>∃y:Y,H=.returned y/\ad m j d/\
  ak (d.alloc (.cells #[y] 48)) λz=>ad m d z/\∃A:Y,∃i:J,Sem.run aj (Builtin.append_ #[127,127] 127 #[g,.slice (some d.heap.size) 1 1]) z=.ok A i/\
  (∃u:aa,i.cell? (Addr.add aC 1)=some u)/\i.frozen? (Addr.add aC 1)=false/\ak (i.setCell (Addr.add aC 1) A) λL=>R L:=by
 have W:=h.mf;have X:=h.v.lt;have p:=b4 w;obtain⟨bS,ay,aR,aF⟩:=bC (h.v.ext p);refine aS ⟨λ_=>False,id,K,ay,(kr (B:=λq=>w.heap.size<=q) (ht.ext p) I (λq b=>b)).use ?_⟩;rintro _ d ⟨M,rfl,C,hx,hf⟩;have e:=p.trans hx;have Z:w.drew.heap.size=w.heap.size:=rfl;have N:=e.size;have O:=bp.ext h.keys e;have ed:=bp.ext h.vals e;have P:=cO.ext h.kids e;refine⟨M,rfl,hx,vD (B:=Grow bP w.drew d) (h.v.ext e) (o:=1) (by simp) (bp.aW O λk _ h=>.inl h) ?_ (aY.aW C λk c h=>.inr ⟨h,c⟩) ?_ E λw' aA au aw f=>?_⟩
 .rintro(h1|h1)
  .exact(h.bf aC h1).2.2.1 rfl
  .omega
 .intro k Q S
  obtain⟨ts,_,_,r,_⟩:=h.keys;have:=(r k S).2;have:=(C.2.2 k Q).1;omega
 have T:∀q,Grow (Grow bP w.drew d) d w' q->bP q\/(w.heap.size<=q/\q<w'.heap.size):=by
  rintro q ((h1|h1)|h1)
  .exact .inl h1
  .exact .inr ⟨h1.1,fN h1.2 f.size⟩
  .exact .inr ⟨ew N h1.1,h1.2⟩
 have hg:=f.size;have s:∀q,az K q->bP q:=λq b=>by
  obtain⟨ts,_,_,r,_⟩:=h.keys;exact(r q b).1
 refine F w' aA (λq=>bP q\/(w.heap.size<=q/\q<w'.heap.size)) ⟨by simpa using au,bp.aW aw λk _ c=>T k c,bp.ae ed f ?_,cO.ae P f ?_,?_,λq b=>?_,λq b=>?_,h.mf⟩ ?_ ?_
 .rintro q b (h1|h1)
  .exact(h.bv q b).2.2.1 h1
  .exact(h.bf q (s q h1)).2.2.2.1 b
 .rintro q b (h1|h1)
  .exact(h.aK q b).2.2 h1
  .exact(h.bf q (s q h1)).2.2.2.2 b
 .rintro q (h1|h1)
  .have:=h.bf q h1;exact⟨this.1,I,this.2.2⟩
  .exact⟨I,h1.2,I,λh2=>by have:=h.bv q h2;omega,λh2=>by have:=h.aK q h2;omega⟩
 .have:=h.bv q b;exact⟨this.1,I,this.2.2⟩
 .have:=h.aK q b;exact⟨this.1,I,this.2.2⟩
 .refine(ad.cF e).trans (f.mono λk _ c=>?_)
  rcases c with c|c
  .exact .inl c
  .exact .inr (s k c)
 .rintro q (h1|h1)
  .exact .inl h1
  .exact .inr h1.1
theorem A9{lo:Nat}{w:J}{aC:Nat}{n:aB}{K V D t:Y}{l:Key}{bP b2 bG:Nat->Prop}(h:hT lo w aC n K V D bP b2 bG)(ht:Src 1 w t (aG l))(U:l.length<=100000)(E:n.vals.length<=100000){R:J->Prop}
 (F:∀ (w':J) (G:Y) (x:Nat->Prop),hT lo w' aC {n with vals:=n.vals++ [l]} K G D bP x bG->ad (λq=>q=aC\/b2 q) w w'->(∀q,x q->b2 q\/w.heap.size<=q)->R w'):
 ak w.drew λj=>∃m:Nat->Prop,¬m (Addr.add aC 2).block/\∃g:Y,j.cell? (Addr.add aC 2)=some (.slice g.a g.len g.cap)/\
  Calls aj 135 #[t] j λH d=>∃y:Y,H=.returned y/\ad m j d/\
  ak (d.alloc (.cells #[y] 48)) λz=>ad m d z/\∃A:Y,∃i:J,Sem.run aj (Builtin.append_ #[127,127] 127 #[g,.slice (some d.heap.size) 1 1]) z=.ok A i/\
  (∃u:aa,i.cell? (Addr.add aC 2)=some u)/\i.frozen? (Addr.add aC 2)=false/\ak (i.setCell (Addr.add aC 2) A) λL=>R L:=by
 have W:=h.mf;have X:=h.v.lt;have p:=b4 w;obtain⟨bS,ay,aR,aF⟩:=bC (h.v.ext p);refine aS ⟨λ_=>False,id,V,aR,(kr (B:=λq=>w.heap.size<=q) (ht.ext p) I (λq b=>b)).use ?_⟩;rintro _ d ⟨M,rfl,C,hx,hf⟩;have e:=p.trans hx;have Z:w.drew.heap.size=w.heap.size:=rfl;have N:=e.size;have O:=bp.ext h.keys e;have ed:=bp.ext h.vals e;have P:=cO.ext h.kids e;refine⟨M,rfl,hx,vD (B:=Grow b2 w.drew d) (h.v.ext e) (o:=2) (by simp) (bp.aW ed λk _ h=>.inl h) ?_ (aY.aW C λk c h=>.inr ⟨h,c⟩) ?_ E λw' aA au aw f=>?_⟩
 .rintro(h1|h1)
  .exact(h.bv aC h1).2.2.1 rfl
  .omega
 .intro k Q S
  obtain⟨ts,_,_,r,_⟩:=h.vals;have:=(r k S).2;have:=(C.2.2 k Q).1;omega
 have T:∀q,Grow (Grow b2 w.drew d) d w' q->b2 q\/(w.heap.size<=q/\q<w'.heap.size):=by
  rintro q ((h1|h1)|h1)
  .exact .inl h1
  .exact .inr ⟨h1.1,fN h1.2 f.size⟩
  .exact .inr ⟨ew N h1.1,h1.2⟩
 have hg:=f.size;have s:∀q,az V q->b2 q:=λq b=>by
  obtain⟨ts,_,_,r,_⟩:=h.vals;exact(r q b).1
 refine F w' aA (λq=>b2 q\/(w.heap.size<=q/\q<w'.heap.size)) ⟨by simpa using au,bp.ae O f ?_,bp.aW aw λk _ c=>T k c,cO.ae P f ?_,λq b=>?_,?_,λq b=>?_,h.mf⟩ ?_ ?_
 .rintro q b (h1|h1)
  .exact(h.bf q b).2.2.1 h1
  .exact(h.bf q b).2.2.2.1 (s q h1)
 .rintro q b (h1|h1)
  .exact(h.aK q b).2.2 h1
  .exact(h.bv q (s q h1)).2.2.2 b
 .have:=h.bf q b
  refine⟨this.1,I,this.2.2.1,?_,this.2.2.2.2⟩;rintro(h1|h1)
  .exact this.2.2.2.1 h1
  .omega
 .rintro q (h1|h1)
  .have:=h.bv q h1;exact⟨this.1,I,this.2.2⟩
  .exact⟨I,h1.2,I,λh2=>by have:=h.aK q h2;omega⟩
 .have:=h.aK q b;exact⟨this.1,I,this.2.2⟩
 .refine(ad.cF e).trans (f.mono λk _ c=>?_)
  rcases c with c|c
  .exact .inl c
  .exact .inr (s k c)
 .rintro q (h1|h1)
  .exact .inl h1
  .exact .inr h1.1
theorem eM{B:Nat->Prop}{w0:J}{n:aB}{K V D:Y}(h:bz B w0 n K V D)(aU:n.keys.length<=100000)(aV:n.vals.length<=100000)(aX:n.kids.length<=100000)(au:∀k∈n.keys,k.length<=100000)(av:∀v∈n.vals,v.length<=100000):
 aN aj 204 #[cW n K V D] w0 (λv w'=>∃ (K V D:Y) (bP b2 bG:Nat->Prop),v=cW n K V D/\e0 w0.heap.size w' n K V D bP b2 bG/\Ext w0 w'):=by
 refine okF (I7.eM n.leaf K V D) I6.eM func204 ?_;(delta I7.eM cl U a7 af aZ gF xf ai Ao aK st ar An gH ti;dsimp only);have aE:bz (λq=>q<w0.heap.size) w0 n K V D:=h.aW λq a _=>a;have aY:=bj.len h.keys;have a0:=bj.len h.vals;refine bd (vs:=[n.leaf,K,V,D]) rfl λw1 aG aH a1=>?_;refine bd (vs:=[false,(),(),()]) rfl λag aI aw a2=>aS ?_;have X:=b4 ag;have a3:ag.drew.heap.size=ag.heap.size:=rfl;have L:=(aG.ext aw).ext X;have az:=aI.ext X;have Z:=aH.trans (aw.trans X);obtain⟨aL,a4,a5,aM⟩:=bC L;have T:=aE.ext Z;obtain⟨lo,a6⟩:∃lo,lo=ag.heap.size:=⟨_,rfl⟩;refine⟨λ_=>False,id,_,aL,id,D,aM,⟨?_,?_⟩⟩
 .refine(rH T.kids.1 I).use ?_
  rintro _ H ⟨ax,rfl,y,x,aa⟩;have aO:=x.size;refine⟨ax,rfl,x,#[n.leaf,(),(),ax],(λw=>by kernel_rfl),?_⟩;refine bd (vs:=[false,(),(),()]) rfl λaA W z aP=>?_;refine⟨z,W.b9 rfl ?_,rfl,cu W (us:=[n.leaf,(),(),ax]) rfl rfl λg M C aQ=>?_⟩
  .intro v N
   simp only[cS,eS,eW]at N;rcases N with rfl|rfl|rfl|rfl<;>trivial
  obtain⟨aC,ab⟩:∃aC,aC=H.heap.size:=⟨_,rfl⟩;rw[←ab]at M C⊢;obtain⟨bG,r⟩:∃bG:Nat->Prop,bG=λq=>ag.heap.size<=q/\q<H.heap.size:=⟨_,rfl⟩;have ac:cO bG H ax n.kids:=by subst r;exact⟨y,λk l=>⟨⟨aa k l,y.lt k l⟩,y.lt k l⟩⟩
  have m:ad (λq=>lo<=q) ag.drew g:=(ad.cF (x.trans z)).trans (C.mono λk _ l=>I);have ah:hT lo g aC ⟨n.leaf,[],[],n.kids⟩ bc bc ax (λ_=>False) (λ_=>False) bG:=⟨M,bp.none _ _,bp.none _ _,cO.ae (cO.ext ac z) C (λq a e=>by subst r;have a:=a.2;omega),λq h=>h.elim,λq h=>h.elim,λq a=>(by subst r;obtain⟨h1,h2⟩:=a;exact⟨I,I,I⟩),I⟩;clear r;obtain⟨bS,ay,aR,aF⟩:=bC (L.ae m I);have O:bz (λq=>q<w0.heap.size) g n K V D:=T.ae m λq a h=>by omega
  have ak:=az.ae m I;refine⟨K,ay,λi w'=>∃ (j:Nat) (d:Y) (bP:Nat->Prop),i=j/\j<=n.keys.length/\hT lo w' aC ⟨n.leaf,n.keys.take j,[],n.kids⟩ d bc ax bP (λ_=>False) bG/\ad (λq=>lo<=q) g w',λi _=>((n.keys.length:Int)-i).toNat,⟨0,bc,_,rfl,cE _,ah,ad.refl _ _⟩,?_⟩;rintro _ P ⟨j,d,bP,rfl,al,o,s⟩;have am:bz (λq=>q<w0.heap.size) P n K V D:=O.ae s λq a h=>by omega
  refine⟨λaJ=>?_,λc=>?_⟩
  .have aJ:j<n.keys.length:=by have:=b1 aJ;omega
   obtain⟨A,t,aq,E,hc,ht,_⟩:=bj.at am.keys aJ;refine⟨A,aq,E,t,hc,xP o ht.1 (au _ (cA aJ)) (by show(n.keys.take j).length<=_;rw[cy];omega) λw' cD an st F _=>?_⟩;have G:ad (λq=>lo<=q) P w':=F.mono λq _ a=>by
    rcases a with a|a
    .have:=o.mf;omega
    .exact(o.bf q a).1
   rw[bu (n:=(j:Int)+1) I I];refine⟨⟨j+1,cD,an,I,I,?_,s.trans G⟩,?_⟩
   .rw[take_succ _ aJ];exact st
   .show((n.keys.length:Int)-((j:Int)+1)).toNat<((n.keys.length:Int)-(j:Int)).toNat
    omega
  have c:j=n.keys.length:=by have:=cp c;omega
  subst c;rw[ir]at o;obtain⟨bS,ay,aR,aF⟩:=bC ((L.ae m I).ae s I);refine⟨V,aR,λi w'=>∃ (j:Nat) (p:Y) (b2:Nat->Prop),i=j/\j<=n.vals.length/\hT lo w' aC ⟨n.leaf,n.keys,n.vals.take j,n.kids⟩ d p ax bP b2 bG/\ad (λq=>lo<=q) g w',λi _=>((n.vals.length:Int)-i).toNat,⟨0,bc,_,rfl,cE _,o,s⟩,?_⟩;rintro _ R ⟨j,p,b2,rfl,al,f,u⟩;have ao:bz (λq=>q<w0.heap.size) R n K V D:=O.ae u λq a h=>by omega
  refine⟨λaJ=>?_,λc=>?_⟩
  .have aJ:j<n.vals.length:=by have:=b1 aJ;omega
   obtain⟨A,t,aq,E,hc,ht,_⟩:=bj.at ao.vals aJ;refine⟨A,aq,E,t,hc,A9 f ht.1 (av _ (cA aJ)) (by show(n.vals.take j).length<=_;rw[cy];omega) λw' cN ap st F _=>?_⟩;have G:ad (λq=>lo<=q) R w':=F.mono λq _ a=>by
    rcases a with a|a
    .have:=f.mf;omega
    .exact(f.bv q a).1
   rw[bu (n:=(j:Int)+1) I I];refine⟨⟨j+1,cN,ap,I,I,?_,u.trans G⟩,?_⟩
   .rw[take_succ _ aJ];exact st
   .show((n.vals.length:Int)-((j:Int)+1)).toNat<((n.vals.length:Int)-(j:Int)).toNat
    omega
  have c:j=n.vals.length:=by have:=cp c;omega
  subst c;rw[ir]at f;obtain⟨d0,d1,d2,d3⟩:=bC f.v;refine⟨_,d0,d,d1,p,d2,ax,d3,iW n.leaf d p ax (ak.ae u I) rfl (Q:=λb K V D ag=>(λv w'=>∃ (K V D:Y) (bP b2 bG:Nat->Prop),v=cW n K V D/\e0 w0.heap.size w' n K V D bP b2 bG/\Ext w0 w') (.agg #[b,K,V,D]) ag) λaT S=>⟨d,p,ax,bP,b2,bG,rfl,?_,?_⟩⟩
  .exact(e0.ae f.mem S λq a _ _ h=>I).low I
  .exact Ext.cm (Ext.dr Z (m.trans u) λk l=>I) S I
 .refine bd (vs:=[false,(),(),()]) rfl λaA W z aP=>⟨z,?_⟩
  refine(rH (T.kids.ext z).1 I).use ?_;rintro _ H ⟨ax,rfl,y,x,aa⟩;have aO:=x.size;have aD:=W.ext x;refine⟨ax,rfl,x,#[n.leaf,(),(),ax],(λw=>by kernel_rfl),?_⟩;refine⟨aD.b9 rfl ?_,rfl,cu aD (us:=[n.leaf,(),(),ax]) rfl rfl λg M C aQ=>?_⟩
  .intro v N
   simp only[cS,eS,eW]at N;rcases N with rfl|rfl|rfl|rfl<;>trivial
  obtain⟨aC,ab⟩:∃aC,aC=ag.drew.heap.size:=⟨_,rfl⟩;rw[←ab]at M C⊢;obtain⟨bG,r⟩:∃bG:Nat->Prop,bG=λq=>aA.heap.size<=q/\q<H.heap.size:=⟨_,rfl⟩;have ac:cO bG H ax n.kids:=by subst r;exact⟨y,λk l=>⟨⟨aa k l,y.lt k l⟩,y.lt k l⟩⟩
  have m:ad (λq=>lo<=q) ag.drew g:=(ad.cF (z.trans x)).trans (C.mono λk _ l=>I);have ah:hT lo g aC ⟨n.leaf,[],[],n.kids⟩ bc bc ax (λ_=>False) (λ_=>False) bG:=⟨M,bp.none _ _,bp.none _ _,cO.ae ac C (λq a e=>by subst r;have a:=a.1;omega),λq h=>h.elim,λq h=>h.elim,λq a=>(by subst r;obtain⟨h1,h2⟩:=a;exact⟨I,I,I⟩),I⟩;clear r;obtain⟨bS,ay,aR,aF⟩:=bC (L.ae m I);have O:bz (λq=>q<w0.heap.size) g n K V D:=T.ae m λq a h=>by omega
  have ak:=az.ae m I;refine⟨K,ay,λi w'=>∃ (j:Nat) (d:Y) (bP:Nat->Prop),i=j/\j<=n.keys.length/\hT lo w' aC ⟨n.leaf,n.keys.take j,[],n.kids⟩ d bc ax bP (λ_=>False) bG/\ad (λq=>lo<=q) g w',λi _=>((n.keys.length:Int)-i).toNat,⟨0,bc,_,rfl,cE _,ah,ad.refl _ _⟩,?_⟩;rintro _ P ⟨j,d,bP,rfl,al,o,s⟩;have am:bz (λq=>q<w0.heap.size) P n K V D:=O.ae s λq a h=>by omega
  refine⟨λaJ=>?_,λc=>?_⟩
  .have aJ:j<n.keys.length:=by have:=b1 aJ;omega
   obtain⟨A,t,aq,E,hc,ht,_⟩:=bj.at am.keys aJ;refine⟨A,aq,E,t,hc,xP o ht.1 (au _ (cA aJ)) (by show(n.keys.take j).length<=_;rw[cy];omega) λw' cD an st F _=>?_⟩;have G:ad (λq=>lo<=q) P w':=F.mono λq _ a=>by
    rcases a with a|a
    .have:=o.mf;omega
    .exact(o.bf q a).1
   rw[bu (n:=(j:Int)+1) I I];refine⟨⟨j+1,cD,an,I,I,?_,s.trans G⟩,?_⟩
   .rw[take_succ _ aJ];exact st
   .show((n.keys.length:Int)-((j:Int)+1)).toNat<((n.keys.length:Int)-(j:Int)).toNat
    omega
  have c:j=n.keys.length:=by have:=cp c;omega
  subst c;rw[ir]at o;obtain⟨bS,ay,aR,aF⟩:=bC ((L.ae m I).ae s I);refine⟨V,aR,λi w'=>∃ (j:Nat) (p:Y) (b2:Nat->Prop),i=j/\j<=n.vals.length/\hT lo w' aC ⟨n.leaf,n.keys,n.vals.take j,n.kids⟩ d p ax bP b2 bG/\ad (λq=>lo<=q) g w',λi _=>((n.vals.length:Int)-i).toNat,⟨0,bc,_,rfl,cE _,o,s⟩,?_⟩;rintro _ R ⟨j,p,b2,rfl,al,f,u⟩;have ao:bz (λq=>q<w0.heap.size) R n K V D:=O.ae u λq a h=>by omega
  refine⟨λaJ=>?_,λc=>?_⟩
  .have aJ:j<n.vals.length:=by have:=b1 aJ;omega
   obtain⟨A,t,aq,E,hc,ht,_⟩:=bj.at ao.vals aJ;refine⟨A,aq,E,t,hc,A9 f ht.1 (av _ (cA aJ)) (by show(n.vals.take j).length<=_;rw[cy];omega) λw' cN ap st F _=>?_⟩;have G:ad (λq=>lo<=q) R w':=F.mono λq _ a=>by
    rcases a with a|a
    .have:=f.mf;omega
    .exact(f.bv q a).1
   rw[bu (n:=(j:Int)+1) I I];refine⟨⟨j+1,cN,ap,I,I,?_,u.trans G⟩,?_⟩
   .rw[take_succ _ aJ];exact st
   .show((n.vals.length:Int)-((j:Int)+1)).toNat<((n.vals.length:Int)-(j:Int)).toNat
    omega
  have c:j=n.vals.length:=by have:=cp c;omega
  subst c;rw[ir]at f;obtain⟨d0,d1,d2,d3⟩:=bC f.v;refine⟨_,d0,d,d1,p,d2,ax,d3,iW n.leaf d p ax (ak.ae u I) rfl (Q:=λb K V D ag=>(λv w'=>∃ (K V D:Y) (bP b2 bG:Nat->Prop),v=cW n K V D/\e0 w0.heap.size w' n K V D bP b2 bG/\Ext w0 w') (.agg #[b,K,V,D]) ag) λaT S=>⟨d,p,ax,bP,b2,bG,rfl,?_,?_⟩⟩
  .exact(e0.ae f.mem S λq a _ _ h=>I).low I
  .exact Ext.cm (Ext.dr Z (m.trans u) λk l=>I) S I
theorem bp.mk'{B:Nat->Prop}{w:J}{s:Y}{ts:O Y}{ls:O Key}(a:ts.length=ls.length)(b:a8 1 48 w s (ts.map hO))(hi:In B w s)(c:∀p∈ts.zip ls,aY B w p.1 p.2/\∀k,az p.1 k->¬az s k):bp B w s ls:=by
 refine⟨ts,a,b,hi,λi h1 h2=>?_⟩;have:=c (ts[i],ls[i]) (by
  rw[List.mem_iff_getElem];exact⟨i,by rw[mG];omega,by rw[sk]⟩)
 exact this
theorem bp.out{B:Nat->Prop}{w:J}{s:Y}{ls:O Key}(h:bp B w s ls):∃ts:O Y,ts.length=ls.length/\a8 1 48 w s (ts.map hO)/\In B w s/\∀p∈ts.zip ls,aY B w p.1 p.2/\∀k,az p.1 k->¬az s k:=by
 obtain⟨ts,h1,h2,a,b⟩:=h;refine⟨ts,h1,h2,a,λp c=>?_⟩;obtain⟨i,hi,rfl⟩:=List.mem_iff_getElem.1 c;rw[mG]at hi;rw[sk];exact b i I I
theorem A_{α β:Type}(a:O α)(b:O β)(i:Nat):(a.take i).zip (b.take i)=(a.zip b).take i:=by
 rw[List.zip_eq_zipWith,List.zip_eq_zipWith,List.take_zipWith]
theorem Ba{α β:Type}(a:O α)(b:O β)(i:Nat):(a.drop i).zip (b.drop i)=(a.zip b).drop i:=by
 rw[List.zip_eq_zipWith,List.zip_eq_zipWith,List.drop_zipWith]
theorem Bb{B:Nat->Prop}{w:J}{s t:Y}{ls:O Key}{l:Key}{i:Nat}(q:bp B w s ls)(ht:aY B w t l)(hd:∀k,az t k->¬az s k)(F:ls.length<=100000)(hi:i<=ls.length):
 aN aj 210 #[s,.int .i64 (i:Int),.slice (some w.heap.size) 1 1] (w.alloc (.cells #[t] 48))
  (λu w'=>∃e:Y,u=e/\bp (Grow B w w') w' e (ls.take i++ [l]++ls.drop i)/\ad (az s) w w'):=by
 obtain⟨ts,h1,h2,j,m⟩:=bp.out q;have G:s.len=ls.length:=by have:=h2.1;rw[dN]at this;omega
 have hx:=eA w (.cells #[t] 48);have r:=bt.new w #[t] 48;refine(FC (v:=⟨some w.heap.size,1,1⟩) (xs:=[hO t]) (i:=i) (h2.ext hx) (Src.new (T:=48) w [hO t] 1 rfl) rfl rfl r (λh=>by have:=(j _ h).2;omega) (λv z=>by rw[fh.1 z];trivial) (vz ts) I I).mono ?_;rintro _ w' ⟨e,rfl,au,aw,A,C⟩;rw[fF]at au;have hc:ad (az s) w w':=(ad.cF hx).trans A;have H:=hc.size;have K:(w.alloc (.cells #[t] 48)).heap.size=w.heap.size+1:=rG _ _;have n:∀k,az e k->az s k\/w.heap.size<=k:=λk d=>(C k d).imp id λh=>by omega
 have D:∀ (x:Y),In B w x->(∀k,az x k->¬az s k)->∀k,az x k->¬az e k:=λx hx f k d E=>by
  rcases n k E with h|h
  .exact f k d h
  .have:=(hx k d).2;omega
 have g:∀ (x:Y) (y:Key),aY B w x y->(∀k,az x k->¬az s k)->aY (Grow B w w') w' x y/\∀k,az x k->¬az e k:=λx y o f=>⟨aY.aW (aY.iG o hc f) λk _ h=>.inl h,D x o.2.2 f⟩;refine⟨e,rfl,bp.mk' (ts:=ts.take i++ [t]++ts.drop i) ?_ ?_ ?_ ?_,hc⟩
 .simp only[ct,cy,c5,iN];omega
 .simpa[mH,oR] using au
 .intro k d
  refine⟨?_,au.lt k d⟩;rcases n k d with h|h
  .exact .inl (j k h).1
  .exact .inr ⟨h,au.lt k d⟩
 .intro p c
  rw[List.zip_append (by simp only[ct,cy,iN];omega),List.zip_append (by simp only[cy];omega),A_,Ba]at c;rcases cP.1 c with c|c
  .rcases cP.1 c with c|c
   .obtain⟨a,b⟩:=m p (fa c)
    exact g _ _ a b
   .simp only[List.zip_cons_cons,List.zip_nil_left,fh]at c
    subst c;exact g _ _ ht hd
  .obtain⟨a,b⟩:=m p (e_ c)
   exact g _ _ a b
theorem FH:(Tryz.prog.info? 48).bind (·.zero)=some (.slice none 0 0):=by kernel_rfl
theorem Bc{B:Nat->Prop}{w:J}{s:Y}{ls:O Key}{i:Nat}(j:bp B w s ls)(r:ls.length<=100000)(hi:i<ls.length):
 aN aj 205 #[s,.int .i64 (i:Int),.int .i64 ((i+1:Nat):Int)] w
  (λu w'=>∃e:Y,u=e/\bp B w' e (ls.take i++ls.drop (i+1))/\ad (az s) w w'):=by
 obtain⟨ts,h1,h2,l,m⟩:=bp.out j;have t:s.len=ls.length:=by have:=h2.1;rw[dN]at this;omega
 refine(FD (i:=i) h2 (vz ts) (λz g u hu=>by
  rw[FH]at g
  cases g;simp[Value.cells]at hu;subst hu;trivial) I I).mono ?_
 rintro _ w' ⟨e,rfl,au,aw,n,f⟩;rw[fF,fF]at au;have v:=f.size;have h:∀k,az e k->az s k:=λk ⟨A,aq,c⟩=>⟨A,by rw[←n];exact aq,c⟩;refine⟨e,rfl,bp.mk' (ts:=ts.take i++ts.drop (i+1)) ?_ ?_ ?_ ?_,f⟩
 .simp only[ct,cy,c5];omega
 .simpa[mH,oR] using au
 .exact λk c=>⟨(l k (h k c)).1,au.lt k c⟩
 .intro p d
  rw[List.zip_append (by simp only[cy];omega),A_,Ba]at d;have o:p∈ts.zip ls:=by
   rcases cP.1 d with d|d
   .exact fa d
   .exact e_ d
  obtain⟨a,b⟩:=m p o;exact⟨aY.iG a f b,λk c q=>b k c (h k q)⟩
theorem FI{B:Nat->Prop}{w:J}{s t:Y}{ls:O Key}{l:Key}{i:Nat}(g:bp B w s ls)(ht:aY B w t l)(hd:∀k,az t k->¬az s k)(hi:i<ls.length):
 ∃A:ab,s.a=some A/\((0:Int)<=(i:Int)/\(i:Int)<(s.len:Int))/\(∃u:aa,w.cell? (A.add (Int.toNat (i:Int)*1))=some u)/\w.frozen? (A.add (Int.toNat (i:Int)*1))=false/\
  bp B (w.setCell (A.add (Int.toNat (i:Int)*1)) (hO t)) s (ls.set i l)/\ad (az s) w (w.setCell (A.add (Int.toNat (i:Int)*1)) (hO t)):=by
 obtain⟨ts,h1,h2,h,m⟩:=g;obtain⟨A,aq,n,hc,hf,o,p⟩:=h2.at (i:=i) (v:=hO (ts[i]'I)) (by simp[h1,hi]);have c:ad (az s) w (w.setCell (A.add (Int.toNat (i:Int)*1)) (hO t)):=ad.set (.refl _ _) (λ_=>o) _;refine⟨A,aq,n,⟨_,hc⟩,hf,⟨ts.set i t,by simp[h1],?_,In.ae h c,λj d f=>?_⟩,c⟩
 .have:=p (hO t)
  rwa[←List.map_set]at this
 .rw[dc]at d f
  rw[su,su];by_cases e:i=j
  .rw[if_pos e,if_pos e]
   exact⟨aY.iG ht c hd,hd⟩
  .rw[if_neg e,if_neg e]
   obtain⟨a,b⟩:=m j d f;exact⟨aY.iG a c b,b⟩
def g_(n:aB)(k v:Key):aB:=
 if g9 n.keys k then {n with vals:=n.vals.set (cL n.keys k) v}
 else {n with keys:=n.keys.take (cL n.keys k)++ [k]++n.keys.drop (cL n.keys k),vals:=n.vals.take (cL n.keys k)++ [v]++n.vals.drop (cL n.keys k)}
def lE(n:aB)(k:Key):aB:={n with keys:=n.keys.take (cL n.keys k)++n.keys.drop (cL n.keys k+1),vals:=n.vals.take (cL n.keys k)++n.vals.drop (cL n.keys k+1)}
theorem gQ.eG{n:aB}(h:gQ n):(∀k∈n.keys,k.length<=100000)/\(∀v∈n.vals,v.length<=100000):=⟨λk a=>by have:=(h.ok k a).2;omega,λv b=>by have:=h.vals v b;omega⟩
def ov(n:aB)(w:J)(v:aa)(w':J):Prop:=∃K V D:Y,v=.tuple #[cW n K V D,true]/\bz (λq=>w.heap.size<=q) w' n K V D/\Ext w w'
theorem pE{B:Nat->Prop}{w:J}{n:aB}{K V D tk de:Y}{key val:Key}(h:bz B w n K V D)(hs:gQ n)(bN:n.keys.length<=10000)(c:Src 1 w tk (aG key))(G:Src 1 w de (aG val))(aO:cz key)(bO:val.length<=24):
 aN aj 151 #[cW n K V D,tk,de] w (ov (g_ n key val) w):=by
 have bQ:=hs.len;have bR:n.kids.length=0:=by rw[hs.kids];rfl
 have bT:=len8 G;have bU:key.length<=24:=aO.2;refine okF (I7.pE n.leaf K V D tk de) I6.pE func151 ?_;(delta I7.pE cl a7 U pr ai af aF iT q7 gu gX aZ aK st c6 q6;dsimp only);refine bd (vs:=[n.leaf,K,V,D]) rfl λw1 ar bb bV=>?_;refine bd (vs:=[false,(),(),()]) rfl λag bc ah bW=>?_;have aP:=bb.trans ah;obtain⟨bS,ay,aR,aF⟩:=bC (ar.ext ah);refine⟨n.leaf,bS,cj (λb w'=>b=false/\Ext ag w') (λq a=>⟨λp=>?_,λp=>⟨_,bS,K,ay,V,aR,D,aF,(jX (h.ext aP) I I I).use ?_⟩⟩) ?_⟩
 .rw[hs.leaf]at p;cases p
 .rintro _ aA ⟨b,rfl,be,C⟩
  have:=be.2 (.inl hs);subst this;exact⟨true,rfl,a _ _ ⟨rfl,C⟩⟩
 rintro _ aA ⟨rfl,C⟩;have ak:=aP.trans C;refine cj (λb w'=>b=false/\aA=w') (λq a=>⟨λh=>(by cases h),λ_=>(nX (c.ext ak)).use ?_⟩) ?_
 .rintro _ _ ⟨rfl,rfl⟩
  exact⟨_,rfl,a _ _ ⟨by simp[aO],rfl⟩⟩
 rintro _ _ ⟨rfl,rfl⟩;obtain⟨bS,ay,aR,aF⟩:=bC (ar.ext (ah.trans C));refine⟨λp=>?_,λ_=>⟨_,bS,K,ay,V,aR,D,aF,(eM (h.ext ak) I I I hs.eG.1 hs.eG.2).use ?_⟩⟩
 .have p:decide (((de.len:Int):Int)>24)=true:=p
  have:=b1 p;omega
 rintro _ bg ⟨l,g,ax,bP,b2,bG,rfl,r,al⟩;have aQ:=ak.trans al;have bX:=aQ.size;have bY:=ak.size;have bZ:=C.size;have b0:=al.size;refine⟨n.leaf,l,g,ax,rfl,bd (vs:=[false,(),(),()]) rfl λb3 aT am b5=>⟨aT.b9 rfl ?_,rfl,cu aT (us:=[n.leaf,l,g,ax]) rfl rfl λO P R b6=>?_⟩⟩
 .intro v G
  simp only[cS,eS,eW]at G;rcases G with rfl|rfl|rfl|rfl<;>trivial
 obtain⟨aC,bh⟩:∃aC,aC=bg.heap.size:=⟨_,rfl⟩;rw[←bh]at P R⊢;obtain⟨lo,bi⟩:∃lo,lo=aA.heap.size:=⟨_,rfl⟩;rw[←bi]at r;have an:Ext w O:=Ext.cm (aQ.trans am) R I;have bk:Var O w.heap.size [n.leaf,K,V,D] 202:=(((ar.ext (ah.trans C)).ext al).ext am).ae R I;have aU:Var O w1.heap.size [false,(),(),()] 202:=(((bc.ext C).ext al).ext am).ae R I;have f:e0 lo O n l g ax bP b2 bG:=(r.ext am).ae R λq _ _ a e=>by
  subst e;rcases a with a|a|a
  .have:=(r.bf _ a).2.1;omega
  .have:=(r.bv _ a).2.1;omega
  .have:=(r.aK _ a).2;omega
 obtain⟨bS,ay,aR,aF⟩:=bC bk;have bl:=pV n.keys key;refine⟨_,bS,K,ay,V,aR,D,aF,(l6 (h.ext an) (c.ext an) hs.e4 I).use ?_⟩;rintro _ m ⟨rfl,ao⟩;have aD:=an.trans ao;have b7:=ao.size;refine⟨_,_,rfl,λH=>?_,λH=>?_⟩
 .
  have E:=b4 m;have L:=ao.trans E;have aJ:cL n.keys key<n.keys.length:=by
   have:=b1 H;exact(im.1 this).1
  obtain⟨d0,d1,d2,d3⟩:=bC (P.ext L);refine aS ⟨λ_=>False,id,g,d2,(kr (B:=λq=>m.heap.size<=q) (G.ext (aD.trans E)) I (λq a=>a)).use ?_⟩;rintro _ s ⟨t,rfl,ht,x,bm⟩;have T:=L.trans x;have aE:=f.ext T;have bn:=T.size;have bo:bp (Grow b2 m s) s g n.vals:=bp.aW aE.vals λk _ h=>.inl h;have y:∀k,az g k->b2 k:=λk c=>by obtain⟨ts,_,_,W,_⟩:=f.vals;exact(W k c).1
  obtain⟨A,aq,p,bq,p3,aV,aX⟩:=FI (i:=cL n.keys key) bo (aY.aW ht λk c h=>.inr ⟨h,c⟩) (λk X Z=>by
   have:=(ht.2.2 k X).1;have:=(f.bv k (y k Z)).2.1;omega) I
  refine⟨t,rfl,x,A,aq,p,bq,p3,aS ?_⟩;obtain⟨o,a0⟩:∃o,o=s.setCell (A.add (Int.toNat (cL n.keys key:Int)*1)) (hO t):=⟨_,rfl⟩;rw[←a0]at aV aX;have br:s.setCell (A.add (Int.toNat (cL n.keys key:Int)*1)) t=o:=a0.symm;rw[br];have aa:ad (λq=>lo<=q/\q<O.heap.size/\b2 q) s o:=aX.mono λk _ c=>⟨(f.bv k (y k c)).1,(f.bv k (y k c)).2.1,y k c⟩;have ap:=(P.ext T).ae aa (λe=>by
   have h1:=(r.bv _ e.2.2).2.1;omega)
  obtain⟨bs,bt,bu,bw⟩:=bC ap;have bx:bz (λq=>lo<=q) o (g_ n key val) l g ax:=by
   unfold g_;rw[if_pos H];refine⟨bj.aW (bj.ae (bp.iH aE.keys) aa λq a e=>(f.bf q a).2.2.1 e.2.2) λq _ a=>(f.bf q a).1,bj.aW (bp.iH aV) λq _ a=>?_,cH.aW (cH.ae (cO.pZ aE.kids) aa λq a e=>(f.bv q e.2.2).2.2 a) λq _ a=>(f.aK q a).1⟩;rcases a with a|a
   .exact(f.bv q a).1
   .omega
  have bA:(g_ n key val).leaf=n.leaf:=by unfold g_;rw[if_pos H]
  refine⟨_,bs,l,bt,g,bu,ax,bw,iW n.leaf l g ax ((aU.ext T).ae aa (λe=>by have:=e.1;omega)) rfl (Q:=λb K V D ag=>ov (g_ n key val) w (.tuple #[.agg #[b,K,V,D],true]) ag) λj u=>⟨l,g,ax,by unfold cW;rw[bA],?_,?_⟩⟩
  .exact(bx.ae u λq a e=>I).aW λq _ a=>by omega
  .exact Ext.cm (Ext.dr (an.trans T) aa λk c=>I) u I
 .
  have E:=b4 m;have L:=ao.trans E;have a1:hT lo m.drew aC n l g ax bP b2 bG:=by
   have M:=f.ext L;refine⟨P.ext L,M.keys,M.vals,M.kids,λq a=>?_,λq a=>?_,λq a=>?_,I⟩
   .have h1:=M.bf q a;have:=(r.bf q a).2.1;exact⟨h1.1,h1.2.1,I,h1.2.2⟩
   .have h1:=M.bv q a;have:=(r.bv q a).2.1;exact⟨h1.1,h1.2.1,I,h1.2.2⟩
   .have h1:=M.aK q a;have:=(r.aK q a).2;exact⟨h1.1,h1.2,I⟩
  obtain⟨d0,d1,d2,d3⟩:=bC a1.v;refine aS ⟨λ_=>False,id,l,d1,(kr (B:=λq=>m.heap.size<=q) (c.ext (aD.trans E)) I (λq a=>a)).use ?_⟩;rintro _ s ⟨t,rfl,ht,x,bm⟩;have bn:m.heap.size<=s.heap.size:=(E.trans x).size;have aH:∀k,az l k->bP k:=λk c=>by obtain⟨ts,_,_,W,_⟩:=f.keys;exact(W k c).1
  have y:∀k,az g k->b2 k:=λk c=>by obtain⟨ts,_,_,W,_⟩:=f.vals;exact(W k c).1
  have d:=a1.ext x;refine⟨t,rfl,x,aS ⟨eA _ _,(Bb (B:=Grow bP m s) (i:=cL n.keys key) (bp.aW d.keys λk _ h=>.inl h) (aY.aW ht λk c h=>.inr ⟨h,c⟩) (λk X Z=>by
   have:=(ht.2.2 k X).1;have:=(f.bf k (aH k Z)).2.1;omega) I bl).use ?_⟩⟩
  rintro _ o ⟨S,rfl,bB,a2⟩;have b8:=a2.size;have ab:ad (λq=>lo<=q/\bP q) s o:=a2.mono λk _ c=>⟨(f.bf k (aH k c)).1,aH k c⟩;have ap:=d.v.ae ab λe=>(d.bf _ e.2).2.2.1 rfl;obtain⟨s1,s2⟩:=dH ap (i:=1) (by simp);refine⟨S,rfl,?_⟩;rw[av,av];refine⟨s1,s2,aS (aS ?_)⟩;obtain⟨j,aI⟩:∃j,j=(o.setCell ⟨aC,0+1,none⟩ S).drew:=⟨_,rfl⟩;rw[←aI];have u:ad (λq=>q=aC) o j:=by rw[aI];exact ad.drew (dn _ _ _ _)
  have a3:Var j aC [n.leaf,S,g,ax] 202:=by rw[aI];exact(dJ ap _).drew
  have b_:=u.size;have ca:aC<m.heap.size:=by have:=P.lt;omega
  have bD:bp (λq=>bP q\/(m.heap.size<=q/\q<o.heap.size)) j S (n.keys.take (cL n.keys key)++ [key]++n.keys.drop (cL n.keys key)):=by
   refine bp.ae (bp.aW bB λk _ c=>?_) u λk c e=>?_
   .rcases c with (c|c)|c
    .exact .inl c
    .exact .inr ⟨c.1,I⟩
    .exact .inr ⟨I,c.2⟩
   .subst e
    rcases c with c|c
    .exact(d.bf _ c).2.2.1 rfl
    .omega
  have bE:bp b2 j g n.vals:=bp.ae (bp.ae d.vals ab λq a e=>(d.bf q e.2).2.2.2.1 a) u λq a e=>(d.bv q a).2.2.1 e;have bF:cO bG j ax n.kids:=cO.ae (cO.ae d.kids ab λq a e=>(d.bf q e.2).2.2.2.2 a) u λq a e=>(d.aK q a).2.2 e;have a4:Ext w j:=Ext.dr (Ext.dr ((aD.trans E).trans x) ab λk c=>I) u λk c=>by omega
  obtain⟨f0,f1,f2,f3⟩:=bC a3;rw[av]at f2;refine⟨λ_=>False,id,g,f2,(kr (B:=λq=>j.heap.size<=q) (G.ext a4) I (λq a=>a)).use ?_⟩;rintro _ a5 ⟨t2,rfl,a6,z,cb⟩;have cc:=z.size;refine⟨t2,rfl,z,aS ⟨eA _ _,(Bb (B:=Grow b2 j a5) (i:=cL n.keys key) (bp.aW (bp.ext bE z) λk _ h=>.inl h) (aY.aW a6 λk c h=>.inr ⟨h,c⟩) (λk X Z=>by
   have:=(a6.2.2 k X).1;have:=(f.bv k (y k Z)).2.1;omega) I I).use ?_⟩⟩
  rintro _ aL ⟨cq,rfl,bH,a8⟩;have cd:=a8.size;have ac:ad (λq=>lo<=q/\b2 q) a5 aL:=a8.mono λk _ c=>⟨(f.bv k (y k c)).1,y k c⟩;have a9:=(a3.ext z).ae ac λe=>(d.bv _ e.2).2.2.1 rfl;obtain⟨s1,s2⟩:=dH a9 (i:=2) (by simp);refine⟨cq,rfl,?_⟩;rw[av,av];refine⟨s1,s2,aS ?_⟩;obtain⟨F,aM⟩:∃F,F=aL.setCell ⟨aC,0+2,none⟩ cq:=⟨_,rfl⟩;rw[←aM];have N:ad (λq=>q=aC) aL F:=by rw[aM];exact dn _ _ _ _
  have bI:Var F aC [n.leaf,S,cq,ax] 202:=by rw[aM];exact dJ a9 _
  have ce:=N.size;obtain⟨mg,au,aw,a_⟩:=bC bI;rw[av]at au aw a_;have bJ:bz (λq=>lo<=q) F (g_ n key val) S cq ax:=by
   unfold g_;rw[if_neg (by rw[H];simp)];refine⟨?_,?_,?_⟩
   .refine bj.aW (bp.iH (bp.ae (bp.ae (bp.ext bD z) ac λq a e=>?_) N λq a e=>?_)) λq _ a=>?_
    .rcases a with a|a
     .exact(d.bf q a).2.2.2.1 e.2
     .have:=(f.bv q e.2).2.1;omega
    .subst e
     rcases a with a|a
     .exact(d.bf _ a).2.2.1 rfl
     .omega
    .rcases a with a|a
     .exact(d.bf q a).1
     .omega
   .refine bj.aW (bp.iH (bp.ae bH N λq a e=>?_)) λq _ a=>?_
    .subst e
     rcases a with (a|a)|a
     .exact(d.bv _ a).2.2.1 rfl
     .omega
     .omega
    .rcases a with (a|a)|a
     .exact(d.bv q a).1
     .omega
     .omega
   .exact cH.aW (cO.pZ (cO.ae (cO.ae (cO.ext bF z) ac λq a e=>(d.bv q e.2).2.2.2 a) N λq a e=>(d.aK q a).2.2 e)) λq _ a=>(d.aK q a).1
  have bK:(g_ n key val).leaf=n.leaf:=by unfold g_;rw[if_neg (by rw[H];simp)]
  have bL:Ext w F:=Ext.dr (Ext.dr (a4.trans z) ac λk c=>I) N λk c=>by omega
  have bM:Var F w1.heap.size [false,(),(),()] 202:=by
   have h1:=aU.ext (L.trans x);have h2:=(h1.ae ab (λe=>by have:=e.1;omega)).ae u I;exact((h2.ext z).ae ac (λe=>by have:=e.1;omega)).ae N I
  rw[av,av];refine⟨_,mg,S,au,cq,aw,ax,a_,?_⟩;have:=iW n.leaf S cq ax bM rfl (Q:=λb K V D ag=>ov (g_ n key val) w (.tuple #[.agg #[b,K,V,D],true]) ag) λcf ba=>⟨S,cq,ax,by unfold cW;rw[bK],(bJ.ae ba λq a e=>I).aW λq _ a=>I,Ext.cm bL ba I⟩;simpa only[av] using this
def p4(n:aB)(key:Key)(w:J)(v:aa)(w':J):Prop:=
 if g9 n.keys key then ov (lE n key) w v w' else v=.tuple #[cW g8 bc bc bc,false]/\Ext w w'
theorem pD{B:Nat->Prop}{w:J}{n:aB}{K V D tk:Y}{key:Key}(h:bz B w n K V D)(hs:gQ n)(a6:n.keys.length<=10000)(d:Src 1 w tk (aG key)):
 aN aj 149 #[cW n K V D,tk] w (p4 n key w):=by
 have a8:=hs.len;have a9:n.kids.length=0:=by rw[hs.kids];rfl
 refine okF (I7.pD n.leaf K V D tk) I6.pD func149 ?_;(delta I7.pD cl a7 U af gX pr ai aF iT q7 gu aZ ar st c6 q6;dsimp only);refine bd (vs:=[n.leaf,K,V,D]) rfl λw1 E aq a_=>?_;refine bd (vs:=[false,(),(),()]) rfl λag aA A ba=>?_;have F:=aq.trans A;obtain⟨bS,ay,aR,aF⟩:=bC (E.ext A);refine⟨_,bS,K,ay,V,aR,D,aF,(l6 (h.ext F) (d.ext F) hs.e4 I).use ?_⟩;rintro _ aD ⟨rfl,s⟩;have T:=F.trans s;obtain⟨bS,ay,aR,aF⟩:=bC (E.ext (A.trans s));refine⟨_,_,rfl,n.leaf,bS,cj (λb w'=>b=false/\Ext aD w') (λq a=>⟨λf=>?_,λf=>⟨_,bS,K,ay,V,aR,D,aF,(jX (h.ext T) I I I).use ?_⟩⟩) ?_⟩
 .rw[hs.leaf]at f;cases f
 .rintro _ W ⟨b,rfl,aE,o⟩
  have:=aE.2 (.inl hs);subst this;exact⟨true,rfl,a _ _ ⟨rfl,o⟩⟩
 rintro _ W ⟨rfl,o⟩;have G:=T.trans o;have bb:=o.size;have be:=s.size;have X:=aA.ext (s.trans o);refine⟨λf=>?_,λf=>?_⟩
 .have f:g9 n.keys key=false:=by simpa using f
  refine iW false bc bc bc X rfl (Q:=λb K V D ag=>p4 n key w (.tuple #[.agg #[b,K,V,D],false]) ag) λZ aH=>?_;unfold p4;rw[if_neg (by rw[f];simp)];exact⟨rfl,Ext.cm G aH I⟩
 have aa:g9 n.keys key=true:=by simpa using f
 have aJ:cL n.keys key<n.keys.length:=(im.1 (b1 aa)).1;obtain⟨bS,ay,aR,aF⟩:=bC (E.ext (A.trans (s.trans o)));refine⟨_,bS,K,ay,V,aR,D,aF,(eM (h.ext G) I I I hs.eG.1 hs.eG.2).use ?_⟩;rintro _ Z ⟨p,g,ax,bP,b2,bG,rfl,j,H⟩;have aI:=G.trans H;have bg:=H.size;refine⟨n.leaf,p,g,ax,rfl,bd (vs:=[false,(),(),()]) rfl λbh ab L bi=>⟨ab.b9 rfl ?_,rfl,cu ab (us:=[n.leaf,p,g,ax]) rfl rfl λt ac C bk=>?_⟩⟩
 .intro v ah
  simp only[cS,eS,eW]at ah;rcases ah with rfl|rfl|rfl|rfl<;>trivial
 obtain⟨aC,aL⟩:∃aC,aC=Z.heap.size:=⟨_,rfl⟩;rw[←aL]at ac C⊢;obtain⟨lo,aM⟩:∃lo,lo=W.heap.size:=⟨_,rfl⟩;rw[←aM]at j;have aO:Ext w t:=Ext.cm (aI.trans L) C I;have aP:Var t w1.heap.size [false,(),(),()] 202:=((X.ext H).ext L).ae C I;have c:hT lo t aC n p g ax bP b2 bG:=by
  have r:e0 lo t n p g ax bP b2 bG:=(j.ext L).ae C λq _ _ a e=>by
   subst e;rcases a with a|a|a
   .have:=(j.bf _ a).2.1;omega
   .have:=(j.bv _ a).2.1;omega
   .have:=(j.aK _ a).2;omega
  refine⟨ac,r.keys,r.vals,r.kids,λq a=>?_,λq a=>?_,λq a=>?_,I⟩
  .have h1:=r.bf q a;have:=(j.bf q a).2.1;exact⟨h1.1,h1.2.1,I,h1.2.2⟩
  .have h1:=r.bv q a;have:=(j.bv q a).2.1;exact⟨h1.1,h1.2.1,I,h1.2.2⟩
  .have h1:=r.aK q a;have:=(j.aK q a).2;exact⟨h1.1,h1.2,I⟩
 have ak:∀k,az p k->bP k:=λk d=>by obtain⟨ts,_,_,M,_⟩:=c.keys;exact(M k d).1
 have al:∀k,az g k->b2 k:=λk d=>by obtain⟨ts,_,_,M,_⟩:=c.vals;exact(M k d).1
 obtain⟨d0,d1,d2,d3⟩:=bC c.v;have bl:=c.v.lt;rw[bu (n:=((cL n.keys key:Nat):Int)+1) I I];refine⟨p,d1,(Bc c.keys I aJ).use ?_⟩;rintro _ N ⟨S,rfl,aQ,aT⟩;have u:ad (λq=>lo<=q/\bP q) t N:=aT.mono λk _ d=>⟨(c.bf k (ak k d)).1,ak k d⟩;have am:=c.v.ae u λe=>(c.bf _ e.2).2.2.1 rfl;obtain⟨s1,s2⟩:=dH am (i:=1) (by simp);refine⟨S,rfl,?_⟩;rw[av,av];refine⟨s1,s2,aS ?_⟩;obtain⟨l,O⟩:∃l,l=N.setCell ⟨aC,0+1,none⟩ S:=⟨_,rfl⟩;rw[←O];have x:ad (λq=>q=aC) N l:=by rw[O];exact dn _ _ _ _
 have an:Var l aC [n.leaf,S,g,ax] 202:=by rw[O];exact dJ am _
 have aU:bp bP l S (n.keys.take (cL n.keys key)++n.keys.drop (cL n.keys key+1)):=bp.ae aQ x λq a e=>(c.bf q a).2.2.1 e;have aV:bp b2 l g n.vals:=bp.ae (bp.ae c.vals u λq a e=>(c.bf q e.2).2.2.2.1 a) x λq a e=>(c.bv q a).2.2.1 e;have aX:cO bG l ax n.kids:=cO.ae (cO.ae c.kids u λq a e=>(c.bf q e.2).2.2.2.2 a) x λq a e=>(c.aK q a).2.2 e;obtain⟨f0,f1,f2,f3⟩:=bC an;rw[av]at f2;refine⟨g,f2,(Bc aV I I).use ?_⟩;rintro _ P ⟨cq,rfl,aY,a0⟩;have y:ad (λq=>lo<=q/\b2 q) l P:=a0.mono λk _ d=>⟨(c.bv k (al k d)).1,al k d⟩;have ao:=an.ae y λe=>(c.bv _ e.2).2.2.1 rfl;obtain⟨s1,s2⟩:=dH ao (i:=2) (by simp);refine⟨cq,rfl,?_⟩;rw[av,av];refine⟨s1,s2,aS ?_⟩;obtain⟨m,R⟩:∃m,m=P.setCell ⟨aC,0+2,none⟩ cq:=⟨_,rfl⟩;rw[←R];have z:ad (λq=>q=aC) P m:=by rw[R];exact dn _ _ _ _
 have a1:Var m aC [n.leaf,S,cq,ax] 202:=by rw[R];exact dJ ao _
 obtain⟨mg,au,aw,a2⟩:=bC a1;have a3:bz (λq=>lo<=q) m (lE n key) S cq ax:=by
  refine⟨?_,?_,?_⟩
  .exact bj.aW (bp.iH (bp.ae (bp.ae aU y λq a e=>(c.bf q a).2.2.2.1 e.2) z λq a e=>(c.bf q a).2.2.1 e)) λq _ a=>(c.bf q a).1
  .exact bj.aW (bp.iH (bp.ae aY z λq a e=>(c.bv q a).2.2.1 e)) λq _ a=>(c.bv q a).1
  .exact cH.aW (cO.pZ (cO.ae (cO.ae aX y λq a e=>(c.bv q e.2).2.2.2 a) z λq a e=>(c.aK q a).2.2 e)) λq _ a=>(c.aK q a).1
 have a4:Ext w m:=Ext.dr (Ext.dr (Ext.dr (Ext.dr aO u λk d=>I) x λk d=>I) y λk d=>I) z λk d=>by omega
 have a5:Var m w1.heap.size [false,(),(),()] 202:=
  (((aP.ae u (λe=>by have:=e.1;omega)).ae x I).ae y (λe=>by have:=e.1;omega)).ae z I
 refine⟨_,mg,S,au,cq,aw,ax,a2,iW n.leaf S cq ax a5 rfl (Q:=λb K V D ag=>p4 n key w (.tuple #[.agg #[b,K,V,D],true]) ag) λbm ap=>?_⟩;unfold p4;rw[if_pos aa];exact⟨S,cq,ax,rfl,(a3.ae ap λq a e=>I).aW λq _ a=>I,Ext.cm a4 ap I⟩
theorem xQ{n:aB}(hs:cC n)(m:Nat):((cellsOf n).take m).sum<=100*n.keys.length:=by
 have h1:((cellsOf n).take m).sum<=(cellsOf n).sum:=by
  have:=xq (cellsOf n) m;omega
 have h2:=xD hs n.keys.length (bn _);rw[dD (by rw[pY hs];exact bn _)]at h2;have a:=xL hs n.keys.length (bn _);omega
theorem mY{B:Nat->Prop}{w:J}{n:aB}{K V D:Y}(h:bz B w n K V D)(hs:cC n)(G:n.keys.length<=10000){most:Nat}(H:most<=n.keys.length):
 aN aj 300 #[cW n K V D,most] w (λv w'=>v=.int .i64 ((gl (cellsOf n) most:Nat):Int)/\Ext w w'):=by
 refine okF (I7.mY n.leaf K V D (most:Int)) I6.mY func300 ?_;(delta I7.mY af U ai a7 aZ ar;dsimp only);refine bd (vs:=[n.leaf,K,V,D]) rfl λw1 o d _=>?_;obtain⟨bS,ay,aR,aF⟩:=bC o;have L:=bj.len h.keys;have M:=pY hs;have x:∀ (j:Nat) (f:j<(cellsOf n).length),(cellsOf n)[j]=(gP n j).length:=λj f=>by
  have h1:=xC hs (i:=j) I;rw[du f]at h1;exact Option.some.inj h1
 refine⟨K,ay,λa i w'=>∃j:Nat,i=j/\j<=n.keys.length/\a=((((cellsOf n).take j).sum:Nat):Int)/\Ext w1 w',λ_ i _=>((n.keys.length:Int)-i).toNat,⟨0,rfl,cE _,by simp,.refl _ _⟩,?_⟩;rintro _ _ ag ⟨j,rfl,f,rfl,g⟩;obtain⟨d0,d1,d2,d3⟩:=bC (o.ext g);refine⟨λaJ=>?_,λb=>?_⟩
 .have aJ:j<n.keys.length:=by have:=b1 aJ;omega
  refine⟨_,d0,K,d1,V,d2,D,d3,(mX (h.ext (d.trans g)) hs aJ I).use ?_⟩;rintro _ N ⟨s,rfl,p,A,_⟩;have q:=me p;have C:=xQ hs j;have hc:=vA hs aJ;have e:=pU (l:=cellsOf n) (i:=j) I;rw[x j I]at e;refine⟨s,rfl,?_⟩;rw[q,bu (n:=((((cellsOf n).take j).sum:Nat):Int)+(((gP n j).length:Nat):Int)) I I,bu (n:=(j:Int)+1) I I];refine⟨⟨j+1,I,I,I,g.trans A⟩,?_⟩;show((n.keys.length:Int)-((j:Int)+1)).toNat<((n.keys.length:Int)-(j:Int)).toNat;omega
 have b:j=n.keys.length:=by have:=cp b;omega
 subst b;rw[dD (l:=cellsOf n) I];refine⟨λa i w'=>∃j:Nat,i=j/\j<=most/\a=((((cellsOf n).take j).sum:Nat):Int)/\Ext w1 w'/\∀k,k<j->2*((cellsOf n).take (k+1)).sum<(cellsOf n).sum,λ_ i _=>((most:Int)-i).toNat,⟨0,rfl,cE _,by simp,g,λk E=>I⟩,?_⟩;rintro _ _ O ⟨j,rfl,f,rfl,c,r⟩;obtain⟨d0,d1,d2,d3⟩:=bC (o.ext c);have F:=xQ hs (cellsOf n).length;rw[ir]at F;refine⟨λaJ=>?_,λb=>?_⟩
 .have aJ:j<most:=by have:=b1 aJ;omega
  refine⟨_,d0,K,d1,V,d2,D,d3,(mX (h.ext (d.trans c)) hs I I).use ?_⟩;rintro _ P ⟨s,rfl,p,y,_⟩;have q:=me p;have C:=xQ hs j;have hc:=vA hs (i:=j) I;have e:=pU (l:=cellsOf n) (i:=j) I;rw[x j I]at e;refine⟨s,rfl,?_⟩;rw[q,bu (n:=((((cellsOf n).take j).sum:Nat):Int)+(((gP n j).length:Nat):Int)) I I,bu (n:=2*(((((cellsOf n).take j).sum:Nat):Int)+(((gP n j).length:Nat):Int))) I I,bu (n:=(j:Int)+1) I I];refine⟨λhd=>⟨?_,d.trans (c.trans y)⟩,λhd=>⟨⟨j+1,I,I,I,c.trans y,λk E=>?_⟩,?_⟩⟩
  .have hd:=b1 hd
   have t:(List.range most).find? (λi=>decide ((cellsOf n).sum<=2*((cellsOf n).take (i+1)).sum))=some j:=by
    have:=fN aJ (bn most);rw[List.find?_eq_some_iff_append];refine⟨dm I,List.range j,List.range' (j+1) (most-(j+1)),?_,λa u=>?_⟩
    .have z:=List.range'_append (s:=0) (m:=j) (n:=most-(j+1)+1) (step:=1)
     rw[sh,sh,←List.range'_succ];rw[Nat.one_mul,cx]at z;rw[z]
     congr 1
     omega
    .have:=r a (jq.1 u)
     simp;omega
   unfold gl;rw[t];rfl
  .have hd:=cp hd
   rcases dC k j with h1|h1
   .exact r k h1
   .have:k=j:=by omega
    subst this;omega
  .show((most:Int)-((j:Int)+1)).toNat<((most:Int)-(j:Int)).toNat
   omega
 .have b:j=most:=by have:=cp b;omega
  subst b;refine⟨?_,d.trans c⟩;have t:(List.range j).find? (λi=>decide ((cellsOf n).sum<=2*((cellsOf n).take (i+1)).sum))=none:=by
   rw[iO];intro a u;have:=r a (jq.1 u);simp;omega
  unfold gl;rw[t]
theorem bj.sub{B:Nat->Prop}{w:J}{s:Y}{ls:O Key}{lo hi:Nat}(h:bj B w s ls)(h1:lo<=hi)(h2:hi<=ls.length):bj B w ⟨aM s.a 1 lo s.cap,hi-lo,s.cap-lo⟩ ((ls.drop lo).take (hi-lo)):=by
 have l:=bj.len h;obtain⟨ts,au,aw,b,c,d⟩:=h;refine⟨(ts.drop lo).take (hi-lo),by simp[au],?_,by show hi-lo<=s.cap-lo;omega,λk e=>?_,λi f g=>?_⟩
 .have:=Src.sub aw b h1 I
  simpa[oR,mH] using this
 .obtain⟨A,aq,j⟩:=vB e
  exact c k ⟨A,aq,j⟩
 .simp only[oT,qD]
  rw[cy,c5]at f g;exact d (lo+i) I I
theorem bj.le{B:Nat->Prop}{w:J}{s:Y}{ls:O Key}(h:bj B w s ls):s.len<=s.cap:=by
 obtain⟨ts,_,_,a,_⟩:=h;exact a
theorem cH.sub{B:Nat->Prop}{w:J}{s:Y}{ds:O Nat}{lo hi:Nat}(h:cH B w s ds)(h1:lo<=hi)(h2:hi<=ds.length):cH B w ⟨aM s.a 1 lo s.cap,hi-lo,s.cap-lo⟩ ((ds.drop lo).take (hi-lo)):=by
 have f:=cH.len h;obtain⟨aw,b,c⟩:=h;have g:s.len<=s.cap:=b;refine⟨?_,by show hi-lo<=s.cap-lo;omega,λk d=>?_⟩
 .have:=Src.sub aw b h1 I
  simpa[dR,oR,mH] using this
 .obtain⟨A,aq,e⟩:=vB d
  exact c k ⟨A,aq,e⟩
theorem fG(b:ah)(K V D:Y):∀v∈([b,K,V,D]:O aa),Plain v:=by
 intro v a;simp only[cS,eS,eW]at a;rcases a with rfl|rfl|rfl|rfl<;>trivial
theorem p5{c:J}{r1 bY:Nat}{xR xS:O aa}{b5 bM:ah}{c7 dt bm cD cN cn:Y}(h1:Var c r1 xR 202)(h2:Var c bY xS 202)(iy:xR.length=4)(n:xS.length=4)(o:r1≠bY){W:Nat->Prop}(b8:∀q,q=r1->W q)
 {Q:ah->Y->Y->Y->ah->Y->Y->Y->J->Prop} (u:∀b,ad (λq=>q=r1\/q=bY) c b->Q b5 c7 dt bm bM cD cN cn b):
 bx c r1 [b5,c7,dt,bm]/\(4:Nat)=4/\ak (setCells c r1 0 [b5,c7,dt,bm]) λd=>
  ad W c d/\bx d bY [bM,cD,cN,cn]/\(4:Nat)=4/\ak (setCells d bY 0 [bM,cD,cN,cn]) λb=>
  ∃p:ah,b.cell? r1=some (.bool p)/\∃f:Y,b.cell? (Addr.add r1 1)=some (.slice f.a f.len f.cap)/\∃g:Y,b.cell? (Addr.add r1 2)=some (.slice g.a g.len g.cap)/\∃i:Y,b.cell? (Addr.add r1 3)=some (.slice i.a i.len i.cap)/\
  ∃r:ah,b.cell? bY=some (.bool r)/\∃j:Y,b.cell? (Addr.add bY 1)=some (.slice j.a j.len j.cap)/\∃k:Y,b.cell? (Addr.add bY 2)=some (.slice k.a k.len k.cap)/\∃l:Y,b.cell? (Addr.add bY 3)=some (.slice l.a l.len l.cap)/\Q p f g i r j k l b:=by
 refine⟨h1.b9 (by rw[iy];rfl) (fG _ _ _ _),rfl,cu h1 (us:=[b5,c7,dt,bm]) (by rw[iy];rfl) rfl λd v m _=>?_⟩;have s:=h2.ae m (λe=>o e.symm);refine⟨m.mono λq _ h=>b8 q h,s.b9 (by rw[n];rfl) (fG _ _ _ _),rfl,cu s (us:=[bM,cD,cN,cn]) (by rw[n];rfl) rfl λb w t _=>?_⟩;obtain⟨bS,ay,aR,aF⟩:=bC (v.ae t o);obtain⟨d0,d1,d2,d3⟩:=bC w;exact⟨b5,bS,c7,ay,dt,aR,bm,aF,bM,d0,cD,d1,cN,d2,cn,d3,u b ((m.mono λq _ h=>.inl h).trans (t.mono λq _ h=>.inr h))⟩
def ow(n:aB)(w:J)(v:aa)(w':J):Prop:=
 ∃ (c7 dt bm cD cN cn t:Y),v=.tuple #[cW (n.left (cf n)) c7 dt bm,t,cW (n.right (cf n)) cD cN cn,true]/\
  bz (λq=>w.heap.size<=q) w' (n.left (cf n)) c7 dt bm/\bz (λq=>w.heap.size<=q) w' (n.right (cf n)) cD cN cn/\aY (λq=>w.heap.size<=q) w' t (n.keys.getD (cf n) [])/\Ext w w'
theorem pQ{B:Nat->Prop}{w:J}{n:aB}{K V D:Y}(h:bz B w n K V D)(hs:cC n)(bo:n.keys.length<=10000)(dG:1<=cf n)
 (L:if n.leaf then cf n<=n.keys.length-1/\1<=n.keys.length-1 else cf n<=n.keys.length-2/\1<=n.keys.length-2):
 aN aj 299 #[cW n K V D] w (ow n w):=by
 have b6:n.vals.length<=10000:=by
  rcases hs with hs|hs
  .rw[hs.len];omega
  .rw[hs.vals];simp
 have b7:n.kids.length<=10001:=by
  rcases hs with hs|hs
  .rw[hs.kids];simp
  .rw[hs.len];omega
 have E:∀k∈n.keys,k.length<=100000:=λk l=>by have:=(hs.keys.ok k l).2;omega
 have ao:∀k∈n.vals,k.length<=100000:=λk l=>by have:=hs.vals k l;omega
 have b8:=bj.len h.keys;obtain⟨most,ap⟩:∃most,most=if n.leaf then n.keys.length-1 else n.keys.length-2:=⟨_,rfl⟩
 have aQ:1<=most/\most<=n.keys.length/\cf n<=most:=by
  rw[ap]
  cases p:n.leaf<;>rw[p]at L<;>simp at L⊢<;>omega
 have O:cf n<n.keys.length:=by
  cases p:n.leaf<;>rw[p]at L<;>simp at L<;>omega
 refine okF (I7.pQ n.leaf K V D) I6.pQ func299 ?_;(delta I7.pQ cl af U a7 ai ar aF gu ay aK aZ iS;dsimp only);refine bd (vs:=[n.leaf,K,V,D]) rfl λw1 bw bR b_=>?_;refine bd (vs:=[false,(),(),()]) rfl λag bT bq ca=>?_;refine bd (vs:=[false,(),(),()]) rfl λbU bV bl cb=>?_;have bx:=bR.trans (bq.trans bl);obtain⟨bS,ay,aR,aF⟩:=bC ((bw.ext bq).ext bl);refine⟨K,ay,cj (λm w'=>m=(most:Int)/\bU=w') (λq f=>⟨n.leaf,bS,λan=>f _ _ ⟨?_,rfl⟩,λan=>f _ _ ⟨?_,rfl⟩⟩) ?_⟩
 .have an:n.leaf=false:=by simpa using an
  rw[an]at L ap;simp at L ap;rw[bu (n:=(K.len:Int)-1) I I,bu I I];omega
 .have an:n.leaf=true:=by simpa using an
  rw[an]at L ap;simp at L ap;rw[bu I I];omega
 rintro _ _ ⟨rfl,rfl⟩;refine⟨_,bS,K,ay,V,aR,D,aF,(jX (h.ext bx) I I I).use ?_⟩;rintro _ y ⟨b,rfl,an,aT⟩;have bW:=an.2 hs;subst bW;have aU:=b4 y;have au:=bx.trans (aT.trans aU);have bn:=((bw.ext bq).ext bl).ext (aT.trans aU);have br:=(bT.ext bl).ext (aT.trans aU);have bs:=bV.ext (aT.trans aU);have cc:=(aT.trans aU).size;obtain⟨bS,ay,aR,aF⟩:=bC bn;refine⟨true,rfl,λh=>?_,λ_=>aS ⟨λ_=>False,id,_,bS,K,ay,V,aR,D,aF,id,_,bS,K,ay,V,aR,D,aF,⟨?_,?_⟩⟩⟩
 .simp only[Bool.not_true,kG]at h
  have:=b1 h;omega
 .refine(eM (h.ext au) I I I E ao).use ?_
  rintro _ bA ⟨c,d,ax,bP,b2,bG,rfl,aw,P⟩;refine⟨n.leaf,c,d,ax,rfl,P,⟨?_,?_⟩⟩
  .refine(mY (h.ext (au.trans P)) hs bo (most:=most) aQ.2.1).use ?_
   rintro _ bt ⟨rfl,G⟩;refine⟨_,rfl,G,bd (vs:=[false,(),(),()]) rfl λbB aA H bD=>⟨H,aA.b9 rfl (fG _ _ _ _),rfl,cu aA (us:=[n.leaf,c,d,ax]) rfl rfl λF aD C bE=>?_⟩⟩;have bX:=P.size;have bY:=G.size;obtain⟨aC,aV⟩:∃aC,aC=bt.heap.size:=⟨_,rfl⟩;rw[←aV]at aD C⊢;have M:=P.trans (G.trans H);have R:e0 y.heap.size F n c d ax bP b2 bG:=(aw.ext (G.trans H)).ae C λq _ _ f e=>by
    subst e;rcases f with f|f|f
    .have:=(aw.bf _ f).2.1;omega
    .have:=(aw.bv _ f).2.1;omega
    .have:=(aw.aK _ f).2;omega
   have bF:y.drew.heap.size=y.heap.size:=rfl;have N:Ext w F:=Ext.cm (au.trans M) C I;have aE:=(bn.ext M).ae C I;have aG:=(br.ext M).ae C I;have aH:=(bs.ext M).ae C I;have aX:gl (cellsOf n) most=cf n:=by unfold cf;rw[ap]
   rw[aX];obtain⟨i,hi⟩:∃i,i=cf n:=⟨_,rfl⟩;rw[←hi]at O aQ dG;rw[←hi];obtain⟨aI,aJ,a0,a1⟩:=bC aE;obtain⟨A,t,aq,a2,hc,ht,_⟩:=bj.at (h.ext N).keys O;refine⟨K,aJ,A,aq,a2,t,hc,(kr (B:=λq=>w.heap.size<=q) ht.1 (by have:=E _ (cA O);omega) (λq f=>ew N.size f)).use ?_⟩;rintro _ r ⟨tk,rfl,aL,S,aO⟩;have T:=b4 r;obtain⟨aI,aJ,a0,a1⟩:=bC (aE.ext S);have s:=S.trans T;obtain⟨f0,f1,f2,f3⟩:=bC (aD.ext s);have o:=R.at.ext s;have bH:=bj.len o.keys;have bI:=bj.len o.vals;have bJ:=cH.len o.kids;have bK:=bj.le (bp.iH R.keys);have bL:=bj.le (bp.iH R.vals);have bN:ax.len<=ax.cap:=o.kids.2.1;have bO:F.heap.size<=r.heap.size:=S.size;have aP:n.keys.getD i []=n.keys[i]:=ff O;refine⟨tk,rfl,n.leaf,aI,λp=>aS ⟨λq=>q=w1.heap.size,λe=>?_,c,f1,⟨I,I⟩,λe=>?_,d,f2,⟨I,?_⟩,#[true,.slice (aM c.a 1 0 c.cap) i c.cap,.slice (aM d.a 1 0 d.cap) i d.cap,()],(λw=>by kernel_rfl),λe=>?_,c,f1,⟨I,I⟩,λe=>?_,d,f2,⟨I,?_⟩,#[true,.slice (aM c.a 1 i c.cap) (c.len-i) (c.cap-i),.slice (aM d.a 1 i d.cap) (d.len-i) (d.cap-i),()],(λw=>by kernel_rfl),?_⟩,λp=>?_⟩
   .rw[av]at e;have e:aC=w1.heap.size:=e;omega
   .rw[av]at e;have e:aC=w1.heap.size:=e;omega
   .have:=hs.k2 p;omega
   .rw[av]at e;have e:aC=w1.heap.size:=e;omega
   .rw[av]at e;have e:aC=w1.heap.size:=e;omega
   .have:=hs.k2 p;omega
   .have a3:=hs.k2 p
    have g:n.left i=⟨true,n.keys.take i,n.vals.take i,[]⟩:=by unfold aB.left;rw[p];rfl
    have j:n.right i=⟨true,n.keys.drop i,n.vals.drop i,[]⟩:=by unfold aB.right;rw[p];rfl
    have W:bz (λq=>y.heap.size<=q) r.drew (n.left i) ⟨aM c.a 1 0 c.cap,i,c.cap⟩ ⟨aM d.a 1 0 d.cap,i,d.cap⟩ bc:=by
     rw[g];refine⟨?_,?_,cH.none _ _⟩
     .have:=bj.sub o.keys (lo:=0) (hi:=i) I I
      simpa using this
     .have:=bj.sub o.vals (lo:=0) (hi:=i) I I
      simpa using this
    have X:bz (λq=>y.heap.size<=q) r.drew (n.right i) ⟨aM c.a 1 i c.cap,c.len-i,c.cap-i⟩ ⟨aM d.a 1 i d.cap,d.len-i,d.cap-i⟩ bc:=by
     rw[j];refine⟨?_,?_,cH.none _ _⟩
     .have:=bj.sub o.keys (lo:=i) (hi:=c.len) I I
      rwa[dD (by rw[c5];omega)]at this
     .have:=bj.sub o.vals (lo:=i) (hi:=d.len) I I
      rwa[dD (by rw[c5];omega)]at this
    have Z:=eM W (by rw[g];show(n.keys.take i).length<=_;rw[cy];omega) (by rw[g];show(n.vals.take i).length<=_;rw[cy];omega) (by rw[g];simp) (by rw[g];exact λk l=>E k (fa l)) (by rw[g];exact λk l=>ao k (fa l));have ab:(.agg #[true,.slice (aM c.a 1 0 c.cap) i c.cap,.slice (aM d.a 1 0 d.cap) i d.cap,()]:aa)=cW (n.left i) ⟨aM c.a 1 0 c.cap,i,c.cap⟩ ⟨aM d.a 1 0 d.cap,i,d.cap⟩ bc:=by rw[g];rfl
    have ac:(.agg #[true,.slice (aM c.a 1 i c.cap) (c.len-i) (c.cap-i),.slice (aM d.a 1 i d.cap) (d.len-i) (d.cap-i),()]:aa)=cW (n.right i) ⟨aM c.a 1 i c.cap,c.len-i,c.cap-i⟩ ⟨aM d.a 1 i d.cap,d.len-i,d.cap-i⟩ bc:=by rw[j];rfl
    rw[ab,ac];refine Z.use ?_;rintro _ a4 ⟨c7,dt,bm,a5,a6,a8,rfl,ah,u⟩;have ak:=eM (X.ext u) (by rw[j];show(n.keys.drop i).length<=_;rw[c5];omega) (by rw[j];show(n.vals.drop i).length<=_;rw[c5];omega) (by rw[j];simp) (by rw[j];exact λk l=>E k (e_ l)) (by rw[j];exact λk l=>ao k (e_ l));refine⟨_,c7,dt,bm,rfl,ad.cF u,ak.use ?_⟩;rintro _ a9 ⟨cD,cN,cn,a_,ba,bb,rfl,al,z⟩;have v:=u.trans z;have be:=u.size;have bg:=s.size;refine⟨_,cD,cN,cn,rfl,ad.cF z,p5 (b5:=(n.left i).leaf) (bM:=(n.right i).leaf) (c7:=c7) (dt:=dt) (bm:=bm) (cD:=cD) (cN:=cN) (cn:=cn) ((aG.ext s).ext v) ((aH.ext s).ext v) rfl rfl I (λq f=>f) (Q:=λb5 c7 dt bm bM cD cN cn w'=>ow n w (.tuple #[.agg #[b5,c7,dt,bm],tk,.agg #[bM,cD,cN,cn],true]) w') λbh x=>?_⟩;have bi:r.drew.heap.size=r.heap.size:=rfl;refine⟨c7,dt,bm,cD,cN,cn,tk,by rw[←hi];rfl,?_,?_,?_,?_⟩
    .rw[←hi];exact((ah.at.ext z).ae x λq f e=>I).aW λq _ f=>by omega
    .rw[←hi];exact(al.at.ae x λq f e=>I).aW λq _ f=>by omega
    .rw[←hi,aP]
     have am:∀q,az tk q->F.heap.size<=q:=aO;exact aY.iG (aY.ext (aY.ext aL T) v) x λq f e=>by have:=am q f;omega
    .exact Ext.dr (N.trans (s.trans v)) x λq f=>by omega
   .have a3:=hs.p2 p
    have bQ:i<=n.keys.length-2/\1<=n.keys.length-2:=by rw[p,←hi]at L;simpa using L
    have bk:IntKind.wrap .i64 ((i:Int)+1)=((i+1:Nat):Int):=by rw[bu I I];rfl
    rw[bk];refine aS ⟨λq=>q=w1.heap.size,λe=>?_,c,f1,⟨I,I⟩,λe=>?_,ax,f3,⟨I,I⟩,#[false,.slice (aM c.a 1 0 c.cap) i c.cap,(),.slice (aM ax.a 1 0 ax.cap) (i+1) ax.cap],(λw=>by kernel_rfl),λe=>?_,c,f1,⟨I,I⟩,λe=>?_,ax,f3,⟨I,I⟩,#[false,.slice (aM c.a 1 (i+1) c.cap) (c.len-(i+1)) (c.cap-(i+1)),(),.slice (aM ax.a 1 (i+1) ax.cap) (ax.len-(i+1)) (ax.cap-(i+1))],(λw=>by kernel_rfl),?_⟩
    .rw[av]at e;have e:aC=w1.heap.size:=e;omega
    .rw[av]at e;have e:aC=w1.heap.size:=e;omega
    .rw[av]at e;have e:aC=w1.heap.size:=e;omega
    .rw[av]at e;have e:aC=w1.heap.size:=e;omega
    have g:n.left i=⟨false,n.keys.take i,[],n.kids.take (i+1)⟩:=by unfold aB.left;rw[p];rfl
    have j:n.right i=⟨false,n.keys.drop (i+1),[],n.kids.drop (i+1)⟩:=by unfold aB.right;rw[p];rfl
    have W:bz (λq=>y.heap.size<=q) r.drew (n.left i) ⟨aM c.a 1 0 c.cap,i,c.cap⟩ bc ⟨aM ax.a 1 0 ax.cap,i+1,ax.cap⟩:=by
     rw[g];refine⟨?_,bj.none _ _,?_⟩
     .have:=bj.sub o.keys (lo:=0) (hi:=i) I I
      simpa using this
     .have:=cH.sub o.kids (lo:=0) (hi:=i+1) I I
      simpa using this
    have X:bz (λq=>y.heap.size<=q) r.drew (n.right i) ⟨aM c.a 1 (i+1) c.cap,c.len-(i+1),c.cap-(i+1)⟩ bc ⟨aM ax.a 1 (i+1) ax.cap,ax.len-(i+1),ax.cap-(i+1)⟩:=by
     rw[j];refine⟨?_,bj.none _ _,?_⟩
     .have:=bj.sub o.keys (lo:=i+1) (hi:=c.len) I I
      rwa[dD (by rw[c5];omega)]at this
     .have:=cH.sub o.kids (lo:=i+1) (hi:=ax.len) I I
      rwa[dD (by rw[c5];omega)]at this
    have Z:=eM W (by rw[g];show(n.keys.take i).length<=_;rw[cy];omega) (by rw[g];simp) (by rw[g];show(n.kids.take (i+1)).length<=_;rw[cy];omega) (by rw[g];exact λk l=>E k (fa l)) (by rw[g];simp);have ab:(.agg #[false,.slice (aM c.a 1 0 c.cap) i c.cap,(),.slice (aM ax.a 1 0 ax.cap) (i+1) ax.cap]:aa)=cW (n.left i) ⟨aM c.a 1 0 c.cap,i,c.cap⟩ bc ⟨aM ax.a 1 0 ax.cap,i+1,ax.cap⟩:=by rw[g];rfl
    have ac:(.agg #[false,.slice (aM c.a 1 (i+1) c.cap) (c.len-(i+1)) (c.cap-(i+1)),(),.slice (aM ax.a 1 (i+1) ax.cap) (ax.len-(i+1)) (ax.cap-(i+1))]:aa)=cW (n.right i) ⟨aM c.a 1 (i+1) c.cap,c.len-(i+1),c.cap-(i+1)⟩ bc ⟨aM ax.a 1 (i+1) ax.cap,ax.len-(i+1),ax.cap-(i+1)⟩:=by rw[j];rfl
    rw[ab,ac];refine Z.use ?_;rintro _ a4 ⟨c7,dt,bm,a5,a6,a8,rfl,ah,u⟩;have ak:=eM (X.ext u) (by rw[j];show(n.keys.drop (i+1)).length<=_;rw[c5];omega) (by rw[j];simp) (by rw[j];show(n.kids.drop (i+1)).length<=_;rw[c5];omega) (by rw[j];exact λk l=>E k (e_ l)) (by rw[j];simp);refine⟨_,c7,dt,bm,rfl,ad.cF u,ak.use ?_⟩;rintro _ a9 ⟨cD,cN,cn,a_,ba,bb,rfl,al,z⟩;have v:=u.trans z;have be:=u.size;have bg:=s.size;refine⟨_,cD,cN,cn,rfl,ad.cF z,p5 (b5:=(n.left i).leaf) (bM:=(n.right i).leaf) (c7:=c7) (dt:=dt) (bm:=bm) (cD:=cD) (cN:=cN) (cn:=cn) ((aG.ext s).ext v) ((aH.ext s).ext v) rfl rfl I (λq f=>f) (Q:=λb5 c7 dt bm bM cD cN cn w'=>ow n w (.tuple #[.agg #[b5,c7,dt,bm],tk,.agg #[bM,cD,cN,cn],true]) w') λbh x=>?_⟩;have bi:r.drew.heap.size=r.heap.size:=rfl;refine⟨c7,dt,bm,cD,cN,cn,tk,by rw[←hi];rfl,?_,?_,?_,?_⟩
    .rw[←hi];exact((ah.at.ext z).ae x λq f e=>I).aW λq _ f=>by omega
    .rw[←hi];exact(al.at.ae x λq f e=>I).aW λq _ f=>by omega
    .rw[←hi,aP]
     have am:∀q,az tk q->F.heap.size<=q:=aO;exact aY.iG (aY.ext (aY.ext aL T) v) x λq f e=>by have:=am q f;omega
    .exact Ext.dr (N.trans (s.trans v)) x λq f=>by omega
  .refine bd (vs:=[false,(),(),()]) rfl λbt bZ G cd=>⟨G,?_⟩
   refine(mY (h.ext (au.trans (P.trans G))) hs bo (most:=most) aQ.2.1).use ?_;rintro _ bB ⟨rfl,H⟩;have aA:=bZ.ext H;refine⟨_,rfl,H,aA.b9 rfl (fG _ _ _ _),rfl,cu aA (us:=[n.leaf,c,d,ax]) rfl rfl λF aD C bE=>?_⟩;have bX:=P.size;have bD:=H.size;obtain⟨aC,aV⟩:∃aC,aC=bA.heap.size:=⟨_,rfl⟩;rw[←aV]at aD C⊢;have M:=P.trans (G.trans H);have R:e0 y.heap.size F n c d ax bP b2 bG:=(aw.ext (G.trans H)).ae C λq _ _ f e=>by
    subst e;rcases f with f|f|f
    .have:=(aw.bf _ f).2.1;omega
    .have:=(aw.bv _ f).2.1;omega
    .have:=(aw.aK _ f).2;omega
   have bF:y.drew.heap.size=y.heap.size:=rfl;have N:Ext w F:=Ext.cm (au.trans M) C I;have aE:=(bn.ext M).ae C I;have aG:=(br.ext M).ae C I;have aH:=(bs.ext M).ae C I;have aX:gl (cellsOf n) most=cf n:=by unfold cf;rw[ap]
   rw[aX];obtain⟨i,hi⟩:∃i,i=cf n:=⟨_,rfl⟩;rw[←hi]at O aQ dG;rw[←hi];obtain⟨aI,aJ,a0,a1⟩:=bC aE;obtain⟨A,t,aq,a2,hc,ht,_⟩:=bj.at (h.ext N).keys O;refine⟨K,aJ,A,aq,a2,t,hc,(kr (B:=λq=>w.heap.size<=q) ht.1 (by have:=E _ (cA O);omega) (λq f=>ew N.size f)).use ?_⟩;rintro _ r ⟨tk,rfl,aL,S,aO⟩;have T:=b4 r;obtain⟨aI,aJ,a0,a1⟩:=bC (aE.ext S);have s:=S.trans T;obtain⟨f0,f1,f2,f3⟩:=bC (aD.ext s);have o:=R.at.ext s;have bH:=bj.len o.keys;have bI:=bj.len o.vals;have bJ:=cH.len o.kids;have bK:=bj.le (bp.iH R.keys);have bL:=bj.le (bp.iH R.vals);have bN:ax.len<=ax.cap:=o.kids.2.1;have bO:F.heap.size<=r.heap.size:=S.size;have aP:n.keys.getD i []=n.keys[i]:=ff O;refine⟨tk,rfl,n.leaf,aI,λp=>aS ⟨λq=>q=w1.heap.size,λe=>?_,c,f1,⟨I,I⟩,λe=>?_,d,f2,⟨I,?_⟩,#[true,.slice (aM c.a 1 0 c.cap) i c.cap,.slice (aM d.a 1 0 d.cap) i d.cap,()],(λw=>by kernel_rfl),λe=>?_,c,f1,⟨I,I⟩,λe=>?_,d,f2,⟨I,?_⟩,#[true,.slice (aM c.a 1 i c.cap) (c.len-i) (c.cap-i),.slice (aM d.a 1 i d.cap) (d.len-i) (d.cap-i),()],(λw=>by kernel_rfl),?_⟩,λp=>?_⟩
   .rw[av]at e;have e:aC=w1.heap.size:=e;omega
   .rw[av]at e;have e:aC=w1.heap.size:=e;omega
   .have:=hs.k2 p;omega
   .rw[av]at e;have e:aC=w1.heap.size:=e;omega
   .rw[av]at e;have e:aC=w1.heap.size:=e;omega
   .have:=hs.k2 p;omega
   .have a3:=hs.k2 p
    have g:n.left i=⟨true,n.keys.take i,n.vals.take i,[]⟩:=by unfold aB.left;rw[p];rfl
    have j:n.right i=⟨true,n.keys.drop i,n.vals.drop i,[]⟩:=by unfold aB.right;rw[p];rfl
    have W:bz (λq=>y.heap.size<=q) r.drew (n.left i) ⟨aM c.a 1 0 c.cap,i,c.cap⟩ ⟨aM d.a 1 0 d.cap,i,d.cap⟩ bc:=by
     rw[g];refine⟨?_,?_,cH.none _ _⟩
     .have:=bj.sub o.keys (lo:=0) (hi:=i) I I
      simpa using this
     .have:=bj.sub o.vals (lo:=0) (hi:=i) I I
      simpa using this
    have X:bz (λq=>y.heap.size<=q) r.drew (n.right i) ⟨aM c.a 1 i c.cap,c.len-i,c.cap-i⟩ ⟨aM d.a 1 i d.cap,d.len-i,d.cap-i⟩ bc:=by
     rw[j];refine⟨?_,?_,cH.none _ _⟩
     .have:=bj.sub o.keys (lo:=i) (hi:=c.len) I I
      rwa[dD (by rw[c5];omega)]at this
     .have:=bj.sub o.vals (lo:=i) (hi:=d.len) I I
      rwa[dD (by rw[c5];omega)]at this
    have Z:=eM W (by rw[g];show(n.keys.take i).length<=_;rw[cy];omega) (by rw[g];show(n.vals.take i).length<=_;rw[cy];omega) (by rw[g];simp) (by rw[g];exact λk l=>E k (fa l)) (by rw[g];exact λk l=>ao k (fa l));have ab:(.agg #[true,.slice (aM c.a 1 0 c.cap) i c.cap,.slice (aM d.a 1 0 d.cap) i d.cap,()]:aa)=cW (n.left i) ⟨aM c.a 1 0 c.cap,i,c.cap⟩ ⟨aM d.a 1 0 d.cap,i,d.cap⟩ bc:=by rw[g];rfl
    have ac:(.agg #[true,.slice (aM c.a 1 i c.cap) (c.len-i) (c.cap-i),.slice (aM d.a 1 i d.cap) (d.len-i) (d.cap-i),()]:aa)=cW (n.right i) ⟨aM c.a 1 i c.cap,c.len-i,c.cap-i⟩ ⟨aM d.a 1 i d.cap,d.len-i,d.cap-i⟩ bc:=by rw[j];rfl
    rw[ab,ac];refine Z.use ?_;rintro _ a4 ⟨c7,dt,bm,a5,a6,a8,rfl,ah,u⟩;have ak:=eM (X.ext u) (by rw[j];show(n.keys.drop i).length<=_;rw[c5];omega) (by rw[j];show(n.vals.drop i).length<=_;rw[c5];omega) (by rw[j];simp) (by rw[j];exact λk l=>E k (e_ l)) (by rw[j];exact λk l=>ao k (e_ l));refine⟨_,c7,dt,bm,rfl,ad.cF u,ak.use ?_⟩;rintro _ a9 ⟨cD,cN,cn,a_,ba,bb,rfl,al,z⟩;have v:=u.trans z;have be:=u.size;have bg:=s.size;refine⟨_,cD,cN,cn,rfl,ad.cF z,p5 (b5:=(n.left i).leaf) (bM:=(n.right i).leaf) (c7:=c7) (dt:=dt) (bm:=bm) (cD:=cD) (cN:=cN) (cn:=cn) ((aG.ext s).ext v) ((aH.ext s).ext v) rfl rfl I (λq f=>f) (Q:=λb5 c7 dt bm bM cD cN cn w'=>ow n w (.tuple #[.agg #[b5,c7,dt,bm],tk,.agg #[bM,cD,cN,cn],true]) w') λbh x=>?_⟩;have bi:r.drew.heap.size=r.heap.size:=rfl;refine⟨c7,dt,bm,cD,cN,cn,tk,by rw[←hi];rfl,?_,?_,?_,?_⟩
    .rw[←hi];exact((ah.at.ext z).ae x λq f e=>I).aW λq _ f=>by omega
    .rw[←hi];exact(al.at.ae x λq f e=>I).aW λq _ f=>by omega
    .rw[←hi,aP]
     have am:∀q,az tk q->F.heap.size<=q:=aO;exact aY.iG (aY.ext (aY.ext aL T) v) x λq f e=>by have:=am q f;omega
    .exact Ext.dr (N.trans (s.trans v)) x λq f=>by omega
   .have a3:=hs.p2 p
    have bQ:i<=n.keys.length-2/\1<=n.keys.length-2:=by rw[p,←hi]at L;simpa using L
    have bk:IntKind.wrap .i64 ((i:Int)+1)=((i+1:Nat):Int):=by rw[bu I I];rfl
    rw[bk];refine aS ⟨λq=>q=w1.heap.size,λe=>?_,c,f1,⟨I,I⟩,λe=>?_,ax,f3,⟨I,I⟩,#[false,.slice (aM c.a 1 0 c.cap) i c.cap,(),.slice (aM ax.a 1 0 ax.cap) (i+1) ax.cap],(λw=>by kernel_rfl),λe=>?_,c,f1,⟨I,I⟩,λe=>?_,ax,f3,⟨I,I⟩,#[false,.slice (aM c.a 1 (i+1) c.cap) (c.len-(i+1)) (c.cap-(i+1)),(),.slice (aM ax.a 1 (i+1) ax.cap) (ax.len-(i+1)) (ax.cap-(i+1))],(λw=>by kernel_rfl),?_⟩
    .rw[av]at e;have e:aC=w1.heap.size:=e;omega
    .rw[av]at e;have e:aC=w1.heap.size:=e;omega
    .rw[av]at e;have e:aC=w1.heap.size:=e;omega
    .rw[av]at e;have e:aC=w1.heap.size:=e;omega
    have g:n.left i=⟨false,n.keys.take i,[],n.kids.take (i+1)⟩:=by unfold aB.left;rw[p];rfl
    have j:n.right i=⟨false,n.keys.drop (i+1),[],n.kids.drop (i+1)⟩:=by unfold aB.right;rw[p];rfl
    have W:bz (λq=>y.heap.size<=q) r.drew (n.left i) ⟨aM c.a 1 0 c.cap,i,c.cap⟩ bc ⟨aM ax.a 1 0 ax.cap,i+1,ax.cap⟩:=by
     rw[g];refine⟨?_,bj.none _ _,?_⟩
     .have:=bj.sub o.keys (lo:=0) (hi:=i) I I
      simpa using this
     .have:=cH.sub o.kids (lo:=0) (hi:=i+1) I I
      simpa using this
    have X:bz (λq=>y.heap.size<=q) r.drew (n.right i) ⟨aM c.a 1 (i+1) c.cap,c.len-(i+1),c.cap-(i+1)⟩ bc ⟨aM ax.a 1 (i+1) ax.cap,ax.len-(i+1),ax.cap-(i+1)⟩:=by
     rw[j];refine⟨?_,bj.none _ _,?_⟩
     .have:=bj.sub o.keys (lo:=i+1) (hi:=c.len) I I
      rwa[dD (by rw[c5];omega)]at this
     .have:=cH.sub o.kids (lo:=i+1) (hi:=ax.len) I I
      rwa[dD (by rw[c5];omega)]at this
    have Z:=eM W (by rw[g];show(n.keys.take i).length<=_;rw[cy];omega) (by rw[g];simp) (by rw[g];show(n.kids.take (i+1)).length<=_;rw[cy];omega) (by rw[g];exact λk l=>E k (fa l)) (by rw[g];simp);have ab:(.agg #[false,.slice (aM c.a 1 0 c.cap) i c.cap,(),.slice (aM ax.a 1 0 ax.cap) (i+1) ax.cap]:aa)=cW (n.left i) ⟨aM c.a 1 0 c.cap,i,c.cap⟩ bc ⟨aM ax.a 1 0 ax.cap,i+1,ax.cap⟩:=by rw[g];rfl
    have ac:(.agg #[false,.slice (aM c.a 1 (i+1) c.cap) (c.len-(i+1)) (c.cap-(i+1)),(),.slice (aM ax.a 1 (i+1) ax.cap) (ax.len-(i+1)) (ax.cap-(i+1))]:aa)=cW (n.right i) ⟨aM c.a 1 (i+1) c.cap,c.len-(i+1),c.cap-(i+1)⟩ bc ⟨aM ax.a 1 (i+1) ax.cap,ax.len-(i+1),ax.cap-(i+1)⟩:=by rw[j];rfl
    rw[ab,ac];refine Z.use ?_;rintro _ a4 ⟨c7,dt,bm,a5,a6,a8,rfl,ah,u⟩;have ak:=eM (X.ext u) (by rw[j];show(n.keys.drop (i+1)).length<=_;rw[c5];omega) (by rw[j];simp) (by rw[j];show(n.kids.drop (i+1)).length<=_;rw[c5];omega) (by rw[j];exact λk l=>E k (e_ l)) (by rw[j];simp);refine⟨_,c7,dt,bm,rfl,ad.cF u,ak.use ?_⟩;rintro _ a9 ⟨cD,cN,cn,a_,ba,bb,rfl,al,z⟩;have v:=u.trans z;have be:=u.size;have bg:=s.size;refine⟨_,cD,cN,cn,rfl,ad.cF z,p5 (b5:=(n.left i).leaf) (bM:=(n.right i).leaf) (c7:=c7) (dt:=dt) (bm:=bm) (cD:=cD) (cN:=cN) (cn:=cn) ((aG.ext s).ext v) ((aH.ext s).ext v) rfl rfl I (λq f=>f) (Q:=λb5 c7 dt bm bM cD cN cn w'=>ow n w (.tuple #[.agg #[b5,c7,dt,bm],tk,.agg #[bM,cD,cN,cn],true]) w') λbh x=>?_⟩;have bi:r.drew.heap.size=r.heap.size:=rfl;refine⟨c7,dt,bm,cD,cN,cn,tk,by rw[←hi];rfl,?_,?_,?_,?_⟩
    .rw[←hi];exact((ah.at.ext z).ae x λq f e=>I).aW λq _ f=>by omega
    .rw[←hi];exact(al.at.ae x λq f e=>I).aW λq _ f=>by omega
    .rw[←hi,aP]
     have am:∀q,az tk q->F.heap.size<=q:=aO;exact aY.iG (aY.ext (aY.ext aL T) v) x λq f e=>by have:=am q f;omega
    .exact Ext.dr (N.trans (s.trans v)) x λq f=>by omega
 .refine bd (vs:=[false,(),(),()]) rfl λbA b0 P ce=>⟨P,?_⟩
  refine(eM (h.ext (au.trans P)) I I I E ao).use ?_;rintro _ bt ⟨c,d,ax,bP,b2,bG,rfl,b3,G⟩;refine⟨n.leaf,c,d,ax,rfl,G,(mY (h.ext (au.trans (P.trans G))) hs bo (most:=most) aQ.2.1).use ?_⟩;rintro _ bB ⟨rfl,H⟩;have aA:=b0.ext (G.trans H);refine⟨_,rfl,H,aA.b9 rfl (fG _ _ _ _),rfl,cu aA (us:=[n.leaf,c,d,ax]) rfl rfl λF aD C bE=>?_⟩;have bY:=G.size;have bD:=H.size;have bF:y.drew.heap.size=y.heap.size:=rfl;obtain⟨aC,aV⟩:∃aC,aC=y.drew.heap.size:=⟨_,rfl⟩;rw[←aV]at aD C⊢;have M:=P.trans (G.trans H);have R:e0 y.heap.size F n c d ax bP b2 bG:=((b3.ext H).ae C λq h1 _ _ e=>I).low I;have N:Ext w F:=Ext.cm (au.trans M) C I;have aE:=(bn.ext M).ae C I;have aG:=(br.ext M).ae C I;have aH:=(bs.ext M).ae C I;have aX:gl (cellsOf n) most=cf n:=by unfold cf;rw[ap]
  rw[aX];obtain⟨i,hi⟩:∃i,i=cf n:=⟨_,rfl⟩;rw[←hi]at O aQ dG;rw[←hi];obtain⟨aI,aJ,a0,a1⟩:=bC aE;obtain⟨A,t,aq,a2,hc,ht,_⟩:=bj.at (h.ext N).keys O;refine⟨K,aJ,A,aq,a2,t,hc,(kr (B:=λq=>w.heap.size<=q) ht.1 (by have:=E _ (cA O);omega) (λq f=>ew N.size f)).use ?_⟩;rintro _ r ⟨tk,rfl,aL,S,aO⟩;have T:=b4 r;obtain⟨aI,aJ,a0,a1⟩:=bC (aE.ext S);have s:=S.trans T;obtain⟨f0,f1,f2,f3⟩:=bC (aD.ext s);have o:=R.at.ext s;have bH:=bj.len o.keys;have bI:=bj.len o.vals;have bJ:=cH.len o.kids;have bK:=bj.le (bp.iH R.keys);have bL:=bj.le (bp.iH R.vals);have bN:ax.len<=ax.cap:=o.kids.2.1;have bO:F.heap.size<=r.heap.size:=S.size;have aP:n.keys.getD i []=n.keys[i]:=ff O;refine⟨tk,rfl,n.leaf,aI,λp=>aS ⟨λq=>q=w1.heap.size,λe=>?_,c,f1,⟨I,I⟩,λe=>?_,d,f2,⟨I,?_⟩,#[true,.slice (aM c.a 1 0 c.cap) i c.cap,.slice (aM d.a 1 0 d.cap) i d.cap,()],(λw=>by kernel_rfl),λe=>?_,c,f1,⟨I,I⟩,λe=>?_,d,f2,⟨I,?_⟩,#[true,.slice (aM c.a 1 i c.cap) (c.len-i) (c.cap-i),.slice (aM d.a 1 i d.cap) (d.len-i) (d.cap-i),()],(λw=>by kernel_rfl),?_⟩,λp=>?_⟩
  .rw[av]at e;have e:aC=w1.heap.size:=e;omega
  .rw[av]at e;have e:aC=w1.heap.size:=e;omega
  .have:=hs.k2 p;omega
  .rw[av]at e;have e:aC=w1.heap.size:=e;omega
  .rw[av]at e;have e:aC=w1.heap.size:=e;omega
  .have:=hs.k2 p;omega
  .have a3:=hs.k2 p
   have g:n.left i=⟨true,n.keys.take i,n.vals.take i,[]⟩:=by unfold aB.left;rw[p];rfl
   have j:n.right i=⟨true,n.keys.drop i,n.vals.drop i,[]⟩:=by unfold aB.right;rw[p];rfl
   have W:bz (λq=>y.heap.size<=q) r.drew (n.left i) ⟨aM c.a 1 0 c.cap,i,c.cap⟩ ⟨aM d.a 1 0 d.cap,i,d.cap⟩ bc:=by
    rw[g];refine⟨?_,?_,cH.none _ _⟩
    .have:=bj.sub o.keys (lo:=0) (hi:=i) I I
     simpa using this
    .have:=bj.sub o.vals (lo:=0) (hi:=i) I I
     simpa using this
   have X:bz (λq=>y.heap.size<=q) r.drew (n.right i) ⟨aM c.a 1 i c.cap,c.len-i,c.cap-i⟩ ⟨aM d.a 1 i d.cap,d.len-i,d.cap-i⟩ bc:=by
    rw[j];refine⟨?_,?_,cH.none _ _⟩
    .have:=bj.sub o.keys (lo:=i) (hi:=c.len) I I
     rwa[dD (by rw[c5];omega)]at this
    .have:=bj.sub o.vals (lo:=i) (hi:=d.len) I I
     rwa[dD (by rw[c5];omega)]at this
   have Z:=eM W (by rw[g];show(n.keys.take i).length<=_;rw[cy];omega) (by rw[g];show(n.vals.take i).length<=_;rw[cy];omega) (by rw[g];simp) (by rw[g];exact λk l=>E k (fa l)) (by rw[g];exact λk l=>ao k (fa l));have ab:(.agg #[true,.slice (aM c.a 1 0 c.cap) i c.cap,.slice (aM d.a 1 0 d.cap) i d.cap,()]:aa)=cW (n.left i) ⟨aM c.a 1 0 c.cap,i,c.cap⟩ ⟨aM d.a 1 0 d.cap,i,d.cap⟩ bc:=by rw[g];rfl
   have ac:(.agg #[true,.slice (aM c.a 1 i c.cap) (c.len-i) (c.cap-i),.slice (aM d.a 1 i d.cap) (d.len-i) (d.cap-i),()]:aa)=cW (n.right i) ⟨aM c.a 1 i c.cap,c.len-i,c.cap-i⟩ ⟨aM d.a 1 i d.cap,d.len-i,d.cap-i⟩ bc:=by rw[j];rfl
   rw[ab,ac];refine Z.use ?_;rintro _ a4 ⟨c7,dt,bm,a5,a6,a8,rfl,ah,u⟩;have ak:=eM (X.ext u) (by rw[j];show(n.keys.drop i).length<=_;rw[c5];omega) (by rw[j];show(n.vals.drop i).length<=_;rw[c5];omega) (by rw[j];simp) (by rw[j];exact λk l=>E k (e_ l)) (by rw[j];exact λk l=>ao k (e_ l));refine⟨_,c7,dt,bm,rfl,ad.cF u,ak.use ?_⟩;rintro _ a9 ⟨cD,cN,cn,a_,ba,bb,rfl,al,z⟩;have v:=u.trans z;have be:=u.size;have bg:=s.size;refine⟨_,cD,cN,cn,rfl,ad.cF z,p5 (b5:=(n.left i).leaf) (bM:=(n.right i).leaf) (c7:=c7) (dt:=dt) (bm:=bm) (cD:=cD) (cN:=cN) (cn:=cn) ((aG.ext s).ext v) ((aH.ext s).ext v) rfl rfl I (λq f=>f) (Q:=λb5 c7 dt bm bM cD cN cn w'=>ow n w (.tuple #[.agg #[b5,c7,dt,bm],tk,.agg #[bM,cD,cN,cn],true]) w') λbh x=>?_⟩;have bi:r.drew.heap.size=r.heap.size:=rfl;refine⟨c7,dt,bm,cD,cN,cn,tk,by rw[←hi];rfl,?_,?_,?_,?_⟩
   .rw[←hi];exact((ah.at.ext z).ae x λq f e=>I).aW λq _ f=>by omega
   .rw[←hi];exact(al.at.ae x λq f e=>I).aW λq _ f=>by omega
   .rw[←hi,aP]
    have am:∀q,az tk q->F.heap.size<=q:=aO;exact aY.iG (aY.ext (aY.ext aL T) v) x λq f e=>by have:=am q f;omega
   .exact Ext.dr (N.trans (s.trans v)) x λq f=>by omega
  .have a3:=hs.p2 p
   have bQ:i<=n.keys.length-2/\1<=n.keys.length-2:=by rw[p,←hi]at L;simpa using L
   have bk:IntKind.wrap .i64 ((i:Int)+1)=((i+1:Nat):Int):=by rw[bu I I];rfl
   rw[bk];refine aS ⟨λq=>q=w1.heap.size,λe=>?_,c,f1,⟨I,I⟩,λe=>?_,ax,f3,⟨I,I⟩,#[false,.slice (aM c.a 1 0 c.cap) i c.cap,(),.slice (aM ax.a 1 0 ax.cap) (i+1) ax.cap],(λw=>by kernel_rfl),λe=>?_,c,f1,⟨I,I⟩,λe=>?_,ax,f3,⟨I,I⟩,#[false,.slice (aM c.a 1 (i+1) c.cap) (c.len-(i+1)) (c.cap-(i+1)),(),.slice (aM ax.a 1 (i+1) ax.cap) (ax.len-(i+1)) (ax.cap-(i+1))],(λw=>by kernel_rfl),?_⟩
   .rw[av]at e;have e:aC=w1.heap.size:=e;omega
   .rw[av]at e;have e:aC=w1.heap.size:=e;omega
   .rw[av]at e;have e:aC=w1.heap.size:=e;omega
   .rw[av]at e;have e:aC=w1.heap.size:=e;omega
   have g:n.left i=⟨false,n.keys.take i,[],n.kids.take (i+1)⟩:=by unfold aB.left;rw[p];rfl
   have j:n.right i=⟨false,n.keys.drop (i+1),[],n.kids.drop (i+1)⟩:=by unfold aB.right;rw[p];rfl
   have W:bz (λq=>y.heap.size<=q) r.drew (n.left i) ⟨aM c.a 1 0 c.cap,i,c.cap⟩ bc ⟨aM ax.a 1 0 ax.cap,i+1,ax.cap⟩:=by
    rw[g];refine⟨?_,bj.none _ _,?_⟩
    .have:=bj.sub o.keys (lo:=0) (hi:=i) I I
     simpa using this
    .have:=cH.sub o.kids (lo:=0) (hi:=i+1) I I
     simpa using this
   have X:bz (λq=>y.heap.size<=q) r.drew (n.right i) ⟨aM c.a 1 (i+1) c.cap,c.len-(i+1),c.cap-(i+1)⟩ bc ⟨aM ax.a 1 (i+1) ax.cap,ax.len-(i+1),ax.cap-(i+1)⟩:=by
    rw[j];refine⟨?_,bj.none _ _,?_⟩
    .have:=bj.sub o.keys (lo:=i+1) (hi:=c.len) I I
     rwa[dD (by rw[c5];omega)]at this
    .have:=cH.sub o.kids (lo:=i+1) (hi:=ax.len) I I
     rwa[dD (by rw[c5];omega)]at this
   have Z:=eM W (by rw[g];show(n.keys.take i).length<=_;rw[cy];omega) (by rw[g];simp) (by rw[g];show(n.kids.take (i+1)).length<=_;rw[cy];omega) (by rw[g];exact λk l=>E k (fa l)) (by rw[g];simp);have ab:(.agg #[false,.slice (aM c.a 1 0 c.cap) i c.cap,(),.slice (aM ax.a 1 0 ax.cap) (i+1) ax.cap]:aa)=cW (n.left i) ⟨aM c.a 1 0 c.cap,i,c.cap⟩ bc ⟨aM ax.a 1 0 ax.cap,i+1,ax.cap⟩:=by rw[g];rfl
   have ac:(.agg #[false,.slice (aM c.a 1 (i+1) c.cap) (c.len-(i+1)) (c.cap-(i+1)),(),.slice (aM ax.a 1 (i+1) ax.cap) (ax.len-(i+1)) (ax.cap-(i+1))]:aa)=cW (n.right i) ⟨aM c.a 1 (i+1) c.cap,c.len-(i+1),c.cap-(i+1)⟩ bc ⟨aM ax.a 1 (i+1) ax.cap,ax.len-(i+1),ax.cap-(i+1)⟩:=by rw[j];rfl
   rw[ab,ac];refine Z.use ?_;rintro _ a4 ⟨c7,dt,bm,a5,a6,a8,rfl,ah,u⟩;have ak:=eM (X.ext u) (by rw[j];show(n.keys.drop (i+1)).length<=_;rw[c5];omega) (by rw[j];simp) (by rw[j];show(n.kids.drop (i+1)).length<=_;rw[c5];omega) (by rw[j];exact λk l=>E k (e_ l)) (by rw[j];simp);refine⟨_,c7,dt,bm,rfl,ad.cF u,ak.use ?_⟩;rintro _ a9 ⟨cD,cN,cn,a_,ba,bb,rfl,al,z⟩;have v:=u.trans z;have be:=u.size;have bg:=s.size;refine⟨_,cD,cN,cn,rfl,ad.cF z,p5 (b5:=(n.left i).leaf) (bM:=(n.right i).leaf) (c7:=c7) (dt:=dt) (bm:=bm) (cD:=cD) (cN:=cN) (cn:=cn) ((aG.ext s).ext v) ((aH.ext s).ext v) rfl rfl I (λq f=>f) (Q:=λb5 c7 dt bm bM cD cN cn w'=>ow n w (.tuple #[.agg #[b5,c7,dt,bm],tk,.agg #[bM,cD,cN,cn],true]) w') λbh x=>?_⟩;have bi:r.drew.heap.size=r.heap.size:=rfl;refine⟨c7,dt,bm,cD,cN,cn,tk,by rw[←hi];rfl,?_,?_,?_,?_⟩
   .rw[←hi];exact((ah.at.ext z).ae x λq f e=>I).aW λq _ f=>by omega
   .rw[←hi];exact(al.at.ae x λq f e=>I).aW λq _ f=>by omega
   .rw[←hi,aP]
    have am:∀q,az tk q->F.heap.size<=q:=aO;exact aY.iG (aY.ext (aY.ext aL T) v) x λq f e=>by have:=am q f;omega
   .exact Ext.dr (N.trans (s.trans v)) x λq f=>by omega
theorem xT{B C:Nat->Prop}{w:J}{s x:Y}{ls xs:O Key}(l:bp B w s ls)(hx:bj C w x xs)(hd:∀q,C q->¬az s q)(v:ls.length<=100000)(y:xs.length<=100000):
 ∃ (d:Y) (w':J),Sem.run aj (Builtin.append_ #[127,127] 127 #[s,x]) w=.ok d w'/\bj (λq=>B q\/C q\/w.heap.size<=q) w' d (ls++xs)/\ad (az s) w w':=by
 have z:=bj.len hx;obtain⟨ts,h1,h2,m,n⟩:=l;obtain⟨us,au,aw,A,D,o⟩:=hx;have E:s.len=ls.length:=by have:=h2.1;rw[dN]at this;omega
 obtain⟨d,w',p,f,F,g,r⟩:=p0.append (cG:=127) aw h2 (vz us) I;refine⟨d,w',p,⟨ts++us,by simp[h1,au],?_,f.2.1,?_,λi t G=>?_⟩,g⟩
 .rw[fV];exact f.src
 .intro k c
  refine⟨?_,f.lt k c⟩;rcases r k c with h|h
  .exact .inl (m k h).1
  .exact .inr (.inr h)
 .rcases dC i ts.length with h|h
  .have j:i<ls.length:=by omega
   rw[lS h,lS j];obtain⟨a,b⟩:=n i h j;exact aY.aW (aY.iG a g b) λk _ c=>.inl c
  .have u:i-ts.length<us.length:=by rw[ct]at t;omega
   have H:i-ls.length<xs.length:=by omega
   rw[nu h,nu I];have e:i-ls.length=i-ts.length:=by omega
   have a:=o (i-ts.length) u I;simp only[e];exact aY.aW (aY.iG a g λk c=>hd k (a.2.2 k c).1) λk _ c=>.inr (.inl c)
theorem Bd{B C:Nat->Prop}{w:J}{s x:Y}{ds es:O Nat}(d:cO B w s ds)(hx:cH C w x es)(i:ds.length<=100000)(j:es.length<=100000):
 ∃ (a:Y) (w':J),Sem.run aj (Builtin.append_ #[58,58] 58 #[s,x]) w=.ok a w'/\cH (λq=>B q\/C q\/w.heap.size<=q) w' a (ds++es)/\ad (az s) w w':=by
 have l:=cH.len hx;obtain⟨h1,h2⟩:=d;have m:s.len=ds.length:=by have:=h1.1;rw[m_]at this;omega
 obtain⟨a,w',e,b,n,f,g⟩:=p1.append (cG:=58) hx.1 h1 (xK es) I;refine⟨a,w',e,⟨?_,b.2.1,?_⟩,f⟩
 .have:dR ds++dR es=dR (ds++es):=by simp[dR]
  rw[this]at b;exact b.src
 .intro k c
  refine⟨?_,b.lt k c⟩;rcases g k c with h|h
  .exact .inl (h2 k h).1
  .exact .inr (.inr h)
def Be(pa b aC c:Nat)(key:Y)(G:J)(Q:aa->J->Prop):Prop:=
 bo (λR:J->Prop=>∃H:ah,G.cell? pa=some (.bool H)/\((!H)=true->ak (G.drew) λI=>∃K:Nat->Prop,¬K (Addr.add b 1).block/\∃k:Y,I.cell? (Addr.add b 1)=some (.slice k.a k.len k.cap)/\Calls aj 135 #[key] I λae l=>∃S:Y,ae=.returned S/\ad K I l/\ak (l.alloc (.cells #[S] 48)) λT=>ad K l T/\∃U:Y,∃m:J,Sem.run aj (Builtin.append_ #[127,127] 127 #[k,.slice (some l.heap.size) 1 1]) T=.ok U m/\(∃u:aa,m.cell? (Addr.add b 1)=some u)/\m.frozen? (Addr.add b 1)=false/\ak (m.setCell (Addr.add b 1) U) λaf=>R af)/\((!H)=false->R G)) (λ(L:J)=>∃n:Y,L.cell? (Addr.add b 1)=some (.slice n.a n.len n.cap)/\∃o:Y,L.cell? (Addr.add aC 1)=some (.slice o.a o.len o.cap)/\∃V:Y,∃p:J,Sem.run aj (Builtin.append_ #[127,127] 127 #[n,o]) L=.ok V p/\(∃u:aa,p.cell? (Addr.add b 1)=some u)/\p.frozen? (Addr.add b 1)=false/\ak (p.setCell (Addr.add b 1) V) λM=>∃q:Y,M.cell? (Addr.add b 2)=some (.slice q.a q.len q.cap)/\∃r:Y,M.cell? (Addr.add aC 2)=some (.slice r.a r.len r.cap)/\∃W:Y,∃s:J,Sem.run aj (Builtin.append_ #[127,127] 127 #[q,r]) M=.ok W s/\(∃u:aa,s.cell? (Addr.add b 2)=some u)/\s.frozen? (Addr.add b 2)=false/\ak (s.setCell (Addr.add b 2) W) λN=>∃t:Y,N.cell? (Addr.add b 3)=some (.slice t.a t.len t.cap)/\∃v:Y,N.cell? (Addr.add aC 3)=some (.slice v.a v.len v.cap)/\∃X:Y,∃w:J,Sem.run aj (Builtin.append_ #[58,58] 58 #[t,v]) N=.ok X w/\(∃u:aa,w.cell? (Addr.add b 3)=some u)/\w.frozen? (Addr.add b 3)=false/\ak (w.setCell (Addr.add b 3) X) λe=>∃Z:ah,e.cell? b=some (.bool Z)/\∃x:Y,e.cell? (Addr.add b 1)=some (.slice x.a x.len x.cap)/\∃y:Y,e.cell? (Addr.add b 2)=some (.slice y.a y.len y.cap)/\∃z:Y,e.cell? (Addr.add b 3)=some (.slice z.a z.len z.cap)/\Calls aj 203 #[.agg #[Z,x,y,z]] e λag d=>∃O:ah,ag=.returned O/\((!O)=true->bx d c [false,(),(),()]/\(4:Nat)=4/\ak (setCells d c 0 [false,(),(),()]) λf=>∃ab:ah,f.cell? c=some (.bool ab)/\∃A:Y,f.cell? (Addr.add c 1)=some (.slice A.a A.len A.cap)/\∃B:Y,f.cell? (Addr.add c 2)=some (.slice B.a B.len B.cap)/\∃C:Y,f.cell? (Addr.add c 3)=some (.slice C.a C.len C.cap)/\Q (.tuple #[.agg #[ab,A,B,C],false]) f)/\((!O)=false->∃P:ah,d.cell? b=some (.bool P)/\∃g:Y,d.cell? (Addr.add b 1)=some (.slice g.a g.len g.cap)/\∃h:Y,d.cell? (Addr.add b 2)=some (.slice h.a h.len h.cap)/\∃i:Y,d.cell? (Addr.add b 3)=some (.slice i.a i.len i.cap)/\bx d c [P,g,h,i]/\(4:Nat)=4/\ak (setCells d c 0 [P,g,h,i]) λj=>∃ac:ah,j.cell? c=some (.bool ac)/\∃D:Y,j.cell? (Addr.add c 1)=some (.slice D.a D.len D.cap)/\∃E:Y,j.cell? (Addr.add c 2)=some (.slice E.a E.len E.cap)/\∃F:Y,j.cell? (Addr.add c 3)=some (.slice F.a F.len F.cap)/\Q (.tuple #[.agg #[ac,D,E,F],true]) j))
theorem kt{lo pa d aC T:Nat}{key U t p ac af ah:Y}{w bV:J}{a b:aB}{s:Key}{bP b2 bG C:Nat->Prop}{aw:O aa}(a5:bV.cell? pa=some (.bool a.leaf))
 (aq:Var bV d [a.leaf,U,t,p] 202) (ax:Var bV aC [b.leaf,ac,af,ah] 202)
 (g:e0 lo bV a U t p bP b2 bG) (a6:bz C bV b ac af ah) (f:∀q,C q->lo<=q/\q<bV.heap.size/\q≠d/\q≠aC/\¬bP q/\¬b2 q/\¬bG q) (E:∀q,bP q\/b2 q\/bG q->q≠d/\q≠aC) (a7:lo<=d) (lb:lo<=aC) (ai:d≠aC)
 (a8:Var bV T aw 202) (a9:aw.length=4) (bE:T<lo) (a_:w.heap.size<=T) (u:Src 1 bV key (aG s)) (bF:s.length<=1000) (ba:Ext w bV) (hs:cC (dQ a s b)) (aA:a.leaf=b.leaf) (sa:cC a) (sb:cC b)
 (bR:a.keys.length<=10000) (bq:b.keys.length<=10000):Be pa d aC T key bV (ov (dQ a s b) w):=by
 unfold Be;have bH:=aq.lt;have bI:=ax.lt;have aD:∀ {n:aB},cC n->n.keys.length<=10000->n.vals.length<=10000/\n.kids.length<=10001:=λ{n} h1 h2=>by
  rcases h1 with h1|h1
  .rw[h1.len,h1.kids];exact⟨h2,cE _⟩
  .rw[h1.len,h1.vals];exact⟨cE _,I⟩
 obtain⟨bJ,bK⟩:=aD sa bR;obtain⟨lZ,bL⟩:=aD sb bq;have aE:hT lo bV d a U t p bP b2 bG:=⟨aq,g.keys,g.vals,g.kids,λq c=>⟨(g.bf q c).1,(g.bf q c).2.1,(E q (.inl c)).1,(g.bf q c).2.2⟩,λq c=>⟨(g.bv q c).1,(g.bv q c).2.1,(E q (.inr (.inl c))).1,(g.bv q c).2.2⟩,λq c=>⟨(g.aK q c).1,(g.aK q c).2,(E q (.inr (.inr c))).1⟩,a7⟩;refine hF (λw'=>∃ (K:Y) (W:Nat->Prop),hT lo w' d ⟨a.leaf,if a.leaf then a.keys else a.keys++ [s],a.vals,a.kids⟩ K t p W b2 bG/\ad (λq=>q=d\/bP q) bV w'/\(∀q,W q->bP q\/bV.heap.size<=q)) (λq c=>⟨_,a5,λx=>?_,λx=>c _ ⟨U,bP,?_,.refl _ _,λq h=>.inl h⟩⟩) ?_
 .have x:a.leaf=false:=by simpa using x
  refine xP aE u I I λw' bb W h1 h2 G=>c _ ⟨bb,W,?_,h2,G⟩;rw[if_neg (by rw[x];simp)];exact h1
 .have x:a.leaf=true:=by simpa using x
  rw[if_pos x];exact aE
 rintro w1 ⟨c7,aj,h1,H,aH⟩;have bM:=H.size;have aI:=ax.ae H (by
  rintro(h|h)
  .exact ai h.symm
  .exact(E _ (.inl h)).2 rfl)
 have aJ:=a6.ae H λq c h=>by
  have:=f q c;rcases h with h|h
  .exact this.2.2.1 h
  .exact this.2.2.2.2.1 h
 have bc:=a8.ae H (by
  rintro(h|h)
  .omega
  .have:=(g.bf _ h).1;omega)
 have bd:Ext w w1:=Ext.dr ba H λq c=>by
  rcases c with h|h
  .omega
  .have:=(g.bf _ h).1;omega
 obtain⟨L,X⟩:∃l,l=(if a.leaf then a.keys else a.keys++ [s]):=⟨_,rfl⟩;rw[←X]at h1;have bN:L.length<=10001:=by
  rw[X];split
  .omega
  .rw[ct];simp;omega
 obtain⟨bS,ay,aR,aF⟩:=bC h1.v;obtain⟨d0,d1,d2,d3⟩:=bC aI;have y:∀q,az c7 q->aj q:=λk u=>by obtain⟨ts,_,_,G,_⟩:=h1.keys;exact(G k u).1
 have ak:∀q,az t q->b2 q:=λk u=>by obtain⟨ts,_,_,G,_⟩:=h1.vals;exact(G k u).1
 have aL:∀q,az p q->bG q:=λk u=>(h1.kids.2 k u).1;have aM:∀q,C q->¬az c7 q:=λq c h=>by
  rcases aH q (y q h) with h2|h2
  .exact(f q c).2.2.2.2.1 h2
  .have:=(f q c).2.1;omega
 obtain⟨j,ag,M,N,r⟩:=xT h1.keys aJ.keys aM (by show L.length<=_;omega) I;have aN:=h1.v.ae r λh=>(h1.bf _ (y _ h)).2.2.1 rfl;obtain⟨P,R⟩:=dH aN (i:=1) (by simp);refine⟨c7,ay,ac,d1,j,ag,M,?_⟩;rw[av,av];refine⟨P,R,aS ?_⟩;obtain⟨m,al⟩:∃m,m=ag.setCell ⟨d,0+1,none⟩ j:=⟨_,rfl⟩;rw[←al];have aO:ad (λq=>q=d) ag m:=by rw[al];exact dn _ _ _ _
 have aP:Var m d [a.leaf,j,t,p] 202:=by rw[al];exact dJ aN _
 have eH:ad (λq=>q=d\/az c7 q) w1 m:=(r.mono λq _ h=>.inr h).trans (aO.mono λq _ h=>.inl h);have aQ:=aI.ae eH (by
  rintro(h|h)
  .exact ai h.symm
  .rcases aH _ (y _ h) with h2|h2
   .exact(E _ (.inl h2)).2 rfl
   .omega)
 have aT:=aJ.ae eH λq c h=>by
  rcases h with h|h
  .exact(f q c).2.2.1 h
  .exact aM q c h
 have be:=bp.ae h1.vals eH λq c h=>by
  rcases h with h|h
  .exact(h1.bv q c).2.2.1 h
  .exact(h1.bf q (y q h)).2.2.2.1 c
 have bg:=cO.ae h1.kids eH λq c h=>by
  rcases h with h|h
  .exact(h1.aK q c).2.2 h
  .exact(h1.bf q (y q h)).2.2.2.2 c
 have bh:=bc.ae eH (by
  rintro(h|h)
  .omega
  .have:=(h1.bf _ (y _ h)).1;omega)
 have bi:Ext w m:=Ext.dr bd eH λq c=>by
  rcases c with h|h
  .omega
  .have:=(h1.bf _ (y _ h)).1;omega
 have bk:bj (λq=>(aj q\/C q\/w1.heap.size<=q)/\q≠d) m j (L++b.keys):=by
  have am:bj (λq=>(aj q\/C q\/w1.heap.size<=q)/\q≠d) ag j (L++b.keys):=bj.aW N λq _ c=>⟨c,by
   rcases c with h|h|h
   .exact(h1.bf _ h).2.2.1
   .exact(f _ h).2.2.1
   .omega⟩
  exact bj.ae am aO λq c h=>c.2 h
 obtain⟨bS,ay,aR,aF⟩:=bC aP;obtain⟨d0,d1,d2,d3⟩:=bC aQ;have bO:=eH.size
 obtain⟨cq,Z,M,N,r⟩:=xT be aT.vals (λq c h=>(f q c).2.2.2.2.2.1 (ak q h)) (by show a.vals.length<=_;omega) I;have aU:=aP.ae r λh=>(h1.bv _ (ak _ h)).2.2.1 rfl;obtain⟨P,R⟩:=dH aU (i:=2) (by simp);rw[av]at aR d2;refine⟨t,aR,af,d2,cq,Z,M,?_⟩;rw[av,av];refine⟨P,R,aS ?_⟩;obtain⟨o,an⟩:∃o,o=Z.setCell ⟨d,0+2,none⟩ cq:=⟨_,rfl⟩;rw[←an];have aV:ad (λq=>q=d) Z o:=by rw[an];exact dn _ _ _ _
 have aX:Var o d [a.leaf,j,cq,p] 202:=by rw[an];exact dJ aU _
 have z:ad (λq=>q=d\/b2 q) m o:=(r.mono λq _ h=>.inr (ak q h)).trans (aV.mono λq _ h=>.inl h);have bl:=aQ.ae z (by
  rintro(h|h)
  .exact ai h.symm
  .exact(E _ (.inr (.inl h))).2 rfl)
 have bm:=aT.ae z λq c h=>by
  rcases h with h|h
  .exact(f q c).2.2.1 h
  .exact(f q c).2.2.2.2.2.1 h
 have bn:=bj.ae bk z λq c h=>by
  rcases h with h|h
  .exact c.2 h
  .rcases c.1 with h2|h2|h2
   .exact(h1.bf _ h2).2.2.2.1 h
   .exact(f _ h2).2.2.2.2.2.1 h
   .have:=(h1.bv _ h).2.1;omega
 have bo:=cO.ae bg z λq c h=>by
  rcases h with h|h
  .exact(h1.aK q c).2.2 h
  .exact(h1.bv q h).2.2.2 c
 have br:=bh.ae z (by
  rintro(h|h)
  .omega
  .have:=(h1.bv _ h).1;omega)
 have bs:Ext w o:=Ext.dr bi z λq c=>by
  rcases c with h|h
  .omega
  .have:=(h1.bv _ h).1;omega
 have bt:bj (λq=>(b2 q\/C q\/m.heap.size<=q)/\q≠d) o cq (a.vals++b.vals):=by
  have am:bj (λq=>(b2 q\/C q\/m.heap.size<=q)/\q≠d) Z cq (a.vals++b.vals):=bj.aW N λq _ c=>⟨c,by
   rcases c with h|h|h
   .exact(h1.bv _ h).2.2.1
   .exact(f _ h).2.2.1
   .omega⟩
  exact bj.ae am aV λq c h=>c.2 h
 obtain⟨bS,ay,aR,aF⟩:=bC aX;obtain⟨d0,d1,d2,d3⟩:=bC bl;have bQ:=z.size
 obtain⟨fC,ao,M,N,r⟩:=Bd bo bm.kids (by show a.kids.length<=_;omega) I;have aY:=aX.ae r λh=>(h1.aK _ (aL _ h)).2.2 rfl;obtain⟨P,R⟩:=dH aY (i:=3) (by simp);rw[av]at aF d3;refine⟨p,aF,ah,d3,fC,ao,M,?_⟩;rw[av,av];refine⟨P,R,aS ?_⟩;obtain⟨A,ap⟩:∃A,A=ao.setCell ⟨d,0+3,none⟩ fC:=⟨_,rfl⟩;rw[←ap];have aZ:ad (λq=>q=d) ao A:=by rw[ap];exact dn _ _ _ _
 have a0:Var A d [a.leaf,j,cq,fC] 202:=by rw[ap];exact dJ aY _
 have S:ad (λq=>q=d\/bG q) o A:=(r.mono λq _ h=>.inr (aL q h)).trans (aZ.mono λq _ h=>.inl h);have bu:=bj.ae bn S λq c h=>by
  rcases h with h|h
  .exact c.2 h
  .rcases c.1 with h2|h2|h2
   .exact(h1.bf _ h2).2.2.2.2 h
   .exact(f _ h2).2.2.2.2.2.2 h
   .have:=(h1.aK _ h).2.1;omega
 have bw:=bj.ae bt S λq c h=>by
  rcases h with h|h
  .exact c.2 h
  .rcases c.1 with h2|h2|h2
   .exact(h1.bv _ h2).2.2.2 h
   .exact(f _ h2).2.2.2.2.2.2 h
   .have:=(h1.aK _ h).2.1;omega
 have bx:=br.ae S (by
  rintro(h|h)
  .omega
  .have:=(h1.aK _ h).1;omega)
 have bA:Ext w A:=Ext.dr bs S λq c=>by
  rcases c with h|h
  .omega
  .have:=(h1.aK _ h).1;omega
 have bT:=S.size;have a1:bz (λq=>lo<=q) A (dQ a s b) j cq fC:=by
  have jC:dQ a s b=⟨a.leaf,L++b.keys,a.vals++b.vals,a.kids++b.kids⟩:=by
   unfold dQ
   cases F:a.leaf with
   |true=>
    have ar:a.kids=[]:=by
     rcases sa with h|h
     .exact h.kids
     .have:=h.inner;rw[F]at this;cases this
    have kb:b.kids=[]:=by
     rcases sb with h|h
     .exact h.kids
     .have:=h.inner;rw[←aA,F]at this;cases this
    rw[X,F,ar,kb];simp
   |false=>
    have ar:a.vals=[]:=by
     rcases sa with h|h
     .have:=h.leaf;rw[F]at this;cases this
     .exact h.vals
    have kb:b.vals=[]:=by
     rcases sb with h|h
     .have:=h.leaf;rw[←aA,F]at this;cases this
     .exact h.vals
    rw[X,F,ar,kb];simp
  rw[jC];refine⟨bj.aW bu λq _ c=>?_,bj.aW bw λq _ c=>?_,cH.aW (cH.ae (B:=λq=>(bG q\/C q\/o.heap.size<=q)/\q≠d) (cH.aW N λq _ c=>⟨c,?_⟩) aZ λq c h=>c.2 h) λq _ c=>?_⟩
  .rcases c.1 with h|h|h
   .exact(h1.bf _ h).1
   .exact(f _ h).1
   .omega
  .rcases c.1 with h|h|h
   .exact(h1.bv _ h).1
   .exact(f _ h).1
   .omega
  .rcases c with h|h|h
   .exact(h1.aK _ h).2.2
   .exact(f _ h).2.2.1
   .omega
  .rcases c.1 with h|h|h
   .exact(h1.aK _ h).1
   .exact(f _ h).1
   .omega
 obtain⟨bS,ay,aR,aF⟩:=bC a0;rw[av]at ay aR aF;have bU:(dQ a s b).keys.length<=20001:=by
  unfold dQ;split
  .show(a.keys++b.keys).length<=_;rw[ct];omega
  .show(a.keys++s::b.keys).length<=_;rw[ct,e1];omega
 have bW:(dQ a s b).vals.length<=20001:=by
  unfold dQ;split
  .show(a.vals++b.vals).length<=_;rw[ct];omega
  .simp
 have bX:(dQ a s b).kids.length<=20002:=by
  unfold dQ;split
  .simp
  .show(a.kids++b.kids).length<=_;rw[ct];omega
 have a2:(dQ a s b).leaf=a.leaf:=AG
 repeat rw[av]
 refine⟨_,bS,j,ay,cq,aR,fC,aF,?_⟩;have au:=jX a1 I I I;unfold cW at au;rw[a2]at au;refine au.use ?_;rintro _ bY ⟨bZ,rfl,bB,ab⟩;have:=bB.2 hs;subst this;obtain⟨bS,ay,aR,aF⟩:=bC (a0.ext ab);rw[av]at ay aR aF;have a3:=iW a.leaf j cq fC (bx.ext ab) a9 (Q:=λbD K V D ag=>ov (dQ a s b) w (.tuple #[.agg #[bD,K,V,D],true]) ag) λb0 a4=>⟨j,cq,fC,by unfold cW;rw[a2],((a1.ext ab).ae a4 λq c e=>I).aW λq _ c=>I,Ext.cm (bA.trans ab) a4 a_⟩
 repeat rw[av]at a3
 exact⟨true,rfl,λh=>(by cases h),λ_=>⟨_,bS,j,ay,cq,aR,fC,aF,a3⟩⟩
theorem n1{ba bb:Nat->Prop}{w:J}{a b:aB}{aH aI aJ aL aM aO key:Y}{s:Key}(a4:bz ba w a aH aI aJ)(a5:bz bb w b aL aM aO)(ax:Src 1 w key (aG s))(W:∀q,az key q->q<w.heap.size)(X:s.length<=1000)(sa:cC a)(sb:cC b)(T:a.leaf=b.leaf)(hs:cC (dQ a s b))
 (bR:a.keys.length<=10000) (bq:b.keys.length<=10000):
 aN aj 282 #[cW a aH aI aJ,key,cW b aL aM aO] w (ov (dQ a s b) w):=by
 have a6:∀ {n:aB},cC n->n.keys.length<=10000->n.vals.length<=10000/\n.kids.length<=10001:=λ{n} h1 h2=>by
  rcases h1 with h1|h1
  .rw[h1.len,h1.kids];exact⟨h2,cE _⟩
  .rw[h1.len,h1.vals];exact⟨cE _,I⟩
 obtain⟨bm,bn⟩:=a6 sa bR;obtain⟨lZ,bo⟩:=a6 sb bq;have aU:∀k∈a.keys,k.length<=100000:=λk ax=>by have:=(sa.keys.ok k ax).2;omega
 have ab:∀k∈b.keys,k.length<=100000:=λk ax=>by have:=(sb.keys.ok k ax).2;omega
 have aV:∀k∈a.vals,k.length<=100000:=λk ax=>by have:=sa.vals k ax;omega
 have ac:∀k∈b.vals,k.length<=100000:=λk ax=>by have:=sb.vals k ax;omega
 refine okF (I7.n1 a.leaf aH aI aJ key b.leaf aL aM aO) I6.n1 func282 ?_;(delta I7.n1 cl a7 U af aF pr ai iT q7 gu bE aZ tg st q6 nO;dsimp only);refine bd (vs:=[a.leaf,aH,aI,aJ]) rfl λw1 a2 bc bp=>?_;refine bd (vs:=[b.leaf,aL,aM,aO]) rfl λag a3 a0 br=>?_;refine bd (vs:=[false,(),(),()]) rfl λbe bg aP bs=>?_;have a8:=bc.trans (a0.trans aP);obtain⟨bS,ay,aR,aF⟩:=bC (a2.ext (a0.trans aP));refine⟨_,bS,aH,ay,aI,aR,aJ,aF,(jX (a4.ext a8) I I I).use ?_⟩;rintro _ bh ⟨b5,rfl,bi,aE⟩;have:=bi.2 sa;subst this;have a9:=a8.trans aE;obtain⟨d0,d1,d2,d3⟩:=bC (a3.ext (aP.trans aE));refine⟨true,rfl,cj (λb w'=>b=false/\Ext bh w') (λq c=>⟨λh=>(by cases h),λ_=>⟨_,d0,aL,d1,aM,d2,aO,d3,(jX (a5.ext a9) I I I).use ?_⟩⟩) ?_⟩
 .rintro _ a1 ⟨bM,rfl,bj,aA⟩
  have:=bj.2 sb;subst this;exact⟨true,rfl,c _ _ ⟨rfl,aA⟩⟩
 rintro _ a1 ⟨rfl,aA⟩;have bk:=a9.trans aA;obtain⟨bS,ay,aR,aF⟩:=bC (a2.ext (a0.trans (aP.trans (aE.trans aA))));obtain⟨d0,d1,d2,d3⟩:=bC (a3.ext (aP.trans (aE.trans aA)));refine cj (λb w'=>b=false/\a1=w') (λq c=>⟨λh=>(by cases h),λ_=>⟨_,bS,_,d0,c _ _ ⟨by rw[T];simp,rfl⟩⟩⟩) ?_;rintro _ _ ⟨rfl,rfl⟩;have aX:=b4 a1;have a_:=bk.trans aX;obtain⟨O,aQ⟩:∃O,O=a1.drew:=⟨_,rfl⟩;have V:Var O w.heap.size [a.leaf,aH,aI,aJ] 202:=by rw[aQ];exact(a2.ext (a0.trans (aP.trans (aE.trans aA)))).ext aX
 have bl:Var O w1.heap.size [b.leaf,aL,aM,aO] 202:=by rw[aQ];exact(a3.ext (aP.trans (aE.trans aA))).ext aX
 have Z:Var O ag.heap.size [false,(),(),()] 202:=by rw[aQ];exact(bg.ext (aE.trans aA)).ext aX
 have N:Ext w O:=by rw[aQ];exact a_
 have bt:be.heap.size<=O.heap.size:=by rw[aQ];exact(aE.trans aA).size
 have aY:=a4.ext N;have ah:=a5.ext N;have aa:=ax.ext N;obtain⟨lo,bu⟩:∃lo,lo=O.heap.size:=⟨_,rfl⟩;rw[←aQ];clear bS ay aR aF d0 d1 d2 d3 aQ a_ aX;obtain⟨bS,ay,aR,aF⟩:=bC V;obtain⟨d0,d1,d2,d3⟩:=bC bl;refine⟨λh=>(by cases h),λ_=>aS ⟨λ_=>False,id,_,bS,aH,ay,aI,aR,aJ,aF,id,_,d0,aL,d1,aM,d2,aO,d3,?_⟩⟩;refine⟨?_,?_,?_⟩
 .refine(eM aY I I I aU aV).use ?_
  rintro _ H ⟨E,F,G,K,L,M,rfl,d,au⟩;refine⟨_,E,F,G,rfl,au,?_⟩;have s1:=au.size;refine⟨?_,?_,?_⟩
  .refine(eM (ah.ext au) I I I ab ac).use ?_
   rintro _ u ⟨o,p,r,aq,ar,av,rfl,S,aw⟩;refine⟨_,o,p,r,rfl,aw,?_⟩;have s2:=aw.size;refine⟨?_,?_⟩
   .refine bd (vs:=[false,(),(),()]) rfl λt ak g z3=>⟨g,?_⟩
    have al:=g.size;refine bd (vs:=[false,(),(),()]) rfl λv am f z4=>⟨f,?_⟩;have an:=f.size;have x:=ak.ext f;have P:=am;refine⟨x.b9 rfl (fG _ _ _ _),rfl,cu x (us:=[a.leaf,E,F,G]) rfl rfl λao y aZ t5=>?_⟩;have z:=P.ae aZ I;refine⟨z.b9 rfl (fG _ _ _ _),rfl,cu z (us:=[b.leaf,o,p,r]) rfl rfl λj A b6 t6=>?_⟩;obtain⟨m,B⟩:∃m,m=u.heap.size:=⟨_,rfl⟩;obtain⟨aC,D⟩:∃aC,aC=t.heap.size:=⟨_,rfl⟩;rw[←B]at y aZ;rw[←D]at A b6;rw[←B,←D];have i:ad (λq=>q=m\/q=aC) v j:=(aZ.mono λq _ h=>.inl h).trans (b6.mono λq _ h=>.inr h);have Q:e0 lo j a E F G K L M:=(((d.ext (aw.trans (g.trans (f)))).ae i λq _ _ c e=>by have ap:O.heap.size<=q/\q<H.heap.size:=(by rcases c with c|c|c;exact⟨(d.bf q c).1,(d.bf q c).2.1⟩;exact⟨(d.bv q c).1,(d.bv q c).2.1⟩;exact d.aK q c);omega).low I);have R:bz (λq=>H.heap.size<=q/\q<u.heap.size) j b o p r:=((S.at.aW λq h1 h2=>⟨h2,h1⟩).ext (g.trans (f))).ae i λq c e=>by omega
    have l:∀q,K q\/L q\/M q->O.heap.size<=q/\q<H.heap.size:=λq c=>by
     rcases c with c|c|c
     .exact⟨(d.bf q c).1,(d.bf q c).2.1⟩
     .exact⟨(d.bv q c).1,(d.bv q c).2.1⟩
     .exact d.aK q c
    exact kt (lo:=lo) (bV:=j) (C:=λq=>H.heap.size<=q/\q<u.heap.size) ((V.ext (au.trans (aw.trans (g.trans f)))).ae i I).cell (y.ae b6 I) A Q R (λq c=>⟨I,I,I,I,λh=>(by have:=l q (.inl h);omega),λh=>(by have:=l q (.inr (.inl h));omega),λh=>(by have:=l q (.inr (.inr h));omega)⟩) (λq c=>(by have:=l q c;exact⟨I,I⟩)) I I I ((Z.ext (au.trans (aw.trans (g.trans f)))).ae i I) rfl I I ((aa.ext (au.trans (aw.trans (g.trans f)))).ae i λq c e=>(by have:=W q c;have:=N.size;omega)) X (Ext.dr (N.trans (au.trans (aw.trans (g.trans f)))) i λq c=>I) hs T sa sb bR bq
   .refine bd (vs:=[false,(),(),()]) rfl λt ak g z3=>⟨g,?_⟩
    have al:=g.size;refine bd (vs:=[false,(),(),()]) rfl λv am f z4=>⟨f,?_⟩;have an:=f.size;have x:=am;have P:=ak.ext f;refine⟨x.b9 rfl (fG _ _ _ _),rfl,cu x (us:=[a.leaf,E,F,G]) rfl rfl λao y aZ t5=>?_⟩;have z:=P.ae aZ I;refine⟨z.b9 rfl (fG _ _ _ _),rfl,cu z (us:=[b.leaf,o,p,r]) rfl rfl λj A b6 t6=>?_⟩;obtain⟨m,B⟩:∃m,m=t.heap.size:=⟨_,rfl⟩;obtain⟨aC,D⟩:∃aC,aC=u.heap.size:=⟨_,rfl⟩;rw[←B]at y aZ;rw[←D]at A b6;rw[←B,←D];have i:ad (λq=>q=m\/q=aC) v j:=(aZ.mono λq _ h=>.inl h).trans (b6.mono λq _ h=>.inr h);have Q:e0 lo j a E F G K L M:=(((d.ext (aw.trans (g.trans (f)))).ae i λq _ _ c e=>by have ap:O.heap.size<=q/\q<H.heap.size:=(by rcases c with c|c|c;exact⟨(d.bf q c).1,(d.bf q c).2.1⟩;exact⟨(d.bv q c).1,(d.bv q c).2.1⟩;exact d.aK q c);omega).low I);have R:bz (λq=>H.heap.size<=q/\q<u.heap.size) j b o p r:=((S.at.aW λq h1 h2=>⟨h2,h1⟩).ext (g.trans (f))).ae i λq c e=>by omega
    have l:∀q,K q\/L q\/M q->O.heap.size<=q/\q<H.heap.size:=λq c=>by
     rcases c with c|c|c
     .exact⟨(d.bf q c).1,(d.bf q c).2.1⟩
     .exact⟨(d.bv q c).1,(d.bv q c).2.1⟩
     .exact d.aK q c
    exact kt (lo:=lo) (bV:=j) (C:=λq=>H.heap.size<=q/\q<u.heap.size) ((V.ext (au.trans (aw.trans (g.trans f)))).ae i I).cell (y.ae b6 I) A Q R (λq c=>⟨I,I,I,I,λh=>(by have:=l q (.inl h);omega),λh=>(by have:=l q (.inr (.inl h));omega),λh=>(by have:=l q (.inr (.inr h));omega)⟩) (λq c=>(by have:=l q c;exact⟨I,I⟩)) I I I ((Z.ext (au.trans (aw.trans (g.trans f)))).ae i I) rfl I I ((aa.ext (au.trans (aw.trans (g.trans f)))).ae i λq c e=>(by have:=W q c;have:=N.size;omega)) X (Ext.dr (N.trans (au.trans (aw.trans (g.trans f)))) i λq c=>I) hs T sa sb bR bq
  .refine bd (vs:=[false,(),(),()]) rfl λu aD aw cl=>⟨aw,?_⟩
   have s2:=aw.size;refine⟨?_,?_⟩
   .refine(eM (ah.ext (au.trans (aw))) I I I ab ac).use ?_
    rintro _ t ⟨o,p,r,aq,ar,av,rfl,S,g⟩;refine⟨_,o,p,r,rfl,g,?_⟩;have al:=g.size;refine bd (vs:=[false,(),(),()]) rfl λv am f z4=>⟨f,?_⟩;have an:=f.size;have x:=aD.ext (g.trans (f));have P:=am;refine⟨x.b9 rfl (fG _ _ _ _),rfl,cu x (us:=[a.leaf,E,F,G]) rfl rfl λao y aZ t5=>?_⟩;have z:=P.ae aZ I;refine⟨z.b9 rfl (fG _ _ _ _),rfl,cu z (us:=[b.leaf,o,p,r]) rfl rfl λj A b6 t6=>?_⟩;obtain⟨m,B⟩:∃m,m=H.heap.size:=⟨_,rfl⟩;obtain⟨aC,D⟩:∃aC,aC=t.heap.size:=⟨_,rfl⟩;rw[←B]at y aZ;rw[←D]at A b6;rw[←B,←D];have i:ad (λq=>q=m\/q=aC) v j:=(aZ.mono λq _ h=>.inl h).trans (b6.mono λq _ h=>.inr h);have Q:e0 lo j a E F G K L M:=(((d.ext (aw.trans (g.trans (f)))).ae i λq _ _ c e=>by have ap:O.heap.size<=q/\q<H.heap.size:=(by rcases c with c|c|c;exact⟨(d.bf q c).1,(d.bf q c).2.1⟩;exact⟨(d.bv q c).1,(d.bv q c).2.1⟩;exact d.aK q c);omega).low I);have R:bz (λq=>u.heap.size<=q/\q<t.heap.size) j b o p r:=((S.at.aW λq h1 h2=>⟨h2,h1⟩).ext f).ae i λq c e=>by omega
    have l:∀q,K q\/L q\/M q->O.heap.size<=q/\q<H.heap.size:=λq c=>by
     rcases c with c|c|c
     .exact⟨(d.bf q c).1,(d.bf q c).2.1⟩
     .exact⟨(d.bv q c).1,(d.bv q c).2.1⟩
     .exact d.aK q c
    exact kt (lo:=lo) (bV:=j) (C:=λq=>u.heap.size<=q/\q<t.heap.size) ((V.ext (au.trans (aw.trans (g.trans f)))).ae i I).cell (y.ae b6 I) A Q R (λq c=>⟨I,I,I,I,λh=>(by have:=l q (.inl h);omega),λh=>(by have:=l q (.inr (.inl h));omega),λh=>(by have:=l q (.inr (.inr h));omega)⟩) (λq c=>(by have:=l q c;exact⟨I,I⟩)) I I I ((Z.ext (au.trans (aw.trans (g.trans f)))).ae i I) rfl I I ((aa.ext (au.trans (aw.trans (g.trans f)))).ae i λq c e=>(by have:=W q c;have:=N.size;omega)) X (Ext.dr (N.trans (au.trans (aw.trans (g.trans f)))) i λq c=>I) hs T sa sb bR bq
   .refine bd (vs:=[false,(),(),()]) rfl λt ak g z3=>⟨g,?_⟩
    have al:=g.size;refine(eM (ah.ext (au.trans (aw.trans (g)))) I I I ab ac).use ?_;rintro _ v ⟨o,p,r,aq,ar,av,rfl,S,f⟩;refine⟨_,o,p,r,rfl,f,?_⟩;have an:=f.size;have x:=aD.ext (g.trans (f));have P:=ak.ext f;refine⟨x.b9 rfl (fG _ _ _ _),rfl,cu x (us:=[a.leaf,E,F,G]) rfl rfl λao y aZ t5=>?_⟩;have z:=P.ae aZ I;refine⟨z.b9 rfl (fG _ _ _ _),rfl,cu z (us:=[b.leaf,o,p,r]) rfl rfl λj A b6 t6=>?_⟩;obtain⟨m,B⟩:∃m,m=H.heap.size:=⟨_,rfl⟩;obtain⟨aC,D⟩:∃aC,aC=u.heap.size:=⟨_,rfl⟩;rw[←B]at y aZ;rw[←D]at A b6;rw[←B,←D];have i:ad (λq=>q=m\/q=aC) v j:=(aZ.mono λq _ h=>.inl h).trans (b6.mono λq _ h=>.inr h);have Q:e0 lo j a E F G K L M:=(((d.ext (aw.trans (g.trans (f)))).ae i λq _ _ c e=>by have ap:O.heap.size<=q/\q<H.heap.size:=(by rcases c with c|c|c;exact⟨(d.bf q c).1,(d.bf q c).2.1⟩;exact⟨(d.bv q c).1,(d.bv q c).2.1⟩;exact d.aK q c);omega).low I);have R:bz (λq=>t.heap.size<=q/\q<v.heap.size) j b o p r:=(S.at.aW λq h1 h2=>⟨h2,h1⟩).ae i λq c e=>by omega
    have l:∀q,K q\/L q\/M q->O.heap.size<=q/\q<H.heap.size:=λq c=>by
     rcases c with c|c|c
     .exact⟨(d.bf q c).1,(d.bf q c).2.1⟩
     .exact⟨(d.bv q c).1,(d.bv q c).2.1⟩
     .exact d.aK q c
    exact kt (lo:=lo) (bV:=j) (C:=λq=>t.heap.size<=q/\q<v.heap.size) ((V.ext (au.trans (aw.trans (g.trans f)))).ae i I).cell (y.ae b6 I) A Q R (λq c=>⟨I,I,I,I,λh=>(by have:=l q (.inl h);omega),λh=>(by have:=l q (.inr (.inl h));omega),λh=>(by have:=l q (.inr (.inr h));omega)⟩) (λq c=>(by have:=l q c;exact⟨I,I⟩)) I I I ((Z.ext (au.trans (aw.trans (g.trans f)))).ae i I) rfl I I ((aa.ext (au.trans (aw.trans (g.trans f)))).ae i λq c e=>(by have:=W q c;have:=N.size;omega)) X (Ext.dr (N.trans (au.trans (aw.trans (g.trans f)))) i λq c=>I) hs T sa sb bR bq
  .refine bd (vs:=[false,(),(),()]) rfl λu aD aw cl=>⟨aw,?_⟩
   have s2:=aw.size;refine⟨?_,?_⟩
   .refine(eM (ah.ext (au.trans (aw))) I I I ab ac).use ?_
    rintro _ t ⟨o,p,r,aq,ar,av,rfl,S,g⟩;refine⟨_,o,p,r,rfl,g,?_⟩;have al:=g.size;refine bd (vs:=[false,(),(),()]) rfl λv am f z4=>⟨f,?_⟩;have an:=f.size;have x:=am;have P:=aD.ext (g.trans (f));refine⟨x.b9 rfl (fG _ _ _ _),rfl,cu x (us:=[a.leaf,E,F,G]) rfl rfl λao y aZ t5=>?_⟩;have z:=P.ae aZ I;refine⟨z.b9 rfl (fG _ _ _ _),rfl,cu z (us:=[b.leaf,o,p,r]) rfl rfl λj A b6 t6=>?_⟩;obtain⟨m,B⟩:∃m,m=t.heap.size:=⟨_,rfl⟩;obtain⟨aC,D⟩:∃aC,aC=H.heap.size:=⟨_,rfl⟩;rw[←B]at y aZ;rw[←D]at A b6;rw[←B,←D];have i:ad (λq=>q=m\/q=aC) v j:=(aZ.mono λq _ h=>.inl h).trans (b6.mono λq _ h=>.inr h);have Q:e0 lo j a E F G K L M:=(((d.ext (aw.trans (g.trans (f)))).ae i λq _ _ c e=>by have ap:O.heap.size<=q/\q<H.heap.size:=(by rcases c with c|c|c;exact⟨(d.bf q c).1,(d.bf q c).2.1⟩;exact⟨(d.bv q c).1,(d.bv q c).2.1⟩;exact d.aK q c);omega).low I);have R:bz (λq=>u.heap.size<=q/\q<t.heap.size) j b o p r:=((S.at.aW λq h1 h2=>⟨h2,h1⟩).ext f).ae i λq c e=>by omega
    have l:∀q,K q\/L q\/M q->O.heap.size<=q/\q<H.heap.size:=λq c=>by
     rcases c with c|c|c
     .exact⟨(d.bf q c).1,(d.bf q c).2.1⟩
     .exact⟨(d.bv q c).1,(d.bv q c).2.1⟩
     .exact d.aK q c
    exact kt (lo:=lo) (bV:=j) (C:=λq=>u.heap.size<=q/\q<t.heap.size) ((V.ext (au.trans (aw.trans (g.trans f)))).ae i I).cell (y.ae b6 I) A Q R (λq c=>⟨I,I,I,I,λh=>(by have:=l q (.inl h);omega),λh=>(by have:=l q (.inr (.inl h));omega),λh=>(by have:=l q (.inr (.inr h));omega)⟩) (λq c=>(by have:=l q c;exact⟨I,I⟩)) I I I ((Z.ext (au.trans (aw.trans (g.trans f)))).ae i I) rfl I I ((aa.ext (au.trans (aw.trans (g.trans f)))).ae i λq c e=>(by have:=W q c;have:=N.size;omega)) X (Ext.dr (N.trans (au.trans (aw.trans (g.trans f)))) i λq c=>I) hs T sa sb bR bq
   .refine bd (vs:=[false,(),(),()]) rfl λt ak g z3=>⟨g,?_⟩
    have al:=g.size;refine(eM (ah.ext (au.trans (aw.trans (g)))) I I I ab ac).use ?_;rintro _ v ⟨o,p,r,aq,ar,av,rfl,S,f⟩;refine⟨_,o,p,r,rfl,f,?_⟩;have an:=f.size;have x:=ak.ext f;have P:=aD.ext (g.trans (f));refine⟨x.b9 rfl (fG _ _ _ _),rfl,cu x (us:=[a.leaf,E,F,G]) rfl rfl λao y aZ t5=>?_⟩;have z:=P.ae aZ I;refine⟨z.b9 rfl (fG _ _ _ _),rfl,cu z (us:=[b.leaf,o,p,r]) rfl rfl λj A b6 t6=>?_⟩;obtain⟨m,B⟩:∃m,m=u.heap.size:=⟨_,rfl⟩;obtain⟨aC,D⟩:∃aC,aC=H.heap.size:=⟨_,rfl⟩;rw[←B]at y aZ;rw[←D]at A b6;rw[←B,←D];have i:ad (λq=>q=m\/q=aC) v j:=(aZ.mono λq _ h=>.inl h).trans (b6.mono λq _ h=>.inr h);have Q:e0 lo j a E F G K L M:=(((d.ext (aw.trans (g.trans (f)))).ae i λq _ _ c e=>by have ap:O.heap.size<=q/\q<H.heap.size:=(by rcases c with c|c|c;exact⟨(d.bf q c).1,(d.bf q c).2.1⟩;exact⟨(d.bv q c).1,(d.bv q c).2.1⟩;exact d.aK q c);omega).low I);have R:bz (λq=>t.heap.size<=q/\q<v.heap.size) j b o p r:=(S.at.aW λq h1 h2=>⟨h2,h1⟩).ae i λq c e=>by omega
    have l:∀q,K q\/L q\/M q->O.heap.size<=q/\q<H.heap.size:=λq c=>by
     rcases c with c|c|c
     .exact⟨(d.bf q c).1,(d.bf q c).2.1⟩
     .exact⟨(d.bv q c).1,(d.bv q c).2.1⟩
     .exact d.aK q c
    exact kt (lo:=lo) (bV:=j) (C:=λq=>t.heap.size<=q/\q<v.heap.size) ((V.ext (au.trans (aw.trans (g.trans f)))).ae i I).cell (y.ae b6 I) A Q R (λq c=>⟨I,I,I,I,λh=>(by have:=l q (.inl h);omega),λh=>(by have:=l q (.inr (.inl h));omega),λh=>(by have:=l q (.inr (.inr h));omega)⟩) (λq c=>(by have:=l q c;exact⟨I,I⟩)) I I I ((Z.ext (au.trans (aw.trans (g.trans f)))).ae i I) rfl I I ((aa.ext (au.trans (aw.trans (g.trans f)))).ae i λq c e=>(by have:=W q c;have:=N.size;omega)) X (Ext.dr (N.trans (au.trans (aw.trans (g.trans f)))) i λq c=>I) hs T sa sb bR bq
 .refine bd (vs:=[false,(),(),()]) rfl λH aT au gv=>⟨au,?_⟩
  have s1:=au.size;refine⟨?_,?_⟩
  .refine(eM (aY.ext au) I I I aU aV).use ?_
   rintro _ u ⟨E,F,G,K,L,M,rfl,d,aw⟩;refine⟨_,E,F,G,rfl,aw,?_⟩;have s2:=aw.size;refine⟨?_,?_⟩
   .refine(eM (ah.ext (au.trans (aw))) I I I ab ac).use ?_
    rintro _ t ⟨o,p,r,aq,ar,av,rfl,S,g⟩;refine⟨_,o,p,r,rfl,g,?_⟩;have al:=g.size;refine bd (vs:=[false,(),(),()]) rfl λv am f z4=>⟨f,?_⟩;have an:=f.size;have x:=aT.ext (aw.trans (g.trans (f)));have P:=am;refine⟨x.b9 rfl (fG _ _ _ _),rfl,cu x (us:=[a.leaf,E,F,G]) rfl rfl λao y aZ t5=>?_⟩;have z:=P.ae aZ I;refine⟨z.b9 rfl (fG _ _ _ _),rfl,cu z (us:=[b.leaf,o,p,r]) rfl rfl λj A b6 t6=>?_⟩;obtain⟨m,B⟩:∃m,m=O.heap.size:=⟨_,rfl⟩;obtain⟨aC,D⟩:∃aC,aC=t.heap.size:=⟨_,rfl⟩;rw[←B]at y aZ;rw[←D]at A b6;rw[←B,←D];have i:ad (λq=>q=m\/q=aC) v j:=(aZ.mono λq _ h=>.inl h).trans (b6.mono λq _ h=>.inr h);have Q:e0 lo j a E F G K L M:=(((d.ext (g.trans (f))).ae i λq _ _ c e=>by have ap:H.heap.size<=q/\q<u.heap.size:=(by rcases c with c|c|c;exact⟨(d.bf q c).1,(d.bf q c).2.1⟩;exact⟨(d.bv q c).1,(d.bv q c).2.1⟩;exact d.aK q c);omega).low I);have R:bz (λq=>u.heap.size<=q/\q<t.heap.size) j b o p r:=((S.at.aW λq h1 h2=>⟨h2,h1⟩).ext f).ae i λq c e=>by omega
    have l:∀q,K q\/L q\/M q->H.heap.size<=q/\q<u.heap.size:=λq c=>by
     rcases c with c|c|c
     .exact⟨(d.bf q c).1,(d.bf q c).2.1⟩
     .exact⟨(d.bv q c).1,(d.bv q c).2.1⟩
     .exact d.aK q c
    exact kt (lo:=lo) (bV:=j) (C:=λq=>u.heap.size<=q/\q<t.heap.size) ((V.ext (au.trans (aw.trans (g.trans f)))).ae i I).cell (y.ae b6 I) A Q R (λq c=>⟨I,I,I,I,λh=>(by have:=l q (.inl h);omega),λh=>(by have:=l q (.inr (.inl h));omega),λh=>(by have:=l q (.inr (.inr h));omega)⟩) (λq c=>(by have:=l q c;exact⟨I,I⟩)) I I I ((Z.ext (au.trans (aw.trans (g.trans f)))).ae i I) rfl I I ((aa.ext (au.trans (aw.trans (g.trans f)))).ae i λq c e=>(by have:=W q c;have:=N.size;omega)) X (Ext.dr (N.trans (au.trans (aw.trans (g.trans f)))) i λq c=>I) hs T sa sb bR bq
   .refine bd (vs:=[false,(),(),()]) rfl λt ak g z3=>⟨g,?_⟩
    have al:=g.size;refine(eM (ah.ext (au.trans (aw.trans (g)))) I I I ab ac).use ?_;rintro _ v ⟨o,p,r,aq,ar,av,rfl,S,f⟩;refine⟨_,o,p,r,rfl,f,?_⟩;have an:=f.size;have x:=aT.ext (aw.trans (g.trans (f)));have P:=ak.ext f;refine⟨x.b9 rfl (fG _ _ _ _),rfl,cu x (us:=[a.leaf,E,F,G]) rfl rfl λao y aZ t5=>?_⟩;have z:=P.ae aZ I;refine⟨z.b9 rfl (fG _ _ _ _),rfl,cu z (us:=[b.leaf,o,p,r]) rfl rfl λj A b6 t6=>?_⟩;obtain⟨m,B⟩:∃m,m=O.heap.size:=⟨_,rfl⟩;obtain⟨aC,D⟩:∃aC,aC=u.heap.size:=⟨_,rfl⟩;rw[←B]at y aZ;rw[←D]at A b6;rw[←B,←D];have i:ad (λq=>q=m\/q=aC) v j:=(aZ.mono λq _ h=>.inl h).trans (b6.mono λq _ h=>.inr h);have Q:e0 lo j a E F G K L M:=(((d.ext (g.trans (f))).ae i λq _ _ c e=>by have ap:H.heap.size<=q/\q<u.heap.size:=(by rcases c with c|c|c;exact⟨(d.bf q c).1,(d.bf q c).2.1⟩;exact⟨(d.bv q c).1,(d.bv q c).2.1⟩;exact d.aK q c);omega).low I);have R:bz (λq=>t.heap.size<=q/\q<v.heap.size) j b o p r:=(S.at.aW λq h1 h2=>⟨h2,h1⟩).ae i λq c e=>by omega
    have l:∀q,K q\/L q\/M q->H.heap.size<=q/\q<u.heap.size:=λq c=>by
     rcases c with c|c|c
     .exact⟨(d.bf q c).1,(d.bf q c).2.1⟩
     .exact⟨(d.bv q c).1,(d.bv q c).2.1⟩
     .exact d.aK q c
    exact kt (lo:=lo) (bV:=j) (C:=λq=>t.heap.size<=q/\q<v.heap.size) ((V.ext (au.trans (aw.trans (g.trans f)))).ae i I).cell (y.ae b6 I) A Q R (λq c=>⟨I,I,I,I,λh=>(by have:=l q (.inl h);omega),λh=>(by have:=l q (.inr (.inl h));omega),λh=>(by have:=l q (.inr (.inr h));omega)⟩) (λq c=>(by have:=l q c;exact⟨I,I⟩)) I I I ((Z.ext (au.trans (aw.trans (g.trans f)))).ae i I) rfl I I ((aa.ext (au.trans (aw.trans (g.trans f)))).ae i λq c e=>(by have:=W q c;have:=N.size;omega)) X (Ext.dr (N.trans (au.trans (aw.trans (g.trans f)))) i λq c=>I) hs T sa sb bR bq
  .refine bd (vs:=[false,(),(),()]) rfl λu aD aw cl=>⟨aw,?_⟩
   have s2:=aw.size;refine(eM (aY.ext (au.trans (aw))) I I I aU aV).use ?_;rintro _ t ⟨E,F,G,K,L,M,rfl,d,g⟩;refine⟨_,E,F,G,rfl,g,?_⟩;have al:=g.size;refine(eM (ah.ext (au.trans (aw.trans (g)))) I I I ab ac).use ?_;rintro _ v ⟨o,p,r,aq,ar,av,rfl,S,f⟩;refine⟨_,o,p,r,rfl,f,?_⟩;have an:=f.size;have x:=aT.ext (aw.trans (g.trans (f)));have P:=aD.ext (g.trans (f));refine⟨x.b9 rfl (fG _ _ _ _),rfl,cu x (us:=[a.leaf,E,F,G]) rfl rfl λao y aZ t5=>?_⟩;have z:=P.ae aZ I;refine⟨z.b9 rfl (fG _ _ _ _),rfl,cu z (us:=[b.leaf,o,p,r]) rfl rfl λj A b6 t6=>?_⟩;obtain⟨m,B⟩:∃m,m=O.heap.size:=⟨_,rfl⟩;obtain⟨aC,D⟩:∃aC,aC=H.heap.size:=⟨_,rfl⟩;rw[←B]at y aZ;rw[←D]at A b6;rw[←B,←D];have i:ad (λq=>q=m\/q=aC) v j:=(aZ.mono λq _ h=>.inl h).trans (b6.mono λq _ h=>.inr h);have Q:e0 lo j a E F G K L M:=(((d.ext f).ae i λq _ _ c e=>by have ap:u.heap.size<=q/\q<t.heap.size:=(by rcases c with c|c|c;exact⟨(d.bf q c).1,(d.bf q c).2.1⟩;exact⟨(d.bv q c).1,(d.bv q c).2.1⟩;exact d.aK q c);omega).low I);have R:bz (λq=>t.heap.size<=q/\q<v.heap.size) j b o p r:=(S.at.aW λq h1 h2=>⟨h2,h1⟩).ae i λq c e=>by omega
   have l:∀q,K q\/L q\/M q->u.heap.size<=q/\q<t.heap.size:=λq c=>by
    rcases c with c|c|c
    .exact⟨(d.bf q c).1,(d.bf q c).2.1⟩
    .exact⟨(d.bv q c).1,(d.bv q c).2.1⟩
    .exact d.aK q c
   exact kt (lo:=lo) (bV:=j) (C:=λq=>t.heap.size<=q/\q<v.heap.size) ((V.ext (au.trans (aw.trans (g.trans f)))).ae i I).cell (y.ae b6 I) A Q R (λq c=>⟨I,I,I,I,λh=>(by have:=l q (.inl h);omega),λh=>(by have:=l q (.inr (.inl h));omega),λh=>(by have:=l q (.inr (.inr h));omega)⟩) (λq c=>(by have:=l q c;exact⟨I,I⟩)) I I I ((Z.ext (au.trans (aw.trans (g.trans f)))).ae i I) rfl I I ((aa.ext (au.trans (aw.trans (g.trans f)))).ae i λq c e=>(by have:=W q c;have:=N.size;omega)) X (Ext.dr (N.trans (au.trans (aw.trans (g.trans f)))) i λq c=>I) hs T sa sb bR bq
 .refine bd (vs:=[false,(),(),()]) rfl λH aT au gv=>⟨au,?_⟩
  have s1:=au.size;refine⟨?_,?_⟩
  .refine(eM (aY.ext au) I I I aU aV).use ?_
   rintro _ u ⟨E,F,G,K,L,M,rfl,d,aw⟩;refine⟨_,E,F,G,rfl,aw,?_⟩;have s2:=aw.size;refine⟨?_,?_⟩
   .refine(eM (ah.ext (au.trans (aw))) I I I ab ac).use ?_
    rintro _ t ⟨o,p,r,aq,ar,av,rfl,S,g⟩;refine⟨_,o,p,r,rfl,g,?_⟩;have al:=g.size;refine bd (vs:=[false,(),(),()]) rfl λv am f z4=>⟨f,?_⟩;have an:=f.size;have x:=am;have P:=aT.ext (aw.trans (g.trans (f)));refine⟨x.b9 rfl (fG _ _ _ _),rfl,cu x (us:=[a.leaf,E,F,G]) rfl rfl λao y aZ t5=>?_⟩;have z:=P.ae aZ I;refine⟨z.b9 rfl (fG _ _ _ _),rfl,cu z (us:=[b.leaf,o,p,r]) rfl rfl λj A b6 t6=>?_⟩;obtain⟨m,B⟩:∃m,m=t.heap.size:=⟨_,rfl⟩;obtain⟨aC,D⟩:∃aC,aC=O.heap.size:=⟨_,rfl⟩;rw[←B]at y aZ;rw[←D]at A b6;rw[←B,←D];have i:ad (λq=>q=m\/q=aC) v j:=(aZ.mono λq _ h=>.inl h).trans (b6.mono λq _ h=>.inr h);have Q:e0 lo j a E F G K L M:=(((d.ext (g.trans (f))).ae i λq _ _ c e=>by have ap:H.heap.size<=q/\q<u.heap.size:=(by rcases c with c|c|c;exact⟨(d.bf q c).1,(d.bf q c).2.1⟩;exact⟨(d.bv q c).1,(d.bv q c).2.1⟩;exact d.aK q c);omega).low I);have R:bz (λq=>u.heap.size<=q/\q<t.heap.size) j b o p r:=((S.at.aW λq h1 h2=>⟨h2,h1⟩).ext f).ae i λq c e=>by omega
    have l:∀q,K q\/L q\/M q->H.heap.size<=q/\q<u.heap.size:=λq c=>by
     rcases c with c|c|c
     .exact⟨(d.bf q c).1,(d.bf q c).2.1⟩
     .exact⟨(d.bv q c).1,(d.bv q c).2.1⟩
     .exact d.aK q c
    exact kt (lo:=lo) (bV:=j) (C:=λq=>u.heap.size<=q/\q<t.heap.size) ((V.ext (au.trans (aw.trans (g.trans f)))).ae i I).cell (y.ae b6 I) A Q R (λq c=>⟨I,I,I,I,λh=>(by have:=l q (.inl h);omega),λh=>(by have:=l q (.inr (.inl h));omega),λh=>(by have:=l q (.inr (.inr h));omega)⟩) (λq c=>(by have:=l q c;exact⟨I,I⟩)) I I I ((Z.ext (au.trans (aw.trans (g.trans f)))).ae i I) rfl I I ((aa.ext (au.trans (aw.trans (g.trans f)))).ae i λq c e=>(by have:=W q c;have:=N.size;omega)) X (Ext.dr (N.trans (au.trans (aw.trans (g.trans f)))) i λq c=>I) hs T sa sb bR bq
   .refine bd (vs:=[false,(),(),()]) rfl λt ak g z3=>⟨g,?_⟩
    have al:=g.size;refine(eM (ah.ext (au.trans (aw.trans (g)))) I I I ab ac).use ?_;rintro _ v ⟨o,p,r,aq,ar,av,rfl,S,f⟩;refine⟨_,o,p,r,rfl,f,?_⟩;have an:=f.size;have x:=ak.ext f;have P:=aT.ext (aw.trans (g.trans (f)));refine⟨x.b9 rfl (fG _ _ _ _),rfl,cu x (us:=[a.leaf,E,F,G]) rfl rfl λao y aZ t5=>?_⟩;have z:=P.ae aZ I;refine⟨z.b9 rfl (fG _ _ _ _),rfl,cu z (us:=[b.leaf,o,p,r]) rfl rfl λj A b6 t6=>?_⟩;obtain⟨m,B⟩:∃m,m=u.heap.size:=⟨_,rfl⟩;obtain⟨aC,D⟩:∃aC,aC=O.heap.size:=⟨_,rfl⟩;rw[←B]at y aZ;rw[←D]at A b6;rw[←B,←D];have i:ad (λq=>q=m\/q=aC) v j:=(aZ.mono λq _ h=>.inl h).trans (b6.mono λq _ h=>.inr h);have Q:e0 lo j a E F G K L M:=(((d.ext (g.trans (f))).ae i λq _ _ c e=>by have ap:H.heap.size<=q/\q<u.heap.size:=(by rcases c with c|c|c;exact⟨(d.bf q c).1,(d.bf q c).2.1⟩;exact⟨(d.bv q c).1,(d.bv q c).2.1⟩;exact d.aK q c);omega).low I);have R:bz (λq=>t.heap.size<=q/\q<v.heap.size) j b o p r:=(S.at.aW λq h1 h2=>⟨h2,h1⟩).ae i λq c e=>by omega
    have l:∀q,K q\/L q\/M q->H.heap.size<=q/\q<u.heap.size:=λq c=>by
     rcases c with c|c|c
     .exact⟨(d.bf q c).1,(d.bf q c).2.1⟩
     .exact⟨(d.bv q c).1,(d.bv q c).2.1⟩
     .exact d.aK q c
    exact kt (lo:=lo) (bV:=j) (C:=λq=>t.heap.size<=q/\q<v.heap.size) ((V.ext (au.trans (aw.trans (g.trans f)))).ae i I).cell (y.ae b6 I) A Q R (λq c=>⟨I,I,I,I,λh=>(by have:=l q (.inl h);omega),λh=>(by have:=l q (.inr (.inl h));omega),λh=>(by have:=l q (.inr (.inr h));omega)⟩) (λq c=>(by have:=l q c;exact⟨I,I⟩)) I I I ((Z.ext (au.trans (aw.trans (g.trans f)))).ae i I) rfl I I ((aa.ext (au.trans (aw.trans (g.trans f)))).ae i λq c e=>(by have:=W q c;have:=N.size;omega)) X (Ext.dr (N.trans (au.trans (aw.trans (g.trans f)))) i λq c=>I) hs T sa sb bR bq
  .refine bd (vs:=[false,(),(),()]) rfl λu aD aw cl=>⟨aw,?_⟩
   have s2:=aw.size;refine(eM (aY.ext (au.trans (aw))) I I I aU aV).use ?_;rintro _ t ⟨E,F,G,K,L,M,rfl,d,g⟩;refine⟨_,E,F,G,rfl,g,?_⟩;have al:=g.size;refine(eM (ah.ext (au.trans (aw.trans (g)))) I I I ab ac).use ?_;rintro _ v ⟨o,p,r,aq,ar,av,rfl,S,f⟩;refine⟨_,o,p,r,rfl,f,?_⟩;have an:=f.size;have x:=aD.ext (g.trans (f));have P:=aT.ext (aw.trans (g.trans (f)));refine⟨x.b9 rfl (fG _ _ _ _),rfl,cu x (us:=[a.leaf,E,F,G]) rfl rfl λao y aZ t5=>?_⟩;have z:=P.ae aZ I;refine⟨z.b9 rfl (fG _ _ _ _),rfl,cu z (us:=[b.leaf,o,p,r]) rfl rfl λj A b6 t6=>?_⟩;obtain⟨m,B⟩:∃m,m=H.heap.size:=⟨_,rfl⟩;obtain⟨aC,D⟩:∃aC,aC=O.heap.size:=⟨_,rfl⟩;rw[←B]at y aZ;rw[←D]at A b6;rw[←B,←D];have i:ad (λq=>q=m\/q=aC) v j:=(aZ.mono λq _ h=>.inl h).trans (b6.mono λq _ h=>.inr h);have Q:e0 lo j a E F G K L M:=(((d.ext f).ae i λq _ _ c e=>by have ap:u.heap.size<=q/\q<t.heap.size:=(by rcases c with c|c|c;exact⟨(d.bf q c).1,(d.bf q c).2.1⟩;exact⟨(d.bv q c).1,(d.bv q c).2.1⟩;exact d.aK q c);omega).low I);have R:bz (λq=>t.heap.size<=q/\q<v.heap.size) j b o p r:=(S.at.aW λq h1 h2=>⟨h2,h1⟩).ae i λq c e=>by omega
   have l:∀q,K q\/L q\/M q->u.heap.size<=q/\q<t.heap.size:=λq c=>by
    rcases c with c|c|c
    .exact⟨(d.bf q c).1,(d.bf q c).2.1⟩
    .exact⟨(d.bv q c).1,(d.bv q c).2.1⟩
    .exact d.aK q c
   exact kt (lo:=lo) (bV:=j) (C:=λq=>t.heap.size<=q/\q<v.heap.size) ((V.ext (au.trans (aw.trans (g.trans f)))).ae i I).cell (y.ae b6 I) A Q R (λq c=>⟨I,I,I,I,λh=>(by have:=l q (.inl h);omega),λh=>(by have:=l q (.inr (.inl h));omega),λh=>(by have:=l q (.inr (.inr h));omega)⟩) (λq c=>(by have:=l q c;exact⟨I,I⟩)) I I I ((Z.ext (au.trans (aw.trans (g.trans f)))).ae i I) rfl I I ((aa.ext (au.trans (aw.trans (g.trans f)))).ae i λq c e=>(by have:=W q c;have:=N.size;omega)) X (Ext.dr (N.trans (au.trans (aw.trans (g.trans f)))) i λq c=>I) hs T sa sb bR bq
section
variable {α:Type}{c:α->O aa}{sz:Nat}
def bH(c:α->O aa)(l:O α):O aa:=(l.map c).flatten
theorem lF(l m:O α):bH c (l++m)=bH c l++bH c m:=by simp[bH]
theorem p6(x:α)(l:O α):bH c (x::l)=c x++bH c l:=rfl
theorem gK:∀ (l:O α),(∀x∈l,(c x).length=sz)->(bH c l).length=l.length*sz
 | [],_=>by simp[bH]
 |x::l,h=>by
  rw[p6,ct,h x (by simp),gK l λy a=>h y (by simp[a]),e1,kI];omega
theorem FJ{l:O α}{i:Nat}(h:i<l.length):l=l.take i++l[i]::l.drop (i+1):=by rw[←jr h,hZ]
theorem xU{l:O α}(hc:∀x∈l,(c x).length=sz){i:Nat}(h:i<l.length):(bH c l).take (i*sz)=bH c (l.take i)/\(bH c l).drop (i*sz)=c l[i]++bH c (l.drop (i+1)):=by
 have a:(bH c (l.take i)).length=i*sz:=by
  rw[gK _ λx hx=>hc x (fa hx),cy,je I]
 have e:bH c l=bH c (l.take i)++(c l[i]++bH c (l.drop (i+1))):=by
  conv=>lhs;rw[FJ h]
  rw[lF,p6]
 rw[e];exact⟨mc a,drop_left' a⟩
theorem Bf{l:O α}(hc:∀x∈l,(c x).length=sz){i:Nat}(h:i<l.length):((bH c l).drop (i*sz)).take sz=c l[i]:=by
 rw[(xU hc h).2];exact mc (hc _ (cA h))
theorem rI{l:O α}(hc:∀x∈l,(c x).length=sz){i j:Nat}(h:i<l.length)(a:j<sz):(bH c l)[i*sz+j]? =(c l[i])[j]? :=by
 rw[←Bf hc h,List.getElem?_take_of_lt a,sg]
theorem Bg{l:O α}(hc:∀x∈l,(c x).length=sz){i:Nat}(h:i<l.length)(x:α):(bH c l).take (i*sz)++c x++(bH c l).drop (i*sz+sz)=bH c (l.set i x):=by
 have h1:=xU hc h;have h2:(bH c l).drop (i*sz+sz)=bH c (l.drop (i+1)):=by
  rw[←qA,h1.2];exact drop_left' (hc _ (cA h))
 rw[h1.1,h2,List.set_eq_take_append_cons_drop,if_pos h,lF,p6,cM]
theorem FK{l:O α}(hc:∀x∈l,(c x).length=sz){i j:Nat}(h:i<l.length)(a:j<sz){x:α}{v:aa}(hx:c x=(c l[i]).set j v):(bH c l).set (i*sz+j) v=bH c (l.set i x):=by
 have b:(c l[i]).length=sz:=hc _ (cA h);have h1:=xU hc h;have e:bH c l=bH c (l.take i)++(c l[i]++bH c (l.drop (i+1))):=by
  conv=>lhs;rw[←hZ (i*sz) (bH c l),h1.1,h1.2]
 have d:(bH c (l.take i)).length=i*sz:=by
  rw[gK _ λx hx=>hc x (fa hx),cy,je I]
 rw[e,List.set_append_right _ _ I,show i*sz+j-(bH c (l.take i)).length=j from I,List.set_append_left _ _ I,←hx,List.set_eq_take_append_cons_drop,if_pos h,lF,p6]
end
section
variable {α:Type} [DecidableEq α] {P:Program}{w:J}{hJ fu T:TypeId}{enc:α->aa}{r:Nat}{M:O (α×aa)}{k:α}{v:aa}
theorem FL(f:mS P hJ enc)(j:P.underlying T=some (.map hJ fu))(h:er w r enc M)(l:∀v,(k,v)∉M)(v:aa):
 ∃w1:J,(Instr.mapUpdate T (.map (some r)) (enc k) v).run P w=.ok () w1/\ad (λq=>q=r) w w1/\w1.heap.size=w.heap.size/\er w1 r enc ((k,v)::M):=by
 have aJ:=h.lt;obtain⟨L,c,h,h1,h2,m,g⟩:=h;have i:=Ae h1 l;have hf:=f.find L k w;rw[wW i]at hf;refine⟨iz w r (.map ((L.map (dL enc)).toArray.push ⟨enc k,v,c⟩) (c+1)),?_,q2 _ _ _,s4 _ _ _,L++ [(k,v,c)],c+1,?_,?_,?_,?_,?_⟩
 .simp only[Instr.mapUpdate,Sem.run_bind,dh j,Result.andThen,l4 h,Sem.run_pure,f.check,hf,wY h]
 .rw[s5 aJ]
  simp[dL]
 .rw[fV]
  have:([(k,v,c)]:O (α×aa×Nat)).map lr=[(k,v)]:=rfl;rw[this];exact(qB).trans (List.Perm.cons _ h1)
 .rw[fV,oQ]
  refine⟨h2,by simp,λa e b d=>?_⟩;obtain⟨x,hx,rfl⟩:=ep.1 e;simp only[jd,List.map_nil,fh]at d;subst d;exact i x hx
 .rw[fV,oQ]
  refine⟨m,by simp,λa e b d=>?_⟩;obtain⟨x,hx,rfl⟩:=ep.1 e;simp only[jd,List.map_nil,fh]at d;subst d;have:=g x hx;omega
 .intro x hx
  rcases cP.1 hx with hx|hx
  .have:=g x hx;omega
  .rw[fh.1 hx];show c<c+1;omega
theorem FM(c:mS P hJ enc)(g:P.underlying T=some (.map hJ fu))(h:er w r enc ((k,v)::M))(b:aa):
 ∃w1:J,(Instr.mapUpdate T (.map (some r)) (enc k) b).run P w=.ok () w1/\ad (λq=>q=r) w w1/\w1.heap.size=w.heap.size/\er w1 r enc ((k,b)::M):=by
 have aJ:=h.lt;obtain⟨n,ba,bB,a,f,h,h1,h2,i,d,_⟩:=h.split;have hf:=c.find (ba++(k,v,a)::bB) k w;rw[wX (Ad h2),cx]at hf;have hg:((ba++(k,v,a)::bB).map (dL enc)).toArray[ba.length]? =some ⟨enc k,v,a⟩:=by simp[dL]
 have j:((ba++(k,v,a)::bB).map (dL enc)).toArray.modify ba.length (λe=>{e with key:=enc k,val:=b})=((ba++(k,b,a)::bB).map (dL enc)).toArray:=by
  apply Array.toList_inj.1;rw[Array.toList_modify,fV,jd];have:=Ac (λe=>{e with key:=enc k,val:=b}) (dL enc (k,v,a)) (bB.map (dL enc)) (ba.map (dL enc));rw[dN]at this;rw[this];simp[dL]
 refine⟨iz w r (.map ((ba++(k,b,a)::bB).map (dL enc)).toArray f),?_,q2 _ _ _,s4 _ _ _,ba++(k,b,a)::bB,f,s5 aJ _,?_,?_,?_,?_⟩
 .simp only[Instr.mapUpdate,Sem.run_bind,dh g,Result.andThen,l4 h,Sem.run_pure,c.check,hf,hg,ld,qw,Instr.keyThatStays,c.bits,if_true,wY h,j]
 .rw[fV,jd]
  rw[fV]at h1;exact mE.trans (h1.cons _)
 .simpa using h2
 .simpa using i
 .intro x hx
  rcases cP.1 hx with hx|hx
  .exact d x (by simp[hx])
  .rcases cS.1 hx with rfl|hx
   .exact d (k,v,a) (by simp)
   .exact d x (by simp[hx])
end
abbrev cT:=O UInt8
structure g0 where
 i:Nat
 s:Y
 gm:O cT
structure a_ where
 d:Nat
 lb:Nat
 mr:Nat
 cg:O Int
 bh:O cT
 waits:O g0
 writes:Int
 aO:Nat
 bI:Nat->ah
 eo:Nat->O cT
def g0.e(x:g0):Int×aa:=((x.i:Int),x.s)
def a_.c(D:a_):O aa:=D.cg.map (.int .i64)++ [.slice (some ⟨D.lb,0,none⟩) D.bh.length D.bh.length,.map (some D.mr),.int .i64 D.writes]
def a_.n(D:a_):Nat:=D.bh.length
abbrev encZ:Int->aa:=λn=>n
theorem ox:mS aj 3 encZ:=mS.int (by kernel_rfl)
theorem lG:Tryz.prog.underlying 137=some (.map 3 136):=by kernel_rfl
theorem Bh:(Tryz.prog.info? 136).bind (·.zero)=some (.slice none 0 0):=by kernel_rfl
theorem rJ{P:Program}{T:TypeId}{z:aa}(h:(P.info? T).bind (·.zero)=some z):∃i,P.info? T=some i/\i.zero=some z:=by
 cases hi:P.info? T with
 |none=>rw[hi]at h;cases h
 |some i=>rw[hi]at h;exact⟨i,rfl,h⟩
def bT(D:a_)(q:Nat):Prop:=q=D.d\/q=D.lb\/q=D.mr\/∃x∈D.waits,az x.s q
structure cB(w:J)(D:a_):Prop where
 v:Var w D.d D.c 141
 l:bt w D.lb (bH aG D.bh).toArray 182
 m:er w D.mr encZ (D.waits.map g0.e)
 ws:∀x∈D.waits,a8 256 182 w x.s (bH aG x.gm)
 wn:∀x∈D.waits,x.gm≠ []/\x.i<D.n/\x.gm.length<=D.aO
 sl:∀s∈D.bh,s.length=256
 ku:∀x∈D.waits,∀s∈x.gm,s.length=256
 bR:16<=D.n
 bq:D.n<=1600
 f4:D.cg.length=4
 fr:∀x∈D.cg, -1<=x/\x<=9223372036854775807
 a1:D.d≠D.lb/\D.d≠D.mr/\D.lb≠D.mr
 a2:∀x∈D.waits,¬az x.s D.d/\¬az x.s D.lb/\¬az x.s D.mr
 a3:∀x∈D.waits,∀y∈D.waits,x.i≠y.i->∀q,az x.s q->¬az y.s q
section
variable {w w':J}{D:a_}
theorem cB.ae{W:Nat->Prop}(h:cB w D)(hc:ad W w w')(a:∀q,bT D q->¬W q):cB w' D:=
 ⟨h.v.ae hc (a _ (.inl rfl)),bt.ae h.l hc (a _ (.inr (.inl rfl))),h.m.ae hc (a _ (.inr (.inr (.inl rfl)))),λx hx=>(h.ws x hx).ae hc λq b=>a q (.inr (.inr (.inr ⟨x,hx,b⟩))),h.wn,h.sl,h.ku,h.bR,h.bq,h.f4,h.fr,h.a1,h.a2,h.a3⟩
theorem cB.ext(h:cB w D)(hc:Ext w w'):cB w' D:=h.ae hc λ_ _ h=>h
theorem cB.lt(h:cB w D){q:Nat}(a:bT D q):q<w.heap.size:=by
 rcases a with rfl|rfl|rfl|⟨x,hx,a⟩
 .exact h.v.lt
 .exact bt.lt h.l
 .exact h.m.lt
 .exact(h.ws x hx).lt q a
theorem cB.FN(h:cB w D){k:Nat}(a:k<4):w.cell? ⟨D.d,k,none⟩=some (.int .i64 (D.cg.getD k 0)):=by
 rw[h.v.cell];unfold a_.c;have:=h.f4;rw[List.getElem?_append_left (by rw[dN];omega),lg,du I,ff I];rfl
theorem cB.c9(h:cB w D):w.cell? (Addr.add D.d 4)=some (.slice (some D.lb) D.bh.length D.bh.length):=by
 rw[av,h.v.cell];unfold a_.c;have:=h.f4;rw[kL (by rw[dN];omega),dN,this];rfl
theorem cB.aZ(h:cB w D):w.cell? (Addr.add D.d 5)=some (.map (some D.mr)):=by
 rw[av,h.v.cell];unfold a_.c;have:=h.f4;rw[kL (by rw[dN];omega),dN,this];rfl
theorem cB.vE(h:cB w D):D.c.length=7:=by
 unfold a_.c;have:=h.f4;simp;omega
def a_.now(D:a_)(i:Nat):cT:=match D.waits.find? λx=>x.i==i with
 |some x=>x.gm.getLastD []
 |none=>D.bh.getD i []
theorem FO{α:Type}{l:O α}{d:α}(h:l≠ []):l.getLastD d∈l:=by
 cases l with
 |nil=>exact absurd rfl h
 |cons a l=>
  rw[List.getLastD_cons];rw[←List.getLast_eq_getLastD];exact List.getLast_mem h
theorem cB.oy(h:cB w D){i:Nat}(hi:i<D.n):(D.now i).length=256:=by
 unfold a_.now
 cases hf:D.waits.find? λx=>x.i==i with
 |some x=>
  have hx:=ju hf;exact h.ku x hx _ (FO (h.wn x hx).1)
 |none=>
  have a:i<D.bh.length:=hi;rw[show(match (none:ao g0) with|some x=>x.gm.getLastD []|none=>D.bh.getD i [])=D.bh.getD i [] from rfl,ff a];exact h.sl _ (cA _)
theorem p7(h:cB w D):aN aj 72 #[.pointer (some D.d)] w (λv w'=>v=D.n/\w=w'):=by
 refine okF (I7.tR (some D.d)) I6.tR func72 ?_;(delta I7.tR ai af;dsimp only);exact⟨λh=>(by cases h),λ_=>⟨_,rfl,⟨some D.lb,D.bh.length,D.bh.length⟩,h.c9,rfl,rfl⟩⟩
theorem Bi(h:cB w D)(i:Int):aN aj 108 #[.pointer (some D.d),i] w (λv w'=>v=.bool (decide (0<=i/\i<D.n))/\w=w'):=by
 refine okF (I7.ue (some D.d) i) I6.ue func108 ?_;(delta I7.ue ai af;dsimp only);refine cj (λb w'=>b=decide (0<=i/\i<D.n)/\w=w') (λq c=>⟨λa=>⟨_,rfl,⟨some D.lb,D.bh.length,D.bh.length⟩,h.c9,c _ _ ⟨?_,rfl⟩⟩,λa=>c _ _ ⟨?_,rfl⟩⟩) ?_
 .have a:0<=i:=by simpa using a
  rw[fU,cQ,cQ];exact⟨λh=>⟨a,h⟩,λh=>h.2⟩
 .have a:¬0<=i:=by simpa using a
  rw[hD (λh=>a h.1)]
 .rintro _ _ ⟨rfl,rfl⟩
  exact⟨rfl,rfl⟩
end
def gx(f:Int):ah×Int:=if f= -1 then (false, -1) else if f=0 then (true, -1) else (false,f-1)
theorem FP{f:Int}(h: -1<=f/\f<=9223372036854775807): -1<=(gx f).2/\(gx f).2<=9223372036854775807:=by
 unfold gx;split
 .exact⟨by decide,by decide⟩
 .split
  .exact⟨by decide,by decide⟩
  .show -1<=f-1/\f-1<=_;omega
def a_.cw(D:a_)(k:Nat):a_:={D with cg:=D.cg.set k (gx (D.cg.getD k 0)).2}
def a_.fP(D:a_)(k:Nat):ah:=(gx (D.cg.getD k 0)).1
theorem xV{w:J}{D:a_}(h:cB w D){k:Nat}(n:k<4):
 aN aj 136 #[.pointer (some ⟨D.d,0,none⟩),.int .i64 ((k:Nat):Int)] w (λv w'=>v=.bool (D.fP k)/\cB w' (D.cw k)/\ad (λq=>q=D.d) w w'/\w'.heap.size=w.heap.size):=by
 have hf:=h.FN n;have o:=h.f4;have p: -1<=D.cg.getD k 0/\D.cg.getD k 0<=9223372036854775807:=by rw[ff I];exact h.fr _ (cA _)
 have g:∀ (w1:J),cB w1 D->cB (w1.setCell ⟨D.d,k,none⟩ (.int .i64 (gx (D.cg.getD k 0)).2)) (D.cw k):=by
  intro w1 h1;have hc:=dn w1 D.d k (.int .i64 (gx (D.cg.getD k 0)).2);have j:=dJ h1.v (i:=k) (.int .i64 (gx (D.cg.getD k 0)).2);have e:D.c.set k (.int .i64 (gx (D.cg.getD k 0)).2)=(D.cw k).c:=by
   unfold a_.c a_.cw;rw[List.set_append_left _ _ (by rw[dN];omega),←List.map_set]
  rw[e]at j;refine⟨j,bt.ae h1.l hc (λe=>h.a1.1 e.symm),h1.m.ae hc (λe=>h.a1.2.1 e.symm),λx hx=>(h1.ws x hx).ae hc λq r e=>(h.a2 x hx).1 (by subst e;exact r),h.wn,h.sl,h.ku,h.bR,h.bq,by show(D.cg.set k _).length=4;rw[dc];exact o,λx hx=>?_,h.a1,h.a2,h.a3⟩;rcases lU hx with hx|rfl
  .exact h.fr x hx
  .exact FP p
 have f:Addr.add ⟨D.d,0,none⟩ (Int.toNat ((k:Nat):Int)*1)=⟨D.d,k,none⟩:=by rw[c8,fF,av,cx]
 refine okF (I7.uq (some ⟨D.d,0,none⟩) ((k:Nat):Int)) I6.uq func136 ?_;(delta I7.uq r1 ai st ar;dsimp only);refine⟨_,rfl,⟨I,by show(k:Int)<4;omega⟩,D.cg.getD k 0,by rw[f];exact hf,λh1=>?_,λh1=>⟨λh2=>⟨_,rfl,⟨I,by show(k:Int)<4;omega⟩,?_⟩,λh2=>aS ⟨_,rfl,⟨I,by show(k:Int)<4;omega⟩,id,_,by rw[f];exact hf,_,rfl,⟨I,by show(k:Int)<4;omega⟩,?_⟩⟩⟩
 .have h1:D.cg.getD k 0= -1:=by simpa using h1
  have a:D.fP k=false:=by unfold a_.fP gx;rw[if_pos h1]
  have b:D.cw k=D:=by
   unfold a_.cw gx;rw[if_pos h1];have:D.cg.set k (-1)=D.cg:=by
    rw[←h1,ff I];exact List.set_getElem_self _
   rw[this]
  rw[a,b];exact⟨rfl,h,.refl _ _,rfl⟩
 .have h1:D.cg.getD k 0≠ -1:=by simpa using h1
  have h2:D.cg.getD k 0=0:=by simpa using h2
  have hs:=dH h.v (i:=k) (by rw[h.vE];omega);have a:D.fP k=true:=by unfold a_.fP gx;rw[if_neg h1,if_pos h2]
  have b:(gx (D.cg.getD k 0)).2= -1:=by unfold gx;rw[if_neg h1,if_pos h2]
  have:=g w h;rw[b]at this;rw[f,a];exact⟨hs.1,hs.2,aS ⟨rfl,this,dn _ _ _ _,by simp[World.setCell]⟩⟩
 .have h1:D.cg.getD k 0≠ -1:=by simpa using h1
  have h2:D.cg.getD k 0≠0:=by simpa using h2
  have hd:=h.ext (b4 w);have hs:=dH hd.v (i:=k) (by rw[h.vE];omega);have a:D.fP k=false:=by unfold a_.fP gx;rw[if_neg h1,if_neg h2]
  have b:(gx (D.cg.getD k 0)).2=D.cg.getD k 0-1:=by unfold gx;rw[if_neg h1,if_neg h2]
  have:=g w.drew hd;rw[b]at this;rw[f,a,bu I I];exact⟨hs.1,hs.2,aS ⟨rfl,this,(ad.cF (b4 w)).trans (dn _ _ _ _),by simp[World.setCell]⟩⟩
end Go.Proofs.YtkdhdlfonmgheaaGreat
