/- Contracts of the functions that the statement reaches, and the plain laws over them; each theorem stands with its conditions. -/
import Derived.Test.YtkdhdlfonmgheaaGreatBNone1
namespace Go.Proofs.YtkdhdlfonmgheaaGreat
open Go aX Go.Proofs.Tryz
def jS:az:=⟨false,[],[],[]⟩
def bu:Y:=⟨none,0,0⟩
def vJ(leaf:ag)(l:O UInt8)(w w':J)(v:aa):Prop:=
 (∃ (n:az) (K V D:Y),v=.tuple #[cM n K V D,(0:Int)]/\kh leaf l n/\bp (λq=>w.heap.size<=q) w' n K V D)\/
 (v=.tuple #[cM jS bu bu bu,(4:Int)]/\∀n,¬kh leaf l n)
theorem iA{w':J}{h:Nat}{vs:O aa}(b:ag)(K V D:Y)(c:Var w' h vs 202)(hl:vs.length=4){Q:ag->Y->Y->Y->J->Prop}(i:∀ah,ae (λq=>q=h) w' ah->Q b K V D ah):
 bz w' h [b,K,V,D]/\(4:Nat)=4/\ao (setCells w' h 0 [b,K,V,D]) λah=>
  ∃g:ag,ah.cell? h=some (.bool g)/\∃d:Y,ah.cell? (Addr.add h 1)=some (.slice d.a d.len d.cap)/\∃e:Y,ah.cell? (Addr.add h 2)=some (.slice e.a e.len e.cap)/\
   ∃f:Y,ah.cell? (Addr.add h 3)=some (.slice f.a f.len f.cap)/\Q g d e f ah:=by
 refine⟨c.b5 (by rw[hl];rfl) ?_,rfl,cn c (us:=[b,K,V,D]) (by rw[hl];rfl) rfl λah j hc _=>?_⟩
 .intro v c
  simp only[cR,eR,eY]at c;rcases c with rfl|rfl|rfl|rfl<;>trivial
 .obtain⟨bS,aA,aT,aG⟩:=bC j
  exact⟨b,bS,K,aA,V,aT,D,aG,i ah hc⟩
theorem od{w:J}{s:Y}{l:O UInt8}(hs:Src 1 w s (aF l))(hc:s.len<=s.cap)(W:∀k,aB s k->k<w.heap.size)(hl:l.length<=100000)(leaf:ag):
 aH ai 233 #[leaf,s] w (λv w'=>vJ leaf l w w' v/\Ext w w'):=by
 refine okF (af.od leaf s) ay.od func233 ?_;(delta af.od cg U aA al uZ ak st aW au a7 bW aG pE;dsimp only);refine bk (vs:=[false,(),(),()]) rfl λw1 aS ao bM=>?_;refine bk (vs:=[s,true]) rfl λah aV X bN=>?_;refine bk (vs:=[false,(),(),()]) rfl λbO ap G bP=>?_;refine⟨ap.b5 rfl (by
  intro v aq;simp only[cR,eR,eY]at aq;rcases aq with rfl|rfl|rfl|rfl<;>trivial),rfl,cn ap (us:=[leaf,(),(),()]) rfl rfl λo aX H bQ=>?_⟩
 obtain⟨lo,bR⟩:∃lo,lo=o.heap.size:=⟨_,rfl⟩;obtain⟨r,ar⟩:∃r,r=w1.heap.size:=⟨_,rfl⟩;obtain⟨nb,az⟩:∃nb,nb=ah.heap.size:=⟨_,rfl⟩;have aY:Ext w o:=Ext.cv (ao.trans (X.trans G)) H I;have a0:h_ o w1.heap.size s (l,true):=by
  refine⟨(aV.ext G).ad H I,(hs.ext (ao.trans (X.trans G))).ad H λk c e=>?_,hc,λk c=>?_⟩
  .have:=W k c;omega
  .have:=W k c;omega
 refine(vH a0 1 (by decide) hl).use ?_;rintro _ aC ⟨aD,rfl,a1,Z,a2⟩;have bT:(rdNum (l,true) 1).1<256:=vI _ 1;have bU:=Z.size;have aE:iS lo aC r nb aD (⟨leaf,[],[],[]⟩,(rdNum (l,true) 1).2) bu bu bu (λ_=>False) (λ_=>False) (λ_=>False):=by
  refine⟨by rw[az];exact aX.ad Z I,by rw[ar];exact a1,bn.none _ _,bn.none _ _,cD.none _ _,λq h=>h.elim,λq h=>h.elim,λq h=>h.elim,λq a=>?_,I,I,I,eC (tE _ 1) hl⟩;have:=W q (a2 q a);exact⟨I,I⟩
 have aK:ae (mW lo r nb) o aC:=Z.mono λk _ c=>.inl I;rw[←ar,←az];refine⟨_,rfl,jm (λw'=>∃ (x D:Y) (bA:Nat->Prop),iS lo w' r nb x (kT leaf (rdNum (l,true) 1).2) bu bu D (λ_=>False) (λ_=>False) bA/\ae (mW lo r nb) o w'/\lo<=w'.heap.size) (λq a=>⟨λd=>?_,λd=>a _ ⟨aD,bu,λ_=>False,?_,aK,I⟩⟩) ?_⟩
 .have d:leaf=false:=by simpa using d
  subst d;refine y5 aE I (by simp) λw' aw x a3 h1 m p=>a _ ⟨x,aw,a3,?_,aK.trans m,p⟩;have:kT false (rdNum (l,true) 1).2=(⟨false,[],[],[]++ [(rdNum (rdNum (l,true) 1).2 2).1]⟩,(rdNum (rdNum (l,true) 1).2 2).2):=by simp[kT]
  rw[this];exact h1
 .have d:leaf=true:=by simpa using d
  subst d;exact aE
 rintro bX ⟨a4,a5,a6,aL,a8,a9⟩;obtain⟨f,L⟩:∃f,f=kT leaf (rdNum (l,true) 1).2:=⟨_,rfl⟩;rw[←L]at aL;have a_:f.1.leaf=leaf:=by rw[L];unfold kT;cases leaf<;>rfl
 have bY:f.1.keys.length=0/\f.1.vals.length<=1/\f.1.kids.length<=1:=by rw[L];unfold kT;cases leaf<;>simp
 refine⟨λi w'=>∃ (j:Nat) (x K V D:Y) (bI bV bA:Nat->Prop),i=j/\j<=(rdNum (l,true) 1).1/\iS lo w' r nb x (gU f j) K V D bI bV bA/\ae (mW lo r nb) o w'/\lo<=w'.heap.size,λi _=>(((rdNum (l,true) 1).1:Int)-i).toNat,⟨0,a4,bu,bu,a5,_,_,a6,rfl,cI _,aL,a8,a9⟩,?_⟩;rintro _ aM ⟨j,bZ,K,V,D,bI,bV,bA,rfl,b0,g,M,bb⟩;obtain⟨bc,be,bf⟩:=y4 f j;have y:=y3 f j a_;refine⟨λaJ=>?_,λaa=>?_⟩
 .have aJ:j<(rdNum (l,true) 1).1:=by have:=cf aJ;omega
  rw[bB (n:=(j:Int)+1) I I];refine jm (λw'=>∃ (x K V D:Y) (bI bV bA:Nat->Prop),iS lo w' r nb x (gU f (j+1)) K V D bI bV bA/\ae (mW lo r nb) o w'/\lo<=w'.heap.size) (λq a=>?_) ?_
  .refine Dx g bb I λz N aN P R S T=>⟨λd=>?_,λd=>?_⟩
   .refine Dy R T (by show(gU f j).1.vals.length<=_;omega) λab bg ac bh C t aj=>a _ ⟨ac,N,bg,D,P,bh,bA,?_,M.trans (S.trans t),aj⟩
    rw[gU];unfold mS;rw[y,d,if_pos rfl];rw[y,d]at C;exact C
   .refine y5 R T (by show(gU f j).1.kids.length<=_;omega) λab bi ac bj C t aj=>a _ ⟨ac,N,V,bi,P,bV,bj,?_,M.trans (S.trans t),aj⟩
    rw[gU];unfold mS;rw[y,d,if_neg (by simp)];rw[y,d]at C;exact C
  .rintro z ⟨aN,N,bl,bm,P,bo,bq,R,S,T⟩
   refine⟨⟨j+1,aN,N,bl,bm,P,bo,bq,I,I,R,S,T⟩,?_⟩;show(((rdNum (l,true) 1).1:Int)-((j:Int)+1)).toNat<(((rdNum (l,true) 1).1:Int)-(j:Int)).toNat;omega
 .have aa:j=(rdNum (l,true) 1).1:=by have:=cx aa;omega
  have bs:gU f j=g7 leaf l:=by rw[aa,L];rfl
  rw[bs]at g bc be bf y;obtain⟨bS,aA,aT,aG⟩:=bC g.v;have cS:bp (λq=>lo<=q) aM (g7 leaf l).1 K V D:=⟨ba.aU (bn.h7 g.keys) λq _ a=>(g.bd q a).1,ba.aU (bn.h7 g.vals) λq _ a=>(g.bv q a).1,cq.aU (cD.p6 g.kids) λq _ a=>(g.aI q a).1⟩;have bt:Ext w aM:=Ext.dj aY M λk c=>by
   rcases c with c|c|c<;>omega
  refine⟨_,bS,K,aA,V,aT,D,aG,(mH cS I I I).use ?_⟩;rintro bw z ⟨bz,E⟩;have am:=bt.trans E;have bD:=g.v.ext E;have bE:=g.rd.ext E;have aO:Var z w.heap.size [false,(),(),()] 202:=by
   refine(Var.ad (w:=o) ?_ M ?_).ext E
   .exact(((aS.ext X).ext G).ad H I)
   .rintro(c|c|c)<;>omega
  have bF:=cS.ext E;obtain⟨d0,d1,d2,d3⟩:=bC bD;have bG:∃ (A:Y) (e:Int),bw=Value.tuple #[A,e]/\(e=0->aZ 1 5 z A (aF (h5 (g7 leaf l).1))/\cp (g7 leaf l).1/\bx (g7 leaf l).1<=232)/\(e≠0->cp (g7 leaf l).1->232<bx (g7 leaf l).1):=by
   rcases bz with ⟨A,rfl,h1,m,p,B⟩|⟨e,rfl,h1,m⟩
   .exact⟨A,0,rfl,λ_=>⟨h1,p,B⟩,λh=>absurd rfl h⟩
   .exact⟨bu,e,rfl,λh=>absurd h h1,λ_=>m⟩
  obtain⟨A,e,rfl,bH,aP⟩:=bG;have bJ:Src 1 z s (aF l):=hs.ext am
  have aQ:∀n,kh leaf l n->g7 leaf l=(n,([],true)):=by
   rintro n ⟨h1,m,p,B⟩;have:=vz h1 p;rw[m,B]at this;exact this
  refine⟨A,e,rfl,_,rfl,(g7 leaf l).2.2,by rw[ax];exact bE.v.cell,cl (λb w'=>z=w'/\(b=true->∀n,¬kh leaf l n)/\(b=false->kh leaf l (g7 leaf l).1)) (λq a=>⟨λh1=>a _ _ ⟨rfl,λ_ n F=>?_,λh=>(by cases h)⟩,λh1=>?_⟩) ?_⟩
  .have hu:=aQ n F
   obtain⟨m,p,B,aR⟩:=F;rw[hu]at h1 aP;have h1:(e !=0)=true:=by simpa using h1
   have b1:232<bx n:=aP (by simpa using h1) m;omega
  .have bK:(g7 leaf l).2.2=true/\e=0:=by
    simp only[nm,Bool.not_eq_false',bne_eq_false_iff_eq]at h1;exact h1
   obtain⟨m,rfl⟩:=bK;obtain⟨p,B,aR⟩:=bH rfl;refine(nU p.src bJ).use ?_;rintro _ _ ⟨rfl,rfl⟩;refine⟨_,rfl,a _ _ ⟨rfl,λu n F=>?_,λu=>?_⟩⟩
   .have hu:=aQ n F
    have u:¬h5 (g7 leaf l).1=l:=by simpa using u
    rw[hu]at u;exact u F.2.2.2
   .have u:h5 (g7 leaf l).1=l:=by simpa using u
    exact⟨B,y,aR,u⟩
  rintro b w' ⟨rfl,av,bL⟩;refine⟨λan=>?_,λan=>⟨_,d0,K,d1,V,d2,D,d3,?_⟩⟩
  .refine iA false bu bu bu aO rfl (Q:=λb K V D ah=>(λv w'=>vJ leaf l w w' v/\Ext w w') (.tuple #[.agg #[b,K,V,D],(4:Int)]) ah) λab t=>⟨.inr ⟨rfl,av an⟩,Ext.cv am t (br _)⟩
  .refine iA (g7 leaf l).1.leaf K V D aO rfl (Q:=λb K V D ah=>(λv w'=>vJ leaf l w w' v/\Ext w w') (.tuple #[.agg #[b,K,V,D],(0:Int)]) ah) λab t=>⟨.inl ⟨(g7 leaf l).1,K,V,D,rfl,bL an,?_⟩,Ext.cv am t (br _)⟩
   exact(bF.ad t λk c e=>I).aU λk _ c=>by omega
theorem Dz{s v:Y}{vs xs:O aa}{i kF:Nat}{ak:Array aa}{am:TypeId}{w:J}(H:aZ 1 48 w s vs)(N:Src 1 w v xs)(g:v.len=1)(an:v.a=some ⟨kF,0,none⟩)(T:bh w kF ak am)(ao:¬aB s kF)
 (U:∀u∈xs,Plain u) (aO:∀u∈vs,Plain u) (hi:i<=s.len) (ba:s.len<=1000000):
 aH ai 210 #[s,.int .i64 (i:Int),v] w (λu w'=>∃z:Y,u=z/\aZ 1 48 w' z (vs.take (i*1)++xs++vs.drop (i*1))/\z.len=s.len+1/\ae (aB s) w w'/\(∀k,aB z k->aB s k\/w.heap.size<=k)):=by
 obtain⟨h1,bb,bc,aP,ap,aQ,aR,E,aq,aS⟩:=(p7).out;obtain⟨d0,K⟩:=jf _ ap;refine okF (af.rT s i v) ay.rT func210 ?_;(delta af.rT al au aT;dsimp only);have bd:=H.2.1;have be:=H.2.2.1;have bf:maxLen=9223372036854775807:=rfl;have p:xs.length=1:=by have:=N.len;rw[g]at this;omega
 have V:=H.1;refine⟨⟨I,I⟩,λh=>by rw[g]at h;simp at h,λ_=>⟨λh=>?_,λh=>?_⟩⟩
 .have aU:i=s.len:=by have:=eq_of_beq h;omega
  subst aU;obtain⟨z,w',av,aV,X,Q,F⟩:=(p7).append (dG:=127) N H U (by rw[g];omega);refine⟨z,w',av,z,rfl,?_,by rw[X,g],Q,F⟩;rwa[dT I,List.drop_of_length_le I,fX]
 have aJ:i<s.len:=by
  have h:¬((i:Int)=(s.len:Int)):=λe=>by rw[e]at h;simp at h
  omega
 rcases H.2.2.2 with ⟨_,hc⟩|⟨b,c,r,G,aw,ax⟩
 .omega
 have aW:b≠kF:=λe=>ao ⟨_,r,e⟩;have aX:IntKind.wrap .i64 ((s.len:Int)+(v.len:Int))=((s.len+1:Nat):Int):=by rw[g,bB I I];rfl
 have a0:IntKind.wrap .i64 ((i:Int)+(v.len:Int))=((i+1:Nat):Int):=by rw[g,bB I I];rfl
 have a1:IntKind.wrap .i64 (((s.len+1:Nat):Int)-(i:Int))=((s.len+1-i:Nat):Int):=by rw[bB I I];omega
 have bg:c.toList.length=s.cap*1:=by simpa using aw
 have az:∀k,k<=s.len->vs.take (k*1)=c.toList.take (k*1):=λk d=>by rw[←ax,List.take_take,jd I]
 have aA:vs.drop (i*1)=(c.toList.drop (i*1)).take ((s.len-i)*1):=by rw[←ax,List.drop_take,show s.len*1-i*1=(s.len-i)*1 from I]
 have aC:∀u∈vs.drop (i*1),Plain u:=λu hu=>aO u (eP hu);have B:(vs.drop (i*1)).length=(s.len-i)*1:=by rw[c5,V];omega
 have L:∀ (Z o l m:Nat),l<m->aL (some (Addr.mk Z o none)) 1 l m=some ⟨Z,o+l*1,none⟩:=λZ o l m bi=>x_ I;simp only[aX,a0,a1,du,Nat.sub_zero,BS];refine⟨λhg=>?_,λhg=>?_⟩
 .have bj:s.cap<s.len+1:=by have:=cf hg;omega
  have a2:Src 1 w ⟨some b,i,s.cap⟩ (vs.take (i*1)):=by
   have:=G.rr (sz:=1) (o:=0) (n:=i) (cap:=s.cap) I;rw[kt]at this;rwa[az i I]
  obtain⟨j,zs,rest,av,aV,X,Q,F⟩:=BR (P:=ai) (fN:= #[127,3]) (dG:=127) (jn:=3) (k:=.i64) (s:=⟨some b,i,s.cap⟩) (n:=s.len+1-i) rfl rfl h1 (by kernel_rfl) aP ap aQ aR E (by rw[aq];exact aS) a2 (by show s.cap<i+_;omega) (by rw[aq];show(2*(i+_)+1000)*_<=_;omega);have a3:i+(s.len+1-i)=s.len+1:=by omega
  simp only[a3]at av Q F;obtain⟨C,ab⟩:∃C,C=(vs.take (i*1)++zs++rest).toArray:=⟨_,rfl⟩;rw[←ab]at F;obtain⟨D,ac⟩:∃D,D=w.drew.alloc (.cells C 48):=⟨_,rfl⟩;rw[←ac]at F;have aD:bh D w.heap.size C 48:=by rw[ac];exact bh.new w.drew _ _
  have aE:Ext w D:=by rw[ac];exact ae.alloc (ae.drew (.refl _ _)) _
  have f:(vs.take (i*1)).length=i*1:=by rw[cC,V];omega
  have aF:C.size=j*1:=by rw[ab];simp[f,X,Q];omega
  have bk:C.toList.length=j*1:=by simpa using aF
  have M:=rq (P:=ai) (kM:=127) (dU:=127) (ty:=3) (A:=⟨w.heap.size,0+i*1,none⟩) (dl:=s.len+1-i) (mo:=j-i) (n:=1) h1 K E (x:=v) (by rw[g];exact jd I) (xs:=xs) (by have:=N.ext aE;have e:(⟨v.a,1,v.cap⟩:Y)=v:=(by rw[←g]);rw[e];exact this) (by rw[cH];exact aD.b5 _ _ I U);obtain⟨t,ag⟩:∃t,t=setCells D ⟨w.heap.size,0+i*1,none⟩ 0 xs:=⟨_,rfl⟩;rw[←ag]at M;have aG:bh t w.heap.size (fY C (i*1) xs) 48:=by rw[ag,cH];exact aD.jI xs
  have a4:Ext w t:=by rw[ag];exact Ext.dj aE (ae.kJ (.refl _ _) xs 0) (λk d=>by subst d;exact br _)
  have a5:Ext t t.drew:=ae.drew (.refl _ _);have aI:=Ext.trans a4 a5;have ah:=rq (P:=ai) (w:=t.drew) (kM:=127) (dU:=127) (ty:=3) (A:=⟨w.heap.size,0+(i+1)*1,none⟩) (dl:=s.len+1-(i+1)) (mo:=j-(i+1)) (n:=s.len-i) h1 K E (x:=⟨some ⟨b,0+i*1,none⟩,s.len-i,s.cap-i⟩) (jd (by show s.len-i<=_;omega)) (xs:=vs.drop (i*1))
   (by have:=(G.ext aI).rr (sz:=1) (o:=i*1) (n:=s.len-i) (cap:=s.cap-i) I;rw[aA,cH];exact this) (by rw[cH];exact bh.b5 (bh.drew aG) _ _ (by rw[jl];omega) aC)
  have R:aL (some (Addr.mk w.heap.size 0 none)) 1 i j=some ⟨w.heap.size,0+i*1,none⟩:=L _ _ _ _ I;have S:aL (some (Addr.mk w.heap.size 0 none)) 1 (i+1) j=some ⟨w.heap.size,0+(i+1)*1,none⟩:=L _ _ _ _ I;have a6:aL s.a 1 i s.cap=some ⟨b,0+i*1,none⟩:=by rw[r];exact L _ _ _ _ I
  have a7:Sem.run ai (Builtin.append_ #[127,3] 127 #[.slice s.a i s.cap,.int .i64 ((s.len+1-i:Nat):Int)]) w=.ok (.slice (some w.heap.size) (s.len+1) j) D:=by rw[r];exact F
  refine⟨⟨I,I⟩,⟨some w.heap.size,s.len+1,j⟩,D,a7,⟨I,by show(i:Int)<=((s.len+1:Nat):Int);omega⟩,_,t,by rw[R];exact M,aY ⟨⟨I,by show((i+1:Nat):Int)<=((s.len+1:Nat):Int);omega⟩,⟨I,I⟩,_,_,by rw[S,a6];exact ah,⟨some w.heap.size,s.len+1,j⟩,rfl,?_,rfl,?_,?_⟩⟩
  .refine aZ.mk' ((bh.drew aG).jI (o:=0+(i+1)*1) _) (by simp[f,p,B];omega) I I (by rw[jl,jl,aF]) ?_
   rw[ly _ _ _ (by rw[jl];omega),ly _ _ _ I];have t1:C.toList.take (i*1)=vs.take (i*1):=by rw[ab,o5,cW];exact List.take_left' f
   have t2:(C.toList.take (i*1)++xs++C.toList.drop (i*1+xs.length)).take (0+(i+1)*1)=vs.take (i*1)++xs:=by
    rw[t1,qK (by simp[f,p];omega),dT (by simp[f,p];omega)]
   rw[t2,qK (by simp[f,p,B];omega),dT (by simp[f,p,B];omega)]
  .exact ae.cJ (Ext.dj aI (ae.kJ (.refl _ _) _ 0) (λk d=>by subst d;exact br _))
  .rintro k ⟨A,ar,d⟩
   cases ar;exact .inr (Nat.le_of_eq d)
 .have bl:s.len+1<=s.cap:=by have:=cx hg;omega
  have R:aL s.a 1 (i+1) s.cap=some ⟨b,0+(i+1)*1,none⟩:=by rw[r];exact L _ _ _ _ I
  have S:aL s.a 1 i s.cap=some ⟨b,0+i*1,none⟩:=by rw[r];exact L _ _ _ _ I
  have a8:Sem.run ai (callFunc 252 #[v,.slice (some ⟨b,0+(i+1)*1,none⟩) (s.len+1-(i+1)) (s.cap-(i+1))]) w=.ok (.value false) w:=by
   rw[an,run_callFunc_extern (e:=Extern.SlicesOverlaps.overlaps #[127,127] #[4]) func252 (by kernel_rfl) (by kernel_rfl) (by kernel_rfl) (by kernel_rfl)];have:=Lib.run_overlaps_apart (P:=ai) w 127 4 48 h1 1 (λw=>by have:=gx (w:=w) K;rwa[E]at this) kF ⟨b,0+(i+1)*1,none⟩ v.len v.cap (s.len+1-(i+1)) (s.cap-(i+1)) (λe=>aW e.symm) am 48 ak.size c.size
    (by have:=T;unfold bh at this;simp[World.shape?,this]) (by have:=G;unfold bh at this;simp[World.shape?,this]) I (T.frozen _ rfl) (T.frozen _ rfl)
   rw[this];rfl
  have M:=rq (P:=ai) (w:=w.drew) (kM:=127) (dU:=127) (ty:=3) (A:=⟨b,0+(i+1)*1,none⟩) (dl:=s.len+1-(i+1)) (mo:=s.cap-(i+1)) (n:=s.len-i) h1 K E (x:=⟨some ⟨b,0+i*1,none⟩,s.len+1-i,s.cap-i⟩) ((Nat.min_eq_right (by show _<=s.len+1-i;omega)).trans I) (xs:=vs.drop (i*1))
   (by have:=(bh.drew G).rr (sz:=1) (o:=i*1) (n:=s.len-i) (cap:=s.cap-i) I;rw[aA,cH];exact this) (by rw[cH];exact bh.b5 (bh.drew G) _ _ I aC)
  obtain⟨y,aj⟩:∃y,y=setCells w.drew ⟨b,0+(i+1)*1,none⟩ 0 (vs.drop (i*1)):=⟨_,rfl⟩;rw[←aj]at M;have aK:bh y b (fY c ((i+1)*1) (vs.drop (i*1))) 48:=by rw[aj,cH];exact(bh.drew G).jI _
  have aM:ae (aB s) w y:=by
   rw[aj];exact ae.mono (W:=λq=>q=b) (ae.kJ (ae.drew (.refl _ _)) _ 0) (λk _ d=>⟨_,r,d.symm⟩)
  have a9:Src 1 y v xs:=N.ad aM (λk d a_=>by obtain⟨A,ar,rfl⟩:=d;rw[an]at ar;cases ar;exact ao a_);have ah:=rq (P:=ai) (w:=y) (kM:=127) (dU:=127) (ty:=3) (A:=⟨b,0+i*1,none⟩) (dl:=s.len+1-i) (mo:=s.cap-i) (n:=1) h1 K E (x:=v) (by rw[g];exact jd I) (xs:=xs) (by have e:(⟨v.a,1,v.cap⟩:Y)=v:=(by rw[←g]);rw[e];exact a9) (by rw[cH];exact aK.b5 _ _ (by rw[jl];omega) U);refine⟨⟨I,I⟩,⟨I,I⟩,false,w,by rw[R];exact a8,λ_=>aY ⟨⟨I,I⟩,⟨I,I⟩,_,y,by rw[R,S];exact M,⟨I,I⟩,_,_,by rw[S];exact ah,⟨s.a,s.len+1,s.cap⟩,rfl,?_,rfl,?_,λk d=>.inl d⟩,λh=>by simp at h⟩
  .have aN:aZ 1 48 (setCells y ⟨b,0+i*1,none⟩ 0 xs) ⟨some b,s.len+1,s.cap⟩ (vs.take (i*1)++xs++vs.drop (i*1)):=by
    have f:(vs.take (i*1)).length=i*1:=by rw[cC,V];omega
    refine aZ.mk' (aK.jI (o:=0+i*1) _) (by simp[f,p,B];omega) I I (by rw[jl,jl,aw]) ?_;rw[ly _ _ _ (by rw[jl];omega),ly _ _ _ I];have t1:(c.toList.take ((i+1)*1)++vs.drop (i*1)++c.toList.drop ((i+1)*1+(vs.drop (i*1)).length)).take (0+i*1)=vs.take (i*1):=by
     rw[cH,qK (by simp[B];omega),qK (by simp;omega),List.take_take,az i I,jd I]
    have t2:(c.toList.take ((i+1)*1)++vs.drop (i*1)++c.toList.drop ((i+1)*1+(vs.drop (i*1)).length)).drop (0+i*1+xs.length)=vs.drop (i*1)++c.toList.drop ((i+1)*1+(vs.drop (i*1)).length):=by
     have hl:(c.toList.take ((i+1)*1)).length=0+i*1+xs.length:=by simp;omega
     rw[cW,←hl,List.drop_left]
    rw[t1,t2,←cW,qK (by simp[f,p,B];omega),dT (by simp[f,p,B];omega)]
   rw[←r]at aN;exact aN
  .exact aM.trans (ae.mono (W:=λq=>q=b) (ae.kJ (.refl _ _) _ 0) (λk _ d=>⟨_,r,d.symm⟩))
theorem p8{w:J}{s:Y}{ds:O Nat}(h:Src 1 w s (dr ds))(hl:ds.length<=1000000):
 aH ai 245 #[s] w (λv w'=>∃b:Y,v=b/\aZ 1 3 w' b (dr ds)/\Ext w w'/\gd w b):=by
 have i:s.len=ds.length:=by have:=h.len;rw[lO]at this;omega
 refine okF (af.rX s) ay.rX func245 ?_;delta af.rX al U;refine⟨λc=>?_,λ_=>?_⟩
 .have c:s.a=none:=by simpa using c
  rw[h.nil c];exact⟨⟨none,0,0⟩,rfl,aZ.none _ _ _,.refl _ _,λk d=>(gi k d).elim⟩
 .obtain⟨b,w',h1,e,j,f,g,_⟩:=oy.clone (dG:=58) h (vF ds) I
  exact aY ⟨b,w',h1,b,rfl,e,f,g⟩
theorem DA{ks:O Key}{k:Key}{a:Nat}(e:a<=ks.length)(h1:∀ (j:Nat) (h:j<ks.length),j<a->bU ks[j] k)(d:∀ (j:Nat) (h:j<ks.length),a<=j->¬bU ks[j] k):cL ks k=a:=by
 unfold cL;rcases dJ a ks.length with h|h
 .exact(List.findIdx_eq h).2 ⟨dv (d a h (br _)),λj b=>gM λc=>c (h1 j I b)⟩
 .have:a=ks.length:=by omega
  subst this;refine List.findIdx_eq_length_of_false λx hx=>?_;obtain⟨j,b,rfl⟩:=eD hx;exact gM λc=>c (h1 j b b)
def iB(ks:O Key)(k:Key):ag:=decide (ks[cL ks k]? =some k)
theorem DB{B C:Nat->Prop}{s t:Y}{ks:O Key}{key:Key}{w:J}(hs:ba B w s ks)(ht:Src 1 w t (aF key))(y:ks.Pairwise bU)(N:ks.length<=100000):
 aH ai 240 #[s,t,.func (.func 176) #[] #[]] w (λv w'=>v=.tuple #[.int .i64 ((cL ks key:Nat):Int),.bool (iB ks key)]/\w=w'):=by
 refine okF (af.rU s t ⟨176,#[],#[]⟩) ay.rU func240 ?_;(delta af.rU al au ak aI;dsimp only);have hl:=ba.len hs;have p:hY ai 176:=⟨_,(Option.some_get (show(Tryz.prog.funcs[176]?).isSome=true by kernel_rfl)).symm,by kernel_rfl,by kernel_rfl⟩;have aJ:=λ{i j:Nat} (hi:i<j) (e:j<ks.length)=>lh.1 y i j I e hi;refine⟨λlo hi w'=>∃a b:Nat,lo=a/\hi=b/\a<=b/\b<=ks.length/\w=w'/\(∀ (j:Nat) (h:j<ks.length),j<a->bU ks[j] key)/\(∀ (j:Nat) (h:j<ks.length),b<=j->¬bU ks[j] key),λlo hi _=>(hi-lo).toNat,
  ⟨0,ks.length,rfl,by rw[hl],cI _,br _,rfl,λj _ h=>I,λj h f=>I⟩,?_⟩
 rintro _ _ _ ⟨a,b,rfl,rfl,P,r,rfl,h1,f⟩;have z:=BV (a:=a) (b:=b) I;refine⟨λh=>?_,λh=>?_⟩
 .have D:(a:Int)<(b:Int):=cf h
  rw[z];obtain⟨m,E⟩:∃m,m=(a+b)/2:=⟨_,rfl⟩;rw[←E];have F:a<=m:=by omega
  have Q:m<b:=by omega
  obtain⟨A,t2,ar,g,k,l,_⟩:=ba.at hs (i:=m) I;refine⟨by decide,A,ar,g,t2,k,p,(kc l.1 ht).use ?_⟩;rintro _ _ ⟨rfl,rfl⟩;have G:IntKind.wrap .i64 ((m:Int)+1)=((m+1:Nat):Int):=by rw[bB I I];rfl
  refine⟨_,rfl,λhc=>?_,λhc=>?_⟩
  .have hc:bU ks[m] key:=cf hc
   rw[G];have n:((b:Int)-((m+1:Nat):Int)).toNat<((b:Int)-(a:Int)).toNat:=by omega
   refine⟨⟨m+1,b,rfl,rfl,I,r,rfl,λj e H=>?_,f⟩,n⟩;rcases dJ j m with d|d
   .exact kQ (aJ d I) hc
   .have:j=m:=by omega
    subst this;exact hc
  .have hc:¬bU ks[m] key:=cx hc
   have n:((m:Int)-(a:Int)).toNat<((b:Int)-(a:Int)).toNat:=by omega
   refine⟨⟨a,m,rfl,rfl,F,I,rfl,h1,λj e H=>?_⟩,n⟩;rcases dJ m j with d|d
   .exact λK=>hc (kQ (aJ d e) K)
   .have:j=m:=by omega
    subst this;exact hc
 .have L:¬(a:Int)<(b:Int):=cx h
  have M:b=a:=by omega
  subst M;have o:cL ks key=b:=DA r h1 f;refine cl (λc w'=>w=w'/\c=iB ks key) (λq u=>⟨λh=>?_,λh=>?_⟩) ?_
  .have D:(b:Int)<(s.len:Int):=cf h
   have x:b<ks.length:=by omega
   obtain⟨A,t2,ar,g,k,l,_⟩:=ba.at hs x;refine⟨A,ar,g,t2,k,p,(kc l.1 ht).use ?_⟩;rintro _ _ ⟨rfl,rfl⟩;refine⟨_,rfl,u _ _ ⟨rfl,?_⟩⟩;unfold iB;rw[o,fm,cO,jc,dD x,CF];exact⟨λh=>by rw[h],λh=>Option.some.inj h⟩
  .have L:¬(b:Int)<(s.len:Int):=cx h
   refine u _ _ ⟨rfl,?_⟩;unfold iB;rw[o,kz I];simp
  .rintro _ _ ⟨rfl,rfl⟩
   exact⟨by rw[o],rfl⟩
theorem lE{B:Nat->Prop}{w:J}{n:az}{K V D t:Y}{key:Key}(h:bp B w n K V D)(ht:Src 1 w t (aF key))(b:n.keys.Pairwise bU)(c:n.keys.length<=100000):
 aH ai 198 #[cM n K V D,t] w (λv w'=>v=.tuple #[.int .i64 ((cL n.keys key:Nat):Int),.bool (iB n.keys key)]/\Ext w w'):=by
 refine okF (af.lE n.leaf K V D t) ay.lE func198 ?_;(delta af.lE ak U j9;dsimp only);refine bk (vs:=[n.leaf,K,V,D]) rfl λw1 d a _=>?_;obtain⟨bS,aA,aT,aG⟩:=bC d;refine⟨K,aA,(DB (B:=B) (C:=B) (h.keys.ext a) (ht.ext a) b c).use ?_⟩;rintro _ _ ⟨rfl,rfl⟩;exact⟨_,_,rfl,rfl,a⟩
theorem n1{B:Nat->Prop}{w:J}{n:az}{K V D t:Y}{key:Key}(h:bp B w n K V D)(ht:Src 1 w t (aF key))(b:n.keys.Pairwise bU)(c:n.keys.length<=100000):
 aH ai 143 #[cM n K V D,t] w (λv w'=>v=.tuple #[.int .i64 ((cL n.keys key:Nat):Int),.bool (iB n.keys key)]/\Ext w w'):=by
 refine okF (af.n1 n.leaf K V D t) ay.n1 func143 ?_;(delta af.n1 a7 U ak j9;dsimp only);refine bk (vs:=[n.leaf,K,V,D]) rfl λw1 d a _=>?_;obtain⟨bS,aA,aT,aG⟩:=bC d;refine⟨_,bS,K,aA,V,aT,D,aG,(lE (h.ext a) (ht.ext a) b c).use ?_⟩;rintro _ _ ⟨rfl,e⟩;exact⟨_,_,rfl,rfl,a.trans e⟩
theorem DC{ks:O Key}(e:ks.Pairwise bU)(k:Key):ew ks k=if iB ks k then cL ks k+1 else cL ks k:=by
 have f:=p0 ks k;have key:∀a,a<=ks.length->(∀ (j:Nat) (h:j<ks.length),j<a->¬bU k ks[j])->(∀h:a<ks.length,bU k ks[a])->ew ks k=a:=by
  intro a i h1 g;unfold ew;rcases dJ a ks.length with h|h
  .exact(List.findIdx_eq h).2 ⟨dv (g h),λj b=>gM (h1 j I b)⟩
  .have:a=ks.length:=by omega
   subst this;refine List.findIdx_eq_length_of_false λx hx=>?_;obtain⟨j,b,rfl⟩:=eD hx;exact gM (h1 j b b)
 split
 .rename_i c
  have c:ks[cL ks k]? =some k:=cf c;obtain⟨aJ,he⟩:=jA.1 c;refine key _ aJ (λj b h=>?_) λh=>?_
  .rcases dJ j (cL ks k) with d|d
   .exact jN (mO d b)
   .have:j=cL ks k:=by omega
    subst this;rw[he];exact ot _
  .have:=lh.1 e _ _ aJ h (Nat.lt_succ_self _)
   rwa[he]at this
 .rename_i c
  have c:¬ks[cL ks k]? =some k:=λh=>c (dv h);refine key _ f (λj b h=>jN (mO h b)) λh=>?_;rcases mM.1 (ow e (br _) h) with d|d
  .exact d
  .exact absurd ((dD h).trans (congrArg some d.symm)) c
theorem n_{B:Nat->Prop}{w:J}{n:az}{K V D t:Y}{key:Key}(h:bp B w n K V D)(ht:Src 1 w t (aF key))(b:n.keys.Pairwise bU)(e:n.keys.length<=100000):
 aH ai 197 #[cM n K V D,t] w (λv w'=>v=.int .i64 ((ew n.keys key:Nat):Int)/\Ext w w'):=by
 refine okF (af.n_ n.leaf K V D t) ay.n_ func197 ?_;(delta af.n_ a7 U ak j9 al au;dsimp only);refine bk (vs:=[n.leaf,K,V,D]) rfl λw1 f a _=>?_;obtain⟨bS,aA,aT,aG⟩:=bC f;have i:=p0 n.keys key;refine⟨_,bS,K,aA,V,aT,D,aG,(lE (h.ext a) (ht.ext a) b e).use ?_⟩;rintro _ ah ⟨rfl,g⟩;rw[DC b];refine⟨_,_,rfl,cl (λc w'=>ah=w'/\c=((if iB n.keys key then cL n.keys key+1 else cL n.keys key:Nat):Int)) (λq d=>⟨λh=>d _ _ ⟨rfl,?_⟩,λh=>d _ _ ⟨rfl,?_⟩⟩) ?_⟩
 .rw[if_pos h,bB I I];rfl
 .rw[if_neg (by simp[h])]
 .rintro _ _ ⟨rfl,rfl⟩
  exact⟨rfl,a.trans g⟩
structure gW(lo:Nat)(w:J)(aE:Nat)(n:az)(K V D:Y)(bI bV bA:Nat->Prop):Prop where
 v:Var w aE [n.leaf,K,V,D] 202
 keys:bn bI w K n.keys
 vals:bn bV w V n.vals
 kids:cD bA w D n.kids
 bd:∀q,bI q->lo<=q/\q<w.heap.size/\q≠aE/\¬bV q/\¬bA q
 bv:∀q,bV q->lo<=q/\q<w.heap.size/\q≠aE/\¬bA q
 aI:∀q,bA q->lo<=q/\q<w.heap.size/\q≠aE
 kW:lo<=aE
structure eB(lo:Nat)(w:J)(n:az)(K V D:Y)(bI bV bA:Nat->Prop):Prop where
 keys:bn bI w K n.keys
 vals:bn bV w V n.vals
 kids:cD bA w D n.kids
 bd:∀q,bI q->lo<=q/\q<w.heap.size/\¬bV q/\¬bA q
 bv:∀q,bV q->lo<=q/\q<w.heap.size/\¬bA q
 aI:∀q,bA q->lo<=q/\q<w.heap.size
section
variable {lo:Nat}{w w':J}{aE:Nat}{n:az}{K V D:Y}{bI bV bA:Nat->Prop}
theorem gW.mem(h:gW lo w aE n K V D bI bV bA):eB lo w n K V D bI bV bA:=⟨h.keys,h.vals,h.kids,λq a=>⟨(h.bd q a).1,(h.bd q a).2.1,(h.bd q a).2.2.2⟩,λq a=>⟨(h.bv q a).1,(h.bv q a).2.1,(h.bv q a).2.2.2⟩,λq a=>⟨(h.aI q a).1,(h.aI q a).2.1⟩⟩
theorem eB.ad{W:Nat->Prop}(h:eB lo w n K V D bI bV bA)(hc:ae W w w')(cd:∀q,lo<=q->q<w.heap.size->bI q\/bV q\/bA q->¬W q):eB lo w' n K V D bI bV bA:=by
 have hs:=hc.size;refine⟨bn.ad h.keys hc λq a=>cd q (h.bd q a).1 (h.bd q a).2.1 (.inl a),bn.ad h.vals hc λq a=>cd q (h.bv q a).1 (h.bv q a).2.1 (.inr (.inl a)),cD.ad h.kids hc λq a=>cd q (h.aI q a).1 (h.aI q a).2 (.inr (.inr a)),λq a=>?_,λq a=>?_,λq a=>?_⟩
 .have:=h.bd q a;exact⟨this.1,I,this.2.2⟩
 .have:=h.bv q a;exact⟨this.1,I,this.2.2⟩
 .have:=h.aI q a;exact⟨this.1,I⟩
theorem eB.ext(h:eB lo w n K V D bI bV bA)(hc:Ext w w'):eB lo w' n K V D bI bV bA:=h.ad hc λ_ _ _ _ h=>h
theorem gW.ext(h:gW lo w aE n K V D bI bV bA)(hx:Ext w w'):gW lo w' aE n K V D bI bV bA:=
 ⟨h.v.ext hx,bn.ext h.keys hx,bn.ext h.vals hx,cD.ext h.kids hx,λq a=>⟨(h.bd q a).1,fc (h.bd q a).2.1 hx.size,(h.bd q a).2.2⟩,λq a=>⟨(h.bv q a).1,fc (h.bv q a).2.1 hx.size,(h.bv q a).2.2⟩,λq a=>⟨(h.aI q a).1,fc (h.aI q a).2.1 hx.size,(h.aI q a).2.2⟩,h.kW⟩
theorem eB.at(h:eB lo w n K V D bI bV bA):bp (λq=>lo<=q) w n K V D:=
 ⟨ba.aU (bn.h7 h.keys) λq _ a=>(h.bd q a).1,ba.aU (bn.h7 h.vals) λq _ a=>(h.bv q a).1,cq.aU (cD.p6 h.kids) λq _ a=>(h.aI q a).1⟩
theorem eB.low{b:Nat}(h:eB lo w n K V D bI bV bA)(hl:b<=lo):eB b w n K V D bI bV bA:=
 ⟨h.keys,h.vals,h.kids,λq a=>⟨eC hl (h.bd q a).1,(h.bd q a).2⟩,λq a=>⟨eC hl (h.bv q a).1,(h.bv q a).2⟩,λq a=>⟨eC hl (h.aI q a).1,(h.aI q a).2⟩⟩
end
theorem vK{lo:Nat}{w:J}{aE:Nat}{n:az}{K V D t:Y}{l:Key}{bI bV bA:Nat->Prop}(h:gW lo w aE n K V D bI bV bA)(ht:Src 1 w t (aF l))(hl:l.length<=100000)(F:n.keys.length<=100000){R:J->Prop}
 (G:∀ (w':J) (H:Y) (y:Nat->Prop),gW lo w' aE {n with keys:=n.keys++ [l]} H V D y bV bA->ae (λq=>q=aE\/bI q) w w'->(∀q,y q->bI q\/w.heap.size<=q)->R w'):
 ao w.drew λj=>∃m:Nat->Prop,¬m (Addr.add aE 1).block/\∃g:Y,j.cell? (Addr.add aE 1)=some (.slice g.a g.len g.cap)/\
  Calls ai 135 #[t] j λL d=>∃z:Y,L=.returned z/\ae m j d/\
  ao (d.alloc (.cells #[z] 48)) λA=>ae m d A/\∃C:Y,∃i:J,Sem.run ai (Builtin.append_ #[127,127] 127 #[g,.slice (some d.heap.size) 1 1]) A=.ok C i/\
  (∃u:aa,i.cell? (Addr.add aE 1)=some u)/\i.frozen? (Addr.add aE 1)=false/\ao (i.setCell (Addr.add aE 1) C) λM=>R M:=by
 have X:=h.kW;have Z:=h.v.lt;have p:=cr w;obtain⟨bS,aA,aT,aG⟩:=bC (h.v.ext p);refine aY ⟨λ_=>False,id,K,aA,(jt (B:=λq=>w.heap.size<=q) (ht.ext p) I (λq b=>b)).use ?_⟩;rintro _ d ⟨N,rfl,E,hx,hf⟩;have e:=p.trans hx;have ab:w.drew.heap.size=w.heap.size:=rfl;have O:=e.size;have P:=bn.ext h.keys e;have dC:=bn.ext h.vals e;have Q:=cD.ext h.kids e;refine⟨N,rfl,hx,tF (B:=Grow bI w.drew d) (h.v.ext e) (o:=1) (by simp) (bn.aU P λk _ h=>.inl h) ?_ (bg.aU E λk c h=>.inr ⟨h,c⟩) ?_ F λw' aM av S f=>?_⟩
 .rintro(h1|h1)
  .exact(h.bd aE h1).2.2.1 rfl
  .omega
 .intro k T U
  obtain⟨ts,_,_,r,_⟩:=h.keys;have:=(r k U).2;have:=(E.2.2 k T).1;omega
 have W:∀q,Grow (Grow bI w.drew d) d w' q->bI q\/(w.heap.size<=q/\q<w'.heap.size):=by
  rintro q ((h1|h1)|h1)
  .exact .inl h1
  .exact .inr ⟨h1.1,fc h1.2 f.size⟩
  .exact .inr ⟨eC O h1.1,h1.2⟩
 have hg:=f.size;have s:∀q,aB K q->bI q:=λq b=>by
  obtain⟨ts,_,_,r,_⟩:=h.keys;exact(r q b).1
 refine G w' aM (λq=>bI q\/(w.heap.size<=q/\q<w'.heap.size)) ⟨by simpa using av,bn.aU S λk _ c=>W k c,bn.ad dC f ?_,cD.ad Q f ?_,?_,λq b=>?_,λq b=>?_,h.kW⟩ ?_ ?_
 .rintro q b (h1|h1)
  .exact(h.bv q b).2.2.1 h1
  .exact(h.bd q (s q h1)).2.2.2.1 b
 .rintro q b (h1|h1)
  .exact(h.aI q b).2.2 h1
  .exact(h.bd q (s q h1)).2.2.2.2 b
 .rintro q (h1|h1)
  .have:=h.bd q h1;exact⟨this.1,I,this.2.2⟩
  .exact⟨I,h1.2,I,λx=>by have:=h.bv q x;omega,λx=>by have:=h.aI q x;omega⟩
 .have:=h.bv q b;exact⟨this.1,I,this.2.2⟩
 .have:=h.aI q b;exact⟨this.1,I,this.2.2⟩
 .refine(ae.cJ e).trans (f.mono λk _ c=>?_)
  rcases c with c|c
  .exact .inl c
  .exact .inr (s k c)
 .rintro q (h1|h1)
  .exact .inl h1
  .exact .inr h1.1
theorem y6{lo:Nat}{w:J}{aE:Nat}{n:az}{K V D t:Y}{l:Key}{bI bV bA:Nat->Prop}(h:gW lo w aE n K V D bI bV bA)(ht:Src 1 w t (aF l))(hl:l.length<=100000)(E:n.vals.length<=100000){R:J->Prop}
 (F:∀ (w':J) (G:Y) (x:Nat->Prop),gW lo w' aE {n with vals:=n.vals++ [l]} K G D bI x bA->ae (λq=>q=aE\/bV q) w w'->(∀q,x q->bV q\/w.heap.size<=q)->R w'):
 ao w.drew λj=>∃m:Nat->Prop,¬m (Addr.add aE 2).block/\∃g:Y,j.cell? (Addr.add aE 2)=some (.slice g.a g.len g.cap)/\
  Calls ai 135 #[t] j λH d=>∃y:Y,H=.returned y/\ae m j d/\
  ao (d.alloc (.cells #[y] 48)) λz=>ae m d z/\∃A:Y,∃i:J,Sem.run ai (Builtin.append_ #[127,127] 127 #[g,.slice (some d.heap.size) 1 1]) z=.ok A i/\
  (∃u:aa,i.cell? (Addr.add aE 2)=some u)/\i.frozen? (Addr.add aE 2)=false/\ao (i.setCell (Addr.add aE 2) A) λL=>R L:=by
 have X:=h.kW;have Z:=h.v.lt;have p:=cr w;obtain⟨bS,aA,aT,aG⟩:=bC (h.v.ext p);refine aY ⟨λ_=>False,id,V,aT,(jt (B:=λq=>w.heap.size<=q) (ht.ext p) I (λq b=>b)).use ?_⟩;rintro _ d ⟨M,rfl,C,hx,hf⟩;have e:=p.trans hx;have ab:w.drew.heap.size=w.heap.size:=rfl;have N:=e.size;have O:=bn.ext h.keys e;have dC:=bn.ext h.vals e;have P:=cD.ext h.kids e;refine⟨M,rfl,hx,tF (B:=Grow bV w.drew d) (h.v.ext e) (o:=2) (by simp) (bn.aU dC λk _ h=>.inl h) ?_ (bg.aU C λk c h=>.inr ⟨h,c⟩) ?_ E λw' aM av Q f=>?_⟩
 .rintro(h1|h1)
  .exact(h.bv aE h1).2.2.1 rfl
  .omega
 .intro k S T
  obtain⟨ts,_,_,r,_⟩:=h.vals;have:=(r k T).2;have:=(C.2.2 k S).1;omega
 have U:∀q,Grow (Grow bV w.drew d) d w' q->bV q\/(w.heap.size<=q/\q<w'.heap.size):=by
  rintro q ((h1|h1)|h1)
  .exact .inl h1
  .exact .inr ⟨h1.1,fc h1.2 f.size⟩
  .exact .inr ⟨eC N h1.1,h1.2⟩
 have hg:=f.size;have s:∀q,aB V q->bV q:=λq b=>by
  obtain⟨ts,_,_,r,_⟩:=h.vals;exact(r q b).1
 refine F w' aM (λq=>bV q\/(w.heap.size<=q/\q<w'.heap.size)) ⟨by simpa using av,bn.ad O f ?_,bn.aU Q λk _ c=>U k c,cD.ad P f ?_,λq b=>?_,?_,λq b=>?_,h.kW⟩ ?_ ?_
 .rintro q b (h1|h1)
  .exact(h.bd q b).2.2.1 h1
  .exact(h.bd q b).2.2.2.1 (s q h1)
 .rintro q b (h1|h1)
  .exact(h.aI q b).2.2 h1
  .exact(h.bv q (s q h1)).2.2.2 b
 .have:=h.bd q b
  refine⟨this.1,I,this.2.2.1,?_,this.2.2.2.2⟩;rintro(h1|h1)
  .exact this.2.2.2.1 h1
  .omega
 .rintro q (h1|h1)
  .have:=h.bv q h1;exact⟨this.1,I,this.2.2⟩
  .exact⟨I,h1.2,I,λW=>by have:=h.aI q W;omega⟩
 .have:=h.aI q b;exact⟨this.1,I,this.2.2⟩
 .refine(ae.cJ e).trans (f.mono λk _ c=>?_)
  rcases c with c|c
  .exact .inl c
  .exact .inr (s k c)
 .rintro q (h1|h1)
  .exact .inl h1
  .exact .inr h1.1
theorem ep{B:Nat->Prop}{w0:J}{n:az}{K V D:Y}(h:bp B w0 n K V D)(aZ:n.keys.length<=100000)(a0:n.vals.length<=100000)(a1:n.kids.length<=100000)(av:∀k∈n.keys,k.length<=100000)(ax:∀v∈n.vals,v.length<=100000):
 aH ai 204 #[cM n K V D] w0 (λv w'=>∃ (K V D:Y) (bI bV bA:Nat->Prop),v=cM n K V D/\eB w0.heap.size w' n K V D bI bV bA/\Ext w0 w'):=by
 refine okF (af.ep n.leaf K V D) ay.ep func204 ?_;(delta af.ep cg U a7 ak aW gj va al yn aI st au yo fP rI;dsimp only);have aK:bp (λq=>q<w0.heap.size) w0 n K V D:=h.aU λq a _=>a;have a2:=ba.len h.keys;have a3:=ba.len h.vals;refine bk (vs:=[n.leaf,K,V,D]) rfl λw1 aL aM a4=>?_;refine bk (vs:=[false,(),(),()]) rfl λah aN aB a5=>aY ?_;have X:=cr ah;have a6:ah.drew.heap.size=ah.heap.size:=rfl;have L:=(aL.ext aB).ext X;have aC:=aN.ext X;have Z:=aM.trans (aB.trans X);obtain⟨aO,a8,a9,aP⟩:=bC L;have T:=aK.ext Z;obtain⟨lo,a_⟩:∃lo,lo=ah.heap.size:=⟨_,rfl⟩;refine⟨λ_=>False,id,_,aO,id,D,aP,⟨?_,?_⟩⟩
 .refine(p8 T.kids.1 I).use ?_
  rintro _ H ⟨aw,rfl,y,x,aa⟩;have aQ:=x.size;refine⟨aw,rfl,x,#[n.leaf,(),(),aw],(λw=>by kernel_rfl),?_⟩;refine bk (vs:=[false,(),(),()]) rfl λaD W z aR=>?_;refine⟨z,W.b5 rfl ?_,rfl,cn W (us:=[n.leaf,(),(),aw]) rfl rfl λg M C aS=>?_⟩
  .intro v N
   simp only[cR,eR,eY]at N;rcases N with rfl|rfl|rfl|rfl<;>trivial
  obtain⟨aE,ab⟩:∃aE,aE=H.heap.size:=⟨_,rfl⟩;rw[←ab]at M C⊢;obtain⟨bA,r⟩:∃bA:Nat->Prop,bA=λq=>ah.heap.size<=q/\q<H.heap.size:=⟨_,rfl⟩;have ac:cD bA H aw n.kids:=by subst r;exact⟨y,λk l=>⟨⟨aa k l,y.lt k l⟩,y.lt k l⟩⟩
  have m:ae (λq=>lo<=q) ah.drew g:=(ae.cJ (x.trans z)).trans (C.mono λk _ l=>I);have ag:gW lo g aE ⟨n.leaf,[],[],n.kids⟩ bu bu aw (λ_=>False) (λ_=>False) bA:=⟨M,bn.none _ _,bn.none _ _,cD.ad (cD.ext ac z) C (λq a e=>by subst r;have a:=a.2;omega),λq h=>h.elim,λq h=>h.elim,λq a=>(by subst r;obtain⟨h1,aV⟩:=a;exact⟨I,I,I⟩),I⟩;clear r;obtain⟨bS,aA,aT,aG⟩:=bC (L.ad m I);have O:bp (λq=>q<w0.heap.size) g n K V D:=T.ad m λq a h=>by omega
  have aj:=aC.ad m I;refine⟨K,aA,λi w'=>∃ (j:Nat) (d:Y) (bI:Nat->Prop),i=j/\j<=n.keys.length/\gW lo w' aE ⟨n.leaf,n.keys.take j,[],n.kids⟩ d bu aw bI (λ_=>False) bA/\ae (λq=>lo<=q) g w',λi _=>((n.keys.length:Int)-i).toNat,⟨0,bu,_,rfl,cI _,ag,ae.refl _ _⟩,?_⟩;rintro _ P ⟨j,d,bI,rfl,am,o,s⟩;have an:bp (λq=>q<w0.heap.size) P n K V D:=O.ad s λq a h=>by omega
  refine⟨λaJ=>?_,λc=>?_⟩
  .have aJ:j<n.keys.length:=by have:=cf aJ;omega
   obtain⟨A,t,ar,E,hc,ht,_⟩:=ba.at an.keys aJ;refine⟨A,ar,E,t,hc,vK o ht.1 (av _ (cm aJ)) (by show(n.keys.take j).length<=_;rw[cC];omega) λw' ct ao st F _=>?_⟩;have G:ae (λq=>lo<=q) P w':=F.mono λq _ a=>by
    rcases a with a|a
    .have:=o.kW;omega
    .exact(o.bd q a).1
   rw[bB (n:=(j:Int)+1) I I];refine⟨⟨j+1,ct,ao,I,I,?_,s.trans G⟩,?_⟩
   .rw[take_succ _ aJ];exact st
   .show((n.keys.length:Int)-((j:Int)+1)).toNat<((n.keys.length:Int)-(j:Int)).toNat
    omega
  have c:j=n.keys.length:=by have:=cx c;omega
  subst c;rw[il]at o;obtain⟨bS,aA,aT,aG⟩:=bC ((L.ad m I).ad s I);refine⟨V,aT,λi w'=>∃ (j:Nat) (p:Y) (bV:Nat->Prop),i=j/\j<=n.vals.length/\gW lo w' aE ⟨n.leaf,n.keys,n.vals.take j,n.kids⟩ d p aw bI bV bA/\ae (λq=>lo<=q) g w',λi _=>((n.vals.length:Int)-i).toNat,⟨0,bu,_,rfl,cI _,o,s⟩,?_⟩;rintro _ R ⟨j,p,bV,rfl,am,f,u⟩;have ap:bp (λq=>q<w0.heap.size) R n K V D:=O.ad u λq a h=>by omega
  refine⟨λaJ=>?_,λc=>?_⟩
  .have aJ:j<n.vals.length:=by have:=cf aJ;omega
   obtain⟨A,t,ar,E,hc,ht,_⟩:=ba.at ap.vals aJ;refine⟨A,ar,E,t,hc,y6 f ht.1 (ax _ (cm aJ)) (by show(n.vals.take j).length<=_;rw[cC];omega) λw' cA aq st F _=>?_⟩;have G:ae (λq=>lo<=q) R w':=F.mono λq _ a=>by
    rcases a with a|a
    .have:=f.kW;omega
    .exact(f.bv q a).1
   rw[bB (n:=(j:Int)+1) I I];refine⟨⟨j+1,cA,aq,I,I,?_,u.trans G⟩,?_⟩
   .rw[take_succ _ aJ];exact st
   .show((n.vals.length:Int)-((j:Int)+1)).toNat<((n.vals.length:Int)-(j:Int)).toNat
    omega
  have c:j=n.vals.length:=by have:=cx c;omega
  subst c;rw[il]at f;obtain⟨d0,d1,d2,d3⟩:=bC f.v;refine⟨_,d0,d,d1,p,d2,aw,d3,iA n.leaf d p aw (aj.ad u I) rfl (Q:=λb K V D ah=>(λv w'=>∃ (K V D:Y) (bI bV bA:Nat->Prop),v=cM n K V D/\eB w0.heap.size w' n K V D bI bV bA/\Ext w0 w') (.agg #[b,K,V,D]) ah) λaX S=>⟨d,p,aw,bI,bV,bA,rfl,?_,?_⟩⟩
  .exact(eB.ad f.mem S λq a _ _ h=>I).low I
  .exact Ext.cv (Ext.dj Z (m.trans u) λk l=>I) S I
 .refine bk (vs:=[false,(),(),()]) rfl λaD W z aR=>⟨z,?_⟩
  refine(p8 (T.kids.ext z).1 I).use ?_;rintro _ H ⟨aw,rfl,y,x,aa⟩;have aQ:=x.size;have aF:=W.ext x;refine⟨aw,rfl,x,#[n.leaf,(),(),aw],(λw=>by kernel_rfl),?_⟩;refine⟨aF.b5 rfl ?_,rfl,cn aF (us:=[n.leaf,(),(),aw]) rfl rfl λg M C aS=>?_⟩
  .intro v N
   simp only[cR,eR,eY]at N;rcases N with rfl|rfl|rfl|rfl<;>trivial
  obtain⟨aE,ab⟩:∃aE,aE=ah.drew.heap.size:=⟨_,rfl⟩;rw[←ab]at M C⊢;obtain⟨bA,r⟩:∃bA:Nat->Prop,bA=λq=>aD.heap.size<=q/\q<H.heap.size:=⟨_,rfl⟩;have ac:cD bA H aw n.kids:=by subst r;exact⟨y,λk l=>⟨⟨aa k l,y.lt k l⟩,y.lt k l⟩⟩
  have m:ae (λq=>lo<=q) ah.drew g:=(ae.cJ (z.trans x)).trans (C.mono λk _ l=>I);have ag:gW lo g aE ⟨n.leaf,[],[],n.kids⟩ bu bu aw (λ_=>False) (λ_=>False) bA:=⟨M,bn.none _ _,bn.none _ _,cD.ad ac C (λq a e=>by subst r;have a:=a.1;omega),λq h=>h.elim,λq h=>h.elim,λq a=>(by subst r;obtain⟨h1,aV⟩:=a;exact⟨I,I,I⟩),I⟩;clear r;obtain⟨bS,aA,aT,aG⟩:=bC (L.ad m I);have O:bp (λq=>q<w0.heap.size) g n K V D:=T.ad m λq a h=>by omega
  have aj:=aC.ad m I;refine⟨K,aA,λi w'=>∃ (j:Nat) (d:Y) (bI:Nat->Prop),i=j/\j<=n.keys.length/\gW lo w' aE ⟨n.leaf,n.keys.take j,[],n.kids⟩ d bu aw bI (λ_=>False) bA/\ae (λq=>lo<=q) g w',λi _=>((n.keys.length:Int)-i).toNat,⟨0,bu,_,rfl,cI _,ag,ae.refl _ _⟩,?_⟩;rintro _ P ⟨j,d,bI,rfl,am,o,s⟩;have an:bp (λq=>q<w0.heap.size) P n K V D:=O.ad s λq a h=>by omega
  refine⟨λaJ=>?_,λc=>?_⟩
  .have aJ:j<n.keys.length:=by have:=cf aJ;omega
   obtain⟨A,t,ar,E,hc,ht,_⟩:=ba.at an.keys aJ;refine⟨A,ar,E,t,hc,vK o ht.1 (av _ (cm aJ)) (by show(n.keys.take j).length<=_;rw[cC];omega) λw' ct ao st F _=>?_⟩;have G:ae (λq=>lo<=q) P w':=F.mono λq _ a=>by
    rcases a with a|a
    .have:=o.kW;omega
    .exact(o.bd q a).1
   rw[bB (n:=(j:Int)+1) I I];refine⟨⟨j+1,ct,ao,I,I,?_,s.trans G⟩,?_⟩
   .rw[take_succ _ aJ];exact st
   .show((n.keys.length:Int)-((j:Int)+1)).toNat<((n.keys.length:Int)-(j:Int)).toNat
    omega
  have c:j=n.keys.length:=by have:=cx c;omega
  subst c;rw[il]at o;obtain⟨bS,aA,aT,aG⟩:=bC ((L.ad m I).ad s I);refine⟨V,aT,λi w'=>∃ (j:Nat) (p:Y) (bV:Nat->Prop),i=j/\j<=n.vals.length/\gW lo w' aE ⟨n.leaf,n.keys,n.vals.take j,n.kids⟩ d p aw bI bV bA/\ae (λq=>lo<=q) g w',λi _=>((n.vals.length:Int)-i).toNat,⟨0,bu,_,rfl,cI _,o,s⟩,?_⟩;rintro _ R ⟨j,p,bV,rfl,am,f,u⟩;have ap:bp (λq=>q<w0.heap.size) R n K V D:=O.ad u λq a h=>by omega
  refine⟨λaJ=>?_,λc=>?_⟩
  .have aJ:j<n.vals.length:=by have:=cf aJ;omega
   obtain⟨A,t,ar,E,hc,ht,_⟩:=ba.at ap.vals aJ;refine⟨A,ar,E,t,hc,y6 f ht.1 (ax _ (cm aJ)) (by show(n.vals.take j).length<=_;rw[cC];omega) λw' cA aq st F _=>?_⟩;have G:ae (λq=>lo<=q) R w':=F.mono λq _ a=>by
    rcases a with a|a
    .have:=f.kW;omega
    .exact(f.bv q a).1
   rw[bB (n:=(j:Int)+1) I I];refine⟨⟨j+1,cA,aq,I,I,?_,u.trans G⟩,?_⟩
   .rw[take_succ _ aJ];exact st
   .show((n.vals.length:Int)-((j:Int)+1)).toNat<((n.vals.length:Int)-(j:Int)).toNat
    omega
  have c:j=n.vals.length:=by have:=cx c;omega
  subst c;rw[il]at f;obtain⟨d0,d1,d2,d3⟩:=bC f.v;refine⟨_,d0,d,d1,p,d2,aw,d3,iA n.leaf d p aw (aj.ad u I) rfl (Q:=λb K V D ah=>(λv w'=>∃ (K V D:Y) (bI bV bA:Nat->Prop),v=cM n K V D/\eB w0.heap.size w' n K V D bI bV bA/\Ext w0 w') (.agg #[b,K,V,D]) ah) λaX S=>⟨d,p,aw,bI,bV,bA,rfl,?_,?_⟩⟩
  .exact(eB.ad f.mem S λq a _ _ h=>I).low I
  .exact Ext.cv (Ext.dj Z (m.trans u) λk l=>I) S I
theorem bn.mk'{B:Nat->Prop}{w:J}{s:Y}{ts:O Y}{ls:O Key}(hl:ts.length=ls.length)(a:aZ 1 48 w s (ts.map gF))(hi:In B w s)(b:∀p∈ts.zip ls,bg B w p.1 p.2/\∀k,aB p.1 k->¬aB s k):bn B w s ls:=by
 refine⟨ts,hl,a,hi,λi h1 c=>?_⟩;have:=b (ts[i],ls[i]) (by
  rw[List.mem_iff_getElem];exact⟨i,by rw[nt];omega,by rw[List.getElem_zip]⟩)
 exact this
theorem bn.out{B:Nat->Prop}{w:J}{s:Y}{ls:O Key}(h:bn B w s ls):∃ts:O Y,ts.length=ls.length/\aZ 1 48 w s (ts.map gF)/\In B w s/\∀p∈ts.zip ls,bg B w p.1 p.2/\∀k,aB p.1 k->¬aB s k:=by
 obtain⟨ts,h1,a,b,c⟩:=h;refine⟨ts,h1,a,b,λp d=>?_⟩;obtain⟨i,hi,rfl⟩:=List.mem_iff_getElem.1 d;rw[nt]at hi;rw[List.getElem_zip];exact c i I I
theorem DD{α β:Type}(a:O α)(b:O β)(i:Nat):(a.take i).zip (b.take i)=(a.zip b).take i:=by
 rw[List.zip_eq_zipWith,List.zip_eq_zipWith,List.take_zipWith]
theorem DE{α β:Type}(a:O α)(b:O β)(i:Nat):(a.drop i).zip (b.drop i)=(a.zip b).drop i:=by
 rw[List.zip_eq_zipWith,List.zip_eq_zipWith,List.drop_zipWith]
theorem y7{B:Nat->Prop}{w:J}{s t:Y}{ls:O Key}{l:Key}{i:Nat}(r:bn B w s ls)(ht:bg B w t l)(hd:∀k,aB t k->¬aB s k)(G:ls.length<=100000)(hi:i<=ls.length):
 aH ai 210 #[s,.int .i64 (i:Int),.slice (some w.heap.size) 1 1] (w.alloc (.cells #[t] 48))
  (λu w'=>∃e:Y,u=e/\bn (Grow B w w') w' e (ls.take i++ [l]++ls.drop i)/\ae (aB s) w w'):=by
 obtain⟨ts,h1,j,m,n⟩:=bn.out r;have H:s.len=ls.length:=by have:=j.1;rw[dE]at this;omega
 have hx:=er w (.cells #[t] 48);have z:=bh.new w #[t] 48;refine(Dz (v:=⟨some w.heap.size,1,1⟩) (xs:=[gF t]) (i:=i) (j.ext hx) (Src.new (T:=48) w [gF t] 1 rfl) rfl rfl z (λh=>by have:=(m _ h).2;omega) (λv A=>by rw[eX.1 A];trivial) (vE ts) I I).mono ?_;rintro _ w' ⟨e,rfl,av,K,C,D⟩;rw[fu]at av;have hc:ae (aB s) w w':=(ae.cJ hx).trans C;have L:=hc.size;have M:(w.alloc (.cells #[t] 48)).heap.size=w.heap.size+1:=p5 _ _;have o:∀k,aB e k->aB s k\/w.heap.size<=k:=λk d=>(D k d).imp id λh=>by omega
 have E:∀ (x:Y),In B w x->(∀k,aB x k->¬aB s k)->∀k,aB x k->¬aB e k:=λx hx f k d F=>by
  rcases o k F with h|h
  .exact f k d h
  .have:=(hx k d).2;omega
 have g:∀ (x:Y) (y:Key),bg B w x y->(∀k,aB x k->¬aB s k)->bg (Grow B w w') w' x y/\∀k,aB x k->¬aB e k:=λx y q f=>⟨bg.aU (bg.hO q hc f) λk _ h=>.inl h,E x q.2.2 f⟩;refine⟨e,rfl,bn.mk' (ts:=ts.take i++ [t]++ts.drop i) ?_ ?_ ?_ ?_,hc⟩
 .simp only[cE,cC,c5,hX];omega
 .simpa[nu,o0] using av
 .intro k d
  refine⟨?_,av.lt k d⟩;rcases o k d with h|h
  .exact .inl (m k h).1
  .exact .inr ⟨h,av.lt k d⟩
 .intro p c
  rw[List.zip_append (by simp only[cE,cC,hX];omega),List.zip_append (by simp only[cC];omega),DD,DE]at c;rcases cG.1 c with c|c
  .rcases cG.1 c with c|c
   .obtain⟨a,b⟩:=n p (eQ c)
    exact g _ _ a b
   .simp only[List.zip_cons_cons,List.zip_nil_left,eX]at c
    subst c;exact g _ _ ht hd
  .obtain⟨a,b⟩:=n p (eP c)
   exact g _ _ a b
theorem DF{B:Nat->Prop}{w:J}{s t:Y}{ls:O Key}{l:Key}{i:Nat}(g:bn B w s ls)(ht:bg B w t l)(hd:∀k,aB t k->¬aB s k)(hi:i<ls.length):
 ∃A:ab,s.a=some A/\((0:Int)<=(i:Int)/\(i:Int)<(s.len:Int))/\(∃u:aa,w.cell? (A.add (Int.toNat (i:Int)*1))=some u)/\w.frozen? (A.add (Int.toNat (i:Int)*1))=false/\
  bn B (w.setCell (A.add (Int.toNat (i:Int)*1)) (gF t)) s (ls.set i l)/\ae (aB s) w (w.setCell (A.add (Int.toNat (i:Int)*1)) (gF t)):=by
 obtain⟨ts,h1,h,m,n⟩:=g;obtain⟨A,ar,o,hc,hf,p,q⟩:=h.at (i:=i) (v:=gF (ts[i]'I)) (by simp[h1,hi]);have c:ae (aB s) w (w.setCell (A.add (Int.toNat (i:Int)*1)) (gF t)):=ae.set (.refl _ _) (λ_=>p) _;refine⟨A,ar,o,⟨_,hc⟩,hf,⟨ts.set i t,by simp[h1],?_,In.ad m c,λj d f=>?_⟩,c⟩
 .have:=q (gF t)
  rwa[←List.map_set]at this
 .rw[cX]at d f
  rw[qL,qL];by_cases e:i=j
  .rw[if_pos e,if_pos e]
   exact⟨bg.hO ht c hd,hd⟩
  .rw[if_neg e,if_neg e]
   obtain⟨a,b⟩:=n j d f;exact⟨bg.hO a c b,b⟩
def gr(n:az)(k v:Key):az:=
 if iB n.keys k then {n with vals:=n.vals.set (cL n.keys k) v}
 else {n with keys:=n.keys.take (cL n.keys k)++ [k]++n.keys.drop (cL n.keys k),vals:=n.vals.take (cL n.keys k)++ [v]++n.vals.drop (cL n.keys k)}
theorem gT.g9{n:az}(h:gT n):(∀k∈n.keys,k.length<=100000)/\(∀v∈n.vals,v.length<=100000):=⟨λk a=>by have:=(h.ok k a).2;omega,λv b=>by have:=h.vals v b;omega⟩
def oA(n:az)(w:J)(v:aa)(w':J):Prop:=∃K V D:Y,v=.tuple #[cM n K V D,true]/\bp (λq=>w.heap.size<=q) w' n K V D/\Ext w w'
theorem n2{B:Nat->Prop}{w:J}{n:az}{K V D tk fG:Y}{key val:Key}(h:bp B w n K V D)(hs:gT n)(bR:n.keys.length<=10000)(c:Src 1 w tk (aF key))(G:Src 1 w fG (aF val))(aP:cT key)(bT:val.length<=24):
 aH ai 151 #[cM n K V D,tk,fG] w (oA (gr n key val) w):=by
 have bU:=hs.len;have bW:n.kids.length=0:=by rw[hs.kids];rfl
 have bX:=len8 G;have bY:key.length<=24:=aP.2;refine okF (af.n2 n.leaf K V D tk fG) ay.n2 func151 ?_;(delta af.n2 cg a7 U rJ al ak aG ix rF f_ j9 aW aI st dg rE;dsimp only);refine bk (vs:=[n.leaf,K,V,D]) rfl λw1 au be bZ=>?_;refine bk (vs:=[false,(),(),()]) rfl λah bf ag b0=>?_;have aQ:=be.trans ag;obtain⟨bS,aA,aT,aG⟩:=bC (au.ext ag);refine⟨n.leaf,bS,cl (λb w'=>b=false/\Ext ah w') (λq a=>⟨λp=>?_,λp=>⟨_,bS,K,aA,V,aT,D,aG,(jo (h.ext aQ) I I I).use ?_⟩⟩) ?_⟩
 .rw[hs.leaf]at p;cases p
 .rintro _ aC ⟨b,rfl,bh,C⟩
  have:=bh.2 (.inl hs);subst this;exact⟨true,rfl,a _ _ ⟨rfl,C⟩⟩
 rintro _ aC ⟨rfl,C⟩;have aj:=aQ.trans C;refine cl (λb w'=>b=false/\aC=w') (λq a=>⟨λh=>(by cases h),λ_=>(mF (c.ext aj)).use ?_⟩) ?_
 .rintro _ _ ⟨rfl,rfl⟩
  exact⟨_,rfl,a _ _ ⟨by simp[aP],rfl⟩⟩
 rintro _ _ ⟨rfl,rfl⟩;obtain⟨bS,aA,aT,aG⟩:=bC (au.ext (ag.trans C));refine⟨λp=>?_,λ_=>⟨_,bS,K,aA,V,aT,D,aG,(ep (h.ext aj) I I I hs.g9.1 hs.g9.2).use ?_⟩⟩
 .have p:decide (((fG.len:Int):Int)>24)=true:=p
  have:=cf p;omega
 rintro _ bi ⟨l,g,aw,bI,bV,bA,rfl,r,am⟩;have aR:=aj.trans am;have b1:=aR.size;have b2:=aj.size;have b3:=C.size;have b4:=am.size;refine⟨n.leaf,l,g,aw,rfl,bk (vs:=[false,(),(),()]) rfl λb6 aS an b7=>⟨aS.b5 rfl ?_,rfl,cn aS (us:=[n.leaf,l,g,aw]) rfl rfl λO P R b8=>?_⟩⟩
 .intro v G
  simp only[cR,eR,eY]at G;rcases G with rfl|rfl|rfl|rfl<;>trivial
 obtain⟨aE,bj⟩:∃aE,aE=bi.heap.size:=⟨_,rfl⟩;rw[←bj]at P R⊢;obtain⟨lo,bl⟩:∃lo,lo=aC.heap.size:=⟨_,rfl⟩;rw[←bl]at r;have ao:Ext w O:=Ext.cv (aR.trans an) R I;have bm:Var O w.heap.size [n.leaf,K,V,D] 202:=(((au.ext (ag.trans C)).ext am).ext an).ad R I;have aV:Var O w1.heap.size [false,(),(),()] 202:=(((bf.ext C).ext am).ext an).ad R I;have f:eB lo O n l g aw bI bV bA:=(r.ext an).ad R λq _ _ a e=>by
  subst e;rcases a with a|a|a
  .have:=(r.bd _ a).2.1;omega
  .have:=(r.bv _ a).2.1;omega
  .have:=(r.aI _ a).2;omega
 obtain⟨bS,aA,aT,aG⟩:=bC bm;have bo:=p0 n.keys key;refine⟨_,bS,K,aA,V,aT,D,aG,(lE (h.ext ao) (c.ext ao) hs.e8 I).use ?_⟩;rintro _ m ⟨rfl,ap⟩;have aD:=ao.trans ap;have b9:=ap.size;refine⟨_,_,rfl,λH=>?_,λH=>?_⟩
 .
  have E:=cr m;have L:=ap.trans E;have aJ:cL n.keys key<n.keys.length:=by
   have:=cf H;exact(jA.1 this).1
  obtain⟨d0,d1,d2,d3⟩:=bC (P.ext L);refine aY ⟨λ_=>False,id,g,d2,(jt (B:=λq=>m.heap.size<=q) (G.ext (aD.trans E)) I (λq a=>a)).use ?_⟩;rintro _ s ⟨t,rfl,ht,x,bq⟩;have T:=L.trans x;have aK:=f.ext T;have br:=T.size;have bs:bn (Grow bV m s) s g n.vals:=bn.aU aK.vals λk _ h=>.inl h;have y:∀k,aB g k->bV k:=λk c=>by obtain⟨ts,_,_,W,_⟩:=f.vals;exact(W k c).1
  obtain⟨A,ar,p,bt,oB,aX,aZ⟩:=DF (i:=cL n.keys key) bs (bg.aU ht λk c h=>.inr ⟨h,c⟩) (λk X Z=>by
   have:=(ht.2.2 k X).1;have:=(f.bv k (y k Z)).2.1;omega) I
  refine⟨t,rfl,x,A,ar,p,bt,oB,aY ?_⟩;obtain⟨o,a0⟩:∃o,o=s.setCell (A.add (Int.toNat (cL n.keys key:Int)*1)) (gF t):=⟨_,rfl⟩;rw[←a0]at aX aZ;have bu:s.setCell (A.add (Int.toNat (cL n.keys key:Int)*1)) t=o:=a0.symm;rw[bu];have aa:ae (λq=>lo<=q/\q<O.heap.size/\bV q) s o:=aZ.mono λk _ c=>⟨(f.bv k (y k c)).1,(f.bv k (y k c)).2.1,y k c⟩;have aq:=(P.ext T).ad aa (λe=>by
   have h1:=(r.bv _ e.2.2).2.1;omega)
  obtain⟨bw,bx,bz,bB⟩:=bC aq;have bD:bp (λq=>lo<=q) o (gr n key val) l g aw:=by
   unfold gr;rw[if_pos H];refine⟨ba.aU (ba.ad (bn.h7 aK.keys) aa λq a e=>(f.bd q a).2.2.1 e.2.2) λq _ a=>(f.bd q a).1,ba.aU (bn.h7 aX) λq _ a=>?_,cq.aU (cq.ad (cD.p6 aK.kids) aa λq a e=>(f.bv q e.2.2).2.2 a) λq _ a=>(f.aI q a).1⟩;rcases a with a|a
   .exact(f.bv q a).1
   .omega
  have bE:(gr n key val).leaf=n.leaf:=by unfold gr;rw[if_pos H]
  refine⟨_,bw,l,bx,g,bz,aw,bB,iA n.leaf l g aw ((aV.ext T).ad aa (λe=>by have:=e.1;omega)) rfl (Q:=λb K V D ah=>oA (gr n key val) w (.tuple #[.agg #[b,K,V,D],true]) ah) λj u=>⟨l,g,aw,by unfold cM;rw[bE],?_,?_⟩⟩
  .exact(bD.ad u λq a e=>I).aU λq _ a=>by omega
  .exact Ext.cv (Ext.dj (ao.trans T) aa λk c=>I) u I
 .
  have E:=cr m;have L:=ap.trans E;have a1:gW lo m.drew aE n l g aw bI bV bA:=by
   have M:=f.ext L;refine⟨P.ext L,M.keys,M.vals,M.kids,λq a=>?_,λq a=>?_,λq a=>?_,I⟩
   .have h1:=M.bd q a;have:=(r.bd q a).2.1;exact⟨h1.1,h1.2.1,I,h1.2.2⟩
   .have h1:=M.bv q a;have:=(r.bv q a).2.1;exact⟨h1.1,h1.2.1,I,h1.2.2⟩
   .have h1:=M.aI q a;have:=(r.aI q a).2;exact⟨h1.1,h1.2,I⟩
  obtain⟨d0,d1,d2,d3⟩:=bC a1.v;refine aY ⟨λ_=>False,id,l,d1,(jt (B:=λq=>m.heap.size<=q) (c.ext (aD.trans E)) I (λq a=>a)).use ?_⟩;rintro _ s ⟨t,rfl,ht,x,bq⟩;have br:m.heap.size<=s.heap.size:=(E.trans x).size;have aL:∀k,aB l k->bI k:=λk c=>by obtain⟨ts,_,_,W,_⟩:=f.keys;exact(W k c).1
  have y:∀k,aB g k->bV k:=λk c=>by obtain⟨ts,_,_,W,_⟩:=f.vals;exact(W k c).1
  have d:=a1.ext x;refine⟨t,rfl,x,aY ⟨er _ _,(y7 (B:=Grow bI m s) (i:=cL n.keys key) (bn.aU d.keys λk _ h=>.inl h) (bg.aU ht λk c h=>.inr ⟨h,c⟩) (λk X Z=>by
   have:=(ht.2.2 k X).1;have:=(f.bd k (aL k Z)).2.1;omega) I bo).use ?_⟩⟩
  rintro _ o ⟨S,rfl,bF,a2⟩;have b_:=a2.size;have ab:ae (λq=>lo<=q/\bI q) s o:=a2.mono λk _ c=>⟨(f.bd k (aL k c)).1,aL k c⟩;have aq:=d.v.ad ab λe=>(d.bd _ e.2).2.2.1 rfl;obtain⟨s1,s2⟩:=dR aq (i:=1) (by simp);refine⟨S,rfl,?_⟩;rw[ax,ax];refine⟨s1,s2,aY (aY ?_)⟩;obtain⟨j,aM⟩:∃j,j=(o.setCell ⟨aE,0+1,none⟩ S).drew:=⟨_,rfl⟩;rw[←aM];have u:ae (λq=>q=aE) o j:=by rw[aM];exact ae.drew (dx _ _ _ _)
  have a3:Var j aE [n.leaf,S,g,aw] 202:=by rw[aM];exact(dX aq _).drew
  have ca:=u.size;have cb:aE<m.heap.size:=by have:=P.lt;omega
  have bG:bn (λq=>bI q\/(m.heap.size<=q/\q<o.heap.size)) j S (n.keys.take (cL n.keys key)++ [key]++n.keys.drop (cL n.keys key)):=by
   refine bn.ad (bn.aU bF λk _ c=>?_) u λk c e=>?_
   .rcases c with (c|c)|c
    .exact .inl c
    .exact .inr ⟨c.1,I⟩
    .exact .inr ⟨I,c.2⟩
   .subst e
    rcases c with c|c
    .exact(d.bd _ c).2.2.1 rfl
    .omega
  have bH:bn bV j g n.vals:=bn.ad (bn.ad d.vals ab λq a e=>(d.bd q e.2).2.2.2.1 a) u λq a e=>(d.bv q a).2.2.1 e;have bJ:cD bA j aw n.kids:=cD.ad (cD.ad d.kids ab λq a e=>(d.bd q e.2).2.2.2.2 a) u λq a e=>(d.aI q a).2.2 e;have a4:Ext w j:=Ext.dj (Ext.dj ((aD.trans E).trans x) ab λk c=>I) u λk c=>by omega
  obtain⟨f0,f1,f2,f3⟩:=bC a3;rw[ax]at f2;refine⟨λ_=>False,id,g,f2,(jt (B:=λq=>j.heap.size<=q) (G.ext a4) I (λq a=>a)).use ?_⟩;rintro _ a5 ⟨t2,rfl,a6,z,cc⟩;have cd:=z.size;refine⟨t2,rfl,z,aY ⟨er _ _,(y7 (B:=Grow bV j a5) (i:=cL n.keys key) (bn.aU (bn.ext bH z) λk _ h=>.inl h) (bg.aU a6 λk c h=>.inr ⟨h,c⟩) (λk X Z=>by
   have:=(a6.2.2 k X).1;have:=(f.bv k (y k Z)).2.1;omega) I I).use ?_⟩⟩
  rintro _ aN ⟨cV,rfl,bK,a8⟩;have ce:=a8.size;have ac:ae (λq=>lo<=q/\bV q) a5 aN:=a8.mono λk _ c=>⟨(f.bv k (y k c)).1,y k c⟩;have a9:=(a3.ext z).ad ac λe=>(d.bv _ e.2).2.2.1 rfl;obtain⟨s1,s2⟩:=dR a9 (i:=2) (by simp);refine⟨cV,rfl,?_⟩;rw[ax,ax];refine⟨s1,s2,aY ?_⟩;obtain⟨F,aO⟩:∃F,F=aN.setCell ⟨aE,0+2,none⟩ cV:=⟨_,rfl⟩;rw[←aO];have N:ae (λq=>q=aE) aN F:=by rw[aO];exact dx _ _ _ _
  have bL:Var F aE [n.leaf,S,cV,aw] 202:=by rw[aO];exact dX a9 _
  have ch:=N.size;obtain⟨mX,av,a_,bb⟩:=bC bL;rw[ax]at av a_ bb;have bM:bp (λq=>lo<=q) F (gr n key val) S cV aw:=by
   unfold gr;rw[if_neg (by rw[H];simp)];refine⟨?_,?_,?_⟩
   .refine ba.aU (bn.h7 (bn.ad (bn.ad (bn.ext bG z) ac λq a e=>?_) N λq a e=>?_)) λq _ a=>?_
    .rcases a with a|a
     .exact(d.bd q a).2.2.2.1 e.2
     .have:=(f.bv q e.2).2.1;omega
    .subst e
     rcases a with a|a
     .exact(d.bd _ a).2.2.1 rfl
     .omega
    .rcases a with a|a
     .exact(d.bd q a).1
     .omega
   .refine ba.aU (bn.h7 (bn.ad bK N λq a e=>?_)) λq _ a=>?_
    .subst e
     rcases a with (a|a)|a
     .exact(d.bv _ a).2.2.1 rfl
     .omega
     .omega
    .rcases a with (a|a)|a
     .exact(d.bv q a).1
     .omega
     .omega
   .exact cq.aU (cD.p6 (cD.ad (cD.ad (cD.ext bJ z) ac λq a e=>(d.bv q e.2).2.2.2 a) N λq a e=>(d.aI q a).2.2 e)) λq _ a=>(d.aI q a).1
  have bN:(gr n key val).leaf=n.leaf:=by unfold gr;rw[if_neg (by rw[H];simp)]
  have bO:Ext w F:=Ext.dj (Ext.dj (a4.trans z) ac λk c=>I) N λk c=>by omega
  have bP:Var F w1.heap.size [false,(),(),()] 202:=by
   have h1:=aV.ext (L.trans x);have bQ:=(h1.ad ab (λe=>by have:=e.1;omega)).ad u I;exact((bQ.ext z).ad ac (λe=>by have:=e.1;omega)).ad N I
  rw[ax,ax];refine⟨_,mX,S,av,cV,a_,aw,bb,?_⟩;have:=iA n.leaf S cV aw bP rfl (Q:=λb K V D ah=>oA (gr n key val) w (.tuple #[.agg #[b,K,V,D],true]) ah) λci bc=>⟨S,cV,aw,by unfold cM;rw[bN],(bM.ad bc λq a e=>I).aU λq _ a=>I,Ext.cv bO bc I⟩;simpa only[ax] using this
theorem vL{n:az}(hs:cp n)(m:Nat):((cellsOf n).take m).sum<=100*n.keys.length:=by
 have h1:((cellsOf n).take m).sum<=(cellsOf n).sum:=by
  have:=vj (cellsOf n) m;omega
 have a:=vw hs n.keys.length (br _);rw[dT (by rw[ox hs];exact br _)]at a;have b:=vG hs n.keys.length (br _);omega
theorem lG{B:Nat->Prop}{w:J}{n:az}{K V D:Y}(h:bp B w n K V D)(hs:cp n)(F:n.keys.length<=10000){most:Nat}(G:most<=n.keys.length):
 aH ai 300 #[cM n K V D,most] w (λv w'=>v=.int .i64 ((fz (cellsOf n) most:Nat):Int)/\Ext w w'):=by
 refine okF (af.lG n.leaf K V D (most:Int)) ay.lG func300 ?_;(delta af.lG ak U al a7 aW au;dsimp only);refine bk (vs:=[n.leaf,K,V,D]) rfl λw1 o d _=>?_;obtain⟨bS,aA,aT,aG⟩:=bC o;have H:=ba.len h.keys;have L:=ox hs;have u:∀ (j:Nat) (f:j<(cellsOf n).length),(cellsOf n)[j]=(fZ n j).length:=λj f=>by
  have h1:=vv hs (i:=j) I;rw[dD f]at h1;exact Option.some.inj h1
 refine⟨K,aA,λa i w'=>∃j:Nat,i=j/\j<=n.keys.length/\a=((((cellsOf n).take j).sum:Nat):Int)/\Ext w1 w',λ_ i _=>((n.keys.length:Int)-i).toNat,⟨0,rfl,cI _,by simp,.refl _ _⟩,?_⟩;rintro _ _ ah ⟨j,rfl,f,rfl,g⟩;obtain⟨d0,d1,d2,d3⟩:=bC (o.ext g);refine⟨λaJ=>?_,λb=>?_⟩
 .have aJ:j<n.keys.length:=by have:=cf aJ;omega
  refine⟨_,d0,K,d1,V,d2,D,d3,(lF (h.ext (d.trans g)) hs aJ I).use ?_⟩;rintro _ M ⟨s,rfl,p,z,_⟩;have hl:=kV p;have A:=vL hs j;have hc:=tC hs aJ;have e:=ov (l:=cellsOf n) (i:=j) I;rw[u j I]at e;refine⟨s,rfl,?_⟩;rw[hl,bB (n:=((((cellsOf n).take j).sum:Nat):Int)+(((fZ n j).length:Nat):Int)) I I,bB (n:=(j:Int)+1) I I];refine⟨⟨j+1,I,I,I,g.trans z⟩,?_⟩;show((n.keys.length:Int)-((j:Int)+1)).toNat<((n.keys.length:Int)-(j:Int)).toNat;omega
 have b:j=n.keys.length:=by have:=cx b;omega
 subst b;rw[dT (l:=cellsOf n) I];refine⟨λa i w'=>∃j:Nat,i=j/\j<=most/\a=((((cellsOf n).take j).sum:Nat):Int)/\Ext w1 w'/\∀k,k<j->2*((cellsOf n).take (k+1)).sum<(cellsOf n).sum,λ_ i _=>((most:Int)-i).toNat,⟨0,rfl,cI _,by simp,g,λk C=>I⟩,?_⟩;rintro _ _ N ⟨j,rfl,f,rfl,c,q⟩;obtain⟨d0,d1,d2,d3⟩:=bC (o.ext c);have E:=vL hs (cellsOf n).length;rw[il]at E;refine⟨λaJ=>?_,λb=>?_⟩
 .have aJ:j<most:=by have:=cf aJ;omega
  refine⟨_,d0,K,d1,V,d2,D,d3,(lF (h.ext (d.trans c)) hs I I).use ?_⟩;rintro _ O ⟨s,rfl,p,x,_⟩;have hl:=kV p;have A:=vL hs j;have hc:=tC hs (i:=j) I;have e:=ov (l:=cellsOf n) (i:=j) I;rw[u j I]at e;refine⟨s,rfl,?_⟩;rw[hl,bB (n:=((((cellsOf n).take j).sum:Nat):Int)+(((fZ n j).length:Nat):Int)) I I,bB (n:=2*(((((cellsOf n).take j).sum:Nat):Int)+(((fZ n j).length:Nat):Int))) I I,bB (n:=(j:Int)+1) I I];refine⟨λhd=>⟨?_,d.trans (c.trans x)⟩,λhd=>⟨⟨j+1,I,I,I,c.trans x,λk C=>?_⟩,?_⟩⟩
  .have hd:=cf hd
   have r:(List.range most).find? (λi=>decide ((cellsOf n).sum<=2*((cellsOf n).take (i+1)).sum))=some j:=by
    have:=fc aJ (br most);rw[List.find?_eq_some_iff_append];refine⟨dv I,List.range j,List.range' (j+1) (most-(j+1)),?_,λa t=>?_⟩
    .have y:=List.range'_append (s:=0) (m:=j) (n:=most-(j+1)+1) (step:=1)
     rw[qz,qz,←List.range'_succ];rw[Nat.one_mul,cH]at y;rw[y]
     congr 1
     omega
    .have:=q a (ik.1 t)
     simp;omega
   unfold fz;rw[r];rfl
  .have hd:=cx hd
   rcases dJ k j with h1|h1
   .exact q k h1
   .have:k=j:=by omega
    subst this;omega
  .show((most:Int)-((j:Int)+1)).toNat<((most:Int)-(j:Int)).toNat
   omega
 .have b:j=most:=by have:=cx b;omega
  subst b;refine⟨?_,d.trans c⟩;have r:(List.range j).find? (λi=>decide ((cellsOf n).sum<=2*((cellsOf n).take (i+1)).sum))=none:=by
   rw[iN];intro a t;have:=q a (ik.1 t);simp;omega
  unfold fz;rw[r]
theorem ba.sub{B:Nat->Prop}{w:J}{s:Y}{ls:O Key}{lo hi:Nat}(h:ba B w s ls)(h1:lo<=hi)(m:hi<=ls.length):ba B w ⟨aL s.a 1 lo s.cap,hi-lo,s.cap-lo⟩ ((ls.drop lo).take (hi-lo)):=by
 have hl:=ba.len h;obtain⟨ts,av,b,c,d,e⟩:=h;refine⟨(ts.drop lo).take (hi-lo),by simp[av],?_,by show hi-lo<=s.cap-lo;omega,λk f=>?_,λi g j=>?_⟩
 .have:=Src.sub b c h1 I
  simpa[o0,nu] using this
 .obtain⟨A,ar,l⟩:=tD f
  exact d k ⟨A,ar,l⟩
 .simp only[o2,qE]
  rw[cC,c5]at g j;exact e (lo+i) I I
theorem ba.le{B:Nat->Prop}{w:J}{s:Y}{ls:O Key}(h:ba B w s ls):s.len<=s.cap:=by
 obtain⟨ts,_,_,a,_⟩:=h;exact a
theorem cq.sub{B:Nat->Prop}{w:J}{s:Y}{ds:O Nat}{lo hi:Nat}(h:cq B w s ds)(h1:lo<=hi)(g:hi<=ds.length):cq B w ⟨aL s.a 1 lo s.cap,hi-lo,s.cap-lo⟩ ((ds.drop lo).take (hi-lo)):=by
 have hl:=cq.len h;obtain⟨c,b,d⟩:=h;have i:s.len<=s.cap:=b;refine⟨?_,by show hi-lo<=s.cap-lo;omega,λk e=>?_⟩
 .have:=Src.sub c b h1 I
  simpa[dr,o0,nu] using this
 .obtain⟨A,ar,f⟩:=tD e
  exact d k ⟨A,ar,f⟩
theorem e3(b:ag)(K V D:Y):∀v∈([b,K,V,D]:O aa),Plain v:=by
 intro v a;simp only[cR,eR,eY]at a;rcases a with rfl|rfl|rfl|rfl<;>trivial
theorem oC{c:J}{r1 b4:Nat}{vM n:O aa}{b8 bM:ag}{cQ c9 a8 ct cA b9:Y}(h1:Var c r1 vM 202)(w:Var c b4 n 202)(o:vM.length=4)(p:n.length=4)(r:r1≠b4){W:Nat->Prop}(cd:∀q,q=r1->W q)
 {Q:ag->Y->Y->Y->ag->Y->Y->Y->J->Prop} (x:∀b,ae (λq=>q=r1\/q=b4) c b->Q b8 cQ c9 a8 bM ct cA b9 b):
 bz c r1 [b8,cQ,c9,a8]/\(4:Nat)=4/\ao (setCells c r1 0 [b8,cQ,c9,a8]) λd=>
  ae W c d/\bz d b4 [bM,ct,cA,b9]/\(4:Nat)=4/\ao (setCells d b4 0 [bM,ct,cA,b9]) λb=>
  ∃s:ag,b.cell? r1=some (.bool s)/\∃f:Y,b.cell? (Addr.add r1 1)=some (.slice f.a f.len f.cap)/\∃g:Y,b.cell? (Addr.add r1 2)=some (.slice g.a g.len g.cap)/\∃i:Y,b.cell? (Addr.add r1 3)=some (.slice i.a i.len i.cap)/\
  ∃t:ag,b.cell? b4=some (.bool t)/\∃j:Y,b.cell? (Addr.add b4 1)=some (.slice j.a j.len j.cap)/\∃k:Y,b.cell? (Addr.add b4 2)=some (.slice k.a k.len k.cap)/\∃l:Y,b.cell? (Addr.add b4 3)=some (.slice l.a l.len l.cap)/\Q s f g i t j k l b:=by
 refine⟨h1.b5 (by rw[o];rfl) (e3 _ _ _ _),rfl,cn h1 (us:=[b8,cQ,c9,a8]) (by rw[o];rfl) rfl λd y m _=>?_⟩;have u:=w.ad m (λe=>r e.symm);refine⟨m.mono λq _ h=>cd q h,u.b5 (by rw[p];rfl) (e3 _ _ _ _),rfl,cn u (us:=[bM,ct,cA,b9]) (by rw[p];rfl) rfl λb z v _=>?_⟩;obtain⟨bS,aA,aT,aG⟩:=bC (y.ad v r);obtain⟨d0,d1,d2,d3⟩:=bC z;exact⟨b8,bS,cQ,aA,c9,aT,a8,aG,bM,d0,ct,d1,cA,d2,b9,d3,x b ((m.mono λq _ h=>.inl h).trans (v.mono λq _ h=>.inr h))⟩
def mY(n:az)(w:J)(v:aa)(w':J):Prop:=
 ∃ (cQ c9 a8 ct cA b9 t:Y),v=.tuple #[cM (n.left (bX n)) cQ c9 a8,t,cM (n.right (bX n)) ct cA b9,true]/\
  bp (λq=>w.heap.size<=q) w' (n.left (bX n)) cQ c9 a8/\bp (λq=>w.heap.size<=q) w' (n.right (bX n)) ct cA b9/\bg (λq=>w.heap.size<=q) w' t (n.keys.getD (bX n) [])/\Ext w w'
theorem oq{B:Nat->Prop}{w:J}{n:az}{K V D:Y}(h:bp B w n K V D)(hs:cp n)(bq:n.keys.length<=10000)(br:1<=bX n)
 (H:if n.leaf then bX n<=n.keys.length-1/\1<=n.keys.length-1 else bX n<=n.keys.length-2/\1<=n.keys.length-2):
 aH ai 299 #[cM n K V D] w (mY n w):=by
 have b7:n.vals.length<=10000:=by
  rcases hs with hs|hs
  .rw[hs.len];omega
  .rw[hs.vals];simp
 have b_:n.kids.length<=10001:=by
  rcases hs with hs|hs
  .rw[hs.kids];simp
  .rw[hs.len];omega
 have C:∀k∈n.keys,k.length<=100000:=λk l=>by have:=(hs.keys.ok k l).2;omega
 have ao:∀k∈n.vals,k.length<=100000:=λk l=>by have:=hs.vals k l;omega
 have ca:=ba.len h.keys;obtain⟨most,ap⟩:∃most,most=if n.leaf then n.keys.length-1 else n.keys.length-2:=⟨_,rfl⟩
 have aR:1<=most/\most<=n.keys.length/\bX n<=most:=by
  rw[ap]
  cases hl:n.leaf<;>rw[hl]at H<;>simp at H⊢<;>omega
 have N:bX n<n.keys.length:=by
  cases hl:n.leaf<;>rw[hl]at H<;>simp at H<;>omega
 refine okF (af.oq n.leaf K V D) ay.oq func299 ?_;(delta af.oq cg ak U a7 al au aG f_ aA aI aW hJ;dsimp only);refine bk (vs:=[n.leaf,K,V,D]) rfl λw1 bz bU cb=>?_;refine bk (vs:=[false,(),(),()]) rfl λah bW bs cc=>?_;refine bk (vs:=[false,(),(),()]) rfl λbY bZ bm cd=>?_;have bD:=bU.trans (bs.trans bm);obtain⟨bS,aA,aT,aG⟩:=bC ((bz.ext bs).ext bm);refine⟨K,aA,cl (λm w'=>m=(most:Int)/\bY=w') (λq f=>⟨n.leaf,bS,λan=>f _ _ ⟨?_,rfl⟩,λan=>f _ _ ⟨?_,rfl⟩⟩) ?_⟩
 .have an:n.leaf=false:=by simpa using an
  rw[an]at H ap;simp at H ap;rw[bB (n:=(K.len:Int)-1) I I,bB I I];omega
 .have an:n.leaf=true:=by simpa using an
  rw[an]at H ap;simp at H ap;rw[bB I I];omega
 rintro _ _ ⟨rfl,rfl⟩;refine⟨_,bS,K,aA,V,aT,D,aG,(jo (h.ext bD) I I I).use ?_⟩;rintro _ x ⟨b,rfl,an,aS⟩;have b0:=an.2 hs;subst b0;have aV:=cr x;have aq:=bD.trans (aS.trans aV);have bo:=((bz.ext bs).ext bm).ext (aS.trans aV);have bt:=(bW.ext bm).ext (aS.trans aV);have bw:=bZ.ext (aS.trans aV);have ce:=(aS.trans aV).size;obtain⟨bS,aA,aT,aG⟩:=bC bo;refine⟨true,rfl,λh=>?_,λ_=>aY ⟨λ_=>False,id,_,bS,K,aA,V,aT,D,aG,id,_,bS,K,aA,V,aT,D,aG,⟨?_,?_⟩⟩⟩
 .simp only[Bool.not_true,j0]at h
  have:=cf h;omega
 .refine(ep (h.ext aq) I I I C ao).use ?_
  rintro _ bE ⟨c,d,aw,bI,bV,bA,rfl,av,O⟩;refine⟨n.leaf,c,d,aw,rfl,O,⟨?_,?_⟩⟩
  .refine(lG (h.ext (aq.trans O)) hs bq (most:=most) aR.2.1).use ?_
   rintro _ bx ⟨rfl,F⟩;refine⟨_,rfl,F,bk (vs:=[false,(),(),()]) rfl λbF aC G bG=>⟨G,aC.b5 rfl (e3 _ _ _ _),rfl,cn aC (us:=[n.leaf,c,d,aw]) rfl rfl λE aD z bH=>?_⟩⟩;have b1:=O.size;have b2:=F.size;obtain⟨aE,aX⟩:∃aE,aE=bx.heap.size:=⟨_,rfl⟩;rw[←aX]at aD z⊢;have L:=O.trans (F.trans G);have P:eB x.heap.size E n c d aw bI bV bA:=(av.ext (F.trans G)).ad z λq _ _ f e=>by
    subst e;rcases f with f|f|f
    .have:=(av.bd _ f).2.1;omega
    .have:=(av.bv _ f).2.1;omega
    .have:=(av.aI _ f).2;omega
   have bJ:x.drew.heap.size=x.heap.size:=rfl;have M:Ext w E:=Ext.cv (aq.trans L) z I;have aF:=(bo.ext L).ad z I;have aJ:=(bt.ext L).ad z I;have aK:=(bw.ext L).ad z I;have aZ:fz (cellsOf n) most=bX n:=by unfold bX;rw[ap]
   rw[aZ];obtain⟨i,hi⟩:∃i,i=bX n:=⟨_,rfl⟩;rw[←hi]at N aR br;rw[←hi];obtain⟨aM,aN,a0,a1⟩:=bC aF;obtain⟨A,t,ar,a2,hc,ht,_⟩:=ba.at (h.ext M).keys N;refine⟨K,aN,A,ar,a2,t,hc,(jt (B:=λq=>w.heap.size<=q) ht.1 (by have:=C _ (cm N);omega) (λq f=>eC M.size f)).use ?_⟩;rintro _ p ⟨tk,rfl,aO,R,aP⟩;have S:=cr p;obtain⟨aM,aN,a0,a1⟩:=bC (aF.ext R);have r:=R.trans S;obtain⟨f0,f1,f2,f3⟩:=bC (aD.ext r);have o:=P.at.ext r;have bK:=ba.len o.keys;have bL:=ba.len o.vals;have bN:=cq.len o.kids;have bO:=ba.le (bn.h7 P.keys);have bP:=ba.le (bn.h7 P.vals);have bQ:aw.len<=aw.cap:=o.kids.2.1;have bR:E.heap.size<=p.heap.size:=R.size;have aQ:n.keys.getD i []=n.keys[i]:=eH N;refine⟨tk,rfl,n.leaf,aM,λhl=>aY ⟨λq=>q=w1.heap.size,λe=>?_,c,f1,⟨I,I⟩,λe=>?_,d,f2,⟨I,?_⟩,#[true,.slice (aL c.a 1 0 c.cap) i c.cap,.slice (aL d.a 1 0 d.cap) i d.cap,()],(λw=>by kernel_rfl),λe=>?_,c,f1,⟨I,I⟩,λe=>?_,d,f2,⟨I,?_⟩,#[true,.slice (aL c.a 1 i c.cap) (c.len-i) (c.cap-i),.slice (aL d.a 1 i d.cap) (d.len-i) (d.cap-i),()],(λw=>by kernel_rfl),?_⟩,λhl=>?_⟩
   .rw[ax]at e;have e:aE=w1.heap.size:=e;omega
   .rw[ax]at e;have e:aE=w1.heap.size:=e;omega
   .have:=hs.jR hl;omega
   .rw[ax]at e;have e:aE=w1.heap.size:=e;omega
   .rw[ax]at e;have e:aE=w1.heap.size:=e;omega
   .have:=hs.jR hl;omega
   .have a3:=hs.jR hl
    have g:n.left i=⟨true,n.keys.take i,n.vals.take i,[]⟩:=by unfold az.left;rw[hl];rfl
    have j:n.right i=⟨true,n.keys.drop i,n.vals.drop i,[]⟩:=by unfold az.right;rw[hl];rfl
    have T:bp (λq=>x.heap.size<=q) p.drew (n.left i) ⟨aL c.a 1 0 c.cap,i,c.cap⟩ ⟨aL d.a 1 0 d.cap,i,d.cap⟩ bu:=by
     rw[g];refine⟨?_,?_,cq.none _ _⟩
     .have:=ba.sub o.keys (lo:=0) (hi:=i) I I
      simpa using this
     .have:=ba.sub o.vals (lo:=0) (hi:=i) I I
      simpa using this
    have W:bp (λq=>x.heap.size<=q) p.drew (n.right i) ⟨aL c.a 1 i c.cap,c.len-i,c.cap-i⟩ ⟨aL d.a 1 i d.cap,d.len-i,d.cap-i⟩ bu:=by
     rw[j];refine⟨?_,?_,cq.none _ _⟩
     .have:=ba.sub o.keys (lo:=i) (hi:=c.len) I I
      rwa[dT (by rw[c5];omega)]at this
     .have:=ba.sub o.vals (lo:=i) (hi:=d.len) I I
      rwa[dT (by rw[c5];omega)]at this
    have X:=ep T (by rw[g];show(n.keys.take i).length<=_;rw[cC];omega) (by rw[g];show(n.vals.take i).length<=_;rw[cC];omega) (by rw[g];simp) (by rw[g];exact λk l=>C k (eQ l)) (by rw[g];exact λk l=>ao k (eQ l));have Z:(.agg #[true,.slice (aL c.a 1 0 c.cap) i c.cap,.slice (aL d.a 1 0 d.cap) i d.cap,()]:aa)=cM (n.left i) ⟨aL c.a 1 0 c.cap,i,c.cap⟩ ⟨aL d.a 1 0 d.cap,i,d.cap⟩ bu:=by rw[g];rfl
    have ab:(.agg #[true,.slice (aL c.a 1 i c.cap) (c.len-i) (c.cap-i),.slice (aL d.a 1 i d.cap) (d.len-i) (d.cap-i),()]:aa)=cM (n.right i) ⟨aL c.a 1 i c.cap,c.len-i,c.cap-i⟩ ⟨aL d.a 1 i d.cap,d.len-i,d.cap-i⟩ bu:=by rw[j];rfl
    rw[Z,ab];refine X.use ?_;rintro _ a4 ⟨cQ,c9,a8,a5,a6,a9,rfl,ac,s⟩;have ag:=ep (W.ext s) (by rw[j];show(n.keys.drop i).length<=_;rw[c5];omega) (by rw[j];show(n.vals.drop i).length<=_;rw[c5];omega) (by rw[j];simp) (by rw[j];exact λk l=>C k (eP l)) (by rw[j];exact λk l=>ao k (eP l));refine⟨_,cQ,c9,a8,rfl,ae.cJ s,ag.use ?_⟩;rintro _ a_ ⟨ct,cA,b9,bb,bc,be,rfl,aj,y⟩;have u:=s.trans y;have bf:=s.size;have bh:=r.size;refine⟨_,ct,cA,b9,rfl,ae.cJ y,oC (b8:=(n.left i).leaf) (bM:=(n.right i).leaf) (cQ:=cQ) (c9:=c9) (a8:=a8) (ct:=ct) (cA:=cA) (b9:=b9) ((aJ.ext r).ext u) ((aK.ext r).ext u) rfl rfl I (λq f=>f) (Q:=λb8 cQ c9 a8 bM ct cA b9 w'=>mY n w (.tuple #[.agg #[b8,cQ,c9,a8],tk,.agg #[bM,ct,cA,b9],true]) w') λbi v=>?_⟩;have bj:p.drew.heap.size=p.heap.size:=rfl;refine⟨cQ,c9,a8,ct,cA,b9,tk,by rw[←hi];rfl,?_,?_,?_,?_⟩
    .rw[←hi];exact((ac.at.ext y).ad v λq f e=>I).aU λq _ f=>by omega
    .rw[←hi];exact(aj.at.ad v λq f e=>I).aU λq _ f=>by omega
    .rw[←hi,aQ]
     have am:∀q,aB tk q->E.heap.size<=q:=aP;exact bg.hO (bg.ext (bg.ext aO S) u) v λq f e=>by have:=am q f;omega
    .exact Ext.dj (M.trans (r.trans u)) v λq f=>by omega
   .have a3:=hs.oz hl
    have bT:i<=n.keys.length-2/\1<=n.keys.length-2:=by rw[hl,←hi]at H;simpa using H
    have bl:IntKind.wrap .i64 ((i:Int)+1)=((i+1:Nat):Int):=by rw[bB I I];rfl
    rw[bl];refine aY ⟨λq=>q=w1.heap.size,λe=>?_,c,f1,⟨I,I⟩,λe=>?_,aw,f3,⟨I,I⟩,#[false,.slice (aL c.a 1 0 c.cap) i c.cap,(),.slice (aL aw.a 1 0 aw.cap) (i+1) aw.cap],(λw=>by kernel_rfl),λe=>?_,c,f1,⟨I,I⟩,λe=>?_,aw,f3,⟨I,I⟩,#[false,.slice (aL c.a 1 (i+1) c.cap) (c.len-(i+1)) (c.cap-(i+1)),(),.slice (aL aw.a 1 (i+1) aw.cap) (aw.len-(i+1)) (aw.cap-(i+1))],(λw=>by kernel_rfl),?_⟩
    .rw[ax]at e;have e:aE=w1.heap.size:=e;omega
    .rw[ax]at e;have e:aE=w1.heap.size:=e;omega
    .rw[ax]at e;have e:aE=w1.heap.size:=e;omega
    .rw[ax]at e;have e:aE=w1.heap.size:=e;omega
    have g:n.left i=⟨false,n.keys.take i,[],n.kids.take (i+1)⟩:=by unfold az.left;rw[hl];rfl
    have j:n.right i=⟨false,n.keys.drop (i+1),[],n.kids.drop (i+1)⟩:=by unfold az.right;rw[hl];rfl
    have T:bp (λq=>x.heap.size<=q) p.drew (n.left i) ⟨aL c.a 1 0 c.cap,i,c.cap⟩ bu ⟨aL aw.a 1 0 aw.cap,i+1,aw.cap⟩:=by
     rw[g];refine⟨?_,ba.none _ _,?_⟩
     .have:=ba.sub o.keys (lo:=0) (hi:=i) I I
      simpa using this
     .have:=cq.sub o.kids (lo:=0) (hi:=i+1) I I
      simpa using this
    have W:bp (λq=>x.heap.size<=q) p.drew (n.right i) ⟨aL c.a 1 (i+1) c.cap,c.len-(i+1),c.cap-(i+1)⟩ bu ⟨aL aw.a 1 (i+1) aw.cap,aw.len-(i+1),aw.cap-(i+1)⟩:=by
     rw[j];refine⟨?_,ba.none _ _,?_⟩
     .have:=ba.sub o.keys (lo:=i+1) (hi:=c.len) I I
      rwa[dT (by rw[c5];omega)]at this
     .have:=cq.sub o.kids (lo:=i+1) (hi:=aw.len) I I
      rwa[dT (by rw[c5];omega)]at this
    have X:=ep T (by rw[g];show(n.keys.take i).length<=_;rw[cC];omega) (by rw[g];simp) (by rw[g];show(n.kids.take (i+1)).length<=_;rw[cC];omega) (by rw[g];exact λk l=>C k (eQ l)) (by rw[g];simp);have Z:(.agg #[false,.slice (aL c.a 1 0 c.cap) i c.cap,(),.slice (aL aw.a 1 0 aw.cap) (i+1) aw.cap]:aa)=cM (n.left i) ⟨aL c.a 1 0 c.cap,i,c.cap⟩ bu ⟨aL aw.a 1 0 aw.cap,i+1,aw.cap⟩:=by rw[g];rfl
    have ab:(.agg #[false,.slice (aL c.a 1 (i+1) c.cap) (c.len-(i+1)) (c.cap-(i+1)),(),.slice (aL aw.a 1 (i+1) aw.cap) (aw.len-(i+1)) (aw.cap-(i+1))]:aa)=cM (n.right i) ⟨aL c.a 1 (i+1) c.cap,c.len-(i+1),c.cap-(i+1)⟩ bu ⟨aL aw.a 1 (i+1) aw.cap,aw.len-(i+1),aw.cap-(i+1)⟩:=by rw[j];rfl
    rw[Z,ab];refine X.use ?_;rintro _ a4 ⟨cQ,c9,a8,a5,a6,a9,rfl,ac,s⟩;have ag:=ep (W.ext s) (by rw[j];show(n.keys.drop (i+1)).length<=_;rw[c5];omega) (by rw[j];simp) (by rw[j];show(n.kids.drop (i+1)).length<=_;rw[c5];omega) (by rw[j];exact λk l=>C k (eP l)) (by rw[j];simp);refine⟨_,cQ,c9,a8,rfl,ae.cJ s,ag.use ?_⟩;rintro _ a_ ⟨ct,cA,b9,bb,bc,be,rfl,aj,y⟩;have u:=s.trans y;have bf:=s.size;have bh:=r.size;refine⟨_,ct,cA,b9,rfl,ae.cJ y,oC (b8:=(n.left i).leaf) (bM:=(n.right i).leaf) (cQ:=cQ) (c9:=c9) (a8:=a8) (ct:=ct) (cA:=cA) (b9:=b9) ((aJ.ext r).ext u) ((aK.ext r).ext u) rfl rfl I (λq f=>f) (Q:=λb8 cQ c9 a8 bM ct cA b9 w'=>mY n w (.tuple #[.agg #[b8,cQ,c9,a8],tk,.agg #[bM,ct,cA,b9],true]) w') λbi v=>?_⟩;have bj:p.drew.heap.size=p.heap.size:=rfl;refine⟨cQ,c9,a8,ct,cA,b9,tk,by rw[←hi];rfl,?_,?_,?_,?_⟩
    .rw[←hi];exact((ac.at.ext y).ad v λq f e=>I).aU λq _ f=>by omega
    .rw[←hi];exact(aj.at.ad v λq f e=>I).aU λq _ f=>by omega
    .rw[←hi,aQ]
     have am:∀q,aB tk q->E.heap.size<=q:=aP;exact bg.hO (bg.ext (bg.ext aO S) u) v λq f e=>by have:=am q f;omega
    .exact Ext.dj (M.trans (r.trans u)) v λq f=>by omega
  .refine bk (vs:=[false,(),(),()]) rfl λbx b3 F ch=>⟨F,?_⟩
   refine(lG (h.ext (aq.trans (O.trans F))) hs bq (most:=most) aR.2.1).use ?_;rintro _ bF ⟨rfl,G⟩;have aC:=b3.ext G;refine⟨_,rfl,G,aC.b5 rfl (e3 _ _ _ _),rfl,cn aC (us:=[n.leaf,c,d,aw]) rfl rfl λE aD z bH=>?_⟩;have b1:=O.size;have bG:=G.size;obtain⟨aE,aX⟩:∃aE,aE=bE.heap.size:=⟨_,rfl⟩;rw[←aX]at aD z⊢;have L:=O.trans (F.trans G);have P:eB x.heap.size E n c d aw bI bV bA:=(av.ext (F.trans G)).ad z λq _ _ f e=>by
    subst e;rcases f with f|f|f
    .have:=(av.bd _ f).2.1;omega
    .have:=(av.bv _ f).2.1;omega
    .have:=(av.aI _ f).2;omega
   have bJ:x.drew.heap.size=x.heap.size:=rfl;have M:Ext w E:=Ext.cv (aq.trans L) z I;have aF:=(bo.ext L).ad z I;have aJ:=(bt.ext L).ad z I;have aK:=(bw.ext L).ad z I;have aZ:fz (cellsOf n) most=bX n:=by unfold bX;rw[ap]
   rw[aZ];obtain⟨i,hi⟩:∃i,i=bX n:=⟨_,rfl⟩;rw[←hi]at N aR br;rw[←hi];obtain⟨aM,aN,a0,a1⟩:=bC aF;obtain⟨A,t,ar,a2,hc,ht,_⟩:=ba.at (h.ext M).keys N;refine⟨K,aN,A,ar,a2,t,hc,(jt (B:=λq=>w.heap.size<=q) ht.1 (by have:=C _ (cm N);omega) (λq f=>eC M.size f)).use ?_⟩;rintro _ p ⟨tk,rfl,aO,R,aP⟩;have S:=cr p;obtain⟨aM,aN,a0,a1⟩:=bC (aF.ext R);have r:=R.trans S;obtain⟨f0,f1,f2,f3⟩:=bC (aD.ext r);have o:=P.at.ext r;have bK:=ba.len o.keys;have bL:=ba.len o.vals;have bN:=cq.len o.kids;have bO:=ba.le (bn.h7 P.keys);have bP:=ba.le (bn.h7 P.vals);have bQ:aw.len<=aw.cap:=o.kids.2.1;have bR:E.heap.size<=p.heap.size:=R.size;have aQ:n.keys.getD i []=n.keys[i]:=eH N;refine⟨tk,rfl,n.leaf,aM,λhl=>aY ⟨λq=>q=w1.heap.size,λe=>?_,c,f1,⟨I,I⟩,λe=>?_,d,f2,⟨I,?_⟩,#[true,.slice (aL c.a 1 0 c.cap) i c.cap,.slice (aL d.a 1 0 d.cap) i d.cap,()],(λw=>by kernel_rfl),λe=>?_,c,f1,⟨I,I⟩,λe=>?_,d,f2,⟨I,?_⟩,#[true,.slice (aL c.a 1 i c.cap) (c.len-i) (c.cap-i),.slice (aL d.a 1 i d.cap) (d.len-i) (d.cap-i),()],(λw=>by kernel_rfl),?_⟩,λhl=>?_⟩
   .rw[ax]at e;have e:aE=w1.heap.size:=e;omega
   .rw[ax]at e;have e:aE=w1.heap.size:=e;omega
   .have:=hs.jR hl;omega
   .rw[ax]at e;have e:aE=w1.heap.size:=e;omega
   .rw[ax]at e;have e:aE=w1.heap.size:=e;omega
   .have:=hs.jR hl;omega
   .have a3:=hs.jR hl
    have g:n.left i=⟨true,n.keys.take i,n.vals.take i,[]⟩:=by unfold az.left;rw[hl];rfl
    have j:n.right i=⟨true,n.keys.drop i,n.vals.drop i,[]⟩:=by unfold az.right;rw[hl];rfl
    have T:bp (λq=>x.heap.size<=q) p.drew (n.left i) ⟨aL c.a 1 0 c.cap,i,c.cap⟩ ⟨aL d.a 1 0 d.cap,i,d.cap⟩ bu:=by
     rw[g];refine⟨?_,?_,cq.none _ _⟩
     .have:=ba.sub o.keys (lo:=0) (hi:=i) I I
      simpa using this
     .have:=ba.sub o.vals (lo:=0) (hi:=i) I I
      simpa using this
    have W:bp (λq=>x.heap.size<=q) p.drew (n.right i) ⟨aL c.a 1 i c.cap,c.len-i,c.cap-i⟩ ⟨aL d.a 1 i d.cap,d.len-i,d.cap-i⟩ bu:=by
     rw[j];refine⟨?_,?_,cq.none _ _⟩
     .have:=ba.sub o.keys (lo:=i) (hi:=c.len) I I
      rwa[dT (by rw[c5];omega)]at this
     .have:=ba.sub o.vals (lo:=i) (hi:=d.len) I I
      rwa[dT (by rw[c5];omega)]at this
    have X:=ep T (by rw[g];show(n.keys.take i).length<=_;rw[cC];omega) (by rw[g];show(n.vals.take i).length<=_;rw[cC];omega) (by rw[g];simp) (by rw[g];exact λk l=>C k (eQ l)) (by rw[g];exact λk l=>ao k (eQ l));have Z:(.agg #[true,.slice (aL c.a 1 0 c.cap) i c.cap,.slice (aL d.a 1 0 d.cap) i d.cap,()]:aa)=cM (n.left i) ⟨aL c.a 1 0 c.cap,i,c.cap⟩ ⟨aL d.a 1 0 d.cap,i,d.cap⟩ bu:=by rw[g];rfl
    have ab:(.agg #[true,.slice (aL c.a 1 i c.cap) (c.len-i) (c.cap-i),.slice (aL d.a 1 i d.cap) (d.len-i) (d.cap-i),()]:aa)=cM (n.right i) ⟨aL c.a 1 i c.cap,c.len-i,c.cap-i⟩ ⟨aL d.a 1 i d.cap,d.len-i,d.cap-i⟩ bu:=by rw[j];rfl
    rw[Z,ab];refine X.use ?_;rintro _ a4 ⟨cQ,c9,a8,a5,a6,a9,rfl,ac,s⟩;have ag:=ep (W.ext s) (by rw[j];show(n.keys.drop i).length<=_;rw[c5];omega) (by rw[j];show(n.vals.drop i).length<=_;rw[c5];omega) (by rw[j];simp) (by rw[j];exact λk l=>C k (eP l)) (by rw[j];exact λk l=>ao k (eP l));refine⟨_,cQ,c9,a8,rfl,ae.cJ s,ag.use ?_⟩;rintro _ a_ ⟨ct,cA,b9,bb,bc,be,rfl,aj,y⟩;have u:=s.trans y;have bf:=s.size;have bh:=r.size;refine⟨_,ct,cA,b9,rfl,ae.cJ y,oC (b8:=(n.left i).leaf) (bM:=(n.right i).leaf) (cQ:=cQ) (c9:=c9) (a8:=a8) (ct:=ct) (cA:=cA) (b9:=b9) ((aJ.ext r).ext u) ((aK.ext r).ext u) rfl rfl I (λq f=>f) (Q:=λb8 cQ c9 a8 bM ct cA b9 w'=>mY n w (.tuple #[.agg #[b8,cQ,c9,a8],tk,.agg #[bM,ct,cA,b9],true]) w') λbi v=>?_⟩;have bj:p.drew.heap.size=p.heap.size:=rfl;refine⟨cQ,c9,a8,ct,cA,b9,tk,by rw[←hi];rfl,?_,?_,?_,?_⟩
    .rw[←hi];exact((ac.at.ext y).ad v λq f e=>I).aU λq _ f=>by omega
    .rw[←hi];exact(aj.at.ad v λq f e=>I).aU λq _ f=>by omega
    .rw[←hi,aQ]
     have am:∀q,aB tk q->E.heap.size<=q:=aP;exact bg.hO (bg.ext (bg.ext aO S) u) v λq f e=>by have:=am q f;omega
    .exact Ext.dj (M.trans (r.trans u)) v λq f=>by omega
   .have a3:=hs.oz hl
    have bT:i<=n.keys.length-2/\1<=n.keys.length-2:=by rw[hl,←hi]at H;simpa using H
    have bl:IntKind.wrap .i64 ((i:Int)+1)=((i+1:Nat):Int):=by rw[bB I I];rfl
    rw[bl];refine aY ⟨λq=>q=w1.heap.size,λe=>?_,c,f1,⟨I,I⟩,λe=>?_,aw,f3,⟨I,I⟩,#[false,.slice (aL c.a 1 0 c.cap) i c.cap,(),.slice (aL aw.a 1 0 aw.cap) (i+1) aw.cap],(λw=>by kernel_rfl),λe=>?_,c,f1,⟨I,I⟩,λe=>?_,aw,f3,⟨I,I⟩,#[false,.slice (aL c.a 1 (i+1) c.cap) (c.len-(i+1)) (c.cap-(i+1)),(),.slice (aL aw.a 1 (i+1) aw.cap) (aw.len-(i+1)) (aw.cap-(i+1))],(λw=>by kernel_rfl),?_⟩
    .rw[ax]at e;have e:aE=w1.heap.size:=e;omega
    .rw[ax]at e;have e:aE=w1.heap.size:=e;omega
    .rw[ax]at e;have e:aE=w1.heap.size:=e;omega
    .rw[ax]at e;have e:aE=w1.heap.size:=e;omega
    have g:n.left i=⟨false,n.keys.take i,[],n.kids.take (i+1)⟩:=by unfold az.left;rw[hl];rfl
    have j:n.right i=⟨false,n.keys.drop (i+1),[],n.kids.drop (i+1)⟩:=by unfold az.right;rw[hl];rfl
    have T:bp (λq=>x.heap.size<=q) p.drew (n.left i) ⟨aL c.a 1 0 c.cap,i,c.cap⟩ bu ⟨aL aw.a 1 0 aw.cap,i+1,aw.cap⟩:=by
     rw[g];refine⟨?_,ba.none _ _,?_⟩
     .have:=ba.sub o.keys (lo:=0) (hi:=i) I I
      simpa using this
     .have:=cq.sub o.kids (lo:=0) (hi:=i+1) I I
      simpa using this
    have W:bp (λq=>x.heap.size<=q) p.drew (n.right i) ⟨aL c.a 1 (i+1) c.cap,c.len-(i+1),c.cap-(i+1)⟩ bu ⟨aL aw.a 1 (i+1) aw.cap,aw.len-(i+1),aw.cap-(i+1)⟩:=by
     rw[j];refine⟨?_,ba.none _ _,?_⟩
     .have:=ba.sub o.keys (lo:=i+1) (hi:=c.len) I I
      rwa[dT (by rw[c5];omega)]at this
     .have:=cq.sub o.kids (lo:=i+1) (hi:=aw.len) I I
      rwa[dT (by rw[c5];omega)]at this
    have X:=ep T (by rw[g];show(n.keys.take i).length<=_;rw[cC];omega) (by rw[g];simp) (by rw[g];show(n.kids.take (i+1)).length<=_;rw[cC];omega) (by rw[g];exact λk l=>C k (eQ l)) (by rw[g];simp);have Z:(.agg #[false,.slice (aL c.a 1 0 c.cap) i c.cap,(),.slice (aL aw.a 1 0 aw.cap) (i+1) aw.cap]:aa)=cM (n.left i) ⟨aL c.a 1 0 c.cap,i,c.cap⟩ bu ⟨aL aw.a 1 0 aw.cap,i+1,aw.cap⟩:=by rw[g];rfl
    have ab:(.agg #[false,.slice (aL c.a 1 (i+1) c.cap) (c.len-(i+1)) (c.cap-(i+1)),(),.slice (aL aw.a 1 (i+1) aw.cap) (aw.len-(i+1)) (aw.cap-(i+1))]:aa)=cM (n.right i) ⟨aL c.a 1 (i+1) c.cap,c.len-(i+1),c.cap-(i+1)⟩ bu ⟨aL aw.a 1 (i+1) aw.cap,aw.len-(i+1),aw.cap-(i+1)⟩:=by rw[j];rfl
    rw[Z,ab];refine X.use ?_;rintro _ a4 ⟨cQ,c9,a8,a5,a6,a9,rfl,ac,s⟩;have ag:=ep (W.ext s) (by rw[j];show(n.keys.drop (i+1)).length<=_;rw[c5];omega) (by rw[j];simp) (by rw[j];show(n.kids.drop (i+1)).length<=_;rw[c5];omega) (by rw[j];exact λk l=>C k (eP l)) (by rw[j];simp);refine⟨_,cQ,c9,a8,rfl,ae.cJ s,ag.use ?_⟩;rintro _ a_ ⟨ct,cA,b9,bb,bc,be,rfl,aj,y⟩;have u:=s.trans y;have bf:=s.size;have bh:=r.size;refine⟨_,ct,cA,b9,rfl,ae.cJ y,oC (b8:=(n.left i).leaf) (bM:=(n.right i).leaf) (cQ:=cQ) (c9:=c9) (a8:=a8) (ct:=ct) (cA:=cA) (b9:=b9) ((aJ.ext r).ext u) ((aK.ext r).ext u) rfl rfl I (λq f=>f) (Q:=λb8 cQ c9 a8 bM ct cA b9 w'=>mY n w (.tuple #[.agg #[b8,cQ,c9,a8],tk,.agg #[bM,ct,cA,b9],true]) w') λbi v=>?_⟩;have bj:p.drew.heap.size=p.heap.size:=rfl;refine⟨cQ,c9,a8,ct,cA,b9,tk,by rw[←hi];rfl,?_,?_,?_,?_⟩
    .rw[←hi];exact((ac.at.ext y).ad v λq f e=>I).aU λq _ f=>by omega
    .rw[←hi];exact(aj.at.ad v λq f e=>I).aU λq _ f=>by omega
    .rw[←hi,aQ]
     have am:∀q,aB tk q->E.heap.size<=q:=aP;exact bg.hO (bg.ext (bg.ext aO S) u) v λq f e=>by have:=am q f;omega
    .exact Ext.dj (M.trans (r.trans u)) v λq f=>by omega
 .refine bk (vs:=[false,(),(),()]) rfl λbE b4 O ci=>⟨O,?_⟩
  refine(ep (h.ext (aq.trans O)) I I I C ao).use ?_;rintro _ bx ⟨c,d,aw,bI,bV,bA,rfl,b6,F⟩;refine⟨n.leaf,c,d,aw,rfl,F,(lG (h.ext (aq.trans (O.trans F))) hs bq (most:=most) aR.2.1).use ?_⟩;rintro _ bF ⟨rfl,G⟩;have aC:=b4.ext (F.trans G);refine⟨_,rfl,G,aC.b5 rfl (e3 _ _ _ _),rfl,cn aC (us:=[n.leaf,c,d,aw]) rfl rfl λE aD z bH=>?_⟩;have b2:=F.size;have bG:=G.size;have bJ:x.drew.heap.size=x.heap.size:=rfl;obtain⟨aE,aX⟩:∃aE,aE=x.drew.heap.size:=⟨_,rfl⟩;rw[←aX]at aD z⊢;have L:=O.trans (F.trans G);have P:eB x.heap.size E n c d aw bI bV bA:=((b6.ext G).ad z λq h1 _ _ e=>I).low I;have M:Ext w E:=Ext.cv (aq.trans L) z I;have aF:=(bo.ext L).ad z I;have aJ:=(bt.ext L).ad z I;have aK:=(bw.ext L).ad z I;have aZ:fz (cellsOf n) most=bX n:=by unfold bX;rw[ap]
  rw[aZ];obtain⟨i,hi⟩:∃i,i=bX n:=⟨_,rfl⟩;rw[←hi]at N aR br;rw[←hi];obtain⟨aM,aN,a0,a1⟩:=bC aF;obtain⟨A,t,ar,a2,hc,ht,_⟩:=ba.at (h.ext M).keys N;refine⟨K,aN,A,ar,a2,t,hc,(jt (B:=λq=>w.heap.size<=q) ht.1 (by have:=C _ (cm N);omega) (λq f=>eC M.size f)).use ?_⟩;rintro _ p ⟨tk,rfl,aO,R,aP⟩;have S:=cr p;obtain⟨aM,aN,a0,a1⟩:=bC (aF.ext R);have r:=R.trans S;obtain⟨f0,f1,f2,f3⟩:=bC (aD.ext r);have o:=P.at.ext r;have bK:=ba.len o.keys;have bL:=ba.len o.vals;have bN:=cq.len o.kids;have bO:=ba.le (bn.h7 P.keys);have bP:=ba.le (bn.h7 P.vals);have bQ:aw.len<=aw.cap:=o.kids.2.1;have bR:E.heap.size<=p.heap.size:=R.size;have aQ:n.keys.getD i []=n.keys[i]:=eH N;refine⟨tk,rfl,n.leaf,aM,λhl=>aY ⟨λq=>q=w1.heap.size,λe=>?_,c,f1,⟨I,I⟩,λe=>?_,d,f2,⟨I,?_⟩,#[true,.slice (aL c.a 1 0 c.cap) i c.cap,.slice (aL d.a 1 0 d.cap) i d.cap,()],(λw=>by kernel_rfl),λe=>?_,c,f1,⟨I,I⟩,λe=>?_,d,f2,⟨I,?_⟩,#[true,.slice (aL c.a 1 i c.cap) (c.len-i) (c.cap-i),.slice (aL d.a 1 i d.cap) (d.len-i) (d.cap-i),()],(λw=>by kernel_rfl),?_⟩,λhl=>?_⟩
  .rw[ax]at e;have e:aE=w1.heap.size:=e;omega
  .rw[ax]at e;have e:aE=w1.heap.size:=e;omega
  .have:=hs.jR hl;omega
  .rw[ax]at e;have e:aE=w1.heap.size:=e;omega
  .rw[ax]at e;have e:aE=w1.heap.size:=e;omega
  .have:=hs.jR hl;omega
  .have a3:=hs.jR hl
   have g:n.left i=⟨true,n.keys.take i,n.vals.take i,[]⟩:=by unfold az.left;rw[hl];rfl
   have j:n.right i=⟨true,n.keys.drop i,n.vals.drop i,[]⟩:=by unfold az.right;rw[hl];rfl
   have T:bp (λq=>x.heap.size<=q) p.drew (n.left i) ⟨aL c.a 1 0 c.cap,i,c.cap⟩ ⟨aL d.a 1 0 d.cap,i,d.cap⟩ bu:=by
    rw[g];refine⟨?_,?_,cq.none _ _⟩
    .have:=ba.sub o.keys (lo:=0) (hi:=i) I I
     simpa using this
    .have:=ba.sub o.vals (lo:=0) (hi:=i) I I
     simpa using this
   have W:bp (λq=>x.heap.size<=q) p.drew (n.right i) ⟨aL c.a 1 i c.cap,c.len-i,c.cap-i⟩ ⟨aL d.a 1 i d.cap,d.len-i,d.cap-i⟩ bu:=by
    rw[j];refine⟨?_,?_,cq.none _ _⟩
    .have:=ba.sub o.keys (lo:=i) (hi:=c.len) I I
     rwa[dT (by rw[c5];omega)]at this
    .have:=ba.sub o.vals (lo:=i) (hi:=d.len) I I
     rwa[dT (by rw[c5];omega)]at this
   have X:=ep T (by rw[g];show(n.keys.take i).length<=_;rw[cC];omega) (by rw[g];show(n.vals.take i).length<=_;rw[cC];omega) (by rw[g];simp) (by rw[g];exact λk l=>C k (eQ l)) (by rw[g];exact λk l=>ao k (eQ l));have Z:(.agg #[true,.slice (aL c.a 1 0 c.cap) i c.cap,.slice (aL d.a 1 0 d.cap) i d.cap,()]:aa)=cM (n.left i) ⟨aL c.a 1 0 c.cap,i,c.cap⟩ ⟨aL d.a 1 0 d.cap,i,d.cap⟩ bu:=by rw[g];rfl
   have ab:(.agg #[true,.slice (aL c.a 1 i c.cap) (c.len-i) (c.cap-i),.slice (aL d.a 1 i d.cap) (d.len-i) (d.cap-i),()]:aa)=cM (n.right i) ⟨aL c.a 1 i c.cap,c.len-i,c.cap-i⟩ ⟨aL d.a 1 i d.cap,d.len-i,d.cap-i⟩ bu:=by rw[j];rfl
   rw[Z,ab];refine X.use ?_;rintro _ a4 ⟨cQ,c9,a8,a5,a6,a9,rfl,ac,s⟩;have ag:=ep (W.ext s) (by rw[j];show(n.keys.drop i).length<=_;rw[c5];omega) (by rw[j];show(n.vals.drop i).length<=_;rw[c5];omega) (by rw[j];simp) (by rw[j];exact λk l=>C k (eP l)) (by rw[j];exact λk l=>ao k (eP l));refine⟨_,cQ,c9,a8,rfl,ae.cJ s,ag.use ?_⟩;rintro _ a_ ⟨ct,cA,b9,bb,bc,be,rfl,aj,y⟩;have u:=s.trans y;have bf:=s.size;have bh:=r.size;refine⟨_,ct,cA,b9,rfl,ae.cJ y,oC (b8:=(n.left i).leaf) (bM:=(n.right i).leaf) (cQ:=cQ) (c9:=c9) (a8:=a8) (ct:=ct) (cA:=cA) (b9:=b9) ((aJ.ext r).ext u) ((aK.ext r).ext u) rfl rfl I (λq f=>f) (Q:=λb8 cQ c9 a8 bM ct cA b9 w'=>mY n w (.tuple #[.agg #[b8,cQ,c9,a8],tk,.agg #[bM,ct,cA,b9],true]) w') λbi v=>?_⟩;have bj:p.drew.heap.size=p.heap.size:=rfl;refine⟨cQ,c9,a8,ct,cA,b9,tk,by rw[←hi];rfl,?_,?_,?_,?_⟩
   .rw[←hi];exact((ac.at.ext y).ad v λq f e=>I).aU λq _ f=>by omega
   .rw[←hi];exact(aj.at.ad v λq f e=>I).aU λq _ f=>by omega
   .rw[←hi,aQ]
    have am:∀q,aB tk q->E.heap.size<=q:=aP;exact bg.hO (bg.ext (bg.ext aO S) u) v λq f e=>by have:=am q f;omega
   .exact Ext.dj (M.trans (r.trans u)) v λq f=>by omega
  .have a3:=hs.oz hl
   have bT:i<=n.keys.length-2/\1<=n.keys.length-2:=by rw[hl,←hi]at H;simpa using H
   have bl:IntKind.wrap .i64 ((i:Int)+1)=((i+1:Nat):Int):=by rw[bB I I];rfl
   rw[bl];refine aY ⟨λq=>q=w1.heap.size,λe=>?_,c,f1,⟨I,I⟩,λe=>?_,aw,f3,⟨I,I⟩,#[false,.slice (aL c.a 1 0 c.cap) i c.cap,(),.slice (aL aw.a 1 0 aw.cap) (i+1) aw.cap],(λw=>by kernel_rfl),λe=>?_,c,f1,⟨I,I⟩,λe=>?_,aw,f3,⟨I,I⟩,#[false,.slice (aL c.a 1 (i+1) c.cap) (c.len-(i+1)) (c.cap-(i+1)),(),.slice (aL aw.a 1 (i+1) aw.cap) (aw.len-(i+1)) (aw.cap-(i+1))],(λw=>by kernel_rfl),?_⟩
   .rw[ax]at e;have e:aE=w1.heap.size:=e;omega
   .rw[ax]at e;have e:aE=w1.heap.size:=e;omega
   .rw[ax]at e;have e:aE=w1.heap.size:=e;omega
   .rw[ax]at e;have e:aE=w1.heap.size:=e;omega
   have g:n.left i=⟨false,n.keys.take i,[],n.kids.take (i+1)⟩:=by unfold az.left;rw[hl];rfl
   have j:n.right i=⟨false,n.keys.drop (i+1),[],n.kids.drop (i+1)⟩:=by unfold az.right;rw[hl];rfl
   have T:bp (λq=>x.heap.size<=q) p.drew (n.left i) ⟨aL c.a 1 0 c.cap,i,c.cap⟩ bu ⟨aL aw.a 1 0 aw.cap,i+1,aw.cap⟩:=by
    rw[g];refine⟨?_,ba.none _ _,?_⟩
    .have:=ba.sub o.keys (lo:=0) (hi:=i) I I
     simpa using this
    .have:=cq.sub o.kids (lo:=0) (hi:=i+1) I I
     simpa using this
   have W:bp (λq=>x.heap.size<=q) p.drew (n.right i) ⟨aL c.a 1 (i+1) c.cap,c.len-(i+1),c.cap-(i+1)⟩ bu ⟨aL aw.a 1 (i+1) aw.cap,aw.len-(i+1),aw.cap-(i+1)⟩:=by
    rw[j];refine⟨?_,ba.none _ _,?_⟩
    .have:=ba.sub o.keys (lo:=i+1) (hi:=c.len) I I
     rwa[dT (by rw[c5];omega)]at this
    .have:=cq.sub o.kids (lo:=i+1) (hi:=aw.len) I I
     rwa[dT (by rw[c5];omega)]at this
   have X:=ep T (by rw[g];show(n.keys.take i).length<=_;rw[cC];omega) (by rw[g];simp) (by rw[g];show(n.kids.take (i+1)).length<=_;rw[cC];omega) (by rw[g];exact λk l=>C k (eQ l)) (by rw[g];simp);have Z:(.agg #[false,.slice (aL c.a 1 0 c.cap) i c.cap,(),.slice (aL aw.a 1 0 aw.cap) (i+1) aw.cap]:aa)=cM (n.left i) ⟨aL c.a 1 0 c.cap,i,c.cap⟩ bu ⟨aL aw.a 1 0 aw.cap,i+1,aw.cap⟩:=by rw[g];rfl
   have ab:(.agg #[false,.slice (aL c.a 1 (i+1) c.cap) (c.len-(i+1)) (c.cap-(i+1)),(),.slice (aL aw.a 1 (i+1) aw.cap) (aw.len-(i+1)) (aw.cap-(i+1))]:aa)=cM (n.right i) ⟨aL c.a 1 (i+1) c.cap,c.len-(i+1),c.cap-(i+1)⟩ bu ⟨aL aw.a 1 (i+1) aw.cap,aw.len-(i+1),aw.cap-(i+1)⟩:=by rw[j];rfl
   rw[Z,ab];refine X.use ?_;rintro _ a4 ⟨cQ,c9,a8,a5,a6,a9,rfl,ac,s⟩;have ag:=ep (W.ext s) (by rw[j];show(n.keys.drop (i+1)).length<=_;rw[c5];omega) (by rw[j];simp) (by rw[j];show(n.kids.drop (i+1)).length<=_;rw[c5];omega) (by rw[j];exact λk l=>C k (eP l)) (by rw[j];simp);refine⟨_,cQ,c9,a8,rfl,ae.cJ s,ag.use ?_⟩;rintro _ a_ ⟨ct,cA,b9,bb,bc,be,rfl,aj,y⟩;have u:=s.trans y;have bf:=s.size;have bh:=r.size;refine⟨_,ct,cA,b9,rfl,ae.cJ y,oC (b8:=(n.left i).leaf) (bM:=(n.right i).leaf) (cQ:=cQ) (c9:=c9) (a8:=a8) (ct:=ct) (cA:=cA) (b9:=b9) ((aJ.ext r).ext u) ((aK.ext r).ext u) rfl rfl I (λq f=>f) (Q:=λb8 cQ c9 a8 bM ct cA b9 w'=>mY n w (.tuple #[.agg #[b8,cQ,c9,a8],tk,.agg #[bM,ct,cA,b9],true]) w') λbi v=>?_⟩;have bj:p.drew.heap.size=p.heap.size:=rfl;refine⟨cQ,c9,a8,ct,cA,b9,tk,by rw[←hi];rfl,?_,?_,?_,?_⟩
   .rw[←hi];exact((ac.at.ext y).ad v λq f e=>I).aU λq _ f=>by omega
   .rw[←hi];exact(aj.at.ad v λq f e=>I).aU λq _ f=>by omega
   .rw[←hi,aQ]
    have am:∀q,aB tk q->E.heap.size<=q:=aP;exact bg.hO (bg.ext (bg.ext aO S) u) v λq f e=>by have:=am q f;omega
   .exact Ext.dj (M.trans (r.trans u)) v λq f=>by omega
theorem vN{B C:Nat->Prop}{w:J}{s x:Y}{ls xs:O Key}(m:bn B w s ls)(hx:ba C w x xs)(hd:∀q,C q->¬aB s q)(z:ls.length<=100000)(A:xs.length<=100000):
 ∃ (d:Y) (w':J),Sem.run ai (Builtin.append_ #[127,127] 127 #[s,x]) w=.ok d w'/\ba (λq=>B q\/C q\/w.heap.size<=q) w' d (ls++xs)/\ae (aB s) w w':=by
 have D:=ba.len hx;obtain⟨ts,h1,j,n,o⟩:=m;obtain⟨us,av,p,E,F,r⟩:=hx;have G:s.len=ls.length:=by have:=j.1;rw[dE]at this;omega
 obtain⟨d,w',t,f,H,g,u⟩:=p7.append (dG:=127) p j (vE us) I;refine⟨d,w',t,⟨ts++us,by simp[h1,av],?_,f.2.1,?_,λi v K=>?_⟩,g⟩
 .rw[fe];exact f.src
 .intro k c
  refine⟨?_,f.lt k c⟩;rcases u k c with h|h
  .exact .inl (n k h).1
  .exact .inr (.inr h)
 .rcases dJ i ts.length with h|h
  .have l:i<ls.length:=by omega
   rw[o4 h,o4 l];obtain⟨a,b⟩:=o i h l;exact bg.aU (bg.hO a g b) λk _ c=>.inl c
  .have y:i-ts.length<us.length:=by rw[cE]at v;omega
   have L:i-ls.length<xs.length:=by omega
   rw[qJ h,qJ I];have e:i-ls.length=i-ts.length:=by omega
   have a:=r (i-ts.length) y I;simp only[e];exact bg.aU (bg.hO a g λk c=>hd k (a.2.2 k c).1) λk _ c=>.inr (.inl c)
theorem y8{B C:Nat->Prop}{w:J}{s x:Y}{ds es:O Nat}(d:cD B w s ds)(hx:cq C w x es)(j:ds.length<=100000)(l:es.length<=100000):
 ∃ (a:Y) (w':J),Sem.run ai (Builtin.append_ #[58,58] 58 #[s,x]) w=.ok a w'/\cq (λq=>B q\/C q\/w.heap.size<=q) w' a (ds++es)/\ae (aB s) w w':=by
 have m:=cq.len hx;obtain⟨h1,e⟩:=d;have n:s.len=ds.length:=by have:=h1.1;rw[lO]at this;omega
 obtain⟨a,w',f,b,o,g,i⟩:=oy.append (dG:=58) hx.1 h1 (vF es) I;refine⟨a,w',f,⟨?_,b.2.1,?_⟩,g⟩
 .have:dr ds++dr es=dr (ds++es):=by simp[dr]
  rw[this]at b;exact b.src
 .intro k c
  refine⟨?_,b.lt k c⟩;rcases i k c with h|h
  .exact .inl (e k h).1
  .exact .inr (.inr h)
def y9(pa b aE c:Nat)(key:Y)(G:J)(Q:aa->J->Prop):Prop:=
 bq (λR:J->Prop=>∃H:ag,G.cell? pa=some (.bool H)/\((!H)=true->ao (G.drew) λI=>∃K:Nat->Prop,¬K (Addr.add b 1).block/\∃k:Y,I.cell? (Addr.add b 1)=some (.slice k.a k.len k.cap)/\Calls ai 135 #[key] I λad l=>∃S:Y,ad=.returned S/\ae K I l/\ao (l.alloc (.cells #[S] 48)) λT=>ae K l T/\∃U:Y,∃m:J,Sem.run ai (Builtin.append_ #[127,127] 127 #[k,.slice (some l.heap.size) 1 1]) T=.ok U m/\(∃u:aa,m.cell? (Addr.add b 1)=some u)/\m.frozen? (Addr.add b 1)=false/\ao (m.setCell (Addr.add b 1) U) λaf=>R af)/\((!H)=false->R G)) (λ(L:J)=>∃n:Y,L.cell? (Addr.add b 1)=some (.slice n.a n.len n.cap)/\∃o:Y,L.cell? (Addr.add aE 1)=some (.slice o.a o.len o.cap)/\∃V:Y,∃p:J,Sem.run ai (Builtin.append_ #[127,127] 127 #[n,o]) L=.ok V p/\(∃u:aa,p.cell? (Addr.add b 1)=some u)/\p.frozen? (Addr.add b 1)=false/\ao (p.setCell (Addr.add b 1) V) λM=>∃q:Y,M.cell? (Addr.add b 2)=some (.slice q.a q.len q.cap)/\∃r:Y,M.cell? (Addr.add aE 2)=some (.slice r.a r.len r.cap)/\∃W:Y,∃s:J,Sem.run ai (Builtin.append_ #[127,127] 127 #[q,r]) M=.ok W s/\(∃u:aa,s.cell? (Addr.add b 2)=some u)/\s.frozen? (Addr.add b 2)=false/\ao (s.setCell (Addr.add b 2) W) λN=>∃t:Y,N.cell? (Addr.add b 3)=some (.slice t.a t.len t.cap)/\∃v:Y,N.cell? (Addr.add aE 3)=some (.slice v.a v.len v.cap)/\∃X:Y,∃w:J,Sem.run ai (Builtin.append_ #[58,58] 58 #[t,v]) N=.ok X w/\(∃u:aa,w.cell? (Addr.add b 3)=some u)/\w.frozen? (Addr.add b 3)=false/\ao (w.setCell (Addr.add b 3) X) λe=>∃Z:ag,e.cell? b=some (.bool Z)/\∃x:Y,e.cell? (Addr.add b 1)=some (.slice x.a x.len x.cap)/\∃y:Y,e.cell? (Addr.add b 2)=some (.slice y.a y.len y.cap)/\∃z:Y,e.cell? (Addr.add b 3)=some (.slice z.a z.len z.cap)/\Calls ai 203 #[.agg #[Z,x,y,z]] e λah d=>∃O:ag,ah=.returned O/\((!O)=true->bz d c [false,(),(),()]/\(4:Nat)=4/\ao (setCells d c 0 [false,(),(),()]) λf=>∃ab:ag,f.cell? c=some (.bool ab)/\∃A:Y,f.cell? (Addr.add c 1)=some (.slice A.a A.len A.cap)/\∃B:Y,f.cell? (Addr.add c 2)=some (.slice B.a B.len B.cap)/\∃C:Y,f.cell? (Addr.add c 3)=some (.slice C.a C.len C.cap)/\Q (.tuple #[.agg #[ab,A,B,C],false]) f)/\((!O)=false->∃P:ag,d.cell? b=some (.bool P)/\∃g:Y,d.cell? (Addr.add b 1)=some (.slice g.a g.len g.cap)/\∃h:Y,d.cell? (Addr.add b 2)=some (.slice h.a h.len h.cap)/\∃i:Y,d.cell? (Addr.add b 3)=some (.slice i.a i.len i.cap)/\bz d c [P,g,h,i]/\(4:Nat)=4/\ao (setCells d c 0 [P,g,h,i]) λj=>∃ac:ag,j.cell? c=some (.bool ac)/\∃D:Y,j.cell? (Addr.add c 1)=some (.slice D.a D.len D.cap)/\∃E:Y,j.cell? (Addr.add c 2)=some (.slice E.a E.len E.cap)/\∃F:Y,j.cell? (Addr.add c 3)=some (.slice F.a F.len F.cap)/\Q (.tuple #[.agg #[ac,D,E,F],true]) j))
theorem ju{lo pa d aE U:Nat}{key W u r af ag ai:Y}{w bZ:J}{a b:az}{s:Key}{bI bV bA C:Nat->Prop}{aw:O aa}(a5:bZ.cell? pa=some (.bool a.leaf))
 (ar:Var bZ d [a.leaf,W,u,r] 202) (ay:Var bZ aE [b.leaf,af,ag,ai] 202)
 (j:eB lo bZ a W u r bI bV bA) (a6:bp C bZ b af ag ai) (g:∀q,C q->lo<=q/\q<bZ.heap.size/\q≠d/\q≠aE/\¬bI q/\¬bV q/\¬bA q) (F:∀q,bI q\/bV q\/bA q->q≠d/\q≠aE) (a7:lo<=d) (lb:lo<=aE) (aj:d≠aE)
 (a8:Var bZ U aw 202) (a9:aw.length=4) (bF:U<lo) (a_:w.heap.size<=U) (x:Src 1 bZ key (aF s)) (bH:s.length<=1000) (bb:Ext w bZ) (hs:cp (dp a s b)) (hl:a.leaf=b.leaf) (sa:cp a) (sb:cp b)
 (bG:a.keys.length<=10000) (bc:b.keys.length<=10000):y9 pa d aE U key bZ (oA (dp a s b) w):=by
 unfold y9;have bJ:=ar.lt;have bK:=ay.lt;have aC:∀ {n:az},cp n->n.keys.length<=10000->n.vals.length<=10000/\n.kids.length<=10001:=λ{n} h1 f=>by
  rcases h1 with h1|h1
  .rw[h1.len,h1.kids];exact⟨f,cI _⟩
  .rw[h1.len,h1.vals];exact⟨cI _,I⟩
 obtain⟨bL,bM⟩:=aC sa bG;obtain⟨kF,bN⟩:=aC sb bc;have aD:gW lo bZ d a W u r bI bV bA:=⟨ar,j.keys,j.vals,j.kids,λq c=>⟨(j.bd q c).1,(j.bd q c).2.1,(F q (.inl c)).1,(j.bd q c).2.2⟩,λq c=>⟨(j.bv q c).1,(j.bv q c).2.1,(F q (.inr (.inl c))).1,(j.bv q c).2.2⟩,λq c=>⟨(j.aI q c).1,(j.aI q c).2,(F q (.inr (.inr c))).1⟩,a7⟩;refine jm (λw'=>∃ (K:Y) (X:Nat->Prop),gW lo w' d ⟨a.leaf,if a.leaf then a.keys else a.keys++ [s],a.vals,a.kids⟩ K u r X bV bA/\ae (λq=>q=d\/bI q) bZ w'/\(∀q,X q->bI q\/bZ.heap.size<=q)) (λq c=>⟨_,a5,λy=>?_,λy=>c _ ⟨W,bI,?_,.refl _ _,λq h=>.inl h⟩⟩) ?_
 .have y:a.leaf=false:=by simpa using y
  refine vK aD x I I λw' be X h1 f H=>c _ ⟨be,X,?_,f,H⟩;rw[if_neg (by rw[y];simp)];exact h1
 .have y:a.leaf=true:=by simpa using y
  rw[if_pos y];exact aD
 rintro w1 ⟨cQ,ak,h1,L,aH⟩;have bO:=L.size;have aJ:=ay.ad L (by
  rintro(h|h)
  .exact aj h.symm
  .exact(F _ (.inl h)).2 rfl)
 have aK:=a6.ad L λq c h=>by
  have:=g q c;rcases h with h|h
  .exact this.2.2.1 h
  .exact this.2.2.2.2.1 h
 have bf:=a8.ad L (by
  rintro(h|h)
  .omega
  .have:=(j.bd _ h).1;omega)
 have bg:Ext w w1:=Ext.dj bb L λq c=>by
  rcases c with h|h
  .omega
  .have:=(j.bd _ h).1;omega
 obtain⟨M,Z⟩:∃l,l=(if a.leaf then a.keys else a.keys++ [s]):=⟨_,rfl⟩;rw[←Z]at h1;have bP:M.length<=10001:=by
  rw[Z];split
  .omega
  .rw[cE];simp;omega
 obtain⟨bS,aA,aT,aG⟩:=bC h1.v;obtain⟨d0,d1,d2,d3⟩:=bC aJ;have z:∀q,aB cQ q->ak q:=λk x=>by obtain⟨ts,_,_,H,_⟩:=h1.keys;exact(H k x).1
 have al:∀q,aB u q->bV q:=λk x=>by obtain⟨ts,_,_,H,_⟩:=h1.vals;exact(H k x).1
 have aL:∀q,aB r q->bA q:=λk x=>(h1.kids.2 k x).1;have aM:∀q,C q->¬aB cQ q:=λq c h=>by
  rcases aH q (z q h) with f|f
  .exact(g q c).2.2.2.2.1 f
  .have:=(g q c).2.1;omega
 obtain⟨m,ah,N,P,t⟩:=vN h1.keys aK.keys aM (by show M.length<=_;omega) I;have aN:=h1.v.ad t λh=>(h1.bd _ (z _ h)).2.2.1 rfl;obtain⟨R,S⟩:=dR aN (i:=1) (by simp);refine⟨cQ,aA,af,d1,m,ah,N,?_⟩;rw[ax,ax];refine⟨R,S,aY ?_⟩;obtain⟨o,am⟩:∃o,o=ah.setCell ⟨d,0+1,none⟩ m:=⟨_,rfl⟩;rw[←am];have aO:ae (λq=>q=d) ah o:=by rw[am];exact dx _ _ _ _
 have aP:Var o d [a.leaf,m,u,r] 202:=by rw[am];exact dX aN _
 have eT:ae (λq=>q=d\/aB cQ q) w1 o:=(t.mono λq _ h=>.inr h).trans (aO.mono λq _ h=>.inl h);have aQ:=aJ.ad eT (by
  rintro(h|h)
  .exact aj h.symm
  .rcases aH _ (z _ h) with f|f
   .exact(F _ (.inl f)).2 rfl
   .omega)
 have aR:=aK.ad eT λq c h=>by
  rcases h with h|h
  .exact(g q c).2.2.1 h
  .exact aM q c h
 have bh:=bn.ad h1.vals eT λq c h=>by
  rcases h with h|h
  .exact(h1.bv q c).2.2.1 h
  .exact(h1.bd q (z q h)).2.2.2.1 c
 have bi:=cD.ad h1.kids eT λq c h=>by
  rcases h with h|h
  .exact(h1.aI q c).2.2 h
  .exact(h1.bd q (z q h)).2.2.2.2 c
 have bj:=bf.ad eT (by
  rintro(h|h)
  .omega
  .have:=(h1.bd _ (z _ h)).1;omega)
 have bk:Ext w o:=Ext.dj bg eT λq c=>by
  rcases c with h|h
  .omega
  .have:=(h1.bd _ (z _ h)).1;omega
 have bl:ba (λq=>(ak q\/C q\/w1.heap.size<=q)/\q≠d) o m (M++b.keys):=by
  have an:ba (λq=>(ak q\/C q\/w1.heap.size<=q)/\q≠d) ah m (M++b.keys):=ba.aU P λq _ c=>⟨c,by
   rcases c with h|h|h
   .exact(h1.bd _ h).2.2.1
   .exact(g _ h).2.2.1
   .omega⟩
  exact ba.ad an aO λq c h=>c.2 h
 obtain⟨bS,aA,aT,aG⟩:=bC aP;obtain⟨d0,d1,d2,d3⟩:=bC aQ;have bQ:=eT.size
 obtain⟨cV,ab,N,P,t⟩:=vN bh aR.vals (λq c h=>(g q c).2.2.2.2.2.1 (al q h)) (by show a.vals.length<=_;omega) I;have aS:=aP.ad t λh=>(h1.bv _ (al _ h)).2.2.1 rfl;obtain⟨R,S⟩:=dR aS (i:=2) (by simp);rw[ax]at aT d2;refine⟨u,aT,ag,d2,cV,ab,N,?_⟩;rw[ax,ax];refine⟨R,S,aY ?_⟩;obtain⟨p,ao⟩:∃p,p=ab.setCell ⟨d,0+2,none⟩ cV:=⟨_,rfl⟩;rw[←ao];have aV:ae (λq=>q=d) ab p:=by rw[ao];exact dx _ _ _ _
 have aW:Var p d [a.leaf,m,cV,r] 202:=by rw[ao];exact dX aS _
 have A:ae (λq=>q=d\/bV q) o p:=(t.mono λq _ h=>.inr (al q h)).trans (aV.mono λq _ h=>.inl h);have bm:=aQ.ad A (by
  rintro(h|h)
  .exact aj h.symm
  .exact(F _ (.inr (.inl h))).2 rfl)
 have bo:=aR.ad A λq c h=>by
  rcases h with h|h
  .exact(g q c).2.2.1 h
  .exact(g q c).2.2.2.2.2.1 h
 have bq:=ba.ad bl A λq c h=>by
  rcases h with h|h
  .exact c.2 h
  .rcases c.1 with f|f|f
   .exact(h1.bd _ f).2.2.2.1 h
   .exact(g _ f).2.2.2.2.2.1 h
   .have:=(h1.bv _ h).2.1;omega
 have br:=cD.ad bi A λq c h=>by
  rcases h with h|h
  .exact(h1.aI q c).2.2 h
  .exact(h1.bv q h).2.2.2 c
 have bs:=bj.ad A (by
  rintro(h|h)
  .omega
  .have:=(h1.bv _ h).1;omega)
 have bt:Ext w p:=Ext.dj bk A λq c=>by
  rcases c with h|h
  .omega
  .have:=(h1.bv _ h).1;omega
 have bu:ba (λq=>(bV q\/C q\/o.heap.size<=q)/\q≠d) p cV (a.vals++b.vals):=by
  have an:ba (λq=>(bV q\/C q\/o.heap.size<=q)/\q≠d) ab cV (a.vals++b.vals):=ba.aU P λq _ c=>⟨c,by
   rcases c with h|h|h
   .exact(h1.bv _ h).2.2.1
   .exact(g _ h).2.2.1
   .omega⟩
  exact ba.ad an aV λq c h=>c.2 h
 obtain⟨bS,aA,aT,aG⟩:=bC aW;obtain⟨d0,d1,d2,d3⟩:=bC bm;have bR:=A.size
 obtain⟨e1,ap,N,P,t⟩:=y8 br bo.kids (by show a.kids.length<=_;omega) I;have aX:=aW.ad t λh=>(h1.aI _ (aL _ h)).2.2 rfl;obtain⟨R,S⟩:=dR aX (i:=3) (by simp);rw[ax]at aG d3;refine⟨r,aG,ai,d3,e1,ap,N,?_⟩;rw[ax,ax];refine⟨R,S,aY ?_⟩;obtain⟨E,aq⟩:∃E,E=ap.setCell ⟨d,0+3,none⟩ e1:=⟨_,rfl⟩;rw[←aq];have aZ:ae (λq=>q=d) ap E:=by rw[aq];exact dx _ _ _ _
 have a0:Var E d [a.leaf,m,cV,e1] 202:=by rw[aq];exact dX aX _
 have T:ae (λq=>q=d\/bA q) p E:=(t.mono λq _ h=>.inr (aL q h)).trans (aZ.mono λq _ h=>.inl h);have bw:=ba.ad bq T λq c h=>by
  rcases h with h|h
  .exact c.2 h
  .rcases c.1 with f|f|f
   .exact(h1.bd _ f).2.2.2.2 h
   .exact(g _ f).2.2.2.2.2.2 h
   .have:=(h1.aI _ h).2.1;omega
 have bx:=ba.ad bu T λq c h=>by
  rcases h with h|h
  .exact c.2 h
  .rcases c.1 with f|f|f
   .exact(h1.bv _ f).2.2.2 h
   .exact(g _ f).2.2.2.2.2.2 h
   .have:=(h1.aI _ h).2.1;omega
 have bz:=bs.ad T (by
  rintro(h|h)
  .omega
  .have:=(h1.aI _ h).1;omega)
 have bB:Ext w E:=Ext.dj bt T λq c=>by
  rcases c with h|h
  .omega
  .have:=(h1.aI _ h).1;omega
 have bT:=T.size;have a1:bp (λq=>lo<=q) E (dp a s b) m cV e1:=by
  have iC:dp a s b=⟨a.leaf,M++b.keys,a.vals++b.vals,a.kids++b.kids⟩:=by
   unfold dp
   cases G:a.leaf with
   |true=>
    have au:a.kids=[]:=by
     rcases sa with h|h
     .exact h.kids
     .have:=h.inner;rw[G]at this;cases this
    have kb:b.kids=[]:=by
     rcases sb with h|h
     .exact h.kids
     .have:=h.inner;rw[←hl,G]at this;cases this
    rw[Z,G,au,kb];simp
   |false=>
    have au:a.vals=[]:=by
     rcases sa with h|h
     .have:=h.leaf;rw[G]at this;cases this
     .exact h.vals
    have kb:b.vals=[]:=by
     rcases sb with h|h
     .have:=h.leaf;rw[←hl,G]at this;cases this
     .exact h.vals
    rw[Z,G,au,kb];simp
  rw[iC];refine⟨ba.aU bw λq _ c=>?_,ba.aU bx λq _ c=>?_,cq.aU (cq.ad (B:=λq=>(bA q\/C q\/p.heap.size<=q)/\q≠d) (cq.aU P λq _ c=>⟨c,?_⟩) aZ λq c h=>c.2 h) λq _ c=>?_⟩
  .rcases c.1 with h|h|h
   .exact(h1.bd _ h).1
   .exact(g _ h).1
   .omega
  .rcases c.1 with h|h|h
   .exact(h1.bv _ h).1
   .exact(g _ h).1
   .omega
  .rcases c with h|h|h
   .exact(h1.aI _ h).2.2
   .exact(g _ h).2.2.1
   .omega
  .rcases c.1 with h|h|h
   .exact(h1.aI _ h).1
   .exact(g _ h).1
   .omega
 obtain⟨bS,aA,aT,aG⟩:=bC a0;rw[ax]at aA aT aG;have bU:(dp a s b).keys.length<=20001:=by
  unfold dp;split
  .show(a.keys++b.keys).length<=_;rw[cE];omega
  .show(a.keys++s::b.keys).length<=_;rw[cE,fD];omega
 have bW:(dp a s b).vals.length<=20001:=by
  unfold dp;split
  .show(a.vals++b.vals).length<=_;rw[cE];omega
  .simp
 have bX:(dp a s b).kids.length<=20002:=by
  unfold dp;split
  .simp
  .show(a.kids++b.kids).length<=_;rw[cE];omega
 have a2:(dp a s b).leaf=a.leaf:=yD
 repeat rw[ax]
 refine⟨_,bS,m,aA,cV,aT,e1,aG,?_⟩;have av:=jo a1 I I I;unfold cM at av;rw[a2]at av;refine av.use ?_;rintro _ bY ⟨b0,rfl,bD,ac⟩;have:=bD.2 hs;subst this;obtain⟨bS,aA,aT,aG⟩:=bC (a0.ext ac);rw[ax]at aA aT aG;have a3:=iA a.leaf m cV e1 (bz.ext ac) a9 (Q:=λbE K V D ah=>oA (dp a s b) w (.tuple #[.agg #[bE,K,V,D],true]) ah) λb1 a4=>⟨m,cV,e1,by unfold cM;rw[a2],((a1.ext ac).ad a4 λq c e=>I).aU λq _ c=>I,Ext.cv (bB.trans ac) a4 a_⟩
 repeat rw[ax]at a3
 exact⟨true,rfl,λh=>(by cases h),λ_=>⟨_,bS,m,aA,cV,aT,e1,aG,a3⟩⟩
theorem mJ{be bf:Nat->Prop}{w:J}{a b:az}{aL aM aN aO aP aQ key:Y}{s:Key}(a6:bp be w a aL aM aN)(a8:bp bf w b aO aP aQ)(aC:Src 1 w key (aF s))(X:∀q,aB key q->q<w.heap.size)(Z:s.length<=1000)(sa:cp a)(sb:cp b)(hl:a.leaf=b.leaf)(hs:cp (dp a s b))
 (bG:a.keys.length<=10000) (bc:b.keys.length<=10000):
 aH ai 282 #[cM a aL aM aN,key,cM b aO aP aQ] w (oA (dp a s b) w):=by
 have a9:∀ {n:az},cp n->n.keys.length<=10000->n.vals.length<=10000/\n.kids.length<=10001:=λ{n} h1 Q=>by
  rcases h1 with h1|h1
  .rw[h1.len,h1.kids];exact⟨Q,cI _⟩
  .rw[h1.len,h1.vals];exact⟨cI _,I⟩
 obtain⟨bq,br⟩:=a9 sa bG;obtain⟨kF,bs⟩:=a9 sb bc;have aX:∀k∈a.keys,k.length<=100000:=λk aC=>by have:=(sa.keys.ok k aC).2;omega
 have ac:∀k∈b.keys,k.length<=100000:=λk aC=>by have:=(sb.keys.ok k aC).2;omega
 have aZ:∀k∈a.vals,k.length<=100000:=λk aC=>by have:=sa.vals k aC;omega
 have ag:∀k∈b.vals,k.length<=100000:=λk aC=>by have:=sb.vals k aC;omega
 refine okF (af.mJ a.leaf aL aM aN key b.leaf aO aP aQ) ay.mJ func282 ?_;(delta af.mJ cg a7 U ak aG rJ al ix rF f_ bH aW rG st rE mv;dsimp only);refine bk (vs:=[a.leaf,aL,aM,aN]) rfl λw1 a4 bg bt=>?_;refine bk (vs:=[b.leaf,aO,aP,aQ]) rfl λah a5 a2 bu=>?_;refine bk (vs:=[false,(),(),()]) rfl λbh bi aR bw=>?_;have a_:=bg.trans (a2.trans aR);obtain⟨bS,aA,aT,aG⟩:=bC (a4.ext (a2.trans aR));refine⟨_,bS,aL,aA,aM,aT,aN,aG,(jo (a6.ext a_) I I I).use ?_⟩;rintro _ bj ⟨b8,rfl,bl,aK⟩;have:=bl.2 sa;subst this;have ba:=a_.trans aK;obtain⟨d0,d1,d2,d3⟩:=bC (a5.ext (aR.trans aK));refine⟨true,rfl,cl (λb w'=>b=false/\Ext bj w') (λq c=>⟨λh=>(by cases h),λ_=>⟨_,d0,aO,d1,aP,d2,aQ,d3,(jo (a8.ext ba) I I I).use ?_⟩⟩) ?_⟩
 .rintro _ a3 ⟨bM,rfl,bm,aD⟩
  have:=bm.2 sb;subst this;exact⟨true,rfl,c _ _ ⟨rfl,aD⟩⟩
 rintro _ a3 ⟨rfl,aD⟩;have bn:=ba.trans aD;obtain⟨bS,aA,aT,aG⟩:=bC (a4.ext (a2.trans (aR.trans (aK.trans aD))));obtain⟨d0,d1,d2,d3⟩:=bC (a5.ext (aR.trans (aK.trans aD)));refine cl (λb w'=>b=false/\a3=w') (λq c=>⟨λh=>(by cases h),λ_=>⟨_,bS,_,d0,c _ _ ⟨by rw[hl];simp,rfl⟩⟩⟩) ?_;rintro _ _ ⟨rfl,rfl⟩;have a0:=cr a3;have bb:=bn.trans a0;obtain⟨P,aS⟩:∃P,P=a3.drew:=⟨_,rfl⟩;have W:Var P w.heap.size [a.leaf,aL,aM,aN] 202:=by rw[aS];exact(a4.ext (a2.trans (aR.trans (aK.trans aD)))).ext a0
 have bo:Var P w1.heap.size [b.leaf,aO,aP,aQ] 202:=by rw[aS];exact(a5.ext (aR.trans (aK.trans aD))).ext a0
 have aa:Var P ah.heap.size [false,(),(),()] 202:=by rw[aS];exact(bi.ext (aK.trans aD)).ext a0
 have O:Ext w P:=by rw[aS];exact bb
 have bx:bh.heap.size<=P.heap.size:=by rw[aS];exact(aK.trans aD).size
 have a1:=a6.ext O;have aj:=a8.ext O;have ab:=aC.ext O;obtain⟨lo,bz⟩:∃lo,lo=P.heap.size:=⟨_,rfl⟩;rw[←aS];clear bS aA aT aG d0 d1 d2 d3 aS bb a0;obtain⟨bS,aA,aT,aG⟩:=bC W;obtain⟨d0,d1,d2,d3⟩:=bC bo;refine⟨λh=>(by cases h),λ_=>aY ⟨λ_=>False,id,_,bS,aL,aA,aM,aT,aN,aG,id,_,d0,aO,d1,aP,d2,aQ,d3,?_⟩⟩;refine⟨?_,?_,?_⟩
 .refine(ep a1 I I I aX aZ).use ?_
  rintro _ K ⟨F,G,H,L,M,N,rfl,d,av⟩;refine⟨_,F,G,H,rfl,av,?_⟩;have s1:=av.size;refine⟨?_,?_,?_⟩
  .refine(ep (aj.ext av) I I I ac ag).use ?_
   rintro _ v ⟨p,r,t,au,aw,ax,rfl,V,i⟩;refine⟨_,p,r,t,rfl,i,?_⟩;have s2:=i.size;refine⟨?_,?_⟩
   .refine bk (vs:=[false,(),(),()]) rfl λu am g z3=>⟨g,?_⟩
    have an:=g.size;refine bk (vs:=[false,(),(),()]) rfl λx ao f z4=>⟨f,?_⟩;have ap:=f.size;have y:=am.ext f;have R:=ao;refine⟨y.b5 rfl (e3 _ _ _ _),rfl,cn y (us:=[a.leaf,F,G,H]) rfl rfl λaq z aW t5=>?_⟩;have A:=R.ad aW I;refine⟨A.b5 rfl (e3 _ _ _ _),rfl,cn A (us:=[b.leaf,p,r,t]) rfl rfl λl B bW t6=>?_⟩;obtain⟨o,D⟩:∃o,o=v.heap.size:=⟨_,rfl⟩;obtain⟨aE,E⟩:∃aE,aE=u.heap.size:=⟨_,rfl⟩;rw[←D]at z aW;rw[←E]at B bW;rw[←D,←E];have j:ae (λq=>q=o\/q=aE) x l:=(aW.mono λq _ h=>.inl h).trans (bW.mono λq _ h=>.inr h);have S:eB lo l a F G H L M N:=(((d.ext (i.trans (g.trans (f)))).ad j λq _ _ c e=>by have ar:P.heap.size<=q/\q<K.heap.size:=(by rcases c with c|c|c;exact⟨(d.bd q c).1,(d.bd q c).2.1⟩;exact⟨(d.bv q c).1,(d.bv q c).2.1⟩;exact d.aI q c);omega).low I);have T:bp (λq=>K.heap.size<=q/\q<v.heap.size) l b p r t:=((V.at.aU λq h1 Q=>⟨Q,h1⟩).ext (g.trans (f))).ad j λq c e=>by omega
    have m:∀q,L q\/M q\/N q->P.heap.size<=q/\q<K.heap.size:=λq c=>by
     rcases c with c|c|c
     .exact⟨(d.bd q c).1,(d.bd q c).2.1⟩
     .exact⟨(d.bv q c).1,(d.bv q c).2.1⟩
     .exact d.aI q c
    exact ju (lo:=lo) (bZ:=l) (C:=λq=>K.heap.size<=q/\q<v.heap.size) ((W.ext (av.trans (i.trans (g.trans f)))).ad j I).cell (z.ad bW I) B S T (λq c=>⟨I,I,I,I,λh=>(by have:=m q (.inl h);omega),λh=>(by have:=m q (.inr (.inl h));omega),λh=>(by have:=m q (.inr (.inr h));omega)⟩) (λq c=>(by have:=m q c;exact⟨I,I⟩)) I I I ((aa.ext (av.trans (i.trans (g.trans f)))).ad j I) rfl I I ((ab.ext (av.trans (i.trans (g.trans f)))).ad j λq c e=>(by have:=X q c;have:=O.size;omega)) Z (Ext.dj (O.trans (av.trans (i.trans (g.trans f)))) j λq c=>I) hs hl sa sb bG bc
   .refine bk (vs:=[false,(),(),()]) rfl λu am g z3=>⟨g,?_⟩
    have an:=g.size;refine bk (vs:=[false,(),(),()]) rfl λx ao f z4=>⟨f,?_⟩;have ap:=f.size;have y:=ao;have R:=am.ext f;refine⟨y.b5 rfl (e3 _ _ _ _),rfl,cn y (us:=[a.leaf,F,G,H]) rfl rfl λaq z aW t5=>?_⟩;have A:=R.ad aW I;refine⟨A.b5 rfl (e3 _ _ _ _),rfl,cn A (us:=[b.leaf,p,r,t]) rfl rfl λl B bW t6=>?_⟩;obtain⟨o,D⟩:∃o,o=u.heap.size:=⟨_,rfl⟩;obtain⟨aE,E⟩:∃aE,aE=v.heap.size:=⟨_,rfl⟩;rw[←D]at z aW;rw[←E]at B bW;rw[←D,←E];have j:ae (λq=>q=o\/q=aE) x l:=(aW.mono λq _ h=>.inl h).trans (bW.mono λq _ h=>.inr h);have S:eB lo l a F G H L M N:=(((d.ext (i.trans (g.trans (f)))).ad j λq _ _ c e=>by have ar:P.heap.size<=q/\q<K.heap.size:=(by rcases c with c|c|c;exact⟨(d.bd q c).1,(d.bd q c).2.1⟩;exact⟨(d.bv q c).1,(d.bv q c).2.1⟩;exact d.aI q c);omega).low I);have T:bp (λq=>K.heap.size<=q/\q<v.heap.size) l b p r t:=((V.at.aU λq h1 Q=>⟨Q,h1⟩).ext (g.trans (f))).ad j λq c e=>by omega
    have m:∀q,L q\/M q\/N q->P.heap.size<=q/\q<K.heap.size:=λq c=>by
     rcases c with c|c|c
     .exact⟨(d.bd q c).1,(d.bd q c).2.1⟩
     .exact⟨(d.bv q c).1,(d.bv q c).2.1⟩
     .exact d.aI q c
    exact ju (lo:=lo) (bZ:=l) (C:=λq=>K.heap.size<=q/\q<v.heap.size) ((W.ext (av.trans (i.trans (g.trans f)))).ad j I).cell (z.ad bW I) B S T (λq c=>⟨I,I,I,I,λh=>(by have:=m q (.inl h);omega),λh=>(by have:=m q (.inr (.inl h));omega),λh=>(by have:=m q (.inr (.inr h));omega)⟩) (λq c=>(by have:=m q c;exact⟨I,I⟩)) I I I ((aa.ext (av.trans (i.trans (g.trans f)))).ad j I) rfl I I ((ab.ext (av.trans (i.trans (g.trans f)))).ad j λq c e=>(by have:=X q c;have:=O.size;omega)) Z (Ext.dj (O.trans (av.trans (i.trans (g.trans f)))) j λq c=>I) hs hl sa sb bG bc
  .refine bk (vs:=[false,(),(),()]) rfl λv aJ i cg=>⟨i,?_⟩
   have s2:=i.size;refine⟨?_,?_⟩
   .refine(ep (aj.ext (av.trans (i))) I I I ac ag).use ?_
    rintro _ u ⟨p,r,t,au,aw,ax,rfl,V,g⟩;refine⟨_,p,r,t,rfl,g,?_⟩;have an:=g.size;refine bk (vs:=[false,(),(),()]) rfl λx ao f z4=>⟨f,?_⟩;have ap:=f.size;have y:=aJ.ext (g.trans (f));have R:=ao;refine⟨y.b5 rfl (e3 _ _ _ _),rfl,cn y (us:=[a.leaf,F,G,H]) rfl rfl λaq z aW t5=>?_⟩;have A:=R.ad aW I;refine⟨A.b5 rfl (e3 _ _ _ _),rfl,cn A (us:=[b.leaf,p,r,t]) rfl rfl λl B bW t6=>?_⟩;obtain⟨o,D⟩:∃o,o=K.heap.size:=⟨_,rfl⟩;obtain⟨aE,E⟩:∃aE,aE=u.heap.size:=⟨_,rfl⟩;rw[←D]at z aW;rw[←E]at B bW;rw[←D,←E];have j:ae (λq=>q=o\/q=aE) x l:=(aW.mono λq _ h=>.inl h).trans (bW.mono λq _ h=>.inr h);have S:eB lo l a F G H L M N:=(((d.ext (i.trans (g.trans (f)))).ad j λq _ _ c e=>by have ar:P.heap.size<=q/\q<K.heap.size:=(by rcases c with c|c|c;exact⟨(d.bd q c).1,(d.bd q c).2.1⟩;exact⟨(d.bv q c).1,(d.bv q c).2.1⟩;exact d.aI q c);omega).low I);have T:bp (λq=>v.heap.size<=q/\q<u.heap.size) l b p r t:=((V.at.aU λq h1 Q=>⟨Q,h1⟩).ext f).ad j λq c e=>by omega
    have m:∀q,L q\/M q\/N q->P.heap.size<=q/\q<K.heap.size:=λq c=>by
     rcases c with c|c|c
     .exact⟨(d.bd q c).1,(d.bd q c).2.1⟩
     .exact⟨(d.bv q c).1,(d.bv q c).2.1⟩
     .exact d.aI q c
    exact ju (lo:=lo) (bZ:=l) (C:=λq=>v.heap.size<=q/\q<u.heap.size) ((W.ext (av.trans (i.trans (g.trans f)))).ad j I).cell (z.ad bW I) B S T (λq c=>⟨I,I,I,I,λh=>(by have:=m q (.inl h);omega),λh=>(by have:=m q (.inr (.inl h));omega),λh=>(by have:=m q (.inr (.inr h));omega)⟩) (λq c=>(by have:=m q c;exact⟨I,I⟩)) I I I ((aa.ext (av.trans (i.trans (g.trans f)))).ad j I) rfl I I ((ab.ext (av.trans (i.trans (g.trans f)))).ad j λq c e=>(by have:=X q c;have:=O.size;omega)) Z (Ext.dj (O.trans (av.trans (i.trans (g.trans f)))) j λq c=>I) hs hl sa sb bG bc
   .refine bk (vs:=[false,(),(),()]) rfl λu am g z3=>⟨g,?_⟩
    have an:=g.size;refine(ep (aj.ext (av.trans (i.trans (g)))) I I I ac ag).use ?_;rintro _ x ⟨p,r,t,au,aw,ax,rfl,V,f⟩;refine⟨_,p,r,t,rfl,f,?_⟩;have ap:=f.size;have y:=aJ.ext (g.trans (f));have R:=am.ext f;refine⟨y.b5 rfl (e3 _ _ _ _),rfl,cn y (us:=[a.leaf,F,G,H]) rfl rfl λaq z aW t5=>?_⟩;have A:=R.ad aW I;refine⟨A.b5 rfl (e3 _ _ _ _),rfl,cn A (us:=[b.leaf,p,r,t]) rfl rfl λl B bW t6=>?_⟩;obtain⟨o,D⟩:∃o,o=K.heap.size:=⟨_,rfl⟩;obtain⟨aE,E⟩:∃aE,aE=v.heap.size:=⟨_,rfl⟩;rw[←D]at z aW;rw[←E]at B bW;rw[←D,←E];have j:ae (λq=>q=o\/q=aE) x l:=(aW.mono λq _ h=>.inl h).trans (bW.mono λq _ h=>.inr h);have S:eB lo l a F G H L M N:=(((d.ext (i.trans (g.trans (f)))).ad j λq _ _ c e=>by have ar:P.heap.size<=q/\q<K.heap.size:=(by rcases c with c|c|c;exact⟨(d.bd q c).1,(d.bd q c).2.1⟩;exact⟨(d.bv q c).1,(d.bv q c).2.1⟩;exact d.aI q c);omega).low I);have T:bp (λq=>u.heap.size<=q/\q<x.heap.size) l b p r t:=(V.at.aU λq h1 Q=>⟨Q,h1⟩).ad j λq c e=>by omega
    have m:∀q,L q\/M q\/N q->P.heap.size<=q/\q<K.heap.size:=λq c=>by
     rcases c with c|c|c
     .exact⟨(d.bd q c).1,(d.bd q c).2.1⟩
     .exact⟨(d.bv q c).1,(d.bv q c).2.1⟩
     .exact d.aI q c
    exact ju (lo:=lo) (bZ:=l) (C:=λq=>u.heap.size<=q/\q<x.heap.size) ((W.ext (av.trans (i.trans (g.trans f)))).ad j I).cell (z.ad bW I) B S T (λq c=>⟨I,I,I,I,λh=>(by have:=m q (.inl h);omega),λh=>(by have:=m q (.inr (.inl h));omega),λh=>(by have:=m q (.inr (.inr h));omega)⟩) (λq c=>(by have:=m q c;exact⟨I,I⟩)) I I I ((aa.ext (av.trans (i.trans (g.trans f)))).ad j I) rfl I I ((ab.ext (av.trans (i.trans (g.trans f)))).ad j λq c e=>(by have:=X q c;have:=O.size;omega)) Z (Ext.dj (O.trans (av.trans (i.trans (g.trans f)))) j λq c=>I) hs hl sa sb bG bc
  .refine bk (vs:=[false,(),(),()]) rfl λv aJ i cg=>⟨i,?_⟩
   have s2:=i.size;refine⟨?_,?_⟩
   .refine(ep (aj.ext (av.trans (i))) I I I ac ag).use ?_
    rintro _ u ⟨p,r,t,au,aw,ax,rfl,V,g⟩;refine⟨_,p,r,t,rfl,g,?_⟩;have an:=g.size;refine bk (vs:=[false,(),(),()]) rfl λx ao f z4=>⟨f,?_⟩;have ap:=f.size;have y:=ao;have R:=aJ.ext (g.trans (f));refine⟨y.b5 rfl (e3 _ _ _ _),rfl,cn y (us:=[a.leaf,F,G,H]) rfl rfl λaq z aW t5=>?_⟩;have A:=R.ad aW I;refine⟨A.b5 rfl (e3 _ _ _ _),rfl,cn A (us:=[b.leaf,p,r,t]) rfl rfl λl B bW t6=>?_⟩;obtain⟨o,D⟩:∃o,o=u.heap.size:=⟨_,rfl⟩;obtain⟨aE,E⟩:∃aE,aE=K.heap.size:=⟨_,rfl⟩;rw[←D]at z aW;rw[←E]at B bW;rw[←D,←E];have j:ae (λq=>q=o\/q=aE) x l:=(aW.mono λq _ h=>.inl h).trans (bW.mono λq _ h=>.inr h);have S:eB lo l a F G H L M N:=(((d.ext (i.trans (g.trans (f)))).ad j λq _ _ c e=>by have ar:P.heap.size<=q/\q<K.heap.size:=(by rcases c with c|c|c;exact⟨(d.bd q c).1,(d.bd q c).2.1⟩;exact⟨(d.bv q c).1,(d.bv q c).2.1⟩;exact d.aI q c);omega).low I);have T:bp (λq=>v.heap.size<=q/\q<u.heap.size) l b p r t:=((V.at.aU λq h1 Q=>⟨Q,h1⟩).ext f).ad j λq c e=>by omega
    have m:∀q,L q\/M q\/N q->P.heap.size<=q/\q<K.heap.size:=λq c=>by
     rcases c with c|c|c
     .exact⟨(d.bd q c).1,(d.bd q c).2.1⟩
     .exact⟨(d.bv q c).1,(d.bv q c).2.1⟩
     .exact d.aI q c
    exact ju (lo:=lo) (bZ:=l) (C:=λq=>v.heap.size<=q/\q<u.heap.size) ((W.ext (av.trans (i.trans (g.trans f)))).ad j I).cell (z.ad bW I) B S T (λq c=>⟨I,I,I,I,λh=>(by have:=m q (.inl h);omega),λh=>(by have:=m q (.inr (.inl h));omega),λh=>(by have:=m q (.inr (.inr h));omega)⟩) (λq c=>(by have:=m q c;exact⟨I,I⟩)) I I I ((aa.ext (av.trans (i.trans (g.trans f)))).ad j I) rfl I I ((ab.ext (av.trans (i.trans (g.trans f)))).ad j λq c e=>(by have:=X q c;have:=O.size;omega)) Z (Ext.dj (O.trans (av.trans (i.trans (g.trans f)))) j λq c=>I) hs hl sa sb bG bc
   .refine bk (vs:=[false,(),(),()]) rfl λu am g z3=>⟨g,?_⟩
    have an:=g.size;refine(ep (aj.ext (av.trans (i.trans (g)))) I I I ac ag).use ?_;rintro _ x ⟨p,r,t,au,aw,ax,rfl,V,f⟩;refine⟨_,p,r,t,rfl,f,?_⟩;have ap:=f.size;have y:=am.ext f;have R:=aJ.ext (g.trans (f));refine⟨y.b5 rfl (e3 _ _ _ _),rfl,cn y (us:=[a.leaf,F,G,H]) rfl rfl λaq z aW t5=>?_⟩;have A:=R.ad aW I;refine⟨A.b5 rfl (e3 _ _ _ _),rfl,cn A (us:=[b.leaf,p,r,t]) rfl rfl λl B bW t6=>?_⟩;obtain⟨o,D⟩:∃o,o=v.heap.size:=⟨_,rfl⟩;obtain⟨aE,E⟩:∃aE,aE=K.heap.size:=⟨_,rfl⟩;rw[←D]at z aW;rw[←E]at B bW;rw[←D,←E];have j:ae (λq=>q=o\/q=aE) x l:=(aW.mono λq _ h=>.inl h).trans (bW.mono λq _ h=>.inr h);have S:eB lo l a F G H L M N:=(((d.ext (i.trans (g.trans (f)))).ad j λq _ _ c e=>by have ar:P.heap.size<=q/\q<K.heap.size:=(by rcases c with c|c|c;exact⟨(d.bd q c).1,(d.bd q c).2.1⟩;exact⟨(d.bv q c).1,(d.bv q c).2.1⟩;exact d.aI q c);omega).low I);have T:bp (λq=>u.heap.size<=q/\q<x.heap.size) l b p r t:=(V.at.aU λq h1 Q=>⟨Q,h1⟩).ad j λq c e=>by omega
    have m:∀q,L q\/M q\/N q->P.heap.size<=q/\q<K.heap.size:=λq c=>by
     rcases c with c|c|c
     .exact⟨(d.bd q c).1,(d.bd q c).2.1⟩
     .exact⟨(d.bv q c).1,(d.bv q c).2.1⟩
     .exact d.aI q c
    exact ju (lo:=lo) (bZ:=l) (C:=λq=>u.heap.size<=q/\q<x.heap.size) ((W.ext (av.trans (i.trans (g.trans f)))).ad j I).cell (z.ad bW I) B S T (λq c=>⟨I,I,I,I,λh=>(by have:=m q (.inl h);omega),λh=>(by have:=m q (.inr (.inl h));omega),λh=>(by have:=m q (.inr (.inr h));omega)⟩) (λq c=>(by have:=m q c;exact⟨I,I⟩)) I I I ((aa.ext (av.trans (i.trans (g.trans f)))).ad j I) rfl I I ((ab.ext (av.trans (i.trans (g.trans f)))).ad j λq c e=>(by have:=X q c;have:=O.size;omega)) Z (Ext.dj (O.trans (av.trans (i.trans (g.trans f)))) j λq c=>I) hs hl sa sb bG bc
 .refine bk (vs:=[false,(),(),()]) rfl λK aV av ga=>⟨av,?_⟩
  have s1:=av.size;refine⟨?_,?_⟩
  .refine(ep (a1.ext av) I I I aX aZ).use ?_
   rintro _ v ⟨F,G,H,L,M,N,rfl,d,i⟩;refine⟨_,F,G,H,rfl,i,?_⟩;have s2:=i.size;refine⟨?_,?_⟩
   .refine(ep (aj.ext (av.trans (i))) I I I ac ag).use ?_
    rintro _ u ⟨p,r,t,au,aw,ax,rfl,V,g⟩;refine⟨_,p,r,t,rfl,g,?_⟩;have an:=g.size;refine bk (vs:=[false,(),(),()]) rfl λx ao f z4=>⟨f,?_⟩;have ap:=f.size;have y:=aV.ext (i.trans (g.trans (f)));have R:=ao;refine⟨y.b5 rfl (e3 _ _ _ _),rfl,cn y (us:=[a.leaf,F,G,H]) rfl rfl λaq z aW t5=>?_⟩;have A:=R.ad aW I;refine⟨A.b5 rfl (e3 _ _ _ _),rfl,cn A (us:=[b.leaf,p,r,t]) rfl rfl λl B bW t6=>?_⟩;obtain⟨o,D⟩:∃o,o=P.heap.size:=⟨_,rfl⟩;obtain⟨aE,E⟩:∃aE,aE=u.heap.size:=⟨_,rfl⟩;rw[←D]at z aW;rw[←E]at B bW;rw[←D,←E];have j:ae (λq=>q=o\/q=aE) x l:=(aW.mono λq _ h=>.inl h).trans (bW.mono λq _ h=>.inr h);have S:eB lo l a F G H L M N:=(((d.ext (g.trans (f))).ad j λq _ _ c e=>by have ar:K.heap.size<=q/\q<v.heap.size:=(by rcases c with c|c|c;exact⟨(d.bd q c).1,(d.bd q c).2.1⟩;exact⟨(d.bv q c).1,(d.bv q c).2.1⟩;exact d.aI q c);omega).low I);have T:bp (λq=>v.heap.size<=q/\q<u.heap.size) l b p r t:=((V.at.aU λq h1 Q=>⟨Q,h1⟩).ext f).ad j λq c e=>by omega
    have m:∀q,L q\/M q\/N q->K.heap.size<=q/\q<v.heap.size:=λq c=>by
     rcases c with c|c|c
     .exact⟨(d.bd q c).1,(d.bd q c).2.1⟩
     .exact⟨(d.bv q c).1,(d.bv q c).2.1⟩
     .exact d.aI q c
    exact ju (lo:=lo) (bZ:=l) (C:=λq=>v.heap.size<=q/\q<u.heap.size) ((W.ext (av.trans (i.trans (g.trans f)))).ad j I).cell (z.ad bW I) B S T (λq c=>⟨I,I,I,I,λh=>(by have:=m q (.inl h);omega),λh=>(by have:=m q (.inr (.inl h));omega),λh=>(by have:=m q (.inr (.inr h));omega)⟩) (λq c=>(by have:=m q c;exact⟨I,I⟩)) I I I ((aa.ext (av.trans (i.trans (g.trans f)))).ad j I) rfl I I ((ab.ext (av.trans (i.trans (g.trans f)))).ad j λq c e=>(by have:=X q c;have:=O.size;omega)) Z (Ext.dj (O.trans (av.trans (i.trans (g.trans f)))) j λq c=>I) hs hl sa sb bG bc
   .refine bk (vs:=[false,(),(),()]) rfl λu am g z3=>⟨g,?_⟩
    have an:=g.size;refine(ep (aj.ext (av.trans (i.trans (g)))) I I I ac ag).use ?_;rintro _ x ⟨p,r,t,au,aw,ax,rfl,V,f⟩;refine⟨_,p,r,t,rfl,f,?_⟩;have ap:=f.size;have y:=aV.ext (i.trans (g.trans (f)));have R:=am.ext f;refine⟨y.b5 rfl (e3 _ _ _ _),rfl,cn y (us:=[a.leaf,F,G,H]) rfl rfl λaq z aW t5=>?_⟩;have A:=R.ad aW I;refine⟨A.b5 rfl (e3 _ _ _ _),rfl,cn A (us:=[b.leaf,p,r,t]) rfl rfl λl B bW t6=>?_⟩;obtain⟨o,D⟩:∃o,o=P.heap.size:=⟨_,rfl⟩;obtain⟨aE,E⟩:∃aE,aE=v.heap.size:=⟨_,rfl⟩;rw[←D]at z aW;rw[←E]at B bW;rw[←D,←E];have j:ae (λq=>q=o\/q=aE) x l:=(aW.mono λq _ h=>.inl h).trans (bW.mono λq _ h=>.inr h);have S:eB lo l a F G H L M N:=(((d.ext (g.trans (f))).ad j λq _ _ c e=>by have ar:K.heap.size<=q/\q<v.heap.size:=(by rcases c with c|c|c;exact⟨(d.bd q c).1,(d.bd q c).2.1⟩;exact⟨(d.bv q c).1,(d.bv q c).2.1⟩;exact d.aI q c);omega).low I);have T:bp (λq=>u.heap.size<=q/\q<x.heap.size) l b p r t:=(V.at.aU λq h1 Q=>⟨Q,h1⟩).ad j λq c e=>by omega
    have m:∀q,L q\/M q\/N q->K.heap.size<=q/\q<v.heap.size:=λq c=>by
     rcases c with c|c|c
     .exact⟨(d.bd q c).1,(d.bd q c).2.1⟩
     .exact⟨(d.bv q c).1,(d.bv q c).2.1⟩
     .exact d.aI q c
    exact ju (lo:=lo) (bZ:=l) (C:=λq=>u.heap.size<=q/\q<x.heap.size) ((W.ext (av.trans (i.trans (g.trans f)))).ad j I).cell (z.ad bW I) B S T (λq c=>⟨I,I,I,I,λh=>(by have:=m q (.inl h);omega),λh=>(by have:=m q (.inr (.inl h));omega),λh=>(by have:=m q (.inr (.inr h));omega)⟩) (λq c=>(by have:=m q c;exact⟨I,I⟩)) I I I ((aa.ext (av.trans (i.trans (g.trans f)))).ad j I) rfl I I ((ab.ext (av.trans (i.trans (g.trans f)))).ad j λq c e=>(by have:=X q c;have:=O.size;omega)) Z (Ext.dj (O.trans (av.trans (i.trans (g.trans f)))) j λq c=>I) hs hl sa sb bG bc
  .refine bk (vs:=[false,(),(),()]) rfl λv aJ i cg=>⟨i,?_⟩
   have s2:=i.size;refine(ep (a1.ext (av.trans (i))) I I I aX aZ).use ?_;rintro _ u ⟨F,G,H,L,M,N,rfl,d,g⟩;refine⟨_,F,G,H,rfl,g,?_⟩;have an:=g.size;refine(ep (aj.ext (av.trans (i.trans (g)))) I I I ac ag).use ?_;rintro _ x ⟨p,r,t,au,aw,ax,rfl,V,f⟩;refine⟨_,p,r,t,rfl,f,?_⟩;have ap:=f.size;have y:=aV.ext (i.trans (g.trans (f)));have R:=aJ.ext (g.trans (f));refine⟨y.b5 rfl (e3 _ _ _ _),rfl,cn y (us:=[a.leaf,F,G,H]) rfl rfl λaq z aW t5=>?_⟩;have A:=R.ad aW I;refine⟨A.b5 rfl (e3 _ _ _ _),rfl,cn A (us:=[b.leaf,p,r,t]) rfl rfl λl B bW t6=>?_⟩;obtain⟨o,D⟩:∃o,o=P.heap.size:=⟨_,rfl⟩;obtain⟨aE,E⟩:∃aE,aE=K.heap.size:=⟨_,rfl⟩;rw[←D]at z aW;rw[←E]at B bW;rw[←D,←E];have j:ae (λq=>q=o\/q=aE) x l:=(aW.mono λq _ h=>.inl h).trans (bW.mono λq _ h=>.inr h);have S:eB lo l a F G H L M N:=(((d.ext f).ad j λq _ _ c e=>by have ar:v.heap.size<=q/\q<u.heap.size:=(by rcases c with c|c|c;exact⟨(d.bd q c).1,(d.bd q c).2.1⟩;exact⟨(d.bv q c).1,(d.bv q c).2.1⟩;exact d.aI q c);omega).low I);have T:bp (λq=>u.heap.size<=q/\q<x.heap.size) l b p r t:=(V.at.aU λq h1 Q=>⟨Q,h1⟩).ad j λq c e=>by omega
   have m:∀q,L q\/M q\/N q->v.heap.size<=q/\q<u.heap.size:=λq c=>by
    rcases c with c|c|c
    .exact⟨(d.bd q c).1,(d.bd q c).2.1⟩
    .exact⟨(d.bv q c).1,(d.bv q c).2.1⟩
    .exact d.aI q c
   exact ju (lo:=lo) (bZ:=l) (C:=λq=>u.heap.size<=q/\q<x.heap.size) ((W.ext (av.trans (i.trans (g.trans f)))).ad j I).cell (z.ad bW I) B S T (λq c=>⟨I,I,I,I,λh=>(by have:=m q (.inl h);omega),λh=>(by have:=m q (.inr (.inl h));omega),λh=>(by have:=m q (.inr (.inr h));omega)⟩) (λq c=>(by have:=m q c;exact⟨I,I⟩)) I I I ((aa.ext (av.trans (i.trans (g.trans f)))).ad j I) rfl I I ((ab.ext (av.trans (i.trans (g.trans f)))).ad j λq c e=>(by have:=X q c;have:=O.size;omega)) Z (Ext.dj (O.trans (av.trans (i.trans (g.trans f)))) j λq c=>I) hs hl sa sb bG bc
 .refine bk (vs:=[false,(),(),()]) rfl λK aV av ga=>⟨av,?_⟩
  have s1:=av.size;refine⟨?_,?_⟩
  .refine(ep (a1.ext av) I I I aX aZ).use ?_
   rintro _ v ⟨F,G,H,L,M,N,rfl,d,i⟩;refine⟨_,F,G,H,rfl,i,?_⟩;have s2:=i.size;refine⟨?_,?_⟩
   .refine(ep (aj.ext (av.trans (i))) I I I ac ag).use ?_
    rintro _ u ⟨p,r,t,au,aw,ax,rfl,V,g⟩;refine⟨_,p,r,t,rfl,g,?_⟩;have an:=g.size;refine bk (vs:=[false,(),(),()]) rfl λx ao f z4=>⟨f,?_⟩;have ap:=f.size;have y:=ao;have R:=aV.ext (i.trans (g.trans (f)));refine⟨y.b5 rfl (e3 _ _ _ _),rfl,cn y (us:=[a.leaf,F,G,H]) rfl rfl λaq z aW t5=>?_⟩;have A:=R.ad aW I;refine⟨A.b5 rfl (e3 _ _ _ _),rfl,cn A (us:=[b.leaf,p,r,t]) rfl rfl λl B bW t6=>?_⟩;obtain⟨o,D⟩:∃o,o=u.heap.size:=⟨_,rfl⟩;obtain⟨aE,E⟩:∃aE,aE=P.heap.size:=⟨_,rfl⟩;rw[←D]at z aW;rw[←E]at B bW;rw[←D,←E];have j:ae (λq=>q=o\/q=aE) x l:=(aW.mono λq _ h=>.inl h).trans (bW.mono λq _ h=>.inr h);have S:eB lo l a F G H L M N:=(((d.ext (g.trans (f))).ad j λq _ _ c e=>by have ar:K.heap.size<=q/\q<v.heap.size:=(by rcases c with c|c|c;exact⟨(d.bd q c).1,(d.bd q c).2.1⟩;exact⟨(d.bv q c).1,(d.bv q c).2.1⟩;exact d.aI q c);omega).low I);have T:bp (λq=>v.heap.size<=q/\q<u.heap.size) l b p r t:=((V.at.aU λq h1 Q=>⟨Q,h1⟩).ext f).ad j λq c e=>by omega
    have m:∀q,L q\/M q\/N q->K.heap.size<=q/\q<v.heap.size:=λq c=>by
     rcases c with c|c|c
     .exact⟨(d.bd q c).1,(d.bd q c).2.1⟩
     .exact⟨(d.bv q c).1,(d.bv q c).2.1⟩
     .exact d.aI q c
    exact ju (lo:=lo) (bZ:=l) (C:=λq=>v.heap.size<=q/\q<u.heap.size) ((W.ext (av.trans (i.trans (g.trans f)))).ad j I).cell (z.ad bW I) B S T (λq c=>⟨I,I,I,I,λh=>(by have:=m q (.inl h);omega),λh=>(by have:=m q (.inr (.inl h));omega),λh=>(by have:=m q (.inr (.inr h));omega)⟩) (λq c=>(by have:=m q c;exact⟨I,I⟩)) I I I ((aa.ext (av.trans (i.trans (g.trans f)))).ad j I) rfl I I ((ab.ext (av.trans (i.trans (g.trans f)))).ad j λq c e=>(by have:=X q c;have:=O.size;omega)) Z (Ext.dj (O.trans (av.trans (i.trans (g.trans f)))) j λq c=>I) hs hl sa sb bG bc
   .refine bk (vs:=[false,(),(),()]) rfl λu am g z3=>⟨g,?_⟩
    have an:=g.size;refine(ep (aj.ext (av.trans (i.trans (g)))) I I I ac ag).use ?_;rintro _ x ⟨p,r,t,au,aw,ax,rfl,V,f⟩;refine⟨_,p,r,t,rfl,f,?_⟩;have ap:=f.size;have y:=am.ext f;have R:=aV.ext (i.trans (g.trans (f)));refine⟨y.b5 rfl (e3 _ _ _ _),rfl,cn y (us:=[a.leaf,F,G,H]) rfl rfl λaq z aW t5=>?_⟩;have A:=R.ad aW I;refine⟨A.b5 rfl (e3 _ _ _ _),rfl,cn A (us:=[b.leaf,p,r,t]) rfl rfl λl B bW t6=>?_⟩;obtain⟨o,D⟩:∃o,o=v.heap.size:=⟨_,rfl⟩;obtain⟨aE,E⟩:∃aE,aE=P.heap.size:=⟨_,rfl⟩;rw[←D]at z aW;rw[←E]at B bW;rw[←D,←E];have j:ae (λq=>q=o\/q=aE) x l:=(aW.mono λq _ h=>.inl h).trans (bW.mono λq _ h=>.inr h);have S:eB lo l a F G H L M N:=(((d.ext (g.trans (f))).ad j λq _ _ c e=>by have ar:K.heap.size<=q/\q<v.heap.size:=(by rcases c with c|c|c;exact⟨(d.bd q c).1,(d.bd q c).2.1⟩;exact⟨(d.bv q c).1,(d.bv q c).2.1⟩;exact d.aI q c);omega).low I);have T:bp (λq=>u.heap.size<=q/\q<x.heap.size) l b p r t:=(V.at.aU λq h1 Q=>⟨Q,h1⟩).ad j λq c e=>by omega
    have m:∀q,L q\/M q\/N q->K.heap.size<=q/\q<v.heap.size:=λq c=>by
     rcases c with c|c|c
     .exact⟨(d.bd q c).1,(d.bd q c).2.1⟩
     .exact⟨(d.bv q c).1,(d.bv q c).2.1⟩
     .exact d.aI q c
    exact ju (lo:=lo) (bZ:=l) (C:=λq=>u.heap.size<=q/\q<x.heap.size) ((W.ext (av.trans (i.trans (g.trans f)))).ad j I).cell (z.ad bW I) B S T (λq c=>⟨I,I,I,I,λh=>(by have:=m q (.inl h);omega),λh=>(by have:=m q (.inr (.inl h));omega),λh=>(by have:=m q (.inr (.inr h));omega)⟩) (λq c=>(by have:=m q c;exact⟨I,I⟩)) I I I ((aa.ext (av.trans (i.trans (g.trans f)))).ad j I) rfl I I ((ab.ext (av.trans (i.trans (g.trans f)))).ad j λq c e=>(by have:=X q c;have:=O.size;omega)) Z (Ext.dj (O.trans (av.trans (i.trans (g.trans f)))) j λq c=>I) hs hl sa sb bG bc
  .refine bk (vs:=[false,(),(),()]) rfl λv aJ i cg=>⟨i,?_⟩
   have s2:=i.size;refine(ep (a1.ext (av.trans (i))) I I I aX aZ).use ?_;rintro _ u ⟨F,G,H,L,M,N,rfl,d,g⟩;refine⟨_,F,G,H,rfl,g,?_⟩;have an:=g.size;refine(ep (aj.ext (av.trans (i.trans (g)))) I I I ac ag).use ?_;rintro _ x ⟨p,r,t,au,aw,ax,rfl,V,f⟩;refine⟨_,p,r,t,rfl,f,?_⟩;have ap:=f.size;have y:=aJ.ext (g.trans (f));have R:=aV.ext (i.trans (g.trans (f)));refine⟨y.b5 rfl (e3 _ _ _ _),rfl,cn y (us:=[a.leaf,F,G,H]) rfl rfl λaq z aW t5=>?_⟩;have A:=R.ad aW I;refine⟨A.b5 rfl (e3 _ _ _ _),rfl,cn A (us:=[b.leaf,p,r,t]) rfl rfl λl B bW t6=>?_⟩;obtain⟨o,D⟩:∃o,o=K.heap.size:=⟨_,rfl⟩;obtain⟨aE,E⟩:∃aE,aE=P.heap.size:=⟨_,rfl⟩;rw[←D]at z aW;rw[←E]at B bW;rw[←D,←E];have j:ae (λq=>q=o\/q=aE) x l:=(aW.mono λq _ h=>.inl h).trans (bW.mono λq _ h=>.inr h);have S:eB lo l a F G H L M N:=(((d.ext f).ad j λq _ _ c e=>by have ar:v.heap.size<=q/\q<u.heap.size:=(by rcases c with c|c|c;exact⟨(d.bd q c).1,(d.bd q c).2.1⟩;exact⟨(d.bv q c).1,(d.bv q c).2.1⟩;exact d.aI q c);omega).low I);have T:bp (λq=>u.heap.size<=q/\q<x.heap.size) l b p r t:=(V.at.aU λq h1 Q=>⟨Q,h1⟩).ad j λq c e=>by omega
   have m:∀q,L q\/M q\/N q->v.heap.size<=q/\q<u.heap.size:=λq c=>by
    rcases c with c|c|c
    .exact⟨(d.bd q c).1,(d.bd q c).2.1⟩
    .exact⟨(d.bv q c).1,(d.bv q c).2.1⟩
    .exact d.aI q c
   exact ju (lo:=lo) (bZ:=l) (C:=λq=>u.heap.size<=q/\q<x.heap.size) ((W.ext (av.trans (i.trans (g.trans f)))).ad j I).cell (z.ad bW I) B S T (λq c=>⟨I,I,I,I,λh=>(by have:=m q (.inl h);omega),λh=>(by have:=m q (.inr (.inl h));omega),λh=>(by have:=m q (.inr (.inr h));omega)⟩) (λq c=>(by have:=m q c;exact⟨I,I⟩)) I I I ((aa.ext (av.trans (i.trans (g.trans f)))).ad j I) rfl I I ((ab.ext (av.trans (i.trans (g.trans f)))).ad j λq c e=>(by have:=X q c;have:=O.size;omega)) Z (Ext.dj (O.trans (av.trans (i.trans (g.trans f)))) j λq c=>I) hs hl sa sb bG bc
section
variable {α:Type}{c:α->O aa}{sz:Nat}
def b1(c:α->O aa)(l:O α):O aa:=(l.map c).flatten
theorem p9(l m:O α):b1 c (l++m)=b1 c l++b1 c m:=by simp[b1]
theorem p_(x:α)(l:O α):b1 c (x::l)=c x++b1 c l:=rfl
theorem hT:∀ (l:O α),(∀x∈l,(c x).length=sz)->(b1 c l).length=l.length*sz
 | [],_=>by simp[b1]
 |x::l,h=>by
  rw[p_,cE,h x (by simp),hT l λy a=>h y (by simp[a]),fD,jB];omega
theorem DG{l:O α}{i:Nat}(h:i<l.length):l=l.take i++l[i]::l.drop (i+1):=by rw[←k_ h,gJ]
theorem vO{l:O α}(hc:∀x∈l,(c x).length=sz){i:Nat}(h:i<l.length):(b1 c l).take (i*sz)=b1 c (l.take i)/\(b1 c l).drop (i*sz)=c l[i]++b1 c (l.drop (i+1)):=by
 have hl:(b1 c (l.take i)).length=i*sz:=by
  rw[hT _ λx hx=>hc x (eQ hx),cC,jd I]
 have e:b1 c l=b1 c (l.take i)++(c l[i]++b1 c (l.drop (i+1))):=by
  conv=>lhs;rw[DG h]
  rw[p9,p_]
 rw[e];exact⟨kU hl,drop_left' hl⟩
theorem y_{l:O α}(hc:∀x∈l,(c x).length=sz){i:Nat}(h:i<l.length):((b1 c l).drop (i*sz)).take sz=c l[i]:=by
 rw[(vO hc h).2];exact kU (hc _ (cm h))
theorem vP{l:O α}(hc:∀x∈l,(c x).length=sz){i j:Nat}(h:i<l.length)(a:j<sz):(b1 c l)[i*sz+j]? =(c l[i])[j]? :=by
 rw[←y_ hc h,List.getElem?_take_of_lt a,qy]
theorem za{l:O α}(hc:∀x∈l,(c x).length=sz){i:Nat}(h:i<l.length)(x:α):(b1 c l).take (i*sz)++c x++(b1 c l).drop (i*sz+sz)=b1 c (l.set i x):=by
 have h1:=vO hc h;have a:(b1 c l).drop (i*sz+sz)=b1 c (l.drop (i+1)):=by
  rw[←ld,h1.2];exact drop_left' (hc _ (cm h))
 rw[h1.1,a,List.set_eq_take_append_cons_drop,if_pos h,p9,p_,cW]
theorem DH{l:O α}(hc:∀x∈l,(c x).length=sz){i j:Nat}(h:i<l.length)(a:j<sz){x:α}{v:aa}(hx:c x=(c l[i]).set j v):(b1 c l).set (i*sz+j) v=b1 c (l.set i x):=by
 have hl:(c l[i]).length=sz:=hc _ (cm h);have h1:=vO hc h;have e:b1 c l=b1 c (l.take i)++(c l[i]++b1 c (l.drop (i+1))):=by
  conv=>lhs;rw[←gJ (i*sz) (b1 c l),h1.1,h1.2]
 have b:(b1 c (l.take i)).length=i*sz:=by
  rw[hT _ λx hx=>hc x (eQ hx),cC,jd I]
 rw[e,List.set_append_right _ _ I,show i*sz+j-(b1 c (l.take i)).length=j from I,List.set_append_left _ _ I,←hx,List.set_eq_take_append_cons_drop,if_pos h,p9,p_]
end
section
variable {α:Type} [DecidableEq α] {P:Program}{w:J}{gA eS T:TypeId}{enc:α->aa}{r:Nat}{M:O (α×aa)}{k:α}{v:aa}
theorem DI(f:lv P gA enc)(j:P.underlying T=some (.map gA eS))(h:dP w r enc M)(l:∀v,(k,v)∉M)(v:aa):
 ∃w1:J,(Instr.mapUpdate T (.map (some r)) (enc k) v).run P w=.ok () w1/\ae (λq=>q=r) w w1/\w1.heap.size=w.heap.size/\dP w1 r enc ((k,v)::M):=by
 have aJ:=h.lt;obtain⟨L,c,h,h1,m,n,g⟩:=h;have i:=yd h1 l;have hf:=f.find L k w;rw[uQ i]at hf;refine⟨g4 w r (.map ((L.map (dk enc)).toArray.push ⟨enc k,v,c⟩) (c+1)),?_,pB _ _ _,rn _ _ _,L++ [(k,v,c)],c+1,?_,?_,?_,?_,?_⟩
 .simp only[Instr.mapUpdate,Sem.run_bind,cP j,Result.andThen,kL h,Sem.run_pure,f.check,hf,uS h]
 .rw[rp aJ]
  simp[dk]
 .rw[fe]
  have:([(k,v,c)]:O (α×aa×Nat)).map j8=[(k,v)]:=rfl;rw[this];exact(o1).trans (List.Perm.cons _ h1)
 .rw[fe,nq]
  refine⟨m,by simp,λa e b d=>?_⟩;obtain⟨x,hx,rfl⟩:=dZ.1 e;simp only[iM,List.map_nil,eX]at d;subst d;exact i x hx
 .rw[fe,nq]
  refine⟨n,by simp,λa e b d=>?_⟩;obtain⟨x,hx,rfl⟩:=dZ.1 e;simp only[iM,List.map_nil,eX]at d;subst d;have:=g x hx;omega
 .intro x hx
  rcases cG.1 hx with hx|hx
  .have:=g x hx;omega
  .rw[eX.1 hx];show c<c+1;omega
theorem DJ(c:lv P gA enc)(i:P.underlying T=some (.map gA eS))(h:dP w r enc ((k,v)::M))(b:aa):
 ∃w1:J,(Instr.mapUpdate T (.map (some r)) (enc k) b).run P w=.ok () w1/\ae (λq=>q=r) w w1/\w1.heap.size=w.heap.size/\dP w1 r enc ((k,b)::M):=by
 have aJ:=h.lt;obtain⟨n,bl,bJ,a,f,h,h1,g,j,d,_⟩:=h.split;have hf:=c.find (bl++(k,v,a)::bJ) k w;rw[uR (yc g),cH]at hf;have hg:((bl++(k,v,a)::bJ).map (dk enc)).toArray[bl.length]? =some ⟨enc k,v,a⟩:=by simp[dk]
 have l:((bl++(k,v,a)::bJ).map (dk enc)).toArray.modify bl.length (λe=>{e with key:=enc k,val:=b})=((bl++(k,b,a)::bJ).map (dk enc)).toArray:=by
  apply Array.toList_inj.1;rw[Array.toList_modify,fe,iM];have:=yb (λe=>{e with key:=enc k,val:=b}) (dk enc (k,v,a)) (bJ.map (dk enc)) (bl.map (dk enc));rw[dE]at this;rw[this];simp[dk]
 refine⟨g4 w r (.map ((bl++(k,b,a)::bJ).map (dk enc)).toArray f),?_,pB _ _ _,rn _ _ _,bl++(k,b,a)::bJ,f,rp aJ _,?_,?_,?_,?_⟩
 .simp only[Instr.mapUpdate,Sem.run_bind,cP i,Result.andThen,kL h,Sem.run_pure,c.check,hf,hg,kr,oX,Instr.keyThatStays,c.bits,if_true,uS h,l]
 .rw[fe,iM]
  rw[fe]at h1;exact lf.trans (h1.cons _)
 .simpa using g
 .simpa using j
 .intro x hx
  rcases cG.1 hx with hx|hx
  .exact d x (by simp[hx])
  .rcases cR.1 hx with rfl|hx
   .exact d (k,v,a) (by simp)
   .exact d x (by simp[hx])
end
abbrev cF:=O UInt8
structure gl where
 i:Nat
 s:Y
 fA:O cF
structure aV where
 d:Nat
 lb:Nat
 mr:Nat
 bY:O Int
 a_:O cF
 waits:O gl
 writes:Int
 aO:Nat
 bD:Nat->ag
 dQ:Nat->O cF
def gl.e(x:gl):Int×aa:=((x.i:Int),x.s)
def aV.c(D:aV):O aa:=D.bY.map (.int .i64)++ [.slice (some ⟨D.lb,0,none⟩) D.a_.length D.a_.length,.map (some D.mr),.int .i64 D.writes]
def aV.n(D:aV):Nat:=D.a_.length
abbrev encZ:Int->aa:=λn=>n
theorem mZ:lv ai 3 encZ:=lv.int (by kernel_rfl)
theorem ki:Tryz.prog.underlying 137=some (.map 3 136):=by kernel_rfl
theorem zb:(Tryz.prog.info? 136).bind (·.zero)=some (.slice none 0 0):=by kernel_rfl
theorem tG{P:Program}{T:TypeId}{z:aa}(h:(P.info? T).bind (·.zero)=some z):∃i,P.info? T=some i/\i.zero=some z:=by
 cases hi:P.info? T with
 |none=>rw[hi]at h;cases h
 |some i=>rw[hi]at h;exact⟨i,rfl,h⟩
def bF(D:aV)(q:Nat):Prop:=q=D.d\/q=D.lb\/q=D.mr\/∃x∈D.waits,aB x.s q
structure cj(w:J)(D:aV):Prop where
 v:Var w D.d D.c 141
 l:bh w D.lb (b1 aF D.a_).toArray 182
 m:dP w D.mr encZ (D.waits.map gl.e)
 ws:∀x∈D.waits,aZ 256 182 w x.s (b1 aF x.fA)
 wn:∀x∈D.waits,x.fA≠ []/\x.i<D.n/\x.fA.length<=D.aO
 sl:∀s∈D.a_,s.length=256
 jv:∀x∈D.waits,∀s∈x.fA,s.length=256
 bG:16<=D.n
 bc:D.n<=1600
 f4:D.bY.length=4
 fr:∀x∈D.bY, -1<=x/\x<=9223372036854775807
 a1:D.d≠D.lb/\D.d≠D.mr/\D.lb≠D.mr
 a2:∀x∈D.waits,¬aB x.s D.d/\¬aB x.s D.lb/\¬aB x.s D.mr
 a3:∀x∈D.waits,∀y∈D.waits,x.i≠y.i->∀q,aB x.s q->¬aB y.s q
section
variable {w w':J}{D:aV}
theorem cj.ad{W:Nat->Prop}(h:cj w D)(hc:ae W w w')(a:∀q,bF D q->¬W q):cj w' D:=
 ⟨h.v.ad hc (a _ (.inl rfl)),bh.ad h.l hc (a _ (.inr (.inl rfl))),h.m.ad hc (a _ (.inr (.inr (.inl rfl)))),λx hx=>(h.ws x hx).ad hc λq b=>a q (.inr (.inr (.inr ⟨x,hx,b⟩))),h.wn,h.sl,h.jv,h.bG,h.bc,h.f4,h.fr,h.a1,h.a2,h.a3⟩
theorem cj.ext(h:cj w D)(hc:Ext w w'):cj w' D:=h.ad hc λ_ _ h=>h
theorem cj.lt(h:cj w D){q:Nat}(a:bF D q):q<w.heap.size:=by
 rcases a with rfl|rfl|rfl|⟨x,hx,a⟩
 .exact h.v.lt
 .exact bh.lt h.l
 .exact h.m.lt
 .exact(h.ws x hx).lt q a
theorem cj.DK(h:cj w D){k:Nat}(a:k<4):w.cell? ⟨D.d,k,none⟩=some (.int .i64 (D.bY.getD k 0)):=by
 rw[h.v.cell];unfold aV.c;have:=h.f4;rw[List.getElem?_append_left (by rw[dE];omega),j3,dD I,eH I];rfl
theorem cj.de(h:cj w D):w.cell? (Addr.add D.d 4)=some (.slice (some D.lb) D.a_.length D.a_.length):=by
 rw[ax,h.v.cell];unfold aV.c;have:=h.f4;rw[kA (by rw[dE];omega),dE,this];rfl
theorem cj.aW(h:cj w D):w.cell? (Addr.add D.d 5)=some (.map (some D.mr)):=by
 rw[ax,h.v.cell];unfold aV.c;have:=h.f4;rw[kA (by rw[dE];omega),dE,this];rfl
theorem cj.tH(h:cj w D):D.c.length=7:=by
 unfold aV.c;have:=h.f4;simp;omega
def aV.now(D:aV)(i:Nat):cF:=match D.waits.find? λx=>x.i==i with
 |some x=>x.fA.getLastD []
 |none=>D.a_.getD i []
theorem DL{α:Type}{l:O α}{d:α}(h:l≠ []):l.getLastD d∈l:=by
 cases l with
 |nil=>exact absurd rfl h
 |cons a l=>
  rw[List.getLastD_cons];rw[←List.getLast_eq_getLastD];exact List.getLast_mem h
theorem cj.m0(h:cj w D){i:Nat}(hi:i<D.n):(D.now i).length=256:=by
 unfold aV.now
 cases hf:D.waits.find? λx=>x.i==i with
 |some x=>
  have hx:=iq hf;exact h.jv x hx _ (DL (h.wn x hx).1)
 |none=>
  have a:i<D.a_.length:=hi;rw[show(match (none:an gl) with|some x=>x.fA.getLastD []|none=>D.a_.getD i [])=D.a_.getD i [] from rfl,eH a];exact h.sl _ (cm _)
theorem oD(h:cj w D):aH ai 72 #[.pointer (some D.d)] w (λv w'=>v=D.n/\w=w'):=by
 refine okF (af.se (some D.d)) ay.se func72 ?_;(delta af.se al ak;dsimp only);exact⟨λh=>(by cases h),λ_=>⟨_,rfl,⟨some D.lb,D.a_.length,D.a_.length⟩,h.de,rfl,rfl⟩⟩
theorem zc(h:cj w D)(i:Int):aH ai 108 #[.pointer (some D.d),i] w (λv w'=>v=.bool (decide (0<=i/\i<D.n))/\w=w'):=by
 refine okF (af.su (some D.d) i) ay.su func108 ?_;(delta af.su al ak;dsimp only);refine cl (λb w'=>b=decide (0<=i/\i<D.n)/\w=w') (λq c=>⟨λa=>⟨_,rfl,⟨some D.lb,D.a_.length,D.a_.length⟩,h.de,c _ _ ⟨?_,rfl⟩⟩,λa=>c _ _ ⟨?_,rfl⟩⟩) ?_
 .have a:0<=i:=by simpa using a
  rw[fm,cO,cO];exact⟨λh=>⟨a,h⟩,λh=>h.2⟩
 .have a:¬0<=i:=by simpa using a
  rw[gM (λh=>a h.1)]
 .rintro _ _ ⟨rfl,rfl⟩
  exact⟨rfl,rfl⟩
end
def fH(f:Int):ag×Int:=if f= -1 then (false, -1) else if f=0 then (true, -1) else (false,f-1)
theorem DM{f:Int}(h: -1<=f/\f<=9223372036854775807): -1<=(fH f).2/\(fH f).2<=9223372036854775807:=by
 unfold fH;split
 .exact⟨by decide,by decide⟩
 .split
  .exact⟨by decide,by decide⟩
  .show -1<=f-1/\f-1<=_;omega
def aV.b_(D:aV)(k:Nat):aV:={D with bY:=D.bY.set k (fH (D.bY.getD k 0)).2}
def aV.e_(D:aV)(k:Nat):ag:=(fH (D.bY.getD k 0)).1
theorem vQ{w:J}{D:aV}(h:cj w D){k:Nat}(o:k<4):
 aH ai 136 #[.pointer (some ⟨D.d,0,none⟩),.int .i64 ((k:Nat):Int)] w (λv w'=>v=.bool (D.e_ k)/\cj w' (D.b_ k)/\ae (λq=>q=D.d) w w'/\w'.heap.size=w.heap.size):=by
 have hf:=h.DK o;have p:=h.f4;have r: -1<=D.bY.getD k 0/\D.bY.getD k 0<=9223372036854775807:=by rw[eH I];exact h.fr _ (cm _)
 have j:∀ (w1:J),cj w1 D->cj (w1.setCell ⟨D.d,k,none⟩ (.int .i64 (fH (D.bY.getD k 0)).2)) (D.b_ k):=by
  intro w1 h1;have hc:=dx w1 D.d k (.int .i64 (fH (D.bY.getD k 0)).2);have n:=dX h1.v (i:=k) (.int .i64 (fH (D.bY.getD k 0)).2);have e:D.c.set k (.int .i64 (fH (D.bY.getD k 0)).2)=(D.b_ k).c:=by
   unfold aV.c aV.b_;rw[List.set_append_left _ _ (by rw[dE];omega),←List.map_set]
  rw[e]at n;refine⟨n,bh.ad h1.l hc (λe=>h.a1.1 e.symm),h1.m.ad hc (λe=>h.a1.2.1 e.symm),λx hx=>(h1.ws x hx).ad hc λq s e=>(h.a2 x hx).1 (by subst e;exact s),h.wn,h.sl,h.jv,h.bG,h.bc,by show(D.bY.set k _).length=4;rw[cX];exact p,λx hx=>?_,h.a1,h.a2,h.a3⟩;rcases kB hx with hx|rfl
  .exact h.fr x hx
  .exact DM r
 have g:Addr.add ⟨D.d,0,none⟩ (Int.toNat ((k:Nat):Int)*1)=⟨D.d,k,none⟩:=by rw[du,fu,ax,cH]
 refine okF (af.sE (some ⟨D.d,0,none⟩) ((k:Nat):Int)) ay.sE func136 ?_;(delta af.sE r1 al st au;dsimp only);refine⟨_,rfl,⟨I,by show(k:Int)<4;omega⟩,D.bY.getD k 0,by rw[g];exact hf,λh1=>?_,λh1=>⟨λa=>⟨_,rfl,⟨I,by show(k:Int)<4;omega⟩,?_⟩,λa=>aY ⟨_,rfl,⟨I,by show(k:Int)<4;omega⟩,id,_,by rw[g];exact hf,_,rfl,⟨I,by show(k:Int)<4;omega⟩,?_⟩⟩⟩
 .have h1:D.bY.getD k 0= -1:=by simpa using h1
  have b:D.e_ k=false:=by unfold aV.e_ fH;rw[if_pos h1]
  have f:D.b_ k=D:=by
   unfold aV.b_ fH;rw[if_pos h1];have:D.bY.set k (-1)=D.bY:=by
    rw[←h1,eH I];exact List.set_getElem_self _
   rw[this]
  rw[b,f];exact⟨rfl,h,.refl _ _,rfl⟩
 .have h1:D.bY.getD k 0≠ -1:=by simpa using h1
  have a:D.bY.getD k 0=0:=by simpa using a
  have hs:=dR h.v (i:=k) (by rw[h.tH];omega);have b:D.e_ k=true:=by unfold aV.e_ fH;rw[if_neg h1,if_pos a]
  have f:(fH (D.bY.getD k 0)).2= -1:=by unfold fH;rw[if_neg h1,if_pos a]
  have:=j w h;rw[f]at this;rw[g,b];exact⟨hs.1,hs.2,aY ⟨rfl,this,dx _ _ _ _,by simp[World.setCell]⟩⟩
 .have h1:D.bY.getD k 0≠ -1:=by simpa using h1
  have a:D.bY.getD k 0≠0:=by simpa using a
  have hd:=h.ext (cr w);have hs:=dR hd.v (i:=k) (by rw[h.tH];omega);have b:D.e_ k=false:=by unfold aV.e_ fH;rw[if_neg h1,if_neg a]
  have f:(fH (D.bY.getD k 0)).2=D.bY.getD k 0-1:=by unfold fH;rw[if_neg h1,if_neg a]
  have:=j w.drew hd;rw[f]at this;rw[g,b,bB I I];exact⟨hs.1,hs.2,aY ⟨rfl,this,(ae.cJ (cr w)).trans (dx _ _ _ _),by simp[World.setCell]⟩⟩
def aV.da(D:aV)(i:Nat):O cF:=match D.waits.find? λx=>x.i==i with
 |some x=>x.fA
 |none=> []
theorem tI(D:aV)(h:∀x∈D.waits,x.fA≠ [])(i:Nat):D.now i=if D.da i=[] then D.a_.getD i [] else (D.da i).getLastD []:=by
 unfold aV.now aV.da
 cases hf:D.waits.find? λx=>x.i==i with
 |some x=>
  have hx:=iq hf;simp only;rw[if_neg (h x hx)]
 |none=>simp
def aV.calm(D:aV)(k:Nat):Prop:=(D.bY.getD 1 0= -1\/(k:Int)<=D.bY.getD 1 0)/\(D.bY.getD 2 0= -1\/(k:Int)<=D.bY.getD 2 0)
def aV.iU(D:aV):Int->Prop:=λn=>(∀j,D.bD j=true)->D.writes=n
def aV.ro(D:aV):Prop:=∀i,D.bD i=true
def aV.key(D:aV):(O cF×(Nat->ag)×(Nat->O cF)×(Int->Prop))×Int:=((D.a_,D.bD,D.dQ,D.iU),D.bY.getD 3 0)
theorem ck{W V:Nat->Prop}{w w' c:J}(h1:ae W w w')(a:ae V w' c)(h:∀q,q<w.heap.size->V q->W q):ae W w c:=
 ⟨a.os.trans h1.os,a.tape.trans h1.tape,a.output.trans h1.output,eC h1.size a.size,λk b cd=>(a.block k (fc b h1.size) λd=>cd (h k b d)).trans (h1.block k b cd)⟩
theorem fT{D:aV}{k l:Nat}(h:D.calm k)(hl:l<=k):D.calm l:=⟨h.1.imp id λh=>I,h.2.imp id λh=>I⟩
theorem iD{D:aV}{k m:Nat}(d:k=1\/k=2)(g:D.bY.length=4)(h:D.calm (m+1)):(D.b_ k).calm m/\D.e_ k=false:=by
 obtain⟨h1,a⟩:=h;have e:1<D.bY.length:=by omega
 have f:2<D.bY.length:=by omega
 rcases d with rfl|rfl
 .have b:(D.b_ 1).bY.getD 1 0=(fH (D.bY.getD 1 0)).2:=by
   show(D.bY.set 1 _).getD 1 0=_;rw[eH (by rw[cX];omega),gN]
  have c:(D.b_ 1).bY.getD 2 0=D.bY.getD 2 0:=by
   show(D.bY.set 1 _).getD 2 0=_;rw[eH (by rw[cX];omega),eZ I,eH f]
  unfold aV.calm aV.e_;rw[b,c];unfold fH;rcases h1 with h1|h1
  .rw[if_pos h1]
   exact⟨⟨.inl rfl,a.imp id λh=>I⟩,rfl⟩
  .rw[if_neg I,if_neg I]
   exact⟨⟨.inr (by show(m:Int)<=_-1;omega),a.imp id λh=>I⟩,rfl⟩
 .have b:(D.b_ 2).bY.getD 2 0=(fH (D.bY.getD 2 0)).2:=by
   show(D.bY.set 2 _).getD 2 0=_;rw[eH (by rw[cX];omega),gN]
  have c:(D.b_ 2).bY.getD 1 0=D.bY.getD 1 0:=by
   show(D.bY.set 2 _).getD 1 0=_;rw[eH (by rw[cX];omega),eZ I,eH e]
  unfold aV.calm aV.e_;rw[b,c];unfold fH;rcases a with a|a
  .rw[if_pos a]
   exact⟨⟨h1.imp id λh=>I,.inl rfl⟩,rfl⟩
  .rw[if_neg I,if_neg I]
   exact⟨⟨h1.imp id λh=>I,.inr (by show(m:Int)<=_-1;omega)⟩,rfl⟩
theorem oE(D:aV){k:Nat}(a:k=1\/k=2):(D.b_ k).key=D.key:=by
 unfold aV.key aV.b_;rcases a with rfl|rfl<;>simp[e6]<;>rfl
theorem vR{sz:Nat}{w:J}{s:Y}{α:Type}{c:α->O aa}{l:O α}(h:Src sz w s (b1 c l))(hc:∀x∈l,(c x).length=sz)(d:0<sz){i:Nat}(hi:i<l.length):
 s.len=l.length/\∃A,s.a=some A/\cy w (A.add (i*sz)) 0 sz=some (c l[i]):=by
 have hl:s.len=l.length:=by
  have:=h.len;rw[hT l hc]at this;exact(Nat.eq_of_mul_eq_mul_right d this).symm
 refine⟨hl,?_⟩
 cases b:s.a with
 |none=>
  have:=congrArg List.length (h.nil b);rw[hT l hc,j4]at this;have:l.length*sz≠0:=Nat.mul_ne_zero I I;omega
 |some A=>
  refine⟨A,rfl,?_⟩;have e:i*sz+sz<=s.len*sz:=by
   rw[hl,←Nat.succ_mul];exact np _ hi
  rw[BU (h.rd A b) e,y_ hc hi]
def oF:O aa:=aF (List.replicate 256 0)
def vS(D:aV)(i:Nat)(w:J)(v:aa)(w':J):Prop:=v=.agg (aF (D.now i)).toArray/\Ext w w'
theorem zd{w:J}{D:aV}(h:cj w D){i:Nat}(hi:i<D.n)(Q:D.aO<=1000000000):
 aH ai 137 #[.pointer (some D.d),i] w (vS D i w):=by
 have R:=h.bc;have f:=h.m0 hi;refine okF (af.sF (some D.d) (i:Int)) ay.sF func137 ?_;(delta af.sF z4 al au u_ U ak rC;dsimp only);refine bk (vs:=oF) (by kernel_rfl) λw1 g t _=>?_;have hd:=h.ext t;refine⟨_,rfl,some D.mr,hd.aW,?_⟩;have u:oF.length=256:=by rw[oF,dI,lj]
 have fin:∀ (K:O aa->J->Prop),(∀a,Ext w a->K (aF (D.now i)) a)->bz w1 w.heap.size (Array.toList (aF (D.now i)).toArray)/\Array.size (aF (D.now i)).toArray=256/\ao (setCells w1 w.heap.size 0 (Array.toList (aF (D.now i)).toArray)) λa=>∃b:O aa,cy a w.heap.size 0 256=some b/\K b a:=by
  intro K C;refine⟨g.b5 (by rw[o5,dI,f,u]) (by rw[o5];exact kS _),by simp[dI,f],cn g (us:=aF (D.now i)) (by rw[dI,f,u]) rfl λa E F _=>⟨_,E.rd (by rw[dI,f]),C a (Ext.cv t F (br _))⟩⟩
 cases hf:D.waits.find? λx=>x.i==i with
 |some x=>
  have hx:=iq hf;have G:x.i=i:=by
   have:=je hf;exact eq_of_beq this
  have hl:=hd.m.uT mZ ki (k:=(i:Int)) (v:=x.s) (dZ.2 ⟨x,hx,by unfold gl.e;rw[G]⟩) false;have H:=(h.wn x hx).1;have hlen:0<x.fA.length:=qC.2 H;have S:=(h.wn x hx).2.2;obtain⟨y,A,ar,j⟩:=vR (hd.ws x hx).src (λs hs=>by rw[dI];exact h.jv x hx s hs) (by decide) (i:=x.fA.length-1) I;have p:D.now i=x.fA[x.fA.length-1]'I:=by
   unfold aV.now;rw[hf];show x.fA.getLastD []=_;rw[List.getLastD_eq_getLast?,List.getLast?_eq_getElem?,dD I];rfl
  refine⟨x.s,w1,hl,λ_=>⟨A,ar,?_⟩,λq=>?_⟩
  .rw[y,bB (n:=(x.fA.length:Int)-1) I I]
   have L:Int.toNat ((x.fA.length:Int)-1)=x.fA.length-1:=by omega
   rw[L];refine⟨⟨I,I⟩,_,j,?_⟩;rw[←p];exact fin (λb a=>vS D i w (.agg b.toArray) a) λa r=>⟨rfl,r⟩
  .have:=cx q
   omega
 |none=>
  obtain⟨T,h1,M⟩:=tG zb;have hl:=hd.m.ye mZ ki (k:=(i:Int)) h1 M (λv g=>by
   obtain⟨x,hx,he⟩:=dZ.1 g;have N:=iN.1 hf x hx;unfold gl.e at he;simp only[Prod.mk.injEq]at he;apply N;have:x.i=i:=by omega
   rw[this];simp) false
  have z:i<D.a_.length:=hi;have p:D.now i=D.a_[i]:=by
   unfold aV.now;rw[hf];exact eH z
  have P:Src 256 w1 ⟨some D.lb,D.a_.length,D.a_.length⟩ (b1 aF D.a_):=by
   have B:=hT (c:=aF) (sz:=256) D.a_ λs hs=>by rw[dI];exact h.sl s hs
   have:=bh.rr (sz:=256) (o:=0) (n:=D.a_.length) (cap:=D.a_.length) hd.l (by simp[B]);rw[kt,o5,dT (by rw[B];exact br _)]at this;exact this
  obtain⟨y,A,ar,j⟩:=vR P (λs hs=>by rw[dI];exact h.sl s hs) (by decide) z;refine⟨⟨none,0,0⟩,w1,hl,λq=>by simp at q,λ_=>⟨_,rfl,_,hd.de,A,ar,⟨I,by show(i:Int)<(D.a_.length:Int);omega⟩,_,j,?_⟩⟩;rw[←p];exact fin (λb a=>vS D i w (.agg b.toArray) a) λa r=>⟨rfl,r⟩
def DN(D:aV)(i:Nat)(w:J)(v:aa)(w':J):Prop:=
 cj w' (D.b_ 1)/\ae (λq=>q=D.d) w w'/\
  ((D.e_ 1=true/\v=.tuple #[(),(3:Int)])\/
   (D.e_ 1=false/\∃s:Y,v=.tuple #[s,(0:Int)]/\bg (λq=>w.heap.size<=q) w' s (D.now i)))
theorem vT{w:J}{D:aV}(h:cj w D){i:Nat}(hi:i<D.n)(x:D.aO<=1000000000):
 aH ai 114 #[.pointer (some D.d),i] w (DN D i w):=by
 refine okF (af.sx (some D.d) (i:Int)) ay.sx func114 ?_;(delta af.sx aG al rD gj z4 U;dsimp only);refine(zc h _).use ?_;rintro _ _ ⟨rfl,rfl⟩;refine⟨_,rfl,λa=>?_,λ_=>⟨_,rfl,(vQ h (k:=1) (by decide)).use ?_⟩⟩
 .have a:¬(0<=(i:Int)/\(i:Int)<D.n):=by simpa using a
  omega
 rintro _ ah ⟨rfl,b,j,z⟩;refine⟨_,rfl,λa=>⟨b,j,.inl ⟨a,rfl⟩⟩,λa=>(zd b (i:=i) hi x).use ?_⟩;rintro _ m ⟨rfl,g⟩;have f:=h.m0 hi;refine⟨_,rfl,bk (vs:=oF) (by kernel_rfl) λB p r C=>⟨p.b5 (by rw[o5,dI];show(D.now i).length=_;rw[f,oF,dI,lj]) (by rw[o5];exact kS _),by rw[qM,dI];exact f,cn p (us:=aF (D.now i)) (by rw[dI,f,oF,dI,lj]) rfl λE s t F=>?_⟩⟩;have G:=g.size;have aJ:D.d<ah.heap.size:=b.v.lt;refine⟨(b.ext (g.trans r)).ad t (λq u e=>by have:=b.lt u;omega),ck (j.trans (ae.cJ (g.trans r))) t λq u e=>I,.inr ⟨a,⟨some m.heap.size,256,256⟩,rfl,?_,br _,λk y=>?_⟩⟩
 .have:=s.yH (o:=0) (n:=256) (c:=256) (l:=D.now i) (by rw[dI,f];decide) (by rw[kt,dT (by rw[dI,f];decide)])
  exact this
 .obtain⟨A,ar,rfl⟩:=y
  cases ar;have:=s.lt;exact⟨by show w.heap.size<=m.heap.size;omega,this⟩
end Go.Proofs.YtkdhdlfonmgheaaGreat
