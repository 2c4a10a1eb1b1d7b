/- Contracts of the functions that the statement reaches, and the plain laws over them; each theorem stands with its conditions. -/
import Derived.Test.YtkdhdlfonmgheaaGreatBRoom1
namespace Go.Proofs.YtkdhdlfonmgheaaGreat
open Go a6 Go.Proofs.Tryz
def iL:aA:=⟨false,[],[],[]⟩
def bn:Y:=⟨none,0,0⟩
def v7(leaf:ai)(l:O UInt8)(w w':J)(v:aa):Prop:=
 (∃ (n:aA) (K V D:Y),v=.tuple #[cQ n K V D,(0:Int)]/\kA leaf l n/\br (λq=>w.heap.size<=q) w' n K V D)\/
 (v=.tuple #[cQ iL bn bn bn,(4:Int)]/\∀n,¬kA leaf l n)
theorem h7{w':J}{h:Nat}{vs:O aa}(b:ai)(K V D:Y)(c:Var w' h vs 202)(g:vs.length=4){Q:ai->Y->Y->Y->J->Prop}(j:∀ah,ad (λq=>q=h) w' ah->Q b K V D ah):
 bt w' h [b,K,V,D]/\(4:Nat)=4/\an (setCells w' h 0 [b,K,V,D]) λah=>
  ∃i:ai,ah.cell? h=some (.bool i)/\∃d:Y,ah.cell? (Addr.add h 1)=some (.slice d.a d.len d.cap)/\∃e:Y,ah.cell? (Addr.add h 2)=some (.slice e.a e.len e.cap)/\
   ∃f:Y,ah.cell? (Addr.add h 3)=some (.slice f.a f.len f.cap)/\Q i d e f ah:=by
 refine⟨c.b2 (by rw[g];rfl) ?_,rfl,cp c (us:=[b,K,V,D]) (by rw[g];rfl) rfl λah k hc _=>?_⟩
 .intro v c
  simp only[cP,eE,eL]at c;rcases c with rfl|rfl|rfl|rfl<;>trivial
 .obtain⟨bI,aB,aT,aH⟩:=bw k
  exact⟨b,bI,K,aB,V,aT,D,aH,j ah hc⟩
theorem oB{w:J}{s:Y}{l:O UInt8}(hs:Src 1 w s (aF l))(hc:s.len<=s.cap)(T:∀k,aC s k->k<w.heap.size)(an:l.length<=100000)(leaf:ai):
 aP ak 233 #[leaf,s] w (λv w'=>v7 leaf l w w' v/\Ext w w'):=by
 refine okF (af.oB leaf s) az.oB func233 ?_;(delta af.oB cc U aB al vj ag st aW au a8 b8 aH p3;dsimp only);refine bl (vs:=[false,(),(),()]) rfl λw1 aU ao bN=>?_;refine bl (vs:=[s,true]) rfl λah aX W bO=>?_;refine bl (vs:=[false,(),(),()]) rfl λbP ap F bQ=>?_;refine⟨ap.b2 rfl (by
  intro v aq;simp only[cP,eE,eL]at aq;rcases aq with rfl|rfl|rfl|rfl<;>trivial),rfl,cp ap (us:=[leaf,(),(),()]) rfl rfl λm aY G bR=>?_⟩
 obtain⟨lo,bT⟩:∃lo,lo=m.heap.size:=⟨_,rfl⟩;obtain⟨r,ar⟩:∃r,r=w1.heap.size:=⟨_,rfl⟩;obtain⟨nb,aA⟩:∃nb,nb=ah.heap.size:=⟨_,rfl⟩;have aZ:Ext w m:=Ext.ck (ao.trans (W.trans F)) G I;have a0:iq m w1.heap.size s (l,true):=by
  refine⟨(aX.ext F).ab G I,(hs.ext (ao.trans (W.trans F))).ab G λk c e=>?_,hc,λk c=>?_⟩
  .have:=T k c;omega
  .have:=T k c;omega
 refine(vY a0 1 (by decide) an).use ?_;rintro _ aD ⟨aE,rfl,a1,X,a2⟩;have bU:(rdNum (l,true) 1).1<256:=vZ _ 1;have bV:=X.size;have aG:jg lo aD r nb aE (⟨leaf,[],[],[]⟩,(rdNum (l,true) 1).2) bn bn bn (λ_=>False) (λ_=>False) (λ_=>False):=by
  refine⟨by rw[aA];exact aY.ab X I,by rw[ar];exact a1,bh.none _ _,bh.none _ _,cB.none _ _,λq h=>h.elim,λq h=>h.elim,λq h=>h.elim,λq a=>?_,I,I,I,eI (tR _ 1) an⟩;have:=T q (a2 q a);exact⟨I,I⟩
 have aJ:ad (na lo r nb) m aD:=X.mono λk _ c=>.inl I;rw[←ar,←aA];refine⟨_,rfl,jd (λw'=>∃ (u D:Y) (bA:Nat->Prop),jg lo w' r nb u (k9 leaf (rdNum (l,true) 1).2) bn bn D (λ_=>False) (λ_=>False) bA/\ad (na lo r nb) m w'/\lo<=w'.heap.size) (λq a=>⟨λd=>?_,λd=>a _ ⟨aE,bn,λ_=>False,?_,aJ,I⟩⟩) ?_⟩
 .have d:leaf=false:=by simpa using d
  subst d;refine zi aG I (by simp) λw' aw u a3 h1 h2 o=>a _ ⟨u,aw,a3,?_,aJ.trans h2,o⟩;have:k9 false (rdNum (l,true) 1).2=(⟨false,[],[],[]++ [(rdNum (rdNum (l,true) 1).2 2).1]⟩,(rdNum (rdNum (l,true) 1).2 2).2):=by simp[k9]
  rw[this];exact h1
 .have d:leaf=true:=by simpa using d
  subst d;exact aG
 rintro bW ⟨a4,a5,a6,aL,a9,a_⟩;obtain⟨f,H⟩:∃f,f=k9 leaf (rdNum (l,true) 1).2:=⟨_,rfl⟩;rw[←H]at aL;have bb:f.1.leaf=leaf:=by rw[H];unfold k9;cases leaf<;>rfl
 have bX:f.1.keys.length=0/\f.1.vals.length<=1/\f.1.kids.length<=1:=by rw[H];unfold k9;cases leaf<;>simp
 refine⟨λi w'=>∃ (j:Nat) (u K V D:Y) (bD bS bA:Nat->Prop),i=j/\j<=(rdNum (l,true) 1).1/\jg lo w' r nb u (g3 f j) K V D bD bS bA/\ad (na lo r nb) m w'/\lo<=w'.heap.size,λi _=>(((rdNum (l,true) 1).1:Int)-i).toNat,⟨0,a4,bn,bn,a5,_,_,a6,rfl,cN _,aL,a9,a_⟩,?_⟩;rintro _ aM ⟨j,bY,K,V,D,bD,bS,bA,rfl,bZ,g,L,bc⟩;obtain⟨bd,be,bg⟩:=zh f j;have x:=zg f j bb;refine⟨λaK=>?_,λZ=>?_⟩
 .have aK:j<(rdNum (l,true) 1).1:=by have:=b_ aK;omega
  rw[bu (n:=(j:Int)+1) I I];refine jd (λw'=>∃ (u K V D:Y) (bD bS bA:Nat->Prop),jg lo w' r nb u (g3 f (j+1)) K V D bD bS bA/\ad (na lo r nb) m w'/\lo<=w'.heap.size) (λq a=>?_) ?_
  .refine Dx g bc I λy M aN N P R S=>⟨λd=>?_,λd=>?_⟩
   .refine Dy P S (by show(g3 f j).1.vals.length<=_;omega) λaa bi ac bj B p ae=>a _ ⟨ac,M,bi,D,N,bj,bA,?_,L.trans (R.trans p),ae⟩
    rw[g3];unfold m7;rw[x,d,if_pos rfl];rw[x,d]at B;exact B
   .refine zi P S (by show(g3 f j).1.kids.length<=_;omega) λaa bk ac bm B p ae=>a _ ⟨ac,M,V,bk,N,bS,bm,?_,L.trans (R.trans p),ae⟩
    rw[g3];unfold m7;rw[x,d,if_neg (by simp)];rw[x,d]at B;exact B
  .rintro y ⟨aN,M,bp,bq,N,bs,bt,P,R,S⟩
   refine⟨⟨j+1,aN,M,bp,bq,N,bs,bt,I,I,P,R,S⟩,?_⟩;show(((rdNum (l,true) 1).1:Int)-((j:Int)+1)).toNat<(((rdNum (l,true) 1).1:Int)-(j:Int)).toNat;omega
 .have Z:j=(rdNum (l,true) 1).1:=by have:=cG Z;omega
  have bx:g3 f j=hE leaf l:=by rw[Z,H];rfl
  rw[bx]at g bd be bg x;obtain⟨bI,aB,aT,aH⟩:=bw g.v;have cT:br (λq=>lo<=q) aM (hE leaf l).1 K V D:=⟨bf.aV (bh.hJ g.keys) λq _ a=>(g.ba q a).1,bf.aV (bh.hJ g.vals) λq _ a=>(g.bv q a).1,cx.aV (cB.oO g.kids) λq _ a=>(g.aI q a).1⟩;have bB:Ext w aM:=Ext.dc aZ L λk c=>by
   rcases c with c|c|c<;>omega
  refine⟨_,bI,K,aB,V,aT,D,aH,(mU cT I I I).use ?_⟩;rintro bC y ⟨bE,C⟩;have aj:=bB.trans C;have bF:=g.v.ext C;have bG:=g.rd.ext C;have aO:Var y w.heap.size [false,(),(),()] 202:=by
   refine(Var.ab (w:=m) ?_ L ?_).ext C
   .exact(((aU.ext W).ext F).ab G I)
   .rintro(c|c|c)<;>omega
  have bH:=cT.ext C;obtain⟨d0,d1,d2,d3⟩:=bw bF;have bJ:∃ (z:Y) (e:Int),bC=Value.tuple #[z,e]/\(e=0->a7 1 5 y z (aF (im (hE leaf l).1))/\cv (hE leaf l).1/\bz (hE leaf l).1<=232)/\(e≠0->cv (hE leaf l).1->232<bz (hE leaf l).1):=by
   rcases bE with ⟨z,rfl,h1,h2,o,A⟩|⟨e,rfl,h1,h2⟩
   .exact⟨z,0,rfl,λ_=>⟨h1,o,A⟩,λh=>absurd rfl h⟩
   .exact⟨bn,e,rfl,λh=>absurd h h1,λ_=>h2⟩
  obtain⟨z,e,rfl,bK,aQ⟩:=bJ;have bL:Src 1 y s (aF l):=hs.ext aj
  have aR:∀n,kA leaf l n->hE leaf l=(n,([],true)):=by
   rintro n ⟨h1,h2,o,A⟩;have:=vR h1 o;rw[h2,A]at this;exact this
  refine⟨z,e,rfl,_,rfl,(hE leaf l).2.2,by rw[ay];exact bG.v.cell,ct (λb w'=>y=w'/\(b=true->∀n,¬kA leaf l n)/\(b=false->kA leaf l (hE leaf l).1)) (λq a=>⟨λh1=>a _ _ ⟨rfl,λ_ n E=>?_,λh=>(by cases h)⟩,λh1=>?_⟩) ?_⟩
  .have hu:=aR n E
   obtain⟨h2,o,A,aS⟩:=E;rw[hu]at h1 aQ;have h1:(e !=0)=true:=by simpa using h1
   have b0:232<bz n:=aQ (by simpa using h1) h2;omega
  .have bM:(hE leaf l).2.2=true/\e=0:=by
    simp only[nB,q1,bne_eq_false_iff_eq]at h1;exact h1
   obtain⟨h2,rfl⟩:=bM;obtain⟨o,A,aS⟩:=bK rfl;refine(ob o.src bL).use ?_;rintro _ _ ⟨rfl,rfl⟩;refine⟨_,rfl,a _ _ ⟨rfl,λt n E=>?_,λt=>?_⟩⟩
   .have hu:=aR n E
    have t:¬im (hE leaf l).1=l:=by simpa using t
    rw[hu]at t;exact t E.2.2.2
   .have t:im (hE leaf l).1=l:=by simpa using t
    exact⟨A,x,aS,t⟩
  rintro b w' ⟨rfl,av,ax⟩;refine⟨λam=>?_,λam=>⟨_,d0,K,d1,V,d2,D,d3,?_⟩⟩
  .refine h7 false bn bn bn aO rfl (Q:=λb K V D ah=>(λv w'=>v7 leaf l w w' v/\Ext w w') (.tuple #[.agg #[b,K,V,D],(4:Int)]) ah) λaa p=>⟨.inr ⟨rfl,av am⟩,Ext.ck aj p (bo _)⟩
  .refine h7 (hE leaf l).1.leaf K V D aO rfl (Q:=λb K V D ah=>(λv w'=>v7 leaf l w w' v/\Ext w w') (.tuple #[.agg #[b,K,V,D],(0:Int)]) ah) λaa p=>⟨.inl ⟨(hE leaf l).1,K,V,D,rfl,ax am,?_⟩,Ext.ck aj p (bo _)⟩
   exact(bH.ab p λk c e=>I).aV λk _ c=>by omega
theorem Dz{s v:Y}{vs xs:O aa}{i kW:Nat}{lK:Array aa}{aj:TypeId}{w:J}(H:a7 1 48 w s vs)(N:Src 1 w v xs)(g:v.len=1)(am:v.a=some ⟨kW,0,none⟩)(T:bm w kW lK aj)(an:¬aC s kW)
 (U:∀u∈xs,Plain u) (aM:∀u∈vs,Plain u) (hi:i<=s.len) (a_:s.len<=1000000):
 aP ak 210 #[s,.int .i64 (i:Int),v] w (λu w'=>∃z:Y,u=z/\a7 1 48 w' z (vs.take (i*1)++xs++vs.drop (i*1))/\z.len=s.len+1/\ad (aC s) w w'/\(∀k,aC z k->aC s k\/w.heap.size<=k)):=by
 obtain⟨h1,ba,bb,h2,ao,aN,aQ,E,ap,aR⟩:=(oP).out;obtain⟨d0,K⟩:=ja _ ao;refine okF (af.sd s i v) az.sd func210 ?_;(delta af.sd al au aT;dsimp only);have bc:=H.2.1;have bd:=H.2.2.1;have be:maxLen=9223372036854775807:=rfl;have p:xs.length=1:=by have:=N.len;rw[g]at this;omega
 have V:=H.1;refine⟨⟨I,I⟩,λh=>by rw[g]at h;simp at h,λ_=>⟨λh=>?_,λh=>?_⟩⟩
 .have aS:i=s.len:=by have:=eq_of_beq h;omega
  subst aS;obtain⟨z,w',av,ax,X,Q,F⟩:=(oP).append (dG:=127) N H U (by rw[g];omega);refine⟨z,w',av,z,rfl,?_,by rw[X,g],Q,F⟩;rwa[dP I,List.drop_of_length_le I,gi]
 have aK:i<s.len:=by
  have h:¬((i:Int)=(s.len:Int)):=λe=>by rw[e]at h;simp at h
  omega
 rcases H.2.2.2 with ⟨_,hc⟩|⟨b,c,r,G,aq,aw⟩
 .omega
 have aU:b≠kW:=λe=>an ⟨_,r,e⟩;have aV:IntKind.wrap .i64 ((s.len:Int)+(v.len:Int))=((s.len+1:Nat):Int):=by rw[g,bu I I];rfl
 have aW:IntKind.wrap .i64 ((i:Int)+(v.len:Int))=((i+1:Nat):Int):=by rw[g,bu I I];rfl
 have aX:IntKind.wrap .i64 (((s.len+1:Nat):Int)-(i:Int))=((s.len+1-i:Nat):Int):=by rw[bu I I];omega
 have bf:c.toList.length=s.cap*1:=by simpa using aq
 have ay:∀k,k<=s.len->vs.take (k*1)=c.toList.take (k*1):=λk d=>by rw[←aw,pv,iX I]
 have aA:vs.drop (i*1)=(c.toList.drop (i*1)).take ((s.len-i)*1):=by rw[←aw,List.drop_take,show s.len*1-i*1=(s.len-i)*1 from I]
 have aB:∀u∈vs.drop (i*1),Plain u:=λu hu=>aM u (eJ hu);have B:(vs.drop (i*1)).length=(s.len-i)*1:=by rw[cX,V];omega
 have L:∀ (Z o l m:Nat),l<m->aO (some (Addr.mk Z o none)) 1 l m=some ⟨Z,o+l*1,none⟩:=λZ o l m bg=>rG I;simp only[aV,aW,aX,di,nC,yw];refine⟨λhg=>?_,λhg=>?_⟩
 .have bh:s.cap<s.len+1:=by have:=b_ hg;omega
  have aZ:Src 1 w ⟨some b,i,s.cap⟩ (vs.take (i*1)):=by
   have:=G.pY (sz:=1) (o:=0) (n:=i) (cap:=s.cap) I;rw[lG]at this;rwa[ay i I]
  obtain⟨j,zs,rest,av,ax,X,Q,F⟩:=B6 (P:=ak) (fM:= #[127,3]) (dG:=127) (jx:=3) (k:=.i64) (s:=⟨some b,i,s.cap⟩) (n:=s.len+1-i) rfl rfl h1 (by kernel_rfl) h2 ao aN aQ E (by rw[ap];exact aR) aZ (by show s.cap<i+_;omega) (by rw[ap];show(2*(i+_)+1000)*_<=_;omega);have a0:i+(s.len+1-i)=s.len+1:=by omega
  simp only[a0]at av Q F;obtain⟨C,ac⟩:∃C,C=(vs.take (i*1)++zs++rest).toArray:=⟨_,rfl⟩;rw[←ac]at F;obtain⟨D,ae⟩:∃D,D=w.drew.alloc (.cells C 48):=⟨_,rfl⟩;rw[←ae]at F;have aD:bm D w.heap.size C 48:=by rw[ae];exact bm.new w.drew _ _
  have aE:Ext w D:=by rw[ae];exact ad.alloc (ad.drew (.refl _ _)) _
  have f:(vs.take (i*1)).length=i*1:=by rw[cC,V];omega
  have aF:C.size=j*1:=by rw[ac];simp[f,X,Q];omega
  have bi:C.toList.length=j*1:=by simpa using aF
  have M:=rK (P:=ak) (k2:=127) (dX:=127) (ty:=3) (A:=⟨w.heap.size,0+i*1,none⟩) (dl:=s.len+1-i) (mH:=j-i) (n:=1) h1 K E (x:=v) (by rw[g];exact iX I) (xs:=xs) (by have:=N.ext aE;have e:(⟨v.a,1,v.cap⟩:Y)=v:=(by rw[←g]);rw[e];exact this) (by rw[cE];exact aD.b2 _ _ I U);obtain⟨t,ag⟩:∃t,t=setCells D ⟨w.heap.size,0+i*1,none⟩ 0 xs:=⟨_,rfl⟩;rw[←ag]at M;have aG:bm t w.heap.size (fZ C (i*1) xs) 48:=by rw[ag,cE];exact aD.je xs
  have a1:Ext w t:=by rw[ag];exact Ext.dc aE (ad.jW (.refl _ _) xs 0) (λk d=>by subst d;exact bo _)
  have a2:Ext t t.drew:=ad.drew (.refl _ _);have aH:=Ext.trans a1 a2;have ah:=rK (P:=ak) (w:=t.drew) (k2:=127) (dX:=127) (ty:=3) (A:=⟨w.heap.size,0+(i+1)*1,none⟩) (dl:=s.len+1-(i+1)) (mH:=j-(i+1)) (n:=s.len-i) h1 K E (x:=⟨some ⟨b,0+i*1,none⟩,s.len-i,s.cap-i⟩) (iX (by show s.len-i<=_;omega)) (xs:=vs.drop (i*1))
   (by have:=(G.ext aH).pY (sz:=1) (o:=i*1) (n:=s.len-i) (cap:=s.cap-i) I;rw[aA,cE];exact this) (by rw[cE];exact bm.b2 (bm.drew aG) _ _ (by rw[hV];omega) aB)
  have R:aO (some (Addr.mk w.heap.size 0 none)) 1 i j=some ⟨w.heap.size,0+i*1,none⟩:=L _ _ _ _ I;have S:aO (some (Addr.mk w.heap.size 0 none)) 1 (i+1) j=some ⟨w.heap.size,0+(i+1)*1,none⟩:=L _ _ _ _ I;have a3:aO s.a 1 i s.cap=some ⟨b,0+i*1,none⟩:=by rw[r];exact L _ _ _ _ I
  have a4:Sem.run ak (Builtin.append_ #[127,3] 127 #[.slice s.a i s.cap,.int .i64 ((s.len+1-i:Nat):Int)]) w=.ok (.slice (some w.heap.size) (s.len+1) j) D:=by rw[r];exact F
  refine⟨⟨I,I⟩,⟨some w.heap.size,s.len+1,j⟩,D,a4,⟨I,by show(i:Int)<=((s.len+1:Nat):Int);omega⟩,_,t,by rw[R];exact M,aY ⟨⟨I,by show((i+1:Nat):Int)<=((s.len+1:Nat):Int);omega⟩,⟨I,I⟩,_,_,by rw[S,a3];exact ah,⟨some w.heap.size,s.len+1,j⟩,rfl,?_,rfl,?_,?_⟩⟩
  .refine a7.mk' ((bm.drew aG).je (o:=0+(i+1)*1) _) (by simp[f,p,B];omega) I I (by rw[hV,hV,aF]) ?_
   rw[ku _ _ _ (by rw[hV];omega),ku _ _ _ I];have t1:C.toList.take (i*1)=vs.take (i*1):=by rw[ac,py,cV];exact List.take_left' f
   have t2:(C.toList.take (i*1)++xs++C.toList.drop (i*1+xs.length)).take (0+(i+1)*1)=vs.take (i*1)++xs:=by
    rw[t1,nI (by simp[f,p];omega),dP (by simp[f,p];omega)]
   rw[t2,nI (by simp[f,p,B];omega),dP (by simp[f,p,B];omega)]
  .exact ad.cK (Ext.dc aH (ad.jW (.refl _ _) _ 0) (λk d=>by subst d;exact bo _))
  .rintro k ⟨A,ar,d⟩
   cases ar;exact .inr (Nat.le_of_eq d)
 .have bj:s.len+1<=s.cap:=by have:=cG hg;omega
  have R:aO s.a 1 (i+1) s.cap=some ⟨b,0+(i+1)*1,none⟩:=by rw[r];exact L _ _ _ _ I
  have S:aO s.a 1 i s.cap=some ⟨b,0+i*1,none⟩:=by rw[r];exact L _ _ _ _ I
  have a5:Sem.run ak (callFunc 252 #[v,.slice (some ⟨b,0+(i+1)*1,none⟩) (s.len+1-(i+1)) (s.cap-(i+1))]) w=.ok (.value false) w:=by
   rw[am,run_callFunc_extern (e:=Extern.SlicesOverlaps.overlaps #[127,127] #[4]) func252 (by kernel_rfl) (by kernel_rfl) (by kernel_rfl) (by kernel_rfl)];have:=Lib.run_overlaps_apart (P:=ak) w 127 4 48 h1 1 (λw=>by have:=g_ (w:=w) K;rwa[E]at this) kW ⟨b,0+(i+1)*1,none⟩ v.len v.cap (s.len+1-(i+1)) (s.cap-(i+1)) (λe=>aU e.symm) aj 48 lK.size c.size
    (by have:=T;unfold bm at this;simp[World.shape?,this]) (by have:=G;unfold bm at this;simp[World.shape?,this]) I (T.frozen _ rfl) (T.frozen _ rfl)
   rw[this];rfl
  have M:=rK (P:=ak) (w:=w.drew) (k2:=127) (dX:=127) (ty:=3) (A:=⟨b,0+(i+1)*1,none⟩) (dl:=s.len+1-(i+1)) (mH:=s.cap-(i+1)) (n:=s.len-i) h1 K E (x:=⟨some ⟨b,0+i*1,none⟩,s.len+1-i,s.cap-i⟩) ((Nat.min_eq_right (by show _<=s.len+1-i;omega)).trans I) (xs:=vs.drop (i*1))
   (by have:=(bm.drew G).pY (sz:=1) (o:=i*1) (n:=s.len-i) (cap:=s.cap-i) I;rw[aA,cE];exact this) (by rw[cE];exact bm.b2 (bm.drew G) _ _ I aB)
  obtain⟨y,ai⟩:∃y,y=setCells w.drew ⟨b,0+(i+1)*1,none⟩ 0 (vs.drop (i*1)):=⟨_,rfl⟩;rw[←ai]at M;have aI:bm y b (fZ c ((i+1)*1) (vs.drop (i*1))) 48:=by rw[ai,cE];exact(bm.drew G).je _
  have aJ:ad (aC s) w y:=by
   rw[ai];exact ad.mono (W:=λq=>q=b) (ad.jW (ad.drew (.refl _ _)) _ 0) (λk _ d=>⟨_,r,d.symm⟩)
  have a6:Src 1 y v xs:=N.ab aJ (λk d a8=>by obtain⟨A,ar,rfl⟩:=d;rw[am]at ar;cases ar;exact an a8);have ah:=rK (P:=ak) (w:=y) (k2:=127) (dX:=127) (ty:=3) (A:=⟨b,0+i*1,none⟩) (dl:=s.len+1-i) (mH:=s.cap-i) (n:=1) h1 K E (x:=v) (by rw[g];exact iX I) (xs:=xs) (by have e:(⟨v.a,1,v.cap⟩:Y)=v:=(by rw[←g]);rw[e];exact a6) (by rw[cE];exact aI.b2 _ _ (by rw[hV];omega) U);refine⟨⟨I,I⟩,⟨I,I⟩,false,w,by rw[R];exact a5,λ_=>aY ⟨⟨I,I⟩,⟨I,I⟩,_,y,by rw[R,S];exact M,⟨I,I⟩,_,_,by rw[S];exact ah,⟨s.a,s.len+1,s.cap⟩,rfl,?_,rfl,?_,λk d=>.inl d⟩,λh=>by simp at h⟩
  .have aL:a7 1 48 (setCells y ⟨b,0+i*1,none⟩ 0 xs) ⟨some b,s.len+1,s.cap⟩ (vs.take (i*1)++xs++vs.drop (i*1)):=by
    have f:(vs.take (i*1)).length=i*1:=by rw[cC,V];omega
    refine a7.mk' (aI.je (o:=0+i*1) _) (by simp[f,p,B];omega) I I (by rw[hV,hV,aq]) ?_;rw[ku _ _ _ (by rw[hV];omega),ku _ _ _ I];have t1:(c.toList.take ((i+1)*1)++vs.drop (i*1)++c.toList.drop ((i+1)*1+(vs.drop (i*1)).length)).take (0+i*1)=vs.take (i*1):=by
     rw[cE,nI (by simp[B];omega),nI (by simp;omega),pv,ay i I,iX I]
    have t2:(c.toList.take ((i+1)*1)++vs.drop (i*1)++c.toList.drop ((i+1)*1+(vs.drop (i*1)).length)).drop (0+i*1+xs.length)=vs.drop (i*1)++c.toList.drop ((i+1)*1+(vs.drop (i*1)).length):=by
     have a9:(c.toList.take ((i+1)*1)).length=0+i*1+xs.length:=by simp;omega
     rw[cV,←a9,List.drop_left]
    rw[t1,t2,←cV,nI (by simp[f,p,B];omega),dP (by simp[f,p,B];omega)]
   rw[←r]at aL;exact aL
  .exact aJ.trans (ad.mono (W:=λq=>q=b) (ad.jW (.refl _ _) _ 0) (λk _ d=>⟨_,r,d.symm⟩))
theorem DA{s:Y}{vs:O aa}{i:Nat}{w:J}(m:a7 1 48 w s vs)(M:∀u∈vs,Plain u)(N:∀z,(Tryz.prog.info? 48).bind (·.zero)=some z->∀u∈z.cells.toList,Plain u)(hi:i<s.len)(an:s.len<=1000000):
 aP ak 205 #[s,.int .i64 (i:Int),.int .i64 ((i+1:Nat):Int)] w (λu w'=>∃p:Y,u=p/\a7 1 48 w' p (vs.take (i*1)++vs.drop ((i+1)*1))/\p.len=s.len-1/\p.a=s.a/\ad (aC s) w w'):=by
 obtain⟨h1,ao,d,h2,Q,C,D,R,ap,aq⟩:=(oP).out;obtain⟨d0,S⟩:=ja _ Q;refine okF (af.r_ s i ((i+1:Nat):Int)) az.r_ func205 ?_;(delta af.r_ al bF;dsimp only);have ar:=m.2.1;have U:=m.2.2.1;have E:=m.1;rcases m.2.2.2 with ⟨_,hc⟩|⟨b,c,f,V,F,G⟩
 .omega
 have au:c.toList.length=s.cap*1:=by simpa using F
 simp only[di,nC,yw];have X:vs.drop ((i+1)*1)=(c.toList.drop ((i+1)*1)).take ((s.len-(i+1))*1):=by rw[←G,List.drop_take,show s.len*1-(i+1)*1=(s.len-(i+1))*1 from I]
 have e:(vs.drop ((i+1)*1)).length=(s.len-(i+1))*1:=by rw[cX,E];omega
 have Z:vs.take (i*1)=c.toList.take (i*1):=by rw[←G,pv,iX I]
 have l:(vs.take (i*1)).length=i*1:=by rw[cC,E];omega
 have ab:∀u∈vs.drop ((i+1)*1),Plain u:=λu hu=>M u (eJ hu);have t:bm w.drew b c 48:=bm.drew V;have ac:Src 1 w.drew ⟨aO s.a 1 (i+1) s.cap,s.len-(i+1),s.cap-(i+1)⟩ (vs.drop ((i+1)*1)):=by
  by_cases he:i+1=s.cap
  .have v:s.len-(i+1)=0:=by omega
   refine⟨by rw[e],λ_=>kM.1 (by rw[e,v,Nat.zero_mul]),λa _=>?_⟩;have:vs.drop ((i+1)*1)=[]:=kM.1 (by rw[e,v,Nat.zero_mul]);rw[this];show cz _ _ 0 ((s.len-(i+1))*1)=_;rw[v,Nat.zero_mul];rfl
  .rw[f,rG I,X,cE]
   exact t.pY I
 have x:=u4 (P:=ak) (fM:= #[127,127]) (dG:=127) (s:=⟨s.a,i,s.cap⟩) rfl rfl h1 h1 S R ac (by show i+(s.len-(i+1))<=s.cap;omega) (λa r=>by
  have r:s.a=some a:=r;rw[f]at r;cases r;rw[ay,cE];exact t.b2 _ _ (by show i*1+_<=_;omega) ab)
 have ae:i+(s.len-(i+1))=s.len-1:=by omega
 simp only[f,ay,cE,ae]at x;obtain⟨g,y⟩:∃g,g=setCells w.drew ⟨b,i*1,none⟩ 0 (vs.drop ((i+1)*1)):=⟨_,rfl⟩;rw[←y]at x;have H:bm g b (fZ c (i*1) (vs.drop ((i+1)*1))) 48:=by rw[y];exact t.je _
 have ag:ad (aC s) w g:=by
  rw[y];exact ad.mono (W:=λq=>q=b) (ad.jW (ad.drew (.refl _ _)) _ 0) (λk _ B=>⟨_,f,B.symm⟩)
 obtain⟨zs,av,ah⟩:=B7 (P:=ak) (w:=g) (T:=127) (o:=0) (n:=1) (c:=s.cap-(s.len-1)) (A:=⟨b,(s.len-1)*1,none⟩) h1 h2 C D (by decide) (λzs K=>by
  refine H.b2 _ _ (by rw[K,hV];simp[Builtin.zeroCells,D];omega) λu hu=>?_;rw[K]at hu;simp only[Builtin.zeroCells,Array.toList_map,dU]at hu;obtain⟨j,L,rfl⟩:=hu;have L:j<1*d.cells.size:=by simpa using L
  have ai:j%d.cells.size<d.cells.size:=gB _ I;have hg:d.cells[j%d.cells.size]! =d.cells[j%d.cells.size]:=getElem!_pos d.cells (j%d.cells.size) ai;rw[hg];exact N d (by rw[h2];exact C) _ (by simp))
 have aj:aO (some (Addr.mk b 0 none)) 1 (s.len-1) s.cap=some ⟨b,(s.len-1)*1,none⟩:=by rw[rG I,cE]
 have am:s.len-(s.len-1)=1:=by omega
 refine⟨⟨I,I⟩,⟨I,I⟩,⟨I,I⟩,λh=>?_,λ_=>aY ⟨⟨I,I⟩,⟨I,I⟩,⟨some b,s.len-1,s.cap⟩,g,by rw[f];exact x,⟨I,by show(s.len:Int)<=(s.cap:Int);omega⟩,⟨I,by show((s.len-1:Nat):Int)<=(s.len:Int);omega⟩,_,_,by rw[am,aj];exact ah,⟨some b,s.len-1,s.cap⟩,rfl,?_,rfl,f.symm,?_⟩⟩
 .have:=eq_of_beq h;omega
 .refine a7.mk' (H.je _) (by simp[l,e];omega) I U (by rw[hV,hV,F]) ?_
  rw[ku _ _ _ (by rw[hV];omega),ku _ _ _ I];have t1:(c.toList.take (i*1)++vs.drop ((i+1)*1)++c.toList.drop (i*1+(vs.drop ((i+1)*1)).length)).take ((s.len-1)*1)=vs.take (i*1)++vs.drop ((i+1)*1):=by
   rw[←Z,nI (by simp[l,e];omega),dP (by simp[l,e];omega)]
  rw[t1,cV,nI (by simp[l,e];omega),dP (by simp[l,e];omega)]
 .exact ag.trans (ad.mono (W:=λq=>q=b) (ad.jW (.refl _ _) _ 0) (λk _ B=>⟨_,f,B.symm⟩))
theorem qu{w:J}{s:Y}{ds:O Nat}(h:Src 1 w s (dv ds))(g:ds.length<=1000000):
 aP ak 245 #[s] w (λv w'=>∃b:Y,v=b/\a7 1 3 w' b (dv ds)/\Ext w w'/\gl w b):=by
 have i:s.len=ds.length:=by have:=h.len;rw[l6]at this;omega
 refine okF (af.sh s) az.sh func245 ?_;delta af.sh al U;refine⟨λc=>?_,λ_=>?_⟩
 .have c:s.a=none:=by simpa using c
  rw[h.nil c];exact⟨⟨none,0,0⟩,rfl,a7.none _ _ _,.refl _ _,λk d=>(gu k d).elim⟩
 .obtain⟨b,w',h1,h2,j,e,f,_⟩:=oQ.clone (dG:=58) h (vW ds) I
  exact aY ⟨b,w',h1,b,rfl,h2,e,f⟩
theorem DB{ks:O Key}{k:Key}{a:Nat}(d:a<=ks.length)(h1:∀ (j:Nat) (h:j<ks.length),j<a->bX ks[j] k)(h2:∀ (j:Nat) (h:j<ks.length),a<=j->¬bX ks[j] k):cu ks k=a:=by
 unfold cu;rcases dR a ks.length with h|h
 .exact(List.findIdx_eq h).2 ⟨dL (h2 a h (bo _)),λj b=>ig λc=>c (h1 j I b)⟩
 .have:a=ks.length:=by omega
  subst this;refine List.findIdx_eq_length_of_false λx hx=>?_;obtain⟨j,b,rfl⟩:=eK hx;exact ig λc=>c (h1 j b b)
def gE(ks:O Key)(k:Key):ai:=decide (ks[cu ks k]? =some k)
theorem DC{B C:Nat->Prop}{s t:Y}{ks:O Key}{key:Key}{w:J}(hs:bf B w s ks)(ht:Src 1 w t (aF key))(x:ks.Pairwise bX)(N:ks.length<=100000):
 aP ak 240 #[s,t,.func (.func 176) #[] #[]] w (λv w'=>v=.tuple #[.int .i64 ((cu ks key:Nat):Int),.bool (gE ks key)]/\w=w'):=by
 refine okF (af.se s t ⟨176,#[],#[]⟩) az.se func240 ?_;(delta af.se al au ag aI;dsimp only);have y:=bf.len hs;have o:ih ak 176:=⟨_,(Option.some_get (show(Tryz.prog.funcs[176]?).isSome=true by kernel_rfl)).symm,by kernel_rfl,by kernel_rfl⟩;have aK:=λ{i j:Nat} (hi:i<j) (e:j<ks.length)=>lF.1 x i j I e hi;refine⟨λlo hi w'=>∃a b:Nat,lo=a/\hi=b/\a<=b/\b<=ks.length/\w=w'/\(∀ (j:Nat) (h:j<ks.length),j<a->bX ks[j] key)/\(∀ (j:Nat) (h:j<ks.length),b<=j->¬bX ks[j] key),λlo hi _=>(hi-lo).toNat,
  ⟨0,ks.length,rfl,by rw[y],cN _,bo _,rfl,λj _ h=>I,λj h h2=>I⟩,?_⟩
 rintro _ _ _ ⟨a,b,rfl,rfl,P,p,rfl,h1,h2⟩;have z:=B9 (a:=a) (b:=b) I;refine⟨λh=>?_,λh=>?_⟩
 .have D:(a:Int)<(b:Int):=b_ h
  rw[z];obtain⟨m,E⟩:∃m,m=(a+b)/2:=⟨_,rfl⟩;rw[←E];have F:a<=m:=by omega
  have Q:m<b:=by omega
  obtain⟨A,t2,ar,f,g,k,_⟩:=bf.at hs (i:=m) I;refine⟨by decide,A,ar,f,t2,g,o,(kx k.1 ht).use ?_⟩;rintro _ _ ⟨rfl,rfl⟩;have G:IntKind.wrap .i64 ((m:Int)+1)=((m+1:Nat):Int):=by rw[bu I I];rfl
  refine⟨_,rfl,λhc=>?_,λhc=>?_⟩
  .have hc:bX ks[m] key:=b_ hc
   rw[G];have l:((b:Int)-((m+1:Nat):Int)).toNat<((b:Int)-(a:Int)).toNat:=by omega
   refine⟨⟨m+1,b,rfl,rfl,I,p,rfl,λj e H=>?_,h2⟩,l⟩;rcases dR j m with d|d
   .exact k6 (aK d I) hc
   .have:j=m:=by omega
    subst this;exact hc
  .have hc:¬bX ks[m] key:=cG hc
   have l:((m:Int)-(a:Int)).toNat<((b:Int)-(a:Int)).toNat:=by omega
   refine⟨⟨a,m,rfl,rfl,F,I,rfl,h1,λj e H=>?_⟩,l⟩;rcases dR m j with d|d
   .exact λK=>hc (k6 (aK d e) K)
   .have:j=m:=by omega
    subst this;exact hc
 .have L:¬(a:Int)<(b:Int):=cG h
  have M:b=a:=by omega
  subst M;have n:cu ks key=b:=DB p h1 h2;refine ct (λc w'=>w=w'/\c=gE ks key) (λq r=>⟨λh=>?_,λh=>?_⟩) ?_
  .have D:(b:Int)<(s.len:Int):=b_ h
   have u:b<ks.length:=by omega
   obtain⟨A,t2,ar,f,g,k,_⟩:=bf.at hs u;refine⟨A,ar,f,t2,g,o,(kx k.1 ht).use ?_⟩;rintro _ _ ⟨rfl,rfl⟩;refine⟨_,rfl,r _ _ ⟨rfl,?_⟩⟩;unfold gE;rw[n,fD,cR,jO,dE u,CH];exact⟨λh=>by rw[h],λh=>Option.some.inj h⟩
  .have L:¬(b:Int)<(s.len:Int):=cG h
   refine r _ _ ⟨rfl,?_⟩;unfold gE;rw[n,kQ I];simp
  .rintro _ _ ⟨rfl,rfl⟩
   exact⟨by rw[n],rfl⟩
theorem k3{B:Nat->Prop}{w:J}{n:aA}{K V D t:Y}{key:Key}(h:br B w n K V D)(ht:Src 1 w t (aF key))(b:n.keys.Pairwise bX)(c:n.keys.length<=100000):
 aP ak 198 #[cQ n K V D,t] w (λv w'=>v=.tuple #[.int .i64 ((cu n.keys key:Nat):Int),.bool (gE n.keys key)]/\Ext w w'):=by
 refine okF (af.k3 n.leaf K V D t) az.k3 func198 ?_;(delta af.k3 ag U jz;dsimp only);refine bl (vs:=[n.leaf,K,V,D]) rfl λw1 d a _=>?_;obtain⟨bI,aB,aT,aH⟩:=bw d;refine⟨K,aB,(DC (B:=B) (C:=B) (h.keys.ext a) (ht.ext a) b c).use ?_⟩;rintro _ _ ⟨rfl,rfl⟩;exact⟨_,_,rfl,rfl,a⟩
theorem oq{B:Nat->Prop}{w:J}{n:aA}{K V D t:Y}{key:Key}(h:br B w n K V D)(ht:Src 1 w t (aF key))(b:n.keys.Pairwise bX)(c:n.keys.length<=100000):
 aP ak 143 #[cQ n K V D,t] w (λv w'=>v=.tuple #[.int .i64 ((cu n.keys key:Nat):Int),.bool (gE n.keys key)]/\Ext w w'):=by
 refine okF (af.oq n.leaf K V D t) az.oq func143 ?_;(delta af.oq a8 U ag jz;dsimp only);refine bl (vs:=[n.leaf,K,V,D]) rfl λw1 d a _=>?_;obtain⟨bI,aB,aT,aH⟩:=bw d;refine⟨_,bI,K,aB,V,aT,D,aH,(k3 (h.ext a) (ht.ext a) b c).use ?_⟩;rintro _ _ ⟨rfl,e⟩;exact⟨_,_,rfl,rfl,a.trans e⟩
theorem DD{ks:O Key}(e:ks.Pairwise bX)(k:Key):eB ks k=if gE ks k then cu ks k+1 else cu ks k:=by
 have f:=oK ks k;have key:∀a,a<=ks.length->(∀ (j:Nat) (h:j<ks.length),j<a->¬bX k ks[j])->(∀h:a<ks.length,bX k ks[a])->eB ks k=a:=by
  intro a g h1 h2;unfold eB;rcases dR a ks.length with h|h
  .exact(List.findIdx_eq h).2 ⟨dL (h2 h),λj b=>ig (h1 j I b)⟩
  .have:a=ks.length:=by omega
   subst this;refine List.findIdx_eq_length_of_false λx hx=>?_;obtain⟨j,b,rfl⟩:=eK hx;exact ig (h1 j b b)
 split
 .rename_i c
  have c:ks[cu ks k]? =some k:=b_ c;obtain⟨aK,he⟩:=iy.1 c;refine key _ aK (λj b h=>?_) λh=>?_
  .rcases dR j (cu ks k) with d|d
   .exact j1 (m4 d b)
   .have:j=cu ks k:=by omega
    subst this;rw[he];exact mY _
  .have:=lF.1 e _ _ aK h (Nat.lt_succ_self _)
   rwa[he]at this
 .rename_i c
  have c:¬ks[cu ks k]? =some k:=λh=>c (dL h);refine key _ f (λj b h=>j1 (m4 h b)) λh=>?_;rcases mZ.1 (oL e (bo _) h) with d|d
  .exact d
  .exact absurd ((dE h).trans (congrArg some d.symm)) c
theorem ox{B:Nat->Prop}{w:J}{n:aA}{K V D t:Y}{key:Key}(h:br B w n K V D)(ht:Src 1 w t (aF key))(b:n.keys.Pairwise bX)(e:n.keys.length<=100000):
 aP ak 197 #[cQ n K V D,t] w (λv w'=>v=.int .i64 ((eB n.keys key:Nat):Int)/\Ext w w'):=by
 refine okF (af.ox n.leaf K V D t) az.ox func197 ?_;(delta af.ox a8 U ag jz al au;dsimp only);refine bl (vs:=[n.leaf,K,V,D]) rfl λw1 f a _=>?_;obtain⟨bI,aB,aT,aH⟩:=bw f;have i:=oK n.keys key;refine⟨_,bI,K,aB,V,aT,D,aH,(k3 (h.ext a) (ht.ext a) b e).use ?_⟩;rintro _ ah ⟨rfl,g⟩;rw[DD b];refine⟨_,_,rfl,ct (λc w'=>ah=w'/\c=((if gE n.keys key then cu n.keys key+1 else cu n.keys key:Nat):Int)) (λq d=>⟨λh=>d _ _ ⟨rfl,?_⟩,λh=>d _ _ ⟨rfl,?_⟩⟩) ?_⟩
 .rw[if_pos h,bu I I];rfl
 .rw[if_neg (by simp[h])]
 .rintro _ _ ⟨rfl,rfl⟩
  exact⟨rfl,a.trans g⟩
structure gP(lo:Nat)(w:J)(aG:Nat)(n:aA)(K V D:Y)(bD bS bA:Nat->Prop):Prop where
 v:Var w aG [n.leaf,K,V,D] 202
 keys:bh bD w K n.keys
 vals:bh bS w V n.vals
 kids:cB bA w D n.kids
 ba:∀q,bD q->lo<=q/\q<w.heap.size/\q≠aG/\¬bS q/\¬bA q
 bv:∀q,bS q->lo<=q/\q<w.heap.size/\q≠aG/\¬bA q
 aI:∀q,bA q->lo<=q/\q<w.heap.size/\q≠aG
 lf:lo<=aG
structure eD(lo:Nat)(w:J)(n:aA)(K V D:Y)(bD bS bA:Nat->Prop):Prop where
 keys:bh bD w K n.keys
 vals:bh bS w V n.vals
 kids:cB bA w D n.kids
 ba:∀q,bD q->lo<=q/\q<w.heap.size/\¬bS q/\¬bA q
 bv:∀q,bS q->lo<=q/\q<w.heap.size/\¬bA q
 aI:∀q,bA q->lo<=q/\q<w.heap.size
section
variable {lo:Nat}{w w':J}{aG:Nat}{n:aA}{K V D:Y}{bD bS bA:Nat->Prop}
theorem gP.mem(h:gP lo w aG n K V D bD bS bA):eD lo w n K V D bD bS bA:=⟨h.keys,h.vals,h.kids,λq a=>⟨(h.ba q a).1,(h.ba q a).2.1,(h.ba q a).2.2.2⟩,λq a=>⟨(h.bv q a).1,(h.bv q a).2.1,(h.bv q a).2.2.2⟩,λq a=>⟨(h.aI q a).1,(h.aI q a).2.1⟩⟩
theorem eD.ab{W:Nat->Prop}(h:eD lo w n K V D bD bS bA)(hc:ad W w w')(cj:∀q,lo<=q->q<w.heap.size->bD q\/bS q\/bA q->¬W q):eD lo w' n K V D bD bS bA:=by
 have hs:=hc.size;refine⟨bh.ab h.keys hc λq a=>cj q (h.ba q a).1 (h.ba q a).2.1 (.inl a),bh.ab h.vals hc λq a=>cj q (h.bv q a).1 (h.bv q a).2.1 (.inr (.inl a)),cB.ab h.kids hc λq a=>cj q (h.aI q a).1 (h.aI q a).2 (.inr (.inr a)),λq a=>?_,λq a=>?_,λq a=>?_⟩
 .have:=h.ba q a;exact⟨this.1,I,this.2.2⟩
 .have:=h.bv q a;exact⟨this.1,I,this.2.2⟩
 .have:=h.aI q a;exact⟨this.1,I⟩
theorem eD.ext(h:eD lo w n K V D bD bS bA)(hc:Ext w w'):eD lo w' n K V D bD bS bA:=h.ab hc λ_ _ _ _ h=>h
theorem gP.ext(h:gP lo w aG n K V D bD bS bA)(hx:Ext w w'):gP lo w' aG n K V D bD bS bA:=
 ⟨h.v.ext hx,bh.ext h.keys hx,bh.ext h.vals hx,cB.ext h.kids hx,λq a=>⟨(h.ba q a).1,fl (h.ba q a).2.1 hx.size,(h.ba q a).2.2⟩,λq a=>⟨(h.bv q a).1,fl (h.bv q a).2.1 hx.size,(h.bv q a).2.2⟩,λq a=>⟨(h.aI q a).1,fl (h.aI q a).2.1 hx.size,(h.aI q a).2.2⟩,h.lf⟩
theorem eD.at(h:eD lo w n K V D bD bS bA):br (λq=>lo<=q) w n K V D:=
 ⟨bf.aV (bh.hJ h.keys) λq _ a=>(h.ba q a).1,bf.aV (bh.hJ h.vals) λq _ a=>(h.bv q a).1,cx.aV (cB.oO h.kids) λq _ a=>(h.aI q a).1⟩
theorem eD.low{c:Nat}(h:eD lo w n K V D bD bS bA)(b:c<=lo):eD c w n K V D bD bS bA:=
 ⟨h.keys,h.vals,h.kids,λq a=>⟨eI b (h.ba q a).1,(h.ba q a).2⟩,λq a=>⟨eI b (h.bv q a).1,(h.bv q a).2⟩,λq a=>⟨eI b (h.aI q a).1,(h.aI q a).2⟩⟩
end
theorem v8{lo:Nat}{w:J}{aG:Nat}{n:aA}{K V D t:Y}{l:Key}{bD bS bA:Nat->Prop}(h:gP lo w aG n K V D bD bS bA)(ht:Src 1 w t (aF l))(U:l.length<=100000)(E:n.keys.length<=100000){R:J->Prop}
 (F:∀ (w':J) (G:Y) (x:Nat->Prop),gP lo w' aG {n with keys:=n.keys++ [l]} G V D x bS bA->ad (λq=>q=aG\/bD q) w w'->(∀q,x q->bD q\/w.heap.size<=q)->R w'):
 an w.drew λj=>∃m:Nat->Prop,¬m (Addr.add aG 1).block/\∃g:Y,j.cell? (Addr.add aG 1)=some (.slice g.a g.len g.cap)/\
  Calls ak 135 #[t] j λH d=>∃y:Y,H=.returned y/\ad m j d/\
  an (d.alloc (.cells #[y] 48)) λz=>ad m d z/\∃A:Y,∃i:J,Sem.run ak (Builtin.append_ #[127,127] 127 #[g,.slice (some d.heap.size) 1 1]) z=.ok A i/\
  (∃u:aa,i.cell? (Addr.add aG 1)=some u)/\i.frozen? (Addr.add aG 1)=false/\an (i.setCell (Addr.add aG 1) A) λL=>R L:=by
 have W:=h.lf;have X:=h.v.lt;have p:=cw w;obtain⟨bI,aB,aT,aH⟩:=bw (h.v.ext p);refine aY ⟨λ_=>False,id,K,aB,(jD (B:=λq=>w.heap.size<=q) (ht.ext p) I (λq b=>b)).use ?_⟩;rintro _ d ⟨M,rfl,C,hx,hf⟩;have e:=p.trans hx;have Z:w.drew.heap.size=w.heap.size:=rfl;have N:=e.size;have O:=bh.ext h.keys e;have dJ:=bh.ext h.vals e;have P:=cB.ext h.kids e;refine⟨M,rfl,hx,tS (B:=Grow bD w.drew d) (h.v.ext e) (o:=1) (by simp) (bh.aV O λk _ h=>.inl h) ?_ (bk.aV C λk c h=>.inr ⟨h,c⟩) ?_ E λw' aJ av ax f=>?_⟩
 .rintro(h1|h1)
  .exact(h.ba aG h1).2.2.1 rfl
  .omega
 .intro k Q S
  obtain⟨ts,_,_,r,_⟩:=h.keys;have:=(r k S).2;have:=(C.2.2 k Q).1;omega
 have T:∀q,Grow (Grow bD w.drew d) d w' q->bD q\/(w.heap.size<=q/\q<w'.heap.size):=by
  rintro q ((h1|h1)|h1)
  .exact .inl h1
  .exact .inr ⟨h1.1,fl h1.2 f.size⟩
  .exact .inr ⟨eI N h1.1,h1.2⟩
 have hg:=f.size;have s:∀q,aC K q->bD q:=λq b=>by
  obtain⟨ts,_,_,r,_⟩:=h.keys;exact(r q b).1
 refine F w' aJ (λq=>bD q\/(w.heap.size<=q/\q<w'.heap.size)) ⟨by simpa using av,bh.aV ax λk _ c=>T k c,bh.ab dJ f ?_,cB.ab P f ?_,?_,λq b=>?_,λq b=>?_,h.lf⟩ ?_ ?_
 .rintro q b (h1|h1)
  .exact(h.bv q b).2.2.1 h1
  .exact(h.ba q (s q h1)).2.2.2.1 b
 .rintro q b (h1|h1)
  .exact(h.aI q b).2.2 h1
  .exact(h.ba q (s q h1)).2.2.2.2 b
 .rintro q (h1|h1)
  .have:=h.ba q h1;exact⟨this.1,I,this.2.2⟩
  .exact⟨I,h1.2,I,λh2=>by have:=h.bv q h2;omega,λh2=>by have:=h.aI q h2;omega⟩
 .have:=h.bv q b;exact⟨this.1,I,this.2.2⟩
 .have:=h.aI q b;exact⟨this.1,I,this.2.2⟩
 .refine(ad.cK e).trans (f.mono λk _ c=>?_)
  rcases c with c|c
  .exact .inl c
  .exact .inr (s k c)
 .rintro q (h1|h1)
  .exact .inl h1
  .exact .inr h1.1
theorem zj{lo:Nat}{w:J}{aG:Nat}{n:aA}{K V D t:Y}{l:Key}{bD bS bA:Nat->Prop}(h:gP lo w aG n K V D bD bS bA)(ht:Src 1 w t (aF l))(U:l.length<=100000)(E:n.vals.length<=100000){R:J->Prop}
 (F:∀ (w':J) (G:Y) (x:Nat->Prop),gP lo w' aG {n with vals:=n.vals++ [l]} K G D bD x bA->ad (λq=>q=aG\/bS q) w w'->(∀q,x q->bS q\/w.heap.size<=q)->R w'):
 an w.drew λj=>∃m:Nat->Prop,¬m (Addr.add aG 2).block/\∃g:Y,j.cell? (Addr.add aG 2)=some (.slice g.a g.len g.cap)/\
  Calls ak 135 #[t] j λH d=>∃y:Y,H=.returned y/\ad m j d/\
  an (d.alloc (.cells #[y] 48)) λz=>ad m d z/\∃A:Y,∃i:J,Sem.run ak (Builtin.append_ #[127,127] 127 #[g,.slice (some d.heap.size) 1 1]) z=.ok A i/\
  (∃u:aa,i.cell? (Addr.add aG 2)=some u)/\i.frozen? (Addr.add aG 2)=false/\an (i.setCell (Addr.add aG 2) A) λL=>R L:=by
 have W:=h.lf;have X:=h.v.lt;have p:=cw w;obtain⟨bI,aB,aT,aH⟩:=bw (h.v.ext p);refine aY ⟨λ_=>False,id,V,aT,(jD (B:=λq=>w.heap.size<=q) (ht.ext p) I (λq b=>b)).use ?_⟩;rintro _ d ⟨M,rfl,C,hx,hf⟩;have e:=p.trans hx;have Z:w.drew.heap.size=w.heap.size:=rfl;have N:=e.size;have O:=bh.ext h.keys e;have dJ:=bh.ext h.vals e;have P:=cB.ext h.kids e;refine⟨M,rfl,hx,tS (B:=Grow bS w.drew d) (h.v.ext e) (o:=2) (by simp) (bh.aV dJ λk _ h=>.inl h) ?_ (bk.aV C λk c h=>.inr ⟨h,c⟩) ?_ E λw' aJ av ax f=>?_⟩
 .rintro(h1|h1)
  .exact(h.bv aG h1).2.2.1 rfl
  .omega
 .intro k Q S
  obtain⟨ts,_,_,r,_⟩:=h.vals;have:=(r k S).2;have:=(C.2.2 k Q).1;omega
 have T:∀q,Grow (Grow bS w.drew d) d w' q->bS q\/(w.heap.size<=q/\q<w'.heap.size):=by
  rintro q ((h1|h1)|h1)
  .exact .inl h1
  .exact .inr ⟨h1.1,fl h1.2 f.size⟩
  .exact .inr ⟨eI N h1.1,h1.2⟩
 have hg:=f.size;have s:∀q,aC V q->bS q:=λq b=>by
  obtain⟨ts,_,_,r,_⟩:=h.vals;exact(r q b).1
 refine F w' aJ (λq=>bS q\/(w.heap.size<=q/\q<w'.heap.size)) ⟨by simpa using av,bh.ab O f ?_,bh.aV ax λk _ c=>T k c,cB.ab P f ?_,λq b=>?_,?_,λq b=>?_,h.lf⟩ ?_ ?_
 .rintro q b (h1|h1)
  .exact(h.ba q b).2.2.1 h1
  .exact(h.ba q b).2.2.2.1 (s q h1)
 .rintro q b (h1|h1)
  .exact(h.aI q b).2.2 h1
  .exact(h.bv q (s q h1)).2.2.2 b
 .have:=h.ba q b
  refine⟨this.1,I,this.2.2.1,?_,this.2.2.2.2⟩;rintro(h1|h1)
  .exact this.2.2.2.1 h1
  .omega
 .rintro q (h1|h1)
  .have:=h.bv q h1;exact⟨this.1,I,this.2.2⟩
  .exact⟨I,h1.2,I,λh2=>by have:=h.aI q h2;omega⟩
 .have:=h.aI q b;exact⟨this.1,I,this.2.2⟩
 .refine(ad.cK e).trans (f.mono λk _ c=>?_)
  rcases c with c|c
  .exact .inl c
  .exact .inr (s k c)
 .rintro q (h1|h1)
  .exact .inl h1
  .exact .inr h1.1
theorem ek{B:Nat->Prop}{w0:J}{n:aA}{K V D:Y}(h:br B w0 n K V D)(aX:n.keys.length<=100000)(aZ:n.vals.length<=100000)(a0:n.kids.length<=100000)(av:∀k∈n.keys,k.length<=100000)(ax:∀v∈n.vals,v.length<=100000):
 aP ak 204 #[cQ n K V D] w0 (λv w'=>∃ (K V D:Y) (bD bS bA:Nat->Prop),v=cQ n K V D/\eD w0.heap.size w' n K V D bD bS bA/\Ext w0 w'):=by
 refine okF (af.ek n.leaf K V D) az.ek func204 ?_;(delta af.ek cc U a8 ag aW gv vr al yE aI st au yD ga rZ;dsimp only);have aF:br (λq=>q<w0.heap.size) w0 n K V D:=h.aV λq a _=>a;have a1:=bf.len h.keys;have a2:=bf.len h.vals;refine bl (vs:=[n.leaf,K,V,D]) rfl λw1 aJ aL a3=>?_;refine bl (vs:=[false,(),(),()]) rfl λah aM ay a4=>aY ?_;have X:=cw ah;have a5:ah.drew.heap.size=ah.heap.size:=rfl;have L:=(aJ.ext ay).ext X;have aC:=aM.ext X;have Z:=aL.trans (ay.trans X);obtain⟨aN,a6,a7,aO⟩:=bw L;have T:=aF.ext Z;obtain⟨lo,a9⟩:∃lo,lo=ah.heap.size:=⟨_,rfl⟩;refine⟨λ_=>False,id,_,aN,id,D,aO,⟨?_,?_⟩⟩
 .refine(qu T.kids.1 I).use ?_
  rintro _ H ⟨aw,rfl,y,x,aa⟩;have aQ:=x.size;refine⟨aw,rfl,x,#[n.leaf,(),(),aw],(λw=>by kernel_rfl),?_⟩;refine bl (vs:=[false,(),(),()]) rfl λaD W z aR=>?_;refine⟨z,W.b2 rfl ?_,rfl,cp W (us:=[n.leaf,(),(),aw]) rfl rfl λg M C aS=>?_⟩
  .intro v N
   simp only[cP,eE,eL]at N;rcases N with rfl|rfl|rfl|rfl<;>trivial
  obtain⟨aG,ac⟩:∃aG,aG=H.heap.size:=⟨_,rfl⟩;rw[←ac]at M C⊢;obtain⟨bA,r⟩:∃bA:Nat->Prop,bA=λq=>ah.heap.size<=q/\q<H.heap.size:=⟨_,rfl⟩;have ae:cB bA H aw n.kids:=by subst r;exact⟨y,λk l=>⟨⟨aa k l,y.lt k l⟩,y.lt k l⟩⟩
  have m:ad (λq=>lo<=q) ah.drew g:=(ad.cK (x.trans z)).trans (C.mono λk _ l=>I);have ai:gP lo g aG ⟨n.leaf,[],[],n.kids⟩ bn bn aw (λ_=>False) (λ_=>False) bA:=⟨M,bh.none _ _,bh.none _ _,cB.ab (cB.ext ae z) C (λq a e=>by subst r;have a:=a.2;omega),λq h=>h.elim,λq h=>h.elim,λq a=>(by subst r;obtain⟨h1,h2⟩:=a;exact⟨I,I,I⟩),I⟩;clear r;obtain⟨bI,aB,aT,aH⟩:=bw (L.ab m I);have O:br (λq=>q<w0.heap.size) g n K V D:=T.ab m λq a h=>by omega
  have aj:=aC.ab m I;refine⟨K,aB,λi w'=>∃ (j:Nat) (d:Y) (bD:Nat->Prop),i=j/\j<=n.keys.length/\gP lo w' aG ⟨n.leaf,n.keys.take j,[],n.kids⟩ d bn aw bD (λ_=>False) bA/\ad (λq=>lo<=q) g w',λi _=>((n.keys.length:Int)-i).toNat,⟨0,bn,_,rfl,cN _,ai,ad.refl _ _⟩,?_⟩;rintro _ P ⟨j,d,bD,rfl,am,o,s⟩;have an:br (λq=>q<w0.heap.size) P n K V D:=O.ab s λq a h=>by omega
  refine⟨λaK=>?_,λc=>?_⟩
  .have aK:j<n.keys.length:=by have:=b_ aK;omega
   obtain⟨A,t,ar,E,hc,ht,_⟩:=bf.at an.keys aK;refine⟨A,ar,E,t,hc,v8 o ht.1 (av _ (cr aK)) (by show(n.keys.take j).length<=_;rw[cC];omega) λw' cq ao st F _=>?_⟩;have G:ad (λq=>lo<=q) P w':=F.mono λq _ a=>by
    rcases a with a|a
    .have:=o.lf;omega
    .exact(o.ba q a).1
   rw[bu (n:=(j:Int)+1) I I];refine⟨⟨j+1,cq,ao,I,I,?_,s.trans G⟩,?_⟩
   .rw[take_succ _ aK];exact st
   .show((n.keys.length:Int)-((j:Int)+1)).toNat<((n.keys.length:Int)-(j:Int)).toNat
    omega
  have c:j=n.keys.length:=by have:=cG c;omega
  subst c;rw[iB]at o;obtain⟨bI,aB,aT,aH⟩:=bw ((L.ab m I).ab s I);refine⟨V,aT,λi w'=>∃ (j:Nat) (p:Y) (bS:Nat->Prop),i=j/\j<=n.vals.length/\gP lo w' aG ⟨n.leaf,n.keys,n.vals.take j,n.kids⟩ d p aw bD bS bA/\ad (λq=>lo<=q) g w',λi _=>((n.vals.length:Int)-i).toNat,⟨0,bn,_,rfl,cN _,o,s⟩,?_⟩;rintro _ R ⟨j,p,bS,rfl,am,f,u⟩;have ap:br (λq=>q<w0.heap.size) R n K V D:=O.ab u λq a h=>by omega
  refine⟨λaK=>?_,λc=>?_⟩
  .have aK:j<n.vals.length:=by have:=b_ aK;omega
   obtain⟨A,t,ar,E,hc,ht,_⟩:=bf.at ap.vals aK;refine⟨A,ar,E,t,hc,zj f ht.1 (ax _ (cr aK)) (by show(n.vals.take j).length<=_;rw[cC];omega) λw' cy aq st F _=>?_⟩;have G:ad (λq=>lo<=q) R w':=F.mono λq _ a=>by
    rcases a with a|a
    .have:=f.lf;omega
    .exact(f.bv q a).1
   rw[bu (n:=(j:Int)+1) I I];refine⟨⟨j+1,cy,aq,I,I,?_,u.trans G⟩,?_⟩
   .rw[take_succ _ aK];exact st
   .show((n.vals.length:Int)-((j:Int)+1)).toNat<((n.vals.length:Int)-(j:Int)).toNat
    omega
  have c:j=n.vals.length:=by have:=cG c;omega
  subst c;rw[iB]at f;obtain⟨d0,d1,d2,d3⟩:=bw f.v;refine⟨_,d0,d,d1,p,d2,aw,d3,h7 n.leaf d p aw (aj.ab u I) rfl (Q:=λb K V D ah=>(λv w'=>∃ (K V D:Y) (bD bS bA:Nat->Prop),v=cQ n K V D/\eD w0.heap.size w' n K V D bD bS bA/\Ext w0 w') (.agg #[b,K,V,D]) ah) λaU S=>⟨d,p,aw,bD,bS,bA,rfl,?_,?_⟩⟩
  .exact(eD.ab f.mem S λq a _ _ h=>I).low I
  .exact Ext.ck (Ext.dc Z (m.trans u) λk l=>I) S I
 .refine bl (vs:=[false,(),(),()]) rfl λaD W z aR=>⟨z,?_⟩
  refine(qu (T.kids.ext z).1 I).use ?_;rintro _ H ⟨aw,rfl,y,x,aa⟩;have aQ:=x.size;have aE:=W.ext x;refine⟨aw,rfl,x,#[n.leaf,(),(),aw],(λw=>by kernel_rfl),?_⟩;refine⟨aE.b2 rfl ?_,rfl,cp aE (us:=[n.leaf,(),(),aw]) rfl rfl λg M C aS=>?_⟩
  .intro v N
   simp only[cP,eE,eL]at N;rcases N with rfl|rfl|rfl|rfl<;>trivial
  obtain⟨aG,ac⟩:∃aG,aG=ah.drew.heap.size:=⟨_,rfl⟩;rw[←ac]at M C⊢;obtain⟨bA,r⟩:∃bA:Nat->Prop,bA=λq=>aD.heap.size<=q/\q<H.heap.size:=⟨_,rfl⟩;have ae:cB bA H aw n.kids:=by subst r;exact⟨y,λk l=>⟨⟨aa k l,y.lt k l⟩,y.lt k l⟩⟩
  have m:ad (λq=>lo<=q) ah.drew g:=(ad.cK (z.trans x)).trans (C.mono λk _ l=>I);have ai:gP lo g aG ⟨n.leaf,[],[],n.kids⟩ bn bn aw (λ_=>False) (λ_=>False) bA:=⟨M,bh.none _ _,bh.none _ _,cB.ab ae C (λq a e=>by subst r;have a:=a.1;omega),λq h=>h.elim,λq h=>h.elim,λq a=>(by subst r;obtain⟨h1,h2⟩:=a;exact⟨I,I,I⟩),I⟩;clear r;obtain⟨bI,aB,aT,aH⟩:=bw (L.ab m I);have O:br (λq=>q<w0.heap.size) g n K V D:=T.ab m λq a h=>by omega
  have aj:=aC.ab m I;refine⟨K,aB,λi w'=>∃ (j:Nat) (d:Y) (bD:Nat->Prop),i=j/\j<=n.keys.length/\gP lo w' aG ⟨n.leaf,n.keys.take j,[],n.kids⟩ d bn aw bD (λ_=>False) bA/\ad (λq=>lo<=q) g w',λi _=>((n.keys.length:Int)-i).toNat,⟨0,bn,_,rfl,cN _,ai,ad.refl _ _⟩,?_⟩;rintro _ P ⟨j,d,bD,rfl,am,o,s⟩;have an:br (λq=>q<w0.heap.size) P n K V D:=O.ab s λq a h=>by omega
  refine⟨λaK=>?_,λc=>?_⟩
  .have aK:j<n.keys.length:=by have:=b_ aK;omega
   obtain⟨A,t,ar,E,hc,ht,_⟩:=bf.at an.keys aK;refine⟨A,ar,E,t,hc,v8 o ht.1 (av _ (cr aK)) (by show(n.keys.take j).length<=_;rw[cC];omega) λw' cq ao st F _=>?_⟩;have G:ad (λq=>lo<=q) P w':=F.mono λq _ a=>by
    rcases a with a|a
    .have:=o.lf;omega
    .exact(o.ba q a).1
   rw[bu (n:=(j:Int)+1) I I];refine⟨⟨j+1,cq,ao,I,I,?_,s.trans G⟩,?_⟩
   .rw[take_succ _ aK];exact st
   .show((n.keys.length:Int)-((j:Int)+1)).toNat<((n.keys.length:Int)-(j:Int)).toNat
    omega
  have c:j=n.keys.length:=by have:=cG c;omega
  subst c;rw[iB]at o;obtain⟨bI,aB,aT,aH⟩:=bw ((L.ab m I).ab s I);refine⟨V,aT,λi w'=>∃ (j:Nat) (p:Y) (bS:Nat->Prop),i=j/\j<=n.vals.length/\gP lo w' aG ⟨n.leaf,n.keys,n.vals.take j,n.kids⟩ d p aw bD bS bA/\ad (λq=>lo<=q) g w',λi _=>((n.vals.length:Int)-i).toNat,⟨0,bn,_,rfl,cN _,o,s⟩,?_⟩;rintro _ R ⟨j,p,bS,rfl,am,f,u⟩;have ap:br (λq=>q<w0.heap.size) R n K V D:=O.ab u λq a h=>by omega
  refine⟨λaK=>?_,λc=>?_⟩
  .have aK:j<n.vals.length:=by have:=b_ aK;omega
   obtain⟨A,t,ar,E,hc,ht,_⟩:=bf.at ap.vals aK;refine⟨A,ar,E,t,hc,zj f ht.1 (ax _ (cr aK)) (by show(n.vals.take j).length<=_;rw[cC];omega) λw' cy aq st F _=>?_⟩;have G:ad (λq=>lo<=q) R w':=F.mono λq _ a=>by
    rcases a with a|a
    .have:=f.lf;omega
    .exact(f.bv q a).1
   rw[bu (n:=(j:Int)+1) I I];refine⟨⟨j+1,cy,aq,I,I,?_,u.trans G⟩,?_⟩
   .rw[take_succ _ aK];exact st
   .show((n.vals.length:Int)-((j:Int)+1)).toNat<((n.vals.length:Int)-(j:Int)).toNat
    omega
  have c:j=n.vals.length:=by have:=cG c;omega
  subst c;rw[iB]at f;obtain⟨d0,d1,d2,d3⟩:=bw f.v;refine⟨_,d0,d,d1,p,d2,aw,d3,h7 n.leaf d p aw (aj.ab u I) rfl (Q:=λb K V D ah=>(λv w'=>∃ (K V D:Y) (bD bS bA:Nat->Prop),v=cQ n K V D/\eD w0.heap.size w' n K V D bD bS bA/\Ext w0 w') (.agg #[b,K,V,D]) ah) λaU S=>⟨d,p,aw,bD,bS,bA,rfl,?_,?_⟩⟩
  .exact(eD.ab f.mem S λq a _ _ h=>I).low I
  .exact Ext.ck (Ext.dc Z (m.trans u) λk l=>I) S I
theorem bh.mk'{B:Nat->Prop}{w:J}{s:Y}{ts:O Y}{ls:O Key}(a:ts.length=ls.length)(b:a7 1 48 w s (ts.map gO))(hi:In B w s)(c:∀p∈ts.zip ls,bk B w p.1 p.2/\∀k,aC p.1 k->¬aC s k):bh B w s ls:=by
 refine⟨ts,a,b,hi,λi h1 h2=>?_⟩;have:=c (ts[i],ls[i]) (by
  rw[List.mem_iff_getElem];exact⟨i,by rw[nF];omega,by rw[List.getElem_zip]⟩)
 exact this
theorem bh.out{B:Nat->Prop}{w:J}{s:Y}{ls:O Key}(h:bh B w s ls):∃ts:O Y,ts.length=ls.length/\a7 1 48 w s (ts.map gO)/\In B w s/\∀p∈ts.zip ls,bk B w p.1 p.2/\∀k,aC p.1 k->¬aC s k:=by
 obtain⟨ts,h1,h2,a,b⟩:=h;refine⟨ts,h1,h2,a,λp c=>?_⟩;obtain⟨i,hi,rfl⟩:=List.mem_iff_getElem.1 c;rw[nF]at hi;rw[List.getElem_zip];exact b i I I
theorem zk{α β:Type}(a:O α)(b:O β)(i:Nat):(a.take i).zip (b.take i)=(a.zip b).take i:=by
 rw[List.zip_eq_zipWith,List.zip_eq_zipWith,List.take_zipWith]
theorem zl{α β:Type}(a:O α)(b:O β)(i:Nat):(a.drop i).zip (b.drop i)=(a.zip b).drop i:=by
 rw[List.zip_eq_zipWith,List.zip_eq_zipWith,List.drop_zipWith]
theorem zm{B:Nat->Prop}{w:J}{s t:Y}{ls:O Key}{l:Key}{i:Nat}(q:bh B w s ls)(ht:bk B w t l)(hd:∀k,aC t k->¬aC s k)(F:ls.length<=100000)(hi:i<=ls.length):
 aP ak 210 #[s,.int .i64 (i:Int),.slice (some w.heap.size) 1 1] (w.alloc (.cells #[t] 48))
  (λu w'=>∃e:Y,u=e/\bh (Grow B w w') w' e (ls.take i++ [l]++ls.drop i)/\ad (aC s) w w'):=by
 obtain⟨ts,h1,h2,j,m⟩:=bh.out q;have G:s.len=ls.length:=by have:=h2.1;rw[dr]at this;omega
 have hx:=eu w (.cells #[t] 48);have r:=bm.new w #[t] 48;refine(Dz (v:=⟨some w.heap.size,1,1⟩) (xs:=[gO t]) (i:=i) (h2.ext hx) (Src.new (T:=48) w [gO t] 1 rfl) rfl rfl r (λh=>by have:=(j _ h).2;omega) (λv z=>by rw[e0.1 z];trivial) (tO ts) I I).mono ?_;rintro _ w' ⟨e,rfl,av,ax,A,C⟩;rw[fz]at av;have hc:ad (aC s) w w':=(ad.cK hx).trans A;have H:=hc.size;have K:(w.alloc (.cells #[t] 48)).heap.size=w.heap.size+1:=qt _ _;have n:∀k,aC e k->aC s k\/w.heap.size<=k:=λk d=>(C k d).imp id λh=>by omega
 have D:∀ (x:Y),In B w x->(∀k,aC x k->¬aC s k)->∀k,aC x k->¬aC e k:=λx hx f k d E=>by
  rcases n k E with h|h
  .exact f k d h
  .have:=(hx k d).2;omega
 have g:∀ (x:Y) (y:Key),bk B w x y->(∀k,aC x k->¬aC s k)->bk (Grow B w w') w' x y/\∀k,aC x k->¬aC e k:=λx y o f=>⟨bk.aV (bk.hG o hc f) λk _ h=>.inl h,D x o.2.2 f⟩;refine⟨e,rfl,bh.mk' (ts:=ts.take i++ [t]++ts.drop i) ?_ ?_ ?_ ?_,hc⟩
 .simp only[cF,cC,cX,ie];omega
 .simpa[mm,nG] using av
 .intro k d
  refine⟨?_,av.lt k d⟩;rcases n k d with h|h
  .exact .inl (j k h).1
  .exact .inr ⟨h,av.lt k d⟩
 .intro p c
  rw[List.zip_append (by simp only[cF,cC,ie];omega),List.zip_append (by simp only[cC];omega),zk,zl]at c;rcases cH.1 c with c|c
  .rcases cH.1 c with c|c
   .obtain⟨a,b⟩:=m p (eS c)
    exact g _ _ a b
   .simp only[List.zip_cons_cons,List.zip_nil_left,e0]at c
    subst c;exact g _ _ ht hd
  .obtain⟨a,b⟩:=m p (eJ c)
   exact g _ _ a b
theorem DE:(Tryz.prog.info? 48).bind (·.zero)=some (.slice none 0 0):=by kernel_rfl
theorem zn{B:Nat->Prop}{w:J}{s:Y}{ls:O Key}{i:Nat}(j:bh B w s ls)(r:ls.length<=100000)(hi:i<ls.length):
 aP ak 205 #[s,.int .i64 (i:Int),.int .i64 ((i+1:Nat):Int)] w
  (λu w'=>∃e:Y,u=e/\bh B w' e (ls.take i++ls.drop (i+1))/\ad (aC s) w w'):=by
 obtain⟨ts,h1,h2,l,m⟩:=bh.out j;have t:s.len=ls.length:=by have:=h2.1;rw[dr]at this;omega
 refine(DA (i:=i) h2 (tO ts) (λz g u hu=>by
  rw[DE]at g
  cases g;simp[Value.cells]at hu;subst hu;trivial) I I).mono ?_
 rintro _ w' ⟨e,rfl,av,ax,n,f⟩;rw[fz,fz]at av;have v:=f.size;have h:∀k,aC e k->aC s k:=λk ⟨A,ar,c⟩=>⟨A,by rw[←n];exact ar,c⟩;refine⟨e,rfl,bh.mk' (ts:=ts.take i++ts.drop (i+1)) ?_ ?_ ?_ ?_,f⟩
 .simp only[cF,cC,cX];omega
 .simpa[mm,nG] using av
 .exact λk c=>⟨(l k (h k c)).1,av.lt k c⟩
 .intro p d
  rw[List.zip_append (by simp only[cC];omega),zk,zl]at d;have o:p∈ts.zip ls:=by
   rcases cH.1 d with d|d
   .exact eS d
   .exact eJ d
  obtain⟨a,b⟩:=m p o;exact⟨bk.hG a f b,λk c q=>b k c (h k q)⟩
theorem DF{B:Nat->Prop}{w:J}{s t:Y}{ls:O Key}{l:Key}{i:Nat}(g:bh B w s ls)(ht:bk B w t l)(hd:∀k,aC t k->¬aC s k)(hi:i<ls.length):
 ∃A:ae,s.a=some A/\((0:Int)<=(i:Int)/\(i:Int)<(s.len:Int))/\(∃u:aa,w.cell? (A.add (Int.toNat (i:Int)*1))=some u)/\w.frozen? (A.add (Int.toNat (i:Int)*1))=false/\
  bh B (w.setCell (A.add (Int.toNat (i:Int)*1)) (gO t)) s (ls.set i l)/\ad (aC s) w (w.setCell (A.add (Int.toNat (i:Int)*1)) (gO t)):=by
 obtain⟨ts,h1,h2,h,m⟩:=g;obtain⟨A,ar,n,hc,hf,o,p⟩:=h2.at (i:=i) (v:=gO (ts[i]'I)) (by simp[h1,hi]);have c:ad (aC s) w (w.setCell (A.add (Int.toNat (i:Int)*1)) (gO t)):=ad.set (.refl _ _) (λ_=>o) _;refine⟨A,ar,n,⟨_,hc⟩,hf,⟨ts.set i t,by simp[h1],?_,In.ab h c,λj d f=>?_⟩,c⟩
 .have:=p (gO t)
  rwa[←List.map_set]at this
 .rw[cY]at d f
  rw[q3,q3];by_cases e:i=j
  .rw[if_pos e,if_pos e]
   exact⟨bk.hG ht c hd,hd⟩
  .rw[if_neg e,if_neg e]
   obtain⟨a,b⟩:=m j d f;exact⟨bk.hG a c b,b⟩
def gF(n:aA)(k v:Key):aA:=
 if gE n.keys k then {n with vals:=n.vals.set (cu n.keys k) v}
 else {n with keys:=n.keys.take (cu n.keys k)++ [k]++n.keys.drop (cu n.keys k),vals:=n.vals.take (cu n.keys k)++ [v]++n.vals.drop (cu n.keys k)}
def kB(n:aA)(k:Key):aA:={n with keys:=n.keys.take (cu n.keys k)++n.keys.drop (cu n.keys k+1),vals:=n.vals.take (cu n.keys k)++n.vals.drop (cu n.keys k+1)}
theorem gw.fH{n:aA}(h:gw n):(∀k∈n.keys,k.length<=100000)/\(∀v∈n.vals,v.length<=100000):=⟨λk a=>by have:=(h.ok k a).2;omega,λv b=>by have:=h.vals v b;omega⟩
def nc(n:aA)(w:J)(v:aa)(w':J):Prop:=∃K V D:Y,v=.tuple #[cQ n K V D,true]/\br (λq=>w.heap.size<=q) w' n K V D/\Ext w w'
theorem ou{B:Nat->Prop}{w:J}{n:aA}{K V D tk dC:Y}{key val:Key}(h:br B w n K V D)(hs:gw n)(bR:n.keys.length<=10000)(c:Src 1 w tk (aF key))(G:Src 1 w dC (aF val))(aQ:cD key)(bT:val.length<=24):
 aP ak 151 #[cQ n K V D,tk,dC] w (nc (gF n key val) w):=by
 have bU:=hs.len;have bV:n.kids.length=0:=by rw[hs.kids];rfl
 have bW:=len8 G;have bX:key.length<=24:=aQ.2;refine okF (af.ou n.leaf K V D tk dC) az.ou func151 ?_;(delta af.ou cc a8 U oa al ag aH hY p1 fO jz aW aI st df p0;dsimp only);refine bl (vs:=[n.leaf,K,V,D]) rfl λw1 au bd bY=>?_;refine bl (vs:=[false,(),(),()]) rfl λah be ai bZ=>?_;have aR:=bd.trans ai;obtain⟨bI,aB,aT,aH⟩:=bw (au.ext ai);refine⟨n.leaf,bI,ct (λb w'=>b=false/\Ext ah w') (λq a=>⟨λp=>?_,λp=>⟨_,bI,K,aB,V,aT,D,aH,(jf (h.ext aR) I I I).use ?_⟩⟩) ?_⟩
 .rw[hs.leaf]at p;cases p
 .rintro _ aD ⟨b,rfl,bg,C⟩
  have:=bg.2 (.inl hs);subst this;exact⟨true,rfl,a _ _ ⟨rfl,C⟩⟩
 rintro _ aD ⟨rfl,C⟩;have aj:=aR.trans C;refine ct (λb w'=>b=false/\aD=w') (λq a=>⟨λh=>(by cases h),λ_=>(mS (c.ext aj)).use ?_⟩) ?_
 .rintro _ _ ⟨rfl,rfl⟩
  exact⟨_,rfl,a _ _ ⟨by simp[aQ],rfl⟩⟩
 rintro _ _ ⟨rfl,rfl⟩;obtain⟨bI,aB,aT,aH⟩:=bw (au.ext (ai.trans C));refine⟨λp=>?_,λ_=>⟨_,bI,K,aB,V,aT,D,aH,(ek (h.ext aj) I I I hs.fH.1 hs.fH.2).use ?_⟩⟩
 .have p:decide (((dC.len:Int):Int)>24)=true:=p
  have:=b_ p;omega
 rintro _ bi ⟨l,g,aw,bD,bS,bA,rfl,r,am⟩;have aS:=aj.trans am;have b0:=aS.size;have b1:=aj.size;have b3:=C.size;have b4:=am.size;refine⟨n.leaf,l,g,aw,rfl,bl (vs:=[false,(),(),()]) rfl λb5 aU an b6=>⟨aU.b2 rfl ?_,rfl,cp aU (us:=[n.leaf,l,g,aw]) rfl rfl λO P R b7=>?_⟩⟩
 .intro v G
  simp only[cP,eE,eL]at G;rcases G with rfl|rfl|rfl|rfl<;>trivial
 obtain⟨aG,bj⟩:∃aG,aG=bi.heap.size:=⟨_,rfl⟩;rw[←bj]at P R⊢;obtain⟨lo,bm⟩:∃lo,lo=aD.heap.size:=⟨_,rfl⟩;rw[←bm]at r;have ao:Ext w O:=Ext.ck (aS.trans an) R I;have bn:Var O w.heap.size [n.leaf,K,V,D] 202:=(((au.ext (ai.trans C)).ext am).ext an).ab R I;have aX:Var O w1.heap.size [false,(),(),()] 202:=(((be.ext C).ext am).ext an).ab R I;have f:eD lo O n l g aw bD bS bA:=(r.ext an).ab R λq _ _ a e=>by
  subst e;rcases a with a|a|a
  .have:=(r.ba _ a).2.1;omega
  .have:=(r.bv _ a).2.1;omega
  .have:=(r.aI _ a).2;omega
 obtain⟨bI,aB,aT,aH⟩:=bw bn;have bo:=oK n.keys key;refine⟨_,bI,K,aB,V,aT,D,aH,(k3 (h.ext ao) (c.ext ao) hs.e_ I).use ?_⟩;rintro _ m ⟨rfl,ap⟩;have aE:=ao.trans ap;have b8:=ap.size;refine⟨_,_,rfl,λH=>?_,λH=>?_⟩
 .
  have E:=cw m;have L:=ap.trans E;have aK:cu n.keys key<n.keys.length:=by
   have:=b_ H;exact(iy.1 this).1
  obtain⟨d0,d1,d2,d3⟩:=bw (P.ext L);refine aY ⟨λ_=>False,id,g,d2,(jD (B:=λq=>m.heap.size<=q) (G.ext (aE.trans E)) I (λq a=>a)).use ?_⟩;rintro _ s ⟨t,rfl,ht,x,bp⟩;have T:=L.trans x;have aJ:=f.ext T;have bq:=T.size;have bs:bh (Grow bS m s) s g n.vals:=bh.aV aJ.vals λk _ h=>.inl h;have y:∀k,aC g k->bS k:=λk c=>by obtain⟨ts,_,_,W,_⟩:=f.vals;exact(W k c).1
  obtain⟨A,ar,p,bt,oS,aZ,a0⟩:=DF (i:=cu n.keys key) bs (bk.aV ht λk c h=>.inr ⟨h,c⟩) (λk X Z=>by
   have:=(ht.2.2 k X).1;have:=(f.bv k (y k Z)).2.1;omega) I
  refine⟨t,rfl,x,A,ar,p,bt,oS,aY ?_⟩;obtain⟨o,a1⟩:∃o,o=s.setCell (A.add (Int.toNat (cu n.keys key:Int)*1)) (gO t):=⟨_,rfl⟩;rw[←a1]at aZ a0;have bu:s.setCell (A.add (Int.toNat (cu n.keys key:Int)*1)) t=o:=a1.symm;rw[bu];have aa:ad (λq=>lo<=q/\q<O.heap.size/\bS q) s o:=a0.mono λk _ c=>⟨(f.bv k (y k c)).1,(f.bv k (y k c)).2.1,y k c⟩;have aq:=(P.ext T).ab aa (λe=>by
   have h1:=(r.bv _ e.2.2).2.1;omega)
  obtain⟨bx,bz,bB,bC⟩:=bw aq;have bE:br (λq=>lo<=q) o (gF n key val) l g aw:=by
   unfold gF;rw[if_pos H];refine⟨bf.aV (bf.ab (bh.hJ aJ.keys) aa λq a e=>(f.ba q a).2.2.1 e.2.2) λq _ a=>(f.ba q a).1,bf.aV (bh.hJ aZ) λq _ a=>?_,cx.aV (cx.ab (cB.oO aJ.kids) aa λq a e=>(f.bv q e.2.2).2.2 a) λq _ a=>(f.aI q a).1⟩;rcases a with a|a
   .exact(f.bv q a).1
   .omega
  have bF:(gF n key val).leaf=n.leaf:=by unfold gF;rw[if_pos H]
  refine⟨_,bx,l,bz,g,bB,aw,bC,h7 n.leaf l g aw ((aX.ext T).ab aa (λe=>by have:=e.1;omega)) rfl (Q:=λb K V D ah=>nc (gF n key val) w (.tuple #[.agg #[b,K,V,D],true]) ah) λj u=>⟨l,g,aw,by unfold cQ;rw[bF],?_,?_⟩⟩
  .exact(bE.ab u λq a e=>I).aV λq _ a=>by omega
  .exact Ext.ck (Ext.dc (ao.trans T) aa λk c=>I) u I
 .
  have E:=cw m;have L:=ap.trans E;have a2:gP lo m.drew aG n l g aw bD bS bA:=by
   have M:=f.ext L;refine⟨P.ext L,M.keys,M.vals,M.kids,λq a=>?_,λq a=>?_,λq a=>?_,I⟩
   .have h1:=M.ba q a;have:=(r.ba q a).2.1;exact⟨h1.1,h1.2.1,I,h1.2.2⟩
   .have h1:=M.bv q a;have:=(r.bv q a).2.1;exact⟨h1.1,h1.2.1,I,h1.2.2⟩
   .have h1:=M.aI q a;have:=(r.aI q a).2;exact⟨h1.1,h1.2,I⟩
  obtain⟨d0,d1,d2,d3⟩:=bw a2.v;refine aY ⟨λ_=>False,id,l,d1,(jD (B:=λq=>m.heap.size<=q) (c.ext (aE.trans E)) I (λq a=>a)).use ?_⟩;rintro _ s ⟨t,rfl,ht,x,bp⟩;have bq:m.heap.size<=s.heap.size:=(E.trans x).size;have aL:∀k,aC l k->bD k:=λk c=>by obtain⟨ts,_,_,W,_⟩:=f.keys;exact(W k c).1
  have y:∀k,aC g k->bS k:=λk c=>by obtain⟨ts,_,_,W,_⟩:=f.vals;exact(W k c).1
  have d:=a2.ext x;refine⟨t,rfl,x,aY ⟨eu _ _,(zm (B:=Grow bD m s) (i:=cu n.keys key) (bh.aV d.keys λk _ h=>.inl h) (bk.aV ht λk c h=>.inr ⟨h,c⟩) (λk X Z=>by
   have:=(ht.2.2 k X).1;have:=(f.ba k (aL k Z)).2.1;omega) I bo).use ?_⟩⟩
  rintro _ o ⟨S,rfl,bG,a3⟩;have b9:=a3.size;have ac:ad (λq=>lo<=q/\bD q) s o:=a3.mono λk _ c=>⟨(f.ba k (aL k c)).1,aL k c⟩;have aq:=d.v.ab ac λe=>(d.ba _ e.2).2.2.1 rfl;obtain⟨s1,s2⟩:=dB aq (i:=1) (by simp);refine⟨S,rfl,?_⟩;rw[ay,ay];refine⟨s1,s2,aY (aY ?_)⟩;obtain⟨j,aM⟩:∃j,j=(o.setCell ⟨aG,0+1,none⟩ S).drew:=⟨_,rfl⟩;rw[←aM];have u:ad (λq=>q=aG) o j:=by rw[aM];exact ad.drew (dg _ _ _ _)
  have a4:Var j aG [n.leaf,S,g,aw] 202:=by rw[aM];exact(dI aq _).drew
  have ca:=u.size;have cb:aG<m.heap.size:=by have:=P.lt;omega
  have bH:bh (λq=>bD q\/(m.heap.size<=q/\q<o.heap.size)) j S (n.keys.take (cu n.keys key)++ [key]++n.keys.drop (cu n.keys key)):=by
   refine bh.ab (bh.aV bG λk _ c=>?_) u λk c e=>?_
   .rcases c with (c|c)|c
    .exact .inl c
    .exact .inr ⟨c.1,I⟩
    .exact .inr ⟨I,c.2⟩
   .subst e
    rcases c with c|c
    .exact(d.ba _ c).2.2.1 rfl
    .omega
  have bJ:bh bS j g n.vals:=bh.ab (bh.ab d.vals ac λq a e=>(d.ba q e.2).2.2.2.1 a) u λq a e=>(d.bv q a).2.2.1 e;have bK:cB bA j aw n.kids:=cB.ab (cB.ab d.kids ac λq a e=>(d.ba q e.2).2.2.2.2 a) u λq a e=>(d.aI q a).2.2 e;have a5:Ext w j:=Ext.dc (Ext.dc ((aE.trans E).trans x) ac λk c=>I) u λk c=>by omega
  obtain⟨f0,f1,f2,f3⟩:=bw a4;rw[ay]at f2;refine⟨λ_=>False,id,g,f2,(jD (B:=λq=>j.heap.size<=q) (G.ext a5) I (λq a=>a)).use ?_⟩;rintro _ a6 ⟨t2,rfl,a7,z,cd⟩;have ce:=z.size;refine⟨t2,rfl,z,aY ⟨eu _ _,(zm (B:=Grow bS j a6) (i:=cu n.keys key) (bh.aV (bh.ext bJ z) λk _ h=>.inl h) (bk.aV a7 λk c h=>.inr ⟨h,c⟩) (λk X Z=>by
   have:=(a7.2.2 k X).1;have:=(f.bv k (y k Z)).2.1;omega) I I).use ?_⟩⟩
  rintro _ aN ⟨cI,rfl,bL,a9⟩;have cf:=a9.size;have ae:ad (λq=>lo<=q/\bS q) a6 aN:=a9.mono λk _ c=>⟨(f.bv k (y k c)).1,y k c⟩;have a_:=(a4.ext z).ab ae λe=>(d.bv _ e.2).2.2.1 rfl;obtain⟨s1,s2⟩:=dB a_ (i:=2) (by simp);refine⟨cI,rfl,?_⟩;rw[ay,ay];refine⟨s1,s2,aY ?_⟩;obtain⟨F,aO⟩:∃F,F=aN.setCell ⟨aG,0+2,none⟩ cI:=⟨_,rfl⟩;rw[←aO];have N:ad (λq=>q=aG) aN F:=by rw[aO];exact dg _ _ _ _
  have bM:Var F aG [n.leaf,S,cI,aw] 202:=by rw[aO];exact dI a_ _
  have cg:=N.size;obtain⟨lg,av,ax,bb⟩:=bw bM;rw[ay]at av ax bb;have bN:br (λq=>lo<=q) F (gF n key val) S cI aw:=by
   unfold gF;rw[if_neg (by rw[H];simp)];refine⟨?_,?_,?_⟩
   .refine bf.aV (bh.hJ (bh.ab (bh.ab (bh.ext bH z) ae λq a e=>?_) N λq a e=>?_)) λq _ a=>?_
    .rcases a with a|a
     .exact(d.ba q a).2.2.2.1 e.2
     .have:=(f.bv q e.2).2.1;omega
    .subst e
     rcases a with a|a
     .exact(d.ba _ a).2.2.1 rfl
     .omega
    .rcases a with a|a
     .exact(d.ba q a).1
     .omega
   .refine bf.aV (bh.hJ (bh.ab bL N λq a e=>?_)) λq _ a=>?_
    .subst e
     rcases a with (a|a)|a
     .exact(d.bv _ a).2.2.1 rfl
     .omega
     .omega
    .rcases a with (a|a)|a
     .exact(d.bv q a).1
     .omega
     .omega
   .exact cx.aV (cB.oO (cB.ab (cB.ab (cB.ext bK z) ae λq a e=>(d.bv q e.2).2.2.2 a) N λq a e=>(d.aI q a).2.2 e)) λq _ a=>(d.aI q a).1
  have bO:(gF n key val).leaf=n.leaf:=by unfold gF;rw[if_neg (by rw[H];simp)]
  have bP:Ext w F:=Ext.dc (Ext.dc (a5.trans z) ae λk c=>I) N λk c=>by omega
  have bQ:Var F w1.heap.size [false,(),(),()] 202:=by
   have h1:=aX.ext (L.trans x);have h2:=(h1.ab ac (λe=>by have:=e.1;omega)).ab u I;exact((h2.ext z).ab ae (λe=>by have:=e.1;omega)).ab N I
  rw[ay,ay];refine⟨_,lg,S,av,cI,ax,aw,bb,?_⟩;have:=h7 n.leaf S cI aw bQ rfl (Q:=λb K V D ah=>nc (gF n key val) w (.tuple #[.agg #[b,K,V,D],true]) ah) λch bc=>⟨S,cI,aw,by unfold cQ;rw[bO],(bN.ab bc λq a e=>I).aV λq _ a=>I,Ext.ck bP bc I⟩;simpa only[ay] using this
def oT(n:aA)(key:Key)(w:J)(v:aa)(w':J):Prop:=
 if gE n.keys key then nc (kB n key) w v w' else v=.tuple #[cQ iL bn bn bn,false]/\Ext w w'
theorem ot{B:Nat->Prop}{w:J}{n:aA}{K V D tk:Y}{key:Key}(h:br B w n K V D)(hs:gw n)(a9:n.keys.length<=10000)(d:Src 1 w tk (aF key)):
 aP ak 149 #[cQ n K V D,tk] w (oT n key w):=by
 have a_:=hs.len;have bb:n.kids.length=0:=by rw[hs.kids];rfl
 refine okF (af.ot n.leaf K V D tk) az.ot func149 ?_;(delta af.ot cc a8 U ag jz oa al aH hY p1 fO aW au st df p0;dsimp only);refine bl (vs:=[n.leaf,K,V,D]) rfl λw1 E ar bc=>?_;refine bl (vs:=[false,(),(),()]) rfl λah aD A bd=>?_;have F:=ar.trans A;obtain⟨bI,aB,aT,aH⟩:=bw (E.ext A);refine⟨_,bI,K,aB,V,aT,D,aH,(k3 (h.ext F) (d.ext F) hs.e_ I).use ?_⟩;rintro _ aE ⟨rfl,s⟩;have T:=F.trans s;obtain⟨bI,aB,aT,aH⟩:=bw (E.ext (A.trans s));refine⟨_,_,rfl,n.leaf,bI,ct (λb w'=>b=false/\Ext aE w') (λq a=>⟨λf=>?_,λf=>⟨_,bI,K,aB,V,aT,D,aH,(jf (h.ext T) I I I).use ?_⟩⟩) ?_⟩
 .rw[hs.leaf]at f;cases f
 .rintro _ W ⟨b,rfl,aJ,o⟩
  have:=aJ.2 (.inl hs);subst this;exact⟨true,rfl,a _ _ ⟨rfl,o⟩⟩
 rintro _ W ⟨rfl,o⟩;have G:=T.trans o;have be:=o.size;have bg:=s.size;have X:=aD.ext (s.trans o);refine⟨λf=>?_,λf=>?_⟩
 .have f:gE n.keys key=false:=by simpa using f
  refine h7 false bn bn bn X rfl (Q:=λb K V D ah=>oT n key w (.tuple #[.agg #[b,K,V,D],false]) ah) λZ aL=>?_;unfold oT;rw[if_neg (by rw[f];simp)];exact⟨rfl,Ext.ck G aL I⟩
 have aa:gE n.keys key=true:=by simpa using f
 have aK:cu n.keys key<n.keys.length:=(iy.1 (b_ aa)).1;obtain⟨bI,aB,aT,aH⟩:=bw (E.ext (A.trans (s.trans o)));refine⟨_,bI,K,aB,V,aT,D,aH,(ek (h.ext G) I I I hs.fH.1 hs.fH.2).use ?_⟩;rintro _ Z ⟨p,g,aw,bD,bS,bA,rfl,j,H⟩;have aM:=G.trans H;have bi:=H.size;refine⟨n.leaf,p,g,aw,rfl,bl (vs:=[false,(),(),()]) rfl λbj ac L bk=>⟨ac.b2 rfl ?_,rfl,cp ac (us:=[n.leaf,p,g,aw]) rfl rfl λt ae C bm=>?_⟩⟩
 .intro v ai
  simp only[cP,eE,eL]at ai;rcases ai with rfl|rfl|rfl|rfl<;>trivial
 obtain⟨aG,aN⟩:∃aG,aG=Z.heap.size:=⟨_,rfl⟩;rw[←aN]at ae C⊢;obtain⟨lo,aO⟩:∃lo,lo=W.heap.size:=⟨_,rfl⟩;rw[←aO]at j;have aQ:Ext w t:=Ext.ck (aM.trans L) C I;have aR:Var t w1.heap.size [false,(),(),()] 202:=((X.ext H).ext L).ab C I;have c:gP lo t aG n p g aw bD bS bA:=by
  have r:eD lo t n p g aw bD bS bA:=(j.ext L).ab C λq _ _ a e=>by
   subst e;rcases a with a|a|a
   .have:=(j.ba _ a).2.1;omega
   .have:=(j.bv _ a).2.1;omega
   .have:=(j.aI _ a).2;omega
  refine⟨ae,r.keys,r.vals,r.kids,λq a=>?_,λq a=>?_,λq a=>?_,I⟩
  .have h1:=r.ba q a;have:=(j.ba q a).2.1;exact⟨h1.1,h1.2.1,I,h1.2.2⟩
  .have h1:=r.bv q a;have:=(j.bv q a).2.1;exact⟨h1.1,h1.2.1,I,h1.2.2⟩
  .have h1:=r.aI q a;have:=(j.aI q a).2;exact⟨h1.1,h1.2,I⟩
 have aj:∀k,aC p k->bD k:=λk d=>by obtain⟨ts,_,_,M,_⟩:=c.keys;exact(M k d).1
 have am:∀k,aC g k->bS k:=λk d=>by obtain⟨ts,_,_,M,_⟩:=c.vals;exact(M k d).1
 obtain⟨d0,d1,d2,d3⟩:=bw c.v;have bo:=c.v.lt;rw[bu (n:=((cu n.keys key:Nat):Int)+1) I I];refine⟨p,d1,(zn c.keys I aK).use ?_⟩;rintro _ N ⟨S,rfl,aS,aU⟩;have u:ad (λq=>lo<=q/\bD q) t N:=aU.mono λk _ d=>⟨(c.ba k (aj k d)).1,aj k d⟩;have an:=c.v.ab u λe=>(c.ba _ e.2).2.2.1 rfl;obtain⟨s1,s2⟩:=dB an (i:=1) (by simp);refine⟨S,rfl,?_⟩;rw[ay,ay];refine⟨s1,s2,aY ?_⟩;obtain⟨l,O⟩:∃l,l=N.setCell ⟨aG,0+1,none⟩ S:=⟨_,rfl⟩;rw[←O];have x:ad (λq=>q=aG) N l:=by rw[O];exact dg _ _ _ _
 have ao:Var l aG [n.leaf,S,g,aw] 202:=by rw[O];exact dI an _
 have aX:bh bD l S (n.keys.take (cu n.keys key)++n.keys.drop (cu n.keys key+1)):=bh.ab aS x λq a e=>(c.ba q a).2.2.1 e;have aZ:bh bS l g n.vals:=bh.ab (bh.ab c.vals u λq a e=>(c.ba q e.2).2.2.2.1 a) x λq a e=>(c.bv q a).2.2.1 e;have a0:cB bA l aw n.kids:=cB.ab (cB.ab c.kids u λq a e=>(c.ba q e.2).2.2.2.2 a) x λq a e=>(c.aI q a).2.2 e;obtain⟨f0,f1,f2,f3⟩:=bw ao;rw[ay]at f2;refine⟨g,f2,(zn aZ I I).use ?_⟩;rintro _ P ⟨cI,rfl,a1,a2⟩;have y:ad (λq=>lo<=q/\bS q) l P:=a2.mono λk _ d=>⟨(c.bv k (am k d)).1,am k d⟩;have ap:=ao.ab y λe=>(c.bv _ e.2).2.2.1 rfl;obtain⟨s1,s2⟩:=dB ap (i:=2) (by simp);refine⟨cI,rfl,?_⟩;rw[ay,ay];refine⟨s1,s2,aY ?_⟩;obtain⟨m,R⟩:∃m,m=P.setCell ⟨aG,0+2,none⟩ cI:=⟨_,rfl⟩;rw[←R];have z:ad (λq=>q=aG) P m:=by rw[R];exact dg _ _ _ _
 have a3:Var m aG [n.leaf,S,cI,aw] 202:=by rw[R];exact dI ap _
 obtain⟨lg,av,ax,a4⟩:=bw a3;have a5:br (λq=>lo<=q) m (kB n key) S cI aw:=by
  refine⟨?_,?_,?_⟩
  .exact bf.aV (bh.hJ (bh.ab (bh.ab aX y λq a e=>(c.ba q a).2.2.2.1 e.2) z λq a e=>(c.ba q a).2.2.1 e)) λq _ a=>(c.ba q a).1
  .exact bf.aV (bh.hJ (bh.ab a1 z λq a e=>(c.bv q a).2.2.1 e)) λq _ a=>(c.bv q a).1
  .exact cx.aV (cB.oO (cB.ab (cB.ab a0 y λq a e=>(c.bv q e.2).2.2.2 a) z λq a e=>(c.aI q a).2.2 e)) λq _ a=>(c.aI q a).1
 have a6:Ext w m:=Ext.dc (Ext.dc (Ext.dc (Ext.dc aQ u λk d=>I) x λk d=>I) y λk d=>I) z λk d=>by omega
 have a7:Var m w1.heap.size [false,(),(),()] 202:=
  (((aR.ab u (λe=>by have:=e.1;omega)).ab x I).ab y (λe=>by have:=e.1;omega)).ab z I
 refine⟨_,lg,S,av,cI,ax,aw,a4,h7 n.leaf S cI aw a7 rfl (Q:=λb K V D ah=>oT n key w (.tuple #[.agg #[b,K,V,D],true]) ah) λbp aq=>?_⟩;unfold oT;rw[if_pos aa];exact⟨S,cI,aw,rfl,(a5.ab aq λq a e=>I).aV λq _ a=>I,Ext.ck a6 aq I⟩
theorem v_{n:aA}(hs:cv n)(m:Nat):((cellsOf n).take m).sum<=100*n.keys.length:=by
 have h1:((cellsOf n).take m).sum<=(cellsOf n).sum:=by
  have:=vB (cellsOf n) m;omega
 have h2:=vO hs n.keys.length (bo _);rw[dP (by rw[oN hs];exact bo _)]at h2;have a:=vX hs n.keys.length (bo _);omega
theorem lX{B:Nat->Prop}{w:J}{n:aA}{K V D:Y}(h:br B w n K V D)(hs:cv n)(G:n.keys.length<=10000){most:Nat}(H:most<=n.keys.length):
 aP ak 300 #[cQ n K V D,most] w (λv w'=>v=.int .i64 ((fG (cellsOf n) most:Nat):Int)/\Ext w w'):=by
 refine okF (af.lX n.leaf K V D (most:Int)) az.lX func300 ?_;(delta af.lX ag U al a8 aW au;dsimp only);refine bl (vs:=[n.leaf,K,V,D]) rfl λw1 o d _=>?_;obtain⟨bI,aB,aT,aH⟩:=bw o;have L:=bf.len h.keys;have M:=oN hs;have x:∀ (j:Nat) (f:j<(cellsOf n).length),(cellsOf n)[j]=(gj n j).length:=λj f=>by
  have h1:=vN hs (i:=j) I;rw[dE f]at h1;exact Option.some.inj h1
 refine⟨K,aB,λa i w'=>∃j:Nat,i=j/\j<=n.keys.length/\a=((((cellsOf n).take j).sum:Nat):Int)/\Ext w1 w',λ_ i _=>((n.keys.length:Int)-i).toNat,⟨0,rfl,cN _,by simp,.refl _ _⟩,?_⟩;rintro _ _ ah ⟨j,rfl,f,rfl,g⟩;obtain⟨d0,d1,d2,d3⟩:=bw (o.ext g);refine⟨λaK=>?_,λb=>?_⟩
 .have aK:j<n.keys.length:=by have:=b_ aK;omega
  refine⟨_,d0,K,d1,V,d2,D,d3,(lW (h.ext (d.trans g)) hs aK I).use ?_⟩;rintro _ N ⟨s,rfl,p,A,_⟩;have q:=ld p;have C:=v_ hs j;have hc:=tP hs aK;have e:=oJ (l:=cellsOf n) (i:=j) I;rw[x j I]at e;refine⟨s,rfl,?_⟩;rw[q,bu (n:=((((cellsOf n).take j).sum:Nat):Int)+(((gj n j).length:Nat):Int)) I I,bu (n:=(j:Int)+1) I I];refine⟨⟨j+1,I,I,I,g.trans A⟩,?_⟩;show((n.keys.length:Int)-((j:Int)+1)).toNat<((n.keys.length:Int)-(j:Int)).toNat;omega
 have b:j=n.keys.length:=by have:=cG b;omega
 subst b;rw[dP (l:=cellsOf n) I];refine⟨λa i w'=>∃j:Nat,i=j/\j<=most/\a=((((cellsOf n).take j).sum:Nat):Int)/\Ext w1 w'/\∀k,k<j->2*((cellsOf n).take (k+1)).sum<(cellsOf n).sum,λ_ i _=>((most:Int)-i).toNat,⟨0,rfl,cN _,by simp,g,λk E=>I⟩,?_⟩;rintro _ _ O ⟨j,rfl,f,rfl,c,r⟩;obtain⟨d0,d1,d2,d3⟩:=bw (o.ext c);have F:=v_ hs (cellsOf n).length;rw[iB]at F;refine⟨λaK=>?_,λb=>?_⟩
 .have aK:j<most:=by have:=b_ aK;omega
  refine⟨_,d0,K,d1,V,d2,D,d3,(lW (h.ext (d.trans c)) hs I I).use ?_⟩;rintro _ P ⟨s,rfl,p,y,_⟩;have q:=ld p;have C:=v_ hs j;have hc:=tP hs (i:=j) I;have e:=oJ (l:=cellsOf n) (i:=j) I;rw[x j I]at e;refine⟨s,rfl,?_⟩;rw[q,bu (n:=((((cellsOf n).take j).sum:Nat):Int)+(((gj n j).length:Nat):Int)) I I,bu (n:=2*(((((cellsOf n).take j).sum:Nat):Int)+(((gj n j).length:Nat):Int))) I I,bu (n:=(j:Int)+1) I I];refine⟨λhd=>⟨?_,d.trans (c.trans y)⟩,λhd=>⟨⟨j+1,I,I,I,c.trans y,λk E=>?_⟩,?_⟩⟩
  .have hd:=b_ hd
   have t:(List.range most).find? (λi=>decide ((cellsOf n).sum<=2*((cellsOf n).take (i+1)).sum))=some j:=by
    have:=fl aK (bo most);rw[List.find?_eq_some_iff_append];refine⟨dL I,List.range j,List.range' (j+1) (most-(j+1)),?_,λa u=>?_⟩
    .have z:=List.range'_append (s:=0) (m:=j) (n:=most-(j+1)+1) (step:=1)
     rw[qU,qU,←List.range'_succ];rw[Nat.one_mul,cE]at z;rw[z]
     congr 1
     omega
    .have:=r a (iA.1 u)
     simp;omega
   unfold fG;rw[t];rfl
  .have hd:=cG hd
   rcases dR k j with h1|h1
   .exact r k h1
   .have:k=j:=by omega
    subst this;omega
  .show((most:Int)-((j:Int)+1)).toNat<((most:Int)-(j:Int)).toNat
   omega
 .have b:j=most:=by have:=cG b;omega
  subst b;refine⟨?_,d.trans c⟩;have t:(List.range j).find? (λi=>decide ((cellsOf n).sum<=2*((cellsOf n).take (i+1)).sum))=none:=by
   rw[iY];intro a u;have:=r a (iA.1 u);simp;omega
  unfold fG;rw[t]
theorem bf.sub{B:Nat->Prop}{w:J}{s:Y}{ls:O Key}{lo hi:Nat}(h:bf B w s ls)(h1:lo<=hi)(h2:hi<=ls.length):bf B w ⟨aO s.a 1 lo s.cap,hi-lo,s.cap-lo⟩ ((ls.drop lo).take (hi-lo)):=by
 have l:=bf.len h;obtain⟨ts,av,ax,b,c,d⟩:=h;refine⟨(ts.drop lo).take (hi-lo),by simp[av],?_,by show hi-lo<=s.cap-lo;omega,λk e=>?_,λi f g=>?_⟩
 .have:=Src.sub ax b h1 I
  simpa[nG,mm] using this
 .obtain⟨A,ar,j⟩:=tQ e
  exact c k ⟨A,ar,j⟩
 .simp only[pt,qX]
  rw[cC,cX]at f g;exact d (lo+i) I I
theorem bf.le{B:Nat->Prop}{w:J}{s:Y}{ls:O Key}(h:bf B w s ls):s.len<=s.cap:=by
 obtain⟨ts,_,_,a,_⟩:=h;exact a
theorem cx.sub{B:Nat->Prop}{w:J}{s:Y}{ds:O Nat}{lo hi:Nat}(h:cx B w s ds)(h1:lo<=hi)(h2:hi<=ds.length):cx B w ⟨aO s.a 1 lo s.cap,hi-lo,s.cap-lo⟩ ((ds.drop lo).take (hi-lo)):=by
 have f:=cx.len h;obtain⟨ax,b,c⟩:=h;have g:s.len<=s.cap:=b;refine⟨?_,by show hi-lo<=s.cap-lo;omega,λk d=>?_⟩
 .have:=Src.sub ax b h1 I
  simpa[dv,nG,mm] using this
 .obtain⟨A,ar,e⟩:=tQ d
  exact c k ⟨A,ar,e⟩
theorem fb(b:ai)(K V D:Y):∀v∈([b,K,V,D]:O aa),Plain v:=by
 intro v a;simp only[cP,eE,eL]at a;rcases a with rfl|rfl|rfl|rfl<;>trivial
theorem oU{c:J}{r1 bW:Nat}{wa wb:O aa}{cd bQ:ai}{cU c8 bd cq cy b9:Y}(h1:Var c r1 wa 202)(h2:Var c bW wb 202)(jc:wa.length=4)(n:wb.length=4)(o:r1≠bW){W:Nat->Prop}(cj:∀q,q=r1->W q)
 {Q:ai->Y->Y->Y->ai->Y->Y->Y->J->Prop} (u:∀b,ad (λq=>q=r1\/q=bW) c b->Q cd cU c8 bd bQ cq cy b9 b):
 bt c r1 [cd,cU,c8,bd]/\(4:Nat)=4/\an (setCells c r1 0 [cd,cU,c8,bd]) λd=>
  ad W c d/\bt d bW [bQ,cq,cy,b9]/\(4:Nat)=4/\an (setCells d bW 0 [bQ,cq,cy,b9]) λb=>
  ∃p:ai,b.cell? r1=some (.bool p)/\∃f:Y,b.cell? (Addr.add r1 1)=some (.slice f.a f.len f.cap)/\∃g:Y,b.cell? (Addr.add r1 2)=some (.slice g.a g.len g.cap)/\∃i:Y,b.cell? (Addr.add r1 3)=some (.slice i.a i.len i.cap)/\
  ∃r:ai,b.cell? bW=some (.bool r)/\∃j:Y,b.cell? (Addr.add bW 1)=some (.slice j.a j.len j.cap)/\∃k:Y,b.cell? (Addr.add bW 2)=some (.slice k.a k.len k.cap)/\∃l:Y,b.cell? (Addr.add bW 3)=some (.slice l.a l.len l.cap)/\Q p f g i r j k l b:=by
 refine⟨h1.b2 (by rw[jc];rfl) (fb _ _ _ _),rfl,cp h1 (us:=[cd,cU,c8,bd]) (by rw[jc];rfl) rfl λd v m _=>?_⟩;have s:=h2.ab m (λe=>o e.symm);refine⟨m.mono λq _ h=>cj q h,s.b2 (by rw[n];rfl) (fb _ _ _ _),rfl,cp s (us:=[bQ,cq,cy,b9]) (by rw[n];rfl) rfl λb w t _=>?_⟩;obtain⟨bI,aB,aT,aH⟩:=bw (v.ab t o);obtain⟨d0,d1,d2,d3⟩:=bw w;exact⟨cd,bI,cU,aB,c8,aT,bd,aH,bQ,d0,cq,d1,cy,d2,b9,d3,u b ((m.mono λq _ h=>.inl h).trans (t.mono λq _ h=>.inr h))⟩
def nd(n:aA)(w:J)(v:aa)(w':J):Prop:=
 ∃ (cU c8 bd cq cy b9 t:Y),v=.tuple #[cQ (n.left (b4 n)) cU c8 bd,t,cQ (n.right (b4 n)) cq cy b9,true]/\
  br (λq=>w.heap.size<=q) w' (n.left (b4 n)) cU c8 bd/\br (λq=>w.heap.size<=q) w' (n.right (b4 n)) cq cy b9/\bk (λq=>w.heap.size<=q) w' t (n.keys.getD (b4 n) [])/\Ext w w'
theorem oH{B:Nat->Prop}{w:J}{n:aA}{K V D:Y}(h:br B w n K V D)(hs:cv n)(bs:n.keys.length<=10000)(bt:1<=b4 n)
 (L:if n.leaf then b4 n<=n.keys.length-1/\1<=n.keys.length-1 else b4 n<=n.keys.length-2/\1<=n.keys.length-2):
 aP ak 299 #[cQ n K V D] w (nd n w):=by
 have b8:n.vals.length<=10000:=by
  rcases hs with hs|hs
  .rw[hs.len];omega
  .rw[hs.vals];simp
 have ca:n.kids.length<=10001:=by
  rcases hs with hs|hs
  .rw[hs.kids];simp
  .rw[hs.len];omega
 have E:∀k∈n.keys,k.length<=100000:=λk l=>by have:=(hs.keys.ok k l).2;omega
 have ap:∀k∈n.vals,k.length<=100000:=λk l=>by have:=hs.vals k l;omega
 have cb:=bf.len h.keys;obtain⟨most,aq⟩:∃most,most=if n.leaf then n.keys.length-1 else n.keys.length-2:=⟨_,rfl⟩
 have aS:1<=most/\most<=n.keys.length/\b4 n<=most:=by
  rw[aq]
  cases p:n.leaf<;>rw[p]at L<;>simp at L⊢<;>omega
 have O:b4 n<n.keys.length:=by
  cases p:n.leaf<;>rw[p]at L<;>simp at L<;>omega
 refine okF (af.oH n.leaf K V D) az.oH func299 ?_;(delta af.oH cc ag U a8 al au aH fO aB aI aW hX;dsimp only);refine bl (vs:=[n.leaf,K,V,D]) rfl λw1 bE bW ce=>?_;refine bl (vs:=[false,(),(),()]) rfl λah bX bx cf=>?_;refine bl (vs:=[false,(),(),()]) rfl λbY bZ bp cg=>?_;have bF:=bW.trans (bx.trans bp);obtain⟨bI,aB,aT,aH⟩:=bw ((bE.ext bx).ext bp);refine⟨K,aB,ct (λm w'=>m=(most:Int)/\bY=w') (λq f=>⟨n.leaf,bI,λao=>f _ _ ⟨?_,rfl⟩,λao=>f _ _ ⟨?_,rfl⟩⟩) ?_⟩
 .have ao:n.leaf=false:=by simpa using ao
  rw[ao]at L aq;simp at L aq;rw[bu (n:=(K.len:Int)-1) I I,bu I I];omega
 .have ao:n.leaf=true:=by simpa using ao
  rw[ao]at L aq;simp at L aq;rw[bu I I];omega
 rintro _ _ ⟨rfl,rfl⟩;refine⟨_,bI,K,aB,V,aT,D,aH,(jf (h.ext bF) I I I).use ?_⟩;rintro _ y ⟨b,rfl,ao,aU⟩;have b0:=ao.2 hs;subst b0;have aX:=cw y;have av:=bF.trans (aU.trans aX);have bq:=((bE.ext bx).ext bp).ext (aU.trans aX);have bz:=(bX.ext bp).ext (aU.trans aX);have bB:=bZ.ext (aU.trans aX);have ch:=(aU.trans aX).size;obtain⟨bI,aB,aT,aH⟩:=bw bq;refine⟨true,rfl,λh=>?_,λ_=>aY ⟨λ_=>False,id,_,bI,K,aB,V,aT,D,aH,id,_,bI,K,aB,V,aT,D,aH,⟨?_,?_⟩⟩⟩
 .simp only[Bool.not_true,kK]at h
  have:=b_ h;omega
 .refine(ek (h.ext av) I I I E ap).use ?_
  rintro _ bG ⟨c,d,aw,bD,bS,bA,rfl,ax,P⟩;refine⟨n.leaf,c,d,aw,rfl,P,⟨?_,?_⟩⟩
  .refine(lX (h.ext (av.trans P)) hs bs (most:=most) aS.2.1).use ?_
   rintro _ bC ⟨rfl,G⟩;refine⟨_,rfl,G,bl (vs:=[false,(),(),()]) rfl λbH aD H bJ=>⟨H,aD.b2 rfl (fb _ _ _ _),rfl,cp aD (us:=[n.leaf,c,d,aw]) rfl rfl λF aE C bK=>?_⟩⟩;have b1:=P.size;have b3:=G.size;obtain⟨aG,aZ⟩:∃aG,aG=bC.heap.size:=⟨_,rfl⟩;rw[←aZ]at aE C⊢;have M:=P.trans (G.trans H);have R:eD y.heap.size F n c d aw bD bS bA:=(ax.ext (G.trans H)).ab C λq _ _ f e=>by
    subst e;rcases f with f|f|f
    .have:=(ax.ba _ f).2.1;omega
    .have:=(ax.bv _ f).2.1;omega
    .have:=(ax.aI _ f).2;omega
   have bL:y.drew.heap.size=y.heap.size:=rfl;have N:Ext w F:=Ext.ck (av.trans M) C I;have aF:=(bq.ext M).ab C I;have aJ:=(bz.ext M).ab C I;have aK:=(bB.ext M).ab C I;have a0:fG (cellsOf n) most=b4 n:=by unfold b4;rw[aq]
   rw[a0];obtain⟨i,hi⟩:∃i,i=b4 n:=⟨_,rfl⟩;rw[←hi]at O aS bt;rw[←hi];obtain⟨aL,aM,a1,a2⟩:=bw aF;obtain⟨A,t,ar,a3,hc,ht,_⟩:=bf.at (h.ext N).keys O;refine⟨K,aM,A,ar,a3,t,hc,(jD (B:=λq=>w.heap.size<=q) ht.1 (by have:=E _ (cr O);omega) (λq f=>eI N.size f)).use ?_⟩;rintro _ r ⟨tk,rfl,aN,S,aQ⟩;have T:=cw r;obtain⟨aL,aM,a1,a2⟩:=bw (aF.ext S);have s:=S.trans T;obtain⟨f0,f1,f2,f3⟩:=bw (aE.ext s);have o:=R.at.ext s;have bM:=bf.len o.keys;have bN:=bf.len o.vals;have bO:=cx.len o.kids;have bP:=bf.le (bh.hJ R.keys);have bR:=bf.le (bh.hJ R.vals);have bT:aw.len<=aw.cap:=o.kids.2.1;have bU:F.heap.size<=r.heap.size:=S.size;have aR:n.keys.getD i []=n.keys[i]:=eQ O;refine⟨tk,rfl,n.leaf,aL,λp=>aY ⟨λq=>q=w1.heap.size,λe=>?_,c,f1,⟨I,I⟩,λe=>?_,d,f2,⟨I,?_⟩,#[true,.slice (aO c.a 1 0 c.cap) i c.cap,.slice (aO d.a 1 0 d.cap) i d.cap,()],(λw=>by kernel_rfl),λe=>?_,c,f1,⟨I,I⟩,λe=>?_,d,f2,⟨I,?_⟩,#[true,.slice (aO c.a 1 i c.cap) (c.len-i) (c.cap-i),.slice (aO d.a 1 i d.cap) (d.len-i) (d.cap-i),()],(λw=>by kernel_rfl),?_⟩,λp=>?_⟩
   .rw[ay]at e;have e:aG=w1.heap.size:=e;omega
   .rw[ay]at e;have e:aG=w1.heap.size:=e;omega
   .have:=hs.j5 p;omega
   .rw[ay]at e;have e:aG=w1.heap.size:=e;omega
   .rw[ay]at e;have e:aG=w1.heap.size:=e;omega
   .have:=hs.j5 p;omega
   .have a4:=hs.j5 p
    have g:n.left i=⟨true,n.keys.take i,n.vals.take i,[]⟩:=by unfold aA.left;rw[p];rfl
    have j:n.right i=⟨true,n.keys.drop i,n.vals.drop i,[]⟩:=by unfold aA.right;rw[p];rfl
    have W:br (λq=>y.heap.size<=q) r.drew (n.left i) ⟨aO c.a 1 0 c.cap,i,c.cap⟩ ⟨aO d.a 1 0 d.cap,i,d.cap⟩ bn:=by
     rw[g];refine⟨?_,?_,cx.none _ _⟩
     .have:=bf.sub o.keys (lo:=0) (hi:=i) I I
      simpa using this
     .have:=bf.sub o.vals (lo:=0) (hi:=i) I I
      simpa using this
    have X:br (λq=>y.heap.size<=q) r.drew (n.right i) ⟨aO c.a 1 i c.cap,c.len-i,c.cap-i⟩ ⟨aO d.a 1 i d.cap,d.len-i,d.cap-i⟩ bn:=by
     rw[j];refine⟨?_,?_,cx.none _ _⟩
     .have:=bf.sub o.keys (lo:=i) (hi:=c.len) I I
      rwa[dP (by rw[cX];omega)]at this
     .have:=bf.sub o.vals (lo:=i) (hi:=d.len) I I
      rwa[dP (by rw[cX];omega)]at this
    have Z:=ek W (by rw[g];show(n.keys.take i).length<=_;rw[cC];omega) (by rw[g];show(n.vals.take i).length<=_;rw[cC];omega) (by rw[g];simp) (by rw[g];exact λk l=>E k (eS l)) (by rw[g];exact λk l=>ap k (eS l));have ac:(.agg #[true,.slice (aO c.a 1 0 c.cap) i c.cap,.slice (aO d.a 1 0 d.cap) i d.cap,()]:aa)=cQ (n.left i) ⟨aO c.a 1 0 c.cap,i,c.cap⟩ ⟨aO d.a 1 0 d.cap,i,d.cap⟩ bn:=by rw[g];rfl
    have ae:(.agg #[true,.slice (aO c.a 1 i c.cap) (c.len-i) (c.cap-i),.slice (aO d.a 1 i d.cap) (d.len-i) (d.cap-i),()]:aa)=cQ (n.right i) ⟨aO c.a 1 i c.cap,c.len-i,c.cap-i⟩ ⟨aO d.a 1 i d.cap,d.len-i,d.cap-i⟩ bn:=by rw[j];rfl
    rw[ac,ae];refine Z.use ?_;rintro _ a5 ⟨cU,c8,bd,a6,a7,a9,rfl,ai,u⟩;have aj:=ek (X.ext u) (by rw[j];show(n.keys.drop i).length<=_;rw[cX];omega) (by rw[j];show(n.vals.drop i).length<=_;rw[cX];omega) (by rw[j];simp) (by rw[j];exact λk l=>E k (eJ l)) (by rw[j];exact λk l=>ap k (eJ l));refine⟨_,cU,c8,bd,rfl,ad.cK u,aj.use ?_⟩;rintro _ a_ ⟨cq,cy,b9,bb,bc,be,rfl,am,z⟩;have v:=u.trans z;have bg:=u.size;have bi:=s.size;refine⟨_,cq,cy,b9,rfl,ad.cK z,oU (cd:=(n.left i).leaf) (bQ:=(n.right i).leaf) (cU:=cU) (c8:=c8) (bd:=bd) (cq:=cq) (cy:=cy) (b9:=b9) ((aJ.ext s).ext v) ((aK.ext s).ext v) rfl rfl I (λq f=>f) (Q:=λcd cU c8 bd bQ cq cy b9 w'=>nd n w (.tuple #[.agg #[cd,cU,c8,bd],tk,.agg #[bQ,cq,cy,b9],true]) w') λbj x=>?_⟩;have bm:r.drew.heap.size=r.heap.size:=rfl;refine⟨cU,c8,bd,cq,cy,b9,tk,by rw[←hi];rfl,?_,?_,?_,?_⟩
    .rw[←hi];exact((ai.at.ext z).ab x λq f e=>I).aV λq _ f=>by omega
    .rw[←hi];exact(am.at.ab x λq f e=>I).aV λq _ f=>by omega
    .rw[←hi,aR]
     have an:∀q,aC tk q->F.heap.size<=q:=aQ;exact bk.hG (bk.ext (bk.ext aN T) v) x λq f e=>by have:=an q f;omega
    .exact Ext.dc (N.trans (s.trans v)) x λq f=>by omega
   .have a4:=hs.oR p
    have bV:i<=n.keys.length-2/\1<=n.keys.length-2:=by rw[p,←hi]at L;simpa using L
    have bo:IntKind.wrap .i64 ((i:Int)+1)=((i+1:Nat):Int):=by rw[bu I I];rfl
    rw[bo];refine aY ⟨λq=>q=w1.heap.size,λe=>?_,c,f1,⟨I,I⟩,λe=>?_,aw,f3,⟨I,I⟩,#[false,.slice (aO c.a 1 0 c.cap) i c.cap,(),.slice (aO aw.a 1 0 aw.cap) (i+1) aw.cap],(λw=>by kernel_rfl),λe=>?_,c,f1,⟨I,I⟩,λe=>?_,aw,f3,⟨I,I⟩,#[false,.slice (aO c.a 1 (i+1) c.cap) (c.len-(i+1)) (c.cap-(i+1)),(),.slice (aO aw.a 1 (i+1) aw.cap) (aw.len-(i+1)) (aw.cap-(i+1))],(λw=>by kernel_rfl),?_⟩
    .rw[ay]at e;have e:aG=w1.heap.size:=e;omega
    .rw[ay]at e;have e:aG=w1.heap.size:=e;omega
    .rw[ay]at e;have e:aG=w1.heap.size:=e;omega
    .rw[ay]at e;have e:aG=w1.heap.size:=e;omega
    have g:n.left i=⟨false,n.keys.take i,[],n.kids.take (i+1)⟩:=by unfold aA.left;rw[p];rfl
    have j:n.right i=⟨false,n.keys.drop (i+1),[],n.kids.drop (i+1)⟩:=by unfold aA.right;rw[p];rfl
    have W:br (λq=>y.heap.size<=q) r.drew (n.left i) ⟨aO c.a 1 0 c.cap,i,c.cap⟩ bn ⟨aO aw.a 1 0 aw.cap,i+1,aw.cap⟩:=by
     rw[g];refine⟨?_,bf.none _ _,?_⟩
     .have:=bf.sub o.keys (lo:=0) (hi:=i) I I
      simpa using this
     .have:=cx.sub o.kids (lo:=0) (hi:=i+1) I I
      simpa using this
    have X:br (λq=>y.heap.size<=q) r.drew (n.right i) ⟨aO c.a 1 (i+1) c.cap,c.len-(i+1),c.cap-(i+1)⟩ bn ⟨aO aw.a 1 (i+1) aw.cap,aw.len-(i+1),aw.cap-(i+1)⟩:=by
     rw[j];refine⟨?_,bf.none _ _,?_⟩
     .have:=bf.sub o.keys (lo:=i+1) (hi:=c.len) I I
      rwa[dP (by rw[cX];omega)]at this
     .have:=cx.sub o.kids (lo:=i+1) (hi:=aw.len) I I
      rwa[dP (by rw[cX];omega)]at this
    have Z:=ek W (by rw[g];show(n.keys.take i).length<=_;rw[cC];omega) (by rw[g];simp) (by rw[g];show(n.kids.take (i+1)).length<=_;rw[cC];omega) (by rw[g];exact λk l=>E k (eS l)) (by rw[g];simp);have ac:(.agg #[false,.slice (aO c.a 1 0 c.cap) i c.cap,(),.slice (aO aw.a 1 0 aw.cap) (i+1) aw.cap]:aa)=cQ (n.left i) ⟨aO c.a 1 0 c.cap,i,c.cap⟩ bn ⟨aO aw.a 1 0 aw.cap,i+1,aw.cap⟩:=by rw[g];rfl
    have ae:(.agg #[false,.slice (aO c.a 1 (i+1) c.cap) (c.len-(i+1)) (c.cap-(i+1)),(),.slice (aO aw.a 1 (i+1) aw.cap) (aw.len-(i+1)) (aw.cap-(i+1))]:aa)=cQ (n.right i) ⟨aO c.a 1 (i+1) c.cap,c.len-(i+1),c.cap-(i+1)⟩ bn ⟨aO aw.a 1 (i+1) aw.cap,aw.len-(i+1),aw.cap-(i+1)⟩:=by rw[j];rfl
    rw[ac,ae];refine Z.use ?_;rintro _ a5 ⟨cU,c8,bd,a6,a7,a9,rfl,ai,u⟩;have aj:=ek (X.ext u) (by rw[j];show(n.keys.drop (i+1)).length<=_;rw[cX];omega) (by rw[j];simp) (by rw[j];show(n.kids.drop (i+1)).length<=_;rw[cX];omega) (by rw[j];exact λk l=>E k (eJ l)) (by rw[j];simp);refine⟨_,cU,c8,bd,rfl,ad.cK u,aj.use ?_⟩;rintro _ a_ ⟨cq,cy,b9,bb,bc,be,rfl,am,z⟩;have v:=u.trans z;have bg:=u.size;have bi:=s.size;refine⟨_,cq,cy,b9,rfl,ad.cK z,oU (cd:=(n.left i).leaf) (bQ:=(n.right i).leaf) (cU:=cU) (c8:=c8) (bd:=bd) (cq:=cq) (cy:=cy) (b9:=b9) ((aJ.ext s).ext v) ((aK.ext s).ext v) rfl rfl I (λq f=>f) (Q:=λcd cU c8 bd bQ cq cy b9 w'=>nd n w (.tuple #[.agg #[cd,cU,c8,bd],tk,.agg #[bQ,cq,cy,b9],true]) w') λbj x=>?_⟩;have bm:r.drew.heap.size=r.heap.size:=rfl;refine⟨cU,c8,bd,cq,cy,b9,tk,by rw[←hi];rfl,?_,?_,?_,?_⟩
    .rw[←hi];exact((ai.at.ext z).ab x λq f e=>I).aV λq _ f=>by omega
    .rw[←hi];exact(am.at.ab x λq f e=>I).aV λq _ f=>by omega
    .rw[←hi,aR]
     have an:∀q,aC tk q->F.heap.size<=q:=aQ;exact bk.hG (bk.ext (bk.ext aN T) v) x λq f e=>by have:=an q f;omega
    .exact Ext.dc (N.trans (s.trans v)) x λq f=>by omega
  .refine bl (vs:=[false,(),(),()]) rfl λbC b5 G ci=>⟨G,?_⟩
   refine(lX (h.ext (av.trans (P.trans G))) hs bs (most:=most) aS.2.1).use ?_;rintro _ bH ⟨rfl,H⟩;have aD:=b5.ext H;refine⟨_,rfl,H,aD.b2 rfl (fb _ _ _ _),rfl,cp aD (us:=[n.leaf,c,d,aw]) rfl rfl λF aE C bK=>?_⟩;have b1:=P.size;have bJ:=H.size;obtain⟨aG,aZ⟩:∃aG,aG=bG.heap.size:=⟨_,rfl⟩;rw[←aZ]at aE C⊢;have M:=P.trans (G.trans H);have R:eD y.heap.size F n c d aw bD bS bA:=(ax.ext (G.trans H)).ab C λq _ _ f e=>by
    subst e;rcases f with f|f|f
    .have:=(ax.ba _ f).2.1;omega
    .have:=(ax.bv _ f).2.1;omega
    .have:=(ax.aI _ f).2;omega
   have bL:y.drew.heap.size=y.heap.size:=rfl;have N:Ext w F:=Ext.ck (av.trans M) C I;have aF:=(bq.ext M).ab C I;have aJ:=(bz.ext M).ab C I;have aK:=(bB.ext M).ab C I;have a0:fG (cellsOf n) most=b4 n:=by unfold b4;rw[aq]
   rw[a0];obtain⟨i,hi⟩:∃i,i=b4 n:=⟨_,rfl⟩;rw[←hi]at O aS bt;rw[←hi];obtain⟨aL,aM,a1,a2⟩:=bw aF;obtain⟨A,t,ar,a3,hc,ht,_⟩:=bf.at (h.ext N).keys O;refine⟨K,aM,A,ar,a3,t,hc,(jD (B:=λq=>w.heap.size<=q) ht.1 (by have:=E _ (cr O);omega) (λq f=>eI N.size f)).use ?_⟩;rintro _ r ⟨tk,rfl,aN,S,aQ⟩;have T:=cw r;obtain⟨aL,aM,a1,a2⟩:=bw (aF.ext S);have s:=S.trans T;obtain⟨f0,f1,f2,f3⟩:=bw (aE.ext s);have o:=R.at.ext s;have bM:=bf.len o.keys;have bN:=bf.len o.vals;have bO:=cx.len o.kids;have bP:=bf.le (bh.hJ R.keys);have bR:=bf.le (bh.hJ R.vals);have bT:aw.len<=aw.cap:=o.kids.2.1;have bU:F.heap.size<=r.heap.size:=S.size;have aR:n.keys.getD i []=n.keys[i]:=eQ O;refine⟨tk,rfl,n.leaf,aL,λp=>aY ⟨λq=>q=w1.heap.size,λe=>?_,c,f1,⟨I,I⟩,λe=>?_,d,f2,⟨I,?_⟩,#[true,.slice (aO c.a 1 0 c.cap) i c.cap,.slice (aO d.a 1 0 d.cap) i d.cap,()],(λw=>by kernel_rfl),λe=>?_,c,f1,⟨I,I⟩,λe=>?_,d,f2,⟨I,?_⟩,#[true,.slice (aO c.a 1 i c.cap) (c.len-i) (c.cap-i),.slice (aO d.a 1 i d.cap) (d.len-i) (d.cap-i),()],(λw=>by kernel_rfl),?_⟩,λp=>?_⟩
   .rw[ay]at e;have e:aG=w1.heap.size:=e;omega
   .rw[ay]at e;have e:aG=w1.heap.size:=e;omega
   .have:=hs.j5 p;omega
   .rw[ay]at e;have e:aG=w1.heap.size:=e;omega
   .rw[ay]at e;have e:aG=w1.heap.size:=e;omega
   .have:=hs.j5 p;omega
   .have a4:=hs.j5 p
    have g:n.left i=⟨true,n.keys.take i,n.vals.take i,[]⟩:=by unfold aA.left;rw[p];rfl
    have j:n.right i=⟨true,n.keys.drop i,n.vals.drop i,[]⟩:=by unfold aA.right;rw[p];rfl
    have W:br (λq=>y.heap.size<=q) r.drew (n.left i) ⟨aO c.a 1 0 c.cap,i,c.cap⟩ ⟨aO d.a 1 0 d.cap,i,d.cap⟩ bn:=by
     rw[g];refine⟨?_,?_,cx.none _ _⟩
     .have:=bf.sub o.keys (lo:=0) (hi:=i) I I
      simpa using this
     .have:=bf.sub o.vals (lo:=0) (hi:=i) I I
      simpa using this
    have X:br (λq=>y.heap.size<=q) r.drew (n.right i) ⟨aO c.a 1 i c.cap,c.len-i,c.cap-i⟩ ⟨aO d.a 1 i d.cap,d.len-i,d.cap-i⟩ bn:=by
     rw[j];refine⟨?_,?_,cx.none _ _⟩
     .have:=bf.sub o.keys (lo:=i) (hi:=c.len) I I
      rwa[dP (by rw[cX];omega)]at this
     .have:=bf.sub o.vals (lo:=i) (hi:=d.len) I I
      rwa[dP (by rw[cX];omega)]at this
    have Z:=ek W (by rw[g];show(n.keys.take i).length<=_;rw[cC];omega) (by rw[g];show(n.vals.take i).length<=_;rw[cC];omega) (by rw[g];simp) (by rw[g];exact λk l=>E k (eS l)) (by rw[g];exact λk l=>ap k (eS l));have ac:(.agg #[true,.slice (aO c.a 1 0 c.cap) i c.cap,.slice (aO d.a 1 0 d.cap) i d.cap,()]:aa)=cQ (n.left i) ⟨aO c.a 1 0 c.cap,i,c.cap⟩ ⟨aO d.a 1 0 d.cap,i,d.cap⟩ bn:=by rw[g];rfl
    have ae:(.agg #[true,.slice (aO c.a 1 i c.cap) (c.len-i) (c.cap-i),.slice (aO d.a 1 i d.cap) (d.len-i) (d.cap-i),()]:aa)=cQ (n.right i) ⟨aO c.a 1 i c.cap,c.len-i,c.cap-i⟩ ⟨aO d.a 1 i d.cap,d.len-i,d.cap-i⟩ bn:=by rw[j];rfl
    rw[ac,ae];refine Z.use ?_;rintro _ a5 ⟨cU,c8,bd,a6,a7,a9,rfl,ai,u⟩;have aj:=ek (X.ext u) (by rw[j];show(n.keys.drop i).length<=_;rw[cX];omega) (by rw[j];show(n.vals.drop i).length<=_;rw[cX];omega) (by rw[j];simp) (by rw[j];exact λk l=>E k (eJ l)) (by rw[j];exact λk l=>ap k (eJ l));refine⟨_,cU,c8,bd,rfl,ad.cK u,aj.use ?_⟩;rintro _ a_ ⟨cq,cy,b9,bb,bc,be,rfl,am,z⟩;have v:=u.trans z;have bg:=u.size;have bi:=s.size;refine⟨_,cq,cy,b9,rfl,ad.cK z,oU (cd:=(n.left i).leaf) (bQ:=(n.right i).leaf) (cU:=cU) (c8:=c8) (bd:=bd) (cq:=cq) (cy:=cy) (b9:=b9) ((aJ.ext s).ext v) ((aK.ext s).ext v) rfl rfl I (λq f=>f) (Q:=λcd cU c8 bd bQ cq cy b9 w'=>nd n w (.tuple #[.agg #[cd,cU,c8,bd],tk,.agg #[bQ,cq,cy,b9],true]) w') λbj x=>?_⟩;have bm:r.drew.heap.size=r.heap.size:=rfl;refine⟨cU,c8,bd,cq,cy,b9,tk,by rw[←hi];rfl,?_,?_,?_,?_⟩
    .rw[←hi];exact((ai.at.ext z).ab x λq f e=>I).aV λq _ f=>by omega
    .rw[←hi];exact(am.at.ab x λq f e=>I).aV λq _ f=>by omega
    .rw[←hi,aR]
     have an:∀q,aC tk q->F.heap.size<=q:=aQ;exact bk.hG (bk.ext (bk.ext aN T) v) x λq f e=>by have:=an q f;omega
    .exact Ext.dc (N.trans (s.trans v)) x λq f=>by omega
   .have a4:=hs.oR p
    have bV:i<=n.keys.length-2/\1<=n.keys.length-2:=by rw[p,←hi]at L;simpa using L
    have bo:IntKind.wrap .i64 ((i:Int)+1)=((i+1:Nat):Int):=by rw[bu I I];rfl
    rw[bo];refine aY ⟨λq=>q=w1.heap.size,λe=>?_,c,f1,⟨I,I⟩,λe=>?_,aw,f3,⟨I,I⟩,#[false,.slice (aO c.a 1 0 c.cap) i c.cap,(),.slice (aO aw.a 1 0 aw.cap) (i+1) aw.cap],(λw=>by kernel_rfl),λe=>?_,c,f1,⟨I,I⟩,λe=>?_,aw,f3,⟨I,I⟩,#[false,.slice (aO c.a 1 (i+1) c.cap) (c.len-(i+1)) (c.cap-(i+1)),(),.slice (aO aw.a 1 (i+1) aw.cap) (aw.len-(i+1)) (aw.cap-(i+1))],(λw=>by kernel_rfl),?_⟩
    .rw[ay]at e;have e:aG=w1.heap.size:=e;omega
    .rw[ay]at e;have e:aG=w1.heap.size:=e;omega
    .rw[ay]at e;have e:aG=w1.heap.size:=e;omega
    .rw[ay]at e;have e:aG=w1.heap.size:=e;omega
    have g:n.left i=⟨false,n.keys.take i,[],n.kids.take (i+1)⟩:=by unfold aA.left;rw[p];rfl
    have j:n.right i=⟨false,n.keys.drop (i+1),[],n.kids.drop (i+1)⟩:=by unfold aA.right;rw[p];rfl
    have W:br (λq=>y.heap.size<=q) r.drew (n.left i) ⟨aO c.a 1 0 c.cap,i,c.cap⟩ bn ⟨aO aw.a 1 0 aw.cap,i+1,aw.cap⟩:=by
     rw[g];refine⟨?_,bf.none _ _,?_⟩
     .have:=bf.sub o.keys (lo:=0) (hi:=i) I I
      simpa using this
     .have:=cx.sub o.kids (lo:=0) (hi:=i+1) I I
      simpa using this
    have X:br (λq=>y.heap.size<=q) r.drew (n.right i) ⟨aO c.a 1 (i+1) c.cap,c.len-(i+1),c.cap-(i+1)⟩ bn ⟨aO aw.a 1 (i+1) aw.cap,aw.len-(i+1),aw.cap-(i+1)⟩:=by
     rw[j];refine⟨?_,bf.none _ _,?_⟩
     .have:=bf.sub o.keys (lo:=i+1) (hi:=c.len) I I
      rwa[dP (by rw[cX];omega)]at this
     .have:=cx.sub o.kids (lo:=i+1) (hi:=aw.len) I I
      rwa[dP (by rw[cX];omega)]at this
    have Z:=ek W (by rw[g];show(n.keys.take i).length<=_;rw[cC];omega) (by rw[g];simp) (by rw[g];show(n.kids.take (i+1)).length<=_;rw[cC];omega) (by rw[g];exact λk l=>E k (eS l)) (by rw[g];simp);have ac:(.agg #[false,.slice (aO c.a 1 0 c.cap) i c.cap,(),.slice (aO aw.a 1 0 aw.cap) (i+1) aw.cap]:aa)=cQ (n.left i) ⟨aO c.a 1 0 c.cap,i,c.cap⟩ bn ⟨aO aw.a 1 0 aw.cap,i+1,aw.cap⟩:=by rw[g];rfl
    have ae:(.agg #[false,.slice (aO c.a 1 (i+1) c.cap) (c.len-(i+1)) (c.cap-(i+1)),(),.slice (aO aw.a 1 (i+1) aw.cap) (aw.len-(i+1)) (aw.cap-(i+1))]:aa)=cQ (n.right i) ⟨aO c.a 1 (i+1) c.cap,c.len-(i+1),c.cap-(i+1)⟩ bn ⟨aO aw.a 1 (i+1) aw.cap,aw.len-(i+1),aw.cap-(i+1)⟩:=by rw[j];rfl
    rw[ac,ae];refine Z.use ?_;rintro _ a5 ⟨cU,c8,bd,a6,a7,a9,rfl,ai,u⟩;have aj:=ek (X.ext u) (by rw[j];show(n.keys.drop (i+1)).length<=_;rw[cX];omega) (by rw[j];simp) (by rw[j];show(n.kids.drop (i+1)).length<=_;rw[cX];omega) (by rw[j];exact λk l=>E k (eJ l)) (by rw[j];simp);refine⟨_,cU,c8,bd,rfl,ad.cK u,aj.use ?_⟩;rintro _ a_ ⟨cq,cy,b9,bb,bc,be,rfl,am,z⟩;have v:=u.trans z;have bg:=u.size;have bi:=s.size;refine⟨_,cq,cy,b9,rfl,ad.cK z,oU (cd:=(n.left i).leaf) (bQ:=(n.right i).leaf) (cU:=cU) (c8:=c8) (bd:=bd) (cq:=cq) (cy:=cy) (b9:=b9) ((aJ.ext s).ext v) ((aK.ext s).ext v) rfl rfl I (λq f=>f) (Q:=λcd cU c8 bd bQ cq cy b9 w'=>nd n w (.tuple #[.agg #[cd,cU,c8,bd],tk,.agg #[bQ,cq,cy,b9],true]) w') λbj x=>?_⟩;have bm:r.drew.heap.size=r.heap.size:=rfl;refine⟨cU,c8,bd,cq,cy,b9,tk,by rw[←hi];rfl,?_,?_,?_,?_⟩
    .rw[←hi];exact((ai.at.ext z).ab x λq f e=>I).aV λq _ f=>by omega
    .rw[←hi];exact(am.at.ab x λq f e=>I).aV λq _ f=>by omega
    .rw[←hi,aR]
     have an:∀q,aC tk q->F.heap.size<=q:=aQ;exact bk.hG (bk.ext (bk.ext aN T) v) x λq f e=>by have:=an q f;omega
    .exact Ext.dc (N.trans (s.trans v)) x λq f=>by omega
 .refine bl (vs:=[false,(),(),()]) rfl λbG b6 P cj=>⟨P,?_⟩
  refine(ek (h.ext (av.trans P)) I I I E ap).use ?_;rintro _ bC ⟨c,d,aw,bD,bS,bA,rfl,b7,G⟩;refine⟨n.leaf,c,d,aw,rfl,G,(lX (h.ext (av.trans (P.trans G))) hs bs (most:=most) aS.2.1).use ?_⟩;rintro _ bH ⟨rfl,H⟩;have aD:=b6.ext (G.trans H);refine⟨_,rfl,H,aD.b2 rfl (fb _ _ _ _),rfl,cp aD (us:=[n.leaf,c,d,aw]) rfl rfl λF aE C bK=>?_⟩;have b3:=G.size;have bJ:=H.size;have bL:y.drew.heap.size=y.heap.size:=rfl;obtain⟨aG,aZ⟩:∃aG,aG=y.drew.heap.size:=⟨_,rfl⟩;rw[←aZ]at aE C⊢;have M:=P.trans (G.trans H);have R:eD y.heap.size F n c d aw bD bS bA:=((b7.ext H).ab C λq h1 _ _ e=>I).low I;have N:Ext w F:=Ext.ck (av.trans M) C I;have aF:=(bq.ext M).ab C I;have aJ:=(bz.ext M).ab C I;have aK:=(bB.ext M).ab C I;have a0:fG (cellsOf n) most=b4 n:=by unfold b4;rw[aq]
  rw[a0];obtain⟨i,hi⟩:∃i,i=b4 n:=⟨_,rfl⟩;rw[←hi]at O aS bt;rw[←hi];obtain⟨aL,aM,a1,a2⟩:=bw aF;obtain⟨A,t,ar,a3,hc,ht,_⟩:=bf.at (h.ext N).keys O;refine⟨K,aM,A,ar,a3,t,hc,(jD (B:=λq=>w.heap.size<=q) ht.1 (by have:=E _ (cr O);omega) (λq f=>eI N.size f)).use ?_⟩;rintro _ r ⟨tk,rfl,aN,S,aQ⟩;have T:=cw r;obtain⟨aL,aM,a1,a2⟩:=bw (aF.ext S);have s:=S.trans T;obtain⟨f0,f1,f2,f3⟩:=bw (aE.ext s);have o:=R.at.ext s;have bM:=bf.len o.keys;have bN:=bf.len o.vals;have bO:=cx.len o.kids;have bP:=bf.le (bh.hJ R.keys);have bR:=bf.le (bh.hJ R.vals);have bT:aw.len<=aw.cap:=o.kids.2.1;have bU:F.heap.size<=r.heap.size:=S.size;have aR:n.keys.getD i []=n.keys[i]:=eQ O;refine⟨tk,rfl,n.leaf,aL,λp=>aY ⟨λq=>q=w1.heap.size,λe=>?_,c,f1,⟨I,I⟩,λe=>?_,d,f2,⟨I,?_⟩,#[true,.slice (aO c.a 1 0 c.cap) i c.cap,.slice (aO d.a 1 0 d.cap) i d.cap,()],(λw=>by kernel_rfl),λe=>?_,c,f1,⟨I,I⟩,λe=>?_,d,f2,⟨I,?_⟩,#[true,.slice (aO c.a 1 i c.cap) (c.len-i) (c.cap-i),.slice (aO d.a 1 i d.cap) (d.len-i) (d.cap-i),()],(λw=>by kernel_rfl),?_⟩,λp=>?_⟩
  .rw[ay]at e;have e:aG=w1.heap.size:=e;omega
  .rw[ay]at e;have e:aG=w1.heap.size:=e;omega
  .have:=hs.j5 p;omega
  .rw[ay]at e;have e:aG=w1.heap.size:=e;omega
  .rw[ay]at e;have e:aG=w1.heap.size:=e;omega
  .have:=hs.j5 p;omega
  .have a4:=hs.j5 p
   have g:n.left i=⟨true,n.keys.take i,n.vals.take i,[]⟩:=by unfold aA.left;rw[p];rfl
   have j:n.right i=⟨true,n.keys.drop i,n.vals.drop i,[]⟩:=by unfold aA.right;rw[p];rfl
   have W:br (λq=>y.heap.size<=q) r.drew (n.left i) ⟨aO c.a 1 0 c.cap,i,c.cap⟩ ⟨aO d.a 1 0 d.cap,i,d.cap⟩ bn:=by
    rw[g];refine⟨?_,?_,cx.none _ _⟩
    .have:=bf.sub o.keys (lo:=0) (hi:=i) I I
     simpa using this
    .have:=bf.sub o.vals (lo:=0) (hi:=i) I I
     simpa using this
   have X:br (λq=>y.heap.size<=q) r.drew (n.right i) ⟨aO c.a 1 i c.cap,c.len-i,c.cap-i⟩ ⟨aO d.a 1 i d.cap,d.len-i,d.cap-i⟩ bn:=by
    rw[j];refine⟨?_,?_,cx.none _ _⟩
    .have:=bf.sub o.keys (lo:=i) (hi:=c.len) I I
     rwa[dP (by rw[cX];omega)]at this
    .have:=bf.sub o.vals (lo:=i) (hi:=d.len) I I
     rwa[dP (by rw[cX];omega)]at this
   have Z:=ek W (by rw[g];show(n.keys.take i).length<=_;rw[cC];omega) (by rw[g];show(n.vals.take i).length<=_;rw[cC];omega) (by rw[g];simp) (by rw[g];exact λk l=>E k (eS l)) (by rw[g];exact λk l=>ap k (eS l));have ac:(.agg #[true,.slice (aO c.a 1 0 c.cap) i c.cap,.slice (aO d.a 1 0 d.cap) i d.cap,()]:aa)=cQ (n.left i) ⟨aO c.a 1 0 c.cap,i,c.cap⟩ ⟨aO d.a 1 0 d.cap,i,d.cap⟩ bn:=by rw[g];rfl
   have ae:(.agg #[true,.slice (aO c.a 1 i c.cap) (c.len-i) (c.cap-i),.slice (aO d.a 1 i d.cap) (d.len-i) (d.cap-i),()]:aa)=cQ (n.right i) ⟨aO c.a 1 i c.cap,c.len-i,c.cap-i⟩ ⟨aO d.a 1 i d.cap,d.len-i,d.cap-i⟩ bn:=by rw[j];rfl
   rw[ac,ae];refine Z.use ?_;rintro _ a5 ⟨cU,c8,bd,a6,a7,a9,rfl,ai,u⟩;have aj:=ek (X.ext u) (by rw[j];show(n.keys.drop i).length<=_;rw[cX];omega) (by rw[j];show(n.vals.drop i).length<=_;rw[cX];omega) (by rw[j];simp) (by rw[j];exact λk l=>E k (eJ l)) (by rw[j];exact λk l=>ap k (eJ l));refine⟨_,cU,c8,bd,rfl,ad.cK u,aj.use ?_⟩;rintro _ a_ ⟨cq,cy,b9,bb,bc,be,rfl,am,z⟩;have v:=u.trans z;have bg:=u.size;have bi:=s.size;refine⟨_,cq,cy,b9,rfl,ad.cK z,oU (cd:=(n.left i).leaf) (bQ:=(n.right i).leaf) (cU:=cU) (c8:=c8) (bd:=bd) (cq:=cq) (cy:=cy) (b9:=b9) ((aJ.ext s).ext v) ((aK.ext s).ext v) rfl rfl I (λq f=>f) (Q:=λcd cU c8 bd bQ cq cy b9 w'=>nd n w (.tuple #[.agg #[cd,cU,c8,bd],tk,.agg #[bQ,cq,cy,b9],true]) w') λbj x=>?_⟩;have bm:r.drew.heap.size=r.heap.size:=rfl;refine⟨cU,c8,bd,cq,cy,b9,tk,by rw[←hi];rfl,?_,?_,?_,?_⟩
   .rw[←hi];exact((ai.at.ext z).ab x λq f e=>I).aV λq _ f=>by omega
   .rw[←hi];exact(am.at.ab x λq f e=>I).aV λq _ f=>by omega
   .rw[←hi,aR]
    have an:∀q,aC tk q->F.heap.size<=q:=aQ;exact bk.hG (bk.ext (bk.ext aN T) v) x λq f e=>by have:=an q f;omega
   .exact Ext.dc (N.trans (s.trans v)) x λq f=>by omega
  .have a4:=hs.oR p
   have bV:i<=n.keys.length-2/\1<=n.keys.length-2:=by rw[p,←hi]at L;simpa using L
   have bo:IntKind.wrap .i64 ((i:Int)+1)=((i+1:Nat):Int):=by rw[bu I I];rfl
   rw[bo];refine aY ⟨λq=>q=w1.heap.size,λe=>?_,c,f1,⟨I,I⟩,λe=>?_,aw,f3,⟨I,I⟩,#[false,.slice (aO c.a 1 0 c.cap) i c.cap,(),.slice (aO aw.a 1 0 aw.cap) (i+1) aw.cap],(λw=>by kernel_rfl),λe=>?_,c,f1,⟨I,I⟩,λe=>?_,aw,f3,⟨I,I⟩,#[false,.slice (aO c.a 1 (i+1) c.cap) (c.len-(i+1)) (c.cap-(i+1)),(),.slice (aO aw.a 1 (i+1) aw.cap) (aw.len-(i+1)) (aw.cap-(i+1))],(λw=>by kernel_rfl),?_⟩
   .rw[ay]at e;have e:aG=w1.heap.size:=e;omega
   .rw[ay]at e;have e:aG=w1.heap.size:=e;omega
   .rw[ay]at e;have e:aG=w1.heap.size:=e;omega
   .rw[ay]at e;have e:aG=w1.heap.size:=e;omega
   have g:n.left i=⟨false,n.keys.take i,[],n.kids.take (i+1)⟩:=by unfold aA.left;rw[p];rfl
   have j:n.right i=⟨false,n.keys.drop (i+1),[],n.kids.drop (i+1)⟩:=by unfold aA.right;rw[p];rfl
   have W:br (λq=>y.heap.size<=q) r.drew (n.left i) ⟨aO c.a 1 0 c.cap,i,c.cap⟩ bn ⟨aO aw.a 1 0 aw.cap,i+1,aw.cap⟩:=by
    rw[g];refine⟨?_,bf.none _ _,?_⟩
    .have:=bf.sub o.keys (lo:=0) (hi:=i) I I
     simpa using this
    .have:=cx.sub o.kids (lo:=0) (hi:=i+1) I I
     simpa using this
   have X:br (λq=>y.heap.size<=q) r.drew (n.right i) ⟨aO c.a 1 (i+1) c.cap,c.len-(i+1),c.cap-(i+1)⟩ bn ⟨aO aw.a 1 (i+1) aw.cap,aw.len-(i+1),aw.cap-(i+1)⟩:=by
    rw[j];refine⟨?_,bf.none _ _,?_⟩
    .have:=bf.sub o.keys (lo:=i+1) (hi:=c.len) I I
     rwa[dP (by rw[cX];omega)]at this
    .have:=cx.sub o.kids (lo:=i+1) (hi:=aw.len) I I
     rwa[dP (by rw[cX];omega)]at this
   have Z:=ek W (by rw[g];show(n.keys.take i).length<=_;rw[cC];omega) (by rw[g];simp) (by rw[g];show(n.kids.take (i+1)).length<=_;rw[cC];omega) (by rw[g];exact λk l=>E k (eS l)) (by rw[g];simp);have ac:(.agg #[false,.slice (aO c.a 1 0 c.cap) i c.cap,(),.slice (aO aw.a 1 0 aw.cap) (i+1) aw.cap]:aa)=cQ (n.left i) ⟨aO c.a 1 0 c.cap,i,c.cap⟩ bn ⟨aO aw.a 1 0 aw.cap,i+1,aw.cap⟩:=by rw[g];rfl
   have ae:(.agg #[false,.slice (aO c.a 1 (i+1) c.cap) (c.len-(i+1)) (c.cap-(i+1)),(),.slice (aO aw.a 1 (i+1) aw.cap) (aw.len-(i+1)) (aw.cap-(i+1))]:aa)=cQ (n.right i) ⟨aO c.a 1 (i+1) c.cap,c.len-(i+1),c.cap-(i+1)⟩ bn ⟨aO aw.a 1 (i+1) aw.cap,aw.len-(i+1),aw.cap-(i+1)⟩:=by rw[j];rfl
   rw[ac,ae];refine Z.use ?_;rintro _ a5 ⟨cU,c8,bd,a6,a7,a9,rfl,ai,u⟩;have aj:=ek (X.ext u) (by rw[j];show(n.keys.drop (i+1)).length<=_;rw[cX];omega) (by rw[j];simp) (by rw[j];show(n.kids.drop (i+1)).length<=_;rw[cX];omega) (by rw[j];exact λk l=>E k (eJ l)) (by rw[j];simp);refine⟨_,cU,c8,bd,rfl,ad.cK u,aj.use ?_⟩;rintro _ a_ ⟨cq,cy,b9,bb,bc,be,rfl,am,z⟩;have v:=u.trans z;have bg:=u.size;have bi:=s.size;refine⟨_,cq,cy,b9,rfl,ad.cK z,oU (cd:=(n.left i).leaf) (bQ:=(n.right i).leaf) (cU:=cU) (c8:=c8) (bd:=bd) (cq:=cq) (cy:=cy) (b9:=b9) ((aJ.ext s).ext v) ((aK.ext s).ext v) rfl rfl I (λq f=>f) (Q:=λcd cU c8 bd bQ cq cy b9 w'=>nd n w (.tuple #[.agg #[cd,cU,c8,bd],tk,.agg #[bQ,cq,cy,b9],true]) w') λbj x=>?_⟩;have bm:r.drew.heap.size=r.heap.size:=rfl;refine⟨cU,c8,bd,cq,cy,b9,tk,by rw[←hi];rfl,?_,?_,?_,?_⟩
   .rw[←hi];exact((ai.at.ext z).ab x λq f e=>I).aV λq _ f=>by omega
   .rw[←hi];exact(am.at.ab x λq f e=>I).aV λq _ f=>by omega
   .rw[←hi,aR]
    have an:∀q,aC tk q->F.heap.size<=q:=aQ;exact bk.hG (bk.ext (bk.ext aN T) v) x λq f e=>by have:=an q f;omega
   .exact Ext.dc (N.trans (s.trans v)) x λq f=>by omega
theorem wc{B C:Nat->Prop}{w:J}{s x:Y}{ls xs:O Key}(l:bh B w s ls)(hx:bf C w x xs)(hd:∀q,C q->¬aC s q)(v:ls.length<=100000)(y:xs.length<=100000):
 ∃ (d:Y) (w':J),Sem.run ak (Builtin.append_ #[127,127] 127 #[s,x]) w=.ok d w'/\bf (λq=>B q\/C q\/w.heap.size<=q) w' d (ls++xs)/\ad (aC s) w w':=by
 have z:=bf.len hx;obtain⟨ts,h1,h2,m,n⟩:=l;obtain⟨us,av,ax,A,D,o⟩:=hx;have E:s.len=ls.length:=by have:=h2.1;rw[dr]at this;omega
 obtain⟨d,w',p,f,F,g,r⟩:=oP.append (dG:=127) ax h2 (tO us) I;refine⟨d,w',p,⟨ts++us,by simp[h1,av],?_,f.2.1,?_,λi t G=>?_⟩,g⟩
 .rw[fm];exact f.src
 .intro k c
  refine⟨?_,f.lt k c⟩;rcases r k c with h|h
  .exact .inl (m k h).1
  .exact .inr (.inr h)
 .rcases dR i ts.length with h|h
  .have j:i<ls.length:=by omega
   rw[px h,px j];obtain⟨a,b⟩:=n i h j;exact bk.aV (bk.hG a g b) λk _ c=>.inl c
  .have u:i-ts.length<us.length:=by rw[cF]at t;omega
   have H:i-ls.length<xs.length:=by omega
   rw[q2 h,q2 I];have e:i-ls.length=i-ts.length:=by omega
   have a:=o (i-ts.length) u I;simp only[e];exact bk.aV (bk.hG a g λk c=>hd k (a.2.2 k c).1) λk _ c=>.inr (.inl c)
theorem zo{B C:Nat->Prop}{w:J}{s x:Y}{ds es:O Nat}(d:cB B w s ds)(hx:cx C w x es)(i:ds.length<=100000)(j:es.length<=100000):
 ∃ (a:Y) (w':J),Sem.run ak (Builtin.append_ #[58,58] 58 #[s,x]) w=.ok a w'/\cx (λq=>B q\/C q\/w.heap.size<=q) w' a (ds++es)/\ad (aC s) w w':=by
 have l:=cx.len hx;obtain⟨h1,h2⟩:=d;have m:s.len=ds.length:=by have:=h1.1;rw[l6]at this;omega
 obtain⟨a,w',e,b,n,f,g⟩:=oQ.append (dG:=58) hx.1 h1 (vW es) I;refine⟨a,w',e,⟨?_,b.2.1,?_⟩,f⟩
 .have:dv ds++dv es=dv (ds++es):=by simp[dv]
  rw[this]at b;exact b.src
 .intro k c
  refine⟨?_,b.lt k c⟩;rcases g k c with h|h
  .exact .inl (h2 k h).1
  .exact .inr (.inr h)
def zp(pa b aG c:Nat)(key:Y)(G:J)(Q:aa->J->Prop):Prop:=
 bL (λR:J->Prop=>∃H:ai,G.cell? pa=some (.bool H)/\((!H)=true->an (G.drew) λI=>∃K:Nat->Prop,¬K (Addr.add b 1).block/\∃k:Y,I.cell? (Addr.add b 1)=some (.slice k.a k.len k.cap)/\Calls ak 135 #[key] I λae l=>∃S:Y,ae=.returned S/\ad K I l/\an (l.alloc (.cells #[S] 48)) λT=>ad K l T/\∃U:Y,∃m:J,Sem.run ak (Builtin.append_ #[127,127] 127 #[k,.slice (some l.heap.size) 1 1]) T=.ok U m/\(∃u:aa,m.cell? (Addr.add b 1)=some u)/\m.frozen? (Addr.add b 1)=false/\an (m.setCell (Addr.add b 1) U) λaf=>R af)/\((!H)=false->R G)) (λ(L:J)=>∃n:Y,L.cell? (Addr.add b 1)=some (.slice n.a n.len n.cap)/\∃o:Y,L.cell? (Addr.add aG 1)=some (.slice o.a o.len o.cap)/\∃V:Y,∃p:J,Sem.run ak (Builtin.append_ #[127,127] 127 #[n,o]) L=.ok V p/\(∃u:aa,p.cell? (Addr.add b 1)=some u)/\p.frozen? (Addr.add b 1)=false/\an (p.setCell (Addr.add b 1) V) λM=>∃q:Y,M.cell? (Addr.add b 2)=some (.slice q.a q.len q.cap)/\∃r:Y,M.cell? (Addr.add aG 2)=some (.slice r.a r.len r.cap)/\∃W:Y,∃s:J,Sem.run ak (Builtin.append_ #[127,127] 127 #[q,r]) M=.ok W s/\(∃u:aa,s.cell? (Addr.add b 2)=some u)/\s.frozen? (Addr.add b 2)=false/\an (s.setCell (Addr.add b 2) W) λN=>∃t:Y,N.cell? (Addr.add b 3)=some (.slice t.a t.len t.cap)/\∃v:Y,N.cell? (Addr.add aG 3)=some (.slice v.a v.len v.cap)/\∃X:Y,∃w:J,Sem.run ak (Builtin.append_ #[58,58] 58 #[t,v]) N=.ok X w/\(∃u:aa,w.cell? (Addr.add b 3)=some u)/\w.frozen? (Addr.add b 3)=false/\an (w.setCell (Addr.add b 3) X) λe=>∃Z:ai,e.cell? b=some (.bool Z)/\∃x:Y,e.cell? (Addr.add b 1)=some (.slice x.a x.len x.cap)/\∃y:Y,e.cell? (Addr.add b 2)=some (.slice y.a y.len y.cap)/\∃z:Y,e.cell? (Addr.add b 3)=some (.slice z.a z.len z.cap)/\Calls ak 203 #[.agg #[Z,x,y,z]] e λag d=>∃O:ai,ag=.returned O/\((!O)=true->bt d c [false,(),(),()]/\(4:Nat)=4/\an (setCells d c 0 [false,(),(),()]) λf=>∃ab:ai,f.cell? c=some (.bool ab)/\∃A:Y,f.cell? (Addr.add c 1)=some (.slice A.a A.len A.cap)/\∃B:Y,f.cell? (Addr.add c 2)=some (.slice B.a B.len B.cap)/\∃C:Y,f.cell? (Addr.add c 3)=some (.slice C.a C.len C.cap)/\Q (.tuple #[.agg #[ab,A,B,C],false]) f)/\((!O)=false->∃P:ai,d.cell? b=some (.bool P)/\∃g:Y,d.cell? (Addr.add b 1)=some (.slice g.a g.len g.cap)/\∃h:Y,d.cell? (Addr.add b 2)=some (.slice h.a h.len h.cap)/\∃i:Y,d.cell? (Addr.add b 3)=some (.slice i.a i.len i.cap)/\bt d c [P,g,h,i]/\(4:Nat)=4/\an (setCells d c 0 [P,g,h,i]) λj=>∃ac:ai,j.cell? c=some (.bool ac)/\∃D:Y,j.cell? (Addr.add c 1)=some (.slice D.a D.len D.cap)/\∃E:Y,j.cell? (Addr.add c 2)=some (.slice E.a E.len E.cap)/\∃F:Y,j.cell? (Addr.add c 3)=some (.slice F.a F.len F.cap)/\Q (.tuple #[.agg #[ac,D,E,F],true]) j))
theorem jE{lo pa d aG T:Nat}{key U t p ae af ag:Y}{w bY:J}{a b:aA}{s:Key}{bD bS bA C:Nat->Prop}{av:O aa}(a5:bY.cell? pa=some (.bool a.leaf))
 (ar:Var bY d [a.leaf,U,t,p] 202) (aw:Var bY aG [b.leaf,ae,af,ag] 202)
 (g:eD lo bY a U t p bD bS bA) (a6:br C bY b ae af ag) (f:∀q,C q->lo<=q/\q<bY.heap.size/\q≠d/\q≠aG/\¬bD q/\¬bS q/\¬bA q) (E:∀q,bD q\/bS q\/bA q->q≠d/\q≠aG) (a7:lo<=d) (lb:lo<=aG) (ai:d≠aG)
 (a8:Var bY T av 202) (a9:av.length=4) (bG:T<lo) (a_:w.heap.size<=T) (u:Src 1 bY key (aF s)) (bH:s.length<=1000) (bb:Ext w bY) (hs:cv (du a s b)) (ax:a.leaf=b.leaf) (sa:cv a) (sb:cv b)
 (bJ:a.keys.length<=10000) (bp:b.keys.length<=10000):zp pa d aG T key bY (nc (du a s b) w):=by
 unfold zp;have bK:=ar.lt;have bL:=aw.lt;have az:∀ {n:aA},cv n->n.keys.length<=10000->n.vals.length<=10000/\n.kids.length<=10001:=λ{n} h1 h2=>by
  rcases h1 with h1|h1
  .rw[h1.len,h1.kids];exact⟨h2,cN _⟩
  .rw[h1.len,h1.vals];exact⟨cN _,I⟩
 obtain⟨bM,bN⟩:=az sa bJ;obtain⟨kW,bO⟩:=az sb bp;have aD:gP lo bY d a U t p bD bS bA:=⟨ar,g.keys,g.vals,g.kids,λq c=>⟨(g.ba q c).1,(g.ba q c).2.1,(E q (.inl c)).1,(g.ba q c).2.2⟩,λq c=>⟨(g.bv q c).1,(g.bv q c).2.1,(E q (.inr (.inl c))).1,(g.bv q c).2.2⟩,λq c=>⟨(g.aI q c).1,(g.aI q c).2,(E q (.inr (.inr c))).1⟩,a7⟩;refine jd (λw'=>∃ (K:Y) (W:Nat->Prop),gP lo w' d ⟨a.leaf,if a.leaf then a.keys else a.keys++ [s],a.vals,a.kids⟩ K t p W bS bA/\ad (λq=>q=d\/bD q) bY w'/\(∀q,W q->bD q\/bY.heap.size<=q)) (λq c=>⟨_,a5,λx=>?_,λx=>c _ ⟨U,bD,?_,.refl _ _,λq h=>.inl h⟩⟩) ?_
 .have x:a.leaf=false:=by simpa using x
  refine v8 aD u I I λw' bc W h1 h2 G=>c _ ⟨bc,W,?_,h2,G⟩;rw[if_neg (by rw[x];simp)];exact h1
 .have x:a.leaf=true:=by simpa using x
  rw[if_pos x];exact aD
 rintro w1 ⟨cU,aj,h1,H,aE⟩;have bP:=H.size;have aJ:=aw.ab H (by
  rintro(h|h)
  .exact ai h.symm
  .exact(E _ (.inl h)).2 rfl)
 have aK:=a6.ab H λq c h=>by
  have:=f q c;rcases h with h|h
  .exact this.2.2.1 h
  .exact this.2.2.2.2.1 h
 have bd:=a8.ab H (by
  rintro(h|h)
  .omega
  .have:=(g.ba _ h).1;omega)
 have be:Ext w w1:=Ext.dc bb H λq c=>by
  rcases c with h|h
  .omega
  .have:=(g.ba _ h).1;omega
 obtain⟨L,X⟩:∃l,l=(if a.leaf then a.keys else a.keys++ [s]):=⟨_,rfl⟩;rw[←X]at h1;have bQ:L.length<=10001:=by
  rw[X];split
  .omega
  .rw[cF];simp;omega
 obtain⟨bI,aB,aT,aH⟩:=bw h1.v;obtain⟨d0,d1,d2,d3⟩:=bw aJ;have y:∀q,aC cU q->aj q:=λk u=>by obtain⟨ts,_,_,G,_⟩:=h1.keys;exact(G k u).1
 have ak:∀q,aC t q->bS q:=λk u=>by obtain⟨ts,_,_,G,_⟩:=h1.vals;exact(G k u).1
 have aL:∀q,aC p q->bA q:=λk u=>(h1.kids.2 k u).1;have aM:∀q,C q->¬aC cU q:=λq c h=>by
  rcases aE q (y q h) with h2|h2
  .exact(f q c).2.2.2.2.1 h2
  .have:=(f q c).2.1;omega
 obtain⟨j,ah,M,N,r⟩:=wc h1.keys aK.keys aM (by show L.length<=_;omega) I;have aN:=h1.v.ab r λh=>(h1.ba _ (y _ h)).2.2.1 rfl;obtain⟨P,R⟩:=dB aN (i:=1) (by simp);refine⟨cU,aB,ae,d1,j,ah,M,?_⟩;rw[ay,ay];refine⟨P,R,aY ?_⟩;obtain⟨m,al⟩:∃m,m=ah.setCell ⟨d,0+1,none⟩ j:=⟨_,rfl⟩;rw[←al];have aO:ad (λq=>q=d) ah m:=by rw[al];exact dg _ _ _ _
 have aP:Var m d [a.leaf,j,t,p] 202:=by rw[al];exact dI aN _
 have e2:ad (λq=>q=d\/aC cU q) w1 m:=(r.mono λq _ h=>.inr h).trans (aO.mono λq _ h=>.inl h);have aQ:=aJ.ab e2 (by
  rintro(h|h)
  .exact ai h.symm
  .rcases aE _ (y _ h) with h2|h2
   .exact(E _ (.inl h2)).2 rfl
   .omega)
 have aR:=aK.ab e2 λq c h=>by
  rcases h with h|h
  .exact(f q c).2.2.1 h
  .exact aM q c h
 have bg:=bh.ab h1.vals e2 λq c h=>by
  rcases h with h|h
  .exact(h1.bv q c).2.2.1 h
  .exact(h1.ba q (y q h)).2.2.2.1 c
 have bi:=cB.ab h1.kids e2 λq c h=>by
  rcases h with h|h
  .exact(h1.aI q c).2.2 h
  .exact(h1.ba q (y q h)).2.2.2.2 c
 have bj:=bd.ab e2 (by
  rintro(h|h)
  .omega
  .have:=(h1.ba _ (y _ h)).1;omega)
 have bk:Ext w m:=Ext.dc be e2 λq c=>by
  rcases c with h|h
  .omega
  .have:=(h1.ba _ (y _ h)).1;omega
 have bl:bf (λq=>(aj q\/C q\/w1.heap.size<=q)/\q≠d) m j (L++b.keys):=by
  have am:bf (λq=>(aj q\/C q\/w1.heap.size<=q)/\q≠d) ah j (L++b.keys):=bf.aV N λq _ c=>⟨c,by
   rcases c with h|h|h
   .exact(h1.ba _ h).2.2.1
   .exact(f _ h).2.2.1
   .omega⟩
  exact bf.ab am aO λq c h=>c.2 h
 obtain⟨bI,aB,aT,aH⟩:=bw aP;obtain⟨d0,d1,d2,d3⟩:=bw aQ;have bR:=e2.size
 obtain⟨cI,Z,M,N,r⟩:=wc bg aR.vals (λq c h=>(f q c).2.2.2.2.2.1 (ak q h)) (by show a.vals.length<=_;omega) I;have aS:=aP.ab r λh=>(h1.bv _ (ak _ h)).2.2.1 rfl;obtain⟨P,R⟩:=dB aS (i:=2) (by simp);rw[ay]at aT d2;refine⟨t,aT,af,d2,cI,Z,M,?_⟩;rw[ay,ay];refine⟨P,R,aY ?_⟩;obtain⟨o,an⟩:∃o,o=Z.setCell ⟨d,0+2,none⟩ cI:=⟨_,rfl⟩;rw[←an];have aU:ad (λq=>q=d) Z o:=by rw[an];exact dg _ _ _ _
 have aW:Var o d [a.leaf,j,cI,p] 202:=by rw[an];exact dI aS _
 have z:ad (λq=>q=d\/bS q) m o:=(r.mono λq _ h=>.inr (ak q h)).trans (aU.mono λq _ h=>.inl h);have bm:=aQ.ab z (by
  rintro(h|h)
  .exact ai h.symm
  .exact(E _ (.inr (.inl h))).2 rfl)
 have bn:=aR.ab z λq c h=>by
  rcases h with h|h
  .exact(f q c).2.2.1 h
  .exact(f q c).2.2.2.2.2.1 h
 have bo:=bf.ab bl z λq c h=>by
  rcases h with h|h
  .exact c.2 h
  .rcases c.1 with h2|h2|h2
   .exact(h1.ba _ h2).2.2.2.1 h
   .exact(f _ h2).2.2.2.2.2.1 h
   .have:=(h1.bv _ h).2.1;omega
 have bq:=cB.ab bi z λq c h=>by
  rcases h with h|h
  .exact(h1.aI q c).2.2 h
  .exact(h1.bv q h).2.2.2 c
 have bs:=bj.ab z (by
  rintro(h|h)
  .omega
  .have:=(h1.bv _ h).1;omega)
 have bt:Ext w o:=Ext.dc bk z λq c=>by
  rcases c with h|h
  .omega
  .have:=(h1.bv _ h).1;omega
 have bu:bf (λq=>(bS q\/C q\/m.heap.size<=q)/\q≠d) o cI (a.vals++b.vals):=by
  have am:bf (λq=>(bS q\/C q\/m.heap.size<=q)/\q≠d) Z cI (a.vals++b.vals):=bf.aV N λq _ c=>⟨c,by
   rcases c with h|h|h
   .exact(h1.bv _ h).2.2.1
   .exact(f _ h).2.2.1
   .omega⟩
  exact bf.ab am aU λq c h=>c.2 h
 obtain⟨bI,aB,aT,aH⟩:=bw aW;obtain⟨d0,d1,d2,d3⟩:=bw bm;have bT:=z.size
 obtain⟨fa,ao,M,N,r⟩:=zo bq bn.kids (by show a.kids.length<=_;omega) I;have aX:=aW.ab r λh=>(h1.aI _ (aL _ h)).2.2 rfl;obtain⟨P,R⟩:=dB aX (i:=3) (by simp);rw[ay]at aH d3;refine⟨p,aH,ag,d3,fa,ao,M,?_⟩;rw[ay,ay];refine⟨P,R,aY ?_⟩;obtain⟨A,ap⟩:∃A,A=ao.setCell ⟨d,0+3,none⟩ fa:=⟨_,rfl⟩;rw[←ap];have aZ:ad (λq=>q=d) ao A:=by rw[ap];exact dg _ _ _ _
 have a0:Var A d [a.leaf,j,cI,fa] 202:=by rw[ap];exact dI aX _
 have S:ad (λq=>q=d\/bA q) o A:=(r.mono λq _ h=>.inr (aL q h)).trans (aZ.mono λq _ h=>.inl h);have bx:=bf.ab bo S λq c h=>by
  rcases h with h|h
  .exact c.2 h
  .rcases c.1 with h2|h2|h2
   .exact(h1.ba _ h2).2.2.2.2 h
   .exact(f _ h2).2.2.2.2.2.2 h
   .have:=(h1.aI _ h).2.1;omega
 have bz:=bf.ab bu S λq c h=>by
  rcases h with h|h
  .exact c.2 h
  .rcases c.1 with h2|h2|h2
   .exact(h1.bv _ h2).2.2.2 h
   .exact(f _ h2).2.2.2.2.2.2 h
   .have:=(h1.aI _ h).2.1;omega
 have bB:=bs.ab S (by
  rintro(h|h)
  .omega
  .have:=(h1.aI _ h).1;omega)
 have bC:Ext w A:=Ext.dc bt S λq c=>by
  rcases c with h|h
  .omega
  .have:=(h1.aI _ h).1;omega
 have bU:=S.size;have a1:br (λq=>lo<=q) A (du a s b) j cI fa:=by
  have iM:du a s b=⟨a.leaf,L++b.keys,a.vals++b.vals,a.kids++b.kids⟩:=by
   unfold du
   cases F:a.leaf with
   |true=>
    have aq:a.kids=[]:=by
     rcases sa with h|h
     .exact h.kids
     .have:=h.inner;rw[F]at this;cases this
    have kb:b.kids=[]:=by
     rcases sb with h|h
     .exact h.kids
     .have:=h.inner;rw[←ax,F]at this;cases this
    rw[X,F,aq,kb];simp
   |false=>
    have aq:a.vals=[]:=by
     rcases sa with h|h
     .have:=h.leaf;rw[F]at this;cases this
     .exact h.vals
    have kb:b.vals=[]:=by
     rcases sb with h|h
     .have:=h.leaf;rw[←ax,F]at this;cases this
     .exact h.vals
    rw[X,F,aq,kb];simp
  rw[iM];refine⟨bf.aV bx λq _ c=>?_,bf.aV bz λq _ c=>?_,cx.aV (cx.ab (B:=λq=>(bA q\/C q\/o.heap.size<=q)/\q≠d) (cx.aV N λq _ c=>⟨c,?_⟩) aZ λq c h=>c.2 h) λq _ c=>?_⟩
  .rcases c.1 with h|h|h
   .exact(h1.ba _ h).1
   .exact(f _ h).1
   .omega
  .rcases c.1 with h|h|h
   .exact(h1.bv _ h).1
   .exact(f _ h).1
   .omega
  .rcases c with h|h|h
   .exact(h1.aI _ h).2.2
   .exact(f _ h).2.2.1
   .omega
  .rcases c.1 with h|h|h
   .exact(h1.aI _ h).1
   .exact(f _ h).1
   .omega
 obtain⟨bI,aB,aT,aH⟩:=bw a0;rw[ay]at aB aT aH;have bV:(du a s b).keys.length<=20001:=by
  unfold du;split
  .show(a.keys++b.keys).length<=_;rw[cF];omega
  .show(a.keys++s::b.keys).length<=_;rw[cF,fy];omega
 have bW:(du a s b).vals.length<=20001:=by
  unfold du;split
  .show(a.vals++b.vals).length<=_;rw[cF];omega
  .simp
 have bX:(du a s b).kids.length<=20002:=by
  unfold du;split
  .simp
  .show(a.kids++b.kids).length<=_;rw[cF];omega
 have a2:(du a s b).leaf=a.leaf:=yS
 repeat rw[ay]
 refine⟨_,bI,j,aB,cI,aT,fa,aH,?_⟩;have au:=jf a1 I I I;unfold cQ at au;rw[a2]at au;refine au.use ?_;rintro _ bZ ⟨b0,rfl,bE,ac⟩;have:=bE.2 hs;subst this;obtain⟨bI,aB,aT,aH⟩:=bw (a0.ext ac);rw[ay]at aB aT aH;have a3:=h7 a.leaf j cI fa (bB.ext ac) a9 (Q:=λbF K V D ah=>nc (du a s b) w (.tuple #[.agg #[bF,K,V,D],true]) ah) λb1 a4=>⟨j,cI,fa,by unfold cQ;rw[a2],((a1.ext ac).ab a4 λq c e=>I).aV λq _ c=>I,Ext.ck (bC.trans ac) a4 a_⟩
 repeat rw[ay]at a3
 exact⟨true,rfl,λh=>(by cases h),λ_=>⟨_,bI,j,aB,cI,aT,fa,aH,a3⟩⟩
theorem mW{bd be:Nat->Prop}{w:J}{a b:aA}{aK aL aM aN aO aQ key:Y}{s:Key}(a6:br bd w a aK aL aM)(a7:br be w b aN aO aQ)(ay:Src 1 w key (aF s))(W:∀q,aC key q->q<w.heap.size)(X:s.length<=1000)(sa:cv a)(sb:cv b)(T:a.leaf=b.leaf)(hs:cv (du a s b))
 (bJ:a.keys.length<=10000) (bp:b.keys.length<=10000):
 aP ak 282 #[cQ a aK aL aM,key,cQ b aN aO aQ] w (nc (du a s b) w):=by
 have a9:∀ {n:aA},cv n->n.keys.length<=10000->n.vals.length<=10000/\n.kids.length<=10001:=λ{n} h1 h2=>by
  rcases h1 with h1|h1
  .rw[h1.len,h1.kids];exact⟨h2,cN _⟩
  .rw[h1.len,h1.vals];exact⟨cN _,I⟩
 obtain⟨bo,bq⟩:=a9 sa bJ;obtain⟨kW,bs⟩:=a9 sb bp;have aX:∀k∈a.keys,k.length<=100000:=λk ay=>by have:=(sa.keys.ok k ay).2;omega
 have ac:∀k∈b.keys,k.length<=100000:=λk ay=>by have:=(sb.keys.ok k ay).2;omega
 have aZ:∀k∈a.vals,k.length<=100000:=λk ay=>by have:=sa.vals k ay;omega
 have ae:∀k∈b.vals,k.length<=100000:=λk ay=>by have:=sb.vals k ay;omega
 refine okF (af.mW a.leaf aK aL aM key b.leaf aN aO aQ) az.mW func282 ?_;(delta af.mW cc a8 U ag aH oa al hY p1 fO bK aW rX st p0 mK;dsimp only);refine bl (vs:=[a.leaf,aK,aL,aM]) rfl λw1 a4 bf bt=>?_;refine bl (vs:=[b.leaf,aN,aO,aQ]) rfl λah a5 a2 bu=>?_;refine bl (vs:=[false,(),(),()]) rfl λbg bh aR bx=>?_;have a_:=bf.trans (a2.trans aR);obtain⟨bI,aB,aT,aH⟩:=bw (a4.ext (a2.trans aR));refine⟨_,bI,aK,aB,aL,aT,aM,aH,(jf (a6.ext a_) I I I).use ?_⟩;rintro _ bi ⟨cd,rfl,bj,aJ⟩;have:=bj.2 sa;subst this;have bb:=a_.trans aJ;obtain⟨d0,d1,d2,d3⟩:=bw (a5.ext (aR.trans aJ));refine⟨true,rfl,ct (λb w'=>b=false/\Ext bi w') (λq c=>⟨λh=>(by cases h),λ_=>⟨_,d0,aN,d1,aO,d2,aQ,d3,(jf (a7.ext bb) I I I).use ?_⟩⟩) ?_⟩
 .rintro _ a3 ⟨bQ,rfl,bk,aD⟩
  have:=bk.2 sb;subst this;exact⟨true,rfl,c _ _ ⟨rfl,aD⟩⟩
 rintro _ a3 ⟨rfl,aD⟩;have bm:=bb.trans aD;obtain⟨bI,aB,aT,aH⟩:=bw (a4.ext (a2.trans (aR.trans (aJ.trans aD))));obtain⟨d0,d1,d2,d3⟩:=bw (a5.ext (aR.trans (aJ.trans aD)));refine ct (λb w'=>b=false/\a3=w') (λq c=>⟨λh=>(by cases h),λ_=>⟨_,bI,_,d0,c _ _ ⟨by rw[T];simp,rfl⟩⟩⟩) ?_;rintro _ _ ⟨rfl,rfl⟩;have a0:=cw a3;have bc:=bm.trans a0;obtain⟨O,aS⟩:∃O,O=a3.drew:=⟨_,rfl⟩;have V:Var O w.heap.size [a.leaf,aK,aL,aM] 202:=by rw[aS];exact(a4.ext (a2.trans (aR.trans (aJ.trans aD)))).ext a0
 have bn:Var O w1.heap.size [b.leaf,aN,aO,aQ] 202:=by rw[aS];exact(a5.ext (aR.trans (aJ.trans aD))).ext a0
 have Z:Var O ah.heap.size [false,(),(),()] 202:=by rw[aS];exact(bh.ext (aJ.trans aD)).ext a0
 have N:Ext w O:=by rw[aS];exact bc
 have bz:bg.heap.size<=O.heap.size:=by rw[aS];exact(aJ.trans aD).size
 have a1:=a6.ext N;have ai:=a7.ext N;have aa:=ay.ext N;obtain⟨lo,bA⟩:∃lo,lo=O.heap.size:=⟨_,rfl⟩;rw[←aS];clear bI aB aT aH d0 d1 d2 d3 aS bc a0;obtain⟨bI,aB,aT,aH⟩:=bw V;obtain⟨d0,d1,d2,d3⟩:=bw bn;refine⟨λh=>(by cases h),λ_=>aY ⟨λ_=>False,id,_,bI,aK,aB,aL,aT,aM,aH,id,_,d0,aN,d1,aO,d2,aQ,d3,?_⟩⟩;refine⟨?_,?_,?_⟩
 .refine(ek a1 I I I aX aZ).use ?_
  rintro _ H ⟨E,F,G,K,L,M,rfl,d,av⟩;refine⟨_,E,F,G,rfl,av,?_⟩;have s1:=av.size;refine⟨?_,?_,?_⟩
  .refine(ek (ai.ext av) I I I ac ae).use ?_
   rintro _ u ⟨o,p,r,ar,au,aw,rfl,S,ax⟩;refine⟨_,o,p,r,rfl,ax,?_⟩;have s2:=ax.size;refine⟨?_,?_⟩
   .refine bl (vs:=[false,(),(),()]) rfl λt aj g z3=>⟨g,?_⟩
    have am:=g.size;refine bl (vs:=[false,(),(),()]) rfl λv an f z4=>⟨f,?_⟩;have ao:=f.size;have x:=aj.ext f;have P:=an;refine⟨x.b2 rfl (fb _ _ _ _),rfl,cp x (us:=[a.leaf,E,F,G]) rfl rfl λap y aW t5=>?_⟩;have z:=P.ab aW I;refine⟨z.b2 rfl (fb _ _ _ _),rfl,cp z (us:=[b.leaf,o,p,r]) rfl rfl λj A b8 t6=>?_⟩;obtain⟨m,B⟩:∃m,m=u.heap.size:=⟨_,rfl⟩;obtain⟨aG,D⟩:∃aG,aG=t.heap.size:=⟨_,rfl⟩;rw[←B]at y aW;rw[←D]at A b8;rw[←B,←D];have i:ad (λq=>q=m\/q=aG) v j:=(aW.mono λq _ h=>.inl h).trans (b8.mono λq _ h=>.inr h);have Q:eD lo j a E F G K L M:=(((d.ext (ax.trans (g.trans (f)))).ab i λq _ _ c e=>by have aq:O.heap.size<=q/\q<H.heap.size:=(by rcases c with c|c|c;exact⟨(d.ba q c).1,(d.ba q c).2.1⟩;exact⟨(d.bv q c).1,(d.bv q c).2.1⟩;exact d.aI q c);omega).low I);have R:br (λq=>H.heap.size<=q/\q<u.heap.size) j b o p r:=((S.at.aV λq h1 h2=>⟨h2,h1⟩).ext (g.trans (f))).ab i λq c e=>by omega
    have l:∀q,K q\/L q\/M q->O.heap.size<=q/\q<H.heap.size:=λq c=>by
     rcases c with c|c|c
     .exact⟨(d.ba q c).1,(d.ba q c).2.1⟩
     .exact⟨(d.bv q c).1,(d.bv q c).2.1⟩
     .exact d.aI q c
    exact jE (lo:=lo) (bY:=j) (C:=λq=>H.heap.size<=q/\q<u.heap.size) ((V.ext (av.trans (ax.trans (g.trans f)))).ab i I).cell (y.ab b8 I) A Q R (λq c=>⟨I,I,I,I,λh=>(by have:=l q (.inl h);omega),λh=>(by have:=l q (.inr (.inl h));omega),λh=>(by have:=l q (.inr (.inr h));omega)⟩) (λq c=>(by have:=l q c;exact⟨I,I⟩)) I I I ((Z.ext (av.trans (ax.trans (g.trans f)))).ab i I) rfl I I ((aa.ext (av.trans (ax.trans (g.trans f)))).ab i λq c e=>(by have:=W q c;have:=N.size;omega)) X (Ext.dc (N.trans (av.trans (ax.trans (g.trans f)))) i λq c=>I) hs T sa sb bJ bp
   .refine bl (vs:=[false,(),(),()]) rfl λt aj g z3=>⟨g,?_⟩
    have am:=g.size;refine bl (vs:=[false,(),(),()]) rfl λv an f z4=>⟨f,?_⟩;have ao:=f.size;have x:=an;have P:=aj.ext f;refine⟨x.b2 rfl (fb _ _ _ _),rfl,cp x (us:=[a.leaf,E,F,G]) rfl rfl λap y aW t5=>?_⟩;have z:=P.ab aW I;refine⟨z.b2 rfl (fb _ _ _ _),rfl,cp z (us:=[b.leaf,o,p,r]) rfl rfl λj A b8 t6=>?_⟩;obtain⟨m,B⟩:∃m,m=t.heap.size:=⟨_,rfl⟩;obtain⟨aG,D⟩:∃aG,aG=u.heap.size:=⟨_,rfl⟩;rw[←B]at y aW;rw[←D]at A b8;rw[←B,←D];have i:ad (λq=>q=m\/q=aG) v j:=(aW.mono λq _ h=>.inl h).trans (b8.mono λq _ h=>.inr h);have Q:eD lo j a E F G K L M:=(((d.ext (ax.trans (g.trans (f)))).ab i λq _ _ c e=>by have aq:O.heap.size<=q/\q<H.heap.size:=(by rcases c with c|c|c;exact⟨(d.ba q c).1,(d.ba q c).2.1⟩;exact⟨(d.bv q c).1,(d.bv q c).2.1⟩;exact d.aI q c);omega).low I);have R:br (λq=>H.heap.size<=q/\q<u.heap.size) j b o p r:=((S.at.aV λq h1 h2=>⟨h2,h1⟩).ext (g.trans (f))).ab i λq c e=>by omega
    have l:∀q,K q\/L q\/M q->O.heap.size<=q/\q<H.heap.size:=λq c=>by
     rcases c with c|c|c
     .exact⟨(d.ba q c).1,(d.ba q c).2.1⟩
     .exact⟨(d.bv q c).1,(d.bv q c).2.1⟩
     .exact d.aI q c
    exact jE (lo:=lo) (bY:=j) (C:=λq=>H.heap.size<=q/\q<u.heap.size) ((V.ext (av.trans (ax.trans (g.trans f)))).ab i I).cell (y.ab b8 I) A Q R (λq c=>⟨I,I,I,I,λh=>(by have:=l q (.inl h);omega),λh=>(by have:=l q (.inr (.inl h));omega),λh=>(by have:=l q (.inr (.inr h));omega)⟩) (λq c=>(by have:=l q c;exact⟨I,I⟩)) I I I ((Z.ext (av.trans (ax.trans (g.trans f)))).ab i I) rfl I I ((aa.ext (av.trans (ax.trans (g.trans f)))).ab i λq c e=>(by have:=W q c;have:=N.size;omega)) X (Ext.dc (N.trans (av.trans (ax.trans (g.trans f)))) i λq c=>I) hs T sa sb bJ bp
  .refine bl (vs:=[false,(),(),()]) rfl λu aE ax cc=>⟨ax,?_⟩
   have s2:=ax.size;refine⟨?_,?_⟩
   .refine(ek (ai.ext (av.trans (ax))) I I I ac ae).use ?_
    rintro _ t ⟨o,p,r,ar,au,aw,rfl,S,g⟩;refine⟨_,o,p,r,rfl,g,?_⟩;have am:=g.size;refine bl (vs:=[false,(),(),()]) rfl λv an f z4=>⟨f,?_⟩;have ao:=f.size;have x:=aE.ext (g.trans (f));have P:=an;refine⟨x.b2 rfl (fb _ _ _ _),rfl,cp x (us:=[a.leaf,E,F,G]) rfl rfl λap y aW t5=>?_⟩;have z:=P.ab aW I;refine⟨z.b2 rfl (fb _ _ _ _),rfl,cp z (us:=[b.leaf,o,p,r]) rfl rfl λj A b8 t6=>?_⟩;obtain⟨m,B⟩:∃m,m=H.heap.size:=⟨_,rfl⟩;obtain⟨aG,D⟩:∃aG,aG=t.heap.size:=⟨_,rfl⟩;rw[←B]at y aW;rw[←D]at A b8;rw[←B,←D];have i:ad (λq=>q=m\/q=aG) v j:=(aW.mono λq _ h=>.inl h).trans (b8.mono λq _ h=>.inr h);have Q:eD lo j a E F G K L M:=(((d.ext (ax.trans (g.trans (f)))).ab i λq _ _ c e=>by have aq:O.heap.size<=q/\q<H.heap.size:=(by rcases c with c|c|c;exact⟨(d.ba q c).1,(d.ba q c).2.1⟩;exact⟨(d.bv q c).1,(d.bv q c).2.1⟩;exact d.aI q c);omega).low I);have R:br (λq=>u.heap.size<=q/\q<t.heap.size) j b o p r:=((S.at.aV λq h1 h2=>⟨h2,h1⟩).ext f).ab i λq c e=>by omega
    have l:∀q,K q\/L q\/M q->O.heap.size<=q/\q<H.heap.size:=λq c=>by
     rcases c with c|c|c
     .exact⟨(d.ba q c).1,(d.ba q c).2.1⟩
     .exact⟨(d.bv q c).1,(d.bv q c).2.1⟩
     .exact d.aI q c
    exact jE (lo:=lo) (bY:=j) (C:=λq=>u.heap.size<=q/\q<t.heap.size) ((V.ext (av.trans (ax.trans (g.trans f)))).ab i I).cell (y.ab b8 I) A Q R (λq c=>⟨I,I,I,I,λh=>(by have:=l q (.inl h);omega),λh=>(by have:=l q (.inr (.inl h));omega),λh=>(by have:=l q (.inr (.inr h));omega)⟩) (λq c=>(by have:=l q c;exact⟨I,I⟩)) I I I ((Z.ext (av.trans (ax.trans (g.trans f)))).ab i I) rfl I I ((aa.ext (av.trans (ax.trans (g.trans f)))).ab i λq c e=>(by have:=W q c;have:=N.size;omega)) X (Ext.dc (N.trans (av.trans (ax.trans (g.trans f)))) i λq c=>I) hs T sa sb bJ bp
   .refine bl (vs:=[false,(),(),()]) rfl λt aj g z3=>⟨g,?_⟩
    have am:=g.size;refine(ek (ai.ext (av.trans (ax.trans (g)))) I I I ac ae).use ?_;rintro _ v ⟨o,p,r,ar,au,aw,rfl,S,f⟩;refine⟨_,o,p,r,rfl,f,?_⟩;have ao:=f.size;have x:=aE.ext (g.trans (f));have P:=aj.ext f;refine⟨x.b2 rfl (fb _ _ _ _),rfl,cp x (us:=[a.leaf,E,F,G]) rfl rfl λap y aW t5=>?_⟩;have z:=P.ab aW I;refine⟨z.b2 rfl (fb _ _ _ _),rfl,cp z (us:=[b.leaf,o,p,r]) rfl rfl λj A b8 t6=>?_⟩;obtain⟨m,B⟩:∃m,m=H.heap.size:=⟨_,rfl⟩;obtain⟨aG,D⟩:∃aG,aG=u.heap.size:=⟨_,rfl⟩;rw[←B]at y aW;rw[←D]at A b8;rw[←B,←D];have i:ad (λq=>q=m\/q=aG) v j:=(aW.mono λq _ h=>.inl h).trans (b8.mono λq _ h=>.inr h);have Q:eD lo j a E F G K L M:=(((d.ext (ax.trans (g.trans (f)))).ab i λq _ _ c e=>by have aq:O.heap.size<=q/\q<H.heap.size:=(by rcases c with c|c|c;exact⟨(d.ba q c).1,(d.ba q c).2.1⟩;exact⟨(d.bv q c).1,(d.bv q c).2.1⟩;exact d.aI q c);omega).low I);have R:br (λq=>t.heap.size<=q/\q<v.heap.size) j b o p r:=(S.at.aV λq h1 h2=>⟨h2,h1⟩).ab i λq c e=>by omega
    have l:∀q,K q\/L q\/M q->O.heap.size<=q/\q<H.heap.size:=λq c=>by
     rcases c with c|c|c
     .exact⟨(d.ba q c).1,(d.ba q c).2.1⟩
     .exact⟨(d.bv q c).1,(d.bv q c).2.1⟩
     .exact d.aI q c
    exact jE (lo:=lo) (bY:=j) (C:=λq=>t.heap.size<=q/\q<v.heap.size) ((V.ext (av.trans (ax.trans (g.trans f)))).ab i I).cell (y.ab b8 I) A Q R (λq c=>⟨I,I,I,I,λh=>(by have:=l q (.inl h);omega),λh=>(by have:=l q (.inr (.inl h));omega),λh=>(by have:=l q (.inr (.inr h));omega)⟩) (λq c=>(by have:=l q c;exact⟨I,I⟩)) I I I ((Z.ext (av.trans (ax.trans (g.trans f)))).ab i I) rfl I I ((aa.ext (av.trans (ax.trans (g.trans f)))).ab i λq c e=>(by have:=W q c;have:=N.size;omega)) X (Ext.dc (N.trans (av.trans (ax.trans (g.trans f)))) i λq c=>I) hs T sa sb bJ bp
  .refine bl (vs:=[false,(),(),()]) rfl λu aE ax cc=>⟨ax,?_⟩
   have s2:=ax.size;refine⟨?_,?_⟩
   .refine(ek (ai.ext (av.trans (ax))) I I I ac ae).use ?_
    rintro _ t ⟨o,p,r,ar,au,aw,rfl,S,g⟩;refine⟨_,o,p,r,rfl,g,?_⟩;have am:=g.size;refine bl (vs:=[false,(),(),()]) rfl λv an f z4=>⟨f,?_⟩;have ao:=f.size;have x:=an;have P:=aE.ext (g.trans (f));refine⟨x.b2 rfl (fb _ _ _ _),rfl,cp x (us:=[a.leaf,E,F,G]) rfl rfl λap y aW t5=>?_⟩;have z:=P.ab aW I;refine⟨z.b2 rfl (fb _ _ _ _),rfl,cp z (us:=[b.leaf,o,p,r]) rfl rfl λj A b8 t6=>?_⟩;obtain⟨m,B⟩:∃m,m=t.heap.size:=⟨_,rfl⟩;obtain⟨aG,D⟩:∃aG,aG=H.heap.size:=⟨_,rfl⟩;rw[←B]at y aW;rw[←D]at A b8;rw[←B,←D];have i:ad (λq=>q=m\/q=aG) v j:=(aW.mono λq _ h=>.inl h).trans (b8.mono λq _ h=>.inr h);have Q:eD lo j a E F G K L M:=(((d.ext (ax.trans (g.trans (f)))).ab i λq _ _ c e=>by have aq:O.heap.size<=q/\q<H.heap.size:=(by rcases c with c|c|c;exact⟨(d.ba q c).1,(d.ba q c).2.1⟩;exact⟨(d.bv q c).1,(d.bv q c).2.1⟩;exact d.aI q c);omega).low I);have R:br (λq=>u.heap.size<=q/\q<t.heap.size) j b o p r:=((S.at.aV λq h1 h2=>⟨h2,h1⟩).ext f).ab i λq c e=>by omega
    have l:∀q,K q\/L q\/M q->O.heap.size<=q/\q<H.heap.size:=λq c=>by
     rcases c with c|c|c
     .exact⟨(d.ba q c).1,(d.ba q c).2.1⟩
     .exact⟨(d.bv q c).1,(d.bv q c).2.1⟩
     .exact d.aI q c
    exact jE (lo:=lo) (bY:=j) (C:=λq=>u.heap.size<=q/\q<t.heap.size) ((V.ext (av.trans (ax.trans (g.trans f)))).ab i I).cell (y.ab b8 I) A Q R (λq c=>⟨I,I,I,I,λh=>(by have:=l q (.inl h);omega),λh=>(by have:=l q (.inr (.inl h));omega),λh=>(by have:=l q (.inr (.inr h));omega)⟩) (λq c=>(by have:=l q c;exact⟨I,I⟩)) I I I ((Z.ext (av.trans (ax.trans (g.trans f)))).ab i I) rfl I I ((aa.ext (av.trans (ax.trans (g.trans f)))).ab i λq c e=>(by have:=W q c;have:=N.size;omega)) X (Ext.dc (N.trans (av.trans (ax.trans (g.trans f)))) i λq c=>I) hs T sa sb bJ bp
   .refine bl (vs:=[false,(),(),()]) rfl λt aj g z3=>⟨g,?_⟩
    have am:=g.size;refine(ek (ai.ext (av.trans (ax.trans (g)))) I I I ac ae).use ?_;rintro _ v ⟨o,p,r,ar,au,aw,rfl,S,f⟩;refine⟨_,o,p,r,rfl,f,?_⟩;have ao:=f.size;have x:=aj.ext f;have P:=aE.ext (g.trans (f));refine⟨x.b2 rfl (fb _ _ _ _),rfl,cp x (us:=[a.leaf,E,F,G]) rfl rfl λap y aW t5=>?_⟩;have z:=P.ab aW I;refine⟨z.b2 rfl (fb _ _ _ _),rfl,cp z (us:=[b.leaf,o,p,r]) rfl rfl λj A b8 t6=>?_⟩;obtain⟨m,B⟩:∃m,m=u.heap.size:=⟨_,rfl⟩;obtain⟨aG,D⟩:∃aG,aG=H.heap.size:=⟨_,rfl⟩;rw[←B]at y aW;rw[←D]at A b8;rw[←B,←D];have i:ad (λq=>q=m\/q=aG) v j:=(aW.mono λq _ h=>.inl h).trans (b8.mono λq _ h=>.inr h);have Q:eD lo j a E F G K L M:=(((d.ext (ax.trans (g.trans (f)))).ab i λq _ _ c e=>by have aq:O.heap.size<=q/\q<H.heap.size:=(by rcases c with c|c|c;exact⟨(d.ba q c).1,(d.ba q c).2.1⟩;exact⟨(d.bv q c).1,(d.bv q c).2.1⟩;exact d.aI q c);omega).low I);have R:br (λq=>t.heap.size<=q/\q<v.heap.size) j b o p r:=(S.at.aV λq h1 h2=>⟨h2,h1⟩).ab i λq c e=>by omega
    have l:∀q,K q\/L q\/M q->O.heap.size<=q/\q<H.heap.size:=λq c=>by
     rcases c with c|c|c
     .exact⟨(d.ba q c).1,(d.ba q c).2.1⟩
     .exact⟨(d.bv q c).1,(d.bv q c).2.1⟩
     .exact d.aI q c
    exact jE (lo:=lo) (bY:=j) (C:=λq=>t.heap.size<=q/\q<v.heap.size) ((V.ext (av.trans (ax.trans (g.trans f)))).ab i I).cell (y.ab b8 I) A Q R (λq c=>⟨I,I,I,I,λh=>(by have:=l q (.inl h);omega),λh=>(by have:=l q (.inr (.inl h));omega),λh=>(by have:=l q (.inr (.inr h));omega)⟩) (λq c=>(by have:=l q c;exact⟨I,I⟩)) I I I ((Z.ext (av.trans (ax.trans (g.trans f)))).ab i I) rfl I I ((aa.ext (av.trans (ax.trans (g.trans f)))).ab i λq c e=>(by have:=W q c;have:=N.size;omega)) X (Ext.dc (N.trans (av.trans (ax.trans (g.trans f)))) i λq c=>I) hs T sa sb bJ bp
 .refine bl (vs:=[false,(),(),()]) rfl λH aU av gD=>⟨av,?_⟩
  have s1:=av.size;refine⟨?_,?_⟩
  .refine(ek (a1.ext av) I I I aX aZ).use ?_
   rintro _ u ⟨E,F,G,K,L,M,rfl,d,ax⟩;refine⟨_,E,F,G,rfl,ax,?_⟩;have s2:=ax.size;refine⟨?_,?_⟩
   .refine(ek (ai.ext (av.trans (ax))) I I I ac ae).use ?_
    rintro _ t ⟨o,p,r,ar,au,aw,rfl,S,g⟩;refine⟨_,o,p,r,rfl,g,?_⟩;have am:=g.size;refine bl (vs:=[false,(),(),()]) rfl λv an f z4=>⟨f,?_⟩;have ao:=f.size;have x:=aU.ext (ax.trans (g.trans (f)));have P:=an;refine⟨x.b2 rfl (fb _ _ _ _),rfl,cp x (us:=[a.leaf,E,F,G]) rfl rfl λap y aW t5=>?_⟩;have z:=P.ab aW I;refine⟨z.b2 rfl (fb _ _ _ _),rfl,cp z (us:=[b.leaf,o,p,r]) rfl rfl λj A b8 t6=>?_⟩;obtain⟨m,B⟩:∃m,m=O.heap.size:=⟨_,rfl⟩;obtain⟨aG,D⟩:∃aG,aG=t.heap.size:=⟨_,rfl⟩;rw[←B]at y aW;rw[←D]at A b8;rw[←B,←D];have i:ad (λq=>q=m\/q=aG) v j:=(aW.mono λq _ h=>.inl h).trans (b8.mono λq _ h=>.inr h);have Q:eD lo j a E F G K L M:=(((d.ext (g.trans (f))).ab i λq _ _ c e=>by have aq:H.heap.size<=q/\q<u.heap.size:=(by rcases c with c|c|c;exact⟨(d.ba q c).1,(d.ba q c).2.1⟩;exact⟨(d.bv q c).1,(d.bv q c).2.1⟩;exact d.aI q c);omega).low I);have R:br (λq=>u.heap.size<=q/\q<t.heap.size) j b o p r:=((S.at.aV λq h1 h2=>⟨h2,h1⟩).ext f).ab i λq c e=>by omega
    have l:∀q,K q\/L q\/M q->H.heap.size<=q/\q<u.heap.size:=λq c=>by
     rcases c with c|c|c
     .exact⟨(d.ba q c).1,(d.ba q c).2.1⟩
     .exact⟨(d.bv q c).1,(d.bv q c).2.1⟩
     .exact d.aI q c
    exact jE (lo:=lo) (bY:=j) (C:=λq=>u.heap.size<=q/\q<t.heap.size) ((V.ext (av.trans (ax.trans (g.trans f)))).ab i I).cell (y.ab b8 I) A Q R (λq c=>⟨I,I,I,I,λh=>(by have:=l q (.inl h);omega),λh=>(by have:=l q (.inr (.inl h));omega),λh=>(by have:=l q (.inr (.inr h));omega)⟩) (λq c=>(by have:=l q c;exact⟨I,I⟩)) I I I ((Z.ext (av.trans (ax.trans (g.trans f)))).ab i I) rfl I I ((aa.ext (av.trans (ax.trans (g.trans f)))).ab i λq c e=>(by have:=W q c;have:=N.size;omega)) X (Ext.dc (N.trans (av.trans (ax.trans (g.trans f)))) i λq c=>I) hs T sa sb bJ bp
   .refine bl (vs:=[false,(),(),()]) rfl λt aj g z3=>⟨g,?_⟩
    have am:=g.size;refine(ek (ai.ext (av.trans (ax.trans (g)))) I I I ac ae).use ?_;rintro _ v ⟨o,p,r,ar,au,aw,rfl,S,f⟩;refine⟨_,o,p,r,rfl,f,?_⟩;have ao:=f.size;have x:=aU.ext (ax.trans (g.trans (f)));have P:=aj.ext f;refine⟨x.b2 rfl (fb _ _ _ _),rfl,cp x (us:=[a.leaf,E,F,G]) rfl rfl λap y aW t5=>?_⟩;have z:=P.ab aW I;refine⟨z.b2 rfl (fb _ _ _ _),rfl,cp z (us:=[b.leaf,o,p,r]) rfl rfl λj A b8 t6=>?_⟩;obtain⟨m,B⟩:∃m,m=O.heap.size:=⟨_,rfl⟩;obtain⟨aG,D⟩:∃aG,aG=u.heap.size:=⟨_,rfl⟩;rw[←B]at y aW;rw[←D]at A b8;rw[←B,←D];have i:ad (λq=>q=m\/q=aG) v j:=(aW.mono λq _ h=>.inl h).trans (b8.mono λq _ h=>.inr h);have Q:eD lo j a E F G K L M:=(((d.ext (g.trans (f))).ab i λq _ _ c e=>by have aq:H.heap.size<=q/\q<u.heap.size:=(by rcases c with c|c|c;exact⟨(d.ba q c).1,(d.ba q c).2.1⟩;exact⟨(d.bv q c).1,(d.bv q c).2.1⟩;exact d.aI q c);omega).low I);have R:br (λq=>t.heap.size<=q/\q<v.heap.size) j b o p r:=(S.at.aV λq h1 h2=>⟨h2,h1⟩).ab i λq c e=>by omega
    have l:∀q,K q\/L q\/M q->H.heap.size<=q/\q<u.heap.size:=λq c=>by
     rcases c with c|c|c
     .exact⟨(d.ba q c).1,(d.ba q c).2.1⟩
     .exact⟨(d.bv q c).1,(d.bv q c).2.1⟩
     .exact d.aI q c
    exact jE (lo:=lo) (bY:=j) (C:=λq=>t.heap.size<=q/\q<v.heap.size) ((V.ext (av.trans (ax.trans (g.trans f)))).ab i I).cell (y.ab b8 I) A Q R (λq c=>⟨I,I,I,I,λh=>(by have:=l q (.inl h);omega),λh=>(by have:=l q (.inr (.inl h));omega),λh=>(by have:=l q (.inr (.inr h));omega)⟩) (λq c=>(by have:=l q c;exact⟨I,I⟩)) I I I ((Z.ext (av.trans (ax.trans (g.trans f)))).ab i I) rfl I I ((aa.ext (av.trans (ax.trans (g.trans f)))).ab i λq c e=>(by have:=W q c;have:=N.size;omega)) X (Ext.dc (N.trans (av.trans (ax.trans (g.trans f)))) i λq c=>I) hs T sa sb bJ bp
  .refine bl (vs:=[false,(),(),()]) rfl λu aE ax cc=>⟨ax,?_⟩
   have s2:=ax.size;refine(ek (a1.ext (av.trans (ax))) I I I aX aZ).use ?_;rintro _ t ⟨E,F,G,K,L,M,rfl,d,g⟩;refine⟨_,E,F,G,rfl,g,?_⟩;have am:=g.size;refine(ek (ai.ext (av.trans (ax.trans (g)))) I I I ac ae).use ?_;rintro _ v ⟨o,p,r,ar,au,aw,rfl,S,f⟩;refine⟨_,o,p,r,rfl,f,?_⟩;have ao:=f.size;have x:=aU.ext (ax.trans (g.trans (f)));have P:=aE.ext (g.trans (f));refine⟨x.b2 rfl (fb _ _ _ _),rfl,cp x (us:=[a.leaf,E,F,G]) rfl rfl λap y aW t5=>?_⟩;have z:=P.ab aW I;refine⟨z.b2 rfl (fb _ _ _ _),rfl,cp z (us:=[b.leaf,o,p,r]) rfl rfl λj A b8 t6=>?_⟩;obtain⟨m,B⟩:∃m,m=O.heap.size:=⟨_,rfl⟩;obtain⟨aG,D⟩:∃aG,aG=H.heap.size:=⟨_,rfl⟩;rw[←B]at y aW;rw[←D]at A b8;rw[←B,←D];have i:ad (λq=>q=m\/q=aG) v j:=(aW.mono λq _ h=>.inl h).trans (b8.mono λq _ h=>.inr h);have Q:eD lo j a E F G K L M:=(((d.ext f).ab i λq _ _ c e=>by have aq:u.heap.size<=q/\q<t.heap.size:=(by rcases c with c|c|c;exact⟨(d.ba q c).1,(d.ba q c).2.1⟩;exact⟨(d.bv q c).1,(d.bv q c).2.1⟩;exact d.aI q c);omega).low I);have R:br (λq=>t.heap.size<=q/\q<v.heap.size) j b o p r:=(S.at.aV λq h1 h2=>⟨h2,h1⟩).ab i λq c e=>by omega
   have l:∀q,K q\/L q\/M q->u.heap.size<=q/\q<t.heap.size:=λq c=>by
    rcases c with c|c|c
    .exact⟨(d.ba q c).1,(d.ba q c).2.1⟩
    .exact⟨(d.bv q c).1,(d.bv q c).2.1⟩
    .exact d.aI q c
   exact jE (lo:=lo) (bY:=j) (C:=λq=>t.heap.size<=q/\q<v.heap.size) ((V.ext (av.trans (ax.trans (g.trans f)))).ab i I).cell (y.ab b8 I) A Q R (λq c=>⟨I,I,I,I,λh=>(by have:=l q (.inl h);omega),λh=>(by have:=l q (.inr (.inl h));omega),λh=>(by have:=l q (.inr (.inr h));omega)⟩) (λq c=>(by have:=l q c;exact⟨I,I⟩)) I I I ((Z.ext (av.trans (ax.trans (g.trans f)))).ab i I) rfl I I ((aa.ext (av.trans (ax.trans (g.trans f)))).ab i λq c e=>(by have:=W q c;have:=N.size;omega)) X (Ext.dc (N.trans (av.trans (ax.trans (g.trans f)))) i λq c=>I) hs T sa sb bJ bp
 .refine bl (vs:=[false,(),(),()]) rfl λH aU av gD=>⟨av,?_⟩
  have s1:=av.size;refine⟨?_,?_⟩
  .refine(ek (a1.ext av) I I I aX aZ).use ?_
   rintro _ u ⟨E,F,G,K,L,M,rfl,d,ax⟩;refine⟨_,E,F,G,rfl,ax,?_⟩;have s2:=ax.size;refine⟨?_,?_⟩
   .refine(ek (ai.ext (av.trans (ax))) I I I ac ae).use ?_
    rintro _ t ⟨o,p,r,ar,au,aw,rfl,S,g⟩;refine⟨_,o,p,r,rfl,g,?_⟩;have am:=g.size;refine bl (vs:=[false,(),(),()]) rfl λv an f z4=>⟨f,?_⟩;have ao:=f.size;have x:=an;have P:=aU.ext (ax.trans (g.trans (f)));refine⟨x.b2 rfl (fb _ _ _ _),rfl,cp x (us:=[a.leaf,E,F,G]) rfl rfl λap y aW t5=>?_⟩;have z:=P.ab aW I;refine⟨z.b2 rfl (fb _ _ _ _),rfl,cp z (us:=[b.leaf,o,p,r]) rfl rfl λj A b8 t6=>?_⟩;obtain⟨m,B⟩:∃m,m=t.heap.size:=⟨_,rfl⟩;obtain⟨aG,D⟩:∃aG,aG=O.heap.size:=⟨_,rfl⟩;rw[←B]at y aW;rw[←D]at A b8;rw[←B,←D];have i:ad (λq=>q=m\/q=aG) v j:=(aW.mono λq _ h=>.inl h).trans (b8.mono λq _ h=>.inr h);have Q:eD lo j a E F G K L M:=(((d.ext (g.trans (f))).ab i λq _ _ c e=>by have aq:H.heap.size<=q/\q<u.heap.size:=(by rcases c with c|c|c;exact⟨(d.ba q c).1,(d.ba q c).2.1⟩;exact⟨(d.bv q c).1,(d.bv q c).2.1⟩;exact d.aI q c);omega).low I);have R:br (λq=>u.heap.size<=q/\q<t.heap.size) j b o p r:=((S.at.aV λq h1 h2=>⟨h2,h1⟩).ext f).ab i λq c e=>by omega
    have l:∀q,K q\/L q\/M q->H.heap.size<=q/\q<u.heap.size:=λq c=>by
     rcases c with c|c|c
     .exact⟨(d.ba q c).1,(d.ba q c).2.1⟩
     .exact⟨(d.bv q c).1,(d.bv q c).2.1⟩
     .exact d.aI q c
    exact jE (lo:=lo) (bY:=j) (C:=λq=>u.heap.size<=q/\q<t.heap.size) ((V.ext (av.trans (ax.trans (g.trans f)))).ab i I).cell (y.ab b8 I) A Q R (λq c=>⟨I,I,I,I,λh=>(by have:=l q (.inl h);omega),λh=>(by have:=l q (.inr (.inl h));omega),λh=>(by have:=l q (.inr (.inr h));omega)⟩) (λq c=>(by have:=l q c;exact⟨I,I⟩)) I I I ((Z.ext (av.trans (ax.trans (g.trans f)))).ab i I) rfl I I ((aa.ext (av.trans (ax.trans (g.trans f)))).ab i λq c e=>(by have:=W q c;have:=N.size;omega)) X (Ext.dc (N.trans (av.trans (ax.trans (g.trans f)))) i λq c=>I) hs T sa sb bJ bp
   .refine bl (vs:=[false,(),(),()]) rfl λt aj g z3=>⟨g,?_⟩
    have am:=g.size;refine(ek (ai.ext (av.trans (ax.trans (g)))) I I I ac ae).use ?_;rintro _ v ⟨o,p,r,ar,au,aw,rfl,S,f⟩;refine⟨_,o,p,r,rfl,f,?_⟩;have ao:=f.size;have x:=aj.ext f;have P:=aU.ext (ax.trans (g.trans (f)));refine⟨x.b2 rfl (fb _ _ _ _),rfl,cp x (us:=[a.leaf,E,F,G]) rfl rfl λap y aW t5=>?_⟩;have z:=P.ab aW I;refine⟨z.b2 rfl (fb _ _ _ _),rfl,cp z (us:=[b.leaf,o,p,r]) rfl rfl λj A b8 t6=>?_⟩;obtain⟨m,B⟩:∃m,m=u.heap.size:=⟨_,rfl⟩;obtain⟨aG,D⟩:∃aG,aG=O.heap.size:=⟨_,rfl⟩;rw[←B]at y aW;rw[←D]at A b8;rw[←B,←D];have i:ad (λq=>q=m\/q=aG) v j:=(aW.mono λq _ h=>.inl h).trans (b8.mono λq _ h=>.inr h);have Q:eD lo j a E F G K L M:=(((d.ext (g.trans (f))).ab i λq _ _ c e=>by have aq:H.heap.size<=q/\q<u.heap.size:=(by rcases c with c|c|c;exact⟨(d.ba q c).1,(d.ba q c).2.1⟩;exact⟨(d.bv q c).1,(d.bv q c).2.1⟩;exact d.aI q c);omega).low I);have R:br (λq=>t.heap.size<=q/\q<v.heap.size) j b o p r:=(S.at.aV λq h1 h2=>⟨h2,h1⟩).ab i λq c e=>by omega
    have l:∀q,K q\/L q\/M q->H.heap.size<=q/\q<u.heap.size:=λq c=>by
     rcases c with c|c|c
     .exact⟨(d.ba q c).1,(d.ba q c).2.1⟩
     .exact⟨(d.bv q c).1,(d.bv q c).2.1⟩
     .exact d.aI q c
    exact jE (lo:=lo) (bY:=j) (C:=λq=>t.heap.size<=q/\q<v.heap.size) ((V.ext (av.trans (ax.trans (g.trans f)))).ab i I).cell (y.ab b8 I) A Q R (λq c=>⟨I,I,I,I,λh=>(by have:=l q (.inl h);omega),λh=>(by have:=l q (.inr (.inl h));omega),λh=>(by have:=l q (.inr (.inr h));omega)⟩) (λq c=>(by have:=l q c;exact⟨I,I⟩)) I I I ((Z.ext (av.trans (ax.trans (g.trans f)))).ab i I) rfl I I ((aa.ext (av.trans (ax.trans (g.trans f)))).ab i λq c e=>(by have:=W q c;have:=N.size;omega)) X (Ext.dc (N.trans (av.trans (ax.trans (g.trans f)))) i λq c=>I) hs T sa sb bJ bp
  .refine bl (vs:=[false,(),(),()]) rfl λu aE ax cc=>⟨ax,?_⟩
   have s2:=ax.size;refine(ek (a1.ext (av.trans (ax))) I I I aX aZ).use ?_;rintro _ t ⟨E,F,G,K,L,M,rfl,d,g⟩;refine⟨_,E,F,G,rfl,g,?_⟩;have am:=g.size;refine(ek (ai.ext (av.trans (ax.trans (g)))) I I I ac ae).use ?_;rintro _ v ⟨o,p,r,ar,au,aw,rfl,S,f⟩;refine⟨_,o,p,r,rfl,f,?_⟩;have ao:=f.size;have x:=aE.ext (g.trans (f));have P:=aU.ext (ax.trans (g.trans (f)));refine⟨x.b2 rfl (fb _ _ _ _),rfl,cp x (us:=[a.leaf,E,F,G]) rfl rfl λap y aW t5=>?_⟩;have z:=P.ab aW I;refine⟨z.b2 rfl (fb _ _ _ _),rfl,cp z (us:=[b.leaf,o,p,r]) rfl rfl λj A b8 t6=>?_⟩;obtain⟨m,B⟩:∃m,m=H.heap.size:=⟨_,rfl⟩;obtain⟨aG,D⟩:∃aG,aG=O.heap.size:=⟨_,rfl⟩;rw[←B]at y aW;rw[←D]at A b8;rw[←B,←D];have i:ad (λq=>q=m\/q=aG) v j:=(aW.mono λq _ h=>.inl h).trans (b8.mono λq _ h=>.inr h);have Q:eD lo j a E F G K L M:=(((d.ext f).ab i λq _ _ c e=>by have aq:u.heap.size<=q/\q<t.heap.size:=(by rcases c with c|c|c;exact⟨(d.ba q c).1,(d.ba q c).2.1⟩;exact⟨(d.bv q c).1,(d.bv q c).2.1⟩;exact d.aI q c);omega).low I);have R:br (λq=>t.heap.size<=q/\q<v.heap.size) j b o p r:=(S.at.aV λq h1 h2=>⟨h2,h1⟩).ab i λq c e=>by omega
   have l:∀q,K q\/L q\/M q->u.heap.size<=q/\q<t.heap.size:=λq c=>by
    rcases c with c|c|c
    .exact⟨(d.ba q c).1,(d.ba q c).2.1⟩
    .exact⟨(d.bv q c).1,(d.bv q c).2.1⟩
    .exact d.aI q c
   exact jE (lo:=lo) (bY:=j) (C:=λq=>t.heap.size<=q/\q<v.heap.size) ((V.ext (av.trans (ax.trans (g.trans f)))).ab i I).cell (y.ab b8 I) A Q R (λq c=>⟨I,I,I,I,λh=>(by have:=l q (.inl h);omega),λh=>(by have:=l q (.inr (.inl h));omega),λh=>(by have:=l q (.inr (.inr h));omega)⟩) (λq c=>(by have:=l q c;exact⟨I,I⟩)) I I I ((Z.ext (av.trans (ax.trans (g.trans f)))).ab i I) rfl I I ((aa.ext (av.trans (ax.trans (g.trans f)))).ab i λq c e=>(by have:=W q c;have:=N.size;omega)) X (Ext.dc (N.trans (av.trans (ax.trans (g.trans f)))) i λq c=>I) hs T sa sb bJ bp
section
variable {α:Type}{c:α->O aa}{sz:Nat}
def b5(c:α->O aa)(l:O α):O aa:=(l.map c).flatten
theorem qv(l m:O α):b5 c (l++m)=b5 c l++b5 c m:=by simp[b5]
theorem qw(x:α)(l:O α):b5 c (x::l)=c x++b5 c l:=rfl
theorem gQ:∀ (l:O α),(∀x∈l,(c x).length=sz)->(b5 c l).length=l.length*sz
 | [],_=>by simp[b5]
 |x::l,h=>by
  rw[qw,cF,h x (by simp),gQ l λy a=>h y (by simp[a]),fy,kN];omega
theorem DG{l:O α}{i:Nat}(h:i<l.length):l=l.take i++l[i]::l.drop (i+1):=by rw[←lB h,hO]
theorem we{l:O α}(hc:∀x∈l,(c x).length=sz){i:Nat}(h:i<l.length):(b5 c l).take (i*sz)=b5 c (l.take i)/\(b5 c l).drop (i*sz)=c l[i]++b5 c (l.drop (i+1)):=by
 have a:(b5 c (l.take i)).length=i*sz:=by
  rw[gQ _ λx hx=>hc x (eS hx),cC,iX I]
 have e:b5 c l=b5 c (l.take i)++(c l[i]++b5 c (l.drop (i+1))):=by
  conv=>lhs;rw[DG h]
  rw[qv,qw]
 rw[e];exact⟨k_ a,drop_left' a⟩
theorem zq{l:O α}(hc:∀x∈l,(c x).length=sz){i:Nat}(h:i<l.length):((b5 c l).drop (i*sz)).take sz=c l[i]:=by
 rw[(we hc h).2];exact k_ (hc _ (cr h))
theorem tT{l:O α}(hc:∀x∈l,(c x).length=sz){i j:Nat}(h:i<l.length)(a:j<sz):(b5 c l)[i*sz+j]? =(c l[i])[j]? :=by
 rw[←zq hc h,List.getElem?_take_of_lt a,List.getElem?_drop]
theorem zr{l:O α}(hc:∀x∈l,(c x).length=sz){i:Nat}(h:i<l.length)(x:α):(b5 c l).take (i*sz)++c x++(b5 c l).drop (i*sz+sz)=b5 c (l.set i x):=by
 have h1:=we hc h;have h2:(b5 c l).drop (i*sz+sz)=b5 c (l.drop (i+1)):=by
  rw[←List.drop_drop,h1.2];exact drop_left' (hc _ (cr h))
 rw[h1.1,h2,List.set_eq_take_append_cons_drop,if_pos h,qv,qw,cV]
theorem DH{l:O α}(hc:∀x∈l,(c x).length=sz){i j:Nat}(h:i<l.length)(a:j<sz){x:α}{v:aa}(hx:c x=(c l[i]).set j v):(b5 c l).set (i*sz+j) v=b5 c (l.set i x):=by
 have b:(c l[i]).length=sz:=hc _ (cr h);have h1:=we hc h;have e:b5 c l=b5 c (l.take i)++(c l[i]++b5 c (l.drop (i+1))):=by
  conv=>lhs;rw[←hO (i*sz) (b5 c l),h1.1,h1.2]
 have d:(b5 c (l.take i)).length=i*sz:=by
  rw[gQ _ λx hx=>hc x (eS hx),cC,iX I]
 rw[e,List.set_append_right _ _ I,show i*sz+j-(b5 c (l.take i)).length=j from I,List.set_append_left _ _ I,←hx,List.set_eq_take_append_cons_drop,if_pos h,qv,qw]
end
section
variable {α:Type} [DecidableEq α] {P:Program}{w:J}{gK e1 T:TypeId}{enc:α->aa}{r:Nat}{M:O (α×aa)}{k:α}{v:aa}
theorem DI(f:lO P gK enc)(j:P.underlying T=some (.map gK e1))(h:dV w r enc M)(l:∀v,(k,v)∉M)(v:aa):
 ∃w1:J,(Instr.mapUpdate T (.map (some r)) (enc k) v).run P w=.ok () w1/\ad (λq=>q=r) w w1/\w1.heap.size=w.heap.size/\dV w1 r enc ((k,v)::M):=by
 have aK:=h.lt;obtain⟨L,c,h,h1,h2,m,g⟩:=h;have i:=yr h1 l;have hf:=f.find L k w;rw[vb i]at hf;refine⟨hA w r (.map ((L.map (dn enc)).toArray.push ⟨enc k,v,c⟩) (c+1)),?_,pX _ _ _,rI _ _ _,L++ [(k,v,c)],c+1,?_,?_,?_,?_,?_⟩
 .simp only[Instr.mapUpdate,Sem.run_bind,c2 j,Result.andThen,k1 h,Sem.run_pure,f.check,hf,vd h]
 .rw[rJ aK]
  simp[dn]
 .rw[fm]
  have:([(k,v,c)]:O (α×aa×Nat)).map kt=[(k,v)]:=rfl;rw[this];exact(pr).trans (List.Perm.cons _ h1)
 .rw[fm,nE]
  refine⟨h2,by simp,λa e b d=>?_⟩;obtain⟨x,hx,rfl⟩:=dU.1 e;simp only[iC,List.map_nil,e0]at d;subst d;exact i x hx
 .rw[fm,nE]
  refine⟨m,by simp,λa e b d=>?_⟩;obtain⟨x,hx,rfl⟩:=dU.1 e;simp only[iC,List.map_nil,e0]at d;subst d;have:=g x hx;omega
 .intro x hx
  rcases cH.1 hx with hx|hx
  .have:=g x hx;omega
  .rw[e0.1 hx];show c<c+1;omega
theorem DJ(c:lO P gK enc)(g:P.underlying T=some (.map gK e1))(h:dV w r enc ((k,v)::M))(b:aa):
 ∃w1:J,(Instr.mapUpdate T (.map (some r)) (enc k) b).run P w=.ok () w1/\ad (λq=>q=r) w w1/\w1.heap.size=w.heap.size/\dV w1 r enc ((k,b)::M):=by
 have aK:=h.lt;obtain⟨n,bq,bM,a,f,h,h1,h2,i,d,_⟩:=h.split;have hf:=c.find (bq++(k,v,a)::bM) k w;rw[vc (yq h2),cE]at hf;have hg:((bq++(k,v,a)::bM).map (dn enc)).toArray[bq.length]? =some ⟨enc k,v,a⟩:=by simp[dn]
 have j:((bq++(k,v,a)::bM).map (dn enc)).toArray.modify bq.length (λe=>{e with key:=enc k,val:=b})=((bq++(k,b,a)::bM).map (dn enc)).toArray:=by
  apply Array.toList_inj.1;rw[Array.toList_modify,fm,iC];have:=yp (λe=>{e with key:=enc k,val:=b}) (dn enc (k,v,a)) (bM.map (dn enc)) (bq.map (dn enc));rw[dr]at this;rw[this];simp[dn]
 refine⟨hA w r (.map ((bq++(k,b,a)::bM).map (dn enc)).toArray f),?_,pX _ _ _,rI _ _ _,bq++(k,b,a)::bM,f,rJ aK _,?_,?_,?_,?_⟩
 .simp only[Instr.mapUpdate,Sem.run_bind,c2 g,Result.andThen,k1 h,Sem.run_pure,c.check,hf,hg,lC,pj,Instr.keyThatStays,c.bits,if_true,vd h,j]
 .rw[fm,iC]
  rw[fm]at h1;exact lD.trans (h1.cons _)
 .simpa using h2
 .simpa using i
 .intro x hx
  rcases cH.1 hx with hx|hx
  .exact d x (by simp[hx])
  .rcases cP.1 hx with rfl|hx
   .exact d (k,v,a) (by simp)
   .exact d x (by simp[hx])
end
abbrev cL:=O UInt8
structure gx where
 i:Nat
 s:Y
 fI:O cL
structure aX where
 d:Nat
 lb:Nat
 mr:Nat
 b6:O Int
 bc:O cL
 waits:O gx
 writes:Int
 aM:Nat
 bC:Nat->ai
 dS:Nat->O cL
def gx.e(x:gx):Int×aa:=((x.i:Int),x.s)
def aX.c(D:aX):O aa:=D.b6.map (.int .i64)++ [.slice (some ⟨D.lb,0,none⟩) D.bc.length D.bc.length,.map (some D.mr),.int .i64 D.writes]
def aX.n(D:aX):Nat:=D.bc.length
abbrev encZ:Int->aa:=λn=>n
theorem nf:lO ak 3 encZ:=lO.int (by kernel_rfl)
theorem kC:Tryz.prog.underlying 137=some (.map 3 136):=by kernel_rfl
theorem zt:(Tryz.prog.info? 136).bind (·.zero)=some (.slice none 0 0):=by kernel_rfl
theorem tU{P:Program}{T:TypeId}{z:aa}(h:(P.info? T).bind (·.zero)=some z):∃i,P.info? T=some i/\i.zero=some z:=by
 cases hi:P.info? T with
 |none=>rw[hi]at h;cases h
 |some i=>rw[hi]at h;exact⟨i,rfl,h⟩
def bG(D:aX)(q:Nat):Prop:=q=D.d\/q=D.lb\/q=D.mr\/∃x∈D.waits,aC x.s q
structure cl(w:J)(D:aX):Prop where
 v:Var w D.d D.c 141
 l:bm w D.lb (b5 aF D.bc).toArray 182
 m:dV w D.mr encZ (D.waits.map gx.e)
 ws:∀x∈D.waits,a7 256 182 w x.s (b5 aF x.fI)
 wn:∀x∈D.waits,x.fI≠ []/\x.i<D.n/\x.fI.length<=D.aM
 sl:∀s∈D.bc,s.length=256
 jF:∀x∈D.waits,∀s∈x.fI,s.length=256
 bJ:16<=D.n
 bp:D.n<=1600
 f4:D.b6.length=4
 fr:∀x∈D.b6, -1<=x/\x<=9223372036854775807
 a1:D.d≠D.lb/\D.d≠D.mr/\D.lb≠D.mr
 a2:∀x∈D.waits,¬aC x.s D.d/\¬aC x.s D.lb/\¬aC x.s D.mr
 a3:∀x∈D.waits,∀y∈D.waits,x.i≠y.i->∀q,aC x.s q->¬aC y.s q
section
variable {w w':J}{D:aX}
theorem cl.ab{W:Nat->Prop}(h:cl w D)(hc:ad W w w')(a:∀q,bG D q->¬W q):cl w' D:=
 ⟨h.v.ab hc (a _ (.inl rfl)),bm.ab h.l hc (a _ (.inr (.inl rfl))),h.m.ab hc (a _ (.inr (.inr (.inl rfl)))),λx hx=>(h.ws x hx).ab hc λq b=>a q (.inr (.inr (.inr ⟨x,hx,b⟩))),h.wn,h.sl,h.jF,h.bJ,h.bp,h.f4,h.fr,h.a1,h.a2,h.a3⟩
theorem cl.ext(h:cl w D)(hc:Ext w w'):cl w' D:=h.ab hc λ_ _ h=>h
theorem cl.lt(h:cl w D){q:Nat}(a:bG D q):q<w.heap.size:=by
 rcases a with rfl|rfl|rfl|⟨x,hx,a⟩
 .exact h.v.lt
 .exact bm.lt h.l
 .exact h.m.lt
 .exact(h.ws x hx).lt q a
theorem cl.DK(h:cl w D){k:Nat}(a:k<4):w.cell? ⟨D.d,k,none⟩=some (.int .i64 (D.b6.getD k 0)):=by
 rw[h.v.cell];unfold aX.c;have:=h.f4;rw[List.getElem?_append_left (by rw[dr];omega),km,dE I,eQ I];rfl
theorem cl.dj(h:cl w D):w.cell? (Addr.add D.d 4)=some (.slice (some D.lb) D.bc.length D.bc.length):=by
 rw[ay,h.v.cell];unfold aX.c;have:=h.f4;rw[jP (by rw[dr];omega),dr,this];rfl
theorem cl.aW(h:cl w D):w.cell? (Addr.add D.d 5)=some (.map (some D.mr)):=by
 rw[ay,h.v.cell];unfold aX.c;have:=h.f4;rw[jP (by rw[dr];omega),dr,this];rfl
theorem cl.tV(h:cl w D):D.c.length=7:=by
 unfold aX.c;have:=h.f4;simp;omega
def aX.now(D:aX)(i:Nat):cL:=match D.waits.find? λx=>x.i==i with
 |some x=>x.fI.getLastD []
 |none=>D.bc.getD i []
theorem DL{α:Type}{l:O α}{d:α}(h:l≠ []):l.getLastD d∈l:=by
 cases l with
 |nil=>exact absurd rfl h
 |cons a l=>
  rw[List.getLastD_cons];rw[←List.getLast_eq_getLastD];exact List.getLast_mem h
theorem cl.ng(h:cl w D){i:Nat}(hi:i<D.n):(D.now i).length=256:=by
 unfold aX.now
 cases hf:D.waits.find? λx=>x.i==i with
 |some x=>
  have hx:=iE hf;exact h.jF x hx _ (DL (h.wn x hx).1)
 |none=>
  have a:i<D.bc.length:=hi;rw[show(match (none:aq gx) with|some x=>x.fI.getLastD []|none=>D.bc.getD i [])=D.bc.getD i [] from rfl,eQ a];exact h.sl _ (cr _)
theorem oV(h:cl w D):aP ak 72 #[.pointer (some D.d)] w (λv w'=>v=D.n/\w=w'):=by
 refine okF (af.su (some D.d)) az.su func72 ?_;(delta af.su al ag;dsimp only);exact⟨λh=>(by cases h),λ_=>⟨_,rfl,⟨some D.lb,D.bc.length,D.bc.length⟩,h.dj,rfl,rfl⟩⟩
theorem zu(h:cl w D)(i:Int):aP ak 108 #[.pointer (some D.d),i] w (λv w'=>v=.bool (decide (0<=i/\i<D.n))/\w=w'):=by
 refine okF (af.sJ (some D.d) i) az.sJ func108 ?_;(delta af.sJ al ag;dsimp only);refine ct (λb w'=>b=decide (0<=i/\i<D.n)/\w=w') (λq c=>⟨λa=>⟨_,rfl,⟨some D.lb,D.bc.length,D.bc.length⟩,h.dj,c _ _ ⟨?_,rfl⟩⟩,λa=>c _ _ ⟨?_,rfl⟩⟩) ?_
 .have a:0<=i:=by simpa using a
  rw[fD,cR,cR];exact⟨λh=>⟨a,h⟩,λh=>h.2⟩
 .have a:¬0<=i:=by simpa using a
  rw[ig (λh=>a h.1)]
 .rintro _ _ ⟨rfl,rfl⟩
  exact⟨rfl,rfl⟩
end
def fR(f:Int):ai×Int:=if f= -1 then (false, -1) else if f=0 then (true, -1) else (false,f-1)
theorem DM{f:Int}(h: -1<=f/\f<=9223372036854775807): -1<=(fR f).2/\(fR f).2<=9223372036854775807:=by
 unfold fR;split
 .exact⟨by decide,by decide⟩
 .split
  .exact⟨by decide,by decide⟩
  .show -1<=f-1/\f-1<=_;omega
def aX.cf(D:aX)(k:Nat):aX:={D with b6:=D.b6.set k (fR (D.b6.getD k 0)).2}
def aX.fh(D:aX)(k:Nat):ai:=(fR (D.b6.getD k 0)).1
theorem wg{w:J}{D:aX}(h:cl w D){k:Nat}(n:k<4):
 aP ak 136 #[.pointer (some ⟨D.d,0,none⟩),.int .i64 ((k:Nat):Int)] w (λv w'=>v=.bool (D.fh k)/\cl w' (D.cf k)/\ad (λq=>q=D.d) w w'/\w'.heap.size=w.heap.size):=by
 have hf:=h.DK n;have o:=h.f4;have p: -1<=D.b6.getD k 0/\D.b6.getD k 0<=9223372036854775807:=by rw[eQ I];exact h.fr _ (cr _)
 have g:∀ (w1:J),cl w1 D->cl (w1.setCell ⟨D.d,k,none⟩ (.int .i64 (fR (D.b6.getD k 0)).2)) (D.cf k):=by
  intro w1 h1;have hc:=dg w1 D.d k (.int .i64 (fR (D.b6.getD k 0)).2);have j:=dI h1.v (i:=k) (.int .i64 (fR (D.b6.getD k 0)).2);have e:D.c.set k (.int .i64 (fR (D.b6.getD k 0)).2)=(D.cf k).c:=by
   unfold aX.c aX.cf;rw[List.set_append_left _ _ (by rw[dr];omega),←List.map_set]
  rw[e]at j;refine⟨j,bm.ab h1.l hc (λe=>h.a1.1 e.symm),h1.m.ab hc (λe=>h.a1.2.1 e.symm),λx hx=>(h1.ws x hx).ab hc λq r e=>(h.a2 x hx).1 (by subst e;exact r),h.wn,h.sl,h.jF,h.bJ,h.bp,by show(D.b6.set k _).length=4;rw[cY];exact o,λx hx=>?_,h.a1,h.a2,h.a3⟩;rcases kR hx with hx|rfl
  .exact h.fr x hx
  .exact DM p
 have f:Addr.add ⟨D.d,0,none⟩ (Int.toNat ((k:Nat):Int)*1)=⟨D.d,k,none⟩:=by rw[di,fz,ay,cE]
 refine okF (af.sR (some ⟨D.d,0,none⟩) ((k:Nat):Int)) az.sR func136 ?_;(delta af.sR r1 al st au;dsimp only);refine⟨_,rfl,⟨I,by show(k:Int)<4;omega⟩,D.b6.getD k 0,by rw[f];exact hf,λh1=>?_,λh1=>⟨λh2=>⟨_,rfl,⟨I,by show(k:Int)<4;omega⟩,?_⟩,λh2=>aY ⟨_,rfl,⟨I,by show(k:Int)<4;omega⟩,id,_,by rw[f];exact hf,_,rfl,⟨I,by show(k:Int)<4;omega⟩,?_⟩⟩⟩
 .have h1:D.b6.getD k 0= -1:=by simpa using h1
  have a:D.fh k=false:=by unfold aX.fh fR;rw[if_pos h1]
  have b:D.cf k=D:=by
   unfold aX.cf fR;rw[if_pos h1];have:D.b6.set k (-1)=D.b6:=by
    rw[←h1,eQ I];exact List.set_getElem_self _
   rw[this]
  rw[a,b];exact⟨rfl,h,.refl _ _,rfl⟩
 .have h1:D.b6.getD k 0≠ -1:=by simpa using h1
  have h2:D.b6.getD k 0=0:=by simpa using h2
  have hs:=dB h.v (i:=k) (by rw[h.tV];omega);have a:D.fh k=true:=by unfold aX.fh fR;rw[if_neg h1,if_pos h2]
  have b:(fR (D.b6.getD k 0)).2= -1:=by unfold fR;rw[if_neg h1,if_pos h2]
  have:=g w h;rw[b]at this;rw[f,a];exact⟨hs.1,hs.2,aY ⟨rfl,this,dg _ _ _ _,by simp[World.setCell]⟩⟩
 .have h1:D.b6.getD k 0≠ -1:=by simpa using h1
  have h2:D.b6.getD k 0≠0:=by simpa using h2
  have hd:=h.ext (cw w);have hs:=dB hd.v (i:=k) (by rw[h.tV];omega);have a:D.fh k=false:=by unfold aX.fh fR;rw[if_neg h1,if_neg h2]
  have b:(fR (D.b6.getD k 0)).2=D.b6.getD k 0-1:=by unfold fR;rw[if_neg h1,if_neg h2]
  have:=g w.drew hd;rw[b]at this;rw[f,a,bu I I];exact⟨hs.1,hs.2,aY ⟨rfl,this,(ad.cK (cw w)).trans (dg _ _ _ _),by simp[World.setCell]⟩⟩
end Go.Proofs.YtkdhdlfonmgheaaGreat
