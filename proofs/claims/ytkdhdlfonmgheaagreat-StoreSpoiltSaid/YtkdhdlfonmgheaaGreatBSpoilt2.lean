/- Contracts of the functions that the statement reaches, and the plain laws over them; each theorem stands with its conditions. -/
import Derived.Test.YtkdhdlfonmgheaaGreatBSpoilt1
namespace Go.Proofs.YtkdhdlfonmgheaaGreat
open Go a_ Go.Proofs.Tryz
def g8:aB:=⟨false,[],[],[]⟩
def bg:U:=⟨none,0,0⟩
def xX(leaf:aj)(l:O UInt8)(w w':J)(v:aa):Prop:=
 (∃ (n:aB) (K V D:U),v=.tuple #[cX n K V D,(0:Int)]/\lK leaf l n/\bz (λq=>w.heap.size<=q) w' n K V D)\/
 (v=.tuple #[cX g8 bg bg bg,(4:Int)]/\∀n,¬lK leaf l n)
theorem jb{w':J}{h:Nat}{vs:O aa}(b:aj)(K V D:U)(c:Var w' h vs 202)(g:vs.length=4){Q:aj->U->U->U->J->Prop}(j:∀ah,ab (λq=>q=h) w' ah->Q b K V D ah):
 bA w' h [b,K,V,D]/\(4:Nat)=4/\al (setCells w' h 0 [b,K,V,D]) λah=>
  ∃i:aj,ah.cell? h=some (.bool i)/\∃d:U,ah.cell? (Addr.add h 1)=some (.slice d.a d.len d.cap)/\∃e:U,ah.cell? (Addr.add h 2)=some (.slice e.a e.len e.cap)/\
   ∃f:U,ah.cell? (Addr.add h 3)=some (.slice f.a f.len f.cap)/\Q i d e f ah:=by
 refine⟨c.cc (by rw[g];rfl) ?_,rfl,cy c (us:=[b,K,V,D]) (by rw[g];rfl) rfl λah k hc _=>?_⟩
 .intro v c
  simp only[cU,eV,eZ]at c;rcases c with rfl|rfl|rfl|rfl<;>trivial
 .obtain⟨bU,aA,aR,aK⟩:=bC k
  exact⟨b,bU,K,aA,V,aR,D,aK,j ah hc⟩
theorem pX{w:J}{s:U}{l:O UInt8}(hs:Src 1 w s (aF l))(hc:s.len<=s.cap)(W:∀k,az s k->k<w.heap.size)(ao:l.length<=100000)(leaf:aj):
 aP ai 233 #[leaf,s] w (λv w'=>xX leaf l w w' v/\Ext w w'):=by
 refine okF (af.pX leaf s) ay.pX func233 ?_;(delta af.pX cp Y aA ak xl ag st ba av bc b8 aK rA;dsimp only);refine bh (vs:=[false,(),(),()]) rfl λw1 aU ap bM=>?_;refine bh (vs:=[s,true]) rfl λah aV X bN=>?_;refine bh (vs:=[false,(),(),()]) rfl λbO aq G bP=>?_;refine⟨aq.cc rfl (by
  intro v ar;simp only[cU,eV,eZ]at ar;rcases ar with rfl|rfl|rfl|rfl<;>trivial),rfl,cy aq (us:=[leaf,(),(),()]) rfl rfl λo aX H bQ=>?_⟩
 obtain⟨lo,bS⟩:∃lo,lo=o.heap.size:=⟨_,rfl⟩;obtain⟨r,aB⟩:∃r,r=w1.heap.size:=⟨_,rfl⟩;obtain⟨nb,aC⟩:∃nb,nb=ah.heap.size:=⟨_,rfl⟩;have aY:Ext w o:=Ext.cu (ap.trans (X.trans G)) H I;have aZ:jv o w1.heap.size s (l,true):=by
  refine⟨(aV.ext G).ad H I,(hs.ext (ap.trans (X.trans G))).ad H λk c e=>?_,hc,λk c=>?_⟩
  .have:=W k c;omega
  .have:=W k c;omega
 refine(xV aZ 1 (by decide) ao).use ?_;rintro _ aD ⟨aE,rfl,a0,Z,a1⟩;have bT:(rdNum (l,true) 1).1<256:=xW _ 1;have bV:=Z.size;have aG:j6 lo aD r nb aE (⟨leaf,[],[],[]⟩,(rdNum (l,true) 1).2) bg bg bg (λ_=>False) (λ_=>False) (λ_=>False):=by
  refine⟨by rw[aC];exact aX.ad Z I,by rw[aB];exact a0,bn.none _ _,bn.none _ _,cQ.none _ _,λq h=>h.elim,λq h=>h.elim,λq h=>h.elim,λq a=>?_,I,I,I,ey (vP _ 1) ao⟩;have:=W q (a1 q a);exact⟨I,I⟩
 have aJ:ab (oI lo r nb) o aD:=Z.mono λk _ c=>.inl I;rw[←aB,←aC];refine⟨_,rfl,hL (λw'=>∃ (x D:U) (bJ:Nat->Prop),j6 lo w' r nb x (mn leaf (rdNum (l,true) 1).2) bg bg D (λ_=>False) (λ_=>False) bJ/\ab (oI lo r nb) o w'/\lo<=w'.heap.size) (λq a=>⟨λd=>?_,λd=>a _ ⟨aE,bg,λ_=>False,?_,aJ,I⟩⟩) ?_⟩
 .have d:leaf=false:=by simpa using d
  subst d;refine Bi aG I (by simp) λw' ax x a2 h1 m p=>a _ ⟨x,ax,a2,?_,aJ.trans m,p⟩;have:mn false (rdNum (l,true) 1).2=(⟨false,[],[],[]++ [(rdNum (rdNum (l,true) 1).2 2).1]⟩,(rdNum (rdNum (l,true) 1).2 2).2):=by simp[mn]
  rw[this];exact h1
 .have d:leaf=true:=by simpa using d
  subst d;exact aG
 rintro bW ⟨a3,a4,a5,aL,a6,a7⟩;obtain⟨f,L⟩:∃f,f=mn leaf (rdNum (l,true) 1).2:=⟨_,rfl⟩;rw[←L]at aL;have a9:f.1.leaf=leaf:=by rw[L];unfold mn;cases leaf<;>rfl
 have bX:f.1.keys.length=0/\f.1.vals.length<=1/\f.1.kids.length<=1:=by rw[L];unfold mn;cases leaf<;>simp
 refine⟨λi w'=>∃ (j:Nat) (x K V D:U) (bR b3 bJ:Nat->Prop),i=j/\j<=(rdNum (l,true) 1).1/\j6 lo w' r nb x (im f j) K V D bR b3 bJ/\ab (oI lo r nb) o w'/\lo<=w'.heap.size,λi _=>(((rdNum (l,true) 1).1:Int)-i).toNat,⟨0,a3,bg,bg,a4,_,_,a5,rfl,cE _,aL,a6,a7⟩,?_⟩;rintro _ aM ⟨j,bY,K,V,D,bR,b3,bJ,rfl,bZ,g,M,a_⟩;obtain⟨bb,bd,be⟩:=Bh f j;have y:=Bg f j a9;refine⟨λaH=>?_,λaa=>?_⟩
 .have aH:j<(rdNum (l,true) 1).1:=by have:=b2 aH;omega
  rw[bu (n:=(j:Int)+1) I I];refine hL (λw'=>∃ (x K V D:U) (bR b3 bJ:Nat->Prop),j6 lo w' r nb x (im f (j+1)) K V D bR b3 bJ/\ab (oI lo r nb) o w'/\lo<=w'.heap.size) (λq a=>?_) ?_
  .refine FL g a_ I λz N aN P R S T=>⟨λd=>?_,λd=>?_⟩
   .refine FM R T (by show(im f j).1.vals.length<=_;omega) λac bf ae bi C t al=>a _ ⟨ae,N,bf,D,P,bi,bJ,?_,M.trans (S.trans t),al⟩
    rw[im];unfold oD;rw[y,d,if_pos rfl];rw[y,d]at C;exact C
   .refine Bi R T (by show(im f j).1.kids.length<=_;omega) λac bk ae bm C t al=>a _ ⟨ae,N,V,bk,P,b3,bm,?_,M.trans (S.trans t),al⟩
    rw[im];unfold oD;rw[y,d,if_neg (by simp)];rw[y,d]at C;exact C
  .rintro z ⟨aN,N,bp,bq,P,br,bs,R,S,T⟩
   refine⟨⟨j+1,aN,N,bp,bq,P,br,bs,I,I,R,S,T⟩,?_⟩;show(((rdNum (l,true) 1).1:Int)-((j:Int)+1)).toNat<(((rdNum (l,true) 1).1:Int)-(j:Int)).toNat;omega
 .have aa:j=(rdNum (l,true) 1).1:=by have:=cr aa;omega
  have bt:im f j=iK leaf l:=by rw[aa,L];rfl
  rw[bt]at g bb bd be y;obtain⟨bU,aA,aR,aK⟩:=bC g.v;have c6:bz (λq=>lo<=q) aM (iK leaf l).1 K V D:=⟨bl.aW (bn.iM g.keys) λq _ a=>(g.bj q a).1,bl.aW (bn.iM g.vals) λq _ a=>(g.bv q a).1,cI.aW (cQ.qc g.kids) λq _ a=>(g.aI q a).1⟩;have bw:Ext w aM:=Ext.dd aY M λk c=>by
   rcases c with c|c|c<;>omega
  refine⟨_,bU,K,aA,V,aR,D,aK,(om c6 I I I).use ?_⟩;rintro bx z ⟨bA,E⟩;have am:=bw.trans E;have bB:=g.v.ext E;have bD:=g.rd.ext E;have aO:Var z w.heap.size [false,(),(),()] 202:=by
   refine(Var.ad (w:=o) ?_ M ?_).ext E
   .exact(((aU.ext X).ext G).ad H I)
   .rintro(c|c|c)<;>omega
  have bE:=c6.ext E;obtain⟨d0,d1,d2,d3⟩:=bC bB;have bF:∃ (A:U) (e:Int),bx=Value.tuple #[A,e]/\(e=0->a8 1 5 z A (aF (ju (iK leaf l).1))/\cF (iK leaf l).1/\bI (iK leaf l).1<=232)/\(e≠0->cF (iK leaf l).1->232<bI (iK leaf l).1):=by
   rcases bA with ⟨A,rfl,h1,m,p,B⟩|⟨e,rfl,h1,m⟩
   .exact⟨A,0,rfl,λ_=>⟨h1,p,B⟩,λh=>absurd rfl h⟩
   .exact⟨bg,e,rfl,λh=>absurd h h1,λ_=>m⟩
  obtain⟨A,e,rfl,bG,aQ⟩:=bF;have bH:Src 1 z s (aF l):=hs.ext am
  have aS:∀n,lK leaf l n->iK leaf l=(n,([],true)):=by
   rintro n ⟨h1,m,p,B⟩;have:=xQ h1 p;rw[m,B]at this;exact this
  refine⟨A,e,rfl,_,rfl,(iK leaf l).2.2,by rw[aw];exact bD.v.cell,cm (λb w'=>z=w'/\(b=true->∀n,¬lK leaf l n)/\(b=false->lK leaf l (iK leaf l).1)) (λq a=>⟨λh1=>a _ _ ⟨rfl,λ_ n F=>?_,λh=>(by cases h)⟩,λh1=>?_⟩) ?_⟩
  .have hu:=aS n F
   obtain⟨m,p,B,aT⟩:=F;rw[hu]at h1 aQ;have h1:(e !=0)=true:=by simpa using h1
   have b0:232<bI n:=aQ (by simpa using h1) m;omega
  .have bK:(iK leaf l).2.2=true/\e=0:=by
    simp only[nD,qW,bne_eq_false_iff_eq]at h1;exact h1
   obtain⟨m,rfl⟩:=bK;obtain⟨p,B,aT⟩:=bG rfl;refine(pI p.src bH).use ?_;rintro _ _ ⟨rfl,rfl⟩;refine⟨_,rfl,a _ _ ⟨rfl,λu n F=>?_,λu=>?_⟩⟩
   .have hu:=aS n F
    have u:¬ju (iK leaf l).1=l:=by simpa using u
    rw[hu]at u;exact u F.2.2.2
   .have u:ju (iK leaf l).1=l:=by simpa using u
    exact⟨B,y,aT,u⟩
  rintro b w' ⟨rfl,au,bL⟩;refine⟨λan=>?_,λan=>⟨_,d0,K,d1,V,d2,D,d3,?_⟩⟩
  .refine jb false bg bg bg aO rfl (Q:=λb K V D ah=>(λv w'=>xX leaf l w w' v/\Ext w w') (.tuple #[.agg #[b,K,V,D],(4:Int)]) ah) λac t=>⟨.inr ⟨rfl,au an⟩,Ext.cu am t (bo _)⟩
  .refine jb (iK leaf l).1.leaf K V D aO rfl (Q:=λb K V D ah=>(λv w'=>xX leaf l w w' v/\Ext w w') (.tuple #[.agg #[b,K,V,D],(0:Int)]) ah) λac t=>⟨.inl ⟨(iK leaf l).1,K,V,D,rfl,bL an,?_⟩,Ext.cu am t (bo _)⟩
   exact(bE.ad t λk c e=>I).aW λk _ c=>by omega
theorem FN{s v:U}{vs xs:O aa}{i l6:Nat}{mU:Array aa}{al:TypeId}{w:J}(H:a8 1 48 w s vs)(N:Src 1 w v xs)(g:v.len=1)(am:v.a=some ⟨l6,0,none⟩)(T:bq w l6 mU al)(an:¬az s l6)
 (V:∀u∈xs,Plain u) (aL:∀u∈vs,Plain u) (hi:i<=s.len) (ba:s.len<=1000000):
 aP ai 210 #[s,.int .i64 (i:Int),v] w (λu w'=>∃z:U,u=z/\a8 1 48 w' z (vs.take (i*1)++xs++vs.drop (i*1))/\z.len=s.len+1/\ab (az s) w w'/\(∀k,az z k->az s k\/w.heap.size<=k)):=by
 obtain⟨h1,bb,bc,aM,ao,aN,aQ,E,ap,aT⟩:=(qd).out;obtain⟨d0,K⟩:=j0 _ ao;refine okF (af.tR s i v) ay.tR func210 ?_;(delta af.tR ak av aR;dsimp only);have bd:=H.2.1;have be:=H.2.2.1;have bf:maxLen=9223372036854775807:=rfl;have p:xs.length=1:=by have:=N.len;rw[g]at this;omega
 have X:=H.1;refine⟨⟨I,I⟩,λh=>by rw[g]at h;simp at h,λ_=>⟨λh=>?_,λh=>?_⟩⟩
 .have aU:i=s.len:=by have:=eq_of_beq h;omega
  subst aU;obtain⟨z,w',au,aV,Y,Q,F⟩:=(qd).append (cH:=127) N H V (by rw[g];omega);refine⟨z,w',au,z,rfl,?_,by rw[Y,g],Q,F⟩;rwa[dI I,List.drop_of_length_le I,fQ]
 have aH:i<s.len:=by
  have h:¬((i:Int)=(s.len:Int)):=λe=>by rw[e]at h;simp at h
  omega
 rcases H.2.2.2 with ⟨_,hc⟩|⟨b,c,r,G,aq,aw⟩
 .omega
 have aW:b≠l6:=λe=>an ⟨_,r,e⟩;have aX:IntKind.wrap .i64 ((s.len:Int)+(v.len:Int))=((s.len+1:Nat):Int):=by rw[g,bu I I];rfl
 have aY:IntKind.wrap .i64 ((i:Int)+(v.len:Int))=((i+1:Nat):Int):=by rw[g,bu I I];rfl
 have aZ:IntKind.wrap .i64 (((s.len+1:Nat):Int)-(i:Int))=((s.len+1-i:Nat):Int):=by rw[bu I I];omega
 have bg:c.toList.length=s.cap*1:=by simpa using aq
 have ax:∀k,k<=s.len->vs.take (k*1)=c.toList.take (k*1):=λk d=>by rw[←aw,qT,jn I]
 have aA:vs.drop (i*1)=(c.toList.drop (i*1)).take ((s.len-i)*1):=by rw[←aw,List.drop_take,show s.len*1-i*1=(s.len-i)*1 from I]
 have aB:∀u∈vs.drop (i*1),Plain u:=λu hu=>aL u (e6 hu);have B:(vs.drop (i*1)).length=(s.len-i)*1:=by rw[c5,X];omega
 have L:∀ (Z o l m:Nat),l<m->aO (some (Addr.mk Z o none)) 1 l m=some ⟨Z,o+l*1,none⟩:=λZ o l m bh=>tg I;simp only[aX,aY,aZ,c8,o4,xg];refine⟨λhg=>?_,λhg=>?_⟩
 .have bi:s.cap<s.len+1:=by have:=b2 hg;omega
  have a0:Src 1 w ⟨some b,i,s.cap⟩ (vs.take (i*1)):=by
   have:=G.rp (sz:=1) (o:=0) (n:=i) (cap:=s.cap) I;rw[lu]at this;rwa[ax i I]
  obtain⟨j,zs,rest,au,aV,Y,Q,F⟩:=Ej (P:=ai) (gr:= #[127,3]) (cH:=127) (kx:=3) (k:=.i64) (s:=⟨some b,i,s.cap⟩) (n:=s.len+1-i) rfl rfl h1 (by kernel_rfl) aM ao aN aQ E (by rw[ap];exact aT) a0 (by show s.cap<i+_;omega) (by rw[ap];show(2*(i+_)+1000)*_<=_;omega);have a1:i+(s.len+1-i)=s.len+1:=by omega
  simp only[a1]at au Q F;obtain⟨C,ac⟩:∃C,C=(vs.take (i*1)++zs++rest).toArray:=⟨_,rfl⟩;rw[←ac]at F;obtain⟨D,ae⟩:∃D,D=w.drew.alloc (.cells C 48):=⟨_,rfl⟩;rw[←ae]at F;have aC:bq D w.heap.size C 48:=by rw[ae];exact bq.new w.drew _ _
  have aD:Ext w D:=by rw[ae];exact ab.alloc (ab.drew (.refl _ _)) _
  have f:(vs.take (i*1)).length=i*1:=by rw[cv,X];omega
  have aE:C.size=j*1:=by rw[ac];simp[f,Y,Q];omega
  have bj:C.toList.length=j*1:=by simpa using aE
  have M:=tm (P:=ai) (me:=127) (cM:=127) (ty:=3) (A:=⟨w.heap.size,0+i*1,none⟩) (dl:=s.len+1-i) (nY:=j-i) (n:=1) h1 K E (x:=v) (by rw[g];exact jn I) (xs:=xs) (by have:=N.ext aD;have e:(⟨v.a,1,v.cap⟩:U)=v:=(by rw[←g]);rw[e];exact this) (by rw[cA];exact aC.cc _ _ I V);obtain⟨t,ag⟩:∃t,t=setCells D ⟨w.heap.size,0+i*1,none⟩ 0 xs:=⟨_,rfl⟩;rw[←ag]at M;have aF:bq t w.heap.size (gH C (i*1) xs) 48:=by rw[ag,cA];exact aC.j2 xs
  have a2:Ext w t:=by rw[ag];exact Ext.dd aD (ab.k1 (.refl _ _) xs 0) (λk d=>by subst d;exact bo _)
  have a3:Ext t t.drew:=ab.drew (.refl _ _);have aG:=Ext.trans a2 a3;have ah:=tm (P:=ai) (w:=t.drew) (me:=127) (cM:=127) (ty:=3) (A:=⟨w.heap.size,0+(i+1)*1,none⟩) (dl:=s.len+1-(i+1)) (nY:=j-(i+1)) (n:=s.len-i) h1 K E (x:=⟨some ⟨b,0+i*1,none⟩,s.len-i,s.cap-i⟩) (jn (by show s.len-i<=_;omega)) (xs:=vs.drop (i*1))
   (by have:=(G.ext aG).rp (sz:=1) (o:=i*1) (n:=s.len-i) (cap:=s.cap-i) I;rw[aA,cA];exact this) (by rw[cA];exact bq.cc (bq.drew aF) _ _ (by rw[iX];omega) aB)
  have R:aO (some (Addr.mk w.heap.size 0 none)) 1 i j=some ⟨w.heap.size,0+i*1,none⟩:=L _ _ _ _ I;have S:aO (some (Addr.mk w.heap.size 0 none)) 1 (i+1) j=some ⟨w.heap.size,0+(i+1)*1,none⟩:=L _ _ _ _ I;have a4:aO s.a 1 i s.cap=some ⟨b,0+i*1,none⟩:=by rw[r];exact L _ _ _ _ I
  have a5:Sem.run ai (Builtin.append_ #[127,3] 127 #[.slice s.a i s.cap,.int .i64 ((s.len+1-i:Nat):Int)]) w=.ok (.slice (some w.heap.size) (s.len+1) j) D:=by rw[r];exact F
  refine⟨⟨I,I⟩,⟨some w.heap.size,s.len+1,j⟩,D,a5,⟨I,by show(i:Int)<=((s.len+1:Nat):Int);omega⟩,_,t,by rw[R];exact M,aS ⟨⟨I,by show((i+1:Nat):Int)<=((s.len+1:Nat):Int);omega⟩,⟨I,I⟩,_,_,by rw[S,a4];exact ah,⟨some w.heap.size,s.len+1,j⟩,rfl,?_,rfl,?_,?_⟩⟩
  .refine a8.mk' ((bq.drew aF).j2 (o:=0+(i+1)*1) _) (by simp[f,p,B];omega) I I (by rw[iX,iX,aE]) ?_
   rw[lD _ _ _ (by rw[iX];omega),lD _ _ _ I];have t1:C.toList.take (i*1)=vs.take (i*1):=by rw[ac,qX,cD];exact List.take_left' f
   have t2:(C.toList.take (i*1)++xs++C.toList.drop (i*1+xs.length)).take (0+(i+1)*1)=vs.take (i*1)++xs:=by
    rw[t1,nI (by simp[f,p];omega),dI (by simp[f,p];omega)]
   rw[t2,nI (by simp[f,p,B];omega),dI (by simp[f,p,B];omega)]
  .exact ab.cK (Ext.dd aG (ab.k1 (.refl _ _) _ 0) (λk d=>by subst d;exact bo _))
  .rintro k ⟨A,ar,d⟩
   cases ar;exact .inr (Nat.le_of_eq d)
 .have bk:s.len+1<=s.cap:=by have:=cr hg;omega
  have R:aO s.a 1 (i+1) s.cap=some ⟨b,0+(i+1)*1,none⟩:=by rw[r];exact L _ _ _ _ I
  have S:aO s.a 1 i s.cap=some ⟨b,0+i*1,none⟩:=by rw[r];exact L _ _ _ _ I
  have a6:Sem.run ai (callFunc 252 #[v,.slice (some ⟨b,0+(i+1)*1,none⟩) (s.len+1-(i+1)) (s.cap-(i+1))]) w=.ok (.value false) w:=by
   rw[am,run_callFunc_extern (e:=Extern.SlicesOverlaps.overlaps #[127,127] #[4]) func252 (by kernel_rfl) (by kernel_rfl) (by kernel_rfl) (by kernel_rfl)];have:=Lib.run_overlaps_apart (P:=ai) w 127 4 48 h1 1 (λw=>by have:=iC (w:=w) K;rwa[E]at this) l6 ⟨b,0+(i+1)*1,none⟩ v.len v.cap (s.len+1-(i+1)) (s.cap-(i+1)) (λe=>aW e.symm) al 48 mU.size c.size
    (by have:=T;unfold bq at this;simp[World.shape?,this]) (by have:=G;unfold bq at this;simp[World.shape?,this]) I (T.frozen _ rfl) (T.frozen _ rfl)
   rw[this];rfl
  have M:=tm (P:=ai) (w:=w.drew) (me:=127) (cM:=127) (ty:=3) (A:=⟨b,0+(i+1)*1,none⟩) (dl:=s.len+1-(i+1)) (nY:=s.cap-(i+1)) (n:=s.len-i) h1 K E (x:=⟨some ⟨b,0+i*1,none⟩,s.len+1-i,s.cap-i⟩) ((Nat.min_eq_right (by show _<=s.len+1-i;omega)).trans I) (xs:=vs.drop (i*1))
   (by have:=(bq.drew G).rp (sz:=1) (o:=i*1) (n:=s.len-i) (cap:=s.cap-i) I;rw[aA,cA];exact this) (by rw[cA];exact bq.cc (bq.drew G) _ _ I aB)
  obtain⟨y,aj⟩:∃y,y=setCells w.drew ⟨b,0+(i+1)*1,none⟩ 0 (vs.drop (i*1)):=⟨_,rfl⟩;rw[←aj]at M;have aI:bq y b (gH c ((i+1)*1) (vs.drop (i*1))) 48:=by rw[aj,cA];exact(bq.drew G).j2 _
  have aJ:ab (az s) w y:=by
   rw[aj];exact ab.mono (W:=λq=>q=b) (ab.k1 (ab.drew (.refl _ _)) _ 0) (λk _ d=>⟨_,r,d.symm⟩)
  have a7:Src 1 y v xs:=N.ad aJ (λk d a9=>by obtain⟨A,ar,rfl⟩:=d;rw[am]at ar;cases ar;exact an a9);have ah:=tm (P:=ai) (w:=y) (me:=127) (cM:=127) (ty:=3) (A:=⟨b,0+i*1,none⟩) (dl:=s.len+1-i) (nY:=s.cap-i) (n:=1) h1 K E (x:=v) (by rw[g];exact jn I) (xs:=xs) (by have e:(⟨v.a,1,v.cap⟩:U)=v:=(by rw[←g]);rw[e];exact a7) (by rw[cA];exact aI.cc _ _ (by rw[iX];omega) V);refine⟨⟨I,I⟩,⟨I,I⟩,false,w,by rw[R];exact a6,λ_=>aS ⟨⟨I,I⟩,⟨I,I⟩,_,y,by rw[R,S];exact M,⟨I,I⟩,_,_,by rw[S];exact ah,⟨s.a,s.len+1,s.cap⟩,rfl,?_,rfl,?_,λk d=>.inl d⟩,λh=>by simp at h⟩
  .have aK:a8 1 48 (setCells y ⟨b,0+i*1,none⟩ 0 xs) ⟨some b,s.len+1,s.cap⟩ (vs.take (i*1)++xs++vs.drop (i*1)):=by
    have f:(vs.take (i*1)).length=i*1:=by rw[cv,X];omega
    refine a8.mk' (aI.j2 (o:=0+i*1) _) (by simp[f,p,B];omega) I I (by rw[iX,iX,aq]) ?_;rw[lD _ _ _ (by rw[iX];omega),lD _ _ _ I];have t1:(c.toList.take ((i+1)*1)++vs.drop (i*1)++c.toList.drop ((i+1)*1+(vs.drop (i*1)).length)).take (0+i*1)=vs.take (i*1):=by
     rw[cA,nI (by simp[B];omega),nI (by simp;omega),qT,ax i I,jn I]
    have t2:(c.toList.take ((i+1)*1)++vs.drop (i*1)++c.toList.drop ((i+1)*1+(vs.drop (i*1)).length)).drop (0+i*1+xs.length)=vs.drop (i*1)++c.toList.drop ((i+1)*1+(vs.drop (i*1)).length):=by
     have a_:(c.toList.take ((i+1)*1)).length=0+i*1+xs.length:=by simp;omega
     rw[cD,←a_,List.drop_left]
    rw[t1,t2,←cD,nI (by simp[f,p,B];omega),dI (by simp[f,p,B];omega)]
   rw[←r]at aK;exact aK
  .exact aJ.trans (ab.mono (W:=λq=>q=b) (ab.k1 (.refl _ _) _ 0) (λk _ d=>⟨_,r,d.symm⟩))
theorem FO{s:U}{vs:O aa}{i:Nat}{w:J}(m:a8 1 48 w s vs)(N:∀u∈vs,Plain u)(Q:∀z,(Tryz.prog.info? 48).bind (·.zero)=some z->∀u∈z.cells.toList,Plain u)(hi:i<s.len)(ao:s.len<=1000000):
 aP ai 205 #[s,.int .i64 (i:Int),.int .i64 ((i+1:Nat):Int)] w (λu w'=>∃p:U,u=p/\a8 1 48 w' p (vs.take (i*1)++vs.drop ((i+1)*1))/\p.len=s.len-1/\p.a=s.a/\ab (az s) w w'):=by
 obtain⟨h1,ap,d,C,R,D,E,S,aq,ar⟩:=(qd).out;obtain⟨d0,V⟩:=j0 _ R;refine okF (af.tQ s i ((i+1:Nat):Int)) ay.tQ func205 ?_;(delta af.tQ ak bw;dsimp only);have au:=m.2.1;have X:=m.2.2.1;have F:=m.1;rcases m.2.2.2 with ⟨_,hc⟩|⟨b,c,f,Y,G,H⟩
 .omega
 have av:c.toList.length=s.cap*1:=by simpa using G
 simp only[c8,o4,xg];have Z:vs.drop ((i+1)*1)=(c.toList.drop ((i+1)*1)).take ((s.len-(i+1))*1):=by rw[←H,List.drop_take,show s.len*1-(i+1)*1=(s.len-(i+1))*1 from I]
 have e:(vs.drop ((i+1)*1)).length=(s.len-(i+1))*1:=by rw[c5,F];omega
 have ac:vs.take (i*1)=c.toList.take (i*1):=by rw[←H,qT,jn I]
 have l:(vs.take (i*1)).length=i*1:=by rw[cv,F];omega
 have ad:∀u∈vs.drop ((i+1)*1),Plain u:=λu hu=>N u (e6 hu);have t:bq w.drew b c 48:=bq.drew Y;have ae:Src 1 w.drew ⟨aO s.a 1 (i+1) s.cap,s.len-(i+1),s.cap-(i+1)⟩ (vs.drop ((i+1)*1)):=by
  by_cases he:i+1=s.cap
  .have v:s.len-(i+1)=0:=by omega
   refine⟨by rw[e],λ_=>kl.1 (by rw[e,v,o5]),λa _=>?_⟩;have:vs.drop ((i+1)*1)=[]:=kl.1 (by rw[e,v,o5]);rw[this];show cL _ _ 0 ((s.len-(i+1))*1)=_;rw[v,o5];rfl
  .rw[f,tg I,Z,cA]
   exact t.rp I
 have x:=w7 (P:=ai) (gr:= #[127,127]) (cH:=127) (s:=⟨s.a,i,s.cap⟩) rfl rfl h1 h1 V S ae (by show i+(s.len-(i+1))<=s.cap;omega) (λa r=>by
  have r:s.a=some a:=r;rw[f]at r;cases r;rw[aw,cA];exact t.cc _ _ (by show i*1+_<=_;omega) ad)
 have ag:i+(s.len-(i+1))=s.len-1:=by omega
 simp only[f,aw,cA,ag]at x;obtain⟨g,y⟩:∃g,g=setCells w.drew ⟨b,i*1,none⟩ 0 (vs.drop ((i+1)*1)):=⟨_,rfl⟩;rw[←y]at x;have K:bq g b (gH c (i*1) (vs.drop ((i+1)*1))) 48:=by rw[y];exact t.j2 _
 have ah:ab (az s) w g:=by
  rw[y];exact ab.mono (W:=λq=>q=b) (ab.k1 (ab.drew (.refl _ _)) _ 0) (λk _ B=>⟨_,f,B.symm⟩)
 obtain⟨zs,ax,aj⟩:=Ek (P:=ai) (w:=g) (T:=127) (o:=0) (n:=1) (c:=s.cap-(s.len-1)) (A:=⟨b,(s.len-1)*1,none⟩) h1 C D E (by decide) (λzs L=>by
  refine K.cc _ _ (by rw[L,iX];simp[Builtin.zeroCells,E];omega) λu hu=>?_;rw[L]at hu;simp only[Builtin.zeroCells,Array.toList_map,dv]at hu;obtain⟨j,M,rfl⟩:=hu;have M:j<1*d.cells.size:=by simpa using M
  have al:j%d.cells.size<d.cells.size:=g4 _ I;have hg:d.cells[j%d.cells.size]! =d.cells[j%d.cells.size]:=getElem!_pos d.cells (j%d.cells.size) al;rw[hg];exact Q d (by rw[C];exact D) _ (by simp))
 have am:aO (some (Addr.mk b 0 none)) 1 (s.len-1) s.cap=some ⟨b,(s.len-1)*1,none⟩:=by rw[tg I,cA]
 have an:s.len-(s.len-1)=1:=by omega
 refine⟨⟨I,I⟩,⟨I,I⟩,⟨I,I⟩,λh=>?_,λ_=>aS ⟨⟨I,I⟩,⟨I,I⟩,⟨some b,s.len-1,s.cap⟩,g,by rw[f];exact x,⟨I,by show(s.len:Int)<=(s.cap:Int);omega⟩,⟨I,by show((s.len-1:Nat):Int)<=(s.len:Int);omega⟩,_,_,by rw[an,am];exact aj,⟨some b,s.len-1,s.cap⟩,rfl,?_,rfl,f.symm,?_⟩⟩
 .have:=eq_of_beq h;omega
 .refine a8.mk' (K.j2 _) (by simp[l,e];omega) I X (by rw[iX,iX,G]) ?_
  rw[lD _ _ _ (by rw[iX];omega),lD _ _ _ I];have t1:(c.toList.take (i*1)++vs.drop ((i+1)*1)++c.toList.drop (i*1+(vs.drop ((i+1)*1)).length)).take ((s.len-1)*1)=vs.take (i*1)++vs.drop ((i+1)*1):=by
   rw[←ac,nI (by simp[l,e];omega),dI (by simp[l,e];omega)]
  rw[t1,cD,nI (by simp[l,e];omega),dI (by simp[l,e];omega)]
 .exact ah.trans (ab.mono (W:=λq=>q=b) (ab.k1 (.refl _ _) _ 0) (λk _ B=>⟨_,f,B.symm⟩))
theorem r0{w:J}{s:U}{ds:O Nat}(h:Src 1 w s (dW ds))(i:ds.length<=1000000):
 aP ai 245 #[s] w (λv w'=>∃b:U,v=b/\a8 1 3 w' b (dW ds)/\Ext w w'/\gQ w b):=by
 have j:s.len=ds.length:=by have:=h.len;rw[nk]at this;omega
 refine okF (af.tV s) ay.tV func245 ?_;delta af.tV ak Y;refine⟨λc=>?_,λ_=>?_⟩
 .have c:s.a=none:=by simpa using c
  rw[h.nil c];exact⟨⟨none,0,0⟩,rfl,a8.none _ _ _,.refl _ _,λk d=>(gg k d).elim⟩
 .obtain⟨b,w',h1,e,l,f,g,_⟩:=qe.clone (cH:=58) h (xT ds) I
  exact aS ⟨b,w',h1,b,rfl,e,f,g⟩
theorem FP{ks:O Key}{k:Key}{a:Nat}(e:a<=ks.length)(h1:∀ (j:Nat) (h:j<ks.length),j<a->bH ks[j] k)(d:∀ (j:Nat) (h:j<ks.length),a<=j->¬bH ks[j] k):cN ks k=a:=by
 unfold cN;rcases dH a ks.length with h|h
 .exact(List.findIdx_eq h).2 ⟨dw (d a h (bo _)),λj b=>hG λc=>c (h1 j I b)⟩
 .have:a=ks.length:=by omega
  subst this;refine List.findIdx_eq_length_of_false λx hx=>?_;obtain⟨j,b,rfl⟩:=eY hx;exact hG λc=>c (h1 j b b)
def g9(ks:O Key)(k:Key):aj:=decide (ks[cN ks k]? =some k)
theorem FQ{B C:Nat->Prop}{s t:U}{ks:O Key}{key:Key}{w:J}(hs:bl B w s ks)(ht:Src 1 w t (aF key))(y:ks.Pairwise bH)(P:ks.length<=100000):
 aP ai 240 #[s,t,.func (.func 176) #[] #[]] w (λv w'=>v=.tuple #[.int .i64 ((cN ks key:Nat):Int),.bool (g9 ks key)]/\w=w'):=by
 refine okF (af.tS s t ⟨176,#[],#[]⟩) ay.tS func240 ?_;(delta af.tS ak av ag aI;dsimp only);have z:=bl.len hs;have p:iD ai 176:=⟨_,(Option.some_get (show(Tryz.prog.funcs[176]?).isSome=true by kernel_rfl)).symm,by kernel_rfl,by kernel_rfl⟩;have aH:=λ{i j:Nat} (hi:i<j) (e:j<ks.length)=>mP.1 y i j I e hi;refine⟨λlo hi w'=>∃a b:Nat,lo=a/\hi=b/\a<=b/\b<=ks.length/\w=w'/\(∀ (j:Nat) (h:j<ks.length),j<a->bH ks[j] key)/\(∀ (j:Nat) (h:j<ks.length),b<=j->¬bH ks[j] key),λlo hi _=>(hi-lo).toNat,
  ⟨0,ks.length,rfl,by rw[z],cE _,bo _,rfl,λj _ h=>I,λj h f=>I⟩,?_⟩
 rintro _ _ _ ⟨a,b,rfl,rfl,Q,r,rfl,h1,f⟩;have D:=El (a:=a) (b:=b) I;refine⟨λh=>?_,λh=>?_⟩
 .have E:(a:Int)<(b:Int):=b2 h
  rw[D];obtain⟨m,F⟩:∃m,m=(a+b)/2:=⟨_,rfl⟩;rw[←F];have G:a<=m:=by omega
  have R:m<b:=by omega
  obtain⟨A,t2,ar,g,k,l,_⟩:=bl.at hs (i:=m) I;refine⟨by decide,A,ar,g,t2,k,p,(kA l.1 ht).use ?_⟩;rintro _ _ ⟨rfl,rfl⟩;have H:IntKind.wrap .i64 ((m:Int)+1)=((m+1:Nat):Int):=by rw[bu I I];rfl
  refine⟨_,rfl,λhc=>?_,λhc=>?_⟩
  .have hc:bH ks[m] key:=b2 hc
   rw[H];have n:((b:Int)-((m+1:Nat):Int)).toNat<((b:Int)-(a:Int)).toNat:=by omega
   refine⟨⟨m+1,b,rfl,rfl,I,r,rfl,λj e K=>?_,f⟩,n⟩;rcases dH j m with d|d
   .exact lH (aH d I) hc
   .have:j=m:=by omega
    subst this;exact hc
  .have hc:¬bH ks[m] key:=cr hc
   have n:((m:Int)-(a:Int)).toNat<((b:Int)-(a:Int)).toNat:=by omega
   refine⟨⟨a,m,rfl,rfl,G,I,rfl,h1,λj e K=>?_⟩,n⟩;rcases dH m j with d|d
   .exact λL=>hc (lH (aH d e) L)
   .have:j=m:=by omega
    subst this;exact hc
 .have M:¬(a:Int)<(b:Int):=cr h
  have N:b=a:=by omega
  subst N;have o:cN ks key=b:=FP r h1 f;refine cm (λc w'=>w=w'/\c=g9 ks key) (λq u=>⟨λh=>?_,λh=>?_⟩) ?_
  .have E:(b:Int)<(s.len:Int):=b2 h
   have x:b<ks.length:=by omega
   obtain⟨A,t2,ar,g,k,l,_⟩:=bl.at hs x;refine⟨A,ar,g,t2,k,p,(kA l.1 ht).use ?_⟩;rintro _ _ ⟨rfl,rfl⟩;refine⟨_,rfl,u _ _ ⟨rfl,?_⟩⟩;unfold g9;rw[o,fW,cS,kU,c_ x,EY];exact⟨λh=>by rw[h],λh=>Option.some.inj h⟩
  .have M:¬(b:Int)<(s.len:Int):=cr h
   refine u _ _ ⟨rfl,?_⟩;unfold g9;rw[o,iU I];simp
  .rintro _ _ ⟨rfl,rfl⟩
   exact⟨by rw[o],rfl⟩
theorem mh{B:Nat->Prop}{w:J}{n:aB}{K V D t:U}{key:Key}(h:bz B w n K V D)(ht:Src 1 w t (aF key))(b:n.keys.Pairwise bH)(c:n.keys.length<=100000):
 aP ai 198 #[cX n K V D,t] w (λv w'=>v=.tuple #[.int .i64 ((cN n.keys key:Nat):Int),.bool (g9 n.keys key)]/\Ext w w'):=by
 refine okF (af.mh n.leaf K V D t) ay.mh func198 ?_;(delta af.mh ag Y gX;dsimp only);refine bh (vs:=[n.leaf,K,V,D]) rfl λw1 d a _=>?_;obtain⟨bU,aA,aR,aK⟩:=bC d;refine⟨K,aA,(FQ (B:=B) (C:=B) (h.keys.ext a) (ht.ext a) b c).use ?_⟩;rintro _ _ ⟨rfl,rfl⟩;exact⟨_,_,rfl,rfl,a⟩
theorem pP{B:Nat->Prop}{w:J}{n:aB}{K V D t:U}{key:Key}(h:bz B w n K V D)(ht:Src 1 w t (aF key))(b:n.keys.Pairwise bH)(c:n.keys.length<=100000):
 aP ai 143 #[cX n K V D,t] w (λv w'=>v=.tuple #[.int .i64 ((cN n.keys key:Nat):Int),.bool (g9 n.keys key)]/\Ext w w'):=by
 refine okF (af.pP n.leaf K V D t) ay.pP func143 ?_;(delta af.pP bc Y ag gX;dsimp only);refine bh (vs:=[n.leaf,K,V,D]) rfl λw1 d a _=>?_;obtain⟨bU,aA,aR,aK⟩:=bC d;refine⟨_,bU,K,aA,V,aR,D,aK,(mh (h.ext a) (ht.ext a) b c).use ?_⟩;rintro _ _ ⟨rfl,e⟩;exact⟨_,_,rfl,rfl,a.trans e⟩
theorem FR{ks:O Key}(e:ks.Pairwise bH)(k:Key):dn ks k=if g9 ks k then cN ks k+1 else cN ks k:=by
 have f:=p8 ks k;have key:∀a,a<=ks.length->(∀ (j:Nat) (h:j<ks.length),j<a->¬bH k ks[j])->(∀h:a<ks.length,bH k ks[a])->dn ks k=a:=by
  intro a i h1 g;unfold dn;rcases dH a ks.length with h|h
  .exact(List.findIdx_eq h).2 ⟨dw (g h),λj b=>hG (h1 j I b)⟩
  .have:a=ks.length:=by omega
   subst this;refine List.findIdx_eq_length_of_false λx hx=>?_;obtain⟨j,b,rfl⟩:=eY hx;exact hG (h1 j b b)
 split
 .rename_i c
  have c:ks[cN ks k]? =some k:=b2 c;obtain⟨aH,he⟩:=ib.1 c;refine key _ aH (λj b h=>?_) λh=>?_
  .rcases dH j (cN ks k) with d|d
   .exact j4 (oz d b)
   .have:j=cN ks k:=by omega
    subst this;rw[he];exact ml _
  .have:=mP.1 e _ _ aH h (Nat.lt_succ_self _)
   rwa[he]at this
 .rename_i c
  have c:¬ks[cN ks k]? =some k:=λh=>c (dw h);refine key _ f (λj b h=>j4 (oz h b)) λh=>?_;rcases ow.1 (p9 e (bo _) h) with d|d
  .exact d
  .exact absurd ((c_ h).trans (congrArg some d.symm)) c
theorem od{B:Nat->Prop}{w:J}{n:aB}{K V D t:U}{key:Key}(h:bz B w n K V D)(ht:Src 1 w t (aF key))(b:n.keys.Pairwise bH)(e:n.keys.length<=100000):
 aP ai 197 #[cX n K V D,t] w (λv w'=>v=.int .i64 ((dn n.keys key:Nat):Int)/\Ext w w'):=by
 refine okF (af.od n.leaf K V D t) ay.od func197 ?_;(delta af.od bc Y ag gX ak av;dsimp only);refine bh (vs:=[n.leaf,K,V,D]) rfl λw1 f a _=>?_;obtain⟨bU,aA,aR,aK⟩:=bC f;have i:=p8 n.keys key;refine⟨_,bU,K,aA,V,aR,D,aK,(mh (h.ext a) (ht.ext a) b e).use ?_⟩;rintro _ ah ⟨rfl,g⟩;rw[FR b];refine⟨_,_,rfl,cm (λc w'=>ah=w'/\c=((if g9 n.keys key then cN n.keys key+1 else cN n.keys key:Nat):Int)) (λq d=>⟨λh=>d _ _ ⟨rfl,?_⟩,λh=>d _ _ ⟨rfl,?_⟩⟩) ?_⟩
 .rw[if_pos h,bu I I];rfl
 .rw[if_neg (by simp[h])]
 .rintro _ _ ⟨rfl,rfl⟩
  exact⟨rfl,a.trans g⟩
structure hZ(lo:Nat)(w:J)(aD:Nat)(n:aB)(K V D:U)(bR b3 bJ:Nat->Prop):Prop where
 v:Var w aD [n.leaf,K,V,D] 202
 keys:bn bR w K n.keys
 vals:bn b3 w V n.vals
 kids:cQ bJ w D n.kids
 bj:∀q,bR q->lo<=q/\q<w.heap.size/\q≠aD/\¬b3 q/\¬bJ q
 bv:∀q,b3 q->lo<=q/\q<w.heap.size/\q≠aD/\¬bJ q
 aI:∀q,bJ q->lo<=q/\q<w.heap.size/\q≠aD
 mu:lo<=aD
structure e3(lo:Nat)(w:J)(n:aB)(K V D:U)(bR b3 bJ:Nat->Prop):Prop where
 keys:bn bR w K n.keys
 vals:bn b3 w V n.vals
 kids:cQ bJ w D n.kids
 bj:∀q,bR q->lo<=q/\q<w.heap.size/\¬b3 q/\¬bJ q
 bv:∀q,b3 q->lo<=q/\q<w.heap.size/\¬bJ q
 aI:∀q,bJ q->lo<=q/\q<w.heap.size
section
variable {lo:Nat}{w w':J}{aD:Nat}{n:aB}{K V D:U}{bR b3 bJ:Nat->Prop}
theorem hZ.mem(h:hZ lo w aD n K V D bR b3 bJ):e3 lo w n K V D bR b3 bJ:=⟨h.keys,h.vals,h.kids,λq a=>⟨(h.bj q a).1,(h.bj q a).2.1,(h.bj q a).2.2.2⟩,λq a=>⟨(h.bv q a).1,(h.bv q a).2.1,(h.bv q a).2.2.2⟩,λq a=>⟨(h.aI q a).1,(h.aI q a).2.1⟩⟩
theorem e3.ad{W:Nat->Prop}(h:e3 lo w n K V D bR b3 bJ)(hc:ab W w w')(cd:∀q,lo<=q->q<w.heap.size->bR q\/b3 q\/bJ q->¬W q):e3 lo w' n K V D bR b3 bJ:=by
 have hs:=hc.size;refine⟨bn.ad h.keys hc λq a=>cd q (h.bj q a).1 (h.bj q a).2.1 (.inl a),bn.ad h.vals hc λq a=>cd q (h.bv q a).1 (h.bv q a).2.1 (.inr (.inl a)),cQ.ad h.kids hc λq a=>cd q (h.aI q a).1 (h.aI q a).2 (.inr (.inr a)),λq a=>?_,λq a=>?_,λq a=>?_⟩
 .have:=h.bj q a;exact⟨this.1,I,this.2.2⟩
 .have:=h.bv q a;exact⟨this.1,I,this.2.2⟩
 .have:=h.aI q a;exact⟨this.1,I⟩
theorem e3.ext(h:e3 lo w n K V D bR b3 bJ)(hc:Ext w w'):e3 lo w' n K V D bR b3 bJ:=h.ad hc λ_ _ _ _ h=>h
theorem hZ.ext(h:hZ lo w aD n K V D bR b3 bJ)(hx:Ext w w'):hZ lo w' aD n K V D bR b3 bJ:=
 ⟨h.v.ext hx,bn.ext h.keys hx,bn.ext h.vals hx,cQ.ext h.kids hx,λq a=>⟨(h.bj q a).1,fO (h.bj q a).2.1 hx.size,(h.bj q a).2.2⟩,λq a=>⟨(h.bv q a).1,fO (h.bv q a).2.1 hx.size,(h.bv q a).2.2⟩,λq a=>⟨(h.aI q a).1,fO (h.aI q a).2.1 hx.size,(h.aI q a).2.2⟩,h.mu⟩
theorem e3.at(h:e3 lo w n K V D bR b3 bJ):bz (λq=>lo<=q) w n K V D:=
 ⟨bl.aW (bn.iM h.keys) λq _ a=>(h.bj q a).1,bl.aW (bn.iM h.vals) λq _ a=>(h.bv q a).1,cI.aW (cQ.qc h.kids) λq _ a=>(h.aI q a).1⟩
theorem e3.low{c:Nat}(h:e3 lo w n K V D bR b3 bJ)(b:c<=lo):e3 c w n K V D bR b3 bJ:=
 ⟨h.keys,h.vals,h.kids,λq a=>⟨ey b (h.bj q a).1,(h.bj q a).2⟩,λq a=>⟨ey b (h.bv q a).1,(h.bv q a).2⟩,λq a=>⟨ey b (h.aI q a).1,(h.aI q a).2⟩⟩
end
theorem xY{lo:Nat}{w:J}{aD:Nat}{n:aB}{K V D t:U}{l:Key}{bR b3 bJ:Nat->Prop}(h:hZ lo w aD n K V D bR b3 bJ)(ht:Src 1 w t (aF l))(Y:l.length<=100000)(F:n.keys.length<=100000){R:J->Prop}
 (G:∀ (w':J) (H:U) (y:Nat->Prop),hZ lo w' aD {n with keys:=n.keys++ [l]} H V D y b3 bJ->ab (λq=>q=aD\/bR q) w w'->(∀q,y q->bR q\/w.heap.size<=q)->R w'):
 al w.drew λj=>∃m:Nat->Prop,¬m (Addr.add aD 1).block/\∃g:U,j.cell? (Addr.add aD 1)=some (.slice g.a g.len g.cap)/\
  Calls ai 135 #[t] j λL d=>∃z:U,L=.returned z/\ab m j d/\
  al (d.alloc (.cells #[z] 48)) λA=>ab m d A/\∃C:U,∃i:J,Sem.run ai (Builtin.append_ #[127,127] 127 #[g,.slice (some d.heap.size) 1 1]) A=.ok C i/\
  (∃u:aa,i.cell? (Addr.add aD 1)=some u)/\i.frozen? (Addr.add aD 1)=false/\al (i.setCell (Addr.add aD 1) C) λM=>R M:=by
 have Z:=h.mu;have ac:=h.v.lt;have p:=b6 w;obtain⟨bU,aA,aR,aK⟩:=bC (h.v.ext p);refine aS ⟨λ_=>False,id,K,aA,(kE (B:=λq=>w.heap.size<=q) (ht.ext p) I (λq b=>b)).use ?_⟩;rintro _ d ⟨N,rfl,E,hx,hf⟩;have e:=p.trans hx;have ae:w.drew.heap.size=w.heap.size:=rfl;have O:=e.size;have P:=bn.ext h.keys e;have dR:=bn.ext h.vals e;have Q:=cQ.ext h.kids e;refine⟨N,rfl,hx,vQ (B:=Grow bR w.drew d) (h.v.ext e) (o:=1) (by simp) (bn.aW P λk _ h=>.inl h) ?_ (a7.aW E λk c h=>.inr ⟨h,c⟩) ?_ F λw' aC au S f=>?_⟩
 .rintro(h1|h1)
  .exact(h.bj aD h1).2.2.1 rfl
  .omega
 .intro k T W
  obtain⟨ts,_,_,r,_⟩:=h.keys;have:=(r k W).2;have:=(E.2.2 k T).1;omega
 have X:∀q,Grow (Grow bR w.drew d) d w' q->bR q\/(w.heap.size<=q/\q<w'.heap.size):=by
  rintro q ((h1|h1)|h1)
  .exact .inl h1
  .exact .inr ⟨h1.1,fO h1.2 f.size⟩
  .exact .inr ⟨ey O h1.1,h1.2⟩
 have hg:=f.size;have s:∀q,az K q->bR q:=λq b=>by
  obtain⟨ts,_,_,r,_⟩:=h.keys;exact(r q b).1
 refine G w' aC (λq=>bR q\/(w.heap.size<=q/\q<w'.heap.size)) ⟨by simpa using au,bn.aW S λk _ c=>X k c,bn.ad dR f ?_,cQ.ad Q f ?_,?_,λq b=>?_,λq b=>?_,h.mu⟩ ?_ ?_
 .rintro q b (h1|h1)
  .exact(h.bv q b).2.2.1 h1
  .exact(h.bj q (s q h1)).2.2.2.1 b
 .rintro q b (h1|h1)
  .exact(h.aI q b).2.2 h1
  .exact(h.bj q (s q h1)).2.2.2.2 b
 .rintro q (h1|h1)
  .have:=h.bj q h1;exact⟨this.1,I,this.2.2⟩
  .exact⟨I,h1.2,I,λx=>by have:=h.bv q x;omega,λx=>by have:=h.aI q x;omega⟩
 .have:=h.bv q b;exact⟨this.1,I,this.2.2⟩
 .have:=h.aI q b;exact⟨this.1,I,this.2.2⟩
 .refine(ab.cK e).trans (f.mono λk _ c=>?_)
  rcases c with c|c
  .exact .inl c
  .exact .inr (s k c)
 .rintro q (h1|h1)
  .exact .inl h1
  .exact .inr h1.1
theorem Bj{lo:Nat}{w:J}{aD:Nat}{n:aB}{K V D t:U}{l:Key}{bR b3 bJ:Nat->Prop}(h:hZ lo w aD n K V D bR b3 bJ)(ht:Src 1 w t (aF l))(Y:l.length<=100000)(E:n.vals.length<=100000){R:J->Prop}
 (F:∀ (w':J) (G:U) (x:Nat->Prop),hZ lo w' aD {n with vals:=n.vals++ [l]} K G D bR x bJ->ab (λq=>q=aD\/b3 q) w w'->(∀q,x q->b3 q\/w.heap.size<=q)->R w'):
 al w.drew λj=>∃m:Nat->Prop,¬m (Addr.add aD 2).block/\∃g:U,j.cell? (Addr.add aD 2)=some (.slice g.a g.len g.cap)/\
  Calls ai 135 #[t] j λH d=>∃y:U,H=.returned y/\ab m j d/\
  al (d.alloc (.cells #[y] 48)) λz=>ab m d z/\∃A:U,∃i:J,Sem.run ai (Builtin.append_ #[127,127] 127 #[g,.slice (some d.heap.size) 1 1]) z=.ok A i/\
  (∃u:aa,i.cell? (Addr.add aD 2)=some u)/\i.frozen? (Addr.add aD 2)=false/\al (i.setCell (Addr.add aD 2) A) λL=>R L:=by
 have Z:=h.mu;have ac:=h.v.lt;have p:=b6 w;obtain⟨bU,aA,aR,aK⟩:=bC (h.v.ext p);refine aS ⟨λ_=>False,id,V,aR,(kE (B:=λq=>w.heap.size<=q) (ht.ext p) I (λq b=>b)).use ?_⟩;rintro _ d ⟨M,rfl,C,hx,hf⟩;have e:=p.trans hx;have ae:w.drew.heap.size=w.heap.size:=rfl;have N:=e.size;have O:=bn.ext h.keys e;have dR:=bn.ext h.vals e;have P:=cQ.ext h.kids e;refine⟨M,rfl,hx,vQ (B:=Grow b3 w.drew d) (h.v.ext e) (o:=2) (by simp) (bn.aW dR λk _ h=>.inl h) ?_ (a7.aW C λk c h=>.inr ⟨h,c⟩) ?_ E λw' aC au Q f=>?_⟩
 .rintro(h1|h1)
  .exact(h.bv aD h1).2.2.1 rfl
  .omega
 .intro k S T
  obtain⟨ts,_,_,r,_⟩:=h.vals;have:=(r k T).2;have:=(C.2.2 k S).1;omega
 have W:∀q,Grow (Grow b3 w.drew d) d w' q->b3 q\/(w.heap.size<=q/\q<w'.heap.size):=by
  rintro q ((h1|h1)|h1)
  .exact .inl h1
  .exact .inr ⟨h1.1,fO h1.2 f.size⟩
  .exact .inr ⟨ey N h1.1,h1.2⟩
 have hg:=f.size;have s:∀q,az V q->b3 q:=λq b=>by
  obtain⟨ts,_,_,r,_⟩:=h.vals;exact(r q b).1
 refine F w' aC (λq=>b3 q\/(w.heap.size<=q/\q<w'.heap.size)) ⟨by simpa using au,bn.ad O f ?_,bn.aW Q λk _ c=>W k c,cQ.ad P f ?_,λq b=>?_,?_,λq b=>?_,h.mu⟩ ?_ ?_
 .rintro q b (h1|h1)
  .exact(h.bj q b).2.2.1 h1
  .exact(h.bj q b).2.2.2.1 (s q h1)
 .rintro q b (h1|h1)
  .exact(h.aI q b).2.2 h1
  .exact(h.bv q (s q h1)).2.2.2 b
 .have:=h.bj q b
  refine⟨this.1,I,this.2.2.1,?_,this.2.2.2.2⟩;rintro(h1|h1)
  .exact this.2.2.2.1 h1
  .omega
 .rintro q (h1|h1)
  .have:=h.bv q h1;exact⟨this.1,I,this.2.2⟩
  .exact⟨I,h1.2,I,λX=>by have:=h.aI q X;omega⟩
 .have:=h.aI q b;exact⟨this.1,I,this.2.2⟩
 .refine(ab.cK e).trans (f.mono λk _ c=>?_)
  rcases c with c|c
  .exact .inl c
  .exact .inr (s k c)
 .rintro q (h1|h1)
  .exact .inl h1
  .exact .inr h1.1
theorem eN{B:Nat->Prop}{w0:J}{n:aB}{K V D:U}(h:bz B w0 n K V D)(aY:n.keys.length<=100000)(aZ:n.vals.length<=100000)(a0:n.kids.length<=100000)(au:∀k∈n.keys,k.length<=100000)(aw:∀v∈n.vals,v.length<=100000):
 aP ai 204 #[cX n K V D] w0 (λv w'=>∃ (K V D:U) (bR b3 bJ:Nat->Prop),v=cX n K V D/\e3 w0.heap.size w' n K V D bR b3 bJ/\Ext w0 w'):=by
 refine okF (af.eN n.leaf K V D) ay.eN func204 ?_;(delta af.eN cp Y bc ag ba gl xu ak AA aI st av Az gI tE;dsimp only);have aG:bz (λq=>q<w0.heap.size) w0 n K V D:=h.aW λq a _=>a;have a1:=bl.len h.keys;have a2:=bl.len h.vals;refine bh (vs:=[n.leaf,K,V,D]) rfl λw1 aJ aL a3=>?_;refine bh (vs:=[false,(),(),()]) rfl λah aM az a4=>aS ?_;have X:=b6 ah;have a5:ah.drew.heap.size=ah.heap.size:=rfl;have L:=(aJ.ext az).ext X;have aC:=aM.ext X;have Z:=aL.trans (az.trans X);obtain⟨aN,a6,a7,aO⟩:=bC L;have T:=aG.ext Z;obtain⟨lo,a8⟩:∃lo,lo=ah.heap.size:=⟨_,rfl⟩;refine⟨λ_=>False,id,_,aN,id,D,aO,⟨?_,?_⟩⟩
 .refine(r0 T.kids.1 I).use ?_
  rintro _ H ⟨ax,rfl,y,x,aa⟩;have aQ:=x.size;refine⟨ax,rfl,x,#[n.leaf,(),(),ax],(λw=>by kernel_rfl),?_⟩;refine bh (vs:=[false,(),(),()]) rfl λaE W z aT=>?_;refine⟨z,W.cc rfl ?_,rfl,cy W (us:=[n.leaf,(),(),ax]) rfl rfl λg M C aU=>?_⟩
  .intro v N
   simp only[cU,eV,eZ]at N;rcases N with rfl|rfl|rfl|rfl<;>trivial
  obtain⟨aD,ac⟩:∃aD,aD=H.heap.size:=⟨_,rfl⟩;rw[←ac]at M C⊢;obtain⟨bJ,r⟩:∃bJ:Nat->Prop,bJ=λq=>ah.heap.size<=q/\q<H.heap.size:=⟨_,rfl⟩;have ae:cQ bJ H ax n.kids:=by subst r;exact⟨y,λk l=>⟨⟨aa k l,y.lt k l⟩,y.lt k l⟩⟩
  have m:ab (λq=>lo<=q) ah.drew g:=(ab.cK (x.trans z)).trans (C.mono λk _ l=>I);have aj:hZ lo g aD ⟨n.leaf,[],[],n.kids⟩ bg bg ax (λ_=>False) (λ_=>False) bJ:=⟨M,bn.none _ _,bn.none _ _,cQ.ad (cQ.ext ae z) C (λq a e=>by subst r;have a:=a.2;omega),λq h=>h.elim,λq h=>h.elim,λq a=>(by subst r;obtain⟨h1,aV⟩:=a;exact⟨I,I,I⟩),I⟩;clear r;obtain⟨bU,aA,aR,aK⟩:=bC (L.ad m I);have O:bz (λq=>q<w0.heap.size) g n K V D:=T.ad m λq a h=>by omega
  have al:=aC.ad m I;refine⟨K,aA,λi w'=>∃ (j:Nat) (d:U) (bR:Nat->Prop),i=j/\j<=n.keys.length/\hZ lo w' aD ⟨n.leaf,n.keys.take j,[],n.kids⟩ d bg ax bR (λ_=>False) bJ/\ab (λq=>lo<=q) g w',λi _=>((n.keys.length:Int)-i).toNat,⟨0,bg,_,rfl,cE _,aj,ab.refl _ _⟩,?_⟩;rintro _ P ⟨j,d,bR,rfl,am,o,s⟩;have an:bz (λq=>q<w0.heap.size) P n K V D:=O.ad s λq a h=>by omega
  refine⟨λaH=>?_,λc=>?_⟩
  .have aH:j<n.keys.length:=by have:=b2 aH;omega
   obtain⟨A,t,ar,E,hc,ht,_⟩:=bl.at an.keys aH;refine⟨A,ar,E,t,hc,xY o ht.1 (au _ (cw aH)) (by show(n.keys.take j).length<=_;rw[cv];omega) λw' cG ao st F _=>?_⟩;have G:ab (λq=>lo<=q) P w':=F.mono λq _ a=>by
    rcases a with a|a
    .have:=o.mu;omega
    .exact(o.bj q a).1
   rw[bu (n:=(j:Int)+1) I I];refine⟨⟨j+1,cG,ao,I,I,?_,s.trans G⟩,?_⟩
   .rw[take_succ _ aH];exact st
   .show((n.keys.length:Int)-((j:Int)+1)).toNat<((n.keys.length:Int)-(j:Int)).toNat
    omega
  have c:j=n.keys.length:=by have:=cr c;omega
  subst c;rw[iz]at o;obtain⟨bU,aA,aR,aK⟩:=bC ((L.ad m I).ad s I);refine⟨V,aR,λi w'=>∃ (j:Nat) (p:U) (b3:Nat->Prop),i=j/\j<=n.vals.length/\hZ lo w' aD ⟨n.leaf,n.keys,n.vals.take j,n.kids⟩ d p ax bR b3 bJ/\ab (λq=>lo<=q) g w',λi _=>((n.vals.length:Int)-i).toNat,⟨0,bg,_,rfl,cE _,o,s⟩,?_⟩;rintro _ R ⟨j,p,b3,rfl,am,f,u⟩;have ap:bz (λq=>q<w0.heap.size) R n K V D:=O.ad u λq a h=>by omega
  refine⟨λaH=>?_,λc=>?_⟩
  .have aH:j<n.vals.length:=by have:=b2 aH;omega
   obtain⟨A,t,ar,E,hc,ht,_⟩:=bl.at ap.vals aH;refine⟨A,ar,E,t,hc,Bj f ht.1 (aw _ (cw aH)) (by show(n.vals.take j).length<=_;rw[cv];omega) λw' cO aq st F _=>?_⟩;have G:ab (λq=>lo<=q) R w':=F.mono λq _ a=>by
    rcases a with a|a
    .have:=f.mu;omega
    .exact(f.bv q a).1
   rw[bu (n:=(j:Int)+1) I I];refine⟨⟨j+1,cO,aq,I,I,?_,u.trans G⟩,?_⟩
   .rw[take_succ _ aH];exact st
   .show((n.vals.length:Int)-((j:Int)+1)).toNat<((n.vals.length:Int)-(j:Int)).toNat
    omega
  have c:j=n.vals.length:=by have:=cr c;omega
  subst c;rw[iz]at f;obtain⟨d0,d1,d2,d3⟩:=bC f.v;refine⟨_,d0,d,d1,p,d2,ax,d3,jb n.leaf d p ax (al.ad u I) rfl (Q:=λb K V D ah=>(λv w'=>∃ (K V D:U) (bR b3 bJ:Nat->Prop),v=cX n K V D/\e3 w0.heap.size w' n K V D bR b3 bJ/\Ext w0 w') (.agg #[b,K,V,D]) ah) λaX S=>⟨d,p,ax,bR,b3,bJ,rfl,?_,?_⟩⟩
  .exact(e3.ad f.mem S λq a _ _ h=>I).low I
  .exact Ext.cu (Ext.dd Z (m.trans u) λk l=>I) S I
 .refine bh (vs:=[false,(),(),()]) rfl λaE W z aT=>⟨z,?_⟩
  refine(r0 (T.kids.ext z).1 I).use ?_;rintro _ H ⟨ax,rfl,y,x,aa⟩;have aQ:=x.size;have aF:=W.ext x;refine⟨ax,rfl,x,#[n.leaf,(),(),ax],(λw=>by kernel_rfl),?_⟩;refine⟨aF.cc rfl ?_,rfl,cy aF (us:=[n.leaf,(),(),ax]) rfl rfl λg M C aU=>?_⟩
  .intro v N
   simp only[cU,eV,eZ]at N;rcases N with rfl|rfl|rfl|rfl<;>trivial
  obtain⟨aD,ac⟩:∃aD,aD=ah.drew.heap.size:=⟨_,rfl⟩;rw[←ac]at M C⊢;obtain⟨bJ,r⟩:∃bJ:Nat->Prop,bJ=λq=>aE.heap.size<=q/\q<H.heap.size:=⟨_,rfl⟩;have ae:cQ bJ H ax n.kids:=by subst r;exact⟨y,λk l=>⟨⟨aa k l,y.lt k l⟩,y.lt k l⟩⟩
  have m:ab (λq=>lo<=q) ah.drew g:=(ab.cK (z.trans x)).trans (C.mono λk _ l=>I);have aj:hZ lo g aD ⟨n.leaf,[],[],n.kids⟩ bg bg ax (λ_=>False) (λ_=>False) bJ:=⟨M,bn.none _ _,bn.none _ _,cQ.ad ae C (λq a e=>by subst r;have a:=a.1;omega),λq h=>h.elim,λq h=>h.elim,λq a=>(by subst r;obtain⟨h1,aV⟩:=a;exact⟨I,I,I⟩),I⟩;clear r;obtain⟨bU,aA,aR,aK⟩:=bC (L.ad m I);have O:bz (λq=>q<w0.heap.size) g n K V D:=T.ad m λq a h=>by omega
  have al:=aC.ad m I;refine⟨K,aA,λi w'=>∃ (j:Nat) (d:U) (bR:Nat->Prop),i=j/\j<=n.keys.length/\hZ lo w' aD ⟨n.leaf,n.keys.take j,[],n.kids⟩ d bg ax bR (λ_=>False) bJ/\ab (λq=>lo<=q) g w',λi _=>((n.keys.length:Int)-i).toNat,⟨0,bg,_,rfl,cE _,aj,ab.refl _ _⟩,?_⟩;rintro _ P ⟨j,d,bR,rfl,am,o,s⟩;have an:bz (λq=>q<w0.heap.size) P n K V D:=O.ad s λq a h=>by omega
  refine⟨λaH=>?_,λc=>?_⟩
  .have aH:j<n.keys.length:=by have:=b2 aH;omega
   obtain⟨A,t,ar,E,hc,ht,_⟩:=bl.at an.keys aH;refine⟨A,ar,E,t,hc,xY o ht.1 (au _ (cw aH)) (by show(n.keys.take j).length<=_;rw[cv];omega) λw' cG ao st F _=>?_⟩;have G:ab (λq=>lo<=q) P w':=F.mono λq _ a=>by
    rcases a with a|a
    .have:=o.mu;omega
    .exact(o.bj q a).1
   rw[bu (n:=(j:Int)+1) I I];refine⟨⟨j+1,cG,ao,I,I,?_,s.trans G⟩,?_⟩
   .rw[take_succ _ aH];exact st
   .show((n.keys.length:Int)-((j:Int)+1)).toNat<((n.keys.length:Int)-(j:Int)).toNat
    omega
  have c:j=n.keys.length:=by have:=cr c;omega
  subst c;rw[iz]at o;obtain⟨bU,aA,aR,aK⟩:=bC ((L.ad m I).ad s I);refine⟨V,aR,λi w'=>∃ (j:Nat) (p:U) (b3:Nat->Prop),i=j/\j<=n.vals.length/\hZ lo w' aD ⟨n.leaf,n.keys,n.vals.take j,n.kids⟩ d p ax bR b3 bJ/\ab (λq=>lo<=q) g w',λi _=>((n.vals.length:Int)-i).toNat,⟨0,bg,_,rfl,cE _,o,s⟩,?_⟩;rintro _ R ⟨j,p,b3,rfl,am,f,u⟩;have ap:bz (λq=>q<w0.heap.size) R n K V D:=O.ad u λq a h=>by omega
  refine⟨λaH=>?_,λc=>?_⟩
  .have aH:j<n.vals.length:=by have:=b2 aH;omega
   obtain⟨A,t,ar,E,hc,ht,_⟩:=bl.at ap.vals aH;refine⟨A,ar,E,t,hc,Bj f ht.1 (aw _ (cw aH)) (by show(n.vals.take j).length<=_;rw[cv];omega) λw' cO aq st F _=>?_⟩;have G:ab (λq=>lo<=q) R w':=F.mono λq _ a=>by
    rcases a with a|a
    .have:=f.mu;omega
    .exact(f.bv q a).1
   rw[bu (n:=(j:Int)+1) I I];refine⟨⟨j+1,cO,aq,I,I,?_,u.trans G⟩,?_⟩
   .rw[take_succ _ aH];exact st
   .show((n.vals.length:Int)-((j:Int)+1)).toNat<((n.vals.length:Int)-(j:Int)).toNat
    omega
  have c:j=n.vals.length:=by have:=cr c;omega
  subst c;rw[iz]at f;obtain⟨d0,d1,d2,d3⟩:=bC f.v;refine⟨_,d0,d,d1,p,d2,ax,d3,jb n.leaf d p ax (al.ad u I) rfl (Q:=λb K V D ah=>(λv w'=>∃ (K V D:U) (bR b3 bJ:Nat->Prop),v=cX n K V D/\e3 w0.heap.size w' n K V D bR b3 bJ/\Ext w0 w') (.agg #[b,K,V,D]) ah) λaX S=>⟨d,p,ax,bR,b3,bJ,rfl,?_,?_⟩⟩
  .exact(e3.ad f.mem S λq a _ _ h=>I).low I
  .exact Ext.cu (Ext.dd Z (m.trans u) λk l=>I) S I
theorem bn.mk'{B:Nat->Prop}{w:J}{s:U}{ts:O U}{ls:O Key}(a:ts.length=ls.length)(b:a8 1 48 w s (ts.map hY))(hi:In B w s)(c:∀p∈ts.zip ls,a7 B w p.1 p.2/\∀k,az p.1 k->¬az s k):bn B w s ls:=by
 refine⟨ts,a,b,hi,λi h1 d=>?_⟩;have:=c (ts[i],ls[i]) (by
  rw[List.mem_iff_getElem];exact⟨i,by rw[mM];omega,by rw[sD]⟩)
 exact this
theorem bn.out{B:Nat->Prop}{w:J}{s:U}{ls:O Key}(h:bn B w s ls):∃ts:O U,ts.length=ls.length/\a8 1 48 w s (ts.map hY)/\In B w s/\∀p∈ts.zip ls,a7 B w p.1 p.2/\∀k,az p.1 k->¬az s k:=by
 obtain⟨ts,h1,a,b,c⟩:=h;refine⟨ts,h1,a,b,λp d=>?_⟩;obtain⟨i,hi,rfl⟩:=List.mem_iff_getElem.1 d;rw[mM]at hi;rw[sD];exact c i I I
theorem Bk{α β:Type}(a:O α)(b:O β)(i:Nat):(a.take i).zip (b.take i)=(a.zip b).take i:=by
 rw[List.zip_eq_zipWith,List.zip_eq_zipWith,List.take_zipWith]
theorem Bl{α β:Type}(a:O α)(b:O β)(i:Nat):(a.drop i).zip (b.drop i)=(a.zip b).drop i:=by
 rw[List.zip_eq_zipWith,List.zip_eq_zipWith,List.drop_zipWith]
theorem Bm{B:Nat->Prop}{w:J}{s t:U}{ls:O Key}{l:Key}{i:Nat}(r:bn B w s ls)(ht:a7 B w t l)(hd:∀k,az t k->¬az s k)(G:ls.length<=100000)(hi:i<=ls.length):
 aP ai 210 #[s,.int .i64 (i:Int),.slice (some w.heap.size) 1 1] (w.alloc (.cells #[t] 48))
  (λu w'=>∃e:U,u=e/\bn (Grow B w w') w' e (ls.take i++ [l]++ls.drop i)/\ab (az s) w w'):=by
 obtain⟨ts,h1,j,m,n⟩:=bn.out r;have H:s.len=ls.length:=by have:=j.1;rw[dL]at this;omega
 have hx:=eB w (.cells #[t] 48);have z:=bq.new w #[t] 48;refine(FN (v:=⟨some w.heap.size,1,1⟩) (xs:=[hY t]) (i:=i) (j.ext hx) (Src.new (T:=48) w [hY t] 1 rfl) rfl rfl z (λh=>by have:=(m _ h).2;omega) (λv A=>by rw[fi.1 A];trivial) (vM ts) I I).mono ?_;rintro _ w' ⟨e,rfl,au,K,C,D⟩;rw[fz]at au;have hc:ab (az s) w w':=(ab.cK hx).trans C;have L:=hc.size;have M:(w.alloc (.cells #[t] 48)).heap.size=w.heap.size+1:=rZ _ _;have o:∀k,az e k->az s k\/w.heap.size<=k:=λk d=>(D k d).imp id λh=>by omega
 have E:∀ (x:U),In B w x->(∀k,az x k->¬az s k)->∀k,az x k->¬az e k:=λx hx f k d F=>by
  rcases o k F with h|h
  .exact f k d h
  .have:=(hx k d).2;omega
 have g:∀ (x:U) (y:Key),a7 B w x y->(∀k,az x k->¬az s k)->a7 (Grow B w w') w' x y/\∀k,az x k->¬az e k:=λx y q f=>⟨a7.aW (a7.iL q hc f) λk _ h=>.inl h,E x q.2.2 f⟩;refine⟨e,rfl,bn.mk' (ts:=ts.take i++ [t]++ts.drop i) ?_ ?_ ?_ ?_,hc⟩
 .simp only[cx,cv,c5,iS];omega
 .simpa[mN,o8] using au
 .intro k d
  refine⟨?_,au.lt k d⟩;rcases o k d with h|h
  .exact .inl (m k h).1
  .exact .inr ⟨h,au.lt k d⟩
 .intro p c
  rw[List.zip_append (by simp only[cx,cv,iS];omega),List.zip_append (by simp only[cv];omega),Bk,Bl]at c;rcases cR.1 c with c|c
  .rcases cR.1 c with c|c
   .obtain⟨a,b⟩:=n p (fe c)
    exact g _ _ a b
   .simp only[List.zip_cons_cons,List.zip_nil_left,fi]at c
    subst c;exact g _ _ ht hd
  .obtain⟨a,b⟩:=n p (e6 c)
   exact g _ _ a b
theorem FT:(Tryz.prog.info? 48).bind (·.zero)=some (.slice none 0 0):=by kernel_rfl
theorem Bn{B:Nat->Prop}{w:J}{s:U}{ls:O Key}{i:Nat}(l:bn B w s ls)(t:ls.length<=100000)(hi:i<ls.length):
 aP ai 205 #[s,.int .i64 (i:Int),.int .i64 ((i+1:Nat):Int)] w
  (λu w'=>∃e:U,u=e/\bn B w' e (ls.take i++ls.drop (i+1))/\ab (az s) w w'):=by
 obtain⟨ts,h1,g,m,n⟩:=bn.out l;have v:s.len=ls.length:=by have:=g.1;rw[dL]at this;omega
 refine(FO (i:=i) g (vM ts) (λz h u hu=>by
  rw[FT]at h
  cases h;simp[Value.cells]at hu;subst hu;trivial) I I).mono ?_
 rintro _ w' ⟨e,rfl,au,x,o,f⟩;rw[fz,fz]at au;have y:=f.size;have j:∀k,az e k->az s k:=λk ⟨A,ar,c⟩=>⟨A,by rw[←o];exact ar,c⟩;refine⟨e,rfl,bn.mk' (ts:=ts.take i++ts.drop (i+1)) ?_ ?_ ?_ ?_,f⟩
 .simp only[cx,cv,c5];omega
 .simpa[mN,o8] using au
 .exact λk c=>⟨(m k (j k c)).1,au.lt k c⟩
 .intro p d
  rw[List.zip_append (by simp only[cv];omega),Bk,Bl]at d;have q:p∈ts.zip ls:=by
   rcases cR.1 d with d|d
   .exact fe d
   .exact e6 d
  obtain⟨a,b⟩:=n p q;exact⟨a7.iL a f b,λk c r=>b k c (j k r)⟩
theorem FU{B:Nat->Prop}{w:J}{s t:U}{ls:O Key}{l:Key}{i:Nat}(g:bn B w s ls)(ht:a7 B w t l)(hd:∀k,az t k->¬az s k)(hi:i<ls.length):
 ∃A:ae,s.a=some A/\((0:Int)<=(i:Int)/\(i:Int)<(s.len:Int))/\(∃u:aa,w.cell? (A.add (Int.toNat (i:Int)*1))=some u)/\w.frozen? (A.add (Int.toNat (i:Int)*1))=false/\
  bn B (w.setCell (A.add (Int.toNat (i:Int)*1)) (hY t)) s (ls.set i l)/\ab (az s) w (w.setCell (A.add (Int.toNat (i:Int)*1)) (hY t)):=by
 obtain⟨ts,h1,h,m,n⟩:=g;obtain⟨A,ar,o,hc,hf,p,q⟩:=h.at (i:=i) (v:=hY (ts[i]'I)) (by simp[h1,hi]);have c:ab (az s) w (w.setCell (A.add (Int.toNat (i:Int)*1)) (hY t)):=ab.set (.refl _ _) (λ_=>p) _;refine⟨A,ar,o,⟨_,hc⟩,hf,⟨ts.set i t,by simp[h1],?_,In.ad m c,λj d f=>?_⟩,c⟩
 .have:=q (hY t)
  rwa[←List.map_set]at this
 .rw[cY]at d f
  rw[sI,sI];by_cases e:i=j
  .rw[if_pos e,if_pos e]
   exact⟨a7.iL ht c hd,hd⟩
  .rw[if_neg e,if_neg e]
   obtain⟨a,b⟩:=n j d f;exact⟨a7.iL a c b,b⟩
def g_(n:aB)(k v:Key):aB:=
 if g9 n.keys k then {n with vals:=n.vals.set (cN n.keys k) v}
 else {n with keys:=n.keys.take (cN n.keys k)++ [k]++n.keys.drop (cN n.keys k),vals:=n.vals.take (cN n.keys k)++ [v]++n.vals.drop (cN n.keys k)}
def lL(n:aB)(k:Key):aB:={n with keys:=n.keys.take (cN n.keys k)++n.keys.drop (cN n.keys k+1),vals:=n.vals.take (cN n.keys k)++n.vals.drop (cN n.keys k+1)}
theorem gP.eQ{n:aB}(h:gP n):(∀k∈n.keys,k.length<=100000)/\(∀v∈n.vals,v.length<=100000):=⟨λk a=>by have:=(h.ok k a).2;omega,λv b=>by have:=h.vals v b;omega⟩
def oJ(n:aB)(w:J)(v:aa)(w':J):Prop:=∃K V D:U,v=.tuple #[cX n K V D,true]/\bz (λq=>w.heap.size<=q) w' n K V D/\Ext w w'
theorem pR{B:Nat->Prop}{w:J}{n:aB}{K V D tk dg:U}{key val:Key}(h:bz B w n K V D)(hs:gP n)(bQ:n.keys.length<=10000)(c:Src 1 w tk (aF key))(G:Src 1 w dg (aF val))(aO:cB key)(bS:val.length<=24):
 aP ai 151 #[cX n K V D,tk,dg] w (oJ (g_ n key val) w):=by
 have bT:=hs.len;have bV:n.kids.length=0:=by rw[hs.kids];rfl
 have bX:=len8 G;have bY:key.length<=24:=aO.2;refine okF (af.pR n.leaf K V D tk dg) ay.pR func151 ?_;(delta af.pR cp bc Y pH ak ag aK iZ ry gv gX ba aI st c9 rv;dsimp only);refine bh (vs:=[n.leaf,K,V,D]) rfl λw1 av bd bZ=>?_;refine bh (vs:=[false,(),(),()]) rfl λah be aj b0=>?_;have aQ:=bd.trans aj;obtain⟨bU,aA,aR,aK⟩:=bC (av.ext aj);refine⟨n.leaf,bU,cm (λb w'=>b=false/\Ext ah w') (λq a=>⟨λp=>?_,λp=>⟨_,bU,K,aA,V,aR,D,aK,(j3 (h.ext aQ) I I I).use ?_⟩⟩) ?_⟩
 .rw[hs.leaf]at p;cases p
 .rintro _ aC ⟨b,rfl,bf,C⟩
  have:=bf.2 (.inl hs);subst this;exact⟨true,rfl,a _ _ ⟨rfl,C⟩⟩
 rintro _ aC ⟨rfl,C⟩;have al:=aQ.trans C;refine cm (λb w'=>b=false/\aC=w') (λq a=>⟨λh=>(by cases h),λ_=>(og (c.ext al)).use ?_⟩) ?_
 .rintro _ _ ⟨rfl,rfl⟩
  exact⟨_,rfl,a _ _ ⟨by simp[aO],rfl⟩⟩
 rintro _ _ ⟨rfl,rfl⟩;obtain⟨bU,aA,aR,aK⟩:=bC (av.ext (aj.trans C));refine⟨λp=>?_,λ_=>⟨_,bU,K,aA,V,aR,D,aK,(eN (h.ext al) I I I hs.eQ.1 hs.eQ.2).use ?_⟩⟩
 .have p:decide (((dg.len:Int):Int)>24)=true:=p
  have:=b2 p;omega
 rintro _ bg ⟨l,g,ax,bR,b3,bJ,rfl,r,am⟩;have aT:=al.trans am;have b1:=aT.size;have b4:=al.size;have b5:=C.size;have b7:=am.size;refine⟨n.leaf,l,g,ax,rfl,bh (vs:=[false,(),(),()]) rfl λb8 aU an b9=>⟨aU.cc rfl ?_,rfl,cy aU (us:=[n.leaf,l,g,ax]) rfl rfl λO P R b_=>?_⟩⟩
 .intro v G
  simp only[cU,eV,eZ]at G;rcases G with rfl|rfl|rfl|rfl<;>trivial
 obtain⟨aD,bi⟩:∃aD,aD=bg.heap.size:=⟨_,rfl⟩;rw[←bi]at P R⊢;obtain⟨lo,bk⟩:∃lo,lo=aC.heap.size:=⟨_,rfl⟩;rw[←bk]at r;have ao:Ext w O:=Ext.cu (aT.trans an) R I;have bm:Var O w.heap.size [n.leaf,K,V,D] 202:=(((av.ext (aj.trans C)).ext am).ext an).ad R I;have aV:Var O w1.heap.size [false,(),(),()] 202:=(((be.ext C).ext am).ext an).ad R I;have f:e3 lo O n l g ax bR b3 bJ:=(r.ext an).ad R λq _ _ a e=>by
  subst e;rcases a with a|a|a
  .have:=(r.bj _ a).2.1;omega
  .have:=(r.bv _ a).2.1;omega
  .have:=(r.aI _ a).2;omega
 obtain⟨bU,aA,aR,aK⟩:=bC bm;have bo:=p8 n.keys key;refine⟨_,bU,K,aA,V,aR,D,aK,(mh (h.ext ao) (c.ext ao) hs.e_ I).use ?_⟩;rintro _ m ⟨rfl,ap⟩;have aE:=ao.trans ap;have ca:=ap.size;refine⟨_,_,rfl,λH=>?_,λH=>?_⟩
 .
  have E:=b6 m;have L:=ap.trans E;have aH:cN n.keys key<n.keys.length:=by
   have:=b2 H;exact(ib.1 this).1
  obtain⟨d0,d1,d2,d3⟩:=bC (P.ext L);refine aS ⟨λ_=>False,id,g,d2,(kE (B:=λq=>m.heap.size<=q) (G.ext (aE.trans E)) I (λq a=>a)).use ?_⟩;rintro _ s ⟨t,rfl,ht,x,bp⟩;have T:=L.trans x;have aG:=f.ext T;have bq:=T.size;have br:bn (Grow b3 m s) s g n.vals:=bn.aW aG.vals λk _ h=>.inl h;have y:∀k,az g k->b3 k:=λk c=>by obtain⟨ts,_,_,W,_⟩:=f.vals;exact(W k c).1
  obtain⟨A,ar,p,bs,qg,aX,aY⟩:=FU (i:=cN n.keys key) br (a7.aW ht λk c h=>.inr ⟨h,c⟩) (λk X Z=>by
   have:=(ht.2.2 k X).1;have:=(f.bv k (y k Z)).2.1;omega) I
  refine⟨t,rfl,x,A,ar,p,bs,qg,aS ?_⟩;obtain⟨o,aZ⟩:∃o,o=s.setCell (A.add (Int.toNat (cN n.keys key:Int)*1)) (hY t):=⟨_,rfl⟩;rw[←aZ]at aX aY;have bt:s.setCell (A.add (Int.toNat (cN n.keys key:Int)*1)) t=o:=aZ.symm;rw[bt];have aa:ab (λq=>lo<=q/\q<O.heap.size/\b3 q) s o:=aY.mono λk _ c=>⟨(f.bv k (y k c)).1,(f.bv k (y k c)).2.1,y k c⟩;have aq:=(P.ext T).ad aa (λe=>by
   have h1:=(r.bv _ e.2.2).2.1;omega)
  obtain⟨bu,bw,bx,bA⟩:=bC aq;have bB:bz (λq=>lo<=q) o (g_ n key val) l g ax:=by
   unfold g_;rw[if_pos H];refine⟨bl.aW (bl.ad (bn.iM aG.keys) aa λq a e=>(f.bj q a).2.2.1 e.2.2) λq _ a=>(f.bj q a).1,bl.aW (bn.iM aX) λq _ a=>?_,cI.aW (cI.ad (cQ.qc aG.kids) aa λq a e=>(f.bv q e.2.2).2.2 a) λq _ a=>(f.aI q a).1⟩;rcases a with a|a
   .exact(f.bv q a).1
   .omega
  have bD:(g_ n key val).leaf=n.leaf:=by unfold g_;rw[if_pos H]
  refine⟨_,bu,l,bw,g,bx,ax,bA,jb n.leaf l g ax ((aV.ext T).ad aa (λe=>by have:=e.1;omega)) rfl (Q:=λb K V D ah=>oJ (g_ n key val) w (.tuple #[.agg #[b,K,V,D],true]) ah) λj u=>⟨l,g,ax,by unfold cX;rw[bD],?_,?_⟩⟩
  .exact(bB.ad u λq a e=>I).aW λq _ a=>by omega
  .exact Ext.cu (Ext.dd (ao.trans T) aa λk c=>I) u I
 .
  have E:=b6 m;have L:=ap.trans E;have a0:hZ lo m.drew aD n l g ax bR b3 bJ:=by
   have M:=f.ext L;refine⟨P.ext L,M.keys,M.vals,M.kids,λq a=>?_,λq a=>?_,λq a=>?_,I⟩
   .have h1:=M.bj q a;have:=(r.bj q a).2.1;exact⟨h1.1,h1.2.1,I,h1.2.2⟩
   .have h1:=M.bv q a;have:=(r.bv q a).2.1;exact⟨h1.1,h1.2.1,I,h1.2.2⟩
   .have h1:=M.aI q a;have:=(r.aI q a).2;exact⟨h1.1,h1.2,I⟩
  obtain⟨d0,d1,d2,d3⟩:=bC a0.v;refine aS ⟨λ_=>False,id,l,d1,(kE (B:=λq=>m.heap.size<=q) (c.ext (aE.trans E)) I (λq a=>a)).use ?_⟩;rintro _ s ⟨t,rfl,ht,x,bp⟩;have bq:m.heap.size<=s.heap.size:=(E.trans x).size;have aJ:∀k,az l k->bR k:=λk c=>by obtain⟨ts,_,_,W,_⟩:=f.keys;exact(W k c).1
  have y:∀k,az g k->b3 k:=λk c=>by obtain⟨ts,_,_,W,_⟩:=f.vals;exact(W k c).1
  have d:=a0.ext x;refine⟨t,rfl,x,aS ⟨eB _ _,(Bm (B:=Grow bR m s) (i:=cN n.keys key) (bn.aW d.keys λk _ h=>.inl h) (a7.aW ht λk c h=>.inr ⟨h,c⟩) (λk X Z=>by
   have:=(ht.2.2 k X).1;have:=(f.bj k (aJ k Z)).2.1;omega) I bo).use ?_⟩⟩
  rintro _ o ⟨S,rfl,bE,a1⟩;have cb:=a1.size;have ac:ab (λq=>lo<=q/\bR q) s o:=a1.mono λk _ c=>⟨(f.bj k (aJ k c)).1,aJ k c⟩;have aq:=d.v.ad ac λe=>(d.bj _ e.2).2.2.1 rfl;obtain⟨s1,s2⟩:=dF aq (i:=1) (by simp);refine⟨S,rfl,?_⟩;rw[aw,aw];refine⟨s1,s2,aS (aS ?_)⟩;obtain⟨j,aL⟩:∃j,j=(o.setCell ⟨aD,0+1,none⟩ S).drew:=⟨_,rfl⟩;rw[←aL];have u:ab (λq=>q=aD) o j:=by rw[aL];exact ab.drew (dp _ _ _ _)
  have a2:Var j aD [n.leaf,S,g,ax] 202:=by rw[aL];exact(dM aq _).drew
  have cd:=u.size;have ce:aD<m.heap.size:=by have:=P.lt;omega
  have bF:bn (λq=>bR q\/(m.heap.size<=q/\q<o.heap.size)) j S (n.keys.take (cN n.keys key)++ [key]++n.keys.drop (cN n.keys key)):=by
   refine bn.ad (bn.aW bE λk _ c=>?_) u λk c e=>?_
   .rcases c with (c|c)|c
    .exact .inl c
    .exact .inr ⟨c.1,I⟩
    .exact .inr ⟨I,c.2⟩
   .subst e
    rcases c with c|c
    .exact(d.bj _ c).2.2.1 rfl
    .omega
  have bG:bn b3 j g n.vals:=bn.ad (bn.ad d.vals ac λq a e=>(d.bj q e.2).2.2.2.1 a) u λq a e=>(d.bv q a).2.2.1 e;have bH:cQ bJ j ax n.kids:=cQ.ad (cQ.ad d.kids ac λq a e=>(d.bj q e.2).2.2.2.2 a) u λq a e=>(d.aI q a).2.2 e;have a3:Ext w j:=Ext.dd (Ext.dd ((aE.trans E).trans x) ac λk c=>I) u λk c=>by omega
  obtain⟨f0,f1,f2,f3⟩:=bC a2;rw[aw]at f2;refine⟨λ_=>False,id,g,f2,(kE (B:=λq=>j.heap.size<=q) (G.ext a3) I (λq a=>a)).use ?_⟩;rintro _ a4 ⟨t2,rfl,a5,z,cf⟩;have cg:=z.size;refine⟨t2,rfl,z,aS ⟨eB _ _,(Bm (B:=Grow b3 j a4) (i:=cN n.keys key) (bn.aW (bn.ext bG z) λk _ h=>.inl h) (a7.aW a5 λk c h=>.inr ⟨h,c⟩) (λk X Z=>by
   have:=(a5.2.2 k X).1;have:=(f.bv k (y k Z)).2.1;omega) I I).use ?_⟩⟩
  rintro _ aM ⟨bW,rfl,bI,a6⟩;have ch:=a6.size;have ae:ab (λq=>lo<=q/\b3 q) a4 aM:=a6.mono λk _ c=>⟨(f.bv k (y k c)).1,y k c⟩;have a8:=(a2.ext z).ad ae λe=>(d.bv _ e.2).2.2.1 rfl;obtain⟨s1,s2⟩:=dF a8 (i:=2) (by simp);refine⟨bW,rfl,?_⟩;rw[aw,aw];refine⟨s1,s2,aS ?_⟩;obtain⟨F,aN⟩:∃F,F=aM.setCell ⟨aD,0+2,none⟩ bW:=⟨_,rfl⟩;rw[←aN];have N:ab (λq=>q=aD) aM F:=by rw[aN];exact dp _ _ _ _
  have bK:Var F aD [n.leaf,S,bW,ax] 202:=by rw[aN];exact dM a8 _
  have ci:=N.size;obtain⟨jc,au,a9,a_⟩:=bC bK;rw[aw]at au a9 a_;have bL:bz (λq=>lo<=q) F (g_ n key val) S bW ax:=by
   unfold g_;rw[if_neg (by rw[H];simp)];refine⟨?_,?_,?_⟩
   .refine bl.aW (bn.iM (bn.ad (bn.ad (bn.ext bF z) ae λq a e=>?_) N λq a e=>?_)) λq _ a=>?_
    .rcases a with a|a
     .exact(d.bj q a).2.2.2.1 e.2
     .have:=(f.bv q e.2).2.1;omega
    .subst e
     rcases a with a|a
     .exact(d.bj _ a).2.2.1 rfl
     .omega
    .rcases a with a|a
     .exact(d.bj q a).1
     .omega
   .refine bl.aW (bn.iM (bn.ad bI N λq a e=>?_)) λq _ a=>?_
    .subst e
     rcases a with (a|a)|a
     .exact(d.bv _ a).2.2.1 rfl
     .omega
     .omega
    .rcases a with (a|a)|a
     .exact(d.bv q a).1
     .omega
     .omega
   .exact cI.aW (cQ.qc (cQ.ad (cQ.ad (cQ.ext bH z) ae λq a e=>(d.bv q e.2).2.2.2 a) N λq a e=>(d.aI q a).2.2 e)) λq _ a=>(d.aI q a).1
  have bM:(g_ n key val).leaf=n.leaf:=by unfold g_;rw[if_neg (by rw[H];simp)]
  have bN:Ext w F:=Ext.dd (Ext.dd (a3.trans z) ae λk c=>I) N λk c=>by omega
  have bO:Var F w1.heap.size [false,(),(),()] 202:=by
   have h1:=aV.ext (L.trans x);have bP:=(h1.ad ac (λe=>by have:=e.1;omega)).ad u I;exact((bP.ext z).ad ae (λe=>by have:=e.1;omega)).ad N I
  rw[aw,aw];refine⟨_,jc,S,au,bW,a9,ax,a_,?_⟩;have:=jb n.leaf S bW ax bO rfl (Q:=λb K V D ah=>oJ (g_ n key val) w (.tuple #[.agg #[b,K,V,D],true]) ah) λcj bb=>⟨S,bW,ax,by unfold cX;rw[bM],(bL.ad bb λq a e=>I).aW λq _ a=>I,Ext.cu bN bb I⟩;simpa only[aw] using this
def qh(n:aB)(key:Key)(w:J)(v:aa)(w':J):Prop:=
 if g9 n.keys key then oJ (lL n key) w v w' else v=.tuple #[cX g8 bg bg bg,false]/\Ext w w'
theorem pQ{B:Nat->Prop}{w:J}{n:aB}{K V D tk:U}{key:Key}(h:bz B w n K V D)(hs:gP n)(a7:n.keys.length<=10000)(d:Src 1 w tk (aF key)):
 aP ai 149 #[cX n K V D,tk] w (qh n key w):=by
 have a8:=hs.len;have a9:n.kids.length=0:=by rw[hs.kids];rfl
 refine okF (af.pQ n.leaf K V D tk) ay.pQ func149 ?_;(delta af.pQ cp bc Y ag gX pH ak aK iZ ry gv ba av st c9 rv;dsimp only);refine bh (vs:=[n.leaf,K,V,D]) rfl λw1 E ar a_=>?_;refine bh (vs:=[false,(),(),()]) rfl λah aC A bb=>?_;have F:=ar.trans A;obtain⟨bU,aA,aR,aK⟩:=bC (E.ext A);refine⟨_,bU,K,aA,V,aR,D,aK,(mh (h.ext F) (d.ext F) hs.e_ I).use ?_⟩;rintro _ aE ⟨rfl,s⟩;have T:=F.trans s;obtain⟨bU,aA,aR,aK⟩:=bC (E.ext (A.trans s));refine⟨_,_,rfl,n.leaf,bU,cm (λb w'=>b=false/\Ext aE w') (λq a=>⟨λf=>?_,λf=>⟨_,bU,K,aA,V,aR,D,aK,(j3 (h.ext T) I I I).use ?_⟩⟩) ?_⟩
 .rw[hs.leaf]at f;cases f
 .rintro _ W ⟨b,rfl,aG,o⟩
  have:=aG.2 (.inl hs);subst this;exact⟨true,rfl,a _ _ ⟨rfl,o⟩⟩
 rintro _ W ⟨rfl,o⟩;have G:=T.trans o;have bd:=o.size;have be:=s.size;have X:=aC.ext (s.trans o);refine⟨λf=>?_,λf=>?_⟩
 .have f:g9 n.keys key=false:=by simpa using f
  refine jb false bg bg bg X rfl (Q:=λb K V D ah=>qh n key w (.tuple #[.agg #[b,K,V,D],false]) ah) λZ aJ=>?_;unfold qh;rw[if_neg (by rw[f];simp)];exact⟨rfl,Ext.cu G aJ I⟩
 have aa:g9 n.keys key=true:=by simpa using f
 have aH:cN n.keys key<n.keys.length:=(ib.1 (b2 aa)).1;obtain⟨bU,aA,aR,aK⟩:=bC (E.ext (A.trans (s.trans o)));refine⟨_,bU,K,aA,V,aR,D,aK,(eN (h.ext G) I I I hs.eQ.1 hs.eQ.2).use ?_⟩;rintro _ Z ⟨p,g,ax,bR,b3,bJ,rfl,j,H⟩;have aL:=G.trans H;have bf:=H.size;refine⟨n.leaf,p,g,ax,rfl,bh (vs:=[false,(),(),()]) rfl λbi ac L bk=>⟨ac.cc rfl ?_,rfl,cy ac (us:=[n.leaf,p,g,ax]) rfl rfl λt ae C bm=>?_⟩⟩
 .intro v aj
  simp only[cU,eV,eZ]at aj;rcases aj with rfl|rfl|rfl|rfl<;>trivial
 obtain⟨aD,aM⟩:∃aD,aD=Z.heap.size:=⟨_,rfl⟩;rw[←aM]at ae C⊢;obtain⟨lo,aN⟩:∃lo,lo=W.heap.size:=⟨_,rfl⟩;rw[←aN]at j;have aO:Ext w t:=Ext.cu (aL.trans L) C I;have aQ:Var t w1.heap.size [false,(),(),()] 202:=((X.ext H).ext L).ad C I;have c:hZ lo t aD n p g ax bR b3 bJ:=by
  have r:e3 lo t n p g ax bR b3 bJ:=(j.ext L).ad C λq _ _ a e=>by
   subst e;rcases a with a|a|a
   .have:=(j.bj _ a).2.1;omega
   .have:=(j.bv _ a).2.1;omega
   .have:=(j.aI _ a).2;omega
  refine⟨ae,r.keys,r.vals,r.kids,λq a=>?_,λq a=>?_,λq a=>?_,I⟩
  .have h1:=r.bj q a;have:=(j.bj q a).2.1;exact⟨h1.1,h1.2.1,I,h1.2.2⟩
  .have h1:=r.bv q a;have:=(j.bv q a).2.1;exact⟨h1.1,h1.2.1,I,h1.2.2⟩
  .have h1:=r.aI q a;have:=(j.aI q a).2;exact⟨h1.1,h1.2,I⟩
 have al:∀k,az p k->bR k:=λk d=>by obtain⟨ts,_,_,M,_⟩:=c.keys;exact(M k d).1
 have am:∀k,az g k->b3 k:=λk d=>by obtain⟨ts,_,_,M,_⟩:=c.vals;exact(M k d).1
 obtain⟨d0,d1,d2,d3⟩:=bC c.v;have bo:=c.v.lt;rw[bu (n:=((cN n.keys key:Nat):Int)+1) I I];refine⟨p,d1,(Bn c.keys I aH).use ?_⟩;rintro _ N ⟨S,rfl,aT,aU⟩;have u:ab (λq=>lo<=q/\bR q) t N:=aU.mono λk _ d=>⟨(c.bj k (al k d)).1,al k d⟩;have an:=c.v.ad u λe=>(c.bj _ e.2).2.2.1 rfl;obtain⟨s1,s2⟩:=dF an (i:=1) (by simp);refine⟨S,rfl,?_⟩;rw[aw,aw];refine⟨s1,s2,aS ?_⟩;obtain⟨l,O⟩:∃l,l=N.setCell ⟨aD,0+1,none⟩ S:=⟨_,rfl⟩;rw[←O];have x:ab (λq=>q=aD) N l:=by rw[O];exact dp _ _ _ _
 have ao:Var l aD [n.leaf,S,g,ax] 202:=by rw[O];exact dM an _
 have aV:bn bR l S (n.keys.take (cN n.keys key)++n.keys.drop (cN n.keys key+1)):=bn.ad aT x λq a e=>(c.bj q a).2.2.1 e;have aX:bn b3 l g n.vals:=bn.ad (bn.ad c.vals u λq a e=>(c.bj q e.2).2.2.2.1 a) x λq a e=>(c.bv q a).2.2.1 e;have aY:cQ bJ l ax n.kids:=cQ.ad (cQ.ad c.kids u λq a e=>(c.bj q e.2).2.2.2.2 a) x λq a e=>(c.aI q a).2.2 e;obtain⟨f0,f1,f2,f3⟩:=bC ao;rw[aw]at f2;refine⟨g,f2,(Bn aX I I).use ?_⟩;rintro _ P ⟨bW,rfl,aZ,a0⟩;have y:ab (λq=>lo<=q/\b3 q) l P:=a0.mono λk _ d=>⟨(c.bv k (am k d)).1,am k d⟩;have ap:=ao.ad y λe=>(c.bv _ e.2).2.2.1 rfl;obtain⟨s1,s2⟩:=dF ap (i:=2) (by simp);refine⟨bW,rfl,?_⟩;rw[aw,aw];refine⟨s1,s2,aS ?_⟩;obtain⟨m,R⟩:∃m,m=P.setCell ⟨aD,0+2,none⟩ bW:=⟨_,rfl⟩;rw[←R];have z:ab (λq=>q=aD) P m:=by rw[R];exact dp _ _ _ _
 have a1:Var m aD [n.leaf,S,bW,ax] 202:=by rw[R];exact dM ap _
 obtain⟨jc,au,a2,a3⟩:=bC a1;have a4:bz (λq=>lo<=q) m (lL n key) S bW ax:=by
  refine⟨?_,?_,?_⟩
  .exact bl.aW (bn.iM (bn.ad (bn.ad aV y λq a e=>(c.bj q a).2.2.2.1 e.2) z λq a e=>(c.bj q a).2.2.1 e)) λq _ a=>(c.bj q a).1
  .exact bl.aW (bn.iM (bn.ad aZ z λq a e=>(c.bv q a).2.2.1 e)) λq _ a=>(c.bv q a).1
  .exact cI.aW (cQ.qc (cQ.ad (cQ.ad aY y λq a e=>(c.bv q e.2).2.2.2 a) z λq a e=>(c.aI q a).2.2 e)) λq _ a=>(c.aI q a).1
 have a5:Ext w m:=Ext.dd (Ext.dd (Ext.dd (Ext.dd aO u λk d=>I) x λk d=>I) y λk d=>I) z λk d=>by omega
 have a6:Var m w1.heap.size [false,(),(),()] 202:=
  (((aQ.ad u (λe=>by have:=e.1;omega)).ad x I).ad y (λe=>by have:=e.1;omega)).ad z I
 refine⟨_,jc,S,au,bW,a2,ax,a3,jb n.leaf S bW ax a6 rfl (Q:=λb K V D ah=>qh n key w (.tuple #[.agg #[b,K,V,D],true]) ah) λbp aq=>?_⟩;unfold qh;rw[if_pos aa];exact⟨S,bW,ax,rfl,(a4.ad aq λq a e=>I).aW λq _ a=>I,Ext.cu a5 aq I⟩
theorem xZ{n:aB}(hs:cF n)(m:Nat):((cellsOf n).take m).sum<=100*n.keys.length:=by
 have h1:((cellsOf n).take m).sum<=(cellsOf n).sum:=by
  have:=xB (cellsOf n) m;omega
 have a:=xN hs n.keys.length (bo _);rw[dI (by rw[qa hs];exact bo _)]at a;have b:=xU hs n.keys.length (bo _);omega
theorem m8{B:Nat->Prop}{w:J}{n:aB}{K V D:U}(h:bz B w n K V D)(hs:cF n)(G:n.keys.length<=10000){most:Nat}(H:most<=n.keys.length):
 aP ai 300 #[cX n K V D,most] w (λv w'=>v=.int .i64 ((gm (cellsOf n) most:Nat):Int)/\Ext w w'):=by
 refine okF (af.m8 n.leaf K V D (most:Int)) ay.m8 func300 ?_;(delta af.m8 ag Y ak bc ba av;dsimp only);refine bh (vs:=[n.leaf,K,V,D]) rfl λw1 o d _=>?_;obtain⟨bU,aA,aR,aK⟩:=bC o;have L:=bl.len h.keys;have M:=qa hs;have x:∀ (j:Nat) (f:j<(cellsOf n).length),(cellsOf n)[j]=(gO n j).length:=λj f=>by
  have h1:=xM hs (i:=j) I;rw[c_ f]at h1;exact Option.some.inj h1
 refine⟨K,aA,λa i w'=>∃j:Nat,i=j/\j<=n.keys.length/\a=((((cellsOf n).take j).sum:Nat):Int)/\Ext w1 w',λ_ i _=>((n.keys.length:Int)-i).toNat,⟨0,rfl,cE _,by simp,.refl _ _⟩,?_⟩;rintro _ _ ah ⟨j,rfl,f,rfl,g⟩;obtain⟨d0,d1,d2,d3⟩:=bC (o.ext g);refine⟨λaH=>?_,λb=>?_⟩
 .have aH:j<n.keys.length:=by have:=b2 aH;omega
  refine⟨_,d0,K,d1,V,d2,D,d3,(m7 (h.ext (d.trans g)) hs aH I).use ?_⟩;rintro _ N ⟨s,rfl,p,A,_⟩;have q:=mq p;have C:=xZ hs j;have hc:=vN hs aH;have e:=p7 (l:=cellsOf n) (i:=j) I;rw[x j I]at e;refine⟨s,rfl,?_⟩;rw[q,bu (n:=((((cellsOf n).take j).sum:Nat):Int)+(((gO n j).length:Nat):Int)) I I,bu (n:=(j:Int)+1) I I];refine⟨⟨j+1,I,I,I,g.trans A⟩,?_⟩;show((n.keys.length:Int)-((j:Int)+1)).toNat<((n.keys.length:Int)-(j:Int)).toNat;omega
 have b:j=n.keys.length:=by have:=cr b;omega
 subst b;rw[dI (l:=cellsOf n) I];refine⟨λa i w'=>∃j:Nat,i=j/\j<=most/\a=((((cellsOf n).take j).sum:Nat):Int)/\Ext w1 w'/\∀k,k<j->2*((cellsOf n).take (k+1)).sum<(cellsOf n).sum,λ_ i _=>((most:Int)-i).toNat,⟨0,rfl,cE _,by simp,g,λk E=>I⟩,?_⟩;rintro _ _ O ⟨j,rfl,f,rfl,c,r⟩;obtain⟨d0,d1,d2,d3⟩:=bC (o.ext c);have F:=xZ hs (cellsOf n).length;rw[iz]at F;refine⟨λaH=>?_,λb=>?_⟩
 .have aH:j<most:=by have:=b2 aH;omega
  refine⟨_,d0,K,d1,V,d2,D,d3,(m7 (h.ext (d.trans c)) hs I I).use ?_⟩;rintro _ P ⟨s,rfl,p,y,_⟩;have q:=mq p;have C:=xZ hs j;have hc:=vN hs (i:=j) I;have e:=p7 (l:=cellsOf n) (i:=j) I;rw[x j I]at e;refine⟨s,rfl,?_⟩;rw[q,bu (n:=((((cellsOf n).take j).sum:Nat):Int)+(((gO n j).length:Nat):Int)) I I,bu (n:=2*(((((cellsOf n).take j).sum:Nat):Int)+(((gO n j).length:Nat):Int))) I I,bu (n:=(j:Int)+1) I I];refine⟨λhd=>⟨?_,d.trans (c.trans y)⟩,λhd=>⟨⟨j+1,I,I,I,c.trans y,λk E=>?_⟩,?_⟩⟩
  .have hd:=b2 hd
   have t:(List.range most).find? (λi=>decide ((cellsOf n).sum<=2*((cellsOf n).take (i+1)).sum))=some j:=by
    have:=fO aH (bo most);rw[List.find?_eq_some_iff_append];refine⟨dw I,List.range j,List.range' (j+1) (most-(j+1)),?_,λa u=>?_⟩
    .have z:=List.range'_append (s:=0) (m:=j) (n:=most-(j+1)+1) (step:=1)
     rw[sB,sB,←List.range'_succ];rw[Nat.one_mul,cA]at z;rw[z]
     congr 1
     omega
    .have:=r a (jB.1 u)
     simp;omega
   unfold gm;rw[t];rfl
  .have hd:=cr hd
   rcases dH k j with h1|h1
   .exact r k h1
   .have:k=j:=by omega
    subst this;omega
  .show((most:Int)-((j:Int)+1)).toNat<((most:Int)-(j:Int)).toNat
   omega
 .have b:j=most:=by have:=cr b;omega
  subst b;refine⟨?_,d.trans c⟩;have t:(List.range j).find? (λi=>decide ((cellsOf n).sum<=2*((cellsOf n).take (i+1)).sum))=none:=by
   rw[ig];intro a u;have:=r a (jB.1 u);simp;omega
  unfold gm;rw[t]
theorem bl.sub{B:Nat->Prop}{w:J}{s:U}{ls:O Key}{lo hi:Nat}(h:bl B w s ls)(h1:lo<=hi)(m:hi<=ls.length):bl B w ⟨aO s.a 1 lo s.cap,hi-lo,s.cap-lo⟩ ((ls.drop lo).take (hi-lo)):=by
 have n:=bl.len h;obtain⟨ts,au,b,c,d,e⟩:=h;refine⟨(ts.drop lo).take (hi-lo),by simp[au],?_,by show hi-lo<=s.cap-lo;omega,λk f=>?_,λi g j=>?_⟩
 .have:=Src.sub b c h1 I
  simpa[o8,mN] using this
 .obtain⟨A,ar,l⟩:=vO f
  exact d k ⟨A,ar,l⟩
 .simp only[mO,nF]
  rw[cv,c5]at g j;exact e (lo+i) I I
theorem bl.le{B:Nat->Prop}{w:J}{s:U}{ls:O Key}(h:bl B w s ls):s.len<=s.cap:=by
 obtain⟨ts,_,_,a,_⟩:=h;exact a
theorem cI.sub{B:Nat->Prop}{w:J}{s:U}{ds:O Nat}{lo hi:Nat}(h:cI B w s ds)(h1:lo<=hi)(g:hi<=ds.length):cI B w ⟨aO s.a 1 lo s.cap,hi-lo,s.cap-lo⟩ ((ds.drop lo).take (hi-lo)):=by
 have i:=cI.len h;obtain⟨c,b,d⟩:=h;have j:s.len<=s.cap:=b;refine⟨?_,by show hi-lo<=s.cap-lo;omega,λk e=>?_⟩
 .have:=Src.sub c b h1 I
  simpa[dW,o8,mN] using this
 .obtain⟨A,ar,f⟩:=vO e
  exact d k ⟨A,ar,f⟩
theorem fI(b:aj)(K V D:U):∀v∈([b,K,V,D]:O aa),Plain v:=by
 intro v a;simp only[cU,eV,eZ]at a;rcases a with rfl|rfl|rfl|rfl<;>trivial
theorem qi{c:J}{r1 bX:Nat}{x0 n:O aa}{b9 bQ:aj}{db dz bd cG cO cq:U}(h1:Var c r1 x0 202)(w:Var c bX n 202)(o:x0.length=4)(p:n.length=4)(r:r1≠bX){W:Nat->Prop}(cd:∀q,q=r1->W q)
 {Q:aj->U->U->U->aj->U->U->U->J->Prop} (x:∀b,ab (λq=>q=r1\/q=bX) c b->Q b9 db dz bd bQ cG cO cq b):
 bA c r1 [b9,db,dz,bd]/\(4:Nat)=4/\al (setCells c r1 0 [b9,db,dz,bd]) λd=>
  ab W c d/\bA d bX [bQ,cG,cO,cq]/\(4:Nat)=4/\al (setCells d bX 0 [bQ,cG,cO,cq]) λb=>
  ∃s:aj,b.cell? r1=some (.bool s)/\∃f:U,b.cell? (Addr.add r1 1)=some (.slice f.a f.len f.cap)/\∃g:U,b.cell? (Addr.add r1 2)=some (.slice g.a g.len g.cap)/\∃i:U,b.cell? (Addr.add r1 3)=some (.slice i.a i.len i.cap)/\
  ∃t:aj,b.cell? bX=some (.bool t)/\∃j:U,b.cell? (Addr.add bX 1)=some (.slice j.a j.len j.cap)/\∃k:U,b.cell? (Addr.add bX 2)=some (.slice k.a k.len k.cap)/\∃l:U,b.cell? (Addr.add bX 3)=some (.slice l.a l.len l.cap)/\Q s f g i t j k l b:=by
 refine⟨h1.cc (by rw[o];rfl) (fI _ _ _ _),rfl,cy h1 (us:=[b9,db,dz,bd]) (by rw[o];rfl) rfl λd y m _=>?_⟩;have u:=w.ad m (λe=>r e.symm);refine⟨m.mono λq _ h=>cd q h,u.cc (by rw[p];rfl) (fI _ _ _ _),rfl,cy u (us:=[bQ,cG,cO,cq]) (by rw[p];rfl) rfl λb z v _=>?_⟩;obtain⟨bU,aA,aR,aK⟩:=bC (y.ad v r);obtain⟨d0,d1,d2,d3⟩:=bC z;exact⟨b9,bU,db,aA,dz,aR,bd,aK,bQ,d0,cG,d1,cO,d2,cq,d3,x b ((m.mono λq _ h=>.inl h).trans (v.mono λq _ h=>.inr h))⟩
def oK(n:aB)(w:J)(v:aa)(w':J):Prop:=
 ∃ (db dz bd cG cO cq t:U),v=.tuple #[cX (n.left (ck n)) db dz bd,t,cX (n.right (ck n)) cG cO cq,true]/\
  bz (λq=>w.heap.size<=q) w' (n.left (ck n)) db dz bd/\bz (λq=>w.heap.size<=q) w' (n.right (ck n)) cG cO cq/\a7 (λq=>w.heap.size<=q) w' t (n.keys.getD (ck n) [])/\Ext w w'
theorem p3{B:Nat->Prop}{w:J}{n:aB}{K V D:U}(h:bz B w n K V D)(hs:cF n)(br:n.keys.length<=10000)(dK:1<=ck n)
 (L:if n.leaf then ck n<=n.keys.length-1/\1<=n.keys.length-1 else ck n<=n.keys.length-2/\1<=n.keys.length-2):
 aP ai 299 #[cX n K V D] w (oK n w):=by
 have b7:n.vals.length<=10000:=by
  rcases hs with hs|hs
  .rw[hs.len];omega
  .rw[hs.vals];simp
 have b8:n.kids.length<=10001:=by
  rcases hs with hs|hs
  .rw[hs.kids];simp
  .rw[hs.len];omega
 have E:∀k∈n.keys,k.length<=100000:=λk l=>by have:=(hs.keys.ok k l).2;omega
 have ap:∀k∈n.vals,k.length<=100000:=λk l=>by have:=hs.vals k l;omega
 have b_:=bl.len h.keys;obtain⟨most,aq⟩:∃most,most=if n.leaf then n.keys.length-1 else n.keys.length-2:=⟨_,rfl⟩
 have aU:1<=most/\most<=n.keys.length/\ck n<=most:=by
  rw[aq]
  cases p:n.leaf<;>rw[p]at L<;>simp at L⊢<;>omega
 have O:ck n<n.keys.length:=by
  cases p:n.leaf<;>rw[p]at L<;>simp at L<;>omega
 refine okF (af.p3 n.leaf K V D) ay.p3 func299 ?_;(delta af.p3 cp ag Y bc ak av aK gv aA aI ba iY;dsimp only);refine bh (vs:=[n.leaf,K,V,D]) rfl λw1 bA bT ca=>?_;refine bh (vs:=[false,(),(),()]) rfl λah bV bs cb=>?_;refine bh (vs:=[false,(),(),()]) rfl λbW bX bp cd=>?_;have bB:=bT.trans (bs.trans bp);obtain⟨bU,aA,aR,aK⟩:=bC ((bA.ext bs).ext bp);refine⟨K,aA,cm (λm w'=>m=(most:Int)/\bW=w') (λq f=>⟨n.leaf,bU,λao=>f _ _ ⟨?_,rfl⟩,λao=>f _ _ ⟨?_,rfl⟩⟩) ?_⟩
 .have ao:n.leaf=false:=by simpa using ao
  rw[ao]at L aq;simp at L aq;rw[bu (n:=(K.len:Int)-1) I I,bu I I];omega
 .have ao:n.leaf=true:=by simpa using ao
  rw[ao]at L aq;simp at L aq;rw[bu I I];omega
 rintro _ _ ⟨rfl,rfl⟩;refine⟨_,bU,K,aA,V,aR,D,aK,(j3 (h.ext bB) I I I).use ?_⟩;rintro _ y ⟨b,rfl,ao,aV⟩;have bY:=ao.2 hs;subst bY;have aX:=b6 y;have au:=bB.trans (aV.trans aX);have bq:=((bA.ext bs).ext bp).ext (aV.trans aX);have bt:=(bV.ext bp).ext (aV.trans aX);have bw:=bX.ext (aV.trans aX);have ce:=(aV.trans aX).size;obtain⟨bU,aA,aR,aK⟩:=bC bq;refine⟨true,rfl,λh=>?_,λ_=>aS ⟨λ_=>False,id,_,bU,K,aA,V,aR,D,aK,id,_,bU,K,aA,V,aR,D,aK,⟨?_,?_⟩⟩⟩
 .simp only[Bool.not_true,kT]at h
  have:=b2 h;omega
 .refine(eN (h.ext au) I I I E ap).use ?_
  rintro _ bD ⟨c,d,ax,bR,b3,bJ,rfl,aC,P⟩;refine⟨n.leaf,c,d,ax,rfl,P,⟨?_,?_⟩⟩
  .refine(m8 (h.ext (au.trans P)) hs br (most:=most) aU.2.1).use ?_
   rintro _ bx ⟨rfl,G⟩;refine⟨_,rfl,G,bh (vs:=[false,(),(),()]) rfl λbE aE H bF=>⟨H,aE.cc rfl (fI _ _ _ _),rfl,cy aE (us:=[n.leaf,c,d,ax]) rfl rfl λF aF C bG=>?_⟩⟩;have bZ:=P.size;have b0:=G.size;obtain⟨aD,aY⟩:∃aD,aD=bx.heap.size:=⟨_,rfl⟩;rw[←aY]at aF C⊢;have M:=P.trans (G.trans H);have R:e3 y.heap.size F n c d ax bR b3 bJ:=(aC.ext (G.trans H)).ad C λq _ _ f e=>by
    subst e;rcases f with f|f|f
    .have:=(aC.bj _ f).2.1;omega
    .have:=(aC.bv _ f).2.1;omega
    .have:=(aC.aI _ f).2;omega
   have bH:y.drew.heap.size=y.heap.size:=rfl;have N:Ext w F:=Ext.cu (au.trans M) C I;have aG:=(bq.ext M).ad C I;have aH:=(bt.ext M).ad C I;have aJ:=(bw.ext M).ad C I;have aZ:gm (cellsOf n) most=ck n:=by unfold ck;rw[aq]
   rw[aZ];obtain⟨i,hi⟩:∃i,i=ck n:=⟨_,rfl⟩;rw[←hi]at O aU dK;rw[←hi];obtain⟨aL,aM,a0,a1⟩:=bC aG;obtain⟨A,t,ar,a2,hc,ht,_⟩:=bl.at (h.ext N).keys O;refine⟨K,aM,A,ar,a2,t,hc,(kE (B:=λq=>w.heap.size<=q) ht.1 (by have:=E _ (cw O);omega) (λq f=>ey N.size f)).use ?_⟩;rintro _ r ⟨tk,rfl,aN,S,aQ⟩;have T:=b6 r;obtain⟨aL,aM,a0,a1⟩:=bC (aG.ext S);have s:=S.trans T;obtain⟨f0,f1,f2,f3⟩:=bC (aF.ext s);have o:=R.at.ext s;have bI:=bl.len o.keys;have bK:=bl.len o.vals;have bL:=cI.len o.kids;have bM:=bl.le (bn.iM R.keys);have bN:=bl.le (bn.iM R.vals);have bO:ax.len<=ax.cap:=o.kids.2.1;have bP:F.heap.size<=r.heap.size:=S.size;have aT:n.keys.getD i []=n.keys[i]:=eu O;refine⟨tk,rfl,n.leaf,aL,λp=>aS ⟨λq=>q=w1.heap.size,λe=>?_,c,f1,⟨I,I⟩,λe=>?_,d,f2,⟨I,?_⟩,#[true,.slice (aO c.a 1 0 c.cap) i c.cap,.slice (aO d.a 1 0 d.cap) i d.cap,()],(λw=>by kernel_rfl),λe=>?_,c,f1,⟨I,I⟩,λe=>?_,d,f2,⟨I,?_⟩,#[true,.slice (aO c.a 1 i c.cap) (c.len-i) (c.cap-i),.slice (aO d.a 1 i d.cap) (d.len-i) (d.cap-i),()],(λw=>by kernel_rfl),?_⟩,λp=>?_⟩
   .rw[aw]at e;have e:aD=w1.heap.size:=e;omega
   .rw[aw]at e;have e:aD=w1.heap.size:=e;omega
   .have:=hs.k_ p;omega
   .rw[aw]at e;have e:aD=w1.heap.size:=e;omega
   .rw[aw]at e;have e:aD=w1.heap.size:=e;omega
   .have:=hs.k_ p;omega
   .have a3:=hs.k_ p
    have g:n.left i=⟨true,n.keys.take i,n.vals.take i,[]⟩:=by unfold aB.left;rw[p];rfl
    have j:n.right i=⟨true,n.keys.drop i,n.vals.drop i,[]⟩:=by unfold aB.right;rw[p];rfl
    have W:bz (λq=>y.heap.size<=q) r.drew (n.left i) ⟨aO c.a 1 0 c.cap,i,c.cap⟩ ⟨aO d.a 1 0 d.cap,i,d.cap⟩ bg:=by
     rw[g];refine⟨?_,?_,cI.none _ _⟩
     .have:=bl.sub o.keys (lo:=0) (hi:=i) I I
      simpa using this
     .have:=bl.sub o.vals (lo:=0) (hi:=i) I I
      simpa using this
    have X:bz (λq=>y.heap.size<=q) r.drew (n.right i) ⟨aO c.a 1 i c.cap,c.len-i,c.cap-i⟩ ⟨aO d.a 1 i d.cap,d.len-i,d.cap-i⟩ bg:=by
     rw[j];refine⟨?_,?_,cI.none _ _⟩
     .have:=bl.sub o.keys (lo:=i) (hi:=c.len) I I
      rwa[dI (by rw[c5];omega)]at this
     .have:=bl.sub o.vals (lo:=i) (hi:=d.len) I I
      rwa[dI (by rw[c5];omega)]at this
    have Z:=eN W (by rw[g];show(n.keys.take i).length<=_;rw[cv];omega) (by rw[g];show(n.vals.take i).length<=_;rw[cv];omega) (by rw[g];simp) (by rw[g];exact λk l=>E k (fe l)) (by rw[g];exact λk l=>ap k (fe l));have ac:(.agg #[true,.slice (aO c.a 1 0 c.cap) i c.cap,.slice (aO d.a 1 0 d.cap) i d.cap,()]:aa)=cX (n.left i) ⟨aO c.a 1 0 c.cap,i,c.cap⟩ ⟨aO d.a 1 0 d.cap,i,d.cap⟩ bg:=by rw[g];rfl
    have ae:(.agg #[true,.slice (aO c.a 1 i c.cap) (c.len-i) (c.cap-i),.slice (aO d.a 1 i d.cap) (d.len-i) (d.cap-i),()]:aa)=cX (n.right i) ⟨aO c.a 1 i c.cap,c.len-i,c.cap-i⟩ ⟨aO d.a 1 i d.cap,d.len-i,d.cap-i⟩ bg:=by rw[j];rfl
    rw[ac,ae];refine Z.use ?_;rintro _ a4 ⟨db,dz,bd,a5,a6,a8,rfl,aj,u⟩;have al:=eN (X.ext u) (by rw[j];show(n.keys.drop i).length<=_;rw[c5];omega) (by rw[j];show(n.vals.drop i).length<=_;rw[c5];omega) (by rw[j];simp) (by rw[j];exact λk l=>E k (e6 l)) (by rw[j];exact λk l=>ap k (e6 l));refine⟨_,db,dz,bd,rfl,ab.cK u,al.use ?_⟩;rintro _ a9 ⟨cG,cO,cq,a_,bb,be,rfl,am,z⟩;have v:=u.trans z;have bf:=u.size;have bi:=s.size;refine⟨_,cG,cO,cq,rfl,ab.cK z,qi (b9:=(n.left i).leaf) (bQ:=(n.right i).leaf) (db:=db) (dz:=dz) (bd:=bd) (cG:=cG) (cO:=cO) (cq:=cq) ((aH.ext s).ext v) ((aJ.ext s).ext v) rfl rfl I (λq f=>f) (Q:=λb9 db dz bd bQ cG cO cq w'=>oK n w (.tuple #[.agg #[b9,db,dz,bd],tk,.agg #[bQ,cG,cO,cq],true]) w') λbk x=>?_⟩;have bm:r.drew.heap.size=r.heap.size:=rfl;refine⟨db,dz,bd,cG,cO,cq,tk,by rw[←hi];rfl,?_,?_,?_,?_⟩
    .rw[←hi];exact((aj.at.ext z).ad x λq f e=>I).aW λq _ f=>by omega
    .rw[←hi];exact(am.at.ad x λq f e=>I).aW λq _ f=>by omega
    .rw[←hi,aT]
     have an:∀q,az tk q->F.heap.size<=q:=aQ;exact a7.iL (a7.ext (a7.ext aN T) v) x λq f e=>by have:=an q f;omega
    .exact Ext.dd (N.trans (s.trans v)) x λq f=>by omega
   .have a3:=hs.qf p
    have bS:i<=n.keys.length-2/\1<=n.keys.length-2:=by rw[p,←hi]at L;simpa using L
    have bo:IntKind.wrap .i64 ((i:Int)+1)=((i+1:Nat):Int):=by rw[bu I I];rfl
    rw[bo];refine aS ⟨λq=>q=w1.heap.size,λe=>?_,c,f1,⟨I,I⟩,λe=>?_,ax,f3,⟨I,I⟩,#[false,.slice (aO c.a 1 0 c.cap) i c.cap,(),.slice (aO ax.a 1 0 ax.cap) (i+1) ax.cap],(λw=>by kernel_rfl),λe=>?_,c,f1,⟨I,I⟩,λe=>?_,ax,f3,⟨I,I⟩,#[false,.slice (aO c.a 1 (i+1) c.cap) (c.len-(i+1)) (c.cap-(i+1)),(),.slice (aO ax.a 1 (i+1) ax.cap) (ax.len-(i+1)) (ax.cap-(i+1))],(λw=>by kernel_rfl),?_⟩
    .rw[aw]at e;have e:aD=w1.heap.size:=e;omega
    .rw[aw]at e;have e:aD=w1.heap.size:=e;omega
    .rw[aw]at e;have e:aD=w1.heap.size:=e;omega
    .rw[aw]at e;have e:aD=w1.heap.size:=e;omega
    have g:n.left i=⟨false,n.keys.take i,[],n.kids.take (i+1)⟩:=by unfold aB.left;rw[p];rfl
    have j:n.right i=⟨false,n.keys.drop (i+1),[],n.kids.drop (i+1)⟩:=by unfold aB.right;rw[p];rfl
    have W:bz (λq=>y.heap.size<=q) r.drew (n.left i) ⟨aO c.a 1 0 c.cap,i,c.cap⟩ bg ⟨aO ax.a 1 0 ax.cap,i+1,ax.cap⟩:=by
     rw[g];refine⟨?_,bl.none _ _,?_⟩
     .have:=bl.sub o.keys (lo:=0) (hi:=i) I I
      simpa using this
     .have:=cI.sub o.kids (lo:=0) (hi:=i+1) I I
      simpa using this
    have X:bz (λq=>y.heap.size<=q) r.drew (n.right i) ⟨aO c.a 1 (i+1) c.cap,c.len-(i+1),c.cap-(i+1)⟩ bg ⟨aO ax.a 1 (i+1) ax.cap,ax.len-(i+1),ax.cap-(i+1)⟩:=by
     rw[j];refine⟨?_,bl.none _ _,?_⟩
     .have:=bl.sub o.keys (lo:=i+1) (hi:=c.len) I I
      rwa[dI (by rw[c5];omega)]at this
     .have:=cI.sub o.kids (lo:=i+1) (hi:=ax.len) I I
      rwa[dI (by rw[c5];omega)]at this
    have Z:=eN W (by rw[g];show(n.keys.take i).length<=_;rw[cv];omega) (by rw[g];simp) (by rw[g];show(n.kids.take (i+1)).length<=_;rw[cv];omega) (by rw[g];exact λk l=>E k (fe l)) (by rw[g];simp);have ac:(.agg #[false,.slice (aO c.a 1 0 c.cap) i c.cap,(),.slice (aO ax.a 1 0 ax.cap) (i+1) ax.cap]:aa)=cX (n.left i) ⟨aO c.a 1 0 c.cap,i,c.cap⟩ bg ⟨aO ax.a 1 0 ax.cap,i+1,ax.cap⟩:=by rw[g];rfl
    have ae:(.agg #[false,.slice (aO c.a 1 (i+1) c.cap) (c.len-(i+1)) (c.cap-(i+1)),(),.slice (aO ax.a 1 (i+1) ax.cap) (ax.len-(i+1)) (ax.cap-(i+1))]:aa)=cX (n.right i) ⟨aO c.a 1 (i+1) c.cap,c.len-(i+1),c.cap-(i+1)⟩ bg ⟨aO ax.a 1 (i+1) ax.cap,ax.len-(i+1),ax.cap-(i+1)⟩:=by rw[j];rfl
    rw[ac,ae];refine Z.use ?_;rintro _ a4 ⟨db,dz,bd,a5,a6,a8,rfl,aj,u⟩;have al:=eN (X.ext u) (by rw[j];show(n.keys.drop (i+1)).length<=_;rw[c5];omega) (by rw[j];simp) (by rw[j];show(n.kids.drop (i+1)).length<=_;rw[c5];omega) (by rw[j];exact λk l=>E k (e6 l)) (by rw[j];simp);refine⟨_,db,dz,bd,rfl,ab.cK u,al.use ?_⟩;rintro _ a9 ⟨cG,cO,cq,a_,bb,be,rfl,am,z⟩;have v:=u.trans z;have bf:=u.size;have bi:=s.size;refine⟨_,cG,cO,cq,rfl,ab.cK z,qi (b9:=(n.left i).leaf) (bQ:=(n.right i).leaf) (db:=db) (dz:=dz) (bd:=bd) (cG:=cG) (cO:=cO) (cq:=cq) ((aH.ext s).ext v) ((aJ.ext s).ext v) rfl rfl I (λq f=>f) (Q:=λb9 db dz bd bQ cG cO cq w'=>oK n w (.tuple #[.agg #[b9,db,dz,bd],tk,.agg #[bQ,cG,cO,cq],true]) w') λbk x=>?_⟩;have bm:r.drew.heap.size=r.heap.size:=rfl;refine⟨db,dz,bd,cG,cO,cq,tk,by rw[←hi];rfl,?_,?_,?_,?_⟩
    .rw[←hi];exact((aj.at.ext z).ad x λq f e=>I).aW λq _ f=>by omega
    .rw[←hi];exact(am.at.ad x λq f e=>I).aW λq _ f=>by omega
    .rw[←hi,aT]
     have an:∀q,az tk q->F.heap.size<=q:=aQ;exact a7.iL (a7.ext (a7.ext aN T) v) x λq f e=>by have:=an q f;omega
    .exact Ext.dd (N.trans (s.trans v)) x λq f=>by omega
  .refine bh (vs:=[false,(),(),()]) rfl λbx b1 G cf=>⟨G,?_⟩
   refine(m8 (h.ext (au.trans (P.trans G))) hs br (most:=most) aU.2.1).use ?_;rintro _ bE ⟨rfl,H⟩;have aE:=b1.ext H;refine⟨_,rfl,H,aE.cc rfl (fI _ _ _ _),rfl,cy aE (us:=[n.leaf,c,d,ax]) rfl rfl λF aF C bG=>?_⟩;have bZ:=P.size;have bF:=H.size;obtain⟨aD,aY⟩:∃aD,aD=bD.heap.size:=⟨_,rfl⟩;rw[←aY]at aF C⊢;have M:=P.trans (G.trans H);have R:e3 y.heap.size F n c d ax bR b3 bJ:=(aC.ext (G.trans H)).ad C λq _ _ f e=>by
    subst e;rcases f with f|f|f
    .have:=(aC.bj _ f).2.1;omega
    .have:=(aC.bv _ f).2.1;omega
    .have:=(aC.aI _ f).2;omega
   have bH:y.drew.heap.size=y.heap.size:=rfl;have N:Ext w F:=Ext.cu (au.trans M) C I;have aG:=(bq.ext M).ad C I;have aH:=(bt.ext M).ad C I;have aJ:=(bw.ext M).ad C I;have aZ:gm (cellsOf n) most=ck n:=by unfold ck;rw[aq]
   rw[aZ];obtain⟨i,hi⟩:∃i,i=ck n:=⟨_,rfl⟩;rw[←hi]at O aU dK;rw[←hi];obtain⟨aL,aM,a0,a1⟩:=bC aG;obtain⟨A,t,ar,a2,hc,ht,_⟩:=bl.at (h.ext N).keys O;refine⟨K,aM,A,ar,a2,t,hc,(kE (B:=λq=>w.heap.size<=q) ht.1 (by have:=E _ (cw O);omega) (λq f=>ey N.size f)).use ?_⟩;rintro _ r ⟨tk,rfl,aN,S,aQ⟩;have T:=b6 r;obtain⟨aL,aM,a0,a1⟩:=bC (aG.ext S);have s:=S.trans T;obtain⟨f0,f1,f2,f3⟩:=bC (aF.ext s);have o:=R.at.ext s;have bI:=bl.len o.keys;have bK:=bl.len o.vals;have bL:=cI.len o.kids;have bM:=bl.le (bn.iM R.keys);have bN:=bl.le (bn.iM R.vals);have bO:ax.len<=ax.cap:=o.kids.2.1;have bP:F.heap.size<=r.heap.size:=S.size;have aT:n.keys.getD i []=n.keys[i]:=eu O;refine⟨tk,rfl,n.leaf,aL,λp=>aS ⟨λq=>q=w1.heap.size,λe=>?_,c,f1,⟨I,I⟩,λe=>?_,d,f2,⟨I,?_⟩,#[true,.slice (aO c.a 1 0 c.cap) i c.cap,.slice (aO d.a 1 0 d.cap) i d.cap,()],(λw=>by kernel_rfl),λe=>?_,c,f1,⟨I,I⟩,λe=>?_,d,f2,⟨I,?_⟩,#[true,.slice (aO c.a 1 i c.cap) (c.len-i) (c.cap-i),.slice (aO d.a 1 i d.cap) (d.len-i) (d.cap-i),()],(λw=>by kernel_rfl),?_⟩,λp=>?_⟩
   .rw[aw]at e;have e:aD=w1.heap.size:=e;omega
   .rw[aw]at e;have e:aD=w1.heap.size:=e;omega
   .have:=hs.k_ p;omega
   .rw[aw]at e;have e:aD=w1.heap.size:=e;omega
   .rw[aw]at e;have e:aD=w1.heap.size:=e;omega
   .have:=hs.k_ p;omega
   .have a3:=hs.k_ p
    have g:n.left i=⟨true,n.keys.take i,n.vals.take i,[]⟩:=by unfold aB.left;rw[p];rfl
    have j:n.right i=⟨true,n.keys.drop i,n.vals.drop i,[]⟩:=by unfold aB.right;rw[p];rfl
    have W:bz (λq=>y.heap.size<=q) r.drew (n.left i) ⟨aO c.a 1 0 c.cap,i,c.cap⟩ ⟨aO d.a 1 0 d.cap,i,d.cap⟩ bg:=by
     rw[g];refine⟨?_,?_,cI.none _ _⟩
     .have:=bl.sub o.keys (lo:=0) (hi:=i) I I
      simpa using this
     .have:=bl.sub o.vals (lo:=0) (hi:=i) I I
      simpa using this
    have X:bz (λq=>y.heap.size<=q) r.drew (n.right i) ⟨aO c.a 1 i c.cap,c.len-i,c.cap-i⟩ ⟨aO d.a 1 i d.cap,d.len-i,d.cap-i⟩ bg:=by
     rw[j];refine⟨?_,?_,cI.none _ _⟩
     .have:=bl.sub o.keys (lo:=i) (hi:=c.len) I I
      rwa[dI (by rw[c5];omega)]at this
     .have:=bl.sub o.vals (lo:=i) (hi:=d.len) I I
      rwa[dI (by rw[c5];omega)]at this
    have Z:=eN W (by rw[g];show(n.keys.take i).length<=_;rw[cv];omega) (by rw[g];show(n.vals.take i).length<=_;rw[cv];omega) (by rw[g];simp) (by rw[g];exact λk l=>E k (fe l)) (by rw[g];exact λk l=>ap k (fe l));have ac:(.agg #[true,.slice (aO c.a 1 0 c.cap) i c.cap,.slice (aO d.a 1 0 d.cap) i d.cap,()]:aa)=cX (n.left i) ⟨aO c.a 1 0 c.cap,i,c.cap⟩ ⟨aO d.a 1 0 d.cap,i,d.cap⟩ bg:=by rw[g];rfl
    have ae:(.agg #[true,.slice (aO c.a 1 i c.cap) (c.len-i) (c.cap-i),.slice (aO d.a 1 i d.cap) (d.len-i) (d.cap-i),()]:aa)=cX (n.right i) ⟨aO c.a 1 i c.cap,c.len-i,c.cap-i⟩ ⟨aO d.a 1 i d.cap,d.len-i,d.cap-i⟩ bg:=by rw[j];rfl
    rw[ac,ae];refine Z.use ?_;rintro _ a4 ⟨db,dz,bd,a5,a6,a8,rfl,aj,u⟩;have al:=eN (X.ext u) (by rw[j];show(n.keys.drop i).length<=_;rw[c5];omega) (by rw[j];show(n.vals.drop i).length<=_;rw[c5];omega) (by rw[j];simp) (by rw[j];exact λk l=>E k (e6 l)) (by rw[j];exact λk l=>ap k (e6 l));refine⟨_,db,dz,bd,rfl,ab.cK u,al.use ?_⟩;rintro _ a9 ⟨cG,cO,cq,a_,bb,be,rfl,am,z⟩;have v:=u.trans z;have bf:=u.size;have bi:=s.size;refine⟨_,cG,cO,cq,rfl,ab.cK z,qi (b9:=(n.left i).leaf) (bQ:=(n.right i).leaf) (db:=db) (dz:=dz) (bd:=bd) (cG:=cG) (cO:=cO) (cq:=cq) ((aH.ext s).ext v) ((aJ.ext s).ext v) rfl rfl I (λq f=>f) (Q:=λb9 db dz bd bQ cG cO cq w'=>oK n w (.tuple #[.agg #[b9,db,dz,bd],tk,.agg #[bQ,cG,cO,cq],true]) w') λbk x=>?_⟩;have bm:r.drew.heap.size=r.heap.size:=rfl;refine⟨db,dz,bd,cG,cO,cq,tk,by rw[←hi];rfl,?_,?_,?_,?_⟩
    .rw[←hi];exact((aj.at.ext z).ad x λq f e=>I).aW λq _ f=>by omega
    .rw[←hi];exact(am.at.ad x λq f e=>I).aW λq _ f=>by omega
    .rw[←hi,aT]
     have an:∀q,az tk q->F.heap.size<=q:=aQ;exact a7.iL (a7.ext (a7.ext aN T) v) x λq f e=>by have:=an q f;omega
    .exact Ext.dd (N.trans (s.trans v)) x λq f=>by omega
   .have a3:=hs.qf p
    have bS:i<=n.keys.length-2/\1<=n.keys.length-2:=by rw[p,←hi]at L;simpa using L
    have bo:IntKind.wrap .i64 ((i:Int)+1)=((i+1:Nat):Int):=by rw[bu I I];rfl
    rw[bo];refine aS ⟨λq=>q=w1.heap.size,λe=>?_,c,f1,⟨I,I⟩,λe=>?_,ax,f3,⟨I,I⟩,#[false,.slice (aO c.a 1 0 c.cap) i c.cap,(),.slice (aO ax.a 1 0 ax.cap) (i+1) ax.cap],(λw=>by kernel_rfl),λe=>?_,c,f1,⟨I,I⟩,λe=>?_,ax,f3,⟨I,I⟩,#[false,.slice (aO c.a 1 (i+1) c.cap) (c.len-(i+1)) (c.cap-(i+1)),(),.slice (aO ax.a 1 (i+1) ax.cap) (ax.len-(i+1)) (ax.cap-(i+1))],(λw=>by kernel_rfl),?_⟩
    .rw[aw]at e;have e:aD=w1.heap.size:=e;omega
    .rw[aw]at e;have e:aD=w1.heap.size:=e;omega
    .rw[aw]at e;have e:aD=w1.heap.size:=e;omega
    .rw[aw]at e;have e:aD=w1.heap.size:=e;omega
    have g:n.left i=⟨false,n.keys.take i,[],n.kids.take (i+1)⟩:=by unfold aB.left;rw[p];rfl
    have j:n.right i=⟨false,n.keys.drop (i+1),[],n.kids.drop (i+1)⟩:=by unfold aB.right;rw[p];rfl
    have W:bz (λq=>y.heap.size<=q) r.drew (n.left i) ⟨aO c.a 1 0 c.cap,i,c.cap⟩ bg ⟨aO ax.a 1 0 ax.cap,i+1,ax.cap⟩:=by
     rw[g];refine⟨?_,bl.none _ _,?_⟩
     .have:=bl.sub o.keys (lo:=0) (hi:=i) I I
      simpa using this
     .have:=cI.sub o.kids (lo:=0) (hi:=i+1) I I
      simpa using this
    have X:bz (λq=>y.heap.size<=q) r.drew (n.right i) ⟨aO c.a 1 (i+1) c.cap,c.len-(i+1),c.cap-(i+1)⟩ bg ⟨aO ax.a 1 (i+1) ax.cap,ax.len-(i+1),ax.cap-(i+1)⟩:=by
     rw[j];refine⟨?_,bl.none _ _,?_⟩
     .have:=bl.sub o.keys (lo:=i+1) (hi:=c.len) I I
      rwa[dI (by rw[c5];omega)]at this
     .have:=cI.sub o.kids (lo:=i+1) (hi:=ax.len) I I
      rwa[dI (by rw[c5];omega)]at this
    have Z:=eN W (by rw[g];show(n.keys.take i).length<=_;rw[cv];omega) (by rw[g];simp) (by rw[g];show(n.kids.take (i+1)).length<=_;rw[cv];omega) (by rw[g];exact λk l=>E k (fe l)) (by rw[g];simp);have ac:(.agg #[false,.slice (aO c.a 1 0 c.cap) i c.cap,(),.slice (aO ax.a 1 0 ax.cap) (i+1) ax.cap]:aa)=cX (n.left i) ⟨aO c.a 1 0 c.cap,i,c.cap⟩ bg ⟨aO ax.a 1 0 ax.cap,i+1,ax.cap⟩:=by rw[g];rfl
    have ae:(.agg #[false,.slice (aO c.a 1 (i+1) c.cap) (c.len-(i+1)) (c.cap-(i+1)),(),.slice (aO ax.a 1 (i+1) ax.cap) (ax.len-(i+1)) (ax.cap-(i+1))]:aa)=cX (n.right i) ⟨aO c.a 1 (i+1) c.cap,c.len-(i+1),c.cap-(i+1)⟩ bg ⟨aO ax.a 1 (i+1) ax.cap,ax.len-(i+1),ax.cap-(i+1)⟩:=by rw[j];rfl
    rw[ac,ae];refine Z.use ?_;rintro _ a4 ⟨db,dz,bd,a5,a6,a8,rfl,aj,u⟩;have al:=eN (X.ext u) (by rw[j];show(n.keys.drop (i+1)).length<=_;rw[c5];omega) (by rw[j];simp) (by rw[j];show(n.kids.drop (i+1)).length<=_;rw[c5];omega) (by rw[j];exact λk l=>E k (e6 l)) (by rw[j];simp);refine⟨_,db,dz,bd,rfl,ab.cK u,al.use ?_⟩;rintro _ a9 ⟨cG,cO,cq,a_,bb,be,rfl,am,z⟩;have v:=u.trans z;have bf:=u.size;have bi:=s.size;refine⟨_,cG,cO,cq,rfl,ab.cK z,qi (b9:=(n.left i).leaf) (bQ:=(n.right i).leaf) (db:=db) (dz:=dz) (bd:=bd) (cG:=cG) (cO:=cO) (cq:=cq) ((aH.ext s).ext v) ((aJ.ext s).ext v) rfl rfl I (λq f=>f) (Q:=λb9 db dz bd bQ cG cO cq w'=>oK n w (.tuple #[.agg #[b9,db,dz,bd],tk,.agg #[bQ,cG,cO,cq],true]) w') λbk x=>?_⟩;have bm:r.drew.heap.size=r.heap.size:=rfl;refine⟨db,dz,bd,cG,cO,cq,tk,by rw[←hi];rfl,?_,?_,?_,?_⟩
    .rw[←hi];exact((aj.at.ext z).ad x λq f e=>I).aW λq _ f=>by omega
    .rw[←hi];exact(am.at.ad x λq f e=>I).aW λq _ f=>by omega
    .rw[←hi,aT]
     have an:∀q,az tk q->F.heap.size<=q:=aQ;exact a7.iL (a7.ext (a7.ext aN T) v) x λq f e=>by have:=an q f;omega
    .exact Ext.dd (N.trans (s.trans v)) x λq f=>by omega
 .refine bh (vs:=[false,(),(),()]) rfl λbD b4 P cg=>⟨P,?_⟩
  refine(eN (h.ext (au.trans P)) I I I E ap).use ?_;rintro _ bx ⟨c,d,ax,bR,b3,bJ,rfl,b5,G⟩;refine⟨n.leaf,c,d,ax,rfl,G,(m8 (h.ext (au.trans (P.trans G))) hs br (most:=most) aU.2.1).use ?_⟩;rintro _ bE ⟨rfl,H⟩;have aE:=b4.ext (G.trans H);refine⟨_,rfl,H,aE.cc rfl (fI _ _ _ _),rfl,cy aE (us:=[n.leaf,c,d,ax]) rfl rfl λF aF C bG=>?_⟩;have b0:=G.size;have bF:=H.size;have bH:y.drew.heap.size=y.heap.size:=rfl;obtain⟨aD,aY⟩:∃aD,aD=y.drew.heap.size:=⟨_,rfl⟩;rw[←aY]at aF C⊢;have M:=P.trans (G.trans H);have R:e3 y.heap.size F n c d ax bR b3 bJ:=((b5.ext H).ad C λq h1 _ _ e=>I).low I;have N:Ext w F:=Ext.cu (au.trans M) C I;have aG:=(bq.ext M).ad C I;have aH:=(bt.ext M).ad C I;have aJ:=(bw.ext M).ad C I;have aZ:gm (cellsOf n) most=ck n:=by unfold ck;rw[aq]
  rw[aZ];obtain⟨i,hi⟩:∃i,i=ck n:=⟨_,rfl⟩;rw[←hi]at O aU dK;rw[←hi];obtain⟨aL,aM,a0,a1⟩:=bC aG;obtain⟨A,t,ar,a2,hc,ht,_⟩:=bl.at (h.ext N).keys O;refine⟨K,aM,A,ar,a2,t,hc,(kE (B:=λq=>w.heap.size<=q) ht.1 (by have:=E _ (cw O);omega) (λq f=>ey N.size f)).use ?_⟩;rintro _ r ⟨tk,rfl,aN,S,aQ⟩;have T:=b6 r;obtain⟨aL,aM,a0,a1⟩:=bC (aG.ext S);have s:=S.trans T;obtain⟨f0,f1,f2,f3⟩:=bC (aF.ext s);have o:=R.at.ext s;have bI:=bl.len o.keys;have bK:=bl.len o.vals;have bL:=cI.len o.kids;have bM:=bl.le (bn.iM R.keys);have bN:=bl.le (bn.iM R.vals);have bO:ax.len<=ax.cap:=o.kids.2.1;have bP:F.heap.size<=r.heap.size:=S.size;have aT:n.keys.getD i []=n.keys[i]:=eu O;refine⟨tk,rfl,n.leaf,aL,λp=>aS ⟨λq=>q=w1.heap.size,λe=>?_,c,f1,⟨I,I⟩,λe=>?_,d,f2,⟨I,?_⟩,#[true,.slice (aO c.a 1 0 c.cap) i c.cap,.slice (aO d.a 1 0 d.cap) i d.cap,()],(λw=>by kernel_rfl),λe=>?_,c,f1,⟨I,I⟩,λe=>?_,d,f2,⟨I,?_⟩,#[true,.slice (aO c.a 1 i c.cap) (c.len-i) (c.cap-i),.slice (aO d.a 1 i d.cap) (d.len-i) (d.cap-i),()],(λw=>by kernel_rfl),?_⟩,λp=>?_⟩
  .rw[aw]at e;have e:aD=w1.heap.size:=e;omega
  .rw[aw]at e;have e:aD=w1.heap.size:=e;omega
  .have:=hs.k_ p;omega
  .rw[aw]at e;have e:aD=w1.heap.size:=e;omega
  .rw[aw]at e;have e:aD=w1.heap.size:=e;omega
  .have:=hs.k_ p;omega
  .have a3:=hs.k_ p
   have g:n.left i=⟨true,n.keys.take i,n.vals.take i,[]⟩:=by unfold aB.left;rw[p];rfl
   have j:n.right i=⟨true,n.keys.drop i,n.vals.drop i,[]⟩:=by unfold aB.right;rw[p];rfl
   have W:bz (λq=>y.heap.size<=q) r.drew (n.left i) ⟨aO c.a 1 0 c.cap,i,c.cap⟩ ⟨aO d.a 1 0 d.cap,i,d.cap⟩ bg:=by
    rw[g];refine⟨?_,?_,cI.none _ _⟩
    .have:=bl.sub o.keys (lo:=0) (hi:=i) I I
     simpa using this
    .have:=bl.sub o.vals (lo:=0) (hi:=i) I I
     simpa using this
   have X:bz (λq=>y.heap.size<=q) r.drew (n.right i) ⟨aO c.a 1 i c.cap,c.len-i,c.cap-i⟩ ⟨aO d.a 1 i d.cap,d.len-i,d.cap-i⟩ bg:=by
    rw[j];refine⟨?_,?_,cI.none _ _⟩
    .have:=bl.sub o.keys (lo:=i) (hi:=c.len) I I
     rwa[dI (by rw[c5];omega)]at this
    .have:=bl.sub o.vals (lo:=i) (hi:=d.len) I I
     rwa[dI (by rw[c5];omega)]at this
   have Z:=eN W (by rw[g];show(n.keys.take i).length<=_;rw[cv];omega) (by rw[g];show(n.vals.take i).length<=_;rw[cv];omega) (by rw[g];simp) (by rw[g];exact λk l=>E k (fe l)) (by rw[g];exact λk l=>ap k (fe l));have ac:(.agg #[true,.slice (aO c.a 1 0 c.cap) i c.cap,.slice (aO d.a 1 0 d.cap) i d.cap,()]:aa)=cX (n.left i) ⟨aO c.a 1 0 c.cap,i,c.cap⟩ ⟨aO d.a 1 0 d.cap,i,d.cap⟩ bg:=by rw[g];rfl
   have ae:(.agg #[true,.slice (aO c.a 1 i c.cap) (c.len-i) (c.cap-i),.slice (aO d.a 1 i d.cap) (d.len-i) (d.cap-i),()]:aa)=cX (n.right i) ⟨aO c.a 1 i c.cap,c.len-i,c.cap-i⟩ ⟨aO d.a 1 i d.cap,d.len-i,d.cap-i⟩ bg:=by rw[j];rfl
   rw[ac,ae];refine Z.use ?_;rintro _ a4 ⟨db,dz,bd,a5,a6,a8,rfl,aj,u⟩;have al:=eN (X.ext u) (by rw[j];show(n.keys.drop i).length<=_;rw[c5];omega) (by rw[j];show(n.vals.drop i).length<=_;rw[c5];omega) (by rw[j];simp) (by rw[j];exact λk l=>E k (e6 l)) (by rw[j];exact λk l=>ap k (e6 l));refine⟨_,db,dz,bd,rfl,ab.cK u,al.use ?_⟩;rintro _ a9 ⟨cG,cO,cq,a_,bb,be,rfl,am,z⟩;have v:=u.trans z;have bf:=u.size;have bi:=s.size;refine⟨_,cG,cO,cq,rfl,ab.cK z,qi (b9:=(n.left i).leaf) (bQ:=(n.right i).leaf) (db:=db) (dz:=dz) (bd:=bd) (cG:=cG) (cO:=cO) (cq:=cq) ((aH.ext s).ext v) ((aJ.ext s).ext v) rfl rfl I (λq f=>f) (Q:=λb9 db dz bd bQ cG cO cq w'=>oK n w (.tuple #[.agg #[b9,db,dz,bd],tk,.agg #[bQ,cG,cO,cq],true]) w') λbk x=>?_⟩;have bm:r.drew.heap.size=r.heap.size:=rfl;refine⟨db,dz,bd,cG,cO,cq,tk,by rw[←hi];rfl,?_,?_,?_,?_⟩
   .rw[←hi];exact((aj.at.ext z).ad x λq f e=>I).aW λq _ f=>by omega
   .rw[←hi];exact(am.at.ad x λq f e=>I).aW λq _ f=>by omega
   .rw[←hi,aT]
    have an:∀q,az tk q->F.heap.size<=q:=aQ;exact a7.iL (a7.ext (a7.ext aN T) v) x λq f e=>by have:=an q f;omega
   .exact Ext.dd (N.trans (s.trans v)) x λq f=>by omega
  .have a3:=hs.qf p
   have bS:i<=n.keys.length-2/\1<=n.keys.length-2:=by rw[p,←hi]at L;simpa using L
   have bo:IntKind.wrap .i64 ((i:Int)+1)=((i+1:Nat):Int):=by rw[bu I I];rfl
   rw[bo];refine aS ⟨λq=>q=w1.heap.size,λe=>?_,c,f1,⟨I,I⟩,λe=>?_,ax,f3,⟨I,I⟩,#[false,.slice (aO c.a 1 0 c.cap) i c.cap,(),.slice (aO ax.a 1 0 ax.cap) (i+1) ax.cap],(λw=>by kernel_rfl),λe=>?_,c,f1,⟨I,I⟩,λe=>?_,ax,f3,⟨I,I⟩,#[false,.slice (aO c.a 1 (i+1) c.cap) (c.len-(i+1)) (c.cap-(i+1)),(),.slice (aO ax.a 1 (i+1) ax.cap) (ax.len-(i+1)) (ax.cap-(i+1))],(λw=>by kernel_rfl),?_⟩
   .rw[aw]at e;have e:aD=w1.heap.size:=e;omega
   .rw[aw]at e;have e:aD=w1.heap.size:=e;omega
   .rw[aw]at e;have e:aD=w1.heap.size:=e;omega
   .rw[aw]at e;have e:aD=w1.heap.size:=e;omega
   have g:n.left i=⟨false,n.keys.take i,[],n.kids.take (i+1)⟩:=by unfold aB.left;rw[p];rfl
   have j:n.right i=⟨false,n.keys.drop (i+1),[],n.kids.drop (i+1)⟩:=by unfold aB.right;rw[p];rfl
   have W:bz (λq=>y.heap.size<=q) r.drew (n.left i) ⟨aO c.a 1 0 c.cap,i,c.cap⟩ bg ⟨aO ax.a 1 0 ax.cap,i+1,ax.cap⟩:=by
    rw[g];refine⟨?_,bl.none _ _,?_⟩
    .have:=bl.sub o.keys (lo:=0) (hi:=i) I I
     simpa using this
    .have:=cI.sub o.kids (lo:=0) (hi:=i+1) I I
     simpa using this
   have X:bz (λq=>y.heap.size<=q) r.drew (n.right i) ⟨aO c.a 1 (i+1) c.cap,c.len-(i+1),c.cap-(i+1)⟩ bg ⟨aO ax.a 1 (i+1) ax.cap,ax.len-(i+1),ax.cap-(i+1)⟩:=by
    rw[j];refine⟨?_,bl.none _ _,?_⟩
    .have:=bl.sub o.keys (lo:=i+1) (hi:=c.len) I I
     rwa[dI (by rw[c5];omega)]at this
    .have:=cI.sub o.kids (lo:=i+1) (hi:=ax.len) I I
     rwa[dI (by rw[c5];omega)]at this
   have Z:=eN W (by rw[g];show(n.keys.take i).length<=_;rw[cv];omega) (by rw[g];simp) (by rw[g];show(n.kids.take (i+1)).length<=_;rw[cv];omega) (by rw[g];exact λk l=>E k (fe l)) (by rw[g];simp);have ac:(.agg #[false,.slice (aO c.a 1 0 c.cap) i c.cap,(),.slice (aO ax.a 1 0 ax.cap) (i+1) ax.cap]:aa)=cX (n.left i) ⟨aO c.a 1 0 c.cap,i,c.cap⟩ bg ⟨aO ax.a 1 0 ax.cap,i+1,ax.cap⟩:=by rw[g];rfl
   have ae:(.agg #[false,.slice (aO c.a 1 (i+1) c.cap) (c.len-(i+1)) (c.cap-(i+1)),(),.slice (aO ax.a 1 (i+1) ax.cap) (ax.len-(i+1)) (ax.cap-(i+1))]:aa)=cX (n.right i) ⟨aO c.a 1 (i+1) c.cap,c.len-(i+1),c.cap-(i+1)⟩ bg ⟨aO ax.a 1 (i+1) ax.cap,ax.len-(i+1),ax.cap-(i+1)⟩:=by rw[j];rfl
   rw[ac,ae];refine Z.use ?_;rintro _ a4 ⟨db,dz,bd,a5,a6,a8,rfl,aj,u⟩;have al:=eN (X.ext u) (by rw[j];show(n.keys.drop (i+1)).length<=_;rw[c5];omega) (by rw[j];simp) (by rw[j];show(n.kids.drop (i+1)).length<=_;rw[c5];omega) (by rw[j];exact λk l=>E k (e6 l)) (by rw[j];simp);refine⟨_,db,dz,bd,rfl,ab.cK u,al.use ?_⟩;rintro _ a9 ⟨cG,cO,cq,a_,bb,be,rfl,am,z⟩;have v:=u.trans z;have bf:=u.size;have bi:=s.size;refine⟨_,cG,cO,cq,rfl,ab.cK z,qi (b9:=(n.left i).leaf) (bQ:=(n.right i).leaf) (db:=db) (dz:=dz) (bd:=bd) (cG:=cG) (cO:=cO) (cq:=cq) ((aH.ext s).ext v) ((aJ.ext s).ext v) rfl rfl I (λq f=>f) (Q:=λb9 db dz bd bQ cG cO cq w'=>oK n w (.tuple #[.agg #[b9,db,dz,bd],tk,.agg #[bQ,cG,cO,cq],true]) w') λbk x=>?_⟩;have bm:r.drew.heap.size=r.heap.size:=rfl;refine⟨db,dz,bd,cG,cO,cq,tk,by rw[←hi];rfl,?_,?_,?_,?_⟩
   .rw[←hi];exact((aj.at.ext z).ad x λq f e=>I).aW λq _ f=>by omega
   .rw[←hi];exact(am.at.ad x λq f e=>I).aW λq _ f=>by omega
   .rw[←hi,aT]
    have an:∀q,az tk q->F.heap.size<=q:=aQ;exact a7.iL (a7.ext (a7.ext aN T) v) x λq f e=>by have:=an q f;omega
   .exact Ext.dd (N.trans (s.trans v)) x λq f=>by omega
theorem x1{B C:Nat->Prop}{w:J}{s x:U}{ls xs:O Key}(m:bn B w s ls)(hx:bl C w x xs)(hd:∀q,C q->¬az s q)(z:ls.length<=100000)(A:xs.length<=100000):
 ∃ (d:U) (w':J),Sem.run ai (Builtin.append_ #[127,127] 127 #[s,x]) w=.ok d w'/\bl (λq=>B q\/C q\/w.heap.size<=q) w' d (ls++xs)/\ab (az s) w w':=by
 have D:=bl.len hx;obtain⟨ts,h1,j,n,o⟩:=m;obtain⟨us,au,p,E,F,r⟩:=hx;have G:s.len=ls.length:=by have:=j.1;rw[dL]at this;omega
 obtain⟨d,w',t,f,H,g,u⟩:=qd.append (cH:=127) p j (vM us) I;refine⟨d,w',t,⟨ts++us,by simp[h1,au],?_,f.2.1,?_,λi v K=>?_⟩,g⟩
 .rw[fP];exact f.src
 .intro k c
  refine⟨?_,f.lt k c⟩;rcases u k c with h|h
  .exact .inl (n k h).1
  .exact .inr (.inr h)
 .rcases dH i ts.length with h|h
  .have l:i<ls.length:=by omega
   rw[l0 h,l0 l];obtain⟨a,b⟩:=o i h l;exact a7.aW (a7.iL a g b) λk _ c=>.inl c
  .have y:i-ts.length<us.length:=by rw[cx]at v;omega
   have L:i-ls.length<xs.length:=by omega
   rw[nH h,nH I];have e:i-ls.length=i-ts.length:=by omega
   have a:=r (i-ts.length) y I;simp only[e];exact a7.aW (a7.iL a g λk c=>hd k (a.2.2 k c).1) λk _ c=>.inr (.inl c)
theorem Bo{B C:Nat->Prop}{w:J}{s x:U}{ds es:O Nat}(d:cQ B w s ds)(hx:cI C w x es)(j:ds.length<=100000)(l:es.length<=100000):
 ∃ (a:U) (w':J),Sem.run ai (Builtin.append_ #[58,58] 58 #[s,x]) w=.ok a w'/\cI (λq=>B q\/C q\/w.heap.size<=q) w' a (ds++es)/\ab (az s) w w':=by
 have m:=cI.len hx;obtain⟨h1,e⟩:=d;have n:s.len=ds.length:=by have:=h1.1;rw[nk]at this;omega
 obtain⟨a,w',f,b,o,g,i⟩:=qe.append (cH:=58) hx.1 h1 (xT es) I;refine⟨a,w',f,⟨?_,b.2.1,?_⟩,g⟩
 .have:dW ds++dW es=dW (ds++es):=by simp[dW]
  rw[this]at b;exact b.src
 .intro k c
  refine⟨?_,b.lt k c⟩;rcases i k c with h|h
  .exact .inl (e k h).1
  .exact .inr (.inr h)
def Bp(pa b aD c:Nat)(key:U)(G:J)(Q:aa->J->Prop):Prop:=
 bF (λR:J->Prop=>∃H:aj,G.cell? pa=some (.bool H)/\((!H)=true->al (G.drew) λI=>∃K:Nat->Prop,¬K (Addr.add b 1).block/\∃k:U,I.cell? (Addr.add b 1)=some (.slice k.a k.len k.cap)/\Calls ai 135 #[key] I λae l=>∃S:U,ae=.returned S/\ab K I l/\al (l.alloc (.cells #[S] 48)) λT=>ab K l T/\∃V:U,∃m:J,Sem.run ai (Builtin.append_ #[127,127] 127 #[k,.slice (some l.heap.size) 1 1]) T=.ok V m/\(∃u:aa,m.cell? (Addr.add b 1)=some u)/\m.frozen? (Addr.add b 1)=false/\al (m.setCell (Addr.add b 1) V) λaf=>R af)/\((!H)=false->R G)) (λ(L:J)=>∃n:U,L.cell? (Addr.add b 1)=some (.slice n.a n.len n.cap)/\∃o:U,L.cell? (Addr.add aD 1)=some (.slice o.a o.len o.cap)/\∃W:U,∃p:J,Sem.run ai (Builtin.append_ #[127,127] 127 #[n,o]) L=.ok W p/\(∃u:aa,p.cell? (Addr.add b 1)=some u)/\p.frozen? (Addr.add b 1)=false/\al (p.setCell (Addr.add b 1) W) λM=>∃q:U,M.cell? (Addr.add b 2)=some (.slice q.a q.len q.cap)/\∃r:U,M.cell? (Addr.add aD 2)=some (.slice r.a r.len r.cap)/\∃X:U,∃s:J,Sem.run ai (Builtin.append_ #[127,127] 127 #[q,r]) M=.ok X s/\(∃u:aa,s.cell? (Addr.add b 2)=some u)/\s.frozen? (Addr.add b 2)=false/\al (s.setCell (Addr.add b 2) X) λN=>∃t:U,N.cell? (Addr.add b 3)=some (.slice t.a t.len t.cap)/\∃v:U,N.cell? (Addr.add aD 3)=some (.slice v.a v.len v.cap)/\∃Y:U,∃w:J,Sem.run ai (Builtin.append_ #[58,58] 58 #[t,v]) N=.ok Y w/\(∃u:aa,w.cell? (Addr.add b 3)=some u)/\w.frozen? (Addr.add b 3)=false/\al (w.setCell (Addr.add b 3) Y) λe=>∃Z:aj,e.cell? b=some (.bool Z)/\∃x:U,e.cell? (Addr.add b 1)=some (.slice x.a x.len x.cap)/\∃y:U,e.cell? (Addr.add b 2)=some (.slice y.a y.len y.cap)/\∃z:U,e.cell? (Addr.add b 3)=some (.slice z.a z.len z.cap)/\Calls ai 203 #[.agg #[Z,x,y,z]] e λag d=>∃O:aj,ag=.returned O/\((!O)=true->bA d c [false,(),(),()]/\(4:Nat)=4/\al (setCells d c 0 [false,(),(),()]) λf=>∃ac:aj,f.cell? c=some (.bool ac)/\∃A:U,f.cell? (Addr.add c 1)=some (.slice A.a A.len A.cap)/\∃B:U,f.cell? (Addr.add c 2)=some (.slice B.a B.len B.cap)/\∃C:U,f.cell? (Addr.add c 3)=some (.slice C.a C.len C.cap)/\Q (.tuple #[.agg #[ac,A,B,C],false]) f)/\((!O)=false->∃P:aj,d.cell? b=some (.bool P)/\∃g:U,d.cell? (Addr.add b 1)=some (.slice g.a g.len g.cap)/\∃h:U,d.cell? (Addr.add b 2)=some (.slice h.a h.len h.cap)/\∃i:U,d.cell? (Addr.add b 3)=some (.slice i.a i.len i.cap)/\bA d c [P,g,h,i]/\(4:Nat)=4/\al (setCells d c 0 [P,g,h,i]) λj=>∃ad:aj,j.cell? c=some (.bool ad)/\∃D:U,j.cell? (Addr.add c 1)=some (.slice D.a D.len D.cap)/\∃E:U,j.cell? (Addr.add c 2)=some (.slice E.a E.len E.cap)/\∃F:U,j.cell? (Addr.add c 3)=some (.slice F.a F.len F.cap)/\Q (.tuple #[.agg #[ad,D,E,F],true]) j))
theorem kF{lo pa d aD W:Nat}{key X u r af ag ai:U}{w b5:J}{a b:aB}{s:Key}{bR b3 bJ C:Nat->Prop}{ax:O aa}(a6:b5.cell? pa=some (.bool a.leaf))
 (ar:Var b5 d [a.leaf,X,u,r] 202) (ay:Var b5 aD [b.leaf,af,ag,ai] 202)
 (j:e3 lo b5 a X u r bR b3 bJ) (a7:bz C b5 b af ag ai) (g:∀q,C q->lo<=q/\q<b5.heap.size/\q≠d/\q≠aD/\¬bR q/\¬b3 q/\¬bJ q) (F:∀q,bR q\/b3 q\/bJ q->q≠d/\q≠aD) (a8:lo<=d) (lb:lo<=aD) (aj:d≠aD)
 (a9:Var b5 W ax 202) (a_:ax.length=4) (bF:W<lo) (ba:w.heap.size<=W) (x:Src 1 b5 key (aF s)) (bG:s.length<=1000) (bb:Ext w b5) (hs:cF (dU a s b)) (aC:a.leaf=b.leaf) (sa:cF a) (sb:cF b)
 (bS:a.keys.length<=10000) (bp:b.keys.length<=10000):Bp pa d aD W key b5 (oJ (dU a s b) w):=by
 unfold Bp;have bH:=ar.lt;have bI:=ay.lt;have aE:∀ {n:aB},cF n->n.keys.length<=10000->n.vals.length<=10000/\n.kids.length<=10001:=λ{n} h1 f=>by
  rcases h1 with h1|h1
  .rw[h1.len,h1.kids];exact⟨f,cE _⟩
  .rw[h1.len,h1.vals];exact⟨cE _,I⟩
 obtain⟨bK,bL⟩:=aE sa bS;obtain⟨l6,bM⟩:=aE sb bp;have aG:hZ lo b5 d a X u r bR b3 bJ:=⟨ar,j.keys,j.vals,j.kids,λq c=>⟨(j.bj q c).1,(j.bj q c).2.1,(F q (.inl c)).1,(j.bj q c).2.2⟩,λq c=>⟨(j.bv q c).1,(j.bv q c).2.1,(F q (.inr (.inl c))).1,(j.bv q c).2.2⟩,λq c=>⟨(j.aI q c).1,(j.aI q c).2,(F q (.inr (.inr c))).1⟩,a8⟩;refine hL (λw'=>∃ (K:U) (Y:Nat->Prop),hZ lo w' d ⟨a.leaf,if a.leaf then a.keys else a.keys++ [s],a.vals,a.kids⟩ K u r Y b3 bJ/\ab (λq=>q=d\/bR q) b5 w'/\(∀q,Y q->bR q\/b5.heap.size<=q)) (λq c=>⟨_,a6,λy=>?_,λy=>c _ ⟨X,bR,?_,.refl _ _,λq h=>.inl h⟩⟩) ?_
 .have y:a.leaf=false:=by simpa using y
  refine xY aG x I I λw' bc Y h1 f H=>c _ ⟨bc,Y,?_,f,H⟩;rw[if_neg (by rw[y];simp)];exact h1
 .have y:a.leaf=true:=by simpa using y
  rw[if_pos y];exact aG
 rintro w1 ⟨db,ak,h1,L,aH⟩;have bN:=L.size;have aJ:=ay.ad L (by
  rintro(h|h)
  .exact aj h.symm
  .exact(F _ (.inl h)).2 rfl)
 have aL:=a7.ad L λq c h=>by
  have:=g q c;rcases h with h|h
  .exact this.2.2.1 h
  .exact this.2.2.2.2.1 h
 have bd:=a9.ad L (by
  rintro(h|h)
  .omega
  .have:=(j.bj _ h).1;omega)
 have be:Ext w w1:=Ext.dd bb L λq c=>by
  rcases c with h|h
  .omega
  .have:=(j.bj _ h).1;omega
 obtain⟨M,Z⟩:∃l,l=(if a.leaf then a.keys else a.keys++ [s]):=⟨_,rfl⟩;rw[←Z]at h1;have bO:M.length<=10001:=by
  rw[Z];split
  .omega
  .rw[cx];simp;omega
 obtain⟨bU,aA,aR,aK⟩:=bC h1.v;obtain⟨d0,d1,d2,d3⟩:=bC aJ;have z:∀q,az db q->ak q:=λk x=>by obtain⟨ts,_,_,H,_⟩:=h1.keys;exact(H k x).1
 have al:∀q,az u q->b3 q:=λk x=>by obtain⟨ts,_,_,H,_⟩:=h1.vals;exact(H k x).1
 have aM:∀q,az r q->bJ q:=λk x=>(h1.kids.2 k x).1;have aN:∀q,C q->¬az db q:=λq c h=>by
  rcases aH q (z q h) with f|f
  .exact(g q c).2.2.2.2.1 f
  .have:=(g q c).2.1;omega
 obtain⟨m,ah,N,P,t⟩:=x1 h1.keys aL.keys aN (by show M.length<=_;omega) I;have aO:=h1.v.ad t λh=>(h1.bj _ (z _ h)).2.2.1 rfl;obtain⟨R,S⟩:=dF aO (i:=1) (by simp);refine⟨db,aA,af,d1,m,ah,N,?_⟩;rw[aw,aw];refine⟨R,S,aS ?_⟩;obtain⟨o,am⟩:∃o,o=ah.setCell ⟨d,0+1,none⟩ m:=⟨_,rfl⟩;rw[←am];have aP:ab (λq=>q=d) ah o:=by rw[am];exact dp _ _ _ _
 have aQ:Var o d [a.leaf,m,u,r] 202:=by rw[am];exact dM aO _
 have eI:ab (λq=>q=d\/az db q) w1 o:=(t.mono λq _ h=>.inr h).trans (aP.mono λq _ h=>.inl h);have aT:=aJ.ad eI (by
  rintro(h|h)
  .exact aj h.symm
  .rcases aH _ (z _ h) with f|f
   .exact(F _ (.inl f)).2 rfl
   .omega)
 have aU:=aL.ad eI λq c h=>by
  rcases h with h|h
  .exact(g q c).2.2.1 h
  .exact aN q c h
 have bf:=bn.ad h1.vals eI λq c h=>by
  rcases h with h|h
  .exact(h1.bv q c).2.2.1 h
  .exact(h1.bj q (z q h)).2.2.2.1 c
 have bg:=cQ.ad h1.kids eI λq c h=>by
  rcases h with h|h
  .exact(h1.aI q c).2.2 h
  .exact(h1.bj q (z q h)).2.2.2.2 c
 have bh:=bd.ad eI (by
  rintro(h|h)
  .omega
  .have:=(h1.bj _ (z _ h)).1;omega)
 have bi:Ext w o:=Ext.dd be eI λq c=>by
  rcases c with h|h
  .omega
  .have:=(h1.bj _ (z _ h)).1;omega
 have bk:bl (λq=>(ak q\/C q\/w1.heap.size<=q)/\q≠d) o m (M++b.keys):=by
  have an:bl (λq=>(ak q\/C q\/w1.heap.size<=q)/\q≠d) ah m (M++b.keys):=bl.aW P λq _ c=>⟨c,by
   rcases c with h|h|h
   .exact(h1.bj _ h).2.2.1
   .exact(g _ h).2.2.1
   .omega⟩
  exact bl.ad an aP λq c h=>c.2 h
 obtain⟨bU,aA,aR,aK⟩:=bC aQ;obtain⟨d0,d1,d2,d3⟩:=bC aT;have bP:=eI.size
 obtain⟨bW,ac,N,P,t⟩:=x1 bf aU.vals (λq c h=>(g q c).2.2.2.2.2.1 (al q h)) (by show a.vals.length<=_;omega) I;have aV:=aQ.ad t λh=>(h1.bv _ (al _ h)).2.2.1 rfl;obtain⟨R,S⟩:=dF aV (i:=2) (by simp);rw[aw]at aR d2;refine⟨u,aR,ag,d2,bW,ac,N,?_⟩;rw[aw,aw];refine⟨R,S,aS ?_⟩;obtain⟨p,ao⟩:∃p,p=ac.setCell ⟨d,0+2,none⟩ bW:=⟨_,rfl⟩;rw[←ao];have aX:ab (λq=>q=d) ac p:=by rw[ao];exact dp _ _ _ _
 have aY:Var p d [a.leaf,m,bW,r] 202:=by rw[ao];exact dM aV _
 have A:ab (λq=>q=d\/b3 q) o p:=(t.mono λq _ h=>.inr (al q h)).trans (aX.mono λq _ h=>.inl h);have bm:=aT.ad A (by
  rintro(h|h)
  .exact aj h.symm
  .exact(F _ (.inr (.inl h))).2 rfl)
 have bo:=aU.ad A λq c h=>by
  rcases h with h|h
  .exact(g q c).2.2.1 h
  .exact(g q c).2.2.2.2.2.1 h
 have bq:=bl.ad bk A λq c h=>by
  rcases h with h|h
  .exact c.2 h
  .rcases c.1 with f|f|f
   .exact(h1.bj _ f).2.2.2.1 h
   .exact(g _ f).2.2.2.2.2.1 h
   .have:=(h1.bv _ h).2.1;omega
 have br:=cQ.ad bg A λq c h=>by
  rcases h with h|h
  .exact(h1.aI q c).2.2 h
  .exact(h1.bv q h).2.2.2 c
 have bs:=bh.ad A (by
  rintro(h|h)
  .omega
  .have:=(h1.bv _ h).1;omega)
 have bt:Ext w p:=Ext.dd bi A λq c=>by
  rcases c with h|h
  .omega
  .have:=(h1.bv _ h).1;omega
 have bu:bl (λq=>(b3 q\/C q\/o.heap.size<=q)/\q≠d) p bW (a.vals++b.vals):=by
  have an:bl (λq=>(b3 q\/C q\/o.heap.size<=q)/\q≠d) ac bW (a.vals++b.vals):=bl.aW P λq _ c=>⟨c,by
   rcases c with h|h|h
   .exact(h1.bv _ h).2.2.1
   .exact(g _ h).2.2.1
   .omega⟩
  exact bl.ad an aX λq c h=>c.2 h
 obtain⟨bU,aA,aR,aK⟩:=bC aY;obtain⟨d0,d1,d2,d3⟩:=bC bm;have bQ:=A.size
 obtain⟨fx,ap,N,P,t⟩:=Bo br bo.kids (by show a.kids.length<=_;omega) I;have aZ:=aY.ad t λh=>(h1.aI _ (aM _ h)).2.2 rfl;obtain⟨R,S⟩:=dF aZ (i:=3) (by simp);rw[aw]at aK d3;refine⟨r,aK,ai,d3,fx,ap,N,?_⟩;rw[aw,aw];refine⟨R,S,aS ?_⟩;obtain⟨E,aq⟩:∃E,E=ap.setCell ⟨d,0+3,none⟩ fx:=⟨_,rfl⟩;rw[←aq];have a0:ab (λq=>q=d) ap E:=by rw[aq];exact dp _ _ _ _
 have a1:Var E d [a.leaf,m,bW,fx] 202:=by rw[aq];exact dM aZ _
 have T:ab (λq=>q=d\/bJ q) p E:=(t.mono λq _ h=>.inr (aM q h)).trans (a0.mono λq _ h=>.inl h);have bw:=bl.ad bq T λq c h=>by
  rcases h with h|h
  .exact c.2 h
  .rcases c.1 with f|f|f
   .exact(h1.bj _ f).2.2.2.2 h
   .exact(g _ f).2.2.2.2.2.2 h
   .have:=(h1.aI _ h).2.1;omega
 have bx:=bl.ad bu T λq c h=>by
  rcases h with h|h
  .exact c.2 h
  .rcases c.1 with f|f|f
   .exact(h1.bv _ f).2.2.2 h
   .exact(g _ f).2.2.2.2.2.2 h
   .have:=(h1.aI _ h).2.1;omega
 have bA:=bs.ad T (by
  rintro(h|h)
  .omega
  .have:=(h1.aI _ h).1;omega)
 have bB:Ext w E:=Ext.dd bt T λq c=>by
  rcases c with h|h
  .omega
  .have:=(h1.aI _ h).1;omega
 have bT:=T.size;have a2:bz (λq=>lo<=q) E (dU a s b) m bW fx:=by
  have jd:dU a s b=⟨a.leaf,M++b.keys,a.vals++b.vals,a.kids++b.kids⟩:=by
   unfold dU
   cases G:a.leaf with
   |true=>
    have au:a.kids=[]:=by
     rcases sa with h|h
     .exact h.kids
     .have:=h.inner;rw[G]at this;cases this
    have kb:b.kids=[]:=by
     rcases sb with h|h
     .exact h.kids
     .have:=h.inner;rw[←aC,G]at this;cases this
    rw[Z,G,au,kb];simp
   |false=>
    have au:a.vals=[]:=by
     rcases sa with h|h
     .have:=h.leaf;rw[G]at this;cases this
     .exact h.vals
    have kb:b.vals=[]:=by
     rcases sb with h|h
     .have:=h.leaf;rw[←aC,G]at this;cases this
     .exact h.vals
    rw[Z,G,au,kb];simp
  rw[jd];refine⟨bl.aW bw λq _ c=>?_,bl.aW bx λq _ c=>?_,cI.aW (cI.ad (B:=λq=>(bJ q\/C q\/p.heap.size<=q)/\q≠d) (cI.aW P λq _ c=>⟨c,?_⟩) a0 λq c h=>c.2 h) λq _ c=>?_⟩
  .rcases c.1 with h|h|h
   .exact(h1.bj _ h).1
   .exact(g _ h).1
   .omega
  .rcases c.1 with h|h|h
   .exact(h1.bv _ h).1
   .exact(g _ h).1
   .omega
  .rcases c with h|h|h
   .exact(h1.aI _ h).2.2
   .exact(g _ h).2.2.1
   .omega
  .rcases c.1 with h|h|h
   .exact(h1.aI _ h).1
   .exact(g _ h).1
   .omega
 obtain⟨bU,aA,aR,aK⟩:=bC a1;rw[aw]at aA aR aK;have bV:(dU a s b).keys.length<=20001:=by
  unfold dU;split
  .show(a.keys++b.keys).length<=_;rw[cx];omega
  .show(a.keys++s::b.keys).length<=_;rw[cx,eU];omega
 have bX:(dU a s b).vals.length<=20001:=by
  unfold dU;split
  .show(a.vals++b.vals).length<=_;rw[cx];omega
  .simp
 have bY:(dU a s b).kids.length<=20002:=by
  unfold dU;split
  .simp
  .show(a.kids++b.kids).length<=_;rw[cx];omega
 have a3:(dU a s b).leaf=a.leaf:=AR
 repeat rw[aw]
 refine⟨_,bU,m,aA,bW,aR,fx,aK,?_⟩;have av:=j3 a2 I I I;unfold cX at av;rw[a3]at av;refine av.use ?_;rintro _ bZ ⟨b0,rfl,bD,ae⟩;have:=bD.2 hs;subst this;obtain⟨bU,aA,aR,aK⟩:=bC (a1.ext ae);rw[aw]at aA aR aK;have a4:=jb a.leaf m bW fx (bA.ext ae) a_ (Q:=λbE K V D ah=>oJ (dU a s b) w (.tuple #[.agg #[bE,K,V,D],true]) ah) λb1 a5=>⟨m,bW,fx,by unfold cX;rw[a3],((a2.ext ae).ad a5 λq c e=>I).aW λq _ c=>I,Ext.cu (bB.trans ae) a5 ba⟩
 repeat rw[aw]at a4
 exact⟨true,rfl,λh=>(by cases h),λ_=>⟨_,bU,m,aA,bW,aR,fx,aK,a4⟩⟩
theorem oq{bd be:Nat->Prop}{w:J}{a b:aB}{aL aM aN aO aQ aT key:U}{s:Key}(a6:bz bd w a aL aM aN)(a7:bz be w b aO aQ aT)(aE:Src 1 w key (aF s))(Z:∀q,az key q->q<w.heap.size)(aa:s.length<=1000)(sa:cF a)(sb:cF b)(W:a.leaf=b.leaf)(hs:cF (dU a s b))
 (bS:a.keys.length<=10000) (bp:b.keys.length<=10000):
 aP ai 282 #[cX a aL aM aN,key,cX b aO aQ aT] w (oJ (dU a s b) w):=by
 have a8:∀ {n:aB},cF n->n.keys.length<=10000->n.vals.length<=10000/\n.kids.length<=10001:=λ{n} h1 Q=>by
  rcases h1 with h1|h1
  .rw[h1.len,h1.kids];exact⟨Q,cE _⟩
  .rw[h1.len,h1.vals];exact⟨cE _,I⟩
 obtain⟨bq,br⟩:=a8 sa bS;obtain⟨l6,bs⟩:=a8 sb bp;have aY:∀k∈a.keys,k.length<=100000:=λk aE=>by have:=(sa.keys.ok k aE).2;omega
 have aj:∀k∈b.keys,k.length<=100000:=λk aE=>by have:=(sb.keys.ok k aE).2;omega
 have aZ:∀k∈a.vals,k.length<=100000:=λk aE=>by have:=sa.vals k aE;omega
 have al:∀k∈b.vals,k.length<=100000:=λk aE=>by have:=sb.vals k aE;omega
 refine okF (af.oq a.leaf aL aM aN key b.leaf aO aQ aT) ay.oq func282 ?_;(delta af.oq cp bc Y ag aK pH ak iZ ry gv bL ba tC st rv n1;dsimp only);refine bh (vs:=[a.leaf,aL,aM,aN]) rfl λw1 a4 bf bt=>?_;refine bh (vs:=[b.leaf,aO,aQ,aT]) rfl λah a5 a2 bu=>?_;refine bh (vs:=[false,(),(),()]) rfl λbg bi aU bw=>?_;have a9:=bf.trans (a2.trans aU);obtain⟨bU,aA,aR,aK⟩:=bC (a4.ext (a2.trans aU));refine⟨_,bU,aL,aA,aM,aR,aN,aK,(j3 (a6.ext a9) I I I).use ?_⟩;rintro _ bk ⟨b9,rfl,bl,aJ⟩;have:=bl.2 sa;subst this;have a_:=a9.trans aJ;obtain⟨d0,d1,d2,d3⟩:=bC (a5.ext (aU.trans aJ));refine⟨true,rfl,cm (λb w'=>b=false/\Ext bk w') (λq c=>⟨λh=>(by cases h),λ_=>⟨_,d0,aO,d1,aQ,d2,aT,d3,(j3 (a7.ext a_) I I I).use ?_⟩⟩) ?_⟩
 .rintro _ a3 ⟨bQ,rfl,bm,aG⟩
  have:=bm.2 sb;subst this;exact⟨true,rfl,c _ _ ⟨rfl,aG⟩⟩
 rintro _ a3 ⟨rfl,aG⟩;have bn:=a_.trans aG;obtain⟨bU,aA,aR,aK⟩:=bC (a4.ext (a2.trans (aU.trans (aJ.trans aG))));obtain⟨d0,d1,d2,d3⟩:=bC (a5.ext (aU.trans (aJ.trans aG)));refine cm (λb w'=>b=false/\a3=w') (λq c=>⟨λh=>(by cases h),λ_=>⟨_,bU,_,d0,c _ _ ⟨by rw[W];simp,rfl⟩⟩⟩) ?_;rintro _ _ ⟨rfl,rfl⟩;have a0:=b6 a3;have bb:=bn.trans a0;obtain⟨P,aV⟩:∃P,P=a3.drew:=⟨_,rfl⟩;have X:Var P w.heap.size [a.leaf,aL,aM,aN] 202:=by rw[aV];exact(a4.ext (a2.trans (aU.trans (aJ.trans aG)))).ext a0
 have bo:Var P w1.heap.size [b.leaf,aO,aQ,aT] 202:=by rw[aV];exact(a5.ext (aU.trans (aJ.trans aG))).ext a0
 have ac:Var P ah.heap.size [false,(),(),()] 202:=by rw[aV];exact(bi.ext (aJ.trans aG)).ext a0
 have O:Ext w P:=by rw[aV];exact bb
 have bx:bg.heap.size<=P.heap.size:=by rw[aV];exact(aJ.trans aG).size
 have a1:=a6.ext O;have am:=a7.ext O;have ae:=aE.ext O;obtain⟨lo,bA⟩:∃lo,lo=P.heap.size:=⟨_,rfl⟩;rw[←aV];clear bU aA aR aK d0 d1 d2 d3 aV bb a0;obtain⟨bU,aA,aR,aK⟩:=bC X;obtain⟨d0,d1,d2,d3⟩:=bC bo;refine⟨λh=>(by cases h),λ_=>aS ⟨λ_=>False,id,_,bU,aL,aA,aM,aR,aN,aK,id,_,d0,aO,d1,aQ,d2,aT,d3,?_⟩⟩;refine⟨?_,?_,?_⟩
 .refine(eN a1 I I I aY aZ).use ?_
  rintro _ K ⟨F,G,H,L,M,N,rfl,d,au⟩;refine⟨_,F,G,H,rfl,au,?_⟩;have s1:=au.size;refine⟨?_,?_,?_⟩
  .refine(eN (am.ext au) I I I aj al).use ?_
   rintro _ v ⟨p,r,t,aw,ax,aC,rfl,V,i⟩;refine⟨_,p,r,t,rfl,i,?_⟩;have s2:=i.size;refine⟨?_,?_⟩
   .refine bh (vs:=[false,(),(),()]) rfl λu an g z3=>⟨g,?_⟩
    have ao:=g.size;refine bh (vs:=[false,(),(),()]) rfl λx ap f z4=>⟨f,?_⟩;have aq:=f.size;have y:=an.ext f;have R:=ap;refine⟨y.cc rfl (fI _ _ _ _),rfl,cy y (us:=[a.leaf,F,G,H]) rfl rfl λar z ba t5=>?_⟩;have A:=R.ad ba I;refine⟨A.cc rfl (fI _ _ _ _),rfl,cy A (us:=[b.leaf,p,r,t]) rfl rfl λl B b8 t6=>?_⟩;obtain⟨o,D⟩:∃o,o=v.heap.size:=⟨_,rfl⟩;obtain⟨aD,E⟩:∃aD,aD=u.heap.size:=⟨_,rfl⟩;rw[←D]at z ba;rw[←E]at B b8;rw[←D,←E];have j:ab (λq=>q=o\/q=aD) x l:=(ba.mono λq _ h=>.inl h).trans (b8.mono λq _ h=>.inr h);have S:e3 lo l a F G H L M N:=(((d.ext (i.trans (g.trans (f)))).ad j λq _ _ c e=>by have av:P.heap.size<=q/\q<K.heap.size:=(by rcases c with c|c|c;exact⟨(d.bj q c).1,(d.bj q c).2.1⟩;exact⟨(d.bv q c).1,(d.bv q c).2.1⟩;exact d.aI q c);omega).low I);have T:bz (λq=>K.heap.size<=q/\q<v.heap.size) l b p r t:=((V.at.aW λq h1 Q=>⟨Q,h1⟩).ext (g.trans (f))).ad j λq c e=>by omega
    have m:∀q,L q\/M q\/N q->P.heap.size<=q/\q<K.heap.size:=λq c=>by
     rcases c with c|c|c
     .exact⟨(d.bj q c).1,(d.bj q c).2.1⟩
     .exact⟨(d.bv q c).1,(d.bv q c).2.1⟩
     .exact d.aI q c
    exact kF (lo:=lo) (b5:=l) (C:=λq=>K.heap.size<=q/\q<v.heap.size) ((X.ext (au.trans (i.trans (g.trans f)))).ad j I).cell (z.ad b8 I) B S T (λq c=>⟨I,I,I,I,λh=>(by have:=m q (.inl h);omega),λh=>(by have:=m q (.inr (.inl h));omega),λh=>(by have:=m q (.inr (.inr h));omega)⟩) (λq c=>(by have:=m q c;exact⟨I,I⟩)) I I I ((ac.ext (au.trans (i.trans (g.trans f)))).ad j I) rfl I I ((ae.ext (au.trans (i.trans (g.trans f)))).ad j λq c e=>(by have:=Z q c;have:=O.size;omega)) aa (Ext.dd (O.trans (au.trans (i.trans (g.trans f)))) j λq c=>I) hs W sa sb bS bp
   .refine bh (vs:=[false,(),(),()]) rfl λu an g z3=>⟨g,?_⟩
    have ao:=g.size;refine bh (vs:=[false,(),(),()]) rfl λx ap f z4=>⟨f,?_⟩;have aq:=f.size;have y:=ap;have R:=an.ext f;refine⟨y.cc rfl (fI _ _ _ _),rfl,cy y (us:=[a.leaf,F,G,H]) rfl rfl λar z ba t5=>?_⟩;have A:=R.ad ba I;refine⟨A.cc rfl (fI _ _ _ _),rfl,cy A (us:=[b.leaf,p,r,t]) rfl rfl λl B b8 t6=>?_⟩;obtain⟨o,D⟩:∃o,o=u.heap.size:=⟨_,rfl⟩;obtain⟨aD,E⟩:∃aD,aD=v.heap.size:=⟨_,rfl⟩;rw[←D]at z ba;rw[←E]at B b8;rw[←D,←E];have j:ab (λq=>q=o\/q=aD) x l:=(ba.mono λq _ h=>.inl h).trans (b8.mono λq _ h=>.inr h);have S:e3 lo l a F G H L M N:=(((d.ext (i.trans (g.trans (f)))).ad j λq _ _ c e=>by have av:P.heap.size<=q/\q<K.heap.size:=(by rcases c with c|c|c;exact⟨(d.bj q c).1,(d.bj q c).2.1⟩;exact⟨(d.bv q c).1,(d.bv q c).2.1⟩;exact d.aI q c);omega).low I);have T:bz (λq=>K.heap.size<=q/\q<v.heap.size) l b p r t:=((V.at.aW λq h1 Q=>⟨Q,h1⟩).ext (g.trans (f))).ad j λq c e=>by omega
    have m:∀q,L q\/M q\/N q->P.heap.size<=q/\q<K.heap.size:=λq c=>by
     rcases c with c|c|c
     .exact⟨(d.bj q c).1,(d.bj q c).2.1⟩
     .exact⟨(d.bv q c).1,(d.bv q c).2.1⟩
     .exact d.aI q c
    exact kF (lo:=lo) (b5:=l) (C:=λq=>K.heap.size<=q/\q<v.heap.size) ((X.ext (au.trans (i.trans (g.trans f)))).ad j I).cell (z.ad b8 I) B S T (λq c=>⟨I,I,I,I,λh=>(by have:=m q (.inl h);omega),λh=>(by have:=m q (.inr (.inl h));omega),λh=>(by have:=m q (.inr (.inr h));omega)⟩) (λq c=>(by have:=m q c;exact⟨I,I⟩)) I I I ((ac.ext (au.trans (i.trans (g.trans f)))).ad j I) rfl I I ((ae.ext (au.trans (i.trans (g.trans f)))).ad j λq c e=>(by have:=Z q c;have:=O.size;omega)) aa (Ext.dd (O.trans (au.trans (i.trans (g.trans f)))) j λq c=>I) hs W sa sb bS bp
  .refine bh (vs:=[false,(),(),()]) rfl λv aH i cp=>⟨i,?_⟩
   have s2:=i.size;refine⟨?_,?_⟩
   .refine(eN (am.ext (au.trans (i))) I I I aj al).use ?_
    rintro _ u ⟨p,r,t,aw,ax,aC,rfl,V,g⟩;refine⟨_,p,r,t,rfl,g,?_⟩;have ao:=g.size;refine bh (vs:=[false,(),(),()]) rfl λx ap f z4=>⟨f,?_⟩;have aq:=f.size;have y:=aH.ext (g.trans (f));have R:=ap;refine⟨y.cc rfl (fI _ _ _ _),rfl,cy y (us:=[a.leaf,F,G,H]) rfl rfl λar z ba t5=>?_⟩;have A:=R.ad ba I;refine⟨A.cc rfl (fI _ _ _ _),rfl,cy A (us:=[b.leaf,p,r,t]) rfl rfl λl B b8 t6=>?_⟩;obtain⟨o,D⟩:∃o,o=K.heap.size:=⟨_,rfl⟩;obtain⟨aD,E⟩:∃aD,aD=u.heap.size:=⟨_,rfl⟩;rw[←D]at z ba;rw[←E]at B b8;rw[←D,←E];have j:ab (λq=>q=o\/q=aD) x l:=(ba.mono λq _ h=>.inl h).trans (b8.mono λq _ h=>.inr h);have S:e3 lo l a F G H L M N:=(((d.ext (i.trans (g.trans (f)))).ad j λq _ _ c e=>by have av:P.heap.size<=q/\q<K.heap.size:=(by rcases c with c|c|c;exact⟨(d.bj q c).1,(d.bj q c).2.1⟩;exact⟨(d.bv q c).1,(d.bv q c).2.1⟩;exact d.aI q c);omega).low I);have T:bz (λq=>v.heap.size<=q/\q<u.heap.size) l b p r t:=((V.at.aW λq h1 Q=>⟨Q,h1⟩).ext f).ad j λq c e=>by omega
    have m:∀q,L q\/M q\/N q->P.heap.size<=q/\q<K.heap.size:=λq c=>by
     rcases c with c|c|c
     .exact⟨(d.bj q c).1,(d.bj q c).2.1⟩
     .exact⟨(d.bv q c).1,(d.bv q c).2.1⟩
     .exact d.aI q c
    exact kF (lo:=lo) (b5:=l) (C:=λq=>v.heap.size<=q/\q<u.heap.size) ((X.ext (au.trans (i.trans (g.trans f)))).ad j I).cell (z.ad b8 I) B S T (λq c=>⟨I,I,I,I,λh=>(by have:=m q (.inl h);omega),λh=>(by have:=m q (.inr (.inl h));omega),λh=>(by have:=m q (.inr (.inr h));omega)⟩) (λq c=>(by have:=m q c;exact⟨I,I⟩)) I I I ((ac.ext (au.trans (i.trans (g.trans f)))).ad j I) rfl I I ((ae.ext (au.trans (i.trans (g.trans f)))).ad j λq c e=>(by have:=Z q c;have:=O.size;omega)) aa (Ext.dd (O.trans (au.trans (i.trans (g.trans f)))) j λq c=>I) hs W sa sb bS bp
   .refine bh (vs:=[false,(),(),()]) rfl λu an g z3=>⟨g,?_⟩
    have ao:=g.size;refine(eN (am.ext (au.trans (i.trans (g)))) I I I aj al).use ?_;rintro _ x ⟨p,r,t,aw,ax,aC,rfl,V,f⟩;refine⟨_,p,r,t,rfl,f,?_⟩;have aq:=f.size;have y:=aH.ext (g.trans (f));have R:=an.ext f;refine⟨y.cc rfl (fI _ _ _ _),rfl,cy y (us:=[a.leaf,F,G,H]) rfl rfl λar z ba t5=>?_⟩;have A:=R.ad ba I;refine⟨A.cc rfl (fI _ _ _ _),rfl,cy A (us:=[b.leaf,p,r,t]) rfl rfl λl B b8 t6=>?_⟩;obtain⟨o,D⟩:∃o,o=K.heap.size:=⟨_,rfl⟩;obtain⟨aD,E⟩:∃aD,aD=v.heap.size:=⟨_,rfl⟩;rw[←D]at z ba;rw[←E]at B b8;rw[←D,←E];have j:ab (λq=>q=o\/q=aD) x l:=(ba.mono λq _ h=>.inl h).trans (b8.mono λq _ h=>.inr h);have S:e3 lo l a F G H L M N:=(((d.ext (i.trans (g.trans (f)))).ad j λq _ _ c e=>by have av:P.heap.size<=q/\q<K.heap.size:=(by rcases c with c|c|c;exact⟨(d.bj q c).1,(d.bj q c).2.1⟩;exact⟨(d.bv q c).1,(d.bv q c).2.1⟩;exact d.aI q c);omega).low I);have T:bz (λq=>u.heap.size<=q/\q<x.heap.size) l b p r t:=(V.at.aW λq h1 Q=>⟨Q,h1⟩).ad j λq c e=>by omega
    have m:∀q,L q\/M q\/N q->P.heap.size<=q/\q<K.heap.size:=λq c=>by
     rcases c with c|c|c
     .exact⟨(d.bj q c).1,(d.bj q c).2.1⟩
     .exact⟨(d.bv q c).1,(d.bv q c).2.1⟩
     .exact d.aI q c
    exact kF (lo:=lo) (b5:=l) (C:=λq=>u.heap.size<=q/\q<x.heap.size) ((X.ext (au.trans (i.trans (g.trans f)))).ad j I).cell (z.ad b8 I) B S T (λq c=>⟨I,I,I,I,λh=>(by have:=m q (.inl h);omega),λh=>(by have:=m q (.inr (.inl h));omega),λh=>(by have:=m q (.inr (.inr h));omega)⟩) (λq c=>(by have:=m q c;exact⟨I,I⟩)) I I I ((ac.ext (au.trans (i.trans (g.trans f)))).ad j I) rfl I I ((ae.ext (au.trans (i.trans (g.trans f)))).ad j λq c e=>(by have:=Z q c;have:=O.size;omega)) aa (Ext.dd (O.trans (au.trans (i.trans (g.trans f)))) j λq c=>I) hs W sa sb bS bp
  .refine bh (vs:=[false,(),(),()]) rfl λv aH i cp=>⟨i,?_⟩
   have s2:=i.size;refine⟨?_,?_⟩
   .refine(eN (am.ext (au.trans (i))) I I I aj al).use ?_
    rintro _ u ⟨p,r,t,aw,ax,aC,rfl,V,g⟩;refine⟨_,p,r,t,rfl,g,?_⟩;have ao:=g.size;refine bh (vs:=[false,(),(),()]) rfl λx ap f z4=>⟨f,?_⟩;have aq:=f.size;have y:=ap;have R:=aH.ext (g.trans (f));refine⟨y.cc rfl (fI _ _ _ _),rfl,cy y (us:=[a.leaf,F,G,H]) rfl rfl λar z ba t5=>?_⟩;have A:=R.ad ba I;refine⟨A.cc rfl (fI _ _ _ _),rfl,cy A (us:=[b.leaf,p,r,t]) rfl rfl λl B b8 t6=>?_⟩;obtain⟨o,D⟩:∃o,o=u.heap.size:=⟨_,rfl⟩;obtain⟨aD,E⟩:∃aD,aD=K.heap.size:=⟨_,rfl⟩;rw[←D]at z ba;rw[←E]at B b8;rw[←D,←E];have j:ab (λq=>q=o\/q=aD) x l:=(ba.mono λq _ h=>.inl h).trans (b8.mono λq _ h=>.inr h);have S:e3 lo l a F G H L M N:=(((d.ext (i.trans (g.trans (f)))).ad j λq _ _ c e=>by have av:P.heap.size<=q/\q<K.heap.size:=(by rcases c with c|c|c;exact⟨(d.bj q c).1,(d.bj q c).2.1⟩;exact⟨(d.bv q c).1,(d.bv q c).2.1⟩;exact d.aI q c);omega).low I);have T:bz (λq=>v.heap.size<=q/\q<u.heap.size) l b p r t:=((V.at.aW λq h1 Q=>⟨Q,h1⟩).ext f).ad j λq c e=>by omega
    have m:∀q,L q\/M q\/N q->P.heap.size<=q/\q<K.heap.size:=λq c=>by
     rcases c with c|c|c
     .exact⟨(d.bj q c).1,(d.bj q c).2.1⟩
     .exact⟨(d.bv q c).1,(d.bv q c).2.1⟩
     .exact d.aI q c
    exact kF (lo:=lo) (b5:=l) (C:=λq=>v.heap.size<=q/\q<u.heap.size) ((X.ext (au.trans (i.trans (g.trans f)))).ad j I).cell (z.ad b8 I) B S T (λq c=>⟨I,I,I,I,λh=>(by have:=m q (.inl h);omega),λh=>(by have:=m q (.inr (.inl h));omega),λh=>(by have:=m q (.inr (.inr h));omega)⟩) (λq c=>(by have:=m q c;exact⟨I,I⟩)) I I I ((ac.ext (au.trans (i.trans (g.trans f)))).ad j I) rfl I I ((ae.ext (au.trans (i.trans (g.trans f)))).ad j λq c e=>(by have:=Z q c;have:=O.size;omega)) aa (Ext.dd (O.trans (au.trans (i.trans (g.trans f)))) j λq c=>I) hs W sa sb bS bp
   .refine bh (vs:=[false,(),(),()]) rfl λu an g z3=>⟨g,?_⟩
    have ao:=g.size;refine(eN (am.ext (au.trans (i.trans (g)))) I I I aj al).use ?_;rintro _ x ⟨p,r,t,aw,ax,aC,rfl,V,f⟩;refine⟨_,p,r,t,rfl,f,?_⟩;have aq:=f.size;have y:=an.ext f;have R:=aH.ext (g.trans (f));refine⟨y.cc rfl (fI _ _ _ _),rfl,cy y (us:=[a.leaf,F,G,H]) rfl rfl λar z ba t5=>?_⟩;have A:=R.ad ba I;refine⟨A.cc rfl (fI _ _ _ _),rfl,cy A (us:=[b.leaf,p,r,t]) rfl rfl λl B b8 t6=>?_⟩;obtain⟨o,D⟩:∃o,o=v.heap.size:=⟨_,rfl⟩;obtain⟨aD,E⟩:∃aD,aD=K.heap.size:=⟨_,rfl⟩;rw[←D]at z ba;rw[←E]at B b8;rw[←D,←E];have j:ab (λq=>q=o\/q=aD) x l:=(ba.mono λq _ h=>.inl h).trans (b8.mono λq _ h=>.inr h);have S:e3 lo l a F G H L M N:=(((d.ext (i.trans (g.trans (f)))).ad j λq _ _ c e=>by have av:P.heap.size<=q/\q<K.heap.size:=(by rcases c with c|c|c;exact⟨(d.bj q c).1,(d.bj q c).2.1⟩;exact⟨(d.bv q c).1,(d.bv q c).2.1⟩;exact d.aI q c);omega).low I);have T:bz (λq=>u.heap.size<=q/\q<x.heap.size) l b p r t:=(V.at.aW λq h1 Q=>⟨Q,h1⟩).ad j λq c e=>by omega
    have m:∀q,L q\/M q\/N q->P.heap.size<=q/\q<K.heap.size:=λq c=>by
     rcases c with c|c|c
     .exact⟨(d.bj q c).1,(d.bj q c).2.1⟩
     .exact⟨(d.bv q c).1,(d.bv q c).2.1⟩
     .exact d.aI q c
    exact kF (lo:=lo) (b5:=l) (C:=λq=>u.heap.size<=q/\q<x.heap.size) ((X.ext (au.trans (i.trans (g.trans f)))).ad j I).cell (z.ad b8 I) B S T (λq c=>⟨I,I,I,I,λh=>(by have:=m q (.inl h);omega),λh=>(by have:=m q (.inr (.inl h));omega),λh=>(by have:=m q (.inr (.inr h));omega)⟩) (λq c=>(by have:=m q c;exact⟨I,I⟩)) I I I ((ac.ext (au.trans (i.trans (g.trans f)))).ad j I) rfl I I ((ae.ext (au.trans (i.trans (g.trans f)))).ad j λq c e=>(by have:=Z q c;have:=O.size;omega)) aa (Ext.dd (O.trans (au.trans (i.trans (g.trans f)))) j λq c=>I) hs W sa sb bS bp
 .refine bh (vs:=[false,(),(),()]) rfl λK aX au g7=>⟨au,?_⟩
  have s1:=au.size;refine⟨?_,?_⟩
  .refine(eN (a1.ext au) I I I aY aZ).use ?_
   rintro _ v ⟨F,G,H,L,M,N,rfl,d,i⟩;refine⟨_,F,G,H,rfl,i,?_⟩;have s2:=i.size;refine⟨?_,?_⟩
   .refine(eN (am.ext (au.trans (i))) I I I aj al).use ?_
    rintro _ u ⟨p,r,t,aw,ax,aC,rfl,V,g⟩;refine⟨_,p,r,t,rfl,g,?_⟩;have ao:=g.size;refine bh (vs:=[false,(),(),()]) rfl λx ap f z4=>⟨f,?_⟩;have aq:=f.size;have y:=aX.ext (i.trans (g.trans (f)));have R:=ap;refine⟨y.cc rfl (fI _ _ _ _),rfl,cy y (us:=[a.leaf,F,G,H]) rfl rfl λar z ba t5=>?_⟩;have A:=R.ad ba I;refine⟨A.cc rfl (fI _ _ _ _),rfl,cy A (us:=[b.leaf,p,r,t]) rfl rfl λl B b8 t6=>?_⟩;obtain⟨o,D⟩:∃o,o=P.heap.size:=⟨_,rfl⟩;obtain⟨aD,E⟩:∃aD,aD=u.heap.size:=⟨_,rfl⟩;rw[←D]at z ba;rw[←E]at B b8;rw[←D,←E];have j:ab (λq=>q=o\/q=aD) x l:=(ba.mono λq _ h=>.inl h).trans (b8.mono λq _ h=>.inr h);have S:e3 lo l a F G H L M N:=(((d.ext (g.trans (f))).ad j λq _ _ c e=>by have av:K.heap.size<=q/\q<v.heap.size:=(by rcases c with c|c|c;exact⟨(d.bj q c).1,(d.bj q c).2.1⟩;exact⟨(d.bv q c).1,(d.bv q c).2.1⟩;exact d.aI q c);omega).low I);have T:bz (λq=>v.heap.size<=q/\q<u.heap.size) l b p r t:=((V.at.aW λq h1 Q=>⟨Q,h1⟩).ext f).ad j λq c e=>by omega
    have m:∀q,L q\/M q\/N q->K.heap.size<=q/\q<v.heap.size:=λq c=>by
     rcases c with c|c|c
     .exact⟨(d.bj q c).1,(d.bj q c).2.1⟩
     .exact⟨(d.bv q c).1,(d.bv q c).2.1⟩
     .exact d.aI q c
    exact kF (lo:=lo) (b5:=l) (C:=λq=>v.heap.size<=q/\q<u.heap.size) ((X.ext (au.trans (i.trans (g.trans f)))).ad j I).cell (z.ad b8 I) B S T (λq c=>⟨I,I,I,I,λh=>(by have:=m q (.inl h);omega),λh=>(by have:=m q (.inr (.inl h));omega),λh=>(by have:=m q (.inr (.inr h));omega)⟩) (λq c=>(by have:=m q c;exact⟨I,I⟩)) I I I ((ac.ext (au.trans (i.trans (g.trans f)))).ad j I) rfl I I ((ae.ext (au.trans (i.trans (g.trans f)))).ad j λq c e=>(by have:=Z q c;have:=O.size;omega)) aa (Ext.dd (O.trans (au.trans (i.trans (g.trans f)))) j λq c=>I) hs W sa sb bS bp
   .refine bh (vs:=[false,(),(),()]) rfl λu an g z3=>⟨g,?_⟩
    have ao:=g.size;refine(eN (am.ext (au.trans (i.trans (g)))) I I I aj al).use ?_;rintro _ x ⟨p,r,t,aw,ax,aC,rfl,V,f⟩;refine⟨_,p,r,t,rfl,f,?_⟩;have aq:=f.size;have y:=aX.ext (i.trans (g.trans (f)));have R:=an.ext f;refine⟨y.cc rfl (fI _ _ _ _),rfl,cy y (us:=[a.leaf,F,G,H]) rfl rfl λar z ba t5=>?_⟩;have A:=R.ad ba I;refine⟨A.cc rfl (fI _ _ _ _),rfl,cy A (us:=[b.leaf,p,r,t]) rfl rfl λl B b8 t6=>?_⟩;obtain⟨o,D⟩:∃o,o=P.heap.size:=⟨_,rfl⟩;obtain⟨aD,E⟩:∃aD,aD=v.heap.size:=⟨_,rfl⟩;rw[←D]at z ba;rw[←E]at B b8;rw[←D,←E];have j:ab (λq=>q=o\/q=aD) x l:=(ba.mono λq _ h=>.inl h).trans (b8.mono λq _ h=>.inr h);have S:e3 lo l a F G H L M N:=(((d.ext (g.trans (f))).ad j λq _ _ c e=>by have av:K.heap.size<=q/\q<v.heap.size:=(by rcases c with c|c|c;exact⟨(d.bj q c).1,(d.bj q c).2.1⟩;exact⟨(d.bv q c).1,(d.bv q c).2.1⟩;exact d.aI q c);omega).low I);have T:bz (λq=>u.heap.size<=q/\q<x.heap.size) l b p r t:=(V.at.aW λq h1 Q=>⟨Q,h1⟩).ad j λq c e=>by omega
    have m:∀q,L q\/M q\/N q->K.heap.size<=q/\q<v.heap.size:=λq c=>by
     rcases c with c|c|c
     .exact⟨(d.bj q c).1,(d.bj q c).2.1⟩
     .exact⟨(d.bv q c).1,(d.bv q c).2.1⟩
     .exact d.aI q c
    exact kF (lo:=lo) (b5:=l) (C:=λq=>u.heap.size<=q/\q<x.heap.size) ((X.ext (au.trans (i.trans (g.trans f)))).ad j I).cell (z.ad b8 I) B S T (λq c=>⟨I,I,I,I,λh=>(by have:=m q (.inl h);omega),λh=>(by have:=m q (.inr (.inl h));omega),λh=>(by have:=m q (.inr (.inr h));omega)⟩) (λq c=>(by have:=m q c;exact⟨I,I⟩)) I I I ((ac.ext (au.trans (i.trans (g.trans f)))).ad j I) rfl I I ((ae.ext (au.trans (i.trans (g.trans f)))).ad j λq c e=>(by have:=Z q c;have:=O.size;omega)) aa (Ext.dd (O.trans (au.trans (i.trans (g.trans f)))) j λq c=>I) hs W sa sb bS bp
  .refine bh (vs:=[false,(),(),()]) rfl λv aH i cp=>⟨i,?_⟩
   have s2:=i.size;refine(eN (a1.ext (au.trans (i))) I I I aY aZ).use ?_;rintro _ u ⟨F,G,H,L,M,N,rfl,d,g⟩;refine⟨_,F,G,H,rfl,g,?_⟩;have ao:=g.size;refine(eN (am.ext (au.trans (i.trans (g)))) I I I aj al).use ?_;rintro _ x ⟨p,r,t,aw,ax,aC,rfl,V,f⟩;refine⟨_,p,r,t,rfl,f,?_⟩;have aq:=f.size;have y:=aX.ext (i.trans (g.trans (f)));have R:=aH.ext (g.trans (f));refine⟨y.cc rfl (fI _ _ _ _),rfl,cy y (us:=[a.leaf,F,G,H]) rfl rfl λar z ba t5=>?_⟩;have A:=R.ad ba I;refine⟨A.cc rfl (fI _ _ _ _),rfl,cy A (us:=[b.leaf,p,r,t]) rfl rfl λl B b8 t6=>?_⟩;obtain⟨o,D⟩:∃o,o=P.heap.size:=⟨_,rfl⟩;obtain⟨aD,E⟩:∃aD,aD=K.heap.size:=⟨_,rfl⟩;rw[←D]at z ba;rw[←E]at B b8;rw[←D,←E];have j:ab (λq=>q=o\/q=aD) x l:=(ba.mono λq _ h=>.inl h).trans (b8.mono λq _ h=>.inr h);have S:e3 lo l a F G H L M N:=(((d.ext f).ad j λq _ _ c e=>by have av:v.heap.size<=q/\q<u.heap.size:=(by rcases c with c|c|c;exact⟨(d.bj q c).1,(d.bj q c).2.1⟩;exact⟨(d.bv q c).1,(d.bv q c).2.1⟩;exact d.aI q c);omega).low I);have T:bz (λq=>u.heap.size<=q/\q<x.heap.size) l b p r t:=(V.at.aW λq h1 Q=>⟨Q,h1⟩).ad j λq c e=>by omega
   have m:∀q,L q\/M q\/N q->v.heap.size<=q/\q<u.heap.size:=λq c=>by
    rcases c with c|c|c
    .exact⟨(d.bj q c).1,(d.bj q c).2.1⟩
    .exact⟨(d.bv q c).1,(d.bv q c).2.1⟩
    .exact d.aI q c
   exact kF (lo:=lo) (b5:=l) (C:=λq=>u.heap.size<=q/\q<x.heap.size) ((X.ext (au.trans (i.trans (g.trans f)))).ad j I).cell (z.ad b8 I) B S T (λq c=>⟨I,I,I,I,λh=>(by have:=m q (.inl h);omega),λh=>(by have:=m q (.inr (.inl h));omega),λh=>(by have:=m q (.inr (.inr h));omega)⟩) (λq c=>(by have:=m q c;exact⟨I,I⟩)) I I I ((ac.ext (au.trans (i.trans (g.trans f)))).ad j I) rfl I I ((ae.ext (au.trans (i.trans (g.trans f)))).ad j λq c e=>(by have:=Z q c;have:=O.size;omega)) aa (Ext.dd (O.trans (au.trans (i.trans (g.trans f)))) j λq c=>I) hs W sa sb bS bp
 .refine bh (vs:=[false,(),(),()]) rfl λK aX au g7=>⟨au,?_⟩
  have s1:=au.size;refine⟨?_,?_⟩
  .refine(eN (a1.ext au) I I I aY aZ).use ?_
   rintro _ v ⟨F,G,H,L,M,N,rfl,d,i⟩;refine⟨_,F,G,H,rfl,i,?_⟩;have s2:=i.size;refine⟨?_,?_⟩
   .refine(eN (am.ext (au.trans (i))) I I I aj al).use ?_
    rintro _ u ⟨p,r,t,aw,ax,aC,rfl,V,g⟩;refine⟨_,p,r,t,rfl,g,?_⟩;have ao:=g.size;refine bh (vs:=[false,(),(),()]) rfl λx ap f z4=>⟨f,?_⟩;have aq:=f.size;have y:=ap;have R:=aX.ext (i.trans (g.trans (f)));refine⟨y.cc rfl (fI _ _ _ _),rfl,cy y (us:=[a.leaf,F,G,H]) rfl rfl λar z ba t5=>?_⟩;have A:=R.ad ba I;refine⟨A.cc rfl (fI _ _ _ _),rfl,cy A (us:=[b.leaf,p,r,t]) rfl rfl λl B b8 t6=>?_⟩;obtain⟨o,D⟩:∃o,o=u.heap.size:=⟨_,rfl⟩;obtain⟨aD,E⟩:∃aD,aD=P.heap.size:=⟨_,rfl⟩;rw[←D]at z ba;rw[←E]at B b8;rw[←D,←E];have j:ab (λq=>q=o\/q=aD) x l:=(ba.mono λq _ h=>.inl h).trans (b8.mono λq _ h=>.inr h);have S:e3 lo l a F G H L M N:=(((d.ext (g.trans (f))).ad j λq _ _ c e=>by have av:K.heap.size<=q/\q<v.heap.size:=(by rcases c with c|c|c;exact⟨(d.bj q c).1,(d.bj q c).2.1⟩;exact⟨(d.bv q c).1,(d.bv q c).2.1⟩;exact d.aI q c);omega).low I);have T:bz (λq=>v.heap.size<=q/\q<u.heap.size) l b p r t:=((V.at.aW λq h1 Q=>⟨Q,h1⟩).ext f).ad j λq c e=>by omega
    have m:∀q,L q\/M q\/N q->K.heap.size<=q/\q<v.heap.size:=λq c=>by
     rcases c with c|c|c
     .exact⟨(d.bj q c).1,(d.bj q c).2.1⟩
     .exact⟨(d.bv q c).1,(d.bv q c).2.1⟩
     .exact d.aI q c
    exact kF (lo:=lo) (b5:=l) (C:=λq=>v.heap.size<=q/\q<u.heap.size) ((X.ext (au.trans (i.trans (g.trans f)))).ad j I).cell (z.ad b8 I) B S T (λq c=>⟨I,I,I,I,λh=>(by have:=m q (.inl h);omega),λh=>(by have:=m q (.inr (.inl h));omega),λh=>(by have:=m q (.inr (.inr h));omega)⟩) (λq c=>(by have:=m q c;exact⟨I,I⟩)) I I I ((ac.ext (au.trans (i.trans (g.trans f)))).ad j I) rfl I I ((ae.ext (au.trans (i.trans (g.trans f)))).ad j λq c e=>(by have:=Z q c;have:=O.size;omega)) aa (Ext.dd (O.trans (au.trans (i.trans (g.trans f)))) j λq c=>I) hs W sa sb bS bp
   .refine bh (vs:=[false,(),(),()]) rfl λu an g z3=>⟨g,?_⟩
    have ao:=g.size;refine(eN (am.ext (au.trans (i.trans (g)))) I I I aj al).use ?_;rintro _ x ⟨p,r,t,aw,ax,aC,rfl,V,f⟩;refine⟨_,p,r,t,rfl,f,?_⟩;have aq:=f.size;have y:=an.ext f;have R:=aX.ext (i.trans (g.trans (f)));refine⟨y.cc rfl (fI _ _ _ _),rfl,cy y (us:=[a.leaf,F,G,H]) rfl rfl λar z ba t5=>?_⟩;have A:=R.ad ba I;refine⟨A.cc rfl (fI _ _ _ _),rfl,cy A (us:=[b.leaf,p,r,t]) rfl rfl λl B b8 t6=>?_⟩;obtain⟨o,D⟩:∃o,o=v.heap.size:=⟨_,rfl⟩;obtain⟨aD,E⟩:∃aD,aD=P.heap.size:=⟨_,rfl⟩;rw[←D]at z ba;rw[←E]at B b8;rw[←D,←E];have j:ab (λq=>q=o\/q=aD) x l:=(ba.mono λq _ h=>.inl h).trans (b8.mono λq _ h=>.inr h);have S:e3 lo l a F G H L M N:=(((d.ext (g.trans (f))).ad j λq _ _ c e=>by have av:K.heap.size<=q/\q<v.heap.size:=(by rcases c with c|c|c;exact⟨(d.bj q c).1,(d.bj q c).2.1⟩;exact⟨(d.bv q c).1,(d.bv q c).2.1⟩;exact d.aI q c);omega).low I);have T:bz (λq=>u.heap.size<=q/\q<x.heap.size) l b p r t:=(V.at.aW λq h1 Q=>⟨Q,h1⟩).ad j λq c e=>by omega
    have m:∀q,L q\/M q\/N q->K.heap.size<=q/\q<v.heap.size:=λq c=>by
     rcases c with c|c|c
     .exact⟨(d.bj q c).1,(d.bj q c).2.1⟩
     .exact⟨(d.bv q c).1,(d.bv q c).2.1⟩
     .exact d.aI q c
    exact kF (lo:=lo) (b5:=l) (C:=λq=>u.heap.size<=q/\q<x.heap.size) ((X.ext (au.trans (i.trans (g.trans f)))).ad j I).cell (z.ad b8 I) B S T (λq c=>⟨I,I,I,I,λh=>(by have:=m q (.inl h);omega),λh=>(by have:=m q (.inr (.inl h));omega),λh=>(by have:=m q (.inr (.inr h));omega)⟩) (λq c=>(by have:=m q c;exact⟨I,I⟩)) I I I ((ac.ext (au.trans (i.trans (g.trans f)))).ad j I) rfl I I ((ae.ext (au.trans (i.trans (g.trans f)))).ad j λq c e=>(by have:=Z q c;have:=O.size;omega)) aa (Ext.dd (O.trans (au.trans (i.trans (g.trans f)))) j λq c=>I) hs W sa sb bS bp
  .refine bh (vs:=[false,(),(),()]) rfl λv aH i cp=>⟨i,?_⟩
   have s2:=i.size;refine(eN (a1.ext (au.trans (i))) I I I aY aZ).use ?_;rintro _ u ⟨F,G,H,L,M,N,rfl,d,g⟩;refine⟨_,F,G,H,rfl,g,?_⟩;have ao:=g.size;refine(eN (am.ext (au.trans (i.trans (g)))) I I I aj al).use ?_;rintro _ x ⟨p,r,t,aw,ax,aC,rfl,V,f⟩;refine⟨_,p,r,t,rfl,f,?_⟩;have aq:=f.size;have y:=aH.ext (g.trans (f));have R:=aX.ext (i.trans (g.trans (f)));refine⟨y.cc rfl (fI _ _ _ _),rfl,cy y (us:=[a.leaf,F,G,H]) rfl rfl λar z ba t5=>?_⟩;have A:=R.ad ba I;refine⟨A.cc rfl (fI _ _ _ _),rfl,cy A (us:=[b.leaf,p,r,t]) rfl rfl λl B b8 t6=>?_⟩;obtain⟨o,D⟩:∃o,o=K.heap.size:=⟨_,rfl⟩;obtain⟨aD,E⟩:∃aD,aD=P.heap.size:=⟨_,rfl⟩;rw[←D]at z ba;rw[←E]at B b8;rw[←D,←E];have j:ab (λq=>q=o\/q=aD) x l:=(ba.mono λq _ h=>.inl h).trans (b8.mono λq _ h=>.inr h);have S:e3 lo l a F G H L M N:=(((d.ext f).ad j λq _ _ c e=>by have av:v.heap.size<=q/\q<u.heap.size:=(by rcases c with c|c|c;exact⟨(d.bj q c).1,(d.bj q c).2.1⟩;exact⟨(d.bv q c).1,(d.bv q c).2.1⟩;exact d.aI q c);omega).low I);have T:bz (λq=>u.heap.size<=q/\q<x.heap.size) l b p r t:=(V.at.aW λq h1 Q=>⟨Q,h1⟩).ad j λq c e=>by omega
   have m:∀q,L q\/M q\/N q->v.heap.size<=q/\q<u.heap.size:=λq c=>by
    rcases c with c|c|c
    .exact⟨(d.bj q c).1,(d.bj q c).2.1⟩
    .exact⟨(d.bv q c).1,(d.bv q c).2.1⟩
    .exact d.aI q c
   exact kF (lo:=lo) (b5:=l) (C:=λq=>u.heap.size<=q/\q<x.heap.size) ((X.ext (au.trans (i.trans (g.trans f)))).ad j I).cell (z.ad b8 I) B S T (λq c=>⟨I,I,I,I,λh=>(by have:=m q (.inl h);omega),λh=>(by have:=m q (.inr (.inl h));omega),λh=>(by have:=m q (.inr (.inr h));omega)⟩) (λq c=>(by have:=m q c;exact⟨I,I⟩)) I I I ((ac.ext (au.trans (i.trans (g.trans f)))).ad j I) rfl I I ((ae.ext (au.trans (i.trans (g.trans f)))).ad j λq c e=>(by have:=Z q c;have:=O.size;omega)) aa (Ext.dd (O.trans (au.trans (i.trans (g.trans f)))) j λq c=>I) hs W sa sb bS bp
section
variable {α:Type}{c:α->O aa}{sz:Nat}
def bE(c:α->O aa)(l:O α):O aa:=(l.map c).flatten
theorem lM(l m:O α):bE c (l++m)=bE c l++bE c m:=by simp[bE]
theorem qj(x:α)(l:O α):bE c (x::l)=c x++bE c l:=rfl
theorem gn:∀ (l:O α),(∀x∈l,(c x).length=sz)->(bE c l).length=l.length*sz
 | [],_=>by simp[bE]
 |x::l,h=>by
  rw[qj,cx,h x (by simp),gn l λy a=>h y (by simp[a]),eU,km];omega
theorem FV{l:O α}{i:Nat}(h:i<l.length):l=l.take i++l[i]::l.drop (i+1):=by rw[←iQ h,hF]
theorem x2{l:O α}(hc:∀x∈l,(c x).length=sz){i:Nat}(h:i<l.length):(bE c l).take (i*sz)=bE c (l.take i)/\(bE c l).drop (i*sz)=c l[i]++bE c (l.drop (i+1)):=by
 have a:(bE c (l.take i)).length=i*sz:=by
  rw[gn _ λx hx=>hc x (fe hx),cv,jn I]
 have e:bE c l=bE c (l.take i)++(c l[i]++bE c (l.drop (i+1))):=by
  conv=>lhs;rw[FV h]
  rw[lM,qj]
 rw[e];exact⟨mo a,drop_left' a⟩
theorem Bq{l:O α}(hc:∀x∈l,(c x).length=sz){i:Nat}(h:i<l.length):((bE c l).drop (i*sz)).take sz=c l[i]:=by
 rw[(x2 hc h).2];exact mo (hc _ (cw h))
theorem oL{l:O α}(hc:∀x∈l,(c x).length=sz){i j:Nat}(h:i<l.length)(a:j<sz):(bE c l)[i*sz+j]? =(c l[i])[j]? :=by
 rw[←Bq hc h,nG a,nE]
theorem Br{l:O α}(hc:∀x∈l,(c x).length=sz){i:Nat}(h:i<l.length)(x:α):(bE c l).take (i*sz)++c x++(bE c l).drop (i*sz+sz)=bE c (l.set i x):=by
 have h1:=x2 hc h;have a:(bE c l).drop (i*sz+sz)=bE c (l.drop (i+1)):=by
  rw[←qR,h1.2];exact drop_left' (hc _ (cw h))
 rw[h1.1,a,List.set_eq_take_append_cons_drop,if_pos h,lM,qj,cD]
theorem x3{l:O α}(hc:∀x∈l,(c x).length=sz){i j:Nat}(h:i<l.length)(a:j<sz){x:α}{v:aa}(hx:c x=(c l[i]).set j v):(bE c l).set (i*sz+j) v=bE c (l.set i x):=by
 have b:(c l[i]).length=sz:=hc _ (cw h);have h1:=x2 hc h;have e:bE c l=bE c (l.take i)++(c l[i]++bE c (l.drop (i+1))):=by
  conv=>lhs;rw[←hF (i*sz) (bE c l),h1.1,h1.2]
 have d:(bE c (l.take i)).length=i*sz:=by
  rw[gn _ λx hx=>hc x (fe hx),cv,jn I]
 rw[e,sJ _ _ I,show i*sz+j-(bE c (l.take i)).length=j from I,List.set_append_left _ _ I,←hx,List.set_eq_take_append_cons_drop,if_pos h,lM,qj]
end
section
variable {α:Type} [DecidableEq α] {P:Program}{w:J}{hO ft T:TypeId}{enc:α->aa}{r:Nat}{M:O (α×aa)}{k:α}{v:aa}
theorem FW(f:m0 P hO enc)(j:P.underlying T=some (.map hO ft))(h:eo w r enc M)(l:∀v,(k,v)∉M)(v:aa):
 ∃w1:J,(Instr.mapUpdate T (.map (some r)) (enc k) v).run P w=.ok () w1/\ab (λq=>q=r) w w1/\w1.heap.size=w.heap.size/\eo w1 r enc ((k,v)::M):=by
 have aH:=h.lt;obtain⟨L,c,h,h1,m,n,g⟩:=h;have i:=As h1 l;have hf:=f.find L k w;rw[xc i]at hf;refine⟨iF w r (.map ((L.map (dP enc)).toArray.push ⟨enc k,v,c⟩) (c+1)),?_,rn _ _ _,th _ _ _,L++ [(k,v,c)],c+1,?_,?_,?_,?_,?_⟩
 .simp only[Instr.mapUpdate,Sem.run_bind,dm j,Result.andThen,mc h,Sem.run_pure,f.check,hf,xe h]
 .rw[ti aH]
  simp[dP]
 .rw[fP]
  have:([(k,v,c)]:O (α×aa×Nat)).map lC=[(k,v)]:=rfl;rw[this];exact(qS).trans (List.Perm.cons _ h1)
 .rw[fP,o6]
  refine⟨m,by simp,λa e b d=>?_⟩;obtain⟨x,hx,rfl⟩:=dv.1 e;simp only[jm,List.map_nil,fi]at d;subst d;exact i x hx
 .rw[fP,o6]
  refine⟨n,by simp,λa e b d=>?_⟩;obtain⟨x,hx,rfl⟩:=dv.1 e;simp only[jm,List.map_nil,fi]at d;subst d;have:=g x hx;omega
 .intro x hx
  rcases cR.1 hx with hx|hx
  .have:=g x hx;omega
  .rw[fi.1 hx];show c<c+1;omega
theorem FX(c:m0 P hO enc)(i:P.underlying T=some (.map hO ft))(h:eo w r enc ((k,v)::M))(b:aa):
 ∃w1:J,(Instr.mapUpdate T (.map (some r)) (enc k) b).run P w=.ok () w1/\ab (λq=>q=r) w w1/\w1.heap.size=w.heap.size/\eo w1 r enc ((k,b)::M):=by
 have aH:=h.lt;obtain⟨n,bf,bB,a,f,h,h1,g,j,d,_⟩:=h.split;have hf:=c.find (bf++(k,v,a)::bB) k w;rw[xd (Ar g),cA]at hf;have hg:((bf++(k,v,a)::bB).map (dP enc)).toArray[bf.length]? =some ⟨enc k,v,a⟩:=by simp[dP]
 have l:((bf++(k,v,a)::bB).map (dP enc)).toArray.modify bf.length (λe=>{e with key:=enc k,val:=b})=((bf++(k,b,a)::bB).map (dP enc)).toArray:=by
  apply Array.toList_inj.1;rw[Array.toList_modify,fP,jm];have:=Aq (λe=>{e with key:=enc k,val:=b}) (dP enc (k,v,a)) (bB.map (dP enc)) (bf.map (dP enc));rw[dL]at this;rw[this];simp[dP]
 refine⟨iF w r (.map ((bf++(k,b,a)::bB).map (dP enc)).toArray f),?_,rn _ _ _,th _ _ _,bf++(k,b,a)::bB,f,ti aH _,?_,?_,?_,?_⟩
 .simp only[Instr.mapUpdate,Sem.run_bind,dm i,Result.andThen,mc h,Sem.run_pure,c.check,hf,hg,lq,qN,Instr.keyThatStays,c.bits,if_true,xe h,l]
 .rw[fP,jm]
  rw[fP]at h1;exact mK.trans (h1.cons _)
 .simpa using g
 .simpa using j
 .intro x hx
  rcases cR.1 hx with hx|hx
  .exact d x (by simp[hx])
  .rcases cU.1 hx with rfl|hx
   .exact d (k,v,a) (by simp)
   .exact d x (by simp[hx])
end
abbrev cJ:=O UInt8
structure dB where
 i:Nat
 s:U
 secs:O cJ
structure a6 where
 d:Nat
 lb:Nat
 mr:Nat
 cl:O Int
 aZ:O cJ
 waits:O dB
 writes:Int
 aN:Nat
 bK:Nat->aj
 er:Nat->O cJ
def dB.e(x:dB):Int×aa:=((x.i:Int),x.s)
def a6.c(D:a6):O aa:=D.cl.map (.int .i64)++ [.slice (some ⟨D.lb,0,none⟩) D.aZ.length D.aZ.length,.map (some D.mr),.int .i64 D.writes]
def a6.n(D:a6):Nat:=D.aZ.length
abbrev encZ:Int->aa:=λn=>n
theorem mv:m0 ai 3 encZ:=m0.int (by kernel_rfl)
theorem kG:Tryz.prog.underlying 137=some (.map 3 136):=by kernel_rfl
theorem x4:(Tryz.prog.info? 136).bind (·.zero)=some (.slice none 0 0):=by kernel_rfl
theorem qk{P:Program}{T:TypeId}{z:aa}(h:(P.info? T).bind (·.zero)=some z):∃i,P.info? T=some i/\i.zero=some z:=by
 cases hi:P.info? T with
 |none=>rw[hi]at h;cases h
 |some i=>rw[hi]at h;exact⟨i,rfl,h⟩
def bD(D:a6)(q:Nat):Prop:=q=D.d\/q=D.lb\/q=D.mr\/∃x∈D.waits,az x.s q
structure b_(w:J)(D:a6):Prop where
 v:Var w D.d D.c 141
 l:bq w D.lb (bE aF D.aZ).toArray 182
 m:eo w D.mr encZ (D.waits.map dB.e)
 ws:∀x∈D.waits,a8 256 182 w x.s (bE aF x.secs)
 wn:∀x∈D.waits,x.secs≠ []/\x.i<D.n/\x.secs.length<=D.aN
 sl:∀s∈D.aZ,s.length=256
 je:∀x∈D.waits,∀s∈x.secs,s.length=256
 bS:16<=D.n
 bp:D.n<=1600
 f4:D.cl.length=4
 fr:∀x∈D.cl, -1<=x/\x<=9223372036854775807
 a1:D.d≠D.lb/\D.d≠D.mr/\D.lb≠D.mr
 a2:∀x∈D.waits,¬az x.s D.d/\¬az x.s D.lb/\¬az x.s D.mr
 a3:∀x∈D.waits,∀y∈D.waits,x.i≠y.i->∀q,az x.s q->¬az y.s q
section
variable {w w':J}{D:a6}
theorem b_.ad{W:Nat->Prop}(h:b_ w D)(hc:ab W w w')(a:∀q,bD D q->¬W q):b_ w' D:=
 ⟨h.v.ad hc (a _ (.inl rfl)),bq.ad h.l hc (a _ (.inr (.inl rfl))),h.m.ad hc (a _ (.inr (.inr (.inl rfl)))),λx hx=>(h.ws x hx).ad hc λq b=>a q (.inr (.inr (.inr ⟨x,hx,b⟩))),h.wn,h.sl,h.je,h.bS,h.bp,h.f4,h.fr,h.a1,h.a2,h.a3⟩
theorem b_.ext(h:b_ w D)(hc:Ext w w'):b_ w' D:=h.ad hc λ_ _ h=>h
theorem b_.lt(h:b_ w D){q:Nat}(a:bD D q):q<w.heap.size:=by
 rcases a with rfl|rfl|rfl|⟨x,hx,a⟩
 .exact h.v.lt
 .exact bq.lt h.l
 .exact h.m.lt
 .exact(h.ws x hx).lt q a
theorem b_.FY(h:b_ w D){k:Nat}(a:k<4):w.cell? ⟨D.d,k,none⟩=some (.int .i64 (D.cl.getD k 0)):=by
 rw[h.v.cell];unfold a6.c;have:=h.f4;rw[List.getElem?_append_left (by rw[dL];omega),kn,c_ I,eu I];rfl
theorem b_.de(h:b_ w D):w.cell? (Addr.add D.d 4)=some (.slice (some D.lb) D.aZ.length D.aZ.length):=by
 rw[aw,h.v.cell];unfold a6.c;have:=h.f4;rw[ko (by rw[dL];omega),dL,this];rfl
theorem b_.ba(h:b_ w D):w.cell? (Addr.add D.d 5)=some (.map (some D.mr)):=by
 rw[aw,h.v.cell];unfold a6.c;have:=h.f4;rw[ko (by rw[dL];omega),dL,this];rfl
theorem b_.vR(h:b_ w D):D.c.length=7:=by
 unfold a6.c;have:=h.f4;simp;omega
def a6.now(D:a6)(i:Nat):cJ:=match D.waits.find? λx=>x.i==i with
 |some x=>x.secs.getLastD []
 |none=>D.aZ.getD i []
theorem FZ{α:Type}{l:O α}{d:α}(h:l≠ []):l.getLastD d∈l:=by
 cases l with
 |nil=>exact absurd rfl h
 |cons a l=>
  rw[List.getLastD_cons];rw[←List.getLast_eq_getLastD];exact List.getLast_mem h
theorem b_.oM(h:b_ w D){i:Nat}(hi:i<D.n):(D.now i).length=256:=by
 unfold a6.now
 cases hf:D.waits.find? λx=>x.i==i with
 |some x=>
  have hx:=iA hf;exact h.je x hx _ (FZ (h.wn x hx).1)
 |none=>
  have a:i<D.aZ.length:=hi;rw[show(match (none:aq dB) with|some x=>x.secs.getLastD []|none=>D.aZ.getD i [])=D.aZ.getD i [] from rfl,eu a];exact h.sl _ (cw _)
theorem ql(h:b_ w D):aP ai 72 #[.pointer (some D.d)] w (λv w'=>v=D.n/\w=w'):=by
 refine okF (af.uf (some D.d)) ay.uf func72 ?_;(delta af.uf ak ag;dsimp only);exact⟨λh=>(by cases h),λ_=>⟨_,rfl,⟨some D.lb,D.aZ.length,D.aZ.length⟩,h.de,rfl,rfl⟩⟩
theorem x5(h:b_ w D)(i:Int):aP ai 108 #[.pointer (some D.d),i] w (λv w'=>v=.bool (decide (0<=i/\i<D.n))/\w=w'):=by
 refine okF (af.ux (some D.d) i) ay.ux func108 ?_;(delta af.ux ak ag;dsimp only);refine cm (λb w'=>b=decide (0<=i/\i<D.n)/\w=w') (λq c=>⟨λa=>⟨_,rfl,⟨some D.lb,D.aZ.length,D.aZ.length⟩,h.de,c _ _ ⟨?_,rfl⟩⟩,λa=>c _ _ ⟨?_,rfl⟩⟩) ?_
 .have a:0<=i:=by simpa using a
  rw[fW,cS,cS];exact⟨λh=>⟨a,h⟩,λh=>h.2⟩
 .have a:¬0<=i:=by simpa using a
  rw[hG (λh=>a h.1)]
 .rintro _ _ ⟨rfl,rfl⟩
  exact⟨rfl,rfl⟩
end
def gA(f:Int):aj×Int:=if f= -1 then (false, -1) else if f=0 then (true, -1) else (false,f-1)
theorem F0{f:Int}(h: -1<=f/\f<=9223372036854775807): -1<=(gA f).2/\(gA f).2<=9223372036854775807:=by
 unfold gA;split
 .exact⟨by decide,by decide⟩
 .split
  .exact⟨by decide,by decide⟩
  .show -1<=f-1/\f-1<=_;omega
def a6.cz(D:a6)(k:Nat):a6:={D with cl:=D.cl.set k (gA (D.cl.getD k 0)).2}
def a6.fS(D:a6)(k:Nat):aj:=(gA (D.cl.getD k 0)).1
theorem x6{w:J}{D:a6}(h:b_ w D){k:Nat}(o:k<4):
 aP ai 136 #[.pointer (some ⟨D.d,0,none⟩),.int .i64 ((k:Nat):Int)] w (λv w'=>v=.bool (D.fS k)/\b_ w' (D.cz k)/\ab (λq=>q=D.d) w w'/\w'.heap.size=w.heap.size):=by
 have hf:=h.FY o;have p:=h.f4;have r: -1<=D.cl.getD k 0/\D.cl.getD k 0<=9223372036854775807:=by rw[eu I];exact h.fr _ (cw _)
 have j:∀ (w1:J),b_ w1 D->b_ (w1.setCell ⟨D.d,k,none⟩ (.int .i64 (gA (D.cl.getD k 0)).2)) (D.cz k):=by
  intro w1 h1;have hc:=dp w1 D.d k (.int .i64 (gA (D.cl.getD k 0)).2);have n:=dM h1.v (i:=k) (.int .i64 (gA (D.cl.getD k 0)).2);have e:D.c.set k (.int .i64 (gA (D.cl.getD k 0)).2)=(D.cz k).c:=by
   unfold a6.c a6.cz;rw[List.set_append_left _ _ (by rw[dL];omega),←List.map_set]
  rw[e]at n;refine⟨n,bq.ad h1.l hc (λe=>h.a1.1 e.symm),h1.m.ad hc (λe=>h.a1.2.1 e.symm),λx hx=>(h1.ws x hx).ad hc λq s e=>(h.a2 x hx).1 (by subst e;exact s),h.wn,h.sl,h.je,h.bS,h.bp,by show(D.cl.set k _).length=4;rw[cY];exact p,λx hx=>?_,h.a1,h.a2,h.a3⟩;rcases lv hx with hx|rfl
  .exact h.fr x hx
  .exact F0 r
 have g:Addr.add ⟨D.d,0,none⟩ (Int.toNat ((k:Nat):Int)*1)=⟨D.d,k,none⟩:=by rw[c8,fz,aw,cA]
 refine okF (af.uG (some ⟨D.d,0,none⟩) ((k:Nat):Int)) ay.uG func136 ?_;(delta af.uG r1 ak st av;dsimp only);refine⟨_,rfl,⟨I,by show(k:Int)<4;omega⟩,D.cl.getD k 0,by rw[g];exact hf,λh1=>?_,λh1=>⟨λa=>⟨_,rfl,⟨I,by show(k:Int)<4;omega⟩,?_⟩,λa=>aS ⟨_,rfl,⟨I,by show(k:Int)<4;omega⟩,id,_,by rw[g];exact hf,_,rfl,⟨I,by show(k:Int)<4;omega⟩,?_⟩⟩⟩
 .have h1:D.cl.getD k 0= -1:=by simpa using h1
  have b:D.fS k=false:=by unfold a6.fS gA;rw[if_pos h1]
  have f:D.cz k=D:=by
   unfold a6.cz gA;rw[if_pos h1];have:D.cl.set k (-1)=D.cl:=by
    rw[←h1,eu I];exact List.set_getElem_self _
   rw[this]
  rw[b,f];exact⟨rfl,h,.refl _ _,rfl⟩
 .have h1:D.cl.getD k 0≠ -1:=by simpa using h1
  have a:D.cl.getD k 0=0:=by simpa using a
  have hs:=dF h.v (i:=k) (by rw[h.vR];omega);have b:D.fS k=true:=by unfold a6.fS gA;rw[if_neg h1,if_pos a]
  have f:(gA (D.cl.getD k 0)).2= -1:=by unfold gA;rw[if_neg h1,if_pos a]
  have:=j w h;rw[f]at this;rw[g,b];exact⟨hs.1,hs.2,aS ⟨rfl,this,dp _ _ _ _,by simp[World.setCell]⟩⟩
 .have h1:D.cl.getD k 0≠ -1:=by simpa using h1
  have a:D.cl.getD k 0≠0:=by simpa using a
  have hd:=h.ext (b6 w);have hs:=dF hd.v (i:=k) (by rw[h.vR];omega);have b:D.fS k=false:=by unfold a6.fS gA;rw[if_neg h1,if_neg a]
  have f:(gA (D.cl.getD k 0)).2=D.cl.getD k 0-1:=by unfold gA;rw[if_neg h1,if_neg a]
  have:=j w.drew hd;rw[f]at this;rw[g,b,bu I I];exact⟨hs.1,hs.2,aS ⟨rfl,this,(ab.cK (b6 w)).trans (dp _ _ _ _),by simp[World.setCell]⟩⟩
end Go.Proofs.YtkdhdlfonmgheaaGreat
