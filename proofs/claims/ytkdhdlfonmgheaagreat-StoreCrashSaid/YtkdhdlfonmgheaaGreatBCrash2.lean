/- Contracts of the functions that the statement reaches, and the plain laws over them; each theorem stands with its conditions. -/
import Derived.Test.YtkdhdlfonmgheaaGreatBCrash1
namespace Go.Proofs.YtkdhdlfonmgheaaGreat
open Go a8 Go.Proofs.Tryz
def g_:aD:=⟨false,[],[],[]⟩
def bk:Y:=⟨none,0,0⟩
def xQ(leaf:ai)(l:O UInt8)(w w':J)(v:aa):Prop:=
 (∃ (n:aD) (K V D:Y),v=.tuple #[c2 n K V D,(0:Int)]/\lK leaf l n/\bF (λq=>w.heap.size<=q) w' n K V D)\/
 (v=.tuple #[c2 g_ bk bk bk,(4:Int)]/\∀n,¬lK leaf l n)
theorem je{w':J}{h:Nat}{vs:O aa}(b:ai)(K V D:Y)(c:Var w' h vs 202)(g:vs.length=4){Q:ai->Y->Y->Y->J->Prop}(j:∀ah,ad (λq=>q=h) w' ah->Q b K V D ah):
 bx w' h [b,K,V,D]/\(4:Nat)=4/\al (setCells w' h 0 [b,K,V,D]) λah=>
  ∃i:ai,ah.cell? h=some (.bool i)/\∃d:Y,ah.cell? (Addr.add h 1)=some (.slice d.a d.len d.cap)/\∃e:Y,ah.cell? (Addr.add h 2)=some (.slice e.a e.len e.cap)/\
   ∃f:Y,ah.cell? (Addr.add h 3)=some (.slice f.a f.len f.cap)/\Q i d e f ah:=by
 refine⟨c.b9 (by rw[g];rfl) ?_,rfl,cr c (us:=[b,K,V,D]) (by rw[g];rfl) rfl λah k hc _=>?_⟩
 .intro v c
  simp only[cU,eL,eO]at c;rcases c with rfl|rfl|rfl|rfl<;>trivial
 .obtain⟨bX,aC,aU,aO⟩:=bH k
  exact⟨b,bX,K,aC,V,aU,D,aO,j ah hc⟩
theorem pN{w:J}{s:Y}{l:O UInt8}(hs:Src 1 w s (aJ l))(hc:s.len<=s.cap)(T:∀k,aB s k->k<w.heap.size)(an:l.length<=100000)(leaf:ai):
 aR aj 233 #[leaf,s] w (λv w'=>xQ leaf l w w' v/\Ext w w'):=by
 refine okF (af.pN leaf s) aA.pN func233 ?_;(delta af.pN cj U aC ak w_ ag st ba av bc cc aO fk;dsimp only);refine bh (vs:=[false,(),(),()]) rfl λw1 aT ao bJ=>?_;refine bh (vs:=[s,true]) rfl λah aV W bK=>?_;refine bh (vs:=[false,(),(),()]) rfl λbL ap F bO=>?_;refine⟨ap.b9 rfl (by
  intro v aq;simp only[cU,eL,eO]at aq;rcases aq with rfl|rfl|rfl|rfl<;>trivial),rfl,cr ap (us:=[leaf,(),(),()]) rfl rfl λm aW G bP=>?_⟩
 obtain⟨lo,bQ⟩:∃lo,lo=m.heap.size:=⟨_,rfl⟩;obtain⟨r,ar⟩:∃r,r=w1.heap.size:=⟨_,rfl⟩;obtain⟨nb,ax⟩:∃nb,nb=ah.heap.size:=⟨_,rfl⟩;have aX:Ext w m:=Ext.cn (ao.trans (W.trans F)) G I;have aZ:jw m w1.heap.size s (l,true):=by
  refine⟨(aV.ext F).ab G I,(hs.ext (ao.trans (W.trans F))).ab G λk c e=>?_,hc,λk c=>?_⟩
  .have:=T k c;omega
  .have:=T k c;omega
 refine(xO aZ 1 (by decide) an).use ?_;rintro _ aD ⟨aE,rfl,a0,X,a1⟩;have bR:(rdNum (l,true) 1).1<256:=xP _ 1;have bS:=X.size;have aF:j8 lo aD r nb aE (⟨leaf,[],[],[]⟩,(rdNum (l,true) 1).2) bk bk bk (λ_=>False) (λ_=>False) (λ_=>False):=by
  refine⟨by rw[ax];exact aW.ab X I,by rw[ar];exact a0,bu.none _ _,bu.none _ _,cR.none _ _,λq h=>h.elim,λq h=>h.elim,λq h=>h.elim,λq a=>?_,I,I,I,eK (vE _ 1) an⟩;have:=T q (a1 q a);exact⟨I,I⟩
 have aG:ad (ox lo r nb) m aD:=X.mono λk _ c=>.inl I;rw[←ar,←ax];refine⟨_,rfl,iE (λw'=>∃ (u D:Y) (bN:Nat->Prop),j8 lo w' r nb u (mc leaf (rdNum (l,true) 1).2) bk bk D (λ_=>False) (λ_=>False) bN/\ad (ox lo r nb) m w'/\lo<=w'.heap.size) (λq a=>⟨λd=>?_,λd=>a _ ⟨aE,bk,λ_=>False,?_,aG,I⟩⟩) ?_⟩
 .have d:leaf=false:=by simpa using d
  subst d;refine Be aF I (by simp) λw' az u a2 h1 h2 o=>a _ ⟨u,az,a2,?_,aG.trans h2,o⟩;have:mc false (rdNum (l,true) 1).2=(⟨false,[],[],[]++ [(rdNum (rdNum (l,true) 1).2 2).1]⟩,(rdNum (rdNum (l,true) 1).2 2).2):=by simp[mc]
  rw[this];exact h1
 .have d:leaf=true:=by simpa using d
  subst d;exact aF
 rintro bU ⟨a3,a4,a5,aH,a6,a7⟩;obtain⟨f,H⟩:∃f,f=mc leaf (rdNum (l,true) 1).2:=⟨_,rfl⟩;rw[←H]at aH;have a8:f.1.leaf=leaf:=by rw[H];unfold mc;cases leaf<;>rfl
 have bV:f.1.keys.length=0/\f.1.vals.length<=1/\f.1.kids.length<=1:=by rw[H];unfold mc;cases leaf<;>simp
 refine⟨λi w'=>∃ (j:Nat) (u K V D:Y) (bT b6 bN:Nat->Prop),i=j/\j<=(rdNum (l,true) 1).1/\j8 lo w' r nb u (iq f j) K V D bT b6 bN/\ad (ox lo r nb) m w'/\lo<=w'.heap.size,λi _=>(((rdNum (l,true) 1).1:Int)-i).toNat,⟨0,a3,bk,bk,a4,_,_,a5,rfl,cL _,aH,a6,a7⟩,?_⟩;rintro _ aI ⟨j,bW,K,V,D,bT,b6,bN,rfl,bY,g,L,a9⟩;obtain⟨a_,bb,be⟩:=Bd f j;have x:=Bc f j a8;refine⟨λaK=>?_,λZ=>?_⟩
 .have aK:j<(rdNum (l,true) 1).1:=by have:=b8 aK;omega
  rw[bA (n:=(j:Int)+1) I I];refine iE (λw'=>∃ (u K V D:Y) (bT b6 bN:Nat->Prop),j8 lo w' r nb u (iq f (j+1)) K V D bT b6 bN/\ad (ox lo r nb) m w'/\lo<=w'.heap.size) (λq a=>?_) ?_
  .refine FK g a9 I λy M aM N P R S=>⟨λd=>?_,λd=>?_⟩
   .refine FL P S (by show(iq f j).1.vals.length<=_;omega) λaa bf ac bg B p ae=>a _ ⟨ac,M,bf,D,N,bg,bN,?_,L.trans (R.trans p),ae⟩
    rw[iq];unfold ot;rw[x,d,if_pos rfl];rw[x,d]at B;exact B
   .refine Be P S (by show(iq f j).1.kids.length<=_;omega) λaa bi ac bj B p ae=>a _ ⟨ac,M,V,bi,N,b6,bj,?_,L.trans (R.trans p),ae⟩
    rw[iq];unfold ot;rw[x,d,if_neg (by simp)];rw[x,d]at B;exact B
  .rintro y ⟨aM,M,bm,bn,N,bp,br,P,R,S⟩
   refine⟨⟨j+1,aM,M,bm,bn,N,bp,br,I,I,P,R,S⟩,?_⟩;show(((rdNum (l,true) 1).1:Int)-((j:Int)+1)).toNat<(((rdNum (l,true) 1).1:Int)-(j:Int)).toNat;omega
 .have Z:j=(rdNum (l,true) 1).1:=by have:=cv Z;omega
  have bs:iq f j=iK leaf l:=by rw[Z,H];rfl
  rw[bs]at g a_ bb be x;obtain⟨bX,aC,aU,aO⟩:=bH g.v;have c9:bF (λq=>lo<=q) aI (iK leaf l).1 K V D:=⟨bq.aY (bu.iN g.keys) λq _ a=>(g.bo q a).1,bq.aY (bu.iN g.vals) λq _ a=>(g.bv q a).1,cK.aY (cR.p4 g.kids) λq _ a=>(g.aL q a).1⟩;have bt:Ext w aI:=Ext.dy aX L λk c=>by
   rcases c with c|c|c<;>omega
  refine⟨_,bX,K,aC,V,aU,D,aO,(n3 c9 I I I).use ?_⟩;rintro bw y ⟨bx,C⟩;have al:=bt.trans C;have bz:=g.v.ext C;have bB:=g.rd.ext C;have aN:Var y w.heap.size [false,(),(),()] 202:=by
   refine(Var.ab (w:=m) ?_ L ?_).ext C
   .exact(((aT.ext W).ext F).ab G I)
   .rintro(c|c|c)<;>omega
  have bC:=c9.ext C;obtain⟨d0,d1,d2,d3⟩:=bH bz;have bD:∃ (z:Y) (e:Int),bw=Value.tuple #[z,e]/\(e=0->bd 1 5 y z (aJ (jv (iK leaf l).1))/\cH (iK leaf l).1/\bM (iK leaf l).1<=232)/\(e≠0->cH (iK leaf l).1->232<bM (iK leaf l).1):=by
   rcases bx with ⟨z,rfl,h1,h2,o,A⟩|⟨e,rfl,h1,h2⟩
   .exact⟨z,0,rfl,λ_=>⟨h1,o,A⟩,λh=>absurd rfl h⟩
   .exact⟨bk,e,rfl,λh=>absurd h h1,λ_=>h2⟩
  obtain⟨z,e,rfl,bE,aP⟩:=bD;have bG:Src 1 y s (aJ l):=hs.ext al
  have aQ:∀n,lK leaf l n->iK leaf l=(n,([],true)):=by
   rintro n ⟨h1,h2,o,A⟩;have:=xI h1 o;rw[h2,A]at this;exact this
  refine⟨z,e,rfl,_,rfl,(iK leaf l).2.2,by rw[aw];exact bB.v.cell,cq (λb w'=>y=w'/\(b=true->∀n,¬lK leaf l n)/\(b=false->lK leaf l (iK leaf l).1)) (λq a=>⟨λh1=>a _ _ ⟨rfl,λ_ n E=>?_,λh=>(by cases h)⟩,λh1=>?_⟩) ?_⟩
  .have hu:=aQ n E
   obtain⟨h2,o,A,aS⟩:=E;rw[hu]at h1 aP;have h1:(e !=0)=true:=by simpa using h1
   have bZ:232<bM n:=aP (by simpa using h1) h2;omega
  .have bI:(iK leaf l).2.2=true/\e=0:=by
    simp only[nv,sw,bne_eq_false_iff_eq]at h1;exact h1
   obtain⟨h2,rfl⟩:=bI;obtain⟨o,A,aS⟩:=bE rfl;refine(px o.src bG).use ?_;rintro _ _ ⟨rfl,rfl⟩;refine⟨_,rfl,a _ _ ⟨rfl,λt n E=>?_,λt=>?_⟩⟩
   .have hu:=aQ n E
    have t:¬jv (iK leaf l).1=l:=by simpa using t
    rw[hu]at t;exact t E.2.2.2
   .have t:jv (iK leaf l).1=l:=by simpa using t
    exact⟨A,x,aS,t⟩
  rintro b w' ⟨rfl,au,ay⟩;refine⟨λam=>?_,λam=>⟨_,d0,K,d1,V,d2,D,d3,?_⟩⟩
  .refine je false bk bk bk aN rfl (Q:=λb K V D ah=>(λv w'=>xQ leaf l w w' v/\Ext w w') (.tuple #[.agg #[b,K,V,D],(4:Int)]) ah) λaa p=>⟨.inr ⟨rfl,au am⟩,Ext.cn al p (bl _)⟩
  .refine je (iK leaf l).1.leaf K V D aN rfl (Q:=λb K V D ah=>(λv w'=>xQ leaf l w w' v/\Ext w w') (.tuple #[.agg #[b,K,V,D],(0:Int)]) ah) λaa p=>⟨.inl ⟨(iK leaf l).1,K,V,D,rfl,ay am,?_⟩,Ext.cn al p (bl _)⟩
   exact(bC.ab p λk c e=>I).aY λk _ c=>by omega
theorem FM{s v:Y}{vs xs:O aa}{i l0:Nat}{mQ:Array aa}{al:TypeId}{w:J}(H:bd 1 48 w s vs)(N:Src 1 w v xs)(g:v.len=1)(am:v.a=some ⟨l0,0,none⟩)(T:bz w l0 mQ al)(an:¬aB s l0)
 (U:∀u∈xs,Plain u) (aM:∀u∈vs,Plain u) (hi:i<=s.len) (a9:s.len<=1000000):
 aR aj 210 #[s,.int .i64 (i:Int),v] w (λu w'=>∃z:Y,u=z/\bd 1 48 w' z (vs.take (i*1)++xs++vs.drop (i*1))/\z.len=s.len+1/\ad (aB s) w w'/\(∀k,aB z k->aB s k\/w.heap.size<=k)):=by
 obtain⟨h1,a_,ba,h2,ao,aN,aO,E,ap,aQ⟩:=(p5).out;obtain⟨d0,K⟩:=j2 _ ao;refine okF (af.tE s i v) aA.tE func210 ?_;(delta af.tE ak av aU;dsimp only);have bb:=H.2.1;have bc:=H.2.2.1;have be:maxLen=9223372036854775807:=rfl;have p:xs.length=1:=by have:=N.len;rw[g]at this;omega
 have V:=H.1;refine⟨⟨I,I⟩,λh=>by rw[g]at h;simp at h,λ_=>⟨λh=>?_,λh=>?_⟩⟩
 .have aS:i=s.len:=by have:=eq_of_beq h;omega
  subst aS;obtain⟨z,w',au,ay,X,Q,F⟩:=(p5).append (cM:=127) N H U (by rw[g];omega);refine⟨z,w',au,z,rfl,?_,by rw[X,g],Q,F⟩;rwa[dV I,List.drop_of_length_le I,f_]
 have aK:i<s.len:=by
  have h:¬((i:Int)=(s.len:Int)):=λe=>by rw[e]at h;simp at h
  omega
 rcases H.2.2.2 with ⟨_,hc⟩|⟨b,c,r,G,aq,aw⟩
 .omega
 have aT:b≠l0:=λe=>an ⟨_,r,e⟩;have aV:IntKind.wrap .i64 ((s.len:Int)+(v.len:Int))=((s.len+1:Nat):Int):=by rw[g,bA I I];rfl
 have aX:IntKind.wrap .i64 ((i:Int)+(v.len:Int))=((i+1:Nat):Int):=by rw[g,bA I I];rfl
 have aY:IntKind.wrap .i64 (((s.len+1:Nat):Int)-(i:Int))=((s.len+1-i:Nat):Int):=by rw[bA I I];omega
 have bf:c.toList.length=s.cap*1:=by simpa using aq
 have ax:∀k,k<=s.len->vs.take (k*1)=c.toList.take (k*1):=λk d=>by rw[←aw,qF,jG I]
 have az:vs.drop (i*1)=(c.toList.drop (i*1)).take ((s.len-i)*1):=by rw[←aw,List.drop_take,show s.len*1-i*1=(s.len-i)*1 from I]
 have aC:∀u∈vs.drop (i*1),Plain u:=λu hu=>aM u (fg hu);have B:(vs.drop (i*1)).length=(s.len-i)*1:=by rw[da,V];omega
 have L:∀ (Z o l m:Nat),l<m->aP (some (Addr.mk Z o none)) 1 l m=some ⟨Z,o+l*1,none⟩:=λZ o l m bg=>s6 I;simp only[aV,aX,aY,dd,oP,w6];refine⟨λhg=>?_,λhg=>?_⟩
 .have bh:s.cap<s.len+1:=by have:=b8 hg;omega
  have aZ:Src 1 w ⟨some b,i,s.cap⟩ (vs.take (i*1)):=by
   have:=G.q6 (sz:=1) (o:=0) (n:=i) (cap:=s.cap) I;rw[lv]at this;rwa[ax i I]
  obtain⟨j,zs,rest,au,ay,X,Q,F⟩:=Eh (P:=aj) (gw:= #[127,3]) (cM:=127) (kx:=3) (k:=.i64) (s:=⟨some b,i,s.cap⟩) (n:=s.len+1-i) rfl rfl h1 (by kernel_rfl) h2 ao aN aO E (by rw[ap];exact aQ) aZ (by show s.cap<i+_;omega) (by rw[ap];show(2*(i+_)+1000)*_<=_;omega);have a0:i+(s.len+1-i)=s.len+1:=by omega
  simp only[a0]at au Q F;obtain⟨C,ac⟩:∃C,C=(vs.take (i*1)++zs++rest).toArray:=⟨_,rfl⟩;rw[←ac]at F;obtain⟨D,ae⟩:∃D,D=w.drew.alloc (.cells C 48):=⟨_,rfl⟩;rw[←ae]at F;have aD:bz D w.heap.size C 48:=by rw[ae];exact bz.new w.drew _ _
  have aE:Ext w D:=by rw[ae];exact ad.alloc (ad.drew (.refl _ _)) _
  have f:(vs.take (i*1)).length=i*1:=by rw[cG,V];omega
  have aF:C.size=j*1:=by rw[ac];simp[f,X,Q];omega
  have bi:C.toList.length=j*1:=by simpa using aF
  have M:=s9 (P:=aj) (l6:=127) (cN:=127) (ty:=3) (A:=⟨w.heap.size,0+i*1,none⟩) (dl:=s.len+1-i) (nO:=j-i) (n:=1) h1 K E (x:=v) (by rw[g];exact jG I) (xs:=xs) (by have:=N.ext aE;have e:(⟨v.a,1,v.cap⟩:Y)=v:=(by rw[←g]);rw[e];exact this) (by rw[cy];exact aD.b9 _ _ I U);obtain⟨t,ag⟩:∃t,t=setCells D ⟨w.heap.size,0+i*1,none⟩ 0 xs:=⟨_,rfl⟩;rw[←ag]at M;have aG:bz t w.heap.size (gH C (i*1) xs) 48:=by rw[ag,cy];exact aD.j4 xs
  have a1:Ext w t:=by rw[ag];exact Ext.dy aE (ad.kY (.refl _ _) xs 0) (λk d=>by subst d;exact bl _)
  have a2:Ext t t.drew:=ad.drew (.refl _ _);have aH:=Ext.trans a1 a2;have ah:=s9 (P:=aj) (w:=t.drew) (l6:=127) (cN:=127) (ty:=3) (A:=⟨w.heap.size,0+(i+1)*1,none⟩) (dl:=s.len+1-(i+1)) (nO:=j-(i+1)) (n:=s.len-i) h1 K E (x:=⟨some ⟨b,0+i*1,none⟩,s.len-i,s.cap-i⟩) (jG (by show s.len-i<=_;omega)) (xs:=vs.drop (i*1))
   (by have:=(G.ext aH).q6 (sz:=1) (o:=i*1) (n:=s.len-i) (cap:=s.cap-i) I;rw[az,cy];exact this) (by rw[cy];exact bz.b9 (bz.drew aG) _ _ (by rw[iZ];omega) aC)
  have R:aP (some (Addr.mk w.heap.size 0 none)) 1 i j=some ⟨w.heap.size,0+i*1,none⟩:=L _ _ _ _ I;have S:aP (some (Addr.mk w.heap.size 0 none)) 1 (i+1) j=some ⟨w.heap.size,0+(i+1)*1,none⟩:=L _ _ _ _ I;have a3:aP s.a 1 i s.cap=some ⟨b,0+i*1,none⟩:=by rw[r];exact L _ _ _ _ I
  have a4:Sem.run aj (Builtin.append_ #[127,3] 127 #[.slice s.a i s.cap,.int .i64 ((s.len+1-i:Nat):Int)]) w=.ok (.slice (some w.heap.size) (s.len+1) j) D:=by rw[r];exact F
  refine⟨⟨I,I⟩,⟨some w.heap.size,s.len+1,j⟩,D,a4,⟨I,by show(i:Int)<=((s.len+1:Nat):Int);omega⟩,_,t,by rw[R];exact M,aW ⟨⟨I,by show((i+1:Nat):Int)<=((s.len+1:Nat):Int);omega⟩,⟨I,I⟩,_,_,by rw[S,a3];exact ah,⟨some w.heap.size,s.len+1,j⟩,rfl,?_,rfl,?_,?_⟩⟩
  .refine bd.mk' ((bz.drew aG).j4 (o:=0+(i+1)*1) _) (by simp[f,p,B];omega) I I (by rw[iZ,iZ,aF]) ?_
   rw[lF _ _ _ (by rw[iZ];omega),lF _ _ _ I];have t1:C.toList.take (i*1)=vs.take (i*1):=by rw[ac,qH,cP];exact List.take_left' f
   have t2:(C.toList.take (i*1)++xs++C.toList.drop (i*1+xs.length)).take (0+(i+1)*1)=vs.take (i*1)++xs:=by
    rw[t1,oW (by simp[f,p];omega),dV (by simp[f,p];omega)]
   rw[t2,oW (by simp[f,p,B];omega),dV (by simp[f,p,B];omega)]
  .exact ad.cJ (Ext.dy aH (ad.kY (.refl _ _) _ 0) (λk d=>by subst d;exact bl _))
  .rintro k ⟨A,ar,d⟩
   cases ar;exact .inr (Nat.le_of_eq d)
 .have bj:s.len+1<=s.cap:=by have:=cv hg;omega
  have R:aP s.a 1 (i+1) s.cap=some ⟨b,0+(i+1)*1,none⟩:=by rw[r];exact L _ _ _ _ I
  have S:aP s.a 1 i s.cap=some ⟨b,0+i*1,none⟩:=by rw[r];exact L _ _ _ _ I
  have a5:Sem.run aj (callFunc 252 #[v,.slice (some ⟨b,0+(i+1)*1,none⟩) (s.len+1-(i+1)) (s.cap-(i+1))]) w=.ok (.value false) w:=by
   rw[am,run_callFunc_extern (e:=Extern.SlicesOverlaps.overlaps #[127,127] #[4]) func252 (by kernel_rfl) (by kernel_rfl) (by kernel_rfl) (by kernel_rfl)];have:=Lib.run_overlaps_apart (P:=aj) w 127 4 48 h1 1 (λw=>by have:=iB (w:=w) K;rwa[E]at this) l0 ⟨b,0+(i+1)*1,none⟩ v.len v.cap (s.len+1-(i+1)) (s.cap-(i+1)) (λe=>aT e.symm) al 48 mQ.size c.size
    (by have:=T;unfold bz at this;simp[World.shape?,this]) (by have:=G;unfold bz at this;simp[World.shape?,this]) I (T.frozen _ rfl) (T.frozen _ rfl)
   rw[this];rfl
  have M:=s9 (P:=aj) (w:=w.drew) (l6:=127) (cN:=127) (ty:=3) (A:=⟨b,0+(i+1)*1,none⟩) (dl:=s.len+1-(i+1)) (nO:=s.cap-(i+1)) (n:=s.len-i) h1 K E (x:=⟨some ⟨b,0+i*1,none⟩,s.len+1-i,s.cap-i⟩) ((Nat.min_eq_right (by show _<=s.len+1-i;omega)).trans I) (xs:=vs.drop (i*1))
   (by have:=(bz.drew G).q6 (sz:=1) (o:=i*1) (n:=s.len-i) (cap:=s.cap-i) I;rw[az,cy];exact this) (by rw[cy];exact bz.b9 (bz.drew G) _ _ I aC)
  obtain⟨y,ai⟩:∃y,y=setCells w.drew ⟨b,0+(i+1)*1,none⟩ 0 (vs.drop (i*1)):=⟨_,rfl⟩;rw[←ai]at M;have aI:bz y b (gH c ((i+1)*1) (vs.drop (i*1))) 48:=by rw[ai,cy];exact(bz.drew G).j4 _
  have aJ:ad (aB s) w y:=by
   rw[ai];exact ad.mono (W:=λq=>q=b) (ad.kY (ad.drew (.refl _ _)) _ 0) (λk _ d=>⟨_,r,d.symm⟩)
  have a6:Src 1 y v xs:=N.ab aJ (λk d a7=>by obtain⟨A,ar,rfl⟩:=d;rw[am]at ar;cases ar;exact an a7);have ah:=s9 (P:=aj) (w:=y) (l6:=127) (cN:=127) (ty:=3) (A:=⟨b,0+i*1,none⟩) (dl:=s.len+1-i) (nO:=s.cap-i) (n:=1) h1 K E (x:=v) (by rw[g];exact jG I) (xs:=xs) (by have e:(⟨v.a,1,v.cap⟩:Y)=v:=(by rw[←g]);rw[e];exact a6) (by rw[cy];exact aI.b9 _ _ (by rw[iZ];omega) U);refine⟨⟨I,I⟩,⟨I,I⟩,false,w,by rw[R];exact a5,λ_=>aW ⟨⟨I,I⟩,⟨I,I⟩,_,y,by rw[R,S];exact M,⟨I,I⟩,_,_,by rw[S];exact ah,⟨s.a,s.len+1,s.cap⟩,rfl,?_,rfl,?_,λk d=>.inl d⟩,λh=>by simp at h⟩
  .have aL:bd 1 48 (setCells y ⟨b,0+i*1,none⟩ 0 xs) ⟨some b,s.len+1,s.cap⟩ (vs.take (i*1)++xs++vs.drop (i*1)):=by
    have f:(vs.take (i*1)).length=i*1:=by rw[cG,V];omega
    refine bd.mk' (aI.j4 (o:=0+i*1) _) (by simp[f,p,B];omega) I I (by rw[iZ,iZ,aq]) ?_;rw[lF _ _ _ (by rw[iZ];omega),lF _ _ _ I];have t1:(c.toList.take ((i+1)*1)++vs.drop (i*1)++c.toList.drop ((i+1)*1+(vs.drop (i*1)).length)).take (0+i*1)=vs.take (i*1):=by
     rw[cy,oW (by simp[B];omega),oW (by simp;omega),qF,ax i I,jG I]
    have t2:(c.toList.take ((i+1)*1)++vs.drop (i*1)++c.toList.drop ((i+1)*1+(vs.drop (i*1)).length)).drop (0+i*1+xs.length)=vs.drop (i*1)++c.toList.drop ((i+1)*1+(vs.drop (i*1)).length):=by
     have a8:(c.toList.take ((i+1)*1)).length=0+i*1+xs.length:=by simp;omega
     rw[cP,←a8,List.drop_left]
    rw[t1,t2,←cP,oW (by simp[f,p,B];omega),dV (by simp[f,p,B];omega)]
   rw[←r]at aL;exact aL
  .exact aJ.trans (ad.mono (W:=λq=>q=b) (ad.kY (.refl _ _) _ 0) (λk _ d=>⟨_,r,d.symm⟩))
theorem FN{s:Y}{vs:O aa}{i:Nat}{w:J}(m:bd 1 48 w s vs)(M:∀u∈vs,Plain u)(N:∀z,(Tryz.prog.info? 48).bind (·.zero)=some z->∀u∈z.cells.toList,Plain u)(hi:i<s.len)(an:s.len<=1000000):
 aR aj 205 #[s,.int .i64 (i:Int),.int .i64 ((i+1:Nat):Int)] w (λu w'=>∃p:Y,u=p/\bd 1 48 w' p (vs.take (i*1)++vs.drop ((i+1)*1))/\p.len=s.len-1/\p.a=s.a/\ad (aB s) w w'):=by
 obtain⟨h1,ao,d,h2,Q,C,D,R,ap,aq⟩:=(p5).out;obtain⟨d0,S⟩:=j2 _ Q;refine okF (af.tD s i ((i+1:Nat):Int)) aA.tD func205 ?_;(delta af.tD ak br;dsimp only);have ar:=m.2.1;have U:=m.2.2.1;have E:=m.1;rcases m.2.2.2 with ⟨_,hc⟩|⟨b,c,f,V,F,G⟩
 .omega
 have au:c.toList.length=s.cap*1:=by simpa using F
 simp only[dd,oP,w6];have X:vs.drop ((i+1)*1)=(c.toList.drop ((i+1)*1)).take ((s.len-(i+1))*1):=by rw[←G,List.drop_take,show s.len*1-(i+1)*1=(s.len-(i+1))*1 from I]
 have e:(vs.drop ((i+1)*1)).length=(s.len-(i+1))*1:=by rw[da,E];omega
 have Z:vs.take (i*1)=c.toList.take (i*1):=by rw[←G,qF,jG I]
 have l:(vs.take (i*1)).length=i*1:=by rw[cG,E];omega
 have ab:∀u∈vs.drop ((i+1)*1),Plain u:=λu hu=>M u (fg hu);have t:bz w.drew b c 48:=bz.drew V;have ac:Src 1 w.drew ⟨aP s.a 1 (i+1) s.cap,s.len-(i+1),s.cap-(i+1)⟩ (vs.drop ((i+1)*1)):=by
  by_cases he:i+1=s.cap
  .have v:s.len-(i+1)=0:=by omega
   refine⟨by rw[e],λ_=>lp.1 (by rw[e,v,Nat.zero_mul]),λa _=>?_⟩;have:vs.drop ((i+1)*1)=[]:=lp.1 (by rw[e,v,Nat.zero_mul]);rw[this];show cA _ _ 0 ((s.len-(i+1))*1)=_;rw[v,Nat.zero_mul];rfl
  .rw[f,s6 I,X,cy]
   exact t.q6 I
 have x:=wV (P:=aj) (gw:= #[127,127]) (cM:=127) (s:=⟨s.a,i,s.cap⟩) rfl rfl h1 h1 S R ac (by show i+(s.len-(i+1))<=s.cap;omega) (λa r=>by
  have r:s.a=some a:=r;rw[f]at r;cases r;rw[aw,cy];exact t.b9 _ _ (by show i*1+_<=_;omega) ab)
 have ae:i+(s.len-(i+1))=s.len-1:=by omega
 simp only[f,aw,cy,ae]at x;obtain⟨g,y⟩:∃g,g=setCells w.drew ⟨b,i*1,none⟩ 0 (vs.drop ((i+1)*1)):=⟨_,rfl⟩;rw[←y]at x;have H:bz g b (gH c (i*1) (vs.drop ((i+1)*1))) 48:=by rw[y];exact t.j4 _
 have ag:ad (aB s) w g:=by
  rw[y];exact ad.mono (W:=λq=>q=b) (ad.kY (ad.drew (.refl _ _)) _ 0) (λk _ B=>⟨_,f,B.symm⟩)
 obtain⟨zs,av,ah⟩:=Ei (P:=aj) (w:=g) (T:=127) (o:=0) (n:=1) (c:=s.cap-(s.len-1)) (A:=⟨b,(s.len-1)*1,none⟩) h1 h2 C D (by decide) (λzs K=>by
  refine H.b9 _ _ (by rw[K,iZ];simp[Builtin.zeroCells,D];omega) λu hu=>?_;rw[K]at hu;simp only[Builtin.zeroCells,Array.toList_map,eC]at hu;obtain⟨j,L,rfl⟩:=hu;have L:j<1*d.cells.size:=by simpa using L
  have ai:j%d.cells.size<d.cells.size:=g7 _ I;have hg:d.cells[j%d.cells.size]! =d.cells[j%d.cells.size]:=getElem!_pos d.cells (j%d.cells.size) ai;rw[hg];exact N d (by rw[h2];exact C) _ (by simp))
 have al:aP (some (Addr.mk b 0 none)) 1 (s.len-1) s.cap=some ⟨b,(s.len-1)*1,none⟩:=by rw[s6 I,cy]
 have am:s.len-(s.len-1)=1:=by omega
 refine⟨⟨I,I⟩,⟨I,I⟩,⟨I,I⟩,λh=>?_,λ_=>aW ⟨⟨I,I⟩,⟨I,I⟩,⟨some b,s.len-1,s.cap⟩,g,by rw[f];exact x,⟨I,by show(s.len:Int)<=(s.cap:Int);omega⟩,⟨I,by show((s.len-1:Nat):Int)<=(s.len:Int);omega⟩,_,_,by rw[am,al];exact ah,⟨some b,s.len-1,s.cap⟩,rfl,?_,rfl,f.symm,?_⟩⟩
 .have:=eq_of_beq h;omega
 .refine bd.mk' (H.j4 _) (by simp[l,e];omega) I U (by rw[iZ,iZ,F]) ?_
  rw[lF _ _ _ (by rw[iZ];omega),lF _ _ _ I];have t1:(c.toList.take (i*1)++vs.drop ((i+1)*1)++c.toList.drop (i*1+(vs.drop ((i+1)*1)).length)).take ((s.len-1)*1)=vs.take (i*1)++vs.drop ((i+1)*1):=by
   rw[←Z,oW (by simp[l,e];omega),dV (by simp[l,e];omega)]
  rw[t1,cP,oW (by simp[l,e];omega),dV (by simp[l,e];omega)]
 .exact ag.trans (ad.mono (W:=λq=>q=b) (ad.kY (.refl _ _) _ 0) (λk _ B=>⟨_,f,B.symm⟩))
theorem rK{w:J}{s:Y}{ds:O Nat}(h:Src 1 w s (ee ds))(g:ds.length<=1000000):
 aR aj 245 #[s] w (λv w'=>∃b:Y,v=b/\bd 1 3 w' b (ee ds)/\Ext w w'/\gU w b):=by
 have i:s.len=ds.length:=by have:=h.len;rw[nc]at this;omega
 refine okF (af.tI s) aA.tI func245 ?_;delta af.tI ak U;refine⟨λc=>?_,λ_=>?_⟩
 .have c:s.a=none:=by simpa using c
  rw[h.nil c];exact⟨⟨none,0,0⟩,rfl,bd.none _ _ _,.refl _ _,λk d=>(gk k d).elim⟩
 .obtain⟨b,w',h1,h2,j,e,f,_⟩:=p6.clone (cM:=58) h (xM ds) I
  exact aW ⟨b,w',h1,b,rfl,h2,e,f⟩
theorem FO{ks:O Key}{k:Key}{a:Nat}(d:a<=ks.length)(h1:∀ (j:Nat) (h:j<ks.length),j<a->bK ks[j] k)(h2:∀ (j:Nat) (h:j<ks.length),a<=j->¬bK ks[j] k):cO ks k=a:=by
 unfold cO;rcases dO a ks.length with h|h
 .exact(List.findIdx_eq h).2 ⟨dP (h2 a h (bl _)),λj b=>jq λc=>c (h1 j I b)⟩
 .have:a=ks.length:=by omega
  subst this;refine List.findIdx_eq_length_of_false λx hx=>?_;obtain⟨j,b,rfl⟩:=fi hx;exact jq λc=>c (h1 j b b)
def hA(ks:O Key)(k:Key):ai:=decide (ks[cO ks k]? =some k)
theorem FP{B C:Nat->Prop}{s t:Y}{ks:O Key}{key:Key}{w:J}(hs:bq B w s ks)(ht:Src 1 w t (aJ key))(x:ks.Pairwise bK)(N:ks.length<=100000):
 aR aj 240 #[s,t,.func (.func 176) #[] #[]] w (λv w'=>v=.tuple #[.int .i64 ((cO ks key:Nat):Int),.bool (hA ks key)]/\w=w'):=by
 refine okF (af.tF s t ⟨176,#[],#[]⟩) aA.tF func240 ?_;(delta af.tF ak av ag aL;dsimp only);have y:=bq.len hs;have o:iC aj 176:=⟨_,(Option.some_get (show(Tryz.prog.funcs[176]?).isSome=true by kernel_rfl)).symm,by kernel_rfl,by kernel_rfl⟩;have aK:=λ{i j:Nat} (hi:i<j) (e:j<ks.length)=>mK.1 x i j I e hi;refine⟨λlo hi w'=>∃a b:Nat,lo=a/\hi=b/\a<=b/\b<=ks.length/\w=w'/\(∀ (j:Nat) (h:j<ks.length),j<a->bK ks[j] key)/\(∀ (j:Nat) (h:j<ks.length),b<=j->¬bK ks[j] key),λlo hi _=>(hi-lo).toNat,
  ⟨0,ks.length,rfl,by rw[y],cL _,bl _,rfl,λj _ h=>I,λj h h2=>I⟩,?_⟩
 rintro _ _ _ ⟨a,b,rfl,rfl,P,p,rfl,h1,h2⟩;have z:=Ej (a:=a) (b:=b) I;refine⟨λh=>?_,λh=>?_⟩
 .have D:(a:Int)<(b:Int):=b8 h
  rw[z];obtain⟨m,E⟩:∃m,m=(a+b)/2:=⟨_,rfl⟩;rw[←E];have F:a<=m:=by omega
  have Q:m<b:=by omega
  obtain⟨A,t2,ar,f,g,k,_⟩:=bq.at hs (i:=m) I;refine⟨by decide,A,ar,f,t2,g,o,(kB k.1 ht).use ?_⟩;rintro _ _ ⟨rfl,rfl⟩;have G:IntKind.wrap .i64 ((m:Int)+1)=((m+1:Nat):Int):=by rw[bA I I];rfl
  refine⟨_,rfl,λhc=>?_,λhc=>?_⟩
  .have hc:bK ks[m] key:=b8 hc
   rw[G];have l:((b:Int)-((m+1:Nat):Int)).toNat<((b:Int)-(a:Int)).toNat:=by omega
   refine⟨⟨m+1,b,rfl,rfl,I,p,rfl,λj e H=>?_,h2⟩,l⟩;rcases dO j m with d|d
   .exact lH (aK d I) hc
   .have:j=m:=by omega
    subst this;exact hc
  .have hc:¬bK ks[m] key:=cv hc
   have l:((m:Int)-(a:Int)).toNat<((b:Int)-(a:Int)).toNat:=by omega
   refine⟨⟨a,m,rfl,rfl,F,I,rfl,h1,λj e H=>?_⟩,l⟩;rcases dO m j with d|d
   .exact λK=>hc (lH (aK d e) K)
   .have:j=m:=by omega
    subst this;exact hc
 .have L:¬(a:Int)<(b:Int):=cv h
  have M:b=a:=by omega
  subst M;have n:cO ks key=b:=FO p h1 h2;refine cq (λc w'=>w=w'/\c=hA ks key) (λq r=>⟨λh=>?_,λh=>?_⟩) ?_
  .have D:(b:Int)<(s.len:Int):=b8 h
   have u:b<ks.length:=by omega
   obtain⟨A,t2,ar,f,g,k,_⟩:=bq.at hs u;refine⟨A,ar,f,t2,g,o,(kB k.1 ht).use ?_⟩;rintro _ _ ⟨rfl,rfl⟩;refine⟨_,rfl,r _ _ ⟨rfl,?_⟩⟩;unfold hA;rw[n,fY,cS,kn,dE u,EV];exact⟨λh=>by rw[h],λh=>Option.some.inj h⟩
  .have L:¬(b:Int)<(s.len:Int):=cv h
   refine r _ _ ⟨rfl,?_⟩;unfold hA;rw[n,kp I];simp
  .rintro _ _ ⟨rfl,rfl⟩
   exact⟨by rw[n],rfl⟩
theorem l7{B:Nat->Prop}{w:J}{n:aD}{K V D t:Y}{key:Key}(h:bF B w n K V D)(ht:Src 1 w t (aJ key))(b:n.keys.Pairwise bK)(c:n.keys.length<=100000):
 aR aj 198 #[c2 n K V D,t] w (λv w'=>v=.tuple #[.int .i64 ((cO n.keys key:Nat):Int),.bool (hA n.keys key)]/\Ext w w'):=by
 refine okF (af.l7 n.leaf K V D t) aA.l7 func198 ?_;(delta af.l7 ag U g0;dsimp only);refine bh (vs:=[n.leaf,K,V,D]) rfl λw1 d a _=>?_;obtain⟨bX,aC,aU,aO⟩:=bH d;refine⟨K,aC,(FP (B:=B) (C:=B) (h.keys.ext a) (ht.ext a) b c).use ?_⟩;rintro _ _ ⟨rfl,rfl⟩;exact⟨_,_,rfl,rfl,a⟩
theorem pF{B:Nat->Prop}{w:J}{n:aD}{K V D t:Y}{key:Key}(h:bF B w n K V D)(ht:Src 1 w t (aJ key))(b:n.keys.Pairwise bK)(c:n.keys.length<=100000):
 aR aj 143 #[c2 n K V D,t] w (λv w'=>v=.tuple #[.int .i64 ((cO n.keys key:Nat):Int),.bool (hA n.keys key)]/\Ext w w'):=by
 refine okF (af.pF n.leaf K V D t) aA.pF func143 ?_;(delta af.pF bc U ag g0;dsimp only);refine bh (vs:=[n.leaf,K,V,D]) rfl λw1 d a _=>?_;obtain⟨bX,aC,aU,aO⟩:=bH d;refine⟨_,bX,K,aC,V,aU,D,aO,(l7 (h.ext a) (ht.ext a) b c).use ?_⟩;rintro _ _ ⟨rfl,e⟩;exact⟨_,_,rfl,rfl,a.trans e⟩
theorem FQ{ks:O Key}(e:ks.Pairwise bK)(k:Key):dt ks k=if hA ks k then cO ks k+1 else cO ks k:=by
 have f:=p0 ks k;have key:∀a,a<=ks.length->(∀ (j:Nat) (h:j<ks.length),j<a->¬bK k ks[j])->(∀h:a<ks.length,bK k ks[a])->dt ks k=a:=by
  intro a g h1 h2;unfold dt;rcases dO a ks.length with h|h
  .exact(List.findIdx_eq h).2 ⟨dP (h2 h),λj b=>jq (h1 j I b)⟩
  .have:a=ks.length:=by omega
   subst this;refine List.findIdx_eq_length_of_false λx hx=>?_;obtain⟨j,b,rfl⟩:=fi hx;exact jq (h1 j b b)
 split
 .rename_i c
  have c:ks[cO ks k]? =some k:=b8 c;obtain⟨aK,he⟩:=iy.1 c;refine key _ aK (λj b h=>?_) λh=>?_
  .rcases dO j (cO ks k) with d|d
   .exact j6 (oh d b)
   .have:j=cO ks k:=by omega
    subst this;rw[he];exact l_ _
  .have:=mK.1 e _ _ aK h (Nat.lt_succ_self _)
   rwa[he]at this
 .rename_i c
  have c:¬ks[cO ks k]? =some k:=λh=>c (dP h);refine key _ f (λj b h=>j6 (oh h b)) λh=>?_;rcases od.1 (p1 e (bl _) h) with d|d
  .exact d
  .exact absurd ((dE h).trans (congrArg some d.symm)) c
theorem nZ{B:Nat->Prop}{w:J}{n:aD}{K V D t:Y}{key:Key}(h:bF B w n K V D)(ht:Src 1 w t (aJ key))(b:n.keys.Pairwise bK)(e:n.keys.length<=100000):
 aR aj 197 #[c2 n K V D,t] w (λv w'=>v=.int .i64 ((dt n.keys key:Nat):Int)/\Ext w w'):=by
 refine okF (af.nZ n.leaf K V D t) aA.nZ func197 ?_;(delta af.nZ bc U ag g0 ak av;dsimp only);refine bh (vs:=[n.leaf,K,V,D]) rfl λw1 f a _=>?_;obtain⟨bX,aC,aU,aO⟩:=bH f;have i:=p0 n.keys key;refine⟨_,bX,K,aC,V,aU,D,aO,(l7 (h.ext a) (ht.ext a) b e).use ?_⟩;rintro _ ah ⟨rfl,g⟩;rw[FQ b];refine⟨_,_,rfl,cq (λc w'=>ah=w'/\c=((if hA n.keys key then cO n.keys key+1 else cO n.keys key:Nat):Int)) (λq d=>⟨λh=>d _ _ ⟨rfl,?_⟩,λh=>d _ _ ⟨rfl,?_⟩⟩) ?_⟩
 .rw[if_pos h,bA I I];rfl
 .rw[if_neg (by simp[h])]
 .rintro _ _ ⟨rfl,rfl⟩
  exact⟨rfl,a.trans g⟩
structure hY(lo:Nat)(w:J)(aE:Nat)(n:aD)(K V D:Y)(bT b6 bN:Nat->Prop):Prop where
 v:Var w aE [n.leaf,K,V,D] 202
 keys:bu bT w K n.keys
 vals:bu b6 w V n.vals
 kids:cR bN w D n.kids
 bo:∀q,bT q->lo<=q/\q<w.heap.size/\q≠aE/\¬b6 q/\¬bN q
 bv:∀q,b6 q->lo<=q/\q<w.heap.size/\q≠aE/\¬bN q
 aL:∀q,bN q->lo<=q/\q<w.heap.size/\q≠aE
 mh:lo<=aE
structure e5(lo:Nat)(w:J)(n:aD)(K V D:Y)(bT b6 bN:Nat->Prop):Prop where
 keys:bu bT w K n.keys
 vals:bu b6 w V n.vals
 kids:cR bN w D n.kids
 bo:∀q,bT q->lo<=q/\q<w.heap.size/\¬b6 q/\¬bN q
 bv:∀q,b6 q->lo<=q/\q<w.heap.size/\¬bN q
 aL:∀q,bN q->lo<=q/\q<w.heap.size
section
variable {lo:Nat}{w w':J}{aE:Nat}{n:aD}{K V D:Y}{bT b6 bN:Nat->Prop}
theorem hY.mem(h:hY lo w aE n K V D bT b6 bN):e5 lo w n K V D bT b6 bN:=⟨h.keys,h.vals,h.kids,λq a=>⟨(h.bo q a).1,(h.bo q a).2.1,(h.bo q a).2.2.2⟩,λq a=>⟨(h.bv q a).1,(h.bv q a).2.1,(h.bv q a).2.2.2⟩,λq a=>⟨(h.aL q a).1,(h.aL q a).2.1⟩⟩
theorem e5.ab{W:Nat->Prop}(h:e5 lo w n K V D bT b6 bN)(hc:ad W w w')(cd:∀q,lo<=q->q<w.heap.size->bT q\/b6 q\/bN q->¬W q):e5 lo w' n K V D bT b6 bN:=by
 have hs:=hc.size;refine⟨bu.ab h.keys hc λq a=>cd q (h.bo q a).1 (h.bo q a).2.1 (.inl a),bu.ab h.vals hc λq a=>cd q (h.bv q a).1 (h.bv q a).2.1 (.inr (.inl a)),cR.ab h.kids hc λq a=>cd q (h.aL q a).1 (h.aL q a).2 (.inr (.inr a)),λq a=>?_,λq a=>?_,λq a=>?_⟩
 .have:=h.bo q a;exact⟨this.1,I,this.2.2⟩
 .have:=h.bv q a;exact⟨this.1,I,this.2.2⟩
 .have:=h.aL q a;exact⟨this.1,I⟩
theorem e5.ext(h:e5 lo w n K V D bT b6 bN)(hc:Ext w w'):e5 lo w' n K V D bT b6 bN:=h.ab hc λ_ _ _ _ h=>h
theorem hY.ext(h:hY lo w aE n K V D bT b6 bN)(hx:Ext w w'):hY lo w' aE n K V D bT b6 bN:=
 ⟨h.v.ext hx,bu.ext h.keys hx,bu.ext h.vals hx,cR.ext h.kids hx,λq a=>⟨(h.bo q a).1,fU (h.bo q a).2.1 hx.size,(h.bo q a).2.2⟩,λq a=>⟨(h.bv q a).1,fU (h.bv q a).2.1 hx.size,(h.bv q a).2.2⟩,λq a=>⟨(h.aL q a).1,fU (h.aL q a).2.1 hx.size,(h.aL q a).2.2⟩,h.mh⟩
theorem e5.at(h:e5 lo w n K V D bT b6 bN):bF (λq=>lo<=q) w n K V D:=
 ⟨bq.aY (bu.iN h.keys) λq _ a=>(h.bo q a).1,bq.aY (bu.iN h.vals) λq _ a=>(h.bv q a).1,cK.aY (cR.p4 h.kids) λq _ a=>(h.aL q a).1⟩
theorem e5.low{c:Nat}(h:e5 lo w n K V D bT b6 bN)(b:c<=lo):e5 c w n K V D bT b6 bN:=
 ⟨h.keys,h.vals,h.kids,λq a=>⟨eK b (h.bo q a).1,(h.bo q a).2⟩,λq a=>⟨eK b (h.bv q a).1,(h.bv q a).2⟩,λq a=>⟨eK b (h.aL q a).1,(h.aL q a).2⟩⟩
end
theorem xR{lo:Nat}{w:J}{aE:Nat}{n:aD}{K V D t:Y}{l:Key}{bT b6 bN:Nat->Prop}(h:hY lo w aE n K V D bT b6 bN)(ht:Src 1 w t (aJ l))(U:l.length<=100000)(E:n.keys.length<=100000){R:J->Prop}
 (F:∀ (w':J) (G:Y) (x:Nat->Prop),hY lo w' aE {n with keys:=n.keys++ [l]} G V D x b6 bN->ad (λq=>q=aE\/bT q) w w'->(∀q,x q->bT q\/w.heap.size<=q)->R w'):
 al w.drew λj=>∃m:Nat->Prop,¬m (Addr.add aE 1).block/\∃g:Y,j.cell? (Addr.add aE 1)=some (.slice g.a g.len g.cap)/\
  Calls aj 135 #[t] j λH d=>∃y:Y,H=.returned y/\ad m j d/\
  al (d.alloc (.cells #[y] 48)) λz=>ad m d z/\∃A:Y,∃i:J,Sem.run aj (Builtin.append_ #[127,127] 127 #[g,.slice (some d.heap.size) 1 1]) z=.ok A i/\
  (∃u:aa,i.cell? (Addr.add aE 1)=some u)/\i.frozen? (Addr.add aE 1)=false/\al (i.setCell (Addr.add aE 1) A) λL=>R L:=by
 have W:=h.mh;have X:=h.v.lt;have p:=cf w;obtain⟨bX,aC,aU,aO⟩:=bH (h.v.ext p);refine aW ⟨λ_=>False,id,K,aC,(kF (B:=λq=>w.heap.size<=q) (ht.ext p) I (λq b=>b)).use ?_⟩;rintro _ d ⟨M,rfl,C,hx,hf⟩;have e:=p.trans hx;have Z:w.drew.heap.size=w.heap.size:=rfl;have N:=e.size;have O:=bu.ext h.keys e;have dR:=bu.ext h.vals e;have P:=cR.ext h.kids e;refine⟨M,rfl,hx,vF (B:=Grow bT w.drew d) (h.v.ext e) (o:=1) (by simp) (bu.aY O λk _ h=>.inl h) ?_ (a_.aY C λk c h=>.inr ⟨h,c⟩) ?_ E λw' ax au ay f=>?_⟩
 .rintro(h1|h1)
  .exact(h.bo aE h1).2.2.1 rfl
  .omega
 .intro k Q S
  obtain⟨ts,_,_,r,_⟩:=h.keys;have:=(r k S).2;have:=(C.2.2 k Q).1;omega
 have T:∀q,Grow (Grow bT w.drew d) d w' q->bT q\/(w.heap.size<=q/\q<w'.heap.size):=by
  rintro q ((h1|h1)|h1)
  .exact .inl h1
  .exact .inr ⟨h1.1,fU h1.2 f.size⟩
  .exact .inr ⟨eK N h1.1,h1.2⟩
 have hg:=f.size;have s:∀q,aB K q->bT q:=λq b=>by
  obtain⟨ts,_,_,r,_⟩:=h.keys;exact(r q b).1
 refine F w' ax (λq=>bT q\/(w.heap.size<=q/\q<w'.heap.size)) ⟨by simpa using au,bu.aY ay λk _ c=>T k c,bu.ab dR f ?_,cR.ab P f ?_,?_,λq b=>?_,λq b=>?_,h.mh⟩ ?_ ?_
 .rintro q b (h1|h1)
  .exact(h.bv q b).2.2.1 h1
  .exact(h.bo q (s q h1)).2.2.2.1 b
 .rintro q b (h1|h1)
  .exact(h.aL q b).2.2 h1
  .exact(h.bo q (s q h1)).2.2.2.2 b
 .rintro q (h1|h1)
  .have:=h.bo q h1;exact⟨this.1,I,this.2.2⟩
  .exact⟨I,h1.2,I,λh2=>by have:=h.bv q h2;omega,λh2=>by have:=h.aL q h2;omega⟩
 .have:=h.bv q b;exact⟨this.1,I,this.2.2⟩
 .have:=h.aL q b;exact⟨this.1,I,this.2.2⟩
 .refine(ad.cJ e).trans (f.mono λk _ c=>?_)
  rcases c with c|c
  .exact .inl c
  .exact .inr (s k c)
 .rintro q (h1|h1)
  .exact .inl h1
  .exact .inr h1.1
theorem Bf{lo:Nat}{w:J}{aE:Nat}{n:aD}{K V D t:Y}{l:Key}{bT b6 bN:Nat->Prop}(h:hY lo w aE n K V D bT b6 bN)(ht:Src 1 w t (aJ l))(U:l.length<=100000)(E:n.vals.length<=100000){R:J->Prop}
 (F:∀ (w':J) (G:Y) (x:Nat->Prop),hY lo w' aE {n with vals:=n.vals++ [l]} K G D bT x bN->ad (λq=>q=aE\/b6 q) w w'->(∀q,x q->b6 q\/w.heap.size<=q)->R w'):
 al w.drew λj=>∃m:Nat->Prop,¬m (Addr.add aE 2).block/\∃g:Y,j.cell? (Addr.add aE 2)=some (.slice g.a g.len g.cap)/\
  Calls aj 135 #[t] j λH d=>∃y:Y,H=.returned y/\ad m j d/\
  al (d.alloc (.cells #[y] 48)) λz=>ad m d z/\∃A:Y,∃i:J,Sem.run aj (Builtin.append_ #[127,127] 127 #[g,.slice (some d.heap.size) 1 1]) z=.ok A i/\
  (∃u:aa,i.cell? (Addr.add aE 2)=some u)/\i.frozen? (Addr.add aE 2)=false/\al (i.setCell (Addr.add aE 2) A) λL=>R L:=by
 have W:=h.mh;have X:=h.v.lt;have p:=cf w;obtain⟨bX,aC,aU,aO⟩:=bH (h.v.ext p);refine aW ⟨λ_=>False,id,V,aU,(kF (B:=λq=>w.heap.size<=q) (ht.ext p) I (λq b=>b)).use ?_⟩;rintro _ d ⟨M,rfl,C,hx,hf⟩;have e:=p.trans hx;have Z:w.drew.heap.size=w.heap.size:=rfl;have N:=e.size;have O:=bu.ext h.keys e;have dR:=bu.ext h.vals e;have P:=cR.ext h.kids e;refine⟨M,rfl,hx,vF (B:=Grow b6 w.drew d) (h.v.ext e) (o:=2) (by simp) (bu.aY dR λk _ h=>.inl h) ?_ (a_.aY C λk c h=>.inr ⟨h,c⟩) ?_ E λw' ax au ay f=>?_⟩
 .rintro(h1|h1)
  .exact(h.bv aE h1).2.2.1 rfl
  .omega
 .intro k Q S
  obtain⟨ts,_,_,r,_⟩:=h.vals;have:=(r k S).2;have:=(C.2.2 k Q).1;omega
 have T:∀q,Grow (Grow b6 w.drew d) d w' q->b6 q\/(w.heap.size<=q/\q<w'.heap.size):=by
  rintro q ((h1|h1)|h1)
  .exact .inl h1
  .exact .inr ⟨h1.1,fU h1.2 f.size⟩
  .exact .inr ⟨eK N h1.1,h1.2⟩
 have hg:=f.size;have s:∀q,aB V q->b6 q:=λq b=>by
  obtain⟨ts,_,_,r,_⟩:=h.vals;exact(r q b).1
 refine F w' ax (λq=>b6 q\/(w.heap.size<=q/\q<w'.heap.size)) ⟨by simpa using au,bu.ab O f ?_,bu.aY ay λk _ c=>T k c,cR.ab P f ?_,λq b=>?_,?_,λq b=>?_,h.mh⟩ ?_ ?_
 .rintro q b (h1|h1)
  .exact(h.bo q b).2.2.1 h1
  .exact(h.bo q b).2.2.2.1 (s q h1)
 .rintro q b (h1|h1)
  .exact(h.aL q b).2.2 h1
  .exact(h.bv q (s q h1)).2.2.2 b
 .have:=h.bo q b
  refine⟨this.1,I,this.2.2.1,?_,this.2.2.2.2⟩;rintro(h1|h1)
  .exact this.2.2.2.1 h1
  .omega
 .rintro q (h1|h1)
  .have:=h.bv q h1;exact⟨this.1,I,this.2.2⟩
  .exact⟨I,h1.2,I,λh2=>by have:=h.aL q h2;omega⟩
 .have:=h.aL q b;exact⟨this.1,I,this.2.2⟩
 .refine(ad.cJ e).trans (f.mono λk _ c=>?_)
  rcases c with c|c
  .exact .inl c
  .exact .inr (s k c)
 .rintro q (h1|h1)
  .exact .inl h1
  .exact .inr h1.1
theorem eW{B:Nat->Prop}{w0:J}{n:aD}{K V D:Y}(h:bF B w0 n K V D)(aV:n.keys.length<=100000)(aX:n.vals.length<=100000)(aZ:n.kids.length<=100000)(au:∀k∈n.keys,k.length<=100000)(aw:∀v∈n.vals,v.length<=100000):
 aR aj 204 #[c2 n K V D] w0 (λv w'=>∃ (K V D:Y) (bT b6 bN:Nat->Prop),v=c2 n K V D/\e5 w0.heap.size w' n K V D bT b6 bN/\Ext w0 w'):=by
 refine okF (af.eW n.leaf K V D) aA.eW func204 ?_;(delta af.eW cj U bc ag ba gI xk ak Av aL st av Aw gJ tn;dsimp only);have aG:bF (λq=>q<w0.heap.size) w0 n K V D:=h.aY λq a _=>a;have a0:=bq.len h.keys;have a1:=bq.len h.vals;refine bh (vs:=[n.leaf,K,V,D]) rfl λw1 aH aI a2=>?_;refine bh (vs:=[false,(),(),()]) rfl λah aJ ax a3=>aW ?_;have X:=cf ah;have a4:ah.drew.heap.size=ah.heap.size:=rfl;have L:=(aH.ext ax).ext X;have ay:=aJ.ext X;have Z:=aI.trans (ax.trans X);obtain⟨aM,a5,a6,aN⟩:=bH L;have T:=aG.ext Z;obtain⟨lo,a7⟩:∃lo,lo=ah.heap.size:=⟨_,rfl⟩;refine⟨λ_=>False,id,_,aM,id,D,aN,⟨?_,?_⟩⟩
 .refine(rK T.kids.1 I).use ?_
  rintro _ H ⟨az,rfl,y,x,aa⟩;have aP:=x.size;refine⟨az,rfl,x,#[n.leaf,(),(),az],(λw=>by kernel_rfl),?_⟩;refine bh (vs:=[false,(),(),()]) rfl λaB W z aQ=>?_;refine⟨z,W.b9 rfl ?_,rfl,cr W (us:=[n.leaf,(),(),az]) rfl rfl λg M C aS=>?_⟩
  .intro v N
   simp only[cU,eL,eO]at N;rcases N with rfl|rfl|rfl|rfl<;>trivial
  obtain⟨aE,ac⟩:∃aE,aE=H.heap.size:=⟨_,rfl⟩;rw[←ac]at M C⊢;obtain⟨bN,r⟩:∃bN:Nat->Prop,bN=λq=>ah.heap.size<=q/\q<H.heap.size:=⟨_,rfl⟩;have ae:cR bN H az n.kids:=by subst r;exact⟨y,λk l=>⟨⟨aa k l,y.lt k l⟩,y.lt k l⟩⟩
  have m:ad (λq=>lo<=q) ah.drew g:=(ad.cJ (x.trans z)).trans (C.mono λk _ l=>I);have ai:hY lo g aE ⟨n.leaf,[],[],n.kids⟩ bk bk az (λ_=>False) (λ_=>False) bN:=⟨M,bu.none _ _,bu.none _ _,cR.ab (cR.ext ae z) C (λq a e=>by subst r;have a:=a.2;omega),λq h=>h.elim,λq h=>h.elim,λq a=>(by subst r;obtain⟨h1,h2⟩:=a;exact⟨I,I,I⟩),I⟩;clear r;obtain⟨bX,aC,aU,aO⟩:=bH (L.ab m I);have O:bF (λq=>q<w0.heap.size) g n K V D:=T.ab m λq a h=>by omega
  have al:=ay.ab m I;refine⟨K,aC,λi w'=>∃ (j:Nat) (d:Y) (bT:Nat->Prop),i=j/\j<=n.keys.length/\hY lo w' aE ⟨n.leaf,n.keys.take j,[],n.kids⟩ d bk az bT (λ_=>False) bN/\ad (λq=>lo<=q) g w',λi _=>((n.keys.length:Int)-i).toNat,⟨0,bk,_,rfl,cL _,ai,ad.refl _ _⟩,?_⟩;rintro _ P ⟨j,d,bT,rfl,am,o,s⟩;have an:bF (λq=>q<w0.heap.size) P n K V D:=O.ab s λq a h=>by omega
  refine⟨λaK=>?_,λc=>?_⟩
  .have aK:j<n.keys.length:=by have:=b8 aK;omega
   obtain⟨A,t,ar,E,hc,ht,_⟩:=bq.at an.keys aK;refine⟨A,ar,E,t,hc,xR o ht.1 (au _ (cF aK)) (by show(n.keys.take j).length<=_;rw[cG];omega) λw' cI ao st F _=>?_⟩;have G:ad (λq=>lo<=q) P w':=F.mono λq _ a=>by
    rcases a with a|a
    .have:=o.mh;omega
    .exact(o.bo q a).1
   rw[bA (n:=(j:Int)+1) I I];refine⟨⟨j+1,cI,ao,I,I,?_,s.trans G⟩,?_⟩
   .rw[take_succ _ aK];exact st
   .show((n.keys.length:Int)-((j:Int)+1)).toNat<((n.keys.length:Int)-(j:Int)).toNat
    omega
  have c:j=n.keys.length:=by have:=cv c;omega
  subst c;rw[iV]at o;obtain⟨bX,aC,aU,aO⟩:=bH ((L.ab m I).ab s I);refine⟨V,aU,λi w'=>∃ (j:Nat) (p:Y) (b6:Nat->Prop),i=j/\j<=n.vals.length/\hY lo w' aE ⟨n.leaf,n.keys,n.vals.take j,n.kids⟩ d p az bT b6 bN/\ad (λq=>lo<=q) g w',λi _=>((n.vals.length:Int)-i).toNat,⟨0,bk,_,rfl,cL _,o,s⟩,?_⟩;rintro _ R ⟨j,p,b6,rfl,am,f,u⟩;have ap:bF (λq=>q<w0.heap.size) R n K V D:=O.ab u λq a h=>by omega
  refine⟨λaK=>?_,λc=>?_⟩
  .have aK:j<n.vals.length:=by have:=b8 aK;omega
   obtain⟨A,t,ar,E,hc,ht,_⟩:=bq.at ap.vals aK;refine⟨A,ar,E,t,hc,Bf f ht.1 (aw _ (cF aK)) (by show(n.vals.take j).length<=_;rw[cG];omega) λw' cQ aq st F _=>?_⟩;have G:ad (λq=>lo<=q) R w':=F.mono λq _ a=>by
    rcases a with a|a
    .have:=f.mh;omega
    .exact(f.bv q a).1
   rw[bA (n:=(j:Int)+1) I I];refine⟨⟨j+1,cQ,aq,I,I,?_,u.trans G⟩,?_⟩
   .rw[take_succ _ aK];exact st
   .show((n.vals.length:Int)-((j:Int)+1)).toNat<((n.vals.length:Int)-(j:Int)).toNat
    omega
  have c:j=n.vals.length:=by have:=cv c;omega
  subst c;rw[iV]at f;obtain⟨d0,d1,d2,d3⟩:=bH f.v;refine⟨_,d0,d,d1,p,d2,az,d3,je n.leaf d p az (al.ab u I) rfl (Q:=λb K V D ah=>(λv w'=>∃ (K V D:Y) (bT b6 bN:Nat->Prop),v=c2 n K V D/\e5 w0.heap.size w' n K V D bT b6 bN/\Ext w0 w') (.agg #[b,K,V,D]) ah) λaT S=>⟨d,p,az,bT,b6,bN,rfl,?_,?_⟩⟩
  .exact(e5.ab f.mem S λq a _ _ h=>I).low I
  .exact Ext.cn (Ext.dy Z (m.trans u) λk l=>I) S I
 .refine bh (vs:=[false,(),(),()]) rfl λaB W z aQ=>⟨z,?_⟩
  refine(rK (T.kids.ext z).1 I).use ?_;rintro _ H ⟨az,rfl,y,x,aa⟩;have aP:=x.size;have aF:=W.ext x;refine⟨az,rfl,x,#[n.leaf,(),(),az],(λw=>by kernel_rfl),?_⟩;refine⟨aF.b9 rfl ?_,rfl,cr aF (us:=[n.leaf,(),(),az]) rfl rfl λg M C aS=>?_⟩
  .intro v N
   simp only[cU,eL,eO]at N;rcases N with rfl|rfl|rfl|rfl<;>trivial
  obtain⟨aE,ac⟩:∃aE,aE=ah.drew.heap.size:=⟨_,rfl⟩;rw[←ac]at M C⊢;obtain⟨bN,r⟩:∃bN:Nat->Prop,bN=λq=>aB.heap.size<=q/\q<H.heap.size:=⟨_,rfl⟩;have ae:cR bN H az n.kids:=by subst r;exact⟨y,λk l=>⟨⟨aa k l,y.lt k l⟩,y.lt k l⟩⟩
  have m:ad (λq=>lo<=q) ah.drew g:=(ad.cJ (z.trans x)).trans (C.mono λk _ l=>I);have ai:hY lo g aE ⟨n.leaf,[],[],n.kids⟩ bk bk az (λ_=>False) (λ_=>False) bN:=⟨M,bu.none _ _,bu.none _ _,cR.ab ae C (λq a e=>by subst r;have a:=a.1;omega),λq h=>h.elim,λq h=>h.elim,λq a=>(by subst r;obtain⟨h1,h2⟩:=a;exact⟨I,I,I⟩),I⟩;clear r;obtain⟨bX,aC,aU,aO⟩:=bH (L.ab m I);have O:bF (λq=>q<w0.heap.size) g n K V D:=T.ab m λq a h=>by omega
  have al:=ay.ab m I;refine⟨K,aC,λi w'=>∃ (j:Nat) (d:Y) (bT:Nat->Prop),i=j/\j<=n.keys.length/\hY lo w' aE ⟨n.leaf,n.keys.take j,[],n.kids⟩ d bk az bT (λ_=>False) bN/\ad (λq=>lo<=q) g w',λi _=>((n.keys.length:Int)-i).toNat,⟨0,bk,_,rfl,cL _,ai,ad.refl _ _⟩,?_⟩;rintro _ P ⟨j,d,bT,rfl,am,o,s⟩;have an:bF (λq=>q<w0.heap.size) P n K V D:=O.ab s λq a h=>by omega
  refine⟨λaK=>?_,λc=>?_⟩
  .have aK:j<n.keys.length:=by have:=b8 aK;omega
   obtain⟨A,t,ar,E,hc,ht,_⟩:=bq.at an.keys aK;refine⟨A,ar,E,t,hc,xR o ht.1 (au _ (cF aK)) (by show(n.keys.take j).length<=_;rw[cG];omega) λw' cI ao st F _=>?_⟩;have G:ad (λq=>lo<=q) P w':=F.mono λq _ a=>by
    rcases a with a|a
    .have:=o.mh;omega
    .exact(o.bo q a).1
   rw[bA (n:=(j:Int)+1) I I];refine⟨⟨j+1,cI,ao,I,I,?_,s.trans G⟩,?_⟩
   .rw[take_succ _ aK];exact st
   .show((n.keys.length:Int)-((j:Int)+1)).toNat<((n.keys.length:Int)-(j:Int)).toNat
    omega
  have c:j=n.keys.length:=by have:=cv c;omega
  subst c;rw[iV]at o;obtain⟨bX,aC,aU,aO⟩:=bH ((L.ab m I).ab s I);refine⟨V,aU,λi w'=>∃ (j:Nat) (p:Y) (b6:Nat->Prop),i=j/\j<=n.vals.length/\hY lo w' aE ⟨n.leaf,n.keys,n.vals.take j,n.kids⟩ d p az bT b6 bN/\ad (λq=>lo<=q) g w',λi _=>((n.vals.length:Int)-i).toNat,⟨0,bk,_,rfl,cL _,o,s⟩,?_⟩;rintro _ R ⟨j,p,b6,rfl,am,f,u⟩;have ap:bF (λq=>q<w0.heap.size) R n K V D:=O.ab u λq a h=>by omega
  refine⟨λaK=>?_,λc=>?_⟩
  .have aK:j<n.vals.length:=by have:=b8 aK;omega
   obtain⟨A,t,ar,E,hc,ht,_⟩:=bq.at ap.vals aK;refine⟨A,ar,E,t,hc,Bf f ht.1 (aw _ (cF aK)) (by show(n.vals.take j).length<=_;rw[cG];omega) λw' cQ aq st F _=>?_⟩;have G:ad (λq=>lo<=q) R w':=F.mono λq _ a=>by
    rcases a with a|a
    .have:=f.mh;omega
    .exact(f.bv q a).1
   rw[bA (n:=(j:Int)+1) I I];refine⟨⟨j+1,cQ,aq,I,I,?_,u.trans G⟩,?_⟩
   .rw[take_succ _ aK];exact st
   .show((n.vals.length:Int)-((j:Int)+1)).toNat<((n.vals.length:Int)-(j:Int)).toNat
    omega
  have c:j=n.vals.length:=by have:=cv c;omega
  subst c;rw[iV]at f;obtain⟨d0,d1,d2,d3⟩:=bH f.v;refine⟨_,d0,d,d1,p,d2,az,d3,je n.leaf d p az (al.ab u I) rfl (Q:=λb K V D ah=>(λv w'=>∃ (K V D:Y) (bT b6 bN:Nat->Prop),v=c2 n K V D/\e5 w0.heap.size w' n K V D bT b6 bN/\Ext w0 w') (.agg #[b,K,V,D]) ah) λaT S=>⟨d,p,az,bT,b6,bN,rfl,?_,?_⟩⟩
  .exact(e5.ab f.mem S λq a _ _ h=>I).low I
  .exact Ext.cn (Ext.dy Z (m.trans u) λk l=>I) S I
theorem bu.mk'{B:Nat->Prop}{w:J}{s:Y}{ts:O Y}{ls:O Key}(a:ts.length=ls.length)(b:bd 1 48 w s (ts.map hX))(hi:In B w s)(c:∀p∈ts.zip ls,a_ B w p.1 p.2/\∀k,aB p.1 k->¬aB s k):bu B w s ls:=by
 refine⟨ts,a,b,hi,λi h1 h2=>?_⟩;have:=c (ts[i],ls[i]) (by
  rw[List.mem_iff_getElem];exact⟨i,by rw[mI];omega,by rw[sn]⟩)
 exact this
theorem bu.out{B:Nat->Prop}{w:J}{s:Y}{ls:O Key}(h:bu B w s ls):∃ts:O Y,ts.length=ls.length/\bd 1 48 w s (ts.map hX)/\In B w s/\∀p∈ts.zip ls,a_ B w p.1 p.2/\∀k,aB p.1 k->¬aB s k:=by
 obtain⟨ts,h1,h2,a,b⟩:=h;refine⟨ts,h1,h2,a,λp c=>?_⟩;obtain⟨i,hi,rfl⟩:=List.mem_iff_getElem.1 c;rw[mI]at hi;rw[sn];exact b i I I
theorem Bg{α β:Type}(a:O α)(b:O β)(i:Nat):(a.take i).zip (b.take i)=(a.zip b).take i:=by
 rw[List.zip_eq_zipWith,List.zip_eq_zipWith,List.take_zipWith]
theorem Bh{α β:Type}(a:O α)(b:O β)(i:Nat):(a.drop i).zip (b.drop i)=(a.zip b).drop i:=by
 rw[List.zip_eq_zipWith,List.zip_eq_zipWith,List.drop_zipWith]
theorem Bi{B:Nat->Prop}{w:J}{s t:Y}{ls:O Key}{l:Key}{i:Nat}(q:bu B w s ls)(ht:a_ B w t l)(hd:∀k,aB t k->¬aB s k)(F:ls.length<=100000)(hi:i<=ls.length):
 aR aj 210 #[s,.int .i64 (i:Int),.slice (some w.heap.size) 1 1] (w.alloc (.cells #[t] 48))
  (λu w'=>∃e:Y,u=e/\bu (Grow B w w') w' e (ls.take i++ [l]++ls.drop i)/\ad (aB s) w w'):=by
 obtain⟨ts,h1,h2,j,m⟩:=bu.out q;have G:s.len=ls.length:=by have:=h2.1;rw[dU]at this;omega
 have hx:=eS w (.cells #[t] 48);have r:=bz.new w #[t] 48;refine(FM (v:=⟨some w.heap.size,1,1⟩) (xs:=[hX t]) (i:=i) (h2.ext hx) (Src.new (T:=48) w [hX t] 1 rfl) rfl rfl r (λh=>by have:=(j _ h).2;omega) (λv z=>by rw[ff.1 z];trivial) (vB ts) I I).mono ?_;rintro _ w' ⟨e,rfl,au,ay,A,C⟩;rw[fG]at au;have hc:ad (aB s) w w':=(ad.cJ hx).trans A;have H:=hc.size;have K:(w.alloc (.cells #[t] 48)).heap.size=w.heap.size+1:=rJ _ _;have n:∀k,aB e k->aB s k\/w.heap.size<=k:=λk d=>(C k d).imp id λh=>by omega
 have D:∀ (x:Y),In B w x->(∀k,aB x k->¬aB s k)->∀k,aB x k->¬aB e k:=λx hx f k d E=>by
  rcases n k E with h|h
  .exact f k d h
  .have:=(hx k d).2;omega
 have g:∀ (x:Y) (y:Key),a_ B w x y->(∀k,aB x k->¬aB s k)->a_ (Grow B w w') w' x y/\∀k,aB x k->¬aB e k:=λx y o f=>⟨a_.aY (a_.iM o hc f) λk _ h=>.inl h,D x o.2.2 f⟩;refine⟨e,rfl,bu.mk' (ts:=ts.take i++ [t]++ts.drop i) ?_ ?_ ?_ ?_,hc⟩
 .simp only[cz,cG,da,jn];omega
 .simpa[mJ,oR] using au
 .intro k d
  refine⟨?_,au.lt k d⟩;rcases n k d with h|h
  .exact .inl (j k h).1
  .exact .inr ⟨h,au.lt k d⟩
 .intro p c
  rw[List.zip_append (by simp only[cz,cG,jn];omega),List.zip_append (by simp only[cG];omega),Bg,Bh]at c;rcases cT.1 c with c|c
  .rcases cT.1 c with c|c
   .obtain⟨a,b⟩:=m p (fh c)
    exact g _ _ a b
   .simp only[List.zip_cons_cons,List.zip_nil_left,ff]at c
    subst c;exact g _ _ ht hd
  .obtain⟨a,b⟩:=m p (fg c)
   exact g _ _ a b
theorem FR:(Tryz.prog.info? 48).bind (·.zero)=some (.slice none 0 0):=by kernel_rfl
theorem Bj{B:Nat->Prop}{w:J}{s:Y}{ls:O Key}{i:Nat}(j:bu B w s ls)(r:ls.length<=100000)(hi:i<ls.length):
 aR aj 205 #[s,.int .i64 (i:Int),.int .i64 ((i+1:Nat):Int)] w
  (λu w'=>∃e:Y,u=e/\bu B w' e (ls.take i++ls.drop (i+1))/\ad (aB s) w w'):=by
 obtain⟨ts,h1,h2,l,m⟩:=bu.out j;have t:s.len=ls.length:=by have:=h2.1;rw[dU]at this;omega
 refine(FN (i:=i) h2 (vB ts) (λz g u hu=>by
  rw[FR]at g
  cases g;simp[Value.cells]at hu;subst hu;trivial) I I).mono ?_
 rintro _ w' ⟨e,rfl,au,ay,n,f⟩;rw[fG,fG]at au;have v:=f.size;have h:∀k,aB e k->aB s k:=λk ⟨A,ar,c⟩=>⟨A,by rw[←n];exact ar,c⟩;refine⟨e,rfl,bu.mk' (ts:=ts.take i++ts.drop (i+1)) ?_ ?_ ?_ ?_,f⟩
 .simp only[cz,cG,da];omega
 .simpa[mJ,oR] using au
 .exact λk c=>⟨(l k (h k c)).1,au.lt k c⟩
 .intro p d
  rw[List.zip_append (by simp only[cG];omega),Bg,Bh]at d;have o:p∈ts.zip ls:=by
   rcases cT.1 d with d|d
   .exact fh d
   .exact fg d
  obtain⟨a,b⟩:=m p o;exact⟨a_.iM a f b,λk c q=>b k c (h k q)⟩
theorem FT{B:Nat->Prop}{w:J}{s t:Y}{ls:O Key}{l:Key}{i:Nat}(g:bu B w s ls)(ht:a_ B w t l)(hd:∀k,aB t k->¬aB s k)(hi:i<ls.length):
 ∃A:ae,s.a=some A/\((0:Int)<=(i:Int)/\(i:Int)<(s.len:Int))/\(∃u:aa,w.cell? (A.add (Int.toNat (i:Int)*1))=some u)/\w.frozen? (A.add (Int.toNat (i:Int)*1))=false/\
  bu B (w.setCell (A.add (Int.toNat (i:Int)*1)) (hX t)) s (ls.set i l)/\ad (aB s) w (w.setCell (A.add (Int.toNat (i:Int)*1)) (hX t)):=by
 obtain⟨ts,h1,h2,h,m⟩:=g;obtain⟨A,ar,n,hc,hf,o,p⟩:=h2.at (i:=i) (v:=hX (ts[i]'I)) (by simp[h1,hi]);have c:ad (aB s) w (w.setCell (A.add (Int.toNat (i:Int)*1)) (hX t)):=ad.set (.refl _ _) (λ_=>o) _;refine⟨A,ar,n,⟨_,hc⟩,hf,⟨ts.set i t,by simp[h1],?_,In.ab h c,λj d f=>?_⟩,c⟩
 .have:=p (hX t)
  rwa[←List.map_set]at this
 .rw[df]at d f
  rw[sx,sx];by_cases e:i=j
  .rw[if_pos e,if_pos e]
   exact⟨a_.iM ht c hd,hd⟩
  .rw[if_neg e,if_neg e]
   obtain⟨a,b⟩:=m j d f;exact⟨a_.iM a c b,b⟩
def hC(n:aD)(k v:Key):aD:=
 if hA n.keys k then {n with vals:=n.vals.set (cO n.keys k) v}
 else {n with keys:=n.keys.take (cO n.keys k)++ [k]++n.keys.drop (cO n.keys k),vals:=n.vals.take (cO n.keys k)++ [v]++n.vals.drop (cO n.keys k)}
def lL(n:aD)(k:Key):aD:={n with keys:=n.keys.take (cO n.keys k)++n.keys.drop (cO n.keys k+1),vals:=n.vals.take (cO n.keys k)++n.vals.drop (cO n.keys k+1)}
theorem gT.eB{n:aD}(h:gT n):(∀k∈n.keys,k.length<=100000)/\(∀v∈n.vals,v.length<=100000):=⟨λk a=>by have:=(h.ok k a).2;omega,λv b=>by have:=h.vals v b;omega⟩
def oy(n:aD)(w:J)(v:aa)(w':J):Prop:=∃K V D:Y,v=.tuple #[c2 n K V D,true]/\bF (λq=>w.heap.size<=q) w' n K V D/\Ext w w'
theorem pH{B:Nat->Prop}{w:J}{n:aD}{K V D tk dm:Y}{key val:Key}(h:bF B w n K V D)(hs:gT n)(bP:n.keys.length<=10000)(c:Src 1 w tk (aJ key))(G:Src 1 w dm (aJ val))(aP:cw key)(bQ:val.length<=24):
 aR aj 151 #[c2 n K V D,tk,dm] w (oy (hC n key val) w):=by
 have bR:=hs.len;have bS:n.kids.length=0:=by rw[hs.kids];rfl
 have bU:=len8 G;have bV:key.length<=24:=aP.2;refine okF (af.pH n.leaf K V D tk dm) aA.pH func151 ?_;(delta af.pH cj bc U pw ak ag aO jb q9 fI g0 ba aL st dc q_;dsimp only);refine bh (vs:=[n.leaf,K,V,D]) rfl λw1 av bd bW=>?_;refine bh (vs:=[false,(),(),()]) rfl λah be ai bY=>?_;have aQ:=bd.trans ai;obtain⟨bX,aC,aU,aO⟩:=bH (av.ext ai);refine⟨n.leaf,bX,cq (λb w'=>b=false/\Ext ah w') (λq a=>⟨λp=>?_,λp=>⟨_,bX,K,aC,V,aU,D,aO,(j5 (h.ext aQ) I I I).use ?_⟩⟩) ?_⟩
 .rw[hs.leaf]at p;cases p
 .rintro _ ax ⟨b,rfl,bf,C⟩
  have:=bf.2 (.inl hs);subst this;exact⟨true,rfl,a _ _ ⟨rfl,C⟩⟩
 rintro _ ax ⟨rfl,C⟩;have al:=aQ.trans C;refine cq (λb w'=>b=false/\ax=w') (λq a=>⟨λh=>(by cases h),λ_=>(n1 (c.ext al)).use ?_⟩) ?_
 .rintro _ _ ⟨rfl,rfl⟩
  exact⟨_,rfl,a _ _ ⟨by simp[aP],rfl⟩⟩
 rintro _ _ ⟨rfl,rfl⟩;obtain⟨bX,aC,aU,aO⟩:=bH (av.ext (ai.trans C));refine⟨λp=>?_,λ_=>⟨_,bX,K,aC,V,aU,D,aO,(eW (h.ext al) I I I hs.eB.1 hs.eB.2).use ?_⟩⟩
 .have p:decide (((dm.len:Int):Int)>24)=true:=p
  have:=b8 p;omega
 rintro _ bg ⟨l,g,az,bT,b6,bN,rfl,r,am⟩;have aS:=al.trans am;have bZ:=aS.size;have b0:=al.size;have b1:=C.size;have b2:=am.size;refine⟨n.leaf,l,g,az,rfl,bh (vs:=[false,(),(),()]) rfl λb3 aT an b4=>⟨aT.b9 rfl ?_,rfl,cr aT (us:=[n.leaf,l,g,az]) rfl rfl λO P R b5=>?_⟩⟩
 .intro v G
  simp only[cU,eL,eO]at G;rcases G with rfl|rfl|rfl|rfl<;>trivial
 obtain⟨aE,bi⟩:∃aE,aE=bg.heap.size:=⟨_,rfl⟩;rw[←bi]at P R⊢;obtain⟨lo,bj⟩:∃lo,lo=ax.heap.size:=⟨_,rfl⟩;rw[←bj]at r;have ao:Ext w O:=Ext.cn (aS.trans an) R I;have bk:Var O w.heap.size [n.leaf,K,V,D] 202:=(((av.ext (ai.trans C)).ext am).ext an).ab R I;have aV:Var O w1.heap.size [false,(),(),()] 202:=(((be.ext C).ext am).ext an).ab R I;have f:e5 lo O n l g az bT b6 bN:=(r.ext an).ab R λq _ _ a e=>by
  subst e;rcases a with a|a|a
  .have:=(r.bo _ a).2.1;omega
  .have:=(r.bv _ a).2.1;omega
  .have:=(r.aL _ a).2;omega
 obtain⟨bX,aC,aU,aO⟩:=bH bk;have bl:=p0 n.keys key;refine⟨_,bX,K,aC,V,aU,D,aO,(l7 (h.ext ao) (c.ext ao) hs.fb I).use ?_⟩;rintro _ m ⟨rfl,ap⟩;have aF:=ao.trans ap;have b7:=ap.size;refine⟨_,_,rfl,λH=>?_,λH=>?_⟩
 .
  have E:=cf m;have L:=ap.trans E;have aK:cO n.keys key<n.keys.length:=by
   have:=b8 H;exact(iy.1 this).1
  obtain⟨d0,d1,d2,d3⟩:=bH (P.ext L);refine aW ⟨λ_=>False,id,g,d2,(kF (B:=λq=>m.heap.size<=q) (G.ext (aF.trans E)) I (λq a=>a)).use ?_⟩;rintro _ s ⟨t,rfl,ht,x,bm⟩;have T:=L.trans x;have aG:=f.ext T;have bn:=T.size;have bp:bu (Grow b6 m s) s g n.vals:=bu.aY aG.vals λk _ h=>.inl h;have y:∀k,aB g k->b6 k:=λk c=>by obtain⟨ts,_,_,W,_⟩:=f.vals;exact(W k c).1
  obtain⟨A,ar,p,br,p8,aX,aZ⟩:=FT (i:=cO n.keys key) bp (a_.aY ht λk c h=>.inr ⟨h,c⟩) (λk X Z=>by
   have:=(ht.2.2 k X).1;have:=(f.bv k (y k Z)).2.1;omega) I
  refine⟨t,rfl,x,A,ar,p,br,p8,aW ?_⟩;obtain⟨o,a0⟩:∃o,o=s.setCell (A.add (Int.toNat (cO n.keys key:Int)*1)) (hX t):=⟨_,rfl⟩;rw[←a0]at aX aZ;have bs:s.setCell (A.add (Int.toNat (cO n.keys key:Int)*1)) t=o:=a0.symm;rw[bs];have aa:ad (λq=>lo<=q/\q<O.heap.size/\b6 q) s o:=aZ.mono λk _ c=>⟨(f.bv k (y k c)).1,(f.bv k (y k c)).2.1,y k c⟩;have aq:=(P.ext T).ab aa (λe=>by
   have h1:=(r.bv _ e.2.2).2.1;omega)
  obtain⟨bt,bw,bx,bz⟩:=bH aq;have bA:bF (λq=>lo<=q) o (hC n key val) l g az:=by
   unfold hC;rw[if_pos H];refine⟨bq.aY (bq.ab (bu.iN aG.keys) aa λq a e=>(f.bo q a).2.2.1 e.2.2) λq _ a=>(f.bo q a).1,bq.aY (bu.iN aX) λq _ a=>?_,cK.aY (cK.ab (cR.p4 aG.kids) aa λq a e=>(f.bv q e.2.2).2.2 a) λq _ a=>(f.aL q a).1⟩;rcases a with a|a
   .exact(f.bv q a).1
   .omega
  have bB:(hC n key val).leaf=n.leaf:=by unfold hC;rw[if_pos H]
  refine⟨_,bt,l,bw,g,bx,az,bz,je n.leaf l g az ((aV.ext T).ab aa (λe=>by have:=e.1;omega)) rfl (Q:=λb K V D ah=>oy (hC n key val) w (.tuple #[.agg #[b,K,V,D],true]) ah) λj u=>⟨l,g,az,by unfold c2;rw[bB],?_,?_⟩⟩
  .exact(bA.ab u λq a e=>I).aY λq _ a=>by omega
  .exact Ext.cn (Ext.dy (ao.trans T) aa λk c=>I) u I
 .
  have E:=cf m;have L:=ap.trans E;have a1:hY lo m.drew aE n l g az bT b6 bN:=by
   have M:=f.ext L;refine⟨P.ext L,M.keys,M.vals,M.kids,λq a=>?_,λq a=>?_,λq a=>?_,I⟩
   .have h1:=M.bo q a;have:=(r.bo q a).2.1;exact⟨h1.1,h1.2.1,I,h1.2.2⟩
   .have h1:=M.bv q a;have:=(r.bv q a).2.1;exact⟨h1.1,h1.2.1,I,h1.2.2⟩
   .have h1:=M.aL q a;have:=(r.aL q a).2;exact⟨h1.1,h1.2,I⟩
  obtain⟨d0,d1,d2,d3⟩:=bH a1.v;refine aW ⟨λ_=>False,id,l,d1,(kF (B:=λq=>m.heap.size<=q) (c.ext (aF.trans E)) I (λq a=>a)).use ?_⟩;rintro _ s ⟨t,rfl,ht,x,bm⟩;have bn:m.heap.size<=s.heap.size:=(E.trans x).size;have aH:∀k,aB l k->bT k:=λk c=>by obtain⟨ts,_,_,W,_⟩:=f.keys;exact(W k c).1
  have y:∀k,aB g k->b6 k:=λk c=>by obtain⟨ts,_,_,W,_⟩:=f.vals;exact(W k c).1
  have d:=a1.ext x;refine⟨t,rfl,x,aW ⟨eS _ _,(Bi (B:=Grow bT m s) (i:=cO n.keys key) (bu.aY d.keys λk _ h=>.inl h) (a_.aY ht λk c h=>.inr ⟨h,c⟩) (λk X Z=>by
   have:=(ht.2.2 k X).1;have:=(f.bo k (aH k Z)).2.1;omega) I bl).use ?_⟩⟩
  rintro _ o ⟨S,rfl,bC,a2⟩;have b_:=a2.size;have ac:ad (λq=>lo<=q/\bT q) s o:=a2.mono λk _ c=>⟨(f.bo k (aH k c)).1,aH k c⟩;have aq:=d.v.ab ac λe=>(d.bo _ e.2).2.2.1 rfl;obtain⟨s1,s2⟩:=dI aq (i:=1) (by simp);refine⟨S,rfl,?_⟩;rw[aw,aw];refine⟨s1,s2,aW (aW ?_)⟩;obtain⟨j,aI⟩:∃j,j=(o.setCell ⟨aE,0+1,none⟩ S).drew:=⟨_,rfl⟩;rw[←aI];have u:ad (λq=>q=aE) o j:=by rw[aI];exact ad.drew (dk _ _ _ _)
  have a3:Var j aE [n.leaf,S,g,az] 202:=by rw[aI];exact(dN aq _).drew
  have ca:=u.size;have cb:aE<m.heap.size:=by have:=P.lt;omega
  have bD:bu (λq=>bT q\/(m.heap.size<=q/\q<o.heap.size)) j S (n.keys.take (cO n.keys key)++ [key]++n.keys.drop (cO n.keys key)):=by
   refine bu.ab (bu.aY bC λk _ c=>?_) u λk c e=>?_
   .rcases c with (c|c)|c
    .exact .inl c
    .exact .inr ⟨c.1,I⟩
    .exact .inr ⟨I,c.2⟩
   .subst e
    rcases c with c|c
    .exact(d.bo _ c).2.2.1 rfl
    .omega
  have bE:bu b6 j g n.vals:=bu.ab (bu.ab d.vals ac λq a e=>(d.bo q e.2).2.2.2.1 a) u λq a e=>(d.bv q a).2.2.1 e;have bG:cR bN j az n.kids:=cR.ab (cR.ab d.kids ac λq a e=>(d.bo q e.2).2.2.2.2 a) u λq a e=>(d.aL q a).2.2 e;have a4:Ext w j:=Ext.dy (Ext.dy ((aF.trans E).trans x) ac λk c=>I) u λk c=>by omega
  obtain⟨f0,f1,f2,f3⟩:=bH a3;rw[aw]at f2;refine⟨λ_=>False,id,g,f2,(kF (B:=λq=>j.heap.size<=q) (G.ext a4) I (λq a=>a)).use ?_⟩;rintro _ a5 ⟨t2,rfl,a6,z,cc⟩;have cd:=z.size;refine⟨t2,rfl,z,aW ⟨eS _ _,(Bi (B:=Grow b6 j a5) (i:=cO n.keys key) (bu.aY (bu.ext bE z) λk _ h=>.inl h) (a_.aY a6 λk c h=>.inr ⟨h,c⟩) (λk X Z=>by
   have:=(a6.2.2 k X).1;have:=(f.bv k (y k Z)).2.1;omega) I I).use ?_⟩⟩
  rintro _ aM ⟨cB,rfl,bI,a7⟩;have ce:=a7.size;have ae:ad (λq=>lo<=q/\b6 q) a5 aM:=a7.mono λk _ c=>⟨(f.bv k (y k c)).1,y k c⟩;have a8:=(a3.ext z).ab ae λe=>(d.bv _ e.2).2.2.1 rfl;obtain⟨s1,s2⟩:=dI a8 (i:=2) (by simp);refine⟨cB,rfl,?_⟩;rw[aw,aw];refine⟨s1,s2,aW ?_⟩;obtain⟨F,aN⟩:∃F,F=aM.setCell ⟨aE,0+2,none⟩ cB:=⟨_,rfl⟩;rw[←aN];have N:ad (λq=>q=aE) aM F:=by rw[aN];exact dk _ _ _ _
  have bJ:Var F aE [n.leaf,S,cB,az] 202:=by rw[aN];exact dN a8 _
  have cg:=N.size;obtain⟨mi,au,ay,a9⟩:=bH bJ;rw[aw]at au ay a9;have bK:bF (λq=>lo<=q) F (hC n key val) S cB az:=by
   unfold hC;rw[if_neg (by rw[H];simp)];refine⟨?_,?_,?_⟩
   .refine bq.aY (bu.iN (bu.ab (bu.ab (bu.ext bD z) ae λq a e=>?_) N λq a e=>?_)) λq _ a=>?_
    .rcases a with a|a
     .exact(d.bo q a).2.2.2.1 e.2
     .have:=(f.bv q e.2).2.1;omega
    .subst e
     rcases a with a|a
     .exact(d.bo _ a).2.2.1 rfl
     .omega
    .rcases a with a|a
     .exact(d.bo q a).1
     .omega
   .refine bq.aY (bu.iN (bu.ab bI N λq a e=>?_)) λq _ a=>?_
    .subst e
     rcases a with (a|a)|a
     .exact(d.bv _ a).2.2.1 rfl
     .omega
     .omega
    .rcases a with (a|a)|a
     .exact(d.bv q a).1
     .omega
     .omega
   .exact cK.aY (cR.p4 (cR.ab (cR.ab (cR.ext bG z) ae λq a e=>(d.bv q e.2).2.2.2 a) N λq a e=>(d.aL q a).2.2 e)) λq _ a=>(d.aL q a).1
  have bL:(hC n key val).leaf=n.leaf:=by unfold hC;rw[if_neg (by rw[H];simp)]
  have bM:Ext w F:=Ext.dy (Ext.dy (a4.trans z) ae λk c=>I) N λk c=>by omega
  have bO:Var F w1.heap.size [false,(),(),()] 202:=by
   have h1:=aV.ext (L.trans x);have h2:=(h1.ab ac (λe=>by have:=e.1;omega)).ab u I;exact((h2.ext z).ab ae (λe=>by have:=e.1;omega)).ab N I
  rw[aw,aw];refine⟨_,mi,S,au,cB,ay,az,a9,?_⟩;have:=je n.leaf S cB az bO rfl (Q:=λb K V D ah=>oy (hC n key val) w (.tuple #[.agg #[b,K,V,D],true]) ah) λch bb=>⟨S,cB,az,by unfold c2;rw[bL],(bK.ab bb λq a e=>I).aY λq _ a=>I,Ext.cn bM bb I⟩;simpa only[aw] using this
def p9(n:aD)(key:Key)(w:J)(v:aa)(w':J):Prop:=
 if hA n.keys key then oy (lL n key) w v w' else v=.tuple #[c2 g_ bk bk bk,false]/\Ext w w'
theorem pG{B:Nat->Prop}{w:J}{n:aD}{K V D tk:Y}{key:Key}(h:bF B w n K V D)(hs:gT n)(a7:n.keys.length<=10000)(d:Src 1 w tk (aJ key)):
 aR aj 149 #[c2 n K V D,tk] w (p9 n key w):=by
 have a8:=hs.len;have a9:n.kids.length=0:=by rw[hs.kids];rfl
 refine okF (af.pG n.leaf K V D tk) aA.pG func149 ?_;(delta af.pG cj bc U ag g0 pw ak aO jb q9 fI ba av st dc q_;dsimp only);refine bh (vs:=[n.leaf,K,V,D]) rfl λw1 E ar a_=>?_;refine bh (vs:=[false,(),(),()]) rfl λah ax A bb=>?_;have F:=ar.trans A;obtain⟨bX,aC,aU,aO⟩:=bH (E.ext A);refine⟨_,bX,K,aC,V,aU,D,aO,(l7 (h.ext F) (d.ext F) hs.fb I).use ?_⟩;rintro _ aF ⟨rfl,s⟩;have T:=F.trans s;obtain⟨bX,aC,aU,aO⟩:=bH (E.ext (A.trans s));refine⟨_,_,rfl,n.leaf,bX,cq (λb w'=>b=false/\Ext aF w') (λq a=>⟨λf=>?_,λf=>⟨_,bX,K,aC,V,aU,D,aO,(j5 (h.ext T) I I I).use ?_⟩⟩) ?_⟩
 .rw[hs.leaf]at f;cases f
 .rintro _ W ⟨b,rfl,aG,o⟩
  have:=aG.2 (.inl hs);subst this;exact⟨true,rfl,a _ _ ⟨rfl,o⟩⟩
 rintro _ W ⟨rfl,o⟩;have G:=T.trans o;have bd:=o.size;have be:=s.size;have X:=ax.ext (s.trans o);refine⟨λf=>?_,λf=>?_⟩
 .have f:hA n.keys key=false:=by simpa using f
  refine je false bk bk bk X rfl (Q:=λb K V D ah=>p9 n key w (.tuple #[.agg #[b,K,V,D],false]) ah) λZ aH=>?_;unfold p9;rw[if_neg (by rw[f];simp)];exact⟨rfl,Ext.cn G aH I⟩
 have aa:hA n.keys key=true:=by simpa using f
 have aK:cO n.keys key<n.keys.length:=(iy.1 (b8 aa)).1;obtain⟨bX,aC,aU,aO⟩:=bH (E.ext (A.trans (s.trans o)));refine⟨_,bX,K,aC,V,aU,D,aO,(eW (h.ext G) I I I hs.eB.1 hs.eB.2).use ?_⟩;rintro _ Z ⟨p,g,az,bT,b6,bN,rfl,j,H⟩;have aI:=G.trans H;have bf:=H.size;refine⟨n.leaf,p,g,az,rfl,bh (vs:=[false,(),(),()]) rfl λbg ac L bi=>⟨ac.b9 rfl ?_,rfl,cr ac (us:=[n.leaf,p,g,az]) rfl rfl λt ae C bj=>?_⟩⟩
 .intro v ai
  simp only[cU,eL,eO]at ai;rcases ai with rfl|rfl|rfl|rfl<;>trivial
 obtain⟨aE,aM⟩:∃aE,aE=Z.heap.size:=⟨_,rfl⟩;rw[←aM]at ae C⊢;obtain⟨lo,aN⟩:∃lo,lo=W.heap.size:=⟨_,rfl⟩;rw[←aN]at j;have aP:Ext w t:=Ext.cn (aI.trans L) C I;have aQ:Var t w1.heap.size [false,(),(),()] 202:=((X.ext H).ext L).ab C I;have c:hY lo t aE n p g az bT b6 bN:=by
  have r:e5 lo t n p g az bT b6 bN:=(j.ext L).ab C λq _ _ a e=>by
   subst e;rcases a with a|a|a
   .have:=(j.bo _ a).2.1;omega
   .have:=(j.bv _ a).2.1;omega
   .have:=(j.aL _ a).2;omega
  refine⟨ae,r.keys,r.vals,r.kids,λq a=>?_,λq a=>?_,λq a=>?_,I⟩
  .have h1:=r.bo q a;have:=(j.bo q a).2.1;exact⟨h1.1,h1.2.1,I,h1.2.2⟩
  .have h1:=r.bv q a;have:=(j.bv q a).2.1;exact⟨h1.1,h1.2.1,I,h1.2.2⟩
  .have h1:=r.aL q a;have:=(j.aL q a).2;exact⟨h1.1,h1.2,I⟩
 have al:∀k,aB p k->bT k:=λk d=>by obtain⟨ts,_,_,M,_⟩:=c.keys;exact(M k d).1
 have am:∀k,aB g k->b6 k:=λk d=>by obtain⟨ts,_,_,M,_⟩:=c.vals;exact(M k d).1
 obtain⟨d0,d1,d2,d3⟩:=bH c.v;have bl:=c.v.lt;rw[bA (n:=((cO n.keys key:Nat):Int)+1) I I];refine⟨p,d1,(Bj c.keys I aK).use ?_⟩;rintro _ N ⟨S,rfl,aS,aT⟩;have u:ad (λq=>lo<=q/\bT q) t N:=aT.mono λk _ d=>⟨(c.bo k (al k d)).1,al k d⟩;have an:=c.v.ab u λe=>(c.bo _ e.2).2.2.1 rfl;obtain⟨s1,s2⟩:=dI an (i:=1) (by simp);refine⟨S,rfl,?_⟩;rw[aw,aw];refine⟨s1,s2,aW ?_⟩;obtain⟨l,O⟩:∃l,l=N.setCell ⟨aE,0+1,none⟩ S:=⟨_,rfl⟩;rw[←O];have x:ad (λq=>q=aE) N l:=by rw[O];exact dk _ _ _ _
 have ao:Var l aE [n.leaf,S,g,az] 202:=by rw[O];exact dN an _
 have aV:bu bT l S (n.keys.take (cO n.keys key)++n.keys.drop (cO n.keys key+1)):=bu.ab aS x λq a e=>(c.bo q a).2.2.1 e;have aX:bu b6 l g n.vals:=bu.ab (bu.ab c.vals u λq a e=>(c.bo q e.2).2.2.2.1 a) x λq a e=>(c.bv q a).2.2.1 e;have aZ:cR bN l az n.kids:=cR.ab (cR.ab c.kids u λq a e=>(c.bo q e.2).2.2.2.2 a) x λq a e=>(c.aL q a).2.2 e;obtain⟨f0,f1,f2,f3⟩:=bH ao;rw[aw]at f2;refine⟨g,f2,(Bj aX I I).use ?_⟩;rintro _ P ⟨cB,rfl,a0,a1⟩;have y:ad (λq=>lo<=q/\b6 q) l P:=a1.mono λk _ d=>⟨(c.bv k (am k d)).1,am k d⟩;have ap:=ao.ab y λe=>(c.bv _ e.2).2.2.1 rfl;obtain⟨s1,s2⟩:=dI ap (i:=2) (by simp);refine⟨cB,rfl,?_⟩;rw[aw,aw];refine⟨s1,s2,aW ?_⟩;obtain⟨m,R⟩:∃m,m=P.setCell ⟨aE,0+2,none⟩ cB:=⟨_,rfl⟩;rw[←R];have z:ad (λq=>q=aE) P m:=by rw[R];exact dk _ _ _ _
 have a2:Var m aE [n.leaf,S,cB,az] 202:=by rw[R];exact dN ap _
 obtain⟨mi,au,ay,a3⟩:=bH a2;have a4:bF (λq=>lo<=q) m (lL n key) S cB az:=by
  refine⟨?_,?_,?_⟩
  .exact bq.aY (bu.iN (bu.ab (bu.ab aV y λq a e=>(c.bo q a).2.2.2.1 e.2) z λq a e=>(c.bo q a).2.2.1 e)) λq _ a=>(c.bo q a).1
  .exact bq.aY (bu.iN (bu.ab a0 z λq a e=>(c.bv q a).2.2.1 e)) λq _ a=>(c.bv q a).1
  .exact cK.aY (cR.p4 (cR.ab (cR.ab aZ y λq a e=>(c.bv q e.2).2.2.2 a) z λq a e=>(c.aL q a).2.2 e)) λq _ a=>(c.aL q a).1
 have a5:Ext w m:=Ext.dy (Ext.dy (Ext.dy (Ext.dy aP u λk d=>I) x λk d=>I) y λk d=>I) z λk d=>by omega
 have a6:Var m w1.heap.size [false,(),(),()] 202:=
  (((aQ.ab u (λe=>by have:=e.1;omega)).ab x I).ab y (λe=>by have:=e.1;omega)).ab z I
 refine⟨_,mi,S,au,cB,ay,az,a3,je n.leaf S cB az a6 rfl (Q:=λb K V D ah=>p9 n key w (.tuple #[.agg #[b,K,V,D],true]) ah) λbm aq=>?_⟩;unfold p9;rw[if_pos aa];exact⟨S,cB,az,rfl,(a4.ab aq λq a e=>I).aY λq _ a=>I,Ext.cn a5 aq I⟩
theorem xS{n:aD}(hs:cH n)(m:Nat):((cellsOf n).take m).sum<=100*n.keys.length:=by
 have h1:((cellsOf n).take m).sum<=(cellsOf n).sum:=by
  have:=xt (cellsOf n) m;omega
 have h2:=xF hs n.keys.length (bl _);rw[dV (by rw[p3 hs];exact bl _)]at h2;have a:=xN hs n.keys.length (bl _);omega
theorem m3{B:Nat->Prop}{w:J}{n:aD}{K V D:Y}(h:bF B w n K V D)(hs:cH n)(G:n.keys.length<=10000){most:Nat}(H:most<=n.keys.length):
 aR aj 300 #[c2 n K V D,most] w (λv w'=>v=.int .i64 ((gr (cellsOf n) most:Nat):Int)/\Ext w w'):=by
 refine okF (af.m3 n.leaf K V D (most:Int)) aA.m3 func300 ?_;(delta af.m3 ag U ak bc ba av;dsimp only);refine bh (vs:=[n.leaf,K,V,D]) rfl λw1 o d _=>?_;obtain⟨bX,aC,aU,aO⟩:=bH o;have L:=bq.len h.keys;have M:=p3 hs;have x:∀ (j:Nat) (f:j<(cellsOf n).length),(cellsOf n)[j]=(gS n j).length:=λj f=>by
  have h1:=xE hs (i:=j) I;rw[dE f]at h1;exact Option.some.inj h1
 refine⟨K,aC,λa i w'=>∃j:Nat,i=j/\j<=n.keys.length/\a=((((cellsOf n).take j).sum:Nat):Int)/\Ext w1 w',λ_ i _=>((n.keys.length:Int)-i).toNat,⟨0,rfl,cL _,by simp,.refl _ _⟩,?_⟩;rintro _ _ ah ⟨j,rfl,f,rfl,g⟩;obtain⟨d0,d1,d2,d3⟩:=bH (o.ext g);refine⟨λaK=>?_,λb=>?_⟩
 .have aK:j<n.keys.length:=by have:=b8 aK;omega
  refine⟨_,d0,K,d1,V,d2,D,d3,(m0 (h.ext (d.trans g)) hs aK I).use ?_⟩;rintro _ N ⟨s,rfl,p,A,_⟩;have q:=mf p;have C:=xS hs j;have hc:=vC hs aK;have e:=pZ (l:=cellsOf n) (i:=j) I;rw[x j I]at e;refine⟨s,rfl,?_⟩;rw[q,bA (n:=((((cellsOf n).take j).sum:Nat):Int)+(((gS n j).length:Nat):Int)) I I,bA (n:=(j:Int)+1) I I];refine⟨⟨j+1,I,I,I,g.trans A⟩,?_⟩;show((n.keys.length:Int)-((j:Int)+1)).toNat<((n.keys.length:Int)-(j:Int)).toNat;omega
 have b:j=n.keys.length:=by have:=cv b;omega
 subst b;rw[dV (l:=cellsOf n) I];refine⟨λa i w'=>∃j:Nat,i=j/\j<=most/\a=((((cellsOf n).take j).sum:Nat):Int)/\Ext w1 w'/\∀k,k<j->2*((cellsOf n).take (k+1)).sum<(cellsOf n).sum,λ_ i _=>((most:Int)-i).toNat,⟨0,rfl,cL _,by simp,g,λk E=>I⟩,?_⟩;rintro _ _ O ⟨j,rfl,f,rfl,c,r⟩;obtain⟨d0,d1,d2,d3⟩:=bH (o.ext c);have F:=xS hs (cellsOf n).length;rw[iV]at F;refine⟨λaK=>?_,λb=>?_⟩
 .have aK:j<most:=by have:=b8 aK;omega
  refine⟨_,d0,K,d1,V,d2,D,d3,(m0 (h.ext (d.trans c)) hs I I).use ?_⟩;rintro _ P ⟨s,rfl,p,y,_⟩;have q:=mf p;have C:=xS hs j;have hc:=vC hs (i:=j) I;have e:=pZ (l:=cellsOf n) (i:=j) I;rw[x j I]at e;refine⟨s,rfl,?_⟩;rw[q,bA (n:=((((cellsOf n).take j).sum:Nat):Int)+(((gS n j).length:Nat):Int)) I I,bA (n:=2*(((((cellsOf n).take j).sum:Nat):Int)+(((gS n j).length:Nat):Int))) I I,bA (n:=(j:Int)+1) I I];refine⟨λhd=>⟨?_,d.trans (c.trans y)⟩,λhd=>⟨⟨j+1,I,I,I,c.trans y,λk E=>?_⟩,?_⟩⟩
  .have hd:=b8 hd
   have t:(List.range most).find? (λi=>decide ((cellsOf n).sum<=2*((cellsOf n).take (i+1)).sum))=some j:=by
    have:=fU aK (bl most);rw[List.find?_eq_some_iff_append];refine⟨dP I,List.range j,List.range' (j+1) (most-(j+1)),?_,λa u=>?_⟩
    .have z:=List.range'_append (s:=0) (m:=j) (n:=most-(j+1)+1) (step:=1)
     rw[sj,sj,←List.range'_succ];rw[Nat.one_mul,cy]at z;rw[z]
     congr 1
     omega
    .have:=r a (jC.1 u)
     simp;omega
   unfold gr;rw[t];rfl
  .have hd:=cv hd
   rcases dO k j with h1|h1
   .exact r k h1
   .have:k=j:=by omega
    subst this;omega
  .show((most:Int)-((j:Int)+1)).toNat<((most:Int)-(j:Int)).toNat
   omega
 .have b:j=most:=by have:=cv b;omega
  subst b;refine⟨?_,d.trans c⟩;have t:(List.range j).find? (λi=>decide ((cellsOf n).sum<=2*((cellsOf n).take (i+1)).sum))=none:=by
   rw[jo];intro a u;have:=r a (jC.1 u);simp;omega
  unfold gr;rw[t]
theorem bq.sub{B:Nat->Prop}{w:J}{s:Y}{ls:O Key}{lo hi:Nat}(h:bq B w s ls)(h1:lo<=hi)(h2:hi<=ls.length):bq B w ⟨aP s.a 1 lo s.cap,hi-lo,s.cap-lo⟩ ((ls.drop lo).take (hi-lo)):=by
 have l:=bq.len h;obtain⟨ts,au,ay,b,c,d⟩:=h;refine⟨(ts.drop lo).take (hi-lo),by simp[au],?_,by show hi-lo<=s.cap-lo;omega,λk e=>?_,λi f g=>?_⟩
 .have:=Src.sub ay b h1 I
  simpa[oR,mJ] using this
 .obtain⟨A,ar,j⟩:=vD e
  exact c k ⟨A,ar,j⟩
 .simp only[oT,qG]
  rw[cG,da]at f g;exact d (lo+i) I I
theorem bq.le{B:Nat->Prop}{w:J}{s:Y}{ls:O Key}(h:bq B w s ls):s.len<=s.cap:=by
 obtain⟨ts,_,_,a,_⟩:=h;exact a
theorem cK.sub{B:Nat->Prop}{w:J}{s:Y}{ds:O Nat}{lo hi:Nat}(h:cK B w s ds)(h1:lo<=hi)(h2:hi<=ds.length):cK B w ⟨aP s.a 1 lo s.cap,hi-lo,s.cap-lo⟩ ((ds.drop lo).take (hi-lo)):=by
 have f:=cK.len h;obtain⟨ay,b,c⟩:=h;have g:s.len<=s.cap:=b;refine⟨?_,by show hi-lo<=s.cap-lo;omega,λk d=>?_⟩
 .have:=Src.sub ay b h1 I
  simpa[ee,oR,mJ] using this
 .obtain⟨A,ar,e⟩:=vD d
  exact c k ⟨A,ar,e⟩
theorem fM(b:ai)(K V D:Y):∀v∈([b,K,V,D]:O aa),Plain v:=by
 intro v a;simp only[cU,eL,eO]at a;rcases a with rfl|rfl|rfl|rfl<;>trivial
theorem p_{c:J}{r1 b3:Nat}{xT xU:O aa}{b_ bO:ai}{de dz bt cI cQ ct:Y}(h1:Var c r1 xT 202)(h2:Var c b3 xU 202)(iD:xT.length=4)(n:xU.length=4)(o:r1≠b3){W:Nat->Prop}(cd:∀q,q=r1->W q)
 {Q:ai->Y->Y->Y->ai->Y->Y->Y->J->Prop} (u:∀b,ad (λq=>q=r1\/q=b3) c b->Q b_ de dz bt bO cI cQ ct b):
 bx c r1 [b_,de,dz,bt]/\(4:Nat)=4/\al (setCells c r1 0 [b_,de,dz,bt]) λd=>
  ad W c d/\bx d b3 [bO,cI,cQ,ct]/\(4:Nat)=4/\al (setCells d b3 0 [bO,cI,cQ,ct]) λb=>
  ∃p:ai,b.cell? r1=some (.bool p)/\∃f:Y,b.cell? (Addr.add r1 1)=some (.slice f.a f.len f.cap)/\∃g:Y,b.cell? (Addr.add r1 2)=some (.slice g.a g.len g.cap)/\∃i:Y,b.cell? (Addr.add r1 3)=some (.slice i.a i.len i.cap)/\
  ∃r:ai,b.cell? b3=some (.bool r)/\∃j:Y,b.cell? (Addr.add b3 1)=some (.slice j.a j.len j.cap)/\∃k:Y,b.cell? (Addr.add b3 2)=some (.slice k.a k.len k.cap)/\∃l:Y,b.cell? (Addr.add b3 3)=some (.slice l.a l.len l.cap)/\Q p f g i r j k l b:=by
 refine⟨h1.b9 (by rw[iD];rfl) (fM _ _ _ _),rfl,cr h1 (us:=[b_,de,dz,bt]) (by rw[iD];rfl) rfl λd v m _=>?_⟩;have s:=h2.ab m (λe=>o e.symm);refine⟨m.mono λq _ h=>cd q h,s.b9 (by rw[n];rfl) (fM _ _ _ _),rfl,cr s (us:=[bO,cI,cQ,ct]) (by rw[n];rfl) rfl λb w t _=>?_⟩;obtain⟨bX,aC,aU,aO⟩:=bH (v.ab t o);obtain⟨d0,d1,d2,d3⟩:=bH w;exact⟨b_,bX,de,aC,dz,aU,bt,aO,bO,d0,cI,d1,cQ,d2,ct,d3,u b ((m.mono λq _ h=>.inl h).trans (t.mono λq _ h=>.inr h))⟩
def oz(n:aD)(w:J)(v:aa)(w':J):Prop:=
 ∃ (de dz bt cI cQ ct t:Y),v=.tuple #[c2 (n.left (cm n)) de dz bt,t,c2 (n.right (cm n)) cI cQ ct,true]/\
  bF (λq=>w.heap.size<=q) w' (n.left (cm n)) de dz bt/\bF (λq=>w.heap.size<=q) w' (n.right (cm n)) cI cQ ct/\a_ (λq=>w.heap.size<=q) w' t (n.keys.getD (cm n) [])/\Ext w w'
theorem pT{B:Nat->Prop}{w:J}{n:aD}{K V D:Y}(h:bF B w n K V D)(hs:cH n)(bn:n.keys.length<=10000)(dM:1<=cm n)
 (L:if n.leaf then cm n<=n.keys.length-1/\1<=n.keys.length-1 else cm n<=n.keys.length-2/\1<=n.keys.length-2):
 aR aj 299 #[c2 n K V D] w (oz n w):=by
 have b4:n.vals.length<=10000:=by
  rcases hs with hs|hs
  .rw[hs.len];omega
  .rw[hs.vals];simp
 have b5:n.kids.length<=10001:=by
  rcases hs with hs|hs
  .rw[hs.kids];simp
  .rw[hs.len];omega
 have E:∀k∈n.keys,k.length<=100000:=λk l=>by have:=(hs.keys.ok k l).2;omega
 have ap:∀k∈n.vals,k.length<=100000:=λk l=>by have:=hs.vals k l;omega
 have b7:=bq.len h.keys;obtain⟨most,aq⟩:∃most,most=if n.leaf then n.keys.length-1 else n.keys.length-2:=⟨_,rfl⟩
 have aS:1<=most/\most<=n.keys.length/\cm n<=most:=by
  rw[aq]
  cases p:n.leaf<;>rw[p]at L<;>simp at L⊢<;>omega
 have O:cm n<n.keys.length:=by
  cases p:n.leaf<;>rw[p]at L<;>simp at L<;>omega
 refine okF (af.pT n.leaf K V D) aA.pT func299 ?_;(delta af.pT cj ag U bc ak av aO fI aC aL ba ja;dsimp only);refine bh (vs:=[n.leaf,K,V,D]) rfl λw1 bx bS ca=>?_;refine bh (vs:=[false,(),(),()]) rfl λah bU bp cb=>?_;refine bh (vs:=[false,(),(),()]) rfl λbV bW bl cc=>?_;have bz:=bS.trans (bp.trans bl);obtain⟨bX,aC,aU,aO⟩:=bH ((bx.ext bp).ext bl);refine⟨K,aC,cq (λm w'=>m=(most:Int)/\bV=w') (λq f=>⟨n.leaf,bX,λao=>f _ _ ⟨?_,rfl⟩,λao=>f _ _ ⟨?_,rfl⟩⟩) ?_⟩
 .have ao:n.leaf=false:=by simpa using ao
  rw[ao]at L aq;simp at L aq;rw[bA (n:=(K.len:Int)-1) I I,bA I I];omega
 .have ao:n.leaf=true:=by simpa using ao
  rw[ao]at L aq;simp at L aq;rw[bA I I];omega
 rintro _ _ ⟨rfl,rfl⟩;refine⟨_,bX,K,aC,V,aU,D,aO,(j5 (h.ext bz) I I I).use ?_⟩;rintro _ y ⟨b,rfl,ao,aT⟩;have bY:=ao.2 hs;subst bY;have aV:=cf y;have au:=bz.trans (aT.trans aV);have bm:=((bx.ext bp).ext bl).ext (aT.trans aV);have br:=(bU.ext bl).ext (aT.trans aV);have bs:=bW.ext (aT.trans aV);have cd:=(aT.trans aV).size;obtain⟨bX,aC,aU,aO⟩:=bH bm;refine⟨true,rfl,λh=>?_,λ_=>aW ⟨λ_=>False,id,_,bX,K,aC,V,aU,D,aO,id,_,bX,K,aC,V,aU,D,aO,⟨?_,?_⟩⟩⟩
 .simp only[Bool.not_true,km]at h
  have:=b8 h;omega
 .refine(eW (h.ext au) I I I E ap).use ?_
  rintro _ bB ⟨c,d,az,bT,b6,bN,rfl,ax,P⟩;refine⟨n.leaf,c,d,az,rfl,P,⟨?_,?_⟩⟩
  .refine(m3 (h.ext (au.trans P)) hs bn (most:=most) aS.2.1).use ?_
   rintro _ bw ⟨rfl,G⟩;refine⟨_,rfl,G,bh (vs:=[false,(),(),()]) rfl λbC ay H bD=>⟨H,ay.b9 rfl (fM _ _ _ _),rfl,cr ay (us:=[n.leaf,c,d,az]) rfl rfl λF aF C bE=>?_⟩⟩;have bZ:=P.size;have b0:=G.size;obtain⟨aE,aX⟩:∃aE,aE=bw.heap.size:=⟨_,rfl⟩;rw[←aX]at aF C⊢;have M:=P.trans (G.trans H);have R:e5 y.heap.size F n c d az bT b6 bN:=(ax.ext (G.trans H)).ab C λq _ _ f e=>by
    subst e;rcases f with f|f|f
    .have:=(ax.bo _ f).2.1;omega
    .have:=(ax.bv _ f).2.1;omega
    .have:=(ax.aL _ f).2;omega
   have bG:y.drew.heap.size=y.heap.size:=rfl;have N:Ext w F:=Ext.cn (au.trans M) C I;have aG:=(bm.ext M).ab C I;have aH:=(br.ext M).ab C I;have aI:=(bs.ext M).ab C I;have aZ:gr (cellsOf n) most=cm n:=by unfold cm;rw[aq]
   rw[aZ];obtain⟨i,hi⟩:∃i,i=cm n:=⟨_,rfl⟩;rw[←hi]at O aS dM;rw[←hi];obtain⟨aJ,aK,a0,a1⟩:=bH aG;obtain⟨A,t,ar,a2,hc,ht,_⟩:=bq.at (h.ext N).keys O;refine⟨K,aK,A,ar,a2,t,hc,(kF (B:=λq=>w.heap.size<=q) ht.1 (by have:=E _ (cF O);omega) (λq f=>eK N.size f)).use ?_⟩;rintro _ r ⟨tk,rfl,aM,S,aN⟩;have T:=cf r;obtain⟨aJ,aK,a0,a1⟩:=bH (aG.ext S);have s:=S.trans T;obtain⟨f0,f1,f2,f3⟩:=bH (aF.ext s);have o:=R.at.ext s;have bI:=bq.len o.keys;have bJ:=bq.len o.vals;have bK:=cK.len o.kids;have bL:=bq.le (bu.iN R.keys);have bM:=bq.le (bu.iN R.vals);have bP:az.len<=az.cap:=o.kids.2.1;have bQ:F.heap.size<=r.heap.size:=S.size;have aQ:n.keys.getD i []=n.keys[i]:=fm O;refine⟨tk,rfl,n.leaf,aJ,λp=>aW ⟨λq=>q=w1.heap.size,λe=>?_,c,f1,⟨I,I⟩,λe=>?_,d,f2,⟨I,?_⟩,#[true,.slice (aP c.a 1 0 c.cap) i c.cap,.slice (aP d.a 1 0 d.cap) i d.cap,()],(λw=>by kernel_rfl),λe=>?_,c,f1,⟨I,I⟩,λe=>?_,d,f2,⟨I,?_⟩,#[true,.slice (aP c.a 1 i c.cap) (c.len-i) (c.cap-i),.slice (aP d.a 1 i d.cap) (d.len-i) (d.cap-i),()],(λw=>by kernel_rfl),?_⟩,λp=>?_⟩
   .rw[aw]at e;have e:aE=w1.heap.size:=e;omega
   .rw[aw]at e;have e:aE=w1.heap.size:=e;omega
   .have:=hs.k8 p;omega
   .rw[aw]at e;have e:aE=w1.heap.size:=e;omega
   .rw[aw]at e;have e:aE=w1.heap.size:=e;omega
   .have:=hs.k8 p;omega
   .have a3:=hs.k8 p
    have g:n.left i=⟨true,n.keys.take i,n.vals.take i,[]⟩:=by unfold aD.left;rw[p];rfl
    have j:n.right i=⟨true,n.keys.drop i,n.vals.drop i,[]⟩:=by unfold aD.right;rw[p];rfl
    have W:bF (λq=>y.heap.size<=q) r.drew (n.left i) ⟨aP c.a 1 0 c.cap,i,c.cap⟩ ⟨aP d.a 1 0 d.cap,i,d.cap⟩ bk:=by
     rw[g];refine⟨?_,?_,cK.none _ _⟩
     .have:=bq.sub o.keys (lo:=0) (hi:=i) I I
      simpa using this
     .have:=bq.sub o.vals (lo:=0) (hi:=i) I I
      simpa using this
    have X:bF (λq=>y.heap.size<=q) r.drew (n.right i) ⟨aP c.a 1 i c.cap,c.len-i,c.cap-i⟩ ⟨aP d.a 1 i d.cap,d.len-i,d.cap-i⟩ bk:=by
     rw[j];refine⟨?_,?_,cK.none _ _⟩
     .have:=bq.sub o.keys (lo:=i) (hi:=c.len) I I
      rwa[dV (by rw[da];omega)]at this
     .have:=bq.sub o.vals (lo:=i) (hi:=d.len) I I
      rwa[dV (by rw[da];omega)]at this
    have Z:=eW W (by rw[g];show(n.keys.take i).length<=_;rw[cG];omega) (by rw[g];show(n.vals.take i).length<=_;rw[cG];omega) (by rw[g];simp) (by rw[g];exact λk l=>E k (fh l)) (by rw[g];exact λk l=>ap k (fh l));have ac:(.agg #[true,.slice (aP c.a 1 0 c.cap) i c.cap,.slice (aP d.a 1 0 d.cap) i d.cap,()]:aa)=c2 (n.left i) ⟨aP c.a 1 0 c.cap,i,c.cap⟩ ⟨aP d.a 1 0 d.cap,i,d.cap⟩ bk:=by rw[g];rfl
    have ae:(.agg #[true,.slice (aP c.a 1 i c.cap) (c.len-i) (c.cap-i),.slice (aP d.a 1 i d.cap) (d.len-i) (d.cap-i),()]:aa)=c2 (n.right i) ⟨aP c.a 1 i c.cap,c.len-i,c.cap-i⟩ ⟨aP d.a 1 i d.cap,d.len-i,d.cap-i⟩ bk:=by rw[j];rfl
    rw[ac,ae];refine Z.use ?_;rintro _ a4 ⟨de,dz,bt,a5,a6,a7,rfl,ai,u⟩;have al:=eW (X.ext u) (by rw[j];show(n.keys.drop i).length<=_;rw[da];omega) (by rw[j];show(n.vals.drop i).length<=_;rw[da];omega) (by rw[j];simp) (by rw[j];exact λk l=>E k (fg l)) (by rw[j];exact λk l=>ap k (fg l));refine⟨_,de,dz,bt,rfl,ad.cJ u,al.use ?_⟩;rintro _ a8 ⟨cI,cQ,ct,a9,bb,bd,rfl,am,z⟩;have v:=u.trans z;have be:=u.size;have bf:=s.size;refine⟨_,cI,cQ,ct,rfl,ad.cJ z,p_ (b_:=(n.left i).leaf) (bO:=(n.right i).leaf) (de:=de) (dz:=dz) (bt:=bt) (cI:=cI) (cQ:=cQ) (ct:=ct) ((aH.ext s).ext v) ((aI.ext s).ext v) rfl rfl I (λq f=>f) (Q:=λb_ de dz bt bO cI cQ ct w'=>oz n w (.tuple #[.agg #[b_,de,dz,bt],tk,.agg #[bO,cI,cQ,ct],true]) w') λbg x=>?_⟩;have bi:r.drew.heap.size=r.heap.size:=rfl;refine⟨de,dz,bt,cI,cQ,ct,tk,by rw[←hi];rfl,?_,?_,?_,?_⟩
    .rw[←hi];exact((ai.at.ext z).ab x λq f e=>I).aY λq _ f=>by omega
    .rw[←hi];exact(am.at.ab x λq f e=>I).aY λq _ f=>by omega
    .rw[←hi,aQ]
     have an:∀q,aB tk q->F.heap.size<=q:=aN;exact a_.iM (a_.ext (a_.ext aM T) v) x λq f e=>by have:=an q f;omega
    .exact Ext.dy (N.trans (s.trans v)) x λq f=>by omega
   .have a3:=hs.p7 p
    have bR:i<=n.keys.length-2/\1<=n.keys.length-2:=by rw[p,←hi]at L;simpa using L
    have bj:IntKind.wrap .i64 ((i:Int)+1)=((i+1:Nat):Int):=by rw[bA I I];rfl
    rw[bj];refine aW ⟨λq=>q=w1.heap.size,λe=>?_,c,f1,⟨I,I⟩,λe=>?_,az,f3,⟨I,I⟩,#[false,.slice (aP c.a 1 0 c.cap) i c.cap,(),.slice (aP az.a 1 0 az.cap) (i+1) az.cap],(λw=>by kernel_rfl),λe=>?_,c,f1,⟨I,I⟩,λe=>?_,az,f3,⟨I,I⟩,#[false,.slice (aP c.a 1 (i+1) c.cap) (c.len-(i+1)) (c.cap-(i+1)),(),.slice (aP az.a 1 (i+1) az.cap) (az.len-(i+1)) (az.cap-(i+1))],(λw=>by kernel_rfl),?_⟩
    .rw[aw]at e;have e:aE=w1.heap.size:=e;omega
    .rw[aw]at e;have e:aE=w1.heap.size:=e;omega
    .rw[aw]at e;have e:aE=w1.heap.size:=e;omega
    .rw[aw]at e;have e:aE=w1.heap.size:=e;omega
    have g:n.left i=⟨false,n.keys.take i,[],n.kids.take (i+1)⟩:=by unfold aD.left;rw[p];rfl
    have j:n.right i=⟨false,n.keys.drop (i+1),[],n.kids.drop (i+1)⟩:=by unfold aD.right;rw[p];rfl
    have W:bF (λq=>y.heap.size<=q) r.drew (n.left i) ⟨aP c.a 1 0 c.cap,i,c.cap⟩ bk ⟨aP az.a 1 0 az.cap,i+1,az.cap⟩:=by
     rw[g];refine⟨?_,bq.none _ _,?_⟩
     .have:=bq.sub o.keys (lo:=0) (hi:=i) I I
      simpa using this
     .have:=cK.sub o.kids (lo:=0) (hi:=i+1) I I
      simpa using this
    have X:bF (λq=>y.heap.size<=q) r.drew (n.right i) ⟨aP c.a 1 (i+1) c.cap,c.len-(i+1),c.cap-(i+1)⟩ bk ⟨aP az.a 1 (i+1) az.cap,az.len-(i+1),az.cap-(i+1)⟩:=by
     rw[j];refine⟨?_,bq.none _ _,?_⟩
     .have:=bq.sub o.keys (lo:=i+1) (hi:=c.len) I I
      rwa[dV (by rw[da];omega)]at this
     .have:=cK.sub o.kids (lo:=i+1) (hi:=az.len) I I
      rwa[dV (by rw[da];omega)]at this
    have Z:=eW W (by rw[g];show(n.keys.take i).length<=_;rw[cG];omega) (by rw[g];simp) (by rw[g];show(n.kids.take (i+1)).length<=_;rw[cG];omega) (by rw[g];exact λk l=>E k (fh l)) (by rw[g];simp);have ac:(.agg #[false,.slice (aP c.a 1 0 c.cap) i c.cap,(),.slice (aP az.a 1 0 az.cap) (i+1) az.cap]:aa)=c2 (n.left i) ⟨aP c.a 1 0 c.cap,i,c.cap⟩ bk ⟨aP az.a 1 0 az.cap,i+1,az.cap⟩:=by rw[g];rfl
    have ae:(.agg #[false,.slice (aP c.a 1 (i+1) c.cap) (c.len-(i+1)) (c.cap-(i+1)),(),.slice (aP az.a 1 (i+1) az.cap) (az.len-(i+1)) (az.cap-(i+1))]:aa)=c2 (n.right i) ⟨aP c.a 1 (i+1) c.cap,c.len-(i+1),c.cap-(i+1)⟩ bk ⟨aP az.a 1 (i+1) az.cap,az.len-(i+1),az.cap-(i+1)⟩:=by rw[j];rfl
    rw[ac,ae];refine Z.use ?_;rintro _ a4 ⟨de,dz,bt,a5,a6,a7,rfl,ai,u⟩;have al:=eW (X.ext u) (by rw[j];show(n.keys.drop (i+1)).length<=_;rw[da];omega) (by rw[j];simp) (by rw[j];show(n.kids.drop (i+1)).length<=_;rw[da];omega) (by rw[j];exact λk l=>E k (fg l)) (by rw[j];simp);refine⟨_,de,dz,bt,rfl,ad.cJ u,al.use ?_⟩;rintro _ a8 ⟨cI,cQ,ct,a9,bb,bd,rfl,am,z⟩;have v:=u.trans z;have be:=u.size;have bf:=s.size;refine⟨_,cI,cQ,ct,rfl,ad.cJ z,p_ (b_:=(n.left i).leaf) (bO:=(n.right i).leaf) (de:=de) (dz:=dz) (bt:=bt) (cI:=cI) (cQ:=cQ) (ct:=ct) ((aH.ext s).ext v) ((aI.ext s).ext v) rfl rfl I (λq f=>f) (Q:=λb_ de dz bt bO cI cQ ct w'=>oz n w (.tuple #[.agg #[b_,de,dz,bt],tk,.agg #[bO,cI,cQ,ct],true]) w') λbg x=>?_⟩;have bi:r.drew.heap.size=r.heap.size:=rfl;refine⟨de,dz,bt,cI,cQ,ct,tk,by rw[←hi];rfl,?_,?_,?_,?_⟩
    .rw[←hi];exact((ai.at.ext z).ab x λq f e=>I).aY λq _ f=>by omega
    .rw[←hi];exact(am.at.ab x λq f e=>I).aY λq _ f=>by omega
    .rw[←hi,aQ]
     have an:∀q,aB tk q->F.heap.size<=q:=aN;exact a_.iM (a_.ext (a_.ext aM T) v) x λq f e=>by have:=an q f;omega
    .exact Ext.dy (N.trans (s.trans v)) x λq f=>by omega
  .refine bh (vs:=[false,(),(),()]) rfl λbw b1 G ce=>⟨G,?_⟩
   refine(m3 (h.ext (au.trans (P.trans G))) hs bn (most:=most) aS.2.1).use ?_;rintro _ bC ⟨rfl,H⟩;have ay:=b1.ext H;refine⟨_,rfl,H,ay.b9 rfl (fM _ _ _ _),rfl,cr ay (us:=[n.leaf,c,d,az]) rfl rfl λF aF C bE=>?_⟩;have bZ:=P.size;have bD:=H.size;obtain⟨aE,aX⟩:∃aE,aE=bB.heap.size:=⟨_,rfl⟩;rw[←aX]at aF C⊢;have M:=P.trans (G.trans H);have R:e5 y.heap.size F n c d az bT b6 bN:=(ax.ext (G.trans H)).ab C λq _ _ f e=>by
    subst e;rcases f with f|f|f
    .have:=(ax.bo _ f).2.1;omega
    .have:=(ax.bv _ f).2.1;omega
    .have:=(ax.aL _ f).2;omega
   have bG:y.drew.heap.size=y.heap.size:=rfl;have N:Ext w F:=Ext.cn (au.trans M) C I;have aG:=(bm.ext M).ab C I;have aH:=(br.ext M).ab C I;have aI:=(bs.ext M).ab C I;have aZ:gr (cellsOf n) most=cm n:=by unfold cm;rw[aq]
   rw[aZ];obtain⟨i,hi⟩:∃i,i=cm n:=⟨_,rfl⟩;rw[←hi]at O aS dM;rw[←hi];obtain⟨aJ,aK,a0,a1⟩:=bH aG;obtain⟨A,t,ar,a2,hc,ht,_⟩:=bq.at (h.ext N).keys O;refine⟨K,aK,A,ar,a2,t,hc,(kF (B:=λq=>w.heap.size<=q) ht.1 (by have:=E _ (cF O);omega) (λq f=>eK N.size f)).use ?_⟩;rintro _ r ⟨tk,rfl,aM,S,aN⟩;have T:=cf r;obtain⟨aJ,aK,a0,a1⟩:=bH (aG.ext S);have s:=S.trans T;obtain⟨f0,f1,f2,f3⟩:=bH (aF.ext s);have o:=R.at.ext s;have bI:=bq.len o.keys;have bJ:=bq.len o.vals;have bK:=cK.len o.kids;have bL:=bq.le (bu.iN R.keys);have bM:=bq.le (bu.iN R.vals);have bP:az.len<=az.cap:=o.kids.2.1;have bQ:F.heap.size<=r.heap.size:=S.size;have aQ:n.keys.getD i []=n.keys[i]:=fm O;refine⟨tk,rfl,n.leaf,aJ,λp=>aW ⟨λq=>q=w1.heap.size,λe=>?_,c,f1,⟨I,I⟩,λe=>?_,d,f2,⟨I,?_⟩,#[true,.slice (aP c.a 1 0 c.cap) i c.cap,.slice (aP d.a 1 0 d.cap) i d.cap,()],(λw=>by kernel_rfl),λe=>?_,c,f1,⟨I,I⟩,λe=>?_,d,f2,⟨I,?_⟩,#[true,.slice (aP c.a 1 i c.cap) (c.len-i) (c.cap-i),.slice (aP d.a 1 i d.cap) (d.len-i) (d.cap-i),()],(λw=>by kernel_rfl),?_⟩,λp=>?_⟩
   .rw[aw]at e;have e:aE=w1.heap.size:=e;omega
   .rw[aw]at e;have e:aE=w1.heap.size:=e;omega
   .have:=hs.k8 p;omega
   .rw[aw]at e;have e:aE=w1.heap.size:=e;omega
   .rw[aw]at e;have e:aE=w1.heap.size:=e;omega
   .have:=hs.k8 p;omega
   .have a3:=hs.k8 p
    have g:n.left i=⟨true,n.keys.take i,n.vals.take i,[]⟩:=by unfold aD.left;rw[p];rfl
    have j:n.right i=⟨true,n.keys.drop i,n.vals.drop i,[]⟩:=by unfold aD.right;rw[p];rfl
    have W:bF (λq=>y.heap.size<=q) r.drew (n.left i) ⟨aP c.a 1 0 c.cap,i,c.cap⟩ ⟨aP d.a 1 0 d.cap,i,d.cap⟩ bk:=by
     rw[g];refine⟨?_,?_,cK.none _ _⟩
     .have:=bq.sub o.keys (lo:=0) (hi:=i) I I
      simpa using this
     .have:=bq.sub o.vals (lo:=0) (hi:=i) I I
      simpa using this
    have X:bF (λq=>y.heap.size<=q) r.drew (n.right i) ⟨aP c.a 1 i c.cap,c.len-i,c.cap-i⟩ ⟨aP d.a 1 i d.cap,d.len-i,d.cap-i⟩ bk:=by
     rw[j];refine⟨?_,?_,cK.none _ _⟩
     .have:=bq.sub o.keys (lo:=i) (hi:=c.len) I I
      rwa[dV (by rw[da];omega)]at this
     .have:=bq.sub o.vals (lo:=i) (hi:=d.len) I I
      rwa[dV (by rw[da];omega)]at this
    have Z:=eW W (by rw[g];show(n.keys.take i).length<=_;rw[cG];omega) (by rw[g];show(n.vals.take i).length<=_;rw[cG];omega) (by rw[g];simp) (by rw[g];exact λk l=>E k (fh l)) (by rw[g];exact λk l=>ap k (fh l));have ac:(.agg #[true,.slice (aP c.a 1 0 c.cap) i c.cap,.slice (aP d.a 1 0 d.cap) i d.cap,()]:aa)=c2 (n.left i) ⟨aP c.a 1 0 c.cap,i,c.cap⟩ ⟨aP d.a 1 0 d.cap,i,d.cap⟩ bk:=by rw[g];rfl
    have ae:(.agg #[true,.slice (aP c.a 1 i c.cap) (c.len-i) (c.cap-i),.slice (aP d.a 1 i d.cap) (d.len-i) (d.cap-i),()]:aa)=c2 (n.right i) ⟨aP c.a 1 i c.cap,c.len-i,c.cap-i⟩ ⟨aP d.a 1 i d.cap,d.len-i,d.cap-i⟩ bk:=by rw[j];rfl
    rw[ac,ae];refine Z.use ?_;rintro _ a4 ⟨de,dz,bt,a5,a6,a7,rfl,ai,u⟩;have al:=eW (X.ext u) (by rw[j];show(n.keys.drop i).length<=_;rw[da];omega) (by rw[j];show(n.vals.drop i).length<=_;rw[da];omega) (by rw[j];simp) (by rw[j];exact λk l=>E k (fg l)) (by rw[j];exact λk l=>ap k (fg l));refine⟨_,de,dz,bt,rfl,ad.cJ u,al.use ?_⟩;rintro _ a8 ⟨cI,cQ,ct,a9,bb,bd,rfl,am,z⟩;have v:=u.trans z;have be:=u.size;have bf:=s.size;refine⟨_,cI,cQ,ct,rfl,ad.cJ z,p_ (b_:=(n.left i).leaf) (bO:=(n.right i).leaf) (de:=de) (dz:=dz) (bt:=bt) (cI:=cI) (cQ:=cQ) (ct:=ct) ((aH.ext s).ext v) ((aI.ext s).ext v) rfl rfl I (λq f=>f) (Q:=λb_ de dz bt bO cI cQ ct w'=>oz n w (.tuple #[.agg #[b_,de,dz,bt],tk,.agg #[bO,cI,cQ,ct],true]) w') λbg x=>?_⟩;have bi:r.drew.heap.size=r.heap.size:=rfl;refine⟨de,dz,bt,cI,cQ,ct,tk,by rw[←hi];rfl,?_,?_,?_,?_⟩
    .rw[←hi];exact((ai.at.ext z).ab x λq f e=>I).aY λq _ f=>by omega
    .rw[←hi];exact(am.at.ab x λq f e=>I).aY λq _ f=>by omega
    .rw[←hi,aQ]
     have an:∀q,aB tk q->F.heap.size<=q:=aN;exact a_.iM (a_.ext (a_.ext aM T) v) x λq f e=>by have:=an q f;omega
    .exact Ext.dy (N.trans (s.trans v)) x λq f=>by omega
   .have a3:=hs.p7 p
    have bR:i<=n.keys.length-2/\1<=n.keys.length-2:=by rw[p,←hi]at L;simpa using L
    have bj:IntKind.wrap .i64 ((i:Int)+1)=((i+1:Nat):Int):=by rw[bA I I];rfl
    rw[bj];refine aW ⟨λq=>q=w1.heap.size,λe=>?_,c,f1,⟨I,I⟩,λe=>?_,az,f3,⟨I,I⟩,#[false,.slice (aP c.a 1 0 c.cap) i c.cap,(),.slice (aP az.a 1 0 az.cap) (i+1) az.cap],(λw=>by kernel_rfl),λe=>?_,c,f1,⟨I,I⟩,λe=>?_,az,f3,⟨I,I⟩,#[false,.slice (aP c.a 1 (i+1) c.cap) (c.len-(i+1)) (c.cap-(i+1)),(),.slice (aP az.a 1 (i+1) az.cap) (az.len-(i+1)) (az.cap-(i+1))],(λw=>by kernel_rfl),?_⟩
    .rw[aw]at e;have e:aE=w1.heap.size:=e;omega
    .rw[aw]at e;have e:aE=w1.heap.size:=e;omega
    .rw[aw]at e;have e:aE=w1.heap.size:=e;omega
    .rw[aw]at e;have e:aE=w1.heap.size:=e;omega
    have g:n.left i=⟨false,n.keys.take i,[],n.kids.take (i+1)⟩:=by unfold aD.left;rw[p];rfl
    have j:n.right i=⟨false,n.keys.drop (i+1),[],n.kids.drop (i+1)⟩:=by unfold aD.right;rw[p];rfl
    have W:bF (λq=>y.heap.size<=q) r.drew (n.left i) ⟨aP c.a 1 0 c.cap,i,c.cap⟩ bk ⟨aP az.a 1 0 az.cap,i+1,az.cap⟩:=by
     rw[g];refine⟨?_,bq.none _ _,?_⟩
     .have:=bq.sub o.keys (lo:=0) (hi:=i) I I
      simpa using this
     .have:=cK.sub o.kids (lo:=0) (hi:=i+1) I I
      simpa using this
    have X:bF (λq=>y.heap.size<=q) r.drew (n.right i) ⟨aP c.a 1 (i+1) c.cap,c.len-(i+1),c.cap-(i+1)⟩ bk ⟨aP az.a 1 (i+1) az.cap,az.len-(i+1),az.cap-(i+1)⟩:=by
     rw[j];refine⟨?_,bq.none _ _,?_⟩
     .have:=bq.sub o.keys (lo:=i+1) (hi:=c.len) I I
      rwa[dV (by rw[da];omega)]at this
     .have:=cK.sub o.kids (lo:=i+1) (hi:=az.len) I I
      rwa[dV (by rw[da];omega)]at this
    have Z:=eW W (by rw[g];show(n.keys.take i).length<=_;rw[cG];omega) (by rw[g];simp) (by rw[g];show(n.kids.take (i+1)).length<=_;rw[cG];omega) (by rw[g];exact λk l=>E k (fh l)) (by rw[g];simp);have ac:(.agg #[false,.slice (aP c.a 1 0 c.cap) i c.cap,(),.slice (aP az.a 1 0 az.cap) (i+1) az.cap]:aa)=c2 (n.left i) ⟨aP c.a 1 0 c.cap,i,c.cap⟩ bk ⟨aP az.a 1 0 az.cap,i+1,az.cap⟩:=by rw[g];rfl
    have ae:(.agg #[false,.slice (aP c.a 1 (i+1) c.cap) (c.len-(i+1)) (c.cap-(i+1)),(),.slice (aP az.a 1 (i+1) az.cap) (az.len-(i+1)) (az.cap-(i+1))]:aa)=c2 (n.right i) ⟨aP c.a 1 (i+1) c.cap,c.len-(i+1),c.cap-(i+1)⟩ bk ⟨aP az.a 1 (i+1) az.cap,az.len-(i+1),az.cap-(i+1)⟩:=by rw[j];rfl
    rw[ac,ae];refine Z.use ?_;rintro _ a4 ⟨de,dz,bt,a5,a6,a7,rfl,ai,u⟩;have al:=eW (X.ext u) (by rw[j];show(n.keys.drop (i+1)).length<=_;rw[da];omega) (by rw[j];simp) (by rw[j];show(n.kids.drop (i+1)).length<=_;rw[da];omega) (by rw[j];exact λk l=>E k (fg l)) (by rw[j];simp);refine⟨_,de,dz,bt,rfl,ad.cJ u,al.use ?_⟩;rintro _ a8 ⟨cI,cQ,ct,a9,bb,bd,rfl,am,z⟩;have v:=u.trans z;have be:=u.size;have bf:=s.size;refine⟨_,cI,cQ,ct,rfl,ad.cJ z,p_ (b_:=(n.left i).leaf) (bO:=(n.right i).leaf) (de:=de) (dz:=dz) (bt:=bt) (cI:=cI) (cQ:=cQ) (ct:=ct) ((aH.ext s).ext v) ((aI.ext s).ext v) rfl rfl I (λq f=>f) (Q:=λb_ de dz bt bO cI cQ ct w'=>oz n w (.tuple #[.agg #[b_,de,dz,bt],tk,.agg #[bO,cI,cQ,ct],true]) w') λbg x=>?_⟩;have bi:r.drew.heap.size=r.heap.size:=rfl;refine⟨de,dz,bt,cI,cQ,ct,tk,by rw[←hi];rfl,?_,?_,?_,?_⟩
    .rw[←hi];exact((ai.at.ext z).ab x λq f e=>I).aY λq _ f=>by omega
    .rw[←hi];exact(am.at.ab x λq f e=>I).aY λq _ f=>by omega
    .rw[←hi,aQ]
     have an:∀q,aB tk q->F.heap.size<=q:=aN;exact a_.iM (a_.ext (a_.ext aM T) v) x λq f e=>by have:=an q f;omega
    .exact Ext.dy (N.trans (s.trans v)) x λq f=>by omega
 .refine bh (vs:=[false,(),(),()]) rfl λbB b2 P cg=>⟨P,?_⟩
  refine(eW (h.ext (au.trans P)) I I I E ap).use ?_;rintro _ bw ⟨c,d,az,bT,b6,bN,rfl,b3,G⟩;refine⟨n.leaf,c,d,az,rfl,G,(m3 (h.ext (au.trans (P.trans G))) hs bn (most:=most) aS.2.1).use ?_⟩;rintro _ bC ⟨rfl,H⟩;have ay:=b2.ext (G.trans H);refine⟨_,rfl,H,ay.b9 rfl (fM _ _ _ _),rfl,cr ay (us:=[n.leaf,c,d,az]) rfl rfl λF aF C bE=>?_⟩;have b0:=G.size;have bD:=H.size;have bG:y.drew.heap.size=y.heap.size:=rfl;obtain⟨aE,aX⟩:∃aE,aE=y.drew.heap.size:=⟨_,rfl⟩;rw[←aX]at aF C⊢;have M:=P.trans (G.trans H);have R:e5 y.heap.size F n c d az bT b6 bN:=((b3.ext H).ab C λq h1 _ _ e=>I).low I;have N:Ext w F:=Ext.cn (au.trans M) C I;have aG:=(bm.ext M).ab C I;have aH:=(br.ext M).ab C I;have aI:=(bs.ext M).ab C I;have aZ:gr (cellsOf n) most=cm n:=by unfold cm;rw[aq]
  rw[aZ];obtain⟨i,hi⟩:∃i,i=cm n:=⟨_,rfl⟩;rw[←hi]at O aS dM;rw[←hi];obtain⟨aJ,aK,a0,a1⟩:=bH aG;obtain⟨A,t,ar,a2,hc,ht,_⟩:=bq.at (h.ext N).keys O;refine⟨K,aK,A,ar,a2,t,hc,(kF (B:=λq=>w.heap.size<=q) ht.1 (by have:=E _ (cF O);omega) (λq f=>eK N.size f)).use ?_⟩;rintro _ r ⟨tk,rfl,aM,S,aN⟩;have T:=cf r;obtain⟨aJ,aK,a0,a1⟩:=bH (aG.ext S);have s:=S.trans T;obtain⟨f0,f1,f2,f3⟩:=bH (aF.ext s);have o:=R.at.ext s;have bI:=bq.len o.keys;have bJ:=bq.len o.vals;have bK:=cK.len o.kids;have bL:=bq.le (bu.iN R.keys);have bM:=bq.le (bu.iN R.vals);have bP:az.len<=az.cap:=o.kids.2.1;have bQ:F.heap.size<=r.heap.size:=S.size;have aQ:n.keys.getD i []=n.keys[i]:=fm O;refine⟨tk,rfl,n.leaf,aJ,λp=>aW ⟨λq=>q=w1.heap.size,λe=>?_,c,f1,⟨I,I⟩,λe=>?_,d,f2,⟨I,?_⟩,#[true,.slice (aP c.a 1 0 c.cap) i c.cap,.slice (aP d.a 1 0 d.cap) i d.cap,()],(λw=>by kernel_rfl),λe=>?_,c,f1,⟨I,I⟩,λe=>?_,d,f2,⟨I,?_⟩,#[true,.slice (aP c.a 1 i c.cap) (c.len-i) (c.cap-i),.slice (aP d.a 1 i d.cap) (d.len-i) (d.cap-i),()],(λw=>by kernel_rfl),?_⟩,λp=>?_⟩
  .rw[aw]at e;have e:aE=w1.heap.size:=e;omega
  .rw[aw]at e;have e:aE=w1.heap.size:=e;omega
  .have:=hs.k8 p;omega
  .rw[aw]at e;have e:aE=w1.heap.size:=e;omega
  .rw[aw]at e;have e:aE=w1.heap.size:=e;omega
  .have:=hs.k8 p;omega
  .have a3:=hs.k8 p
   have g:n.left i=⟨true,n.keys.take i,n.vals.take i,[]⟩:=by unfold aD.left;rw[p];rfl
   have j:n.right i=⟨true,n.keys.drop i,n.vals.drop i,[]⟩:=by unfold aD.right;rw[p];rfl
   have W:bF (λq=>y.heap.size<=q) r.drew (n.left i) ⟨aP c.a 1 0 c.cap,i,c.cap⟩ ⟨aP d.a 1 0 d.cap,i,d.cap⟩ bk:=by
    rw[g];refine⟨?_,?_,cK.none _ _⟩
    .have:=bq.sub o.keys (lo:=0) (hi:=i) I I
     simpa using this
    .have:=bq.sub o.vals (lo:=0) (hi:=i) I I
     simpa using this
   have X:bF (λq=>y.heap.size<=q) r.drew (n.right i) ⟨aP c.a 1 i c.cap,c.len-i,c.cap-i⟩ ⟨aP d.a 1 i d.cap,d.len-i,d.cap-i⟩ bk:=by
    rw[j];refine⟨?_,?_,cK.none _ _⟩
    .have:=bq.sub o.keys (lo:=i) (hi:=c.len) I I
     rwa[dV (by rw[da];omega)]at this
    .have:=bq.sub o.vals (lo:=i) (hi:=d.len) I I
     rwa[dV (by rw[da];omega)]at this
   have Z:=eW W (by rw[g];show(n.keys.take i).length<=_;rw[cG];omega) (by rw[g];show(n.vals.take i).length<=_;rw[cG];omega) (by rw[g];simp) (by rw[g];exact λk l=>E k (fh l)) (by rw[g];exact λk l=>ap k (fh l));have ac:(.agg #[true,.slice (aP c.a 1 0 c.cap) i c.cap,.slice (aP d.a 1 0 d.cap) i d.cap,()]:aa)=c2 (n.left i) ⟨aP c.a 1 0 c.cap,i,c.cap⟩ ⟨aP d.a 1 0 d.cap,i,d.cap⟩ bk:=by rw[g];rfl
   have ae:(.agg #[true,.slice (aP c.a 1 i c.cap) (c.len-i) (c.cap-i),.slice (aP d.a 1 i d.cap) (d.len-i) (d.cap-i),()]:aa)=c2 (n.right i) ⟨aP c.a 1 i c.cap,c.len-i,c.cap-i⟩ ⟨aP d.a 1 i d.cap,d.len-i,d.cap-i⟩ bk:=by rw[j];rfl
   rw[ac,ae];refine Z.use ?_;rintro _ a4 ⟨de,dz,bt,a5,a6,a7,rfl,ai,u⟩;have al:=eW (X.ext u) (by rw[j];show(n.keys.drop i).length<=_;rw[da];omega) (by rw[j];show(n.vals.drop i).length<=_;rw[da];omega) (by rw[j];simp) (by rw[j];exact λk l=>E k (fg l)) (by rw[j];exact λk l=>ap k (fg l));refine⟨_,de,dz,bt,rfl,ad.cJ u,al.use ?_⟩;rintro _ a8 ⟨cI,cQ,ct,a9,bb,bd,rfl,am,z⟩;have v:=u.trans z;have be:=u.size;have bf:=s.size;refine⟨_,cI,cQ,ct,rfl,ad.cJ z,p_ (b_:=(n.left i).leaf) (bO:=(n.right i).leaf) (de:=de) (dz:=dz) (bt:=bt) (cI:=cI) (cQ:=cQ) (ct:=ct) ((aH.ext s).ext v) ((aI.ext s).ext v) rfl rfl I (λq f=>f) (Q:=λb_ de dz bt bO cI cQ ct w'=>oz n w (.tuple #[.agg #[b_,de,dz,bt],tk,.agg #[bO,cI,cQ,ct],true]) w') λbg x=>?_⟩;have bi:r.drew.heap.size=r.heap.size:=rfl;refine⟨de,dz,bt,cI,cQ,ct,tk,by rw[←hi];rfl,?_,?_,?_,?_⟩
   .rw[←hi];exact((ai.at.ext z).ab x λq f e=>I).aY λq _ f=>by omega
   .rw[←hi];exact(am.at.ab x λq f e=>I).aY λq _ f=>by omega
   .rw[←hi,aQ]
    have an:∀q,aB tk q->F.heap.size<=q:=aN;exact a_.iM (a_.ext (a_.ext aM T) v) x λq f e=>by have:=an q f;omega
   .exact Ext.dy (N.trans (s.trans v)) x λq f=>by omega
  .have a3:=hs.p7 p
   have bR:i<=n.keys.length-2/\1<=n.keys.length-2:=by rw[p,←hi]at L;simpa using L
   have bj:IntKind.wrap .i64 ((i:Int)+1)=((i+1:Nat):Int):=by rw[bA I I];rfl
   rw[bj];refine aW ⟨λq=>q=w1.heap.size,λe=>?_,c,f1,⟨I,I⟩,λe=>?_,az,f3,⟨I,I⟩,#[false,.slice (aP c.a 1 0 c.cap) i c.cap,(),.slice (aP az.a 1 0 az.cap) (i+1) az.cap],(λw=>by kernel_rfl),λe=>?_,c,f1,⟨I,I⟩,λe=>?_,az,f3,⟨I,I⟩,#[false,.slice (aP c.a 1 (i+1) c.cap) (c.len-(i+1)) (c.cap-(i+1)),(),.slice (aP az.a 1 (i+1) az.cap) (az.len-(i+1)) (az.cap-(i+1))],(λw=>by kernel_rfl),?_⟩
   .rw[aw]at e;have e:aE=w1.heap.size:=e;omega
   .rw[aw]at e;have e:aE=w1.heap.size:=e;omega
   .rw[aw]at e;have e:aE=w1.heap.size:=e;omega
   .rw[aw]at e;have e:aE=w1.heap.size:=e;omega
   have g:n.left i=⟨false,n.keys.take i,[],n.kids.take (i+1)⟩:=by unfold aD.left;rw[p];rfl
   have j:n.right i=⟨false,n.keys.drop (i+1),[],n.kids.drop (i+1)⟩:=by unfold aD.right;rw[p];rfl
   have W:bF (λq=>y.heap.size<=q) r.drew (n.left i) ⟨aP c.a 1 0 c.cap,i,c.cap⟩ bk ⟨aP az.a 1 0 az.cap,i+1,az.cap⟩:=by
    rw[g];refine⟨?_,bq.none _ _,?_⟩
    .have:=bq.sub o.keys (lo:=0) (hi:=i) I I
     simpa using this
    .have:=cK.sub o.kids (lo:=0) (hi:=i+1) I I
     simpa using this
   have X:bF (λq=>y.heap.size<=q) r.drew (n.right i) ⟨aP c.a 1 (i+1) c.cap,c.len-(i+1),c.cap-(i+1)⟩ bk ⟨aP az.a 1 (i+1) az.cap,az.len-(i+1),az.cap-(i+1)⟩:=by
    rw[j];refine⟨?_,bq.none _ _,?_⟩
    .have:=bq.sub o.keys (lo:=i+1) (hi:=c.len) I I
     rwa[dV (by rw[da];omega)]at this
    .have:=cK.sub o.kids (lo:=i+1) (hi:=az.len) I I
     rwa[dV (by rw[da];omega)]at this
   have Z:=eW W (by rw[g];show(n.keys.take i).length<=_;rw[cG];omega) (by rw[g];simp) (by rw[g];show(n.kids.take (i+1)).length<=_;rw[cG];omega) (by rw[g];exact λk l=>E k (fh l)) (by rw[g];simp);have ac:(.agg #[false,.slice (aP c.a 1 0 c.cap) i c.cap,(),.slice (aP az.a 1 0 az.cap) (i+1) az.cap]:aa)=c2 (n.left i) ⟨aP c.a 1 0 c.cap,i,c.cap⟩ bk ⟨aP az.a 1 0 az.cap,i+1,az.cap⟩:=by rw[g];rfl
   have ae:(.agg #[false,.slice (aP c.a 1 (i+1) c.cap) (c.len-(i+1)) (c.cap-(i+1)),(),.slice (aP az.a 1 (i+1) az.cap) (az.len-(i+1)) (az.cap-(i+1))]:aa)=c2 (n.right i) ⟨aP c.a 1 (i+1) c.cap,c.len-(i+1),c.cap-(i+1)⟩ bk ⟨aP az.a 1 (i+1) az.cap,az.len-(i+1),az.cap-(i+1)⟩:=by rw[j];rfl
   rw[ac,ae];refine Z.use ?_;rintro _ a4 ⟨de,dz,bt,a5,a6,a7,rfl,ai,u⟩;have al:=eW (X.ext u) (by rw[j];show(n.keys.drop (i+1)).length<=_;rw[da];omega) (by rw[j];simp) (by rw[j];show(n.kids.drop (i+1)).length<=_;rw[da];omega) (by rw[j];exact λk l=>E k (fg l)) (by rw[j];simp);refine⟨_,de,dz,bt,rfl,ad.cJ u,al.use ?_⟩;rintro _ a8 ⟨cI,cQ,ct,a9,bb,bd,rfl,am,z⟩;have v:=u.trans z;have be:=u.size;have bf:=s.size;refine⟨_,cI,cQ,ct,rfl,ad.cJ z,p_ (b_:=(n.left i).leaf) (bO:=(n.right i).leaf) (de:=de) (dz:=dz) (bt:=bt) (cI:=cI) (cQ:=cQ) (ct:=ct) ((aH.ext s).ext v) ((aI.ext s).ext v) rfl rfl I (λq f=>f) (Q:=λb_ de dz bt bO cI cQ ct w'=>oz n w (.tuple #[.agg #[b_,de,dz,bt],tk,.agg #[bO,cI,cQ,ct],true]) w') λbg x=>?_⟩;have bi:r.drew.heap.size=r.heap.size:=rfl;refine⟨de,dz,bt,cI,cQ,ct,tk,by rw[←hi];rfl,?_,?_,?_,?_⟩
   .rw[←hi];exact((ai.at.ext z).ab x λq f e=>I).aY λq _ f=>by omega
   .rw[←hi];exact(am.at.ab x λq f e=>I).aY λq _ f=>by omega
   .rw[←hi,aQ]
    have an:∀q,aB tk q->F.heap.size<=q:=aN;exact a_.iM (a_.ext (a_.ext aM T) v) x λq f e=>by have:=an q f;omega
   .exact Ext.dy (N.trans (s.trans v)) x λq f=>by omega
theorem xV{B C:Nat->Prop}{w:J}{s x:Y}{ls xs:O Key}(l:bu B w s ls)(hx:bq C w x xs)(hd:∀q,C q->¬aB s q)(v:ls.length<=100000)(y:xs.length<=100000):
 ∃ (d:Y) (w':J),Sem.run aj (Builtin.append_ #[127,127] 127 #[s,x]) w=.ok d w'/\bq (λq=>B q\/C q\/w.heap.size<=q) w' d (ls++xs)/\ad (aB s) w w':=by
 have z:=bq.len hx;obtain⟨ts,h1,h2,m,n⟩:=l;obtain⟨us,au,ay,A,D,o⟩:=hx;have E:s.len=ls.length:=by have:=h2.1;rw[dU]at this;omega
 obtain⟨d,w',p,f,F,g,r⟩:=p5.append (cM:=127) ay h2 (vB us) I;refine⟨d,w',p,⟨ts++us,by simp[h1,au],?_,f.2.1,?_,λi t G=>?_⟩,g⟩
 .rw[fZ];exact f.src
 .intro k c
  refine⟨?_,f.lt k c⟩;rcases r k c with h|h
  .exact .inl (m k h).1
  .exact .inr (.inr h)
 .rcases dO i ts.length with h|h
  .have j:i<ls.length:=by omega
   rw[lW h,lW j];obtain⟨a,b⟩:=n i h j;exact a_.aY (a_.iM a g b) λk _ c=>.inl c
  .have u:i-ts.length<us.length:=by rw[cz]at t;omega
   have H:i-ls.length<xs.length:=by omega
   rw[nx h,nx I];have e:i-ls.length=i-ts.length:=by omega
   have a:=o (i-ts.length) u I;simp only[e];exact a_.aY (a_.iM a g λk c=>hd k (a.2.2 k c).1) λk _ c=>.inr (.inl c)
theorem Bk{B C:Nat->Prop}{w:J}{s x:Y}{ds es:O Nat}(d:cR B w s ds)(hx:cK C w x es)(i:ds.length<=100000)(j:es.length<=100000):
 ∃ (a:Y) (w':J),Sem.run aj (Builtin.append_ #[58,58] 58 #[s,x]) w=.ok a w'/\cK (λq=>B q\/C q\/w.heap.size<=q) w' a (ds++es)/\ad (aB s) w w':=by
 have l:=cK.len hx;obtain⟨h1,h2⟩:=d;have m:s.len=ds.length:=by have:=h1.1;rw[nc]at this;omega
 obtain⟨a,w',e,b,n,f,g⟩:=p6.append (cM:=58) hx.1 h1 (xM es) I;refine⟨a,w',e,⟨?_,b.2.1,?_⟩,f⟩
 .have:ee ds++ee es=ee (ds++es):=by simp[ee]
  rw[this]at b;exact b.src
 .intro k c
  refine⟨?_,b.lt k c⟩;rcases g k c with h|h
  .exact .inl (h2 k h).1
  .exact .inr (.inr h)
def Bl(pa b aE c:Nat)(key:Y)(G:J)(Q:aa->J->Prop):Prop:=
 bE (λR:J->Prop=>∃H:ai,G.cell? pa=some (.bool H)/\((!H)=true->al (G.drew) λI=>∃K:Nat->Prop,¬K (Addr.add b 1).block/\∃k:Y,I.cell? (Addr.add b 1)=some (.slice k.a k.len k.cap)/\Calls aj 135 #[key] I λae l=>∃S:Y,ae=.returned S/\ad K I l/\al (l.alloc (.cells #[S] 48)) λT=>ad K l T/\∃U:Y,∃m:J,Sem.run aj (Builtin.append_ #[127,127] 127 #[k,.slice (some l.heap.size) 1 1]) T=.ok U m/\(∃u:aa,m.cell? (Addr.add b 1)=some u)/\m.frozen? (Addr.add b 1)=false/\al (m.setCell (Addr.add b 1) U) λaf=>R af)/\((!H)=false->R G)) (λ(L:J)=>∃n:Y,L.cell? (Addr.add b 1)=some (.slice n.a n.len n.cap)/\∃o:Y,L.cell? (Addr.add aE 1)=some (.slice o.a o.len o.cap)/\∃V:Y,∃p:J,Sem.run aj (Builtin.append_ #[127,127] 127 #[n,o]) L=.ok V p/\(∃u:aa,p.cell? (Addr.add b 1)=some u)/\p.frozen? (Addr.add b 1)=false/\al (p.setCell (Addr.add b 1) V) λM=>∃q:Y,M.cell? (Addr.add b 2)=some (.slice q.a q.len q.cap)/\∃r:Y,M.cell? (Addr.add aE 2)=some (.slice r.a r.len r.cap)/\∃W:Y,∃s:J,Sem.run aj (Builtin.append_ #[127,127] 127 #[q,r]) M=.ok W s/\(∃u:aa,s.cell? (Addr.add b 2)=some u)/\s.frozen? (Addr.add b 2)=false/\al (s.setCell (Addr.add b 2) W) λN=>∃t:Y,N.cell? (Addr.add b 3)=some (.slice t.a t.len t.cap)/\∃v:Y,N.cell? (Addr.add aE 3)=some (.slice v.a v.len v.cap)/\∃X:Y,∃w:J,Sem.run aj (Builtin.append_ #[58,58] 58 #[t,v]) N=.ok X w/\(∃u:aa,w.cell? (Addr.add b 3)=some u)/\w.frozen? (Addr.add b 3)=false/\al (w.setCell (Addr.add b 3) X) λe=>∃Z:ai,e.cell? b=some (.bool Z)/\∃x:Y,e.cell? (Addr.add b 1)=some (.slice x.a x.len x.cap)/\∃y:Y,e.cell? (Addr.add b 2)=some (.slice y.a y.len y.cap)/\∃z:Y,e.cell? (Addr.add b 3)=some (.slice z.a z.len z.cap)/\Calls aj 203 #[.agg #[Z,x,y,z]] e λag d=>∃O:ai,ag=.returned O/\((!O)=true->bx d c [false,(),(),()]/\(4:Nat)=4/\al (setCells d c 0 [false,(),(),()]) λf=>∃ab:ai,f.cell? c=some (.bool ab)/\∃A:Y,f.cell? (Addr.add c 1)=some (.slice A.a A.len A.cap)/\∃B:Y,f.cell? (Addr.add c 2)=some (.slice B.a B.len B.cap)/\∃C:Y,f.cell? (Addr.add c 3)=some (.slice C.a C.len C.cap)/\Q (.tuple #[.agg #[ab,A,B,C],false]) f)/\((!O)=false->∃P:ai,d.cell? b=some (.bool P)/\∃g:Y,d.cell? (Addr.add b 1)=some (.slice g.a g.len g.cap)/\∃h:Y,d.cell? (Addr.add b 2)=some (.slice h.a h.len h.cap)/\∃i:Y,d.cell? (Addr.add b 3)=some (.slice i.a i.len i.cap)/\bx d c [P,g,h,i]/\(4:Nat)=4/\al (setCells d c 0 [P,g,h,i]) λj=>∃ac:ai,j.cell? c=some (.bool ac)/\∃D:Y,j.cell? (Addr.add c 1)=some (.slice D.a D.len D.cap)/\∃E:Y,j.cell? (Addr.add c 2)=some (.slice E.a E.len E.cap)/\∃F:Y,j.cell? (Addr.add c 3)=some (.slice F.a F.len F.cap)/\Q (.tuple #[.agg #[ac,D,E,F],true]) j))
theorem kG{lo pa d aE T:Nat}{key U t p ae af ag:Y}{w b1:J}{a b:aD}{s:Key}{bT b6 bN C:Nat->Prop}{av:O aa}(a5:b1.cell? pa=some (.bool a.leaf))
 (ar:Var b1 d [a.leaf,U,t,p] 202) (ax:Var b1 aE [b.leaf,ae,af,ag] 202)
 (g:e5 lo b1 a U t p bT b6 bN) (a6:bF C b1 b ae af ag) (f:∀q,C q->lo<=q/\q<b1.heap.size/\q≠d/\q≠aE/\¬bT q/\¬b6 q/\¬bN q) (E:∀q,bT q\/b6 q\/bN q->q≠d/\q≠aE) (a7:lo<=d) (lb:lo<=aE) (ai:d≠aE)
 (a8:Var b1 T av 202) (a9:av.length=4) (bB:T<lo) (a_:w.heap.size<=T) (u:Src 1 b1 key (aJ s)) (bD:s.length<=1000) (ba:Ext w b1) (hs:cH (ed a s b)) (ay:a.leaf=b.leaf) (sa:cH a) (sb:cH b)
 (bW:a.keys.length<=10000) (bC:b.keys.length<=10000):Bl pa d aE T key b1 (oy (ed a s b) w):=by
 unfold Bl;have bE:=ar.lt;have bG:=ax.lt;have az:∀ {n:aD},cH n->n.keys.length<=10000->n.vals.length<=10000/\n.kids.length<=10001:=λ{n} h1 h2=>by
  rcases h1 with h1|h1
  .rw[h1.len,h1.kids];exact⟨h2,cL _⟩
  .rw[h1.len,h1.vals];exact⟨cL _,I⟩
 obtain⟨bI,bJ⟩:=az sa bW;obtain⟨l0,bK⟩:=az sb bC;have aA:hY lo b1 d a U t p bT b6 bN:=⟨ar,g.keys,g.vals,g.kids,λq c=>⟨(g.bo q c).1,(g.bo q c).2.1,(E q (.inl c)).1,(g.bo q c).2.2⟩,λq c=>⟨(g.bv q c).1,(g.bv q c).2.1,(E q (.inr (.inl c))).1,(g.bv q c).2.2⟩,λq c=>⟨(g.aL q c).1,(g.aL q c).2,(E q (.inr (.inr c))).1⟩,a7⟩;refine iE (λw'=>∃ (K:Y) (W:Nat->Prop),hY lo w' d ⟨a.leaf,if a.leaf then a.keys else a.keys++ [s],a.vals,a.kids⟩ K t p W b6 bN/\ad (λq=>q=d\/bT q) b1 w'/\(∀q,W q->bT q\/b1.heap.size<=q)) (λq c=>⟨_,a5,λx=>?_,λx=>c _ ⟨U,bT,?_,.refl _ _,λq h=>.inl h⟩⟩) ?_
 .have x:a.leaf=false:=by simpa using x
  refine xR aA u I I λw' bb W h1 h2 G=>c _ ⟨bb,W,?_,h2,G⟩;rw[if_neg (by rw[x];simp)];exact h1
 .have x:a.leaf=true:=by simpa using x
  rw[if_pos x];exact aA
 rintro w1 ⟨de,aj,h1,H,aF⟩;have bL:=H.size;have aG:=ax.ab H (by
  rintro(h|h)
  .exact ai h.symm
  .exact(E _ (.inl h)).2 rfl)
 have aH:=a6.ab H λq c h=>by
  have:=f q c;rcases h with h|h
  .exact this.2.2.1 h
  .exact this.2.2.2.2.1 h
 have bc:=a8.ab H (by
  rintro(h|h)
  .omega
  .have:=(g.bo _ h).1;omega)
 have bd:Ext w w1:=Ext.dy ba H λq c=>by
  rcases c with h|h
  .omega
  .have:=(g.bo _ h).1;omega
 obtain⟨L,X⟩:∃l,l=(if a.leaf then a.keys else a.keys++ [s]):=⟨_,rfl⟩;rw[←X]at h1;have bM:L.length<=10001:=by
  rw[X];split
  .omega
  .rw[cz];simp;omega
 obtain⟨bX,aC,aU,aO⟩:=bH h1.v;obtain⟨d0,d1,d2,d3⟩:=bH aG;have y:∀q,aB de q->aj q:=λk u=>by obtain⟨ts,_,_,G,_⟩:=h1.keys;exact(G k u).1
 have ak:∀q,aB t q->b6 q:=λk u=>by obtain⟨ts,_,_,G,_⟩:=h1.vals;exact(G k u).1
 have aI:∀q,aB p q->bN q:=λk u=>(h1.kids.2 k u).1;have aK:∀q,C q->¬aB de q:=λq c h=>by
  rcases aF q (y q h) with h2|h2
  .exact(f q c).2.2.2.2.1 h2
  .have:=(f q c).2.1;omega
 obtain⟨j,ah,M,N,r⟩:=xV h1.keys aH.keys aK (by show L.length<=_;omega) I;have aM:=h1.v.ab r λh=>(h1.bo _ (y _ h)).2.2.1 rfl;obtain⟨P,R⟩:=dI aM (i:=1) (by simp);refine⟨de,aC,ae,d1,j,ah,M,?_⟩;rw[aw,aw];refine⟨P,R,aW ?_⟩;obtain⟨m,al⟩:∃m,m=ah.setCell ⟨d,0+1,none⟩ j:=⟨_,rfl⟩;rw[←al];have aN:ad (λq=>q=d) ah m:=by rw[al];exact dk _ _ _ _
 have aP:Var m d [a.leaf,j,t,p] 202:=by rw[al];exact dN aM _
 have eP:ad (λq=>q=d\/aB de q) w1 m:=(r.mono λq _ h=>.inr h).trans (aN.mono λq _ h=>.inl h);have aQ:=aG.ab eP (by
  rintro(h|h)
  .exact ai h.symm
  .rcases aF _ (y _ h) with h2|h2
   .exact(E _ (.inl h2)).2 rfl
   .omega)
 have aR:=aH.ab eP λq c h=>by
  rcases h with h|h
  .exact(f q c).2.2.1 h
  .exact aK q c h
 have be:=bu.ab h1.vals eP λq c h=>by
  rcases h with h|h
  .exact(h1.bv q c).2.2.1 h
  .exact(h1.bo q (y q h)).2.2.2.1 c
 have bf:=cR.ab h1.kids eP λq c h=>by
  rcases h with h|h
  .exact(h1.aL q c).2.2 h
  .exact(h1.bo q (y q h)).2.2.2.2 c
 have bg:=bc.ab eP (by
  rintro(h|h)
  .omega
  .have:=(h1.bo _ (y _ h)).1;omega)
 have bh:Ext w m:=Ext.dy bd eP λq c=>by
  rcases c with h|h
  .omega
  .have:=(h1.bo _ (y _ h)).1;omega
 have bi:bq (λq=>(aj q\/C q\/w1.heap.size<=q)/\q≠d) m j (L++b.keys):=by
  have am:bq (λq=>(aj q\/C q\/w1.heap.size<=q)/\q≠d) ah j (L++b.keys):=bq.aY N λq _ c=>⟨c,by
   rcases c with h|h|h
   .exact(h1.bo _ h).2.2.1
   .exact(f _ h).2.2.1
   .omega⟩
  exact bq.ab am aN λq c h=>c.2 h
 obtain⟨bX,aC,aU,aO⟩:=bH aP;obtain⟨d0,d1,d2,d3⟩:=bH aQ;have bO:=eP.size
 obtain⟨cB,Z,M,N,r⟩:=xV be aR.vals (λq c h=>(f q c).2.2.2.2.2.1 (ak q h)) (by show a.vals.length<=_;omega) I;have aS:=aP.ab r λh=>(h1.bv _ (ak _ h)).2.2.1 rfl;obtain⟨P,R⟩:=dI aS (i:=2) (by simp);rw[aw]at aU d2;refine⟨t,aU,af,d2,cB,Z,M,?_⟩;rw[aw,aw];refine⟨P,R,aW ?_⟩;obtain⟨o,an⟩:∃o,o=Z.setCell ⟨d,0+2,none⟩ cB:=⟨_,rfl⟩;rw[←an];have aT:ad (λq=>q=d) Z o:=by rw[an];exact dk _ _ _ _
 have aV:Var o d [a.leaf,j,cB,p] 202:=by rw[an];exact dN aS _
 have z:ad (λq=>q=d\/b6 q) m o:=(r.mono λq _ h=>.inr (ak q h)).trans (aT.mono λq _ h=>.inl h);have bj:=aQ.ab z (by
  rintro(h|h)
  .exact ai h.symm
  .exact(E _ (.inr (.inl h))).2 rfl)
 have bk:=aR.ab z λq c h=>by
  rcases h with h|h
  .exact(f q c).2.2.1 h
  .exact(f q c).2.2.2.2.2.1 h
 have bl:=bq.ab bi z λq c h=>by
  rcases h with h|h
  .exact c.2 h
  .rcases c.1 with h2|h2|h2
   .exact(h1.bo _ h2).2.2.2.1 h
   .exact(f _ h2).2.2.2.2.2.1 h
   .have:=(h1.bv _ h).2.1;omega
 have bm:=cR.ab bf z λq c h=>by
  rcases h with h|h
  .exact(h1.aL q c).2.2 h
  .exact(h1.bv q h).2.2.2 c
 have bn:=bg.ab z (by
  rintro(h|h)
  .omega
  .have:=(h1.bv _ h).1;omega)
 have bp:Ext w o:=Ext.dy bh z λq c=>by
  rcases c with h|h
  .omega
  .have:=(h1.bv _ h).1;omega
 have br:bq (λq=>(b6 q\/C q\/m.heap.size<=q)/\q≠d) o cB (a.vals++b.vals):=by
  have am:bq (λq=>(b6 q\/C q\/m.heap.size<=q)/\q≠d) Z cB (a.vals++b.vals):=bq.aY N λq _ c=>⟨c,by
   rcases c with h|h|h
   .exact(h1.bv _ h).2.2.1
   .exact(f _ h).2.2.1
   .omega⟩
  exact bq.ab am aT λq c h=>c.2 h
 obtain⟨bX,aC,aU,aO⟩:=bH aV;obtain⟨d0,d1,d2,d3⟩:=bH bj;have bP:=z.size
 obtain⟨eF,ao,M,N,r⟩:=Bk bm bk.kids (by show a.kids.length<=_;omega) I;have aX:=aV.ab r λh=>(h1.aL _ (aI _ h)).2.2 rfl;obtain⟨P,R⟩:=dI aX (i:=3) (by simp);rw[aw]at aO d3;refine⟨p,aO,ag,d3,eF,ao,M,?_⟩;rw[aw,aw];refine⟨P,R,aW ?_⟩;obtain⟨A,ap⟩:∃A,A=ao.setCell ⟨d,0+3,none⟩ eF:=⟨_,rfl⟩;rw[←ap];have aZ:ad (λq=>q=d) ao A:=by rw[ap];exact dk _ _ _ _
 have a0:Var A d [a.leaf,j,cB,eF] 202:=by rw[ap];exact dN aX _
 have S:ad (λq=>q=d\/bN q) o A:=(r.mono λq _ h=>.inr (aI q h)).trans (aZ.mono λq _ h=>.inl h);have bs:=bq.ab bl S λq c h=>by
  rcases h with h|h
  .exact c.2 h
  .rcases c.1 with h2|h2|h2
   .exact(h1.bo _ h2).2.2.2.2 h
   .exact(f _ h2).2.2.2.2.2.2 h
   .have:=(h1.aL _ h).2.1;omega
 have bt:=bq.ab br S λq c h=>by
  rcases h with h|h
  .exact c.2 h
  .rcases c.1 with h2|h2|h2
   .exact(h1.bv _ h2).2.2.2 h
   .exact(f _ h2).2.2.2.2.2.2 h
   .have:=(h1.aL _ h).2.1;omega
 have bw:=bn.ab S (by
  rintro(h|h)
  .omega
  .have:=(h1.aL _ h).1;omega)
 have bx:Ext w A:=Ext.dy bp S λq c=>by
  rcases c with h|h
  .omega
  .have:=(h1.aL _ h).1;omega
 have bQ:=S.size;have a1:bF (λq=>lo<=q) A (ed a s b) j cB eF:=by
  have jf:ed a s b=⟨a.leaf,L++b.keys,a.vals++b.vals,a.kids++b.kids⟩:=by
   unfold ed
   cases F:a.leaf with
   |true=>
    have aq:a.kids=[]:=by
     rcases sa with h|h
     .exact h.kids
     .have:=h.inner;rw[F]at this;cases this
    have kb:b.kids=[]:=by
     rcases sb with h|h
     .exact h.kids
     .have:=h.inner;rw[←ay,F]at this;cases this
    rw[X,F,aq,kb];simp
   |false=>
    have aq:a.vals=[]:=by
     rcases sa with h|h
     .have:=h.leaf;rw[F]at this;cases this
     .exact h.vals
    have kb:b.vals=[]:=by
     rcases sb with h|h
     .have:=h.leaf;rw[←ay,F]at this;cases this
     .exact h.vals
    rw[X,F,aq,kb];simp
  rw[jf];refine⟨bq.aY bs λq _ c=>?_,bq.aY bt λq _ c=>?_,cK.aY (cK.ab (B:=λq=>(bN q\/C q\/o.heap.size<=q)/\q≠d) (cK.aY N λq _ c=>⟨c,?_⟩) aZ λq c h=>c.2 h) λq _ c=>?_⟩
  .rcases c.1 with h|h|h
   .exact(h1.bo _ h).1
   .exact(f _ h).1
   .omega
  .rcases c.1 with h|h|h
   .exact(h1.bv _ h).1
   .exact(f _ h).1
   .omega
  .rcases c with h|h|h
   .exact(h1.aL _ h).2.2
   .exact(f _ h).2.2.1
   .omega
  .rcases c.1 with h|h|h
   .exact(h1.aL _ h).1
   .exact(f _ h).1
   .omega
 obtain⟨bX,aC,aU,aO⟩:=bH a0;rw[aw]at aC aU aO;have bR:(ed a s b).keys.length<=20001:=by
  unfold ed;split
  .show(a.keys++b.keys).length<=_;rw[cz];omega
  .show(a.keys++s::b.keys).length<=_;rw[cz,e8];omega
 have bS:(ed a s b).vals.length<=20001:=by
  unfold ed;split
  .show(a.vals++b.vals).length<=_;rw[cz];omega
  .simp
 have bU:(ed a s b).kids.length<=20002:=by
  unfold ed;split
  .simp
  .show(a.kids++b.kids).length<=_;rw[cz];omega
 have a2:(ed a s b).leaf=a.leaf:=AN
 repeat rw[aw]
 refine⟨_,bX,j,aC,cB,aU,eF,aO,?_⟩;have au:=j5 a1 I I I;unfold c2 at au;rw[a2]at au;refine au.use ?_;rintro _ bV ⟨bY,rfl,bz,ac⟩;have:=bz.2 hs;subst this;obtain⟨bX,aC,aU,aO⟩:=bH (a0.ext ac);rw[aw]at aC aU aO;have a3:=je a.leaf j cB eF (bw.ext ac) a9 (Q:=λbA K V D ah=>oy (ed a s b) w (.tuple #[.agg #[bA,K,V,D],true]) ah) λbZ a4=>⟨j,cB,eF,by unfold c2;rw[a2],((a1.ext ac).ab a4 λq c e=>I).aY λq _ c=>I,Ext.cn (bx.trans ac) a4 a_⟩
 repeat rw[aw]at a3
 exact⟨true,rfl,λh=>(by cases h),λ_=>⟨_,bX,j,aC,cB,aU,eF,aO,a3⟩⟩
theorem n_{bb bd:Nat->Prop}{w:J}{a b:aD}{aH aI aK aM aN aP key:Y}{s:Key}(a5:bF bb w a aH aI aK)(a6:bF bd w b aM aN aP)(ax:Src 1 w key (aJ s))(W:∀q,aB key q->q<w.heap.size)(X:s.length<=1000)(sa:cH a)(sb:cH b)(T:a.leaf=b.leaf)(hs:cH (ed a s b))
 (bW:a.keys.length<=10000) (bC:b.keys.length<=10000):
 aR aj 282 #[c2 a aH aI aK,key,c2 b aM aN aP] w (oy (ed a s b) w):=by
 have a7:∀ {n:aD},cH n->n.keys.length<=10000->n.vals.length<=10000/\n.kids.length<=10001:=λ{n} h1 h2=>by
  rcases h1 with h1|h1
  .rw[h1.len,h1.kids];exact⟨h2,cL _⟩
  .rw[h1.len,h1.vals];exact⟨cL _,I⟩
 obtain⟨bn,bp⟩:=a7 sa bW;obtain⟨l0,bq⟩:=a7 sb bC;have aV:∀k∈a.keys,k.length<=100000:=λk ax=>by have:=(sa.keys.ok k ax).2;omega
 have ac:∀k∈b.keys,k.length<=100000:=λk ax=>by have:=(sb.keys.ok k ax).2;omega
 have aX:∀k∈a.vals,k.length<=100000:=λk ax=>by have:=sa.vals k ax;omega
 have ae:∀k∈b.vals,k.length<=100000:=λk ax=>by have:=sb.vals k ax;omega
 refine okF (af.n_ a.leaf aH aI aK key b.leaf aM aN aP) aA.n_ func282 ?_;(delta af.n_ cj bc U ag aO pw ak jb q9 fI bP ba tj st q_ nR;dsimp only);refine bh (vs:=[a.leaf,aH,aI,aK]) rfl λw1 a3 be br=>?_;refine bh (vs:=[b.leaf,aM,aN,aP]) rfl λah a4 a1 bs=>?_;refine bh (vs:=[false,(),(),()]) rfl λbf bg aQ bt=>?_;have a8:=be.trans (a1.trans aQ);obtain⟨bX,aC,aU,aO⟩:=bH (a3.ext (a1.trans aQ));refine⟨_,bX,aH,aC,aI,aU,aK,aO,(j5 (a5.ext a8) I I I).use ?_⟩;rintro _ bi ⟨b_,rfl,bj,aG⟩;have:=bj.2 sa;subst this;have a9:=a8.trans aG;obtain⟨d0,d1,d2,d3⟩:=bH (a4.ext (aQ.trans aG));refine⟨true,rfl,cq (λb w'=>b=false/\Ext bi w') (λq c=>⟨λh=>(by cases h),λ_=>⟨_,d0,aM,d1,aN,d2,aP,d3,(j5 (a6.ext a9) I I I).use ?_⟩⟩) ?_⟩
 .rintro _ a2 ⟨bO,rfl,bk,az⟩
  have:=bk.2 sb;subst this;exact⟨true,rfl,c _ _ ⟨rfl,az⟩⟩
 rintro _ a2 ⟨rfl,az⟩;have bl:=a9.trans az;obtain⟨bX,aC,aU,aO⟩:=bH (a3.ext (a1.trans (aQ.trans (aG.trans az))));obtain⟨d0,d1,d2,d3⟩:=bH (a4.ext (aQ.trans (aG.trans az)));refine cq (λb w'=>b=false/\a2=w') (λq c=>⟨λh=>(by cases h),λ_=>⟨_,bX,_,d0,c _ _ ⟨by rw[T];simp,rfl⟩⟩⟩) ?_;rintro _ _ ⟨rfl,rfl⟩;have aZ:=cf a2;have a_:=bl.trans aZ;obtain⟨O,aS⟩:∃O,O=a2.drew:=⟨_,rfl⟩;have V:Var O w.heap.size [a.leaf,aH,aI,aK] 202:=by rw[aS];exact(a3.ext (a1.trans (aQ.trans (aG.trans az)))).ext aZ
 have bm:Var O w1.heap.size [b.leaf,aM,aN,aP] 202:=by rw[aS];exact(a4.ext (aQ.trans (aG.trans az))).ext aZ
 have Z:Var O ah.heap.size [false,(),(),()] 202:=by rw[aS];exact(bg.ext (aG.trans az)).ext aZ
 have N:Ext w O:=by rw[aS];exact a_
 have bu:bf.heap.size<=O.heap.size:=by rw[aS];exact(aG.trans az).size
 have a0:=a5.ext N;have ai:=a6.ext N;have aa:=ax.ext N;obtain⟨lo,bw⟩:∃lo,lo=O.heap.size:=⟨_,rfl⟩;rw[←aS];clear bX aC aU aO d0 d1 d2 d3 aS a_ aZ;obtain⟨bX,aC,aU,aO⟩:=bH V;obtain⟨d0,d1,d2,d3⟩:=bH bm;refine⟨λh=>(by cases h),λ_=>aW ⟨λ_=>False,id,_,bX,aH,aC,aI,aU,aK,aO,id,_,d0,aM,d1,aN,d2,aP,d3,?_⟩⟩;refine⟨?_,?_,?_⟩
 .refine(eW a0 I I I aV aX).use ?_
  rintro _ H ⟨E,F,G,K,L,M,rfl,d,au⟩;refine⟨_,E,F,G,rfl,au,?_⟩;have s1:=au.size;refine⟨?_,?_,?_⟩
  .refine(eW (ai.ext au) I I I ac ae).use ?_
   rintro _ u ⟨o,p,r,ar,av,aw,rfl,S,ay⟩;refine⟨_,o,p,r,rfl,ay,?_⟩;have s2:=ay.size;refine⟨?_,?_⟩
   .refine bh (vs:=[false,(),(),()]) rfl λt al g z3=>⟨g,?_⟩
    have am:=g.size;refine bh (vs:=[false,(),(),()]) rfl λv an f z4=>⟨f,?_⟩;have ao:=f.size;have x:=al.ext f;have P:=an;refine⟨x.b9 rfl (fM _ _ _ _),rfl,cr x (us:=[a.leaf,E,F,G]) rfl rfl λap y ba t5=>?_⟩;have z:=P.ab ba I;refine⟨z.b9 rfl (fM _ _ _ _),rfl,cr z (us:=[b.leaf,o,p,r]) rfl rfl λj A cc t6=>?_⟩;obtain⟨m,B⟩:∃m,m=u.heap.size:=⟨_,rfl⟩;obtain⟨aE,D⟩:∃aE,aE=t.heap.size:=⟨_,rfl⟩;rw[←B]at y ba;rw[←D]at A cc;rw[←B,←D];have i:ad (λq=>q=m\/q=aE) v j:=(ba.mono λq _ h=>.inl h).trans (cc.mono λq _ h=>.inr h);have Q:e5 lo j a E F G K L M:=(((d.ext (ay.trans (g.trans (f)))).ab i λq _ _ c e=>by have aq:O.heap.size<=q/\q<H.heap.size:=(by rcases c with c|c|c;exact⟨(d.bo q c).1,(d.bo q c).2.1⟩;exact⟨(d.bv q c).1,(d.bv q c).2.1⟩;exact d.aL q c);omega).low I);have R:bF (λq=>H.heap.size<=q/\q<u.heap.size) j b o p r:=((S.at.aY λq h1 h2=>⟨h2,h1⟩).ext (g.trans (f))).ab i λq c e=>by omega
    have l:∀q,K q\/L q\/M q->O.heap.size<=q/\q<H.heap.size:=λq c=>by
     rcases c with c|c|c
     .exact⟨(d.bo q c).1,(d.bo q c).2.1⟩
     .exact⟨(d.bv q c).1,(d.bv q c).2.1⟩
     .exact d.aL q c
    exact kG (lo:=lo) (b1:=j) (C:=λq=>H.heap.size<=q/\q<u.heap.size) ((V.ext (au.trans (ay.trans (g.trans f)))).ab i I).cell (y.ab cc I) A Q R (λq c=>⟨I,I,I,I,λh=>(by have:=l q (.inl h);omega),λh=>(by have:=l q (.inr (.inl h));omega),λh=>(by have:=l q (.inr (.inr h));omega)⟩) (λq c=>(by have:=l q c;exact⟨I,I⟩)) I I I ((Z.ext (au.trans (ay.trans (g.trans f)))).ab i I) rfl I I ((aa.ext (au.trans (ay.trans (g.trans f)))).ab i λq c e=>(by have:=W q c;have:=N.size;omega)) X (Ext.dy (N.trans (au.trans (ay.trans (g.trans f)))) i λq c=>I) hs T sa sb bW bC
   .refine bh (vs:=[false,(),(),()]) rfl λt al g z3=>⟨g,?_⟩
    have am:=g.size;refine bh (vs:=[false,(),(),()]) rfl λv an f z4=>⟨f,?_⟩;have ao:=f.size;have x:=an;have P:=al.ext f;refine⟨x.b9 rfl (fM _ _ _ _),rfl,cr x (us:=[a.leaf,E,F,G]) rfl rfl λap y ba t5=>?_⟩;have z:=P.ab ba I;refine⟨z.b9 rfl (fM _ _ _ _),rfl,cr z (us:=[b.leaf,o,p,r]) rfl rfl λj A cc t6=>?_⟩;obtain⟨m,B⟩:∃m,m=t.heap.size:=⟨_,rfl⟩;obtain⟨aE,D⟩:∃aE,aE=u.heap.size:=⟨_,rfl⟩;rw[←B]at y ba;rw[←D]at A cc;rw[←B,←D];have i:ad (λq=>q=m\/q=aE) v j:=(ba.mono λq _ h=>.inl h).trans (cc.mono λq _ h=>.inr h);have Q:e5 lo j a E F G K L M:=(((d.ext (ay.trans (g.trans (f)))).ab i λq _ _ c e=>by have aq:O.heap.size<=q/\q<H.heap.size:=(by rcases c with c|c|c;exact⟨(d.bo q c).1,(d.bo q c).2.1⟩;exact⟨(d.bv q c).1,(d.bv q c).2.1⟩;exact d.aL q c);omega).low I);have R:bF (λq=>H.heap.size<=q/\q<u.heap.size) j b o p r:=((S.at.aY λq h1 h2=>⟨h2,h1⟩).ext (g.trans (f))).ab i λq c e=>by omega
    have l:∀q,K q\/L q\/M q->O.heap.size<=q/\q<H.heap.size:=λq c=>by
     rcases c with c|c|c
     .exact⟨(d.bo q c).1,(d.bo q c).2.1⟩
     .exact⟨(d.bv q c).1,(d.bv q c).2.1⟩
     .exact d.aL q c
    exact kG (lo:=lo) (b1:=j) (C:=λq=>H.heap.size<=q/\q<u.heap.size) ((V.ext (au.trans (ay.trans (g.trans f)))).ab i I).cell (y.ab cc I) A Q R (λq c=>⟨I,I,I,I,λh=>(by have:=l q (.inl h);omega),λh=>(by have:=l q (.inr (.inl h));omega),λh=>(by have:=l q (.inr (.inr h));omega)⟩) (λq c=>(by have:=l q c;exact⟨I,I⟩)) I I I ((Z.ext (au.trans (ay.trans (g.trans f)))).ab i I) rfl I I ((aa.ext (au.trans (ay.trans (g.trans f)))).ab i λq c e=>(by have:=W q c;have:=N.size;omega)) X (Ext.dy (N.trans (au.trans (ay.trans (g.trans f)))) i λq c=>I) hs T sa sb bW bC
  .refine bh (vs:=[false,(),(),()]) rfl λu aF ay cj=>⟨ay,?_⟩
   have s2:=ay.size;refine⟨?_,?_⟩
   .refine(eW (ai.ext (au.trans (ay))) I I I ac ae).use ?_
    rintro _ t ⟨o,p,r,ar,av,aw,rfl,S,g⟩;refine⟨_,o,p,r,rfl,g,?_⟩;have am:=g.size;refine bh (vs:=[false,(),(),()]) rfl λv an f z4=>⟨f,?_⟩;have ao:=f.size;have x:=aF.ext (g.trans (f));have P:=an;refine⟨x.b9 rfl (fM _ _ _ _),rfl,cr x (us:=[a.leaf,E,F,G]) rfl rfl λap y ba t5=>?_⟩;have z:=P.ab ba I;refine⟨z.b9 rfl (fM _ _ _ _),rfl,cr z (us:=[b.leaf,o,p,r]) rfl rfl λj A cc t6=>?_⟩;obtain⟨m,B⟩:∃m,m=H.heap.size:=⟨_,rfl⟩;obtain⟨aE,D⟩:∃aE,aE=t.heap.size:=⟨_,rfl⟩;rw[←B]at y ba;rw[←D]at A cc;rw[←B,←D];have i:ad (λq=>q=m\/q=aE) v j:=(ba.mono λq _ h=>.inl h).trans (cc.mono λq _ h=>.inr h);have Q:e5 lo j a E F G K L M:=(((d.ext (ay.trans (g.trans (f)))).ab i λq _ _ c e=>by have aq:O.heap.size<=q/\q<H.heap.size:=(by rcases c with c|c|c;exact⟨(d.bo q c).1,(d.bo q c).2.1⟩;exact⟨(d.bv q c).1,(d.bv q c).2.1⟩;exact d.aL q c);omega).low I);have R:bF (λq=>u.heap.size<=q/\q<t.heap.size) j b o p r:=((S.at.aY λq h1 h2=>⟨h2,h1⟩).ext f).ab i λq c e=>by omega
    have l:∀q,K q\/L q\/M q->O.heap.size<=q/\q<H.heap.size:=λq c=>by
     rcases c with c|c|c
     .exact⟨(d.bo q c).1,(d.bo q c).2.1⟩
     .exact⟨(d.bv q c).1,(d.bv q c).2.1⟩
     .exact d.aL q c
    exact kG (lo:=lo) (b1:=j) (C:=λq=>u.heap.size<=q/\q<t.heap.size) ((V.ext (au.trans (ay.trans (g.trans f)))).ab i I).cell (y.ab cc I) A Q R (λq c=>⟨I,I,I,I,λh=>(by have:=l q (.inl h);omega),λh=>(by have:=l q (.inr (.inl h));omega),λh=>(by have:=l q (.inr (.inr h));omega)⟩) (λq c=>(by have:=l q c;exact⟨I,I⟩)) I I I ((Z.ext (au.trans (ay.trans (g.trans f)))).ab i I) rfl I I ((aa.ext (au.trans (ay.trans (g.trans f)))).ab i λq c e=>(by have:=W q c;have:=N.size;omega)) X (Ext.dy (N.trans (au.trans (ay.trans (g.trans f)))) i λq c=>I) hs T sa sb bW bC
   .refine bh (vs:=[false,(),(),()]) rfl λt al g z3=>⟨g,?_⟩
    have am:=g.size;refine(eW (ai.ext (au.trans (ay.trans (g)))) I I I ac ae).use ?_;rintro _ v ⟨o,p,r,ar,av,aw,rfl,S,f⟩;refine⟨_,o,p,r,rfl,f,?_⟩;have ao:=f.size;have x:=aF.ext (g.trans (f));have P:=al.ext f;refine⟨x.b9 rfl (fM _ _ _ _),rfl,cr x (us:=[a.leaf,E,F,G]) rfl rfl λap y ba t5=>?_⟩;have z:=P.ab ba I;refine⟨z.b9 rfl (fM _ _ _ _),rfl,cr z (us:=[b.leaf,o,p,r]) rfl rfl λj A cc t6=>?_⟩;obtain⟨m,B⟩:∃m,m=H.heap.size:=⟨_,rfl⟩;obtain⟨aE,D⟩:∃aE,aE=u.heap.size:=⟨_,rfl⟩;rw[←B]at y ba;rw[←D]at A cc;rw[←B,←D];have i:ad (λq=>q=m\/q=aE) v j:=(ba.mono λq _ h=>.inl h).trans (cc.mono λq _ h=>.inr h);have Q:e5 lo j a E F G K L M:=(((d.ext (ay.trans (g.trans (f)))).ab i λq _ _ c e=>by have aq:O.heap.size<=q/\q<H.heap.size:=(by rcases c with c|c|c;exact⟨(d.bo q c).1,(d.bo q c).2.1⟩;exact⟨(d.bv q c).1,(d.bv q c).2.1⟩;exact d.aL q c);omega).low I);have R:bF (λq=>t.heap.size<=q/\q<v.heap.size) j b o p r:=(S.at.aY λq h1 h2=>⟨h2,h1⟩).ab i λq c e=>by omega
    have l:∀q,K q\/L q\/M q->O.heap.size<=q/\q<H.heap.size:=λq c=>by
     rcases c with c|c|c
     .exact⟨(d.bo q c).1,(d.bo q c).2.1⟩
     .exact⟨(d.bv q c).1,(d.bv q c).2.1⟩
     .exact d.aL q c
    exact kG (lo:=lo) (b1:=j) (C:=λq=>t.heap.size<=q/\q<v.heap.size) ((V.ext (au.trans (ay.trans (g.trans f)))).ab i I).cell (y.ab cc I) A Q R (λq c=>⟨I,I,I,I,λh=>(by have:=l q (.inl h);omega),λh=>(by have:=l q (.inr (.inl h));omega),λh=>(by have:=l q (.inr (.inr h));omega)⟩) (λq c=>(by have:=l q c;exact⟨I,I⟩)) I I I ((Z.ext (au.trans (ay.trans (g.trans f)))).ab i I) rfl I I ((aa.ext (au.trans (ay.trans (g.trans f)))).ab i λq c e=>(by have:=W q c;have:=N.size;omega)) X (Ext.dy (N.trans (au.trans (ay.trans (g.trans f)))) i λq c=>I) hs T sa sb bW bC
  .refine bh (vs:=[false,(),(),()]) rfl λu aF ay cj=>⟨ay,?_⟩
   have s2:=ay.size;refine⟨?_,?_⟩
   .refine(eW (ai.ext (au.trans (ay))) I I I ac ae).use ?_
    rintro _ t ⟨o,p,r,ar,av,aw,rfl,S,g⟩;refine⟨_,o,p,r,rfl,g,?_⟩;have am:=g.size;refine bh (vs:=[false,(),(),()]) rfl λv an f z4=>⟨f,?_⟩;have ao:=f.size;have x:=an;have P:=aF.ext (g.trans (f));refine⟨x.b9 rfl (fM _ _ _ _),rfl,cr x (us:=[a.leaf,E,F,G]) rfl rfl λap y ba t5=>?_⟩;have z:=P.ab ba I;refine⟨z.b9 rfl (fM _ _ _ _),rfl,cr z (us:=[b.leaf,o,p,r]) rfl rfl λj A cc t6=>?_⟩;obtain⟨m,B⟩:∃m,m=t.heap.size:=⟨_,rfl⟩;obtain⟨aE,D⟩:∃aE,aE=H.heap.size:=⟨_,rfl⟩;rw[←B]at y ba;rw[←D]at A cc;rw[←B,←D];have i:ad (λq=>q=m\/q=aE) v j:=(ba.mono λq _ h=>.inl h).trans (cc.mono λq _ h=>.inr h);have Q:e5 lo j a E F G K L M:=(((d.ext (ay.trans (g.trans (f)))).ab i λq _ _ c e=>by have aq:O.heap.size<=q/\q<H.heap.size:=(by rcases c with c|c|c;exact⟨(d.bo q c).1,(d.bo q c).2.1⟩;exact⟨(d.bv q c).1,(d.bv q c).2.1⟩;exact d.aL q c);omega).low I);have R:bF (λq=>u.heap.size<=q/\q<t.heap.size) j b o p r:=((S.at.aY λq h1 h2=>⟨h2,h1⟩).ext f).ab i λq c e=>by omega
    have l:∀q,K q\/L q\/M q->O.heap.size<=q/\q<H.heap.size:=λq c=>by
     rcases c with c|c|c
     .exact⟨(d.bo q c).1,(d.bo q c).2.1⟩
     .exact⟨(d.bv q c).1,(d.bv q c).2.1⟩
     .exact d.aL q c
    exact kG (lo:=lo) (b1:=j) (C:=λq=>u.heap.size<=q/\q<t.heap.size) ((V.ext (au.trans (ay.trans (g.trans f)))).ab i I).cell (y.ab cc I) A Q R (λq c=>⟨I,I,I,I,λh=>(by have:=l q (.inl h);omega),λh=>(by have:=l q (.inr (.inl h));omega),λh=>(by have:=l q (.inr (.inr h));omega)⟩) (λq c=>(by have:=l q c;exact⟨I,I⟩)) I I I ((Z.ext (au.trans (ay.trans (g.trans f)))).ab i I) rfl I I ((aa.ext (au.trans (ay.trans (g.trans f)))).ab i λq c e=>(by have:=W q c;have:=N.size;omega)) X (Ext.dy (N.trans (au.trans (ay.trans (g.trans f)))) i λq c=>I) hs T sa sb bW bC
   .refine bh (vs:=[false,(),(),()]) rfl λt al g z3=>⟨g,?_⟩
    have am:=g.size;refine(eW (ai.ext (au.trans (ay.trans (g)))) I I I ac ae).use ?_;rintro _ v ⟨o,p,r,ar,av,aw,rfl,S,f⟩;refine⟨_,o,p,r,rfl,f,?_⟩;have ao:=f.size;have x:=al.ext f;have P:=aF.ext (g.trans (f));refine⟨x.b9 rfl (fM _ _ _ _),rfl,cr x (us:=[a.leaf,E,F,G]) rfl rfl λap y ba t5=>?_⟩;have z:=P.ab ba I;refine⟨z.b9 rfl (fM _ _ _ _),rfl,cr z (us:=[b.leaf,o,p,r]) rfl rfl λj A cc t6=>?_⟩;obtain⟨m,B⟩:∃m,m=u.heap.size:=⟨_,rfl⟩;obtain⟨aE,D⟩:∃aE,aE=H.heap.size:=⟨_,rfl⟩;rw[←B]at y ba;rw[←D]at A cc;rw[←B,←D];have i:ad (λq=>q=m\/q=aE) v j:=(ba.mono λq _ h=>.inl h).trans (cc.mono λq _ h=>.inr h);have Q:e5 lo j a E F G K L M:=(((d.ext (ay.trans (g.trans (f)))).ab i λq _ _ c e=>by have aq:O.heap.size<=q/\q<H.heap.size:=(by rcases c with c|c|c;exact⟨(d.bo q c).1,(d.bo q c).2.1⟩;exact⟨(d.bv q c).1,(d.bv q c).2.1⟩;exact d.aL q c);omega).low I);have R:bF (λq=>t.heap.size<=q/\q<v.heap.size) j b o p r:=(S.at.aY λq h1 h2=>⟨h2,h1⟩).ab i λq c e=>by omega
    have l:∀q,K q\/L q\/M q->O.heap.size<=q/\q<H.heap.size:=λq c=>by
     rcases c with c|c|c
     .exact⟨(d.bo q c).1,(d.bo q c).2.1⟩
     .exact⟨(d.bv q c).1,(d.bv q c).2.1⟩
     .exact d.aL q c
    exact kG (lo:=lo) (b1:=j) (C:=λq=>t.heap.size<=q/\q<v.heap.size) ((V.ext (au.trans (ay.trans (g.trans f)))).ab i I).cell (y.ab cc I) A Q R (λq c=>⟨I,I,I,I,λh=>(by have:=l q (.inl h);omega),λh=>(by have:=l q (.inr (.inl h));omega),λh=>(by have:=l q (.inr (.inr h));omega)⟩) (λq c=>(by have:=l q c;exact⟨I,I⟩)) I I I ((Z.ext (au.trans (ay.trans (g.trans f)))).ab i I) rfl I I ((aa.ext (au.trans (ay.trans (g.trans f)))).ab i λq c e=>(by have:=W q c;have:=N.size;omega)) X (Ext.dy (N.trans (au.trans (ay.trans (g.trans f)))) i λq c=>I) hs T sa sb bW bC
 .refine bh (vs:=[false,(),(),()]) rfl λH aT au ft=>⟨au,?_⟩
  have s1:=au.size;refine⟨?_,?_⟩
  .refine(eW (a0.ext au) I I I aV aX).use ?_
   rintro _ u ⟨E,F,G,K,L,M,rfl,d,ay⟩;refine⟨_,E,F,G,rfl,ay,?_⟩;have s2:=ay.size;refine⟨?_,?_⟩
   .refine(eW (ai.ext (au.trans (ay))) I I I ac ae).use ?_
    rintro _ t ⟨o,p,r,ar,av,aw,rfl,S,g⟩;refine⟨_,o,p,r,rfl,g,?_⟩;have am:=g.size;refine bh (vs:=[false,(),(),()]) rfl λv an f z4=>⟨f,?_⟩;have ao:=f.size;have x:=aT.ext (ay.trans (g.trans (f)));have P:=an;refine⟨x.b9 rfl (fM _ _ _ _),rfl,cr x (us:=[a.leaf,E,F,G]) rfl rfl λap y ba t5=>?_⟩;have z:=P.ab ba I;refine⟨z.b9 rfl (fM _ _ _ _),rfl,cr z (us:=[b.leaf,o,p,r]) rfl rfl λj A cc t6=>?_⟩;obtain⟨m,B⟩:∃m,m=O.heap.size:=⟨_,rfl⟩;obtain⟨aE,D⟩:∃aE,aE=t.heap.size:=⟨_,rfl⟩;rw[←B]at y ba;rw[←D]at A cc;rw[←B,←D];have i:ad (λq=>q=m\/q=aE) v j:=(ba.mono λq _ h=>.inl h).trans (cc.mono λq _ h=>.inr h);have Q:e5 lo j a E F G K L M:=(((d.ext (g.trans (f))).ab i λq _ _ c e=>by have aq:H.heap.size<=q/\q<u.heap.size:=(by rcases c with c|c|c;exact⟨(d.bo q c).1,(d.bo q c).2.1⟩;exact⟨(d.bv q c).1,(d.bv q c).2.1⟩;exact d.aL q c);omega).low I);have R:bF (λq=>u.heap.size<=q/\q<t.heap.size) j b o p r:=((S.at.aY λq h1 h2=>⟨h2,h1⟩).ext f).ab i λq c e=>by omega
    have l:∀q,K q\/L q\/M q->H.heap.size<=q/\q<u.heap.size:=λq c=>by
     rcases c with c|c|c
     .exact⟨(d.bo q c).1,(d.bo q c).2.1⟩
     .exact⟨(d.bv q c).1,(d.bv q c).2.1⟩
     .exact d.aL q c
    exact kG (lo:=lo) (b1:=j) (C:=λq=>u.heap.size<=q/\q<t.heap.size) ((V.ext (au.trans (ay.trans (g.trans f)))).ab i I).cell (y.ab cc I) A Q R (λq c=>⟨I,I,I,I,λh=>(by have:=l q (.inl h);omega),λh=>(by have:=l q (.inr (.inl h));omega),λh=>(by have:=l q (.inr (.inr h));omega)⟩) (λq c=>(by have:=l q c;exact⟨I,I⟩)) I I I ((Z.ext (au.trans (ay.trans (g.trans f)))).ab i I) rfl I I ((aa.ext (au.trans (ay.trans (g.trans f)))).ab i λq c e=>(by have:=W q c;have:=N.size;omega)) X (Ext.dy (N.trans (au.trans (ay.trans (g.trans f)))) i λq c=>I) hs T sa sb bW bC
   .refine bh (vs:=[false,(),(),()]) rfl λt al g z3=>⟨g,?_⟩
    have am:=g.size;refine(eW (ai.ext (au.trans (ay.trans (g)))) I I I ac ae).use ?_;rintro _ v ⟨o,p,r,ar,av,aw,rfl,S,f⟩;refine⟨_,o,p,r,rfl,f,?_⟩;have ao:=f.size;have x:=aT.ext (ay.trans (g.trans (f)));have P:=al.ext f;refine⟨x.b9 rfl (fM _ _ _ _),rfl,cr x (us:=[a.leaf,E,F,G]) rfl rfl λap y ba t5=>?_⟩;have z:=P.ab ba I;refine⟨z.b9 rfl (fM _ _ _ _),rfl,cr z (us:=[b.leaf,o,p,r]) rfl rfl λj A cc t6=>?_⟩;obtain⟨m,B⟩:∃m,m=O.heap.size:=⟨_,rfl⟩;obtain⟨aE,D⟩:∃aE,aE=u.heap.size:=⟨_,rfl⟩;rw[←B]at y ba;rw[←D]at A cc;rw[←B,←D];have i:ad (λq=>q=m\/q=aE) v j:=(ba.mono λq _ h=>.inl h).trans (cc.mono λq _ h=>.inr h);have Q:e5 lo j a E F G K L M:=(((d.ext (g.trans (f))).ab i λq _ _ c e=>by have aq:H.heap.size<=q/\q<u.heap.size:=(by rcases c with c|c|c;exact⟨(d.bo q c).1,(d.bo q c).2.1⟩;exact⟨(d.bv q c).1,(d.bv q c).2.1⟩;exact d.aL q c);omega).low I);have R:bF (λq=>t.heap.size<=q/\q<v.heap.size) j b o p r:=(S.at.aY λq h1 h2=>⟨h2,h1⟩).ab i λq c e=>by omega
    have l:∀q,K q\/L q\/M q->H.heap.size<=q/\q<u.heap.size:=λq c=>by
     rcases c with c|c|c
     .exact⟨(d.bo q c).1,(d.bo q c).2.1⟩
     .exact⟨(d.bv q c).1,(d.bv q c).2.1⟩
     .exact d.aL q c
    exact kG (lo:=lo) (b1:=j) (C:=λq=>t.heap.size<=q/\q<v.heap.size) ((V.ext (au.trans (ay.trans (g.trans f)))).ab i I).cell (y.ab cc I) A Q R (λq c=>⟨I,I,I,I,λh=>(by have:=l q (.inl h);omega),λh=>(by have:=l q (.inr (.inl h));omega),λh=>(by have:=l q (.inr (.inr h));omega)⟩) (λq c=>(by have:=l q c;exact⟨I,I⟩)) I I I ((Z.ext (au.trans (ay.trans (g.trans f)))).ab i I) rfl I I ((aa.ext (au.trans (ay.trans (g.trans f)))).ab i λq c e=>(by have:=W q c;have:=N.size;omega)) X (Ext.dy (N.trans (au.trans (ay.trans (g.trans f)))) i λq c=>I) hs T sa sb bW bC
  .refine bh (vs:=[false,(),(),()]) rfl λu aF ay cj=>⟨ay,?_⟩
   have s2:=ay.size;refine(eW (a0.ext (au.trans (ay))) I I I aV aX).use ?_;rintro _ t ⟨E,F,G,K,L,M,rfl,d,g⟩;refine⟨_,E,F,G,rfl,g,?_⟩;have am:=g.size;refine(eW (ai.ext (au.trans (ay.trans (g)))) I I I ac ae).use ?_;rintro _ v ⟨o,p,r,ar,av,aw,rfl,S,f⟩;refine⟨_,o,p,r,rfl,f,?_⟩;have ao:=f.size;have x:=aT.ext (ay.trans (g.trans (f)));have P:=aF.ext (g.trans (f));refine⟨x.b9 rfl (fM _ _ _ _),rfl,cr x (us:=[a.leaf,E,F,G]) rfl rfl λap y ba t5=>?_⟩;have z:=P.ab ba I;refine⟨z.b9 rfl (fM _ _ _ _),rfl,cr z (us:=[b.leaf,o,p,r]) rfl rfl λj A cc t6=>?_⟩;obtain⟨m,B⟩:∃m,m=O.heap.size:=⟨_,rfl⟩;obtain⟨aE,D⟩:∃aE,aE=H.heap.size:=⟨_,rfl⟩;rw[←B]at y ba;rw[←D]at A cc;rw[←B,←D];have i:ad (λq=>q=m\/q=aE) v j:=(ba.mono λq _ h=>.inl h).trans (cc.mono λq _ h=>.inr h);have Q:e5 lo j a E F G K L M:=(((d.ext f).ab i λq _ _ c e=>by have aq:u.heap.size<=q/\q<t.heap.size:=(by rcases c with c|c|c;exact⟨(d.bo q c).1,(d.bo q c).2.1⟩;exact⟨(d.bv q c).1,(d.bv q c).2.1⟩;exact d.aL q c);omega).low I);have R:bF (λq=>t.heap.size<=q/\q<v.heap.size) j b o p r:=(S.at.aY λq h1 h2=>⟨h2,h1⟩).ab i λq c e=>by omega
   have l:∀q,K q\/L q\/M q->u.heap.size<=q/\q<t.heap.size:=λq c=>by
    rcases c with c|c|c
    .exact⟨(d.bo q c).1,(d.bo q c).2.1⟩
    .exact⟨(d.bv q c).1,(d.bv q c).2.1⟩
    .exact d.aL q c
   exact kG (lo:=lo) (b1:=j) (C:=λq=>t.heap.size<=q/\q<v.heap.size) ((V.ext (au.trans (ay.trans (g.trans f)))).ab i I).cell (y.ab cc I) A Q R (λq c=>⟨I,I,I,I,λh=>(by have:=l q (.inl h);omega),λh=>(by have:=l q (.inr (.inl h));omega),λh=>(by have:=l q (.inr (.inr h));omega)⟩) (λq c=>(by have:=l q c;exact⟨I,I⟩)) I I I ((Z.ext (au.trans (ay.trans (g.trans f)))).ab i I) rfl I I ((aa.ext (au.trans (ay.trans (g.trans f)))).ab i λq c e=>(by have:=W q c;have:=N.size;omega)) X (Ext.dy (N.trans (au.trans (ay.trans (g.trans f)))) i λq c=>I) hs T sa sb bW bC
 .refine bh (vs:=[false,(),(),()]) rfl λH aT au ft=>⟨au,?_⟩
  have s1:=au.size;refine⟨?_,?_⟩
  .refine(eW (a0.ext au) I I I aV aX).use ?_
   rintro _ u ⟨E,F,G,K,L,M,rfl,d,ay⟩;refine⟨_,E,F,G,rfl,ay,?_⟩;have s2:=ay.size;refine⟨?_,?_⟩
   .refine(eW (ai.ext (au.trans (ay))) I I I ac ae).use ?_
    rintro _ t ⟨o,p,r,ar,av,aw,rfl,S,g⟩;refine⟨_,o,p,r,rfl,g,?_⟩;have am:=g.size;refine bh (vs:=[false,(),(),()]) rfl λv an f z4=>⟨f,?_⟩;have ao:=f.size;have x:=an;have P:=aT.ext (ay.trans (g.trans (f)));refine⟨x.b9 rfl (fM _ _ _ _),rfl,cr x (us:=[a.leaf,E,F,G]) rfl rfl λap y ba t5=>?_⟩;have z:=P.ab ba I;refine⟨z.b9 rfl (fM _ _ _ _),rfl,cr z (us:=[b.leaf,o,p,r]) rfl rfl λj A cc t6=>?_⟩;obtain⟨m,B⟩:∃m,m=t.heap.size:=⟨_,rfl⟩;obtain⟨aE,D⟩:∃aE,aE=O.heap.size:=⟨_,rfl⟩;rw[←B]at y ba;rw[←D]at A cc;rw[←B,←D];have i:ad (λq=>q=m\/q=aE) v j:=(ba.mono λq _ h=>.inl h).trans (cc.mono λq _ h=>.inr h);have Q:e5 lo j a E F G K L M:=(((d.ext (g.trans (f))).ab i λq _ _ c e=>by have aq:H.heap.size<=q/\q<u.heap.size:=(by rcases c with c|c|c;exact⟨(d.bo q c).1,(d.bo q c).2.1⟩;exact⟨(d.bv q c).1,(d.bv q c).2.1⟩;exact d.aL q c);omega).low I);have R:bF (λq=>u.heap.size<=q/\q<t.heap.size) j b o p r:=((S.at.aY λq h1 h2=>⟨h2,h1⟩).ext f).ab i λq c e=>by omega
    have l:∀q,K q\/L q\/M q->H.heap.size<=q/\q<u.heap.size:=λq c=>by
     rcases c with c|c|c
     .exact⟨(d.bo q c).1,(d.bo q c).2.1⟩
     .exact⟨(d.bv q c).1,(d.bv q c).2.1⟩
     .exact d.aL q c
    exact kG (lo:=lo) (b1:=j) (C:=λq=>u.heap.size<=q/\q<t.heap.size) ((V.ext (au.trans (ay.trans (g.trans f)))).ab i I).cell (y.ab cc I) A Q R (λq c=>⟨I,I,I,I,λh=>(by have:=l q (.inl h);omega),λh=>(by have:=l q (.inr (.inl h));omega),λh=>(by have:=l q (.inr (.inr h));omega)⟩) (λq c=>(by have:=l q c;exact⟨I,I⟩)) I I I ((Z.ext (au.trans (ay.trans (g.trans f)))).ab i I) rfl I I ((aa.ext (au.trans (ay.trans (g.trans f)))).ab i λq c e=>(by have:=W q c;have:=N.size;omega)) X (Ext.dy (N.trans (au.trans (ay.trans (g.trans f)))) i λq c=>I) hs T sa sb bW bC
   .refine bh (vs:=[false,(),(),()]) rfl λt al g z3=>⟨g,?_⟩
    have am:=g.size;refine(eW (ai.ext (au.trans (ay.trans (g)))) I I I ac ae).use ?_;rintro _ v ⟨o,p,r,ar,av,aw,rfl,S,f⟩;refine⟨_,o,p,r,rfl,f,?_⟩;have ao:=f.size;have x:=al.ext f;have P:=aT.ext (ay.trans (g.trans (f)));refine⟨x.b9 rfl (fM _ _ _ _),rfl,cr x (us:=[a.leaf,E,F,G]) rfl rfl λap y ba t5=>?_⟩;have z:=P.ab ba I;refine⟨z.b9 rfl (fM _ _ _ _),rfl,cr z (us:=[b.leaf,o,p,r]) rfl rfl λj A cc t6=>?_⟩;obtain⟨m,B⟩:∃m,m=u.heap.size:=⟨_,rfl⟩;obtain⟨aE,D⟩:∃aE,aE=O.heap.size:=⟨_,rfl⟩;rw[←B]at y ba;rw[←D]at A cc;rw[←B,←D];have i:ad (λq=>q=m\/q=aE) v j:=(ba.mono λq _ h=>.inl h).trans (cc.mono λq _ h=>.inr h);have Q:e5 lo j a E F G K L M:=(((d.ext (g.trans (f))).ab i λq _ _ c e=>by have aq:H.heap.size<=q/\q<u.heap.size:=(by rcases c with c|c|c;exact⟨(d.bo q c).1,(d.bo q c).2.1⟩;exact⟨(d.bv q c).1,(d.bv q c).2.1⟩;exact d.aL q c);omega).low I);have R:bF (λq=>t.heap.size<=q/\q<v.heap.size) j b o p r:=(S.at.aY λq h1 h2=>⟨h2,h1⟩).ab i λq c e=>by omega
    have l:∀q,K q\/L q\/M q->H.heap.size<=q/\q<u.heap.size:=λq c=>by
     rcases c with c|c|c
     .exact⟨(d.bo q c).1,(d.bo q c).2.1⟩
     .exact⟨(d.bv q c).1,(d.bv q c).2.1⟩
     .exact d.aL q c
    exact kG (lo:=lo) (b1:=j) (C:=λq=>t.heap.size<=q/\q<v.heap.size) ((V.ext (au.trans (ay.trans (g.trans f)))).ab i I).cell (y.ab cc I) A Q R (λq c=>⟨I,I,I,I,λh=>(by have:=l q (.inl h);omega),λh=>(by have:=l q (.inr (.inl h));omega),λh=>(by have:=l q (.inr (.inr h));omega)⟩) (λq c=>(by have:=l q c;exact⟨I,I⟩)) I I I ((Z.ext (au.trans (ay.trans (g.trans f)))).ab i I) rfl I I ((aa.ext (au.trans (ay.trans (g.trans f)))).ab i λq c e=>(by have:=W q c;have:=N.size;omega)) X (Ext.dy (N.trans (au.trans (ay.trans (g.trans f)))) i λq c=>I) hs T sa sb bW bC
  .refine bh (vs:=[false,(),(),()]) rfl λu aF ay cj=>⟨ay,?_⟩
   have s2:=ay.size;refine(eW (a0.ext (au.trans (ay))) I I I aV aX).use ?_;rintro _ t ⟨E,F,G,K,L,M,rfl,d,g⟩;refine⟨_,E,F,G,rfl,g,?_⟩;have am:=g.size;refine(eW (ai.ext (au.trans (ay.trans (g)))) I I I ac ae).use ?_;rintro _ v ⟨o,p,r,ar,av,aw,rfl,S,f⟩;refine⟨_,o,p,r,rfl,f,?_⟩;have ao:=f.size;have x:=aF.ext (g.trans (f));have P:=aT.ext (ay.trans (g.trans (f)));refine⟨x.b9 rfl (fM _ _ _ _),rfl,cr x (us:=[a.leaf,E,F,G]) rfl rfl λap y ba t5=>?_⟩;have z:=P.ab ba I;refine⟨z.b9 rfl (fM _ _ _ _),rfl,cr z (us:=[b.leaf,o,p,r]) rfl rfl λj A cc t6=>?_⟩;obtain⟨m,B⟩:∃m,m=H.heap.size:=⟨_,rfl⟩;obtain⟨aE,D⟩:∃aE,aE=O.heap.size:=⟨_,rfl⟩;rw[←B]at y ba;rw[←D]at A cc;rw[←B,←D];have i:ad (λq=>q=m\/q=aE) v j:=(ba.mono λq _ h=>.inl h).trans (cc.mono λq _ h=>.inr h);have Q:e5 lo j a E F G K L M:=(((d.ext f).ab i λq _ _ c e=>by have aq:u.heap.size<=q/\q<t.heap.size:=(by rcases c with c|c|c;exact⟨(d.bo q c).1,(d.bo q c).2.1⟩;exact⟨(d.bv q c).1,(d.bv q c).2.1⟩;exact d.aL q c);omega).low I);have R:bF (λq=>t.heap.size<=q/\q<v.heap.size) j b o p r:=(S.at.aY λq h1 h2=>⟨h2,h1⟩).ab i λq c e=>by omega
   have l:∀q,K q\/L q\/M q->u.heap.size<=q/\q<t.heap.size:=λq c=>by
    rcases c with c|c|c
    .exact⟨(d.bo q c).1,(d.bo q c).2.1⟩
    .exact⟨(d.bv q c).1,(d.bv q c).2.1⟩
    .exact d.aL q c
   exact kG (lo:=lo) (b1:=j) (C:=λq=>t.heap.size<=q/\q<v.heap.size) ((V.ext (au.trans (ay.trans (g.trans f)))).ab i I).cell (y.ab cc I) A Q R (λq c=>⟨I,I,I,I,λh=>(by have:=l q (.inl h);omega),λh=>(by have:=l q (.inr (.inl h));omega),λh=>(by have:=l q (.inr (.inr h));omega)⟩) (λq c=>(by have:=l q c;exact⟨I,I⟩)) I I I ((Z.ext (au.trans (ay.trans (g.trans f)))).ab i I) rfl I I ((aa.ext (au.trans (ay.trans (g.trans f)))).ab i λq c e=>(by have:=W q c;have:=N.size;omega)) X (Ext.dy (N.trans (au.trans (ay.trans (g.trans f)))) i λq c=>I) hs T sa sb bW bC
section
variable {α:Type}{c:α->O aa}{sz:Nat}
def bV(c:α->O aa)(l:O α):O aa:=(l.map c).flatten
theorem mj(l m:O α):bV c (l++m)=bV c l++bV c m:=by simp[bV]
theorem qa(x:α)(l:O α):bV c (x::l)=c x++bV c l:=rfl
theorem gM:∀ (l:O α),(∀x∈l,(c x).length=sz)->(bV c l).length=l.length*sz
 | [],_=>by simp[bV]
 |x::l,h=>by
  rw[qa,cz,h x (by simp),gM l λy a=>h y (by simp[a]),e8,kP];omega
theorem FU{l:O α}{i:Nat}(h:i<l.length):l=l.take i++l[i]::l.drop (i+1):=by rw[←jD h,ic]
theorem xW{l:O α}(hc:∀x∈l,(c x).length=sz){i:Nat}(h:i<l.length):(bV c l).take (i*sz)=bV c (l.take i)/\(bV c l).drop (i*sz)=c l[i]++bV c (l.drop (i+1)):=by
 have a:(bV c (l.take i)).length=i*sz:=by
  rw[gM _ λx hx=>hc x (fh hx),cG,jG I]
 have e:bV c l=bV c (l.take i)++(c l[i]++bV c (l.drop (i+1))):=by
  conv=>lhs;rw[FU h]
  rw[mj,qa]
 rw[e];exact⟨me a,drop_left' a⟩
theorem Bm{l:O α}(hc:∀x∈l,(c x).length=sz){i:Nat}(h:i<l.length):((bV c l).drop (i*sz)).take sz=c l[i]:=by
 rw[(xW hc h).2];exact me (hc _ (cF h))
theorem rL{l:O α}(hc:∀x∈l,(c x).length=sz){i j:Nat}(h:i<l.length)(a:j<sz):(bV c l)[i*sz+j]? =(c l[i])[j]? :=by
 rw[←Bm hc h,List.getElem?_take_of_lt a,si]
theorem Bn{l:O α}(hc:∀x∈l,(c x).length=sz){i:Nat}(h:i<l.length)(x:α):(bV c l).take (i*sz)++c x++(bV c l).drop (i*sz+sz)=bV c (l.set i x):=by
 have h1:=xW hc h;have h2:(bV c l).drop (i*sz+sz)=bV c (l.drop (i+1)):=by
  rw[←qD,h1.2];exact drop_left' (hc _ (cF h))
 rw[h1.1,h2,List.set_eq_take_append_cons_drop,if_pos h,mj,qa,cP]
theorem FV{l:O α}(hc:∀x∈l,(c x).length=sz){i j:Nat}(h:i<l.length)(a:j<sz){x:α}{v:aa}(hx:c x=(c l[i]).set j v):(bV c l).set (i*sz+j) v=bV c (l.set i x):=by
 have b:(c l[i]).length=sz:=hc _ (cF h);have h1:=xW hc h;have e:bV c l=bV c (l.take i)++(c l[i]++bV c (l.drop (i+1))):=by
  conv=>lhs;rw[←ic (i*sz) (bV c l),h1.1,h1.2]
 have d:(bV c (l.take i)).length=i*sz:=by
  rw[gM _ λx hx=>hc x (fh hx),cG,jG I]
 rw[e,List.set_append_right _ _ I,show i*sz+j-(bV c (l.take i)).length=j from I,List.set_append_left _ _ I,←hx,List.set_eq_take_append_cons_drop,if_pos h,mj,qa]
end
section
variable {α:Type} [DecidableEq α] {P:Program}{w:J}{hO fD T:TypeId}{enc:α->aa}{r:Nat}{M:O (α×aa)}{k:α}{v:aa}
theorem FW(f:mV P hO enc)(j:P.underlying T=some (.map hO fD))(h:eD w r enc M)(l:∀v,(k,v)∉M)(v:aa):
 ∃w1:J,(Instr.mapUpdate T (.map (some r)) (enc k) v).run P w=.ok () w1/\ad (λq=>q=r) w w1/\w1.heap.size=w.heap.size/\eD w1 r enc ((k,v)::M):=by
 have aK:=h.lt;obtain⟨L,c,h,h1,h2,m,g⟩:=h;have i:=Al h1 l;have hf:=f.find L k w;rw[w2 i]at hf;refine⟨iF w r (.map ((L.map (dW enc)).toArray.push ⟨enc k,v,c⟩) (c+1)),?_,q5 _ _ _,s7 _ _ _,L++ [(k,v,c)],c+1,?_,?_,?_,?_,?_⟩
 .simp only[Instr.mapUpdate,Sem.run_bind,dr j,Result.andThen,l5 h,Sem.run_pure,f.check,hf,w4 h]
 .rw[s8 aK]
  simp[dW]
 .rw[fZ]
  have:([(k,v,c)]:O (α×aa×Nat)).map lE=[(k,v)]:=rfl;rw[this];exact(qE).trans (List.Perm.cons _ h1)
 .rw[fZ,oQ]
  refine⟨h2,by simp,λa e b d=>?_⟩;obtain⟨x,hx,rfl⟩:=eC.1 e;simp only[jm,List.map_nil,ff]at d;subst d;exact i x hx
 .rw[fZ,oQ]
  refine⟨m,by simp,λa e b d=>?_⟩;obtain⟨x,hx,rfl⟩:=eC.1 e;simp only[jm,List.map_nil,ff]at d;subst d;have:=g x hx;omega
 .intro x hx
  rcases cT.1 hx with hx|hx
  .have:=g x hx;omega
  .rw[ff.1 hx];show c<c+1;omega
theorem FX(c:mV P hO enc)(g:P.underlying T=some (.map hO fD))(h:eD w r enc ((k,v)::M))(b:aa):
 ∃w1:J,(Instr.mapUpdate T (.map (some r)) (enc k) b).run P w=.ok () w1/\ad (λq=>q=r) w w1/\w1.heap.size=w.heap.size/\eD w1 r enc ((k,b)::M):=by
 have aK:=h.lt;obtain⟨n,a7,bB,a,f,h,h1,h2,i,d,_⟩:=h.split;have hf:=c.find (a7++(k,v,a)::bB) k w;rw[w3 (Ak h2),cy]at hf;have hg:((a7++(k,v,a)::bB).map (dW enc)).toArray[a7.length]? =some ⟨enc k,v,a⟩:=by simp[dW]
 have j:((a7++(k,v,a)::bB).map (dW enc)).toArray.modify a7.length (λe=>{e with key:=enc k,val:=b})=((a7++(k,b,a)::bB).map (dW enc)).toArray:=by
  apply Array.toList_inj.1;rw[Array.toList_modify,fZ,jm];have:=Aj (λe=>{e with key:=enc k,val:=b}) (dW enc (k,v,a)) (bB.map (dW enc)) (a7.map (dW enc));rw[dU]at this;rw[this];simp[dW]
 refine⟨iF w r (.map ((a7++(k,b,a)::bB).map (dW enc)).toArray f),?_,q5 _ _ _,s7 _ _ _,a7++(k,b,a)::bB,f,s8 aK _,?_,?_,?_,?_⟩
 .simp only[Instr.mapUpdate,Sem.run_bind,dr g,Result.andThen,l5 h,Sem.run_pure,c.check,hf,hg,lq,qz,Instr.keyThatStays,c.bits,if_true,w4 h,j]
 .rw[fZ,jm]
  rw[fZ]at h1;exact mG.trans (h1.cons _)
 .simpa using h2
 .simpa using i
 .intro x hx
  rcases cT.1 hx with hx|hx
  .exact d x (by simp[hx])
  .rcases cU.1 hx with rfl|hx
   .exact d (k,v,a) (by simp)
   .exact d x (by simp[hx])
end
abbrev cX:=O UInt8
structure g3 where
 i:Nat
 s:Y
 gu:O cX
structure a6 where
 d:Nat
 lb:Nat
 mr:Nat
 cg:O Int
 bg:O cX
 waits:O g3
 writes:Int
 aQ:Nat
 bL:Nat->ai
 dH:Nat->O cX
def g3.e(x:g3):Int×aa:=((x.i:Int),x.s)
def a6.c(D:a6):O aa:=D.cg.map (.int .i64)++ [.slice (some ⟨D.lb,0,none⟩) D.bg.length D.bg.length,.map (some D.mr),.int .i64 D.writes]
def a6.n(D:a6):Nat:=D.bg.length
abbrev encZ:Int->aa:=λn=>n
theorem oA:mV aj 3 encZ:=mV.int (by kernel_rfl)
theorem lM:Tryz.prog.underlying 137=some (.map 3 136):=by kernel_rfl
theorem Bo:(Tryz.prog.info? 136).bind (·.zero)=some (.slice none 0 0):=by kernel_rfl
theorem rM{P:Program}{T:TypeId}{z:aa}(h:(P.info? T).bind (·.zero)=some z):∃i,P.info? T=some i/\i.zero=some z:=by
 cases hi:P.info? T with
 |none=>rw[hi]at h;cases h
 |some i=>rw[hi]at h;exact⟨i,rfl,h⟩
def bY(D:a6)(q:Nat):Prop:=q=D.d\/q=D.lb\/q=D.mr\/∃x∈D.waits,aB x.s q
structure cx(w:J)(D:a6):Prop where
 v:Var w D.d D.c 141
 l:bz w D.lb (bV aJ D.bg).toArray 182
 m:eD w D.mr encZ (D.waits.map g3.e)
 ws:∀x∈D.waits,bd 256 182 w x.s (bV aJ x.gu)
 wn:∀x∈D.waits,x.gu≠ []/\x.i<D.n/\x.gu.length<=D.aQ
 sl:∀s∈D.bg,s.length=256
 j_:∀x∈D.waits,∀s∈x.gu,s.length=256
 bW:16<=D.n
 bC:D.n<=1600
 f4:D.cg.length=4
 fr:∀x∈D.cg, -1<=x/\x<=9223372036854775807
 a1:D.d≠D.lb/\D.d≠D.mr/\D.lb≠D.mr
 a2:∀x∈D.waits,¬aB x.s D.d/\¬aB x.s D.lb/\¬aB x.s D.mr
 a3:∀x∈D.waits,∀y∈D.waits,x.i≠y.i->∀q,aB x.s q->¬aB y.s q
section
variable {w w':J}{D:a6}
theorem cx.ab{W:Nat->Prop}(h:cx w D)(hc:ad W w w')(a:∀q,bY D q->¬W q):cx w' D:=
 ⟨h.v.ab hc (a _ (.inl rfl)),bz.ab h.l hc (a _ (.inr (.inl rfl))),h.m.ab hc (a _ (.inr (.inr (.inl rfl)))),λx hx=>(h.ws x hx).ab hc λq b=>a q (.inr (.inr (.inr ⟨x,hx,b⟩))),h.wn,h.sl,h.j_,h.bW,h.bC,h.f4,h.fr,h.a1,h.a2,h.a3⟩
theorem cx.ext(h:cx w D)(hc:Ext w w'):cx w' D:=h.ab hc λ_ _ h=>h
theorem cx.lt(h:cx w D){q:Nat}(a:bY D q):q<w.heap.size:=by
 rcases a with rfl|rfl|rfl|⟨x,hx,a⟩
 .exact h.v.lt
 .exact bz.lt h.l
 .exact h.m.lt
 .exact(h.ws x hx).lt q a
theorem cx.rN(h:cx w D){k:Nat}(a:k<4):w.cell? ⟨D.d,k,none⟩=some (.int .i64 (D.cg.getD k 0)):=by
 rw[h.v.cell];unfold a6.c;have:=h.f4;rw[List.getElem?_append_left (by rw[dU];omega),lu,dE I,fm I];rfl
theorem cx.dg(h:cx w D):w.cell? (Addr.add D.d 4)=some (.slice (some D.lb) D.bg.length D.bg.length):=by
 rw[aw,h.v.cell];unfold a6.c;have:=h.f4;rw[kR (by rw[dU];omega),dU,this];rfl
theorem cx.ba(h:cx w D):w.cell? (Addr.add D.d 5)=some (.map (some D.mr)):=by
 rw[aw,h.v.cell];unfold a6.c;have:=h.f4;rw[kR (by rw[dU];omega),dU,this];rfl
theorem cx.rO(h:cx w D):D.c.length=7:=by
 unfold a6.c;have:=h.f4;simp;omega
def a6.now(D:a6)(i:Nat):cX:=match D.waits.find? λx=>x.i==i with
 |some x=>x.gu.getLastD []
 |none=>D.bg.getD i []
theorem FY{α:Type}{l:O α}{d:α}(h:l≠ []):l.getLastD d∈l:=by
 cases l with
 |nil=>exact absurd rfl h
 |cons a l=>
  rw[List.getLastD_cons];rw[←List.getLast_eq_getLastD];exact List.getLast_mem h
theorem cx.oB(h:cx w D){i:Nat}(hi:i<D.n):(D.now i).length=256:=by
 unfold a6.now
 cases hf:D.waits.find? λx=>x.i==i with
 |some x=>
  have hx:=jH hf;exact h.j_ x hx _ (FY (h.wn x hx).1)
 |none=>
  have a:i<D.bg.length:=hi;rw[show(match (none:aq g3) with|some x=>x.gu.getLastD []|none=>D.bg.getD i [])=D.bg.getD i [] from rfl,fm a];exact h.sl _ (cF _)
theorem qb(h:cx w D):aR aj 72 #[.pointer (some D.d)] w (λv w'=>v=D.n/\w=w'):=by
 refine okF (af.tU (some D.d)) aA.tU func72 ?_;(delta af.tU ak ag;dsimp only);exact⟨λh=>(by cases h),λ_=>⟨_,rfl,⟨some D.lb,D.bg.length,D.bg.length⟩,h.dg,rfl,rfl⟩⟩
theorem Bp(h:cx w D)(i:Int):aR aj 108 #[.pointer (some D.d),i] w (λv w'=>v=.bool (decide (0<=i/\i<D.n))/\w=w'):=by
 refine okF (af.uh (some D.d) i) aA.uh func108 ?_;(delta af.uh ak ag;dsimp only);refine cq (λb w'=>b=decide (0<=i/\i<D.n)/\w=w') (λq c=>⟨λa=>⟨_,rfl,⟨some D.lb,D.bg.length,D.bg.length⟩,h.dg,c _ _ ⟨?_,rfl⟩⟩,λa=>c _ _ ⟨?_,rfl⟩⟩) ?_
 .have a:0<=i:=by simpa using a
  rw[fY,cS,cS];exact⟨λh=>⟨a,h⟩,λh=>h.2⟩
 .have a:¬0<=i:=by simpa using a
  rw[jq (λh=>a h.1)]
 .rintro _ _ ⟨rfl,rfl⟩
  exact⟨rfl,rfl⟩
end
def gA(f:Int):ai×Int:=if f= -1 then (false, -1) else if f=0 then (true, -1) else (false,f-1)
theorem FZ{f:Int}(h: -1<=f/\f<=9223372036854775807): -1<=(gA f).2/\(gA f).2<=9223372036854775807:=by
 unfold gA;split
 .exact⟨by decide,by decide⟩
 .split
  .exact⟨by decide,by decide⟩
  .show -1<=f-1/\f-1<=_;omega
def a6.cC(D:a6)(k:Nat):a6:={D with cg:=D.cg.set k (gA (D.cg.getD k 0)).2}
def a6.fV(D:a6)(k:Nat):ai:=(gA (D.cg.getD k 0)).1
theorem xX{w:J}{D:a6}(h:cx w D){k:Nat}(n:k<4):
 aR aj 136 #[.pointer (some ⟨D.d,0,none⟩),.int .i64 ((k:Nat):Int)] w (λv w'=>v=.bool (D.fV k)/\cx w' (D.cC k)/\ad (λq=>q=D.d) w w'/\w'.heap.size=w.heap.size):=by
 have hf:=h.rN n;have o:=h.f4;have p: -1<=D.cg.getD k 0/\D.cg.getD k 0<=9223372036854775807:=by rw[fm I];exact h.fr _ (cF _)
 have g:∀ (w1:J),cx w1 D->cx (w1.setCell ⟨D.d,k,none⟩ (.int .i64 (gA (D.cg.getD k 0)).2)) (D.cC k):=by
  intro w1 h1;have hc:=dk w1 D.d k (.int .i64 (gA (D.cg.getD k 0)).2);have j:=dN h1.v (i:=k) (.int .i64 (gA (D.cg.getD k 0)).2);have e:D.c.set k (.int .i64 (gA (D.cg.getD k 0)).2)=(D.cC k).c:=by
   unfold a6.c a6.cC;rw[List.set_append_left _ _ (by rw[dU];omega),←List.map_set]
  rw[e]at j;refine⟨j,bz.ab h1.l hc (λe=>h.a1.1 e.symm),h1.m.ab hc (λe=>h.a1.2.1 e.symm),λx hx=>(h1.ws x hx).ab hc λq r e=>(h.a2 x hx).1 (by subst e;exact r),h.wn,h.sl,h.j_,h.bW,h.bC,by show(D.cg.set k _).length=4;rw[df];exact o,λx hx=>?_,h.a1,h.a2,h.a3⟩;rcases ly hx with hx|rfl
  .exact h.fr x hx
  .exact FZ p
 have f:Addr.add ⟨D.d,0,none⟩ (Int.toNat ((k:Nat):Int)*1)=⟨D.d,k,none⟩:=by rw[dd,fG,aw,cy]
 refine okF (af.uv (some ⟨D.d,0,none⟩) ((k:Nat):Int)) aA.uv func136 ?_;(delta af.uv r1 ak st av;dsimp only);refine⟨_,rfl,⟨I,by show(k:Int)<4;omega⟩,D.cg.getD k 0,by rw[f];exact hf,λh1=>?_,λh1=>⟨λh2=>⟨_,rfl,⟨I,by show(k:Int)<4;omega⟩,?_⟩,λh2=>aW ⟨_,rfl,⟨I,by show(k:Int)<4;omega⟩,id,_,by rw[f];exact hf,_,rfl,⟨I,by show(k:Int)<4;omega⟩,?_⟩⟩⟩
 .have h1:D.cg.getD k 0= -1:=by simpa using h1
  have a:D.fV k=false:=by unfold a6.fV gA;rw[if_pos h1]
  have b:D.cC k=D:=by
   unfold a6.cC gA;rw[if_pos h1];have:D.cg.set k (-1)=D.cg:=by
    rw[←h1,fm I];exact List.set_getElem_self _
   rw[this]
  rw[a,b];exact⟨rfl,h,.refl _ _,rfl⟩
 .have h1:D.cg.getD k 0≠ -1:=by simpa using h1
  have h2:D.cg.getD k 0=0:=by simpa using h2
  have hs:=dI h.v (i:=k) (by rw[h.rO];omega);have a:D.fV k=true:=by unfold a6.fV gA;rw[if_neg h1,if_pos h2]
  have b:(gA (D.cg.getD k 0)).2= -1:=by unfold gA;rw[if_neg h1,if_pos h2]
  have:=g w h;rw[b]at this;rw[f,a];exact⟨hs.1,hs.2,aW ⟨rfl,this,dk _ _ _ _,by simp[World.setCell]⟩⟩
 .have h1:D.cg.getD k 0≠ -1:=by simpa using h1
  have h2:D.cg.getD k 0≠0:=by simpa using h2
  have hd:=h.ext (cf w);have hs:=dI hd.v (i:=k) (by rw[h.rO];omega);have a:D.fV k=false:=by unfold a6.fV gA;rw[if_neg h1,if_neg h2]
  have b:(gA (D.cg.getD k 0)).2=D.cg.getD k 0-1:=by unfold gA;rw[if_neg h1,if_neg h2]
  have:=g w.drew hd;rw[b]at this;rw[f,a,bA I I];exact⟨hs.1,hs.2,aW ⟨rfl,this,(ad.cJ (cf w)).trans (dk _ _ _ _),by simp[World.setCell]⟩⟩
end Go.Proofs.YtkdhdlfonmgheaaGreat
