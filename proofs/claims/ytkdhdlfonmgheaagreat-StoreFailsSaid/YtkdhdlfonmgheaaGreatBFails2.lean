/- Contracts of the functions that the statement reaches, and the plain laws over them; each theorem stands with its conditions. -/
import Derived.Test.YtkdhdlfonmgheaaGreatBFails1
namespace Go.Proofs.YtkdhdlfonmgheaaGreat
open Go a7 Go.Proofs.Tryz
def g_:aD:=⟨false,[],[],[]⟩
def bg:Y:=⟨none,0,0⟩
def xN(leaf:ai)(l:O UInt8)(w w':J)(v:aa):Prop:=
 (∃ (n:aD) (K V D:Y),v=.tuple #[c0 n K V D,(0:Int)]/\lF leaf l n/\bC (λq=>w.heap.size<=q) w' n K V D)\/
 (v=.tuple #[c0 g_ bg bg bg,(4:Int)]/\∀n,¬lF leaf l n)
theorem jb{w':J}{h:Nat}{vs:O aa}(b:ai)(K V D:Y)(c:Var w' h vs 202)(g:vs.length=4){Q:ai->Y->Y->Y->J->Prop}(j:∀ah,ad (λq=>q=h) w' ah->Q b K V D ah):
 bA w' h [b,K,V,D]/\(4:Nat)=4/\al (setCells w' h 0 [b,K,V,D]) λah=>
  ∃i:ai,ah.cell? h=some (.bool i)/\∃d:Y,ah.cell? (Addr.add h 1)=some (.slice d.a d.len d.cap)/\∃e:Y,ah.cell? (Addr.add h 2)=some (.slice e.a e.len e.cap)/\
   ∃f:Y,ah.cell? (Addr.add h 3)=some (.slice f.a f.len f.cap)/\Q i d e f ah:=by
 refine⟨c.cc (by rw[g];rfl) ?_,rfl,cw c (us:=[b,K,V,D]) (by rw[g];rfl) rfl λah k hc _=>?_⟩
 .intro v c
  simp only[cU,eL,eO]at c;rcases c with rfl|rfl|rfl|rfl<;>trivial
 .obtain⟨bT,aC,aU,aM⟩:=bF k
  exact⟨b,bT,K,aC,V,aU,D,aM,j ah hc⟩
theorem pM{w:J}{s:Y}{l:O UInt8}(hs:Src 1 w s (aJ l))(hc:s.len<=s.cap)(T:∀k,aB s k->k<w.heap.size)(an:l.length<=100000)(leaf:ai):
 aQ aj 233 #[leaf,s] w (λv w'=>xN leaf l w w' v/\Ext w w'):=by
 refine okF (af.pM leaf s) aA.pM func233 ?_;(delta af.pM ct U aC ak w7 ag st bc au a_ b_ aM rf;dsimp only);refine bj (vs:=[false,(),(),()]) rfl λw1 aT ao bL=>?_;refine bj (vs:=[s,true]) rfl λah aV W bM=>?_;refine bj (vs:=[false,(),(),()]) rfl λbN ap F bO=>?_;refine⟨ap.cc rfl (by
  intro v aq;simp only[cU,eL,eO]at aq;rcases aq with rfl|rfl|rfl|rfl<;>trivial),rfl,cw ap (us:=[leaf,(),(),()]) rfl rfl λm aW G bP=>?_⟩
 obtain⟨lo,bQ⟩:∃lo,lo=m.heap.size:=⟨_,rfl⟩;obtain⟨r,ar⟩:∃r,r=w1.heap.size:=⟨_,rfl⟩;obtain⟨nb,ay⟩:∃nb,nb=ah.heap.size:=⟨_,rfl⟩;have aY:Ext w m:=Ext.cn (ao.trans (W.trans F)) G I;have aZ:jr m w1.heap.size s (l,true):=by
  refine⟨(aV.ext F).ab G I,(hs.ext (ao.trans (W.trans F))).ab G λk c e=>?_,hc,λk c=>?_⟩
  .have:=T k c;omega
  .have:=T k c;omega
 refine(xL aZ 1 (by decide) an).use ?_;rintro _ aD ⟨aE,rfl,a0,X,a1⟩;have bR:(rdNum (l,true) 1).1<256:=xM _ 1;have bS:=X.size;have aF:j4 lo aD r nb aE (⟨leaf,[],[],[]⟩,(rdNum (l,true) 1).2) bg bg bg (λ_=>False) (λ_=>False) (λ_=>False):=by
  refine⟨by rw[ay];exact aW.ab X I,by rw[ar];exact a0,br.none _ _,br.none _ _,cR.none _ _,λq h=>h.elim,λq h=>h.elim,λq h=>h.elim,λq a=>?_,I,I,I,eD (vB _ 1) an⟩;have:=T q (a1 q a);exact⟨I,I⟩
 have aG:ad (oy lo r nb) m aD:=X.mono λk _ c=>.inl I;rw[←ar,←ay];refine⟨_,rfl,ij (λw'=>∃ (u D:Y) (bK:Nat->Prop),j4 lo w' r nb u (me leaf (rdNum (l,true) 1).2) bg bg D (λ_=>False) (λ_=>False) bK/\ad (oy lo r nb) m w'/\lo<=w'.heap.size) (λq a=>⟨λd=>?_,λd=>a _ ⟨aE,bg,λ_=>False,?_,aG,I⟩⟩) ?_⟩
 .have d:leaf=false:=by simpa using d
  subst d;refine A9 aF I (by simp) λw' az u a2 h1 h2 o=>a _ ⟨u,az,a2,?_,aG.trans h2,o⟩;have:me false (rdNum (l,true) 1).2=(⟨false,[],[],[]++ [(rdNum (rdNum (l,true) 1).2 2).1]⟩,(rdNum (rdNum (l,true) 1).2 2).2):=by simp[me]
  rw[this];exact h1
 .have d:leaf=true:=by simpa using d
  subst d;exact aF
 rintro bV ⟨a3,a4,a5,aH,a6,a7⟩;obtain⟨f,H⟩:∃f,f=me leaf (rdNum (l,true) 1).2:=⟨_,rfl⟩;rw[←H]at aH;have a8:f.1.leaf=leaf:=by rw[H];unfold me;cases leaf<;>rfl
 have bW:f.1.keys.length=0/\f.1.vals.length<=1/\f.1.kids.length<=1:=by rw[H];unfold me;cases leaf<;>simp
 refine⟨λi w'=>∃ (j:Nat) (u K V D:Y) (bU b8 bK:Nat->Prop),i=j/\j<=(rdNum (l,true) 1).1/\j4 lo w' r nb u (im f j) K V D bU b8 bK/\ad (oy lo r nb) m w'/\lo<=w'.heap.size,λi _=>(((rdNum (l,true) 1).1:Int)-i).toNat,⟨0,a3,bg,bg,a4,_,_,a5,rfl,cG _,aH,a6,a7⟩,?_⟩;rintro _ aI ⟨j,bX,K,V,D,bU,b8,bK,rfl,bY,g,L,a9⟩;obtain⟨bb,bd,be⟩:=A8 f j;have x:=A7 f j a8;refine⟨λaK=>?_,λZ=>?_⟩
 .have aK:j<(rdNum (l,true) 1).1:=by have:=b1 aK;omega
  rw[bx (n:=(j:Int)+1) I I];refine ij (λw'=>∃ (u K V D:Y) (bU b8 bK:Nat->Prop),j4 lo w' r nb u (im f (j+1)) K V D bU b8 bK/\ad (oy lo r nb) m w'/\lo<=w'.heap.size) (λq a=>?_) ?_
  .refine FK g a9 I λy M aN N P R S=>⟨λd=>?_,λd=>?_⟩
   .refine FL P S (by show(im f j).1.vals.length<=_;omega) λaa bf ac bh B p ae=>a _ ⟨ac,M,bf,D,N,bh,bK,?_,L.trans (R.trans p),ae⟩
    rw[im];unfold ou;rw[x,d,if_pos rfl];rw[x,d]at B;exact B
   .refine A9 P S (by show(im f j).1.kids.length<=_;omega) λaa bi ac bk B p ae=>a _ ⟨ac,M,V,bi,N,b8,bk,?_,L.trans (R.trans p),ae⟩
    rw[im];unfold ou;rw[x,d,if_neg (by simp)];rw[x,d]at B;exact B
  .rintro y ⟨aN,M,bm,bn,N,bq,bs,P,R,S⟩
   refine⟨⟨j+1,aN,M,bm,bn,N,bq,bs,I,I,P,R,S⟩,?_⟩;show(((rdNum (l,true) 1).1:Int)-((j:Int)+1)).toNat<(((rdNum (l,true) 1).1:Int)-(j:Int)).toNat;omega
 .have Z:j=(rdNum (l,true) 1).1:=by have:=cu Z;omega
  have bt:im f j=iJ leaf l:=by rw[Z,H];rfl
  rw[bt]at g bb bd be x;obtain⟨bT,aC,aU,aM⟩:=bF g.v;have c7:bC (λq=>lo<=q) aI (iJ leaf l).1 K V D:=⟨bo.aX (br.iM g.keys) λq _ a=>(g.bl q a).1,bo.aX (br.iM g.vals) λq _ a=>(g.bv q a).1,cL.aX (cR.p1 g.kids) λq _ a=>(g.aL q a).1⟩;have bu:Ext w aI:=Ext.dy aY L λk c=>by
   rcases c with c|c|c<;>omega
  refine⟨_,bT,K,aC,V,aU,D,aM,(n4 c7 I I I).use ?_⟩;rintro bw y ⟨bz,C⟩;have al:=bu.trans C;have bA:=g.v.ext C;have bB:=g.rd.ext C;have aO:Var y w.heap.size [false,(),(),()] 202:=by
   refine(Var.ab (w:=m) ?_ L ?_).ext C
   .exact(((aT.ext W).ext F).ab G I)
   .rintro(c|c|c)<;>omega
  have bD:=c7.ext C;obtain⟨d0,d1,d2,d3⟩:=bF bA;have bE:∃ (z:Y) (e:Int),bw=Value.tuple #[z,e]/\(e=0->ba 1 5 y z (aJ (jq (iJ leaf l).1))/\cH (iJ leaf l).1/\bJ (iJ leaf l).1<=232)/\(e≠0->cH (iJ leaf l).1->232<bJ (iJ leaf l).1):=by
   rcases bz with ⟨z,rfl,h1,h2,o,A⟩|⟨e,rfl,h1,h2⟩
   .exact⟨z,0,rfl,λ_=>⟨h1,o,A⟩,λh=>absurd rfl h⟩
   .exact⟨bg,e,rfl,λh=>absurd h h1,λ_=>h2⟩
  obtain⟨z,e,rfl,bG,aP⟩:=bE;have bH:Src 1 y s (aJ l):=hs.ext al
  have aR:∀n,lF leaf l n->iJ leaf l=(n,([],true)):=by
   rintro n ⟨h1,h2,o,A⟩;have:=xF h1 o;rw[h2,A]at this;exact this
  refine⟨z,e,rfl,_,rfl,(iJ leaf l).2.2,by rw[aw];exact bB.v.cell,cd (λb w'=>y=w'/\(b=true->∀n,¬lF leaf l n)/\(b=false->lF leaf l (iJ leaf l).1)) (λq a=>⟨λh1=>a _ _ ⟨rfl,λ_ n E=>?_,λh=>(by cases h)⟩,λh1=>?_⟩) ?_⟩
  .have hu:=aR n E
   obtain⟨h2,o,A,aS⟩:=E;rw[hu]at h1 aP;have h1:(e !=0)=true:=by simpa using h1
   have bZ:232<bJ n:=aP (by simpa using h1) h2;omega
  .have bI:(iJ leaf l).2.2=true/\e=0:=by
    simp only[nw,su,bne_eq_false_iff_eq]at h1;exact h1
   obtain⟨h2,rfl⟩:=bI;obtain⟨o,A,aS⟩:=bG rfl;refine(pw o.src bH).use ?_;rintro _ _ ⟨rfl,rfl⟩;refine⟨_,rfl,a _ _ ⟨rfl,λt n E=>?_,λt=>?_⟩⟩
   .have hu:=aR n E
    have t:¬jq (iJ leaf l).1=l:=by simpa using t
    rw[hu]at t;exact t E.2.2.2
   .have t:jq (iJ leaf l).1=l:=by simpa using t
    exact⟨A,x,aS,t⟩
  rintro b w' ⟨rfl,av,ax⟩;refine⟨λam=>?_,λam=>⟨_,d0,K,d1,V,d2,D,d3,?_⟩⟩
  .refine jb false bg bg bg aO rfl (Q:=λb K V D ah=>(λv w'=>xN leaf l w w' v/\Ext w w') (.tuple #[.agg #[b,K,V,D],(4:Int)]) ah) λaa p=>⟨.inr ⟨rfl,av am⟩,Ext.cn al p (bp _)⟩
  .refine jb (iJ leaf l).1.leaf K V D aO rfl (Q:=λb K V D ah=>(λv w'=>xN leaf l w w' v/\Ext w w') (.tuple #[.agg #[b,K,V,D],(0:Int)]) ah) λaa p=>⟨.inl ⟨(iJ leaf l).1,K,V,D,rfl,ax am,?_⟩,Ext.cn al p (bp _)⟩
   exact(bD.ab p λk c e=>I).aX λk _ c=>by omega
theorem FM{s v:Y}{vs xs:O aa}{i l0:Nat}{mP:Array aa}{al:TypeId}{w:J}(H:ba 1 48 w s vs)(N:Src 1 w v xs)(g:v.len=1)(am:v.a=some ⟨l0,0,none⟩)(T:bu w l0 mP al)(an:¬aB s l0)
 (U:∀u∈xs,Plain u) (aM:∀u∈vs,Plain u) (hi:i<=s.len) (a9:s.len<=1000000):
 aQ aj 210 #[s,.int .i64 (i:Int),v] w (λu w'=>∃z:Y,u=z/\ba 1 48 w' z (vs.take (i*1)++xs++vs.drop (i*1))/\z.len=s.len+1/\ad (aB s) w w'/\(∀k,aB z k->aB s k\/w.heap.size<=k)):=by
 obtain⟨h1,a_,bb,h2,ao,aN,aP,E,ap,aR⟩:=(p2).out;obtain⟨d0,K⟩:=jW _ ao;refine okF (af.tC s i v) aA.tC func210 ?_;(delta af.tC ak au aU;dsimp only);have bc:=H.2.1;have bd:=H.2.2.1;have be:maxLen=9223372036854775807:=rfl;have p:xs.length=1:=by have:=N.len;rw[g]at this;omega
 have V:=H.1;refine⟨⟨I,I⟩,λh=>by rw[g]at h;simp at h,λ_=>⟨λh=>?_,λh=>?_⟩⟩
 .have aS:i=s.len:=by have:=eq_of_beq h;omega
  subst aS;obtain⟨z,w',av,ax,X,Q,F⟩:=(p2).append (cK:=127) N H U (by rw[g];omega);refine⟨z,w',av,z,rfl,?_,by rw[X,g],Q,F⟩;rwa[dM I,List.drop_of_length_le I,fQ]
 have aK:i<s.len:=by
  have h:¬((i:Int)=(s.len:Int)):=λe=>by rw[e]at h;simp at h
  omega
 rcases H.2.2.2 with ⟨_,hc⟩|⟨b,c,r,G,aq,aw⟩
 .omega
 have aT:b≠l0:=λe=>an ⟨_,r,e⟩;have aV:IntKind.wrap .i64 ((s.len:Int)+(v.len:Int))=((s.len+1:Nat):Int):=by rw[g,bx I I];rfl
 have aX:IntKind.wrap .i64 ((i:Int)+(v.len:Int))=((i+1:Nat):Int):=by rw[g,bx I I];rfl
 have aY:IntKind.wrap .i64 (((s.len+1:Nat):Int)-(i:Int))=((s.len+1-i:Nat):Int):=by rw[bx I I];omega
 have bf:c.toList.length=s.cap*1:=by simpa using aq
 have ay:∀k,k<=s.len->vs.take (k*1)=c.toList.take (k*1):=λk d=>by rw[←aw,qD,jj I]
 have az:vs.drop (i*1)=(c.toList.drop (i*1)).take ((s.len-i)*1):=by rw[←aw,List.drop_take,show s.len*1-i*1=(s.len-i)*1 from I]
 have aC:∀u∈vs.drop (i*1),Plain u:=λu hu=>aM u (fg hu);have B:(vs.drop (i*1)).length=(s.len-i)*1:=by rw[c_,V];omega
 have L:∀ (Z o l m:Nat),l<m->aO (some (Addr.mk Z o none)) 1 l m=some ⟨Z,o+l*1,none⟩:=λZ o l m bg=>s5 I;simp only[aV,aX,aY,dc,oR,w2];refine⟨λhg=>?_,λhg=>?_⟩
 .have bh:s.cap<s.len+1:=by have:=b1 hg;omega
  have aZ:Src 1 w ⟨some b,i,s.cap⟩ (vs.take (i*1)):=by
   have:=G.q4 (sz:=1) (o:=0) (n:=i) (cap:=s.cap) I;rw[ln]at this;rwa[ay i I]
  obtain⟨j,zs,rest,av,ax,X,Q,F⟩:=Eh (P:=aj) (gr:= #[127,3]) (cK:=127) (kr:=3) (k:=.i64) (s:=⟨some b,i,s.cap⟩) (n:=s.len+1-i) rfl rfl h1 (by kernel_rfl) h2 ao aN aP E (by rw[ap];exact aR) aZ (by show s.cap<i+_;omega) (by rw[ap];show(2*(i+_)+1000)*_<=_;omega);have a0:i+(s.len+1-i)=s.len+1:=by omega
  simp only[a0]at av Q F;obtain⟨C,ac⟩:∃C,C=(vs.take (i*1)++zs++rest).toArray:=⟨_,rfl⟩;rw[←ac]at F;obtain⟨D,ae⟩:∃D,D=w.drew.alloc (.cells C 48):=⟨_,rfl⟩;rw[←ae]at F;have aD:bu D w.heap.size C 48:=by rw[ae];exact bu.new w.drew _ _
  have aE:Ext w D:=by rw[ae];exact ad.alloc (ad.drew (.refl _ _)) _
  have f:(vs.take (i*1)).length=i*1:=by rw[cC,V];omega
  have aF:C.size=j*1:=by rw[ac];simp[f,X,Q];omega
  have bi:C.toList.length=j*1:=by simpa using aF
  have M:=s8 (P:=aj) (l6:=127) (cM:=127) (ty:=3) (A:=⟨w.heap.size,0+i*1,none⟩) (dl:=s.len+1-i) (nP:=j-i) (n:=1) h1 K E (x:=v) (by rw[g];exact jj I) (xs:=xs) (by have:=N.ext aE;have e:(⟨v.a,1,v.cap⟩:Y)=v:=(by rw[←g]);rw[e];exact this) (by rw[cB];exact aD.cc _ _ I U);obtain⟨t,ag⟩:∃t,t=setCells D ⟨w.heap.size,0+i*1,none⟩ 0 xs:=⟨_,rfl⟩;rw[←ag]at M;have aG:bu t w.heap.size (gF C (i*1) xs) 48:=by rw[ag,cB];exact aD.jY xs
  have a1:Ext w t:=by rw[ag];exact Ext.dy aE (ad.kW (.refl _ _) xs 0) (λk d=>by subst d;exact bp _)
  have a2:Ext t t.drew:=ad.drew (.refl _ _);have aH:=Ext.trans a1 a2;have ah:=s8 (P:=aj) (w:=t.drew) (l6:=127) (cM:=127) (ty:=3) (A:=⟨w.heap.size,0+(i+1)*1,none⟩) (dl:=s.len+1-(i+1)) (nP:=j-(i+1)) (n:=s.len-i) h1 K E (x:=⟨some ⟨b,0+i*1,none⟩,s.len-i,s.cap-i⟩) (jj (by show s.len-i<=_;omega)) (xs:=vs.drop (i*1))
   (by have:=(G.ext aH).q4 (sz:=1) (o:=i*1) (n:=s.len-i) (cap:=s.cap-i) I;rw[az,cB];exact this) (by rw[cB];exact bu.cc (bu.drew aG) _ _ (by rw[iY];omega) aC)
  have R:aO (some (Addr.mk w.heap.size 0 none)) 1 i j=some ⟨w.heap.size,0+i*1,none⟩:=L _ _ _ _ I;have S:aO (some (Addr.mk w.heap.size 0 none)) 1 (i+1) j=some ⟨w.heap.size,0+(i+1)*1,none⟩:=L _ _ _ _ I;have a3:aO s.a 1 i s.cap=some ⟨b,0+i*1,none⟩:=by rw[r];exact L _ _ _ _ I
  have a4:Sem.run aj (Builtin.append_ #[127,3] 127 #[.slice s.a i s.cap,.int .i64 ((s.len+1-i:Nat):Int)]) w=.ok (.slice (some w.heap.size) (s.len+1) j) D:=by rw[r];exact F
  refine⟨⟨I,I⟩,⟨some w.heap.size,s.len+1,j⟩,D,a4,⟨I,by show(i:Int)<=((s.len+1:Nat):Int);omega⟩,_,t,by rw[R];exact M,aW ⟨⟨I,by show((i+1:Nat):Int)<=((s.len+1:Nat):Int);omega⟩,⟨I,I⟩,_,_,by rw[S,a3];exact ah,⟨some w.heap.size,s.len+1,j⟩,rfl,?_,rfl,?_,?_⟩⟩
  .refine ba.mk' ((bu.drew aG).jY (o:=0+(i+1)*1) _) (by simp[f,p,B];omega) I I (by rw[iY,iY,aF]) ?_
   rw[lA _ _ _ (by rw[iY];omega),lA _ _ _ I];have t1:C.toList.take (i*1)=vs.take (i*1):=by rw[ac,qF,cO];exact List.take_left' f
   have t2:(C.toList.take (i*1)++xs++C.toList.drop (i*1+xs.length)).take (0+(i+1)*1)=vs.take (i*1)++xs:=by
    rw[t1,nz (by simp[f,p];omega),dM (by simp[f,p];omega)]
   rw[t2,nz (by simp[f,p,B];omega),dM (by simp[f,p,B];omega)]
  .exact ad.cF (Ext.dy aH (ad.kW (.refl _ _) _ 0) (λk d=>by subst d;exact bp _))
  .rintro k ⟨A,ar,d⟩
   cases ar;exact .inr (Nat.le_of_eq d)
 .have bj:s.len+1<=s.cap:=by have:=cu hg;omega
  have R:aO s.a 1 (i+1) s.cap=some ⟨b,0+(i+1)*1,none⟩:=by rw[r];exact L _ _ _ _ I
  have S:aO s.a 1 i s.cap=some ⟨b,0+i*1,none⟩:=by rw[r];exact L _ _ _ _ I
  have a5:Sem.run aj (callFunc 252 #[v,.slice (some ⟨b,0+(i+1)*1,none⟩) (s.len+1-(i+1)) (s.cap-(i+1))]) w=.ok (.value false) w:=by
   rw[am,run_callFunc_extern (e:=Extern.SlicesOverlaps.overlaps #[127,127] #[4]) func252 (by kernel_rfl) (by kernel_rfl) (by kernel_rfl) (by kernel_rfl)];have:=Lib.run_overlaps_apart (P:=aj) w 127 4 48 h1 1 (λw=>by have:=iC (w:=w) K;rwa[E]at this) l0 ⟨b,0+(i+1)*1,none⟩ v.len v.cap (s.len+1-(i+1)) (s.cap-(i+1)) (λe=>aT e.symm) al 48 mP.size c.size
    (by have:=T;unfold bu at this;simp[World.shape?,this]) (by have:=G;unfold bu at this;simp[World.shape?,this]) I (T.frozen _ rfl) (T.frozen _ rfl)
   rw[this];rfl
  have M:=s8 (P:=aj) (w:=w.drew) (l6:=127) (cM:=127) (ty:=3) (A:=⟨b,0+(i+1)*1,none⟩) (dl:=s.len+1-(i+1)) (nP:=s.cap-(i+1)) (n:=s.len-i) h1 K E (x:=⟨some ⟨b,0+i*1,none⟩,s.len+1-i,s.cap-i⟩) ((Nat.min_eq_right (by show _<=s.len+1-i;omega)).trans I) (xs:=vs.drop (i*1))
   (by have:=(bu.drew G).q4 (sz:=1) (o:=i*1) (n:=s.len-i) (cap:=s.cap-i) I;rw[az,cB];exact this) (by rw[cB];exact bu.cc (bu.drew G) _ _ I aC)
  obtain⟨y,ai⟩:∃y,y=setCells w.drew ⟨b,0+(i+1)*1,none⟩ 0 (vs.drop (i*1)):=⟨_,rfl⟩;rw[←ai]at M;have aI:bu y b (gF c ((i+1)*1) (vs.drop (i*1))) 48:=by rw[ai,cB];exact(bu.drew G).jY _
  have aJ:ad (aB s) w y:=by
   rw[ai];exact ad.mono (W:=λq=>q=b) (ad.kW (ad.drew (.refl _ _)) _ 0) (λk _ d=>⟨_,r,d.symm⟩)
  have a6:Src 1 y v xs:=N.ab aJ (λk d a7=>by obtain⟨A,ar,rfl⟩:=d;rw[am]at ar;cases ar;exact an a7);have ah:=s8 (P:=aj) (w:=y) (l6:=127) (cM:=127) (ty:=3) (A:=⟨b,0+i*1,none⟩) (dl:=s.len+1-i) (nP:=s.cap-i) (n:=1) h1 K E (x:=v) (by rw[g];exact jj I) (xs:=xs) (by have e:(⟨v.a,1,v.cap⟩:Y)=v:=(by rw[←g]);rw[e];exact a6) (by rw[cB];exact aI.cc _ _ (by rw[iY];omega) U);refine⟨⟨I,I⟩,⟨I,I⟩,false,w,by rw[R];exact a5,λ_=>aW ⟨⟨I,I⟩,⟨I,I⟩,_,y,by rw[R,S];exact M,⟨I,I⟩,_,_,by rw[S];exact ah,⟨s.a,s.len+1,s.cap⟩,rfl,?_,rfl,?_,λk d=>.inl d⟩,λh=>by simp at h⟩
  .have aL:ba 1 48 (setCells y ⟨b,0+i*1,none⟩ 0 xs) ⟨some b,s.len+1,s.cap⟩ (vs.take (i*1)++xs++vs.drop (i*1)):=by
    have f:(vs.take (i*1)).length=i*1:=by rw[cC,V];omega
    refine ba.mk' (aI.jY (o:=0+i*1) _) (by simp[f,p,B];omega) I I (by rw[iY,iY,aq]) ?_;rw[lA _ _ _ (by rw[iY];omega),lA _ _ _ I];have t1:(c.toList.take ((i+1)*1)++vs.drop (i*1)++c.toList.drop ((i+1)*1+(vs.drop (i*1)).length)).take (0+i*1)=vs.take (i*1):=by
     rw[cB,nz (by simp[B];omega),nz (by simp;omega),qD,ay i I,jj I]
    have t2:(c.toList.take ((i+1)*1)++vs.drop (i*1)++c.toList.drop ((i+1)*1+(vs.drop (i*1)).length)).drop (0+i*1+xs.length)=vs.drop (i*1)++c.toList.drop ((i+1)*1+(vs.drop (i*1)).length):=by
     have a8:(c.toList.take ((i+1)*1)).length=0+i*1+xs.length:=by simp;omega
     rw[cO,←a8,List.drop_left]
    rw[t1,t2,←cO,nz (by simp[f,p,B];omega),dM (by simp[f,p,B];omega)]
   rw[←r]at aL;exact aL
  .exact aJ.trans (ad.mono (W:=λq=>q=b) (ad.kW (.refl _ _) _ 0) (λk _ d=>⟨_,r,d.symm⟩))
theorem FN{s:Y}{vs:O aa}{i:Nat}{w:J}(m:ba 1 48 w s vs)(M:∀u∈vs,Plain u)(N:∀z,(Tryz.prog.info? 48).bind (·.zero)=some z->∀u∈z.cells.toList,Plain u)(hi:i<s.len)(an:s.len<=1000000):
 aQ aj 205 #[s,.int .i64 (i:Int),.int .i64 ((i+1:Nat):Int)] w (λu w'=>∃p:Y,u=p/\ba 1 48 w' p (vs.take (i*1)++vs.drop ((i+1)*1))/\p.len=s.len-1/\p.a=s.a/\ad (aB s) w w'):=by
 obtain⟨h1,ao,d,h2,Q,C,D,R,ap,aq⟩:=(p2).out;obtain⟨d0,S⟩:=jW _ Q;refine okF (af.tB s i ((i+1:Nat):Int)) aA.tB func205 ?_;(delta af.tB ak bD;dsimp only);have ar:=m.2.1;have U:=m.2.2.1;have E:=m.1;rcases m.2.2.2 with ⟨_,hc⟩|⟨b,c,f,V,F,G⟩
 .omega
 have au:c.toList.length=s.cap*1:=by simpa using F
 simp only[dc,oR,w2];have X:vs.drop ((i+1)*1)=(c.toList.drop ((i+1)*1)).take ((s.len-(i+1))*1):=by rw[←G,List.drop_take,show s.len*1-(i+1)*1=(s.len-(i+1))*1 from I]
 have e:(vs.drop ((i+1)*1)).length=(s.len-(i+1))*1:=by rw[c_,E];omega
 have Z:vs.take (i*1)=c.toList.take (i*1):=by rw[←G,qD,jj I]
 have l:(vs.take (i*1)).length=i*1:=by rw[cC,E];omega
 have ab:∀u∈vs.drop ((i+1)*1),Plain u:=λu hu=>M u (fg hu);have t:bu w.drew b c 48:=bu.drew V;have ac:Src 1 w.drew ⟨aO s.a 1 (i+1) s.cap,s.len-(i+1),s.cap-(i+1)⟩ (vs.drop ((i+1)*1)):=by
  by_cases he:i+1=s.cap
  .have v:s.len-(i+1)=0:=by omega
   refine⟨by rw[e],λ_=>kO.1 (by rw[e,v,Nat.zero_mul]),λa _=>?_⟩;have:vs.drop ((i+1)*1)=[]:=kO.1 (by rw[e,v,Nat.zero_mul]);rw[this];show cD _ _ 0 ((s.len-(i+1))*1)=_;rw[v,Nat.zero_mul];rfl
  .rw[f,s5 I,X,cB]
   exact t.q4 I
 have x:=wQ (P:=aj) (gr:= #[127,127]) (cK:=127) (s:=⟨s.a,i,s.cap⟩) rfl rfl h1 h1 S R ac (by show i+(s.len-(i+1))<=s.cap;omega) (λa r=>by
  have r:s.a=some a:=r;rw[f]at r;cases r;rw[aw,cB];exact t.cc _ _ (by show i*1+_<=_;omega) ab)
 have ae:i+(s.len-(i+1))=s.len-1:=by omega
 simp only[f,aw,cB,ae]at x;obtain⟨g,y⟩:∃g,g=setCells w.drew ⟨b,i*1,none⟩ 0 (vs.drop ((i+1)*1)):=⟨_,rfl⟩;rw[←y]at x;have H:bu g b (gF c (i*1) (vs.drop ((i+1)*1))) 48:=by rw[y];exact t.jY _
 have ag:ad (aB s) w g:=by
  rw[y];exact ad.mono (W:=λq=>q=b) (ad.kW (ad.drew (.refl _ _)) _ 0) (λk _ B=>⟨_,f,B.symm⟩)
 obtain⟨zs,av,ah⟩:=Ei (P:=aj) (w:=g) (T:=127) (o:=0) (n:=1) (c:=s.cap-(s.len-1)) (A:=⟨b,(s.len-1)*1,none⟩) h1 h2 C D (by decide) (λzs K=>by
  refine H.cc _ _ (by rw[K,iY];simp[Builtin.zeroCells,D];omega) λu hu=>?_;rw[K]at hu;simp only[Builtin.zeroCells,Array.toList_map,eE]at hu;obtain⟨j,L,rfl⟩:=hu;have L:j<1*d.cells.size:=by simpa using L
  have ai:j%d.cells.size<d.cells.size:=g6 _ I;have hg:d.cells[j%d.cells.size]! =d.cells[j%d.cells.size]:=getElem!_pos d.cells (j%d.cells.size) ai;rw[hg];exact N d (by rw[h2];exact C) _ (by simp))
 have al:aO (some (Addr.mk b 0 none)) 1 (s.len-1) s.cap=some ⟨b,(s.len-1)*1,none⟩:=by rw[s5 I,cB]
 have am:s.len-(s.len-1)=1:=by omega
 refine⟨⟨I,I⟩,⟨I,I⟩,⟨I,I⟩,λh=>?_,λ_=>aW ⟨⟨I,I⟩,⟨I,I⟩,⟨some b,s.len-1,s.cap⟩,g,by rw[f];exact x,⟨I,by show(s.len:Int)<=(s.cap:Int);omega⟩,⟨I,by show((s.len-1:Nat):Int)<=(s.len:Int);omega⟩,_,_,by rw[am,al];exact ah,⟨some b,s.len-1,s.cap⟩,rfl,?_,rfl,f.symm,?_⟩⟩
 .have:=eq_of_beq h;omega
 .refine ba.mk' (H.jY _) (by simp[l,e];omega) I U (by rw[iY,iY,F]) ?_
  rw[lA _ _ _ (by rw[iY];omega),lA _ _ _ I];have t1:(c.toList.take (i*1)++vs.drop ((i+1)*1)++c.toList.drop (i*1+(vs.drop ((i+1)*1)).length)).take ((s.len-1)*1)=vs.take (i*1)++vs.drop ((i+1)*1):=by
   rw[←Z,nz (by simp[l,e];omega),dM (by simp[l,e];omega)]
  rw[t1,cO,nz (by simp[l,e];omega),dM (by simp[l,e];omega)]
 .exact ag.trans (ad.mono (W:=λq=>q=b) (ad.kW (.refl _ _) _ 0) (λk _ B=>⟨_,f,B.symm⟩))
theorem rK{w:J}{s:Y}{ds:O Nat}(h:Src 1 w s (ef ds))(g:ds.length<=1000000):
 aQ aj 245 #[s] w (λv w'=>∃b:Y,v=b/\ba 1 3 w' b (ef ds)/\Ext w w'/\gT w b):=by
 have i:s.len=ds.length:=by have:=h.len;rw[nc]at this;omega
 refine okF (af.tG s) aA.tG func245 ?_;delta af.tG ak U;refine⟨λc=>?_,λ_=>?_⟩
 .have c:s.a=none:=by simpa using c
  rw[h.nil c];exact⟨⟨none,0,0⟩,rfl,ba.none _ _ _,.refl _ _,λk d=>(fZ k d).elim⟩
 .obtain⟨b,w',h1,h2,j,e,f,_⟩:=p3.clone (cK:=58) h (xJ ds) I
  exact aW ⟨b,w',h1,b,rfl,h2,e,f⟩
theorem FO{ks:O Key}{k:Key}{a:Nat}(d:a<=ks.length)(h1:∀ (j:Nat) (h:j<ks.length),j<a->bH ks[j] k)(h2:∀ (j:Nat) (h:j<ks.length),a<=j->¬bH ks[j] k):cN ks k=a:=by
 unfold cN;rcases dJ a ks.length with h|h
 .exact(List.findIdx_eq h).2 ⟨dK (h2 a h (bp _)),λj b=>iV λc=>c (h1 j I b)⟩
 .have:a=ks.length:=by omega
  subst this;refine List.findIdx_eq_length_of_false λx hx=>?_;obtain⟨j,b,rfl⟩:=fh hx;exact iV λc=>c (h1 j b b)
def hA(ks:O Key)(k:Key):ai:=decide (ks[cN ks k]? =some k)
theorem FP{B C:Nat->Prop}{s t:Y}{ks:O Key}{key:Key}{w:J}(hs:bo B w s ks)(ht:Src 1 w t (aJ key))(x:ks.Pairwise bH)(N:ks.length<=100000):
 aQ aj 240 #[s,t,.func (.func 176) #[] #[]] w (λv w'=>v=.tuple #[.int .i64 ((cN ks key:Nat):Int),.bool (hA ks key)]/\w=w'):=by
 refine okF (af.tD s t ⟨176,#[],#[]⟩) aA.tD func240 ?_;(delta af.tD ak au ag aL;dsimp only);have y:=bo.len hs;have o:iD aj 176:=⟨_,(Option.some_get (show(Tryz.prog.funcs[176]?).isSome=true by kernel_rfl)).symm,by kernel_rfl,by kernel_rfl⟩;have aK:=λ{i j:Nat} (hi:i<j) (e:j<ks.length)=>mK.1 x i j I e hi;refine⟨λlo hi w'=>∃a b:Nat,lo=a/\hi=b/\a<=b/\b<=ks.length/\w=w'/\(∀ (j:Nat) (h:j<ks.length),j<a->bH ks[j] key)/\(∀ (j:Nat) (h:j<ks.length),b<=j->¬bH ks[j] key),λlo hi _=>(hi-lo).toNat,
  ⟨0,ks.length,rfl,by rw[y],cG _,bp _,rfl,λj _ h=>I,λj h h2=>I⟩,?_⟩
 rintro _ _ _ ⟨a,b,rfl,rfl,P,p,rfl,h1,h2⟩;have z:=Ej (a:=a) (b:=b) I;refine⟨λh=>?_,λh=>?_⟩
 .have D:(a:Int)<(b:Int):=b1 h
  rw[z];obtain⟨m,E⟩:∃m,m=(a+b)/2:=⟨_,rfl⟩;rw[←E];have F:a<=m:=by omega
  have Q:m<b:=by omega
  obtain⟨A,t2,ar,f,g,k,_⟩:=bo.at hs (i:=m) I;refine⟨by decide,A,ar,f,t2,g,o,(ky k.1 ht).use ?_⟩;rintro _ _ ⟨rfl,rfl⟩;have G:IntKind.wrap .i64 ((m:Int)+1)=((m+1:Nat):Int):=by rw[bx I I];rfl
  refine⟨_,rfl,λhc=>?_,λhc=>?_⟩
  .have hc:bH ks[m] key:=b1 hc
   rw[G];have l:((b:Int)-((m+1:Nat):Int)).toNat<((b:Int)-(a:Int)).toNat:=by omega
   refine⟨⟨m+1,b,rfl,rfl,I,p,rfl,λj e H=>?_,h2⟩,l⟩;rcases dJ j m with d|d
   .exact lC (aK d I) hc
   .have:j=m:=by omega
    subst this;exact hc
  .have hc:¬bH ks[m] key:=cu hc
   have l:((m:Int)-(a:Int)).toNat<((b:Int)-(a:Int)).toNat:=by omega
   refine⟨⟨a,m,rfl,rfl,F,I,rfl,h1,λj e H=>?_⟩,l⟩;rcases dJ m j with d|d
   .exact λK=>hc (lC (aK d e) K)
   .have:j=m:=by omega
    subst this;exact hc
 .have L:¬(a:Int)<(b:Int):=cu h
  have M:b=a:=by omega
  subst M;have n:cN ks key=b:=FO p h1 h2;refine cd (λc w'=>w=w'/\c=hA ks key) (λq r=>⟨λh=>?_,λh=>?_⟩) ?_
  .have D:(b:Int)<(s.len:Int):=b1 h
   have u:b<ks.length:=by omega
   obtain⟨A,t2,ar,f,g,k,_⟩:=bo.at hs u;refine⟨A,ar,f,t2,g,o,(ky k.1 ht).use ?_⟩;rintro _ _ ⟨rfl,rfl⟩;refine⟨_,rfl,r _ _ ⟨rfl,?_⟩⟩;unfold hA;rw[n,fV,cQ,ki,dE u,EV];exact⟨λh=>by rw[h],λh=>Option.some.inj h⟩
  .have L:¬(b:Int)<(s.len:Int):=cu h
   refine r _ _ ⟨rfl,?_⟩;unfold hA;rw[n,kk I];simp
  .rintro _ _ ⟨rfl,rfl⟩
   exact⟨by rw[n],rfl⟩
theorem l7{B:Nat->Prop}{w:J}{n:aD}{K V D t:Y}{key:Key}(h:bC B w n K V D)(ht:Src 1 w t (aJ key))(b:n.keys.Pairwise bH)(c:n.keys.length<=100000):
 aQ aj 198 #[c0 n K V D,t] w (λv w'=>v=.tuple #[.int .i64 ((cN n.keys key:Nat):Int),.bool (hA n.keys key)]/\Ext w w'):=by
 refine okF (af.l7 n.leaf K V D t) aA.l7 func198 ?_;(delta af.l7 ag U gZ;dsimp only);refine bj (vs:=[n.leaf,K,V,D]) rfl λw1 d a _=>?_;obtain⟨bT,aC,aU,aM⟩:=bF d;refine⟨K,aC,(FP (B:=B) (C:=B) (h.keys.ext a) (ht.ext a) b c).use ?_⟩;rintro _ _ ⟨rfl,rfl⟩;exact⟨_,_,rfl,rfl,a⟩
theorem pE{B:Nat->Prop}{w:J}{n:aD}{K V D t:Y}{key:Key}(h:bC B w n K V D)(ht:Src 1 w t (aJ key))(b:n.keys.Pairwise bH)(c:n.keys.length<=100000):
 aQ aj 143 #[c0 n K V D,t] w (λv w'=>v=.tuple #[.int .i64 ((cN n.keys key:Nat):Int),.bool (hA n.keys key)]/\Ext w w'):=by
 refine okF (af.pE n.leaf K V D t) aA.pE func143 ?_;(delta af.pE a_ U ag gZ;dsimp only);refine bj (vs:=[n.leaf,K,V,D]) rfl λw1 d a _=>?_;obtain⟨bT,aC,aU,aM⟩:=bF d;refine⟨_,bT,K,aC,V,aU,D,aM,(l7 (h.ext a) (ht.ext a) b c).use ?_⟩;rintro _ _ ⟨rfl,e⟩;exact⟨_,_,rfl,rfl,a.trans e⟩
theorem FQ{ks:O Key}(e:ks.Pairwise bH)(k:Key):dn ks k=if hA ks k then cN ks k+1 else cN ks k:=by
 have f:=pX ks k;have key:∀a,a<=ks.length->(∀ (j:Nat) (h:j<ks.length),j<a->¬bH k ks[j])->(∀h:a<ks.length,bH k ks[a])->dn ks k=a:=by
  intro a g h1 h2;unfold dn;rcases dJ a ks.length with h|h
  .exact(List.findIdx_eq h).2 ⟨dK (h2 h),λj b=>iV (h1 j I b)⟩
  .have:a=ks.length:=by omega
   subst this;refine List.findIdx_eq_length_of_false λx hx=>?_;obtain⟨j,b,rfl⟩:=fh hx;exact iV (h1 j b b)
 split
 .rename_i c
  have c:ks[cN ks k]? =some k:=b1 c;obtain⟨aK,he⟩:=ix.1 c;refine key _ aK (λj b h=>?_) λh=>?_
  .rcases dJ j (cN ks k) with d|d
   .exact j2 (om d b)
   .have:j=cN ks k:=by omega
    subst this;rw[he];exact mb _
  .have:=mK.1 e _ _ aK h (Nat.lt_succ_self _)
   rwa[he]at this
 .rename_i c
  have c:¬ks[cN ks k]? =some k:=λh=>c (dK h);refine key _ f (λj b h=>j2 (om h b)) λh=>?_;rcases oe.1 (pY e (bp _) h) with d|d
  .exact d
  .exact absurd ((dE h).trans (congrArg some d.symm)) c
theorem n0{B:Nat->Prop}{w:J}{n:aD}{K V D t:Y}{key:Key}(h:bC B w n K V D)(ht:Src 1 w t (aJ key))(b:n.keys.Pairwise bH)(e:n.keys.length<=100000):
 aQ aj 197 #[c0 n K V D,t] w (λv w'=>v=.int .i64 ((dn n.keys key:Nat):Int)/\Ext w w'):=by
 refine okF (af.n0 n.leaf K V D t) aA.n0 func197 ?_;(delta af.n0 a_ U ag gZ ak au;dsimp only);refine bj (vs:=[n.leaf,K,V,D]) rfl λw1 f a _=>?_;obtain⟨bT,aC,aU,aM⟩:=bF f;have i:=pX n.keys key;refine⟨_,bT,K,aC,V,aU,D,aM,(l7 (h.ext a) (ht.ext a) b e).use ?_⟩;rintro _ ah ⟨rfl,g⟩;rw[FQ b];refine⟨_,_,rfl,cd (λc w'=>ah=w'/\c=((if hA n.keys key then cN n.keys key+1 else cN n.keys key:Nat):Int)) (λq d=>⟨λh=>d _ _ ⟨rfl,?_⟩,λh=>d _ _ ⟨rfl,?_⟩⟩) ?_⟩
 .rw[if_pos h,bx I I];rfl
 .rw[if_neg (by simp[h])]
 .rintro _ _ ⟨rfl,rfl⟩
  exact⟨rfl,a.trans g⟩
structure hY(lo:Nat)(w:J)(aF:Nat)(n:aD)(K V D:Y)(bU b8 bK:Nat->Prop):Prop where
 v:Var w aF [n.leaf,K,V,D] 202
 keys:br bU w K n.keys
 vals:br b8 w V n.vals
 kids:cR bK w D n.kids
 bl:∀q,bU q->lo<=q/\q<w.heap.size/\q≠aF/\¬b8 q/\¬bK q
 bv:∀q,b8 q->lo<=q/\q<w.heap.size/\q≠aF/\¬bK q
 aL:∀q,bK q->lo<=q/\q<w.heap.size/\q≠aF
 mi:lo<=aF
structure e6(lo:Nat)(w:J)(n:aD)(K V D:Y)(bU b8 bK:Nat->Prop):Prop where
 keys:br bU w K n.keys
 vals:br b8 w V n.vals
 kids:cR bK w D n.kids
 bl:∀q,bU q->lo<=q/\q<w.heap.size/\¬b8 q/\¬bK q
 bv:∀q,b8 q->lo<=q/\q<w.heap.size/\¬bK q
 aL:∀q,bK q->lo<=q/\q<w.heap.size
section
variable {lo:Nat}{w w':J}{aF:Nat}{n:aD}{K V D:Y}{bU b8 bK:Nat->Prop}
theorem hY.mem(h:hY lo w aF n K V D bU b8 bK):e6 lo w n K V D bU b8 bK:=⟨h.keys,h.vals,h.kids,λq a=>⟨(h.bl q a).1,(h.bl q a).2.1,(h.bl q a).2.2.2⟩,λq a=>⟨(h.bv q a).1,(h.bv q a).2.1,(h.bv q a).2.2.2⟩,λq a=>⟨(h.aL q a).1,(h.aL q a).2.1⟩⟩
theorem e6.ab{W:Nat->Prop}(h:e6 lo w n K V D bU b8 bK)(hc:ad W w w')(cg:∀q,lo<=q->q<w.heap.size->bU q\/b8 q\/bK q->¬W q):e6 lo w' n K V D bU b8 bK:=by
 have hs:=hc.size;refine⟨br.ab h.keys hc λq a=>cg q (h.bl q a).1 (h.bl q a).2.1 (.inl a),br.ab h.vals hc λq a=>cg q (h.bv q a).1 (h.bv q a).2.1 (.inr (.inl a)),cR.ab h.kids hc λq a=>cg q (h.aL q a).1 (h.aL q a).2 (.inr (.inr a)),λq a=>?_,λq a=>?_,λq a=>?_⟩
 .have:=h.bl q a;exact⟨this.1,I,this.2.2⟩
 .have:=h.bv q a;exact⟨this.1,I,this.2.2⟩
 .have:=h.aL q a;exact⟨this.1,I⟩
theorem e6.ext(h:e6 lo w n K V D bU b8 bK)(hc:Ext w w'):e6 lo w' n K V D bU b8 bK:=h.ab hc λ_ _ _ _ h=>h
theorem hY.ext(h:hY lo w aF n K V D bU b8 bK)(hx:Ext w w'):hY lo w' aF n K V D bU b8 bK:=
 ⟨h.v.ext hx,br.ext h.keys hx,br.ext h.vals hx,cR.ext h.kids hx,λq a=>⟨(h.bl q a).1,fP (h.bl q a).2.1 hx.size,(h.bl q a).2.2⟩,λq a=>⟨(h.bv q a).1,fP (h.bv q a).2.1 hx.size,(h.bv q a).2.2⟩,λq a=>⟨(h.aL q a).1,fP (h.aL q a).2.1 hx.size,(h.aL q a).2.2⟩,h.mi⟩
theorem e6.at(h:e6 lo w n K V D bU b8 bK):bC (λq=>lo<=q) w n K V D:=
 ⟨bo.aX (br.iM h.keys) λq _ a=>(h.bl q a).1,bo.aX (br.iM h.vals) λq _ a=>(h.bv q a).1,cL.aX (cR.p1 h.kids) λq _ a=>(h.aL q a).1⟩
theorem e6.low{c:Nat}(h:e6 lo w n K V D bU b8 bK)(b:c<=lo):e6 c w n K V D bU b8 bK:=
 ⟨h.keys,h.vals,h.kids,λq a=>⟨eD b (h.bl q a).1,(h.bl q a).2⟩,λq a=>⟨eD b (h.bv q a).1,(h.bv q a).2⟩,λq a=>⟨eD b (h.aL q a).1,(h.aL q a).2⟩⟩
end
theorem xO{lo:Nat}{w:J}{aF:Nat}{n:aD}{K V D t:Y}{l:Key}{bU b8 bK:Nat->Prop}(h:hY lo w aF n K V D bU b8 bK)(ht:Src 1 w t (aJ l))(U:l.length<=100000)(E:n.keys.length<=100000){R:J->Prop}
 (F:∀ (w':J) (G:Y) (x:Nat->Prop),hY lo w' aF {n with keys:=n.keys++ [l]} G V D x b8 bK->ad (λq=>q=aF\/bU q) w w'->(∀q,x q->bU q\/w.heap.size<=q)->R w'):
 al w.drew λj=>∃m:Nat->Prop,¬m (Addr.add aF 1).block/\∃g:Y,j.cell? (Addr.add aF 1)=some (.slice g.a g.len g.cap)/\
  Calls aj 135 #[t] j λH d=>∃y:Y,H=.returned y/\ad m j d/\
  al (d.alloc (.cells #[y] 48)) λz=>ad m d z/\∃A:Y,∃i:J,Sem.run aj (Builtin.append_ #[127,127] 127 #[g,.slice (some d.heap.size) 1 1]) z=.ok A i/\
  (∃u:aa,i.cell? (Addr.add aF 1)=some u)/\i.frozen? (Addr.add aF 1)=false/\al (i.setCell (Addr.add aF 1) A) λL=>R L:=by
 have W:=h.mi;have X:=h.v.lt;have p:=cj w;obtain⟨bT,aC,aU,aM⟩:=bF (h.v.ext p);refine aW ⟨λ_=>False,id,K,aC,(kC (B:=λq=>w.heap.size<=q) (ht.ext p) I (λq b=>b)).use ?_⟩;rintro _ d ⟨M,rfl,C,hx,hf⟩;have e:=p.trans hx;have Z:w.drew.heap.size=w.heap.size:=rfl;have N:=e.size;have O:=br.ext h.keys e;have ei:=br.ext h.vals e;have P:=cR.ext h.kids e;refine⟨M,rfl,hx,vC (B:=Grow bU w.drew d) (h.v.ext e) (o:=1) (by simp) (br.aX O λk _ h=>.inl h) ?_ (a6.aX C λk c h=>.inr ⟨h,c⟩) ?_ E λw' ay av ax f=>?_⟩
 .rintro(h1|h1)
  .exact(h.bl aF h1).2.2.1 rfl
  .omega
 .intro k Q S
  obtain⟨ts,_,_,r,_⟩:=h.keys;have:=(r k S).2;have:=(C.2.2 k Q).1;omega
 have T:∀q,Grow (Grow bU w.drew d) d w' q->bU q\/(w.heap.size<=q/\q<w'.heap.size):=by
  rintro q ((h1|h1)|h1)
  .exact .inl h1
  .exact .inr ⟨h1.1,fP h1.2 f.size⟩
  .exact .inr ⟨eD N h1.1,h1.2⟩
 have hg:=f.size;have s:∀q,aB K q->bU q:=λq b=>by
  obtain⟨ts,_,_,r,_⟩:=h.keys;exact(r q b).1
 refine F w' ay (λq=>bU q\/(w.heap.size<=q/\q<w'.heap.size)) ⟨by simpa using av,br.aX ax λk _ c=>T k c,br.ab ei f ?_,cR.ab P f ?_,?_,λq b=>?_,λq b=>?_,h.mi⟩ ?_ ?_
 .rintro q b (h1|h1)
  .exact(h.bv q b).2.2.1 h1
  .exact(h.bl q (s q h1)).2.2.2.1 b
 .rintro q b (h1|h1)
  .exact(h.aL q b).2.2 h1
  .exact(h.bl q (s q h1)).2.2.2.2 b
 .rintro q (h1|h1)
  .have:=h.bl q h1;exact⟨this.1,I,this.2.2⟩
  .exact⟨I,h1.2,I,λh2=>by have:=h.bv q h2;omega,λh2=>by have:=h.aL q h2;omega⟩
 .have:=h.bv q b;exact⟨this.1,I,this.2.2⟩
 .have:=h.aL q b;exact⟨this.1,I,this.2.2⟩
 .refine(ad.cF e).trans (f.mono λk _ c=>?_)
  rcases c with c|c
  .exact .inl c
  .exact .inr (s k c)
 .rintro q (h1|h1)
  .exact .inl h1
  .exact .inr h1.1
theorem A_{lo:Nat}{w:J}{aF:Nat}{n:aD}{K V D t:Y}{l:Key}{bU b8 bK:Nat->Prop}(h:hY lo w aF n K V D bU b8 bK)(ht:Src 1 w t (aJ l))(U:l.length<=100000)(E:n.vals.length<=100000){R:J->Prop}
 (F:∀ (w':J) (G:Y) (x:Nat->Prop),hY lo w' aF {n with vals:=n.vals++ [l]} K G D bU x bK->ad (λq=>q=aF\/b8 q) w w'->(∀q,x q->b8 q\/w.heap.size<=q)->R w'):
 al w.drew λj=>∃m:Nat->Prop,¬m (Addr.add aF 2).block/\∃g:Y,j.cell? (Addr.add aF 2)=some (.slice g.a g.len g.cap)/\
  Calls aj 135 #[t] j λH d=>∃y:Y,H=.returned y/\ad m j d/\
  al (d.alloc (.cells #[y] 48)) λz=>ad m d z/\∃A:Y,∃i:J,Sem.run aj (Builtin.append_ #[127,127] 127 #[g,.slice (some d.heap.size) 1 1]) z=.ok A i/\
  (∃u:aa,i.cell? (Addr.add aF 2)=some u)/\i.frozen? (Addr.add aF 2)=false/\al (i.setCell (Addr.add aF 2) A) λL=>R L:=by
 have W:=h.mi;have X:=h.v.lt;have p:=cj w;obtain⟨bT,aC,aU,aM⟩:=bF (h.v.ext p);refine aW ⟨λ_=>False,id,V,aU,(kC (B:=λq=>w.heap.size<=q) (ht.ext p) I (λq b=>b)).use ?_⟩;rintro _ d ⟨M,rfl,C,hx,hf⟩;have e:=p.trans hx;have Z:w.drew.heap.size=w.heap.size:=rfl;have N:=e.size;have O:=br.ext h.keys e;have ei:=br.ext h.vals e;have P:=cR.ext h.kids e;refine⟨M,rfl,hx,vC (B:=Grow b8 w.drew d) (h.v.ext e) (o:=2) (by simp) (br.aX ei λk _ h=>.inl h) ?_ (a6.aX C λk c h=>.inr ⟨h,c⟩) ?_ E λw' ay av ax f=>?_⟩
 .rintro(h1|h1)
  .exact(h.bv aF h1).2.2.1 rfl
  .omega
 .intro k Q S
  obtain⟨ts,_,_,r,_⟩:=h.vals;have:=(r k S).2;have:=(C.2.2 k Q).1;omega
 have T:∀q,Grow (Grow b8 w.drew d) d w' q->b8 q\/(w.heap.size<=q/\q<w'.heap.size):=by
  rintro q ((h1|h1)|h1)
  .exact .inl h1
  .exact .inr ⟨h1.1,fP h1.2 f.size⟩
  .exact .inr ⟨eD N h1.1,h1.2⟩
 have hg:=f.size;have s:∀q,aB V q->b8 q:=λq b=>by
  obtain⟨ts,_,_,r,_⟩:=h.vals;exact(r q b).1
 refine F w' ay (λq=>b8 q\/(w.heap.size<=q/\q<w'.heap.size)) ⟨by simpa using av,br.ab O f ?_,br.aX ax λk _ c=>T k c,cR.ab P f ?_,λq b=>?_,?_,λq b=>?_,h.mi⟩ ?_ ?_
 .rintro q b (h1|h1)
  .exact(h.bl q b).2.2.1 h1
  .exact(h.bl q b).2.2.2.1 (s q h1)
 .rintro q b (h1|h1)
  .exact(h.aL q b).2.2 h1
  .exact(h.bv q (s q h1)).2.2.2 b
 .have:=h.bl q b
  refine⟨this.1,I,this.2.2.1,?_,this.2.2.2.2⟩;rintro(h1|h1)
  .exact this.2.2.2.1 h1
  .omega
 .rintro q (h1|h1)
  .have:=h.bv q h1;exact⟨this.1,I,this.2.2⟩
  .exact⟨I,h1.2,I,λh2=>by have:=h.aL q h2;omega⟩
 .have:=h.aL q b;exact⟨this.1,I,this.2.2⟩
 .refine(ad.cF e).trans (f.mono λk _ c=>?_)
  rcases c with c|c
  .exact .inl c
  .exact .inr (s k c)
 .rintro q (h1|h1)
  .exact .inl h1
  .exact .inr h1.1
theorem eX{B:Nat->Prop}{w0:J}{n:aD}{K V D:Y}(h:bC B w0 n K V D)(aV:n.keys.length<=100000)(aY:n.vals.length<=100000)(aZ:n.kids.length<=100000)(av:∀k∈n.keys,k.length<=100000)(aw:∀v∈n.vals,v.length<=100000):
 aQ aj 204 #[c0 n K V D] w0 (λv w'=>∃ (K V D:Y) (bU b8 bK:Nat->Prop),v=c0 n K V D/\e6 w0.heap.size w' n K V D bU b8 bK/\Ext w0 w'):=by
 refine okF (af.eX n.leaf K V D) aA.eX func204 ?_;(delta af.eX ct U a_ ag bc gG xf ak Ap aL st au Ao gI tj;dsimp only);have aG:bC (λq=>q<w0.heap.size) w0 n K V D:=h.aX λq a _=>a;have a0:=bo.len h.keys;have a1:=bo.len h.vals;refine bj (vs:=[n.leaf,K,V,D]) rfl λw1 aH aI a2=>?_;refine bj (vs:=[false,(),(),()]) rfl λah aJ ax a3=>aW ?_;have X:=cj ah;have a4:ah.drew.heap.size=ah.heap.size:=rfl;have L:=(aH.ext ax).ext X;have ay:=aJ.ext X;have Z:=aI.trans (ax.trans X);obtain⟨aN,a5,a6,aO⟩:=bF L;have T:=aG.ext Z;obtain⟨lo,a7⟩:∃lo,lo=ah.heap.size:=⟨_,rfl⟩;refine⟨λ_=>False,id,_,aN,id,D,aO,⟨?_,?_⟩⟩
 .refine(rK T.kids.1 I).use ?_
  rintro _ H ⟨az,rfl,y,x,aa⟩;have aP:=x.size;refine⟨az,rfl,x,#[n.leaf,(),(),az],(λw=>by kernel_rfl),?_⟩;refine bj (vs:=[false,(),(),()]) rfl λaB W z aR=>?_;refine⟨z,W.cc rfl ?_,rfl,cw W (us:=[n.leaf,(),(),az]) rfl rfl λg M C aS=>?_⟩
  .intro v N
   simp only[cU,eL,eO]at N;rcases N with rfl|rfl|rfl|rfl<;>trivial
  obtain⟨aF,ac⟩:∃aF,aF=H.heap.size:=⟨_,rfl⟩;rw[←ac]at M C⊢;obtain⟨bK,r⟩:∃bK:Nat->Prop,bK=λq=>ah.heap.size<=q/\q<H.heap.size:=⟨_,rfl⟩;have ae:cR bK H az n.kids:=by subst r;exact⟨y,λk l=>⟨⟨aa k l,y.lt k l⟩,y.lt k l⟩⟩
  have m:ad (λq=>lo<=q) ah.drew g:=(ad.cF (x.trans z)).trans (C.mono λk _ l=>I);have ai:hY lo g aF ⟨n.leaf,[],[],n.kids⟩ bg bg az (λ_=>False) (λ_=>False) bK:=⟨M,br.none _ _,br.none _ _,cR.ab (cR.ext ae z) C (λq a e=>by subst r;have a:=a.2;omega),λq h=>h.elim,λq h=>h.elim,λq a=>(by subst r;obtain⟨h1,h2⟩:=a;exact⟨I,I,I⟩),I⟩;clear r;obtain⟨bT,aC,aU,aM⟩:=bF (L.ab m I);have O:bC (λq=>q<w0.heap.size) g n K V D:=T.ab m λq a h=>by omega
  have al:=ay.ab m I;refine⟨K,aC,λi w'=>∃ (j:Nat) (d:Y) (bU:Nat->Prop),i=j/\j<=n.keys.length/\hY lo w' aF ⟨n.leaf,n.keys.take j,[],n.kids⟩ d bg az bU (λ_=>False) bK/\ad (λq=>lo<=q) g w',λi _=>((n.keys.length:Int)-i).toNat,⟨0,bg,_,rfl,cG _,ai,ad.refl _ _⟩,?_⟩;rintro _ P ⟨j,d,bU,rfl,am,o,s⟩;have an:bC (λq=>q<w0.heap.size) P n K V D:=O.ab s λq a h=>by omega
  refine⟨λaK=>?_,λc=>?_⟩
  .have aK:j<n.keys.length:=by have:=b1 aK;omega
   obtain⟨A,t,ar,E,hc,ht,_⟩:=bo.at an.keys aK;refine⟨A,ar,E,t,hc,xO o ht.1 (av _ (cE aK)) (by show(n.keys.take j).length<=_;rw[cC];omega) λw' cI ao st F _=>?_⟩;have G:ad (λq=>lo<=q) P w':=F.mono λq _ a=>by
    rcases a with a|a
    .have:=o.mi;omega
    .exact(o.bl q a).1
   rw[bx (n:=(j:Int)+1) I I];refine⟨⟨j+1,cI,ao,I,I,?_,s.trans G⟩,?_⟩
   .rw[take_succ _ aK];exact st
   .show((n.keys.length:Int)-((j:Int)+1)).toNat<((n.keys.length:Int)-(j:Int)).toNat
    omega
  have c:j=n.keys.length:=by have:=cu c;omega
  subst c;rw[iz]at o;obtain⟨bT,aC,aU,aM⟩:=bF ((L.ab m I).ab s I);refine⟨V,aU,λi w'=>∃ (j:Nat) (p:Y) (b8:Nat->Prop),i=j/\j<=n.vals.length/\hY lo w' aF ⟨n.leaf,n.keys,n.vals.take j,n.kids⟩ d p az bU b8 bK/\ad (λq=>lo<=q) g w',λi _=>((n.vals.length:Int)-i).toNat,⟨0,bg,_,rfl,cG _,o,s⟩,?_⟩;rintro _ R ⟨j,p,b8,rfl,am,f,u⟩;have ap:bC (λq=>q<w0.heap.size) R n K V D:=O.ab u λq a h=>by omega
  refine⟨λaK=>?_,λc=>?_⟩
  .have aK:j<n.vals.length:=by have:=b1 aK;omega
   obtain⟨A,t,ar,E,hc,ht,_⟩:=bo.at ap.vals aK;refine⟨A,ar,E,t,hc,A_ f ht.1 (aw _ (cE aK)) (by show(n.vals.take j).length<=_;rw[cC];omega) λw' cP aq st F _=>?_⟩;have G:ad (λq=>lo<=q) R w':=F.mono λq _ a=>by
    rcases a with a|a
    .have:=f.mi;omega
    .exact(f.bv q a).1
   rw[bx (n:=(j:Int)+1) I I];refine⟨⟨j+1,cP,aq,I,I,?_,u.trans G⟩,?_⟩
   .rw[take_succ _ aK];exact st
   .show((n.vals.length:Int)-((j:Int)+1)).toNat<((n.vals.length:Int)-(j:Int)).toNat
    omega
  have c:j=n.vals.length:=by have:=cu c;omega
  subst c;rw[iz]at f;obtain⟨d0,d1,d2,d3⟩:=bF f.v;refine⟨_,d0,d,d1,p,d2,az,d3,jb n.leaf d p az (al.ab u I) rfl (Q:=λb K V D ah=>(λv w'=>∃ (K V D:Y) (bU b8 bK:Nat->Prop),v=c0 n K V D/\e6 w0.heap.size w' n K V D bU b8 bK/\Ext w0 w') (.agg #[b,K,V,D]) ah) λaT S=>⟨d,p,az,bU,b8,bK,rfl,?_,?_⟩⟩
  .exact(e6.ab f.mem S λq a _ _ h=>I).low I
  .exact Ext.cn (Ext.dy Z (m.trans u) λk l=>I) S I
 .refine bj (vs:=[false,(),(),()]) rfl λaB W z aR=>⟨z,?_⟩
  refine(rK (T.kids.ext z).1 I).use ?_;rintro _ H ⟨az,rfl,y,x,aa⟩;have aP:=x.size;have aE:=W.ext x;refine⟨az,rfl,x,#[n.leaf,(),(),az],(λw=>by kernel_rfl),?_⟩;refine⟨aE.cc rfl ?_,rfl,cw aE (us:=[n.leaf,(),(),az]) rfl rfl λg M C aS=>?_⟩
  .intro v N
   simp only[cU,eL,eO]at N;rcases N with rfl|rfl|rfl|rfl<;>trivial
  obtain⟨aF,ac⟩:∃aF,aF=ah.drew.heap.size:=⟨_,rfl⟩;rw[←ac]at M C⊢;obtain⟨bK,r⟩:∃bK:Nat->Prop,bK=λq=>aB.heap.size<=q/\q<H.heap.size:=⟨_,rfl⟩;have ae:cR bK H az n.kids:=by subst r;exact⟨y,λk l=>⟨⟨aa k l,y.lt k l⟩,y.lt k l⟩⟩
  have m:ad (λq=>lo<=q) ah.drew g:=(ad.cF (z.trans x)).trans (C.mono λk _ l=>I);have ai:hY lo g aF ⟨n.leaf,[],[],n.kids⟩ bg bg az (λ_=>False) (λ_=>False) bK:=⟨M,br.none _ _,br.none _ _,cR.ab ae C (λq a e=>by subst r;have a:=a.1;omega),λq h=>h.elim,λq h=>h.elim,λq a=>(by subst r;obtain⟨h1,h2⟩:=a;exact⟨I,I,I⟩),I⟩;clear r;obtain⟨bT,aC,aU,aM⟩:=bF (L.ab m I);have O:bC (λq=>q<w0.heap.size) g n K V D:=T.ab m λq a h=>by omega
  have al:=ay.ab m I;refine⟨K,aC,λi w'=>∃ (j:Nat) (d:Y) (bU:Nat->Prop),i=j/\j<=n.keys.length/\hY lo w' aF ⟨n.leaf,n.keys.take j,[],n.kids⟩ d bg az bU (λ_=>False) bK/\ad (λq=>lo<=q) g w',λi _=>((n.keys.length:Int)-i).toNat,⟨0,bg,_,rfl,cG _,ai,ad.refl _ _⟩,?_⟩;rintro _ P ⟨j,d,bU,rfl,am,o,s⟩;have an:bC (λq=>q<w0.heap.size) P n K V D:=O.ab s λq a h=>by omega
  refine⟨λaK=>?_,λc=>?_⟩
  .have aK:j<n.keys.length:=by have:=b1 aK;omega
   obtain⟨A,t,ar,E,hc,ht,_⟩:=bo.at an.keys aK;refine⟨A,ar,E,t,hc,xO o ht.1 (av _ (cE aK)) (by show(n.keys.take j).length<=_;rw[cC];omega) λw' cI ao st F _=>?_⟩;have G:ad (λq=>lo<=q) P w':=F.mono λq _ a=>by
    rcases a with a|a
    .have:=o.mi;omega
    .exact(o.bl q a).1
   rw[bx (n:=(j:Int)+1) I I];refine⟨⟨j+1,cI,ao,I,I,?_,s.trans G⟩,?_⟩
   .rw[take_succ _ aK];exact st
   .show((n.keys.length:Int)-((j:Int)+1)).toNat<((n.keys.length:Int)-(j:Int)).toNat
    omega
  have c:j=n.keys.length:=by have:=cu c;omega
  subst c;rw[iz]at o;obtain⟨bT,aC,aU,aM⟩:=bF ((L.ab m I).ab s I);refine⟨V,aU,λi w'=>∃ (j:Nat) (p:Y) (b8:Nat->Prop),i=j/\j<=n.vals.length/\hY lo w' aF ⟨n.leaf,n.keys,n.vals.take j,n.kids⟩ d p az bU b8 bK/\ad (λq=>lo<=q) g w',λi _=>((n.vals.length:Int)-i).toNat,⟨0,bg,_,rfl,cG _,o,s⟩,?_⟩;rintro _ R ⟨j,p,b8,rfl,am,f,u⟩;have ap:bC (λq=>q<w0.heap.size) R n K V D:=O.ab u λq a h=>by omega
  refine⟨λaK=>?_,λc=>?_⟩
  .have aK:j<n.vals.length:=by have:=b1 aK;omega
   obtain⟨A,t,ar,E,hc,ht,_⟩:=bo.at ap.vals aK;refine⟨A,ar,E,t,hc,A_ f ht.1 (aw _ (cE aK)) (by show(n.vals.take j).length<=_;rw[cC];omega) λw' cP aq st F _=>?_⟩;have G:ad (λq=>lo<=q) R w':=F.mono λq _ a=>by
    rcases a with a|a
    .have:=f.mi;omega
    .exact(f.bv q a).1
   rw[bx (n:=(j:Int)+1) I I];refine⟨⟨j+1,cP,aq,I,I,?_,u.trans G⟩,?_⟩
   .rw[take_succ _ aK];exact st
   .show((n.vals.length:Int)-((j:Int)+1)).toNat<((n.vals.length:Int)-(j:Int)).toNat
    omega
  have c:j=n.vals.length:=by have:=cu c;omega
  subst c;rw[iz]at f;obtain⟨d0,d1,d2,d3⟩:=bF f.v;refine⟨_,d0,d,d1,p,d2,az,d3,jb n.leaf d p az (al.ab u I) rfl (Q:=λb K V D ah=>(λv w'=>∃ (K V D:Y) (bU b8 bK:Nat->Prop),v=c0 n K V D/\e6 w0.heap.size w' n K V D bU b8 bK/\Ext w0 w') (.agg #[b,K,V,D]) ah) λaT S=>⟨d,p,az,bU,b8,bK,rfl,?_,?_⟩⟩
  .exact(e6.ab f.mem S λq a _ _ h=>I).low I
  .exact Ext.cn (Ext.dy Z (m.trans u) λk l=>I) S I
theorem br.mk'{B:Nat->Prop}{w:J}{s:Y}{ts:O Y}{ls:O Key}(a:ts.length=ls.length)(b:ba 1 48 w s (ts.map hX))(hi:In B w s)(c:∀p∈ts.zip ls,a6 B w p.1 p.2/\∀k,aB p.1 k->¬aB s k):br B w s ls:=by
 refine⟨ts,a,b,hi,λi h1 h2=>?_⟩;have:=c (ts[i],ls[i]) (by
  rw[List.mem_iff_getElem];exact⟨i,by rw[mI];omega,by rw[sm]⟩)
 exact this
theorem br.out{B:Nat->Prop}{w:J}{s:Y}{ls:O Key}(h:br B w s ls):∃ts:O Y,ts.length=ls.length/\ba 1 48 w s (ts.map hX)/\In B w s/\∀p∈ts.zip ls,a6 B w p.1 p.2/\∀k,aB p.1 k->¬aB s k:=by
 obtain⟨ts,h1,h2,a,b⟩:=h;refine⟨ts,h1,h2,a,λp c=>?_⟩;obtain⟨i,hi,rfl⟩:=List.mem_iff_getElem.1 c;rw[mI]at hi;rw[sm];exact b i I I
theorem Ba{α β:Type}(a:O α)(b:O β)(i:Nat):(a.take i).zip (b.take i)=(a.zip b).take i:=by
 rw[List.zip_eq_zipWith,List.zip_eq_zipWith,List.take_zipWith]
theorem Bb{α β:Type}(a:O α)(b:O β)(i:Nat):(a.drop i).zip (b.drop i)=(a.zip b).drop i:=by
 rw[List.zip_eq_zipWith,List.zip_eq_zipWith,List.drop_zipWith]
theorem Bc{B:Nat->Prop}{w:J}{s t:Y}{ls:O Key}{l:Key}{i:Nat}(q:br B w s ls)(ht:a6 B w t l)(hd:∀k,aB t k->¬aB s k)(F:ls.length<=100000)(hi:i<=ls.length):
 aQ aj 210 #[s,.int .i64 (i:Int),.slice (some w.heap.size) 1 1] (w.alloc (.cells #[t] 48))
  (λu w'=>∃e:Y,u=e/\br (Grow B w w') w' e (ls.take i++ [l]++ls.drop i)/\ad (aB s) w w'):=by
 obtain⟨ts,h1,h2,j,m⟩:=br.out q;have G:s.len=ls.length:=by have:=h2.1;rw[dL]at this;omega
 have hx:=eJ w (.cells #[t] 48);have r:=bu.new w #[t] 48;refine(FM (v:=⟨some w.heap.size,1,1⟩) (xs:=[hX t]) (i:=i) (h2.ext hx) (Src.new (T:=48) w [hX t] 1 rfl) rfl rfl r (λh=>by have:=(j _ h).2;omega) (λv z=>by rw[fo.1 z];trivial) (vy ts) I I).mono ?_;rintro _ w' ⟨e,rfl,av,ax,A,C⟩;rw[fF]at av;have hc:ad (aB s) w w':=(ad.cF hx).trans A;have H:=hc.size;have K:(w.alloc (.cells #[t] 48)).heap.size=w.heap.size+1:=rJ _ _;have n:∀k,aB e k->aB s k\/w.heap.size<=k:=λk d=>(C k d).imp id λh=>by omega
 have D:∀ (x:Y),In B w x->(∀k,aB x k->¬aB s k)->∀k,aB x k->¬aB e k:=λx hx f k d E=>by
  rcases n k E with h|h
  .exact f k d h
  .have:=(hx k d).2;omega
 have g:∀ (x:Y) (y:Key),a6 B w x y->(∀k,aB x k->¬aB s k)->a6 (Grow B w w') w' x y/\∀k,aB x k->¬aB e k:=λx y o f=>⟨a6.aX (a6.iL o hc f) λk _ h=>.inl h,D x o.2.2 f⟩;refine⟨e,rfl,br.mk' (ts:=ts.take i++ [t]++ts.drop i) ?_ ?_ ?_ ?_,hc⟩
 .simp only[cz,cC,c_,iU];omega
 .simpa[mJ,oT] using av
 .intro k d
  refine⟨?_,av.lt k d⟩;rcases n k d with h|h
  .exact .inl (j k h).1
  .exact .inr ⟨h,av.lt k d⟩
 .intro p c
  rw[List.zip_append (by simp only[cz,cC,iU];omega),List.zip_append (by simp only[cC];omega),Ba,Bb]at c;rcases cT.1 c with c|c
  .rcases cT.1 c with c|c
   .obtain⟨a,b⟩:=m p (fp c)
    exact g _ _ a b
   .simp only[List.zip_cons_cons,List.zip_nil_left,fo]at c
    subst c;exact g _ _ ht hd
  .obtain⟨a,b⟩:=m p (fg c)
   exact g _ _ a b
theorem FR:(Tryz.prog.info? 48).bind (·.zero)=some (.slice none 0 0):=by kernel_rfl
theorem Bd{B:Nat->Prop}{w:J}{s:Y}{ls:O Key}{i:Nat}(j:br B w s ls)(r:ls.length<=100000)(hi:i<ls.length):
 aQ aj 205 #[s,.int .i64 (i:Int),.int .i64 ((i+1:Nat):Int)] w
  (λu w'=>∃e:Y,u=e/\br B w' e (ls.take i++ls.drop (i+1))/\ad (aB s) w w'):=by
 obtain⟨ts,h1,h2,l,m⟩:=br.out j;have t:s.len=ls.length:=by have:=h2.1;rw[dL]at this;omega
 refine(FN (i:=i) h2 (vy ts) (λz g u hu=>by
  rw[FR]at g
  cases g;simp[Value.cells]at hu;subst hu;trivial) I I).mono ?_
 rintro _ w' ⟨e,rfl,av,ax,n,f⟩;rw[fF,fF]at av;have v:=f.size;have h:∀k,aB e k->aB s k:=λk ⟨A,ar,c⟩=>⟨A,by rw[←n];exact ar,c⟩;refine⟨e,rfl,br.mk' (ts:=ts.take i++ts.drop (i+1)) ?_ ?_ ?_ ?_,f⟩
 .simp only[cz,cC,c_];omega
 .simpa[mJ,oT] using av
 .exact λk c=>⟨(l k (h k c)).1,av.lt k c⟩
 .intro p d
  rw[List.zip_append (by simp only[cC];omega),Ba,Bb]at d;have o:p∈ts.zip ls:=by
   rcases cT.1 d with d|d
   .exact fp d
   .exact fg d
  obtain⟨a,b⟩:=m p o;exact⟨a6.iL a f b,λk c q=>b k c (h k q)⟩
theorem FT{B:Nat->Prop}{w:J}{s t:Y}{ls:O Key}{l:Key}{i:Nat}(g:br B w s ls)(ht:a6 B w t l)(hd:∀k,aB t k->¬aB s k)(hi:i<ls.length):
 ∃A:ae,s.a=some A/\((0:Int)<=(i:Int)/\(i:Int)<(s.len:Int))/\(∃u:aa,w.cell? (A.add (Int.toNat (i:Int)*1))=some u)/\w.frozen? (A.add (Int.toNat (i:Int)*1))=false/\
  br B (w.setCell (A.add (Int.toNat (i:Int)*1)) (hX t)) s (ls.set i l)/\ad (aB s) w (w.setCell (A.add (Int.toNat (i:Int)*1)) (hX t)):=by
 obtain⟨ts,h1,h2,h,m⟩:=g;obtain⟨A,ar,n,hc,hf,o,p⟩:=h2.at (i:=i) (v:=hX (ts[i]'I)) (by simp[h1,hi]);have c:ad (aB s) w (w.setCell (A.add (Int.toNat (i:Int)*1)) (hX t)):=ad.set (.refl _ _) (λ_=>o) _;refine⟨A,ar,n,⟨_,hc⟩,hf,⟨ts.set i t,by simp[h1],?_,In.ab h c,λj d f=>?_⟩,c⟩
 .have:=p (hX t)
  rwa[←List.map_set]at this
 .rw[df]at d f
  rw[sw,sw];by_cases e:i=j
  .rw[if_pos e,if_pos e]
   exact⟨a6.iL ht c hd,hd⟩
  .rw[if_neg e,if_neg e]
   obtain⟨a,b⟩:=m j d f;exact⟨a6.iL a c b,b⟩
def hC(n:aD)(k v:Key):aD:=
 if hA n.keys k then {n with vals:=n.vals.set (cN n.keys k) v}
 else {n with keys:=n.keys.take (cN n.keys k)++ [k]++n.keys.drop (cN n.keys k),vals:=n.vals.take (cN n.keys k)++ [v]++n.vals.drop (cN n.keys k)}
def lG(n:aD)(k:Key):aD:={n with keys:=n.keys.take (cN n.keys k)++n.keys.drop (cN n.keys k+1),vals:=n.vals.take (cN n.keys k)++n.vals.drop (cN n.keys k+1)}
theorem gS.eS{n:aD}(h:gS n):(∀k∈n.keys,k.length<=100000)/\(∀v∈n.vals,v.length<=100000):=⟨λk a=>by have:=(h.ok k a).2;omega,λv b=>by have:=h.vals v b;omega⟩
def oz(n:aD)(w:J)(v:aa)(w':J):Prop:=∃K V D:Y,v=.tuple #[c0 n K V D,true]/\bC (λq=>w.heap.size<=q) w' n K V D/\Ext w w'
theorem pG{B:Nat->Prop}{w:J}{n:aD}{K V D tk di:Y}{key val:Key}(h:bC B w n K V D)(hs:gS n)(bP:n.keys.length<=10000)(c:Src 1 w tk (aJ key))(G:Src 1 w di (aJ val))(aP:cv key)(bQ:val.length<=24):
 aQ aj 151 #[c0 n K V D,tk,di] w (oz (hC n key val) w):=by
 have bR:=hs.len;have bS:n.kids.length=0:=by rw[hs.kids];rfl
 have bV:=len8 G;have bW:key.length<=24:=aP.2;refine okF (af.pG n.leaf K V D tk di) aA.pG func151 ?_;(delta af.pG ct a_ U pv ak ag aM gH q9 gv gZ bc aL st db q_;dsimp only);refine bj (vs:=[n.leaf,K,V,D]) rfl λw1 au bd bX=>?_;refine bj (vs:=[false,(),(),()]) rfl λah be ai bY=>?_;have aR:=bd.trans ai;obtain⟨bT,aC,aU,aM⟩:=bF (au.ext ai);refine⟨n.leaf,bT,cd (λb w'=>b=false/\Ext ah w') (λq a=>⟨λp=>?_,λp=>⟨_,bT,K,aC,V,aU,D,aM,(j1 (h.ext aR) I I I).use ?_⟩⟩) ?_⟩
 .rw[hs.leaf]at p;cases p
 .rintro _ ay ⟨b,rfl,bf,C⟩
  have:=bf.2 (.inl hs);subst this;exact⟨true,rfl,a _ _ ⟨rfl,C⟩⟩
 rintro _ ay ⟨rfl,C⟩;have al:=aR.trans C;refine cd (λb w'=>b=false/\ay=w') (λq a=>⟨λh=>(by cases h),λ_=>(n2 (c.ext al)).use ?_⟩) ?_
 .rintro _ _ ⟨rfl,rfl⟩
  exact⟨_,rfl,a _ _ ⟨by simp[aP],rfl⟩⟩
 rintro _ _ ⟨rfl,rfl⟩;obtain⟨bT,aC,aU,aM⟩:=bF (au.ext (ai.trans C));refine⟨λp=>?_,λ_=>⟨_,bT,K,aC,V,aU,D,aM,(eX (h.ext al) I I I hs.eS.1 hs.eS.2).use ?_⟩⟩
 .have p:decide (((di.len:Int):Int)>24)=true:=p
  have:=b1 p;omega
 rintro _ bg ⟨l,g,az,bU,b8,bK,rfl,r,am⟩;have aS:=al.trans am;have bZ:=aS.size;have b0:=al.size;have b2:=C.size;have b3:=am.size;refine⟨n.leaf,l,g,az,rfl,bj (vs:=[false,(),(),()]) rfl λb4 aT an b5=>⟨aT.cc rfl ?_,rfl,cw aT (us:=[n.leaf,l,g,az]) rfl rfl λO P R b6=>?_⟩⟩
 .intro v G
  simp only[cU,eL,eO]at G;rcases G with rfl|rfl|rfl|rfl<;>trivial
 obtain⟨aF,bh⟩:∃aF,aF=bg.heap.size:=⟨_,rfl⟩;rw[←bh]at P R⊢;obtain⟨lo,bi⟩:∃lo,lo=ay.heap.size:=⟨_,rfl⟩;rw[←bi]at r;have ao:Ext w O:=Ext.cn (aS.trans an) R I;have bk:Var O w.heap.size [n.leaf,K,V,D] 202:=(((au.ext (ai.trans C)).ext am).ext an).ab R I;have aV:Var O w1.heap.size [false,(),(),()] 202:=(((be.ext C).ext am).ext an).ab R I;have f:e6 lo O n l g az bU b8 bK:=(r.ext an).ab R λq _ _ a e=>by
  subst e;rcases a with a|a|a
  .have:=(r.bl _ a).2.1;omega
  .have:=(r.bv _ a).2.1;omega
  .have:=(r.aL _ a).2;omega
 obtain⟨bT,aC,aU,aM⟩:=bF bk;have bm:=pX n.keys key;refine⟨_,bT,K,aC,V,aU,D,aM,(l7 (h.ext ao) (c.ext ao) hs.fb I).use ?_⟩;rintro _ m ⟨rfl,ap⟩;have aE:=ao.trans ap;have b7:=ap.size;refine⟨_,_,rfl,λH=>?_,λH=>?_⟩
 .
  have E:=cj m;have L:=ap.trans E;have aK:cN n.keys key<n.keys.length:=by
   have:=b1 H;exact(ix.1 this).1
  obtain⟨d0,d1,d2,d3⟩:=bF (P.ext L);refine aW ⟨λ_=>False,id,g,d2,(kC (B:=λq=>m.heap.size<=q) (G.ext (aE.trans E)) I (λq a=>a)).use ?_⟩;rintro _ s ⟨t,rfl,ht,x,bn⟩;have T:=L.trans x;have aG:=f.ext T;have bp:=T.size;have bq:br (Grow b8 m s) s g n.vals:=br.aX aG.vals λk _ h=>.inl h;have y:∀k,aB g k->b8 k:=λk c=>by obtain⟨ts,_,_,W,_⟩:=f.vals;exact(W k c).1
  obtain⟨A,ar,p,bs,nd,aY,aZ⟩:=FT (i:=cN n.keys key) bq (a6.aX ht λk c h=>.inr ⟨h,c⟩) (λk X Z=>by
   have:=(ht.2.2 k X).1;have:=(f.bv k (y k Z)).2.1;omega) I
  refine⟨t,rfl,x,A,ar,p,bs,nd,aW ?_⟩;obtain⟨o,a0⟩:∃o,o=s.setCell (A.add (Int.toNat (cN n.keys key:Int)*1)) (hX t):=⟨_,rfl⟩;rw[←a0]at aY aZ;have bt:s.setCell (A.add (Int.toNat (cN n.keys key:Int)*1)) t=o:=a0.symm;rw[bt];have aa:ad (λq=>lo<=q/\q<O.heap.size/\b8 q) s o:=aZ.mono λk _ c=>⟨(f.bv k (y k c)).1,(f.bv k (y k c)).2.1,y k c⟩;have aq:=(P.ext T).ab aa (λe=>by
   have h1:=(r.bv _ e.2.2).2.1;omega)
  obtain⟨bu,bw,bx,bz⟩:=bF aq;have bA:bC (λq=>lo<=q) o (hC n key val) l g az:=by
   unfold hC;rw[if_pos H];refine⟨bo.aX (bo.ab (br.iM aG.keys) aa λq a e=>(f.bl q a).2.2.1 e.2.2) λq _ a=>(f.bl q a).1,bo.aX (br.iM aY) λq _ a=>?_,cL.aX (cL.ab (cR.p1 aG.kids) aa λq a e=>(f.bv q e.2.2).2.2 a) λq _ a=>(f.aL q a).1⟩;rcases a with a|a
   .exact(f.bv q a).1
   .omega
  have bB:(hC n key val).leaf=n.leaf:=by unfold hC;rw[if_pos H]
  refine⟨_,bu,l,bw,g,bx,az,bz,jb n.leaf l g az ((aV.ext T).ab aa (λe=>by have:=e.1;omega)) rfl (Q:=λb K V D ah=>oz (hC n key val) w (.tuple #[.agg #[b,K,V,D],true]) ah) λj u=>⟨l,g,az,by unfold c0;rw[bB],?_,?_⟩⟩
  .exact(bA.ab u λq a e=>I).aX λq _ a=>by omega
  .exact Ext.cn (Ext.dy (ao.trans T) aa λk c=>I) u I
 .
  have E:=cj m;have L:=ap.trans E;have a1:hY lo m.drew aF n l g az bU b8 bK:=by
   have M:=f.ext L;refine⟨P.ext L,M.keys,M.vals,M.kids,λq a=>?_,λq a=>?_,λq a=>?_,I⟩
   .have h1:=M.bl q a;have:=(r.bl q a).2.1;exact⟨h1.1,h1.2.1,I,h1.2.2⟩
   .have h1:=M.bv q a;have:=(r.bv q a).2.1;exact⟨h1.1,h1.2.1,I,h1.2.2⟩
   .have h1:=M.aL q a;have:=(r.aL q a).2;exact⟨h1.1,h1.2,I⟩
  obtain⟨d0,d1,d2,d3⟩:=bF a1.v;refine aW ⟨λ_=>False,id,l,d1,(kC (B:=λq=>m.heap.size<=q) (c.ext (aE.trans E)) I (λq a=>a)).use ?_⟩;rintro _ s ⟨t,rfl,ht,x,bn⟩;have bp:m.heap.size<=s.heap.size:=(E.trans x).size;have aH:∀k,aB l k->bU k:=λk c=>by obtain⟨ts,_,_,W,_⟩:=f.keys;exact(W k c).1
  have y:∀k,aB g k->b8 k:=λk c=>by obtain⟨ts,_,_,W,_⟩:=f.vals;exact(W k c).1
  have d:=a1.ext x;refine⟨t,rfl,x,aW ⟨eJ _ _,(Bc (B:=Grow bU m s) (i:=cN n.keys key) (br.aX d.keys λk _ h=>.inl h) (a6.aX ht λk c h=>.inr ⟨h,c⟩) (λk X Z=>by
   have:=(ht.2.2 k X).1;have:=(f.bl k (aH k Z)).2.1;omega) I bm).use ?_⟩⟩
  rintro _ o ⟨S,rfl,bD,a2⟩;have b9:=a2.size;have ac:ad (λq=>lo<=q/\bU q) s o:=a2.mono λk _ c=>⟨(f.bl k (aH k c)).1,aH k c⟩;have aq:=d.v.ab ac λe=>(d.bl _ e.2).2.2.1 rfl;obtain⟨s1,s2⟩:=dP aq (i:=1) (by simp);refine⟨S,rfl,?_⟩;rw[aw,aw];refine⟨s1,s2,aW (aW ?_)⟩;obtain⟨j,aI⟩:∃j,j=(o.setCell ⟨aF,0+1,none⟩ S).drew:=⟨_,rfl⟩;rw[←aI];have u:ad (λq=>q=aF) o j:=by rw[aI];exact ad.drew (dp _ _ _ _)
  have a3:Var j aF [n.leaf,S,g,az] 202:=by rw[aI];exact(dT aq _).drew
  have b_:=u.size;have ca:aF<m.heap.size:=by have:=P.lt;omega
  have bE:br (λq=>bU q\/(m.heap.size<=q/\q<o.heap.size)) j S (n.keys.take (cN n.keys key)++ [key]++n.keys.drop (cN n.keys key)):=by
   refine br.ab (br.aX bD λk _ c=>?_) u λk c e=>?_
   .rcases c with (c|c)|c
    .exact .inl c
    .exact .inr ⟨c.1,I⟩
    .exact .inr ⟨I,c.2⟩
   .subst e
    rcases c with c|c
    .exact(d.bl _ c).2.2.1 rfl
    .omega
  have bG:br b8 j g n.vals:=br.ab (br.ab d.vals ac λq a e=>(d.bl q e.2).2.2.2.1 a) u λq a e=>(d.bv q a).2.2.1 e;have bH:cR bK j az n.kids:=cR.ab (cR.ab d.kids ac λq a e=>(d.bl q e.2).2.2.2.2 a) u λq a e=>(d.aL q a).2.2 e;have a4:Ext w j:=Ext.dy (Ext.dy ((aE.trans E).trans x) ac λk c=>I) u λk c=>by omega
  obtain⟨f0,f1,f2,f3⟩:=bF a3;rw[aw]at f2;refine⟨λ_=>False,id,g,f2,(kC (B:=λq=>j.heap.size<=q) (G.ext a4) I (λq a=>a)).use ?_⟩;rintro _ a5 ⟨t2,rfl,a7,z,cb⟩;have ce:=z.size;refine⟨t2,rfl,z,aW ⟨eJ _ _,(Bc (B:=Grow b8 j a5) (i:=cN n.keys key) (br.aX (br.ext bG z) λk _ h=>.inl h) (a6.aX a7 λk c h=>.inr ⟨h,c⟩) (λk X Z=>by
   have:=(a7.2.2 k X).1;have:=(f.bv k (y k Z)).2.1;omega) I I).use ?_⟩⟩
  rintro _ aN ⟨cp,rfl,bI,a8⟩;have cf:=a8.size;have ae:ad (λq=>lo<=q/\b8 q) a5 aN:=a8.mono λk _ c=>⟨(f.bv k (y k c)).1,y k c⟩;have a9:=(a3.ext z).ab ae λe=>(d.bv _ e.2).2.2.1 rfl;obtain⟨s1,s2⟩:=dP a9 (i:=2) (by simp);refine⟨cp,rfl,?_⟩;rw[aw,aw];refine⟨s1,s2,aW ?_⟩;obtain⟨F,aO⟩:∃F,F=aN.setCell ⟨aF,0+2,none⟩ cp:=⟨_,rfl⟩;rw[←aO];have N:ad (λq=>q=aF) aN F:=by rw[aO];exact dp _ _ _ _
  have bJ:Var F aF [n.leaf,S,cp,az] 202:=by rw[aO];exact dT a9 _
  have cg:=N.size;obtain⟨mj,av,ax,ba⟩:=bF bJ;rw[aw]at av ax ba;have bL:bC (λq=>lo<=q) F (hC n key val) S cp az:=by
   unfold hC;rw[if_neg (by rw[H];simp)];refine⟨?_,?_,?_⟩
   .refine bo.aX (br.iM (br.ab (br.ab (br.ext bE z) ae λq a e=>?_) N λq a e=>?_)) λq _ a=>?_
    .rcases a with a|a
     .exact(d.bl q a).2.2.2.1 e.2
     .have:=(f.bv q e.2).2.1;omega
    .subst e
     rcases a with a|a
     .exact(d.bl _ a).2.2.1 rfl
     .omega
    .rcases a with a|a
     .exact(d.bl q a).1
     .omega
   .refine bo.aX (br.iM (br.ab bI N λq a e=>?_)) λq _ a=>?_
    .subst e
     rcases a with (a|a)|a
     .exact(d.bv _ a).2.2.1 rfl
     .omega
     .omega
    .rcases a with (a|a)|a
     .exact(d.bv q a).1
     .omega
     .omega
   .exact cL.aX (cR.p1 (cR.ab (cR.ab (cR.ext bH z) ae λq a e=>(d.bv q e.2).2.2.2 a) N λq a e=>(d.aL q a).2.2 e)) λq _ a=>(d.aL q a).1
  have bM:(hC n key val).leaf=n.leaf:=by unfold hC;rw[if_neg (by rw[H];simp)]
  have bN:Ext w F:=Ext.dy (Ext.dy (a4.trans z) ae λk c=>I) N λk c=>by omega
  have bO:Var F w1.heap.size [false,(),(),()] 202:=by
   have h1:=aV.ext (L.trans x);have h2:=(h1.ab ac (λe=>by have:=e.1;omega)).ab u I;exact((h2.ext z).ab ae (λe=>by have:=e.1;omega)).ab N I
  rw[aw,aw];refine⟨_,mj,S,av,cp,ax,az,ba,?_⟩;have:=jb n.leaf S cp az bO rfl (Q:=λb K V D ah=>oz (hC n key val) w (.tuple #[.agg #[b,K,V,D],true]) ah) λch bb=>⟨S,cp,az,by unfold c0;rw[bM],(bL.ab bb λq a e=>I).aX λq _ a=>I,Ext.cn bN bb I⟩;simpa only[aw] using this
def p5(n:aD)(key:Key)(w:J)(v:aa)(w':J):Prop:=
 if hA n.keys key then oz (lG n key) w v w' else v=.tuple #[c0 g_ bg bg bg,false]/\Ext w w'
theorem pF{B:Nat->Prop}{w:J}{n:aD}{K V D tk:Y}{key:Key}(h:bC B w n K V D)(hs:gS n)(a7:n.keys.length<=10000)(d:Src 1 w tk (aJ key)):
 aQ aj 149 #[c0 n K V D,tk] w (p5 n key w):=by
 have a8:=hs.len;have a9:n.kids.length=0:=by rw[hs.kids];rfl
 refine okF (af.pF n.leaf K V D tk) aA.pF func149 ?_;(delta af.pF ct a_ U ag gZ pv ak aM gH q9 gv bc au st db q_;dsimp only);refine bj (vs:=[n.leaf,K,V,D]) rfl λw1 E ar ba=>?_;refine bj (vs:=[false,(),(),()]) rfl λah ay A bb=>?_;have F:=ar.trans A;obtain⟨bT,aC,aU,aM⟩:=bF (E.ext A);refine⟨_,bT,K,aC,V,aU,D,aM,(l7 (h.ext F) (d.ext F) hs.fb I).use ?_⟩;rintro _ aE ⟨rfl,s⟩;have T:=F.trans s;obtain⟨bT,aC,aU,aM⟩:=bF (E.ext (A.trans s));refine⟨_,_,rfl,n.leaf,bT,cd (λb w'=>b=false/\Ext aE w') (λq a=>⟨λf=>?_,λf=>⟨_,bT,K,aC,V,aU,D,aM,(j1 (h.ext T) I I I).use ?_⟩⟩) ?_⟩
 .rw[hs.leaf]at f;cases f
 .rintro _ W ⟨b,rfl,aG,o⟩
  have:=aG.2 (.inl hs);subst this;exact⟨true,rfl,a _ _ ⟨rfl,o⟩⟩
 rintro _ W ⟨rfl,o⟩;have G:=T.trans o;have bd:=o.size;have be:=s.size;have X:=ay.ext (s.trans o);refine⟨λf=>?_,λf=>?_⟩
 .have f:hA n.keys key=false:=by simpa using f
  refine jb false bg bg bg X rfl (Q:=λb K V D ah=>p5 n key w (.tuple #[.agg #[b,K,V,D],false]) ah) λZ aH=>?_;unfold p5;rw[if_neg (by rw[f];simp)];exact⟨rfl,Ext.cn G aH I⟩
 have aa:hA n.keys key=true:=by simpa using f
 have aK:cN n.keys key<n.keys.length:=(ix.1 (b1 aa)).1;obtain⟨bT,aC,aU,aM⟩:=bF (E.ext (A.trans (s.trans o)));refine⟨_,bT,K,aC,V,aU,D,aM,(eX (h.ext G) I I I hs.eS.1 hs.eS.2).use ?_⟩;rintro _ Z ⟨p,g,az,bU,b8,bK,rfl,j,H⟩;have aI:=G.trans H;have bf:=H.size;refine⟨n.leaf,p,g,az,rfl,bj (vs:=[false,(),(),()]) rfl λbh ac L bi=>⟨ac.cc rfl ?_,rfl,cw ac (us:=[n.leaf,p,g,az]) rfl rfl λt ae C bk=>?_⟩⟩
 .intro v ai
  simp only[cU,eL,eO]at ai;rcases ai with rfl|rfl|rfl|rfl<;>trivial
 obtain⟨aF,aN⟩:∃aF,aF=Z.heap.size:=⟨_,rfl⟩;rw[←aN]at ae C⊢;obtain⟨lo,aO⟩:∃lo,lo=W.heap.size:=⟨_,rfl⟩;rw[←aO]at j;have aP:Ext w t:=Ext.cn (aI.trans L) C I;have aR:Var t w1.heap.size [false,(),(),()] 202:=((X.ext H).ext L).ab C I;have c:hY lo t aF n p g az bU b8 bK:=by
  have r:e6 lo t n p g az bU b8 bK:=(j.ext L).ab C λq _ _ a e=>by
   subst e;rcases a with a|a|a
   .have:=(j.bl _ a).2.1;omega
   .have:=(j.bv _ a).2.1;omega
   .have:=(j.aL _ a).2;omega
  refine⟨ae,r.keys,r.vals,r.kids,λq a=>?_,λq a=>?_,λq a=>?_,I⟩
  .have h1:=r.bl q a;have:=(j.bl q a).2.1;exact⟨h1.1,h1.2.1,I,h1.2.2⟩
  .have h1:=r.bv q a;have:=(j.bv q a).2.1;exact⟨h1.1,h1.2.1,I,h1.2.2⟩
  .have h1:=r.aL q a;have:=(j.aL q a).2;exact⟨h1.1,h1.2,I⟩
 have al:∀k,aB p k->bU k:=λk d=>by obtain⟨ts,_,_,M,_⟩:=c.keys;exact(M k d).1
 have am:∀k,aB g k->b8 k:=λk d=>by obtain⟨ts,_,_,M,_⟩:=c.vals;exact(M k d).1
 obtain⟨d0,d1,d2,d3⟩:=bF c.v;have bm:=c.v.lt;rw[bx (n:=((cN n.keys key:Nat):Int)+1) I I];refine⟨p,d1,(Bd c.keys I aK).use ?_⟩;rintro _ N ⟨S,rfl,aS,aT⟩;have u:ad (λq=>lo<=q/\bU q) t N:=aT.mono λk _ d=>⟨(c.bl k (al k d)).1,al k d⟩;have an:=c.v.ab u λe=>(c.bl _ e.2).2.2.1 rfl;obtain⟨s1,s2⟩:=dP an (i:=1) (by simp);refine⟨S,rfl,?_⟩;rw[aw,aw];refine⟨s1,s2,aW ?_⟩;obtain⟨l,O⟩:∃l,l=N.setCell ⟨aF,0+1,none⟩ S:=⟨_,rfl⟩;rw[←O];have x:ad (λq=>q=aF) N l:=by rw[O];exact dp _ _ _ _
 have ao:Var l aF [n.leaf,S,g,az] 202:=by rw[O];exact dT an _
 have aV:br bU l S (n.keys.take (cN n.keys key)++n.keys.drop (cN n.keys key+1)):=br.ab aS x λq a e=>(c.bl q a).2.2.1 e;have aY:br b8 l g n.vals:=br.ab (br.ab c.vals u λq a e=>(c.bl q e.2).2.2.2.1 a) x λq a e=>(c.bv q a).2.2.1 e;have aZ:cR bK l az n.kids:=cR.ab (cR.ab c.kids u λq a e=>(c.bl q e.2).2.2.2.2 a) x λq a e=>(c.aL q a).2.2 e;obtain⟨f0,f1,f2,f3⟩:=bF ao;rw[aw]at f2;refine⟨g,f2,(Bd aY I I).use ?_⟩;rintro _ P ⟨cp,rfl,a0,a1⟩;have y:ad (λq=>lo<=q/\b8 q) l P:=a1.mono λk _ d=>⟨(c.bv k (am k d)).1,am k d⟩;have ap:=ao.ab y λe=>(c.bv _ e.2).2.2.1 rfl;obtain⟨s1,s2⟩:=dP ap (i:=2) (by simp);refine⟨cp,rfl,?_⟩;rw[aw,aw];refine⟨s1,s2,aW ?_⟩;obtain⟨m,R⟩:∃m,m=P.setCell ⟨aF,0+2,none⟩ cp:=⟨_,rfl⟩;rw[←R];have z:ad (λq=>q=aF) P m:=by rw[R];exact dp _ _ _ _
 have a2:Var m aF [n.leaf,S,cp,az] 202:=by rw[R];exact dT ap _
 obtain⟨mj,av,ax,a3⟩:=bF a2;have a4:bC (λq=>lo<=q) m (lG n key) S cp az:=by
  refine⟨?_,?_,?_⟩
  .exact bo.aX (br.iM (br.ab (br.ab aV y λq a e=>(c.bl q a).2.2.2.1 e.2) z λq a e=>(c.bl q a).2.2.1 e)) λq _ a=>(c.bl q a).1
  .exact bo.aX (br.iM (br.ab a0 z λq a e=>(c.bv q a).2.2.1 e)) λq _ a=>(c.bv q a).1
  .exact cL.aX (cR.p1 (cR.ab (cR.ab aZ y λq a e=>(c.bv q e.2).2.2.2 a) z λq a e=>(c.aL q a).2.2 e)) λq _ a=>(c.aL q a).1
 have a5:Ext w m:=Ext.dy (Ext.dy (Ext.dy (Ext.dy aP u λk d=>I) x λk d=>I) y λk d=>I) z λk d=>by omega
 have a6:Var m w1.heap.size [false,(),(),()] 202:=
  (((aR.ab u (λe=>by have:=e.1;omega)).ab x I).ab y (λe=>by have:=e.1;omega)).ab z I
 refine⟨_,mj,S,av,cp,ax,az,a3,jb n.leaf S cp az a6 rfl (Q:=λb K V D ah=>p5 n key w (.tuple #[.agg #[b,K,V,D],true]) ah) λbn aq=>?_⟩;unfold p5;rw[if_pos aa];exact⟨S,cp,az,rfl,(a4.ab aq λq a e=>I).aX λq _ a=>I,Ext.cn a5 aq I⟩
theorem xP{n:aD}(hs:cH n)(m:Nat):((cellsOf n).take m).sum<=100*n.keys.length:=by
 have h1:((cellsOf n).take m).sum<=(cellsOf n).sum:=by
  have:=xp (cellsOf n) m;omega
 have h2:=xC hs n.keys.length (bp _);rw[dM (by rw[p0 hs];exact bp _)]at h2;have a:=xK hs n.keys.length (bp _);omega
theorem m0{B:Nat->Prop}{w:J}{n:aD}{K V D:Y}(h:bC B w n K V D)(hs:cH n)(G:n.keys.length<=10000){most:Nat}(H:most<=n.keys.length):
 aQ aj 300 #[c0 n K V D,most] w (λv w'=>v=.int .i64 ((gm (cellsOf n) most:Nat):Int)/\Ext w w'):=by
 refine okF (af.m0 n.leaf K V D (most:Int)) aA.m0 func300 ?_;(delta af.m0 ag U ak a_ bc au;dsimp only);refine bj (vs:=[n.leaf,K,V,D]) rfl λw1 o d _=>?_;obtain⟨bT,aC,aU,aM⟩:=bF o;have L:=bo.len h.keys;have M:=p0 hs;have x:∀ (j:Nat) (f:j<(cellsOf n).length),(cellsOf n)[j]=(gR n j).length:=λj f=>by
  have h1:=xB hs (i:=j) I;rw[dE f]at h1;exact Option.some.inj h1
 refine⟨K,aC,λa i w'=>∃j:Nat,i=j/\j<=n.keys.length/\a=((((cellsOf n).take j).sum:Nat):Int)/\Ext w1 w',λ_ i _=>((n.keys.length:Int)-i).toNat,⟨0,rfl,cG _,by simp,.refl _ _⟩,?_⟩;rintro _ _ ah ⟨j,rfl,f,rfl,g⟩;obtain⟨d0,d1,d2,d3⟩:=bF (o.ext g);refine⟨λaK=>?_,λb=>?_⟩
 .have aK:j<n.keys.length:=by have:=b1 aK;omega
  refine⟨_,d0,K,d1,V,d2,D,d3,(mZ (h.ext (d.trans g)) hs aK I).use ?_⟩;rintro _ N ⟨s,rfl,p,A,_⟩;have q:=mg p;have C:=xP hs j;have hc:=vz hs aK;have e:=pW (l:=cellsOf n) (i:=j) I;rw[x j I]at e;refine⟨s,rfl,?_⟩;rw[q,bx (n:=((((cellsOf n).take j).sum:Nat):Int)+(((gR n j).length:Nat):Int)) I I,bx (n:=(j:Int)+1) I I];refine⟨⟨j+1,I,I,I,g.trans A⟩,?_⟩;show((n.keys.length:Int)-((j:Int)+1)).toNat<((n.keys.length:Int)-(j:Int)).toNat;omega
 have b:j=n.keys.length:=by have:=cu b;omega
 subst b;rw[dM (l:=cellsOf n) I];refine⟨λa i w'=>∃j:Nat,i=j/\j<=most/\a=((((cellsOf n).take j).sum:Nat):Int)/\Ext w1 w'/\∀k,k<j->2*((cellsOf n).take (k+1)).sum<(cellsOf n).sum,λ_ i _=>((most:Int)-i).toNat,⟨0,rfl,cG _,by simp,g,λk E=>I⟩,?_⟩;rintro _ _ O ⟨j,rfl,f,rfl,c,r⟩;obtain⟨d0,d1,d2,d3⟩:=bF (o.ext c);have F:=xP hs (cellsOf n).length;rw[iz]at F;refine⟨λaK=>?_,λb=>?_⟩
 .have aK:j<most:=by have:=b1 aK;omega
  refine⟨_,d0,K,d1,V,d2,D,d3,(mZ (h.ext (d.trans c)) hs I I).use ?_⟩;rintro _ P ⟨s,rfl,p,y,_⟩;have q:=mg p;have C:=xP hs j;have hc:=vz hs (i:=j) I;have e:=pW (l:=cellsOf n) (i:=j) I;rw[x j I]at e;refine⟨s,rfl,?_⟩;rw[q,bx (n:=((((cellsOf n).take j).sum:Nat):Int)+(((gR n j).length:Nat):Int)) I I,bx (n:=2*(((((cellsOf n).take j).sum:Nat):Int)+(((gR n j).length:Nat):Int))) I I,bx (n:=(j:Int)+1) I I];refine⟨λhd=>⟨?_,d.trans (c.trans y)⟩,λhd=>⟨⟨j+1,I,I,I,c.trans y,λk E=>?_⟩,?_⟩⟩
  .have hd:=b1 hd
   have t:(List.range most).find? (λi=>decide ((cellsOf n).sum<=2*((cellsOf n).take (i+1)).sum))=some j:=by
    have:=fP aK (bp most);rw[List.find?_eq_some_iff_append];refine⟨dK I,List.range j,List.range' (j+1) (most-(j+1)),?_,λa u=>?_⟩
    .have z:=List.range'_append (s:=0) (m:=j) (n:=most-(j+1)+1) (step:=1)
     rw[si,si,←List.range'_succ];rw[Nat.one_mul,cB]at z;rw[z]
     congr 1
     omega
    .have:=r a (jx.1 u)
     simp;omega
   unfold gm;rw[t];rfl
  .have hd:=cu hd
   rcases dJ k j with h1|h1
   .exact r k h1
   .have:k=j:=by omega
    subst this;omega
  .show((most:Int)-((j:Int)+1)).toNat<((most:Int)-(j:Int)).toNat
   omega
 .have b:j=most:=by have:=cu b;omega
  subst b;refine⟨?_,d.trans c⟩;have t:(List.range j).find? (λi=>decide ((cellsOf n).sum<=2*((cellsOf n).take (i+1)).sum))=none:=by
   rw[jk];intro a u;have:=r a (jx.1 u);simp;omega
  unfold gm;rw[t]
theorem bo.sub{B:Nat->Prop}{w:J}{s:Y}{ls:O Key}{lo hi:Nat}(h:bo B w s ls)(h1:lo<=hi)(h2:hi<=ls.length):bo B w ⟨aO s.a 1 lo s.cap,hi-lo,s.cap-lo⟩ ((ls.drop lo).take (hi-lo)):=by
 have l:=bo.len h;obtain⟨ts,av,ax,b,c,d⟩:=h;refine⟨(ts.drop lo).take (hi-lo),by simp[av],?_,by show hi-lo<=s.cap-lo;omega,λk e=>?_,λi f g=>?_⟩
 .have:=Src.sub ax b h1 I
  simpa[oT,mJ] using this
 .obtain⟨A,ar,j⟩:=vA e
  exact c k ⟨A,ar,j⟩
 .simp only[oV,qE]
  rw[cC,c_]at f g;exact d (lo+i) I I
theorem bo.le{B:Nat->Prop}{w:J}{s:Y}{ls:O Key}(h:bo B w s ls):s.len<=s.cap:=by
 obtain⟨ts,_,_,a,_⟩:=h;exact a
theorem cL.sub{B:Nat->Prop}{w:J}{s:Y}{ds:O Nat}{lo hi:Nat}(h:cL B w s ds)(h1:lo<=hi)(h2:hi<=ds.length):cL B w ⟨aO s.a 1 lo s.cap,hi-lo,s.cap-lo⟩ ((ds.drop lo).take (hi-lo)):=by
 have f:=cL.len h;obtain⟨ax,b,c⟩:=h;have g:s.len<=s.cap:=b;refine⟨?_,by show hi-lo<=s.cap-lo;omega,λk d=>?_⟩
 .have:=Src.sub ax b h1 I
  simpa[ef,oT,mJ] using this
 .obtain⟨A,ar,e⟩:=vA d
  exact c k ⟨A,ar,e⟩
theorem fK(b:ai)(K V D:Y):∀v∈([b,K,V,D]:O aa),Plain v:=by
 intro v a;simp only[cU,eL,eO]at a;rcases a with rfl|rfl|rfl|rfl<;>trivial
theorem p6{c:J}{r1 b5:Nat}{xQ xR:O aa}{cf bS:ai}{dd dx bm cI cP cq:Y}(h1:Var c r1 xQ 202)(h2:Var c b5 xR 202)(n:xQ.length=4)(o:xR.length=4)(p:r1≠b5){W:Nat->Prop}(cg:∀q,q=r1->W q)
 {Q:ai->Y->Y->Y->ai->Y->Y->Y->J->Prop} (v:∀b,ad (λq=>q=r1\/q=b5) c b->Q cf dd dx bm bS cI cP cq b):
 bA c r1 [cf,dd,dx,bm]/\(4:Nat)=4/\al (setCells c r1 0 [cf,dd,dx,bm]) λd=>
  ad W c d/\bA d b5 [bS,cI,cP,cq]/\(4:Nat)=4/\al (setCells d b5 0 [bS,cI,cP,cq]) λb=>
  ∃r:ai,b.cell? r1=some (.bool r)/\∃f:Y,b.cell? (Addr.add r1 1)=some (.slice f.a f.len f.cap)/\∃g:Y,b.cell? (Addr.add r1 2)=some (.slice g.a g.len g.cap)/\∃i:Y,b.cell? (Addr.add r1 3)=some (.slice i.a i.len i.cap)/\
  ∃s:ai,b.cell? b5=some (.bool s)/\∃j:Y,b.cell? (Addr.add b5 1)=some (.slice j.a j.len j.cap)/\∃k:Y,b.cell? (Addr.add b5 2)=some (.slice k.a k.len k.cap)/\∃l:Y,b.cell? (Addr.add b5 3)=some (.slice l.a l.len l.cap)/\Q r f g i s j k l b:=by
 refine⟨h1.cc (by rw[n];rfl) (fK _ _ _ _),rfl,cw h1 (us:=[cf,dd,dx,bm]) (by rw[n];rfl) rfl λd w m _=>?_⟩;have t:=h2.ab m (λe=>p e.symm);refine⟨m.mono λq _ h=>cg q h,t.cc (by rw[o];rfl) (fK _ _ _ _),rfl,cw t (us:=[bS,cI,cP,cq]) (by rw[o];rfl) rfl λb x u _=>?_⟩;obtain⟨bT,aC,aU,aM⟩:=bF (w.ab u p);obtain⟨d0,d1,d2,d3⟩:=bF x;exact⟨cf,bT,dd,aC,dx,aU,bm,aM,bS,d0,cI,d1,cP,d2,cq,d3,v b ((m.mono λq _ h=>.inl h).trans (u.mono λq _ h=>.inr h))⟩
def oA(n:aD)(w:J)(v:aa)(w':J):Prop:=
 ∃ (dd dx bm cI cP cq t:Y),v=.tuple #[c0 (n.left (cm n)) dd dx bm,t,c0 (n.right (cm n)) cI cP cq,true]/\
  bC (λq=>w.heap.size<=q) w' (n.left (cm n)) dd dx bm/\bC (λq=>w.heap.size<=q) w' (n.right (cm n)) cI cP cq/\a6 (λq=>w.heap.size<=q) w' t (n.keys.getD (cm n) [])/\Ext w w'
theorem pS{B:Nat->Prop}{w:J}{n:aD}{K V D:Y}(h:bC B w n K V D)(hs:cH n)(bq:n.keys.length<=10000)(dO:1<=cm n)
 (L:if n.leaf then cm n<=n.keys.length-1/\1<=n.keys.length-1 else cm n<=n.keys.length-2/\1<=n.keys.length-2):
 aQ aj 299 #[c0 n K V D] w (oA n w):=by
 have b5:n.vals.length<=10000:=by
  rcases hs with hs|hs
  .rw[hs.len];omega
  .rw[hs.vals];simp
 have b6:n.kids.length<=10001:=by
  rcases hs with hs|hs
  .rw[hs.kids];simp
  .rw[hs.len];omega
 have E:∀k∈n.keys,k.length<=100000:=λk l=>by have:=(hs.keys.ok k l).2;omega
 have ap:∀k∈n.vals,k.length<=100000:=λk l=>by have:=hs.vals k l;omega
 have b7:=bo.len h.keys;obtain⟨most,aq⟩:∃most,most=if n.leaf then n.keys.length-1 else n.keys.length-2:=⟨_,rfl⟩
 have aS:1<=most/\most<=n.keys.length/\cm n<=most:=by
  rw[aq]
  cases p:n.leaf<;>rw[p]at L<;>simp at L⊢<;>omega
 have O:cm n<n.keys.length:=by
  cases p:n.leaf<;>rw[p]at L<;>simp at L<;>omega
 refine okF (af.pS n.leaf K V D) aA.pS func299 ?_;(delta af.pS ct ag U a_ ak au aM gv aC aL bc iZ;dsimp only);refine bj (vs:=[n.leaf,K,V,D]) rfl λw1 bz bR b9=>?_;refine bj (vs:=[false,(),(),()]) rfl λah bV bs b_=>?_;refine bj (vs:=[false,(),(),()]) rfl λbW bX bn ca=>?_;have bA:=bR.trans (bs.trans bn);obtain⟨bT,aC,aU,aM⟩:=bF ((bz.ext bs).ext bn);refine⟨K,aC,cd (λm w'=>m=(most:Int)/\bW=w') (λq f=>⟨n.leaf,bT,λao=>f _ _ ⟨?_,rfl⟩,λao=>f _ _ ⟨?_,rfl⟩⟩) ?_⟩
 .have ao:n.leaf=false:=by simpa using ao
  rw[ao]at L aq;simp at L aq;rw[bx (n:=(K.len:Int)-1) I I,bx I I];omega
 .have ao:n.leaf=true:=by simpa using ao
  rw[ao]at L aq;simp at L aq;rw[bx I I];omega
 rintro _ _ ⟨rfl,rfl⟩;refine⟨_,bT,K,aC,V,aU,D,aM,(j1 (h.ext bA) I I I).use ?_⟩;rintro _ y ⟨b,rfl,ao,aT⟩;have bY:=ao.2 hs;subst bY;have aV:=cj y;have av:=bA.trans (aT.trans aV);have bp:=((bz.ext bs).ext bn).ext (aT.trans aV);have bt:=(bV.ext bn).ext (aT.trans aV);have bu:=bX.ext (aT.trans aV);have cb:=(aT.trans aV).size;obtain⟨bT,aC,aU,aM⟩:=bF bp;refine⟨true,rfl,λh=>?_,λ_=>aW ⟨λ_=>False,id,_,bT,K,aC,V,aU,D,aM,id,_,bT,K,aC,V,aU,D,aM,⟨?_,?_⟩⟩⟩
 .simp only[Bool.not_true,jS]at h
  have:=b1 h;omega
 .refine(eX (h.ext av) I I I E ap).use ?_
  rintro _ bB ⟨c,d,az,bU,b8,bK,rfl,ax,P⟩;refine⟨n.leaf,c,d,az,rfl,P,⟨?_,?_⟩⟩
  .refine(m0 (h.ext (av.trans P)) hs bq (most:=most) aS.2.1).use ?_
   rintro _ bw ⟨rfl,G⟩;refine⟨_,rfl,G,bj (vs:=[false,(),(),()]) rfl λbD ay H bE=>⟨H,ay.cc rfl (fK _ _ _ _),rfl,cw ay (us:=[n.leaf,c,d,az]) rfl rfl λF aE C bG=>?_⟩⟩;have bZ:=P.size;have b0:=G.size;obtain⟨aF,aY⟩:∃aF,aF=bw.heap.size:=⟨_,rfl⟩;rw[←aY]at aE C⊢;have M:=P.trans (G.trans H);have R:e6 y.heap.size F n c d az bU b8 bK:=(ax.ext (G.trans H)).ab C λq _ _ f e=>by
    subst e;rcases f with f|f|f
    .have:=(ax.bl _ f).2.1;omega
    .have:=(ax.bv _ f).2.1;omega
    .have:=(ax.aL _ f).2;omega
   have bH:y.drew.heap.size=y.heap.size:=rfl;have N:Ext w F:=Ext.cn (av.trans M) C I;have aG:=(bp.ext M).ab C I;have aH:=(bt.ext M).ab C I;have aI:=(bu.ext M).ab C I;have aZ:gm (cellsOf n) most=cm n:=by unfold cm;rw[aq]
   rw[aZ];obtain⟨i,hi⟩:∃i,i=cm n:=⟨_,rfl⟩;rw[←hi]at O aS dO;rw[←hi];obtain⟨aJ,aK,a0,a1⟩:=bF aG;obtain⟨A,t,ar,a2,hc,ht,_⟩:=bo.at (h.ext N).keys O;refine⟨K,aK,A,ar,a2,t,hc,(kC (B:=λq=>w.heap.size<=q) ht.1 (by have:=E _ (cE O);omega) (λq f=>eD N.size f)).use ?_⟩;rintro _ r ⟨tk,rfl,aN,S,aP⟩;have T:=cj r;obtain⟨aJ,aK,a0,a1⟩:=bF (aG.ext S);have s:=S.trans T;obtain⟨f0,f1,f2,f3⟩:=bF (aE.ext s);have o:=R.at.ext s;have bI:=bo.len o.keys;have bJ:=bo.len o.vals;have bL:=cL.len o.kids;have bM:=bo.le (br.iM R.keys);have bN:=bo.le (br.iM R.vals);have bO:az.len<=az.cap:=o.kids.2.1;have bP:F.heap.size<=r.heap.size:=S.size;have aR:n.keys.getD i []=n.keys[i]:=fl O;refine⟨tk,rfl,n.leaf,aJ,λp=>aW ⟨λq=>q=w1.heap.size,λe=>?_,c,f1,⟨I,I⟩,λe=>?_,d,f2,⟨I,?_⟩,#[true,.slice (aO c.a 1 0 c.cap) i c.cap,.slice (aO d.a 1 0 d.cap) i d.cap,()],(λw=>by kernel_rfl),λe=>?_,c,f1,⟨I,I⟩,λe=>?_,d,f2,⟨I,?_⟩,#[true,.slice (aO c.a 1 i c.cap) (c.len-i) (c.cap-i),.slice (aO d.a 1 i d.cap) (d.len-i) (d.cap-i),()],(λw=>by kernel_rfl),?_⟩,λp=>?_⟩
   .rw[aw]at e;have e:aF=w1.heap.size:=e;omega
   .rw[aw]at e;have e:aF=w1.heap.size:=e;omega
   .have:=hs.k5 p;omega
   .rw[aw]at e;have e:aF=w1.heap.size:=e;omega
   .rw[aw]at e;have e:aF=w1.heap.size:=e;omega
   .have:=hs.k5 p;omega
   .have a3:=hs.k5 p
    have g:n.left i=⟨true,n.keys.take i,n.vals.take i,[]⟩:=by unfold aD.left;rw[p];rfl
    have j:n.right i=⟨true,n.keys.drop i,n.vals.drop i,[]⟩:=by unfold aD.right;rw[p];rfl
    have W:bC (λq=>y.heap.size<=q) r.drew (n.left i) ⟨aO c.a 1 0 c.cap,i,c.cap⟩ ⟨aO d.a 1 0 d.cap,i,d.cap⟩ bg:=by
     rw[g];refine⟨?_,?_,cL.none _ _⟩
     .have:=bo.sub o.keys (lo:=0) (hi:=i) I I
      simpa using this
     .have:=bo.sub o.vals (lo:=0) (hi:=i) I I
      simpa using this
    have X:bC (λq=>y.heap.size<=q) r.drew (n.right i) ⟨aO c.a 1 i c.cap,c.len-i,c.cap-i⟩ ⟨aO d.a 1 i d.cap,d.len-i,d.cap-i⟩ bg:=by
     rw[j];refine⟨?_,?_,cL.none _ _⟩
     .have:=bo.sub o.keys (lo:=i) (hi:=c.len) I I
      rwa[dM (by rw[c_];omega)]at this
     .have:=bo.sub o.vals (lo:=i) (hi:=d.len) I I
      rwa[dM (by rw[c_];omega)]at this
    have Z:=eX W (by rw[g];show(n.keys.take i).length<=_;rw[cC];omega) (by rw[g];show(n.vals.take i).length<=_;rw[cC];omega) (by rw[g];simp) (by rw[g];exact λk l=>E k (fp l)) (by rw[g];exact λk l=>ap k (fp l));have ac:(.agg #[true,.slice (aO c.a 1 0 c.cap) i c.cap,.slice (aO d.a 1 0 d.cap) i d.cap,()]:aa)=c0 (n.left i) ⟨aO c.a 1 0 c.cap,i,c.cap⟩ ⟨aO d.a 1 0 d.cap,i,d.cap⟩ bg:=by rw[g];rfl
    have ae:(.agg #[true,.slice (aO c.a 1 i c.cap) (c.len-i) (c.cap-i),.slice (aO d.a 1 i d.cap) (d.len-i) (d.cap-i),()]:aa)=c0 (n.right i) ⟨aO c.a 1 i c.cap,c.len-i,c.cap-i⟩ ⟨aO d.a 1 i d.cap,d.len-i,d.cap-i⟩ bg:=by rw[j];rfl
    rw[ac,ae];refine Z.use ?_;rintro _ a4 ⟨dd,dx,bm,a5,a7,a8,rfl,ai,u⟩;have al:=eX (X.ext u) (by rw[j];show(n.keys.drop i).length<=_;rw[c_];omega) (by rw[j];show(n.vals.drop i).length<=_;rw[c_];omega) (by rw[j];simp) (by rw[j];exact λk l=>E k (fg l)) (by rw[j];exact λk l=>ap k (fg l));refine⟨_,dd,dx,bm,rfl,ad.cF u,al.use ?_⟩;rintro _ a9 ⟨cI,cP,cq,ba,bb,bd,rfl,am,z⟩;have v:=u.trans z;have be:=u.size;have bf:=s.size;refine⟨_,cI,cP,cq,rfl,ad.cF z,p6 (cf:=(n.left i).leaf) (bS:=(n.right i).leaf) (dd:=dd) (dx:=dx) (bm:=bm) (cI:=cI) (cP:=cP) (cq:=cq) ((aH.ext s).ext v) ((aI.ext s).ext v) rfl rfl I (λq f=>f) (Q:=λcf dd dx bm bS cI cP cq w'=>oA n w (.tuple #[.agg #[cf,dd,dx,bm],tk,.agg #[bS,cI,cP,cq],true]) w') λbh x=>?_⟩;have bi:r.drew.heap.size=r.heap.size:=rfl;refine⟨dd,dx,bm,cI,cP,cq,tk,by rw[←hi];rfl,?_,?_,?_,?_⟩
    .rw[←hi];exact((ai.at.ext z).ab x λq f e=>I).aX λq _ f=>by omega
    .rw[←hi];exact(am.at.ab x λq f e=>I).aX λq _ f=>by omega
    .rw[←hi,aR]
     have an:∀q,aB tk q->F.heap.size<=q:=aP;exact a6.iL (a6.ext (a6.ext aN T) v) x λq f e=>by have:=an q f;omega
    .exact Ext.dy (N.trans (s.trans v)) x λq f=>by omega
   .have a3:=hs.p4 p
    have bQ:i<=n.keys.length-2/\1<=n.keys.length-2:=by rw[p,←hi]at L;simpa using L
    have bk:IntKind.wrap .i64 ((i:Int)+1)=((i+1:Nat):Int):=by rw[bx I I];rfl
    rw[bk];refine aW ⟨λq=>q=w1.heap.size,λe=>?_,c,f1,⟨I,I⟩,λe=>?_,az,f3,⟨I,I⟩,#[false,.slice (aO c.a 1 0 c.cap) i c.cap,(),.slice (aO az.a 1 0 az.cap) (i+1) az.cap],(λw=>by kernel_rfl),λe=>?_,c,f1,⟨I,I⟩,λe=>?_,az,f3,⟨I,I⟩,#[false,.slice (aO c.a 1 (i+1) c.cap) (c.len-(i+1)) (c.cap-(i+1)),(),.slice (aO az.a 1 (i+1) az.cap) (az.len-(i+1)) (az.cap-(i+1))],(λw=>by kernel_rfl),?_⟩
    .rw[aw]at e;have e:aF=w1.heap.size:=e;omega
    .rw[aw]at e;have e:aF=w1.heap.size:=e;omega
    .rw[aw]at e;have e:aF=w1.heap.size:=e;omega
    .rw[aw]at e;have e:aF=w1.heap.size:=e;omega
    have g:n.left i=⟨false,n.keys.take i,[],n.kids.take (i+1)⟩:=by unfold aD.left;rw[p];rfl
    have j:n.right i=⟨false,n.keys.drop (i+1),[],n.kids.drop (i+1)⟩:=by unfold aD.right;rw[p];rfl
    have W:bC (λq=>y.heap.size<=q) r.drew (n.left i) ⟨aO c.a 1 0 c.cap,i,c.cap⟩ bg ⟨aO az.a 1 0 az.cap,i+1,az.cap⟩:=by
     rw[g];refine⟨?_,bo.none _ _,?_⟩
     .have:=bo.sub o.keys (lo:=0) (hi:=i) I I
      simpa using this
     .have:=cL.sub o.kids (lo:=0) (hi:=i+1) I I
      simpa using this
    have X:bC (λq=>y.heap.size<=q) r.drew (n.right i) ⟨aO c.a 1 (i+1) c.cap,c.len-(i+1),c.cap-(i+1)⟩ bg ⟨aO az.a 1 (i+1) az.cap,az.len-(i+1),az.cap-(i+1)⟩:=by
     rw[j];refine⟨?_,bo.none _ _,?_⟩
     .have:=bo.sub o.keys (lo:=i+1) (hi:=c.len) I I
      rwa[dM (by rw[c_];omega)]at this
     .have:=cL.sub o.kids (lo:=i+1) (hi:=az.len) I I
      rwa[dM (by rw[c_];omega)]at this
    have Z:=eX W (by rw[g];show(n.keys.take i).length<=_;rw[cC];omega) (by rw[g];simp) (by rw[g];show(n.kids.take (i+1)).length<=_;rw[cC];omega) (by rw[g];exact λk l=>E k (fp l)) (by rw[g];simp);have ac:(.agg #[false,.slice (aO c.a 1 0 c.cap) i c.cap,(),.slice (aO az.a 1 0 az.cap) (i+1) az.cap]:aa)=c0 (n.left i) ⟨aO c.a 1 0 c.cap,i,c.cap⟩ bg ⟨aO az.a 1 0 az.cap,i+1,az.cap⟩:=by rw[g];rfl
    have ae:(.agg #[false,.slice (aO c.a 1 (i+1) c.cap) (c.len-(i+1)) (c.cap-(i+1)),(),.slice (aO az.a 1 (i+1) az.cap) (az.len-(i+1)) (az.cap-(i+1))]:aa)=c0 (n.right i) ⟨aO c.a 1 (i+1) c.cap,c.len-(i+1),c.cap-(i+1)⟩ bg ⟨aO az.a 1 (i+1) az.cap,az.len-(i+1),az.cap-(i+1)⟩:=by rw[j];rfl
    rw[ac,ae];refine Z.use ?_;rintro _ a4 ⟨dd,dx,bm,a5,a7,a8,rfl,ai,u⟩;have al:=eX (X.ext u) (by rw[j];show(n.keys.drop (i+1)).length<=_;rw[c_];omega) (by rw[j];simp) (by rw[j];show(n.kids.drop (i+1)).length<=_;rw[c_];omega) (by rw[j];exact λk l=>E k (fg l)) (by rw[j];simp);refine⟨_,dd,dx,bm,rfl,ad.cF u,al.use ?_⟩;rintro _ a9 ⟨cI,cP,cq,ba,bb,bd,rfl,am,z⟩;have v:=u.trans z;have be:=u.size;have bf:=s.size;refine⟨_,cI,cP,cq,rfl,ad.cF z,p6 (cf:=(n.left i).leaf) (bS:=(n.right i).leaf) (dd:=dd) (dx:=dx) (bm:=bm) (cI:=cI) (cP:=cP) (cq:=cq) ((aH.ext s).ext v) ((aI.ext s).ext v) rfl rfl I (λq f=>f) (Q:=λcf dd dx bm bS cI cP cq w'=>oA n w (.tuple #[.agg #[cf,dd,dx,bm],tk,.agg #[bS,cI,cP,cq],true]) w') λbh x=>?_⟩;have bi:r.drew.heap.size=r.heap.size:=rfl;refine⟨dd,dx,bm,cI,cP,cq,tk,by rw[←hi];rfl,?_,?_,?_,?_⟩
    .rw[←hi];exact((ai.at.ext z).ab x λq f e=>I).aX λq _ f=>by omega
    .rw[←hi];exact(am.at.ab x λq f e=>I).aX λq _ f=>by omega
    .rw[←hi,aR]
     have an:∀q,aB tk q->F.heap.size<=q:=aP;exact a6.iL (a6.ext (a6.ext aN T) v) x λq f e=>by have:=an q f;omega
    .exact Ext.dy (N.trans (s.trans v)) x λq f=>by omega
  .refine bj (vs:=[false,(),(),()]) rfl λbw b2 G ce=>⟨G,?_⟩
   refine(m0 (h.ext (av.trans (P.trans G))) hs bq (most:=most) aS.2.1).use ?_;rintro _ bD ⟨rfl,H⟩;have ay:=b2.ext H;refine⟨_,rfl,H,ay.cc rfl (fK _ _ _ _),rfl,cw ay (us:=[n.leaf,c,d,az]) rfl rfl λF aE C bG=>?_⟩;have bZ:=P.size;have bE:=H.size;obtain⟨aF,aY⟩:∃aF,aF=bB.heap.size:=⟨_,rfl⟩;rw[←aY]at aE C⊢;have M:=P.trans (G.trans H);have R:e6 y.heap.size F n c d az bU b8 bK:=(ax.ext (G.trans H)).ab C λq _ _ f e=>by
    subst e;rcases f with f|f|f
    .have:=(ax.bl _ f).2.1;omega
    .have:=(ax.bv _ f).2.1;omega
    .have:=(ax.aL _ f).2;omega
   have bH:y.drew.heap.size=y.heap.size:=rfl;have N:Ext w F:=Ext.cn (av.trans M) C I;have aG:=(bp.ext M).ab C I;have aH:=(bt.ext M).ab C I;have aI:=(bu.ext M).ab C I;have aZ:gm (cellsOf n) most=cm n:=by unfold cm;rw[aq]
   rw[aZ];obtain⟨i,hi⟩:∃i,i=cm n:=⟨_,rfl⟩;rw[←hi]at O aS dO;rw[←hi];obtain⟨aJ,aK,a0,a1⟩:=bF aG;obtain⟨A,t,ar,a2,hc,ht,_⟩:=bo.at (h.ext N).keys O;refine⟨K,aK,A,ar,a2,t,hc,(kC (B:=λq=>w.heap.size<=q) ht.1 (by have:=E _ (cE O);omega) (λq f=>eD N.size f)).use ?_⟩;rintro _ r ⟨tk,rfl,aN,S,aP⟩;have T:=cj r;obtain⟨aJ,aK,a0,a1⟩:=bF (aG.ext S);have s:=S.trans T;obtain⟨f0,f1,f2,f3⟩:=bF (aE.ext s);have o:=R.at.ext s;have bI:=bo.len o.keys;have bJ:=bo.len o.vals;have bL:=cL.len o.kids;have bM:=bo.le (br.iM R.keys);have bN:=bo.le (br.iM R.vals);have bO:az.len<=az.cap:=o.kids.2.1;have bP:F.heap.size<=r.heap.size:=S.size;have aR:n.keys.getD i []=n.keys[i]:=fl O;refine⟨tk,rfl,n.leaf,aJ,λp=>aW ⟨λq=>q=w1.heap.size,λe=>?_,c,f1,⟨I,I⟩,λe=>?_,d,f2,⟨I,?_⟩,#[true,.slice (aO c.a 1 0 c.cap) i c.cap,.slice (aO d.a 1 0 d.cap) i d.cap,()],(λw=>by kernel_rfl),λe=>?_,c,f1,⟨I,I⟩,λe=>?_,d,f2,⟨I,?_⟩,#[true,.slice (aO c.a 1 i c.cap) (c.len-i) (c.cap-i),.slice (aO d.a 1 i d.cap) (d.len-i) (d.cap-i),()],(λw=>by kernel_rfl),?_⟩,λp=>?_⟩
   .rw[aw]at e;have e:aF=w1.heap.size:=e;omega
   .rw[aw]at e;have e:aF=w1.heap.size:=e;omega
   .have:=hs.k5 p;omega
   .rw[aw]at e;have e:aF=w1.heap.size:=e;omega
   .rw[aw]at e;have e:aF=w1.heap.size:=e;omega
   .have:=hs.k5 p;omega
   .have a3:=hs.k5 p
    have g:n.left i=⟨true,n.keys.take i,n.vals.take i,[]⟩:=by unfold aD.left;rw[p];rfl
    have j:n.right i=⟨true,n.keys.drop i,n.vals.drop i,[]⟩:=by unfold aD.right;rw[p];rfl
    have W:bC (λq=>y.heap.size<=q) r.drew (n.left i) ⟨aO c.a 1 0 c.cap,i,c.cap⟩ ⟨aO d.a 1 0 d.cap,i,d.cap⟩ bg:=by
     rw[g];refine⟨?_,?_,cL.none _ _⟩
     .have:=bo.sub o.keys (lo:=0) (hi:=i) I I
      simpa using this
     .have:=bo.sub o.vals (lo:=0) (hi:=i) I I
      simpa using this
    have X:bC (λq=>y.heap.size<=q) r.drew (n.right i) ⟨aO c.a 1 i c.cap,c.len-i,c.cap-i⟩ ⟨aO d.a 1 i d.cap,d.len-i,d.cap-i⟩ bg:=by
     rw[j];refine⟨?_,?_,cL.none _ _⟩
     .have:=bo.sub o.keys (lo:=i) (hi:=c.len) I I
      rwa[dM (by rw[c_];omega)]at this
     .have:=bo.sub o.vals (lo:=i) (hi:=d.len) I I
      rwa[dM (by rw[c_];omega)]at this
    have Z:=eX W (by rw[g];show(n.keys.take i).length<=_;rw[cC];omega) (by rw[g];show(n.vals.take i).length<=_;rw[cC];omega) (by rw[g];simp) (by rw[g];exact λk l=>E k (fp l)) (by rw[g];exact λk l=>ap k (fp l));have ac:(.agg #[true,.slice (aO c.a 1 0 c.cap) i c.cap,.slice (aO d.a 1 0 d.cap) i d.cap,()]:aa)=c0 (n.left i) ⟨aO c.a 1 0 c.cap,i,c.cap⟩ ⟨aO d.a 1 0 d.cap,i,d.cap⟩ bg:=by rw[g];rfl
    have ae:(.agg #[true,.slice (aO c.a 1 i c.cap) (c.len-i) (c.cap-i),.slice (aO d.a 1 i d.cap) (d.len-i) (d.cap-i),()]:aa)=c0 (n.right i) ⟨aO c.a 1 i c.cap,c.len-i,c.cap-i⟩ ⟨aO d.a 1 i d.cap,d.len-i,d.cap-i⟩ bg:=by rw[j];rfl
    rw[ac,ae];refine Z.use ?_;rintro _ a4 ⟨dd,dx,bm,a5,a7,a8,rfl,ai,u⟩;have al:=eX (X.ext u) (by rw[j];show(n.keys.drop i).length<=_;rw[c_];omega) (by rw[j];show(n.vals.drop i).length<=_;rw[c_];omega) (by rw[j];simp) (by rw[j];exact λk l=>E k (fg l)) (by rw[j];exact λk l=>ap k (fg l));refine⟨_,dd,dx,bm,rfl,ad.cF u,al.use ?_⟩;rintro _ a9 ⟨cI,cP,cq,ba,bb,bd,rfl,am,z⟩;have v:=u.trans z;have be:=u.size;have bf:=s.size;refine⟨_,cI,cP,cq,rfl,ad.cF z,p6 (cf:=(n.left i).leaf) (bS:=(n.right i).leaf) (dd:=dd) (dx:=dx) (bm:=bm) (cI:=cI) (cP:=cP) (cq:=cq) ((aH.ext s).ext v) ((aI.ext s).ext v) rfl rfl I (λq f=>f) (Q:=λcf dd dx bm bS cI cP cq w'=>oA n w (.tuple #[.agg #[cf,dd,dx,bm],tk,.agg #[bS,cI,cP,cq],true]) w') λbh x=>?_⟩;have bi:r.drew.heap.size=r.heap.size:=rfl;refine⟨dd,dx,bm,cI,cP,cq,tk,by rw[←hi];rfl,?_,?_,?_,?_⟩
    .rw[←hi];exact((ai.at.ext z).ab x λq f e=>I).aX λq _ f=>by omega
    .rw[←hi];exact(am.at.ab x λq f e=>I).aX λq _ f=>by omega
    .rw[←hi,aR]
     have an:∀q,aB tk q->F.heap.size<=q:=aP;exact a6.iL (a6.ext (a6.ext aN T) v) x λq f e=>by have:=an q f;omega
    .exact Ext.dy (N.trans (s.trans v)) x λq f=>by omega
   .have a3:=hs.p4 p
    have bQ:i<=n.keys.length-2/\1<=n.keys.length-2:=by rw[p,←hi]at L;simpa using L
    have bk:IntKind.wrap .i64 ((i:Int)+1)=((i+1:Nat):Int):=by rw[bx I I];rfl
    rw[bk];refine aW ⟨λq=>q=w1.heap.size,λe=>?_,c,f1,⟨I,I⟩,λe=>?_,az,f3,⟨I,I⟩,#[false,.slice (aO c.a 1 0 c.cap) i c.cap,(),.slice (aO az.a 1 0 az.cap) (i+1) az.cap],(λw=>by kernel_rfl),λe=>?_,c,f1,⟨I,I⟩,λe=>?_,az,f3,⟨I,I⟩,#[false,.slice (aO c.a 1 (i+1) c.cap) (c.len-(i+1)) (c.cap-(i+1)),(),.slice (aO az.a 1 (i+1) az.cap) (az.len-(i+1)) (az.cap-(i+1))],(λw=>by kernel_rfl),?_⟩
    .rw[aw]at e;have e:aF=w1.heap.size:=e;omega
    .rw[aw]at e;have e:aF=w1.heap.size:=e;omega
    .rw[aw]at e;have e:aF=w1.heap.size:=e;omega
    .rw[aw]at e;have e:aF=w1.heap.size:=e;omega
    have g:n.left i=⟨false,n.keys.take i,[],n.kids.take (i+1)⟩:=by unfold aD.left;rw[p];rfl
    have j:n.right i=⟨false,n.keys.drop (i+1),[],n.kids.drop (i+1)⟩:=by unfold aD.right;rw[p];rfl
    have W:bC (λq=>y.heap.size<=q) r.drew (n.left i) ⟨aO c.a 1 0 c.cap,i,c.cap⟩ bg ⟨aO az.a 1 0 az.cap,i+1,az.cap⟩:=by
     rw[g];refine⟨?_,bo.none _ _,?_⟩
     .have:=bo.sub o.keys (lo:=0) (hi:=i) I I
      simpa using this
     .have:=cL.sub o.kids (lo:=0) (hi:=i+1) I I
      simpa using this
    have X:bC (λq=>y.heap.size<=q) r.drew (n.right i) ⟨aO c.a 1 (i+1) c.cap,c.len-(i+1),c.cap-(i+1)⟩ bg ⟨aO az.a 1 (i+1) az.cap,az.len-(i+1),az.cap-(i+1)⟩:=by
     rw[j];refine⟨?_,bo.none _ _,?_⟩
     .have:=bo.sub o.keys (lo:=i+1) (hi:=c.len) I I
      rwa[dM (by rw[c_];omega)]at this
     .have:=cL.sub o.kids (lo:=i+1) (hi:=az.len) I I
      rwa[dM (by rw[c_];omega)]at this
    have Z:=eX W (by rw[g];show(n.keys.take i).length<=_;rw[cC];omega) (by rw[g];simp) (by rw[g];show(n.kids.take (i+1)).length<=_;rw[cC];omega) (by rw[g];exact λk l=>E k (fp l)) (by rw[g];simp);have ac:(.agg #[false,.slice (aO c.a 1 0 c.cap) i c.cap,(),.slice (aO az.a 1 0 az.cap) (i+1) az.cap]:aa)=c0 (n.left i) ⟨aO c.a 1 0 c.cap,i,c.cap⟩ bg ⟨aO az.a 1 0 az.cap,i+1,az.cap⟩:=by rw[g];rfl
    have ae:(.agg #[false,.slice (aO c.a 1 (i+1) c.cap) (c.len-(i+1)) (c.cap-(i+1)),(),.slice (aO az.a 1 (i+1) az.cap) (az.len-(i+1)) (az.cap-(i+1))]:aa)=c0 (n.right i) ⟨aO c.a 1 (i+1) c.cap,c.len-(i+1),c.cap-(i+1)⟩ bg ⟨aO az.a 1 (i+1) az.cap,az.len-(i+1),az.cap-(i+1)⟩:=by rw[j];rfl
    rw[ac,ae];refine Z.use ?_;rintro _ a4 ⟨dd,dx,bm,a5,a7,a8,rfl,ai,u⟩;have al:=eX (X.ext u) (by rw[j];show(n.keys.drop (i+1)).length<=_;rw[c_];omega) (by rw[j];simp) (by rw[j];show(n.kids.drop (i+1)).length<=_;rw[c_];omega) (by rw[j];exact λk l=>E k (fg l)) (by rw[j];simp);refine⟨_,dd,dx,bm,rfl,ad.cF u,al.use ?_⟩;rintro _ a9 ⟨cI,cP,cq,ba,bb,bd,rfl,am,z⟩;have v:=u.trans z;have be:=u.size;have bf:=s.size;refine⟨_,cI,cP,cq,rfl,ad.cF z,p6 (cf:=(n.left i).leaf) (bS:=(n.right i).leaf) (dd:=dd) (dx:=dx) (bm:=bm) (cI:=cI) (cP:=cP) (cq:=cq) ((aH.ext s).ext v) ((aI.ext s).ext v) rfl rfl I (λq f=>f) (Q:=λcf dd dx bm bS cI cP cq w'=>oA n w (.tuple #[.agg #[cf,dd,dx,bm],tk,.agg #[bS,cI,cP,cq],true]) w') λbh x=>?_⟩;have bi:r.drew.heap.size=r.heap.size:=rfl;refine⟨dd,dx,bm,cI,cP,cq,tk,by rw[←hi];rfl,?_,?_,?_,?_⟩
    .rw[←hi];exact((ai.at.ext z).ab x λq f e=>I).aX λq _ f=>by omega
    .rw[←hi];exact(am.at.ab x λq f e=>I).aX λq _ f=>by omega
    .rw[←hi,aR]
     have an:∀q,aB tk q->F.heap.size<=q:=aP;exact a6.iL (a6.ext (a6.ext aN T) v) x λq f e=>by have:=an q f;omega
    .exact Ext.dy (N.trans (s.trans v)) x λq f=>by omega
 .refine bj (vs:=[false,(),(),()]) rfl λbB b3 P cg=>⟨P,?_⟩
  refine(eX (h.ext (av.trans P)) I I I E ap).use ?_;rintro _ bw ⟨c,d,az,bU,b8,bK,rfl,b4,G⟩;refine⟨n.leaf,c,d,az,rfl,G,(m0 (h.ext (av.trans (P.trans G))) hs bq (most:=most) aS.2.1).use ?_⟩;rintro _ bD ⟨rfl,H⟩;have ay:=b3.ext (G.trans H);refine⟨_,rfl,H,ay.cc rfl (fK _ _ _ _),rfl,cw ay (us:=[n.leaf,c,d,az]) rfl rfl λF aE C bG=>?_⟩;have b0:=G.size;have bE:=H.size;have bH:y.drew.heap.size=y.heap.size:=rfl;obtain⟨aF,aY⟩:∃aF,aF=y.drew.heap.size:=⟨_,rfl⟩;rw[←aY]at aE C⊢;have M:=P.trans (G.trans H);have R:e6 y.heap.size F n c d az bU b8 bK:=((b4.ext H).ab C λq h1 _ _ e=>I).low I;have N:Ext w F:=Ext.cn (av.trans M) C I;have aG:=(bp.ext M).ab C I;have aH:=(bt.ext M).ab C I;have aI:=(bu.ext M).ab C I;have aZ:gm (cellsOf n) most=cm n:=by unfold cm;rw[aq]
  rw[aZ];obtain⟨i,hi⟩:∃i,i=cm n:=⟨_,rfl⟩;rw[←hi]at O aS dO;rw[←hi];obtain⟨aJ,aK,a0,a1⟩:=bF aG;obtain⟨A,t,ar,a2,hc,ht,_⟩:=bo.at (h.ext N).keys O;refine⟨K,aK,A,ar,a2,t,hc,(kC (B:=λq=>w.heap.size<=q) ht.1 (by have:=E _ (cE O);omega) (λq f=>eD N.size f)).use ?_⟩;rintro _ r ⟨tk,rfl,aN,S,aP⟩;have T:=cj r;obtain⟨aJ,aK,a0,a1⟩:=bF (aG.ext S);have s:=S.trans T;obtain⟨f0,f1,f2,f3⟩:=bF (aE.ext s);have o:=R.at.ext s;have bI:=bo.len o.keys;have bJ:=bo.len o.vals;have bL:=cL.len o.kids;have bM:=bo.le (br.iM R.keys);have bN:=bo.le (br.iM R.vals);have bO:az.len<=az.cap:=o.kids.2.1;have bP:F.heap.size<=r.heap.size:=S.size;have aR:n.keys.getD i []=n.keys[i]:=fl O;refine⟨tk,rfl,n.leaf,aJ,λp=>aW ⟨λq=>q=w1.heap.size,λe=>?_,c,f1,⟨I,I⟩,λe=>?_,d,f2,⟨I,?_⟩,#[true,.slice (aO c.a 1 0 c.cap) i c.cap,.slice (aO d.a 1 0 d.cap) i d.cap,()],(λw=>by kernel_rfl),λe=>?_,c,f1,⟨I,I⟩,λe=>?_,d,f2,⟨I,?_⟩,#[true,.slice (aO c.a 1 i c.cap) (c.len-i) (c.cap-i),.slice (aO d.a 1 i d.cap) (d.len-i) (d.cap-i),()],(λw=>by kernel_rfl),?_⟩,λp=>?_⟩
  .rw[aw]at e;have e:aF=w1.heap.size:=e;omega
  .rw[aw]at e;have e:aF=w1.heap.size:=e;omega
  .have:=hs.k5 p;omega
  .rw[aw]at e;have e:aF=w1.heap.size:=e;omega
  .rw[aw]at e;have e:aF=w1.heap.size:=e;omega
  .have:=hs.k5 p;omega
  .have a3:=hs.k5 p
   have g:n.left i=⟨true,n.keys.take i,n.vals.take i,[]⟩:=by unfold aD.left;rw[p];rfl
   have j:n.right i=⟨true,n.keys.drop i,n.vals.drop i,[]⟩:=by unfold aD.right;rw[p];rfl
   have W:bC (λq=>y.heap.size<=q) r.drew (n.left i) ⟨aO c.a 1 0 c.cap,i,c.cap⟩ ⟨aO d.a 1 0 d.cap,i,d.cap⟩ bg:=by
    rw[g];refine⟨?_,?_,cL.none _ _⟩
    .have:=bo.sub o.keys (lo:=0) (hi:=i) I I
     simpa using this
    .have:=bo.sub o.vals (lo:=0) (hi:=i) I I
     simpa using this
   have X:bC (λq=>y.heap.size<=q) r.drew (n.right i) ⟨aO c.a 1 i c.cap,c.len-i,c.cap-i⟩ ⟨aO d.a 1 i d.cap,d.len-i,d.cap-i⟩ bg:=by
    rw[j];refine⟨?_,?_,cL.none _ _⟩
    .have:=bo.sub o.keys (lo:=i) (hi:=c.len) I I
     rwa[dM (by rw[c_];omega)]at this
    .have:=bo.sub o.vals (lo:=i) (hi:=d.len) I I
     rwa[dM (by rw[c_];omega)]at this
   have Z:=eX W (by rw[g];show(n.keys.take i).length<=_;rw[cC];omega) (by rw[g];show(n.vals.take i).length<=_;rw[cC];omega) (by rw[g];simp) (by rw[g];exact λk l=>E k (fp l)) (by rw[g];exact λk l=>ap k (fp l));have ac:(.agg #[true,.slice (aO c.a 1 0 c.cap) i c.cap,.slice (aO d.a 1 0 d.cap) i d.cap,()]:aa)=c0 (n.left i) ⟨aO c.a 1 0 c.cap,i,c.cap⟩ ⟨aO d.a 1 0 d.cap,i,d.cap⟩ bg:=by rw[g];rfl
   have ae:(.agg #[true,.slice (aO c.a 1 i c.cap) (c.len-i) (c.cap-i),.slice (aO d.a 1 i d.cap) (d.len-i) (d.cap-i),()]:aa)=c0 (n.right i) ⟨aO c.a 1 i c.cap,c.len-i,c.cap-i⟩ ⟨aO d.a 1 i d.cap,d.len-i,d.cap-i⟩ bg:=by rw[j];rfl
   rw[ac,ae];refine Z.use ?_;rintro _ a4 ⟨dd,dx,bm,a5,a7,a8,rfl,ai,u⟩;have al:=eX (X.ext u) (by rw[j];show(n.keys.drop i).length<=_;rw[c_];omega) (by rw[j];show(n.vals.drop i).length<=_;rw[c_];omega) (by rw[j];simp) (by rw[j];exact λk l=>E k (fg l)) (by rw[j];exact λk l=>ap k (fg l));refine⟨_,dd,dx,bm,rfl,ad.cF u,al.use ?_⟩;rintro _ a9 ⟨cI,cP,cq,ba,bb,bd,rfl,am,z⟩;have v:=u.trans z;have be:=u.size;have bf:=s.size;refine⟨_,cI,cP,cq,rfl,ad.cF z,p6 (cf:=(n.left i).leaf) (bS:=(n.right i).leaf) (dd:=dd) (dx:=dx) (bm:=bm) (cI:=cI) (cP:=cP) (cq:=cq) ((aH.ext s).ext v) ((aI.ext s).ext v) rfl rfl I (λq f=>f) (Q:=λcf dd dx bm bS cI cP cq w'=>oA n w (.tuple #[.agg #[cf,dd,dx,bm],tk,.agg #[bS,cI,cP,cq],true]) w') λbh x=>?_⟩;have bi:r.drew.heap.size=r.heap.size:=rfl;refine⟨dd,dx,bm,cI,cP,cq,tk,by rw[←hi];rfl,?_,?_,?_,?_⟩
   .rw[←hi];exact((ai.at.ext z).ab x λq f e=>I).aX λq _ f=>by omega
   .rw[←hi];exact(am.at.ab x λq f e=>I).aX λq _ f=>by omega
   .rw[←hi,aR]
    have an:∀q,aB tk q->F.heap.size<=q:=aP;exact a6.iL (a6.ext (a6.ext aN T) v) x λq f e=>by have:=an q f;omega
   .exact Ext.dy (N.trans (s.trans v)) x λq f=>by omega
  .have a3:=hs.p4 p
   have bQ:i<=n.keys.length-2/\1<=n.keys.length-2:=by rw[p,←hi]at L;simpa using L
   have bk:IntKind.wrap .i64 ((i:Int)+1)=((i+1:Nat):Int):=by rw[bx I I];rfl
   rw[bk];refine aW ⟨λq=>q=w1.heap.size,λe=>?_,c,f1,⟨I,I⟩,λe=>?_,az,f3,⟨I,I⟩,#[false,.slice (aO c.a 1 0 c.cap) i c.cap,(),.slice (aO az.a 1 0 az.cap) (i+1) az.cap],(λw=>by kernel_rfl),λe=>?_,c,f1,⟨I,I⟩,λe=>?_,az,f3,⟨I,I⟩,#[false,.slice (aO c.a 1 (i+1) c.cap) (c.len-(i+1)) (c.cap-(i+1)),(),.slice (aO az.a 1 (i+1) az.cap) (az.len-(i+1)) (az.cap-(i+1))],(λw=>by kernel_rfl),?_⟩
   .rw[aw]at e;have e:aF=w1.heap.size:=e;omega
   .rw[aw]at e;have e:aF=w1.heap.size:=e;omega
   .rw[aw]at e;have e:aF=w1.heap.size:=e;omega
   .rw[aw]at e;have e:aF=w1.heap.size:=e;omega
   have g:n.left i=⟨false,n.keys.take i,[],n.kids.take (i+1)⟩:=by unfold aD.left;rw[p];rfl
   have j:n.right i=⟨false,n.keys.drop (i+1),[],n.kids.drop (i+1)⟩:=by unfold aD.right;rw[p];rfl
   have W:bC (λq=>y.heap.size<=q) r.drew (n.left i) ⟨aO c.a 1 0 c.cap,i,c.cap⟩ bg ⟨aO az.a 1 0 az.cap,i+1,az.cap⟩:=by
    rw[g];refine⟨?_,bo.none _ _,?_⟩
    .have:=bo.sub o.keys (lo:=0) (hi:=i) I I
     simpa using this
    .have:=cL.sub o.kids (lo:=0) (hi:=i+1) I I
     simpa using this
   have X:bC (λq=>y.heap.size<=q) r.drew (n.right i) ⟨aO c.a 1 (i+1) c.cap,c.len-(i+1),c.cap-(i+1)⟩ bg ⟨aO az.a 1 (i+1) az.cap,az.len-(i+1),az.cap-(i+1)⟩:=by
    rw[j];refine⟨?_,bo.none _ _,?_⟩
    .have:=bo.sub o.keys (lo:=i+1) (hi:=c.len) I I
     rwa[dM (by rw[c_];omega)]at this
    .have:=cL.sub o.kids (lo:=i+1) (hi:=az.len) I I
     rwa[dM (by rw[c_];omega)]at this
   have Z:=eX W (by rw[g];show(n.keys.take i).length<=_;rw[cC];omega) (by rw[g];simp) (by rw[g];show(n.kids.take (i+1)).length<=_;rw[cC];omega) (by rw[g];exact λk l=>E k (fp l)) (by rw[g];simp);have ac:(.agg #[false,.slice (aO c.a 1 0 c.cap) i c.cap,(),.slice (aO az.a 1 0 az.cap) (i+1) az.cap]:aa)=c0 (n.left i) ⟨aO c.a 1 0 c.cap,i,c.cap⟩ bg ⟨aO az.a 1 0 az.cap,i+1,az.cap⟩:=by rw[g];rfl
   have ae:(.agg #[false,.slice (aO c.a 1 (i+1) c.cap) (c.len-(i+1)) (c.cap-(i+1)),(),.slice (aO az.a 1 (i+1) az.cap) (az.len-(i+1)) (az.cap-(i+1))]:aa)=c0 (n.right i) ⟨aO c.a 1 (i+1) c.cap,c.len-(i+1),c.cap-(i+1)⟩ bg ⟨aO az.a 1 (i+1) az.cap,az.len-(i+1),az.cap-(i+1)⟩:=by rw[j];rfl
   rw[ac,ae];refine Z.use ?_;rintro _ a4 ⟨dd,dx,bm,a5,a7,a8,rfl,ai,u⟩;have al:=eX (X.ext u) (by rw[j];show(n.keys.drop (i+1)).length<=_;rw[c_];omega) (by rw[j];simp) (by rw[j];show(n.kids.drop (i+1)).length<=_;rw[c_];omega) (by rw[j];exact λk l=>E k (fg l)) (by rw[j];simp);refine⟨_,dd,dx,bm,rfl,ad.cF u,al.use ?_⟩;rintro _ a9 ⟨cI,cP,cq,ba,bb,bd,rfl,am,z⟩;have v:=u.trans z;have be:=u.size;have bf:=s.size;refine⟨_,cI,cP,cq,rfl,ad.cF z,p6 (cf:=(n.left i).leaf) (bS:=(n.right i).leaf) (dd:=dd) (dx:=dx) (bm:=bm) (cI:=cI) (cP:=cP) (cq:=cq) ((aH.ext s).ext v) ((aI.ext s).ext v) rfl rfl I (λq f=>f) (Q:=λcf dd dx bm bS cI cP cq w'=>oA n w (.tuple #[.agg #[cf,dd,dx,bm],tk,.agg #[bS,cI,cP,cq],true]) w') λbh x=>?_⟩;have bi:r.drew.heap.size=r.heap.size:=rfl;refine⟨dd,dx,bm,cI,cP,cq,tk,by rw[←hi];rfl,?_,?_,?_,?_⟩
   .rw[←hi];exact((ai.at.ext z).ab x λq f e=>I).aX λq _ f=>by omega
   .rw[←hi];exact(am.at.ab x λq f e=>I).aX λq _ f=>by omega
   .rw[←hi,aR]
    have an:∀q,aB tk q->F.heap.size<=q:=aP;exact a6.iL (a6.ext (a6.ext aN T) v) x λq f e=>by have:=an q f;omega
   .exact Ext.dy (N.trans (s.trans v)) x λq f=>by omega
theorem xS{B C:Nat->Prop}{w:J}{s x:Y}{ls xs:O Key}(l:br B w s ls)(hx:bo C w x xs)(hd:∀q,C q->¬aB s q)(v:ls.length<=100000)(y:xs.length<=100000):
 ∃ (d:Y) (w':J),Sem.run aj (Builtin.append_ #[127,127] 127 #[s,x]) w=.ok d w'/\bo (λq=>B q\/C q\/w.heap.size<=q) w' d (ls++xs)/\ad (aB s) w w':=by
 have z:=bo.len hx;obtain⟨ts,h1,h2,m,n⟩:=l;obtain⟨us,av,ax,A,D,o⟩:=hx;have E:s.len=ls.length:=by have:=h2.1;rw[dL]at this;omega
 obtain⟨d,w',p,f,F,g,r⟩:=p2.append (cK:=127) ax h2 (vy us) I;refine⟨d,w',p,⟨ts++us,by simp[h1,av],?_,f.2.1,?_,λi t G=>?_⟩,g⟩
 .rw[fW];exact f.src
 .intro k c
  refine⟨?_,f.lt k c⟩;rcases r k c with h|h
  .exact .inl (m k h).1
  .exact .inr (.inr h)
 .rcases dJ i ts.length with h|h
  .have j:i<ls.length:=by omega
   rw[lU h,lU j];obtain⟨a,b⟩:=n i h j;exact a6.aX (a6.iL a g b) λk _ c=>.inl c
  .have u:i-ts.length<us.length:=by rw[cz]at t;omega
   have H:i-ls.length<xs.length:=by omega
   rw[ny h,ny I];have e:i-ls.length=i-ts.length:=by omega
   have a:=o (i-ts.length) u I;simp only[e];exact a6.aX (a6.iL a g λk c=>hd k (a.2.2 k c).1) λk _ c=>.inr (.inl c)
theorem Be{B C:Nat->Prop}{w:J}{s x:Y}{ds es:O Nat}(d:cR B w s ds)(hx:cL C w x es)(i:ds.length<=100000)(j:es.length<=100000):
 ∃ (a:Y) (w':J),Sem.run aj (Builtin.append_ #[58,58] 58 #[s,x]) w=.ok a w'/\cL (λq=>B q\/C q\/w.heap.size<=q) w' a (ds++es)/\ad (aB s) w w':=by
 have l:=cL.len hx;obtain⟨h1,h2⟩:=d;have m:s.len=ds.length:=by have:=h1.1;rw[nc]at this;omega
 obtain⟨a,w',e,b,n,f,g⟩:=p3.append (cK:=58) hx.1 h1 (xJ es) I;refine⟨a,w',e,⟨?_,b.2.1,?_⟩,f⟩
 .have:ef ds++ef es=ef (ds++es):=by simp[ef]
  rw[this]at b;exact b.src
 .intro k c
  refine⟨?_,b.lt k c⟩;rcases g k c with h|h
  .exact .inl (h2 k h).1
  .exact .inr (.inr h)
def Bf(pa b aF c:Nat)(key:Y)(G:J)(Q:aa->J->Prop):Prop:=
 bt (λR:J->Prop=>∃H:ai,G.cell? pa=some (.bool H)/\((!H)=true->al (G.drew) λI=>∃K:Nat->Prop,¬K (Addr.add b 1).block/\∃k:Y,I.cell? (Addr.add b 1)=some (.slice k.a k.len k.cap)/\Calls aj 135 #[key] I λae l=>∃S:Y,ae=.returned S/\ad K I l/\al (l.alloc (.cells #[S] 48)) λT=>ad K l T/\∃U:Y,∃m:J,Sem.run aj (Builtin.append_ #[127,127] 127 #[k,.slice (some l.heap.size) 1 1]) T=.ok U m/\(∃u:aa,m.cell? (Addr.add b 1)=some u)/\m.frozen? (Addr.add b 1)=false/\al (m.setCell (Addr.add b 1) U) λaf=>R af)/\((!H)=false->R G)) (λ(L:J)=>∃n:Y,L.cell? (Addr.add b 1)=some (.slice n.a n.len n.cap)/\∃o:Y,L.cell? (Addr.add aF 1)=some (.slice o.a o.len o.cap)/\∃V:Y,∃p:J,Sem.run aj (Builtin.append_ #[127,127] 127 #[n,o]) L=.ok V p/\(∃u:aa,p.cell? (Addr.add b 1)=some u)/\p.frozen? (Addr.add b 1)=false/\al (p.setCell (Addr.add b 1) V) λM=>∃q:Y,M.cell? (Addr.add b 2)=some (.slice q.a q.len q.cap)/\∃r:Y,M.cell? (Addr.add aF 2)=some (.slice r.a r.len r.cap)/\∃W:Y,∃s:J,Sem.run aj (Builtin.append_ #[127,127] 127 #[q,r]) M=.ok W s/\(∃u:aa,s.cell? (Addr.add b 2)=some u)/\s.frozen? (Addr.add b 2)=false/\al (s.setCell (Addr.add b 2) W) λN=>∃t:Y,N.cell? (Addr.add b 3)=some (.slice t.a t.len t.cap)/\∃v:Y,N.cell? (Addr.add aF 3)=some (.slice v.a v.len v.cap)/\∃X:Y,∃w:J,Sem.run aj (Builtin.append_ #[58,58] 58 #[t,v]) N=.ok X w/\(∃u:aa,w.cell? (Addr.add b 3)=some u)/\w.frozen? (Addr.add b 3)=false/\al (w.setCell (Addr.add b 3) X) λe=>∃Z:ai,e.cell? b=some (.bool Z)/\∃x:Y,e.cell? (Addr.add b 1)=some (.slice x.a x.len x.cap)/\∃y:Y,e.cell? (Addr.add b 2)=some (.slice y.a y.len y.cap)/\∃z:Y,e.cell? (Addr.add b 3)=some (.slice z.a z.len z.cap)/\Calls aj 203 #[.agg #[Z,x,y,z]] e λag d=>∃O:ai,ag=.returned O/\((!O)=true->bA d c [false,(),(),()]/\(4:Nat)=4/\al (setCells d c 0 [false,(),(),()]) λf=>∃ab:ai,f.cell? c=some (.bool ab)/\∃A:Y,f.cell? (Addr.add c 1)=some (.slice A.a A.len A.cap)/\∃B:Y,f.cell? (Addr.add c 2)=some (.slice B.a B.len B.cap)/\∃C:Y,f.cell? (Addr.add c 3)=some (.slice C.a C.len C.cap)/\Q (.tuple #[.agg #[ab,A,B,C],false]) f)/\((!O)=false->∃P:ai,d.cell? b=some (.bool P)/\∃g:Y,d.cell? (Addr.add b 1)=some (.slice g.a g.len g.cap)/\∃h:Y,d.cell? (Addr.add b 2)=some (.slice h.a h.len h.cap)/\∃i:Y,d.cell? (Addr.add b 3)=some (.slice i.a i.len i.cap)/\bA d c [P,g,h,i]/\(4:Nat)=4/\al (setCells d c 0 [P,g,h,i]) λj=>∃ac:ai,j.cell? c=some (.bool ac)/\∃D:Y,j.cell? (Addr.add c 1)=some (.slice D.a D.len D.cap)/\∃E:Y,j.cell? (Addr.add c 2)=some (.slice E.a E.len E.cap)/\∃F:Y,j.cell? (Addr.add c 3)=some (.slice F.a F.len F.cap)/\Q (.tuple #[.agg #[ac,D,E,F],true]) j))
theorem kD{lo pa d aF T:Nat}{key U t p ae af ag:Y}{w b7:J}{a b:aD}{s:Key}{bU b8 bK C:Nat->Prop}{av:O aa}(a4:b7.cell? pa=some (.bool a.leaf))
 (ar:Var b7 d [a.leaf,U,t,p] 202) (hB:Var b7 aF [b.leaf,ae,af,ag] 202)
 (g:e6 lo b7 a U t p bU b8 bK) (a5:bC C b7 b ae af ag) (f:∀q,C q->lo<=q/\q<b7.heap.size/\q≠d/\q≠aF/\¬bU q/\¬b8 q/\¬bK q) (E:∀q,bU q\/b8 q\/bK q->q≠d/\q≠aF) (a6:lo<=d) (lb:lo<=aF) (ai:d≠aF)
 (a7:Var b7 T av 202) (a8:av.length=4) (bB:T<lo) (a9:w.heap.size<=T) (u:Src 1 b7 key (aJ s)) (bD:s.length<=1000) (a_:Ext w b7) (hs:cH (ee a s b)) (ax:a.leaf=b.leaf) (sa:cH a) (sb:cH b)
 (bW:a.keys.length<=10000) (bw:b.keys.length<=10000):Bf pa d aF T key b7 (oz (ee a s b) w):=by
 unfold Bf;have bE:=ar.lt;have bG:=hB.lt;have ay:∀ {n:aD},cH n->n.keys.length<=10000->n.vals.length<=10000/\n.kids.length<=10001:=λ{n} h1 h2=>by
  rcases h1 with h1|h1
  .rw[h1.len,h1.kids];exact⟨h2,cG _⟩
  .rw[h1.len,h1.vals];exact⟨cG _,I⟩
 obtain⟨bH,bI⟩:=ay sa bW;obtain⟨l0,bJ⟩:=ay sb bw;have az:hY lo b7 d a U t p bU b8 bK:=⟨ar,g.keys,g.vals,g.kids,λq c=>⟨(g.bl q c).1,(g.bl q c).2.1,(E q (.inl c)).1,(g.bl q c).2.2⟩,λq c=>⟨(g.bv q c).1,(g.bv q c).2.1,(E q (.inr (.inl c))).1,(g.bv q c).2.2⟩,λq c=>⟨(g.aL q c).1,(g.aL q c).2,(E q (.inr (.inr c))).1⟩,a6⟩;refine ij (λw'=>∃ (K:Y) (W:Nat->Prop),hY lo w' d ⟨a.leaf,if a.leaf then a.keys else a.keys++ [s],a.vals,a.kids⟩ K t p W b8 bK/\ad (λq=>q=d\/bU q) b7 w'/\(∀q,W q->bU q\/b7.heap.size<=q)) (λq c=>⟨_,a4,λx=>?_,λx=>c _ ⟨U,bU,?_,.refl _ _,λq h=>.inl h⟩⟩) ?_
 .have x:a.leaf=false:=by simpa using x
  refine xO az u I I λw' ba W h1 h2 G=>c _ ⟨ba,W,?_,h2,G⟩;rw[if_neg (by rw[x];simp)];exact h1
 .have x:a.leaf=true:=by simpa using x
  rw[if_pos x];exact az
 rintro w1 ⟨dd,aj,h1,H,aA⟩;have bL:=H.size;have aE:=hB.ab H (by
  rintro(h|h)
  .exact ai h.symm
  .exact(E _ (.inl h)).2 rfl)
 have aG:=a5.ab H λq c h=>by
  have:=f q c;rcases h with h|h
  .exact this.2.2.1 h
  .exact this.2.2.2.2.1 h
 have bb:=a7.ab H (by
  rintro(h|h)
  .omega
  .have:=(g.bl _ h).1;omega)
 have bc:Ext w w1:=Ext.dy a_ H λq c=>by
  rcases c with h|h
  .omega
  .have:=(g.bl _ h).1;omega
 obtain⟨L,X⟩:∃l,l=(if a.leaf then a.keys else a.keys++ [s]):=⟨_,rfl⟩;rw[←X]at h1;have bM:L.length<=10001:=by
  rw[X];split
  .omega
  .rw[cz];simp;omega
 obtain⟨bT,aC,aU,aM⟩:=bF h1.v;obtain⟨d0,d1,d2,d3⟩:=bF aE;have y:∀q,aB dd q->aj q:=λk u=>by obtain⟨ts,_,_,G,_⟩:=h1.keys;exact(G k u).1
 have ak:∀q,aB t q->b8 q:=λk u=>by obtain⟨ts,_,_,G,_⟩:=h1.vals;exact(G k u).1
 have aH:∀q,aB p q->bK q:=λk u=>(h1.kids.2 k u).1;have aI:∀q,C q->¬aB dd q:=λq c h=>by
  rcases aA q (y q h) with h2|h2
  .exact(f q c).2.2.2.2.1 h2
  .have:=(f q c).2.1;omega
 obtain⟨j,ah,M,N,r⟩:=xS h1.keys aG.keys aI (by show L.length<=_;omega) I;have aK:=h1.v.ab r λh=>(h1.bl _ (y _ h)).2.2.1 rfl;obtain⟨P,R⟩:=dP aK (i:=1) (by simp);refine⟨dd,aC,ae,d1,j,ah,M,?_⟩;rw[aw,aw];refine⟨P,R,aW ?_⟩;obtain⟨m,al⟩:∃m,m=ah.setCell ⟨d,0+1,none⟩ j:=⟨_,rfl⟩;rw[←al];have aN:ad (λq=>q=d) ah m:=by rw[al];exact dp _ _ _ _
 have aO:Var m d [a.leaf,j,t,p] 202:=by rw[al];exact dT aK _
 have eP:ad (λq=>q=d\/aB dd q) w1 m:=(r.mono λq _ h=>.inr h).trans (aN.mono λq _ h=>.inl h);have aP:=aE.ab eP (by
  rintro(h|h)
  .exact ai h.symm
  .rcases aA _ (y _ h) with h2|h2
   .exact(E _ (.inl h2)).2 rfl
   .omega)
 have aQ:=aG.ab eP λq c h=>by
  rcases h with h|h
  .exact(f q c).2.2.1 h
  .exact aI q c h
 have bd:=br.ab h1.vals eP λq c h=>by
  rcases h with h|h
  .exact(h1.bv q c).2.2.1 h
  .exact(h1.bl q (y q h)).2.2.2.1 c
 have be:=cR.ab h1.kids eP λq c h=>by
  rcases h with h|h
  .exact(h1.aL q c).2.2 h
  .exact(h1.bl q (y q h)).2.2.2.2 c
 have bf:=bb.ab eP (by
  rintro(h|h)
  .omega
  .have:=(h1.bl _ (y _ h)).1;omega)
 have bg:Ext w m:=Ext.dy bc eP λq c=>by
  rcases c with h|h
  .omega
  .have:=(h1.bl _ (y _ h)).1;omega
 have bh:bo (λq=>(aj q\/C q\/w1.heap.size<=q)/\q≠d) m j (L++b.keys):=by
  have am:bo (λq=>(aj q\/C q\/w1.heap.size<=q)/\q≠d) ah j (L++b.keys):=bo.aX N λq _ c=>⟨c,by
   rcases c with h|h|h
   .exact(h1.bl _ h).2.2.1
   .exact(f _ h).2.2.1
   .omega⟩
  exact bo.ab am aN λq c h=>c.2 h
 obtain⟨bT,aC,aU,aM⟩:=bF aO;obtain⟨d0,d1,d2,d3⟩:=bF aP;have bN:=eP.size
 obtain⟨cp,Z,M,N,r⟩:=xS bd aQ.vals (λq c h=>(f q c).2.2.2.2.2.1 (ak q h)) (by show a.vals.length<=_;omega) I;have aR:=aO.ab r λh=>(h1.bv _ (ak _ h)).2.2.1 rfl;obtain⟨P,R⟩:=dP aR (i:=2) (by simp);rw[aw]at aU d2;refine⟨t,aU,af,d2,cp,Z,M,?_⟩;rw[aw,aw];refine⟨P,R,aW ?_⟩;obtain⟨o,an⟩:∃o,o=Z.setCell ⟨d,0+2,none⟩ cp:=⟨_,rfl⟩;rw[←an];have aS:ad (λq=>q=d) Z o:=by rw[an];exact dp _ _ _ _
 have aT:Var o d [a.leaf,j,cp,p] 202:=by rw[an];exact dT aR _
 have z:ad (λq=>q=d\/b8 q) m o:=(r.mono λq _ h=>.inr (ak q h)).trans (aS.mono λq _ h=>.inl h);have bi:=aP.ab z (by
  rintro(h|h)
  .exact ai h.symm
  .exact(E _ (.inr (.inl h))).2 rfl)
 have bj:=aQ.ab z λq c h=>by
  rcases h with h|h
  .exact(f q c).2.2.1 h
  .exact(f q c).2.2.2.2.2.1 h
 have bk:=bo.ab bh z λq c h=>by
  rcases h with h|h
  .exact c.2 h
  .rcases c.1 with h2|h2|h2
   .exact(h1.bl _ h2).2.2.2.1 h
   .exact(f _ h2).2.2.2.2.2.1 h
   .have:=(h1.bv _ h).2.1;omega
 have bm:=cR.ab be z λq c h=>by
  rcases h with h|h
  .exact(h1.aL q c).2.2 h
  .exact(h1.bv q h).2.2.2 c
 have bn:=bf.ab z (by
  rintro(h|h)
  .omega
  .have:=(h1.bv _ h).1;omega)
 have bp:Ext w o:=Ext.dy bg z λq c=>by
  rcases c with h|h
  .omega
  .have:=(h1.bv _ h).1;omega
 have bq:bo (λq=>(b8 q\/C q\/m.heap.size<=q)/\q≠d) o cp (a.vals++b.vals):=by
  have am:bo (λq=>(b8 q\/C q\/m.heap.size<=q)/\q≠d) Z cp (a.vals++b.vals):=bo.aX N λq _ c=>⟨c,by
   rcases c with h|h|h
   .exact(h1.bv _ h).2.2.1
   .exact(f _ h).2.2.1
   .omega⟩
  exact bo.ab am aS λq c h=>c.2 h
 obtain⟨bT,aC,aU,aM⟩:=bF aT;obtain⟨d0,d1,d2,d3⟩:=bF bi;have bO:=z.size
 obtain⟨eT,ao,M,N,r⟩:=Be bm bj.kids (by show a.kids.length<=_;omega) I;have aV:=aT.ab r λh=>(h1.aL _ (aH _ h)).2.2 rfl;obtain⟨P,R⟩:=dP aV (i:=3) (by simp);rw[aw]at aM d3;refine⟨p,aM,ag,d3,eT,ao,M,?_⟩;rw[aw,aw];refine⟨P,R,aW ?_⟩;obtain⟨A,ap⟩:∃A,A=ao.setCell ⟨d,0+3,none⟩ eT:=⟨_,rfl⟩;rw[←ap];have aY:ad (λq=>q=d) ao A:=by rw[ap];exact dp _ _ _ _
 have aZ:Var A d [a.leaf,j,cp,eT] 202:=by rw[ap];exact dT aV _
 have S:ad (λq=>q=d\/bK q) o A:=(r.mono λq _ h=>.inr (aH q h)).trans (aY.mono λq _ h=>.inl h);have bs:=bo.ab bk S λq c h=>by
  rcases h with h|h
  .exact c.2 h
  .rcases c.1 with h2|h2|h2
   .exact(h1.bl _ h2).2.2.2.2 h
   .exact(f _ h2).2.2.2.2.2.2 h
   .have:=(h1.aL _ h).2.1;omega
 have bt:=bo.ab bq S λq c h=>by
  rcases h with h|h
  .exact c.2 h
  .rcases c.1 with h2|h2|h2
   .exact(h1.bv _ h2).2.2.2 h
   .exact(f _ h2).2.2.2.2.2.2 h
   .have:=(h1.aL _ h).2.1;omega
 have bu:=bn.ab S (by
  rintro(h|h)
  .omega
  .have:=(h1.aL _ h).1;omega)
 have bx:Ext w A:=Ext.dy bp S λq c=>by
  rcases c with h|h
  .omega
  .have:=(h1.aL _ h).1;omega
 have bP:=S.size;have a0:bC (λq=>lo<=q) A (ee a s b) j cp eT:=by
  have iN:ee a s b=⟨a.leaf,L++b.keys,a.vals++b.vals,a.kids++b.kids⟩:=by
   unfold ee
   cases F:a.leaf with
   |true=>
    have aq:a.kids=[]:=by
     rcases sa with h|h
     .exact h.kids
     .have:=h.inner;rw[F]at this;cases this
    have kb:b.kids=[]:=by
     rcases sb with h|h
     .exact h.kids
     .have:=h.inner;rw[←ax,F]at this;cases this
    rw[X,F,aq,kb];simp
   |false=>
    have aq:a.vals=[]:=by
     rcases sa with h|h
     .have:=h.leaf;rw[F]at this;cases this
     .exact h.vals
    have kb:b.vals=[]:=by
     rcases sb with h|h
     .have:=h.leaf;rw[←ax,F]at this;cases this
     .exact h.vals
    rw[X,F,aq,kb];simp
  rw[iN];refine⟨bo.aX bs λq _ c=>?_,bo.aX bt λq _ c=>?_,cL.aX (cL.ab (B:=λq=>(bK q\/C q\/o.heap.size<=q)/\q≠d) (cL.aX N λq _ c=>⟨c,?_⟩) aY λq c h=>c.2 h) λq _ c=>?_⟩
  .rcases c.1 with h|h|h
   .exact(h1.bl _ h).1
   .exact(f _ h).1
   .omega
  .rcases c.1 with h|h|h
   .exact(h1.bv _ h).1
   .exact(f _ h).1
   .omega
  .rcases c with h|h|h
   .exact(h1.aL _ h).2.2
   .exact(f _ h).2.2.1
   .omega
  .rcases c.1 with h|h|h
   .exact(h1.aL _ h).1
   .exact(f _ h).1
   .omega
 obtain⟨bT,aC,aU,aM⟩:=bF aZ;rw[aw]at aC aU aM;have bQ:(ee a s b).keys.length<=20001:=by
  unfold ee;split
  .show(a.keys++b.keys).length<=_;rw[cz];omega
  .show(a.keys++s::b.keys).length<=_;rw[cz,e8];omega
 have bR:(ee a s b).vals.length<=20001:=by
  unfold ee;split
  .show(a.vals++b.vals).length<=_;rw[cz];omega
  .simp
 have bS:(ee a s b).kids.length<=20002:=by
  unfold ee;split
  .simp
  .show(a.kids++b.kids).length<=_;rw[cz];omega
 have a1:(ee a s b).leaf=a.leaf:=AH
 repeat rw[aw]
 refine⟨_,bT,j,aC,cp,aU,eT,aM,?_⟩;have au:=j1 a0 I I I;unfold c0 at au;rw[a1]at au;refine au.use ?_;rintro _ bV ⟨bX,rfl,bz,ac⟩;have:=bz.2 hs;subst this;obtain⟨bT,aC,aU,aM⟩:=bF (aZ.ext ac);rw[aw]at aC aU aM;have a2:=jb a.leaf j cp eT (bu.ext ac) a8 (Q:=λbA K V D ah=>oz (ee a s b) w (.tuple #[.agg #[bA,K,V,D],true]) ah) λbY a3=>⟨j,cp,eT,by unfold c0;rw[a1],((a0.ext ac).ab a3 λq c e=>I).aX λq _ c=>I,Ext.cn (bx.trans ac) a3 a9⟩
 repeat rw[aw]at a2
 exact⟨true,rfl,λh=>(by cases h),λ_=>⟨_,bT,j,aC,cp,aU,eT,aM,a2⟩⟩
theorem oa{bb bd:Nat->Prop}{w:J}{a b:aD}{aH aI aK aN aO aP key:Y}{s:Key}(a5:bC bb w a aH aI aK)(a6:bC bd w b aN aO aP)(ay:Src 1 w key (aJ s))(W:∀q,aB key q->q<w.heap.size)(X:s.length<=1000)(sa:cH a)(sb:cH b)(T:a.leaf=b.leaf)(hs:cH (ee a s b))
 (bW:a.keys.length<=10000) (bw:b.keys.length<=10000):
 aQ aj 282 #[c0 a aH aI aK,key,c0 b aN aO aP] w (oz (ee a s b) w):=by
 have a7:∀ {n:aD},cH n->n.keys.length<=10000->n.vals.length<=10000/\n.kids.length<=10001:=λ{n} h1 h2=>by
  rcases h1 with h1|h1
  .rw[h1.len,h1.kids];exact⟨h2,cG _⟩
  .rw[h1.len,h1.vals];exact⟨cG _,I⟩
 obtain⟨bo,bp⟩:=a7 sa bW;obtain⟨l0,bq⟩:=a7 sb bw;have aV:∀k∈a.keys,k.length<=100000:=λk ay=>by have:=(sa.keys.ok k ay).2;omega
 have ac:∀k∈b.keys,k.length<=100000:=λk ay=>by have:=(sb.keys.ok k ay).2;omega
 have aY:∀k∈a.vals,k.length<=100000:=λk ay=>by have:=sa.vals k ay;omega
 have ae:∀k∈b.vals,k.length<=100000:=λk ay=>by have:=sb.vals k ay;omega
 refine okF (af.oa a.leaf aH aI aK key b.leaf aN aO aP) aA.oa func282 ?_;(delta af.oa ct a_ U ag aM pv ak gH q9 gv bO bc th st q_ nS;dsimp only);refine bj (vs:=[a.leaf,aH,aI,aK]) rfl λw1 a3 be br=>?_;refine bj (vs:=[b.leaf,aN,aO,aP]) rfl λah a4 a1 bs=>?_;refine bj (vs:=[false,(),(),()]) rfl λbf bg aR bt=>?_;have a8:=be.trans (a1.trans aR);obtain⟨bT,aC,aU,aM⟩:=bF (a3.ext (a1.trans aR));refine⟨_,bT,aH,aC,aI,aU,aK,aM,(j1 (a5.ext a8) I I I).use ?_⟩;rintro _ bh ⟨cf,rfl,bi,aG⟩;have:=bi.2 sa;subst this;have a9:=a8.trans aG;obtain⟨d0,d1,d2,d3⟩:=bF (a4.ext (aR.trans aG));refine⟨true,rfl,cd (λb w'=>b=false/\Ext bh w') (λq c=>⟨λh=>(by cases h),λ_=>⟨_,d0,aN,d1,aO,d2,aP,d3,(j1 (a6.ext a9) I I I).use ?_⟩⟩) ?_⟩
 .rintro _ a2 ⟨bS,rfl,bk,az⟩
  have:=bk.2 sb;subst this;exact⟨true,rfl,c _ _ ⟨rfl,az⟩⟩
 rintro _ a2 ⟨rfl,az⟩;have bm:=a9.trans az;obtain⟨bT,aC,aU,aM⟩:=bF (a3.ext (a1.trans (aR.trans (aG.trans az))));obtain⟨d0,d1,d2,d3⟩:=bF (a4.ext (aR.trans (aG.trans az)));refine cd (λb w'=>b=false/\a2=w') (λq c=>⟨λh=>(by cases h),λ_=>⟨_,bT,_,d0,c _ _ ⟨by rw[T];simp,rfl⟩⟩⟩) ?_;rintro _ _ ⟨rfl,rfl⟩;have aZ:=cj a2;have ba:=bm.trans aZ;obtain⟨O,aS⟩:∃O,O=a2.drew:=⟨_,rfl⟩;have V:Var O w.heap.size [a.leaf,aH,aI,aK] 202:=by rw[aS];exact(a3.ext (a1.trans (aR.trans (aG.trans az)))).ext aZ
 have bn:Var O w1.heap.size [b.leaf,aN,aO,aP] 202:=by rw[aS];exact(a4.ext (aR.trans (aG.trans az))).ext aZ
 have Z:Var O ah.heap.size [false,(),(),()] 202:=by rw[aS];exact(bg.ext (aG.trans az)).ext aZ
 have N:Ext w O:=by rw[aS];exact ba
 have bu:bf.heap.size<=O.heap.size:=by rw[aS];exact(aG.trans az).size
 have a0:=a5.ext N;have ai:=a6.ext N;have aa:=ay.ext N;obtain⟨lo,bx⟩:∃lo,lo=O.heap.size:=⟨_,rfl⟩;rw[←aS];clear bT aC aU aM d0 d1 d2 d3 aS ba aZ;obtain⟨bT,aC,aU,aM⟩:=bF V;obtain⟨d0,d1,d2,d3⟩:=bF bn;refine⟨λh=>(by cases h),λ_=>aW ⟨λ_=>False,id,_,bT,aH,aC,aI,aU,aK,aM,id,_,d0,aN,d1,aO,d2,aP,d3,?_⟩⟩;refine⟨?_,?_,?_⟩
 .refine(eX a0 I I I aV aY).use ?_
  rintro _ H ⟨E,F,G,K,L,M,rfl,d,av⟩;refine⟨_,E,F,G,rfl,av,?_⟩;have s1:=av.size;refine⟨?_,?_,?_⟩
  .refine(eX (ai.ext av) I I I ac ae).use ?_
   rintro _ u ⟨o,p,r,ar,au,aw,rfl,S,ax⟩;refine⟨_,o,p,r,rfl,ax,?_⟩;have s2:=ax.size;refine⟨?_,?_⟩
   .refine bj (vs:=[false,(),(),()]) rfl λt al g z3=>⟨g,?_⟩
    have am:=g.size;refine bj (vs:=[false,(),(),()]) rfl λv an f z4=>⟨f,?_⟩;have ao:=f.size;have x:=al.ext f;have P:=an;refine⟨x.cc rfl (fK _ _ _ _),rfl,cw x (us:=[a.leaf,E,F,G]) rfl rfl λap y bc t5=>?_⟩;have z:=P.ab bc I;refine⟨z.cc rfl (fK _ _ _ _),rfl,cw z (us:=[b.leaf,o,p,r]) rfl rfl λj A b_ t6=>?_⟩;obtain⟨m,B⟩:∃m,m=u.heap.size:=⟨_,rfl⟩;obtain⟨aF,D⟩:∃aF,aF=t.heap.size:=⟨_,rfl⟩;rw[←B]at y bc;rw[←D]at A b_;rw[←B,←D];have i:ad (λq=>q=m\/q=aF) v j:=(bc.mono λq _ h=>.inl h).trans (b_.mono λq _ h=>.inr h);have Q:e6 lo j a E F G K L M:=(((d.ext (ax.trans (g.trans (f)))).ab i λq _ _ c e=>by have aq:O.heap.size<=q/\q<H.heap.size:=(by rcases c with c|c|c;exact⟨(d.bl q c).1,(d.bl q c).2.1⟩;exact⟨(d.bv q c).1,(d.bv q c).2.1⟩;exact d.aL q c);omega).low I);have R:bC (λq=>H.heap.size<=q/\q<u.heap.size) j b o p r:=((S.at.aX λq h1 h2=>⟨h2,h1⟩).ext (g.trans (f))).ab i λq c e=>by omega
    have l:∀q,K q\/L q\/M q->O.heap.size<=q/\q<H.heap.size:=λq c=>by
     rcases c with c|c|c
     .exact⟨(d.bl q c).1,(d.bl q c).2.1⟩
     .exact⟨(d.bv q c).1,(d.bv q c).2.1⟩
     .exact d.aL q c
    exact kD (lo:=lo) (b7:=j) (C:=λq=>H.heap.size<=q/\q<u.heap.size) ((V.ext (av.trans (ax.trans (g.trans f)))).ab i I).cell (y.ab b_ I) A Q R (λq c=>⟨I,I,I,I,λh=>(by have:=l q (.inl h);omega),λh=>(by have:=l q (.inr (.inl h));omega),λh=>(by have:=l q (.inr (.inr h));omega)⟩) (λq c=>(by have:=l q c;exact⟨I,I⟩)) I I I ((Z.ext (av.trans (ax.trans (g.trans f)))).ab i I) rfl I I ((aa.ext (av.trans (ax.trans (g.trans f)))).ab i λq c e=>(by have:=W q c;have:=N.size;omega)) X (Ext.dy (N.trans (av.trans (ax.trans (g.trans f)))) i λq c=>I) hs T sa sb bW bw
   .refine bj (vs:=[false,(),(),()]) rfl λt al g z3=>⟨g,?_⟩
    have am:=g.size;refine bj (vs:=[false,(),(),()]) rfl λv an f z4=>⟨f,?_⟩;have ao:=f.size;have x:=an;have P:=al.ext f;refine⟨x.cc rfl (fK _ _ _ _),rfl,cw x (us:=[a.leaf,E,F,G]) rfl rfl λap y bc t5=>?_⟩;have z:=P.ab bc I;refine⟨z.cc rfl (fK _ _ _ _),rfl,cw z (us:=[b.leaf,o,p,r]) rfl rfl λj A b_ t6=>?_⟩;obtain⟨m,B⟩:∃m,m=t.heap.size:=⟨_,rfl⟩;obtain⟨aF,D⟩:∃aF,aF=u.heap.size:=⟨_,rfl⟩;rw[←B]at y bc;rw[←D]at A b_;rw[←B,←D];have i:ad (λq=>q=m\/q=aF) v j:=(bc.mono λq _ h=>.inl h).trans (b_.mono λq _ h=>.inr h);have Q:e6 lo j a E F G K L M:=(((d.ext (ax.trans (g.trans (f)))).ab i λq _ _ c e=>by have aq:O.heap.size<=q/\q<H.heap.size:=(by rcases c with c|c|c;exact⟨(d.bl q c).1,(d.bl q c).2.1⟩;exact⟨(d.bv q c).1,(d.bv q c).2.1⟩;exact d.aL q c);omega).low I);have R:bC (λq=>H.heap.size<=q/\q<u.heap.size) j b o p r:=((S.at.aX λq h1 h2=>⟨h2,h1⟩).ext (g.trans (f))).ab i λq c e=>by omega
    have l:∀q,K q\/L q\/M q->O.heap.size<=q/\q<H.heap.size:=λq c=>by
     rcases c with c|c|c
     .exact⟨(d.bl q c).1,(d.bl q c).2.1⟩
     .exact⟨(d.bv q c).1,(d.bv q c).2.1⟩
     .exact d.aL q c
    exact kD (lo:=lo) (b7:=j) (C:=λq=>H.heap.size<=q/\q<u.heap.size) ((V.ext (av.trans (ax.trans (g.trans f)))).ab i I).cell (y.ab b_ I) A Q R (λq c=>⟨I,I,I,I,λh=>(by have:=l q (.inl h);omega),λh=>(by have:=l q (.inr (.inl h));omega),λh=>(by have:=l q (.inr (.inr h));omega)⟩) (λq c=>(by have:=l q c;exact⟨I,I⟩)) I I I ((Z.ext (av.trans (ax.trans (g.trans f)))).ab i I) rfl I I ((aa.ext (av.trans (ax.trans (g.trans f)))).ab i λq c e=>(by have:=W q c;have:=N.size;omega)) X (Ext.dy (N.trans (av.trans (ax.trans (g.trans f)))) i λq c=>I) hs T sa sb bW bw
  .refine bj (vs:=[false,(),(),()]) rfl λu aE ax ct=>⟨ax,?_⟩
   have s2:=ax.size;refine⟨?_,?_⟩
   .refine(eX (ai.ext (av.trans (ax))) I I I ac ae).use ?_
    rintro _ t ⟨o,p,r,ar,au,aw,rfl,S,g⟩;refine⟨_,o,p,r,rfl,g,?_⟩;have am:=g.size;refine bj (vs:=[false,(),(),()]) rfl λv an f z4=>⟨f,?_⟩;have ao:=f.size;have x:=aE.ext (g.trans (f));have P:=an;refine⟨x.cc rfl (fK _ _ _ _),rfl,cw x (us:=[a.leaf,E,F,G]) rfl rfl λap y bc t5=>?_⟩;have z:=P.ab bc I;refine⟨z.cc rfl (fK _ _ _ _),rfl,cw z (us:=[b.leaf,o,p,r]) rfl rfl λj A b_ t6=>?_⟩;obtain⟨m,B⟩:∃m,m=H.heap.size:=⟨_,rfl⟩;obtain⟨aF,D⟩:∃aF,aF=t.heap.size:=⟨_,rfl⟩;rw[←B]at y bc;rw[←D]at A b_;rw[←B,←D];have i:ad (λq=>q=m\/q=aF) v j:=(bc.mono λq _ h=>.inl h).trans (b_.mono λq _ h=>.inr h);have Q:e6 lo j a E F G K L M:=(((d.ext (ax.trans (g.trans (f)))).ab i λq _ _ c e=>by have aq:O.heap.size<=q/\q<H.heap.size:=(by rcases c with c|c|c;exact⟨(d.bl q c).1,(d.bl q c).2.1⟩;exact⟨(d.bv q c).1,(d.bv q c).2.1⟩;exact d.aL q c);omega).low I);have R:bC (λq=>u.heap.size<=q/\q<t.heap.size) j b o p r:=((S.at.aX λq h1 h2=>⟨h2,h1⟩).ext f).ab i λq c e=>by omega
    have l:∀q,K q\/L q\/M q->O.heap.size<=q/\q<H.heap.size:=λq c=>by
     rcases c with c|c|c
     .exact⟨(d.bl q c).1,(d.bl q c).2.1⟩
     .exact⟨(d.bv q c).1,(d.bv q c).2.1⟩
     .exact d.aL q c
    exact kD (lo:=lo) (b7:=j) (C:=λq=>u.heap.size<=q/\q<t.heap.size) ((V.ext (av.trans (ax.trans (g.trans f)))).ab i I).cell (y.ab b_ I) A Q R (λq c=>⟨I,I,I,I,λh=>(by have:=l q (.inl h);omega),λh=>(by have:=l q (.inr (.inl h));omega),λh=>(by have:=l q (.inr (.inr h));omega)⟩) (λq c=>(by have:=l q c;exact⟨I,I⟩)) I I I ((Z.ext (av.trans (ax.trans (g.trans f)))).ab i I) rfl I I ((aa.ext (av.trans (ax.trans (g.trans f)))).ab i λq c e=>(by have:=W q c;have:=N.size;omega)) X (Ext.dy (N.trans (av.trans (ax.trans (g.trans f)))) i λq c=>I) hs T sa sb bW bw
   .refine bj (vs:=[false,(),(),()]) rfl λt al g z3=>⟨g,?_⟩
    have am:=g.size;refine(eX (ai.ext (av.trans (ax.trans (g)))) I I I ac ae).use ?_;rintro _ v ⟨o,p,r,ar,au,aw,rfl,S,f⟩;refine⟨_,o,p,r,rfl,f,?_⟩;have ao:=f.size;have x:=aE.ext (g.trans (f));have P:=al.ext f;refine⟨x.cc rfl (fK _ _ _ _),rfl,cw x (us:=[a.leaf,E,F,G]) rfl rfl λap y bc t5=>?_⟩;have z:=P.ab bc I;refine⟨z.cc rfl (fK _ _ _ _),rfl,cw z (us:=[b.leaf,o,p,r]) rfl rfl λj A b_ t6=>?_⟩;obtain⟨m,B⟩:∃m,m=H.heap.size:=⟨_,rfl⟩;obtain⟨aF,D⟩:∃aF,aF=u.heap.size:=⟨_,rfl⟩;rw[←B]at y bc;rw[←D]at A b_;rw[←B,←D];have i:ad (λq=>q=m\/q=aF) v j:=(bc.mono λq _ h=>.inl h).trans (b_.mono λq _ h=>.inr h);have Q:e6 lo j a E F G K L M:=(((d.ext (ax.trans (g.trans (f)))).ab i λq _ _ c e=>by have aq:O.heap.size<=q/\q<H.heap.size:=(by rcases c with c|c|c;exact⟨(d.bl q c).1,(d.bl q c).2.1⟩;exact⟨(d.bv q c).1,(d.bv q c).2.1⟩;exact d.aL q c);omega).low I);have R:bC (λq=>t.heap.size<=q/\q<v.heap.size) j b o p r:=(S.at.aX λq h1 h2=>⟨h2,h1⟩).ab i λq c e=>by omega
    have l:∀q,K q\/L q\/M q->O.heap.size<=q/\q<H.heap.size:=λq c=>by
     rcases c with c|c|c
     .exact⟨(d.bl q c).1,(d.bl q c).2.1⟩
     .exact⟨(d.bv q c).1,(d.bv q c).2.1⟩
     .exact d.aL q c
    exact kD (lo:=lo) (b7:=j) (C:=λq=>t.heap.size<=q/\q<v.heap.size) ((V.ext (av.trans (ax.trans (g.trans f)))).ab i I).cell (y.ab b_ I) A Q R (λq c=>⟨I,I,I,I,λh=>(by have:=l q (.inl h);omega),λh=>(by have:=l q (.inr (.inl h));omega),λh=>(by have:=l q (.inr (.inr h));omega)⟩) (λq c=>(by have:=l q c;exact⟨I,I⟩)) I I I ((Z.ext (av.trans (ax.trans (g.trans f)))).ab i I) rfl I I ((aa.ext (av.trans (ax.trans (g.trans f)))).ab i λq c e=>(by have:=W q c;have:=N.size;omega)) X (Ext.dy (N.trans (av.trans (ax.trans (g.trans f)))) i λq c=>I) hs T sa sb bW bw
  .refine bj (vs:=[false,(),(),()]) rfl λu aE ax ct=>⟨ax,?_⟩
   have s2:=ax.size;refine⟨?_,?_⟩
   .refine(eX (ai.ext (av.trans (ax))) I I I ac ae).use ?_
    rintro _ t ⟨o,p,r,ar,au,aw,rfl,S,g⟩;refine⟨_,o,p,r,rfl,g,?_⟩;have am:=g.size;refine bj (vs:=[false,(),(),()]) rfl λv an f z4=>⟨f,?_⟩;have ao:=f.size;have x:=an;have P:=aE.ext (g.trans (f));refine⟨x.cc rfl (fK _ _ _ _),rfl,cw x (us:=[a.leaf,E,F,G]) rfl rfl λap y bc t5=>?_⟩;have z:=P.ab bc I;refine⟨z.cc rfl (fK _ _ _ _),rfl,cw z (us:=[b.leaf,o,p,r]) rfl rfl λj A b_ t6=>?_⟩;obtain⟨m,B⟩:∃m,m=t.heap.size:=⟨_,rfl⟩;obtain⟨aF,D⟩:∃aF,aF=H.heap.size:=⟨_,rfl⟩;rw[←B]at y bc;rw[←D]at A b_;rw[←B,←D];have i:ad (λq=>q=m\/q=aF) v j:=(bc.mono λq _ h=>.inl h).trans (b_.mono λq _ h=>.inr h);have Q:e6 lo j a E F G K L M:=(((d.ext (ax.trans (g.trans (f)))).ab i λq _ _ c e=>by have aq:O.heap.size<=q/\q<H.heap.size:=(by rcases c with c|c|c;exact⟨(d.bl q c).1,(d.bl q c).2.1⟩;exact⟨(d.bv q c).1,(d.bv q c).2.1⟩;exact d.aL q c);omega).low I);have R:bC (λq=>u.heap.size<=q/\q<t.heap.size) j b o p r:=((S.at.aX λq h1 h2=>⟨h2,h1⟩).ext f).ab i λq c e=>by omega
    have l:∀q,K q\/L q\/M q->O.heap.size<=q/\q<H.heap.size:=λq c=>by
     rcases c with c|c|c
     .exact⟨(d.bl q c).1,(d.bl q c).2.1⟩
     .exact⟨(d.bv q c).1,(d.bv q c).2.1⟩
     .exact d.aL q c
    exact kD (lo:=lo) (b7:=j) (C:=λq=>u.heap.size<=q/\q<t.heap.size) ((V.ext (av.trans (ax.trans (g.trans f)))).ab i I).cell (y.ab b_ I) A Q R (λq c=>⟨I,I,I,I,λh=>(by have:=l q (.inl h);omega),λh=>(by have:=l q (.inr (.inl h));omega),λh=>(by have:=l q (.inr (.inr h));omega)⟩) (λq c=>(by have:=l q c;exact⟨I,I⟩)) I I I ((Z.ext (av.trans (ax.trans (g.trans f)))).ab i I) rfl I I ((aa.ext (av.trans (ax.trans (g.trans f)))).ab i λq c e=>(by have:=W q c;have:=N.size;omega)) X (Ext.dy (N.trans (av.trans (ax.trans (g.trans f)))) i λq c=>I) hs T sa sb bW bw
   .refine bj (vs:=[false,(),(),()]) rfl λt al g z3=>⟨g,?_⟩
    have am:=g.size;refine(eX (ai.ext (av.trans (ax.trans (g)))) I I I ac ae).use ?_;rintro _ v ⟨o,p,r,ar,au,aw,rfl,S,f⟩;refine⟨_,o,p,r,rfl,f,?_⟩;have ao:=f.size;have x:=al.ext f;have P:=aE.ext (g.trans (f));refine⟨x.cc rfl (fK _ _ _ _),rfl,cw x (us:=[a.leaf,E,F,G]) rfl rfl λap y bc t5=>?_⟩;have z:=P.ab bc I;refine⟨z.cc rfl (fK _ _ _ _),rfl,cw z (us:=[b.leaf,o,p,r]) rfl rfl λj A b_ t6=>?_⟩;obtain⟨m,B⟩:∃m,m=u.heap.size:=⟨_,rfl⟩;obtain⟨aF,D⟩:∃aF,aF=H.heap.size:=⟨_,rfl⟩;rw[←B]at y bc;rw[←D]at A b_;rw[←B,←D];have i:ad (λq=>q=m\/q=aF) v j:=(bc.mono λq _ h=>.inl h).trans (b_.mono λq _ h=>.inr h);have Q:e6 lo j a E F G K L M:=(((d.ext (ax.trans (g.trans (f)))).ab i λq _ _ c e=>by have aq:O.heap.size<=q/\q<H.heap.size:=(by rcases c with c|c|c;exact⟨(d.bl q c).1,(d.bl q c).2.1⟩;exact⟨(d.bv q c).1,(d.bv q c).2.1⟩;exact d.aL q c);omega).low I);have R:bC (λq=>t.heap.size<=q/\q<v.heap.size) j b o p r:=(S.at.aX λq h1 h2=>⟨h2,h1⟩).ab i λq c e=>by omega
    have l:∀q,K q\/L q\/M q->O.heap.size<=q/\q<H.heap.size:=λq c=>by
     rcases c with c|c|c
     .exact⟨(d.bl q c).1,(d.bl q c).2.1⟩
     .exact⟨(d.bv q c).1,(d.bv q c).2.1⟩
     .exact d.aL q c
    exact kD (lo:=lo) (b7:=j) (C:=λq=>t.heap.size<=q/\q<v.heap.size) ((V.ext (av.trans (ax.trans (g.trans f)))).ab i I).cell (y.ab b_ I) A Q R (λq c=>⟨I,I,I,I,λh=>(by have:=l q (.inl h);omega),λh=>(by have:=l q (.inr (.inl h));omega),λh=>(by have:=l q (.inr (.inr h));omega)⟩) (λq c=>(by have:=l q c;exact⟨I,I⟩)) I I I ((Z.ext (av.trans (ax.trans (g.trans f)))).ab i I) rfl I I ((aa.ext (av.trans (ax.trans (g.trans f)))).ab i λq c e=>(by have:=W q c;have:=N.size;omega)) X (Ext.dy (N.trans (av.trans (ax.trans (g.trans f)))) i λq c=>I) hs T sa sb bW bw
 .refine bj (vs:=[false,(),(),()]) rfl λH aT av g8=>⟨av,?_⟩
  have s1:=av.size;refine⟨?_,?_⟩
  .refine(eX (a0.ext av) I I I aV aY).use ?_
   rintro _ u ⟨E,F,G,K,L,M,rfl,d,ax⟩;refine⟨_,E,F,G,rfl,ax,?_⟩;have s2:=ax.size;refine⟨?_,?_⟩
   .refine(eX (ai.ext (av.trans (ax))) I I I ac ae).use ?_
    rintro _ t ⟨o,p,r,ar,au,aw,rfl,S,g⟩;refine⟨_,o,p,r,rfl,g,?_⟩;have am:=g.size;refine bj (vs:=[false,(),(),()]) rfl λv an f z4=>⟨f,?_⟩;have ao:=f.size;have x:=aT.ext (ax.trans (g.trans (f)));have P:=an;refine⟨x.cc rfl (fK _ _ _ _),rfl,cw x (us:=[a.leaf,E,F,G]) rfl rfl λap y bc t5=>?_⟩;have z:=P.ab bc I;refine⟨z.cc rfl (fK _ _ _ _),rfl,cw z (us:=[b.leaf,o,p,r]) rfl rfl λj A b_ t6=>?_⟩;obtain⟨m,B⟩:∃m,m=O.heap.size:=⟨_,rfl⟩;obtain⟨aF,D⟩:∃aF,aF=t.heap.size:=⟨_,rfl⟩;rw[←B]at y bc;rw[←D]at A b_;rw[←B,←D];have i:ad (λq=>q=m\/q=aF) v j:=(bc.mono λq _ h=>.inl h).trans (b_.mono λq _ h=>.inr h);have Q:e6 lo j a E F G K L M:=(((d.ext (g.trans (f))).ab i λq _ _ c e=>by have aq:H.heap.size<=q/\q<u.heap.size:=(by rcases c with c|c|c;exact⟨(d.bl q c).1,(d.bl q c).2.1⟩;exact⟨(d.bv q c).1,(d.bv q c).2.1⟩;exact d.aL q c);omega).low I);have R:bC (λq=>u.heap.size<=q/\q<t.heap.size) j b o p r:=((S.at.aX λq h1 h2=>⟨h2,h1⟩).ext f).ab i λq c e=>by omega
    have l:∀q,K q\/L q\/M q->H.heap.size<=q/\q<u.heap.size:=λq c=>by
     rcases c with c|c|c
     .exact⟨(d.bl q c).1,(d.bl q c).2.1⟩
     .exact⟨(d.bv q c).1,(d.bv q c).2.1⟩
     .exact d.aL q c
    exact kD (lo:=lo) (b7:=j) (C:=λq=>u.heap.size<=q/\q<t.heap.size) ((V.ext (av.trans (ax.trans (g.trans f)))).ab i I).cell (y.ab b_ I) A Q R (λq c=>⟨I,I,I,I,λh=>(by have:=l q (.inl h);omega),λh=>(by have:=l q (.inr (.inl h));omega),λh=>(by have:=l q (.inr (.inr h));omega)⟩) (λq c=>(by have:=l q c;exact⟨I,I⟩)) I I I ((Z.ext (av.trans (ax.trans (g.trans f)))).ab i I) rfl I I ((aa.ext (av.trans (ax.trans (g.trans f)))).ab i λq c e=>(by have:=W q c;have:=N.size;omega)) X (Ext.dy (N.trans (av.trans (ax.trans (g.trans f)))) i λq c=>I) hs T sa sb bW bw
   .refine bj (vs:=[false,(),(),()]) rfl λt al g z3=>⟨g,?_⟩
    have am:=g.size;refine(eX (ai.ext (av.trans (ax.trans (g)))) I I I ac ae).use ?_;rintro _ v ⟨o,p,r,ar,au,aw,rfl,S,f⟩;refine⟨_,o,p,r,rfl,f,?_⟩;have ao:=f.size;have x:=aT.ext (ax.trans (g.trans (f)));have P:=al.ext f;refine⟨x.cc rfl (fK _ _ _ _),rfl,cw x (us:=[a.leaf,E,F,G]) rfl rfl λap y bc t5=>?_⟩;have z:=P.ab bc I;refine⟨z.cc rfl (fK _ _ _ _),rfl,cw z (us:=[b.leaf,o,p,r]) rfl rfl λj A b_ t6=>?_⟩;obtain⟨m,B⟩:∃m,m=O.heap.size:=⟨_,rfl⟩;obtain⟨aF,D⟩:∃aF,aF=u.heap.size:=⟨_,rfl⟩;rw[←B]at y bc;rw[←D]at A b_;rw[←B,←D];have i:ad (λq=>q=m\/q=aF) v j:=(bc.mono λq _ h=>.inl h).trans (b_.mono λq _ h=>.inr h);have Q:e6 lo j a E F G K L M:=(((d.ext (g.trans (f))).ab i λq _ _ c e=>by have aq:H.heap.size<=q/\q<u.heap.size:=(by rcases c with c|c|c;exact⟨(d.bl q c).1,(d.bl q c).2.1⟩;exact⟨(d.bv q c).1,(d.bv q c).2.1⟩;exact d.aL q c);omega).low I);have R:bC (λq=>t.heap.size<=q/\q<v.heap.size) j b o p r:=(S.at.aX λq h1 h2=>⟨h2,h1⟩).ab i λq c e=>by omega
    have l:∀q,K q\/L q\/M q->H.heap.size<=q/\q<u.heap.size:=λq c=>by
     rcases c with c|c|c
     .exact⟨(d.bl q c).1,(d.bl q c).2.1⟩
     .exact⟨(d.bv q c).1,(d.bv q c).2.1⟩
     .exact d.aL q c
    exact kD (lo:=lo) (b7:=j) (C:=λq=>t.heap.size<=q/\q<v.heap.size) ((V.ext (av.trans (ax.trans (g.trans f)))).ab i I).cell (y.ab b_ I) A Q R (λq c=>⟨I,I,I,I,λh=>(by have:=l q (.inl h);omega),λh=>(by have:=l q (.inr (.inl h));omega),λh=>(by have:=l q (.inr (.inr h));omega)⟩) (λq c=>(by have:=l q c;exact⟨I,I⟩)) I I I ((Z.ext (av.trans (ax.trans (g.trans f)))).ab i I) rfl I I ((aa.ext (av.trans (ax.trans (g.trans f)))).ab i λq c e=>(by have:=W q c;have:=N.size;omega)) X (Ext.dy (N.trans (av.trans (ax.trans (g.trans f)))) i λq c=>I) hs T sa sb bW bw
  .refine bj (vs:=[false,(),(),()]) rfl λu aE ax ct=>⟨ax,?_⟩
   have s2:=ax.size;refine(eX (a0.ext (av.trans (ax))) I I I aV aY).use ?_;rintro _ t ⟨E,F,G,K,L,M,rfl,d,g⟩;refine⟨_,E,F,G,rfl,g,?_⟩;have am:=g.size;refine(eX (ai.ext (av.trans (ax.trans (g)))) I I I ac ae).use ?_;rintro _ v ⟨o,p,r,ar,au,aw,rfl,S,f⟩;refine⟨_,o,p,r,rfl,f,?_⟩;have ao:=f.size;have x:=aT.ext (ax.trans (g.trans (f)));have P:=aE.ext (g.trans (f));refine⟨x.cc rfl (fK _ _ _ _),rfl,cw x (us:=[a.leaf,E,F,G]) rfl rfl λap y bc t5=>?_⟩;have z:=P.ab bc I;refine⟨z.cc rfl (fK _ _ _ _),rfl,cw z (us:=[b.leaf,o,p,r]) rfl rfl λj A b_ t6=>?_⟩;obtain⟨m,B⟩:∃m,m=O.heap.size:=⟨_,rfl⟩;obtain⟨aF,D⟩:∃aF,aF=H.heap.size:=⟨_,rfl⟩;rw[←B]at y bc;rw[←D]at A b_;rw[←B,←D];have i:ad (λq=>q=m\/q=aF) v j:=(bc.mono λq _ h=>.inl h).trans (b_.mono λq _ h=>.inr h);have Q:e6 lo j a E F G K L M:=(((d.ext f).ab i λq _ _ c e=>by have aq:u.heap.size<=q/\q<t.heap.size:=(by rcases c with c|c|c;exact⟨(d.bl q c).1,(d.bl q c).2.1⟩;exact⟨(d.bv q c).1,(d.bv q c).2.1⟩;exact d.aL q c);omega).low I);have R:bC (λq=>t.heap.size<=q/\q<v.heap.size) j b o p r:=(S.at.aX λq h1 h2=>⟨h2,h1⟩).ab i λq c e=>by omega
   have l:∀q,K q\/L q\/M q->u.heap.size<=q/\q<t.heap.size:=λq c=>by
    rcases c with c|c|c
    .exact⟨(d.bl q c).1,(d.bl q c).2.1⟩
    .exact⟨(d.bv q c).1,(d.bv q c).2.1⟩
    .exact d.aL q c
   exact kD (lo:=lo) (b7:=j) (C:=λq=>t.heap.size<=q/\q<v.heap.size) ((V.ext (av.trans (ax.trans (g.trans f)))).ab i I).cell (y.ab b_ I) A Q R (λq c=>⟨I,I,I,I,λh=>(by have:=l q (.inl h);omega),λh=>(by have:=l q (.inr (.inl h));omega),λh=>(by have:=l q (.inr (.inr h));omega)⟩) (λq c=>(by have:=l q c;exact⟨I,I⟩)) I I I ((Z.ext (av.trans (ax.trans (g.trans f)))).ab i I) rfl I I ((aa.ext (av.trans (ax.trans (g.trans f)))).ab i λq c e=>(by have:=W q c;have:=N.size;omega)) X (Ext.dy (N.trans (av.trans (ax.trans (g.trans f)))) i λq c=>I) hs T sa sb bW bw
 .refine bj (vs:=[false,(),(),()]) rfl λH aT av g8=>⟨av,?_⟩
  have s1:=av.size;refine⟨?_,?_⟩
  .refine(eX (a0.ext av) I I I aV aY).use ?_
   rintro _ u ⟨E,F,G,K,L,M,rfl,d,ax⟩;refine⟨_,E,F,G,rfl,ax,?_⟩;have s2:=ax.size;refine⟨?_,?_⟩
   .refine(eX (ai.ext (av.trans (ax))) I I I ac ae).use ?_
    rintro _ t ⟨o,p,r,ar,au,aw,rfl,S,g⟩;refine⟨_,o,p,r,rfl,g,?_⟩;have am:=g.size;refine bj (vs:=[false,(),(),()]) rfl λv an f z4=>⟨f,?_⟩;have ao:=f.size;have x:=an;have P:=aT.ext (ax.trans (g.trans (f)));refine⟨x.cc rfl (fK _ _ _ _),rfl,cw x (us:=[a.leaf,E,F,G]) rfl rfl λap y bc t5=>?_⟩;have z:=P.ab bc I;refine⟨z.cc rfl (fK _ _ _ _),rfl,cw z (us:=[b.leaf,o,p,r]) rfl rfl λj A b_ t6=>?_⟩;obtain⟨m,B⟩:∃m,m=t.heap.size:=⟨_,rfl⟩;obtain⟨aF,D⟩:∃aF,aF=O.heap.size:=⟨_,rfl⟩;rw[←B]at y bc;rw[←D]at A b_;rw[←B,←D];have i:ad (λq=>q=m\/q=aF) v j:=(bc.mono λq _ h=>.inl h).trans (b_.mono λq _ h=>.inr h);have Q:e6 lo j a E F G K L M:=(((d.ext (g.trans (f))).ab i λq _ _ c e=>by have aq:H.heap.size<=q/\q<u.heap.size:=(by rcases c with c|c|c;exact⟨(d.bl q c).1,(d.bl q c).2.1⟩;exact⟨(d.bv q c).1,(d.bv q c).2.1⟩;exact d.aL q c);omega).low I);have R:bC (λq=>u.heap.size<=q/\q<t.heap.size) j b o p r:=((S.at.aX λq h1 h2=>⟨h2,h1⟩).ext f).ab i λq c e=>by omega
    have l:∀q,K q\/L q\/M q->H.heap.size<=q/\q<u.heap.size:=λq c=>by
     rcases c with c|c|c
     .exact⟨(d.bl q c).1,(d.bl q c).2.1⟩
     .exact⟨(d.bv q c).1,(d.bv q c).2.1⟩
     .exact d.aL q c
    exact kD (lo:=lo) (b7:=j) (C:=λq=>u.heap.size<=q/\q<t.heap.size) ((V.ext (av.trans (ax.trans (g.trans f)))).ab i I).cell (y.ab b_ I) A Q R (λq c=>⟨I,I,I,I,λh=>(by have:=l q (.inl h);omega),λh=>(by have:=l q (.inr (.inl h));omega),λh=>(by have:=l q (.inr (.inr h));omega)⟩) (λq c=>(by have:=l q c;exact⟨I,I⟩)) I I I ((Z.ext (av.trans (ax.trans (g.trans f)))).ab i I) rfl I I ((aa.ext (av.trans (ax.trans (g.trans f)))).ab i λq c e=>(by have:=W q c;have:=N.size;omega)) X (Ext.dy (N.trans (av.trans (ax.trans (g.trans f)))) i λq c=>I) hs T sa sb bW bw
   .refine bj (vs:=[false,(),(),()]) rfl λt al g z3=>⟨g,?_⟩
    have am:=g.size;refine(eX (ai.ext (av.trans (ax.trans (g)))) I I I ac ae).use ?_;rintro _ v ⟨o,p,r,ar,au,aw,rfl,S,f⟩;refine⟨_,o,p,r,rfl,f,?_⟩;have ao:=f.size;have x:=al.ext f;have P:=aT.ext (ax.trans (g.trans (f)));refine⟨x.cc rfl (fK _ _ _ _),rfl,cw x (us:=[a.leaf,E,F,G]) rfl rfl λap y bc t5=>?_⟩;have z:=P.ab bc I;refine⟨z.cc rfl (fK _ _ _ _),rfl,cw z (us:=[b.leaf,o,p,r]) rfl rfl λj A b_ t6=>?_⟩;obtain⟨m,B⟩:∃m,m=u.heap.size:=⟨_,rfl⟩;obtain⟨aF,D⟩:∃aF,aF=O.heap.size:=⟨_,rfl⟩;rw[←B]at y bc;rw[←D]at A b_;rw[←B,←D];have i:ad (λq=>q=m\/q=aF) v j:=(bc.mono λq _ h=>.inl h).trans (b_.mono λq _ h=>.inr h);have Q:e6 lo j a E F G K L M:=(((d.ext (g.trans (f))).ab i λq _ _ c e=>by have aq:H.heap.size<=q/\q<u.heap.size:=(by rcases c with c|c|c;exact⟨(d.bl q c).1,(d.bl q c).2.1⟩;exact⟨(d.bv q c).1,(d.bv q c).2.1⟩;exact d.aL q c);omega).low I);have R:bC (λq=>t.heap.size<=q/\q<v.heap.size) j b o p r:=(S.at.aX λq h1 h2=>⟨h2,h1⟩).ab i λq c e=>by omega
    have l:∀q,K q\/L q\/M q->H.heap.size<=q/\q<u.heap.size:=λq c=>by
     rcases c with c|c|c
     .exact⟨(d.bl q c).1,(d.bl q c).2.1⟩
     .exact⟨(d.bv q c).1,(d.bv q c).2.1⟩
     .exact d.aL q c
    exact kD (lo:=lo) (b7:=j) (C:=λq=>t.heap.size<=q/\q<v.heap.size) ((V.ext (av.trans (ax.trans (g.trans f)))).ab i I).cell (y.ab b_ I) A Q R (λq c=>⟨I,I,I,I,λh=>(by have:=l q (.inl h);omega),λh=>(by have:=l q (.inr (.inl h));omega),λh=>(by have:=l q (.inr (.inr h));omega)⟩) (λq c=>(by have:=l q c;exact⟨I,I⟩)) I I I ((Z.ext (av.trans (ax.trans (g.trans f)))).ab i I) rfl I I ((aa.ext (av.trans (ax.trans (g.trans f)))).ab i λq c e=>(by have:=W q c;have:=N.size;omega)) X (Ext.dy (N.trans (av.trans (ax.trans (g.trans f)))) i λq c=>I) hs T sa sb bW bw
  .refine bj (vs:=[false,(),(),()]) rfl λu aE ax ct=>⟨ax,?_⟩
   have s2:=ax.size;refine(eX (a0.ext (av.trans (ax))) I I I aV aY).use ?_;rintro _ t ⟨E,F,G,K,L,M,rfl,d,g⟩;refine⟨_,E,F,G,rfl,g,?_⟩;have am:=g.size;refine(eX (ai.ext (av.trans (ax.trans (g)))) I I I ac ae).use ?_;rintro _ v ⟨o,p,r,ar,au,aw,rfl,S,f⟩;refine⟨_,o,p,r,rfl,f,?_⟩;have ao:=f.size;have x:=aE.ext (g.trans (f));have P:=aT.ext (ax.trans (g.trans (f)));refine⟨x.cc rfl (fK _ _ _ _),rfl,cw x (us:=[a.leaf,E,F,G]) rfl rfl λap y bc t5=>?_⟩;have z:=P.ab bc I;refine⟨z.cc rfl (fK _ _ _ _),rfl,cw z (us:=[b.leaf,o,p,r]) rfl rfl λj A b_ t6=>?_⟩;obtain⟨m,B⟩:∃m,m=H.heap.size:=⟨_,rfl⟩;obtain⟨aF,D⟩:∃aF,aF=O.heap.size:=⟨_,rfl⟩;rw[←B]at y bc;rw[←D]at A b_;rw[←B,←D];have i:ad (λq=>q=m\/q=aF) v j:=(bc.mono λq _ h=>.inl h).trans (b_.mono λq _ h=>.inr h);have Q:e6 lo j a E F G K L M:=(((d.ext f).ab i λq _ _ c e=>by have aq:u.heap.size<=q/\q<t.heap.size:=(by rcases c with c|c|c;exact⟨(d.bl q c).1,(d.bl q c).2.1⟩;exact⟨(d.bv q c).1,(d.bv q c).2.1⟩;exact d.aL q c);omega).low I);have R:bC (λq=>t.heap.size<=q/\q<v.heap.size) j b o p r:=(S.at.aX λq h1 h2=>⟨h2,h1⟩).ab i λq c e=>by omega
   have l:∀q,K q\/L q\/M q->u.heap.size<=q/\q<t.heap.size:=λq c=>by
    rcases c with c|c|c
    .exact⟨(d.bl q c).1,(d.bl q c).2.1⟩
    .exact⟨(d.bv q c).1,(d.bv q c).2.1⟩
    .exact d.aL q c
   exact kD (lo:=lo) (b7:=j) (C:=λq=>t.heap.size<=q/\q<v.heap.size) ((V.ext (av.trans (ax.trans (g.trans f)))).ab i I).cell (y.ab b_ I) A Q R (λq c=>⟨I,I,I,I,λh=>(by have:=l q (.inl h);omega),λh=>(by have:=l q (.inr (.inl h));omega),λh=>(by have:=l q (.inr (.inr h));omega)⟩) (λq c=>(by have:=l q c;exact⟨I,I⟩)) I I I ((Z.ext (av.trans (ax.trans (g.trans f)))).ab i I) rfl I I ((aa.ext (av.trans (ax.trans (g.trans f)))).ab i λq c e=>(by have:=W q c;have:=N.size;omega)) X (Ext.dy (N.trans (av.trans (ax.trans (g.trans f)))) i λq c=>I) hs T sa sb bW bw
section
variable {α:Type}{c:α->O aa}{sz:Nat}
def bM(c:α->O aa)(l:O α):O aa:=(l.map c).flatten
theorem lH(l m:O α):bM c (l++m)=bM c l++bM c m:=by simp[bM]
theorem p7(x:α)(l:O α):bM c (x::l)=c x++bM c l:=rfl
theorem gL:∀ (l:O α),(∀x∈l,(c x).length=sz)->(bM c l).length=l.length*sz
 | [],_=>by simp[bM]
 |x::l,h=>by
  rw[p7,cz,h x (by simp),gL l λy a=>h y (by simp[a]),e8,kP];omega
theorem FU{l:O α}{i:Nat}(h:i<l.length):l=l.take i++l[i]::l.drop (i+1):=by rw[←jy h,ib]
theorem xT{l:O α}(hc:∀x∈l,(c x).length=sz){i:Nat}(h:i<l.length):(bM c l).take (i*sz)=bM c (l.take i)/\(bM c l).drop (i*sz)=c l[i]++bM c (l.drop (i+1)):=by
 have a:(bM c (l.take i)).length=i*sz:=by
  rw[gL _ λx hx=>hc x (fp hx),cC,jj I]
 have e:bM c l=bM c (l.take i)++(c l[i]++bM c (l.drop (i+1))):=by
  conv=>lhs;rw[FU h]
  rw[lH,p7]
 rw[e];exact⟨mf a,drop_left' a⟩
theorem Bg{l:O α}(hc:∀x∈l,(c x).length=sz){i:Nat}(h:i<l.length):((bM c l).drop (i*sz)).take sz=c l[i]:=by
 rw[(xT hc h).2];exact mf (hc _ (cE h))
theorem rL{l:O α}(hc:∀x∈l,(c x).length=sz){i j:Nat}(h:i<l.length)(a:j<sz):(bM c l)[i*sz+j]? =(c l[i])[j]? :=by
 rw[←Bg hc h,List.getElem?_take_of_lt a,sh]
theorem Bh{l:O α}(hc:∀x∈l,(c x).length=sz){i:Nat}(h:i<l.length)(x:α):(bM c l).take (i*sz)++c x++(bM c l).drop (i*sz+sz)=bM c (l.set i x):=by
 have h1:=xT hc h;have h2:(bM c l).drop (i*sz+sz)=bM c (l.drop (i+1)):=by
  rw[←qB,h1.2];exact drop_left' (hc _ (cE h))
 rw[h1.1,h2,List.set_eq_take_append_cons_drop,if_pos h,lH,p7,cO]
theorem FV{l:O α}(hc:∀x∈l,(c x).length=sz){i j:Nat}(h:i<l.length)(a:j<sz){x:α}{v:aa}(hx:c x=(c l[i]).set j v):(bM c l).set (i*sz+j) v=bM c (l.set i x):=by
 have b:(c l[i]).length=sz:=hc _ (cE h);have h1:=xT hc h;have e:bM c l=bM c (l.take i)++(c l[i]++bM c (l.drop (i+1))):=by
  conv=>lhs;rw[←ib (i*sz) (bM c l),h1.1,h1.2]
 have d:(bM c (l.take i)).length=i*sz:=by
  rw[gL _ λx hx=>hc x (fp hx),cC,jj I]
 rw[e,List.set_append_right _ _ I,show i*sz+j-(bM c (l.take i)).length=j from I,List.set_append_left _ _ I,←hx,List.set_eq_take_append_cons_drop,if_pos h,lH,p7]
end
section
variable {α:Type} [DecidableEq α] {P:Program}{w:J}{hO fu T:TypeId}{enc:α->aa}{r:Nat}{M:O (α×aa)}{k:α}{v:aa}
theorem FW(f:mU P hO enc)(j:P.underlying T=some (.map hO fu))(h:eG w r enc M)(l:∀v,(k,v)∉M)(v:aa):
 ∃w1:J,(Instr.mapUpdate T (.map (some r)) (enc k) v).run P w=.ok () w1/\ad (λq=>q=r) w w1/\w1.heap.size=w.heap.size/\eG w1 r enc ((k,v)::M):=by
 have aK:=h.lt;obtain⟨L,c,h,h1,h2,m,g⟩:=h;have i:=Ag h1 l;have hf:=f.find L k w;rw[wW i]at hf;refine⟨iE w r (.map ((L.map (dV enc)).toArray.push ⟨enc k,v,c⟩) (c+1)),?_,q3 _ _ _,s6 _ _ _,L++ [(k,v,c)],c+1,?_,?_,?_,?_,?_⟩
 .simp only[Instr.mapUpdate,Sem.run_bind,dm j,Result.andThen,l5 h,Sem.run_pure,f.check,hf,wY h]
 .rw[s7 aK]
  simp[dV]
 .rw[fW]
  have:([(k,v,c)]:O (α×aa×Nat)).map lz=[(k,v)]:=rfl;rw[this];exact(qC).trans (List.Perm.cons _ h1)
 .rw[fW,oS]
  refine⟨h2,by simp,λa e b d=>?_⟩;obtain⟨x,hx,rfl⟩:=eE.1 e;simp only[ji,List.map_nil,fo]at d;subst d;exact i x hx
 .rw[fW,oS]
  refine⟨m,by simp,λa e b d=>?_⟩;obtain⟨x,hx,rfl⟩:=eE.1 e;simp only[ji,List.map_nil,fo]at d;subst d;have:=g x hx;omega
 .intro x hx
  rcases cT.1 hx with hx|hx
  .have:=g x hx;omega
  .rw[fo.1 hx];show c<c+1;omega
theorem FX(c:mU P hO enc)(g:P.underlying T=some (.map hO fu))(h:eG w r enc ((k,v)::M))(b:aa):
 ∃w1:J,(Instr.mapUpdate T (.map (some r)) (enc k) b).run P w=.ok () w1/\ad (λq=>q=r) w w1/\w1.heap.size=w.heap.size/\eG w1 r enc ((k,b)::M):=by
 have aK:=h.lt;obtain⟨n,bf,bz,a,f,h,h1,h2,i,d,_⟩:=h.split;have hf:=c.find (bf++(k,v,a)::bz) k w;rw[wX (Af h2),cB]at hf;have hg:((bf++(k,v,a)::bz).map (dV enc)).toArray[bf.length]? =some ⟨enc k,v,a⟩:=by simp[dV]
 have j:((bf++(k,v,a)::bz).map (dV enc)).toArray.modify bf.length (λe=>{e with key:=enc k,val:=b})=((bf++(k,b,a)::bz).map (dV enc)).toArray:=by
  apply Array.toList_inj.1;rw[Array.toList_modify,fW,ji];have:=Ae (λe=>{e with key:=enc k,val:=b}) (dV enc (k,v,a)) (bz.map (dV enc)) (bf.map (dV enc));rw[dL]at this;rw[this];simp[dV]
 refine⟨iE w r (.map ((bf++(k,b,a)::bz).map (dV enc)).toArray f),?_,q3 _ _ _,s6 _ _ _,bf++(k,b,a)::bz,f,s7 aK _,?_,?_,?_,?_⟩
 .simp only[Instr.mapUpdate,Sem.run_bind,dm g,Result.andThen,l5 h,Sem.run_pure,c.check,hf,hg,lh,qx,Instr.keyThatStays,c.bits,if_true,wY h,j]
 .rw[fW,ji]
  rw[fW]at h1;exact mG.trans (h1.cons _)
 .simpa using h2
 .simpa using i
 .intro x hx
  rcases cT.1 hx with hx|hx
  .exact d x (by simp[hx])
  .rcases cU.1 hx with rfl|hx
   .exact d (k,v,a) (by simp)
   .exact d x (by simp[hx])
end
abbrev cW:=O UInt8
structure g1 where
 i:Nat
 s:Y
 gn:O cW
structure aZ where
 d:Nat
 lb:Nat
 mr:Nat
 b3:O Int
 bh:O cW
 waits:O g1
 writes:Int
 aR:Nat
 bI:Nat->ai
 ep:Nat->O cW
 r1:ai
def g1.e(x:g1):Int×aa:=((x.i:Int),x.s)
def aZ.c(D:aZ):O aa:=D.b3.map (.int .i64)++ [.slice (some ⟨D.lb,0,none⟩) D.bh.length D.bh.length,.map (some D.mr),.int .i64 D.writes]
def aZ.n(D:aZ):Nat:=D.bh.length
abbrev encZ:Int->aa:=λn=>n
theorem oB:mU aj 3 encZ:=mU.int (by kernel_rfl)
theorem lI:Tryz.prog.underlying 137=some (.map 3 136):=by kernel_rfl
theorem Bi:(Tryz.prog.info? 136).bind (·.zero)=some (.slice none 0 0):=by kernel_rfl
theorem rM{P:Program}{T:TypeId}{z:aa}(h:(P.info? T).bind (·.zero)=some z):∃i,P.info? T=some i/\i.zero=some z:=by
 cases hi:P.info? T with
 |none=>rw[hi]at h;cases h
 |some i=>rw[hi]at h;exact⟨i,rfl,h⟩
def bX(D:aZ)(q:Nat):Prop:=q=D.d\/q=D.lb\/q=D.mr\/∃x∈D.waits,aB x.s q
structure cx(w:J)(D:aZ):Prop where
 v:Var w D.d D.c 141
 l:bu w D.lb (bM aJ D.bh).toArray 182
 m:eG w D.mr encZ (D.waits.map g1.e)
 ws:∀x∈D.waits,ba 256 182 w x.s (bM aJ x.gn)
 wn:∀x∈D.waits,x.gn≠ []/\x.i<D.n/\x.gn.length<=D.aR
 sl:∀s∈D.bh,s.length=256
 j6:∀x∈D.waits,∀s∈x.gn,s.length=256
 bW:16<=D.n
 bw:D.n<=1600
 f4:D.b3.length=4
 fr:∀x∈D.b3, -1<=x/\x<=9223372036854775807
 a1:D.d≠D.lb/\D.d≠D.mr/\D.lb≠D.mr
 a2:∀x∈D.waits,¬aB x.s D.d/\¬aB x.s D.lb/\¬aB x.s D.mr
 a3:∀x∈D.waits,∀y∈D.waits,x.i≠y.i->∀q,aB x.s q->¬aB y.s q
 r:D.r1=true->D.b3.getD 1 0= -1
theorem Bj{b3:O Int}{k:Nat}{x:Int}(a:b3.length=4)(h:b3.getD 1 0= -1)(hx:k=1->x= -1):(b3.set k x).getD 1 0= -1:=by
 rw[fq]at h⊢;by_cases e:k=1
 .subst e
  rw[List.getElem?_set_self I,hx rfl];rfl
 .rw[List.getElem?_set_ne e];exact h
section
variable {w w':J}{D:aZ}
theorem cx.ab{W:Nat->Prop}(h:cx w D)(hc:ad W w w')(a:∀q,bX D q->¬W q):cx w' D:=
 ⟨h.v.ab hc (a _ (.inl rfl)),bu.ab h.l hc (a _ (.inr (.inl rfl))),h.m.ab hc (a _ (.inr (.inr (.inl rfl)))),λx hx=>(h.ws x hx).ab hc λq b=>a q (.inr (.inr (.inr ⟨x,hx,b⟩))),h.wn,h.sl,h.j6,h.bW,h.bw,h.f4,h.fr,h.a1,h.a2,h.a3,h.r⟩
theorem cx.ext(h:cx w D)(hc:Ext w w'):cx w' D:=h.ab hc λ_ _ h=>h
theorem cx.lt(h:cx w D){q:Nat}(a:bX D q):q<w.heap.size:=by
 rcases a with rfl|rfl|rfl|⟨x,hx,a⟩
 .exact h.v.lt
 .exact bu.lt h.l
 .exact h.m.lt
 .exact(h.ws x hx).lt q a
theorem cx.p8(h:cx w D){k:Nat}(a:k<4):w.cell? ⟨D.d,k,none⟩=some (.int .i64 (D.b3.getD k 0)):=by
 rw[h.v.cell];unfold aZ.c;have:=h.f4;rw[List.getElem?_append_left (by rw[dL];omega),lk,dE I,fl I];rfl
theorem cx.du(h:cx w D):w.cell? (Addr.add D.d 4)=some (.slice (some D.lb) D.bh.length D.bh.length):=by
 rw[aw,h.v.cell];unfold aZ.c;have:=h.f4;rw[kl (by rw[dL];omega),dL,this];rfl
theorem cx.bc(h:cx w D):w.cell? (Addr.add D.d 5)=some (.map (some D.mr)):=by
 rw[aw,h.v.cell];unfold aZ.c;have:=h.f4;rw[kl (by rw[dL];omega),dL,this];rfl
theorem cx.b_(h:cx w D):w.cell? (Addr.add D.d 6)=some (.int .i64 D.writes):=by
 rw[aw,h.v.cell];unfold aZ.c;have:=h.f4;rw[kl (by rw[dL];omega),dL,this];rfl
theorem cx.rN(h:cx w D):D.c.length=7:=by
 unfold aZ.c;have:=h.f4;simp;omega
def aZ.now(D:aZ)(i:Nat):cW:=match D.waits.find? λx=>x.i==i with
 |some x=>x.gn.getLastD []
 |none=>D.bh.getD i []
theorem FY{α:Type}{l:O α}{d:α}(h:l≠ []):l.getLastD d∈l:=by
 cases l with
 |nil=>exact absurd rfl h
 |cons a l=>
  rw[List.getLastD_cons];rw[←List.getLast_eq_getLastD];exact List.getLast_mem h
theorem cx.oC(h:cx w D){i:Nat}(hi:i<D.n):(D.now i).length=256:=by
 unfold aZ.now
 cases hf:D.waits.find? λx=>x.i==i with
 |some x=>
  have hx:=jB hf;exact h.j6 x hx _ (FY (h.wn x hx).1)
 |none=>
  have a:i<D.bh.length:=hi;rw[show(match (none:aq g1) with|some x=>x.gn.getLastD []|none=>D.bh.getD i [])=D.bh.getD i [] from rfl,fl a];exact h.sl _ (cE _)
theorem p9(h:cx w D):aQ aj 72 #[.pointer (some D.d)] w (λv w'=>v=D.n/\w=w'):=by
 refine okF (af.tQ (some D.d)) aA.tQ func72 ?_;(delta af.tQ ak ag;dsimp only);exact⟨λh=>(by cases h),λ_=>⟨_,rfl,⟨some D.lb,D.bh.length,D.bh.length⟩,h.du,rfl,rfl⟩⟩
theorem Bk(h:cx w D)(i:Int):aQ aj 108 #[.pointer (some D.d),i] w (λv w'=>v=.bool (decide (0<=i/\i<D.n))/\w=w'):=by
 refine okF (af.ud (some D.d) i) aA.ud func108 ?_;(delta af.ud ak ag;dsimp only);refine cd (λb w'=>b=decide (0<=i/\i<D.n)/\w=w') (λq c=>⟨λa=>⟨_,rfl,⟨some D.lb,D.bh.length,D.bh.length⟩,h.du,c _ _ ⟨?_,rfl⟩⟩,λa=>c _ _ ⟨?_,rfl⟩⟩) ?_
 .have a:0<=i:=by simpa using a
  rw[fV,cQ,cQ];exact⟨λh=>⟨a,h⟩,λh=>h.2⟩
 .have a:¬0<=i:=by simpa using a
  rw[iV (λh=>a h.1)]
 .rintro _ _ ⟨rfl,rfl⟩
  exact⟨rfl,rfl⟩
end
def gy(f:Int):ai×Int:=if f= -1 then (false, -1) else if f=0 then (true, -1) else (false,f-1)
theorem FZ{f:Int}(h: -1<=f/\f<=9223372036854775807): -1<=(gy f).2/\(gy f).2<=9223372036854775807:=by
 unfold gy;split
 .exact⟨by decide,by decide⟩
 .split
  .exact⟨by decide,by decide⟩
  .show -1<=f-1/\f-1<=_;omega
def aZ.cA(D:aZ)(k:Nat):aZ:={D with b3:=D.b3.set k (gy (D.b3.getD k 0)).2}
def aZ.fR(D:aZ)(k:Nat):ai:=(gy (D.b3.getD k 0)).1
theorem xU{w:J}{D:aZ}(h:cx w D){k:Nat}(p:k<4):
 aQ aj 136 #[.pointer (some D.d),k] w (λv w'=>v=.bool (D.fR k)/\cx w' (D.cA k)/\ad (λq=>q=D.d) w w'/\w'.heap.size=w.heap.size):=by
 have hf:=h.p8 p;have g:=h.f4;have s: -1<=D.b3.getD k 0/\D.b3.getD k 0<=9223372036854775807:=by rw[fl I];exact h.fr _ (cE _)
 have j:∀ (w1:J),cx w1 D->cx (w1.setCell ⟨D.d,k,none⟩ (.int .i64 (gy (D.b3.getD k 0)).2)) (D.cA k):=by
  intro w1 h1;have hc:=dp w1 D.d k (.int .i64 (gy (D.b3.getD k 0)).2);have n:=dT h1.v (i:=k) (.int .i64 (gy (D.b3.getD k 0)).2);have e:D.c.set k (.int .i64 (gy (D.b3.getD k 0)).2)=(D.cA k).c:=by
   unfold aZ.c aZ.cA;rw[List.set_append_left _ _ (by rw[dL];omega),←List.map_set]
  rw[e]at n;refine⟨n,bu.ab h1.l hc (λe=>h.a1.1 e.symm),h1.m.ab hc (λe=>h.a1.2.1 e.symm),λx hx=>(h1.ws x hx).ab hc λq t e=>(h.a2 x hx).1 (by subst e;exact t),h.wn,h.sl,h.j6,h.bW,h.bw,by show(D.b3.set k _).length=4;rw[df];exact g,λx hx=>?_,h.a1,h.a2,h.a3,λo=>Bj g (h.r o) λe=>by subst e;rw[h.r o];rfl⟩;rcases lp hx with hx|rfl
  .exact h.fr x hx
  .exact FZ s
 have f:Addr.add D.d (Int.toNat (k:Int)*1)=⟨D.d,k,none⟩:=by rw[dc,fF,aw,cB]
 refine okF (af.uo (some D.d) (k:Int)) aA.uo func136 ?_;(delta af.uo r1 ak st au;dsimp only);refine⟨_,rfl,⟨I,by show(k:Int)<4;omega⟩,D.b3.getD k 0,by rw[f];exact hf,λh1=>?_,λh1=>⟨λh2=>⟨_,rfl,⟨I,by show(k:Int)<4;omega⟩,?_⟩,λh2=>aW ⟨_,rfl,⟨I,by show(k:Int)<4;omega⟩,id,_,by rw[f];exact hf,_,rfl,⟨I,by show(k:Int)<4;omega⟩,?_⟩⟩⟩
 .have h1:D.b3.getD k 0= -1:=by simpa using h1
  have a:D.fR k=false:=by unfold aZ.fR gy;rw[if_pos h1]
  have b:D.cA k=D:=by
   unfold aZ.cA gy;rw[if_pos h1];have:D.b3.set k (-1)=D.b3:=by
    rw[←h1,fl I];exact List.set_getElem_self _
   rw[this]
  rw[a,b];exact⟨rfl,h,.refl _ _,rfl⟩
 .have h1:D.b3.getD k 0≠ -1:=by simpa using h1
  have h2:D.b3.getD k 0=0:=by simpa using h2
  have hs:=dP h.v (i:=k) (by rw[h.rN];omega);have a:D.fR k=true:=by unfold aZ.fR gy;rw[if_neg h1,if_pos h2]
  have b:(gy (D.b3.getD k 0)).2= -1:=by unfold gy;rw[if_neg h1,if_pos h2]
  have:=j w h;rw[b]at this;rw[f,a];exact⟨hs.1,hs.2,aW ⟨rfl,this,dp _ _ _ _,by simp[World.setCell]⟩⟩
 .have h1:D.b3.getD k 0≠ -1:=by simpa using h1
  have h2:D.b3.getD k 0≠0:=by simpa using h2
  have hd:=h.ext (cj w);have hs:=dP hd.v (i:=k) (by rw[h.rN];omega);have a:D.fR k=false:=by unfold aZ.fR gy;rw[if_neg h1,if_neg h2]
  have b:(gy (D.b3.getD k 0)).2=D.b3.getD k 0-1:=by unfold gy;rw[if_neg h1,if_neg h2]
  have:=j w.drew hd;rw[b]at this;rw[f,a,bx I I];exact⟨hs.1,hs.2,aW ⟨rfl,this,(ad.cF (cj w)).trans (dp _ _ _ _),by simp[World.setCell]⟩⟩
end Go.Proofs.YtkdhdlfonmgheaaGreat
