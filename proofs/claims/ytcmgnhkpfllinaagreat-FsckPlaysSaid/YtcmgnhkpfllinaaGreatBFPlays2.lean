/- Contracts of the functions that the statement reaches, and the plain laws over them; each theorem stands with its conditions. -/
import Derived.Test.YtcmgnhkpfllinaaGreatBFPlays1
namespace Go.Proofs.YtcmgnhkpfllinaaGreat
open Go aU Go.Proofs.Tryz
variable{vs:O Y}{w:J}{i lo aG j k sz:Nat}{ds:O Nat}{ks ls:O Key}{B C W bw bD br:U1}{l:Key}{α:Type}{P:Program}{T:TypeId}
def jW:aA:=⟨false,[],[],[]⟩
def bG:U:=⟨none,0,0⟩
def zJ(leaf:ag)(l:O UInt8)(w w':J)(v:Y):Prop:=
 (∃ (n:aA) (K V D:U),v=.tuple #[dg n K V D,U8]/\gX leaf l n/\b2 (λq=>w<=q) w' n K V D)\/
 (v=.tuple #[dg jW bG bG bG,(4:Int)]/\∀n,¬gX leaf l n)
theorem jh{w':J}{h:Nat}(b:ag)(K V D:U)(c:Var w' h vs 169)(g:vs.length=4){Q:ag->U->U->U->U2}(j:∀ah,aa (λq=>q=h) w' ah->Q b K V D ah):
 c5 w' h [b,K,V,D]/\(4:Nat)=4/\au (setCells w' h 0 [b,K,V,D]) λah=>
  ∃i:ag,ah.cell? h=some (.bool i)/\∃d:U,ah.cell? (Addr.add h 1)=some (.slice d.a d.len d.cap)/\∃e:U,ah.cell? (Addr.add h 2)=some (.slice e.a e.len e.cap)/\
   ∃f:U,ah.cell? (Addr.add h 3)=some (.slice f.a f.len f.cap)/\Q i d e f ah:=by
 refine⟨c.cF (by rw[g];rfl) ?_,rfl,c6 c (us:=[b,K,V,D]) (by rw[g];rfl) rfl λah k hc _=>?_⟩
 .intro v c
  simp only[cN,er,ez]at c;rcases c with rfl|rfl|rfl|rfl<;>trivial
 .obtain⟨bM,aR,a7,bx⟩:=bS k
  exact⟨b,bM,K,aR,V,a7,D,bx,j ah hc⟩
theorem ou{s:U}{l:O UInt8}(hs:Src 1 w s (aC l))(hc:s.len<=s.cap)(W:∀k,ar s k->k<w)(aq:l.length<=100000)(leaf:ag):
 aI aj 206 #[leaf,s] w (λv w'=>zJ leaf l w w' v/\Ext w w'):=by
 refine okF (ad.ou leaf s) ay.ou func206 ?_;(delta ad.ou z3 bf ae b5 af yY b1 c2 dC aJ ap st cW bU ai aW av dY xs bR tg;dsimp only);refine bg (vs:=[false,(),(),()]) rfl λw1 aV au bO=>?_;refine bg (vs:=[s,true]) rfl λah aX X bV=>?_;refine bg (vs:=[false,(),(),()]) rfl λbX ax G bY=>?_;refine⟨ax.cF rfl (by
  intro v aA;simp only[cN,er,ez]at aA;rcases aA with rfl|rfl|rfl|rfl<;>trivial),rfl,c6 ax (us:=[leaf,(),(),()]) rfl rfl λo aY H bZ=>?_⟩
 obtain⟨lo,b0⟩:=U6 o.heap.size;obtain⟨r,aD⟩:=U6 w1.heap.size;obtain⟨nb,aE⟩:=U6 ah.heap.size;have aZ:Ext w o:=Ext.bQ (au.trans (X.trans G)) H I;have a0:kf o w1 s (l,true):=by
  refine⟨(aX.ext G).ab H I,(hs.ext (au.trans (X.trans G))).ab H λk c e=>?_,hc,λk c=>?_⟩
  .have:=W k c;omega
  .have:=W k c;omega
 refine(zG a0 1 (by decide) aq).use ?_;rintro _ aF ⟨aG,rfl,a1,Y,a2⟩;have b3:(rdNum (l,true) 1).1<256:=zH _ 1;have b4:=Y.size;have aH:kY lo aF r nb aG (⟨leaf,[],[],[]⟩,(rdNum (l,true) 1).2) bG bG bG (λ_=>False) (λ_=>False) (λ_=>False):=by
  refine⟨by rw[aE];exact aY.ab Y I,by rw[aD];exact a1,bq.none _ _,bq.none _ _,cM.none _ _,λq h=>h.elim,λq h=>h.elim,λq h=>h.elim,λq a=>?_,I,I,I,fg (xH _ 1) aq⟩;have:=W q (a2 q a);exact⟨I,I⟩
 have aK:aa (pY lo r nb) o aF:=Y.mono λk _ c=>.inl I;rw[←aD,←aE];refine⟨_,rfl,jQ (λw'=>∃ (x D:U) (br:U1),kY lo w' r nb x (nv leaf (rdNum (l,true) 1).2) bG bG D (λ_=>False) (λ_=>False) br/\aa (pY lo r nb) o w'/\lo<=w') (λq a=>⟨λd=>?_,λd=>a _ ⟨aG,bG,λ_=>False,?_,aK,I⟩⟩) ?_⟩
 .have d:leaf=false:=by simpa using d
  subst d;refine C9 aH I U9 λw' az x a3 h1 m p=>a _ ⟨x,az,a3,?_,aK.trans m,p⟩;have:nv false (rdNum (l,true) 1).2=(⟨false,[],[],[]++ [(rdNum (rdNum (l,true) 1).2 2).1]⟩,(rdNum (rdNum (l,true) 1).2 2).2):=by simp[nv]
  rw[this];exact h1
 .have d:leaf=true:=by simpa using d
  subst d;exact aH
 rintro b6 ⟨a4,a5,a6,aM,a8,a9⟩;obtain⟨f,L⟩:=U6 (nv leaf (rdNum (l,true) 1).2);rw[←L]at aM;have ba:f.1.leaf=leaf:=by rw[L];unfold nv;cases leaf<;>rfl
 have b7:f.1.keys.length=0/\f.1.vals.length<=1/\f.1.kids.length<=1:=by rw[L];unfold nv;cases leaf<;>simp
 refine⟨λi w'=>∃ (j:Nat) (x K V D:U) (bw bD br:U1),i=j/\j<=(rdNum (l,true) 1).1/\kY lo w' r nb x (jg f j) K V D bw bD br/\aa (pY lo r nb) o w'/\lo<=w',λi _=>(((rdNum (l,true) 1).1:Int)-i).toNat,⟨0,a4,bG,bG,a5,_,_,a6,rfl,cw _,aM,a8,a9⟩,?_⟩;rintro _ aN ⟨j,b8,K,V,D,bw,bD,br,rfl,b9,g,M,bb⟩;obtain⟨bc,bd,be⟩:=C8 f j;have y:=C7 f j ba;refine⟨λaB=>?_,λZ=>?_⟩
 .have aB:j<(rdNum (l,true) 1).1:=by have:=bB aB;omega
  rw[bl (n:=(j:Int)+1) I I];refine jQ (λw'=>∃ (x K V D:U) (bw bD br:U1),kY lo w' r nb x (jg f (j+1)) K V D bw bD br/\aa (pY lo r nb) o w'/\lo<=w') (λq a=>?_) ?_
  .refine Ig g bb I λz N aP P R S T=>⟨λd=>?_,λd=>?_⟩
   .refine Ih R T (by show(jg f j).1.vals.length<=_;omega) λac bi ak bj C t al=>a _ ⟨ak,N,bi,D,P,bj,br,?_,M.trans (S.trans t),al⟩
    rw[jg];unfold pU;rw[y,d,if_pos rfl];rw[y,d]at C;exact C
   .refine C9 R T (by show(jg f j).1.kids.length<=_;omega) λac bk ak bm C t al=>a _ ⟨ak,N,V,bk,P,bD,bm,?_,M.trans (S.trans t),al⟩
    rw[jg];unfold pU;rw[y,d,if_neg U9];rw[y,d]at C;exact C
  .rintro z ⟨aP,N,bn,bp,P,bs,bt,R,S,T⟩
   refine⟨⟨j+1,aP,N,bn,bp,P,bs,bt,I,I,R,S,T⟩,?_⟩;show(((rdNum (l,true) 1).1:Int)-((j:Int)+1)).toNat<(((rdNum (l,true) 1).1:Int)-(j:Int)).toNat;omega
 .have Z:j=(rdNum (l,true) 1).1:=by have:=bT Z;omega
  have bu:jg f j=jF leaf l:=by rw[Z,L];rfl
  rw[bu]at g bc bd be y;obtain⟨bM,aR,a7,bx⟩:=bS g.v;have cO:b2 (λq=>lo<=q) aN (jF leaf l).1 K V D:=⟨bo.bh (bq.im g.keys) λq _ a=>(g.bW q a).1,bo.bh (bq.im g.vals) λq _ a=>(g.bv q a).1,cK.bh (cM.pV g.kids) λq _ a=>(g.aO q a).1⟩;have bz:Ext w aN:=Ext.dH aZ M λk c=>by
   rcases c with c|c|c<;>omega
  refine⟨_,bM,K,aR,V,a7,D,bx,(pH cO I I I).use ?_⟩;rintro bA z ⟨bC,E⟩;have am:=bz.trans E;have bE:=g.v.ext E;have bF:=g.rd.ext E;have aQ:Var z w [false,(),(),()] 169:=by
   refine(Var.ab (w:=o) ?_ M ?_).ext E
   .exact(((aV.ext X).ext G).ab H I)
   .rintro(c|c|c)<;>omega
  have bH:=cO.ext E;obtain⟨d0,d1,d2,d3⟩:=bS bE;have bI:∃ (A:U) (e:Int),bA=Value.tuple #[A,e]/\(e=0->aL 1 5 z A (aC (ew (jF leaf l).1))/\cC (jF leaf l).1/\bP (jF leaf l).1<=232)/\(e≠0->cC (jF leaf l).1->232<bP (jF leaf l).1):=by
   rcases bC with ⟨A,rfl,h1,m,p,B⟩|⟨e,rfl,h1,m⟩
   .exact⟨A,0,rfl,λ_=>⟨h1,p,B⟩,λh=>absurd rfl h⟩
   .exact⟨bG,e,rfl,λh=>absurd h h1,λ_=>m⟩
  obtain⟨A,e,rfl,bJ,aS⟩:=bI;have bK:Src 1 z s (aC l):=hs.ext am
  have aT:∀n,gX leaf l n->jF leaf l=(n,([],true)):=by
   rintro n ⟨h1,m,p,B⟩;have:=zA h1 p;rw[m,B]at this;exact this
  refine⟨A,e,rfl,_,rfl,(jF leaf l).2.2,by rw[aw];exact bF.v.cell,cx (λb w'=>z=w'/\(b=true->∀n,¬gX leaf l n)/\(b=false->gX leaf l (jF leaf l).1)) (λq a=>⟨λh1=>a _ _ ⟨rfl,λ_ n F=>?_,nofun⟩,λh1=>?_⟩) ?_⟩
  .have hu:=aT n F
   obtain⟨m,p,B,aU⟩:=F;rw[hu]at h1 aS;have h1:(e !=0)=true:=by simpa using h1
   have b_:232<bP n:=aS (by simpa using h1) m;omega
  .have bL:(jF leaf l).2.2=true/\e=0:=by
    simp only[hV,mv,bne_eq_false_iff_eq]at h1;exact h1
   obtain⟨m,rfl⟩:=bL;obtain⟨p,B,aU⟩:=bJ rfl;refine(q3 p.src bK).use ?_;rintro _ _ ⟨rfl,rfl⟩;refine⟨_,rfl,a _ _ ⟨rfl,λu n F=>?_,λu=>?_⟩⟩
   .have hu:=aT n F
    have u:¬ew (jF leaf l).1=l:=by simpa using u
    rw[hu]at u;exact u F.2.2.2
   .have u:ew (jF leaf l).1=l:=by simpa using u
    exact⟨B,y,aU,u⟩
  rintro b w' ⟨rfl,ao,bN⟩;refine⟨λan=>?_,λan=>⟨_,d0,K,d1,V,d2,D,d3,?_⟩⟩
  .refine jh false bG bG bG aQ rfl (Q:=λb K V D ah=>(λv w'=>zJ leaf l w w' v/\Ext w w') (.tuple #[.agg #[b,K,V,D],(4:Int)]) ah) λac t=>⟨.inr ⟨rfl,ao an⟩,Ext.bQ am t (a_ _)⟩
  .refine jh (jF leaf l).1.leaf K V D aQ rfl (Q:=λb K V D ah=>(λv w'=>zJ leaf l w w' v/\Ext w w') (.tuple #[.agg #[b,K,V,D],U8]) ah) λac t=>⟨.inl ⟨(jF leaf l).1,K,V,D,rfl,bN an,?_⟩,Ext.bQ am t (a_ _)⟩
   exact(bH.ab t λk c e=>I).bh λk _ c=>by omega
theorem Ii{s v:U}{xs:O Y}{m9:Nat}{nY:Array Y}{an:TypeId}(H:aL 1 39 w s vs)(N:Src 1 w v xs)(g:v.len=1)(aq:v.a=some ⟨m9,0,none⟩)(T:bp w m9 nY an)(au:¬ar s m9)
 (V:∀u∈xs,Plain u) (aP:∀u∈vs,Plain u) (hi:i<=s.len) (ba:s.len<=1000000):
 aI aj 200 #[s,.int .i64 (i:Int),v] w (λu w'=>∃z:U,u=z/\aL 1 39 w' z (vs.take (i*1)++xs++vs.drop (i*1))/\z.len=s.len+1/\aa (ar s) w w'/\(∀k,ar z k->ar s k\/w<=k)):=by
 obtain⟨h1,bb,bc,aQ,av,aR,aS,E,aw,aT⟩:=(rR).out;obtain⟨d0,K⟩:=kp _ av;refine okF (ad.vT s i v) ay.vT func200 ?_;(delta ad.vT af ap ai e6;dsimp only);have bd:=H.2.1;have be:=H.2.2.1;have bf:maxLen=9223372036854775807:=rfl;have p:xs.length=1:=by have:=N.len;rw[g]at this;omega
 have X:=H.1;refine⟨⟨I,I⟩,λh=>by rw[g]at h;simp at h,λ_=>⟨λh=>?_,λh=>?_⟩⟩
 .have aU:i=s.len:=U4 (eq_of_beq h)
  subst aU;obtain⟨z,w',ao,aV,Z,Q,F⟩:=(rR).append (c7:=93) N H V (by rw[g];omega);refine⟨z,w',ao,z,rfl,?_,by rw[Z,g],Q,F⟩;rwa[eZ I,List.drop_of_length_le I,fO]
 have aB:i<s.len:=by
  have h:¬((i:Int)=(s.len:Int)):=λe=>by rw[e]at h;simp at h
  omega
 obtain⟨_,hc⟩|⟨b,c,r,G,ax,az⟩:=H.2.2.2
 .omega
 have aW:b≠m9:=λe=>au ⟨_,r,e⟩;have aX:IntKind.wrap .i64 ((s.len:Int)+(v.len:Int))=((s.len+1:Nat):Int):=by rw[g,bl I I];rfl
 have aY:IntKind.wrap .i64 ((i:Int)+(v.len:Int))=((i+1:Nat):Int):=by rw[g,bl I I];rfl
 have aZ:IntKind.wrap .i64 (((s.len+1:Nat):Int)-(i:Int))=((s.len+1-i:Nat):Int):=by rw[bl I I];omega
 have bg:c.toList.length=s.cap*1:=by simpa using ax
 have aA:∀k,k<=s.len->vs.take (k*1)=c.toList.take (k*1):=λk d=>by rw[←az,o1,km I]
 have aC:vs.drop (i*1)=(c.toList.drop (i*1)).take ((s.len-i)*1):=by rw[←az,List.drop_take,show s.len*1-i*1=(s.len-i)*1 from I]
 have aD:∀u∈vs.drop (i*1),Plain u:=λu hu=>aP u (gb hu);have B:(vs.drop (i*1)).length=(s.len-i)*1:=by rw[dW,X];omega
 have L:∀ (ac o l m:Nat),l<m->bj (some (Addr.mk ac o none)) 1 l m=some ⟨ac,o+l*1,none⟩:=λac o l m bh=>po I;simp only[aX,aY,aZ,cS,ql,vn];refine⟨λhg=>?_,λhg=>?_⟩
 .have bi:s.cap<s.len+1:=U4 (bB hg)
  have a0:Src 1 w ⟨some b,i,s.cap⟩ (vs.take (i*1)):=by
   have:=G.qU (sz:=1) (o:=0) (n:=i) (cap:=s.cap) I;rw[mn]at this;rwa[aA i I]
  obtain⟨j,zs,rest,ao,aV,Z,Q,F⟩:=GB (P:=aj) (gw:= #[93,3]) (c7:=93) (lu:=3) (k:=.i64) (s:=⟨some b,i,s.cap⟩) (n:=s.len+1-i) rfl rfl h1 U3 aQ av aR aS E (aw▸aT) a0 (by show s.cap<i+_;omega) (by rw[aw];show(2*(i+_)+1000)*_<=_;omega);have a1:i+(s.len+1-i)=s.len+1:=I
  simp only[a1]at ao Q F;obtain⟨C,ae⟩:=U6 ((vs.take (i*1)++zs++rest).toArray);rw[←ae]at F;obtain⟨D,ag⟩:=U6 (w.drew.alloc (.cells C 39));rw[←ag]at F;have aE:bp D w C 39:=by rw[ag];exact bp.new w.drew _ _
  have aF:Ext w D:=by rw[ag];exact aa.alloc (aa.drew (.refl _ _)) _
  have f:(vs.take (i*1)).length=i*1:=by rw[cQ,X];omega
  have aG:C.size=j*1:=by rw[ae];simp[f,Z,Q];omega
  have bk:C.toList.length=j*1:=by simpa using aG
  have M:=vm (P:=aj) (nh:=93) (dN:=93) (ty:=3) (A:=⟨w,0+i*1,none⟩) (dl:=s.len+1-i) (pq:=j-i) (n:=1) h1 K E (x:=v) (by rw[g];exact km I) (xs:=xs) (by have:=N.ext aF;have e:(⟨v.a,1,v.cap⟩:U)=v:=(by rw[←g]);rw[e];exact this) (by rw[cT];exact aE.cF _ _ I V);obtain⟨t,ah⟩:=U6 (setCells D ⟨w,0+i*1,none⟩ 0 xs);rw[←ah]at M;have aJ:bp t w (g4 C (i*1) xs) 39:=by rw[ah,cT];exact aE.j9 xs
  have a2:Ext w t:=by rw[ah];exact Ext.dH aF (aa.kT (.refl _ _) xs 0) (λk d=>by subst d;exact a_ _)
  have a3:Ext t t.drew:=aa.drew (.refl _ _);have aK:=Ext.trans a2 a3;have al:=vm (P:=aj) (w:=t.drew) (nh:=93) (dN:=93) (ty:=3) (A:=⟨w,0+(i+1)*1,none⟩) (dl:=s.len+1-(i+1)) (pq:=j-(i+1)) (n:=s.len-i) h1 K E (x:=⟨some ⟨b,0+i*1,none⟩,s.len-i,s.cap-i⟩) (km (by show s.len-i<=_;omega)) (xs:=vs.drop (i*1))
   (by have:=(G.ext aK).qU (sz:=1) (o:=i*1) (n:=s.len-i) (cap:=s.cap-i) I;rw[aC,cT];exact this) (by rw[cT];exact bp.cF (bp.drew aJ) _ _ (by rw[jb];omega) aD)
  have R:bj (some (Addr.mk w 0 none)) 1 i j=some ⟨w,0+i*1,none⟩:=L _ _ _ _ I;have S:bj (some (Addr.mk w 0 none)) 1 (i+1) j=some ⟨w,0+(i+1)*1,none⟩:=L _ _ _ _ I;have a4:bj s.a 1 i s.cap=some ⟨b,0+i*1,none⟩:=by rw[r];exact L _ _ _ _ I
  have a5:Sem.run aj (Builtin.append_ #[93,3] 93 #[.slice s.a i s.cap,.int .i64 ((s.len+1-i:Nat):Int)]) w=.ok (.slice (some w) (s.len+1) j) D:=by rw[r];exact F
  refine⟨⟨I,I⟩,⟨some w.heap.size,s.len+1,j⟩,D,a5,⟨I,by show(i:Int)<=((s.len+1:Nat):Int);omega⟩,_,t,by rw[R];exact M,aH ⟨⟨I,by show((i+1:Nat):Int)<=((s.len+1:Nat):Int);omega⟩,⟨I,I⟩,_,_,by rw[S,a4];exact al,⟨some w.heap.size,s.len+1,j⟩,rfl,?_,rfl,?_,?_⟩⟩
  .refine aL.mk' ((bp.drew aJ).j9 (o:=0+(i+1)*1) _) (by simp[f,p,B];omega) I I (by rw[jb,jb,aG]) ?_
   rw[lv _ _ _ (by rw[jb];omega),lv _ _ _ I];have t1:C.toList.take (i*1)=vs.take (i*1):=by rw[ae,sH,cU];exact List.take_left' f
   have t2:(C.toList.take (i*1)++xs++C.toList.drop (i*1+xs.length)).take (0+(i+1)*1)=vs.take (i*1)++xs:=by
    rw[t1,nR (by simp[f,p];omega),eZ (by simp[f,p];omega)]
   rw[t2,nR (by simp[f,p,B];omega),eZ (by simp[f,p,B];omega)]
  .exact aa.da (Ext.dH aK (aa.kT (.refl _ _) _ 0) (λk d=>by subst d;exact a_ _))
  .rintro k ⟨A,ak,d⟩
   cases ak;exact .inr (Nat.le_of_eq d)
 .have bm:s.len+1<=s.cap:=U4 (bT hg)
  have R:bj s.a 1 (i+1) s.cap=some ⟨b,0+(i+1)*1,none⟩:=by rw[r];exact L _ _ _ _ I
  have S:bj s.a 1 i s.cap=some ⟨b,0+i*1,none⟩:=by rw[r];exact L _ _ _ _ I
  have a6:Sem.run aj (callFunc 248 #[v,.slice (some ⟨b,0+(i+1)*1,none⟩) (s.len+1-(i+1)) (s.cap-(i+1))]) w=.ok (.value false) w:=by
   rw[aq,run_callFunc_extern (e:=Extern.SlicesOverlaps.overlaps #[93,93] #[4]) func248 U3 U3 U3 U3];have:=Lib.run_overlaps_apart (P:=aj) w 93 4 39 h1 1 (λw=>by have:=iH (w:=w) K;rwa[E]at this) m9 ⟨b,0+(i+1)*1,none⟩ v.len v.cap (s.len+1-(i+1)) (s.cap-(i+1)) (λe=>aW e.symm) an 39 nY.size c.size
    (by have:=T;unfold bp at this;simp[World.shape?,this]) (by have:=G;unfold bp at this;simp[World.shape?,this]) I (T.frozen _ rfl) (T.frozen _ rfl)
   rw[this];rfl
  have M:=vm (P:=aj) (w:=w.drew) (nh:=93) (dN:=93) (ty:=3) (A:=⟨b,0+(i+1)*1,none⟩) (dl:=s.len+1-(i+1)) (pq:=s.cap-(i+1)) (n:=s.len-i) h1 K E (x:=⟨some ⟨b,0+i*1,none⟩,s.len+1-i,s.cap-i⟩) ((Nat.min_eq_right (by show _<=s.len+1-i;omega)).trans I) (xs:=vs.drop (i*1))
   (by have:=(bp.drew G).qU (sz:=1) (o:=i*1) (n:=s.len-i) (cap:=s.cap-i) I;rw[aC,cT];exact this) (by rw[cT];exact bp.cF (bp.drew G) _ _ I aD)
  obtain⟨y,am⟩:=U6 (setCells w.drew ⟨b,0+(i+1)*1,none⟩ 0 (vs.drop (i*1)));rw[←am]at M;have aM:bp y b (g4 c ((i+1)*1) (vs.drop (i*1))) 39:=by rw[am,cT];exact(bp.drew G).j9 _
  have aN:aa (ar s) w y:=by
   rw[am];exact aa.mono (W:=λq=>q=b) (aa.kT (aa.drew (.refl _ _)) _ 0) (λk _ d=>⟨_,r,d.symm⟩)
  have a7:Src 1 y v xs:=N.ab aN (λk d a8=>by obtain⟨A,ak,rfl⟩:=d;rw[aq]at ak;cases ak;exact au a8);have al:=vm (P:=aj) (w:=y) (nh:=93) (dN:=93) (ty:=3) (A:=⟨b,0+i*1,none⟩) (dl:=s.len+1-i) (pq:=s.cap-i) (n:=1) h1 K E (x:=v) (by rw[g];exact km I) (xs:=xs) (by have e:(⟨v.a,1,v.cap⟩:U)=v:=(by rw[←g]);rw[e];exact a7) (by rw[cT];exact aM.cF _ _ (by rw[jb];omega) V);refine⟨⟨I,I⟩,⟨I,I⟩,false,w,by rw[R];exact a6,λ_=>aH ⟨⟨I,I⟩,⟨I,I⟩,_,y,by rw[R,S];exact M,⟨I,I⟩,_,_,by rw[S];exact al,⟨s.a,s.len+1,s.cap⟩,rfl,?_,rfl,?_,λk d=>.inl d⟩,λh=>by simp at h⟩
  .have aO:aL 1 39 (setCells y ⟨b,0+i*1,none⟩ 0 xs) ⟨some b,s.len+1,s.cap⟩ (vs.take (i*1)++xs++vs.drop (i*1)):=by
    have f:(vs.take (i*1)).length=i*1:=by rw[cQ,X];omega
    refine aL.mk' (aM.j9 (o:=0+i*1) _) (by simp[f,p,B];omega) I I (by rw[jb,jb,ax]) ?_;rw[lv _ _ _ (by rw[jb];omega),lv _ _ _ I];have t1:(c.toList.take ((i+1)*1)++vs.drop (i*1)++c.toList.drop ((i+1)*1+(vs.drop (i*1)).length)).take (0+i*1)=vs.take (i*1):=by
     rw[cT,nR (by simp[B];omega),nR (by simp;omega),o1,aA i I,km I]
    have t2:(c.toList.take ((i+1)*1)++vs.drop (i*1)++c.toList.drop ((i+1)*1+(vs.drop (i*1)).length)).drop (0+i*1+xs.length)=vs.drop (i*1)++c.toList.drop ((i+1)*1+(vs.drop (i*1)).length):=by
     have a9:(c.toList.take ((i+1)*1)).length=0+i*1+xs.length:=by simp;omega
     rw[cU,←a9,List.drop_left]
    rw[t1,t2,←cU,nR (by simp[f,p,B];omega),eZ (by simp[f,p,B];omega)]
   rw[←r]at aO;exact aO
  .exact aN.trans (aa.mono (W:=λq=>q=b) (aa.kT (.refl _ _) _ 0) (λk _ d=>⟨_,r,d.symm⟩))
theorem Ij{s:U}(m:aL 1 39 w s vs)(N:∀u∈vs,Plain u)(Q:∀z,(Tryz.prog.info? 39).bind (·.zero)=some z->∀u∈z.cells.toList,Plain u)(hi:i<s.len)(ao:s.len<=1000000):
 aI aj 184 #[s,.int .i64 (i:Int),.int .i64 ((i+1:Nat):Int)] w (λu w'=>∃p:U,u=p/\aL 1 39 w' p (vs.take (i*1)++vs.drop ((i+1)*1))/\p.len=s.len-1/\p.a=s.a/\aa (ar s) w w'):=by
 obtain⟨h1,aq,d,C,R,D,E,S,au,av⟩:=(rR).out;obtain⟨d0,V⟩:=kp _ R;refine okF (ad.vS s i ((i+1:Nat):Int)) ay.vS func184 ?_;(delta ad.vS af ap c0;dsimp only);have ax:=m.2.1;have X:=m.2.2.1;have F:=m.1;obtain⟨_,hc⟩|⟨b,c,f,Z,G,H⟩:=m.2.2.2
 .omega
 have az:c.toList.length=s.cap*1:=by simpa using G
 simp only[cS,ql,vn];have ab:vs.drop ((i+1)*1)=(c.toList.drop ((i+1)*1)).take ((s.len-(i+1))*1):=by rw[←H,List.drop_take,show s.len*1-(i+1)*1=(s.len-(i+1))*1 from I]
 have e:(vs.drop ((i+1)*1)).length=(s.len-(i+1))*1:=by rw[dW,F];omega
 have ac:vs.take (i*1)=c.toList.take (i*1):=by rw[←H,o1,km I]
 have l:(vs.take (i*1)).length=i*1:=by rw[cQ,F];omega
 have ae:∀u∈vs.drop ((i+1)*1),Plain u:=λu hu=>N u (gb hu);have t:bp w.drew b c 39:=bp.drew Z;have ag:Src 1 w.drew ⟨bj s.a 1 (i+1) s.cap,s.len-(i+1),s.cap-(i+1)⟩ (vs.drop ((i+1)*1)):=by
  by_cases he:i+1=s.cap
  .have v:s.len-(i+1)=0:=I
   refine⟨by rw[e],λ_=>kN.1 (by rw[e,v,mj]),λa _=>?_⟩;have:vs.drop ((i+1)*1)=[]:=kN.1 (by rw[e,v,mj]);rw[this];show cv _ _ 0 ((s.len-(i+1))*1)=_;rw[v,mj];rfl
  .rw[f,po I,ab,cT]
   exact t.qU I
 have x:=ve (P:=aj) (gw:= #[93,93]) (c7:=93) (s:=⟨s.a,i,s.cap⟩) rfl rfl h1 h1 V S ag (by show i+(s.len-(i+1))<=s.cap;omega) (λa r=>by
  have r:s.a=some a:=r;rw[f]at r;cases r;rw[aw,cT];exact t.cF _ _ (by show i*1+_<=_;omega) ae)
 have ah:i+(s.len-(i+1))=s.len-1:=I
 simp only[f,aw,cT,ah]at x;obtain⟨g,y⟩:=U6 (setCells w.drew ⟨b,i*1,none⟩ 0 (vs.drop ((i+1)*1)));rw[←y]at x;have K:bp g b (g4 c (i*1) (vs.drop ((i+1)*1))) 39:=by rw[y];exact t.j9 _
 have ai:aa (ar s) w g:=by
  rw[y];exact aa.mono (W:=λq=>q=b) (aa.kT (aa.drew (.refl _ _)) _ 0) (λk _ B=>⟨_,f,B.symm⟩)
 obtain⟨zs,aA,ak⟩:=Ci (P:=aj) (w:=g) (T:=93) (o:=0) (n:=1) (c:=s.cap-(s.len-1)) (A:=⟨b,(s.len-1)*1,none⟩) h1 C D E (by decide) (λzs L=>by
  refine K.cF _ _ (by rw[L,jb];simp[Builtin.zeroCells,E];omega) λu hu=>?_;rw[L]at hu;simp only[Builtin.zeroCells,Array.toList_map,df]at hu;obtain⟨j,M,rfl⟩:=hu;have M:j<1*d.cells.size:=by simpa using M
  have al:j%d.cells.size<d.cells.size:=gu _ I;have hg:d.cells[j%d.cells.size]! =d.cells[j%d.cells.size]:=getElem!_pos d.cells (j%d.cells.size) al;rw[hg];exact Q d (C▸D) _ U9)
 have am:bj (some (Addr.mk b 0 none)) 1 (s.len-1) s.cap=some ⟨b,(s.len-1)*1,none⟩:=by rw[po I,cT]
 have an:s.len-(s.len-1)=1:=I
 refine⟨⟨I,I⟩,⟨I,I⟩,⟨I,I⟩,λh=>?_,λ_=>aH ⟨⟨I,I⟩,⟨I,I⟩,⟨some b,s.len-1,s.cap⟩,g,by rw[f];exact x,⟨I,by show(s.len:Int)<=(s.cap:Int);omega⟩,⟨I,by show((s.len-1:Nat):Int)<=(s.len:Int);omega⟩,_,_,by rw[an,am];exact ak,⟨some b,s.len-1,s.cap⟩,rfl,?_,rfl,f.symm,?_⟩⟩
 .have:=eq_of_beq h;omega
 .refine aL.mk' (K.j9 _) (by simp[l,e];omega) I X (by rw[jb,jb,G]) ?_
  rw[lv _ _ _ (by rw[jb];omega),lv _ _ _ I];have t1:(c.toList.take (i*1)++vs.drop ((i+1)*1)++c.toList.drop (i*1+(vs.drop ((i+1)*1)).length)).take ((s.len-1)*1)=vs.take (i*1)++vs.drop ((i+1)*1):=by
   rw[←ac,nR (by simp[l,e];omega),eZ (by simp[l,e];omega)]
  rw[t1,cU,nR (by simp[l,e];omega),eZ (by simp[l,e];omega)]
 .exact ai.trans (aa.mono (W:=λq=>q=b) (aa.kT (.refl _ _) _ 0) (λk _ B=>⟨_,f,B.symm⟩))
theorem tU{s:U}(h:Src 1 w s (dv ds))(i:ds.length<=1000000):
 aI aj 228 #[s] w (λv w'=>∃b:U,v=b/\aL 1 3 w' b (dv ds)/\Ext w w'/\fI w b):=by
 have j:s.len=ds.length:=by have:=h.len;rw[mK]at this;omega
 refine okF (ad.vX s) ay.vX func228 ?_;(delta ad.vX af ap ae;dsimp only);refine⟨λc=>?_,λ_=>?_⟩
 .have c:s.a=none:=by simpa using c
  rw[h.nil c];exact⟨⟨none,0,0⟩,rfl,aL.none _ _ _,.refl _ _,λk d=>(gE k d).elim⟩
 .obtain⟨b,w',h1,e,l,f,g,_⟩:=mL.clone (c7:=72) h (xC ds) I
  exact aH ⟨b,w',h1,b,rfl,e,f,g⟩
theorem Ik{k:Key}{a:Nat}(e:a<=ks.length)(h1:∀ (j:Nat) (h:j<ks.length),j<a->b9 ks[j] k)(d:∀ (j:Nat) (h:j<ks.length),a<=j->¬b9 ks[j] k):cX ks k=a:=by
 unfold cX;rcases dA a ks.length with h|h
 .exact(List.findIdx_eq h).2 ⟨dm (d a h (a_ _)),λj b=>ib λc=>c (h1 j I b)⟩
 .have:a=ks.length:=I
  subst this;refine List.findIdx_eq_length_of_false λx hx=>?_;obtain⟨j,b,rfl⟩:=eO hx;exact ib λc=>c (h1 j b b)
def iq(ks:O Key)(k:Key):ag:=decide (ks[cX ks k]? =some k)
theorem Il{C:U1}{s t:U}{key:Key}(hs:bo B w s ks)(ht:Src 1 w t (aC key))(y:ks.Pairwise b9)(P:ks.length<=100000):
 aI aj 223 #[s,t,.func (.func 219) #[] #[]] w (λv w'=>v=.tuple #[.int .i64 ((cX ks key:Nat):Int),.bool (iq ks key)]/\w=w'):=by
 refine okF (ad.vU s t ⟨219,#[],#[]⟩) ay.vU func223 ?_;(delta ad.vU gg af ai aJ aQ aO aV;dsimp only);have z:=bo.len hs;have p:jN aj 219:=⟨_,(qu (show(Tryz.prog.funcs[219]?).isSome=true by kernel_rfl)).symm,by kernel_rfl,by kernel_rfl⟩;have aB:=λ{i j:Nat} (hi:i<j) (e:j<ks.length)=>lT.1 y i j I e hi;refine⟨λlo hi w'=>∃a b:Nat,lo=a/\hi=b/\a<=b/\b<=ks.length/\w=w'/\(∀ (j:Nat) (h:j<ks.length),j<a->b9 ks[j] key)/\(∀ (j:Nat) (h:j<ks.length),b<=j->¬b9 ks[j] key),λlo hi _=>(hi-lo).toNat,
  ⟨0,ks.length,rfl,by rw[z],cw _,a_ _,rfl,λj _ h=>I,λj h f=>I⟩,?_⟩
 rintro _ _ _ ⟨a,b,rfl,rfl,Q,r,rfl,h1,f⟩;have D:=GC (a:=a) (b:=b) I;refine⟨λh=>?_,λh=>?_⟩
 .have E:(a:Int)<(b:Int):=bB h
  rw[D];obtain⟨m,F⟩:=U6 ((a+b)/2);rw[←F];have G:a<=m:=I
  have R:m<b:=I
  obtain⟨A,t2,ak,g,k,l,_⟩:=bo.at hs (i:=m) I;refine⟨by decide,A,ak,g,t2,k,p,(mF l.1 ht).use ?_⟩;rintro _ _ ⟨rfl,rfl⟩;have H:IntKind.wrap .i64 ((m:Int)+1)=((m+1:Nat):Int):=by rw[bl I I];rfl
  refine⟨_,rfl,λhc=>?_,λhc=>?_⟩
  .have hc:b9 ks[m] key:=bB hc
   rw[H];have n:((b:Int)-((m+1:Nat):Int)).toNat<((b:Int)-(a:Int)).toNat:=I
   refine⟨⟨m+1,b,rfl,rfl,I,r,rfl,λj e K=>?_,f⟩,n⟩;rcases dA j m with d|d
   .exact nr (aB d I) hc
   .have:j=m:=I
    subst this;exact hc
  .have hc:¬b9 ks[m] key:=bT hc
   have n:((m:Int)-(a:Int)).toNat<((b:Int)-(a:Int)).toNat:=I
   refine⟨⟨a,m,rfl,rfl,G,I,rfl,h1,λj e K=>?_⟩,n⟩;rcases dA m j with d|d
   .exact λL=>hc (nr (aB d e) L)
   .have:j=m:=I
    subst this;exact hc
 .have M:¬(a:Int)<(b:Int):=bT h
  have N:b=a:=I
  subst N;have o:cX ks key=b:=Ik r h1 f;refine cx (λc w'=>w=w'/\c=iq ks key) (λq u=>⟨λh=>?_,λh=>?_⟩) ?_
  .have E:(b:Int)<(s.len:Int):=bB h
   have x:b<ks.length:=I
   obtain⟨A,t2,ak,g,k,l,_⟩:=bo.at hs x;refine⟨A,ak,g,t2,k,p,(mF l.1 ht).use ?_⟩;rintro _ _ ⟨rfl,rfl⟩;refine⟨_,rfl,u _ _ ⟨rfl,?_⟩⟩;unfold iq;rw[o,ek,cq,gP,dB x,Ho];exact⟨λh=>by rw[h],λh=>Option.some.inj h⟩
  .have M:¬(b:Int)<(s.len:Int):=bT h
   refine u _ _ ⟨rfl,?_⟩;unfold iq;rw[o,mw I];simp
  .rintro _ _ ⟨rfl,rfl⟩
   exact⟨by rw[o],rfl⟩
theorem nn{n:aA}{K V D t:U}{key:Key}(h:b2 B w n K V D)(ht:Src 1 w t (aC key))(b:n.keys.Pairwise b9)(c:n.keys.length<=100000):
 aI aj 177 #[dg n K V D,t] w (λv w'=>v=.tuple #[.int .i64 ((cX n.keys key:Nat):Int),.bool (iq n.keys key)]/\Ext w w'):=by
 refine okF (ad.nn n.leaf K V D t) ay.nn func177 ?_;(delta ad.nn av aJ ae lz;dsimp only);refine bg (vs:=[n.leaf,K,V,D]) rfl λw1 d a _=>?_;obtain⟨bM,aR,a7,bx⟩:=bS d;refine⟨K,aR,(Il (B:=B) (C:=B) (h.keys.ext a) (ht.ext a) b c).use ?_⟩;rintro _ _ ⟨rfl,rfl⟩;exact⟨_,_,rfl,rfl,a⟩
theorem rh{n:aA}{K V D t:U}{key:Key}(h:b2 B w n K V D)(ht:Src 1 w t (aC key))(b:n.keys.Pairwise b9)(c:n.keys.length<=100000):
 aI aj 124 #[dg n K V D,t] w (λv w'=>v=.tuple #[.int .i64 ((cX n.keys key:Nat):Int),.bool (iq n.keys key)]/\Ext w w'):=by
 refine okF (ad.rh n.leaf K V D t) ay.rh func124 ?_;(delta ad.rh aW ae av aJ lz;dsimp only);refine bg (vs:=[n.leaf,K,V,D]) rfl λw1 d a _=>?_;obtain⟨bM,aR,a7,bx⟩:=bS d;refine⟨_,bM,K,aR,V,a7,D,bx,(nn (h.ext a) (ht.ext a) b c).use ?_⟩;rintro _ _ ⟨rfl,e⟩;exact⟨_,_,rfl,rfl,a.trans e⟩
theorem Im(e:ks.Pairwise b9)(k:Key):fa ks k=if iq ks k then cX ks k+1 else cX ks k:=by
 have f:=rO ks k;have key:∀a,a<=ks.length->(∀ (j:Nat) (h:j<ks.length),j<a->¬b9 k ks[j])->(∀h:a<ks.length,b9 k ks[a])->fa ks k=a:=by
  intro a i h1 g;unfold fa;rcases dA a ks.length with h|h
  .exact(List.findIdx_eq h).2 ⟨dm (g h),λj b=>ib (h1 j I b)⟩
  .have:a=ks.length:=I
   subst this;refine List.findIdx_eq_length_of_false λx hx=>?_;obtain⟨j,b,rfl⟩:=eO hx;exact ib (h1 j b b)
 split
 .rename_i c
  have c:ks[cX ks k]? =some k:=bB c;obtain⟨aB,he⟩:=jK.1 c;refine key _ aB (λj b h=>?_) λh=>?_
  .rcases dA j (cX ks k) with d|d
   .exact l3 (pS d b)
   .have:j=cX ks k:=I
    subst this;rw[he];exact rM _
  .have:=lT.1 e _ _ aB h (Nat.lt_succ_self _)
   rwa[he]at this
 .rename_i c
  have c:¬ks[cX ks k]? =some k:=λh=>c (dm h);refine key _ f (λj b h=>l3 (pS h b)) λh=>?_;rcases pP.1 (rP e (a_ _) h) with d|d
  .exact d
  .exact absurd ((dB h).trans (congrArg some d.symm)) c
theorem rl{n:aA}{K V D t:U}{key:Key}(h:b2 B w n K V D)(ht:Src 1 w t (aC key))(b:n.keys.Pairwise b9)(e:n.keys.length<=100000):
 aI aj 176 #[dg n K V D,t] w (λv w'=>v=.int .i64 ((fa n.keys key:Nat):Int)/\Ext w w'):=by
 refine okF (ad.rl n.leaf K V D t) ay.rl func176 ?_;(delta ad.rl aW ae av aJ lz af ai;dsimp only);refine bg (vs:=[n.leaf,K,V,D]) rfl λw1 f a _=>?_;obtain⟨bM,aR,a7,bx⟩:=bS f;have i:=rO n.keys key;refine⟨_,bM,K,aR,V,a7,D,bx,(nn (h.ext a) (ht.ext a) b e).use ?_⟩;rintro _ ah ⟨rfl,g⟩;rw[Im b];refine⟨_,_,rfl,cx (λc w'=>ah=w'/\c=((if iq n.keys key then cX n.keys key+1 else cX n.keys key:Nat):Int)) (λq d=>⟨λh=>d _ _ ⟨rfl,?_⟩,λh=>d _ _ ⟨rfl,?_⟩⟩) ?_⟩
 .rw[if_pos h,bl I I];rfl
 .rw[if_neg (by simp[h])]
 .rintro _ _ ⟨rfl,rfl⟩
  exact⟨rfl,a.trans g⟩
structure iO(lo:Nat)(w:J)(aG:Nat)(n:aA)(K V D:U)(bw bD br:U1):Prop where
 v:Var w aG [n.leaf,K,V,D] 169
 keys:bq bw w K n.keys
 vals:bq bD w V n.vals
 kids:cM br w D n.kids
 bW:∀q,bw q->lo<=q/\q<w/\q≠aG/\¬bD q/\¬br q
 bv:∀q,bD q->lo<=q/\q<w/\q≠aG/\¬br q
 aO:∀q,br q->lo<=q/\q<w/\q≠aG
 nz:lo<=aG
structure gx(lo:Nat)(w:J)(n:aA)(K V D:U)(bw bD br:U1):Prop where
 keys:bq bw w K n.keys
 vals:bq bD w V n.vals
 kids:cM br w D n.kids
 bW:∀q,bw q->lo<=q/\q<w/\¬bD q/\¬br q
 bv:∀q,bD q->lo<=q/\q<w/\¬br q
 aO:∀q,br q->lo<=q/\q<w
section
variable {lo:Nat}{w w':J}{aG:Nat}{n:aA}{K V D:U}{bw bD br:U1}
theorem iO.mem(h:iO lo w aG n K V D bw bD br):gx lo w n K V D bw bD br:=⟨h.keys,h.vals,h.kids,λq a=>⟨(h.bW q a).1,(h.bW q a).2.1,(h.bW q a).2.2.2⟩,λq a=>⟨(h.bv q a).1,(h.bv q a).2.1,(h.bv q a).2.2.2⟩,λq a=>⟨(h.aO q a).1,(h.aO q a).2.1⟩⟩
theorem gx.ab(h:gx lo w n K V D bw bD br)(hc:aa W w w')(cz:∀q,lo<=q->q<w->bw q\/bD q\/br q->¬W q):gx lo w' n K V D bw bD br:=by
 have hs:=hc.size;refine⟨bq.ab h.keys hc λq a=>cz q (h.bW q a).1 (h.bW q a).2.1 (.inl a),bq.ab h.vals hc λq a=>cz q (h.bv q a).1 (h.bv q a).2.1 (.inr (.inl a)),cM.ab h.kids hc λq a=>cz q (h.aO q a).1 (h.aO q a).2 (.inr (.inr a)),λq a=>?_,λq a=>?_,λq a=>?_⟩
 .have:=h.bW q a;exact⟨this.1,I,this.2.2⟩
 .have:=h.bv q a;exact⟨this.1,I,this.2.2⟩
 .have:=h.aO q a;exact⟨this.1,I⟩
theorem gx.ext(h:gx lo w n K V D bw bD br)(hc:Ext w w'):gx lo w' n K V D bw bD br:=h.ab hc λ_ _ _ _ h=>h
theorem iO.ext(h:iO lo w aG n K V D bw bD br)(hx:Ext w w'):iO lo w' aG n K V D bw bD br:=
 ⟨h.v.ext hx,bq.ext h.keys hx,bq.ext h.vals hx,cM.ext h.kids hx,λq a=>⟨(h.bW q a).1,ga (h.bW q a).2.1 hx.size,(h.bW q a).2.2⟩,λq a=>⟨(h.bv q a).1,ga (h.bv q a).2.1 hx.size,(h.bv q a).2.2⟩,λq a=>⟨(h.aO q a).1,ga (h.aO q a).2.1 hx.size,(h.aO q a).2.2⟩,h.nz⟩
theorem gx.at(h:gx lo w n K V D bw bD br):b2 (λq=>lo<=q) w n K V D:=
 ⟨bo.bh (bq.im h.keys) λq _ a=>(h.bW q a).1,bo.bh (bq.im h.vals) λq _ a=>(h.bv q a).1,cK.bh (cM.pV h.kids) λq _ a=>(h.aO q a).1⟩
theorem gx.low{c:Nat}(h:gx lo w n K V D bw bD br)(b:c<=lo):gx c w n K V D bw bD br:=
 ⟨h.keys,h.vals,h.kids,λq a=>⟨fg b (h.bW q a).1,(h.bW q a).2⟩,λq a=>⟨fg b (h.bv q a).1,(h.bv q a).2⟩,λq a=>⟨fg b (h.aO q a).1,(h.aO q a).2⟩⟩
end
theorem zK{n:aA}{K V D t:U}(h:iO lo w aG n K V D bw bD br)(ht:Src 1 w t (aC l))(Z:l.length<=100000)(F:n.keys.length<=100000){R:U2}
 (G:∀ (w':J) (H:U) (y:U1),iO lo w' aG {n with keys:=n.keys++ [l]} H V D y bD br->aa (λq=>q=aG\/bw q) w w'->(∀q,y q->bw q\/w<=q)->R w'):
 au w.drew λj=>∃m:U1,¬m (Addr.add aG 1).block/\∃g:U,j.cell? (Addr.add aG 1)=some (.slice g.a g.len g.cap)/\
  Calls aj 46 #[t] j λL d=>∃z:U,L=.returned z/\aa m j d/\
  au (d.alloc (.cells #[z] 39)) λA=>aa m d A/\∃C:U,∃i:J,Sem.run aj (Builtin.append_ #[93,93] 93 #[g,.slice (some d) 1 1]) A=.ok C i/\
  (∃u:Y,i.cell? (Addr.add aG 1)=some u)/\i.frozen? (Addr.add aG 1)=false/\au (i.setCell (Addr.add aG 1) C) λM=>R M:=by
 have ac:=h.nz;have ad:=h.v.lt;have p:=cc w;obtain⟨bM,aR,a7,bx⟩:=bS (h.v.ext p);refine aH ⟨λ_=>False,id,K,aR,(mM (B:=λq=>w<=q) (ht.ext p) I (λq b=>b)).use ?_⟩;rintro _ d ⟨N,rfl,E,hx,hf⟩;have e:=p.trans hx;have ae:w.drew.heap.size=w:=rfl;have O:=e.size;have P:=bq.ext h.keys e;have eG:=bq.ext h.vals e;have Q:=cM.ext h.kids e;refine⟨N,rfl,hx,rS (B:=Grow bw w.drew d) (h.v.ext e) (o:=1) U9 (bq.bh P λk _ h=>.inl h) ?_ (bI.bh E λk c h=>.inr ⟨h,c⟩) ?_ F λw' aP ao S f=>?_⟩
 .rintro(h1|h1)
  .exact(h.bW aG h1).2.2.1 rfl
  .omega
 .intro k T W
  obtain⟨ts,_,_,r,_⟩:=h.keys;have:=(r k W).2;have:=(E.2.2 k T).1;omega
 have X:∀q,Grow (Grow bw w.drew d) d w' q->bw q\/(w<=q/\q<w'):=by
  rintro q ((h1|h1)|h1)
  .exact .inl h1
  .exact .inr ⟨h1.1,ga h1.2 f.size⟩
  .exact .inr ⟨fg O h1.1,h1.2⟩
 have hg:=f.size;have s:∀q,ar K q->bw q:=λq b=>by
  obtain⟨ts,_,_,r,_⟩:=h.keys;exact(r q b).1
 refine G w' aP (λq=>bw q\/(w<=q/\q<w')) ⟨by simpa using ao,bq.bh S λk _ c=>X k c,bq.ab eG f ?_,cM.ab Q f ?_,?_,λq b=>?_,λq b=>?_,h.nz⟩ ?_ ?_
 .rintro q b (h1|h1)
  .exact(h.bv q b).2.2.1 h1
  .exact(h.bW q (s q h1)).2.2.2.1 b
 .rintro q b (h1|h1)
  .exact(h.aO q b).2.2 h1
  .exact(h.bW q (s q h1)).2.2.2.2 b
 .rintro q (h1|h1)
  .have:=h.bW q h1;exact⟨this.1,I,this.2.2⟩
  .exact⟨I,h1.2,I,λx=>U4 (h.bv q x),λx=>U4 (h.aO q x)⟩
 .have:=h.bv q b;exact⟨this.1,I,this.2.2⟩
 .have:=h.aO q b;exact⟨this.1,I,this.2.2⟩
 .refine(aa.da e).trans (f.mono λk _ c=>?_)
  obtain c|c:=c
  .exact .inl c
  .exact .inr (s k c)
 .rintro q (h1|h1)
  .exact .inl h1
  .exact .inr h1.1
theorem C_{n:aA}{K V D t:U}(h:iO lo w aG n K V D bw bD br)(ht:Src 1 w t (aC l))(Z:l.length<=100000)(E:n.vals.length<=100000){R:U2}
 (F:∀ (w':J) (G:U) (x:U1),iO lo w' aG {n with vals:=n.vals++ [l]} K G D bw x br->aa (λq=>q=aG\/bD q) w w'->(∀q,x q->bD q\/w<=q)->R w'):
 au w.drew λj=>∃m:U1,¬m (Addr.add aG 2).block/\∃g:U,j.cell? (Addr.add aG 2)=some (.slice g.a g.len g.cap)/\
  Calls aj 46 #[t] j λH d=>∃y:U,H=.returned y/\aa m j d/\
  au (d.alloc (.cells #[y] 39)) λz=>aa m d z/\∃A:U,∃i:J,Sem.run aj (Builtin.append_ #[93,93] 93 #[g,.slice (some d) 1 1]) z=.ok A i/\
  (∃u:Y,i.cell? (Addr.add aG 2)=some u)/\i.frozen? (Addr.add aG 2)=false/\au (i.setCell (Addr.add aG 2) A) λL=>R L:=by
 have ac:=h.nz;have ad:=h.v.lt;have p:=cc w;obtain⟨bM,aR,a7,bx⟩:=bS (h.v.ext p);refine aH ⟨λ_=>False,id,V,a7,(mM (B:=λq=>w<=q) (ht.ext p) I (λq b=>b)).use ?_⟩;rintro _ d ⟨M,rfl,C,hx,hf⟩;have e:=p.trans hx;have ae:w.drew.heap.size=w:=rfl;have N:=e.size;have O:=bq.ext h.keys e;have eG:=bq.ext h.vals e;have P:=cM.ext h.kids e;refine⟨M,rfl,hx,rS (B:=Grow bD w.drew d) (h.v.ext e) (o:=2) U9 (bq.bh eG λk _ h=>.inl h) ?_ (bI.bh C λk c h=>.inr ⟨h,c⟩) ?_ E λw' aP ao Q f=>?_⟩
 .rintro(h1|h1)
  .exact(h.bv aG h1).2.2.1 rfl
  .omega
 .intro k S T
  obtain⟨ts,_,_,r,_⟩:=h.vals;have:=(r k T).2;have:=(C.2.2 k S).1;omega
 have W:∀q,Grow (Grow bD w.drew d) d w' q->bD q\/(w<=q/\q<w'):=by
  rintro q ((h1|h1)|h1)
  .exact .inl h1
  .exact .inr ⟨h1.1,ga h1.2 f.size⟩
  .exact .inr ⟨fg N h1.1,h1.2⟩
 have hg:=f.size;have s:∀q,ar V q->bD q:=λq b=>by
  obtain⟨ts,_,_,r,_⟩:=h.vals;exact(r q b).1
 refine F w' aP (λq=>bD q\/(w<=q/\q<w')) ⟨by simpa using ao,bq.ab O f ?_,bq.bh Q λk _ c=>W k c,cM.ab P f ?_,λq b=>?_,?_,λq b=>?_,h.nz⟩ ?_ ?_
 .rintro q b (h1|h1)
  .exact(h.bW q b).2.2.1 h1
  .exact(h.bW q b).2.2.2.1 (s q h1)
 .rintro q b (h1|h1)
  .exact(h.aO q b).2.2 h1
  .exact(h.bv q (s q h1)).2.2.2 b
 .have:=h.bW q b
  refine⟨this.1,I,this.2.2.1,?_,this.2.2.2.2⟩;rintro(h1|h1)
  .exact this.2.2.2.1 h1
  .omega
 .rintro q (h1|h1)
  .have:=h.bv q h1;exact⟨this.1,I,this.2.2⟩
  .exact⟨I,h1.2,I,λX=>U4 (h.aO q X)⟩
 .have:=h.aO q b;exact⟨this.1,I,this.2.2⟩
 .refine(aa.da e).trans (f.mono λk _ c=>?_)
  obtain c|c:=c
  .exact .inl c
  .exact .inr (s k c)
 .rintro q (h1|h1)
  .exact .inl h1
  .exact .inr h1.1
theorem fV{w0:J}{n:aA}{K V D:U}(h:b2 B w0 n K V D)(a0:n.keys.length<=100000)(a1:n.vals.length<=100000)(a2:n.kids.length<=100000)(aw:∀k∈n.keys,k.length<=100000)(ax:∀v∈n.vals,v.length<=100000):
 aI aj 183 #[dg n K V D] w0 (λv w'=>∃ (K V D:U) (bw bD br:U1),v=dg n K V D/\gx w0 w' n K V D bw bD br/\Ext w0 w'):=by
 refine okF (ad.fV n.leaf K V D) ay.fV func183 ?_;(delta ad.fV z3 b1 ae aW c2 dC aJ bU za av cW af Cv aQ aO aV ap st ai Cw gJ te bf;dsimp only);have aK:b2 (λq=>q<w0) w0 n K V D:=h.bh λq a _=>a;have gK:=bo.len h.keys;have a3:=bo.len h.vals;refine bg (vs:=[n.leaf,K,V,D]) rfl λw1 aL aM a4=>?_;refine bg (vs:=[false,(),(),()]) rfl λah aN aC a5=>aH ?_;have X:=cc ah;have a6:ah.drew.heap.size=ah:=rfl;have L:=(aL.ext aC).ext X;have aD:=aN.ext X;have Y:=aM.trans (aC.trans X);obtain⟨aP,a8,a9,aS⟩:=bS L;have T:=aK.ext Y;obtain⟨lo,a_⟩:=U6 ah.heap.size;refine⟨λ_=>False,id,_,aP,id,D,aS,⟨?_,?_⟩⟩
 .refine(tU T.kids.1 I).use ?_
  rintro _ H ⟨az,rfl,y,x,Z⟩;have aT:=x.size;refine⟨az,rfl,x,#[n.leaf,(),(),az],(λw=>by kernel_rfl),?_⟩;refine bg (vs:=[false,(),(),()]) rfl λaE W z aU=>?_;refine⟨z,W.cF rfl ?_,rfl,c6 W (us:=[n.leaf,(),(),az]) rfl rfl λg M C aX=>?_⟩
  .intro v N
   simp only[cN,er,ez]at N;rcases N with rfl|rfl|rfl|rfl<;>trivial
  obtain⟨aG,ac⟩:=U6 H.heap.size;rw[←ac]at M C⊢;obtain⟨br,r⟩:=U6 (λq=>ah<=q/\q<H:U1);have ag:cM br H az n.kids:=by subst r;exact⟨y,λk l=>⟨⟨Z k l,y.lt k l⟩,y.lt k l⟩⟩
  have m:aa (λq=>lo<=q) ah.drew g:=(aa.da (x.trans z)).trans (C.mono λk _ l=>I);have al:iO lo g aG ⟨n.leaf,[],[],n.kids⟩ bG bG az (λ_=>False) (λ_=>False) br:=⟨M,bq.none _ _,bq.none _ _,cM.ab (cM.ext ag z) C (λq a e=>by subst r;have a:=a.2;omega),λq h=>h.elim,λq h=>h.elim,λq a=>(by subst r;obtain⟨h1,aY⟩:=a;exact⟨I,I,I⟩),I⟩;clear r;obtain⟨bM,aR,a7,bx⟩:=bS (L.ab m I);have O:b2 (λq=>q<w0) g n K V D:=T.ab m λq a h=>by omega
  have am:=aD.ab m I;refine⟨K,aR,λi w'=>∃ (j:Nat) (d:U) (bw:U1),i=j/\j<=n.keys.length/\iO lo w' aG ⟨n.leaf,n.keys.take j,[],n.kids⟩ d bG az bw (λ_=>False) br/\aa (λq=>lo<=q) g w',λi _=>((n.keys.length:Int)-i).toNat,⟨0,bG,_,rfl,cw _,al,aa.refl _ _⟩,?_⟩;rintro _ P ⟨j,d,bw,rfl,an,o,s⟩;have ao:b2 (λq=>q<w0) P n K V D:=O.ab s λq a h=>by omega
  refine⟨λaB=>?_,λc=>?_⟩
  .have aB:j<n.keys.length:=by have:=bB aB;omega
   obtain⟨A,t,ak,E,hc,ht,_⟩:=bo.at ao.keys aB;refine⟨A,ak,E,t,hc,zK o ht.1 (aw _ (cg aB)) (by show(n.keys.take j).length<=_;rw[cQ];omega) λw' dP aq st F _=>?_⟩;have G:aa (λq=>lo<=q) P w':=F.mono λq _ a=>by
    rcases a with a|a
    .have:=o.nz;omega
    .exact(o.bW q a).1
   rw[bl (n:=(j:Int)+1) I I];refine⟨⟨j+1,dP,aq,I,I,?_,s.trans G⟩,?_⟩
   .rw[take_succ _ aB];exact st
   .show((n.keys.length:Int)-((j:Int)+1)).toNat<((n.keys.length:Int)-(j:Int)).toNat
    omega
  have c:j=n.keys.length:=by have:=bT c;omega
  subst c;rw[gD]at o;obtain⟨bM,aR,a7,bx⟩:=bS ((L.ab m I).ab s I);refine⟨V,a7,λi w'=>∃ (j:Nat) (p:U) (bD:U1),i=j/\j<=n.vals.length/\iO lo w' aG ⟨n.leaf,n.keys,n.vals.take j,n.kids⟩ d p az bw bD br/\aa (λq=>lo<=q) g w',λi _=>((n.vals.length:Int)-i).toNat,⟨0,bG,_,rfl,cw _,o,s⟩,?_⟩;rintro _ R ⟨j,p,bD,rfl,an,f,u⟩;have ar:b2 (λq=>q<w0) R n K V D:=O.ab u λq a h=>by omega
  refine⟨λaB=>?_,λc=>?_⟩
  .have aB:j<n.vals.length:=by have:=bB aB;omega
   obtain⟨A,t,ak,E,hc,ht,_⟩:=bo.at ar.vals aB;refine⟨A,ak,E,t,hc,C_ f ht.1 (ax _ (cg aB)) (by show(n.vals.take j).length<=_;rw[cQ];omega) λw' ep au st F _=>?_⟩;have G:aa (λq=>lo<=q) R w':=F.mono λq _ a=>by
    rcases a with a|a
    .have:=f.nz;omega
    .exact(f.bv q a).1
   rw[bl (n:=(j:Int)+1) I I];refine⟨⟨j+1,ep,au,I,I,?_,u.trans G⟩,?_⟩
   .rw[take_succ _ aB];exact st
   .show((n.vals.length:Int)-((j:Int)+1)).toNat<((n.vals.length:Int)-(j:Int)).toNat
    omega
  have c:j=n.vals.length:=by have:=bT c;omega
  subst c;rw[gD]at f;obtain⟨d0,d1,d2,d3⟩:=bS f.v;refine⟨_,d0,d,d1,p,d2,az,d3,jh n.leaf d p az (am.ab u I) rfl (Q:=λb K V D ah=>(λv w'=>∃ (K V D:U) (bw bD br:U1),v=dg n K V D/\gx w0 w' n K V D bw bD br/\Ext w0 w') (.agg #[b,K,V,D]) ah) λaZ S=>⟨d,p,az,bw,bD,br,rfl,?_,?_⟩⟩
  .exact(gx.ab f.mem S λq a _ _ h=>I).low I
  .exact Ext.bQ (Ext.dH Y (m.trans u) λk l=>I) S I
 .refine bg (vs:=[false,(),(),()]) rfl λaE W z aU=>⟨z,?_⟩
  refine(tU (T.kids.ext z).1 I).use ?_;rintro _ H ⟨az,rfl,y,x,Z⟩;have aT:=x.size;have aF:=W.ext x;refine⟨az,rfl,x,#[n.leaf,(),(),az],(λw=>by kernel_rfl),?_⟩;refine⟨aF.cF rfl ?_,rfl,c6 aF (us:=[n.leaf,(),(),az]) rfl rfl λg M C aX=>?_⟩
  .intro v N
   simp only[cN,er,ez]at N;rcases N with rfl|rfl|rfl|rfl<;>trivial
  obtain⟨aG,ac⟩:=U6 ah.drew.heap.size;rw[←ac]at M C⊢;obtain⟨br,r⟩:=U6 (λq=>aE<=q/\q<H:U1);have ag:cM br H az n.kids:=by subst r;exact⟨y,λk l=>⟨⟨Z k l,y.lt k l⟩,y.lt k l⟩⟩
  have m:aa (λq=>lo<=q) ah.drew g:=(aa.da (z.trans x)).trans (C.mono λk _ l=>I);have al:iO lo g aG ⟨n.leaf,[],[],n.kids⟩ bG bG az (λ_=>False) (λ_=>False) br:=⟨M,bq.none _ _,bq.none _ _,cM.ab ag C (λq a e=>by subst r;have a:=a.1;omega),λq h=>h.elim,λq h=>h.elim,λq a=>(by subst r;obtain⟨h1,aY⟩:=a;exact⟨I,I,I⟩),I⟩;clear r;obtain⟨bM,aR,a7,bx⟩:=bS (L.ab m I);have O:b2 (λq=>q<w0) g n K V D:=T.ab m λq a h=>by omega
  have am:=aD.ab m I;refine⟨K,aR,λi w'=>∃ (j:Nat) (d:U) (bw:U1),i=j/\j<=n.keys.length/\iO lo w' aG ⟨n.leaf,n.keys.take j,[],n.kids⟩ d bG az bw (λ_=>False) br/\aa (λq=>lo<=q) g w',λi _=>((n.keys.length:Int)-i).toNat,⟨0,bG,_,rfl,cw _,al,aa.refl _ _⟩,?_⟩;rintro _ P ⟨j,d,bw,rfl,an,o,s⟩;have ao:b2 (λq=>q<w0) P n K V D:=O.ab s λq a h=>by omega
  refine⟨λaB=>?_,λc=>?_⟩
  .have aB:j<n.keys.length:=by have:=bB aB;omega
   obtain⟨A,t,ak,E,hc,ht,_⟩:=bo.at ao.keys aB;refine⟨A,ak,E,t,hc,zK o ht.1 (aw _ (cg aB)) (by show(n.keys.take j).length<=_;rw[cQ];omega) λw' dP aq st F _=>?_⟩;have G:aa (λq=>lo<=q) P w':=F.mono λq _ a=>by
    rcases a with a|a
    .have:=o.nz;omega
    .exact(o.bW q a).1
   rw[bl (n:=(j:Int)+1) I I];refine⟨⟨j+1,dP,aq,I,I,?_,s.trans G⟩,?_⟩
   .rw[take_succ _ aB];exact st
   .show((n.keys.length:Int)-((j:Int)+1)).toNat<((n.keys.length:Int)-(j:Int)).toNat
    omega
  have c:j=n.keys.length:=by have:=bT c;omega
  subst c;rw[gD]at o;obtain⟨bM,aR,a7,bx⟩:=bS ((L.ab m I).ab s I);refine⟨V,a7,λi w'=>∃ (j:Nat) (p:U) (bD:U1),i=j/\j<=n.vals.length/\iO lo w' aG ⟨n.leaf,n.keys,n.vals.take j,n.kids⟩ d p az bw bD br/\aa (λq=>lo<=q) g w',λi _=>((n.vals.length:Int)-i).toNat,⟨0,bG,_,rfl,cw _,o,s⟩,?_⟩;rintro _ R ⟨j,p,bD,rfl,an,f,u⟩;have ar:b2 (λq=>q<w0) R n K V D:=O.ab u λq a h=>by omega
  refine⟨λaB=>?_,λc=>?_⟩
  .have aB:j<n.vals.length:=by have:=bB aB;omega
   obtain⟨A,t,ak,E,hc,ht,_⟩:=bo.at ar.vals aB;refine⟨A,ak,E,t,hc,C_ f ht.1 (ax _ (cg aB)) (by show(n.vals.take j).length<=_;rw[cQ];omega) λw' ep au st F _=>?_⟩;have G:aa (λq=>lo<=q) R w':=F.mono λq _ a=>by
    rcases a with a|a
    .have:=f.nz;omega
    .exact(f.bv q a).1
   rw[bl (n:=(j:Int)+1) I I];refine⟨⟨j+1,ep,au,I,I,?_,u.trans G⟩,?_⟩
   .rw[take_succ _ aB];exact st
   .show((n.vals.length:Int)-((j:Int)+1)).toNat<((n.vals.length:Int)-(j:Int)).toNat
    omega
  have c:j=n.vals.length:=by have:=bT c;omega
  subst c;rw[gD]at f;obtain⟨d0,d1,d2,d3⟩:=bS f.v;refine⟨_,d0,d,d1,p,d2,az,d3,jh n.leaf d p az (am.ab u I) rfl (Q:=λb K V D ah=>(λv w'=>∃ (K V D:U) (bw bD br:U1),v=dg n K V D/\gx w0 w' n K V D bw bD br/\Ext w0 w') (.agg #[b,K,V,D]) ah) λaZ S=>⟨d,p,az,bw,bD,br,rfl,?_,?_⟩⟩
  .exact(gx.ab f.mem S λq a _ _ h=>I).low I
  .exact Ext.bQ (Ext.dH Y (m.trans u) λk l=>I) S I
theorem bq.mk'{s:U}{ts:O U}(a:ts.length=ls.length)(b:aL 1 39 w s (ts.map iM))(hi:In B w s)(c:∀p∈ts.zip ls,bI B w p.1 p.2/\∀k,ar p.1 k->¬ar s k):bq B w s ls:=by
 refine⟨ts,a,b,hi,λi h1 d=>?_⟩;have:=c (ts[i],ls[i]) (by
  rw[uI];exact⟨i,by rw[qn];omega,by rw[List.getElem_zip]⟩)
 exact this
theorem bq.out{s:U}(h:bq B w s ls):∃ts:O U,ts.length=ls.length/\aL 1 39 w s (ts.map iM)/\In B w s/\∀p∈ts.zip ls,bI B w p.1 p.2/\∀k,ar p.1 k->¬ar s k:=by
 obtain⟨ts,h1,a,b,c⟩:=h;refine⟨ts,h1,a,b,λp d=>?_⟩;obtain⟨i,hi,rfl⟩:=uI.1 d;rw[qn]at hi;rw[List.getElem_zip];exact c i I I
theorem Da{β:Type}(a:O α)(b:O β)(i:Nat):(a.take i).zip (b.take i)=(a.zip b).take i:=by
 rw[List.zip_eq_zipWith,List.zip_eq_zipWith,List.take_zipWith]
theorem Db{β:Type}(a:O α)(b:O β)(i:Nat):(a.drop i).zip (b.drop i)=(a.zip b).drop i:=by
 rw[List.zip_eq_zipWith,List.zip_eq_zipWith,List.drop_zipWith]
theorem Dc{s t:U}(r:bq B w s ls)(ht:bI B w t l)(hd:∀k,ar t k->¬ar s k)(G:ls.length<=100000)(hi:i<=ls.length):
 aI aj 200 #[s,.int .i64 (i:Int),.slice (some w) 1 1] (w.alloc (.cells #[t] 39))
  (λu w'=>∃e:U,u=e/\bq (Grow B w w') w' e (ls.take i++ [l]++ls.drop i)/\aa (ar s) w w'):=by
 obtain⟨ts,h1,j,m,n⟩:=bq.out r;have H:s.len=ls.length:=by have:=j.1;rw[cV]at this;omega
 have hx:=dc w (.cells #[t] 39);have z:=bp.new w #[t] 39;refine(Ii (v:=⟨some w.heap.size,1,1⟩) (xs:=[iM t]) (i:=i) (j.ext hx) (Src.new (T:=39) w [iM t] 1 rfl) rfl rfl z (λh=>U4 ((m _ h).2)) (λv A=>by rw[dV.1 A];trivial) (xB ts) I I).mono ?_;rintro _ w' ⟨e,rfl,ao,K,C,D⟩;rw[eY]at ao;have hc:aa (ar s) w w':=(aa.da hx).trans C;have L:=hc.size;have M:(w.alloc (.cells #[t] 39)).heap.size=w+1:=iN _ _;have o:∀k,ar e k->ar s k\/w<=k:=λk d=>(D k d).imp id λh=>by omega
 have E:∀ (x:U),In B w x->(∀k,ar x k->¬ar s k)->∀k,ar x k->¬ar e k:=λx hx f k d F=>by
  rcases o k F with h|h
  .exact f k d h
  .have:=(hx k d).2;omega
 have g:∀ (x:U) (y:Key),bI B w x y->(∀k,ar x k->¬ar s k)->bI (Grow B w w') w' x y/\∀k,ar x k->¬ar e k:=λx y q f=>⟨bI.bh (bI.l7 q hc f) λk _ h=>.inl h,E x q.2.2 f⟩;refine⟨e,rfl,bq.mk' (ts:=ts.take i++ [t]++ts.drop i) ?_ ?_ ?_ ?_,hc⟩
 .simp only[b6,cQ,dW,ia];omega
 .simpa[m3,qp] using ao
 .intro k d
  refine⟨?_,ao.lt k d⟩;rcases o k d with h|h
  .exact .inl (m k h).1
  .exact .inr ⟨h,ao.lt k d⟩
 .intro p c
  rw[List.zip_append (by simp only[b6,cQ,ia];omega),List.zip_append (by simp only[cQ];omega),Da,Db]at c;rcases cE.1 c with c|c
  .rcases cE.1 c with c|c
   .obtain⟨a,b⟩:=n p (gd c)
    exact g _ _ a b
   .simp only[List.zip_cons_cons,List.zip_nil_left,dV]at c
    subst c;exact g _ _ ht hd
  .obtain⟨a,b⟩:=n p (gb c)
   exact g _ _ a b
theorem Io:(Tryz.prog.info? 39).bind (·.zero)=some (.slice none 0 0):=by kernel_rfl
theorem Dd{s:U}(l:bq B w s ls)(t:ls.length<=100000)(hi:i<ls.length):
 aI aj 184 #[s,.int .i64 (i:Int),.int .i64 ((i+1:Nat):Int)] w
  (λu w'=>∃e:U,u=e/\bq B w' e (ls.take i++ls.drop (i+1))/\aa (ar s) w w'):=by
 obtain⟨ts,h1,g,m,n⟩:=bq.out l;have v:s.len=ls.length:=by have:=g.1;rw[cV]at this;omega
 refine(Ij (i:=i) g (xB ts) (λz h u hu=>by
  rw[Io]at h
  cases h;simp[Value.cells]at hu;subst hu;trivial) I I).mono ?_
 rintro _ w' ⟨e,rfl,ao,x,o,f⟩;rw[eY,eY]at ao;have y:=f.size;have j:∀k,ar e k->ar s k:=λk ⟨A,ak,c⟩=>⟨A,by rw[←o];exact ak,c⟩;refine⟨e,rfl,bq.mk' (ts:=ts.take i++ts.drop (i+1)) ?_ ?_ ?_ ?_,f⟩
 .simp only[b6,cQ,dW];omega
 .simpa[m3,qp] using ao
 .exact λk c=>⟨(m k (j k c)).1,ao.lt k c⟩
 .intro p d
  rw[List.zip_append (by simp only[cQ];omega),Da,Db]at d;have q:p∈ts.zip ls:=by
   rcases cE.1 d with d|d
   .exact gd d
   .exact gb d
  obtain⟨a,b⟩:=n p q;exact⟨bI.l7 a f b,λk c r=>b k c (j k r)⟩
theorem Ip{s t:U}(g:bq B w s ls)(ht:bI B w t l)(hd:∀k,ar t k->¬ar s k)(hi:i<ls.length):
 ∃A:ax,s.a=some A/\((0:Int)<=(i:Int)/\(i:Int)<(s.len:Int))/\(∃u:Y,w.cell? (A.add (Int.toNat (i:Int)*1))=some u)/\w.frozen? (A.add (Int.toNat (i:Int)*1))=false/\
  bq B (w.setCell (A.add (Int.toNat (i:Int)*1)) (iM t)) s (ls.set i l)/\aa (ar s) w (w.setCell (A.add (Int.toNat (i:Int)*1)) (iM t)):=by
 obtain⟨ts,h1,h,m,n⟩:=g;obtain⟨A,ak,o,hc,hf,p,q⟩:=h.at (i:=i) (v:=iM (ts[i]'I)) (by simp[h1,hi]);have c:aa (ar s) w (w.setCell (A.add (Int.toNat (i:Int)*1)) (iM t)):=aa.set (.refl _ _) (λ_=>p) _;refine⟨A,ak,o,⟨_,hc⟩,hf,⟨ts.set i t,by simp[h1],?_,In.ab m c,λj d f=>?_⟩,c⟩
 .have:=q (iM t)
  rwa[←List.map_set]at this
 .rw[c_]at d f
  rw[uJ,uJ];by_cases e:i=j
  .rw[if_pos e,if_pos e]
   exact⟨bI.l7 ht c hd,hd⟩
  .rw[if_neg e,if_neg e]
   obtain⟨a,b⟩:=n j d f;exact⟨bI.l7 a c b,b⟩
def ir(n:aA)(k v:Key):aA:=
 if iq n.keys k then {n with vals:=n.vals.set (cX n.keys k) v}
 else {n with keys:=n.keys.take (cX n.keys k)++ [k]++n.keys.drop (cX n.keys k),vals:=n.vals.take (cX n.keys k)++ [v]++n.vals.drop (cX n.keys k)}
def mN(n:aA)(k:Key):aA:={n with keys:=n.keys.take (cX n.keys k)++n.keys.drop (cX n.keys k+1),vals:=n.vals.take (cX n.keys k)++n.vals.drop (cX n.keys k+1)}
theorem hJ.fJ{n:aA}(h:hJ n):(∀k∈n.keys,k.length<=100000)/\(∀v∈n.vals,v.length<=100000):=⟨λk a=>U4 ((h.ok k a).2),λv b=>U4 (h.vals v b)⟩
def oH(n:aA)(w:J)(v:Y)(w':J):Prop:=∃K V D:U,v=.tuple #[dg n K V D,true]/\b2 (λq=>w<=q) w' n K V D/\Ext w w'
theorem rj{n:aA}{K V D tk fK:U}{key val:Key}(h:b2 B w n K V D)(hs:hJ n)(bZ:n.keys.length<=10000)(c:Src 1 w tk (aC key))(G:Src 1 w fK (aC val))(aP:cP key)(b0:val.length<=24):
 aI aj 143 #[dg n K V D,tk,fK] w (oH (ir n key val) w):=by
 have b3:=hs.len;have b4:n.kids.length=0:=by rw[hs.kids];rfl
 have b5:=len8 G;have b6:key.length<=24:=aP.2;refine okF (ad.rj n.leaf K V D tk fK) ay.rj func143 ?_;(delta ad.rj z3 aW ae q1 af av aJ bR bf lB og gH lz b1 c2 dC bU aQ aO st aV dD oe;dsimp only);refine bg (vs:=[n.leaf,K,V,D]) rfl λw1 ax bc b7=>?_;refine bg (vs:=[false,(),(),()]) rfl λah bd ai b8=>?_;have aS:=bc.trans ai;obtain⟨bM,aR,a7,bx⟩:=bS (ax.ext ai);refine⟨n.leaf,bM,cx (λb w'=>b=false/\Ext ah w') (λq a=>⟨λp=>?_,λp=>⟨_,bM,K,aR,V,a7,D,bx,(kV (h.ext aS) I I I).use ?_⟩⟩) ?_⟩
 .rw[hs.leaf]at p;cases p
 .rintro _ aD ⟨b,rfl,be,C⟩
  have:=be.2 (.inl hs);subst this;exact⟨true,rfl,a _ _ ⟨rfl,C⟩⟩
 rintro _ aD ⟨rfl,C⟩;have al:=aS.trans C;refine cx (λb w'=>b=false/\aD=w') (λq a=>⟨nofun,λ_=>(pF (c.ext al)).use ?_⟩) ?_
 .rintro _ _ ⟨rfl,rfl⟩
  exact⟨_,rfl,a _ _ ⟨by simp[aP],rfl⟩⟩
 rintro _ _ ⟨rfl,rfl⟩;obtain⟨bM,aR,a7,bx⟩:=bS (ax.ext (ai.trans C));refine⟨λp=>?_,λ_=>⟨_,bM,K,aR,V,a7,D,bx,(fV (h.ext al) I I I hs.fJ.1 hs.fJ.2).use ?_⟩⟩
 .have p:decide (((fK.len:Int):Int)>24)=true:=p
  have:=bB p;omega
 rintro _ bi ⟨l,g,az,bw,bD,br,rfl,r,am⟩;have aT:=al.trans am;have b9:=aT.size;have b_:=al.size;have ca:=C.size;have cb:=am.size;refine⟨n.leaf,l,g,az,rfl,bg (vs:=[false,(),(),()]) rfl λcd aU an ce=>⟨aU.cF rfl ?_,rfl,c6 aU (us:=[n.leaf,l,g,az]) rfl rfl λO P R cf=>?_⟩⟩
 .intro v G
  simp only[cN,er,ez]at G;rcases G with rfl|rfl|rfl|rfl<;>trivial
 obtain⟨aG,bj⟩:=U6 bi.heap.size;rw[←bj]at P R⊢;obtain⟨lo,bk⟩:=U6 aD.heap.size;rw[←bk]at r;have ap:Ext w O:=Ext.bQ (aT.trans an) R I;have bl:Var O w.heap.size [n.leaf,K,V,D] 169:=(((ax.ext (ai.trans C)).ext am).ext an).ab R I;have aX:Var O w1.heap.size [false,(),(),()] 169:=(((bd.ext C).ext am).ext an).ab R I;have f:gx lo O n l g az bw bD br:=(r.ext an).ab R λq _ _ a e=>by
  subst e;rcases a with a|a|a
  .have:=(r.bW _ a).2.1;omega
  .have:=(r.bv _ a).2.1;omega
  .have:=(r.aO _ a).2;omega
 obtain⟨bM,aR,a7,bx⟩:=bS bl;have bm:=rO n.keys key;refine⟨_,bM,K,aR,V,a7,D,bx,(nn (h.ext ap) (c.ext ap) hs.fG I).use ?_⟩;rintro _ m ⟨rfl,aq⟩;have aE:=ap.trans aq;have cg:=aq.size;refine⟨_,_,rfl,λH=>?_,λH=>?_⟩
 .
  have E:=cc m;have L:=aq.trans E;have aB:cX n.keys key<n.keys.length:=by
   have:=bB H;exact(jK.1 this).1
  obtain⟨d0,d1,d2,d3⟩:=bS (P.ext L);refine aH ⟨λ_=>False,id,g,d2,(mM (B:=λq=>m.heap.size<=q) (G.ext (aE.trans E)) I (λq a=>a)).use ?_⟩;rintro _ s ⟨t,rfl,ht,x,bn⟩;have T:=L.trans x;have aF:=f.ext T;have bp:=T.size;have bs:bq (Grow bD m s) s g n.vals:=bq.bh aF.vals λk _ h=>.inl h;have y:∀k,ar g k->bD k:=λk c=>by obtain⟨ts,_,_,W,_⟩:=f.vals;exact(W k c).1
  obtain⟨A,ak,p,bt,rT,aY,aZ⟩:=Ip (i:=cX n.keys key) bs (bI.bh ht λk c h=>.inr ⟨h,c⟩) (λk X Y=>by
   have:=(ht.2.2 k X).1;have:=(f.bv k (y k Y)).2.1;omega) I
  refine⟨t,rfl,x,A,ak,p,bt,rT,aH ?_⟩;obtain⟨o,a0⟩:=U6 (s.setCell (A.add (Int.toNat (cX n.keys key:Int)*1)) (iM t));rw[←a0]at aY aZ;have bu:s.setCell (A.add (Int.toNat (cX n.keys key:Int)*1)) t=o:=a0.symm;rw[bu];have Z:aa (λq=>lo<=q/\q<O.heap.size/\bD q) s o:=aZ.mono λk _ c=>⟨(f.bv k (y k c)).1,(f.bv k (y k c)).2.1,y k c⟩;have au:=(P.ext T).ab Z (λe=>by
   have h1:=(r.bv _ e.2.2).2.1;omega)
  obtain⟨bz,bA,bC,bE⟩:=bS au;have bF:b2 (λq=>lo<=q) o (ir n key val) l g az:=by
   unfold ir;rw[if_pos H];refine⟨bo.bh (bo.ab (bq.im aF.keys) Z λq a e=>(f.bW q a).2.2.1 e.2.2) λq _ a=>(f.bW q a).1,bo.bh (bq.im aY) λq _ a=>?_,cK.bh (cK.ab (cM.pV aF.kids) Z λq a e=>(f.bv q e.2.2).2.2 a) λq _ a=>(f.aO q a).1⟩;rcases a with a|a
   .exact(f.bv q a).1
   .omega
  have bG:(ir n key val).leaf=n.leaf:=by unfold ir;rw[if_pos H]
  refine⟨_,bz,l,bA,g,bC,az,bE,jh n.leaf l g az ((aX.ext T).ab Z (λe=>by have:=e.1;omega)) rfl (Q:=λb K V D ah=>oH (ir n key val) w (.tuple #[.agg #[b,K,V,D],true]) ah) λj u=>⟨l,g,az,by unfold dg;rw[bG],?_,?_⟩⟩
  .exact(bF.ab u λq a e=>I).bh λq _ a=>by omega
  .exact Ext.bQ (Ext.dH (ap.trans T) Z λk c=>I) u I
 .
  have E:=cc m;have L:=aq.trans E;have a1:iO lo m.drew aG n l g az bw bD br:=by
   have M:=f.ext L;refine⟨P.ext L,M.keys,M.vals,M.kids,λq a=>?_,λq a=>?_,λq a=>?_,I⟩
   .have h1:=M.bW q a;have:=(r.bW q a).2.1;exact⟨h1.1,h1.2.1,I,h1.2.2⟩
   .have h1:=M.bv q a;have:=(r.bv q a).2.1;exact⟨h1.1,h1.2.1,I,h1.2.2⟩
   .have h1:=M.aO q a;have:=(r.aO q a).2;exact⟨h1.1,h1.2,I⟩
  obtain⟨d0,d1,d2,d3⟩:=bS a1.v;refine aH ⟨λ_=>False,id,l,d1,(mM (B:=λq=>m.heap.size<=q) (c.ext (aE.trans E)) I (λq a=>a)).use ?_⟩;rintro _ s ⟨t,rfl,ht,x,bn⟩;have bp:m.heap.size<=s.heap.size:=(E.trans x).size;have aK:∀k,ar l k->bw k:=λk c=>by obtain⟨ts,_,_,W,_⟩:=f.keys;exact(W k c).1
  have y:∀k,ar g k->bD k:=λk c=>by obtain⟨ts,_,_,W,_⟩:=f.vals;exact(W k c).1
  have d:=a1.ext x;refine⟨t,rfl,x,aH ⟨dc _ _,(Dc (B:=Grow bw m s) (i:=cX n.keys key) (bq.bh d.keys λk _ h=>.inl h) (bI.bh ht λk c h=>.inr ⟨h,c⟩) (λk X Y=>by
   have:=(ht.2.2 k X).1;have:=(f.bW k (aK k Y)).2.1;omega) I bm).use ?_⟩⟩
  rintro _ o ⟨S,rfl,bH,a2⟩;have ch:=a2.size;have ac:aa (λq=>lo<=q/\bw q) s o:=a2.mono λk _ c=>⟨(f.bW k (aK k c)).1,aK k c⟩;have au:=d.v.ab ac λe=>(d.bW _ e.2).2.2.1 rfl;obtain⟨s1,s2⟩:=dT au (i:=1) U9;refine⟨S,rfl,?_⟩;rw[aw,aw];refine⟨s1,s2,aH (aH ?_)⟩;obtain⟨j,aL⟩:=U6 ((o.setCell ⟨aG,0+1,none⟩ S).drew);rw[←aL];have u:aa (λq=>q=aG) o j:=by rw[aL];exact aa.drew (dz _ _ _ _)
  have a3:Var j aG [n.leaf,S,g,az] 169:=by rw[aL];exact(ei au _).drew
  have ci:=u.size;have cj:aG<m.heap.size:=by have:=P.lt;omega
  have bJ:bq (λq=>bw q\/(m.heap.size<=q/\q<o.heap.size)) j S (n.keys.take (cX n.keys key)++ [key]++n.keys.drop (cX n.keys key)):=by
   refine bq.ab (bq.bh bH λk _ c=>?_) u λk c e=>?_
   .rcases c with (c|c)|c
    .exact .inl c
    .exact .inr ⟨c.1,I⟩
    .exact .inr ⟨I,c.2⟩
   .subst e
    rcases c with c|c
    .exact(d.bW _ c).2.2.1 rfl
    .omega
  have bK:bq bD j g n.vals:=bq.ab (bq.ab d.vals ac λq a e=>(d.bW q e.2).2.2.2.1 a) u λq a e=>(d.bv q a).2.2.1 e;have bL:cM br j az n.kids:=cM.ab (cM.ab d.kids ac λq a e=>(d.bW q e.2).2.2.2.2 a) u λq a e=>(d.aO q a).2.2 e;have a4:Ext w j:=Ext.dH (Ext.dH ((aE.trans E).trans x) ac λk c=>I) u λk c=>by omega
  obtain⟨f0,f1,f2,f3⟩:=bS a3;rw[aw]at f2;refine⟨λ_=>False,id,g,f2,(mM (B:=λq=>j.heap.size<=q) (G.ext a4) I (λq a=>a)).use ?_⟩;rintro _ a5 ⟨t2,rfl,a6,z,ck⟩;have cl:=z.size;refine⟨t2,rfl,z,aH ⟨dc _ _,(Dc (B:=Grow bD j a5) (i:=cX n.keys key) (bq.bh (bq.ext bK z) λk _ h=>.inl h) (bI.bh a6 λk c h=>.inr ⟨h,c⟩) (λk X Y=>by
   have:=(a6.2.2 k X).1;have:=(f.bv k (y k Y)).2.1;omega) I I).use ?_⟩⟩
  rintro _ aM ⟨cY,rfl,bN,a8⟩;have cm:=a8.size;have ag:aa (λq=>lo<=q/\bD q) a5 aM:=a8.mono λk _ c=>⟨(f.bv k (y k c)).1,y k c⟩;have a9:=(a3.ext z).ab ag λe=>(d.bv _ e.2).2.2.1 rfl;obtain⟨s1,s2⟩:=dT a9 (i:=2) U9;refine⟨cY,rfl,?_⟩;rw[aw,aw];refine⟨s1,s2,aH ?_⟩;obtain⟨F,aN⟩:=U6 (aM.setCell ⟨aG,0+2,none⟩ cY);rw[←aN];have N:aa (λq=>q=aG) aM F:=by rw[aN];exact dz _ _ _ _
  have bO:Var F aG [n.leaf,S,cY,az] 169:=by rw[aN];exact ei a9 _
  have cn:=N.size;obtain⟨hK,ao,a_,ba⟩:=bS bO;rw[aw]at ao a_ ba;have bP:b2 (λq=>lo<=q) F (ir n key val) S cY az:=by
   unfold ir;rw[if_neg (by rw[H];simp)];refine⟨?_,?_,?_⟩
   .refine bo.bh (bq.im (bq.ab (bq.ab (bq.ext bJ z) ag λq a e=>?_) N λq a e=>?_)) λq _ a=>?_
    .rcases a with a|a
     .exact(d.bW q a).2.2.2.1 e.2
     .have:=(f.bv q e.2).2.1;omega
    .subst e
     rcases a with a|a
     .exact(d.bW _ a).2.2.1 rfl
     .omega
    .rcases a with a|a
     .exact(d.bW q a).1
     .omega
   .refine bo.bh (bq.im (bq.ab bN N λq a e=>?_)) λq _ a=>?_
    .subst e
     rcases a with (a|a)|a
     .exact(d.bv _ a).2.2.1 rfl
     .omega
     .omega
    .rcases a with (a|a)|a
     .exact(d.bv q a).1
     .omega
     .omega
   .exact cK.bh (cM.pV (cM.ab (cM.ab (cM.ext bL z) ag λq a e=>(d.bv q e.2).2.2.2 a) N λq a e=>(d.aO q a).2.2 e)) λq _ a=>(d.aO q a).1
  have bT:(ir n key val).leaf=n.leaf:=by unfold ir;rw[if_neg (by rw[H];simp)]
  have bV:Ext w F:=Ext.dH (Ext.dH (a4.trans z) ag λk c=>I) N λk c=>by omega
  have bX:Var F w1.heap.size [false,(),(),()] 169:=by
   have h1:=aX.ext (L.trans x);have bY:=(h1.ab ac (λe=>by have:=e.1;omega)).ab u I;exact((bY.ext z).ab ag (λe=>by have:=e.1;omega)).ab N I
  rw[aw,aw];refine⟨_,hK,S,ao,cY,a_,az,ba,?_⟩;have:=jh n.leaf S cY az bX rfl (Q:=λb K V D ah=>oH (ir n key val) w (.tuple #[.agg #[b,K,V,D],true]) ah) λco bb=>⟨S,cY,az,by unfold dg;rw[bT],(bP.ab bb λq a e=>I).bh λq _ a=>I,Ext.bQ bV bb I⟩;simpa only[aw] using this
def rU(n:aA)(key:Key)(w:J)(v:Y)(w':J):Prop:=
 if iq n.keys key then oH (mN n key) w v w' else v=.tuple #[dg jW bG bG bG,false]/\Ext w w'
theorem ri{n:aA}{K V D tk:U}{key:Key}(h:b2 B w n K V D)(hs:hJ n)(a6:n.keys.length<=10000)(d:Src 1 w tk (aC key)):
 aI aj 130 #[dg n K V D,tk] w (rU n key w):=by
 have a8:=hs.len;have a9:n.kids.length=0:=by rw[hs.kids];rfl
 refine okF (ad.ri n.leaf K V D tk) ay.ri func130 ?_;(delta ad.ri z3 aW ae av aJ lz q1 af bR bf lB og gH bU ai st dD oe;dsimp only);refine bg (vs:=[n.leaf,K,V,D]) rfl λw1 E ax a_=>?_;refine bg (vs:=[false,(),(),()]) rfl λah aD A ba=>?_;have F:=ax.trans A;obtain⟨bM,aR,a7,bx⟩:=bS (E.ext A);refine⟨_,bM,K,aR,V,a7,D,bx,(nn (h.ext F) (d.ext F) hs.fG I).use ?_⟩;rintro _ aE ⟨rfl,s⟩;have T:=F.trans s;obtain⟨bM,aR,a7,bx⟩:=bS (E.ext (A.trans s));refine⟨_,_,rfl,n.leaf,bM,cx (λb w'=>b=false/\Ext aE w') (λq a=>⟨λf=>?_,λf=>⟨_,bM,K,aR,V,a7,D,bx,(kV (h.ext T) I I I).use ?_⟩⟩) ?_⟩
 .rw[hs.leaf]at f;cases f
 .rintro _ W ⟨b,rfl,aF,o⟩
  have:=aF.2 (.inl hs);subst this;exact⟨true,rfl,a _ _ ⟨rfl,o⟩⟩
 rintro _ W ⟨rfl,o⟩;have G:=T.trans o;have bb:=o.size;have bc:=s.size;have X:=aD.ext (s.trans o);refine⟨λf=>?_,λf=>?_⟩
 .have f:iq n.keys key=false:=by simpa using f
  refine jh false bG bG bG X rfl (Q:=λb K V D ah=>rU n key w (.tuple #[.agg #[b,K,V,D],false]) ah) λY aK=>?_;unfold rU;rw[if_neg (by rw[f];simp)];exact⟨rfl,Ext.bQ G aK I⟩
 have Z:iq n.keys key=true:=by simpa using f
 have aB:cX n.keys key<n.keys.length:=(jK.1 (bB Z)).1;obtain⟨bM,aR,a7,bx⟩:=bS (E.ext (A.trans (s.trans o)));refine⟨_,bM,K,aR,V,a7,D,bx,(fV (h.ext G) I I I hs.fJ.1 hs.fJ.2).use ?_⟩;rintro _ Y ⟨p,g,az,bw,bD,br,rfl,j,H⟩;have aL:=G.trans H;have bd:=H.size;refine⟨n.leaf,p,g,az,rfl,bg (vs:=[false,(),(),()]) rfl λbe ac L bi=>⟨ac.cF rfl ?_,rfl,c6 ac (us:=[n.leaf,p,g,az]) rfl rfl λt ag C bj=>?_⟩⟩
 .intro v ak
  simp only[cN,er,ez]at ak;rcases ak with rfl|rfl|rfl|rfl<;>trivial
 obtain⟨aG,aM⟩:=U6 Y.heap.size;rw[←aM]at ag C⊢;obtain⟨lo,aN⟩:=U6 W.heap.size;rw[←aN]at j;have aP:Ext w t:=Ext.bQ (aL.trans L) C I;have aQ:Var t w1 [false,(),(),()] 169:=((X.ext H).ext L).ab C I;have c:iO lo t aG n p g az bw bD br:=by
  have r:gx lo t n p g az bw bD br:=(j.ext L).ab C λq _ _ a e=>by
   subst e;rcases a with a|a|a
   .have:=(j.bW _ a).2.1;omega
   .have:=(j.bv _ a).2.1;omega
   .have:=(j.aO _ a).2;omega
  refine⟨ag,r.keys,r.vals,r.kids,λq a=>?_,λq a=>?_,λq a=>?_,I⟩
  .have h1:=r.bW q a;have:=(j.bW q a).2.1;exact⟨h1.1,h1.2.1,I,h1.2.2⟩
  .have h1:=r.bv q a;have:=(j.bv q a).2.1;exact⟨h1.1,h1.2.1,I,h1.2.2⟩
  .have h1:=r.aO q a;have:=(j.aO q a).2;exact⟨h1.1,h1.2,I⟩
 have al:∀k,ar p k->bw k:=λk d=>by obtain⟨ts,_,_,M,_⟩:=c.keys;exact(M k d).1
 have am:∀k,ar g k->bD k:=λk d=>by obtain⟨ts,_,_,M,_⟩:=c.vals;exact(M k d).1
 obtain⟨d0,d1,d2,d3⟩:=bS c.v;have bk:=c.v.lt;rw[bl (n:=((cX n.keys key:Nat):Int)+1) I I];refine⟨p,d1,(Dd c.keys I aB).use ?_⟩;rintro _ N ⟨S,rfl,aS,aT⟩;have u:aa (λq=>lo<=q/\bw q) t N:=aT.mono λk _ d=>⟨(c.bW k (al k d)).1,al k d⟩;have an:=c.v.ab u λe=>(c.bW _ e.2).2.2.1 rfl;obtain⟨s1,s2⟩:=dT an (i:=1) U9;refine⟨S,rfl,?_⟩;rw[aw,aw];refine⟨s1,s2,aH ?_⟩;obtain⟨l,O⟩:=U6 (N.setCell ⟨aG,0+1,none⟩ S);rw[←O];have x:aa (λq=>q=aG) N l:=by rw[O];exact dz _ _ _ _
 have ap:Var l aG [n.leaf,S,g,az] 169:=by rw[O];exact ei an _
 have aU:bq bw l S (n.keys.take (cX n.keys key)++n.keys.drop (cX n.keys key+1)):=bq.ab aS x λq a e=>(c.bW q a).2.2.1 e;have aV:bq bD l g n.vals:=bq.ab (bq.ab c.vals u λq a e=>(c.bW q e.2).2.2.2.1 a) x λq a e=>(c.bv q a).2.2.1 e;have aX:cM br l az n.kids:=cM.ab (cM.ab c.kids u λq a e=>(c.bW q e.2).2.2.2.2 a) x λq a e=>(c.aO q a).2.2 e;obtain⟨f0,f1,f2,f3⟩:=bS ap;rw[aw]at f2;refine⟨g,f2,(Dd aV I I).use ?_⟩;rintro _ P ⟨cY,rfl,aY,aZ⟩;have y:aa (λq=>lo<=q/\bD q) l P:=aZ.mono λk _ d=>⟨(c.bv k (am k d)).1,am k d⟩;have aq:=ap.ab y λe=>(c.bv _ e.2).2.2.1 rfl;obtain⟨s1,s2⟩:=dT aq (i:=2) U9;refine⟨cY,rfl,?_⟩;rw[aw,aw];refine⟨s1,s2,aH ?_⟩;obtain⟨m,R⟩:=U6 (P.setCell ⟨aG,0+2,none⟩ cY);rw[←R];have z:aa (λq=>q=aG) P m:=by rw[R];exact dz _ _ _ _
 have a0:Var m aG [n.leaf,S,cY,az] 169:=by rw[R];exact ei aq _
 obtain⟨hK,ao,a1,a2⟩:=bS a0;have a3:b2 (λq=>lo<=q) m (mN n key) S cY az:=by
  refine⟨?_,?_,?_⟩
  .exact bo.bh (bq.im (bq.ab (bq.ab aU y λq a e=>(c.bW q a).2.2.2.1 e.2) z λq a e=>(c.bW q a).2.2.1 e)) λq _ a=>(c.bW q a).1
  .exact bo.bh (bq.im (bq.ab aY z λq a e=>(c.bv q a).2.2.1 e)) λq _ a=>(c.bv q a).1
  .exact cK.bh (cM.pV (cM.ab (cM.ab aX y λq a e=>(c.bv q e.2).2.2.2 a) z λq a e=>(c.aO q a).2.2 e)) λq _ a=>(c.aO q a).1
 have a4:Ext w m:=Ext.dH (Ext.dH (Ext.dH (Ext.dH aP u λk d=>I) x λk d=>I) y λk d=>I) z λk d=>by omega
 have a5:Var m w1 [false,(),(),()] 169:=
  (((aQ.ab u (λe=>by have:=e.1;omega)).ab x I).ab y (λe=>by have:=e.1;omega)).ab z I
 refine⟨_,hK,S,ao,cY,a1,az,a2,jh n.leaf S cY az a5 rfl (Q:=λb K V D ah=>rU n key w (.tuple #[.agg #[b,K,V,D],true]) ah) λbm au=>?_⟩;unfold rU;rw[if_pos Z];exact⟨S,cY,az,rfl,(a3.ab au λq a e=>I).bh λq _ a=>I,Ext.bQ a4 au I⟩
theorem zL{n:aA}(hs:cC n)(m:Nat):((cellsOf n).take m).sum<=100*n.keys.length:=by
 have h1:((cellsOf n).take m).sum<=(cellsOf n).sum:=by
  have:=zm (cellsOf n) m;omega
 have a:=zy hs n.keys.length (a_ _);rw[eZ (by rw[rQ hs];exact a_ _)]at a;have b:=zF hs n.keys.length (a_ _);omega
theorem ow{n:aA}{K V D:U}(h:b2 B w n K V D)(hs:cC n)(G:n.keys.length<=10000){most:Nat}(H:most<=n.keys.length):
 aI aj 282 #[dg n K V D,most] w (λv w'=>v=.int .i64 ((gV (cellsOf n) most:Nat):Int)/\Ext w w'):=by
 refine okF (ad.ow n.leaf K V D (most:Int)) ay.ow func282 ?_;(delta ad.ow av aJ ae gg af aW bU ai;dsimp only);refine bg (vs:=[n.leaf,K,V,D]) rfl λw1 o d _=>?_;obtain⟨bM,aR,a7,bx⟩:=bS o;have gK:=bo.len h.keys;have L:=rQ hs;have x:∀ (j:Nat) (f:j<(cellsOf n).length),(cellsOf n)[j]=(eF n j).length:=λj f=>by
  have h1:=zx hs (i:=j) I;rw[dB f]at h1;exact Option.some.inj h1
 refine⟨K,aR,λa i w'=>∃j:Nat,i=j/\j<=n.keys.length/\a=((((cellsOf n).take j).sum:Nat):Int)/\Ext w1 w',λ_ i _=>((n.keys.length:Int)-i).toNat,⟨0,rfl,cw _,by simp,.refl _ _⟩,?_⟩;rintro _ _ ah ⟨j,rfl,f,rfl,g⟩;obtain⟨d0,d1,d2,d3⟩:=bS (o.ext g);refine⟨λaB=>?_,λb=>?_⟩
 .have aB:j<n.keys.length:=U4 (bB aB)
  refine⟨_,d0,K,d1,V,d2,D,d3,(ov (h.ext (d.trans g)) hs aB I).use ?_⟩;rintro _ M ⟨s,rfl,p,A,_⟩;have q:=kC p;have C:=zL hs j;have hc:=xF hs aB;have e:=rN (l:=cellsOf n) (i:=j) I;rw[x j I]at e;refine⟨s,rfl,?_⟩;rw[q,bl (n:=((((cellsOf n).take j).sum:Nat):Int)+(((eF n j).length:Nat):Int)) I I,bl (n:=(j:Int)+1) I I];refine⟨⟨j+1,I,I,I,g.trans A⟩,?_⟩;show((n.keys.length:Int)-((j:Int)+1)).toNat<((n.keys.length:Int)-(j:Int)).toNat;omega
 have b:j=n.keys.length:=U4 (bT b)
 subst b;rw[eZ (l:=cellsOf n) I];refine⟨λa i w'=>∃j:Nat,i=j/\j<=most/\a=((((cellsOf n).take j).sum:Nat):Int)/\Ext w1 w'/\∀k,k<j->2*((cellsOf n).take (k+1)).sum<(cellsOf n).sum,λ_ i _=>((most:Int)-i).toNat,⟨0,rfl,cw _,by simp,g,λk E=>I⟩,?_⟩;rintro _ _ N ⟨j,rfl,f,rfl,c,r⟩;obtain⟨d0,d1,d2,d3⟩:=bS (o.ext c);have F:=zL hs (cellsOf n).length;rw[gD]at F;refine⟨λaB=>?_,λb=>?_⟩
 .have aB:j<most:=U4 (bB aB)
  refine⟨_,d0,K,d1,V,d2,D,d3,(ov (h.ext (d.trans c)) hs I I).use ?_⟩;rintro _ O ⟨s,rfl,p,y,_⟩;have q:=kC p;have C:=zL hs j;have hc:=xF hs (i:=j) I;have e:=rN (l:=cellsOf n) (i:=j) I;rw[x j I]at e;refine⟨s,rfl,?_⟩;rw[q,bl (n:=((((cellsOf n).take j).sum:Nat):Int)+(((eF n j).length:Nat):Int)) I I,bl (n:=2*(((((cellsOf n).take j).sum:Nat):Int)+(((eF n j).length:Nat):Int))) I I,bl (n:=(j:Int)+1) I I];refine⟨λhd=>⟨?_,d.trans (c.trans y)⟩,λhd=>⟨⟨j+1,I,I,I,c.trans y,λk E=>?_⟩,?_⟩⟩
  .have hd:=bB hd
   have t:(List.range most).find? (λi=>decide ((cellsOf n).sum<=2*((cellsOf n).take (i+1)).sum))=some j:=by
    have:=ga aB (a_ most);rw[List.find?_eq_some_iff_append];refine⟨dm I,List.range j,List.range' (j+1) (most-(j+1)),?_,λa u=>?_⟩
    .have z:=List.range'_append (s:=0) (m:=j) (n:=most-(j+1)+1) (step:=1)
     rw[uD,uD,←List.range'_succ];rw[mY,cT]at z;rw[z]
     congr 1
     omega
    .have:=r a (iV.1 u)
     simp;omega
   unfold gV;rw[t];rfl
  .have hd:=bT hd
   rcases dA k j with h1|h1
   .exact r k h1
   .have:k=j:=I
    subst this;omega
  .show((most:Int)-((j:Int)+1)).toNat<((most:Int)-(j:Int)).toNat
   omega
 .have b:j=most:=U4 (bT b)
  subst b;refine⟨?_,d.trans c⟩;have t:(List.range j).find? (λi=>decide ((cellsOf n).sum<=2*((cellsOf n).take (i+1)).sum))=none:=by
   rw[kn];intro a u;have:=r a (iV.1 u);simp;omega
  unfold gV;rw[t]
theorem bo.sub{s:U}{hi:Nat}(h:bo B w s ls)(h1:lo<=hi)(m:hi<=ls.length):bo B w ⟨bj s.a 1 lo s.cap,hi-lo,s.cap-lo⟩ ((ls.drop lo).take (hi-lo)):=by
 have n:=bo.len h;obtain⟨ts,ao,b,c,d,e⟩:=h;refine⟨(ts.drop lo).take (hi-lo),by simp[ao],?_,by show hi-lo<=s.cap-lo;omega,λk f=>?_,λi g j=>?_⟩
 .have:=Src.sub b c h1 I
  simpa[qp,m3] using this
 .obtain⟨A,ak,l⟩:=xG f
  exact d k ⟨A,ak,l⟩
 .simp only[mu,qs]
  rw[cQ,dW]at g j;exact e (lo+i) I I
theorem bo.le{s:U}(h:bo B w s ls):s.len<=s.cap:=by
 obtain⟨ts,_,_,a,_⟩:=h;exact a
theorem cK.sub{s:U}{hi:Nat}(h:cK B w s ds)(h1:lo<=hi)(g:hi<=ds.length):cK B w ⟨bj s.a 1 lo s.cap,hi-lo,s.cap-lo⟩ ((ds.drop lo).take (hi-lo)):=by
 have i:=cK.len h;obtain⟨c,b,d⟩:=h;have j:s.len<=s.cap:=b;refine⟨?_,by show hi-lo<=s.cap-lo;omega,λk e=>?_⟩
 .have:=Src.sub c b h1 I
  simpa[dv,qp,m3] using this
 .obtain⟨A,ak,f⟩:=xG e
  exact d k ⟨A,ak,f⟩
theorem pZ(b:ag)(K V D:U):∀v∈([b,K,V,D]:O Y),Plain v:=by
 intro v a;simp only[cN,er,ez]at a;rcases a with rfl|rfl|rfl|rfl<;>trivial
theorem De{c:J}{r1 bA:Nat}{zM n:O Y}{c3 cu:ag}{fL gy bX dP ep de:U}(h1:Var c r1 zM 169)(w:Var c bA n 169)(o:zM.length=4)(p:n.length=4)(r:r1≠bA)(cz:∀q,q=r1->W q)
 {Q:ag->U->U->U->ag->U->U->U->U2} (x:∀b,aa (λq=>q=r1\/q=bA) c b->Q c3 fL gy bX cu dP ep de b):
 c5 c r1 [c3,fL,gy,bX]/\(4:Nat)=4/\au (setCells c r1 0 [c3,fL,gy,bX]) λd=>
  aa W c d/\c5 d bA [cu,dP,ep,de]/\(4:Nat)=4/\au (setCells d bA 0 [cu,dP,ep,de]) λb=>
  ∃s:ag,b.cell? r1=some (.bool s)/\∃f:U,b.cell? (Addr.add r1 1)=some (.slice f.a f.len f.cap)/\∃g:U,b.cell? (Addr.add r1 2)=some (.slice g.a g.len g.cap)/\∃i:U,b.cell? (Addr.add r1 3)=some (.slice i.a i.len i.cap)/\
  ∃t:ag,b.cell? bA=some (.bool t)/\∃j:U,b.cell? (Addr.add bA 1)=some (.slice j.a j.len j.cap)/\∃k:U,b.cell? (Addr.add bA 2)=some (.slice k.a k.len k.cap)/\∃l:U,b.cell? (Addr.add bA 3)=some (.slice l.a l.len l.cap)/\Q s f g i t j k l b:=by
 refine⟨h1.cF (by rw[o];rfl) (pZ _ _ _ _),rfl,c6 h1 (us:=[c3,fL,gy,bX]) (by rw[o];rfl) rfl λd y m _=>?_⟩;have u:=w.ab m (λe=>r e.symm);refine⟨m.mono λq _ h=>cz q h,u.cF (by rw[p];rfl) (pZ _ _ _ _),rfl,c6 u (us:=[cu,dP,ep,de]) (by rw[p];rfl) rfl λb z v _=>?_⟩;obtain⟨bM,aR,a7,bx⟩:=bS (y.ab v r);obtain⟨d0,d1,d2,d3⟩:=bS z;exact⟨c3,bM,fL,aR,gy,a7,bX,bx,cu,d0,dP,d1,ep,d2,de,d3,x b ((m.mono λq _ h=>.inl h).trans (v.mono λq _ h=>.inr h))⟩
def xI(n:aA)(w:J)(v:Y)(w':J):Prop:=
 ∃ (fL gy bX dP ep de t:U),v=.tuple #[dg (n.left (cB n)) fL gy bX,t,dg (n.right (cB n)) dP ep de,true]/\
  b2 (λq=>w<=q) w' (n.left (cB n)) fL gy bX/\b2 (λq=>w<=q) w' (n.right (cB n)) dP ep de/\bI (λq=>w<=q) w' t (n.keys.getD (cB n) [])/\Ext w w'
theorem rz{n:aA}{K V D:U}(h:b2 B w n K V D)(hs:cC n)(aC:n.keys.length<=10000)(bc:1<=cB n)
 (C:if n.leaf then cB n<=n.keys.length-1/\1<=n.keys.length-1 else cB n<=n.keys.length-2/\1<=n.keys.length-2):
 aI aj 281 #[dg n K V D] w (xI n w):=by
 have b6:n.vals.length<=10000:=by
  rcases hs with hs|hs
  .rw[hs.len];omega
  .rw[hs.vals];simp
 have b7:n.kids.length<=10001:=by
  rcases hs with hs|hs
  .rw[hs.kids];simp
  .rw[hs.len];omega
 have ag:∀k∈n.keys,k.length<=100000:=λk l=>by have:=(hs.keys.ok k l).2;omega
 have ap:∀k∈n.vals,k.length<=100000:=λk l=>by have:=hs.vals k l;omega
 have gK:=bo.len h.keys;obtain⟨most,am⟩:=U6 (if n.leaf then n.keys.length-1 else n.keys.length-2)
 have aq:1<=most/\most<=n.keys.length/\cB n<=most:=by
  rw[am]
  cases u:n.leaf<;>rw[u]at C<;>simp at C⊢<;>omega
 have au:cB n<n.keys.length:=by
  cases u:n.leaf<;>rw[u]at C<;>simp at C<;>omega
 refine okF (ad.rz n.leaf K V D) ay.rz func281 ?_;(delta ad.rz z3 av aJ ae aW af ai bR bf b1 gH b5 vK aQ aO aV bU c2 dC y6 y0 jB y7 yZ;dsimp only);refine bg (vs:=[n.leaf,K,V,D]) rfl λw1 a1 bd b8=>?_;refine bg (vs:=[false,(),(),()]) rfl λah be aD b9=>?_;refine bg (vs:=[false,(),(),()]) rfl λbi bk ax b_=>?_;have a2:=bd.trans (aD.trans ax);obtain⟨bM,aR,a7,bx⟩:=bS ((a1.ext aD).ext ax);refine⟨K,aR,cx (λm w'=>m=(most:Int)/\bi=w') (λq f=>⟨n.leaf,bM,λL=>f _ _ ⟨?_,rfl⟩,λL=>f _ _ ⟨?_,rfl⟩⟩) ?_⟩
 .have L:n.leaf=false:=by simpa using L
  rw[L]at C am;simp at C am;rw[bl (n:=(K.len:Int)-1) I I,bl I I];omega
 .have L:n.leaf=true:=by simpa using L
  rw[L]at C am;simp at C am;rw[bl I I];omega
 rintro _ _ ⟨rfl,rfl⟩;refine⟨_,bM,K,aR,V,a7,D,bx,(kV (h.ext a2) I I I).use ?_⟩;rintro _ v ⟨b,rfl,L,an⟩;have bm:=L.2 hs;subst bm;have ao:=cc v;have S:=a2.trans (an.trans ao);have aB:=((a1.ext aD).ext ax).ext (an.trans ao);have aE:=(be.ext ax).ext (an.trans ao);have aF:=bk.ext (an.trans ao);have ca:=(an.trans ao).size;obtain⟨bM,aR,a7,bx⟩:=bS aB;have cb:v.drew.heap.size=v.heap.size:=rfl;have fin:∀ (g aK:J) (aG:Nat) (c d az:U) (bw bD br:U1),Ext w g->v.heap.size<=aG/\v.heap.size<=g.heap.size->Var g aG [n.leaf,c,d,az] 169->gx v.heap.size g n c d az bw bD br->Var g w.heap.size [n.leaf,K,V,D] 169->Var g w1.heap.size [false,(),(),()] 169->Var g ah.heap.size [false,(),(),()] 169->aK.heap.size=aG->ad.CC w w1 ah aK ((gV (cellsOf n) most:Nat):Int) g (xI n w):=λg aK aG c d az bw bD br E ⟨M,cd⟩ F N T W X bn=>by
  have bp:gV (cellsOf n) most=cB n:=by unfold cB;rw[am]
  rw[bp];(delta ad.CC vK av aJ ae aQ aO aV bU aW af b1 c2 dC y6 y0 jB gH bf ai y7 yZ pr;dsimp only);rw[bn];obtain⟨i,hi⟩:=U6 (cB n);rw[←hi]at au aq bc;rw[←hi];obtain⟨a3,a4,bs,bt⟩:=bS T;obtain⟨A,t,ak,bu,hc,ht,_⟩:=bo.at (h.ext E).keys au;refine⟨K,a4,A,ak,bu,t,hc,(mM (B:=λq=>w.heap.size<=q) ht.1 (by have:=ag _ (cg au);omega) (λq f=>fg E.size f)).use ?_⟩;rintro _ G ⟨tk,rfl,a5,aL,a6⟩;have aM:=cc G;obtain⟨a3,a4,bs,bt⟩:=bS (T.ext aL);have H:=aL.trans aM;obtain⟨f0,f1,f2,f3⟩:=bS (F.ext H);have y:=N.at.ext H;have ce:=bo.len y.keys;have cf:=bo.len y.vals;have ch:=cK.len y.kids;have ci:=bo.le (bq.im N.keys);have cj:=bo.le (bq.im N.vals);have ck:az.len<=az.cap:=y.kids.2.1;have cl:g.heap.size<=G.heap.size:=aL.size;have a8:n.keys.getD i []=n.keys[i]:=c8 au;refine⟨tk,rfl,n.leaf,a3,λu=>aH ⟨λq=>q=w1.heap.size,λe=>?_,c,f1,⟨I,I⟩,λe=>?_,d,f2,⟨I,?_⟩,#[true,.slice (bj c.a 1 0 c.cap) i c.cap,.slice (bj d.a 1 0 d.cap) i d.cap,()],(λw=>by kernel_rfl),λe=>?_,c,f1,⟨I,I⟩,λe=>?_,d,f2,⟨I,?_⟩,#[true,.slice (bj c.a 1 i c.cap) (c.len-i) (c.cap-i),.slice (bj d.a 1 i d.cap) (d.len-i) (d.cap-i),()],(λw=>by kernel_rfl),?_⟩,λu=>?_⟩
  .rw[aw]at e;have e:aG=w1.heap.size:=e;omega
  .rw[aw]at e;have e:aG=w1.heap.size:=e;omega
  .have:=hs.tT u;omega
  .rw[aw]at e;have e:aG=w1.heap.size:=e;omega
  .rw[aw]at e;have e:aG=w1.heap.size:=e;omega
  .have:=hs.tT u;omega
  .have bz:=hs.tT u
   have o:n.left i=⟨true,n.keys.take i,n.vals.take i,[]⟩:=by unfold aA.left;rw[u];rfl
   have p:n.right i=⟨true,n.keys.drop i,n.vals.drop i,[]⟩:=by unfold aA.right;rw[u];rfl
   have aN:b2 (λq=>v.heap.size<=q) G.drew (n.left i) ⟨bj c.a 1 0 c.cap,i,c.cap⟩ ⟨bj d.a 1 0 d.cap,i,d.cap⟩ bG:=by
    rw[o];refine⟨?_,?_,cK.none _ _⟩
    .have:=bo.sub y.keys (lo:=0) (hi:=i) I I
     simpa using this
    .have:=bo.sub y.vals (lo:=0) (hi:=i) I I
     simpa using this
   have aP:b2 (λq=>v.heap.size<=q) G.drew (n.right i) ⟨bj c.a 1 i c.cap,c.len-i,c.cap-i⟩ ⟨bj d.a 1 i d.cap,d.len-i,d.cap-i⟩ bG:=by
    rw[p];refine⟨?_,?_,cK.none _ _⟩
    .have:=bo.sub y.keys (lo:=i) (hi:=c.len) I I
     rwa[eZ (by rw[dW];omega)]at this
    .have:=bo.sub y.vals (lo:=i) (hi:=d.len) I I
     rwa[eZ (by rw[dW];omega)]at this
   have rV:=fV aN (by rw[o];show(n.keys.take i).length<=_;rw[cQ];omega) (by rw[o];show(n.vals.take i).length<=_;rw[cQ];omega) (by rw[o];simp) (by rw[o];exact λk l=>ag k (gd l)) (by rw[o];exact λk l=>ap k (gd l));have aS:(.agg #[true,.slice (bj c.a 1 0 c.cap) i c.cap,.slice (bj d.a 1 0 d.cap) i d.cap,()]:Y)=dg (n.left i) ⟨bj c.a 1 0 c.cap,i,c.cap⟩ ⟨bj d.a 1 0 d.cap,i,d.cap⟩ bG:=by rw[o];rfl
   have aT:(.agg #[true,.slice (bj c.a 1 i c.cap) (c.len-i) (c.cap-i),.slice (bj d.a 1 i d.cap) (d.len-i) (d.cap-i),()]:Y)=dg (n.right i) ⟨bj c.a 1 i c.cap,c.len-i,c.cap-i⟩ ⟨bj d.a 1 i d.cap,d.len-i,d.cap-i⟩ bG:=by rw[p];rfl
   rw[aS,aT];refine rV.use ?_;rintro _ bA ⟨fL,gy,bX,bC,bE,bF,rfl,aU,O⟩;have aX:=fV (aP.ext O) (by rw[p];show(n.keys.drop i).length<=_;rw[dW];omega) (by rw[p];show(n.vals.drop i).length<=_;rw[dW];omega) (by rw[p];simp) (by rw[p];exact λk l=>ag k (gb l)) (by rw[p];exact λk l=>ap k (gb l));refine⟨_,fL,gy,bX,rfl,aa.da O,aX.use ?_⟩;rintro _ bH ⟨dP,ep,de,bJ,bK,bL,rfl,aY,al⟩;have P:=O.trans al;have bN:=O.size;have bO:=H.size;refine⟨_,dP,ep,de,rfl,aa.da al,De (c3:=(n.left i).leaf) (cu:=(n.right i).leaf) (fL:=fL) (gy:=gy) (bX:=bX) (dP:=dP) (ep:=ep) (de:=de) ((W.ext H).ext P) ((X.ext H).ext P) rfl rfl I (λq f=>f) (Q:=λc3 fL gy bX cu dP ep de w'=>xI n w (.tuple #[.agg #[c3,fL,gy,bX],tk,.agg #[cu,dP,ep,de],true]) w') λbP R=>?_⟩;have bT:G.drew.heap.size=G.heap.size:=rfl;refine⟨fL,gy,bX,dP,ep,de,tk,by rw[←hi];rfl,?_,?_,?_,?_⟩
   .rw[←hi];exact((aU.at.ext al).ab R λq f e=>I).bh λq _ f=>by omega
   .rw[←hi];exact(aY.at.ab R λq f e=>I).bh λq _ f=>by omega
   .rw[←hi,a8]
    have aZ:∀q,ar tk q->g.heap.size<=q:=a6;exact bI.l7 (bI.ext (bI.ext a5 aM) P) R λq f e=>by have:=aZ q f;omega
   .exact Ext.dH (E.trans (H.trans P)) R λq f=>by omega
  .have bz:=hs.xE u
   have cm:i<=n.keys.length-2/\1<=n.keys.length-2:=by rw[u,←hi]at C;simpa using C
   have bV:IntKind.wrap .i64 ((i:Int)+1)=((i+1:Nat):Int):=by rw[bl I I];rfl
   rw[bV];refine aH ⟨λq=>q=w1.heap.size,λe=>?_,c,f1,⟨I,I⟩,λe=>?_,az,f3,⟨I,I⟩,#[false,.slice (bj c.a 1 0 c.cap) i c.cap,(),.slice (bj az.a 1 0 az.cap) (i+1) az.cap],(λw=>by kernel_rfl),λe=>?_,c,f1,⟨I,I⟩,λe=>?_,az,f3,⟨I,I⟩,#[false,.slice (bj c.a 1 (i+1) c.cap) (c.len-(i+1)) (c.cap-(i+1)),(),.slice (bj az.a 1 (i+1) az.cap) (az.len-(i+1)) (az.cap-(i+1))],(λw=>by kernel_rfl),?_⟩
   .rw[aw]at e;have e:aG=w1.heap.size:=e;omega
   .rw[aw]at e;have e:aG=w1.heap.size:=e;omega
   .rw[aw]at e;have e:aG=w1.heap.size:=e;omega
   .rw[aw]at e;have e:aG=w1.heap.size:=e;omega
   have o:n.left i=⟨false,n.keys.take i,[],n.kids.take (i+1)⟩:=by unfold aA.left;rw[u];rfl
   have p:n.right i=⟨false,n.keys.drop (i+1),[],n.kids.drop (i+1)⟩:=by unfold aA.right;rw[u];rfl
   have aN:b2 (λq=>v.heap.size<=q) G.drew (n.left i) ⟨bj c.a 1 0 c.cap,i,c.cap⟩ bG ⟨bj az.a 1 0 az.cap,i+1,az.cap⟩:=by
    rw[o];refine⟨?_,bo.none _ _,?_⟩
    .have:=bo.sub y.keys (lo:=0) (hi:=i) I I
     simpa using this
    .have:=cK.sub y.kids (lo:=0) (hi:=i+1) I I
     simpa using this
   have aP:b2 (λq=>v.heap.size<=q) G.drew (n.right i) ⟨bj c.a 1 (i+1) c.cap,c.len-(i+1),c.cap-(i+1)⟩ bG ⟨bj az.a 1 (i+1) az.cap,az.len-(i+1),az.cap-(i+1)⟩:=by
    rw[p];refine⟨?_,bo.none _ _,?_⟩
    .have:=bo.sub y.keys (lo:=i+1) (hi:=c.len) I I
     rwa[eZ (by rw[dW];omega)]at this
    .have:=cK.sub y.kids (lo:=i+1) (hi:=az.len) I I
     rwa[eZ (by rw[dW];omega)]at this
   have rV:=fV aN (by rw[o];show(n.keys.take i).length<=_;rw[cQ];omega) (by rw[o];simp) (by rw[o];show(n.kids.take (i+1)).length<=_;rw[cQ];omega) (by rw[o];exact λk l=>ag k (gd l)) (by rw[o];simp);have aS:(.agg #[false,.slice (bj c.a 1 0 c.cap) i c.cap,(),.slice (bj az.a 1 0 az.cap) (i+1) az.cap]:Y)=dg (n.left i) ⟨bj c.a 1 0 c.cap,i,c.cap⟩ bG ⟨bj az.a 1 0 az.cap,i+1,az.cap⟩:=by rw[o];rfl
   have aT:(.agg #[false,.slice (bj c.a 1 (i+1) c.cap) (c.len-(i+1)) (c.cap-(i+1)),(),.slice (bj az.a 1 (i+1) az.cap) (az.len-(i+1)) (az.cap-(i+1))]:Y)=dg (n.right i) ⟨bj c.a 1 (i+1) c.cap,c.len-(i+1),c.cap-(i+1)⟩ bG ⟨bj az.a 1 (i+1) az.cap,az.len-(i+1),az.cap-(i+1)⟩:=by rw[p];rfl
   rw[aS,aT];refine rV.use ?_;rintro _ bA ⟨fL,gy,bX,bC,bE,bF,rfl,aU,O⟩;have aX:=fV (aP.ext O) (by rw[p];show(n.keys.drop (i+1)).length<=_;rw[dW];omega) (by rw[p];simp) (by rw[p];show(n.kids.drop (i+1)).length<=_;rw[dW];omega) (by rw[p];exact λk l=>ag k (gb l)) (by rw[p];simp);refine⟨_,fL,gy,bX,rfl,aa.da O,aX.use ?_⟩;rintro _ bH ⟨dP,ep,de,bJ,bK,bL,rfl,aY,al⟩;have P:=O.trans al;have bN:=O.size;have bO:=H.size;refine⟨_,dP,ep,de,rfl,aa.da al,De (c3:=(n.left i).leaf) (cu:=(n.right i).leaf) (fL:=fL) (gy:=gy) (bX:=bX) (dP:=dP) (ep:=ep) (de:=de) ((W.ext H).ext P) ((X.ext H).ext P) rfl rfl I (λq f=>f) (Q:=λc3 fL gy bX cu dP ep de w'=>xI n w (.tuple #[.agg #[c3,fL,gy,bX],tk,.agg #[cu,dP,ep,de],true]) w') λbP R=>?_⟩;have bT:G.drew.heap.size=G.heap.size:=rfl;refine⟨fL,gy,bX,dP,ep,de,tk,by rw[←hi];rfl,?_,?_,?_,?_⟩
   .rw[←hi];exact((aU.at.ext al).ab R λq f e=>I).bh λq _ f=>by omega
   .rw[←hi];exact(aY.at.ab R λq f e=>I).bh λq _ f=>by omega
   .rw[←hi,a8]
    have aZ:∀q,ar tk q->g.heap.size<=q:=a6;exact bI.l7 (bI.ext (bI.ext a5 aM) P) R λq f e=>by have:=aZ q f;omega
   .exact Ext.dH (E.trans (H.trans P)) R λq f=>by omega
 refine⟨true,rfl,λh=>?_,λ_=>aH ⟨λ_=>False,id,_,bM,K,aR,V,a7,D,bx,id,_,bM,K,aR,V,a7,D,bx,⟨?_,?_⟩⟩⟩
 .simp only[Bool.not_true,lP]at h
  have:=bB h;omega
 .refine(fV (h.ext S) I I I ag ap).use ?_
  rintro _ a9 ⟨c,d,az,bw,bD,br,rfl,Z,z⟩;refine⟨n.leaf,c,d,az,rfl,z,⟨?_,?_⟩⟩
  .refine(ow (h.ext (S.trans z)) hs aC (most:=most) aq.2.1).use ?_
   rintro _ a0 ⟨rfl,r⟩;refine⟨_,rfl,r,bg (vs:=[false,(),(),()]) rfl λa_ ac s ba=>⟨s,ac.cF rfl (pZ _ _ _ _),rfl,c6 ac (us:=[n.leaf,c,d,az]) rfl rfl λg F j bb=>?_⟩⟩;have bY:=z.size;have bZ:=r.size;obtain⟨aG,M⟩:=U6 a0.heap.size;rw[←M]at F j⊢;have x:=z.trans (r.trans s);have N:gx v.heap.size g n c d az bw bD br:=(Z.ext (r.trans s)).ab j λq _ _ f e=>by
    subst e;rcases f with f|f|f
    .have:=(Z.bW _ f).2.1;omega
    .have:=(Z.bv _ f).2.1;omega
    .have:=(Z.aO _ f).2;omega
   have E:Ext w g:=Ext.bQ (S.trans x) j I;have T:=(aB.ext x).ab j I;have W:=(aE.ext x).ab j I;have X:=(aF.ext x).ab j I;subst M;exact fin g _ _ c d az bw bD br E ⟨I,I⟩ F N T W X rfl
  .refine bg (vs:=[false,(),(),()]) rfl λa0 b0 r cn=>⟨r,?_⟩
   refine(ow (h.ext (S.trans (z.trans r))) hs aC (most:=most) aq.2.1).use ?_;rintro _ a_ ⟨rfl,s⟩;have ac:=b0.ext s;refine⟨_,rfl,s,ac.cF rfl (pZ _ _ _ _),rfl,c6 ac (us:=[n.leaf,c,d,az]) rfl rfl λg F j bb=>?_⟩;have bY:=z.size;have ba:=s.size;obtain⟨aG,M⟩:=U6 a9.heap.size;rw[←M]at F j⊢;have x:=z.trans (r.trans s);have N:gx v.heap.size g n c d az bw bD br:=(Z.ext (r.trans s)).ab j λq _ _ f e=>by
    subst e;rcases f with f|f|f
    .have:=(Z.bW _ f).2.1;omega
    .have:=(Z.bv _ f).2.1;omega
    .have:=(Z.aO _ f).2;omega
   have E:Ext w g:=Ext.bQ (S.trans x) j I;have T:=(aB.ext x).ab j I;have W:=(aE.ext x).ab j I;have X:=(aF.ext x).ab j I;subst M;exact fin g _ _ c d az bw bD br E ⟨I,I⟩ F N T W X rfl
 .refine bg (vs:=[false,(),(),()]) rfl λa9 b3 z co=>⟨z,?_⟩
  refine(fV (h.ext (S.trans z)) I I I ag ap).use ?_;rintro _ a0 ⟨c,d,az,bw,bD,br,rfl,b4,r⟩;refine⟨n.leaf,c,d,az,rfl,r,(ow (h.ext (S.trans (z.trans r))) hs aC (most:=most) aq.2.1).use ?_⟩;rintro _ a_ ⟨rfl,s⟩;have ac:=b3.ext (r.trans s);refine⟨_,rfl,s,ac.cF rfl (pZ _ _ _ _),rfl,c6 ac (us:=[n.leaf,c,d,az]) rfl rfl λg F j bb=>?_⟩;have bZ:=r.size;have ba:=s.size;obtain⟨aG,M⟩:=U6 v.drew.heap.size;rw[←M]at F j⊢;have x:=z.trans (r.trans s);have N:gx v.heap.size g n c d az bw bD br:=((b4.ext s).ab j λq h1 _ _ e=>I).low I;have E:Ext w g:=Ext.bQ (S.trans x) j I;have T:=(aB.ext x).ab j I;have W:=(aE.ext x).ab j I;have X:=(aF.ext x).ab j I;subst M;exact fin g _ _ c d az bw bD br E ⟨I,I⟩ F N T W X rfl
theorem zN{s x:U}{xs:O Key}(m:bq B w s ls)(hx:bo C w x xs)(hd:∀q,C q->¬ar s q)(z:ls.length<=100000)(A:xs.length<=100000):
 ∃ (d:U) (w':J),Sem.run aj (Builtin.append_ #[93,93] 93 #[s,x]) w=.ok d w'/\bo (λq=>B q\/C q\/w<=q) w' d (ls++xs)/\aa (ar s) w w':=by
 have D:=bo.len hx;obtain⟨ts,h1,j,n,o⟩:=m;obtain⟨us,ao,p,E,F,r⟩:=hx;have G:s.len=ls.length:=by have:=j.1;rw[cV]at this;omega
 obtain⟨d,w',t,f,H,g,u⟩:=rR.append (c7:=93) p j (xB us) I;refine⟨d,w',t,⟨ts++us,by simp[h1,ao],?_,f.2.1,?_,λi v K=>?_⟩,g⟩
 .rw[eU];exact f.src
 .intro k c
  refine⟨?_,f.lt k c⟩;rcases u k c with h|h
  .exact .inl (n k h).1
  .exact .inr (.inr h)
 .rcases dA i ts.length with h|h
  .have l:i<ls.length:=I
   rw[sG h,sG l];obtain⟨a,b⟩:=o i h l;exact bI.bh (bI.l7 a g b) λk _ c=>.inl c
  .have y:i-ts.length<us.length:=by rw[b6]at v;omega
   have L:i-ls.length<xs.length:=I
   rw[uH h,uH I];have e:i-ls.length=i-ts.length:=I
   have a:=r (i-ts.length) y I;simp only[e];exact bI.bh (bI.l7 a g λk c=>hd k (a.2.2 k c).1) λk _ c=>.inr (.inl c)
theorem Df{s x:U}{es:O Nat}(d:cM B w s ds)(hx:cK C w x es)(j:ds.length<=100000)(l:es.length<=100000):
 ∃ (a:U) (w':J),Sem.run aj (Builtin.append_ #[72,72] 72 #[s,x]) w=.ok a w'/\cK (λq=>B q\/C q\/w<=q) w' a (ds++es)/\aa (ar s) w w':=by
 have m:=cK.len hx;obtain⟨h1,e⟩:=d;have n:s.len=ds.length:=by have:=h1.1;rw[mK]at this;omega
 obtain⟨a,w',f,b,o,g,i⟩:=mL.append (c7:=72) hx.1 h1 (xC es) I;refine⟨a,w',f,⟨?_,b.2.1,?_⟩,g⟩
 .have:dv ds++dv es=dv (ds++es):=by simp[dv]
  rw[this]at b;exact b.src
 .intro k c
  refine⟨?_,b.lt k c⟩;rcases i k c with h|h
  .exact .inl (e k h).1
  .exact .inr (.inr h)
theorem Iq{wp aI aK aL:J}{pa d W:Nat}{key X t p aj al am:U}{dk:J}{a b:aA}{s:Key}{aM:O Y}(be:dk.cell? pa=some (.bool a.leaf))
 (ak:Var dk d [a.leaf,X,t,p] 169) (aN:Var dk aG [b.leaf,aj,al,am] 169)
 (j:gx lo dk a X t p bw bD br) (bg:b2 C dk b aj al am) (g:∀q,C q->lo<=q/\q<dk/\q≠d/\q≠aG/\¬bw q/\¬bD q/\¬br q) (F:∀q,bw q\/bD q\/br q->q≠d/\q≠aG) (bi:lo<=d) (lb:lo<=aG) (an:d≠aG)
 (bj:Var dk W aM 169) (bk:aM.length=4) (b4:W<lo) (bl:w<=W) (u:Src 1 dk key (aC s)) (b5:s.length<=1000) (bm:Ext w dk) (hs:cC (dS a s b)) (aP:a.leaf=b.leaf) (ao:cC a) (sb:cC b)
 (bL:a.keys.length<=10000) (bz:b.keys.length<=10000) (bn:wp.heap.size=pa) (bp:aI.heap.size=d) (bs:aK.heap.size=aG) (bt:aL.heap.size=W):ad.zc wp aI aK aL key dk (oH (dS a s b) w):=by
 (delta ad.zc vC aW ae af b1 c2 dC aJ bU ap st av bR kz bf og dD oe;dsimp only);rw[bn,bp,bs,bt];have b7:=ak.lt;have b8:=aN.lt;have aQ:∀ {n:aA},cC n->n.keys.length<=10000->n.vals.length<=10000/\n.kids.length<=10001:=λ{n} h1 f=>by
  obtain h1|h1:=h1
  .rw[h1.len,h1.kids];exact⟨f,cw _⟩
  .rw[h1.len,h1.vals];exact⟨cw _,I⟩
 obtain⟨b9,b_⟩:=aQ ao bL;obtain⟨m9,ca⟩:=aQ sb bz;have aS:iO lo dk d a X t p bw bD br:=⟨ak,j.keys,j.vals,j.kids,λq c=>⟨(j.bW q c).1,(j.bW q c).2.1,(F q (.inl c)).1,(j.bW q c).2.2⟩,λq c=>⟨(j.bv q c).1,(j.bv q c).2.1,(F q (.inr (.inl c))).1,(j.bv q c).2.2⟩,λq c=>⟨(j.aO q c).1,(j.aO q c).2,(F q (.inr (.inr c))).1⟩,bi⟩;refine jQ (λw'=>∃ (K:U) (Z:U1),iO lo w' d ⟨a.leaf,if a.leaf then a.keys else a.keys++ [s],a.vals,a.kids⟩ K t p Z bD br/\aa (λq=>q=d\/bw q) dk w'/\(∀q,Z q->bw q\/dk<=q)) (λq c=>⟨_,be,λx=>?_,λx=>c _ ⟨X,bw,?_,.refl _ _,λq h=>.inl h⟩⟩) ?_
 .have x:a.leaf=false:=by simpa using x
  refine zK aS u I I λw' bu Z h1 f H=>c _ ⟨bu,Z,?_,f,H⟩;rw[if_neg (by rw[x];simp)];exact h1
 .have x:a.leaf=true:=by simpa using x
  rw[if_pos x];exact aS
 rintro w1 ⟨fL,aq,h1,L,aT⟩;have cb:=L.size;have aU:=aN.ab L (by
  rintro(h|h)
  .exact an h.symm
  .exact(F _ (.inl h)).2 rfl)
 have aV:=bg.ab L λq c h=>by
  have:=g q c;obtain h|h:=h
  .exact this.2.2.1 h
  .exact this.2.2.2.2.1 h
 have bA:=bj.ab L (by
  rintro(h|h)
  .omega
  .have:=(j.bW _ h).1;omega)
 have bB:Ext w w1:=Ext.dH bm L λq c=>by
  obtain h|h:=c
  .omega
  .have:=(j.bW _ h).1;omega
 obtain⟨M,ac⟩:∃l,l=(if a.leaf then a.keys else a.keys++ [s]):=⟨_,rfl⟩;rw[←ac]at h1;have cc:M.length<=10001:=by
  rw[ac];split
  .omega
  .rw[b6];simp;omega
 obtain⟨bM,aR,a7,bx⟩:=bS h1.v;obtain⟨d0,d1,d2,d3⟩:=bS aU;have y:∀q,ar fL q->aq q:=λk u=>by obtain⟨ts,_,_,H,_⟩:=h1.keys;exact(H k u).1
 have au:∀q,ar t q->bD q:=λk u=>by obtain⟨ts,_,_,H,_⟩:=h1.vals;exact(H k u).1
 have aX:∀q,ar p q->br q:=λk u=>(h1.kids.2 k u).1;have aY:∀q,C q->¬ar fL q:=λq c h=>by
  rcases aT q (y q h) with f|f
  .exact(g q c).2.2.2.2.1 f
  .have:=(g q c).2.1;omega
 obtain⟨h5,ah,N,P,r⟩:=zN h1.keys aV.keys aY (by show M.length<=_;omega) I;have aZ:=h1.v.ab r λh=>(h1.bW _ (y _ h)).2.2.1 rfl;obtain⟨R,S⟩:=dT aZ (i:=1) U9;refine⟨fL,aR,aj,d1,h5,ah,N,?_⟩;rw[aw,aw];refine⟨R,S,aH ?_⟩;obtain⟨m,ax⟩:=U6 (ah.setCell ⟨d,0+1,none⟩ h5);rw[←ax];have a0:aa (λq=>q=d) ah m:=by rw[ax];exact dz _ _ _ _
 have a1:Var m d [a.leaf,h5,t,p] 169:=by rw[ax];exact ei aZ _
 have z:aa (λq=>q=d\/ar fL q) w1 m:=(r.mono λq _ h=>.inr h).trans (a0.mono λq _ h=>.inl h);have a2:=aU.ab z (by
  rintro(h|h)
  .exact an h.symm
  .rcases aT _ (y _ h) with f|f
   .exact(F _ (.inl f)).2 rfl
   .omega)
 have a3:=aV.ab z λq c h=>by
  obtain h|h:=h
  .exact(g q c).2.2.1 h
  .exact aY q c h
 have bC:=bq.ab h1.vals z λq c h=>by
  obtain h|h:=h
  .exact(h1.bv q c).2.2.1 h
  .exact(h1.bW q (y q h)).2.2.2.1 c
 have bE:=cM.ab h1.kids z λq c h=>by
  obtain h|h:=h
  .exact(h1.aO q c).2.2 h
  .exact(h1.bW q (y q h)).2.2.2.2 c
 have bF:=bA.ab z (by
  rintro(h|h)
  .omega
  .have:=(h1.bW _ (y _ h)).1;omega)
 have bG:Ext w m:=Ext.dH bB z λq c=>by
  obtain h|h:=c
  .omega
  .have:=(h1.bW _ (y _ h)).1;omega
 have bH:bo (λq=>(aq q\/C q\/w1<=q)/\q≠d) m h5 (M++b.keys):=by
  have ay:bo (λq=>(aq q\/C q\/w1<=q)/\q≠d) ah h5 (M++b.keys):=bo.bh P λq _ c=>⟨c,by
   obtain h|h|h:=c
   .exact(h1.bW _ h).2.2.1
   .exact(g _ h).2.2.1
   .omega⟩
  exact bo.ab ay a0 λq c h=>c.2 h
 obtain⟨bM,aR,a7,bx⟩:=bS a1;obtain⟨d0,d1,d2,d3⟩:=bS a2;have cd:=z.size
 obtain⟨cY,ag,N,P,r⟩:=zN bC a3.vals (λq c h=>(g q c).2.2.2.2.2.1 (au q h)) (by show a.vals.length<=_;omega) I;have a4:=a1.ab r λh=>(h1.bv _ (au _ h)).2.2.1 rfl;obtain⟨R,S⟩:=dT a4 (i:=2) U9;rw[aw]at a7 d2;refine⟨t,a7,al,d2,cY,ag,N,?_⟩;rw[aw,aw];refine⟨R,S,aH ?_⟩;obtain⟨o,az⟩:=U6 (ag.setCell ⟨d,0+2,none⟩ cY);rw[←az];have a5:aa (λq=>q=d) ag o:=by rw[az];exact dz _ _ _ _
 have a6:Var o d [a.leaf,h5,cY,p] 169:=by rw[az];exact ei a4 _
 have A:aa (λq=>q=d\/bD q) m o:=(r.mono λq _ h=>.inr (au q h)).trans (a5.mono λq _ h=>.inl h);have bI:=a2.ab A (by
  rintro(h|h)
  .exact an h.symm
  .exact(F _ (.inr (.inl h))).2 rfl)
 have bJ:=a3.ab A λq c h=>by
  obtain h|h:=h
  .exact(g q c).2.2.1 h
  .exact(g q c).2.2.2.2.2.1 h
 have bK:=bo.ab bH A λq c h=>by
  obtain h|h:=h
  .exact c.2 h
  .obtain f|f|f:=c.1
   .exact(h1.bW _ f).2.2.2.1 h
   .exact(g _ f).2.2.2.2.2.1 h
   .have:=(h1.bv _ h).2.1;omega
 have bN:=cM.ab bE A λq c h=>by
  obtain h|h:=h
  .exact(h1.aO q c).2.2 h
  .exact(h1.bv q h).2.2.2 c
 have bO:=bF.ab A (by
  rintro(h|h)
  .omega
  .have:=(h1.bv _ h).1;omega)
 have bP:Ext w o:=Ext.dH bG A λq c=>by
  obtain h|h:=c
  .omega
  .have:=(h1.bv _ h).1;omega
 have bT:bo (λq=>(bD q\/C q\/m<=q)/\q≠d) o cY (a.vals++b.vals):=by
  have ay:bo (λq=>(bD q\/C q\/m<=q)/\q≠d) ag cY (a.vals++b.vals):=bo.bh P λq _ c=>⟨c,by
   obtain h|h|h:=c
   .exact(h1.bv _ h).2.2.1
   .exact(g _ h).2.2.1
   .omega⟩
  exact bo.ab ay a5 λq c h=>c.2 h
 obtain⟨bM,aR,a7,bx⟩:=bS a6;obtain⟨d0,d1,d2,d3⟩:=bS bI;have ce:=A.size
 obtain⟨k1,aB,N,P,r⟩:=Df bN bJ.kids (by show a.kids.length<=_;omega) I;have a8:=a6.ab r λh=>(h1.aO _ (aX _ h)).2.2 rfl;obtain⟨R,S⟩:=dT a8 (i:=3) U9;rw[aw]at bx d3;refine⟨p,bx,am,d3,k1,aB,N,?_⟩;rw[aw,aw];refine⟨R,S,aH ?_⟩;obtain⟨E,aD⟩:=U6 (aB.setCell ⟨d,0+3,none⟩ k1);rw[←aD];have a9:aa (λq=>q=d) aB E:=by rw[aD];exact dz _ _ _ _
 have a_:Var E d [a.leaf,h5,cY,k1] 169:=by rw[aD];exact ei a8 _
 have T:aa (λq=>q=d\/br q) o E:=(r.mono λq _ h=>.inr (aX q h)).trans (a9.mono λq _ h=>.inl h);have bV:=bo.ab bK T λq c h=>by
  obtain h|h:=h
  .exact c.2 h
  .obtain f|f|f:=c.1
   .exact(h1.bW _ f).2.2.2.2 h
   .exact(g _ f).2.2.2.2.2.2 h
   .have:=(h1.aO _ h).2.1;omega
 have bX:=bo.ab bT T λq c h=>by
  obtain h|h:=h
  .exact c.2 h
  .obtain f|f|f:=c.1
   .exact(h1.bv _ f).2.2.2 h
   .exact(g _ f).2.2.2.2.2.2 h
   .have:=(h1.aO _ h).2.1;omega
 have bY:=bO.ab T (by
  rintro(h|h)
  .omega
  .have:=(h1.aO _ h).1;omega)
 have bZ:Ext w E:=Ext.dH bP T λq c=>by
  obtain h|h:=c
  .omega
  .have:=(h1.aO _ h).1;omega
 have cf:=T.size;have ba:b2 (λq=>lo<=q) E (dS a s b) h5 cY k1:=by
  have kg:dS a s b=⟨a.leaf,M++b.keys,a.vals++b.vals,a.kids++b.kids⟩:=by
   unfold dS
   cases G:a.leaf with
   |true=>
    have aE:a.kids=[]:=by
     obtain h|h:=ao
     .exact h.kids
     .have:=h.inner;rw[G]at this;cases this
    have kb:b.kids=[]:=by
     obtain h|h:=sb
     .exact h.kids
     .have:=h.inner;rw[←aP,G]at this;cases this
    rw[ac,G,aE,kb];simp
   |false=>
    have aE:a.vals=[]:=by
     obtain h|h:=ao
     .have:=h.leaf;rw[G]at this;cases this
     .exact h.vals
    have kb:b.vals=[]:=by
     obtain h|h:=sb
     .have:=h.leaf;rw[←aP,G]at this;cases this
     .exact h.vals
    rw[ac,G,aE,kb];simp
  rw[kg];refine⟨bo.bh bV λq _ c=>?_,bo.bh bX λq _ c=>?_,cK.bh (cK.ab (B:=λq=>(br q\/C q\/o<=q)/\q≠d) (cK.bh P λq _ c=>⟨c,?_⟩) a9 λq c h=>c.2 h) λq _ c=>?_⟩
  .obtain h|h|h:=c.1
   .exact(h1.bW _ h).1
   .exact(g _ h).1
   .omega
  .obtain h|h|h:=c.1
   .exact(h1.bv _ h).1
   .exact(g _ h).1
   .omega
  .obtain h|h|h:=c
   .exact(h1.aO _ h).2.2
   .exact(g _ h).2.2.1
   .omega
  .obtain h|h|h:=c.1
   .exact(h1.aO _ h).1
   .exact(g _ h).1
   .omega
 obtain⟨bM,aR,a7,bx⟩:=bS a_;rw[aw]at aR a7 bx;have cg:(dS a s b).keys.length<=20001:=by
  unfold dS;split
  .show(a.keys++b.keys).length<=_;rw[b6];omega
  .show(a.keys++s::b.keys).length<=_;rw[b6,eE];omega
 have ch:(dS a s b).vals.length<=20001:=by
  unfold dS;split
  .show(a.vals++b.vals).length<=_;rw[b6];omega
  .simp
 have ci:(dS a s b).kids.length<=20002:=by
  unfold dS;split
  .simp
  .show(a.kids++b.kids).length<=_;rw[b6];omega
 have bb:(dS a s b).leaf=a.leaf:=CL
 repeat rw[aw]
 refine⟨_,bM,h5,aR,cY,a7,k1,bx,?_⟩;have aF:=kV ba I I I;unfold dg at aF;rw[bb]at aF;refine aF.use ?_;rintro _ cj ⟨ck,rfl,b0,ai⟩;have:=b0.2 hs;subst this;obtain⟨bM,aR,a7,bx⟩:=bS (a_.ext ai);rw[aw]at aR a7 bx;have bc:=jh a.leaf h5 cY k1 (bY.ext ai) bk (Q:=λb3 K V D ah=>oH (dS a s b) w (.tuple #[.agg #[b3,K,V,D],true]) ah) λcl bd=>⟨h5,cY,k1,by unfold dg;rw[bb],((ba.ext ai).ab bd λq c e=>I).bh λq _ c=>I,Ext.bQ (bZ.trans ai) bd bl⟩
 repeat rw[aw]at bc
 exact⟨true,rfl,nofun,λ_=>⟨_,bM,h5,aR,cY,a7,k1,bx,bc⟩⟩
theorem pJ{bi bj:U1}{a b:aA}{S T V W X Y key:U}{s:Key}(aY:b2 bi w a S T V)(aZ:b2 bj w b W X Y)(N:Src 1 w key (aC s))(bk:∀q,ar key q->q<w.heap.size)(bl:s.length<=1000)(an:cC a)(sb:cC b)(a0:a.leaf=b.leaf)(hs:cC (dS a s b))
 (bL:a.keys.length<=10000) (bz:b.keys.length<=10000):
 aI aj 264 #[dg a S T V,key,dg b W X Y] w (oH (dS a s b) w):=by
 have a1:∀ {n:aA},cC n->n.keys.length<=10000->n.vals.length<=10000/\n.kids.length<=10001:=λ{n} h1 aP=>by
  rcases h1 with h1|h1
  .rw[h1.len,h1.kids];exact⟨aP,cw _⟩
  .rw[h1.len,h1.vals];exact⟨cw _,I⟩
 obtain⟨bF,bG⟩:=a1 an bL;obtain⟨m9,bH⟩:=a1 sb bz;have aq:∀k∈a.keys,k.length<=100000:=λk N=>by have:=(an.keys.ok k N).2;omega
 have z:∀k∈b.keys,k.length<=100000:=λk N=>by have:=(sb.keys.ok k N).2;omega
 have aw:∀k∈a.vals,k.length<=100000:=λk N=>by have:=an.vals k N;omega
 have A:∀k∈b.vals,k.length<=100000:=λk N=>by have:=sb.vals k N;omega
 refine okF (ad.pJ a.leaf S T V key b.leaf W X Y) ay.pJ func264 ?_;(delta ad.pJ z3 aW ae av aJ bR q1 af bf lB og b1 gH b7 vC c2 dC bU ap st oe px;dsimp only);refine bg (vs:=[a.leaf,S,T,V]) rfl λw1 aQ bm bI=>?_;refine bg (vs:=[b.leaf,W,X,Y]) rfl λah aS aE bJ=>?_;refine bg (vs:=[false,(),(),()]) rfl λbn bo Z bK=>?_;have a2:=bm.trans (aE.trans Z);obtain⟨bM,aR,a7,bx⟩:=bS (aQ.ext (aE.trans Z));refine⟨_,bM,S,aR,T,a7,V,bx,(kV (aY.ext a2) I I I).use ?_⟩;rintro _ bp ⟨c3,rfl,bq,Q⟩;have:=bq.2 an;subst this;have a3:=a2.trans Q;obtain⟨d0,d1,d2,d3⟩:=bS (aS.ext (Z.trans Q));refine⟨true,rfl,cx (λb w'=>b=false/\Ext bp w') (λq p=>⟨nofun,λ_=>⟨_,d0,W,d1,X,d2,Y,d3,(kV (aZ.ext a3) I I I).use ?_⟩⟩) ?_⟩
 .rintro _ aF ⟨cu,rfl,br,O⟩
  have:=br.2 sb;subst this;exact⟨true,rfl,p _ _ ⟨rfl,O⟩⟩
 rintro _ aF ⟨rfl,O⟩;have bs:=a3.trans O;obtain⟨bM,aR,a7,bx⟩:=bS (aQ.ext (aE.trans (Z.trans (Q.trans O))));obtain⟨d0,d1,d2,d3⟩:=bS (aS.ext (Z.trans (Q.trans O)));refine cx (λb w'=>b=false/\aF=w') (λq p=>⟨nofun,λ_=>⟨_,bM,_,d0,p _ _ ⟨by rw[a0];simp,rfl⟩⟩⟩) ?_;rintro _ _ ⟨rfl,rfl⟩;have ax:=cc aF;have a4:=bs.trans ax;obtain⟨x,ac⟩:=U6 aF.drew;have a5:Var x w.heap.size [a.leaf,S,T,V] 169:=by rw[ac];exact(aQ.ext (aE.trans (Z.trans (Q.trans O)))).ext ax
 have bt:Var x w1.heap.size [b.leaf,W,X,Y] 169:=by rw[ac];exact(aS.ext (Z.trans (Q.trans O))).ext ax
 have bu:Var x ah.heap.size [false,(),(),()] 169:=by rw[ac];exact(bo.ext (Q.trans O)).ext ax
 have az:Ext w x:=by rw[ac];exact a4
 have bN:bn.heap.size<=x.heap.size:=by rw[ac];exact(Q.trans O).size
 have aB:=aY.ext az;have B:=aZ.ext az;have bw:=N.ext az;obtain⟨lo,bO⟩:=U6 x.heap.size;rw[←ac];clear bM aR a7 bx d0 d1 d2 d3 ac a4 ax;have fin:∀ {ag lb y aG:Nat}{R al r aT g7:J}{t u v i j l:U}{fM aU aV a6 a8 a9:U1},gx ag R a t u v fM aU aV->gx lb al b i j l a6 a8 a9->Ext R r->Ext al r->Ext x r->
  Var r y [false,(),(),()] 169->Var r aG [false,(),(),()] 169->
  (x.heap.size<=ag/\ag<=R.heap.size/\R.heap.size<=lb/\x.heap.size<=y/\x.heap.size<=aG/\y≠aG/\(y<ag\/R.heap.size<=y)/\(aG<ag\/R.heap.size<=aG)/\(y<lb\/al.heap.size<=y)/\(aG<lb\/al.heap.size<=aG))->aT.heap.size=y->g7.heap.size=aG->
  c5 r y [a.leaf,t,u,v]/\(4:Nat)=4/\au (setCells r y 0 [a.leaf,t,u,v]) λaX=>
   c5 aX aG [b.leaf,i,j,l]/\(4:Nat)=4/\au (setCells aX aG 0 [b.leaf,i,j,l]) λaK=>ad.zc w aT g7 ah key aK (oH (dS a s b) w):=by
  intro ag lb y aG R al r aT g7 t u v i j l fM aU aV a6 a8 a9 o m a_ ba g bb bA bP bB bC;have eo:=a_.size;have gh:=ba.size;have z3:=g.size;refine⟨bb.cF rfl (pZ _ _ _ _),rfl,c6 bb (us:=[a.leaf,t,u,v]) rfl rfl λaX bD fW t5=>?_⟩;have bc:=bA.ab fW I;refine⟨bc.cF rfl (pZ _ _ _ _),rfl,c6 bc (us:=[b.leaf,i,j,l]) rfl rfl λaK bE bd t6=>?_⟩;have ai:aa (λq=>q=y\/q=aG) r aK:=(fW.mono λq _ h=>.inl h).trans (bd.mono λq _ h=>.inr h);have aD:∀q,fM q\/aU q\/aV q->ag<=q/\q<R.heap.size:=λq p=>by
   rcases p with p|p|p
   .exact⟨(o.bW q p).1,(o.bW q p).2.1⟩
   .exact⟨(o.bv q p).1,(o.bv q p).2.1⟩
   .exact o.aO q p
  have sz:=ai.size;exact Iq (lo:=lo) (dk:=aK) (C:=λq=>lb<=q/\q<al.heap.size) ((a5.ext g).ab ai I).cell (bD.ab bd I) bE (((o.ext a_).ab ai λq _ _ p e=>by have:=aD q p;omega).low I)
   (((m.at.bh λq h1 aP=>⟨aP,h1⟩).ext ba).ab ai λq p e=>I) (λq p=>⟨I,I,I,I,λh=>(by have:=aD q (.inl h);omega),λh=>(by have:=aD q (.inr (.inl h));omega),λh=>(by have:=aD q (.inr (.inr h));omega)⟩) (λq p=>(by have:=aD q p;exact⟨I,I⟩)) I I I
   ((bu.ext g).ab ai I) rfl I I ((bw.ext g).ab ai λq p e=>(by have:=bk q p;have:=az.size;omega)) bl (Ext.dH (az.trans g) ai λq p=>I) hs a0 an sb bL bz rfl bB bC rfl
 obtain⟨bM,aR,a7,bx⟩:=bS a5;obtain⟨d0,d1,d2,d3⟩:=bS bt;refine⟨nofun,λ_=>aH ⟨λ_=>False,id,_,bM,S,aR,T,a7,V,bx,id,_,d0,W,d1,X,d2,Y,d3,?_⟩⟩;refine⟨?_,?_,?_⟩
 .refine(fV aB I I I aq aw).use ?_
  rintro _ be ⟨t,u,v,aL,aM,aN,rfl,o,ao⟩;refine⟨_,t,u,v,rfl,ao,?_⟩;have s1:=ao.size;refine⟨?_,?_,?_⟩
  .refine(fV (B.ext ao) I I I z A).use ?_
   rintro _ am ⟨i,j,l,K,L,M,rfl,m,f⟩;refine⟨_,i,j,l,rfl,f,?_⟩;have s2:=f.size;refine⟨?_,?_⟩
   .refine bg (vs:=[false,(),(),()]) rfl λD E d z3=>⟨d,?_⟩
    have F:=d.size;refine bg (vs:=[false,(),(),()]) rfl λr G c z4=>⟨c,?_⟩;have H:=c.size;exact fin o m (f.trans (d.trans (c))) (d.trans (c)) (ao.trans (f.trans (d.trans c))) (E.ext c) (G) I rfl rfl
   .refine bg (vs:=[false,(),(),()]) rfl λD E d z3=>⟨d,?_⟩
    have F:=d.size;refine bg (vs:=[false,(),(),()]) rfl λr G c z4=>⟨c,?_⟩;have H:=c.size;exact fin o m (f.trans (d.trans (c))) (d.trans (c)) (ao.trans (f.trans (d.trans c))) (G) (E.ext c) I rfl rfl
  .refine bg (vs:=[false,(),(),()]) rfl λam P f gh=>⟨f,?_⟩
   have s2:=f.size;refine⟨?_,?_⟩
   .refine(fV (B.ext (ao.trans (f))) I I I z A).use ?_
    rintro _ D ⟨i,j,l,K,L,M,rfl,m,d⟩;refine⟨_,i,j,l,rfl,d,?_⟩;have F:=d.size;refine bg (vs:=[false,(),(),()]) rfl λr G c z4=>⟨c,?_⟩;have H:=c.size;exact fin o m (f.trans (d.trans (c))) (c) (ao.trans (f.trans (d.trans c))) (P.ext (d.trans (c))) (G) I rfl rfl
   .refine bg (vs:=[false,(),(),()]) rfl λD E d z3=>⟨d,?_⟩
    have F:=d.size;refine(fV (B.ext (ao.trans (f.trans (d)))) I I I z A).use ?_;rintro _ r ⟨i,j,l,K,L,M,rfl,m,c⟩;refine⟨_,i,j,l,rfl,c,?_⟩;have H:=c.size;exact fin o m (f.trans (d.trans (c))) ((aa.refl _ _)) (ao.trans (f.trans (d.trans c))) (P.ext (d.trans (c))) (E.ext c) I rfl rfl
  .refine bg (vs:=[false,(),(),()]) rfl λam P f gh=>⟨f,?_⟩
   have s2:=f.size;refine⟨?_,?_⟩
   .refine(fV (B.ext (ao.trans (f))) I I I z A).use ?_
    rintro _ D ⟨i,j,l,K,L,M,rfl,m,d⟩;refine⟨_,i,j,l,rfl,d,?_⟩;have F:=d.size;refine bg (vs:=[false,(),(),()]) rfl λr G c z4=>⟨c,?_⟩;have H:=c.size;exact fin o m (f.trans (d.trans (c))) (c) (ao.trans (f.trans (d.trans c))) (G) (P.ext (d.trans (c))) I rfl rfl
   .refine bg (vs:=[false,(),(),()]) rfl λD E d z3=>⟨d,?_⟩
    have F:=d.size;refine(fV (B.ext (ao.trans (f.trans (d)))) I I I z A).use ?_;rintro _ r ⟨i,j,l,K,L,M,rfl,m,c⟩;refine⟨_,i,j,l,rfl,c,?_⟩;have H:=c.size;exact fin o m (f.trans (d.trans (c))) ((aa.refl _ _)) (ao.trans (f.trans (d.trans c))) (E.ext c) (P.ext (d.trans (c))) I rfl rfl
 .refine bg (vs:=[false,(),(),()]) rfl λbe ak ao eo=>⟨ao,?_⟩
  have s1:=ao.size;refine⟨?_,?_⟩
  .refine(fV (aB.ext ao) I I I aq aw).use ?_
   rintro _ am ⟨t,u,v,aL,aM,aN,rfl,o,f⟩;refine⟨_,t,u,v,rfl,f,?_⟩;have s2:=f.size;refine⟨?_,?_⟩
   .refine(fV (B.ext (ao.trans (f))) I I I z A).use ?_
    rintro _ D ⟨i,j,l,K,L,M,rfl,m,d⟩;refine⟨_,i,j,l,rfl,d,?_⟩;have F:=d.size;refine bg (vs:=[false,(),(),()]) rfl λr G c z4=>⟨c,?_⟩;have H:=c.size;exact fin o m (d.trans (c)) (c) (ao.trans (f.trans (d.trans c))) (ak.ext (f.trans (d.trans (c)))) (G) I rfl rfl
   .refine bg (vs:=[false,(),(),()]) rfl λD E d z3=>⟨d,?_⟩
    have F:=d.size;refine(fV (B.ext (ao.trans (f.trans (d)))) I I I z A).use ?_;rintro _ r ⟨i,j,l,K,L,M,rfl,m,c⟩;refine⟨_,i,j,l,rfl,c,?_⟩;have H:=c.size;exact fin o m (d.trans (c)) ((aa.refl _ _)) (ao.trans (f.trans (d.trans c))) (ak.ext (f.trans (d.trans (c)))) (E.ext c) I rfl rfl
  .refine bg (vs:=[false,(),(),()]) rfl λam P f gh=>⟨f,?_⟩
   have s2:=f.size;refine(fV (aB.ext (ao.trans (f))) I I I aq aw).use ?_;rintro _ D ⟨t,u,v,aL,aM,aN,rfl,o,d⟩;refine⟨_,t,u,v,rfl,d,?_⟩;have F:=d.size;refine(fV (B.ext (ao.trans (f.trans (d)))) I I I z A).use ?_;rintro _ r ⟨i,j,l,K,L,M,rfl,m,c⟩;refine⟨_,i,j,l,rfl,c,?_⟩;have H:=c.size;exact fin o m (c) ((aa.refl _ _)) (ao.trans (f.trans (d.trans c))) (ak.ext (f.trans (d.trans (c)))) (P.ext (d.trans (c))) I rfl rfl
 .refine bg (vs:=[false,(),(),()]) rfl λbe ak ao eo=>⟨ao,?_⟩
  have s1:=ao.size;refine⟨?_,?_⟩
  .refine(fV (aB.ext ao) I I I aq aw).use ?_
   rintro _ am ⟨t,u,v,aL,aM,aN,rfl,o,f⟩;refine⟨_,t,u,v,rfl,f,?_⟩;have s2:=f.size;refine⟨?_,?_⟩
   .refine(fV (B.ext (ao.trans (f))) I I I z A).use ?_
    rintro _ D ⟨i,j,l,K,L,M,rfl,m,d⟩;refine⟨_,i,j,l,rfl,d,?_⟩;have F:=d.size;refine bg (vs:=[false,(),(),()]) rfl λr G c z4=>⟨c,?_⟩;have H:=c.size;exact fin o m (d.trans (c)) (c) (ao.trans (f.trans (d.trans c))) (G) (ak.ext (f.trans (d.trans (c)))) I rfl rfl
   .refine bg (vs:=[false,(),(),()]) rfl λD E d z3=>⟨d,?_⟩
    have F:=d.size;refine(fV (B.ext (ao.trans (f.trans (d)))) I I I z A).use ?_;rintro _ r ⟨i,j,l,K,L,M,rfl,m,c⟩;refine⟨_,i,j,l,rfl,c,?_⟩;have H:=c.size;exact fin o m (d.trans (c)) ((aa.refl _ _)) (ao.trans (f.trans (d.trans c))) (E.ext c) (ak.ext (f.trans (d.trans (c)))) I rfl rfl
  .refine bg (vs:=[false,(),(),()]) rfl λam P f gh=>⟨f,?_⟩
   have s2:=f.size;refine(fV (aB.ext (ao.trans (f))) I I I aq aw).use ?_;rintro _ D ⟨t,u,v,aL,aM,aN,rfl,o,d⟩;refine⟨_,t,u,v,rfl,d,?_⟩;have F:=d.size;refine(fV (B.ext (ao.trans (f.trans (d)))) I I I z A).use ?_;rintro _ r ⟨i,j,l,K,L,M,rfl,m,c⟩;refine⟨_,i,j,l,rfl,c,?_⟩;have H:=c.size;exact fin o m (c) ((aa.refl _ _)) (ao.trans (f.trans (d.trans c))) (P.ext (d.trans (c))) (ak.ext (f.trans (d.trans (c)))) I rfl rfl
section
variable {α:Type}{c:α->O Y}{sz:Nat}
def cl(c:α->O Y)(l:O α):O Y:=(l.map c).flatten
theorem rW(l m:O α):cl c (l++m)=cl c l++cl c m:=by simp[cl]
theorem tV(x:α)(l:O α):cl c (x::l)=c x++cl c l:=rfl
theorem gL:∀ (l:O α),(∀x∈l,(c x).length=sz)->(cl c l).length=l.length*sz
 | [],_=>by simp[cl]
 |x::l,h=>by
  rw[tV,b6,h x U9,gL l λy a=>h y (by simp[a]),eE,jw];omega
theorem Ir{l:O α}(h:i<l.length):l=l.take i++l[i]::l.drop (i+1):=by rw[←j5 h,iW]
theorem zO{l:O α}(hc:∀x∈l,(c x).length=sz)(h:i<l.length):(cl c l).take (i*sz)=cl c (l.take i)/\(cl c l).drop (i*sz)=c l[i]++cl c (l.drop (i+1)):=by
 have a:(cl c (l.take i)).length=i*sz:=by
  rw[gL _ λx hx=>hc x (gd hx),cQ,km I]
 have e:cl c l=cl c (l.take i)++(c l[i]++cl c (l.drop (i+1))):=by
  conv=>lhs;rw[Ir h]
  rw[rW,tV]
 rw[e];exact⟨nx a,drop_left' a⟩
theorem Dg{l:O α}(hc:∀x∈l,(c x).length=sz)(h:i<l.length):((cl c l).drop (i*sz)).take sz=c l[i]:=by
 rw[(zO hc h).2];exact nx (hc _ (cg h))
theorem p0{l:O α}(hc:∀x∈l,(c x).length=sz)(h:i<l.length)(a:j<sz):(cl c l)[i*sz+j]? =(c l[i])[j]? :=by
 rw[←Dg hc h,List.getElem?_take_of_lt a,sq]
theorem Dh{l:O α}(hc:∀x∈l,(c x).length=sz)(h:i<l.length)(x:α):(cl c l).take (i*sz)++c x++(cl c l).drop (i*sz+sz)=cl c (l.set i x):=by
 have h1:=zO hc h;have a:(cl c l).drop (i*sz+sz)=cl c (l.drop (i+1)):=by
  rw[←mm,h1.2];exact drop_left' (hc _ (cg h))
 rw[h1.1,a,List.set_eq_take_append_cons_drop,if_pos h,rW,tV,cU]
theorem zP{l:O α}(hc:∀x∈l,(c x).length=sz)(h:i<l.length)(a:j<sz){x:α}{v:Y}(hx:c x=(c l[i]).set j v):(cl c l).set (i*sz+j) v=cl c (l.set i x):=by
 have b:(c l[i]).length=sz:=hc _ (cg h);have h1:=zO hc h;have e:cl c l=cl c (l.take i)++(c l[i]++cl c (l.drop (i+1))):=by
  conv=>lhs;rw[←iW (i*sz) (cl c l),h1.1,h1.2]
 have d:(cl c (l.take i)).length=i*sz:=by
  rw[gL _ λx hx=>hc x (gd hx),cQ,km I]
 rw[e,uK _ _ I,show i*sz+j-(cl c (l.take i)).length=j from I,List.set_append_left _ _ I,←hx,List.set_eq_take_append_cons_drop,if_pos h,rW,tV]
end
section
variable {α:Type} [DecidableEq α] {P:Program}{w:J}{iJ fq T:TypeId}{enc:α->Y}{r:Nat}{M:O (α×Y)}{k:α}{v:Y}
theorem zQ(f:n_ P iJ enc)(j:P.underlying T=some (.map iJ fq))(h:dd w r enc M)(l:∀v,(k,v)∉M)(v:Y):
 ∃w1:J,(Instr.mapUpdate T (.map (some r)) (enc k) v).run P w=.ok () w1/\aa (λq=>q=r) w w1/\w1.heap.size=w/\dd w1 r enc ((k,v)::M):=by
 have aB:=h.lt;obtain⟨L,c,h,h1,m,n,g⟩:=h;have i:=Cg h1 l;have hf:=f.find L k w;rw[yP i]at hf;refine⟨jA w r (.map ((L.map (dR enc)).toArray.push ⟨enc k,v,c⟩) (c+1)),?_,s_ _ _ _,vk _ _ _,L++ [(k,v,c)],c+1,?_,?_,?_,?_,?_⟩
 .simp only[Instr.mapUpdate,Sem.run_bind,dh j,Result.andThen,ng h,Sem.run_pure,f.check,hf,yR h]
 .rw[vl aB]
  simp[dR]
 .rw[eU]
  have:([(k,v,c)]:O (α×Y×Nat)).map l0=[(k,v)]:=rfl;rw[this];exact(nP).trans (List.Perm.cons _ h1)
 .rw[eU,nO]
  refine⟨m,by simp,λa e b d=>?_⟩;obtain⟨x,hx,rfl⟩:=df.1 e;simp only[iX,o3,dV]at d;subst d;exact i x hx
 .rw[eU,nO]
  refine⟨n,by simp,λa e b d=>?_⟩;obtain⟨x,hx,rfl⟩:=df.1 e;simp only[iX,o3,dV]at d;subst d;have:=g x hx;omega
 .intro x hx
  rcases cE.1 hx with hx|hx
  .have:=g x hx;omega
  .rw[dV.1 hx];show c<c+1;omega
theorem Is(c:n_ P iJ enc)(i:P.underlying T=some (.map iJ fq))(h:dd w r enc ((k,v)::M))(b:Y):
 ∃w1:J,(Instr.mapUpdate T (.map (some r)) (enc k) b).run P w=.ok () w1/\aa (λq=>q=r) w w1/\w1.heap.size=w/\dd w1 r enc ((k,b)::M):=by
 have aB:=h.lt;obtain⟨n,bC,b8,a,f,h,h1,g,j,d,_⟩:=h.split;have hf:=c.find (bC++(k,v,a)::b8) k w;rw[yQ (Cf g),cT]at hf;have hg:((bC++(k,v,a)::b8).map (dR enc)).toArray[bC.length]? =some ⟨enc k,v,a⟩:=by simp[dR]
 have l:((bC++(k,v,a)::b8).map (dR enc)).toArray.modify bC.length (λe=>{e with key:=enc k,val:=b})=((bC++(k,b,a)::b8).map (dR enc)).toArray:=by
  apply Array.toList_inj.1;rw[Array.toList_modify,eU,iX];have:=Ce (λe=>{e with key:=enc k,val:=b}) (dR enc (k,v,a)) (b8.map (dR enc)) (bC.map (dR enc));rw[cV]at this;rw[this];simp[dR]
 refine⟨jA w r (.map ((bC++(k,b,a)::b8).map (dR enc)).toArray f),?_,s_ _ _ _,vk _ _ _,bC++(k,b,a)::b8,f,vl aB _,?_,?_,?_,?_⟩
 .simp only[Instr.mapUpdate,Sem.run_bind,dh i,Result.andThen,ng h,Sem.run_pure,c.check,hf,hg,mX,sw,Instr.keyThatStays,c.bits,if_true,yR h,l]
 .rw[eU,iX]
  rw[eU]at h1;exact nN.trans (h1.cons _)
 .simpa using g
 .simpa using j
 .intro x hx
  rcases cE.1 hx with hx|hx
  .exact d x (by simp[hx])
  .rcases cN.1 hx with rfl|hx
   .exact d (k,v,a) U9
   .exact d x (by simp[hx])
end
abbrev bY:=O UInt8
structure dE where
 i:Nat
 s:U
 secs:O bY
structure aS where
 d:Nat
 lb:Nat
 mr:Nat
 bN:O Int
 bk:O bY
 waits:O dE
 writes:Int
 aZ:Nat
 cj:Nat->ag
 eS:Nat->O bY
 r1:ag
def dE.e(x:dE):Int×Y:=((x.i:Int),x.s)
def aS.c(D:aS):O Y:=D.bN.map (.int .i64)++ [.slice (some ⟨D.lb,0,none⟩) D.bk.length D.bk.length,.map (some D.mr),.int .i64 D.writes]
def aS.n(D:aS):Nat:=D.bk.length
abbrev encZ:Int->Y:=λn=>n
theorem kh:n_ aj 3 encZ:=n_.int U3
theorem lG:Tryz.prog.underlying 125=some (.map 3 124):=by kernel_rfl
theorem zR:(Tryz.prog.info? 124).bind (·.zero)=some (.slice none 0 0):=by kernel_rfl
theorem p1{z:Y}(h:(P.info? T).bind (·.zero)=some z):∃i,P.info? T=some i/\i.zero=some z:=by
 cases hi:P.info? T with
 |none=>rw[hi]at h;cases h
 |some i=>rw[hi]at h;exact⟨i,rfl,h⟩
def bO(D:aS)(q:Nat):Prop:=q=D.d\/q=D.lb\/q=D.mr\/∃x∈D.waits,ar x.s q
structure cf(w:J)(D:aS):Prop where
 v:Var w D.d D.c 129
 l:bp w D.lb (cl aC D.bk).toArray 151
 m:dd w D.mr encZ (D.waits.map dE.e)
 ws:∀x∈D.waits,aL 256 151 w x.s (cl aC x.secs)
 wn:∀x∈D.waits,x.secs≠ []/\x.i<D.n/\x.secs.length<=D.aZ
 sl:∀s∈D.bk,s.length=256
 jX:∀x∈D.waits,∀s∈x.secs,s.length=256
 bL:16<=D.n
 bz:D.n<=1600
 f4:D.bN.length=4
 fr:∀x∈D.bN, -1<=x/\x<=9223372036854775807
 a1:D.d≠D.lb/\D.d≠D.mr/\D.lb≠D.mr
 a2:∀x∈D.waits,¬ar x.s D.d/\¬ar x.s D.lb/\¬ar x.s D.mr
 a3:∀x∈D.waits,∀y∈D.waits,x.i≠y.i->∀q,ar x.s q->¬ar y.s q
 r:D.r1=true->D.bN.getD 1 0= -1
theorem It{bN:O Int}{x:Int}(a:bN.length=4)(h:bN.getD 1 0= -1)(hx:k=1->x= -1):(bN.set k x).getD 1 0= -1:=by
 rw[fi]at h⊢;by_cases e:k=1
 .subst e
  rw[List.getElem?_set_self I,hx rfl];rfl
 .rw[List.getElem?_set_ne e];exact h
section
variable {w w':J}{D:aS}
theorem cf.ab(h:cf w D)(hc:aa W w w')(a:∀q,bO D q->¬W q):cf w' D:=
 ⟨h.v.ab hc (a _ (.inl rfl)),bp.ab h.l hc (a _ (.inr (.inl rfl))),h.m.ab hc (a _ (.inr (.inr (.inl rfl)))),λx hx=>(h.ws x hx).ab hc λq b=>a q (.inr (.inr (.inr ⟨x,hx,b⟩))),h.wn,h.sl,h.jX,h.bL,h.bz,h.f4,h.fr,h.a1,h.a2,h.a3,h.r⟩
theorem cf.ext(h:cf w D)(hc:Ext w w'):cf w' D:=h.ab hc λ_ _ h=>h
theorem cf.lt(h:cf w D){q:Nat}(a:bO D q):q<w:=by
 obtain rfl|rfl|rfl|⟨x,hx,a⟩:=a
 .exact h.v.lt
 .exact bp.lt h.l
 .exact h.m.lt
 .exact(h.ws x hx).lt q a
theorem cf.Iu(h:cf w D)(a:k<4):w.cell? ⟨D.d,k,none⟩=some (.int .i64 (D.bN.getD k 0)):=by
 rw[h.v.cell];unfold aS.c;have:=h.f4;rw[List.getElem?_append_left (by rw[cV];omega),ko,dB I,c8 I];rfl
theorem cf.fE(h:cf w D):w.cell? (Addr.add ⟨D.d,0,none⟩ 4)=some (.slice (some ⟨D.lb,0,none⟩) D.bk.length D.bk.length):=by
 rw[aw,h.v.cell];unfold aS.c;have:=h.f4;rw[j6 (by rw[cV];omega),cV,this];rfl
theorem cf.fW(h:cf w D):w.cell? (Addr.add ⟨D.d,0,none⟩ 5)=some (.map (some D.mr)):=by
 rw[aw,h.v.cell];unfold aS.c;have:=h.f4;rw[j6 (by rw[cV];omega),cV,this];rfl
theorem cf.xJ(h:cf w D):D.c.length=7:=by
 unfold aS.c;have:=h.f4;simp;omega
def aS.now(D:aS)(i:Nat):bY:=match D.waits.find? λx=>x.i==i with
 |some x=>x.secs.getLastD []
 |none=>D.bk.getD i []
theorem Iv{l:O α}{d:α}(h:l≠ []):l.getLastD d∈l:=by
 cases l with
 |nil=>exact absurd rfl h
 |cons a l=>
  rw[List.getLastD_cons];rw[←List.getLast_eq_getLastD];exact List.getLast_mem h
theorem cf.nA(h:cf w D)(hi:i<D.n):(D.now i).length=256:=by
 unfold aS.now
 cases hf:D.waits.find? λx=>x.i==i with
 |some x=>
  have hx:=jL hf;exact h.jX x hx _ (Iv (h.wn x hx).1)
 |none=>
  have a:i<D.bk.length:=hi;rw[show(match (none:an dE) with|some x=>x.secs.getLastD []|none=>D.bk.getD i [])=D.bk.getD i [] from rfl,c8 a];exact h.sl _ (cg _)
theorem oI(h:cf w D):aI aj 55 #[.pointer (some D.d)] w (λv w'=>v=D.n/\w=w'):=by
 refine okF (ad.we (some D.d)) ay.we func55 ?_;(delta ad.we af aE aJ;dsimp only);exact⟨nofun,λ_=>⟨_,rfl,⟨some D.lb,D.bk.length,D.bk.length⟩,h.fE,rfl,rfl⟩⟩
theorem zS(h:cf w D)(i:Int):aI aj 85 #[.pointer (some D.d),i] w (λv w'=>v=.bool (decide (0<=i/\i<D.n))/\w=w'):=by
 refine okF (ad.wz (some D.d) i) ay.wz func85 ?_;(delta ad.wz af aE aJ;dsimp only);refine cx (λb w'=>b=decide (0<=i/\i<D.n)/\w=w') (λq c=>⟨λa=>⟨_,rfl,⟨some D.lb,D.bk.length,D.bk.length⟩,h.fE,c _ _ ⟨?_,rfl⟩⟩,λa=>c _ _ ⟨?_,rfl⟩⟩) ?_
 .have a:0<=i:=by simpa using a
  rw[ek,cq,cq];exact⟨λh=>⟨a,h⟩,λh=>h.2⟩
 .have a:¬0<=i:=by simpa using a
  rw[ib (λh=>a h.1)]
 .rintro _ _ ⟨rfl,rfl⟩
  exact⟨rfl,rfl⟩
end
def gz(f:Int):ag×Int:=if f= -1 then (false, -1) else if f=0 then (true, -1) else (false,f-1)
theorem Iw{f:Int}(h: -1<=f/\f<=9223372036854775807): -1<=(gz f).2/\(gz f).2<=9223372036854775807:=by
 unfold gz;split
 .exact⟨by decide,by decide⟩
 .split
  .exact⟨by decide,by decide⟩
  .show -1<=f-1/\f-1<=_;omega
def aS.cI(D:aS)(k:Nat):aS:={D with bN:=D.bN.set k (gz (D.bN.getD k 0)).2}
def aS.fl(D:aS)(k:Nat):ag:=(gz (D.bN.getD k 0)).1
theorem zT{D:aS}(h:cf w D)(s:k<4):
 aI aj 117 #[.pointer (some ⟨D.d,0,none⟩),.int .i64 ((k:Nat):Int)] w (λv w'=>v=.bool (D.fl k)/\cf w' (D.cI k)/\aa (λq=>q=D.d) w w'/\w'.heap.size=w):=by
 have hf:=h.Iu s;have j:=h.f4;have t: -1<=D.bN.getD k 0/\D.bN.getD k 0<=9223372036854775807:=by rw[c8 I];exact h.fr _ (cg _)
 have n:∀ (w1:J),cf w1 D->cf (w1.setCell ⟨D.d,k,none⟩ (.int .i64 (gz (D.bN.getD k 0)).2)) (D.cI k):=by
  intro w1 h1;have hc:=dz w1 D.d k (.int .i64 (gz (D.bN.getD k 0)).2);have o:=ei h1.v (i:=k) (.int .i64 (gz (D.bN.getD k 0)).2);have e:D.c.set k (.int .i64 (gz (D.bN.getD k 0)).2)=(D.cI k).c:=by
   unfold aS.c aS.cI;rw[List.set_append_left _ _ (by rw[cV];omega),←List.map_set]
  rw[e]at o;refine⟨o,bp.ab h1.l hc (λe=>h.a1.1 e.symm),h1.m.ab hc (λe=>h.a1.2.1 e.symm),λx hx=>(h1.ws x hx).ab hc λq u e=>(h.a2 x hx).1 (by subst e;exact u),h.wn,h.sl,h.jX,h.bL,h.bz,by show(D.bN.set k _).length=4;rw[c_];exact j,λx hx=>?_,h.a1,h.a2,h.a3,λp=>It j (h.r p) λe=>by subst e;rw[h.r p];rfl⟩;rcases mx hx with hx|rfl
  .exact h.fr x hx
  .exact Iw t
 have g:Addr.add ⟨D.d,0,none⟩ (Int.toNat ((k:Nat):Int)*1)=⟨D.d,k,none⟩:=by rw[cS,eY,aw,cT]
 refine okF (ad.wG (some ⟨D.d,0,none⟩) ((k:Nat):Int)) ay.wG func117 ?_;(delta ad.wG aE r1 af st ai;dsimp only);refine⟨_,rfl,⟨I,by show(k:Int)<4;omega⟩,D.bN.getD k 0,by rw[g];exact hf,λh1=>?_,λh1=>⟨λa=>⟨_,rfl,⟨I,by show(k:Int)<4;omega⟩,?_⟩,λa=>aH ⟨_,rfl,⟨I,by show(k:Int)<4;omega⟩,id,_,by rw[g];exact hf,_,rfl,⟨I,by show(k:Int)<4;omega⟩,?_⟩⟩⟩
 .have h1:D.bN.getD k 0= -1:=by simpa using h1
  have b:D.fl k=false:=by unfold aS.fl gz;rw[if_pos h1]
  have f:D.cI k=D:=by
   unfold aS.cI gz;rw[if_pos h1];have:D.bN.set k (-1)=D.bN:=by
    rw[←h1,c8 I];exact sI _
   rw[this]
  rw[b,f];exact⟨rfl,h,.refl _ _,rfl⟩
 .have h1:D.bN.getD k 0≠ -1:=by simpa using h1
  have a:D.bN.getD k 0=0:=by simpa using a
  have hs:=dT h.v (i:=k) (by rw[h.xJ];omega);have b:D.fl k=true:=by unfold aS.fl gz;rw[if_neg h1,if_pos a]
  have f:(gz (D.bN.getD k 0)).2= -1:=by unfold gz;rw[if_neg h1,if_pos a]
  have:=n w h;rw[f]at this;rw[g,b];exact⟨hs.1,hs.2,aH ⟨rfl,this,dz _ _ _ _,by simp[World.setCell]⟩⟩
 .have h1:D.bN.getD k 0≠ -1:=by simpa using h1
  have a:D.bN.getD k 0≠0:=by simpa using a
  have hd:=h.ext (cc w);have hs:=dT hd.v (i:=k) (by rw[h.xJ];omega);have b:D.fl k=false:=by unfold aS.fl gz;rw[if_neg h1,if_neg a]
  have f:(gz (D.bN.getD k 0)).2=D.bN.getD k 0-1:=by unfold gz;rw[if_neg h1,if_neg a]
  have:=n w.drew hd;rw[f]at this;rw[g,b,bl I I];exact⟨hs.1,hs.2,aH ⟨rfl,this,(aa.da (cc w)).trans (dz _ _ _ _),by simp[World.setCell]⟩⟩
def aS.eC(D:aS)(i:Nat):O bY:=match D.waits.find? λx=>x.i==i with
 |some x=>x.secs
 |none=> []
theorem xK(D:aS)(h:∀x∈D.waits,x.secs≠ [])(i:Nat):D.now i=if D.eC i=[] then D.bk.getD i [] else (D.eC i).getLastD []:=by
 unfold aS.now aS.eC
 cases hf:D.waits.find? λx=>x.i==i with
 |some x=>
  have hx:=jL hf;simp only;rw[if_neg (h x hx)]
 |none=>simp
def aS.calm(D:aS)(k:Nat):Prop:=(D.bN.getD 1 0= -1\/(k:Int)<=D.bN.getD 1 0)/\(D.bN.getD 2 0= -1\/(k:Int)<=D.bN.getD 2 0)
def aS.kD(D:aS):Int->Prop:=λn=>(∀j,D.cj j=true)->D.writes=n
def aS.ro(D:aS):Prop:=∀i,D.cj i=true
def aS.key(D:aS):(O bY×(Nat->ag)×(Nat->O bY)×(Int->Prop)×ag)×Int:=((D.bk,D.cj,D.eS,D.kD,D.r1),D.bN.getD 3 0)
theorem cn{V:U1}{w' c:J}(h1:aa W w w')(a:aa V w' c)(h:∀q,q<w.heap.size->V q->W q):aa W w c:=
 ⟨a.os.trans h1.os,a.tape.trans h1.tape,a.output.trans h1.output,fg h1.size a.size,λk b cz=>(a.block k (ga b h1.size) λd=>cz (h k b d)).trans (h1.block k b cz)⟩
theorem gM{D:aS}{l:Nat}(h:D.calm k)(a:l<=k):D.calm l:=⟨h.1.imp id λh=>I,h.2.imp id λh=>I⟩
theorem kE{D:aS}{m:Nat}(d:k=1\/k=2)(g:D.bN.length=4)(h:D.calm (m+1)):(D.cI k).calm m/\D.fl k=false:=by
 obtain⟨h1,a⟩:=h;have e:1<D.bN.length:=I
 have f:2<D.bN.length:=I
 obtain rfl|rfl:=d
 .have b:(D.cI 1).bN.getD 1 0=(gz (D.bN.getD 1 0)).2:=by
   show(D.bN.set 1 _).getD 1 0=_;rw[c8 (by rw[c_];omega),hW]
  have c:(D.cI 1).bN.getD 2 0=D.bN.getD 2 0:=by
   show(D.bN.set 1 _).getD 2 0=_;rw[c8 (by rw[c_];omega),fD I,c8 f]
  unfold aS.calm aS.fl;rw[b,c];unfold gz;obtain h1|h1:=h1
  .rw[if_pos h1]
   exact⟨⟨.inl rfl,a.imp id λh=>I⟩,rfl⟩
  .rw[if_neg I,if_neg I]
   exact⟨⟨.inr (by show(m:Int)<=_-1;omega),a.imp id λh=>I⟩,rfl⟩
 .have b:(D.cI 2).bN.getD 2 0=(gz (D.bN.getD 2 0)).2:=by
   show(D.bN.set 2 _).getD 2 0=_;rw[c8 (by rw[c_];omega),hW]
  have c:(D.cI 2).bN.getD 1 0=D.bN.getD 1 0:=by
   show(D.bN.set 2 _).getD 1 0=_;rw[c8 (by rw[c_];omega),fD I,c8 e]
  unfold aS.calm aS.fl;rw[b,c];unfold gz;obtain a|a:=a
  .rw[if_pos a]
   exact⟨⟨h1.imp id λh=>I,.inl rfl⟩,rfl⟩
  .rw[if_neg I,if_neg I]
   exact⟨⟨h1.imp id λh=>I,.inr (by show(m:Int)<=_-1;omega)⟩,rfl⟩
theorem rX(D:aS)(a:k=1\/k=2):(D.cI k).key=D.key:=by
 unfold aS.key aS.cI;rcases a with rfl|rfl<;>simp[fi]<;>rfl
theorem zU{s:U}{c:α->O Y}{l:O α}(h:Src sz w s (cl c l))(hc:∀x∈l,(c x).length=sz)(e:0<sz)(hi:i<l.length):
 s.len=l.length/\∃A,s.a=some A/\cv w (A.add (i*sz)) 0 sz=some (c l[i]):=by
 have b:s.len=l.length:=by
  have:=h.len;rw[gL l hc]at this;exact(Nat.eq_of_mul_eq_mul_right e this).symm
 refine⟨b,?_⟩
 cases d:s.a with
 |none=>
  have:=congrArg List.length (h.nil d);rw[gL l hc,ic]at this;have:l.length*sz≠0:=Nat.mul_ne_zero I I;omega
 |some A=>
  refine⟨A,rfl,?_⟩;have f:i*sz+sz<=s.len*sz:=by
   rw[b,←Nat.succ_mul];exact ml _ hi
  rw[Ck (h.rd A d) f,Dg hc hi]
def rY:O Y:=aC (List.replicate 256 0)
def zV(D:aS)(i:Nat)(w:J)(v:Y)(w':J):Prop:=v=.agg (aC (D.now i)).toArray/\Ext w w'
theorem Di{D:aS}(h:cf w D)(hi:i<D.n)(R:D.aZ<=1000000000):
 aI aj 118 #[.pointer (some D.d),i] w (zV D i w):=by
 have S:=h.bz;have f:=h.nA hi;refine okF (ad.wH (some D.d) (i:Int)) ay.wH func118 ?_;(delta ad.wH z5 aE af ai y_ ae aJ pr aO;dsimp only);refine bg (vs:=rY) U3 λw1 g u _=>?_;have hd:=h.ext u;refine⟨_,rfl,some D.mr,hd.fW,?_⟩;have y:rY.length=256:=by rw[rY,dO,nS]
 have fin:∀ (K:O Y->U2),(∀a,Ext w a->K (aC (D.now i)) a)->c5 w1 w (Array.toList (aC (D.now i)).toArray)/\Array.size (aC (D.now i)).toArray=256/\au (setCells w1 w 0 (Array.toList (aC (D.now i)).toArray)) λa=>∃b:O Y,cv a w 0 256=some b/\K b a:=by
  intro K E;refine⟨g.cF (by rw[sH,dO,f,y]) (by rw[sH];exact jE _),by simp[dO,f],c6 g (us:=aC (D.now i)) (by rw[dO,f,y]) rfl λa F G _=>⟨_,F.rd (by rw[dO,f]),E a (Ext.bQ u G (a_ _))⟩⟩
 cases hf:D.waits.find? λx=>x.i==i with
 |some x=>
  have hx:=jL hf;have H:x.i=i:=by
   have:=kP hf;exact eq_of_beq this
  have j:=hd.m.qT kh lG (k:=(i:Int)) (v:=x.s) (df.2 ⟨x,hx,by unfold dE.e;rw[H]⟩) false;have L:=(h.wn x hx).1;have hlen:0<x.secs.length:=sA.2 L;have T:=(h.wn x hx).2.2;obtain⟨z,A,ak,p⟩:=zU (hd.ws x hx).src (λs hs=>by rw[dO];exact h.jX x hx s hs) (by decide) (i:=x.secs.length-1) I;have q:D.now i=x.secs[x.secs.length-1]'I:=by
   unfold aS.now;rw[hf];show x.secs.getLastD []=_;rw[List.getLastD_eq_getLast?,List.getLast?_eq_getElem?,dB I];rfl
  refine⟨x.s,w1,j,λ_=>⟨A,ak,?_⟩,λr=>?_⟩
  .rw[z,bl (n:=(x.secs.length:Int)-1) I I]
   have M:Int.toNat ((x.secs.length:Int)-1)=x.secs.length-1:=I
   rw[M];refine⟨⟨I,I⟩,_,p,?_⟩;rw[←q];exact fin (λb a=>zV D i w (.agg b.toArray) a) λa t=>⟨rfl,t⟩
  .have:=bT r
   omega
 |none=>
  obtain⟨U,h1,N⟩:=p1 zR;have j:=hd.m.ta kh lG (k:=(i:Int)) h1 N (λv g=>by
   obtain⟨x,hx,he⟩:=df.1 g;have P:=kn.1 hf x hx;unfold dE.e at he;simp only[Prod.mk.injEq]at he;apply P;have:x.i=i:=I
   rw[this];simp) false
  have B:i<D.bk.length:=hi;have q:D.now i=D.bk[i]:=by
   unfold aS.now;rw[hf];exact c8 B
  have Q:Src 256 w1 ⟨some D.lb,D.bk.length,D.bk.length⟩ (cl aC D.bk):=by
   have C:=gL (c:=aC) (sz:=256) D.bk λs hs=>by rw[dO];exact h.sl s hs
   have:=bp.qU (sz:=256) (o:=0) (n:=D.bk.length) (cap:=D.bk.length) hd.l (by simp[C]);rw[mn,sH,eZ (by rw[C];exact a_ _)]at this;exact this
  obtain⟨z,A,ak,p⟩:=zU Q (λs hs=>by rw[dO];exact h.sl s hs) (by decide) B;refine⟨⟨none,0,0⟩,w1,j,λr=>by simp at r,λ_=>⟨_,rfl,_,hd.fE,A,ak,⟨I,by show(i:Int)<(D.bk.length:Int);omega⟩,_,p,?_⟩⟩;rw[←q];exact fin (λb a=>zV D i w (.agg b.toArray) a) λa t=>⟨rfl,t⟩
def Ix(D:aS)(i:Nat)(w:J)(v:Y)(w':J):Prop:=
 cf w' (D.cI 1)/\aa (λq=>q=D.d) w w'/\
  ((D.fl 1=true/\v=.tuple #[(),(3:Int)])\/
   (D.fl 1=false/\∃s:U,v=.tuple #[s,U8]/\bI (λq=>w<=q) w' s (D.now i)))
theorem tW{D:aS}(h:cf w D)(hi:i<D.n)(x:D.aZ<=1000000000):
 aI aj 75 #[.pointer (some D.d),i] w (Ix D i w):=by
 refine okF (ad.wy (some D.d) (i:Int)) ay.wy func75 ?_;(delta ad.wy bR af aE mC z5 ae;dsimp only);refine(zS h _).use ?_;rintro _ _ ⟨rfl,rfl⟩;refine⟨_,rfl,λa=>?_,λ_=>⟨_,rfl,(zT h (k:=1) (by decide)).use ?_⟩⟩
 .have a:¬(0<=(i:Int)/\(i:Int)<D.n):=by simpa using a
  omega
 rintro _ ah ⟨rfl,b,j,z⟩;refine⟨_,rfl,λa=>⟨b,j,.inl ⟨a,rfl⟩⟩,λa=>(Di b (i:=i) hi x).use ?_⟩;rintro _ m ⟨rfl,g⟩;have f:=h.nA hi;refine⟨_,rfl,bg (vs:=rY) U3 λB p r C=>⟨p.cF (by rw[sH,dO];show(D.now i).length=_;rw[f,rY,dO,nS]) (by rw[sH];exact jE _),by rw[sJ,dO];exact f,c6 p (us:=aC (D.now i)) (by rw[dO,f,rY,dO,nS]) rfl λE s t F=>?_⟩⟩;have G:=g.size;have aB:D.d<ah.heap.size:=b.v.lt;refine⟨(b.ext (g.trans r)).ab t (λq u e=>by have:=b.lt u;omega),cn (j.trans (aa.da (g.trans r))) t λq u e=>I,.inr ⟨a,⟨some m.heap.size,256,256⟩,rfl,?_,a_ _,λk y=>?_⟩⟩
 .have:=s.CP (o:=0) (n:=256) (c:=256) (l:=D.now i) (by rw[dO,f];decide) (by rw[mn,eZ (by rw[dO,f];decide)])
  exact this
 .obtain⟨A,ak,rfl⟩:=y
  cases ak;have:=s.lt;exact⟨by show w.heap.size<=m.heap.size;omega,this⟩
theorem Dj:∀ (l:O Y) (k:Nat) (a:Array Y),(l.zipIdx k).foldl (λcs (p:Y×Nat)=>cs.setIfInBounds p.2 p.1) a=g4 a k l
 | [],_,_=>rfl
 |v::l,k,a=>by
  rw[List.zipIdx_cons,List.foldl_cons]
  exact Dj l (k+1) (a.setIfInBounds k v)
theorem Dk{e:TypeId}{d:TypeDesc}{i:TypeInfo}{z:Y}{cs:Array Y}(w:J)(h1:P.underlying T=some (.slice e))(f:P.underlying e=some d)(g:P.cellsOf e=sz)(hi:P.info? e=some i)(h:i.zero=some z)(a:cs.size=sz)(q:sz≠0)(r:sz<=16777216):
 Sem.run P (Instr.buildSlice T 1 #[(0,.agg cs)]) w=.ok (.slice (some w) 1 1) (w.alloc (.cells cs e)):=by
 have b:=iH (P:=P) (w:=w) f;rw[g]at b;have k:Instr.fill (λi=>some (i*sz,sz)) ((Array.range (1*sz)).map λx=>z.cells[x%z.cells.size]!) [(0,.agg cs)]=some cs:=by
  have hc:(Value.agg cs).cells=cs:=rfl;rw[Instr.fill];simp only[hc];rw[if_neg (by simp[a]),Instr.fill];rw[←Array.foldl_toList,Array.toList_zipIdx];have e:(λ(cs:Array Y) (x:Y×Nat)=>match x with|(c,j)=>cs.setIfInBounds (0*sz+j) c)=λcs (p:Y×Nat)=>cs.setIfInBounds p.2 p.1:=by
   funext cs x;obtain⟨c,j⟩:=x;simp
  rw[e,Dj]
  congr 1
  apply Array.toList_inj.1;rw[lv _ _ _ (by simp[a])];simp[a]
 have l:=nV (w:=w) hi;have m:¬(1*sz>2^24):=by
  have:(2:Nat)^24=16777216:=rfl;omega
 have n:¬(1*sz=0):=I
 have o:Instr.fill (λi=>some (i*sz,sz)) ((Array.range (1*sz)).map λx=>z.cells[x%z.cells.size]!) (#[(0,Value.agg cs)]:Array (Nat×Y)).toList=some cs:=k;simp only[Instr.buildSlice,Sem.run_bind,dh h1,b,Result.andThen,m,n,if_false,zeroValue,l,h,Sem.run_pure,o];simp[newRow,newObj,Sem.run]
theorem Dl(w:J)(l:bY)(a:l.length=256):
 Sem.run aj (Instr.buildSlice 124 1 #[(0,.agg (aC l).toArray)]) w=.ok (.slice (some w) 1 1) (w.alloc (.cells (aC l).toArray 151)):=by
 have h:((Tryz.prog.info? 151).bind (·.zero)).isSome=true:=by kernel_rfl
 obtain⟨z,b⟩:=qj.1 h;obtain⟨i,hi,c⟩:=p1 b;exact Dk (d:=.array 256 5) (sz:=256) w U3 U3 U3 hi c (by rw[sJ,dO,a]) (by decide) (by decide)
theorem Iy:hY aj 124 151 256 256:=⟨by kernel_rfl⟩
def aS.put(D:aS)(i:Nat)(s:U)(l:bY):aS:=
 {D.cI 2 with waits:=⟨i,s,D.eC i++ [l]⟩::D.waits.filter (λx=>x.i !=i),writes:=IntKind.wrap .i64 (D.writes+1),aZ:=D.aZ+1}
theorem Dm{D:aS}(h:j≠i):(D.waits.filter λx=>x.i !=i).find? (λx=>x.i==j)=D.waits.find? λx=>x.i==j:=by
 rw[List.find?_filter]
 congr 1
 funext x;by_cases e:x.i=j
 .rw[e];simp[h]
 .simp[e]
theorem Dn(D:aS)(i:Nat)(s:U)(l:bY)(j:Nat):(D.put i s l).eC j=if j=i then D.eC i++ [l] else D.eC j:=by
 unfold aS.eC aS.put;by_cases h:j=i
 .subst h
  simp[aS.eC]
 .rw[if_neg h]
  simp only;rw[List.find?_cons_of_neg (by simp;omega),Dm h]
theorem p2(D:aS)(i:Nat)(s:U)(l:bY)(j:Nat):(D.put i s l).now j=if j=i then l else D.now j:=by
 unfold aS.now aS.put;by_cases h:j=i
 .subst h
  simp
 .rw[if_neg h]
  simp only;rw[List.find?_cons_of_neg (by simp;omega),Dm h];rfl
def Dp(D:aS)(i:Nat)(l:bY)(w:J)(v:Y)(w':J):Prop:=
 (D.fl 2=true/\v=.int .i64 3/\cf w' (D.cI 2)/\aa (λq=>q=D.d) w w')\/
 (D.fl 2=false/\v=.int .i64 0/\∃s:U,cf w' (D.put i s l)/\aa (bO D) w w'/\∀q,ar s q->bO D q\/w<=q)
theorem xL{D:aS}{b:U}{l:bY}(h:cf w D)(hi:i<D.n)(bg:D.aZ<=1000000000)(ae:Src 1 w b (aC l))(L:l.length=256)(hd:∀q,ar b q->¬bO D q):
 aI aj 58 #[.pointer (some ⟨D.d,0,none⟩),.int .i64 ((i:Nat):Int),.slice b.a b.len b.cap] w (Dp D i l w):=by
 have aG:=len8 ae;have bh:=h.bz;refine okF (ad.wh (some ⟨D.d,0,none⟩) ((i:Nat):Int) b) ay.wh func58 ?_;(delta ad.wh bR af aE b1 y1 ap r1 st ai;dsimp only);refine(zS h _).use ?_;rintro _ _ ⟨rfl,rfl⟩;have aX:decide (0<=(i:Int)/\(i:Int)<D.n)=true:=dm ⟨I,I⟩;refine⟨_,rfl,λh1=>?_,λ_=>⟨_,rfl,(zT h (k:=2) (by decide)).use ?_⟩⟩
 .rw[aX,aG,L]at h1
  simp at h1
 rintro _ ah ⟨rfl,H,ag,bi⟩;refine⟨_,rfl,λal=>.inl ⟨al,rfl,H,ag⟩,λal=>aH ?_⟩;obtain⟨p,hold⟩:∃p:U,(match D.waits.find? λx=>x.i==i with|some x=>x.s|none=>⟨none,0,0⟩)=p:=⟨_,rfl⟩;have z:=H.ext (cc ah);have aY:Src 1 ah.drew b (aC l):=(ae.ab ag λq f e=>hd q f (.inl e)).ext (cc ah)
 have a0:aL 256 151 ah.drew p (cl aC (D.eC i))/\(∀q,ar p q->bO D q/\q≠D.d/\q≠D.lb/\q≠D.mr)/\(∀x∈D.waits,x.i≠i->∀q,ar x.s q->¬ar p q)/\(D.eC i).length<=D.aZ/\(∀s∈D.eC i,s.length=256)/\
  ∀w':J,dd w' D.mr encZ (D.waits.map dE.e)->Sem.run aj (Instr.lookup 125 (.map (some D.mr)) (.int .i64 ((i:Nat):Int)) false) w'=.ok (.slice p.a p.len p.cap) w':=by
  cases hf:D.waits.find? λx=>x.i==i with
  |some x=>
   rw[hf]at hold;have hold:x.s=p:=hold;subst hold;have hx:=jL hf;have W:x.i=i:=by
    have:=kP hf;exact eq_of_beq this
   have e:D.eC i=x.secs:=by unfold aS.eC;rw[hf]
   rw[e];refine⟨z.ws x hx,λq f=>⟨.inr (.inr (.inr ⟨x,hx,f⟩)),λe=>(h.a2 x hx).1 (e▸f),λe=>(h.a2 x hx).2.1 (e▸f),λe=>(h.a2 x hx).2.2 (e▸f)⟩,λy t B=>h.a3 y t x hx I,(h.wn x hx).2.2,h.jX x hx,λw' M=>M.qT kh lG (k:=(i:Int)) (v:=.slice x.s.a x.s.len x.s.cap) (df.2 ⟨x,hx,by unfold dE.e;rw[W]⟩) false⟩
  |none=>
   rw[hf]at hold;have hold:(⟨none,0,0⟩:U)=p:=hold;subst hold;have e:D.eC i=[]:=by unfold aS.eC;rw[hf]
   rw[e];obtain⟨bj,h1,N⟩:=p1 zR;refine⟨aL.none _ _ _,λq f=>(gE q f).elim,λx _ _ q _ f=>(gE q f).elim,cw _,λs hs=>(by cases hs),λw' M=>M.ta kh lG (k:=(i:Int)) h1 N (λv am=>?_) false⟩;obtain⟨x,hx,he⟩:=df.1 am;have a4:=kn.1 hf x hx;unfold dE.e at he;simp only[Prod.mk.injEq]at he;apply a4;have:x.i=i:=I
   rw[this];simp
 obtain⟨aJ,C,aK,bl,aM,aN⟩:=a0;obtain⟨A,ak,a5⟩:∃A,b.a=some A/\cv ah.drew A 0 256=some (aC l):=by
  cases aO:b.a with
  |none=>
   have:=congrArg List.length (ae.nil aO);rw[dO,L]at this
   cases this
  |some A=>
   refine⟨A,rfl,?_⟩;have:=aY.rd A aO;rwa[aG,L]at this
 have a6:¬ar p A.block:=λf=>hd _ ⟨A,ak,rfl⟩ (C _ f).1
 have aP:∀E:J,Ext ah.drew E->∃ (g:U) (j:J),Sem.run aj (Builtin.append_ #[124,124] 124 #[.slice p.a p.len p.cap,.slice (some ⟨E,0,none⟩) 1 1]) (E.alloc (.cells (aC l).toArray 151))=.ok (.slice g.a g.len g.cap) j/\
  aL 256 151 j g (cl aC (D.eC i++ [l]))/\aa (ar p) E j/\(∀k,ar g k->ar p k\/E<=k)/\aa (ar p) (E.alloc (.cells (aC l).toArray 151)) j:=by
  intro E a7;have hlen:p.len=(D.eC i).length:=by
   have:=aJ.1;rw[gL (c:=aC) (sz:=256) _ λs hs=>by rw[dO];exact aM s hs]at this;omega
  have aq:=dc E (.cells (aC l).toArray 151);obtain⟨g,j,ao,G,F,O,P⟩:=Iy.append (c7:=124) (x:=⟨some ⟨E,0,none⟩,1,1⟩) (Src.new (T:=151) E (aC l) 1 (by rw[dO,L])) (aJ.ext (a7.trans aq)) (jE l) (by rw[hlen];show(2*(_+1)+1000)*256<=_;omega);refine⟨g,j,ao,?_,(aa.da aq).trans O,λk a8=>(P k a8).imp id λh=>?_,O⟩
  .rw[rW]
   have:cl aC [l]=aC l:=by simp[cl]
   rw[this];exact G
  .have:=aq.size;omega
 have aQ:∀ (j:J) (g:U),dd j D.mr encZ (D.waits.map dE.e)->∃o:J,Sem.run aj (Instr.mapUpdate 125 (.map (some D.mr)) (.int .i64 ((i:Nat):Int)) (.slice g.a g.len g.cap)) j=.ok () o/\aa (λq=>q=D.mr) j o/\
  dd o D.mr encZ ((dE.mk i g (D.eC i++ [l])::D.waits.filter λx=>x.i !=i).map dE.e):=by
  intro j g M;have av:=M.keys;rw[g2]at av
  cases hf:D.waits.find? λx=>x.i==i with
  |some x=>
   have hx:=jL hf;have W:x.i=i:=by
    have:=kP hf;exact eq_of_beq this
   obtain⟨bC,b8,he⟩:=List.append_of_mem hx;have B:∀y∈bC++b8,y.i≠i:=by
    intro y t e;rw[he,eU,iX]at av;have h1:=(nN.nodup_iff).1 av;rw[qv]at h1;apply h1.1;rw[←eU];refine df.2 ⟨y,t,?_⟩;show((y.i:Nat):Int)=((x.i:Nat):Int);omega
   have az:D.waits.filter (λx=>x.i !=i)=bC++b8:=by
    rw[he,lR,List.filter_cons_of_neg (by simp[W])];rw[mZ.2 λy t=>by have:=B y (kl _ t);simpa using this,mZ.2 λy t=>by have:=B y (iY _ t);simpa using this]
   have a9:(D.waits.map dE.e).Perm (((i:Int),.slice x.s.a x.s.len x.s.cap)::(bC++b8).map dE.e):=by
    rw[he,eU,iX,eU];have:x.e=((i:Int),.slice x.s.a x.s.len x.s.cap):=by unfold dE.e;rw[W]
    rw[this];exact nN
   obtain⟨o,ao,G,_,F⟩:=Is kh lG (M.perm a9) (.slice g.a g.len g.cap);refine⟨o,ao,G,?_⟩;rw[az];exact F
  |none=>
   have B:∀y∈D.waits,y.i≠i:=λy t e=>by
    have:=kn.1 hf y t;rw[e]at this;simp at this
   have az:D.waits.filter (λx=>x.i !=i)=D.waits:=mZ.2 λy t=>by simpa using B y t
   obtain⟨o,ao,G,_,F⟩:=zQ kh lG (k:=(i:Int)) M (λv am=>by
    obtain⟨x,hx,he⟩:=df.1 am;unfold dE.e at he;simp only[Prod.mk.injEq]at he;exact B x hx I) (.slice g.a g.len g.cap)
   refine⟨o,ao,G,?_⟩;rw[az];exact F
 have fin:∀ (j o:J) (g:U),aa (ar p) ah.drew j->aL 256 151 j g (cl aC (D.eC i++ [l]))->(∀k,ar g k->ar p k\/ah.drew.heap.size<=k)->aa (λq=>q=D.mr) j o->dd o D.mr encZ ((dE.mk i g (D.eC i++ [l])::D.waits.filter λx=>x.i !=i).map dE.e)->
  ∃a23:ax,(some ⟨D.d,0,none⟩:an ax)=some a23/\∃n24:Int,o.cell? (a23.add 6)=some (.int .i64 n24)/\∃X:ax,(some ⟨D.d,0,none⟩:an ax)=some X/\(∃u:Y,o.cell? (X.add 6)=some u)/\o.frozen? (X.add 6)=false/\au (o.setCell (X.add 6) (.int .i64 (IntKind.wrap .i64 (n24+1)))) λa_=>Dp D i l w (.int .i64 0) a_:=by
  intro j o g Z ba aA aR bb;have bc:=z.v.ab Z λf=>(C _ f).2.1 rfl;have aB:Var o D.d (D.cI 2).c 129:=bc.ab aR h.a1.2.1;have hlen:(D.cI 2).c.length=7:=H.xJ;obtain⟨s1,s2⟩:=dT aB (i:=6) (by rw[hlen];decide);have aT:o.cell? (Addr.add ⟨D.d,0,none⟩ 6)=some (.int .i64 D.writes):=by
   rw[aw,cT,aB.cell];unfold aS.c;have:=H.f4;rw[j6 (by rw[cV];omega),cV,this];rfl
  rw[aw,cT]at aT;refine⟨_,rfl,D.writes,by rw[aw,cT];exact aT,_,rfl,by rw[aw,cT];exact s1,by rw[aw,cT];exact s2,?_⟩;rw[aw,cT];have aU:=dz o D.d 6 (.int .i64 (IntKind.wrap .i64 (D.writes+1)));have aV:=ei aB (i:=6) (.int .i64 (IntKind.wrap .i64 (D.writes+1)));have bd:(D.cI 2).c.set 6 (.int .i64 (IntKind.wrap .i64 (D.writes+1)))=(D.put i g l).c:=by
   have be:=H.f4;have Q:(D.put i g l).c=(D.cI 2).bN.map (.int .i64)++ [.slice (some ⟨D.lb,0,none⟩) D.bk.length D.bk.length,.map (some D.mr),.int .i64 (IntKind.wrap .i64 (D.writes+1))]:=rfl;have R:(D.cI 2).c=(D.cI 2).bN.map (.int .i64)++ [.slice (some ⟨D.lb,0,none⟩) D.bk.length D.bk.length,.map (some D.mr),.int .i64 D.writes]:=rfl;rw[Q,R,uK _ _ (by rw[cV];omega),cV,be];rfl
  rw[bd]at aV;have ac:aa (λq=>q=D.mr\/q=D.d) j (o.setCell ⟨D.d,6,none⟩ (.int .i64 (IntKind.wrap .i64 (D.writes+1)))):=(aR.mono λq _ e=>.inl e).trans (aU.mono λq _ e=>.inr e);have S:∀q,ar g q->q≠D.d/\q≠D.lb/\q≠D.mr:=λq f=>by
   have bm:=z.lt (q:=D.d) (.inl rfl);have bn:=z.lt (q:=D.lb) (.inr (.inl rfl));have bo:=z.lt (q:=D.mr) (.inr (.inr (.inl rfl)));rcases aA q f with h1|h1
   .exact(C q h1).2
   .exact⟨I,I,I⟩
  have K:∀x∈D.waits.filter (λx=>x.i !=i),x∈D.waits/\x.i≠i:=λx hx=>by
   obtain⟨h1,N⟩:=j4.1 hx;exact⟨h1,by simpa using N⟩
  refine aH (.inr ⟨al,rfl,g,⟨aV,?_,?_,?_,?_,h.sl,?_,h.bL,h.bz,H.f4,H.fr,h.a1,?_,?_,H.r⟩,?_,?_⟩)
  .exact bp.ab (bp.ab z.l Z λf=>(C _ f).2.2.1 rfl) ac (by
    rintro(e|e)
    .exact h.a1.2.2 e
    .exact h.a1.1 e.symm)
  .exact bb.ab aU (λe=>h.a1.2.1 e.symm)
  .intro x hx
   rcases cN.1 hx with rfl|hx
   .exact ba.ab ac λq f=>by
     rintro(e|e)
     .exact(S q f).2.2 e
     .exact(S q f).1 e
   .obtain⟨h1,N⟩:=K x hx
    refine((z.ws x h1).ab Z λq f=>aK x h1 N q f).ab ac λq f=>?_;rintro(e|e)
    .exact(h.a2 x h1).2.2 (e▸f)
    .exact(h.a2 x h1).1 (e▸f)
  .intro x hx
   rcases cN.1 hx with rfl|hx
   .refine⟨by simp,hi,?_⟩
    show(D.eC i++ [l]).length<=D.aZ+1;rw[b6,ia];omega
   .obtain⟨h1,N⟩:=K x hx
    have:=h.wn x h1;exact⟨this.1,this.2.1,Nat.le_succ_of_le this.2.2⟩
  .intro x hx
   rcases cN.1 hx with rfl|hx
   .intro s hs
    rcases cE.1 hs with hs|hs
    .exact aM s hs
    .rw[dV.1 hs];exact L
   .exact h.jX x (K x hx).1
  .intro x hx
   rcases cN.1 hx with rfl|hx
   .exact⟨λf=>(S _ f).1 rfl,λf=>(S _ f).2.1 rfl,λf=>(S _ f).2.2 rfl⟩
   .exact h.a2 x (K x hx).1
  .have aW:∀y∈D.waits,y.i≠i->∀q,ar y.s q->¬ar g q:=λy t B q f V=>by
    rcases aA q V with h1|h1
    .exact aK y t B q f h1
    .have:=(z.ws y t).lt q f;omega
   intro x hx y t B q f V;rcases cN.1 hx with rfl|hx
   .rcases cN.1 t with rfl|t
    .exact B rfl
    .exact aW y (K y t).1 (λe=>B e.symm) q V f
   .rcases cN.1 t with rfl|t
    .exact aW x (K x hx).1 B q f V
    .exact h.a3 x (K x hx).1 y (K y t).1 B q f V
  .refine((ag.mono λq _ e=>.inl e).trans ((aa.da (cc ah)).trans (Z.mono λq _ f=>(C q f).1))).trans (ac.mono λq _ f=>?_)
   obtain e|e:=f
   .exact .inr (.inr (.inl e))
   .exact .inl e
  .intro q f
   rcases aA q f with h1|h1
   .exact .inl (C q h1).1
   .have:ah.drew.heap.size=ah:=rfl
    exact .inr I
 refine⟨ar p,_,rfl,λf=>(C _ f).2.1 rfl,some D.mr,z.fW,_,rfl,λf=>(C _ f).2.1 rfl,some D.mr,z.fW,I,A,ak,a6,_,a5,⟨?_,?_⟩⟩
 .obtain⟨g,j,ao,G,F,O,P⟩:=aP ah.drew (.refl _ _)
  have aD:=z.m.ab F λf=>(C _ f).2.2.2 rfl;obtain⟨o,Q,R,aF⟩:=aQ j g aD;exact⟨p,_,aN _ z.m,.refl _ _,⟨some ⟨ah.drew.heap.size,0,none⟩,1,1⟩,_,Dl _ l L,aa.da (dc _ _),g,j,ao,P,o,Q,fin j o g F G O R aF⟩
 .obtain⟨g,j,ao,G,F,O,P⟩:=aP ah.drew (.refl _ _)
  have bf:=z.m.ext (dc ah.drew (.cells (aC l).toArray 151));have aD:=z.m.ab F λf=>(C _ f).2.2.2 rfl;obtain⟨o,Q,R,aF⟩:=aQ j g aD;exact⟨⟨some ⟨ah.drew.heap.size,0,none⟩,1,1⟩,_,Dl _ l L,aa.da (dc _ _),p,_,aN _ bf,.refl _ _,g,j,ao,P,o,Q,fin j o g F G O R aF⟩
theorem Iz{e:TypeId}{v:Y}(a:((P.info? e).bind (·.zero)).map (·.cells)=some (List.replicate sz v).toArray)(hc:P.cellsOf e=sz)(hs:0<sz)(n:Nat):ie P e n=(List.replicate (n*sz) v).toArray:=by
 unfold ie;rw[hc]
 cases hi:(P.info? e).bind (·.zero) with
 |none=>rw[hi]at a;cases a
 |some z=>
  rw[hi]at a;simp only[mX,Option.some.injEq]at a;simp only[sw];apply Array.ext
  .simp
  .intro i h1 b
   have c:n*sz≠0:=by
    intro h;simp[h]at b
   simp only[c,if_false,a,Array.getElem_map,Array.getElem_range];have aB:i%sz<sz:=gu _ hs;simp[aB]
theorem IA(m n:Nat):cl aC (List.replicate n (List.replicate m 0))=List.replicate (n*m) (.int .u8 0):=by
 induction n with
 |zero=>simp[cl]
 |succ n a=>
  rw[List.replicate_succ,tV,a,jw,mY,Nat.add_comm];have e:aC (List.replicate m 0)=List.replicate m (Value.int .u8 0):=by simp[aC]
  rw[e,List.replicate_append_replicate]
def fN:bY:=List.replicate 256 0
theorem IB(n:Nat):ie aj 151 n=(cl aC (List.replicate n fN)).toArray:=by
 unfold fN;rw[IA];exact Iz U3 U3 (by decide) n
def lH(n d lb mr:Nat):aS:=⟨d,lb,mr,[-1, -1, -1, -1],List.replicate n fN,[],0,0,λ_=>false,λ_=> [],true⟩
theorem Dq{n d lb mr:Nat}(hi:i<n):(lH n d lb mr).now i=fN:=by
 unfold aS.now lH;simp[List.getElem?_replicate,hi]
theorem Dr{b:Nat}(h:Var w b vs T)(g:4<=vs.length):
 aI aj 52 #[.pointer (some b)] w (λv w'=>v=.tuple #[]/\Var w' b (List.replicate 4 (.int .i64 (-1))++vs.drop 4) T/\aa (λq=>q=b) w w'/\w'.heap.size=w):=by
 refine okF (ad.wc (some b)) ay.wc func52 ?_;(delta ad.wc cW af aE st ai;dsimp only);refine⟨λi w'=>∃j:Nat,i=j/\j<=4/\Var w' b (List.replicate j (.int .i64 (-1))++vs.drop j) T/\aa (λq=>q=b) w w'/\w'.heap.size=w,λi _=>((4:Int)-i).toNat,⟨0,rfl,I,h,.refl _ _,rfl⟩,?_⟩;rintro _ w1 ⟨j,rfl,k,c,hc,f⟩;refine⟨λaB=>?_,λd=>?_⟩
 .have aB:j<4:=U4 (bB aB)
  have a:Addr.add b (Int.toNat (j:Int)*1)=⟨b,j,none⟩:=by rw[cS,eY,aw,cT]
  obtain⟨s1,s2⟩:=dT c (i:=j) (by simp;omega);rw[bl (n:=(j:Int)+1) I I];refine⟨_,rfl,⟨I,by show(j:Int)<4;omega⟩,by rw[a];exact s1,by rw[a];exact s2,aH ⟨⟨j+1,I,I,?_,?_,?_⟩,?_⟩⟩
  .have:=ei c (i:=j) (.int .i64 (-1))
   rw[a];have e:(List.replicate j (Value.int .i64 (-1))++vs.drop j).set j (.int .i64 (-1))=List.replicate (j+1) (.int .i64 (-1))++vs.drop (j+1):=by
    rw[uK _ _ U9,nS,lQ,j5 (show j<vs.length from I),List.set_cons_zero,List.replicate_succ',cU];rfl
   rwa[e]at this
  .rw[a];exact hc.trans (dz _ _ _ _)
  .rw[a];simpa[World.setCell] using f
  .show((4:Int)-((j:Int)+1)).toNat<((4:Int)-(j:Int)).toNat
   omega
 .have d:j=4:=U4 (bT d)
  subst d;exact⟨rfl,c,hc,f⟩
theorem pA{n:Nat}(h1:16<=n)(k:n<=1600)(w:J):
 aI aj 20 #[.int .i64 ((n:Nat):Int)] w (λv w'=>∃d lb mr:Nat,v=.tuple #[.pointer (some ⟨d,0,none⟩),.int .i64 0]/\cf w' (lH n d lb mr)/\Ext w w'/\∀q,bO (lH n d lb mr) q->w.heap.size<=q):=by
 refine okF (ad.pA ((n:Nat):Int)) ay.pA func20 ?_;(delta ad.pA af ly ae xs e6;dsimp only);refine⟨λh=>?_,λ_=>⟨⟨I,I,I,I⟩,?_⟩⟩
 .simp only[fC,cq]at h;omega
 rw[IB,cS];have g:=bp.new w (cl aC (List.replicate n fN)).toArray 151;have i:=dc w (.cells (cl aC (List.replicate n fN)).toArray 151);have l:=iN w (.cells (cl aC (List.replicate n fN)).toArray 151);obtain⟨w1,m⟩:=U6 (w.alloc (.cells (cl aC (List.replicate n fN)).toArray 151));rw[←m]at g i l⊢;obtain⟨ao,j⟩:=dd.make (P:=aj) (enc:=encZ) 125 w1;have a:=dc w1 (.map #[] 0);have o:=iN w1 (.map #[] 0);obtain⟨ah,p⟩:=U6 (w1.alloc (.map #[] 0));rw[←p]at ao j a o;refine aH ⟨some w1.heap.size,ah,ao,#[.int .i64 0,.int .i64 0,.int .i64 0,.int .i64 0,.slice (some ⟨w.heap.size,0,none⟩) n n,.map (some w1.heap.size),.int .i64 0],by kernel_rfl,bg (vs:=[.int .i64 0,.int .i64 0,.int .i64 0,.int .i64 0,.slice (some ⟨w.heap.size,0,none⟩) n n,.map (some w1.heap.size),.int .i64 0]) rfl λu r b y=>⟨_,rfl,(Dr r (by show 4<=7;decide)).use ?_⟩⟩;rintro _ z ⟨rfl,t,f,A⟩;refine⟨rfl,ah.heap.size,w.heap.size,w1.heap.size,rfl,⟨?_,?_,?_,λx hx=>(by cases hx),λx hx=>(by cases hx),λs hs=>?_,λx hx=>(by cases hx),?_,?_,rfl,λx hx=>?_,?_,λx hx=>(by cases hx),λx hx=>(by cases hx),λ_=>rfl⟩,Ext.bQ (i.trans (a.trans b)) f I,?_⟩
 .have e:(lH n ah.heap.size w.heap.size w1.heap.size).c=List.replicate 4 (.int .i64 (-1))++ [Value.int .i64 0,.int .i64 0,.int .i64 0,.int .i64 0,.slice (some ⟨w.heap.size,0,none⟩) n n,.map (some w1.heap.size),.int .i64 0].drop 4:=by
   unfold aS.c lH;simp
  rw[e];exact t
 .exact bp.ab ((g.ext a).ext b) f (by show¬w.heap.size=ah.heap.size;omega)
 .exact(j.ext b).ab f I
 .rw[uF hs,fN,nS]
 .show 16<=(List.replicate n fN).length;simpa using h1
 .show(List.replicate n fN).length<=1600;simpa using k
 .have:x= -1:=by
   simp[lH]at hx;exact hx
  subst this;exact⟨by decide,by decide⟩
 .exact⟨by show ah.heap.size≠w.heap.size;omega,by show ah.heap.size≠w1.heap.size;omega,by show w.heap.size≠w1.heap.size;omega⟩
 .rintro q (rfl|rfl|rfl|⟨x,hx,_⟩)
  .show w.heap.size<=ah.heap.size;omega
  .exact a_ _
  .show w.heap.size<=w1.heap.size;omega
  .cases hx
structure cD where
 root:Nat
 aD:Nat
 map:Nat
 clock:Nat
 dI:Nat
 keys:Nat
 deriving DecidableEq
def cZ:cD:=⟨0,0,0,0,0,0⟩
def cD.c(u:cD):O Y:=[u.root,u.aD,u.map,.int .u64 (u.clock:Nat),.int .u64 (u.dI:Nat),u.keys]
structure oJ(u:cD):Prop where
 root:u.root<4294967296
 aD:u.aD<256
 map:u.map<4294967296
 clock:u.clock<18446744073709551616
 dI:u.dI<18446744073709551616
 keys:u.keys<4294967296
def h7(u:cD)(n:Nat):O UInt8:=[]++bV u.root 4++bV u.aD 1++bV u.map 4++bV n 4++bV u.clock 8++bV u.dI 8++bV u.keys 4
def nB(b:O UInt8):cD:=⟨ct b 0 4,ct b 4 1,ct b 5 4,ct b 13 8,ct b 21 8,ct b 29 4⟩
def g8(u:cD)(n:Nat):Prop:=(u.root=0↔u.aD=0)/\u.aD<=12/\u.root<n/\u.map<n/\2<=u.map/\n<=1600
instance Mc(u:cD)(n:Nat):Decidable (g8 u n):=by unfold g8;infer_instance
def eD(no:Int)(l:O UInt8):Except Int (cD×Nat×Nat):=match cG no l with
 | .error e=>.error e
 | .ok p=>if p.kind≠3\/p.body.length≠33 then .error 4 else if g8 (nB p.body) (ct p.body 9 4) then .ok (nB p.body,ct p.body 9 4,p.gen) else .error 4
theorem Ds(u:cD)(n:Nat):(h7 u n).length=33:=by simp[h7,eB]
theorem IC{u:cD}{n:Nat}(h:oJ u)(c:n<4294967296):nB (h7 u n)=u/\ct (h7 u n) 9 4=n:=by
 have e:∀ {k x m:Nat} (a b:O UInt8),h7 u n=a++(bV x k++b)->a.length=m->x<256^k->ct (h7 u n) m k=x:=λa b he d hx=>by rw[he];exact tR d hx
 have f:=h.keys;refine⟨?_,e (bV u.root 4++bV u.aD 1++bV u.map 4) (bV u.clock 8++(bV u.dI 8++bV u.keys 4)) (by simp[h7]) (by simp[eB]) c⟩;unfold nB;rw[e (m:=0) [] (bV u.aD 1++(bV u.map 4++(bV n 4++(bV u.clock 8++(bV u.dI 8++bV u.keys 4))))) (by simp[h7]) rfl h.root,
  e (bV u.root 4) (bV u.map 4++(bV n 4++(bV u.clock 8++(bV u.dI 8++bV u.keys 4)))) (by simp[h7]) (by simp[eB]) h.aD,
  e (bV u.root 4++bV u.aD 1) (bV n 4++(bV u.clock 8++(bV u.dI 8++bV u.keys 4))) (by simp[h7]) (by simp[eB]) h.map,
  e (bV u.root 4++bV u.aD 1++bV u.map 4++bV n 4) (bV u.dI 8++bV u.keys 4) (by simp[h7]) (by simp[eB]) h.clock,
  e (bV u.root 4++bV u.aD 1++bV u.map 4++bV n 4++bV u.clock 8) (bV u.keys 4) (by simp[h7]) (by simp[eB]) h.dI,
  e (bV u.root 4++bV u.aD 1++bV u.map 4++bV n 4++bV u.clock 8++bV u.dI 8) [] (by simp[h7]) (by simp[eB]) f]
def jG(u:cD)(n gen:Nat):h4:=⟨3,gen,h7 u n⟩
theorem zW{u:cD}{n gen:Nat}(hg:gen<18446744073709551616):oF (jG u n gen):=⟨(by decide:1<=3),(by decide:3<=4),hg,by show(h7 u n).length<=232;rw[Ds];decide⟩
theorem zX{u:cD}{n gen no:Nat}(h:oJ u)(hu:g8 u n)(hg:gen<18446744073709551616)(a:no<1600):eD no (eA no (jG u n gen))=.ok (u,n,gen):=by
 unfold eD;rw[tS a (zW hg)];have b:n<4294967296:=U4 hu.2.2.2.2.2
 obtain⟨h1,c⟩:=IC h b;show(if (3:Nat)≠3\/(h7 u n).length≠33 then _ else if g8 (nB (h7 u n)) (ct (h7 u n) 9 4) then Except.ok (nB (h7 u n),ct (h7 u n) 9 4,gen) else _)=_;rw[h1,c,if_neg (by rw[Ds];simp),if_pos hu]
section
variable {w w':J}{h:Nat}{vs:O Y}{u:cD}
theorem cD.plain(u:cD):∀v∈u.c,Plain v:=by
 intro v a;simp only[cD.c,cN,er,ez]at a;rcases a with rfl|rfl|rfl|rfl|rfl|rfl<;>trivial
theorem fe(a:Var w h u.c 90){K:Int->Int->Int->Int->Int->Int->Prop}(e:K (u.root:Nat) (u.aD:Nat) (u.map:Nat) (u.clock:Nat) (u.dI:Nat) (u.keys:Nat)):
 ∃bL:Int,w.cell? h=some (.int .i64 bL)/\∃bz:Int,w.cell? (Addr.add h 1)=some (.int .i64 bz)/\∃b:Int,w.cell? (Addr.add h 2)=some (.int .i64 b)/\
  ∃d:Int,w.cell? (Addr.add h 3)=some (.int .u64 d)/\∃n5:Int,w.cell? (Addr.add h 4)=some (.int .u64 n5)/\∃n6:Int,w.cell? (Addr.add h 5)=some (.int .i64 n6)/\K bL bz b d n5 n6:=
 ⟨_,a.cell,_,a.cell,_,a.cell,_,a.cell,_,a.cell,_,a.cell,e⟩
theorem fQ(a:Var w h vs 90)(b:vs.length=6)(u:cD){K:U2}(d:∀ah,Var ah h u.c 90->aa (λq=>q=h) w ah->ah.heap.size=w->K ah):
 c5 w h [u.root,u.aD,u.map,.int .u64 (u.clock:Nat),.int .u64 (u.dI:Nat),u.keys]/\(6:Nat)=6/\
  au (setCells w h 0 [u.root,u.aD,u.map,.int .u64 (u.clock:Nat),.int .u64 (u.dI:Nat),u.keys]) K:=
 ⟨a.cF (by rw[b];rfl) u.plain,rfl,c6 a (us:=u.c) (by rw[b];rfl) rfl λah e hc f=>d ah e hc f⟩
end
theorem q_{u:cD}(h:oJ u){n:Nat}(y:n<4294967296):aI aj 119 #[.agg u.c.toArray,n] w (λv w'=>∃s:U,v=s/\aL 1 5 w' s (aC (h7 u n))/\Ext w w'/\fI w s):=by
 have h1:=h.root;have W:=h.aD;have z:=h.map;have X:=h.clock;have Y:=h.dI;have A:=h.keys;have a:∀ {x:Nat},x<4294967296->IntKind.wrap .u64 (x:Int)=(x:Int):=λ{x} hx=>gl I I;refine okF (ad.q_ (u.root:Nat) (u.aD:Nat) (u.map:Nat) (u.clock:Nat) (u.dI:Nat) (u.keys:Nat) (n:Nat)) ay.q_ func119 ?_;(delta ad.q_ aF r1 ae bU aT bZ c0;dsimp only);refine bg (vs:=u.c) rfl λw1 b B Z=>⟨_,b.cell,?_⟩;rw[a h1];refine(je (s:=⟨none,0,0⟩) (l:=[]) (aL.none 1 5 w1).src (cw _) (n:=u.root) I (by decide)).use ?_;rintro _ ah ⟨s2,rfl,C,d,aa⟩;have e:=b.ext d;refine⟨s2,rfl,_,e.cell,?_⟩;rw[a (x:=u.aD) I];refine(je C.src (by simp[eB]) (n:=u.aD) I (by decide)).use ?_;rintro _ ab ⟨D,rfl,E,f,ac⟩;have g:=e.ext f;refine⟨D,rfl,_,g.cell,?_⟩;rw[a z];refine(je E.src (by simp[eB]) (n:=u.map) I (by decide)).use ?_;rintro _ af ⟨F,rfl,G,i,ag⟩;have H:=g.ext i;refine⟨F,rfl,?_⟩;rw[a y];refine(je G.src (by simp[eB]) (n:=n) I (by decide)).use ?_;rintro _ ai ⟨K,rfl,L,j,ak⟩;have k:=H.ext j;refine⟨K,rfl,_,k.cell,?_⟩;refine(je L.src (by simp[eB]) (n:=u.clock) I (by decide)).use ?_;rintro _ al ⟨M,rfl,N,m,am⟩;have o:=k.ext m;refine⟨M,rfl,_,o.cell,?_⟩;refine(je N.src (by simp[eB]) (n:=u.dI) I (by decide)).use ?_;rintro _ an ⟨O,rfl,P,p,ao⟩;have Q:=o.ext p;refine⟨O,rfl,_,Q.cell,?_⟩;rw[a A];refine(je P.src (by simp[eB]) (n:=u.keys) I (by decide)).use ?_;rintro _ ap ⟨r,rfl,R,S,T⟩;have t:=Ext.trans (Ext.trans (Ext.trans (Ext.trans (Ext.trans (Ext.trans B d) f) i) j) m) p;refine⟨r,rfl,r,rfl,R,Ext.trans t S,λq V=>?_⟩;have:=T q V;have:=t.size;omega
end Go.Proofs.YtcmgnhkpfllinaaGreat
