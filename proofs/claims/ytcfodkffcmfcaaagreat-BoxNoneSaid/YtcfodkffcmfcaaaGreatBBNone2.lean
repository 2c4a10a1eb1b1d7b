/- Contracts of the functions that the statement reaches, and the plain laws over them; each theorem stands with its conditions. -/
import Derived.OpenShut
import Derived.Shelf.SlIterI.Nil
import Derived.Shelf.SortM.Plain
import Derived.Shelf.SortM.SortNone
import Derived.Test.YtcfodkffcmfcaaaGreatProg
import Derived.Test.YtcfodkffcmfcaaaGreatRows
import Derived.Test.YtcfodkffcmfcaaaGreatBBNone1
namespace Go.Proofs.YtcfodkffcmfcaaaGreat
open Go aO Go.Proofs.Tryz
theorem JJ{s v:ag}{vs xs:Y O}{i ia:Nat}{ac:Array O}{af:TypeId}{w:I}(F:aS 1 36 w s vs)(K:Src 1 w v xs)(g:v.len=1)(ai:v.a=some ⟨ia,0,none⟩)(Q:aZ w ia ac af)(al:¬aD s ia)
 (R:∀u∈xs,Plain u) (aL:∀u∈vs,Plain u) (hi:i<=s.len) (a8:s.len<=1000000):
 az ah 339 #[s,.int .i64 (i:Int),v] w (λu w'=>∃y:ag,u=y/\aS 1 36 w' y (vs.take (i*1)++xs++vs.drop (i*1))/\y.len=s.len+1/\ad (aD s) w w'/\(∀k,aD y k->aD s k\/w.heap.size<=k)):=by
 obtain⟨h1,a9,a_,h2,am,aM,aN,B,ao,aO⟩:=(AE).out;obtain⟨d0,eT⟩:=kp _ am;refine okF (Z.wq s i v) aj.wq func339 ?_;(delta Z.wq ae ap an dg;dsimp only);have ba:=F.2.1;have bc:=F.2.2.1;have bd:maxLen=9223372036854775807:=rfl;have p:xs.length=1:=by have:=K.len;rw[g]at this;omega
 have S:=F.1;refine⟨⟨J,J⟩,λh=>by rw[g]at h;simp at h,λ_=>⟨λh=>?_,λh=>?_⟩⟩
 .have aR:i=s.len:=by have:=eq_of_beq h;omega
  subst aR;obtain⟨y,w',aJ,aW,T,L,D⟩:=(AE).append (c4:=296) K F R (by rw[g];omega);refine⟨y,w',aJ,y,rfl,?_,by rw[T,g],L,D⟩;rwa[eY J,u4 J,qy]
 have aI:i<s.len:=by
  have h:¬((i:Int)=(s.len:Int)):=λe=>by rw[e]at h;simp at h
  omega
 rcases F.2.2.2 with ⟨_,hc⟩|⟨b,c,hb,E,aq,ar⟩
 .omega
 have aT:b≠ia:=λe=>al ⟨_,hb,e⟩;have aP:IntKind.wrap .i64 ((s.len:Int)+(v.len:Int))=((s.len+1:Nat):Int):=by rw[g,bW J J];rfl
 have aU:IntKind.wrap .i64 ((i:Int)+(v.len:Int))=((i+1:Nat):Int):=by rw[g,bW J J];rfl
 have aV:IntKind.wrap .i64 (((s.len+1:Nat):Int)-(i:Int))=((s.len+1-i:Nat):Int):=by rw[bW J J];omega
 have be:c.toList.length=s.cap*1:=by simpa using aq
 have av:∀k,k<=s.len->vs.take (k*1)=c.toList.take (k*1):=λk d=>by rw[←ar,List.take_take,jy J]
 have aw:vs.drop (i*1)=(c.toList.drop (i*1)).take ((s.len-i)*1):=by rw[←ar,List.drop_take,show s.len*1-i*1=(s.len-i)*1 from J]
 have ax:∀u∈vs.drop (i*1),Plain u:=λu hu=>aL u (List.mem_of_mem_drop hu);have z:(vs.drop (i*1)).length=(s.len-i)*1:=by rw[hL,S];omega
 have G:∀ (bb o l m:Nat),l<m->bw (some (Addr.mk bb o none)) 1 l m=some ⟨bb,o+l*1,none⟩:=λbb o l m bf=>nQ J;simp only[aP,aU,aV,dW,Nat.sub_zero,zR];refine⟨λhg=>?_,λhg=>?_⟩
 .have bg:s.cap<s.len+1:=by have:=b3 hg;omega
  have aX:Src 1 w ⟨some b,i,s.cap⟩ (vs.take (i*1)):=by
   have:=E.pj (sz:=1) (o:=0) (n:=i) (cap:=s.cap) J;rw[lz]at this;rwa[av i J]
  obtain⟨j,zs,rest,aJ,aW,T,L,D⟩:=CR (P:=ah) (gG:= #[296,3]) (c4:=296) (kq:=3) (k:=.i64) (s:=⟨some b,i,s.cap⟩) (n:=s.len+1-i) rfl rfl h1 (by kernel_rfl) h2 am aM aN B (by rw[ao];exact aO) aX (by show s.cap<i+_;omega) (by rw[ao];show(2*(i+_)+1000)*_<=_;omega);have aY:i+(s.len+1-i)=s.len+1:=by omega
  simp only[aY]at aJ L D;obtain⟨C,U⟩:∃C,C=(vs.take (i*1)++zs++rest).toArray:=⟨_,rfl⟩;rw[←U]at D;obtain⟨aA,V⟩:∃aA,aA=w.drew.alloc (.cells C 36):=⟨_,rfl⟩;rw[←V]at D;have ay:aZ aA w.heap.size C 36:=by rw[V];exact aZ.new w.drew _ _
  have aB:Ext w aA:=by rw[V];exact ad.alloc (ad.drew (.refl _ _)) _
  have f:(vs.take (i*1)).length=i*1:=by rw[fg,S];omega
  have aC:C.size=j*1:=by rw[U];simp[f,T,L];omega
  have bh:C.toList.length=j*1:=by simpa using aC
  have H:=mP (P:=ah) (kt:=296) (dy:=296) (ty:=3) (A:=⟨w.heap.size,0+i*1,none⟩) (dl:=s.len+1-i) (jD:=j-i) (n:=1) h1 eT B (x:=v) (by rw[g];exact jy J) (xs:=xs) (by have:=K.ext aB;have e:(⟨v.a,1,v.cap⟩:ag)=v:=(by rw[←g]);rw[e];exact this) (by rw[cg];exact ay.cn _ _ J R);obtain⟨r,X⟩:∃r,r=setCells aA ⟨w.heap.size,0+i*1,none⟩ 0 xs:=⟨_,rfl⟩;rw[←X]at H;have aE:aZ r w.heap.size (f_ C (i*1) xs) 36:=by rw[X,cg];exact ay.je xs
  have a0:Ext w r:=by rw[X];exact Ext.eH aB (ad.iG (.refl _ _) xs 0) (λk d=>by subst d;exact bk _)
  have a1:Ext r r.drew:=ad.drew (.refl _ _);have aF:=Ext.trans a0 a1;have aa:=mP (P:=ah) (w:=r.drew) (kt:=296) (dy:=296) (ty:=3) (A:=⟨w.heap.size,0+(i+1)*1,none⟩) (dl:=s.len+1-(i+1)) (jD:=j-(i+1)) (n:=s.len-i) h1 eT B (x:=⟨some ⟨b,0+i*1,none⟩,s.len-i,s.cap-i⟩) (jy (by show s.len-i<=_;omega)) (xs:=vs.drop (i*1))
   (by have:=(E.ext aF).pj (sz:=1) (o:=i*1) (n:=s.len-i) (cap:=s.cap-i) J;rw[aw,cg];exact this) (by rw[cg];exact aZ.cn (aZ.drew aE) _ _ (by rw[gZ];omega) ax)
  have M:bw (some (Addr.mk w.heap.size 0 none)) 1 i j=some ⟨w.heap.size,0+i*1,none⟩:=G _ _ _ _ J;have N:bw (some (Addr.mk w.heap.size 0 none)) 1 (i+1) j=some ⟨w.heap.size,0+(i+1)*1,none⟩:=G _ _ _ _ J;have a2:bw s.a 1 i s.cap=some ⟨b,0+i*1,none⟩:=by rw[hb];exact G _ _ _ _ J
  have a3:Sem.run ah (Builtin.append_ #[296,3] 296 #[.slice s.a i s.cap,.int .i64 ((s.len+1-i:Nat):Int)]) w=.ok (.slice (some w.heap.size) (s.len+1) j) aA:=by rw[hb];exact D
  refine⟨⟨J,J⟩,⟨some w.heap.size,s.len+1,j⟩,aA,a3,⟨J,by show(i:Int)<=((s.len+1:Nat):Int);omega⟩,_,r,by rw[M];exact H,aQ ⟨⟨J,by show((i+1:Nat):Int)<=((s.len+1:Nat):Int);omega⟩,⟨J,J⟩,_,_,by rw[N,a2];exact aa,⟨some w.heap.size,s.len+1,j⟩,rfl,?_,rfl,?_,?_⟩⟩
  .refine aS.mk' ((aZ.drew aE).je (o:=0+(i+1)*1) _) (by simp[f,p,z];omega) J J (by rw[gZ,gZ,aC]) ?_
   rw[jC _ _ _ (by rw[gZ];omega),jC _ _ _ J];have t1:C.toList.take (i*1)=vs.take (i*1):=by rw[U,qA,gE];exact nG f
   have t2:(C.toList.take (i*1)++xs++C.toList.drop (i*1+xs.length)).take (0+(i+1)*1)=vs.take (i*1)++xs:=by
    rw[t1,km (by simp[f,p];omega),eY (by simp[f,p];omega)]
   rw[t2,km (by simp[f,p,z];omega),eY (by simp[f,p,z];omega)]
  .exact ad.bA (Ext.eH aF (ad.iG (.refl _ _) _ 0) (λk d=>by subst d;exact bk _))
  .rintro k ⟨A,au,d⟩
   cases au;exact .inr (Nat.le_of_eq d)
 .have bi:s.len+1<=s.cap:=by have:=cx hg;omega
  have M:bw s.a 1 (i+1) s.cap=some ⟨b,0+(i+1)*1,none⟩:=by rw[hb];exact G _ _ _ _ J
  have N:bw s.a 1 i s.cap=some ⟨b,0+i*1,none⟩:=by rw[hb];exact G _ _ _ _ J
  have a4:Sem.run ah (callFunc 354 #[v,.slice (some ⟨b,0+(i+1)*1,none⟩) (s.len+1-(i+1)) (s.cap-(i+1))]) w=.ok (.value false) w:=by
   rw[ai,run_callFunc_extern (e:=Extern.SlicesOverlaps.overlaps #[296,296] #[4]) func354 (by kernel_rfl) (by kernel_rfl) (by kernel_rfl) (by kernel_rfl)];have:=Lib.run_overlaps_apart (P:=ah) w 296 4 36 h1 1 (λw=>by have:=hM (w:=w) eT;rwa[B]at this) ia ⟨b,0+(i+1)*1,none⟩ v.len v.cap (s.len+1-(i+1)) (s.cap-(i+1)) (λe=>aT e.symm) af 36 ac.size c.size
    (by have:=Q;unfold aZ at this;simp[World.shape?,this]) (by have:=E;unfold aZ at this;simp[World.shape?,this]) J (Q.frozen _ rfl) (Q.frozen _ rfl)
   rw[this];rfl
  have H:=mP (P:=ah) (w:=w.drew) (kt:=296) (dy:=296) (ty:=3) (A:=⟨b,0+(i+1)*1,none⟩) (dl:=s.len+1-(i+1)) (jD:=s.cap-(i+1)) (n:=s.len-i) h1 eT B (x:=⟨some ⟨b,0+i*1,none⟩,s.len+1-i,s.cap-i⟩) ((Nat.min_eq_right (by show _<=s.len+1-i;omega)).trans J) (xs:=vs.drop (i*1))
   (by have:=(aZ.drew E).pj (sz:=1) (o:=i*1) (n:=s.len-i) (cap:=s.cap-i) J;rw[aw,cg];exact this) (by rw[cg];exact aZ.cn (aZ.drew E) _ _ J ax)
  obtain⟨t,ab⟩:∃t,t=setCells w.drew ⟨b,0+(i+1)*1,none⟩ 0 (vs.drop (i*1)):=⟨_,rfl⟩;rw[←ab]at H;have aG:aZ t b (f_ c ((i+1)*1) (vs.drop (i*1))) 36:=by rw[ab,cg];exact(aZ.drew E).je _
  have aH:ad (aD s) w t:=by
   rw[ab];exact ad.mono (W:=λq=>q=b) (ad.iG (ad.drew (.refl _ _)) _ 0) (λk _ d=>⟨_,hb,d.symm⟩)
  have a5:Src 1 t v xs:=K.ak aH (λk d a6=>by obtain⟨A,au,rfl⟩:=d;rw[ai]at au;cases au;exact al a6);have aa:=mP (P:=ah) (w:=t) (kt:=296) (dy:=296) (ty:=3) (A:=⟨b,0+i*1,none⟩) (dl:=s.len+1-i) (jD:=s.cap-i) (n:=1) h1 eT B (x:=v) (by rw[g];exact jy J) (xs:=xs) (by have e:(⟨v.a,1,v.cap⟩:ag)=v:=(by rw[←g]);rw[e];exact a5) (by rw[cg];exact aG.cn _ _ (by rw[gZ];omega) R);refine⟨⟨J,J⟩,⟨J,J⟩,false,w,by rw[M];exact a4,λ_=>aQ ⟨⟨J,J⟩,⟨J,J⟩,_,t,by rw[M,N];exact H,⟨J,J⟩,_,_,by rw[N];exact aa,⟨s.a,s.len+1,s.cap⟩,rfl,?_,rfl,?_,λk d=>.inl d⟩,λh=>by simp at h⟩
  .have aK:aS 1 36 (setCells t ⟨b,0+i*1,none⟩ 0 xs) ⟨some b,s.len+1,s.cap⟩ (vs.take (i*1)++xs++vs.drop (i*1)):=by
    have f:(vs.take (i*1)).length=i*1:=by rw[fg,S];omega
    refine aS.mk' (aG.je (o:=0+i*1) _) (by simp[f,p,z];omega) J J (by rw[gZ,gZ,aq]) ?_;rw[jC _ _ _ (by rw[gZ];omega),jC _ _ _ J];have t1:(c.toList.take ((i+1)*1)++vs.drop (i*1)++c.toList.drop ((i+1)*1+(vs.drop (i*1)).length)).take (0+i*1)=vs.take (i*1):=by
     rw[cg,km (by simp[z];omega),km (by simp;omega),List.take_take,av i J,jy J]
    have t2:(c.toList.take ((i+1)*1)++vs.drop (i*1)++c.toList.drop ((i+1)*1+(vs.drop (i*1)).length)).drop (0+i*1+xs.length)=vs.drop (i*1)++c.toList.drop ((i+1)*1+(vs.drop (i*1)).length):=by
     have a7:(c.toList.take ((i+1)*1)).length=0+i*1+xs.length:=by simp;omega
     rw[gE,←a7,List.drop_left]
    rw[t1,t2,←gE,km (by simp[f,p,z];omega),eY (by simp[f,p,z];omega)]
   rw[←hb]at aK;exact aK
  .exact aH.trans (ad.mono (W:=λq=>q=b) (ad.iG (.refl _ _) _ 0) (λk _ d=>⟨_,hb,d.symm⟩))
theorem D_{w:I}{s:ag}{ds:Y Nat}(h:Src 1 w s (ep ds))(g:ds.length<=1000000):
 az ah 345 #[s] w (λv w'=>∃b:ag,v=b/\aS 1 3 w' b (ep ds)/\Ext w w'/\fD w b):=by
 have i:s.len=ds.length:=by have:=h.len;rw[pW]at this;omega
 refine okF (Z.wy s) aj.wy func345 ?_;(delta Z.wy ae ap aa;dsimp only);refine⟨λc=>?_,λ_=>?_⟩
 .have c:s.a=none:=by simpa using c
  rw[h.nil c];exact⟨⟨none,0,0⟩,rfl,aS.none _ _ _,.refl _ _,λk d=>(fx k d).elim⟩
 .obtain⟨b,w',h1,h2,j,e,f,_⟩:=uu.clone (c4:=52) h (DM ds) J
  exact aQ ⟨b,w',h1,b,rfl,h2,e,f⟩
theorem JK{b:Y Key}{k:Key}{a:Nat}(e:a<=b.length)(h1:∀ (j:Nat) (h:j<b.length),j<a->dU b[j] k)(h2:∀ (j:Nat) (h:j<b.length),a<=j->¬dU b[j] k):hW b k=a:=by
 unfold hW;rcases eP a b.length with h|h
 .exact(List.findIdx_eq h).2 ⟨eB (h2 a h (bk _)),λj c=>gr λd=>d (h1 j J c)⟩
 .have:a=b.length:=by omega
  subst this;refine List.findIdx_eq_length_of_false λx hx=>?_;obtain⟨j,c,rfl⟩:=eZ hx;exact gr λd=>d (h1 j c c)
def sk(a:Y Key)(k:Key):ai:=decide (a[hW a k]? =some k)
theorem JL{B C:Nat->Prop}{s t:ag}{d:Y Key}{key:Key}{w:I}(hs:c8 B w s d)(ht:Src 1 w t (ax key))(x:d.Pairwise dU)(M:d.length<=100000):
 az ah 340 #[s,t,.func (.func 297) #[] #[]] w (λv w'=>v=.tuple #[.int .i64 ((hW d key:Nat):Int),.bool (sk d key)]/\w=w'):=by
 refine okF (Z.wu s t ⟨297,#[],#[]⟩) aj.wu func340 ?_;(delta Z.wu fT ae vY an a_ vW bj bX bz;dsimp only);have y:=c8.len hs;have p:iC ah 297:=⟨_,(kZ (show(Tryz.prog.funcs[297]?).isSome=true by kernel_rfl)).symm,by kernel_rfl,by kernel_rfl⟩;have aI:=λ{i j:Nat} (hi:i<j) (f:j<d.length)=>sV.1 x i j J f hi;refine⟨λlo hi w'=>∃a b:Nat,lo=a/\hi=b/\a<=b/\b<=d.length/\w=w'/\(∀ (j:Nat) (h:j<d.length),j<a->dU d[j] key)/\(∀ (j:Nat) (h:j<d.length),b<=j->¬dU d[j] key),λlo hi _=>(hi-lo).toNat,
  ⟨0,d.length,rfl,by rw[y],dd _,bk _,rfl,λj _ h=>J,λj h h2=>J⟩,?_⟩
 rintro _ _ _ ⟨a,b,rfl,rfl,N,hb,rfl,h1,h2⟩;have hm:=CV (a:=a) (b:=b) J;refine⟨λh=>?_,λh=>?_⟩
 .have z:(a:Int)<(b:Int):=b3 h
  rw[hm];obtain⟨m,D⟩:∃m,m=(a+b)/2:=⟨_,rfl⟩;rw[←D];have E:a<=m:=by omega
  have O:m<b:=by omega
  obtain⟨A,t2,au,g,k,l,_⟩:=c8.at hs (i:=m) J;refine⟨by decide,A,au,g,t2,k,p,(mb l.1 ht).use ?_⟩;rintro _ _ ⟨rfl,rfl⟩;have F:IntKind.wrap .i64 ((m:Int)+1)=((m+1:Nat):Int):=by rw[bW J J];rfl
  refine⟨_,rfl,λhc=>?_,λhc=>?_⟩
  .have hc:dU d[m] key:=b3 hc
   rw[F];have n:((b:Int)-((m+1:Nat):Int)).toNat<((b:Int)-(a:Int)).toNat:=by omega
   refine⟨⟨m+1,b,rfl,rfl,J,hb,rfl,λj f G=>?_,h2⟩,n⟩;rcases eP j m with e|e
   .exact sg (aI e J) hc
   .have:j=m:=by omega
    subst this;exact hc
  .have hc:¬dU d[m] key:=cx hc
   have n:((m:Int)-(a:Int)).toNat<((b:Int)-(a:Int)).toNat:=by omega
   refine⟨⟨a,m,rfl,rfl,E,J,rfl,h1,λj f G=>?_⟩,n⟩;rcases eP m j with e|e
   .exact λH=>hc (sg (aI e f) H)
   .have:j=m:=by omega
    subst this;exact hc
 .have K:¬(a:Int)<(b:Int):=cx h
  have L:b=a:=by omega
  subst L;have o:hW d key=b:=JK hb h1 h2;refine bK (λc w'=>w=w'/\c=sk d key) (λq r=>⟨λh=>?_,λh=>?_⟩) ?_
  .have z:(b:Int)<(s.len:Int):=b3 h
   have u:b<d.length:=by omega
   obtain⟨A,t2,au,g,k,l,_⟩:=c8.at hs u;refine⟨A,au,g,t2,k,p,(mb l.1 ht).use ?_⟩;rintro _ _ ⟨rfl,rfl⟩;refine⟨_,rfl,r _ _ ⟨rfl,?_⟩⟩;unfold sk;rw[o,eX,cT,jw,fQ u,I2];exact⟨λh=>by rw[h],λh=>Option.some.inj h⟩
  .have K:¬(b:Int)<(s.len:Int):=cx h
   refine r _ _ ⟨rfl,?_⟩;unfold sk;rw[o,lB J];simp
  .rintro _ _ ⟨rfl,rfl⟩
   exact⟨by rw[o],rfl⟩
theorem rV{B:Nat->Prop}{w:I}{n:bo}{K V D t:ag}{key:Key}(h:dB B w n K V D)(ht:Src 1 w t (ax key))(b:n.keys.Pairwise dU)(c:n.keys.length<=100000):
 az ah 322 #[gl n K V D,t] w (λv w'=>v=.tuple #[.int .i64 ((hW n.keys key:Nat):Int),.bool (sk n.keys key)]/\Ext w w'):=by
 refine okF (Z.rV n.leaf K V D t) aj.rV func322 ?_;(delta Z.rV bd a_ aa hT;dsimp only);refine aV (vs:=[n.leaf,K,V,D]) rfl λw1 d a _=>?_;obtain⟨dC,cd,cI,e⟩:=dv d;refine⟨K,cd,(JL (B:=B) (C:=B) (h.keys.ext a) (ht.ext a) b c).use ?_⟩;rintro _ _ ⟨rfl,rfl⟩;exact⟨_,_,rfl,rfl,a⟩
structure jm(lo:Nat)(w:I)(dk:Nat)(n:bo)(K V D:ag)(cH cw cu:Nat->Prop):Prop where
 v:Var w dk [n.leaf,K,V,D] 404
 keys:b9 cH w K n.keys
 vals:b9 cw w V n.vals
 kids:dh cu w D n.kids
 cr:∀q,cH q->lo<=q/\q<w.heap.size/\q≠dk/\¬cw q/\¬cu q
 bv:∀q,cw q->lo<=q/\q<w.heap.size/\q≠dk/\¬cu q
 bX:∀q,cu q->lo<=q/\q<w.heap.size/\q≠dk
 m8:lo<=dk
structure jn(lo:Nat)(w:I)(n:bo)(K V D:ag)(cH cw cu:Nat->Prop):Prop where
 keys:b9 cH w K n.keys
 vals:b9 cw w V n.vals
 kids:dh cu w D n.kids
 cr:∀q,cH q->lo<=q/\q<w.heap.size/\¬cw q/\¬cu q
 bv:∀q,cw q->lo<=q/\q<w.heap.size/\¬cu q
 bX:∀q,cu q->lo<=q/\q<w.heap.size
section
variable {lo:Nat}{w w':I}{dk:Nat}{n:bo}{K V D:ag}{cH cw cu:Nat->Prop}
theorem jm.mem(h:jm lo w dk n K V D cH cw cu):jn lo w n K V D cH cw cu:=⟨h.keys,h.vals,h.kids,λq a=>⟨(h.cr q a).1,(h.cr q a).2.1,(h.cr q a).2.2.2⟩,λq a=>⟨(h.bv q a).1,(h.bv q a).2.1,(h.bv q a).2.2.2⟩,λq a=>⟨(h.bX q a).1,(h.bX q a).2.1⟩⟩
theorem jn.ak{W:Nat->Prop}(h:jn lo w n K V D cH cw cu)(hc:ad W w w')(b4:∀q,lo<=q->q<w.heap.size->cH q\/cw q\/cu q->¬W q):jn lo w' n K V D cH cw cu:=by
 have hs:=hc.size;refine⟨b9.ak h.keys hc λq a=>b4 q (h.cr q a).1 (h.cr q a).2.1 (.inl a),b9.ak h.vals hc λq a=>b4 q (h.bv q a).1 (h.bv q a).2.1 (.inr (.inl a)),dh.ak h.kids hc λq a=>b4 q (h.bX q a).1 (h.bX q a).2 (.inr (.inr a)),λq a=>?_,λq a=>?_,λq a=>?_⟩
 .have:=h.cr q a;exact⟨this.1,J,this.2.2⟩
 .have:=h.bv q a;exact⟨this.1,J,this.2.2⟩
 .have:=h.bX q a;exact⟨this.1,J⟩
theorem jn.ext(h:jn lo w n K V D cH cw cu)(hc:Ext w w'):jn lo w' n K V D cH cw cu:=h.ak hc λ_ _ _ _ h=>h
theorem jm.ext(h:jm lo w dk n K V D cH cw cu)(hx:Ext w w'):jm lo w' dk n K V D cH cw cu:=
 ⟨h.v.ext hx,b9.ext h.keys hx,b9.ext h.vals hx,dh.ext h.kids hx,λq a=>⟨(h.cr q a).1,fX (h.cr q a).2.1 hx.size,(h.cr q a).2.2⟩,λq a=>⟨(h.bv q a).1,fX (h.bv q a).2.1 hx.size,(h.bv q a).2.2⟩,λq a=>⟨(h.bX q a).1,fX (h.bX q a).2.1 hx.size,(h.bX q a).2.2⟩,h.m8⟩
theorem jn.low{c:Nat}(h:jn lo w n K V D cH cw cu)(b:c<=lo):jn c w n K V D cH cw cu:=
 ⟨h.keys,h.vals,h.kids,λq a=>⟨dG b (h.cr q a).1,(h.cr q a).2⟩,λq a=>⟨dG b (h.bv q a).1,(h.bv q a).2⟩,λq a=>⟨dG b (h.bX q a).1,(h.bX q a).2⟩⟩
end
theorem Ea{lo:Nat}{w:I}{dk:Nat}{n:bo}{K V D t:ag}{l:Key}{cH cw cu:Nat->Prop}(h:jm lo w dk n K V D cH cw cu)(ht:Src 1 w t (ax l))(W:l.length<=100000)(E:n.keys.length<=100000){R:I->Prop}
 (F:∀ (w':I) (G:ag) (x:Nat->Prop),jm lo w' dk {n with keys:=n.keys++ [l]} G V D x cw cu->ad (λq=>q=dk\/cH q) w w'->(∀q,x q->cH q\/w.heap.size<=q)->R w'):
 ao w.drew λj=>∃m:Nat->Prop,¬m (Addr.add dk 1).block/\∃g:ag,j.cell? (Addr.add dk 1)=some (.slice g.a g.len g.cap)/\
  Calls ah 97 #[t] j λH d=>∃y:ag,H=.returned y/\ad m j d/\
  ao (d.alloc (.cells #[y] 36)) λz=>ad m d z/\∃A:ag,∃i:I,Sem.run ah (Builtin.append_ #[296,296] 296 #[g,.slice (some d.heap.size) 1 1]) z=.ok A i/\
  (∃u:O,i.cell? (Addr.add dk 1)=some u)/\i.frozen? (Addr.add dk 1)=false/\ao (i.setCell (Addr.add dk 1) A) λL=>R L:=by
 have X:=h.m8;have Y:=h.v.lt;have p:=bC w;obtain⟨dC,cd,cI,Z⟩:=dv (h.v.ext p);refine aQ ⟨λ_=>False,id,K,cd,(m6 (B:=λq=>w.heap.size<=q) (ht.ext p) J (λq b=>b)).use ?_⟩;rintro _ d ⟨M,rfl,C,hx,hf⟩;have e:=p.trans hx;have aa:w.drew.heap.size=w.heap.size:=rfl;have N:=e.size;have P:=b9.ext h.keys e;have dr:=b9.ext h.vals e;have Q:=dh.ext h.kids e;refine⟨M,rfl,hx,yn (B:=Grow cH w.drew d) (h.v.ext e) (o:=1) (by simp) (b9.cp P λk _ h=>.inl h) ?_ (cE.cp C λk c h=>.inr ⟨h,c⟩) ?_ E λw' aM aJ aW f=>?_⟩
 .rintro(h1|h1)
  .exact(h.cr dk h1).2.2.1 rfl
  .omega
 .intro k S T
  obtain⟨ts,_,_,r,_⟩:=h.keys;have:=(r k T).2;have:=(C.2.2 k S).1;omega
 have U:∀q,Grow (Grow cH w.drew d) d w' q->cH q\/(w.heap.size<=q/\q<w'.heap.size):=by
  rintro q ((h1|h1)|h1)
  .exact .inl h1
  .exact .inr ⟨h1.1,fX h1.2 f.size⟩
  .exact .inr ⟨dG N h1.1,h1.2⟩
 have hg:=f.size;have s:∀q,aD K q->cH q:=λq b=>by
  obtain⟨ts,_,_,r,_⟩:=h.keys;exact(r q b).1
 refine F w' aM (λq=>cH q\/(w.heap.size<=q/\q<w'.heap.size)) ⟨by simpa using aJ,b9.cp aW λk _ c=>U k c,b9.ak dr f ?_,dh.ak Q f ?_,?_,λq b=>?_,λq b=>?_,h.m8⟩ ?_ ?_
 .rintro q b (h1|h1)
  .exact(h.bv q b).2.2.1 h1
  .exact(h.cr q (s q h1)).2.2.2.1 b
 .rintro q b (h1|h1)
  .exact(h.bX q b).2.2 h1
  .exact(h.cr q (s q h1)).2.2.2.2 b
 .rintro q (h1|h1)
  .have:=h.cr q h1;exact⟨this.1,J,this.2.2⟩
  .exact⟨J,h1.2,J,λh2=>by have:=h.bv q h2;omega,λh2=>by have:=h.bX q h2;omega⟩
 .have:=h.bv q b;exact⟨this.1,J,this.2.2⟩
 .have:=h.bX q b;exact⟨this.1,J,this.2.2⟩
 .refine(ad.bA e).trans (f.mono λk _ c=>?_)
  rcases c with c|c
  .exact .inl c
  .exact .inr (s k c)
 .rintro q (h1|h1)
  .exact .inl h1
  .exact .inr h1.1
theorem Eb{lo:Nat}{w:I}{dk:Nat}{n:bo}{K V D t:ag}{l:Key}{cH cw cu:Nat->Prop}(h:jm lo w dk n K V D cH cw cu)(ht:Src 1 w t (ax l))(W:l.length<=100000)(E:n.vals.length<=100000){R:I->Prop}
 (F:∀ (w':I) (G:ag) (x:Nat->Prop),jm lo w' dk {n with vals:=n.vals++ [l]} K G D cH x cu->ad (λq=>q=dk\/cw q) w w'->(∀q,x q->cw q\/w.heap.size<=q)->R w'):
 ao w.drew λj=>∃m:Nat->Prop,¬m (Addr.add dk 2).block/\∃g:ag,j.cell? (Addr.add dk 2)=some (.slice g.a g.len g.cap)/\
  Calls ah 97 #[t] j λH d=>∃y:ag,H=.returned y/\ad m j d/\
  ao (d.alloc (.cells #[y] 36)) λz=>ad m d z/\∃A:ag,∃i:I,Sem.run ah (Builtin.append_ #[296,296] 296 #[g,.slice (some d.heap.size) 1 1]) z=.ok A i/\
  (∃u:O,i.cell? (Addr.add dk 2)=some u)/\i.frozen? (Addr.add dk 2)=false/\ao (i.setCell (Addr.add dk 2) A) λL=>R L:=by
 have X:=h.m8;have Y:=h.v.lt;have p:=bC w;obtain⟨dC,cd,cI,Z⟩:=dv (h.v.ext p);refine aQ ⟨λ_=>False,id,V,cI,(m6 (B:=λq=>w.heap.size<=q) (ht.ext p) J (λq b=>b)).use ?_⟩;rintro _ d ⟨M,rfl,C,hx,hf⟩;have e:=p.trans hx;have aa:w.drew.heap.size=w.heap.size:=rfl;have N:=e.size;have P:=b9.ext h.keys e;have dr:=b9.ext h.vals e;have Q:=dh.ext h.kids e;refine⟨M,rfl,hx,yn (B:=Grow cw w.drew d) (h.v.ext e) (o:=2) (by simp) (b9.cp dr λk _ h=>.inl h) ?_ (cE.cp C λk c h=>.inr ⟨h,c⟩) ?_ E λw' aM aJ aW f=>?_⟩
 .rintro(h1|h1)
  .exact(h.bv dk h1).2.2.1 rfl
  .omega
 .intro k S T
  obtain⟨ts,_,_,r,_⟩:=h.vals;have:=(r k T).2;have:=(C.2.2 k S).1;omega
 have U:∀q,Grow (Grow cw w.drew d) d w' q->cw q\/(w.heap.size<=q/\q<w'.heap.size):=by
  rintro q ((h1|h1)|h1)
  .exact .inl h1
  .exact .inr ⟨h1.1,fX h1.2 f.size⟩
  .exact .inr ⟨dG N h1.1,h1.2⟩
 have hg:=f.size;have s:∀q,aD V q->cw q:=λq b=>by
  obtain⟨ts,_,_,r,_⟩:=h.vals;exact(r q b).1
 refine F w' aM (λq=>cw q\/(w.heap.size<=q/\q<w'.heap.size)) ⟨by simpa using aJ,b9.ak P f ?_,b9.cp aW λk _ c=>U k c,dh.ak Q f ?_,λq b=>?_,?_,λq b=>?_,h.m8⟩ ?_ ?_
 .rintro q b (h1|h1)
  .exact(h.cr q b).2.2.1 h1
  .exact(h.cr q b).2.2.2.1 (s q h1)
 .rintro q b (h1|h1)
  .exact(h.bX q b).2.2 h1
  .exact(h.bv q (s q h1)).2.2.2 b
 .have:=h.cr q b
  refine⟨this.1,J,this.2.2.1,?_,this.2.2.2.2⟩;rintro(h1|h1)
  .exact this.2.2.2.1 h1
  .omega
 .rintro q (h1|h1)
  .have:=h.bv q h1;exact⟨this.1,J,this.2.2⟩
  .exact⟨J,h1.2,J,λh2=>by have:=h.bX q h2;omega⟩
 .have:=h.bX q b;exact⟨this.1,J,this.2.2⟩
 .refine(ad.bA e).trans (f.mono λk _ c=>?_)
  rcases c with c|c
  .exact .inl c
  .exact .inr (s k c)
 .rintro q (h1|h1)
  .exact .inl h1
  .exact .inr h1.1
theorem rW{B:Nat->Prop}{w0:I}{n:bo}{K V D:ag}(h:dB B w0 n K V D)(aT:n.keys.length<=100000)(aW:n.vals.length<=100000)(aX:n.kids.length<=100000)(ay:∀k∈n.keys,k.length<=100000)(aA:∀v∈n.vals,v.length<=100000):
 az ah 325 #[gl n K V D] w0 (λv w'=>∃ (K V D:ag) (cH cw cu:Nat->Prop),v=gl n K V D/\jn w0.heap.size w' n K V D cH cw cu/\Ext w0 w'):=by
 refine okF (Z.rW n.leaf K V D) aj.rW func325 ?_;(delta Z.rW gS bE aa bB g1 fz a_ bp cX bd cR ae bj bX bz ap st an bR;dsimp only);have aE:dB (λq=>q<w0.heap.size) w0 n K V D:=h.cp λq a _=>a;have aY:=c8.len h.keys;have aZ:=c8.len h.vals;refine aV (vs:=[n.leaf,K,V,D]) rfl λw1 aF aG a0=>?_;refine aV (vs:=[false,(),(),()]) rfl λaf aH aB a1=>aQ ?_;have U:=bC af;have a2:af.drew.heap.size=af.heap.size:=rfl;have H:=(aF.ext aB).ext U;have aC:=aH.ext U;have W:=aG.trans (aB.trans U);obtain⟨aJ,aP,aU,aK⟩:=dv H;have S:=aE.ext W;obtain⟨lo,a3⟩:∃lo,lo=af.heap.size:=⟨_,rfl⟩;refine⟨λ_=>False,id,_,aJ,id,D,aK,⟨?_,?_⟩⟩
 .refine(D_ S.kids.1 J).use ?_
  rintro _ G ⟨aL,rfl,y,x,X⟩;have aM:=x.size;refine⟨aL,rfl,x,#[n.leaf,(),(),aL],(λw=>by kernel_rfl),?_⟩;refine aV (vs:=[false,(),(),()]) rfl λaR T z aN=>?_;refine⟨z,T.cn rfl ?_,rfl,cU T (us:=[n.leaf,(),(),aL]) rfl rfl λg L C aO=>?_⟩
  .intro v M
   simp only[cW,fh,ft]at M;rcases M with rfl|rfl|rfl|rfl<;>trivial
  obtain⟨dk,Y⟩:∃dk,dk=G.heap.size:=⟨_,rfl⟩;rw[←Y]at L C⊢;obtain⟨cu,r⟩:∃cu:Nat->Prop,cu=λq=>af.heap.size<=q/\q<G.heap.size:=⟨_,rfl⟩;have ab:dh cu G aL n.kids:=by subst r;exact⟨y,λk l=>⟨⟨X k l,y.lt k l⟩,y.lt k l⟩⟩
  have m:ad (λq=>lo<=q) af.drew g:=(ad.bA (x.trans z)).trans (C.mono λk _ l=>J);have ac:jm lo g dk ⟨n.leaf,[],[],n.kids⟩ cC cC aL (λ_=>False) (λ_=>False) cu:=⟨L,b9.none _ _,b9.none _ _,dh.ak (dh.ext ab z) C (λq a e=>by subst r;have a:=a.2;omega),λq h=>h.elim,λq h=>h.elim,λq a=>(by subst r;obtain⟨h1,h2⟩:=a;exact⟨J,J,J⟩),J⟩;clear r;obtain⟨dC,cd,cI,ai⟩:=dv (H.ak m J);have N:dB (λq=>q<w0.heap.size) g n K V D:=S.ak m λq a h=>by omega
  have al:=aC.ak m J;refine⟨K,cd,λi w'=>∃ (j:Nat) (d:ag) (cH:Nat->Prop),i=j/\j<=n.keys.length/\jm lo w' dk ⟨n.leaf,n.keys.take j,[],n.kids⟩ d cC aL cH (λ_=>False) cu/\ad (λq=>lo<=q) g w',λi _=>((n.keys.length:Int)-i).toNat,⟨0,cC,_,rfl,dd _,ac,ad.refl _ _⟩,?_⟩;rintro _ O ⟨j,d,cH,rfl,am,o,s⟩;have ao:dB (λq=>q<w0.heap.size) O n K V D:=N.ak s λq a h=>by omega
  refine⟨λaI=>?_,λc=>?_⟩
  .have aI:j<n.keys.length:=by have:=b3 aI;omega
   obtain⟨A,t,au,hb,hc,ht,_⟩:=c8.at ao.keys aI;refine⟨A,au,hb,t,hc,Ea o ht.1 (ay _ (cO aI)) (by show(n.keys.take j).length<=_;rw[fg];omega) λw' aq ar st E _=>?_⟩;have F:ad (λq=>lo<=q) O w':=E.mono λq _ a=>by
    rcases a with a|a
    .have:=o.m8;omega
    .exact(o.cr q a).1
   rw[bW (n:=(j:Int)+1) J J];refine⟨⟨j+1,aq,ar,J,J,?_,s.trans F⟩,?_⟩
   .rw[take_succ _ aI];exact st
   .show((n.keys.length:Int)-((j:Int)+1)).toNat<((n.keys.length:Int)-(j:Int)).toNat
    omega
  have c:j=n.keys.length:=by have:=cx c;omega
  subst c;rw[jx]at o;obtain⟨dC,cd,cI,ai⟩:=dv ((H.ak m J).ak s J);refine⟨V,cI,λi w'=>∃ (j:Nat) (p:ag) (cw:Nat->Prop),i=j/\j<=n.vals.length/\jm lo w' dk ⟨n.leaf,n.keys,n.vals.take j,n.kids⟩ d p aL cH cw cu/\ad (λq=>lo<=q) g w',λi _=>((n.vals.length:Int)-i).toNat,⟨0,cC,_,rfl,dd _,o,s⟩,?_⟩;rintro _ P ⟨j,p,cw,rfl,am,f,u⟩;have av:dB (λq=>q<w0.heap.size) P n K V D:=N.ak u λq a h=>by omega
  refine⟨λaI=>?_,λc=>?_⟩
  .have aI:j<n.vals.length:=by have:=b3 aI;omega
   obtain⟨A,t,au,hb,hc,ht,_⟩:=c8.at av.vals aI;refine⟨A,au,hb,t,hc,Eb f ht.1 (aA _ (cO aI)) (by show(n.vals.take j).length<=_;rw[fg];omega) λw' aw ax st E _=>?_⟩;have F:ad (λq=>lo<=q) P w':=E.mono λq _ a=>by
    rcases a with a|a
    .have:=f.m8;omega
    .exact(f.bv q a).1
   rw[bW (n:=(j:Int)+1) J J];refine⟨⟨j+1,aw,ax,J,J,?_,u.trans F⟩,?_⟩
   .rw[take_succ _ aI];exact st
   .show((n.vals.length:Int)-((j:Int)+1)).toNat<((n.vals.length:Int)-(j:Int)).toNat
    omega
  have c:j=n.vals.length:=by have:=cx c;omega
  subst c;rw[jx]at f;obtain⟨d0,d1,d2,d3⟩:=dv f.v;refine⟨_,d0,d,d1,p,d2,aL,d3,lg n.leaf d p aL (al.ak u J) rfl (Q:=λb K V D af=>(λv w'=>∃ (K V D:ag) (cH cw cu:Nat->Prop),v=gl n K V D/\jn w0.heap.size w' n K V D cH cw cu/\Ext w0 w') (.agg #[b,K,V,D]) af) λaS R=>⟨d,p,aL,cH,cw,cu,rfl,?_,?_⟩⟩
  .exact(jn.ak f.mem R λq a _ _ h=>J).low J
  .exact Ext.bO (Ext.eH W (m.trans u) λk l=>J) R J
 .refine aV (vs:=[false,(),(),()]) rfl λaR T z aN=>⟨z,?_⟩
  refine(D_ (S.kids.ext z).1 J).use ?_;rintro _ G ⟨aL,rfl,y,x,X⟩;have aM:=x.size;have aD:=T.ext x;refine⟨aL,rfl,x,#[n.leaf,(),(),aL],(λw=>by kernel_rfl),?_⟩;refine⟨aD.cn rfl ?_,rfl,cU aD (us:=[n.leaf,(),(),aL]) rfl rfl λg L C aO=>?_⟩
  .intro v M
   simp only[cW,fh,ft]at M;rcases M with rfl|rfl|rfl|rfl<;>trivial
  obtain⟨dk,Y⟩:∃dk,dk=af.drew.heap.size:=⟨_,rfl⟩;rw[←Y]at L C⊢;obtain⟨cu,r⟩:∃cu:Nat->Prop,cu=λq=>aR.heap.size<=q/\q<G.heap.size:=⟨_,rfl⟩;have ab:dh cu G aL n.kids:=by subst r;exact⟨y,λk l=>⟨⟨X k l,y.lt k l⟩,y.lt k l⟩⟩
  have m:ad (λq=>lo<=q) af.drew g:=(ad.bA (z.trans x)).trans (C.mono λk _ l=>J);have ac:jm lo g dk ⟨n.leaf,[],[],n.kids⟩ cC cC aL (λ_=>False) (λ_=>False) cu:=⟨L,b9.none _ _,b9.none _ _,dh.ak ab C (λq a e=>by subst r;have a:=a.1;omega),λq h=>h.elim,λq h=>h.elim,λq a=>(by subst r;obtain⟨h1,h2⟩:=a;exact⟨J,J,J⟩),J⟩;clear r;obtain⟨dC,cd,cI,ai⟩:=dv (H.ak m J);have N:dB (λq=>q<w0.heap.size) g n K V D:=S.ak m λq a h=>by omega
  have al:=aC.ak m J;refine⟨K,cd,λi w'=>∃ (j:Nat) (d:ag) (cH:Nat->Prop),i=j/\j<=n.keys.length/\jm lo w' dk ⟨n.leaf,n.keys.take j,[],n.kids⟩ d cC aL cH (λ_=>False) cu/\ad (λq=>lo<=q) g w',λi _=>((n.keys.length:Int)-i).toNat,⟨0,cC,_,rfl,dd _,ac,ad.refl _ _⟩,?_⟩;rintro _ O ⟨j,d,cH,rfl,am,o,s⟩;have ao:dB (λq=>q<w0.heap.size) O n K V D:=N.ak s λq a h=>by omega
  refine⟨λaI=>?_,λc=>?_⟩
  .have aI:j<n.keys.length:=by have:=b3 aI;omega
   obtain⟨A,t,au,hb,hc,ht,_⟩:=c8.at ao.keys aI;refine⟨A,au,hb,t,hc,Ea o ht.1 (ay _ (cO aI)) (by show(n.keys.take j).length<=_;rw[fg];omega) λw' aq ar st E _=>?_⟩;have F:ad (λq=>lo<=q) O w':=E.mono λq _ a=>by
    rcases a with a|a
    .have:=o.m8;omega
    .exact(o.cr q a).1
   rw[bW (n:=(j:Int)+1) J J];refine⟨⟨j+1,aq,ar,J,J,?_,s.trans F⟩,?_⟩
   .rw[take_succ _ aI];exact st
   .show((n.keys.length:Int)-((j:Int)+1)).toNat<((n.keys.length:Int)-(j:Int)).toNat
    omega
  have c:j=n.keys.length:=by have:=cx c;omega
  subst c;rw[jx]at o;obtain⟨dC,cd,cI,ai⟩:=dv ((H.ak m J).ak s J);refine⟨V,cI,λi w'=>∃ (j:Nat) (p:ag) (cw:Nat->Prop),i=j/\j<=n.vals.length/\jm lo w' dk ⟨n.leaf,n.keys,n.vals.take j,n.kids⟩ d p aL cH cw cu/\ad (λq=>lo<=q) g w',λi _=>((n.vals.length:Int)-i).toNat,⟨0,cC,_,rfl,dd _,o,s⟩,?_⟩;rintro _ P ⟨j,p,cw,rfl,am,f,u⟩;have av:dB (λq=>q<w0.heap.size) P n K V D:=N.ak u λq a h=>by omega
  refine⟨λaI=>?_,λc=>?_⟩
  .have aI:j<n.vals.length:=by have:=b3 aI;omega
   obtain⟨A,t,au,hb,hc,ht,_⟩:=c8.at av.vals aI;refine⟨A,au,hb,t,hc,Eb f ht.1 (aA _ (cO aI)) (by show(n.vals.take j).length<=_;rw[fg];omega) λw' aw ax st E _=>?_⟩;have F:ad (λq=>lo<=q) P w':=E.mono λq _ a=>by
    rcases a with a|a
    .have:=f.m8;omega
    .exact(f.bv q a).1
   rw[bW (n:=(j:Int)+1) J J];refine⟨⟨j+1,aw,ax,J,J,?_,u.trans F⟩,?_⟩
   .rw[take_succ _ aI];exact st
   .show((n.vals.length:Int)-((j:Int)+1)).toNat<((n.vals.length:Int)-(j:Int)).toNat
    omega
  have c:j=n.vals.length:=by have:=cx c;omega
  subst c;rw[jx]at f;obtain⟨d0,d1,d2,d3⟩:=dv f.v;refine⟨_,d0,d,d1,p,d2,aL,d3,lg n.leaf d p aL (al.ak u J) rfl (Q:=λb K V D af=>(λv w'=>∃ (K V D:ag) (cH cw cu:Nat->Prop),v=gl n K V D/\jn w0.heap.size w' n K V D cH cw cu/\Ext w0 w') (.agg #[b,K,V,D]) af) λaS R=>⟨d,p,aL,cH,cw,cu,rfl,?_,?_⟩⟩
  .exact(jn.ak f.mem R λq a _ _ h=>J).low J
  .exact Ext.bO (Ext.eH W (m.trans u) λk l=>J) R J
theorem b9.mk'{B:Nat->Prop}{w:I}{s:ag}{ts:Y ag}{ls:Y Key}(a:ts.length=ls.length)(b:aS 1 36 w s (ts.map fo))(hi:In B w s)(c:∀p∈ts.zip ls,cE B w p.1 p.2/\∀k,aD p.1 k->¬aD s k):b9 B w s ls:=by
 refine⟨ts,a,b,hi,λi h1 h2=>?_⟩;have:=c (ts[i],ls[i]) (by
  rw[List.mem_iff_getElem];exact⟨i,by rw[List.length_zip];omega,by rw[List.getElem_zip]⟩)
 exact this
theorem b9.out{B:Nat->Prop}{w:I}{s:ag}{ls:Y Key}(h:b9 B w s ls):∃ts:Y ag,ts.length=ls.length/\aS 1 36 w s (ts.map fo)/\In B w s/\∀p∈ts.zip ls,cE B w p.1 p.2/\∀k,aD p.1 k->¬aD s k:=by
 obtain⟨ts,h1,h2,a,b⟩:=h;refine⟨ts,h1,h2,a,λp c=>?_⟩;obtain⟨i,hi,rfl⟩:=List.mem_iff_getElem.1 c;rw[List.length_zip]at hi;rw[List.getElem_zip];exact b i J J
theorem JM{α β:Type}(a:Y α)(b:Y β)(i:Nat):(a.take i).zip (b.take i)=(a.zip b).take i:=by
 rw[List.zip_eq_zipWith,List.zip_eq_zipWith,List.take_zipWith]
theorem JN{α β:Type}(a:Y α)(b:Y β)(i:Nat):(a.drop i).zip (b.drop i)=(a.zip b).drop i:=by
 rw[List.zip_eq_zipWith,List.zip_eq_zipWith,List.drop_zipWith]
theorem Ec{B:Nat->Prop}{w:I}{s t:ag}{ls:Y Key}{l:Key}{i:Nat}(q:b9 B w s ls)(ht:cE B w t l)(hd:∀k,aD t k->¬aD s k)(F:ls.length<=100000)(hi:i<=ls.length):
 az ah 339 #[s,.int .i64 (i:Int),.slice (some w.heap.size) 1 1] (w.alloc (.cells #[t] 36))
  (λu w'=>∃e:ag,u=e/\b9 (Grow B w w') w' e (ls.take i++ [l]++ls.drop i)/\ad (aD s) w w'):=by
 obtain⟨ts,h1,h2,j,m⟩:=b9.out q;have G:s.len=ls.length:=by have:=h2.1;rw[dn]at this;omega
 have hx:=cM w (.cells #[t] 36);have r:=aZ.new w #[t] 36;refine(JJ (v:=⟨some w.heap.size,1,1⟩) (xs:=[fo t]) (i:=i) (h2.ext hx) (Src.new (T:=36) w [fo t] 1 rfl) rfl rfl r (λh=>by have:=(j _ h).2;omega) (λv z=>by rw[dH.1 z];trivial) (Jv ts) J J).mono ?_;rintro _ w' ⟨e,rfl,aJ,aW,A,C⟩;rw[fR]at aJ;have hc:ad (aD s) w w':=(ad.bA hx).trans A;have H:=hc.size;have K:(w.alloc (.cells #[t] 36)).heap.size=w.heap.size+1:=mj _ _;have n:∀k,aD e k->aD s k\/w.heap.size<=k:=λk d=>(C k d).imp id λh=>by omega
 have D:∀ (x:ag),In B w x->(∀k,aD x k->¬aD s k)->∀k,aD x k->¬aD e k:=λx hx f k d E=>by
  rcases n k E with h|h
  .exact f k d h
  .have:=(hx k d).2;omega
 have g:∀ (x:ag) (y:Key),cE B w x y->(∀k,aD x k->¬aD s k)->cE (Grow B w w') w' x y/\∀k,aD x k->¬aD e k:=λx y o f=>⟨cE.cp (cE.sj o hc f) λk _ h=>.inl h,D x o.2.2 f⟩;refine⟨e,rfl,b9.mk' (ts:=ts.take i++ [t]++ts.drop i) ?_ ?_ ?_ ?_,hc⟩
 .simp only[ej,fg,hL,u9];omega
 .simpa[qu,oY] using aJ
 .intro k d
  refine⟨?_,aJ.lt k d⟩;rcases n k d with h|h
  .exact .inl (j k h).1
  .exact .inr ⟨h,aJ.lt k d⟩
 .intro p c
  rw[List.zip_append (by simp only[ej,fg,u9];omega),List.zip_append (by simp only[fg];omega),JM,JN]at c;rcases ed.1 c with c|c
  .rcases ed.1 c with c|c
   .obtain⟨a,b⟩:=m p (List.mem_of_mem_take c)
    exact g _ _ a b
   .simp only[List.zip_cons_cons,List.zip_nil_left,dH]at c
    subst c;exact g _ _ ht hd
  .obtain⟨a,b⟩:=m p (List.mem_of_mem_drop c)
   exact g _ _ a b
theorem JO{B:Nat->Prop}{w:I}{s t:ag}{ls:Y Key}{l:Key}{i:Nat}(g:b9 B w s ls)(ht:cE B w t l)(hd:∀k,aD t k->¬aD s k)(hi:i<ls.length):
 ∃A:ar,s.a=some A/\((0:Int)<=(i:Int)/\(i:Int)<(s.len:Int))/\(∃u:O,w.cell? (A.add (Int.toNat (i:Int)*1))=some u)/\w.frozen? (A.add (Int.toNat (i:Int)*1))=false/\
  b9 B (w.setCell (A.add (Int.toNat (i:Int)*1)) (fo t)) s (ls.set i l)/\ad (aD s) w (w.setCell (A.add (Int.toNat (i:Int)*1)) (fo t)):=by
 obtain⟨ts,h1,h2,h,m⟩:=g;obtain⟨A,au,hb,hc,hf,n,o⟩:=h2.at (i:=i) (v:=fo (ts[i]'J)) (by simp[h1,hi]);have c:ad (aD s) w (w.setCell (A.add (Int.toNat (i:Int)*1)) (fo t)):=ad.set (.refl _ _) (λ_=>n) _;refine⟨A,au,hb,⟨_,hc⟩,hf,⟨ts.set i t,by simp[h1],?_,In.ak h c,λj d f=>?_⟩,c⟩
 .have:=o (fo t)
  rwa[←List.map_set]at this
 .rw[c1]at d f
  rw[sT,sT];by_cases e:i=j
  .rw[if_pos e,if_pos e]
   exact⟨cE.sj ht c hd,hd⟩
  .rw[if_neg e,if_neg e]
   obtain⟨a,b⟩:=m j d f;exact⟨cE.sj a c b,b⟩
def lh(n:bo)(k v:Key):bo:=
 if sk n.keys k then {n with vals:=n.vals.set (hW n.keys k) v}
 else {n with keys:=n.keys.take (hW n.keys k)++ [k]++n.keys.drop (hW n.keys k),vals:=n.vals.take (hW n.keys k)++ [v]++n.vals.drop (hW n.keys k)}
theorem lf.hD{n:bo}(h:lf n):(∀k∈n.keys,k.length<=100000)/\(∀v∈n.vals,v.length<=100000):=⟨λk a=>by have:=(h.ok k a).2;omega,λv b=>by have:=h.vals v b;omega⟩
def AI(n:bo)(w:I)(v:O)(w':I):Prop:=∃K V D:ag,v=.tuple #[gl n K V D,true]/\dB (λq=>w.heap.size<=q) w' n K V D/\Ext w w'
theorem rU{B:Nat->Prop}{w:I}{n:bo}{K V D tk im:ag}{key val:Key}(h:dB B w n K V D)(hs:lf n)(bJ:n.keys.length<=10000)(c:Src 1 w tk (ax key))(E:Src 1 w im (ax val))(aH:g3 key)(bL:val.length<=24):
 az ah 317 #[gl n K V D,tk,im] w (AI (lh n key val) w):=by
 have bM:=hs.len;have bN:n.kids.length=0:=by rw[hs.kids];rfl
 have bP:=len8 E;have bQ:key.length<=24:=aH.2;refine okF (Z.rU n.leaf K V D tk im) aj.rU func317 ?_;(delta Z.rU gS bB aa ae bd a_ bn bR vP hT bE g1 fz bp bj bX st bz gj;dsimp only);refine aV (vs:=[n.leaf,K,V,D]) rfl λw1 aq a8 bS=>?_;refine aV (vs:=[false,(),(),()]) rfl λaf a9 ac bT=>?_;have aK:=a8.trans ac;obtain⟨dC,cd,cI,M⟩:=dv (aq.ext ac);refine⟨n.leaf,dC,bK (λb w'=>b=false/\Ext af w') (λq a=>⟨λhb=>?_,λhb=>⟨_,dC,K,cd,V,cI,D,M,(pK (h.ext aK) J J J).use ?_⟩⟩) ?_⟩
 .rw[hs.leaf]at hb;cases hb
 .rintro _ ar ⟨b,rfl,ba,y⟩
  have:=ba.2 (.inl hs);subst this;exact⟨true,rfl,a _ _ ⟨rfl,y⟩⟩
 rintro _ ar ⟨rfl,y⟩;have ai:=aK.trans y;refine bK (λb w'=>b=false/\ar=w') (λq a=>⟨λh=>(by cases h),λ_=>(pM (c.ext ai)).use ?_⟩) ?_
 .rintro _ _ ⟨rfl,rfl⟩
  exact⟨_,rfl,a _ _ ⟨by simp[aH],rfl⟩⟩
 rintro _ _ ⟨rfl,rfl⟩;obtain⟨dC,cd,cI,M⟩:=dv (aq.ext (ac.trans y));refine⟨λhb=>?_,λ_=>⟨_,dC,K,cd,V,cI,D,M,(rW (h.ext ai) J J J hs.hD.1 hs.hD.2).use ?_⟩⟩
 .have hb:decide (((im.len:Int):Int)>24)=true:=hb
  have:=b3 hb;omega
 rintro _ aA ⟨l,g,aL,cH,cw,cu,rfl,p,al⟩;have aM:=ai.trans al;have bU:=aM.size;have bV:=ai.size;have bW:=y.size;have bY:=al.size;refine⟨n.leaf,l,g,aL,rfl,aV (vs:=[false,(),(),()]) rfl λaC aN am bZ=>⟨aN.cn rfl ?_,rfl,cU aN (us:=[n.leaf,l,g,aL]) rfl rfl λN O P b0=>?_⟩⟩
 .intro v E
  simp only[cW,fh,ft]at E;rcases E with rfl|rfl|rfl|rfl<;>trivial
 obtain⟨dk,bb⟩:∃dk,dk=aA.heap.size:=⟨_,rfl⟩;rw[←bb]at O P⊢;obtain⟨lo,bc⟩:∃lo,lo=ar.heap.size:=⟨_,rfl⟩;rw[←bc]at p;have an:Ext w N:=Ext.bO (aM.trans am) P J;have be:Var N w.heap.size [n.leaf,K,V,D] 404:=(((aq.ext (ac.trans y)).ext al).ext am).ak P J;have aO:Var N w1.heap.size [false,(),(),()] 404:=(((a9.ext y).ext al).ext am).ak P J;have f:jn lo N n l g aL cH cw cu:=(p.ext am).ak P λq _ _ a e=>by
  subst e;rcases a with a|a|a
  .have:=(p.cr _ a).2.1;omega
  .have:=(p.bv _ a).2.1;omega
  .have:=(p.bX _ a).2;omega
 obtain⟨dC,cd,cI,M⟩:=dv be;have bf:=Jd n.keys key;refine⟨_,dC,K,cd,V,cI,D,M,(rV (h.ext an) (c.ext an) hs.eM J).use ?_⟩;rintro _ m ⟨rfl,ao⟩;have aw:=an.trans ao;have b1:=ao.size;refine⟨_,_,rfl,λF=>?_,λF=>?_⟩
 .
  have z:=bC m;have G:=ao.trans z;have aI:hW n.keys key<n.keys.length:=by
   have:=b3 F;exact(qp.1 this).1
  obtain⟨d0,d1,d2,d3⟩:=dv (O.ext G);refine aQ ⟨λ_=>False,id,g,d2,(m6 (B:=λq=>m.heap.size<=q) (E.ext (aw.trans z)) J (λq a=>a)).use ?_⟩;rintro _ aF ⟨t,rfl,ht,s,bg⟩;have R:=G.trans s;have ay:=f.ext R;have bh:=R.size;have bi:b9 (Grow cw m aF) aF g n.vals:=b9.cp ay.vals λk _ h=>.inl h;have u:∀k,aD g k->cw k:=λk c=>by obtain⟨ts,_,_,T,_⟩:=f.vals;exact(T k c).1
  obtain⟨A,au,hb,bk,sm,aS,aT⟩:=JO (i:=hW n.keys key) bi (cE.cp ht λk c h=>.inr ⟨h,c⟩) (λk U W=>by
   have:=(ht.2.2 k U).1;have:=(f.bv k (u k W)).2.1;omega) J
  refine⟨t,rfl,s,A,au,hb,bk,sm,aQ ?_⟩;obtain⟨o,aX⟩:∃o,o=aF.setCell (A.add (Int.toNat (hW n.keys key:Int)*1)) (fo t):=⟨_,rfl⟩;rw[←aX]at aS aT;have bl:aF.setCell (A.add (Int.toNat (hW n.keys key:Int)*1)) t=o:=aX.symm;rw[bl];have X:ad (λq=>lo<=q/\q<N.heap.size/\cw q) aF o:=aT.mono λk _ c=>⟨(f.bv k (u k c)).1,(f.bv k (u k c)).2.1,u k c⟩;have ap:=(O.ext R).ak X (λe=>by
   have h1:=(p.bv _ e.2.2).2.1;omega)
  obtain⟨bm,aP,aU,bq⟩:=dv ap;have br:dB (λq=>lo<=q) o (lh n key val) l g aL:=by
   unfold lh;rw[if_pos F];refine⟨c8.cp (c8.ak (b9.pX ay.keys) X λq a e=>(f.cr q a).2.2.1 e.2.2) λq _ a=>(f.cr q a).1,c8.cp (b9.pX aS) λq _ a=>?_,eS.cp (eS.ak (dh.yl ay.kids) X λq a e=>(f.bv q e.2.2).2.2 a) λq _ a=>(f.bX q a).1⟩;rcases a with a|a
   .exact(f.bv q a).1
   .omega
  have bs:(lh n key val).leaf=n.leaf:=by unfold lh;rw[if_pos F]
  refine⟨_,bm,l,aP,g,aU,aL,bq,lg n.leaf l g aL ((aO.ext R).ak X (λe=>by have:=e.1;omega)) rfl (Q:=λb K V D af=>AI (lh n key val) w (.tuple #[.agg #[b,K,V,D],true]) af) λj r=>⟨l,g,aL,by unfold gl;rw[bs],?_,?_⟩⟩
  .exact(br.ak r λq a e=>J).cp λq _ a=>by omega
  .exact Ext.bO (Ext.eH (an.trans R) X λk c=>J) r J
 .
  have z:=bC m;have G:=ao.trans z;have aY:jm lo m.drew dk n l g aL cH cw cu:=by
   have H:=f.ext G;refine⟨O.ext G,H.keys,H.vals,H.kids,λq a=>?_,λq a=>?_,λq a=>?_,J⟩
   .have h1:=H.cr q a;have:=(p.cr q a).2.1;exact⟨h1.1,h1.2.1,J,h1.2.2⟩
   .have h1:=H.bv q a;have:=(p.bv q a).2.1;exact⟨h1.1,h1.2.1,J,h1.2.2⟩
   .have h1:=H.bX q a;have:=(p.bX q a).2;exact⟨h1.1,h1.2,J⟩
  obtain⟨d0,d1,d2,d3⟩:=dv aY.v;refine aQ ⟨λ_=>False,id,l,d1,(m6 (B:=λq=>m.heap.size<=q) (c.ext (aw.trans z)) J (λq a=>a)).use ?_⟩;rintro _ aF ⟨t,rfl,ht,s,bg⟩;have bh:m.heap.size<=aF.heap.size:=(z.trans s).size;have aB:∀k,aD l k->cH k:=λk c=>by obtain⟨ts,_,_,T,_⟩:=f.keys;exact(T k c).1
  have u:∀k,aD g k->cw k:=λk c=>by obtain⟨ts,_,_,T,_⟩:=f.vals;exact(T k c).1
  have d:=aY.ext s;refine⟨t,rfl,s,aQ ⟨cM _ _,(Ec (B:=Grow cH m aF) (i:=hW n.keys key) (b9.cp d.keys λk _ h=>.inl h) (cE.cp ht λk c h=>.inr ⟨h,c⟩) (λk U W=>by
   have:=(ht.2.2 k U).1;have:=(f.cr k (aB k W)).2.1;omega) J bf).use ?_⟩⟩
  rintro _ o ⟨S,rfl,bt,aZ⟩;have b2:=aZ.size;have Y:ad (λq=>lo<=q/\cH q) aF o:=aZ.mono λk _ c=>⟨(f.cr k (aB k c)).1,aB k c⟩;have ap:=d.v.ak Y λe=>(d.cr _ e.2).2.2.1 rfl;obtain⟨s1,s2⟩:=ef ap (i:=1) (by simp);refine⟨S,rfl,?_⟩;rw[av,av];refine⟨s1,s2,aQ (aQ ?_)⟩;obtain⟨j,aE⟩:∃j,j=(o.setCell ⟨dk,0+1,none⟩ S).drew:=⟨_,rfl⟩;rw[←aE];have r:ad (λq=>q=dk) o j:=by rw[aE];exact ad.drew (dD _ _ _ _)
  have a0:Var j dk [n.leaf,S,g,aL] 404:=by rw[aE];exact(er ap _).drew
  have b4:=r.size;have b5:dk<m.heap.size:=by have:=O.lt;omega
  have bu:b9 (λq=>cH q\/(m.heap.size<=q/\q<o.heap.size)) j S (n.keys.take (hW n.keys key)++ [key]++n.keys.drop (hW n.keys key)):=by
   refine b9.ak (b9.cp bt λk _ c=>?_) r λk c e=>?_
   .rcases c with (c|c)|c
    .exact .inl c
    .exact .inr ⟨c.1,J⟩
    .exact .inr ⟨J,c.2⟩
   .subst e
    rcases c with c|c
    .exact(d.cr _ c).2.2.1 rfl
    .omega
  have bw:b9 cw j g n.vals:=b9.ak (b9.ak d.vals Y λq a e=>(d.cr q e.2).2.2.2.1 a) r λq a e=>(d.bv q a).2.2.1 e;have bx:dh cu j aL n.kids:=dh.ak (dh.ak d.kids Y λq a e=>(d.cr q e.2).2.2.2.2 a) r λq a e=>(d.bX q a).2.2 e;have a1:Ext w j:=Ext.eH (Ext.eH ((aw.trans z).trans s) Y λk c=>J) r λk c=>by omega
  obtain⟨f0,f1,f2,f3⟩:=dv a0;rw[av]at f2;refine⟨λ_=>False,id,g,f2,(m6 (B:=λq=>j.heap.size<=q) (E.ext a1) J (λq a=>a)).use ?_⟩;rintro _ a2 ⟨t2,rfl,a3,x,b6⟩;have b7:=x.size;refine⟨t2,rfl,x,aQ ⟨cM _ _,(Ec (B:=Grow cw j a2) (i:=hW n.keys key) (b9.cp (b9.ext bw x) λk _ h=>.inl h) (cE.cp a3 λk c h=>.inr ⟨h,c⟩) (λk U W=>by
   have:=(a3.2.2 k U).1;have:=(f.bv k (u k W)).2.1;omega) J J).use ?_⟩⟩
  rintro _ aR ⟨dm,rfl,bA,a4⟩;have b8:=a4.size;have ab:ad (λq=>lo<=q/\cw q) a2 aR:=a4.mono λk _ c=>⟨(f.bv k (u k c)).1,u k c⟩;have a5:=(a0.ext x).ak ab λe=>(d.bv _ e.2).2.2.1 rfl;obtain⟨s1,s2⟩:=ef a5 (i:=2) (by simp);refine⟨dm,rfl,?_⟩;rw[av,av];refine⟨s1,s2,aQ ?_⟩;obtain⟨C,aG⟩:∃C,C=aR.setCell ⟨dk,0+2,none⟩ dm:=⟨_,rfl⟩;rw[←aG];have L:ad (λq=>q=dk) aR C:=by rw[aG];exact dD _ _ _ _
  have bD:Var C dk [n.leaf,S,dm,aL] 404:=by rw[aG];exact er a5 _
  have b_:=L.size;obtain⟨iV,aJ,aW,a6⟩:=dv bD;rw[av]at aJ aW a6;have bF:dB (λq=>lo<=q) C (lh n key val) S dm aL:=by
   unfold lh;rw[if_neg (by rw[F];simp)];refine⟨?_,?_,?_⟩
   .refine c8.cp (b9.pX (b9.ak (b9.ak (b9.ext bu x) ab λq a e=>?_) L λq a e=>?_)) λq _ a=>?_
    .rcases a with a|a
     .exact(d.cr q a).2.2.2.1 e.2
     .have:=(f.bv q e.2).2.1;omega
    .subst e
     rcases a with a|a
     .exact(d.cr _ a).2.2.1 rfl
     .omega
    .rcases a with a|a
     .exact(d.cr q a).1
     .omega
   .refine c8.cp (b9.pX (b9.ak bA L λq a e=>?_)) λq _ a=>?_
    .subst e
     rcases a with (a|a)|a
     .exact(d.bv _ a).2.2.1 rfl
     .omega
     .omega
    .rcases a with (a|a)|a
     .exact(d.bv q a).1
     .omega
     .omega
   .exact eS.cp (dh.yl (dh.ak (dh.ak (dh.ext bx x) ab λq a e=>(d.bv q e.2).2.2.2 a) L λq a e=>(d.bX q a).2.2 e)) λq _ a=>(d.bX q a).1
  have bG:(lh n key val).leaf=n.leaf:=by unfold lh;rw[if_neg (by rw[F];simp)]
  have bH:Ext w C:=Ext.eH (Ext.eH (a1.trans x) ab λk c=>J) L λk c=>by omega
  have bI:Var C w1.heap.size [false,(),(),()] 404:=by
   have h1:=aO.ext (G.trans s);have h2:=(h1.ak Y (λe=>by have:=e.1;omega)).ak r J;exact((h2.ext x).ak ab (λe=>by have:=e.1;omega)).ak L J
  rw[av,av];refine⟨_,iV,S,aJ,dm,aW,aL,a6,?_⟩;have:=lg n.leaf S dm aL bI rfl (Q:=λb K V D af=>AI (lh n key val) w (.tuple #[.agg #[b,K,V,D],true]) af) λca a7=>⟨S,dm,aL,by unfold gl;rw[bG],(bF.ak a7 λq a e=>J).cp λq _ a=>J,Ext.bO bH a7 J⟩;simpa only[av] using this
section
variable {α:Type}{c:α->Y O}{sz:Nat}
def a7(c:α->Y O)(l:Y α):Y O:=(l.map c).flatten
theorem yo(l m:Y α):a7 c (l++m)=a7 c l++a7 c m:=by simp[a7]
theorem uw(x:α)(l:Y α):a7 c (x::l)=c x++a7 c l:=rfl
theorem mn:∀ (l:Y α),(∀x∈l,(c x).length=sz)->(a7 c l).length=l.length*sz
 | [],_=>by simp[a7]
 |x::l,h=>by
  rw[uw,ej,h x (by simp),mn l λy a=>h y (by simp[a]),iz,j0];omega
theorem JP{l:Y α}{i:Nat}(h:i<l.length):l=l.take i++l[i]::l.drop (i+1):=by rw[←l1 h,kY]
theorem AJ{l:Y α}(hc:∀x∈l,(c x).length=sz){i:Nat}(h:i<l.length):(a7 c l).take (i*sz)=a7 c (l.take i)/\(a7 c l).drop (i*sz)=c l[i]++a7 c (l.drop (i+1)):=by
 have a:(a7 c (l.take i)).length=i*sz:=by
  rw[mn _ λx hx=>hc x (List.mem_of_mem_take hx),fg,jy J]
 have e:a7 c l=a7 c (l.take i)++(c l[i]++a7 c (l.drop (i+1))):=by
  conv=>lhs;rw[JP h]
  rw[yo,uw]
 rw[e];exact⟨si a,drop_left' a⟩
theorem Ed{l:Y α}(hc:∀x∈l,(c x).length=sz){i:Nat}(h:i<l.length):((a7 c l).drop (i*sz)).take sz=c l[i]:=by
 rw[(AJ hc h).2];exact si (hc _ (cO h))
theorem Ee{l:Y α}(hc:∀x∈l,(c x).length=sz){i j:Nat}(h:i<l.length)(a:j<sz):(a7 c l)[i*sz+j]? =(c l[i])[j]? :=by
 rw[←Ed hc h,List.getElem?_take_of_lt a,u3]
theorem Ef{l:Y α}(hc:∀x∈l,(c x).length=sz){i:Nat}(h:i<l.length)(x:α):(a7 c l).take (i*sz)++c x++(a7 c l).drop (i*sz+sz)=a7 c (l.set i x):=by
 have h1:=AJ hc h;have h2:(a7 c l).drop (i*sz+sz)=a7 c (l.drop (i+1)):=by
  rw[←oW,h1.2];exact drop_left' (hc _ (cO h))
 rw[h1.1,h2,List.set_eq_take_append_cons_drop,if_pos h,yo,uw,gE]
theorem JQ{l:Y α}(hc:∀x∈l,(c x).length=sz){i j:Nat}(h:i<l.length)(a:j<sz){x:α}{v:O}(hx:c x=(c l[i]).set j v):(a7 c l).set (i*sz+j) v=a7 c (l.set i x):=by
 have b:(c l[i]).length=sz:=hc _ (cO h);have h1:=AJ hc h;have e:a7 c l=a7 c (l.take i)++(c l[i]++a7 c (l.drop (i+1))):=by
  conv=>lhs;rw[←kY (i*sz) (a7 c l),h1.1,h1.2]
 have d:(a7 c (l.take i)).length=i*sz:=by
  rw[mn _ λx hx=>hc x (List.mem_of_mem_take hx),fg,jy J]
 rw[e,List.set_append_right _ _ J,show i*sz+j-(a7 c (l.take i)).length=j from J,List.set_append_left _ _ J,←hx,List.set_eq_take_append_cons_drop,if_pos h,yo,uw]
end
section
variable {α:Type} [DecidableEq α] {P:Program}{w:I}{gi eV T:TypeId}{enc:α->O}{r:Nat}{M:Y (α×O)}{k:α}{v:O}
theorem JR(e:iP P gi enc)(i:P.underlying T=some (.map gi eV))(h:cQ w r enc M)(hm:∀v,(k,v)∉M)(v:O):
 ∃w1:I,(Instr.mapUpdate T (.map (some r)) (enc k) v).run P w=.ok () w1/\ad (λq=>q=r) w w1/\w1.heap.size=w.heap.size/\cQ w1 r enc ((k,v)::M):=by
 have aI:=h.lt;obtain⟨L,c,h,h1,h2,j,f⟩:=h;have g:=zQ h1 hm;have hf:=e.find L k w;rw[vF g]at hf;refine⟨ic w r (.map ((L.map (cP enc)).toArray.push ⟨enc k,v,c⟩) (c+1)),?_,ph _ _ _,qT _ _ _,L++ [(k,v,c)],c+1,?_,?_,?_,?_,?_⟩
 .simp only[Instr.mapUpdate,Sem.run_bind,cY i,Result.andThen,ld h,Sem.run_pure,e.check,hf,tx h]
 .rw[qU aI]
  simp[cP]
 .rw[e5]
  have:([(k,v,c)]:Y (α×O×Nat)).map l8=[(k,v)]:=rfl;rw[this];exact(List.perm_append_comm).trans (List.Perm.cons _ h1)
 .rw[e5,mH]
  refine⟨h2,by simp,λa d b hb=>?_⟩;obtain⟨x,hx,rfl⟩:=dj.1 d;simp only[gD,List.map_nil,dH]at hb;subst hb;exact g x hx
 .rw[e5,mH]
  refine⟨j,by simp,λa d b hb=>?_⟩;obtain⟨x,hx,rfl⟩:=dj.1 d;simp only[gD,List.map_nil,dH]at hb;subst hb;have:=f x hx;omega
 .intro x hx
  rcases ed.1 hx with hx|hx
  .have:=f x hx;omega
  .rw[dH.1 hx];show c<c+1;omega
theorem JS(c:iP P gi enc)(g:P.underlying T=some (.map gi eV))(h:cQ w r enc ((k,v)::M))(b:O):
 ∃w1:I,(Instr.mapUpdate T (.map (some r)) (enc k) b).run P w=.ok () w1/\ad (λq=>q=r) w w1/\w1.heap.size=w.heap.size/\cQ w1 r enc ((k,b)::M):=by
 have aI:=h.lt;obtain⟨n,cz,da,a,f,h,h1,h2,i,d,_⟩:=h.split;have hf:=c.find (cz++(k,v,a)::da) k w;rw[zP (CP h2),cg]at hf;have hg:((cz++(k,v,a)::da).map (cP enc)).toArray[cz.length]? =some ⟨enc k,v,a⟩:=by simp[cP]
 have j:((cz++(k,v,a)::da).map (cP enc)).toArray.modify cz.length (λe=>{e with key:=enc k,val:=b})=((cz++(k,b,a)::da).map (cP enc)).toArray:=by
  apply sR.1;rw[Array.toList_modify,e5,gD];have:=zO (λe=>{e with key:=enc k,val:=b}) (cP enc (k,v,a)) (da.map (cP enc)) (cz.map (cP enc));rw[dn]at this;rw[this];simp[cP]
 refine⟨ic w r (.map ((cz++(k,b,a)::da).map (cP enc)).toArray f),?_,ph _ _ _,qT _ _ _,cz++(k,b,a)::da,f,qU aI _,?_,?_,?_,?_⟩
 .simp only[Instr.mapUpdate,Sem.run_bind,cY g,Result.andThen,ld h,Sem.run_pure,c.check,hf,hg,l2,sQ,Instr.keyThatStays,c.bits,if_true,tx h,j]
 .rw[e5,gD]
  rw[e5]at h1;exact qt.trans (h1.cons _)
 .simpa using h2
 .simpa using i
 .intro x hx
  rcases ed.1 hx with hx|hx
  .exact d x (by simp[hx])
  .rcases cW.1 hx with rfl|hx
   .exact d (k,v,a) (by simp)
   .exact d x (by simp[hx])
end
abbrev cL:=Y UInt8
structure hE where
 i:Nat
 s:ag
 gx:Y cL
structure ba where
 d:Nat
 lb:Nat
 mr:Nat
 b_:Y Int
 bq:Y cL
 waits:Y hE
 writes:Int
 bu:Nat
 b6:Nat->ai
 eN:Nat->Y cL
 r1:ai
def hE.e(x:hE):Int×O:=((x.i:Int),x.s)
def ba.c(D:ba):Y O:=D.b_.map (.int .i64)++ [.slice (some ⟨D.lb,0,none⟩) D.bq.length D.bq.length,.map (some D.mr),.int .i64 D.writes]
def ba.n(D:ba):Nat:=D.bq.length
abbrev encZ:Int->O:=λn=>n
theorem p2:iP ah 3 encZ:=iP.int (by kernel_rfl)
theorem mo:Tryz.prog.underlying 98=some (.map 3 97):=by kernel_rfl
theorem Eg:(Tryz.prog.info? 97).bind (·.zero)=some (.slice none 0 0):=by kernel_rfl
theorem AK{P:Program}{T:TypeId}{z:O}(h:(P.info? T).bind (·.zero)=some z):∃i,P.info? T=some i/\i.zero=some z:=by
 cases hi:P.info? T with
 |none=>rw[hi]at h;cases h
 |some i=>rw[hi]at h;exact⟨i,rfl,h⟩
def bI(D:ba)(q:Nat):Prop:=q=D.d\/q=D.lb\/q=D.mr\/∃x∈D.waits,aD x.s q
structure cv(w:I)(D:ba):Prop where
 v:Var w D.d D.c 102
 l:aZ w D.lb (a7 ax D.bq).toArray 159
 m:cQ w D.mr encZ (D.waits.map hE.e)
 ws:∀x∈D.waits,aS 256 159 w x.s (a7 ax x.gx)
 wn:∀x∈D.waits,x.gx≠ []/\x.i<D.n/\x.gx.length<=D.bu
 sl:∀s∈D.bq,s.length=256
 bT:∀x∈D.waits,∀s∈x.gx,s.length=256
 dN:16<=D.n
 bF:D.n<=1600
 f4:D.b_.length=4
 fr:∀x∈D.b_, -1<=x/\x<=9223372036854775807
 a1:D.d≠D.lb/\D.d≠D.mr/\D.lb≠D.mr
 a2:∀x∈D.waits,¬aD x.s D.d/\¬aD x.s D.lb/\¬aD x.s D.mr
 a3:∀x∈D.waits,∀y∈D.waits,x.i≠y.i->∀q,aD x.s q->¬aD y.s q
 r:D.r1=true->D.b_.getD 1 0= -1
theorem JT{b_:Y Int}{k:Nat}{x:Int}(a:b_.length=4)(h:b_.getD 1 0= -1)(hx:k=1->x= -1):(b_.set k x).getD 1 0= -1:=by
 rw[gO]at h⊢;by_cases e:k=1
 .subst e
  rw[List.getElem?_set_self J,hx rfl];rfl
 .rw[List.getElem?_set_ne e];exact h
section
variable {w w':I}{D:ba}
theorem cv.ak{W:Nat->Prop}(h:cv w D)(hc:ad W w w')(a:∀q,bI D q->¬W q):cv w' D:=
 ⟨h.v.ak hc (a _ (.inl rfl)),aZ.ak h.l hc (a _ (.inr (.inl rfl))),h.m.ak hc (a _ (.inr (.inr (.inl rfl)))),λx hx=>(h.ws x hx).ak hc λq b=>a q (.inr (.inr (.inr ⟨x,hx,b⟩))),h.wn,h.sl,h.bT,h.dN,h.bF,h.f4,h.fr,h.a1,h.a2,h.a3,h.r⟩
theorem cv.ext(h:cv w D)(hc:Ext w w'):cv w' D:=h.ak hc λ_ _ h=>h
theorem cv.lt(h:cv w D){q:Nat}(a:bI D q):q<w.heap.size:=by
 rcases a with rfl|rfl|rfl|⟨x,hx,a⟩
 .exact h.v.lt
 .exact aZ.lt h.l
 .exact h.m.lt
 .exact(h.ws x hx).lt q a
theorem cv.JU(h:cv w D){k:Nat}(a:k<4):w.cell? ⟨D.d,k,none⟩=some (.int .i64 (D.b_.getD k 0)):=by
 rw[h.v.cell];unfold ba.c;have:=h.f4;rw[List.getElem?_append_left (by rw[dn];omega),nE,fQ J,fE J];rfl
theorem cv.fB(h:cv w D):w.cell? (Addr.add ⟨D.d,0,none⟩ 4)=some (.slice (some ⟨D.lb,0,none⟩) D.bq.length D.bq.length):=by
 rw[av,h.v.cell];unfold ba.c;have:=h.f4;rw[sW (by rw[dn];omega),dn,this];rfl
theorem cv.hU(h:cv w D):w.cell? (Addr.add ⟨D.d,0,none⟩ 5)=some (.map (some D.mr)):=by
 rw[av,h.v.cell];unfold ba.c;have:=h.f4;rw[sW (by rw[dn];omega),dn,this];rfl
theorem cv.yp(h:cv w D):D.c.length=7:=by
 unfold ba.c;have:=h.f4;simp;omega
def ba.now(D:ba)(i:Nat):cL:=match D.waits.find? λx=>x.i==i with
 |some x=>x.gx.getLastD []
 |none=>D.bq.getD i []
theorem JV{α:Type}{l:Y α}{d:α}(h:l≠ []):l.getLastD d∈l:=by
 cases l with
 |nil=>exact absurd rfl h
 |cons a l=>
  rw[List.getLastD_cons];rw[←List.getLast_eq_getLastD];exact List.getLast_mem h
theorem cv.p3(h:cv w D){i:Nat}(hi:i<D.n):(D.now i).length=256:=by
 unfold ba.now
 cases hf:D.waits.find? λx=>x.i==i with
 |some x=>
  have hx:=j1 hf;exact h.bT x hx _ (JV (h.wn x hx).1)
 |none=>
  have a:i<D.bq.length:=hi;rw[show(match (none:al hE) with|some x=>x.gx.getLastD []|none=>D.bq.getD i [])=D.bq.getD i [] from rfl,fE a];exact h.sl _ (cO _)
theorem sn(h:cv w D):az ah 39 #[.pointer (some D.d)] w (λv w'=>v=D.n/\w=w'):=by
 refine okF (Z.wH (some D.d)) aj.wH func39 ?_;(delta Z.wH ae aw a_;dsimp only);exact⟨λh=>(by cases h),λ_=>⟨_,rfl,⟨some D.lb,D.bq.length,D.bq.length⟩,h.fB,rfl,rfl⟩⟩
theorem Eh(h:cv w D)(i:Int):az ah 67 #[.pointer (some D.d),i] w (λv w'=>v=.bool (decide (0<=i/\i<D.n))/\w=w'):=by
 refine okF (Z.wO (some D.d) i) aj.wO func67 ?_;(delta Z.wO ae aw a_;dsimp only);refine bK (λb w'=>b=decide (0<=i/\i<D.n)/\w=w') (λq a=>⟨λhb=>⟨_,rfl,⟨some D.lb,D.bq.length,D.bq.length⟩,h.fB,a _ _ ⟨?_,rfl⟩⟩,λhb=>a _ _ ⟨?_,rfl⟩⟩) ?_
 .have hb:0<=i:=by simpa using hb
  rw[eX,cT,cT];exact⟨λh=>⟨hb,h⟩,λh=>h.2⟩
 .have hb:¬0<=i:=by simpa using hb
  rw[gr (λh=>hb h.1)]
 .rintro _ _ ⟨rfl,rfl⟩
  exact⟨rfl,rfl⟩
end
def gK(f:Int):ai×Int:=if f= -1 then (false, -1) else if f=0 then (true, -1) else (false,f-1)
theorem JW{f:Int}(h: -1<=f/\f<=9223372036854775807): -1<=(gK f).2/\(gK f).2<=9223372036854775807:=by
 unfold gK;split
 .exact⟨by decide,by decide⟩
 .split
  .exact⟨by decide,by decide⟩
  .show -1<=f-1/\f-1<=_;omega
def ba.cF(D:ba)(k:Nat):ba:={D with b_:=D.b_.set k (gK (D.b_.getD k 0)).2}
def ba.fU(D:ba)(k:Nat):ai:=(gK (D.b_.getD k 0)).1
theorem AL{w:I}{D:ba}(h:cv w D){k:Nat}(n:k<4):
 az ah 98 #[.pointer (some ⟨D.d,0,none⟩),.int .i64 ((k:Nat):Int)] w (λv w'=>v=.bool (D.fU k)/\cv w' (D.cF k)/\ad (λq=>q=D.d) w w'/\w'.heap.size=w.heap.size):=by
 have hf:=h.JU n;have b:=h.f4;have o: -1<=D.b_.getD k 0/\D.b_.getD k 0<=9223372036854775807:=by rw[fE J];exact h.fr _ (cO _)
 have f:∀ (w1:I),cv w1 D->cv (w1.setCell ⟨D.d,k,none⟩ (.int .i64 (gK (D.b_.getD k 0)).2)) (D.cF k):=by
  intro w1 h1;have hc:=dD w1 D.d k (.int .i64 (gK (D.b_.getD k 0)).2);have g:=er h1.v (i:=k) (.int .i64 (gK (D.b_.getD k 0)).2);have e:D.c.set k (.int .i64 (gK (D.b_.getD k 0)).2)=(D.cF k).c:=by
   unfold ba.c ba.cF;rw[List.set_append_left _ _ (by rw[dn];omega),←List.map_set]
  rw[e]at g;refine⟨g,aZ.ak h1.l hc (λe=>h.a1.1 e.symm),h1.m.ak hc (λe=>h.a1.2.1 e.symm),λx hx=>(h1.ws x hx).ak hc λq p e=>(h.a2 x hx).1 (by subst e;exact p),h.wn,h.sl,h.bT,h.dN,h.bF,by show(D.b_.set k _).length=4;rw[c1];exact b,λx hx=>?_,h.a1,h.a2,h.a3,λj=>JT b (h.r j) λe=>by subst e;rw[h.r j];rfl⟩;rcases nH hx with hx|rfl
  .exact h.fr x hx
  .exact JW o
 have a:Addr.add ⟨D.d,0,none⟩ (Int.toNat ((k:Nat):Int)*1)=⟨D.d,k,none⟩:=by rw[dW,fR,av,cg]
 refine okF (Z.wY (some ⟨D.d,0,none⟩) ((k:Nat):Int)) aj.wY func98 ?_;(delta Z.wY aw r1 ae st an;dsimp only);refine⟨_,rfl,⟨J,by show(k:Int)<4;omega⟩,D.b_.getD k 0,by rw[a];exact hf,λh1=>?_,λh1=>⟨λh2=>⟨_,rfl,⟨J,by show(k:Int)<4;omega⟩,?_⟩,λh2=>aQ ⟨_,rfl,⟨J,by show(k:Int)<4;omega⟩,id,_,by rw[a];exact hf,_,rfl,⟨J,by show(k:Int)<4;omega⟩,?_⟩⟩⟩
 .have h1:D.b_.getD k 0= -1:=by simpa using h1
  have aP:D.fU k=false:=by unfold ba.fU gK;rw[if_pos h1]
  have aU:D.cF k=D:=by
   unfold ba.cF gK;rw[if_pos h1];have:D.b_.set k (-1)=D.b_:=by
    rw[←h1,fE J];exact List.set_getElem_self _
   rw[this]
  rw[aP,aU];exact⟨rfl,h,.refl _ _,rfl⟩
 .have h1:D.b_.getD k 0≠ -1:=by simpa using h1
  have h2:D.b_.getD k 0=0:=by simpa using h2
  have hs:=ef h.v (i:=k) (by rw[h.yp];omega);have aP:D.fU k=true:=by unfold ba.fU gK;rw[if_neg h1,if_pos h2]
  have aU:(gK (D.b_.getD k 0)).2= -1:=by unfold gK;rw[if_neg h1,if_pos h2]
  have:=f w h;rw[aU]at this;rw[a,aP];exact⟨hs.1,hs.2,aQ ⟨rfl,this,dD _ _ _ _,by simp[World.setCell]⟩⟩
 .have h1:D.b_.getD k 0≠ -1:=by simpa using h1
  have h2:D.b_.getD k 0≠0:=by simpa using h2
  have hd:=h.ext (bC w);have hs:=ef hd.v (i:=k) (by rw[h.yp];omega);have aP:D.fU k=false:=by unfold ba.fU gK;rw[if_neg h1,if_neg h2]
  have aU:(gK (D.b_.getD k 0)).2=D.b_.getD k 0-1:=by unfold gK;rw[if_neg h1,if_neg h2]
  have:=f w.drew hd;rw[aU]at this;rw[a,aP,bW J J];exact⟨hs.1,hs.2,aQ ⟨rfl,this,(ad.bA (bC w)).trans (dD _ _ _ _),by simp[World.setCell]⟩⟩
def ba.eu(D:ba)(i:Nat):Y cL:=match D.waits.find? λx=>x.i==i with
 |some x=>x.gx
 |none=> []
theorem yq(D:ba)(h:∀x∈D.waits,x.gx≠ [])(i:Nat):D.now i=if D.eu i=[] then D.bq.getD i [] else (D.eu i).getLastD []:=by
 unfold ba.now ba.eu
 cases hf:D.waits.find? λx=>x.i==i with
 |some x=>
  have hx:=j1 hf;simp only;rw[if_neg (h x hx)]
 |none=>simp
def ba.calm(D:ba)(k:Nat):Prop:=(D.b_.getD 1 0= -1\/(k:Int)<=D.b_.getD 1 0)/\(D.b_.getD 2 0= -1\/(k:Int)<=D.b_.getD 2 0)
def ba.kF(D:ba):Int->Prop:=λn=>(∀j,D.b6 j=true)->D.writes=n
def ba.ro(D:ba):Prop:=∀i,D.b6 i=true
def ba.key(D:ba):(Y cL×(Nat->ai)×(Nat->Y cL)×(Int->Prop)×ai)×Int:=((D.bq,D.b6,D.eN,D.kF,D.r1),D.b_.getD 3 0)
theorem ct{W V:Nat->Prop}{w w' b:I}(h1:ad W w w')(h2:ad V w' b)(h:∀q,q<w.heap.size->V q->W q):ad W w b:=
 ⟨h2.os.trans h1.os,h2.tape.trans h1.tape,h2.output.trans h1.output,dG h1.size h2.size,λk a b4=>(h2.block k (fX a h1.size) λc=>b4 (h k a c)).trans (h1.block k a b4)⟩
theorem j_{D:ba}{k l:Nat}(h:D.calm k)(a:l<=k):D.calm l:=⟨h.1.imp id λh=>J,h.2.imp id λh=>J⟩
theorem ka{D:ba}{k m:Nat}(a:k=1\/k=2)(d:D.b_.length=4)(h:D.calm (m+1)):(D.cF k).calm m/\D.fU k=false:=by
 obtain⟨h1,h2⟩:=h;have b:1<D.b_.length:=by omega
 have c:2<D.b_.length:=by omega
 rcases a with rfl|rfl
 .have aP:(D.cF 1).b_.getD 1 0=(gK (D.b_.getD 1 0)).2:=by
   show(D.b_.set 1 _).getD 1 0=_;rw[fE (by rw[c1];omega),iA]
  have aU:(D.cF 1).b_.getD 2 0=D.b_.getD 2 0:=by
   show(D.b_.set 1 _).getD 2 0=_;rw[fE (by rw[c1];omega),fu J,fE c]
  unfold ba.calm ba.fU;rw[aP,aU];unfold gK;rcases h1 with h1|h1
  .rw[if_pos h1]
   exact⟨⟨.inl rfl,h2.imp id λh=>J⟩,rfl⟩
  .rw[if_neg J,if_neg J]
   exact⟨⟨.inr (by show(m:Int)<=_-1;omega),h2.imp id λh=>J⟩,rfl⟩
 .have aP:(D.cF 2).b_.getD 2 0=(gK (D.b_.getD 2 0)).2:=by
   show(D.b_.set 2 _).getD 2 0=_;rw[fE (by rw[c1];omega),iA]
  have aU:(D.cF 2).b_.getD 1 0=D.b_.getD 1 0:=by
   show(D.b_.set 2 _).getD 1 0=_;rw[fE (by rw[c1];omega),fu J,fE b]
  unfold ba.calm ba.fU;rw[aP,aU];unfold gK;rcases h2 with h2|h2
  .rw[if_pos h2]
   exact⟨⟨h1.imp id λh=>J,.inl rfl⟩,rfl⟩
  .rw[if_neg J,if_neg J]
   exact⟨⟨h1.imp id λh=>J,.inr (by show(m:Int)<=_-1;omega)⟩,rfl⟩
theorem so(D:ba){k:Nat}(a:k=1\/k=2):(D.cF k).key=D.key:=by
 unfold ba.key ba.cF;rcases a with rfl|rfl<;>simp[gO]<;>rfl
theorem p4{sz:Nat}{w:I}{s:ag}{α:Type}{c:α->Y O}{l:Y α}(h:Src sz w s (a7 c l))(hc:∀x∈l,(c x).length=sz)(e:0<sz){i:Nat}(hi:i<l.length):
 s.len=l.length/\∃A,s.a=some A/\aT w (A.add (i*sz)) 0 sz=some (c l[i]):=by
 have b:s.len=l.length:=by
  have:=h.len;rw[mn l hc]at this;exact(Nat.eq_of_mul_eq_mul_right e this).symm
 refine⟨b,?_⟩
 cases d:s.a with
 |none=>
  have:=congrArg List.length (h.nil d);rw[mn l hc,qB]at this;have:l.length*sz≠0:=Nat.mul_ne_zero J J;omega
 |some A=>
  refine⟨A,rfl,?_⟩;have f:i*sz+sz<=s.len*sz:=by
   rw[b,←Nat.succ_mul];exact qs _ hi
  rw[CU (h.rd A d) f,Ed hc hi]
def sq:Y O:=ax (List.replicate 256 0)
def AM(D:ba)(i:Nat)(w:I)(v:O)(w':I):Prop:=v=.agg (ax (D.now i)).toArray/\Ext w w'
theorem Ei{w:I}{D:ba}(h:cv w D){i:Nat}(hi:i<D.n)(P:D.bu<=1000000000):
 az ah 99 #[.pointer (some D.d),i] w (AM D i w):=by
 have Q:=h.bF;have b:=h.p3 hi;refine okF (Z.wZ (some D.d) (i:Int)) aj.wZ func99 ?_;(delta Z.wZ vT aw ae an Ab aa a_ nU bX;dsimp only);refine aV (vs:=sq) (by kernel_rfl) λw1 f t _=>?_;have hd:=h.ext t;refine⟨_,rfl,some D.mr,hd.hU,?_⟩;have u:sq.length=256:=by rw[sq,c7,lC]
 have fin:∀ (K:Y O->I->Prop),(∀aF,Ext w aF->K (ax (D.now i)) aF)->bN w1 w.heap.size (Array.toList (ax (D.now i)).toArray)/\Array.size (ax (D.now i)).toArray=256/\ao (setCells w1 w.heap.size 0 (Array.toList (ax (D.now i)).toArray)) λaF=>∃a:Y O,aT aF w.heap.size 0 256=some a/\K a aF:=by
  intro K C;refine⟨f.cn (by rw[qA,c7,b,u]) (by rw[qA];exact hV _),by simp[c7,b],cU f (us:=ax (D.now i)) (by rw[c7,b,u]) rfl λaF E F _=>⟨_,E.rd (by rw[c7,b]),C aF (Ext.bO t F (bk _))⟩⟩
 cases hf:D.waits.find? λx=>x.i==i with
 |some x=>
  have hx:=j1 hf;have G:x.i=i:=by
   have:=k0 hf;exact eq_of_beq this
  have g:=hd.m.qV p2 mo (k:=(i:Int)) (v:=x.s) (dj.2 ⟨x,hx,by unfold hE.e;rw[G]⟩) false;have H:=(h.wn x hx).1;have hlen:0<x.gx.length:=List.length_pos_iff.2 H;have R:=(h.wn x hx).2.2;obtain⟨y,A,au,j⟩:=p4 (hd.ws x hx).src (λs hs=>by rw[c7];exact h.bT x hx s hs) (by decide) (i:=x.gx.length-1) J;have p:D.now i=x.gx[x.gx.length-1]'J:=by
   unfold ba.now;rw[hf];show x.gx.getLastD []=_;rw[List.getLastD_eq_getLast?,List.getLast?_eq_getElem?,fQ J];rfl
  refine⟨x.s,w1,g,λ_=>⟨A,au,?_⟩,λq=>?_⟩
  .rw[y,bW (n:=(x.gx.length:Int)-1) J J]
   have L:Int.toNat ((x.gx.length:Int)-1)=x.gx.length-1:=by omega
   rw[L];refine⟨⟨J,J⟩,_,j,?_⟩;rw[←p];exact fin (λa aF=>AM D i w (.agg a.toArray) aF) λaF r=>⟨rfl,r⟩
  .have:=cx q
   omega
 |none=>
  obtain⟨S,h1,h2⟩:=AK Eg;have g:=hd.m.nR p2 mo (k:=(i:Int)) h1 h2 (λv f=>by
   obtain⟨x,hx,he⟩:=dj.1 f;have M:=mI.1 hf x hx;unfold hE.e at he;simp only[Prod.mk.injEq]at he;apply M;have:x.i=i:=by omega
   rw[this];simp) false
  have z:i<D.bq.length:=hi;have p:D.now i=D.bq[i]:=by
   unfold ba.now;rw[hf];exact fE z
  have N:Src 256 w1 ⟨some D.lb,D.bq.length,D.bq.length⟩ (a7 ax D.bq):=by
   have B:=mn (c:=ax) (sz:=256) D.bq λs hs=>by rw[c7];exact h.sl s hs
   have:=aZ.pj (sz:=256) (o:=0) (n:=D.bq.length) (cap:=D.bq.length) hd.l (by simp[B]);rw[lz,qA,eY (by rw[B];exact bk _)]at this;exact this
  obtain⟨y,A,au,j⟩:=p4 N (λs hs=>by rw[c7];exact h.sl s hs) (by decide) z;refine⟨⟨none,0,0⟩,w1,g,λq=>by simp at q,λ_=>⟨_,rfl,_,hd.fB,A,au,⟨J,by show(i:Int)<(D.bq.length:Int);omega⟩,_,j,?_⟩⟩;rw[←p];exact fin (λa aF=>AM D i w (.agg a.toArray) aF) λaF r=>⟨rfl,r⟩
def JX(D:ba)(i:Nat)(w:I)(v:O)(w':I):Prop:=
 cv w' (D.cF 1)/\ad (λq=>q=D.d) w w'/\
  ((D.fU 1=true/\v=.tuple #[(),(3:Int)])\/
   (D.fU 1=false/\∃s:ag,v=.tuple #[s,(0:Int)]/\cE (λq=>w.heap.size<=q) w' s (D.now i)))
theorem AN{w:I}{D:ba}(h:cv w D){i:Nat}(hi:i<D.n)(u:D.bu<=1000000000):
 az ah 165 #[.pointer (some D.d),i] w (JX D i w):=by
 refine okF (Z.xc (some D.d) (i:Int)) aj.xc func165 ?_;(delta Z.xc bn ae aw fK vT aa;dsimp only);refine(Eh h _).use ?_;rintro _ _ ⟨rfl,rfl⟩;refine⟨_,rfl,λhb=>?_,λ_=>⟨_,rfl,(AL h (k:=1) (by decide)).use ?_⟩⟩
 .have hb:¬(0<=(i:Int)/\(i:Int)<D.n):=by simpa using hb
  omega
 rintro _ af ⟨rfl,a,g,y⟩;refine⟨_,rfl,λhb=>⟨a,g,.inl ⟨hb,rfl⟩⟩,λhb=>(Ei a (i:=i) hi u).use ?_⟩;rintro _ j ⟨rfl,f⟩;have b:=h.p3 hi;refine⟨_,rfl,aV (vs:=sq) (by kernel_rfl) λaA m p z=>⟨m.cn (by rw[qA,c7];show(D.now i).length=_;rw[b,sq,c7,lC]) (by rw[qA];exact hV _),by rw[va,c7];exact b,cU m (us:=ax (D.now i)) (by rw[c7,b,sq,c7,lC]) rfl λaC r s B=>?_⟩⟩;have C:=f.size;have aI:D.d<af.heap.size:=a.v.lt;refine⟨(a.ext (f.trans p)).ak s (λq t e=>by have:=a.lt t;omega),ct (g.trans (ad.bA (f.trans p))) s λq t e=>J,.inr ⟨hb,⟨some j.heap.size,256,256⟩,rfl,?_,bk _,λk x=>?_⟩⟩
 .have:=r.uk (o:=0) (n:=256) (c:=256) (l:=D.now i) (by rw[c7,b];decide) (by rw[lz,eY (by rw[c7,b];decide)])
  exact this
 .obtain⟨A,au,rfl⟩:=x
  cases au;have:=r.lt;exact⟨by show w.heap.size<=j.heap.size;omega,this⟩
theorem Ej:∀ (l:Y O) (k:Nat) (a:Array O),(l.zipIdx k).foldl (λcs (p:O×Nat)=>cs.setIfInBounds p.2 p.1) a=f_ a k l
 | [],_,_=>rfl
 |v::l,k,a=>by
  rw[List.zipIdx_cons,List.foldl_cons]
  exact Ej l (k+1) (a.setIfInBounds k v)
theorem JY{P:Program}{T e:TypeId}{d:TypeDesc}{i:TypeInfo}{z:O}{sz:Nat}{cs:Array O}(w:I)(h1:P.underlying T=some (.slice e))(h2:P.underlying e=some d)(f:P.cellsOf e=sz)(hi:P.info? e=some i)(g:i.zero=some z)(a:cs.size=sz)(o:sz≠0)(q:sz<=16777216):
 Sem.run P (Instr.buildSlice T 1 #[(0,.agg cs)]) w=.ok (.slice (some w.heap.size) 1 1) (w.alloc (.cells cs e)):=by
 have b:=hM (P:=P) (w:=w) h2;rw[f]at b;have h:Instr.fill (λi=>some (i*sz,sz)) ((Array.range (1*sz)).map λx=>z.cells[x%z.cells.size]!) [(0,.agg cs)]=some cs:=by
  have hc:(Value.agg cs).cells=cs:=rfl;rw[Instr.fill];simp only[hc];rw[if_neg (by simp[a]),Instr.fill];rw[←Array.foldl_toList,Array.toList_zipIdx];have e:(λ(cs:Array O) (x:O×Nat)=>match x with|(c,j)=>cs.setIfInBounds (0*sz+j) c)=λcs (p:O×Nat)=>cs.setIfInBounds p.2 p.1:=by
   funext cs x;obtain⟨c,j⟩:=x;simp
  rw[e,Ej]
  congr 1
  apply sR.1;rw[jC _ _ _ (by simp[a])];simp[a]
 have k:=nI (w:=w) hi;have l:¬(1*sz>2^24):=by
  have:(2:Nat)^24=16777216:=rfl;omega
 have m:¬(1*sz=0):=by omega
 have n:Instr.fill (λi=>some (i*sz,sz)) ((Array.range (1*sz)).map λx=>z.cells[x%z.cells.size]!) (#[(0,Value.agg cs)]:Array (Nat×O)).toList=some cs:=h;simp only[Instr.buildSlice,Sem.run_bind,cY h1,b,Result.andThen,l,m,if_false,zeroValue,k,g,Sem.run_pure,n];simp[newRow,newObj,Sem.run]
theorem Ek(w:I)(l:cL)(a:l.length=256):
 Sem.run ah (Instr.buildSlice 97 1 #[(0,.agg (ax l).toArray)]) w=.ok (.slice (some w.heap.size) 1 1) (w.alloc (.cells (ax l).toArray 159)):=by
 have h:((Tryz.prog.info? 159).bind (·.zero)).isSome=true:=by kernel_rfl
 obtain⟨z,b⟩:=uZ.1 h;obtain⟨i,hi,c⟩:=AK b;exact JY (d:=.array 256 5) (sz:=256) w (by kernel_rfl) (by kernel_rfl) (by kernel_rfl) hi c (by rw[va,c7,a]) (by decide) (by decide)
theorem JZ:ib ah 97 159 256 256:=⟨by kernel_rfl⟩
def ba.put(D:ba)(i:Nat)(s:ag)(l:cL):ba:=
 {D.cF 2 with waits:=⟨i,s,D.eu i++ [l]⟩::D.waits.filter (λx=>x.i !=i),writes:=IntKind.wrap .i64 (D.writes+1),bu:=D.bu+1}
theorem El{D:ba}{i j:Nat}(h:j≠i):(D.waits.filter λx=>x.i !=i).find? (λx=>x.i==j)=D.waits.find? λx=>x.i==j:=by
 rw[List.find?_filter]
 congr 1
 funext x;by_cases e:x.i=j
 .rw[e];simp[h]
 .simp[e]
theorem Em(D:ba)(i:Nat)(s:ag)(l:cL)(j:Nat):(D.put i s l).eu j=if j=i then D.eu i++ [l] else D.eu j:=by
 unfold ba.eu ba.put;by_cases h:j=i
 .subst h
  simp[ba.eu]
 .rw[if_neg h]
  simp only;rw[List.find?_cons_of_neg (by simp;omega),El h]
theorem p5(D:ba)(i:Nat)(s:ag)(l:cL)(j:Nat):(D.put i s l).now j=if j=i then l else D.now j:=by
 unfold ba.now ba.put;by_cases h:j=i
 .subst h
  simp
 .rw[if_neg h]
  simp only;rw[List.find?_cons_of_neg (by simp;omega),El h];rfl
def En(D:ba)(i:Nat)(l:cL)(w:I)(v:O)(w':I):Prop:=
 (D.fU 2=true/\v=.int .i64 3/\cv w' (D.cF 2)/\ad (λq=>q=D.d) w w')\/
 (D.fU 2=false/\v=.int .i64 0/\∃s:ag,cv w' (D.put i s l)/\ad (bI D) w w'/\∀q,aD s q->bI D q\/w.heap.size<=q)
theorem yr{w:I}{D:ba}{b:ag}{l:cL}(h:cv w D){i:Nat}(hi:i<D.n)(be:D.bu<=1000000000)(hb:Src 1 w b (ax l))(G:l.length=256)(hd:∀q,aD b q->¬bI D q):
 az ah 42 #[.pointer (some ⟨D.d,0,none⟩),.int .i64 ((i:Nat):Int),.slice b.a b.len b.cap] w (En D i l w):=by
 have ai:=len8 hb;have bf:=h.bF;refine okF (Z.wJ (some ⟨D.d,0,none⟩) ((i:Nat):Int) b) aj.wJ func42 ?_;(delta Z.wJ bn ae aw bE z2 ap r1 st an;dsimp only);refine(Eh h _).use ?_;rintro _ _ ⟨rfl,rfl⟩;have aN:decide (0<=(i:Int)/\(i:Int)<D.n)=true:=eB ⟨J,J⟩;refine⟨_,rfl,λh1=>?_,λ_=>⟨_,rfl,(AL h (k:=2) (by decide)).use ?_⟩⟩
 .rw[aN,ai,G]at h1
  simp at h1
 rintro _ af ⟨rfl,E,R,bg⟩;refine⟨_,rfl,λS=>.inl ⟨S,rfl,E,R⟩,λS=>aQ ?_⟩;obtain⟨o,hold⟩:∃o:ag,(match D.waits.find? λx=>x.i==i with|some x=>x.s|none=>⟨none,0,0⟩)=o:=⟨_,rfl⟩;have t:=E.ext (bC af);have aO:Src 1 af.drew b (ax l):=(hb.ak R λq f e=>hd q f (.inl e)).ext (bC af)
 have aR:aS 256 159 af.drew o (a7 ax (D.eu i))/\(∀q,aD o q->bI D q/\q≠D.d/\q≠D.lb/\q≠D.mr)/\(∀x∈D.waits,x.i≠i->∀q,aD x.s q->¬aD o q)/\(D.eu i).length<=D.bu/\(∀s∈D.eu i,s.length=256)/\
  ∀w':I,cQ w' D.mr encZ (D.waits.map hE.e)->Sem.run ah (Instr.lookup 98 (.map (some D.mr)) (.int .i64 ((i:Nat):Int)) false) w'=.ok (.slice o.a o.len o.cap) w':=by
  cases hf:D.waits.find? λx=>x.i==i with
  |some x=>
   rw[hf]at hold;have hold:x.s=o:=hold;subst hold;have hx:=j1 hf;have N:x.i=i:=by
    have:=k0 hf;exact eq_of_beq this
   have e:D.eu i=x.gx:=by unfold ba.eu;rw[hf]
   rw[e];refine⟨t.ws x hx,λq f=>⟨.inr (.inr (.inr ⟨x,hx,f⟩)),λe=>(h.a2 x hx).1 (e▸f),λe=>(h.a2 x hx).2.1 (e▸f),λe=>(h.a2 x hx).2.2 (e▸f)⟩,λy p z=>h.a3 y p x hx J,(h.wn x hx).2.2,h.bT x hx,λw' hm=>hm.qV p2 mo (k:=(i:Int)) (v:=.slice x.s.a x.s.len x.s.cap) (dj.2 ⟨x,hx,by unfold hE.e;rw[N]⟩) false⟩
  |none=>
   rw[hf]at hold;have hold:(⟨none,0,0⟩:ag)=o:=hold;subst hold;have e:D.eu i=[]:=by unfold ba.eu;rw[hf]
   rw[e];obtain⟨bh,h1,h2⟩:=AK Eg;refine⟨aS.none _ _ _,λq f=>(fx q f).elim,λx _ _ q _ f=>(fx q f).elim,dd _,λs hs=>(by cases hs),λw' hm=>hm.nR p2 mo (k:=(i:Int)) h1 h2 (λv U=>?_) false⟩;obtain⟨x,hx,he⟩:=dj.1 U;have aV:=mI.1 hf x hx;unfold hE.e at he;simp only[Prod.mk.injEq]at he;apply aV;have:x.i=i:=by omega
   rw[this];simp
 obtain⟨am,B,aq,bi,ay,aB⟩:=aR;obtain⟨A,au,aX⟩:∃A,b.a=some A/\aT af.drew A 0 256=some (ax l):=by
  cases aE:b.a with
  |none=>
   have:=congrArg List.length (hb.nil aE);rw[c7,G]at this
   cases this
  |some A=>
   refine⟨A,rfl,?_⟩;have:=aO.rd A aE;rwa[ai,G]at this
 have aY:¬aD o A.block:=λf=>hd _ ⟨A,au,rfl⟩ (B _ f).1
 have aF:∀aA:I,Ext af.drew aA->∃ (g:ag) (aC:I),Sem.run ah (Builtin.append_ #[97,97] 97 #[.slice o.a o.len o.cap,.slice (some ⟨aA.heap.size,0,none⟩) 1 1]) (aA.alloc (.cells (ax l).toArray 159))=.ok (.slice g.a g.len g.cap) aC/\
  aS 256 159 aC g (a7 ax (D.eu i++ [l]))/\ad (aD o) aA aC/\(∀k,aD g k->aD o k\/aA.heap.size<=k)/\ad (aD o) (aA.alloc (.cells (ax l).toArray 159)) aC:=by
  intro aA a0;have hlen:o.len=(D.eu i).length:=by
   have:=am.1;rw[mn (c:=ax) (sz:=256) _ λs hs=>by rw[c7];exact ay s hs]at this;omega
  have V:=cM aA (.cells (ax l).toArray 159);obtain⟨g,aC,aJ,aW,C,H,K⟩:=JZ.append (c4:=97) (x:=⟨some ⟨aA.heap.size,0,none⟩,1,1⟩) (Src.new (T:=159) aA (ax l) 1 (by rw[c7,G])) (am.ext (a0.trans V)) (hV l) (by rw[hlen];show(2*(_+1)+1000)*256<=_;omega);refine⟨g,aC,aJ,?_,(ad.bA V).trans H,λk a4=>(K k a4).imp id λh=>?_,H⟩
  .rw[yo]
   have:a7 ax [l]=ax l:=by simp[a7]
   rw[this];exact aW
  .have:=V.size;omega
 have aG:∀ (aC:I) (g:ag),cQ aC D.mr encZ (D.waits.map hE.e)->∃j:I,Sem.run ah (Instr.mapUpdate 98 (.map (some D.mr)) (.int .i64 ((i:Nat):Int)) (.slice g.a g.len g.cap)) aC=.ok () j/\ad (λq=>q=D.mr) aC j/\
  cQ j D.mr encZ ((hE.mk i g (D.eu i++ [l])::D.waits.filter λx=>x.i !=i).map hE.e):=by
  intro aC g hm;have W:=hm.keys;rw[gF]at W
  cases hf:D.waits.find? λx=>x.i==i with
  |some x=>
   have hx:=j1 hf;have N:x.i=i:=by
    have:=k0 hf;exact eq_of_beq this
   obtain⟨cz,da,he⟩:=List.append_of_mem hx;have z:∀y∈cz++da,y.i≠i:=by
    intro y p e;rw[he,e5,gD]at W;have h1:=(qt.nodup_iff).1 W;rw[List.nodup_cons]at h1;apply h1.1;rw[←e5];refine dj.2 ⟨y,p,?_⟩;show((y.i:Nat):Int)=((x.i:Nat):Int);omega
   have X:D.waits.filter (λx=>x.i !=i)=cz++da:=by
    rw[he,List.filter_append,List.filter_cons_of_neg (by simp[N])];rw[List.filter_eq_self.2 λy p=>by have:=z y (List.mem_append_left _ p);simpa using this,List.filter_eq_self.2 λy p=>by have:=z y (List.mem_append_right _ p);simpa using this]
   have a5:(D.waits.map hE.e).Perm (((i:Int),.slice x.s.a x.s.len x.s.cap)::(cz++da).map hE.e):=by
    rw[he,e5,gD,e5];have:x.e=((i:Int),.slice x.s.a x.s.len x.s.cap):=by unfold hE.e;rw[N]
    rw[this];exact qt
   obtain⟨j,aJ,aW,_,C⟩:=JS p2 mo (hm.perm a5) (.slice g.a g.len g.cap);refine⟨j,aJ,aW,?_⟩;rw[X];exact C
  |none=>
   have z:∀y∈D.waits,y.i≠i:=λy p e=>by
    have:=mI.1 hf y p;rw[e]at this;simp at this
   have X:D.waits.filter (λx=>x.i !=i)=D.waits:=List.filter_eq_self.2 λy p=>by simpa using z y p
   obtain⟨j,aJ,aW,_,C⟩:=JR p2 mo (k:=(i:Int)) hm (λv U=>by
    obtain⟨x,hx,he⟩:=dj.1 U;unfold hE.e at he;simp only[Prod.mk.injEq]at he;exact z x hx J) (.slice g.a g.len g.cap)
   refine⟨j,aJ,aW,?_⟩;rw[X];exact C
 have fin:∀ (aC j:I) (g:ag),ad (aD o) af.drew aC->aS 256 159 aC g (a7 ax (D.eu i++ [l]))->(∀k,aD g k->aD o k\/af.drew.heap.size<=k)->ad (λq=>q=D.mr) aC j->cQ j D.mr encZ ((hE.mk i g (D.eu i++ [l])::D.waits.filter λx=>x.i !=i).map hE.e)->
  ∃a23:ar,(some ⟨D.d,0,none⟩:al ar)=some a23/\∃n24:Int,j.cell? (a23.add 6)=some (.int .i64 n24)/\∃a25:ar,(some ⟨D.d,0,none⟩:al ar)=some a25/\(∃u:O,j.cell? (a25.add 6)=some u)/\j.frozen? (a25.add 6)=false/\ao (j.setCell (a25.add 6) (.int .i64 (IntKind.wrap .i64 (n24+1)))) λa6=>En D i l w (.int .i64 0) a6:=by
  intro aC j g P a8 Y aH a9;have a_:=t.v.ak P λf=>(B _ f).2.1 rfl;have aa:Var j D.d (D.cF 2).c 102:=a_.ak aH h.a1.2.1;have hlen:(D.cF 2).c.length=7:=E.yp;obtain⟨s1,s2⟩:=ef aa (i:=6) (by rw[hlen];decide);have aI:j.cell? (Addr.add ⟨D.d,0,none⟩ 6)=some (.int .i64 D.writes):=by
   rw[av,cg,aa.cell];unfold ba.c;have:=E.f4;rw[sW (by rw[dn];omega),dn,this];rfl
  rw[av,cg]at aI;refine⟨_,rfl,D.writes,by rw[av,cg];exact aI,_,rfl,by rw[av,cg];exact s1,by rw[av,cg];exact s2,?_⟩;rw[av,cg];have aK:=dD j D.d 6 (.int .i64 (IntKind.wrap .i64 (D.writes+1)));have aL:=er aa (i:=6) (.int .i64 (IntKind.wrap .i64 (D.writes+1)));have bb:(D.cF 2).c.set 6 (.int .i64 (IntKind.wrap .i64 (D.writes+1)))=(D.put i g l).c:=by
   have bc:=E.f4;have aP:(D.put i g l).c=(D.cF 2).b_.map (.int .i64)++ [.slice (some ⟨D.lb,0,none⟩) D.bq.length D.bq.length,.map (some D.mr),.int .i64 (IntKind.wrap .i64 (D.writes+1))]:=rfl;have aU:(D.cF 2).c=(D.cF 2).b_.map (.int .i64)++ [.slice (some ⟨D.lb,0,none⟩) D.bq.length D.bq.length,.map (some D.mr),.int .i64 D.writes]:=rfl;rw[aP,aU,List.set_append_right _ _ (by rw[dn];omega),dn,bc];rfl
  rw[bb]at aL;have Q:ad (λq=>q=D.mr\/q=D.d) aC (j.setCell ⟨D.d,6,none⟩ (.int .i64 (IntKind.wrap .i64 (D.writes+1)))):=(aH.mono λq _ e=>.inl e).trans (aK.mono λq _ e=>.inr e);have L:∀q,aD g q->q≠D.d/\q≠D.lb/\q≠D.mr:=λq f=>by
   have bj:=t.lt (q:=D.d) (.inl rfl);have bk:=t.lt (q:=D.lb) (.inr (.inl rfl));have bl:=t.lt (q:=D.mr) (.inr (.inr (.inl rfl)));rcases Y q f with h1|h1
   .exact(B q h1).2
   .exact⟨J,J,J⟩
  have F:∀x∈D.waits.filter (λx=>x.i !=i),x∈D.waits/\x.i≠i:=λx hx=>by
   obtain⟨h1,h2⟩:=hJ.1 hx;exact⟨h1,by simpa using h2⟩
  refine aQ (.inr ⟨S,rfl,g,⟨aL,?_,?_,?_,?_,h.sl,?_,h.dN,h.bF,E.f4,E.fr,h.a1,?_,?_,E.r⟩,?_,?_⟩)
  .exact aZ.ak (aZ.ak t.l P λf=>(B _ f).2.2.1 rfl) Q (by
    rintro(e|e)
    .exact h.a1.2.2 e
    .exact h.a1.1 e.symm)
  .exact a9.ak aK (λe=>h.a1.2.1 e.symm)
  .intro x hx
   rcases cW.1 hx with rfl|hx
   .exact a8.ak Q λq f=>by
     rintro(e|e)
     .exact(L q f).2.2 e
     .exact(L q f).1 e
   .obtain⟨h1,h2⟩:=F x hx
    refine((t.ws x h1).ak P λq f=>aq x h1 h2 q f).ak Q λq f=>?_;rintro(e|e)
    .exact(h.a2 x h1).2.2 (e▸f)
    .exact(h.a2 x h1).1 (e▸f)
  .intro x hx
   rcases cW.1 hx with rfl|hx
   .refine⟨by simp,hi,?_⟩
    show(D.eu i++ [l]).length<=D.bu+1;rw[ej,u9];omega
   .obtain⟨h1,h2⟩:=F x hx
    have:=h.wn x h1;exact⟨this.1,this.2.1,Nat.le_succ_of_le this.2.2⟩
  .intro x hx
   rcases cW.1 hx with rfl|hx
   .intro s hs
    rcases ed.1 hs with hs|hs
    .exact ay s hs
    .rw[dH.1 hs];exact G
   .exact h.bT x (F x hx).1
  .intro x hx
   rcases cW.1 hx with rfl|hx
   .exact⟨λf=>(L _ f).1 rfl,λf=>(L _ f).2.1 rfl,λf=>(L _ f).2.2 rfl⟩
   .exact h.a2 x (F x hx).1
  .have aM:∀y∈D.waits,y.i≠i->∀q,aD y.s q->¬aD g q:=λy p z q f M=>by
    rcases Y q M with h1|h1
    .exact aq y p z q f h1
    .have:=(t.ws y p).lt q f;omega
   intro x hx y p z q f M;rcases cW.1 hx with rfl|hx
   .rcases cW.1 p with rfl|p
    .exact z rfl
    .exact aM y (F y p).1 (λe=>z e.symm) q M f
   .rcases cW.1 p with rfl|p
    .exact aM x (F x hx).1 z q f M
    .exact h.a3 x (F x hx).1 y (F y p).1 z q f M
  .refine((R.mono λq _ e=>.inl e).trans ((ad.bA (bC af)).trans (P.mono λq _ f=>(B q f).1))).trans (Q.mono λq _ f=>?_)
   rcases f with e|e
   .exact .inr (.inr (.inl e))
   .exact .inl e
  .intro q f
   rcases Y q f with h1|h1
   .exact .inl (B q h1).1
   .have:af.drew.heap.size=af.heap.size:=rfl
    exact .inr J
 refine⟨aD o,_,rfl,λf=>(B _ f).2.1 rfl,some D.mr,t.hU,_,rfl,λf=>(B _ f).2.1 rfl,some D.mr,t.hU,J,A,au,aY,_,aX,⟨?_,?_⟩⟩
 .obtain⟨g,aC,aJ,aW,C,H,K⟩:=aF af.drew (.refl _ _)
  have ab:=t.m.ak C λf=>(B _ f).2.2.2 rfl;obtain⟨j,aP,aU,ac⟩:=aG aC g ab;exact⟨o,_,aB _ t.m,.refl _ _,⟨some ⟨af.drew.heap.size,0,none⟩,1,1⟩,_,Ek _ l G,ad.bA (cM _ _),g,aC,aJ,K,j,aP,fin aC j g C aW H aU ac⟩
 .obtain⟨g,aC,aJ,aW,C,H,K⟩:=aF af.drew (.refl _ _)
  have bd:=t.m.ext (cM af.drew (.cells (ax l).toArray 159));have ab:=t.m.ak C λf=>(B _ f).2.2.2 rfl;obtain⟨j,aP,aU,ac⟩:=aG aC g ab;exact⟨⟨some ⟨af.drew.heap.size,0,none⟩,1,1⟩,_,Ek _ l G,ad.bA (cM _ _),o,_,aB _ bd,.refl _ _,g,aC,aJ,K,j,aP,fin aC j g C aW H aU ac⟩
theorem J0{P:Program}{e:TypeId}{v:O}{sz:Nat}(a:((P.info? e).bind (·.zero)).map (·.cells)=some (List.replicate sz v).toArray)(hc:P.cellsOf e=sz)(hs:0<sz)(n:Nat):gQ P e n=(List.replicate (n*sz) v).toArray:=by
 unfold gQ;rw[hc]
 cases hi:(P.info? e).bind (·.zero) with
 |none=>rw[hi]at a;cases a
 |some z=>
  rw[hi]at a;simp only[l2,Option.some.injEq]at a;simp only[sQ];apply Array.ext
  .simp
  .intro i h1 h2
   have b:n*sz≠0:=by
    intro h;simp[h]at h2
   simp only[b,if_false,a,Array.getElem_map,Array.getElem_range];have aI:i%sz<sz:=gq _ hs;simp[aI]
theorem J1(m n:Nat):a7 ax (List.replicate n (List.replicate m 0))=List.replicate (n*m) (.int .u8 0):=by
 induction n with
 |zero=>simp[a7]
 |succ n a=>
  rw[List.replicate_succ,uw,a,j0,Nat.one_mul,Nat.add_comm];have e:ax (List.replicate m 0)=List.replicate m (Value.int .u8 0):=by simp[ax]
  rw[e,List.replicate_append_replicate]
def gL:cL:=List.replicate 256 0
theorem J2(n:Nat):gQ ah 159 n=(a7 ax (List.replicate n gL)).toArray:=by
 unfold gL;rw[J1];exact J0 (by kernel_rfl) (by kernel_rfl) (by decide) n
def p6(n d lb mr:Nat):ba:=⟨d,lb,mr,[-1, -1, -1, -1],List.replicate n gL,[],0,0,λ_=>false,λ_=> [],true⟩
theorem Eo{w:I}{b:Nat}{vs:Y O}{T:TypeId}(h:Var w b vs T)(g:4<=vs.length):
 az ah 36 #[.pointer (some b)] w (λv w'=>v=.tuple #[]/\Var w' b (List.replicate 4 (.int .i64 (-1))++vs.drop 4) T/\ad (λq=>q=b) w w'/\w'.heap.size=w.heap.size):=by
 refine okF (Z.wG (some b)) aj.wG func36 ?_;(delta Z.wG cR ae aw st an;dsimp only);refine⟨λi w'=>∃j:Nat,i=j/\j<=4/\Var w' b (List.replicate j (.int .i64 (-1))++vs.drop j) T/\ad (λq=>q=b) w w'/\w'.heap.size=w.heap.size,λi _=>((4:Int)-i).toNat,⟨0,rfl,J,h,.refl _ _,rfl⟩,?_⟩;rintro _ w1 ⟨j,rfl,k,c,hc,f⟩;refine⟨λaI=>?_,λd=>?_⟩
 .have aI:j<4:=by have:=b3 aI;omega
  have a:Addr.add b (Int.toNat (j:Int)*1)=⟨b,j,none⟩:=by rw[dW,fR,av,cg]
  obtain⟨s1,s2⟩:=ef c (i:=j) (by simp;omega);rw[bW (n:=(j:Int)+1) J J];refine⟨_,rfl,⟨J,by show(j:Int)<4;omega⟩,by rw[a];exact s1,by rw[a];exact s2,aQ ⟨⟨j+1,J,J,?_,?_,?_⟩,?_⟩⟩
  .have:=er c (i:=j) (.int .i64 (-1))
   rw[a];have e:(List.replicate j (Value.int .i64 (-1))++vs.drop j).set j (.int .i64 (-1))=List.replicate (j+1) (.int .i64 (-1))++vs.drop (j+1):=by
    rw[List.set_append_right _ _ (by simp),lC,Nat.sub_self,l1 (show j<vs.length from J),List.set_cons_zero,List.replicate_succ',gE];rfl
   rwa[e]at this
  .rw[a];exact hc.trans (dD _ _ _ _)
  .rw[a];simpa[World.setCell] using f
  .show((4:Int)-((j:Int)+1)).toNat<((4:Int)-(j:Int)).toNat
   omega
 .have d:j=4:=by have:=cx d;omega
  subst d;exact⟨rfl,c,hc,f⟩
theorem mT{n:Nat}(h1:16<=n)(h2:n<=1600)(w:I):
 az ah 15 #[.int .i64 ((n:Nat):Int)] w (λv w'=>∃d lb mr:Nat,v=.tuple #[.pointer (some ⟨d,0,none⟩),.int .i64 0]/\cv w' (p6 n d lb mr)/\Ext w w'/\∀q,bI (p6 n d lb mr) q->w.heap.size<=q):=by
 refine okF (Z.mT ((n:Nat):Int)) aj.mT func15 ?_;(delta Z.mT ae iR aa xs dg;dsimp only);refine⟨λh=>?_,λ_=>⟨⟨J,J,J,J⟩,?_⟩⟩
 .simp only[jv,cT]at h;omega
 rw[J2,dW];have g:=aZ.new w (a7 ax (List.replicate n gL)).toArray 159;have i:=cM w (.cells (a7 ax (List.replicate n gL)).toArray 159);have j:=mj w (.cells (a7 ax (List.replicate n gL)).toArray 159);obtain⟨w1,k⟩:∃w1,w1=w.alloc (.cells (a7 ax (List.replicate n gL)).toArray 159):=⟨_,rfl⟩;rw[←k]at g i j⊢;obtain⟨aJ,aW⟩:=cQ.make (P:=ah) (enc:=encZ) 98 w1;have a:=cM w1 (.map #[] 0);have l:=mj w1 (.map #[] 0);obtain⟨af,m⟩:∃af,af=w1.alloc (.map #[] 0):=⟨_,rfl⟩;rw[←m]at aJ aW a l;refine aQ ⟨some w1.heap.size,af,aJ,#[.int .i64 0,.int .i64 0,.int .i64 0,.int .i64 0,.slice (some ⟨w.heap.size,0,none⟩) n n,.map (some w1.heap.size),.int .i64 0],by kernel_rfl,aV (vs:=[.int .i64 0,.int .i64 0,.int .i64 0,.int .i64 0,.slice (some ⟨w.heap.size,0,none⟩) n n,.map (some w1.heap.size),.int .i64 0]) rfl λr o b t=>⟨_,rfl,(Eo o (by show 4<=7;decide)).use ?_⟩⟩;rintro _ aA ⟨rfl,p,f,u⟩;refine⟨rfl,af.heap.size,w.heap.size,w1.heap.size,rfl,⟨?_,?_,?_,λx hx=>(by cases hx),λx hx=>(by cases hx),λs hs=>?_,λx hx=>(by cases hx),?_,?_,rfl,λx hx=>?_,?_,λx hx=>(by cases hx),λx hx=>(by cases hx),λ_=>rfl⟩,Ext.bO (i.trans (a.trans b)) f J,?_⟩
 .have e:(p6 n af.heap.size w.heap.size w1.heap.size).c=List.replicate 4 (.int .i64 (-1))++ [Value.int .i64 0,.int .i64 0,.int .i64 0,.int .i64 0,.slice (some ⟨w.heap.size,0,none⟩) n n,.map (some w1.heap.size),.int .i64 0].drop 4:=by
   unfold ba.c p6;simp
  rw[e];exact p
 .exact aZ.ak ((g.ext a).ext b) f (by show¬w.heap.size=af.heap.size;omega)
 .exact(aW.ext b).ak f J
 .rw[u_ hs,gL,lC]
 .show 16<=(List.replicate n gL).length;simpa using h1
 .show(List.replicate n gL).length<=1600;simpa using h2
 .have:x= -1:=by
   simp[p6]at hx;exact hx
  subst this;exact⟨by decide,by decide⟩
 .exact⟨by show af.heap.size≠w.heap.size;omega,by show af.heap.size≠w1.heap.size;omega,by show w.heap.size≠w1.heap.size;omega⟩
 .rintro q (rfl|rfl|rfl|⟨x,hx,_⟩)
  .show w.heap.size<=af.heap.size;omega
  .exact bk _
  .show w.heap.size<=w1.heap.size;omega
  .cases hx
structure cN where
 root:Nat
 bg:Nat
 map:Nat
 clock:Nat
 di:Nat
 keys:Nat
 deriving DecidableEq
def gy:cN:=⟨0,0,0,0,0,0⟩
def cN.c(u:cN):Y O:=[u.root,u.bg,u.map,.int .u64 (u.clock:Nat),.int .u64 (u.di:Nat),u.keys]
structure ox(u:cN):Prop where
 root:u.root<4294967296
 bg:u.bg<256
 map:u.map<4294967296
 clock:u.clock<18446744073709551616
 di:u.di<18446744073709551616
 keys:u.keys<4294967296
def hF(u:cN)(n:Nat):Y UInt8:=[]++bJ u.root 4++bJ u.bg 1++bJ u.map 4++bJ n 4++bJ u.clock 8++bJ u.di 8++bJ u.keys 4
def p7(b:Y UInt8):cN:=⟨c2 b 0 4,c2 b 4 1,c2 b 5 4,c2 b 13 8,c2 b 21 8,c2 b 29 4⟩
def kG(u:cN)(n:Nat):Prop:=(u.root=0↔u.bg=0)/\u.bg<=12/\u.root<n/\u.map<n/\2<=u.map/\n<=1600
instance Ot(u:cN)(n:Nat):Decidable (kG u n):=by unfold kG;infer_instance
def g4(no:Int)(l:Y UInt8):Except Int (cN×Nat×Nat):=match dA no l with
 | .error e=>.error e
 | .ok p=>if p.kind≠3\/p.body.length≠33 then .error 4 else if kG (p7 p.body) (c2 p.body 9 4) then .ok (p7 p.body,c2 p.body 9 4,p.gen) else .error 4
theorem Ep(u:cN)(n:Nat):(hF u n).length=33:=by simp[hF,ec]
theorem J3{u:cN}{n:Nat}(h:ox u)(c:n<4294967296):p7 (hF u n)=u/\c2 (hF u n) 9 4=n:=by
 have e:∀ {k x m:Nat} (a b:Y UInt8),hF u n=a++(bJ x k++b)->a.length=m->x<256^k->c2 (hF u n) m k=x:=λa b he d hx=>by rw[he];exact ur d hx
 have f:=h.keys;refine⟨?_,e (bJ u.root 4++bJ u.bg 1++bJ u.map 4) (bJ u.clock 8++(bJ u.di 8++bJ u.keys 4)) (by simp[hF]) (by simp[ec]) c⟩;unfold p7;rw[e (m:=0) [] (bJ u.bg 1++(bJ u.map 4++(bJ n 4++(bJ u.clock 8++(bJ u.di 8++bJ u.keys 4))))) (by simp[hF]) rfl h.root,
  e (bJ u.root 4) (bJ u.map 4++(bJ n 4++(bJ u.clock 8++(bJ u.di 8++bJ u.keys 4)))) (by simp[hF]) (by simp[ec]) h.bg,
  e (bJ u.root 4++bJ u.bg 1) (bJ n 4++(bJ u.clock 8++(bJ u.di 8++bJ u.keys 4))) (by simp[hF]) (by simp[ec]) h.map,
  e (bJ u.root 4++bJ u.bg 1++bJ u.map 4++bJ n 4) (bJ u.di 8++bJ u.keys 4) (by simp[hF]) (by simp[ec]) h.clock,
  e (bJ u.root 4++bJ u.bg 1++bJ u.map 4++bJ n 4++bJ u.clock 8) (bJ u.keys 4) (by simp[hF]) (by simp[ec]) h.di,
  e (bJ u.root 4++bJ u.bg 1++bJ u.map 4++bJ n 4++bJ u.clock 8++bJ u.di 8) [] (by simp[hF]) (by simp[ec]) f]
def kc(u:cN)(n gen:Nat):iJ:=⟨3,gen,hF u n⟩
theorem AO{u:cN}{n gen:Nat}(hg:gen<18446744073709551616):ot (kc u n gen):=⟨(by decide:1<=3),(by decide:3<=4),hg,by show(hF u n).length<=232;rw[Ep];decide⟩
theorem Er{u:cN}{n gen no:Nat}(h:ox u)(hu:kG u n)(hg:gen<18446744073709551616)(a:no<1600):g4 no (eI no (kc u n gen))=.ok (u,n,gen):=by
 unfold g4;rw[ye a (AO hg)];have b:n<4294967296:=by have:=hu.2.2.2.2.2;omega
 obtain⟨h1,h2⟩:=J3 h b;show(if (3:Nat)≠3\/(hF u n).length≠33 then _ else if kG (p7 (hF u n)) (c2 (hF u n) 9 4) then Except.ok (p7 (hF u n),c2 (hF u n) 9 4,gen) else _)=_;rw[h1,h2,if_neg (by rw[Ep];simp),if_pos hu]
section
variable {w w':I}{h:Nat}{vs:Y O}{u:cN}
theorem cN.plain(u:cN):∀v∈u.c,Plain v:=by
 intro v a;simp only[cN.c,cW,fh,ft]at a;rcases a with rfl|rfl|rfl|rfl|rfl|rfl<;>trivial
theorem gU(a:Var w h u.c 115){K:Int->Int->Int->Int->Int->Int->Prop}(d:K (u.root:Nat) (u.bg:Nat) (u.map:Nat) (u.clock:Nat) (u.di:Nat) (u.keys:Nat)):
 ∃dN:Int,w.cell? h=some (.int .i64 dN)/\∃bF:Int,w.cell? (Addr.add h 1)=some (.int .i64 bF)/\∃b:Int,w.cell? (Addr.add h 2)=some (.int .i64 b)/\
  ∃a6:Int,w.cell? (Addr.add h 3)=some (.int .u64 a6)/\∃n5:Int,w.cell? (Addr.add h 4)=some (.int .u64 n5)/\∃n6:Int,w.cell? (Addr.add h 5)=some (.int .i64 n6)/\K dN bF b a6 n5 n6:=
 ⟨_,a.cell,_,by rw[av];exact a.cell,_,by rw[av];exact a.cell,_,by rw[av];exact a.cell,_,by rw[av];exact a.cell,_,by rw[av];exact a.cell,d⟩
theorem jL(a:Var w h vs 115)(b:vs.length=6)(u:cN){K:I->Prop}(d:∀af,Var af h u.c 115->ad (λq=>q=h) w af->af.heap.size=w.heap.size->K af):
 bN w h [u.root,u.bg,u.map,.int .u64 (u.clock:Nat),.int .u64 (u.di:Nat),u.keys]/\(6:Nat)=6/\
  ao (setCells w h 0 [u.root,u.bg,u.map,.int .u64 (u.clock:Nat),.int .u64 (u.di:Nat),u.keys]) K:=
 ⟨a.cn (by rw[b];rfl) u.plain,rfl,cU a (us:=u.c) (by rw[b];rfl) rfl λaf e hc f=>d af e hc f⟩
end
theorem ri{w:I}{u:cN}(h:ox u){n:Nat}(y:n<4294967296):az ah 100 #[.agg u.c.toArray,n] w (λv w'=>∃s:ag,v=s/\aS 1 5 w' s (ax (hF u n))/\Ext w w'/\fD w s):=by
 have h1:=h.root;have h2:=h.bg;have z:=h.map;have V:=h.clock;have W:=h.di;have A:=h.keys;have a:∀ {x:Nat},x<4294967296->IntKind.wrap .u64 (x:Int)=(x:Int):=λ{x} hx=>eG J J;refine okF (Z.ri (u.root:Nat) (u.bg:Nat) (u.map:Nat) (u.clock:Nat) (u.di:Nat) (u.keys:Nat) (n:Nat)) aj.ri func100 ?_;(delta Z.ri aE r1 aa bp aK b5 db;dsimp only);refine aV (vs:=u.c) rfl λw1 b B X=>⟨_,b.cell,?_⟩;rw[a h1];refine(gv (s:=⟨none,0,0⟩) (l:=[]) (aS.none 1 5 w1).src (dd _) (n:=u.root) J (by decide)).use ?_;rintro _ af ⟨s2,rfl,C,d,Y⟩;have e:=b.ext d;refine⟨s2,rfl,_,by rw[av];exact e.cell,?_⟩;rw[a (x:=u.bg) J];refine(gv C.src (by simp[ec]) (n:=u.bg) J (by decide)).use ?_;rintro _ ab ⟨D,rfl,E,f,ac⟩;have g:=e.ext f;refine⟨D,rfl,_,by rw[av];exact g.cell,?_⟩;rw[a z];refine(gv E.src (by simp[ec]) (n:=u.map) J (by decide)).use ?_;rintro _ aA ⟨F,rfl,G,i,ad⟩;have H:=g.ext i;refine⟨F,rfl,?_⟩;rw[a y];refine(gv G.src (by simp[ec]) (n:=n) J (by decide)).use ?_;rintro _ aC ⟨K,rfl,L,j,ae⟩;have k:=H.ext j;refine⟨K,rfl,_,by rw[av];exact k.cell,?_⟩;refine(gv L.src (by simp[ec]) (n:=u.clock) J (by decide)).use ?_;rintro _ ai ⟨M,rfl,N,m,ak⟩;have o:=k.ext m;refine⟨M,rfl,_,by rw[av];exact o.cell,?_⟩;refine(gv N.src (by simp[ec]) (n:=u.di) J (by decide)).use ?_;rintro _ al ⟨O,rfl,P,p,am⟩;have Q:=o.ext p;refine⟨O,rfl,_,by rw[av];exact Q.cell,?_⟩;rw[a A];refine(gv P.src (by simp[ec]) (n:=u.keys) J (by decide)).use ?_;rintro _ aF ⟨r,rfl,R,S,T⟩;have t:=Ext.trans (Ext.trans (Ext.trans (Ext.trans (Ext.trans (Ext.trans B d) f) i) j) m) p;refine⟨r,rfl,r,rfl,R,Ext.trans t S,λq U=>?_⟩;have:=T q U;have:=t.size;omega
theorem J4{w:I}{b:ag}{l:Y UInt8}{aN a k:Nat}(f:Var w aN [b,a] 353)(hs:Src 1 w b (ax l))(hc:b.len<=b.cap)(g:1<=k/\k<=8)(j:a+k<=l.length)(m:l.length<=1000):
 az ah 215 #[.pointer (some aN),k] w (λv w'=>v=.int .u64 (c2 l a k:Nat)/\Var w' aN [b,.int .i64 ((a+k:Nat):Int)] 353/\ad (λq=>q=aN) w w'):=by
 refine Z.H_ _ (k:Nat) w _ ?_;(delta Z.tZ bE aw fz a_ en r1 j5 st an aE;dsimp only);have d:=bC w;have c:=f.ext d;refine aQ ⟨λ_=>False,_,rfl,id,b,c.cell,_,rfl,id,_,by rw[av];exact c.cell,(jG (hs.ext d) hc g j J).use ?_⟩;rintro _ _ ⟨rfl,rfl⟩;obtain⟨bH,bL⟩:=ef c (i:=1) (by simp);refine⟨_,true,rfl,_,rfl,_,by rw[av];exact c.cell,_,rfl,by rw[av];exact bH,by rw[av];exact bL,aQ ⟨rfl,?_,?_⟩⟩
 .rw[av]
  have h1:=er c (i:=1) (.int .i64 (IntKind.wrap .i64 ((a:Nat)+(k:Nat))));have e:IntKind.wrap .i64 ((a:Int)+(k:Int))=((a+k:Nat):Int):=by rw[bW J J];omega
  rw[e]at h1⊢;exact h1
 .rw[av]
  exact ct (d.mono λ_ _ h=>h.elim) (dD _ _ _ _) λq _ e=>e
def Es:Except Int (cN×Nat×Nat)->O
 | .ok (u,n,g)=>.tuple #[.agg u.c.toArray,n,.int .u64 (g:Nat),(0:Int)]
 | .error e=>.tuple #[.agg gy.c.toArray,(0:Int),.int .u64 0,e]
theorem AP{no:Int}{l:Y UInt8}{e:Int}(h:dA no l=.error e):e≠0:=by
 unfold dA at h
 repeat' split at h
 all_goals first|(cases h;decide)|cases h
theorem ru{s:ag}{l:Y UInt8}{w:I}(hs:Src 1 w s (ax l))(hc:s.len<=s.cap)(aS:l.length<=1000)(no:Int):
 az ah 168 #[.int .i64 no,.slice s.a s.len s.cap] w (λv w'=>v=Es (g4 no l)/\Ext w w'):=by
 refine okF (Z.ru no s) aj.ru func168 ?_;(delta Z.ru fl qX n0 bR aa aE ae r1 aK b5 db bd a_ z6 ek st an bE Db ky;dsimp only);refine aV (vs:=gy.c) rfl λw1 ai H bI=>(oe (hs.ext H) hc aS no).use ?_;rintro _ af ⟨r,V⟩;obtain⟨d,aT⟩:∃d,d=w.heap.size:=⟨_,rfl⟩;rw[←aT]at ai⊢;have L:=ai.ext V
 cases B:dA no l with
 |error e=>
  rw[B]at r;have W:=AP B;have hd:g4 no l=.error e:=by unfold g4;rw[B]
  rw[hd];obtain rfl:_=_:=r;refine⟨0,0,⟨none,0,0⟩,e,rfl,aV (vs:=[.int .i64 0,.int .u64 0,.slice none 0 0]) rfl λaF M al aX=>⟨M.cn rfl (λv N=>?_),rfl,cU M (us:=[.int .i64 0,.int .u64 0,.slice none 0 0]) rfl rfl λC t am aY=>⟨λ_=>?_,λh=>?_⟩⟩⟩
  .simp only[cW,fh,ft]at N
   rcases N with rfl|rfl|rfl<;>trivial
  .have y:Ext af C:=Ext.bO al am (bk _)
   have m:=L.ext y;refine gU (u:=gy) m (jL m rfl gy λD ap aZ bJ=>gU (u:=gy) ap ⟨rfl,?_⟩);exact Ext.bO (Ext.trans (Ext.trans H V) y) aZ J
  .simp at h;exact absurd h W
 |ok p=>
  rw[B]at r;obtain⟨sb,rfl,X,a0⟩:=r;refine⟨_,_,sb,0,rfl,aV (vs:=[.int .i64 0,.int .u64 0,.slice none 0 0]) rfl λaF M al aX=>⟨M.cn rfl (λv N=>?_),rfl,cU M (us:=[.int .i64 (p.kind:Nat),.int .u64 (p.gen:Nat),.slice sb.a sb.len sb.cap]) rfl rfl λC t am aY=>⟨λh=>(by simp at h),λ_=>⟨_,t.cell,?_⟩⟩⟩⟩
  .simp only[cW,fh,ft]at N
   rcases N with rfl|rfl|rfl<;>trivial
  have y:Ext af C:=Ext.bO al am (bk _);have aq:=Ext.trans (Ext.trans H V) y;obtain⟨P,a1⟩:∃P,P=af.heap.size:=⟨_,rfl⟩;rw[←a1]at t⊢;have m:=L.ext y;have a2:sb.len=p.body.length:=by have:=X.1;rw[c7]at this;omega
  have bM:=(Ext.trans H V).size;have a3:p.kind≠3\/p.body.length≠33->g4 no l=.error 4:=λh=>by
   unfold g4;rw[B];exact if_pos h
  refine bK (λb w'=>b=decide (p.kind≠3\/p.body.length≠33)/\C=w') (λq f=>⟨λh=>f _ _ ⟨?_,rfl⟩,λh=>⟨sb,by rw[av];exact t.cell,f _ _ ⟨?_,rfl⟩⟩⟩) ?_
  .have:p.kind≠3:=λe=>by rw[e]at h;simp at h
   rw[eB (.inl this)]
  .have a4:p.kind=3:=by
    have:((p.kind:Nat):Int)=3:=by simpa using h
    omega
   rw[a2,eX,cT];constructor
   .intro Q
    refine .inr λe=>?_;rw[e]at Q;simp at Q
   .rintro(Q|Q)
    .exact absurd a4 Q
    .rw[bne_iff_ne];omega
  rintro _ _ ⟨rfl,rfl⟩;have aG:∀ {D:I}{vs:Y O},Var D d vs 115->vs.length=6->Ext w D->(g4 no l=.error 4)->bN D ⟨d,0,none⟩ [.int .i64 0,.int .i64 0,.int .i64 0,.int .u64 0,.int .u64 0,.int .i64 0]/\(6:Nat)=6/\ao (setCells D ⟨d,0,none⟩ 0 [.int .i64 0,.int .i64 0,.int .i64 0,.int .u64 0,.int .u64 0,.int .i64 0]) λo=>
   ∃dN:Int,o.cell? ⟨d,0,none⟩=some (.int .i64 dN)/\∃bF:Int,o.cell? (Addr.add ⟨d,0,none⟩ 1)=some (.int .i64 bF)/\∃aH:Int,o.cell? (Addr.add ⟨d,0,none⟩ 2)=some (.int .i64 aH)/\
   ∃a6:Int,o.cell? (Addr.add ⟨d,0,none⟩ 3)=some (.int .u64 a6)/\∃n5:Int,o.cell? (Addr.add ⟨d,0,none⟩ 4)=some (.int .u64 n5)/\∃n6:Int,o.cell? (Addr.add ⟨d,0,none⟩ 5)=some (.int .i64 n6)/\
   (Value.tuple #[.agg #[.int .i64 dN,.int .i64 bF,.int .i64 aH,.int .u64 a6,.int .u64 n5,.int .i64 n6],.int .i64 0,.int .u64 0,.int .i64 4]=Es (g4 no l)/\Ext w o):=by
   intro D vs ap a5 a7 hd;rw[hd];exact jL ap a5 gy λo a8 a9 bP=>gU (u:=gy) a8 ⟨rfl,Ext.bO a7 a9 J⟩
  refine⟨λh=>?_,λh=>?_⟩
  .exact gU (u:=gy) m (aG m rfl aq (a3 (b3 h)))
  have ar:=cx h;have bQ:p.kind=3:=sU λh=>ar (.inl h);have bS:p.body.length=33:=sU λh=>ar (.inr h);have ba:=(X.ext y).src;have bb:sb.len<=sb.cap:=X.2.1;have aI:∀q,aD sb q->q<C.heap.size:=(X.ext y).lt;refine⟨sb,by rw[av];exact t.cell,aV (vs:=[.slice sb.a sb.len sb.cap,.int .i64 ((0:Nat):Int)]) rfl λbc aL ab bT=>?_⟩;obtain⟨aN,be⟩:∃aN,aN=C.heap.size:=⟨_,rfl⟩;rw[←be]at aL aI⊢;have W:aN≠d:=by have:=m.lt;omega
  have bf:aN≠P:=by have:=t.lt;omega
  have bh:=ba.ext ab;have bi:=m.ext ab;have bj:=t.ext ab;have bl:=Ext.trans aq ab;have bm:w.heap.size<=aN:=by have:=aq.size;omega
  obtain⟨b7,E⟩:∃b7:I->Y O->Nat->Prop,b7=λw' vs a=>Var w' aN [.slice sb.a sb.len sb.cap,.int .i64 ((a:Nat):Int)] 353/\Src 1 w' sb (ax p.body)/\Var w' d vs 115/\Var w' P [.int .i64 (p.kind:Nat),.int .u64 (p.gen:Nat),.slice sb.a sb.len sb.cap] 111/\Ext w w':=⟨_,rfl⟩;have bn:∀q,aD sb q->q≠d:=λq f e=>by
   have:=a0 q f;have:=L.lt;have:=H.size;have:=ai.lt;omega
  have z:∀ {w':I}{vs:Y O}{a k:Nat}{R:Ending->I->Prop},b7 w' vs a->1<=k/\k<=8->a+k<=33->(∀g,b7 g vs (a+k)->R (.returned (.int .u64 (c2 p.body a k:Nat))) g)->Calls ah 215 #[.pointer (some ⟨aN,0,none⟩),.int .i64 (k:Nat)] w' R:=by
   intro w' vs a k R A au bU bo;rw[E]at A;obtain⟨bH,bL,S,aw,ay⟩:=A;refine(J4 bH bL bb au J J).use ?_;rintro _ g ⟨rfl,aJ,aW⟩;refine bo g ?_;rw[E];exact⟨aJ,bL.ak aW λq f e=>by have:=aI q f;omega,S.ak aW (λe=>W e.symm),aw.ak aW (λe=>bf e.symm),Ext.bO ay aW bm⟩
  have je:∀ {w':I}{vs:Y O}{a:Nat} (j:Nat) (v:O) {K:I->Prop},b7 w' vs a->j<vs.length->(∀g,b7 g (vs.set j v) a->K g)->(∃u:O,w'.cell? ⟨d,j,none⟩=some u)/\w'.frozen? ⟨d,j,none⟩=false/\ao (w'.setCell ⟨d,j,none⟩ v) K:=by
   intro w' vs a j v K A ac aA;rw[E]at A;obtain⟨bH,bL,S,aw,ay⟩:=A;have hc:=dD w' d j v;refine⟨(ef S ac).1,(ef S ac).2,aQ (aA _ ?_)⟩;rw[E];exact⟨bH.ak hc W,bL.ak hc bn,er S v,aw.ak hc (λe=>by have:=m.lt;have:=L.lt;omega),Ext.bO ay hc J⟩
  have T:∀ {w':I}{vs:Y O}{a:Nat} (j:Nat) (v:O) {K:I->Prop},b7 w' vs a->j<vs.length->(∀g,b7 g (vs.set j v) a->K g)->(∃u:O,w'.cell? (Addr.add ⟨d,0,none⟩ j)=some u)/\w'.frozen? (Addr.add ⟨d,0,none⟩ j)=false/\ao (w'.setCell (Addr.add ⟨d,0,none⟩ j) v) K:=by
   intro w' vs a j v K A ac aA;rw[av,cg];exact je j v A ac aA
  have bp:b7 bc gy.c 0:=by rw[E];exact⟨aL,bh,bi,bj,bl⟩
  have ad:∀a,a+4<=33->c2 p.body a 4<4294967296:=λa bq=>om 4 _ (by rw[fg,hL];omega);have br:c2 p.body 4 1<256:=om 1 _ (by rw[fg,hL];omega);have bV:∀a,a+8<=33->c2 p.body a 8<18446744073709551616:=λa bq=>om 8 _ (by rw[fg,hL];omega);have U:∀ {x:Nat},x<4294967296->IntKind.wrap .i64 ((x:Nat):Int)=((x:Nat):Int):=λhx=>bW J J;refine z (k:=4) bp (by decide) (by decide) λbX t43=>⟨_,rfl,z (k:=1) t43 (by decide) (by decide) λbY t46=>⟨_,rfl,z (k:=4) t46 (by decide) (by decide) λbZ t49=>⟨_,rfl,?_⟩⟩⟩;rw[U (ad 0 (by decide)),U (x:=c2 p.body (0+4) 1) (by have:=br;show c2 p.body 4 1<_;omega),U (ad (0+4+1) (by decide))];refine je 0 _ t49 (by simp[gy,cN.c]) λb0 t52=>T 1 _ t52 (by simp[gy,cN.c]) λb1 t53=>T 2 _ t53 (by simp[gy,cN.c]) λb2 t54=>?_;refine(z (k:=4) t54 (by decide) (by decide) λb4 t55=>⟨_,rfl,z (k:=8) t55 (by decide) (by decide) λb6 t58=>⟨_,rfl,z (k:=8) t58 (by decide) (by decide) λb8 t61=>⟨_,rfl,z (k:=4) t61 (by decide) (by decide) λb9 t64=>⟨_,rfl,?_⟩⟩⟩⟩);rw[U (ad (0+4+1+4) (by decide)),U (ad (0+4+1+4+4+8+8) (by decide))];refine T 3 _ t64 (by simp[gy,cN.c]) λb_ t67=>T 4 _ t67 (by simp[gy,cN.c]) λca t68=>T 5 _ t68 (by simp[gy,cN.c]) λF t69=>?_;obtain⟨u,hu⟩:∃u,u=p7 p.body:=⟨_,rfl⟩;obtain⟨n,aM⟩:∃n,n=c2 p.body 9 4:=⟨_,rfl⟩;rw[E]at t69;obtain⟨_,_,i,bs,aO⟩:=t69;have i:Var F d u.c 115:=by rw[hu];exact i
  have r:g4 no l=if kG u n then .ok (u,n,p.gen) else .error 4:=by
   unfold g4;rw[B,hu,aM];exact if_neg ar
  rw[show c2 p.body (0+4+1+4) 4=n from aM.symm];refine⟨(u.root:Nat),i.cell,(u.bg:Nat),by rw[av];exact i.cell,bK (λb w'=>b=(!((((u.root:Nat):Int)==0)==(((u.bg:Nat):Int)==0))||decide (((u.bg:Nat):Int)>12))/\F=w') (λq f=>⟨λh=>f _ _ ⟨by rw[h,Bool.true_or],rfl⟩,λh=>⟨_,by rw[av];exact i.cell,f _ _ ⟨by rw[h,mG],rfl⟩⟩⟩) ?_⟩;rintro bt _ ⟨bu,rfl⟩;refine bK (λb w'=>b=(bt||decide (((u.root:Nat):Int)>=(n:Nat)))/\F=w') (λq f=>⟨λh=>f _ _ ⟨by rw[h,Bool.true_or],rfl⟩,λh=>⟨_,i.cell,f _ _ ⟨by rw[h,mG],rfl⟩⟩⟩) ?_;rintro bv _ ⟨bw,rfl⟩;refine bK (λb w'=>b=(bv||decide (((u.map:Nat):Int)>=(n:Nat)))/\F=w') (λq f=>⟨λh=>f _ _ ⟨by rw[h,Bool.true_or],rfl⟩,λh=>⟨_,by rw[av];exact i.cell,f _ _ ⟨by rw[h,mG],rfl⟩⟩⟩) ?_;rintro bx _ ⟨bz,rfl⟩;refine bK (λb w'=>b=(bx||decide (((u.map:Nat):Int)<2))/\F=w') (λq f=>⟨λh=>f _ _ ⟨by rw[h,Bool.true_or],rfl⟩,λh=>⟨_,by rw[av];exact i.cell,f _ _ ⟨by rw[h,mG],rfl⟩⟩⟩) ?_;rintro bA _ ⟨bB,rfl⟩;have bD:(bA||decide (((n:Nat):Int)>1600))= !decide (kG u n):=by
   have aP:(((u.root:Nat):Int)==0)=decide (u.root=0):=by rw[eX];simp
   have aU:(((u.bg:Nat):Int)==0)=decide (u.bg=0):=by rw[eX];simp
   rw[bB,bz,bw,bu,aP,aU,eX];unfold kG;by_cases h1:u.root=0<;>by_cases h2:u.bg=0<;>simp[h1,h2]<;>omega
  rw[bD];refine⟨λh=>?_,λh=>?_⟩
  .have bG:¬kG u n:=λhg=>by rw[eB hg]at h;cases h
   exact aG i rfl aO (by rw[r,if_neg bG])
  .have hg:kG u n:=sU λhg=>by rw[gr hg]at h;cases h
   rw[r,if_pos hg];have aB:=bC F;have aC:=i.ext aB;have p8:=bs.ext aB;have cb:d≠P:=by have:=m.lt;have:=L.lt;omega
   refine aQ ⟨λ_=>False,id,gU aC ⟨id,_,by rw[av];exact p8.cell,jL aC rfl u λcc aR G cd=>⟨?_,gU aR ⟨rfl,Ext.bO (Ext.trans aO aB) G J⟩⟩⟩⟩;refine⟨G.os,G.tape,G.output,G.size,λk au _=>?_⟩;by_cases e:k=d
   .rw[e];exact aR.trans aC.symm
   .exact G.block k au e
variable {w w':I}
theorem J5{s:ag}{sz n:Nat}{q:Nat}:aD ⟨bw s.a sz 0 s.cap,n-0,s.cap-0⟩ q↔aD s q:=by
 rw[zR];exact Iff.rfl
section
variable {P:Program}{dy e c4:TypeId}{sz bytes:Nat}
structure lj(sz:Nat)(e:TypeId)(w0 w:I)(s:ag)(l:Y O):Prop where
 o:aS sz e w s l
 x:Ext w0 w
 f:∀q,aD s q->w0.heap.size<=q
theorem Ext.new{a:Nat->Prop}{w0 w1 af:I}(hx:Ext w0 w1)(h:ad a w1 af)(b4:∀q,a q->w0.heap.size<=q):Ext w0 af/\ad (λq=>w0.heap.size<=q) w1 af:=
 ⟨Ext.eH hx h b4,h.mono λq _ b=>b4 q b⟩
theorem lj.app(h:ib P dy e sz bytes){w0 w1:I}{s x:ag}{l xs:Y O}(hs:lj sz e w0 w1 s l)(hx:Src sz w1 x xs)(d:∀v∈xs,Plain v)(g:(2*(s.len+x.len)+1000)*bytes<=281474976710656):
 ∃ (a:ag) (af:I),Sem.run P (Builtin.append_ #[dy,dy] c4 #[s,x]) w1=.ok a af/\ad (λq=>w0.heap.size<=q) w1 af/\lj sz e w0 af a (l++xs)/\
  a.len=s.len+x.len/\ad (aD s) w1 af/\∀q,aD a q->aD s q\/w1.heap.size<=q:=by
 obtain⟨a,af,aJ,aW,i,b,c⟩:=h.append (c4:=c4) hx hs.o d g;obtain⟨bH,bL⟩:=Ext.new hs.x b hs.f;exact⟨a,af,aJ,bL,⟨aW,bH,λq j=>(c q j).elim (hs.f q) λh=>dG hs.x.size h⟩,i,b,c⟩
end
end Go.Proofs.YtcfodkffcmfcaaaGreat
namespace Go.Proofs.YtcfodkffcmfcaaaGreat
open Go Go.Proofs Go.Shelf
def Et:Go.Shelf.Ren:=⟨λ |7=>120|10=>164|n=>n,λ |23=>98|26=>3|3=>97|28=>240|0=>0|27=>239|33=>152|4=>4|n=>n,λ |n=>n⟩
theorem J6:Go.Proofs.SlLaysZI.n7 Tryz.prog Et:={
 mixed:=by kernel_rfl
 f7:=⟨Tryz.f120.name,by decide,Tryz.func120.trans (congrArg some (by kernel_rfl))⟩
 f10:=⟨Tryz.f164.name,by decide,Tryz.func164.trans (congrArg some (by kernel_rfl))⟩
 t0:=Tryz.underlying0
 a0:=Tryz.isAgg0
 z0:=Tryz.sizeOf0
 v0:=Tryz.zeroValue0
 t4:=Tryz.underlying4
 a4:=Tryz.isAgg4
 z4:=Tryz.sizeOf4
 v4:=Tryz.zeroValue4
 t23:=Tryz.underlying98
 a23:=Tryz.isAgg98
 z23:=Tryz.sizeOf98
 v23:=Tryz.zeroValue98
 t26:=Tryz.underlying3
 a26:=Tryz.isAgg3
 z26:=Tryz.sizeOf3
 v26:=Tryz.zeroValue3
 t27:=Tryz.underlying239
 a27:=Tryz.isAgg239
 z27:=Tryz.sizeOf239
 v27:=Tryz.zeroValue239
 t28:=Tryz.underlying240
 a28:=Tryz.isAgg240
 z28:=Tryz.sizeOf240
 v28:=Tryz.zeroValue240
 t33:=Tryz.underlying152
 a33:=Tryz.isAgg152
 z33:=Tryz.sizeOf152
 v33:=Tryz.zeroValue152}
def Eu:Go.Shelf.Ren:=⟨λ |6=>119|8=>162|9=>163|11=>211|13=>213|12=>212|23=>266|24=>267|14=>257|15=>258|16=>259|17=>260|18=>261|19=>262|20=>263|21=>264|22=>265|25=>304|26=>305|27=>306|28=>307|29=>308|30=>160|31=>330|n=>n,λ |26=>3|28=>240|24=>52|0=>0|3=>3|37=>306|48=>204|50=>22|4=>4|40=>397|39=>396|45=>147|5=>5|9=>9|51=>441|55=>444|57=>465|58=>292|33=>152|n=>n,λ |n=>n⟩
theorem J7:Go.Proofs.SlLaysZI.n6 Tryz.prog Eu:={
 mixed:=by kernel_rfl
 f6:=⟨Tryz.f119.name,by decide,Tryz.func119.trans (congrArg some (by kernel_rfl))⟩
 f8:=⟨Tryz.f162.name,by decide,Tryz.func162.trans (congrArg some (by kernel_rfl))⟩
 f11:=⟨Tryz.f211.name,by decide,Tryz.func211.trans (congrArg some (by kernel_rfl))⟩
 t0:=Tryz.underlying0
 a0:=Tryz.isAgg0
 z0:=Tryz.sizeOf0
 v0:=Tryz.zeroValue0
 t24:=Tryz.underlying52
 a24:=Tryz.isAgg52
 z24:=Tryz.sizeOf52
 v24:=Tryz.zeroValue52
 t26:=Tryz.underlying3
 a26:=Tryz.isAgg3
 z26:=Tryz.sizeOf3
 v26:=Tryz.zeroValue3
 t28:=Tryz.underlying240
 a28:=Tryz.isAgg240
 z28:=Tryz.sizeOf240
 v28:=Tryz.zeroValue240
 i26:=by kernel_rfl}
def J8:Go.Shelf.Ren:=⟨λ |5=>163|8=>213|7=>212|19=>266|20=>267|10=>257|11=>258|12=>259|13=>260|14=>261|15=>262|16=>263|17=>264|18=>265|30=>304|31=>305|32=>306|33=>307|34=>308|35=>160|40=>330|n=>n,λ |23=>52|25=>3|3=>3|32=>306|22=>52|0=>0|44=>204|46=>22|4=>4|36=>397|35=>396|41=>147|5=>5|9=>9|53=>441|57=>444|63=>465|64=>292|n=>n,λ |n=>n⟩
theorem yt:Go.Proofs.SlLaysM.n5 Tryz.prog J8:={
 mixed:=by kernel_rfl
 f5:=⟨Tryz.f163.name,by decide,Tryz.func163.trans (congrArg some (by kernel_rfl))⟩
 f7:=⟨Tryz.f212.name,by decide,Tryz.func212.trans (congrArg some (by kernel_rfl))⟩
 f8:=Tryz.func213.trans (congrArg some (by kernel_rfl))
 f10:=⟨Tryz.f257.name,by decide,Tryz.func257.trans (congrArg some (by kernel_rfl))⟩
 f11:=⟨Tryz.f258.name,by decide,Tryz.func258.trans (congrArg some (by kernel_rfl))⟩
 f12:=⟨Tryz.f259.name,by decide,Tryz.func259.trans (congrArg some (by kernel_rfl))⟩
 f13:=⟨Tryz.f260.name,by decide,Tryz.func260.trans (congrArg some (by kernel_rfl))⟩
 f14:=⟨Tryz.f261.name,by decide,Tryz.func261.trans (congrArg some (by kernel_rfl))⟩
 f15:=⟨Tryz.f262.name,by decide,Tryz.func262.trans (congrArg some (by kernel_rfl))⟩
 f16:=⟨Tryz.f263.name,by decide,Tryz.func263.trans (congrArg some (by kernel_rfl))⟩
 f17:=⟨Tryz.f264.name,by decide,Tryz.func264.trans (congrArg some (by kernel_rfl))⟩
 f18:=⟨Tryz.f265.name,by decide,Tryz.func265.trans (congrArg some (by kernel_rfl))⟩
 f19:=Tryz.func266.trans (congrArg some (by kernel_rfl))
 f20:=Tryz.func267.trans (congrArg some (by kernel_rfl))
 f30:=⟨Tryz.f304.name,by decide,Tryz.func304.trans (congrArg some (by kernel_rfl))⟩
 f31:=Tryz.func305.trans (congrArg some (by kernel_rfl))
 f32:=Tryz.func306.trans (congrArg some (by kernel_rfl))
 f33:=⟨Tryz.f307.name,by decide,Tryz.func307.trans (congrArg some (by kernel_rfl))⟩
 f34:=⟨Tryz.f308.name,by decide,Tryz.func308.trans (congrArg some (by kernel_rfl))⟩
 f35:=⟨Tryz.f160.name,by decide,Tryz.func160.trans (congrArg some (by kernel_rfl))⟩
 f40:=⟨Tryz.f330.name,by decide,Tryz.func330.trans (congrArg some (by kernel_rfl))⟩
 t0:=Tryz.underlying0
 a0:=Tryz.isAgg0
 z0:=Tryz.sizeOf0
 v0:=Tryz.zeroValue0
 t3:=Tryz.underlying3
 a3:=Tryz.isAgg3
 z3:=Tryz.sizeOf3
 v3:=Tryz.zeroValue3
 t4:=Tryz.underlying4
 a4:=Tryz.isAgg4
 z4:=Tryz.sizeOf4
 v4:=Tryz.zeroValue4
 t5:=Tryz.underlying5
 a5:=Tryz.isAgg5
 z5:=Tryz.sizeOf5
 v5:=Tryz.zeroValue5
 t9:=Tryz.underlying9
 a9:=Tryz.isAgg9
 z9:=Tryz.sizeOf9
 v9:=Tryz.zeroValue9
 t22:=Tryz.underlying52
 a22:=Tryz.isAgg52
 z22:=Tryz.sizeOf52
 v22:=Tryz.zeroValue52
 t23:=Tryz.underlying52
 a23:=Tryz.isAgg52
 z23:=Tryz.sizeOf52
 v23:=Tryz.zeroValue52
 t25:=Tryz.underlying3
 a25:=Tryz.isAgg3
 z25:=Tryz.sizeOf3
 v25:=Tryz.zeroValue3
 t32:=Tryz.underlying306
 a32:=Tryz.isAgg306
 z32:=Tryz.sizeOf306
 v32:=Tryz.zeroValue306
 t35:=Tryz.underlying396
 a35:=Tryz.isAgg396
 z35:=Tryz.sizeOf396
 v35:=Tryz.zeroValue396
 t36:=Tryz.underlying397
 a36:=Tryz.isAgg397
 z36:=Tryz.sizeOf397
 v36:=Tryz.zeroValue397
 t41:=Tryz.underlying147
 a41:=Tryz.isAgg147
 z41:=Tryz.sizeOf147
 v41:=Tryz.zeroValue147
 t44:=Tryz.underlying204
 a44:=Tryz.isAgg204
 z44:=Tryz.sizeOf204
 v44:=Tryz.zeroValue204
 t46:=Tryz.underlying22
 a46:=Tryz.isAgg22
 z46:=Tryz.sizeOf22
 v46:=Tryz.zeroValue22
 t53:=Tryz.underlying441
 a53:=Tryz.isAgg441
 z53:=Tryz.sizeOf441
 v53:=Tryz.zeroValue441
 t57:=Tryz.underlying444
 a57:=Tryz.isAgg444
 z57:=Tryz.sizeOf444
 v57:=Tryz.zeroValue444
 t63:=Tryz.underlying465
 a63:=Tryz.isAgg465
 z63:=Tryz.sizeOf465
 v63:=Tryz.zeroValue465
 t64:=Tryz.underlying292
 a64:=Tryz.isAgg292
 z64:=Tryz.sizeOf292
 v64:=Tryz.zeroValue292}
end Go.Proofs.YtcfodkffcmfcaaaGreat
namespace Go.Proofs.YtcfodkffcmfcaaaGreat
open Go aO Go.Proofs.Tryz
theorem J9{w:I}{b n:Nat}{c:Array O}{T:TypeId}{os:Array Obj}{zs:Y Int}(h:aZ w b c T)(g:zs.length<=c.size):
 ∃c':Array O,aZ (Go.Sort.grow (Go.Sort.putRow (Value.int .i64) (Go.Sort.ahead w n) b 0 zs.toArray) os) b c' T/\c'.size=c.size/\c'.toList.take zs.length=zs.map encZ/\ad (λq=>q=b) w (Go.Sort.grow (Go.Sort.putRow (Value.int .i64) (Go.Sort.ahead w n) b 0 zs.toArray) os):=by
 have aI:=h.lt;have d:∀k,k<w.heap.size->(Go.Sort.grow (Go.Sort.putRow (Value.int .i64) (Go.Sort.ahead w n) b 0 zs.toArray) os).heap[k]? =(w.heap.modify b (Go.Sort.onCells (Go.Sort.putCells (Value.int .i64) 0 zs.toArray)))[k]? :=λk a=>by
  show((w.heap.modify b _)++os)[k]? =_;rw[Array.getElem?_append_left (by simpa using a)]
 refine⟨Go.Sort.putCells (Value.int .i64) 0 zs.toArray c,?_,by simp[Go.Sort.putCells],?_,rfl,rfl,rfl,?_,λk a f=>?_⟩
 .unfold aZ at h⊢
  rw[d b aI,u0,if_pos rfl,h];rfl
 .apply List.ext_getElem?
  intro i;rw[List.getElem?_take];split
  .rename_i hi
   rw[Array.getElem?_toList,Go.Sort.putCells,Array.getElem?_mapIdx,Array.getElem?_eq_getElem J,l2,if_pos ⟨dd _,by simpa using hi⟩,nE,fQ hi];simp[hi]
  .rename_i hi
   rw[lB (by simpa using hi)]
 .show w.heap.size<=((w.heap.modify b _)++os).size
  simp
 .rw[d k a,u0,if_neg (λe=>f e.symm)]
theorem AQ(ds:Y Nat):ep ds=(ds.map λd=>((d:Nat):Int)).map encZ:=by simp[ep]
theorem AR{w:I}{s:ag}{zs:Y Int}(h:aS 1 3 w s (zs.map encZ))(D:zs.length<=1000000):
 az ah 163 #[s] w (λv w'=>v=.tuple #[]/\ad (aD s) w w'/\∃ys:Y Int,aS 1 3 w' s (ys.map encZ)/\ys.Perm zs/\ys.Pairwise λa b=>a<=b):=by
 have E:s.len=zs.length:=by have:=h.1;rw[dn]at this;omega
 rcases sX zs.length with h0|h0
 .have hd:zs=[]:=oV.1 h0
  have e:s.len=0:=by omega
  rw[e];refine Calls.mono (AnyM.slices_Sort_int_none yt s.a s.cap w) ?_;rintro _ _ ⟨rfl,rfl⟩;exact⟨_,rfl,rfl,.refl _ _,[],by rw[hd]at h;exact h,by rw[hd],List.Pairwise.nil⟩
 obtain⟨h1,h2,p,r⟩:=h;rcases r with ⟨_,d⟩|⟨b,c,f,hb,t,u⟩
 .omega
 have z:Go.Sort.Holds (Value.int .i64) w b 0 zs.toArray:=λj A=>by
  have i:j<zs.length:=by simpa using A
  refine⟨?_,aZ.frozen hb _ rfl⟩;rw[hb.cell,cg];have e:=congrArg (λl=>l[j]?) u;simp only[List.getElem?_take,nE,fQ i,l2]at e;rw[if_pos J,Array.getElem?_toList]at e;rw[e];simp[i]
 have B:=AnyM.slices_Sort_int yt b 0 s.cap zs w z hb.lt J;rw[f];have e:s.len=zs.length:=by omega
 rw[e];refine Calls.mono B ?_;rintro _ w' ⟨rfl,n,os,rfl⟩;obtain⟨c',aJ,aW,k,m⟩:=J9 (n:=n) (os:=os) (zs:=zs.mergeSort λx y=>decide (x<=y)) hb (by rw[List.length_mergeSort];omega);have g:=List.mergeSort_perm zs λx y=>decide (x<=y);have o:(zs.mergeSort λx y=>decide (x<=y)).Pairwise λa b=>decide (a<=b)=true:=List.pairwise_mergeSort (λa b c h1 h2=>by simp only[cT]at*;omega) (λa b=>by simp only[jv,cT];omega) zs;generalize (zs.mergeSort λx y=>decide (x<=y))=ys at aJ aW k m g o;refine⟨_,rfl,rfl,m.mono λq _ e=>⟨b,f,e.symm⟩,ys,?_,g,o.imp λh=>b3 h⟩;have C:=g.length_eq;have d:=aS.mk' (sz:=1) (n:=s.len) (cap:=s.cap) aJ (vs:=ys.map encZ) (by rw[dn];omega) h2 p (by rw[aW];exact t) (by rw[fR,e,←C];exact k);rw[←f]at d;exact d
theorem Ev{w:I}{s:ag}{ds:Y Nat}(h:aS 1 3 w s (ep ds))(g:ds.length<=1000000):
 az ah 163 #[.slice s.a s.len s.cap] w (λv w'=>v=.tuple #[]/\ad (aD s) w w'/\∃es:Y Nat,aS 1 3 w' s (ep es)/\es.Perm ds/\es.Pairwise λa b=>a<=b):=by
 rw[AQ]at h;refine(AR h (by rw[dn];exact g)).mono ?_;rintro v w' ⟨rfl,hc,ys,i,e,j⟩;have f:∀y∈ys,0<=y:=λy c=>by
  obtain⟨d,_,rfl⟩:=dj.1 (e.mem_iff.1 c);omega
 have k:(ys.map Int.toNat).map (λd=>((d:Nat):Int))=ys:=by
  rw[gF]
  conv=>rhs;rw[←List.map_id ys]
  refine nD λy c=>?_;have:=f y c;show((y.toNat:Nat):Int)=y;omega
 refine⟨rfl,hc,ys.map Int.toNat,by rw[AQ,k];exact i,?_,?_⟩
 .have:=e.map Int.toNat
  rw[gF]at this;have aU:(Int.toNat∘ λd:Nat=>((d:Nat):Int))=id:=by funext d;simp
  rw[aU,List.map_id]at this;exact this
 .rw[vb]
  exact j.imp_of_mem λl hb m=>by
   have:=f _ l;omega
def lT(b0 a b c d e f g:ai):Nat:=
 b0.toNat+2*a.toNat+4*b.toNat+8*c.toNat+16*d.toNat+32*e.toNat+64*f.toNat+128*g.toNat
def byteOf(f:Nat->ai)(i:Nat):Nat:=lT (f (8*i)) (f (8*i+1)) (f (8*i+2)) (f (8*i+3)) (f (8*i+4)) (f (8*i+5)) (f (8*i+6)) (f (8*i+7))
theorem J_:∀b0 a b c d e f g:ai,lT b0 a b c d e f g<256:=by decide+kernel
theorem Ka:∀b0 a b c d e f g:ai,
 (lT b0 a b c d e f g).testBit 0=b0/\(lT b0 a b c d e f g).testBit 1=a/\(lT b0 a b c d e f g).testBit 2=b/\(lT b0 a b c d e f g).testBit 3=c/\
 (lT b0 a b c d e f g).testBit 4=d/\(lT b0 a b c d e f g).testBit 5=e/\(lT b0 a b c d e f g).testBit 6=f/\(lT b0 a b c d e f g).testBit 7=g:=by decide+kernel
theorem kH(f:Nat->ai)(i:Nat):byteOf f i<256:=J_ _ _ _ _ _ _ _ _
theorem oy(f:Nat->ai)(i j:Nat)(a:j<8):(byteOf f i).testBit j=f (8*i+j):=by
 obtain⟨h0,h1,h2,b,c,d,e,g⟩:=Ka (f (8*i)) (f (8*i+1)) (f (8*i+2)) (f (8*i+3)) (f (8*i+4)) (f (8*i+5)) (f (8*i+6)) (f (8*i+7));have:j=0\/j=1\/j=2\/j=3\/j=4\/j=5\/j=6\/j=7:=by omega
 unfold byteOf;rcases this with rfl|rfl|rfl|rfl|rfl|rfl|rfl|rfl<;>assumption
theorem Kb{x y:Nat}(hx:x<256)(b:y<256)(h:∀j,j<8->x.testBit j=y.testBit j):x=y:=by
 apply Nat.eq_of_testBit_eq;intro j;by_cases a:j<8
 .exact h j a
 .have p:256<=2^j:=by
   have:=u7 (n:=2) J (by omega:8<=j);simpa using this
  rw[Nat.testBit_lt_two_pow J,Nat.testBit_lt_two_pow J]
theorem yu(f:Nat->ai)(i x:Nat)(hx:x<256)(h:∀j,j<8->x.testBit j=f (8*i+j)):x=byteOf f i:=
 Kb hx (kH f i) λj a=>by rw[h j a,oy f i j a]
def c9(f:Nat->ai)(k:Nat)(b:ai):Nat->ai:=λi=>if i=k then b else f i
theorem Kc:∀x:Nat,x<256->∀j:Nat,j<8->(eC .u8 (Int.fdiv (x:Int) (2^(min (Int.toNat (j:Int)) 8))) 1==1)=x.testBit j:=by decide+kernel
theorem Ke:∀x:Nat,x<256->∀j:Nat,j<8->k2 .u8 (x:Int) (IntKind.wrap .u8 (1*2^(min (Int.toNat (j:Int)) 8)))=((x|||2^j:Nat):Int):=by decide+kernel
theorem Kf:∀x:Nat,x<256->∀j:Nat,j<8->BW .u8 (x:Int) (IntKind.wrap .u8 (1*2^(min (Int.toNat (j:Int)) 8)))=((x&&&(255-2^j):Nat):Int):=by decide+kernel
theorem AS:∀x:Nat,x<256->∀y:Nat,y<256->x|||y<256:=λ_ hx _ a=>Nat.or_lt_two_pow (n:=8) hx a
theorem Kg:∀j:Nat,j<8->∀k:Nat,k<8->(255-2^j).testBit k=(k !=j):=by decide+kernel
theorem Kh(x y:Nat)(hx:x<256)(a:y<256):k2 .u8 (x:Int) (y:Int)=((x|||y:Nat):Int):=by
 have h:=AS x hx y a;have e:(BitVec.ofInt 8 (x:Int)|||BitVec.ofInt 8 (y:Int)).toNat=x|||y:=by
  simp only[BitVec.ofInt_natCast,BitVec.toNat_or,BitVec.toNat_ofNat];rw[hK (by simpa using hx),hK (by simpa using a)]
 show IntKind.wrap .u8 (((BitVec.ofInt 8 (x:Int)|||BitVec.ofInt 8 (y:Int)).toNat:Nat):Int)=_;rw[e];have:((x|||y:Nat):Int)%256=((x|||y:Nat):Int):=Int.emod_eq_of_lt J J;simp[IntKind.wrap,IntKind.signed,IntKind.bits,this]
theorem Ew(k:Nat):8*(k/8)+k%8=k:=Nat.div_add_mod k 8
theorem Ki(f:Nat->ai)(k:Nat):byteOf f (k/8)|||2^(k%8)=byteOf (c9 f k true) (k/8):=by
 refine yu _ _ _ (AS _ (kH _ _) _ ?_) λj b=>?_
 .have:k%8<8:=gq _ J
  have:=Nat.pow_lt_pow_right (a:=2) J this;simpa using this
 .rw[nz,oy _ _ _ b,sO,c9]
  by_cases h:8*(k/8)+j=k
  .rw[if_pos h]
   have:k%8=j:=by omega
   simp[this]
  .rw[if_neg h]
   have:¬k%8=j:=by omega
   simp[this]
theorem Kj(f:Nat->ai)(k:Nat):byteOf f (k/8)&&&(255-2^(k%8))=byteOf (c9 f k false) (k/8):=by
 refine yu _ _ _ (Nat.lt_of_le_of_lt Nat.and_le_left (kH _ _)) λj a=>?_;rw[Nat.testBit_and,oy _ _ _ a,Kg _ (gq _ J) _ a,c9];by_cases h:8*(k/8)+j=k
 .rw[if_pos h]
  have:j=k%8:=by omega
  simp[this]
 .rw[if_neg h]
  have:¬j=k%8:=by omega
  simp[this]
theorem Kk(f:Nat->ai)(k i:Nat)(b:ai)(h:i≠k/8):byteOf (c9 f k b) i=byteOf f i:=by
 have e:∀j,j<8->c9 f k b (8*i+j)=f (8*i+j):=λj a=>by
  unfold c9;rw[if_neg];omega
 unfold byteOf;rw[e 1 J,e 2 J,e 3 J,e 4 J,e 5 J,e 6 J,e 7 J];have:=e 0 J;simp only[kV]at this;rw[this]
def eU(f:Nat->ai)(m:Nat):Y O:=(List.range m).map λi=>.int .u8 (byteOf f i)
theorem AT(f:Nat->ai)(m:Nat):(eU f m).length=m:=by simp[eU]
theorem p9(f:Nat->ai){m i:Nat}(h:i<m):(eU f m)[i]? =some (.int .u8 (byteOf f i)):=by simp[eU,h]
theorem Ex(f:Nat->ai)(k m:Nat)(b:ai):(eU f m).set (k/8) (.int .u8 (byteOf (c9 f k b) (k/8)))=eU (c9 f k b) m:=by
 apply List.ext_getElem?;intro i;rw[List.getElem?_set];by_cases hi:i<m
 .rw[p9 (c9 f k b) hi]
  by_cases h:k/8=i
  .subst h
   simp[AT,hi]
  .rw[if_neg h,p9 _ hi,Kk f k i b J]
 .have h1:(eU (c9 f k b) m)[i]? =none:=by simp[eU];omega
  have h2:(eU f m)[i]? =none:=by simp[eU];omega
  rw[h1,h2];split
  .simp[AT];omega
  .rfl
theorem Ey(k:Nat):Int.tdiv (k:Int) 8=((k/8:Nat):Int):=by
 rw[Int.tdiv_eq_ediv_of_nonneg J];omega
theorem ux(k:Nat):Int.tmod (k:Int) 8=((k%8:Nat):Int):=by
 rw[sY J];omega
theorem AU{k:Nat}(h:k<=9223372036854775807):IntKind.wrap .i64 (Int.tdiv (k:Int) 8)=((k/8:Nat):Int):=by
 rw[Ey,bW J J]
theorem Ez{s:ag}{b:Nat}(h:s.a=some ⟨b,0,none⟩):aD s b:=⟨_,h,rfl⟩
theorem p_{w:I}{s:ag}{f:Nat->ai}{m k:Nat}(h:aS 1 5 w s (eU f m))(a:k/8<m)(d:k<=9223372036854775807):
 az ah 203 #[s,k] w (λv w'=>v=.bool (f k)/\w=w'):=by
 refine okF (Z.xn s k) aj.xn func203 ?_;(delta Z.xn bj bX an b8;dsimp only);obtain⟨b,c,hb,e,g,hi,i,hc,_⟩:=h.cell (p9 f a);refine⟨by decide,_,hb,?_⟩;rw[AU d,ux];refine⟨⟨J,J⟩,(byteOf f (k/8):Int),?_,by decide,J,?_,rfl⟩
 .rw[fR,dW,av,cg];exact hc
 .rw[Kc _ (kH _ _) _ (gq _ J),oy _ _ _ (gq _ J),Ew]
theorem EA{w:I}{s:ag}{f:Nat->ai}{m k:Nat}(h:aS 1 5 w s (eU f m))(d:k/8<m)(e:k<=9223372036854775807):
 az ah 90 #[s,k] w (λv w'=>v=.tuple #[]/\aS 1 5 w' s (eU (c9 f k true) m)/\ad (aD s) w w'):=by
 refine okF (Z.wV s k) aj.wV func90 ?_;(delta Z.wV ao bj bX an b8 st;dsimp only);obtain⟨b,c,hb,g,j,hi,l,hc,_⟩:=h.cell (p9 f d);have a:(Addr.mk b 0 none).add (Int.toNat ((k/8:Nat):Int)*1)=⟨b,k/8,none⟩:=by rw[fR,dW,av,cg]
 rw[AU e,ux];refine⟨by decide,_,hb,⟨J,J⟩,by simp,(byteOf f (k/8):Int),by rw[a];exact hc,by decide,J,_,hb,⟨J,J⟩,⟨_,by rw[a];exact hc⟩,by rw[a];exact g.drew.frozen _ rfl,rfl,?_,?_⟩
 .rw[a,Ke _ (kH _ _) _ (gq _ J),Ki,←Ex]
  have i:aS 1 5 w.drew s (eU f m):=h.ak (W:=λ_=>False) (ad.drew (.refl _ _)) (λ_ _ h=>h);exact i.set hb _
 .rw[a]
  exact ad.set (ad.drew (.refl _ _)) (λ_=>Ez hb) _
theorem Kl{w:I}{s:ag}{f:Nat->ai}{m k:Nat}(h:aS 1 5 w s (eU f m))(d:k/8<m)(e:k<=9223372036854775807):
 az ah 204 #[s,k] w (λv w'=>v=.tuple #[]/\aS 1 5 w' s (eU (c9 f k false) m)/\ad (aD s) w w'):=by
 refine okF (Z.xo s k) aj.xo func204 ?_;(delta Z.xo ao bj bX an b8 st;dsimp only);obtain⟨b,c,hb,g,j,hi,l,hc,_⟩:=h.cell (p9 f d);have a:(Addr.mk b 0 none).add (Int.toNat ((k/8:Nat):Int)*1)=⟨b,k/8,none⟩:=by rw[fR,dW,av,cg]
 rw[AU e,ux];refine⟨by decide,_,hb,⟨J,J⟩,by simp,(byteOf f (k/8):Int),by rw[a];exact hc,by decide,J,_,hb,⟨J,J⟩,⟨_,by rw[a];exact hc⟩,by rw[a];exact g.drew.frozen _ rfl,rfl,?_,?_⟩
 .rw[a,Kf _ (kH _ _) _ (gq _ J),Kj,←Ex]
  have i:aS 1 5 w.drew s (eU f m):=h.ak (W:=λ_=>False) (ad.drew (.refl _ _)) (λ_ _ h=>h);exact i.set hb _
 .rw[a]
  exact ad.set (ad.drew (.refl _ _)) (λ_=>Ez hb) _
structure eW(w:I)(b n:Nat)(f g:Nat->ai)(s1 s2:ag):Prop where
 bc:aZ w b #[n,s1,s2] 201
 now:aS 1 5 w s1 (eU f ((n+7)/8))
 sure:aS 1 5 w s2 (eU g ((n+7)/8))
 d1:∀k,aD s1 k->k≠b/\¬aD s2 k
 d2:∀k,aD s2 k->k≠b
 dN:1<=n
 bF:n<=1600
 pf:∀i,n<=i->f i=false
 dV:∀i,n<=i->g i=false
def ga(b:Nat)(s1 s2:ag)(k:Nat):Prop:=k=b\/aD s1 k\/aD s2 k
section
variable {w w':I}{b n:Nat}{f g:Nat->ai}{s1 s2:ag}
theorem eW.ak{W:Nat->Prop}(h:eW w b n f g s1 s2)(hc:ad W w w')(a:∀k,ga b s1 s2 k->¬W k):eW w' b n f g s1 s2:=
 ⟨h.bc.ak hc (a b (.inl rfl)),h.now.ak hc λk c=>a k (.inr (.inl c)),h.sure.ak hc λk c=>a k (.inr (.inr c)),h.d1,h.d2,h.dN,h.bF,h.pf,h.dV⟩
theorem eW.ext(h:eW w b n f g s1 s2)(hc:Ext w w'):eW w' b n f g s1 s2:=h.ak hc λ_ _ h=>h
theorem eW.lt(h:eW w b n f g s1 s2):∀k,ga b s1 s2 k->k<w.heap.size:=by
 rintro k (rfl|a|a)
 .exact h.bc.lt
 .exact h.now.lt k a
 .exact h.sure.lt k a
theorem eW.dC(h:eW w b n f g s1 s2):w.cell? b=some (.int .i64 n):=by rw[h.bc.cell];rfl
theorem eW.cd(h:eW w b n f g s1 s2):w.cell? ((Addr.mk b 0 none).add 1)=some (.slice s1.a s1.len s1.cap):=by rw[av,h.bc.cell];rfl
theorem eW.cI(h:eW w b n f g s1 s2):w.cell? ((Addr.mk b 0 none).add 2)=some (.slice s2.a s2.len s2.cap):=by rw[av,h.bc.cell];rfl
theorem Km(h:eW w b n f g s1 s2){k:Nat}(a:k<n):
 az ah 198 #[.pointer (some b),k] w (λv w'=>v=.bool (f k||g k)/\w=w'):=by
 have c:=h.bF;refine Z.H8 _ k w _ ?_;(delta Z.tX aw a_ bn ae;dsimp only);refine⟨_,rfl,s1,h.cd,(p_ h.now (k:=k) J J).use ?_⟩;rintro _ _ ⟨rfl,rfl⟩;refine⟨_,rfl,⟨λhf=>⟨by rw[hf];rfl,rfl⟩,λhf=>⟨_,rfl,s2,h.cI,(p_ h.sure (k:=k) J J).use ?_⟩⟩⟩;rintro _ _ ⟨rfl,rfl⟩;exact⟨_,rfl,by rw[hf];rfl,rfl⟩
theorem AV(h:eW w b n f g s1 s2)(k:Int):
 az ah 202 #[.pointer (some b),k] w (λv w'=>v=.bool (decide (0<=k)&&decide (k<n))/\w=w'):=by
 refine Z.H9 _ k w _ ?_;(delta Z.tY ae aw r1;dsimp only);refine⟨?_⟩;refine⟨λh1=>⟨_,rfl,n,h.dC,?_,rfl⟩,λh1=>⟨?_,rfl⟩⟩
 .have:0<=k:=by simpa using h1
  simp[this]
 .have:¬0<=k:=by simpa using h1
  simp[this]
def firstFree(t:Nat->ai)(n:Nat):al Nat:=(List.range n).find? λi=> !t i
theorem Kn{t:Nat->ai}{n k:Nat}(d:k<n)(ht:t k=false)(b:∀i,i<k->t i=true):firstFree t n=some k:=by
 unfold firstFree;rw[List.find?_eq_some_iff_append];refine⟨by simp[ht],List.range k,(List.range' (k+1) (n-(k+1))),?_,λa c=>?_⟩
 .have aP:=List.range'_append (s:=0) (m:=k) (n:=n-(k+1)+1) (step:=1)
  rw[List.range_eq_range',List.range_eq_range',←List.range'_succ];rw[Nat.one_mul,cg]at aP;rw[aP]
  congr 1
  omega
 .simp[b a (kl.1 c)]
theorem Ko{t:Nat->ai}{n:Nat}(b:∀i,i<n->t i=true):firstFree t n=none:=by
 unfold firstFree;rw[mI];intro a c;simp[b a (kl.1 c)]
theorem EB{t:Nat->ai}{n k:Nat}(h:firstFree t n=some k):k<n/\t k=false/\∀i,i<k->t i=true:=by
 unfold firstFree at h;obtain⟨h1,la,lb,h2,c⟩:=List.find?_eq_some_iff_append.1 h;have d:k<n:=kl.1 (by rw[h2];simp);refine⟨d,by simpa using h1,λi hi=>?_⟩;have hlen:la.length=k:=by
  have a:(List.range n)[la.length]? =some k:=by rw[h2];simp
  rw[List.getElem?_range (by
   have:=congrArg List.length h2;simp at this;omega)]at a
  simpa using a
 have b:(List.range n)[i]? =some i:=List.getElem?_range J;rw[h2,List.getElem?_append_left J]at b;have:=c i (List.mem_of_getElem? b);simpa using this
theorem Kp{t:Nat->ai}{n:Nat}(h:firstFree t n=none):∀i,i<n->t i=true:=by
 unfold firstFree at h;rw[mI]at h;intro i hi;have:=h i (kl.2 hi);simpa using this
def Kq(o:al Nat):O:=
 match o with
 |some k=>.tuple #[.int .i64 (k:Int),(0:Int)]
 |none=>.tuple #[.int .i64 (-1),(2:Int)]
def Kr(o:al Nat)(f:Nat->ai):Nat->ai:=
 match o with
 |some k=>c9 f k true
 |none=>f
theorem EC{f:Nat->ai}{n k:Nat}{x:ai}(h:∀i,n<=i->f i=false)(a:k<n):∀i,n<=i->c9 f k x i=false:=λi hi=>by
 unfold c9
 rw[if_neg J]
 exact h i hi
theorem ED(h:eW w b n f g s1 s2):
 az ah 146 #[.pointer (some b)] w (λv w'=>v=Kq (firstFree (λi=>f i||g i) n)/\eW w' b n (Kr (firstFree (λi=>f i||g i) n) f) g s1 s2/\ad (ga b s1 s2) w w'):=by
 have q:=h.bF;refine Z.HZ _ w _ ?_;(delta Z.tR ae aw r1 cR bn a_ dg an;dsimp only);refine⟨λh1=>by simp at h1,λ_=>⟨_,rfl,n,h.dC,λi w'=>∃k:Nat,i=k/\k<=n/\w=w'/\∀j,j<k->(f j||g j)=true,λi _=>(n-i).toNat,⟨0,rfl,J,rfl,λj l=>J⟩,?_⟩⟩;rintro _ _ ⟨k,rfl,a,rfl,d⟩;refine⟨λaI=>(Km h (k:=k) (by simpa using aI)).use ?_,λm=>?_⟩
 .have c:k<n:=by simpa using aI
  rintro _ _ ⟨rfl,rfl⟩;refine⟨_,rfl,λht=>⟨_,rfl,s1,h.cd,(EA h.now (k:=k) J J).use ?_⟩,λht=>?_⟩
  .rintro _ w' ⟨rfl,o,hc⟩
   have e:(f k||g k)=false:=by simpa using ht
   have p:=Kn (t:=λi=>f i||g i) c e d;rw[p];refine⟨rfl,rfl,⟨h.bc.ak hc λhb=>(h.d1 b hb).1 rfl,o,h.sure.ak hc λk a h1=>(h.d1 k h1).2 a,h.d1,h.d2,h.dN,h.bF,EC h.pf c,h.dV⟩,hc.mono λk _ a=>.inr (.inl a)⟩
  .have e:(f k||g k)=true:=by cases hx:(f k||g k)<;>simp[hx]at ht⊢
   rw[bW J J];refine⟨⟨k+1,J,J,rfl,λj l=>?_⟩,(show((n:Int)-((k:Int)+1)).toNat<((n:Int)-(k:Int)).toNat from J)⟩;rcases eP j k with h1|h1
   .exact d j h1
   .have:j=k:=by omega
    subst this;exact e
 .have c:k=n:=by
   have:¬(k:Int)<n:=by simpa using m
   omega
  subst c;rw[Ko d];exact⟨rfl,h,.refl _ _⟩
def yw(f:Nat->ai)(n:Nat)(k:Int):Int:=if 0<=k/\k<n then (if f k.toNat then 0 else 6) else 1
def oz(f:Nat->ai)(n:Nat)(k:Int):Nat->ai:=if 0<=k/\k<n then c9 f k.toNat false else f
theorem Ks{f:Nat->ai}{k:Nat}{x:ai}(h:f k=x):c9 f k x=f:=by
 funext i;unfold c9;split
 .rename_i hi;rw[hi,h]
 .rfl
theorem EE(h:eW w b n f g s1 s2)(k:Int):
 az ah 148 #[.pointer (some b),k] w (λv w'=>v=.int .i64 (yw f n k)/\eW w' b n (oz f n k) g s1 s2/\ad (ga b s1 s2) w w'):=by
 have i:=h.bF;refine Z.H0 _ k w _ ?_;(delta Z.tS bn ae aw a_ dg;dsimp only);refine(AV h k).use ?_;rintro _ _ ⟨rfl,rfl⟩;refine⟨_,rfl,λh1=>?_,λh1=>?_⟩
 .have:¬(0<=k/\k<n):=by
   rintro⟨h2,d⟩;simp[h2,d]at h1
  exact⟨by rw[yw,if_neg this],by rw[oz,if_neg this];exact h,.refl _ _⟩
 .have a:0<=k/\k<n:=by simpa using h1
  obtain⟨m,rfl⟩:=sZ a.1;have hm:m<n:=by omega
  refine⟨_,rfl,s1,h.cd,(p_ h.now (k:=m) J J).use ?_⟩;rintro _ _ ⟨rfl,rfl⟩;refine⟨_,rfl,λh2=>?_,λh2=>⟨_,rfl,s1,h.cd,(Kl h.now (k:=m) J J).use ?_⟩⟩
  .have hf:f m=false:=by simpa using h2
   refine⟨by rw[yw,if_pos a,dW,hf];rfl,?_,.refl _ _⟩;rw[oz,if_pos a,dW,Ks hf];exact h
  .rintro _ w' ⟨rfl,e,hc⟩
   have hf:f m=true:=by simpa using h2
   refine⟨rfl,by rw[yw,if_pos a,dW,hf];rfl,?_,hc.mono λk _ c=>.inr (.inl c)⟩;rw[oz,if_pos a,dW];exact⟨h.bc.ak hc λhb=>(h.d1 b hb).1 rfl,e,h.sure.ak hc λk c h1=>(h.d1 k h1).2 c,h.d1,h.d2,h.dN,h.bF,EC h.pf hm,h.dV⟩
theorem Kt(h:eW w b n f g s1 s2)(k:Int):
 az ah 271 #[.pointer (some b),k] w (λv w'=>v=.bool (decide (0<=k)&&decide (k<n)&&f k.toNat)/\w=w'):=by
 have c:=h.bF;refine Z.Ii _ k w _ ?_;(delta Z.ud bn ae aw a_;dsimp only);refine(AV h k).use ?_;rintro _ _ ⟨rfl,rfl⟩;refine⟨_,rfl,⟨λh1=>?_,λh1=>⟨by rw[h1];rfl,rfl⟩⟩⟩;have a:0<=k/\k<n:=by simpa using h1
 obtain⟨m,rfl⟩:=sZ a.1;refine⟨_,rfl,s1,h.cd,(p_ h.now (k:=m) J J).use ?_⟩;rintro _ _ ⟨rfl,rfl⟩;exact⟨_,rfl,by rw[h1,dW];rfl,rfl⟩
theorem Ku(h:eW w b n f g s1 s2)(k:Int):
 az ah 346 #[.pointer (some b),k] w (λv w'=>v=.bool (decide (0<=k)&&decide (k<n)&&f k.toNat&& !(g k.toNat))/\w=w'):=by
 have c:=h.bF;refine Z.Ir _ k w _ ?_;(delta Z.uh bn ae aw a_;dsimp only);refine(AV h k).use ?_;rintro _ _ ⟨rfl,rfl⟩;refine⟨_,rfl,⟨λh1=>?_,λh1=>⟨(λh=>by cases h),λ_=>⟨by rw[h1];rfl,rfl⟩⟩⟩⟩;have a:0<=k/\k<n:=by simpa using h1
 obtain⟨m,rfl⟩:=sZ a.1;refine⟨_,rfl,s1,h.cd,(p_ h.now (k:=m) J J).use ?_⟩;rintro _ _ ⟨rfl,rfl⟩;refine⟨_,rfl,λh2=>⟨_,rfl,s2,h.cI,(p_ h.sure (k:=m) J J).use ?_⟩,λh2=>⟨by rw[h1,dW,h2];rfl,rfl⟩⟩;rintro _ _ ⟨rfl,rfl⟩;exact⟨_,rfl,by rw[h1,dW,h2];rfl,rfl⟩
end
theorem Kv:ib ah 199 5 1 1:=⟨by kernel_rfl⟩
theorem yx:ib ah 36 5 1 1:=⟨by kernel_rfl⟩
theorem Kw:ib ah 52 3 1 8:=⟨by kernel_rfl⟩
theorem Kx(n:Nat):gQ ah 5 n=(List.replicate n (.int .u8 0)).toArray:=CE (by kernel_rfl) (by kernel_rfl) n
theorem EF(f:Nat->ai)(m:Nat):∀v∈eU f m,Plain v:=by
 intro v a;obtain⟨i,_,rfl⟩:=dj.1 a;trivial
theorem Ky{w:I}{s:ag}{xs:Y O}(h:Src 1 w s xs)(d:∀v∈xs,Plain v)(i:s.len<=1000000):
 az ah 153 #[s] w (λv w'=>∃b:ag,v=b/\aS 1 5 w' b xs/\Ext w w'/\∀k,aD b k->w.heap.size<=k):=by
 refine okF (Z.wc s) aj.wc func153 ?_;(delta Z.wc ao ae ap aa;dsimp only);refine⟨λc=>?_,λ_=>?_⟩
 .have c:s.a=none:=by simpa using c
  rw[h.nil c];exact⟨⟨none,0,0⟩,rfl,aS.none _ _ _,.refl _ _,λk e=>(fx k e).elim⟩
 .obtain⟨b,w',h1,h2,j,f,g,_⟩:=Kv.clone (c4:=199) h d J
  exact⟨b,w',h1,b,rfl,h2,f,g⟩
theorem EG{w:I}{s:ag}{xs:Y O}(h:Src 1 w s xs)(d:∀v∈xs,Plain v)(i:s.len<=1000000):
 az ah 97 #[s] w (λv w'=>∃b:ag,v=b/\aS 1 5 w' b xs/\Ext w w'/\∀k,aD b k->w.heap.size<=k):=by
 refine okF (Z.pq s) aj.pq func97 ?_;(delta Z.pq ao ae ap aa;dsimp only);refine⟨λc=>?_,λ_=>?_⟩
 .have c:s.a=none:=by simpa using c
  rw[h.nil c];exact⟨⟨none,0,0⟩,rfl,aS.none _ _ _,.refl _ _,λk e=>(fx k e).elim⟩
 .obtain⟨b,w',h1,h2,j,f,g,_⟩:=yx.clone (c4:=36) h d J
  exact⟨b,w',h1,b,rfl,h2,f,g⟩
section
variable {w w':I}{b n:Nat}{f g:Nat->ai}{s1 s2:ag}
theorem yy{T:TypeId}{m:Nat}(h:aS 1 T w s1 (eU f m)):s1.len=m:=by
 have:=h.1;rw[AT]at this;omega
theorem AW{m:Nat}{u:O}(hb:aZ w b #[n,s1,u] 201)(h1:aS 1 5 w s1 (eU f m))(hd:∀k,aD s1 k->k≠b)(hm:m<=1000000):
 az ah 91 #[.pointer (some b)] w (λv w'=>v=.tuple #[]/\∃a:ag,aZ w' b #[n,s1,a] 201/\
  aS 1 5 w' s1 (eU f m)/\aS 1 5 w' a (eU f m)/\ad (λk=>k=b) w w'/\∀k,aD a k->w.heap.size<=k):=by
 refine Z.HU _ w _ ?_;(delta Z.tN ao ae aw a_ bp st;dsimp only);refine⟨λ_=>⟨_,rfl,s1,by rw[av,hb.cell];rfl,(Ky h1.src (EF f m) (by rw[yy h1];exact hm)).use ?_⟩,λh=>by simp at h⟩;rintro _ af ⟨a,rfl,h2,hx,hf⟩;have c:=hb.ext hx;have d:∀k,aD a k->k≠b:=λk g e=>by have:=hf k g;have:=hb.lt;omega
 refine⟨a,rfl,_,rfl,⟨_,by rw[av,c.cell];rfl⟩,c.frozen _ rfl,rfl,a,?_,?_,?_,?_,hf⟩
 .rw[av];exact c.set 2 _
 .exact(h1.ext hx).ak (W:=λk=>k=b) (ad.set (.refl _ _) (λ_=>by rw[av]) _) hd
 .exact h2.ak (W:=λk=>k=b) (ad.set (.refl _ _) (λ_=>by rw[av]) _) d
 .exact(ad.bA hx).set (λ_=>by rw[av]) _
theorem Kz(h:eW w b n f g s1 s2):
 az ah 91 #[.pointer (some b)] w (λv w'=>v=.tuple #[]/\∃c:ag,eW w' b n f f s1 c/\ad (ga b s1 s2) w w'/\∀k,ga b s1 c k->ga b s1 s2 k\/w.heap.size<=k):=by
 have m:=h.bF;refine(AW h.bc h.now (λk a=>(h.d1 k a).1) J).mono ?_;rintro _ w' ⟨rfl,c,h1,h2,i,j,d⟩;refine⟨rfl,c,⟨h1,h2,i,λk a=>⟨(h.d1 k a).1,λl=>?_⟩,λk a e=>?_,h.dN,h.bF,h.pf,h.pf⟩,j.mono λk _ a=>.inl a,λk a=>?_⟩
 .have:=d k l;have:=h.now.lt k a;omega
 .have:=d k a;have:=h.bc.lt;omega
 .rcases a with rfl|a|a
  .exact .inl (.inl rfl)
  .exact .inl (.inr (.inl a))
  .exact .inr (d k a)
def sr(x:Nat):Nat:=(x.testBit 0).toNat+(x.testBit 1).toNat+(x.testBit 2).toNat+(x.testBit 3).toNat+(x.testBit 4).toNat+(x.testBit 5).toNat+(x.testBit 6).toNat+(x.testBit 7).toNat
def eO(t:Nat->ai):Nat->Nat
 |0=>0
 |k+1=>eO t k+(t k).toNat
theorem m9(t:Nat->ai):∀k,eO t k<=k
 |0=>bk _
 |k+1=>by have:=m9 t k;have:=Bool.toNat_le (t k);simp only[eO];omega
theorem KA(t:Nat->ai)(i:Nat):eO t (8*(i+1))=eO t (8*i)+sr (byteOf t i):=by
 have h:∀j,j<8->(byteOf t i).testBit j=t (8*i+j):=λj a=>oy t i j a;unfold sr;rw[h 0 J,h 1 J,h 2 J,h 3 J,h 4 J,h 5 J,h 6 J,h 7 J];show eO t (8*i+7+1)=_;simp only[eO,kV];omega
theorem EH(t:Nat->ai)(n:Nat)(h:∀i,n<=i->t i=false):∀k,eO t (n+k)=eO t n
 |0=>rfl
 |k+1=>by
  have:=EH t n h k
  show eO t (n+k)+(t (n+k)).toNat=_
  rw[this,h (n+k) J]
  rfl
theorem KB:∀x:Nat,x<256->(zk (ByteArray.mk #[0,1,1,2,1,2,2,3,1,2,2,3,2,3,3,4,1,2,2,3,2,3,3,4,2,3,3,4,3,4,4,5,1,2,2,3,2,3,3,4,2,3,3,4,3,4,4,5,2,3,3,4,3,4,4,5,3,4,4,5,4,5,5,6,1,2,2,3,2,3,3,4,2,3,3,4,3,4,4,5,2,3,3,4,3,4,4,5,3,4,4,5,4,5,5,6,2,3,3,4,3,4,4,5,3,4,4,5,4,5,5,6,3,4,4,5,4,5,5,6,4,5,5,6,5,6,6,7,1,2,2,3,2,3,3,4,2,3,3,4,3,4,4,5,2,3,3,4,3,4,4,5,3,4,4,5,4,5,5,6,2,3,3,4,3,4,4,5,3,4,4,5,4,5,5,6,3,4,4,5,4,5,5,6,4,5,5,6,5,6,6,7,2,3,3,4,3,4,4,5,3,4,4,5,4,5,5,6,3,4,4,5,4,5,5,6,4,5,5,6,5,6,6,7,3,4,4,5,4,5,5,6,4,5,5,6,5,6,6,7,4,5,5,6,5,6,6,7,5,6,6,7,6,7,7,8]) x).map (·.toNat)=some (sr x):=by decide+kernel
theorem EI(x:Nat):sr x<=8:=by
 unfold sr;have h:∀b:ai,b.toNat<=1:=Bool.toNat_le;have:=h (x.testBit 0);have:=h (x.testBit 1);have:=h (x.testBit 2);have:=h (x.testBit 3);have:=h (x.testBit 4);have:=h (x.testBit 5);have:=h (x.testBit 6);have:=h (x.testBit 7);omega
theorem KC(w:I)(x:Nat)(hx:x<256):az ah 323 #[.int .u8 x] w (λv w'=>v=.int .i64 (sr x)/\w=w'):=by
 refine okF (Z.wm x) aj.wm func323 ?_;delta Z.wm an;have h:=KB x hx;refine⟨J,?_⟩
 cases hb:zk _ x with
 |none=>rw[hb]at h;cases h
 |some y=>
  rw[hb]at h;simp only[l2,Option.some.injEq]at h;refine⟨y,hb,?_,rfl⟩;rw[h,bW J (by have:=EI x;omega)]
theorem KD(f g:Nat->ai)(i:Nat):byteOf f i|||byteOf g i=byteOf (λk=>f k||g k) i:=
 yu _ _ _ (AS _ (kH _ _) _ (kH _ _)) λj a=>by rw[nz,oy _ _ _ a,oy _ _ _ a]
theorem AX(h:eW w b n f g s1 s2):
 az ah 301 #[.pointer (some b)] w (λv w'=>v=.int .i64 ((n:Int)-eO (λi=>f i||g i) n)/\Ext w w'):=by
 have p:=h.bF;have q:=yy h.now;have s:=yy h.sure;refine Z.Ik _ w _ ?_;(delta Z.ue ao ae aw r1 a_ fT bE fz bj bX mR b8 bz bx an;dsimp only);refine⟨λh1=>by simp at h1,λ_=>⟨_,rfl,n,h.dC,_,rfl,s1,h.cd,λr i w'=>∃k:Nat,i=k/\k<=s1.len/\Ext w w'/\r=(n:Int)-eO (λi=>f i||g i) (8*k),λ_ i _=>((s1.len:Int)-i).toNat,⟨0,rfl,J,.refl _ _,by simp[eO]⟩,?_⟩⟩;rintro _ _ w1 ⟨k,rfl,t,hx,rfl⟩;refine⟨λaI=>?_,λc=>?_⟩
 .have d:k<s1.len:=by simpa using aI
  have h1:=h.ext hx.drew;obtain⟨u,cd,j,x,_,_,_,l,_⟩:=h1.now.cell (p9 f (i:=k) J);obtain⟨y,cI,m,z,_,_,_,o,_⟩:=h1.sure.cell (p9 g (i:=k) J);have a:∀b:Nat,(Addr.mk b 0 none).add (Int.toNat (k:Int)*1)=⟨b,k,none⟩:=λb=>by rw[fR,dW,av,cg]
  refine⟨λ_=>False,_,rfl,by simp,s1,h1.cd,_,j,J,by simp,_,by rw[a];exact l,_,rfl,by simp,s2,h1.cI,_,m,J,by simp,_,by rw[a];exact o,?_⟩;rw[Kh _ _ (kH _ _) (kH _ _),KD];refine(KC _ _ (kH _ _)).use ?_;rintro _ _ ⟨rfl,rfl⟩;have:=EI (byteOf (λi=>f i||g i) k);have:=m9 (λi=>f i||g i) (8*k);refine⟨_,rfl,.refl _ _,?_⟩;rw[bW (n:=(n:Int)-_-_) J J,bW (n:=(k:Int)+1) J J];exact⟨⟨k+1,J,J,hx.drew,by rw[KA];omega⟩,(show((s1.len:Int)-((k:Int)+1)).toNat<((s1.len:Int)-(k:Int)).toNat from J)⟩
 .have d:k=s1.len:=by
   have:¬(k:Int)<s1.len:=by simpa using c
   omega
  refine⟨?_,hx⟩;have e:8*k=n+(8*k-n):=by omega
  rw[e,EH _ _ (λi hi=>by simp[h.pf i hi,h.dV i hi])]
def kd(f:Nat->ai):Nat->Y Int
 |0=> []
 |k+1=>kd f k++(if f k then [(k:Int)] else [])
def m_(f:Nat->ai)(k:Nat):Y O:=(kd f k).map (.int .i64)
theorem EJ(f:Nat->ai):∀k,(kd f k).length<=k
 |0=>bk _
 |k+1=>by have:=EJ f k;simp only[kd,ej];split<;>simp<;>omega
theorem KE(h:eW w b n f g s1 s2):
 az ah 173 #[.pointer (some b)] w (λv w'=>∃s:ag,v=s/\aS 1 3 w' s (m_ f n)/\Ext w w'/\∀k,aD s k->w.heap.size<=k):=by
 have A:=h.bF;refine Z.H4 _ w _ ?_;(delta Z.tU ao ae aw r1 kx a_ bn ap aa an;dsimp only);refine⟨λh1=>by simp at h1,λ_=>⟨_,rfl,n,h.dC,λs i w'=>∃k:Nat,i=k/\k<=n/\Ext w w'/\aS 1 3 w' s (m_ f k)/\∀k,aD s k->w.heap.size<=k,λ_ i _=>((n:Int)-i).toNat,
  ⟨0,rfl,J,.refl _ _,aS.none _ _ _,λk l=>(fx k l).elim⟩,?_⟩⟩
 rintro s _ w1 ⟨k,rfl,l,hx,c,d⟩;refine⟨λaI=>?_,λp=>?_⟩
 .have m:k<n:=by simpa using aI
  have h1:=h.ext hx;refine bK (λa w'=>Ext w w'/\aS 1 3 w' a (m_ f (k+1))/\∀k,aD a k->w.heap.size<=k) (λq o=>⟨_,rfl,s1,h1.cd,(p_ h1.now (k:=k) J J).use ?_⟩) ?_
  .rintro _ _ ⟨rfl,rfl⟩
   refine⟨_,rfl,λhf=>?_,λhf=>?_⟩
   .have hlen:s.len<=k:=by
     have:=c.1;have:=EJ f k;simp[m_]at*;omega
    obtain⟨a,w',h1,h2,B,r,t⟩:=Kw.push (c4:=52) (xs:=[k]) rfl c (by simp[Plain]) J;refine⟨a,w',h1,o _ _ ⟨?_,?_,?_⟩⟩
    .exact((ad.bA hx).trans r).mono λk l u=>by have:=d k u;omega
    .simpa[m_,kd,hf] using h2
    .intro j e
     rcases t j e with e|e
     .exact d j e
     .have:=hx.size;omega
   .exact o _ _ ⟨hx,by simpa[m_,kd,hf] using c,d⟩
  .rintro a w' ⟨x,y,z⟩
   rw[bW J J];exact⟨⟨k+1,J,J,x,y,z⟩,(show((n:Int)-((k:Int)+1)).toNat<((n:Int)-(k:Int)).toNat from J)⟩
 .have m:k=n:=by
   have:¬(k:Int)<n:=by simpa using p
   omega
  subst m;exact⟨s,rfl,c,hx,d⟩
theorem EK(h:eW w b n f g s1 s2):
 az ah 41 #[.pointer (some b)] w (λv w'=>∃s:ag,v=s/\aS 1 5 w' s (eU f ((n+7)/8))/\Ext w w'/\∀k,aD s k->w.heap.size<=k):=by
 have a:=h.bF;refine Z.HN _ w _ ?_;(delta Z.tI ae aw a_ bp;dsimp only);refine⟨λh1=>by simp at h1,λ_=>⟨_,rfl,s1,h.cd,(EG h.now.src (EF f _) (by rw[yy h.now];omega)).use ?_⟩⟩;rintro _ af ⟨s,rfl,h2,hx,hf⟩;exact⟨s,rfl,s,rfl,h2,hx,hf⟩
end
theorem EL(w:I)(n:Int):az ah 88 #[n] w (λv w'=>v=.bool (decide (1<=n/\n<=1600))/\w=w'):=by
 refine okF (Z.wT n) aj.wT func88 ?_;unfold Z.wT;refine⟨?_,rfl⟩;simp[Bool.decide_and]
theorem EM(w:I)(n:Nat)(a:n<=1600):az ah 89 #[n] w (λv w'=>v=.int .i64 (((n+7)/8:Nat):Int)/\w=w'):=by
 refine okF (Z.wU n) aj.wU func89 ?_;delta Z.wU an;refine⟨by decide,?_,rfl⟩;rw[bW (n:=(n:Int)+8) J J,bW (n:=(n:Int)+8-1) J J,show(n:Int)+8-1=((n+7:Nat):Int) from J,Ey,bW J J]
theorem KF(m:Nat):eU (λi=>decide (i<0)) m=List.replicate m (.int .u8 0):=by
 apply oZ
 .simp[eU]
 .intro i h1 h2
  simp[eU,byteOf,lT]
theorem KG(j:Nat):c9 (λi=>decide (i<j)) j true=λi=>decide (i<j+1):=by
 funext i;unfold c9;split
 .rename_i h;simp[h]
 .rename_i h;simp;omega
theorem q6(w:I)(n first:Int):
 az ah 38 #[.int .i64 n,.int .i64 first] w (λv w'=>(¬(1<=n/\n<=1600/\0<=first/\first<=n)/\v=.tuple #[.pointer none,.int .i64 1]/\w=w')\/
  (1<=n/\n<=1600/\0<=first/\first<=n/\∃b s1 s2,v=.tuple #[.pointer (some ⟨b,0,none⟩),.int .i64 0]/\eW w' b n.toNat (λi=>decide (i<first.toNat)) (λi=>decide (i<first.toNat)) s1 s2/\Ext w w'/\∀k,ga b s1 s2 k->w.heap.size<=k)):=by
 refine okF (Z.q6 n first) aj.q6 func38 ?_;(delta Z.q6 ao bn ae bx iR aa cR xs a_ dg an;dsimp only);refine(EL w n).use ?_;rintro _ _ ⟨rfl,rfl⟩;refine⟨_,rfl,λh=>.inl ⟨λhc=>?_,rfl,rfl⟩,λh=>?_⟩
 .simp at h;omega
 simp at h;obtain⟨⟨⟨D,E⟩,F⟩,G⟩:=h;obtain⟨n,rfl⟩:=sZ (by omega:0<=n);obtain⟨first,rfl⟩:=sZ (by omega:0<=first);refine(EM w n J).use ?_;rintro _ _ ⟨rfl,rfl⟩;refine⟨_,rfl,J,?_⟩;simp only[dW];rw[Kx];obtain⟨m,hm⟩:∃m,m=(n+7)/8:=⟨_,rfl⟩;rw[←hm];have g:=aS.new (sz:=1) (T:=5) w (List.replicate m (.int .u8 0)) m (by simp) (by show m<=2^63-1;omega);rw[←KF]at g⊢;have au:Ext w (w.alloc (.cells (eU (λi=>decide (i<0)) m).toArray 5)):=ad.alloc (.refl _ _) _;generalize r:w.alloc (.cells (eU (λi=>decide (i<0)) m).toArray 5)=w1 at*;have H:w1.heap.size=w.heap.size+1:=by rw[←r];simp
 have s:=aZ.new w1 #[.int .i64 (n:Int),.slice (some ⟨w.heap.size,0,none⟩) m m,.slice none 0 0] 201;have t:=ad.alloc au (.cells #[.int .i64 (n:Int),.slice (some ⟨w.heap.size,0,none⟩) m m,.slice none 0 0] 201);have u:=g.ext (ad.alloc (.refl _ w1) (.cells #[.int .i64 (n:Int),.slice (some ⟨w.heap.size,0,none⟩) m m,.slice none 0 0] 201));refine⟨λi w'=>∃j:Nat,i=j/\j<=first/\Ext w w'/\aZ w' w1.heap.size #[.int .i64 (n:Int),.slice (some ⟨w.heap.size,0,none⟩) m m,.slice none 0 0] 201/\
  aS 1 5 w' ⟨some ⟨w.heap.size,0,none⟩,m,m⟩ (eU (λi=>decide (i<j)) m),λi _=>((first:Int)-i).toNat,⟨0,rfl,J,t,s,u⟩,?_⟩
 rintro _ af ⟨j,rfl,K,hx,d,l⟩;refine⟨λaI=>?_,λx=>?_⟩
 .have o:j<first:=by simpa using aI
  refine⟨_,rfl,⟨some ⟨w.heap.size,0,none⟩,m,m⟩,by rw[av,d.cell];rfl,(EA l (k:=j) J J).use ?_⟩;rintro _ y ⟨rfl,p,hc⟩;rw[KG]at p;rw[bW J J];refine⟨rfl,⟨j+1,J,J,?_,d.ak hc ?_,p⟩,(show((first:Int)-((j:Int)+1)).toNat<((first:Int)-(j:Int)).toNat from J)⟩
  .exact((ad.bA hx).trans hc).mono λk a c=>by rw[k_]at c;simp at c;omega
  .intro c
   rw[k_]at c;simp at c;omega
 .have o:j=first:=by
   have:¬(j:Int)<first:=by simpa using x
   omega
  subst o;have q:∀i,n<=i->decide (i<j)=false:=λi hi=>by simp;omega
  refine(AW d l (λk a e=>?_) J).use ?_
  .rw[k_]at a
   simp at a;omega
  rintro _ y ⟨rfl,z,h1,h2,A,B,f⟩;have L:=d.lt;refine⟨rfl,.inr ⟨J,J,J,J,w1.heap.size,⟨some ⟨w.heap.size,0,none⟩,m,m⟩,z,rfl,⟨h1,?_,?_,λk a=>⟨λe=>?_,λC=>?_⟩,λk a e=>?_,J,J,q,q⟩,?_,?_⟩⟩
  .simp only[←hm];exact h2
  .simp only[←hm];exact A
  .rw[k_]at a
   simp at a;omega
  .rw[k_]at a
   simp at a;have:=f k C;omega
  .have:=f k a
   omega
  .exact((ad.bA hx).trans B).mono λk a e=>by omega
  .rintro k (rfl|a|a)
   .omega
   .rw[k_]at a
    simp at a;omega
   .have:=f k a
    have:=hx.size;omega
def bitsOf(ns:Y Int)(i:Nat):ai:=((ns.getD (i/8) 0).toNat).testBit (i%8)
theorem EN(ns:Y Int)(i:Nat)(h:8*ns.length<=i):bitsOf ns i=false:=by
 unfold bitsOf;have:ns.length<=i/8:=by omega
 simp[List.getD,lB this]
theorem KH(ns:Y Int)(h:∀n∈ns,0<=n/\n<=255):ns.map (Value.int .u8)=eU (bitsOf ns) ns.length:=by
 apply oZ
 .simp[eU]
 .intro i h1 h2
  have hi:i<ns.length:=by simpa using h1
  simp only[eU,List.getElem_map,List.getElem_range]
  congr 1
  obtain⟨iV,aJ⟩:=h ns[i] (cO hi);have:=yu (bitsOf ns) i ns[i].toNat J (λj a=>by
   unfold bitsOf;have aP:(8*i+j)/8=i:=by omega
   have aU:(8*i+j)%8=j:=by omega
   rw[aP,aU];simp[List.getD,hi])
  rw[←this];omega
theorem KI:∀x:Nat,x<256->∀j:Nat,j<8->decide (Int.fdiv (x:Int) (2^(min (Int.toNat (j:Int)) 8))>0)=(List.range 8).any (λk=>decide (j<=k)&&x.testBit k):=by decide+kernel
section
variable {w w':I}{b n:Nat}{f g:Nat->ai}{s1 s2:ag}
def qa(ns:Y Int)(n:Nat):Prop:=ns.length=(n+7)/8/\∀i,n<=i->bitsOf ns i=false
theorem KJ{ns:Y Int}{n:Nat}(g:ns.length=(n+7)/8)(j:0<n%8){x:Nat}(hx:x<256)(a:ns[ns.length-1]? =some (x:Int)):
 decide (Int.fdiv (x:Int) (2^(min (Int.toNat ((n%8:Nat):Int)) 8))>0)=false↔∀i,n<=i->bitsOf ns i=false:=by
 rw[KI x hx _ (gq _ J)];have f:ns.length-1=n/8:=by omega
 rw[f]at a;rw[oU];constructor
 .intro h i hi
  rcases eP i (8*ns.length) with c|c
  .have e:i/8=n/8:=by omega
   unfold bitsOf;rw[e];simp only[List.getD,a,sQ,dW];have:=h (i%8) (kl.2 (gq _ J));have b:n%8<=i%8:=by omega
   simpa[b] using this
  .exact EN ns i c
 .intro h k d
  have d:=kl.1 d;by_cases b:n%8<=k
  .have:=h (8*(n/8)+k) J
   unfold bitsOf at this;have aP:(8*(n/8)+k)/8=n/8:=by omega
   have aU:(8*(n/8)+k)%8=k:=by omega
   rw[aP,aU]at this;simp only[List.getD,a,sQ,dW]at this;simp[this]
  .simp[b]
theorem rv{s:ag}{ns:Y Int}(hs:Src 1 w s (ns.map (.int .u8)))(m:∀n∈ns,(0:Int)<=n/\n<=255)(N:ns.length<=1000000)(n:Int):
 az ah 170 #[.slice s.a s.len s.cap,.int .i64 n] w (λv w'=>Ext w w'/\((¬(1<=n/\n<=1600)/\v=.tuple #[.pointer none,.int .i64 1])\/
  (1<=n/\n<=1600/\¬qa ns n.toNat/\v=.tuple #[.pointer none,.int .i64 4])\/
  (1<=n/\n<=1600/\qa ns n.toNat/\∃b s1 s2,v=.tuple #[.pointer (some ⟨b,0,none⟩),.int .i64 0]/\eW w' b n.toNat (bitsOf ns) (bitsOf ns) s1 s2/\∀k,ga b s1 s2 k->w.heap.size<=k))):=by
 have hlen:s.len=ns.length:=by have:=hs.len;simp at this;omega
 refine okF (Z.rv s n) aj.rv func170 ?_;(delta Z.rv ao bn ae bx an b8 bp dg aa;dsimp only);refine(EL w n).use ?_;rintro _ _ ⟨rfl,rfl⟩;refine⟨_,rfl,λh=>⟨.refl _ _,.inl ⟨by simp at h;omega,rfl⟩⟩,λh=>?_⟩;have h:1<=n/\n<=1600:=by simpa using h
 obtain⟨n,rfl⟩:=sZ (by omega:0<=n);simp only[dW];refine(EM w n J).use ?_;rintro _ _ ⟨rfl,rfl⟩;refine⟨_,rfl,bK (λc w'=>(c=true↔¬qa ns n)/\w=w') (λq u=>⟨λf=>u _ _ ⟨?_,rfl⟩,λg=>⟨by decide,?_⟩⟩) ?_⟩
 .have f:¬ns.length=(n+7)/8:=by
   intro h;rw[hlen,h]at f;simp at f
  exact⟨λ_ hg=>f hg.1,λ_=>rfl⟩
 .have g:ns.length=(n+7)/8:=by
   simp only[bne_eq_false_iff_eq]at g;omega
  refine bK (λc w'=>(c=true↔¬qa ns n)/\w=w') (λO y=>⟨λj=>?_,λj=>y _ _ ⟨?_,rfl⟩⟩) ?_
  .rw[ux]at j⊢
   have z:0<n%8:=by
    have:((n%8:Nat):Int)>0:=by simpa using j
    omega
   have o:ns.length-1<ns.length:=by omega
   obtain⟨x,E⟩:∃x:Nat,ns[ns.length-1]=(x:Int):=⟨ns[ns.length-1].toNat,by have:=m _ (cO o);omega⟩;have F:x<256:=by have:=m _ (cO o);omega
   have B:ns[ns.length-1]? =some (x:Int):=by rw[fQ o,E]
   obtain⟨A,au,hb,hc⟩:=hs.at (i:=ns.length-1) (v:=.int .u8 x) (by rw[nE,B];rfl);rw[hlen,bW J J,show(((ns.length:Nat):Int)-1)=((ns.length-1:Nat):Int) from J];rw[hlen]at hb;refine⟨A,au,hb,x,hc,by decide,J,y _ _ ⟨?_,rfl⟩⟩;have C:=KJ g z F B;constructor
   .intro ht hg
    have:=C.2 hg.2;rw[ht]at this;cases this
   .intro p
    cases hd:decide (Int.fdiv (x:Int) (2^(min (Int.toNat ((n%8:Nat):Int)) 8))>0) with
    |true=>rfl
    |false=>exact(p ⟨g,C.1 hd⟩).elim
  .rw[ux]at j
   have z:n%8=0:=by
    have:¬((n%8:Nat):Int)>0:=by simpa using j
    omega
   constructor
   .intro h;cases h
   .intro p
    exact(p ⟨g,λi hi=>EN ns i J⟩).elim
  .rintro c _ ⟨hc,rfl⟩
   exact u _ _ ⟨hc,rfl⟩
 .rintro c _ ⟨hc,rfl⟩
  refine⟨λht=>⟨.refl _ _,.inr (.inl ⟨h.1,h.2,hc.1 ht,trivial⟩)⟩,λhf=>?_⟩;have hg:qa ns n:=by
   rcases Classical.em (qa ns n) with h|h
   .exact h
   .rw[hc.2 h]at hf;cases hf
  refine(EG hs (Hn _ _) J).use ?_;rintro _ af ⟨t,rfl,l,hx,G⟩;rw[KH ns m,hg.1]at l;have H:=aZ.new af #[.int .i64 (n:Int),.slice t.a t.len t.cap,.slice none 0 0] 201;have D:Ext af (af.alloc (.cells #[.int .i64 (n:Int),.slice t.a t.len t.cap,.slice none 0 0] 201)):=ad.alloc (.refl _ _) _;have f:∀k,aD t k->k≠af.heap.size:=λk d e=>by have:=l.lt k d;omega
  refine⟨t,rfl,(AW H (l.ext D) f J).use ?_⟩;rintro _ aA ⟨rfl,I,h1,h2,K,L,r⟩;have P:=hx.size;refine⟨rfl,?_,.inr (.inr ⟨h.1,h.2,hg,af.heap.size,t,I,rfl,⟨h1,h2,K,λk d=>⟨f k d,λM=>?_⟩,λk d e=>?_,J,J,hg.2,hg.2⟩,?_⟩)⟩
  .exact((ad.bA (hx.trans D)).trans L).mono λk d e=>by omega
  .have:=r k M
   have:=l.lt k d;simp at*;omega
  .have:=r k d
   simp at this;omega
  .rintro k (rfl|d|d)
   .omega
   .exact G k d
   .have:=r k d
    simp at this;omega
end
structure Fr where
 full:ai
 gz:ai
 used:ai
 no:Int
 pins:Int
 b:ag
 l:cL
def Fr.c(f:Fr):Y O:=[f.full,f.gz,f.used,f.no,f.pins,f.b]
def dE:Fr:=⟨false,false,false,0,0,⟨none,0,0⟩,[]⟩
structure cj where
 c:Nat
 aN:Nat
 aq:Y Fr
 hand:Nat
 D:ba
def c3(C:cj)(q:Nat):Prop:=q=C.c\/q=C.aN\/bI C.D q
structure fe(w:I)(C:cj):Prop where
 v:Var w C.c [.pointer (some C.D.d),.slice (some C.aN) C.aq.length C.aq.length,C.hand] 300
 f:aZ w C.aN (a7 Fr.c C.aq).toArray 343
 dev:cv w C.D
 bH:8<=C.aq.length
 bL:C.aq.length<=64
 hd:C.hand<C.aq.length
 a1:C.c≠C.aN/\¬bI C.D C.c/\¬bI C.D C.aN
structure EO(X:Nat->Prop)(w:I)(C:cj)(f:Fr)(no:Nat):Prop where
 num:f.no=no
 lt:no<C.D.n
 Ou:cE (λq=>¬c3 C q/\¬X q) w f.b f.l
 len:f.l.length=256
 clean:f.gz=false->f.l=C.D.now no
 b6:C.D.b6 no=true->f.gz=false
 two:2<=no
structure gM(X:Nat->Prop)(w:I)(C:cj):Prop where
 pins:∀f∈C.aq,f.pins=0
 ok:∀f∈C.aq,f.full=true->∃no:Nat,EO X w C f no
 un:∀ (i j:Nat) (hi:i<C.aq.length) (a:j<C.aq.length),(C.aq[i]).full=true->(C.aq[j]).full=true->(C.aq[i]).no=(C.aq[j]).no->i=j
 fp:∀q,X q->q<w.heap.size/\¬c3 C q
 oA:∀j,C.D.b6 j=true->C.D.eu j=C.D.eN j
def lk(aL D:ba):Prop:=aL.n=D.n/\(∀j,aL.b6 j=true->D.b6 j=true)/\∀j,aL.b6 j=true->aL.eu j=aL.eN j
theorem gM.uy{X:Nat->Prop}{w:I}{C:cj}(h:gM X w C):lk C.D C.D:=⟨rfl,λ_ h=>h,h.oA⟩
theorem gM.cF{X:Nat->Prop}{w:I}{C:cj}(h:gM X w C)(k:Nat):lk (C.D.cF k) C.D:=⟨rfl,λ_ h=>h,h.oA⟩
structure dQ(X:Nat->Prop)(w:I)(C:cj):Prop where
 raw:fe w C
 inv:gM X w C
def cj.view(C:cj)(no:Nat):cL:=match C.aq.find? λf=>f.full&&f.no==(no:Int) with
 |some f=>f.l
 |none=>C.D.now no
theorem Fr.aY(f:Fr):f.c.length=6:=rfl
theorem yz(l:Y Fr):∀x∈l,(Fr.c x).length=6:=λx _=>rfl
section
variable {w w':I}{C:cj}{X:Nat->Prop}
theorem fe.lt(h:fe w C){q:Nat}(a:c3 C q):q<w.heap.size:=by
 rcases a with rfl|rfl|a
 .exact h.v.lt
 .exact aZ.lt h.f
 .exact h.dev.lt a
theorem fe.ak{W:Nat->Prop}(h:fe w C)(hc:ad W w w')(a:∀q,c3 C q->¬W q):fe w' C:=
 ⟨h.v.ak hc (a _ (.inl rfl)),aZ.ak h.f hc (a _ (.inr (.inl rfl))),h.dev.ak hc λq b=>a q (.inr (.inr b)),h.bH,h.bL,h.hd,h.a1⟩
theorem fe.ext(h:fe w C)(hc:Ext w w'):fe w' C:=h.ak hc λ_ _ h=>h
theorem gM.ak{W:Nat->Prop}(h:gM X w C)(hc:ad W w w')(b:∀q,W q->c3 C q\/X q):gM X w' C:=
 ⟨h.pins,λf hf c=>by
  obtain⟨no,aJ,aW,d,e,g,i,j⟩:=h.ok f hf c
  exact⟨no,aJ,aW,cE.ak d hc λq a k=>by
   rcases b q k with h1|h1
   .exact a.1 h1
   .exact a.2 h1,e,g,i,j⟩,h.un,λq a=>⟨fX (h.fp q a).1 hc.size,(h.fp q a).2⟩,h.oA⟩
theorem dQ.ak{W:Nat->Prop}(h:dQ X w C)(hc:ad W w w')(b:∀q,W q->X q):dQ X w' C:=
 ⟨h.raw.ak hc λq c a=>(h.inv.fp q (b q a)).2 c,h.inv.ak hc λq a=>.inr (b q a)⟩
theorem dQ.ext(h:dQ X w C)(hc:Ext w w'):dQ X w' C:=h.ak hc λ_ h=>h.elim
theorem uz(aN i:Nat):Addr.add aN (Int.toNat (i:Int)*6)=⟨aN,i*6,none⟩:=by rw[dW,av,cg]
theorem fe.cells(h:fe w C):w.cell? C.c=some (.pointer (some C.D.d))/\w.cell? (Addr.add C.c 1)=some (.slice (some C.aN) C.aq.length C.aq.length)/\w.cell? (Addr.add C.c 2)=some (.int .i64 C.hand):=by
 rw[av,av];exact⟨h.v.cell,h.v.cell,h.v.cell⟩
theorem kI{w:I}{aN:Nat}{fs:Y Fr}{T:TypeId}(h:aZ w aN (a7 Fr.c fs).toArray T){i j:Nat}(hi:i<fs.length)(a:j<6):w.cell? ⟨aN,i*6+j,none⟩=((fs[i]).c)[j]? :=by
 rw[aZ.cell h];simp only[sP];exact Ee (yz fs) hi a
theorem oB{w:I}{aN:Nat}{fs:Y Fr}{T:TypeId}(h:aZ w aN (a7 Fr.c fs).toArray T){i j:Nat}(hi:i<fs.length)(a:j<6){v:O}(f':Fr)(hf:f'.c=(fs[i]).c.set j v):
 (∃u:O,w.cell? ⟨aN,i*6+j,none⟩=some u)/\w.frozen? ⟨aN,i*6+j,none⟩=false/\aZ (w.setCell ⟨aN,i*6+j,none⟩ v) aN (a7 Fr.c (fs.set i f')).toArray T/\ad (λq=>q=aN) w (w.setCell ⟨aN,i*6+j,none⟩ v):=by
 refine⟨⟨((fs[i]).c)[j]'(by rw[Fr.aY];exact a),by rw[kI h hi a,fQ (by rw[Fr.aY];exact a)]⟩,aZ.frozen h _ rfl,?_,dD _ _ _ _⟩;have:=er (vs:=a7 Fr.c fs) h (i:=i*6+j) v;rw[JQ (yz fs) hi a hf]at this;exact this
theorem AY{w:I}{aN:Nat}{fs:Y Fr}{T:TypeId}(h:aZ w aN (a7 Fr.c fs).toArray T){i:Nat}(hi:i<fs.length)(f':Fr):
 bN w ⟨aN,i*6,none⟩ f'.c/\aZ (setCells w ⟨aN,i*6,none⟩ 0 f'.c) aN (a7 Fr.c (fs.set i f')).toArray T/\ad (λq=>q=aN) w (setCells w ⟨aN,i*6,none⟩ 0 f'.c):=by
 have d:=mn (c:=Fr.c) fs (yz fs);have b:i*6+f'.c.length<=(a7 Fr.c fs).toArray.size:=by
  rw[va,d,Fr.aY];omega
 refine⟨aZ.cn h _ _ b ?_,?_,ad.iG (.refl _ _) _ 0⟩
 .intro v a
  unfold Fr.c at a;simp only[cW,fh,ft]at a;rcases a with rfl|rfl|rfl|rfl|rfl|rfl<;>trivial
 .have h0:=aZ.je (o:=i*6) h f'.c
  have e:f_ (a7 Fr.c fs).toArray (i*6) f'.c=(a7 Fr.c (fs.set i f')).toArray:=by
   have h1:=jC f'.c (a7 Fr.c fs).toArray (i*6) b;have h2:=Ef (yz fs) hi f';have f:f'.c.length=6:=rfl;rw[f]at h1;have g:(f_ (a7 Fr.c fs).toArray (i*6) f'.c).toList=a7 Fr.c (fs.set i f'):=h1.trans h2;rw[←g]
  rw[e]at h0;exact h0
theorem EP(h:fe w C)(no:Int):az ah 205 #[.pointer (some C.c),no] w (λv w'=>v=.bool (decide (0<=no/\no<C.D.n))/\w=w'):=by
 refine okF (Z.xp (some C.c) no) aj.xp func205 ?_;(delta Z.xp ae aw bx;dsimp only);refine bK (λb w'=>b=decide (0<=no/\no<C.D.n)/\w=w') (λq a=>⟨λhb=>⟨_,rfl,_,h.cells.1,(sn h.dev).use ?_⟩,λhb=>a _ _ ⟨?_,rfl⟩⟩) ?_
 .rintro _ _ ⟨rfl,rfl⟩
  have hb:0<=no:=by simpa using hb
  refine⟨_,rfl,a _ _ ⟨?_,rfl⟩⟩;rw[eX,cT,cT];exact⟨λh=>⟨hb,h⟩,λh=>h.2⟩
 .have hb:¬0<=no:=by simpa using hb
  rw[gr (λh=>hb h.1)]
 .rintro _ _ ⟨rfl,rfl⟩
  exact⟨rfl,rfl⟩
def AtR(C:cj)(no:Int)(v:O):Prop:=
 (∃ (i:Nat) (hi:i<C.aq.length),v=.pointer (some ⟨C.aN,i*6,none⟩)/\(C.aq[i]).full=true/\(C.aq[i]).no=no)\/
 (v=.pointer none/\∀f∈C.aq,f.full=true->f.no≠no)
theorem yA(h:fe w C)(no:Int):az ah 206 #[.pointer (some C.c),no] w (λv w'=>AtR C no v/\w=w'):=by
 obtain⟨dC,cd,cI⟩:=h.cells;have a:=h.bL;refine okF (Z.xq (some C.c) no) aj.xq func206 ?_;(delta Z.xq ae aw a_ cR bj bX bz bB r1 an;dsimp only);refine⟨λh=>(by cases h),λ_=>⟨_,rfl,⟨some C.aN,C.aq.length,C.aq.length⟩,cd,λi w'=>∃j:Nat,i=j/\j<=C.aq.length/\w=w'/\∀ (k:Nat) (a:k<C.aq.length),k<j->(C.aq[k]).full=true->(C.aq[k]).no≠no,λi _=>((C.aq.length:Int)-i).toNat,⟨0,rfl,dd _,rfl,λk _ h=>J⟩,?_⟩⟩;rintro _ _ ⟨j,rfl,r,rfl,e⟩;refine⟨λaI=>?_,λd=>?_⟩
 .have aI:(j:Int)<(C.aq.length:Int):=b3 aI
  have aI:j<C.aq.length:=by omega
  refine⟨_,rfl,⟨some C.aN,C.aq.length,C.aq.length⟩,cd,_,rfl,⟨J,by show(j:Int)<(C.aq.length:Int);omega⟩,_,rfl,?_⟩;rw[uz];have f0:=kI h.f aI (j:=0) (by decide);have f3:=kI h.f aI (j:=3) (by decide);refine⟨(C.aq[j]).full,f0,bK (λb w'=>w=w'/\(b=true↔((C.aq[j]).full=true/\(C.aq[j]).no=no))) (λq g=>⟨λhb=>⟨_,rfl,(C.aq[j]).no,by rw[av];exact f3,g _ _ ⟨rfl,?_⟩⟩,λhb=>g _ _ ⟨rfl,?_⟩⟩) ?_⟩
  .rw[jw]
   exact⟨λh=>⟨hb,h⟩,λh=>h.2⟩
  .rw[hb]
   exact⟨λh=>(by cases h),λh=>(by cases h.1)⟩
  rintro b w' ⟨rfl,hb⟩;refine⟨λh1=>⟨.inl ⟨j,aI,rfl,(hb.1 h1).1,(hb.1 h1).2⟩,rfl⟩,λh1=>?_⟩;rw[bW (n:=(j:Int)+1) J J];refine⟨⟨j+1,J,J,rfl,λk a h2 l=>?_⟩,?_⟩
  .rcases eP k j with m|m
   .exact e k a m l
   .have:k=j:=by omega
    subst this;intro o;rw[hb.2 ⟨l,o⟩]at h1;cases h1
  .show((C.aq.length:Int)-((j:Int)+1)).toNat<((C.aq.length:Int)-(j:Int)).toNat
   omega
 .have d:j=C.aq.length:=by
   have:¬((j:Int)<(C.aq.length:Int)):=cx d;omega
  subst d;refine⟨.inr ⟨rfl,λf hf p=>?_⟩,rfl⟩;obtain⟨k,a,rfl⟩:=eZ hf;exact e k a a p
theorem KK(h:fe w C):az ah 255 #[.pointer (some C.c)] w (λv w'=>((∃ (i:Nat) (hi:i<C.aq.length),v=.pointer (some ⟨C.aN,i*6,none⟩)/\(C.aq[i]).full=false)\/(v=.pointer none/\∀f∈C.aq,f.full=true))/\w=w'):=by
 obtain⟨dC,cd,cI⟩:=h.cells;have a:=h.bL;refine okF (Z.xH (some C.c)) aj.xH func255 ?_;(delta Z.xH aw a_ cR ae bj bX bB bz an;dsimp only);refine⟨_,rfl,⟨some C.aN,C.aq.length,C.aq.length⟩,cd,λi w'=>∃j:Nat,i=j/\j<=C.aq.length/\w=w'/\∀ (k:Nat) (a:k<C.aq.length),k<j->(C.aq[k]).full=true,λi _=>((C.aq.length:Int)-i).toNat,⟨0,rfl,dd _,rfl,λk _ h=>J⟩,?_⟩;rintro _ _ ⟨j,rfl,g,rfl,d⟩;refine⟨λaI=>?_,λb=>?_⟩
 .have aI:(j:Int)<(C.aq.length:Int):=b3 aI
  have aI:j<C.aq.length:=by omega
  have f0:=kI h.f aI (j:=0) (by decide);refine⟨_,rfl,⟨some C.aN,C.aq.length,C.aq.length⟩,cd,_,rfl,⟨J,by show(j:Int)<(C.aq.length:Int);omega⟩,(C.aq[j]).full,by rw[uz];exact f0,λhb=>⟨_,rfl,⟨some C.aN,C.aq.length,C.aq.length⟩,cd,_,rfl,⟨J,by show(j:Int)<(C.aq.length:Int);omega⟩,.inl ⟨j,aI,by rw[uz],by simpa using hb⟩,rfl⟩,λhb=>?_⟩;rw[bW (n:=(j:Int)+1) J J];refine⟨⟨j+1,J,J,rfl,λk a h2=>?_⟩,?_⟩
  .rcases eP k j with e|e
   .exact d k a e
   .have:k=j:=by omega
    subst this;simpa using hb
  .show((C.aq.length:Int)-((j:Int)+1)).toNat<((C.aq.length:Int)-(j:Int)).toNat
   omega
 .have b:j=C.aq.length:=by
   have:¬((j:Int)<(C.aq.length:Int)):=cx b;omega
  subst b;refine⟨.inr ⟨rfl,λf hf=>?_⟩,rfl⟩;obtain⟨k,a,rfl⟩:=eZ hf;exact d k a a
def iq(fs gs:Y Fr):Prop:=gs.length=fs.length/\∀ (i:Nat) (h1:i<fs.length) (h2:i<gs.length),gs[i]={fs[i] with used:=(gs[i]).used}
theorem iq.refl(fs:Y Fr):iq fs fs:=⟨rfl,λi h1 h2=>rfl⟩
theorem iq.set{fs gs:Y Fr}(h:iq fs gs){i:Nat}(hi:i<gs.length)(u:ai):iq fs (gs.set i {gs[i] with used:=u}):=by
 refine⟨by rw[c1];exact h.1,λj h1 h2=>?_⟩;rw[sT];split
 .rename_i e
  subst e;have:=h.2 i h1 hi;rw[this]
 .exact h.2 j h1 _
theorem KL(h:fe w C)(z:∀f∈C.aq,f.pins=0):az ah 256 #[.pointer (some C.c)] w (λv w'=>∃ (i:Nat) (gs:Y Fr) (hd:Nat),i<C.aq.length/\v=.pointer (some ⟨C.aN,i*6,none⟩)/\iq C.aq gs/\fe w' {C with aq:=gs,hand:=hd}/\ad (λq=>q=C.c\/q=C.aN) w w'):=by
 obtain⟨dC,cd,cI⟩:=h.cells;have N:=h.bH;have O:=h.bL;have A:=h.hd;refine okF (Z.xI (some C.c)) aj.xI func256 ?_;(delta Z.xI aw r1 a_ fT ae an bj bX bz bB st;dsimp only);refine⟨_,rfl,_,cI,_,rfl,⟨some C.aN,C.aq.length,C.aq.length⟩,cd,λat' i w'=>∃ (s:Nat) (gs:Y Fr),i=s/\s<=C.aq.length/\at'=(((C.hand+s)%C.aq.length:Nat):Int)/\iq C.aq gs/\fe w' {C with aq:=gs}/\ad (λq=>q=C.c\/q=C.aN) w w'/\∀ (t:Nat) (hx:(C.hand+t)%C.aq.length<gs.length),t<s->(gs[(C.hand+t)%C.aq.length]).used=false,
  λ_ i _=>(2*(C.aq.length:Int)-i).toNat,⟨0,C.aq,rfl,dd _,by rw[kV,hK A],iq.refl _,h,.refl _ _,λt _ h=>J⟩,?_⟩
 rintro _ _ w1 ⟨s,gs,rfl,hs,rfl,l,b,hc,p⟩;have r:gs.length=C.aq.length:=l.1;obtain⟨i,hi⟩:∃i,i=(C.hand+s)%C.aq.length:=⟨_,rfl⟩;have d:i<gs.length:=by rw[hi,r];exact gq _ J
 rw[←hi];obtain⟨d0,d1,d2⟩:=b.cells;have d1:w1.cell? (Addr.add C.c 1)=some (.slice (some C.aN) gs.length gs.length):=d1;have hf:aZ w1 C.aN (a7 Fr.c gs).toArray 343:=b.f;rw[bW (n:=2*(C.aq.length:Int)) J J];have B:IntKind.wrap .i64 ((i:Int)+1)=((i+1:Nat):Int):=by rw[bW J J];rfl
 have u:Int.tmod ((i+1:Nat):Int) (gs.length:Int)=(((i+1)%gs.length:Nat):Int):=by
  rw[sY J];rfl
 have D:(i+1)%gs.length=(C.hand+(s+1))%C.aq.length:=by
  rw[hi,r,Nat.mod_add_mod];rfl
 refine⟨λaI=>?_,λE=>?_⟩
 .refine bK (λa w'=>a=(((C.hand+(s+1))%C.aq.length:Nat):Int)/\∃g:Y Fr,s+1<=C.aq.length/\iq C.aq g/\fe w' {C with aq:=g}/\ad (λq=>q=C.c\/q=C.aN) w w'/\∀ (t:Nat) (hx:(C.hand+t)%C.aq.length<g.length),t<s+1->(g[(C.hand+t)%C.aq.length]).used=false) (λq k=>⟨_,rfl,⟨some C.aN,gs.length,gs.length⟩,d1,_,rfl,⟨J,by show(i:Int)<(gs.length:Int);omega⟩,_,rfl,⟨some C.aN,gs.length,gs.length⟩,d1,by show(gs.length:Int)≠0;omega,_,rfl,?_⟩) ?_
  .rw[uz,B]
   have f4:=kI hf d (j:=4) (by decide);have f2:=kI hf d (j:=2) (by decide);have F:(gs[i]).pins=0:=by
    have h1:=l.2 i J d;have h2:(gs[i]).pins=(C.aq[i]'J).pins:=by rw[h1]
    rw[h2];exact z _ (cO _)
   refine⟨(gs[i]).pins,by rw[av];exact f4,λhb=>?_,λ_=>⟨_,rfl,(gs[i]).used,by rw[av];exact f2,λhu=>⟨_,rfl,?_⟩,λhu=>⟨_,rfl,?_⟩⟩⟩
   .rw[F]at hb;simp at hb
   .have G:s<C.aq.length:=by
     rcases eP s C.aq.length with h1|h1
     .exact h1
     .have es:s=C.aq.length:=by omega
      have x:(C.hand+0)%C.aq.length=i:=by rw[hi,es,Nat.add_mod_right];rfl
      have h2:=p 0 (by rw[x];exact d) J;have m:(gs[i]).used=false:=by
       have e:gs[(C.hand+0)%C.aq.length]'(by rw[x];exact d)=gs[i]:=by congr 1
       rw[←e];exact h2
      rw[m]at hu;cases hu
    obtain⟨aJ,aW,H,o⟩:=oB hf d (j:=2) (by decide) (v:=false) {gs[i] with used:=false} rfl;rw[av];refine⟨aJ,aW,aQ (k _ _ ⟨by rw[u,D],gs.set i {gs[i] with used:=false},G,l.set d false,?_,hc.trans (o.mono λq _ e=>.inr e),λt hx ht=>?_⟩)⟩
    .have I:=b.v.ak o h.a1.1
     refine⟨?_,H,b.dev.ak o (λq k e=>h.a1.2.2 (e▸k)),?_,?_,?_,h.a1⟩
     .show Var _ _ [_,.slice (some C.aN) (gs.set i _).length (gs.set i _).length,_] _
      rw[c1];exact I
     .show 8<=(gs.set i _).length;rw[c1];omega
     .show(gs.set i _).length<=64;rw[c1];omega
     .show C.hand<(gs.set i _).length;rw[c1];omega
    .rw[sT]
     split
     .rfl
     .rename_i K
      rcases eP t s with h1|h1
      .exact p t _ h1
      .have:t=s:=by omega
       subst this;exact absurd hi K
   .obtain⟨s1,s2⟩:=ef b.v (i:=2) (by simp)
    rw[av,u];refine⟨s1,s2,aQ ⟨i,gs,(i+1)%gs.length,J,rfl,l,?_,hc.trans ((dD _ _ _ _).mono λq _ e=>.inl e)⟩⟩;have y:=dD w1 C.c 2 (.int .i64 (((i+1)%gs.length:Nat):Int));refine⟨er b.v (i:=2) (.int .i64 (((i+1)%gs.length:Nat):Int)),aZ.ak hf y (λe=>h.a1.1 e.symm),b.dev.ak y (λq k e=>h.a1.2.1 (e▸k)),b.bH,b.bL,?_,h.a1⟩;exact gq _ J
  .rintro a w' ⟨rfl,g,h1,h2,m,L,M⟩
   rw[bW (n:=(s:Int)+1) J J];refine⟨⟨s+1,g,J,h1,rfl,h2,m,L,M⟩,?_⟩;show(2*(C.aq.length:Int)-((s:Int)+1)).toNat<(2*(C.aq.length:Int)-(s:Int)).toNat;omega
 .have:=cx E
  omega
end
end Go.Proofs.YtcfodkffcmfcaaaGreat
